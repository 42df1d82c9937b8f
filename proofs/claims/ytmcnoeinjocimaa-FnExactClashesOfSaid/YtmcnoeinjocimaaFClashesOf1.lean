/- Joined texts, each of which was built by itself: Px9 Cl0 Cl1 Cl2. -/
import Derived.Test.YtmcnoeinjocimaaB19
import Derived.Test.YtmcnoeinjocimaaB18
import Derived.Test.YtmcnoeinjocimaaB1
import Derived.Test.YtmcnoeinjocimaaB16
import Derived.Deep.RegionHeld3
set_option linter.unusedVariables false
set_option linter.unusedSimpArgs false
namespace Go.Proofs.Ytmcnoeinjocimaa.L
open Go.RowKit
/-- Values that are in one moment. -/
def ClP (M : List (List Int)) (k : Nat) (v : Int) : Prop := (k : Int) ≠ v ∧ ∃ m ∈ M, (k : Int) ∈ m ∧ v ∈ m
noncomputable def clashL (s : Sa) : List (List Int) := (List.range s.values.toNat).map (fun k => listP (ClP (momS s) k) s.values.toNat)
theorem momC_sets {V : Int} : ∀ {l : List Fl} {nd : List Int}, SetV V nd → (∀ x ∈ l, (setsS x = true → 0 ≤ x.dst ∧ x.dst < V) ∧ ∀ v ∈ usesS x, 0 ≤ v ∧ v < V) → ∀ m ∈ (momC l nd).1, SetV V m
  | [], _, _, _, m, hm => by cases hm
  | x :: t, nd, h, hu, m, hm => by
    have hm : m ∈ (momC t nd).1 ++ [nowL x (momC t nd).2] := hm
    rcases List.mem_append.1 hm with hm | hm
    · exact momC_sets h (fun y hy => hu y (List.mem_cons_of_mem _ hy)) m hm
    · obtain rfl := List.mem_singleton.1 hm
      have hn := momC_set h (fun y hy => (hu y (List.mem_cons_of_mem _ hy)).2)
      unfold nowL
      split
      · rename_i hs
        exact ⟨hn.1.putL _, fun v hv => by rcases mem_putL1.1 hv with rfl | hv; exact (hu x List.mem_cons_self).1 hs; exact hn.2 v hv⟩
      · exact hn
theorem momP_sets {s : Sa} (h : GoodP s) {k : Nat} {p : Pt} (hk : s.parts[k]? = some p) {i o : List Int} (hi : SetV s.values i) (ho : SetV s.values o) : ∀ m ∈ momP p i o, SetV s.values m := by
  intro m hm
  rcases List.mem_cons.1 hm with rfl | hm
  · exact hi.foldl (fun v hv => by have := h.own_def hk (v := v) (List.mem_append.2 (.inl hv)); omega)
  · refine momC_sets ho (fun x hx => ⟨fun hs => by have := (h.steps_in hk hx).1 hs; omega, fun v hv => ?_⟩) m hm
    rw [← h.uses_eq (List.mem_of_getElem? hk) hx] at hv
    exact (h.steps_in hk hx).2 v hv
theorem momS_sets {s : Sa} (h : GoodP s) : ∀ m ∈ momS s, SetV s.values m := by
  intro m hm
  unfold momS momTo at hm
  obtain ⟨q, hq, hm⟩ := List.mem_flatMap.1 hm
  have hq := List.mem_range.1 hq
  rw [List.getElem?_eq_getElem hq] at hm
  exact momP_sets h (List.getElem?_eq_getElem hq) (liveIL_get h q) (liveOL_get h q) m hm
/-- Rows of numbers that are a relation. -/
structure Rep (V : Nat) (C : List (List Int)) (P : Nat → Int → Prop) : Prop where
  ln : C.length = V
  ic : ∀ k, Inc (C.getD k [])
  rg : ∀ k v, v ∈ C.getD k [] → 0 ≤ v ∧ v < V
  iff : ∀ k v, v ∈ C.getD k [] ↔ P k v
theorem Rep.congr {V : Nat} {C : List (List Int)} {P Q : Nat → Int → Prop} (h : Rep V C P) (e : ∀ k v, P k v ↔ Q k v) : Rep V C Q := ⟨h.ln, h.ic, h.rg, fun k v => (h.iff k v).trans (e k v)⟩
theorem Rep.nil (V : Nat) : Rep V (List.replicate V []) (fun _ _ => False) := by
  have hg : ∀ k, (List.replicate V ([] : List Int)).getD k [] = [] := fun k => by
    rw [List.getD_eq_getElem?_getD, List.getElem?_replicate]; split <;> rfl
  exact ⟨by simp, fun k => by rw [hg]; exact Inc.nil, fun k v hv => (by rw [hg] at hv; cases hv), fun k v => by rw [hg]; simp⟩
theorem Rep.put {V : Nat} {C : List (List Int)} {P Q : Nat → Int → Prop} (h : Rep V C P) {a : Nat} {b : Int} (ha : a < V) (hb : 0 ≤ b ∧ b < V) (e : ∀ k v, Q k v ↔ (P k v ∨ (k = a ∧ v = b))) : Rep V (C.set a (putL (C.getD a []) b)) Q := by
  have ha' : a < C.length := by rw [h.ln]; exact ha
  have hg : ∀ k, (C.set a (putL (C.getD a []) b)).getD k [] = if k = a then putL (C.getD a []) b else C.getD k [] := fun k => getD_set2 _ _ _ _ _ ha'
  refine ⟨by rw [List.length_set]; exact h.ln, fun k => ?_, fun k v hv => ?_, fun k v => ?_⟩
  · rw [hg]; split
    · exact (h.ic a).putL b
    · exact h.ic k
  · rw [hg] at hv; split at hv
    · rcases mem_putL1.1 hv with rfl | hv
      · exact hb
      · exact h.rg a v hv
    · exact h.rg k v hv
  · rw [hg, e]
    by_cases hk : k = a
    · subst hk
      rw [if_pos rfl, mem_putL1, h.iff]
      constructor
      · rintro (rfl | h)
        · exact .inr ⟨rfl, rfl⟩
        · exact .inl h
      · rintro (h | ⟨_, rfl⟩)
        · exact .inr h
        · exact .inl rfl
    · rw [if_neg hk, h.iff]
      constructor
      · exact .inl
      · rintro (h | ⟨h, _⟩)
        · exact h
        · exact absurd h hk
theorem Rep.len {V : Nat} {C : List (List Int)} {P : Nat → Int → Prop} (h : Rep V C P) (k : Nat) : (C.getD k []).length ≤ V := by
  have := (h.ic k).length_le (V := (V : Int)) (by omega) (h.rg k); omega
theorem Rep.eq {V : Nat} {C : List (List Int)} {P : Nat → Int → Prop} (h : Rep V C P) : C = (List.range V).map (fun k => listP (P k) V) := by
  refine rows_eq h.ln h.ic h.iff (fun k v hv => ?_)
  exact h.rg k v ((h.iff k v).2 hv)
theorem mem_take1 {m : List Int} {i : Nat} (hi : i < m.length) {v : Int} : v ∈ m.take (i + 1) ↔ v ∈ m.take i ∨ v = m[i] := by
  rw [List.take_succ_eq_append_getElem hi, List.mem_append, List.mem_singleton]
theorem ex_take1 {M : List (List Int)} {k : Nat} (hk : k < M.length) {P : List Int → Prop} : (∃ m ∈ M.take (k + 1), P m) ↔ (∃ m ∈ M.take k, P m) ∨ P M[k] := by
  rw [List.take_succ_eq_append_getElem hk]
  constructor
  · rintro ⟨m, hm, h⟩
    rcases List.mem_append.1 hm with hm | hm
    · exact .inl ⟨m, hm, h⟩
    · rw [List.mem_singleton] at hm; exact .inr (hm ▸ h)
  · rintro (⟨m, hm, h⟩ | h)
    · exact ⟨m, List.mem_append.2 (.inl hm), h⟩
    · exact ⟨_, List.mem_append.2 (.inr (List.mem_singleton.2 rfl)), h⟩
/-- The reference's relation as it grows. -/
def CS1 (M0 : List (List Int)) (m : List Int) (j : Nat) (k : Nat) (v : Int) : Prop := ClP M0 k v ∨ ((k : Int) ≠ v ∧ (k : Int) ∈ m.take j ∧ v ∈ m)
def CS2 (M0 : List (List Int)) (m : List Int) (j : Nat) (u : Int) (i : Nat) (k : Nat) (v : Int) : Prop := CS1 M0 m j k v ∨ ((k : Int) = u ∧ (k : Int) ≠ v ∧ v ∈ m.take i)
theorem CS1_zero {M0 : List (List Int)} {m : List Int} {k : Nat} {v : Int} : CS1 M0 m 0 k v ↔ ClP M0 k v := by simp [CS1]
theorem CS1_all {M : List (List Int)} {q : Nat} (hq : q < M.length) {k : Nat} {v : Int} : CS1 (M.take q) M[q] M[q].length k v ↔ ClP (M.take (q + 1)) k v := by
  unfold CS1 ClP
  rw [ex_take1 hq, List.take_length]
  constructor
  · rintro (⟨h1, h2⟩ | ⟨h1, h2⟩)
    · exact ⟨h1, .inl h2⟩
    · exact ⟨h1, .inr h2⟩
  · rintro ⟨h1, h2 | h2⟩
    · exact .inl ⟨h1, h2⟩
    · exact .inr ⟨h1, h2⟩
theorem CS2_zero {M0 : List (List Int)} {m : List Int} {j : Nat} {u : Int} {k : Nat} {v : Int} : CS2 M0 m j u 0 k v ↔ CS1 M0 m j k v := by simp [CS2]
theorem CS2_all {M0 : List (List Int)} {m : List Int} {j : Nat} (hj : j < m.length) {k : Nat} {v : Int} : CS2 M0 m j m[j] m.length k v ↔ CS1 M0 m (j + 1) k v := by
  unfold CS2 CS1
  rw [List.take_length, mem_take1 hj]
  constructor
  · rintro ((h | ⟨h1, h2, h3⟩) | ⟨h1, h2, h3⟩)
    · exact .inl h
    · exact .inr ⟨h1, .inl h2, h3⟩
    · exact .inr ⟨h2, .inr h1, h3⟩
  · rintro (h | ⟨h1, h2 | h2, h3⟩)
    · exact .inl (.inl h)
    · exact .inl (.inr ⟨h1, h2, h3⟩)
    · exact .inr ⟨h2, h1, h3⟩
theorem CS2_skip {M0 : List (List Int)} {m : List Int} {j : Nat} {u : Int} {i : Nat} (hi : i < m.length) (h : u = m[i] ∨ ∃ a : Nat, (a : Int) = u ∧ CS2 M0 m j u i a m[i]) {k : Nat} {v : Int} : CS2 M0 m j u i k v ↔ CS2 M0 m j u (i + 1) k v := by
  constructor
  · rintro (h | ⟨h1, h2, h3⟩)
    · exact .inl h
    · exact .inr ⟨h1, h2, (mem_take1 hi).2 (.inl h3)⟩
  · rintro (h' | ⟨h1, h2, h3⟩)
    · exact .inl h'
    · rcases (mem_take1 hi).1 h3 with h3 | h3
      · exact .inr ⟨h1, h2, h3⟩
      · rcases h with h | ⟨a, ha, h⟩
        · exact absurd (h1.trans (h.trans h3.symm)) h2
        · have : a = k := by omega
          subst this; rw [h3]; exact h
theorem CS2_put {M0 : List (List Int)} {m : List Int} {j : Nat} {u : Int} {i : Nat} (hi : i < m.length) (hne : u ≠ m[i]) {a : Nat} (ha : (a : Int) = u) {k : Nat} {v : Int} : CS2 M0 m j u (i + 1) k v ↔ (CS2 M0 m j u i k v ∨ (k = a ∧ v = m[i])) := by
  constructor
  · rintro (h' | ⟨h1, h2, h3⟩)
    · exact .inl (.inl h')
    · rcases (mem_take1 hi).1 h3 with h3 | h3
      · exact .inl (.inr ⟨h1, h2, h3⟩)
      · exact .inr ⟨by omega, h3⟩
  · rintro ((h | ⟨h1, h2, h3⟩) | ⟨rfl, rfl⟩)
    · exact .inl h
    · exact .inr ⟨h1, h2, (mem_take1 hi).2 (.inl h3)⟩
    · exact .inr ⟨ha, by rw [ha]; exact hne, (mem_take1 hi).2 (.inr rfl)⟩
/-- The program's relation as it grows: each with itself too. -/
def CB1 (M0 : List (List Int)) (m : List Int) (j : Nat) (k : Nat) (v : Int) : Prop := (∃ q ∈ M0, (k : Int) ∈ q ∧ v ∈ q) ∨ ((k : Int) ∈ m.take j ∧ v ∈ m)
def CB0 (M0 : List (List Int)) (k : Nat) (v : Int) : Prop := ∃ q ∈ M0, (k : Int) ∈ q ∧ v ∈ q
theorem CB1_zero {M0 : List (List Int)} {m : List Int} {k : Nat} {v : Int} : CB0 M0 k v ↔ CB1 M0 m 0 k v := by simp [CB1, CB0]
theorem CB1_all {M : List (List Int)} {q : Nat} (hq : q < M.length) {k : Nat} {v : Int} : CB1 (M.take q) M[q] M[q].length k v ↔ CB0 (M.take (q + 1)) k v := by
  unfold CB1 CB0
  rw [ex_take1 hq, List.take_length]
theorem CB1_add {M0 : List (List Int)} {m : List Int} {j : Nat} (hj : j < m.length) {a : Nat} (ha : (a : Int) = m[j]) {k : Nat} {v : Int} : CB1 M0 m (j + 1) k v ↔ (if k = a then v ∈ m ∨ CB1 M0 m j k v else CB1 M0 m j k v) := by
  unfold CB1
  rw [mem_take1 hj]
  by_cases hk : k = a
  · subst hk
    rw [if_pos rfl]
    constructor
    · rintro (h | ⟨h1 | h1, h2⟩)
      · exact .inr (.inl h)
      · exact .inr (.inr ⟨h1, h2⟩)
      · exact .inl h2
    · rintro (h | h | ⟨h1, h2⟩)
      · exact .inr ⟨.inr ha, h⟩
      · exact .inl h
      · exact .inr ⟨.inl h1, h2⟩
  · rw [if_neg hk]
    constructor
    · rintro (h | ⟨h1 | h1, h2⟩)
      · exact .inl h
      · exact .inr ⟨h1, h2⟩
      · exact absurd (by omega) hk
    · rintro (h | ⟨h1, h2⟩)
      · exact .inl h
      · exact .inr ⟨.inl h1, h2⟩
/-- Rows of bools that are a relation. -/
structure RepB (N : Nat) (C : List (List Bool)) (P : Nat → Int → Prop) : Prop where
  ln : C.length = N
  rw_ : ∀ S ∈ C, S.length = N
  iff : ∀ k v, InR2 C k v ↔ P k v
theorem RepB.congr {N : Nat} {C : List (List Bool)} {P Q : Nat → Int → Prop} (h : RepB N C P) (e : ∀ k v, P k v ↔ Q k v) : RepB N C Q := ⟨h.ln, h.rw_, fun k v => (h.iff k v).trans (e k v)⟩
theorem RepB.row {N : Nat} {C : List (List Bool)} {P : Nat → Int → Prop} (h : RepB N C P) {k : Nat} (hk : k < N) : (C.getD k []).length = N := by
  have hk' : k < C.length := by rw [h.ln]; exact hk
  rw [List.getD_eq_getElem?_getD, List.getElem?_eq_getElem hk']
  exact h.rw_ _ (List.getElem_mem hk')
theorem RepB.set {N : Nat} {C : List (List Bool)} {P Q : Nat → Int → Prop} (h : RepB N C P) {a : Nat} (ha : a < N) {R : List Bool} (hR : R.length = N) (e : ∀ k v, Q k v ↔ (if k = a then InB R v else P k v)) : RepB N (C.set a R) Q := by
  have ha' : a < C.length := by rw [h.ln]; exact ha
  refine ⟨by rw [List.length_set]; exact h.ln, fun S hS => ?_, fun k v => ?_⟩
  · rcases List.mem_or_eq_of_mem_set hS with hS | rfl
    · exact h.rw_ S hS
    · exact hR
  · rw [InR2_set ha', e, h.iff]
theorem InB_rep {n : Nat} {v : Int} : ¬ InB (List.replicate n false) v := by
  intro h
  unfold InB at h
  have h2 := h.2
  rw [List.getD_eq_getElem?_getD, List.getElem?_replicate] at h2
  split at h2 <;> cases h2
theorem RepB.nil (N : Nat) : RepB N (List.replicate N (List.replicate N false)) (fun _ _ => False) := by
  refine ⟨by simp, fun S hS => by rw [List.eq_of_mem_replicate hS]; simp, fun k v => ⟨fun h => ?_, fun h => h.elim⟩⟩
  unfold InR2 at h
  rw [List.getD_eq_getElem?_getD, List.getElem?_replicate] at h
  split at h
  · exact InB_rep h
  · unfold InB at h; have := h.2; simp at this
/-- The diagonal goes. -/
def CD (M : List (List Int)) (n : Nat) (k : Nat) (v : Int) : Prop := CB0 M k v ∧ ¬ ((k : Int) = v ∧ k < n)
theorem CD_zero {M : List (List Int)} {k : Nat} {v : Int} : CB0 M k v ↔ CD M 0 k v := by simp [CD]
theorem CD_all {M : List (List Int)} {N : Nat} (hM : ∀ m ∈ M, ∀ v ∈ m, 0 ≤ v ∧ v < (N : Int)) {k : Nat} {v : Int} : CD M N k v ↔ ClP M k v := by
  unfold CD CB0 ClP
  constructor
  · rintro ⟨⟨q, h1, h2, h3⟩, h4⟩
    exact ⟨fun e => h4 ⟨e, by have := hM q h1 _ h2; omega⟩, q, h1, h2, h3⟩
  · rintro ⟨h1, q, h2, h3, h4⟩
    exact ⟨⟨q, h2, h3, h4⟩, fun h => h1 h.1⟩
theorem RepB.diag {N : Nat} {C : List (List Bool)} {M : List (List Int)} {n : Nat} (h : RepB N C (CD M n)) (hn : n < N) : RepB N (C.set n ((C.getD n []).set n false)) (CD M (n + 1)) := by
  have hl := h.row hn
  refine h.set hn (by rw [List.length_set]; exact hl) (fun k v => ?_)
  by_cases hk : k = n
  · subst hk
    rw [if_pos rfl]
    have hs := InB_set (S := C.getD k []) (m := (k : Int)) (v := v) (b := false) (by omega) (by omega)
    rw [show ((k : Int)).toNat = k by omega] at hs
    rw [hs]
    by_cases hv : v = (k : Int)
    · subst hv; simp [CD]
    · rw [if_neg hv, show InB (C.getD k []) v ↔ InR2 C k v from Iff.rfl, h.iff]
      unfold CD
      constructor
      · rintro ⟨h1, _⟩; exact ⟨h1, fun h => hv h.1.symm⟩
      · rintro ⟨h1, _⟩; exact ⟨h1, fun h => hv h.1.symm⟩
  · rw [if_neg hk]
    unfold CD
    constructor
    · rintro ⟨h1, h2⟩; exact ⟨h1, fun h => h2 ⟨h.1, by omega⟩⟩
    · rintro ⟨h1, h2⟩; exact ⟨h1, fun h => h2 ⟨h.1, by omega⟩⟩
theorem RepB.add {N : Nat} {C : List (List Bool)} {M0 : List (List Int)} {m : List Int} {j : Nat} (h : RepB N C (CB1 M0 m j)) (hj : j < m.length) (hm : ∀ v ∈ m, 0 ≤ v ∧ v < (N : Int)) {a : Nat} (ha : (a : Int) = m[j]) : RepB N (C.set a (addB (C.getD a []) m)) (CB1 M0 m (j + 1)) := by
  have haN : a < N := by have := hm _ (List.getElem_mem hj); omega
  have hl := h.row haN
  refine h.set haN (by rw [addB_len]; exact hl) (fun k v => ?_)
  rw [CB1_add hj ha, InB_add (by rw [hl]; exact hm)]
  by_cases hk : k = a
  · subst hk; rw [if_pos rfl, if_pos rfl, ← h.iff]; exact Iff.rfl
  · rw [if_neg hk, if_neg hk]
/-- The values that are in some moment. -/
def SomeP (M : List (List Int)) (v : Int) : Prop := ∃ m ∈ M, v ∈ m
theorem some_add {M : List (List Int)} {q : Nat} (hq : q < M.length) {S : List Bool} (h : ∀ v, InB S v ↔ SomeP (M.take q) v) (hm : ∀ v ∈ M[q], 0 ≤ v ∧ v < (S.length : Int)) : ∀ v, InB (addB S M[q]) v ↔ SomeP (M.take (q + 1)) v := by
  intro v
  rw [InB_add hm, h v]
  unfold SomeP
  rw [ex_take1 hq (P := fun m => v ∈ m)]
  exact Or.comm
theorem clashB_eq {s : Sa} (h : GoodP s) {N : Nat} (hN : (N : Int) = s.values) {C : List (List Bool)} (hC : RepB N C (ClP (momS s))) : C.map listB = clashL s := by
  rw [listsB_eq hC.ln hC.rw_ hC.iff]
  unfold clashL
  rw [← hN]; rfl
theorem clashS_eq {s : Sa} {C : List (List Int)} {N : Nat} (hN : (N : Int) = s.values) (hC : Rep N C (ClP (momS s))) : C = clashL s := by
  rw [hC.eq]; unfold clashL; rw [← hN]; rfl
end Go.Proofs.Ytmcnoeinjocimaa.L

set_option linter.unusedVariables false
set_option linter.unusedSimpArgs false
namespace Go.Proofs.Ytmcnoeinjocimaa.L
open Go.RowKit
theorem ow_allocE {α : Type} {e n : Nat} {r : Rp α} (W : World) {z : Value} {x0 : α} (hn : n ≤ 9223372036854775807) (h1 : r.sz = 1) (hx : ∀ w, r.K w (fun _ => False) x0 [z]) :
    Ow true e r (W.alloc (.cells (madeCells #[z] n) e)) (fun k => k = W.heap.size) (.slice (some ⟨W.heap.size, 0, none⟩) n n) (List.replicate n x0) := by
  have h := ow_alloc (e := e) (n := n) (r := r) W (z := #[z]) (x0 := x0) hn h1.symm (by omega) hx
  rw [h1, Nat.mul_one] at h
  exact h
theorem putRow_one (w : World) (g o : Nat) (u : Value) : putRow w g o [u] = w.setCell ⟨g, o, none⟩ u := rfl
/-- A row stored that may lead to what the others lead to. -/
theorem Ow.put_loose {α : Type} {e : Nat} {r : Rp α} {w : World} {F G : Nat → Prop} {l : List α} {g n c : Nat} (h : Ow false e r w F (.slice (some ⟨g, 0, none⟩) n c) l) (h1 : r.sz = 1) {i : Nat} (hi : i < l.length) {y : α} {u : Value} (hy : r.K w G y [u]) (hG : ∀ k, G k → k ≠ g) :
    Ow false e r (w.setCell ⟨g, i, none⟩ u) (fun k => F k ∨ G k) (.slice (some ⟨g, 0, none⟩) n c) (l.set i y) := by
  obtain rfl := h.len_eq
  obtain ⟨φ, xs, k1, h2, h3, h4, h5⟩ := h
  have hg : F g := h2 g (by simp [Value.ownBlock])
  have hp := putRow_owns [u] w xs (i * r.sz) k1
  have hus : [u].length = r.sz := h1.symm
  rw [show w.setCell ⟨g, i, none⟩ u = putRow w g (i * r.sz) [u] by rw [h1, Nat.mul_one]; rfl]
  refine ⟨fun j k => if j = i then G k else φ j k, seg xs (i * r.sz) [u], by rw [List.length_set]; exact hp.1, fun k hk => .inl (h2 k hk), ?_, (fun h => by cases h), ?_⟩
  · intro j k hk
    split at hk
    · exact ⟨.inr hk, fun he => hG k hk (by simpa [Value.ownBlock, eq_comm] using he)⟩
    · exact ⟨.inl (h3 j k hk).1, (h3 j k hk).2⟩
  · intro j x hx
    rw [List.getElem?_set] at hx
    have hjl : j < l.length := by
      rcases Nat.lt_or_ge j l.length with hh | hh
      · exact hh
      · split at hx
        · omega
        · rw [List.getElem?_eq_none hh] at hx; cases hx
    rw [seg_drop k1.1 hi hus j hjl]
    by_cases hji : j = i
    · subst hji
      rw [if_pos rfl, if_pos hi] at hx
      cases hx
      simp only [if_true]
      refine r.move (fun k hk hlt => hp.2.block k hlt (fun he => by cases he; exact hG _ hk rfl)) hy
    · rw [if_neg (fun h => hji h.symm)] at hx
      simp only [if_neg hji]
      refine r.move (fun k hk hlt => hp.2.block k hlt (fun he => by cases he; exact (h3 j _ hk).2 (by simp [Value.ownBlock]))) (h5 j x hx)
end Go.Proofs.Ytmcnoeinjocimaa.L

set_option linter.unusedVariables false
set_option linter.unusedSimpArgs false
namespace Go.Proofs.Ytmcnoeinjocimaa.L
open Go.RowKit
theorem infoSetZ : (Try.prog.info? 91).map (fun i => (i.zero, i.size, i.bytes)) = some (some (.slice none 0 0), 1, 24) := by kernel_rfl
/-- The rows of clashes and the values that are in some moment, as they lie. -/
structure CSt (N S0 T0 go co gs cs : Nat) (C : List (List Bool)) (S : List Bool) (w : World) : Prop where
  rc : ∀ R ∈ C, R.length = N
  ls : S.length = N
  sm : Ow true 4 Rp.bool w (fun q => q = gs) (.slice (some ⟨gs, 0, none⟩) N cs) S
  sb : S0 ≤ gs ∧ gs < T0
  ex : ∃ FO : Nat → Prop, (∀ q, FO q → S0 ≤ q ∧ q < T0 ∧ q ≠ gs) ∧ Ow true 91 (Rp.ow true 4 Rp.bool) w FO (.slice (some ⟨go, 0, none⟩) N co) C
theorem CSt.below {N S0 T0 go co gs cs : Nat} {C : List (List Bool)} {S : List Bool} {w w' : World} (h : CSt N S0 T0 go co gs cs C S w) (hb : Below w.heap.size w w') : CSt N S0 T0 go co gs cs C S w' := by
  obtain ⟨a, b, c, d, FO, e1, e2⟩ := h
  exact ⟨a, b, c.below hb, d, FO, e1, e2.below hb⟩
theorem CSt.setS {N S0 T0 go co gs cs : Nat} {C : List (List Bool)} {S S' : List Bool} {w w' : World} (h : CSt N S0 T0 go co gs cs C S w) (hc : Chg (fun q => q = gs) w w') (hl : S'.length = N) (hO : Ow true 4 Rp.bool w' (fun q => q = gs) (.slice (some ⟨gs, 0, none⟩) N cs) S') : CSt N S0 T0 go co gs cs C S' w' := by
  obtain ⟨a, b, c, d, FO, e1, e2⟩ := h
  exact ⟨a, hl, hO, d, FO, e1, e2.move (hc.same (fun q hq h => (e1 q hq).2.2 h))⟩
theorem CSt.row {N S0 T0 go co gs cs : Nat} {C : List (List Bool)} {S : List Bool} {w : World} (h : CSt N S0 T0 go co gs cs C S w) (hN : 0 < N) {k : Nat} (hk : k < N) :
    ∃ (G : Nat → Prop) (g c : Nat), w.cell? ⟨go, k, none⟩ = some (.slice (some ⟨g, 0, none⟩) N c) ∧ (C.getD k []).length = N ∧ (∀ q, G q → S0 ≤ q ∧ q < T0 ∧ q ≠ go ∧ q ≠ gs) ∧ Ow true 4 Rp.bool w G (.slice (some ⟨g, 0, none⟩) N c) (C.getD k []) ∧
      ∀ (w' : World) (y : List Bool), y.length = N → Chg G w w' → Ow true 4 Rp.bool w' G (.slice (some ⟨g, 0, none⟩) N c) y → CSt N S0 T0 go co gs cs (C.set k y) S w' := by
  obtain ⟨a, b, c, d, FO, e1, e2⟩ := h
  have hkl : k < C.length := by rw [← e2.len_eq]; exact hk
  obtain ⟨G, u, cu, -, hGF, hOu, hback⟩ := e2.focus hkl
  have hg : C.getD k [] = C[k] := by rw [List.getD_eq_getElem?_getD, List.getElem?_eq_getElem hkl]; rfl
  have hl : C[k].length = N := a _ (List.getElem_mem hkl)
  obtain ⟨g, c', rfl, _, _⟩ := hOu.some_form (by omega)
  rw [hl] at cu hOu hback
  rw [hg]
  refine ⟨G, g, c', cu, hl, fun q hq => ⟨(e1 q (hGF q hq).1).1, (e1 q (hGF q hq).1).2.1, (hGF q hq).2, (e1 q (hGF q hq).1).2.2⟩, hOu, fun w' y hy hC hO' => ?_⟩
  refine ⟨fun R hR => ?_, b, c.move (hC.same (fun q hq h => (e1 q (hGF q h).1).2.2 hq)), d, FO, e1, hback w' y (fun q hq hn => hC.block q hq hn) hO'⟩
  rcases List.mem_or_eq_of_mem_set hR with hR | rfl
  · exact a R hR
  · exact hy
inductive ClashRes (s : Sa) (N : Nat) (w : World) (e : Ending) (w' : World) : Prop where
  | mk (go co gs cs : Nat) (C : List (List Bool)) (S : List Bool) (he : e = .returned (.tuple #[.slice (some ⟨go, 0, none⟩) N co, .slice (some ⟨gs, 0, none⟩) N cs])) (hC : Ow true 91 (Rp.ow true 4 Rp.bool) w' (fun q => w.heap.size ≤ q) (.slice (some ⟨go, 0, none⟩) N co) C)
      (hS : Ow true 4 Rp.bool w' (fun q => w.heap.size ≤ q) (.slice (some ⟨gs, 0, none⟩) N cs) S) (hR : RepB N C (ClP (momS s))) (hl : S.length = N) (hs : Hid (∀ v, InB S v ↔ SomeP (momS s) v)) (hb : Below w.heap.size w w') : ClashRes s N w e w'
set_option maxRecDepth 100000 in
set_option maxHeartbeats 16000000 in
theorem clashesI_calls {F : Nat → Prop} (s : Sa) (N vb : Nat) (vparts vn vd vD vT : Value) (w : World) (hv : w.heap[vb]? = some (viewC vparts s.values vn vd vD vT)) (hs : Rp.Rd part w F vparts s.parts) (hg : GoodP s) (hx2 : ∀ p ∈ s.parts, PtLim p) (hNV : (N : Int) = s.values) :
    Calls Try.prog 69 #[.pointer (some ⟨vb, 0, none⟩)] w (ClashRes s N w) := by
  have hv1 := hg.v1
  have hv2 := hg.v2
  have hN0 : 0 < N := by omega
  have hN1 : N ≤ 250 := by omega
  have hvl := blk_lt hv
  have HM := Lib.hid (fun W (hW : Below w.heap.size w W) => momentsM_calls s N vb vparts vn vd vD vT W (blk_below hv hW) (hs.below hW) hg hx2 hNV)
  have HMs : Hid (∀ m ∈ momS s, ∀ v ∈ m, 0 ≤ v ∧ v < (N : Int)) := Lib.hid (fun m hm v hv => by have := (momS_sets hg m hm).2 v hv; omega)
  rw [← hNV] at hv
  have hvN := hv
  replace hNV := Lib.hid hNV
  have j0 : (0 : Int) ≤ (N : Int) := Int.natCast_nonneg _
  have hBd : Below w.heap.size w w.drew := below_drew (Below.refl _ _)
  have hmk1 := mk_all Try.underlying80 infoSetZ N (by omega) (by omega)
  have hmk2 := mk_all Try.underlying91 infoBool N (by omega) (by omega)
  obtain ⟨v0, v1, v2, v3, v4, v5⟩ := view_cells hv
  obtain ⟨M, hM⟩ : ∃ M, M = momS s := ⟨_, rfl⟩
  rw [← hM] at HM HMs
  replace hM := Lib.hid hM
  go_enter Try.func69, Try.ntmps69
  go_wp2_with fail
  refine wp_region_held_drew (S := (fun w' => w'.cell? ⟨vb, 1, none⟩ = some (.int .i64 (N : Int)))) (by kernel_rfl) v1 (fun hH0 => ?_)
  clear v0 v2 v3 v4 v5
  refine wpAnyH_take (i := 0) (v := ?_) rfl (by kernel_rfl) (by kernel_rfl) (by kernel_rfl) (fun _ _ _ h => h) (Or.inl ⟨by rfl, ?_⟩) (by assumption) ?_
  rotate_left 1
  focus ((intro w hSw; (try dsimp only at hSw); go_simp); try with_reducible rfl)
  try simp only [Act.put, Array.getInternal_eq_getElem, List.getElem_toArray, List.getElem_cons_zero, List.getElem_cons_succ, List.setIfInBounds_toArray, List.set_cons_zero, List.set_cons_succ]
  refine wpAnyH_take (i := 1) (v := ?_) rfl (by kernel_rfl) (by kernel_rfl) (by kernel_rfl) (fun _ _ _ h => h) (Or.inl ⟨by rfl, ?_⟩) (by assumption) ?_
  rotate_left 1
  focus ((intro w hSw; (try dsimp only at hSw); go_simp); try with_reducible rfl)
  try simp only [Act.put, Array.getInternal_eq_getElem, List.getElem_toArray, List.getElem_cons_zero, List.getElem_cons_succ, List.setIfInBounds_toArray, List.set_cons_zero, List.set_cons_succ]
  refine wpAnyH_take (i := 2) (v := ?_) rfl (by kernel_rfl) (by kernel_rfl) (by kernel_rfl) (fun _ _ _ h => h) (Or.inl ⟨by rfl, ?_⟩) (by assumption) ?_
  rotate_left 1
  focus ((intro w hSw; (try dsimp only at hSw); go_simp); try with_reducible rfl)
  try simp only [Act.put, Array.getInternal_eq_getElem, List.getElem_toArray, List.getElem_cons_zero, List.getElem_cons_succ, List.setIfInBounds_toArray, List.set_cons_zero, List.set_cons_succ]
  refine wpAnyH_take (i := 3) (v := ?_) rfl (by kernel_rfl) (by kernel_rfl) (by kernel_rfl) (fun _ _ _ h => h) (Or.inl ⟨by rfl, ?_⟩) (by assumption) ?_
  rotate_left 1
  focus ((intro w hSw; (try dsimp only at hSw); go_simp); try with_reducible rfl)
  try simp only [Act.put, Array.getInternal_eq_getElem, List.getElem_toArray, List.getElem_cons_zero, List.getElem_cons_succ, List.setIfInBounds_toArray, List.set_cons_zero, List.set_cons_succ]
  refine wpAnyH_take (i := 4) (v := ?_) rfl (by kernel_rfl) (by kernel_rfl) (by kernel_rfl) (fun _ _ _ h => h) (Or.inl ⟨by rfl, ?_⟩) (by assumption) ?_
  rotate_left 1
  focus ((intro w hSw; (try dsimp only at hSw); go_simp); try with_reducible rfl)
  try simp only [Act.put, Array.getInternal_eq_getElem, List.getElem_toArray, List.getElem_cons_zero, List.getElem_cons_succ, List.setIfInBounds_toArray, List.set_cons_zero, List.set_cons_succ]
  refine wpAnyH_take (i := 6) (v := ?_) rfl (by kernel_rfl) (by kernel_rfl) (by kernel_rfl) (fun _ _ _ h => h) (Or.inl ⟨by rfl, ?_⟩) (by assumption) ?_
  rotate_left 1
  focus ((intro w hSw; (try dsimp only at hSw); go_simp); try with_reducible rfl)
  try simp only [Act.put, Array.getInternal_eq_getElem, List.getElem_toArray, List.getElem_cons_zero, List.getElem_cons_succ, List.setIfInBounds_toArray, List.set_cons_zero, List.set_cons_succ]
  refine wpAnyH_take (i := 7) (v := ?_) rfl (by kernel_rfl) (by kernel_rfl) (by kernel_rfl) (fun _ _ _ h => h) (Or.inl ⟨by rfl, ?_⟩) (by assumption) ?_
  rotate_left 1
  focus ((intro w hSw; (try dsimp only at hSw); go_simp); try with_reducible rfl)
  try simp only [Act.put, Array.getInternal_eq_getElem, List.getElem_toArray, List.getElem_cons_zero, List.getElem_cons_succ, List.setIfInBounds_toArray, List.set_cons_zero, List.set_cons_succ]
  refine wpAnyH_take (i := 8) (v := ?_) rfl (by kernel_rfl) (by kernel_rfl) (by kernel_rfl) (fun _ _ _ h => h) (Or.inl ⟨by rfl, ?_⟩) (by assumption) ?_
  rotate_left 1
  focus ((intro w hSw; (try dsimp only at hSw); go_simp); try with_reducible rfl)
  try simp only [Act.put, Array.getInternal_eq_getElem, List.getElem_toArray, List.getElem_cons_zero, List.getElem_cons_succ, List.setIfInBounds_toArray, List.set_cons_zero, List.set_cons_succ]
  refine wpAnyH_take (i := 9) (v := ?_) rfl (by kernel_rfl) (by kernel_rfl) (by kernel_rfl) (fun _ _ _ h => h) (Or.inl ⟨by rfl, ?_⟩) (by assumption) ?_
  rotate_left 1
  focus ((intro w hSw; (try dsimp only at hSw); go_simp); try with_reducible rfl)
  try simp only [Act.put, Array.getInternal_eq_getElem, List.getElem_toArray, List.getElem_cons_zero, List.getElem_cons_succ, List.setIfInBounds_toArray, List.set_cons_zero, List.set_cons_succ]
  refine wpAnyH_take (i := 10) (v := ?_) rfl (by kernel_rfl) (by kernel_rfl) (by kernel_rfl) (fun _ _ _ h => h) (Or.inl ⟨by rfl, ?_⟩) (by assumption) ?_
  rotate_left 1
  focus ((intro w hSw; (try dsimp only at hSw); go_simp); try with_reducible rfl)
  try simp only [Act.put, Array.getInternal_eq_getElem, List.getElem_toArray, List.getElem_cons_zero, List.getElem_cons_succ, List.setIfInBounds_toArray, List.set_cons_zero, List.set_cons_succ]
  have v1 : w.drew.cell? ⟨vb, 1, none⟩ = some (.int .i64 (N : Int)) := v1
  generalize w.drew = wd at *
  refine wpAnyH_ready (rs := [5, 11]) (by kernel_rfl) (by simp) ?_
  refine AllReadyH.cons rfl (fun K1 hK1 => ?_) (AllReadyH.cons rfl (fun K1 hK1 => ?_) AllReadyH.nil)
  · go_simp
    have hbW1 := below_new (w := wd) (.cells (madeCells #[.slice none 0 0] N) 91)
    have hOW1 := ow_allocE (e := 91) (n := N) (r := Rp.ow true 4 Rp.bool) (z := .slice none 0 0) (x0 := []) wd (by omega) rfl (fun w => ⟨_, rfl, Ow.nil _ _ _ _ _⟩)
    have hzW1 : (wd.alloc (.cells (madeCells #[.slice none 0 0] N) 91)).heap.size = wd.heap.size + 1 := by simp
    have v1 := cell_below hbW1 v1
    refine hK1.out _ _ v1 (fun _ => ?_)
    clear hK1 K1
    generalize wd.alloc (.cells (madeCells #[.slice none 0 0] N) 91) = W1 at *
    try simp only [Act.put, List.setIfInBounds_toArray, List.set_cons_zero, List.set_cons_succ]
    refine wpAnyH_take (i := 12) (v := ?_) rfl (by kernel_rfl) (by kernel_rfl) (by kernel_rfl) (fun _ _ _ h => h) (Or.inl ⟨by rfl, ?_⟩) (by assumption) ?_
    rotate_left 1
    focus ((intro w hSw; (try dsimp only at hSw); go_simp); try with_reducible rfl)
    try simp only [Act.put, Array.getInternal_eq_getElem, List.getElem_toArray, List.getElem_cons_zero, List.getElem_cons_succ, List.setIfInBounds_toArray, List.set_cons_zero, List.set_cons_succ]
    refine wpAnyH_ready (rs := [11]) (by kernel_rfl) (by simp) ?_
    refine AllReadyH.cons rfl (fun K1 hK1 => ?_) AllReadyH.nil
    · go_simp
      have hbW2 := below_new (w := W1) (.cells (madeCells #[.bool false] N) 4)
      have hOW2 := ow_allocE (e := 4) (n := N) (r := Rp.bool) (z := .bool false) (x0 := false) W1 (by omega) rfl (fun w => rfl)
      have hzW2 : (W1.alloc (.cells (madeCells #[.bool false] N) 4)).heap.size = W1.heap.size + 1 := by simp
      have v1 := cell_below hbW2 v1
      refine hK1.out _ _ v1 (fun _ => ?_)
      clear hK1 K1
      generalize W1.alloc (.cells (madeCells #[.bool false] N) 4) = W2 at *
      try simp only [Act.put, List.setIfInBounds_toArray, List.set_cons_zero, List.set_cons_succ]
      refine wpAnyH_take (i := 13) (v := ?_) rfl (by kernel_rfl) (by kernel_rfl) (by kernel_rfl) (fun _ _ _ h => h) (Or.inl ⟨by rfl, ?_⟩) (by assumption) ?_
      rotate_left 1
      focus ((intro w hSw; (try dsimp only at hSw); go_simp); try with_reducible rfl)
      try simp only [Act.put, Array.getInternal_eq_getElem, List.getElem_toArray, List.getElem_cons_zero, List.getElem_cons_succ, List.setIfInBounds_toArray, List.set_cons_zero, List.set_cons_succ]
      refine wpAnyH_done (by kernel_rfl) ?_ _
      have hBW := below_then (below_then hBd hbW1) hbW2
      have hcO : Ow true 91 (Rp.ow true 4 Rp.bool) W2 (fun q => w.heap.size ≤ q ∧ q ≠ W1.heap.size) (.slice (some ⟨wd.heap.size, 0, none⟩) N N) (List.replicate N []) := (hOW1.below hbW2).mono (fun q hq => by have hq : q = wd.heap.size := hq; have := hBd.size; omega)
      have hcS : Ow true 4 Rp.bool W2 (fun q => q = W1.heap.size) (.slice (some ⟨W1.heap.size, 0, none⟩) N N) (List.replicate N false) := hOW2
      have hgs : w.heap.size ≤ W1.heap.size ∧ W1.heap.size < W2.heap.size := by have := hBd.size; omega
      clear hOW1 hOW2 hbW1 hbW2 hH0 v1
      have hgg := hzW1
      generalize W1.heap.size = gs at *
      generalize wd.heap.size = go at *
      rw [← hgg]
      clear hzW1 hzW2 hBd hgg
      have hv2 := blk_below hvN hBW
      go_wp2_with fail
      go_loopw [26] (fun i wr => ∃ k : Nat, k ≤ N ∧ i = .int .i64 k ∧ Ow true 91 (Rp.ow true 4 Rp.bool) wr (fun q => w.heap.size ≤ q ∧ q ≠ gs) (.slice (some ⟨go, 0, none⟩) N N) (List.replicate k (List.replicate N false) ++ List.replicate (N - k) []) ∧ Ow true 4 Rp.bool wr (fun q => q = gs) (.slice (some ⟨gs, 0, none⟩) N N) (List.replicate N false) ∧ Below w.heap.size w wr ∧ gs < wr.heap.size) (fun i _ => N - (intOf i).toNat)
      case atStart => exact ⟨0, Nat.zero_le _, rfl, by simpa using hcO, hcS, hBW, hgs.2⟩
      case round =>
        clear hcO hcS hBW hv2
        obtain ⟨k, hk, rfl, HO, HS, HB, hz⟩ := hrel
        rename World => wo
        by_cases hkt : k < N
        · have hv1 := blk_below hvN HB
          obtain ⟨v0, v1, v2, v3, v4, v5⟩ := view_cells hv1
          have hkL : k < (List.replicate k (List.replicate N false) ++ List.replicate (N - k) ([] : List Bool)).length := by simp; omega
          have hset : (List.replicate k (List.replicate N false) ++ List.replicate (N - k) ([] : List Bool)).set k (List.replicate N false) = List.replicate (k + 1) (List.replicate N false) ++ List.replicate (N - (k + 1)) [] := by
            have e1 : N - k = (N - (k + 1)) + 1 := by omega
            rw [e1, List.replicate_succ, List.set_append_right _ _ (by simp), List.length_replicate, Nat.sub_self, List.set_cons_zero, List.replicate_succ' (n := k), List.append_assoc]
            rfl
          have hb2 := below_new (w := wo) (.cells (madeCells #[.bool false] N) 4)
          have hO2 := ow_allocE (e := 4) (n := N) (r := Rp.bool) (z := .bool false) (x0 := false) wo (by omega) rfl (fun w => rfl)
          have hzn : (wo.alloc (.cells (madeCells #[.bool false] N) 4)).heap.size = wo.heap.size + 1 := by simp
          have HO2 := HO.bound.below hb2
          obtain ⟨_, u0, cu0, fu0, -⟩ := HO2.focus hkL
          have HO3 := HO2.put1 (G := fun q => q = wo.heap.size) rfl hkL (y := List.replicate N false) (u := .slice (some ⟨wo.heap.size, 0, none⟩) N N) ⟨_, rfl, hO2⟩ (fun q hq h => by have := h.2; have hq : q = wo.heap.size := hq; omega)
          rw [hset] at HO3
          have hgo := (HO.lt_size (k := go) rfl).1
          have HO4 := HO3.mono (G := fun q => w.heap.size ≤ q ∧ q ≠ gs) (fun q hq => by rcases hq with hq | hq; exact hq.1; (have hq : q = wo.heap.size := hq; have := HB.size; omega))
          have HS2 := HS.below hb2
          have hC := Chg.set (w := wo.alloc (.cells (madeCells #[.bool false] N) 4)) (b := go) (o := k) (u := .slice (some ⟨wo.heap.size, 0, none⟩) N N) (A := fun q => q = go) rfl
          have HS3 := HS2.move (hC.same (fun q hq h => by have hq : q = gs := hq; have h : q = go := h; omega))
          have HB2 := below_then HB hb2
          have HB3 := hC.to_below HB2 HB2.size (fun q hq => by have hq : q = go := hq; omega)
          have hz3 := hC.size
          have i0 : (0 : Int) ≤ (k : Int) := Int.natCast_nonneg _
          have i1 : (k : Int) < (N : Int) := by omega
          clear HO HS HO2 HO3 hO2 HS2 hset
          go_wp2_with fail
          go_roundw
          case rel => exact ⟨k + 1, by omega, by go_num, HO4, HS3, HB3, by omega⟩
          case measure => simp [intOf]; omega
        · obtain rfl : k = N := by omega
          rw [Nat.sub_self, List.replicate_zero, List.append_nil] at HO
          have HCS : CSt k w.heap.size wo.heap.size go k gs k (List.replicate k (List.replicate k false)) (List.replicate k false) wo := ⟨by simp, by simp, HS, ⟨hgs.1, hz⟩, _, fun q hq => ⟨hq.1.1, hq.2, hq.1.2⟩, HO.bound⟩
          have hR0 := RepB.nil k
          have HM1 := Lib.hid (HM.out _ HB)
          clear HO HS
          go_wp2_with fail
          refine HM1.out.mono ?_
          rintro e w4 ⟨vL, rfl, hvL, hb4⟩
          have HCS := HCS.below hb4
          have HB4 := below_then HB hb4
          have hs4 := hb4.size
          obtain ⟨AL, cL, rfl, hl1, hl2, -⟩ := rd_ints hvL
          have hswo := HB.size
          clear HM1 HB hb4
          go_wp2_with fail
          go_loopw [42] (fun i wr => ∃ (q : Nat) (C : List (List Bool)) (S : List Bool), q ≤ M.length ∧ i = .int .i64 q ∧ CSt k w.heap.size wo.heap.size go k gs k C S wr ∧ RepB k C (CB0 (M.take q)) ∧ Hid (∀ v, InB S v ↔ SomeP (M.take q) v) ∧ Chg (fun r => w.heap.size ≤ r ∧ r < wo.heap.size) w4 wr) (fun i _ => M.length - (intOf i).toNat)
          case atStart => exact ⟨0, _, _, Nat.zero_le _, rfl, HCS, hR0.congr (fun a b => by simp [CB0]), Lib.hid (fun v => ⟨fun h => absurd h InB_rep, fun h => by simp [SomeP] at h⟩), Chg.refl _ _⟩
          case round =>
            clear HCS hR0
            obtain ⟨q, C, S, hq, rfl, HCS, HR, HSo, HCh⟩ := hrel
            rename World => wx
            by_cases hqt : q < M.length
            · have hvx := hvL.move (HCh.same (fun r hr h => by have hr : wo.heap.size ≤ r := hr; omega))
              obtain ⟨A', c', he, -, -, hrow⟩ := rd_ints hvx
              injection he with he1 _ he3
              subst he1
              subst he3
              rcases hrow with hnil | ⟨b, o, rfl, hbx, hcell⟩
              · rw [hnil] at hqt; simp at hqt
              obtain ⟨u, cu, hu⟩ := hcell q hqt
              obtain ⟨Au, ku, rfl, hu1, hu2, -⟩ := rd_int hu
              obtain ⟨m, hm⟩ : ∃ m, m = M[q] := ⟨_, rfl⟩
              obtain ⟨M0, hM0⟩ : ∃ M0, M0 = M.take q := ⟨_, rfl⟩
              have hmv : Hid (∀ v ∈ m, 0 ≤ v ∧ v < (k : Int)) := Lib.hid (by rw [hm]; exact HMs.out _ (List.getElem_mem hqt))
              have hCB : Hid (∀ (a : Nat) (v : Int), CB1 M0 m m.length a v ↔ CB0 (M.take (q + 1)) a v) := Lib.hid (by rw [hm, hM0]; exact fun a b => CB1_all hqt)
              have hSA : Hid (∀ v, InB (addB S m) v ↔ SomeP (M.take (q + 1)) v) := Lib.hid (by rw [hm]; exact some_add hqt HSo.out (fun v hv => by rw [HCS.ls]; rw [← hm] at hv; exact hmv.out v hv))
              have HR : RepB k C (CB1 M0 m 0) := by rw [hM0]; exact HR.congr (fun a b => CB1_zero)
              rw [← hm] at hu cu hu1
              have hux := hu
              have HAd := Lib.hid (setAddN_calls gs k k S _ m (fun r => r = gs) wx HCS.ls HCS.sm hu (fun r hr h => by have h : r = gs := h; have hr : wo.heap.size ≤ r := hr; have := HCS.sb; omega) hmv.out)
              have q0 : (0 : Int) ≤ (q : Int) := Int.natCast_nonneg _
              have q1 : (q : Int) < (M.length : Int) := by omega
              clear hcell hvx hm hM0 HSo
              go_wp2_with fail
              refine HAd.out.mono ?_
              rintro e w5 ⟨rfl, hO5, hC5⟩
              have HCS5 := HCS.setS hC5 (by rw [addB_len]; exact HCS.ls) hO5
              have HCx5 : Chg (fun r => w.heap.size ≤ r ∧ r < wo.heap.size) wx w5 := hC5.mono (fun r hr => by have hr : r = gs := hr; subst hr; exact HCS.sb)
              have HCh5 := HCh.trans HCx5
              generalize addB S m = S5 at *
              clear HAd hO5 hC5 HCS HCh hu
              have hu5 := hux
              go_wp2_with fail
              go_loopw [51] (fun i wr => ∃ (j : Nat) (C : List (List Bool)), j ≤ m.length ∧ i = .int .i64 j ∧ CSt k w.heap.size wo.heap.size go k gs k C S5 wr ∧ RepB k C (CB1 M0 m j) ∧ Chg (fun r => w.heap.size ≤ r ∧ r < wo.heap.size) w4 wr ∧ Chg (fun r => w.heap.size ≤ r ∧ r < wo.heap.size) wx wr) (fun i _ => m.length - (intOf i).toNat)
              case atStart => exact ⟨0, C, Nat.zero_le _, rfl, HCS5, HR, HCh5, HCx5⟩
              case round =>
                clear HCS5 HR HCh5 HCx5
                obtain ⟨j, C, hj, rfl, HCS, HR, HCh, HCx⟩ := hrel
                rename World => wy
                by_cases hjt : j < m.length
                · have huy := hu5.move (HCx.same (fun r hr h => by have hr : wo.heap.size ≤ r := hr; omega))
                  obtain ⟨A3, c3, he, -, -, hrow3⟩ := rd_int huy
                  injection he with he1 _ he3
                  subst he1
                  subst he3
                  rcases hrow3 with hnil | ⟨b3, o3, rfl, hb3, hc3⟩
                  · rw [hnil] at hjt; simp at hjt
                  have cx := hc3 j hjt
                  have hmj := hmv.out _ (List.getElem_mem hjt)
                  obtain ⟨a, ha⟩ := Int.eq_ofNat_of_zero_le hmj.1
                  have hak : a < k := by omega
                  have HR2 := Lib.hid (HR.add hjt hmv.out ha.symm)
                  obtain ⟨G, g, cg, cu3, hRl, hGF, hOr, hback⟩ := HCS.row (by omega) hak
                  rw [ha] at cx
                  obtain ⟨Ra, hRa⟩ : ∃ Ra, Ra = C.getD a [] := ⟨_, rfl⟩
                  rw [← hRa] at HR2 hRl hOr
                  have HAd := Lib.hid (setAddN_calls g cg k Ra _ m G wy hRl hOr huy (fun r hr h => by have hr : wo.heap.size ≤ r := hr; have := hGF r h; omega) hmv.out)
                  have j0 : (0 : Int) ≤ (j : Int) := Int.natCast_nonneg _
                  have j1 : (j : Int) < (m.length : Int) := by omega
                  have a0 : (0 : Int) ≤ (a : Int) := Int.natCast_nonneg _
                  have a1 : (a : Int) < (k : Int) := by omega
                  replace hback := Lib.hid hback
                  replace hRl := Lib.hid hRl
                  clear hc3 ha hRa hmj
                  go_wp2_with fail
                  refine HAd.out.mono ?_
                  rintro e w6 ⟨rfl, hO6, hC6⟩
                  have HCS6 := hback.out w6 _ (by rw [addB_len]; exact hRl.out) hC6 hO6
                  have hX : Chg (fun r => w.heap.size ≤ r ∧ r < wo.heap.size) wy w6 := hC6.mono (fun r hr => by have := hGF r hr; exact ⟨this.1, this.2.1⟩)
                  have HCh6 := HCh.trans hX
                  have HCx6 := HCx.trans hX
                  clear HAd hback hO6 hC6 hX HCS HCh HCx hOr huy cu3
                  go_wp2
                  go_roundw
                  case rel => exact ⟨j + 1, _, by omega, by go_num, HCS6, HR2.out, HCh6, HCx6⟩
                  case measure => simp [intOf]; omega
                · obtain rfl : j = m.length := by omega
                  have HR2 := HR.congr hCB.out
                  go_wp2
                  go_roundw
                  case rel => exact ⟨q + 1, C, S5, by omega, by go_num, HCS, HR2, hSA, HCh⟩
                  case measure => simp [intOf]; omega
            · obtain rfl : q = M.length := by omega
              rw [List.take_length] at HR HSo
              have HR := HR.congr (fun a b => CD_zero (M := M))
              go_wp2_with fail
              go_loopw [65] (fun i wr => ∃ (n : Nat) (C : List (List Bool)), n ≤ k ∧ i = .int .i64 n ∧ CSt k w.heap.size wo.heap.size go k gs k C S wr ∧ RepB k C (CD M n) ∧ Chg (fun r => w.heap.size ≤ r ∧ r < wo.heap.size) w4 wr) (fun i _ => k - (intOf i).toNat)
              case atStart => exact ⟨0, C, Nat.zero_le _, rfl, HCS, HR, HCh⟩
              case round =>
                clear HCS HR HCh
                obtain ⟨n, C, hn, rfl, HCS, HR, HCh⟩ := hrel
                rename World => wz
                by_cases hnt : n < k
                · obtain ⟨G, g, cg, cu3, hRl, hGF, hOr, hback⟩ := HCS.row (by omega) hnt
                  have hR2 := HR.diag hnt
                  have hnl : n < (C.getD n []).length := by omega
                  have hO6 := hOr.set1 rfl hnl (y := false) (u := .bool false) rfl
                  obtain ⟨d1, d2⟩ := bool_at hOr hnl
                  have hgG := (hOr.lt_size (k := g) rfl).1
                  have hC6 : Chg G wz (wz.setCell ⟨g, n, none⟩ (.bool false)) := Chg.set hgG
                  have HCS6 := hback _ _ (by rw [List.length_set]; exact hRl) hC6 hO6
                  have HCh6 := HCh.trans (hC6.mono (fun r hr => by have := hGF r hr; exact ⟨this.1, this.2.1⟩))
                  have n0 : (0 : Int) ≤ (n : Int) := Int.natCast_nonneg _
                  have n1 : (n : Int) < (k : Int) := by omega
                  clear HCS HCh hback hOr hO6 hC6 HR
                  generalize (C.getD n [])[n] = yb at *
                  go_wp2
                  go_roundw
                  case rel => exact ⟨n + 1, _, by omega, by go_num, HCS6, hR2, HCh6⟩
                  case measure => simp [intOf]; omega
                · obtain rfl : n = k := by omega
                  have hM := hM.out
                  subst hM
                  have hfin := HR.congr (fun a b => CD_all (N := n) HMs.out)
                  have HBe := HCh.to_below HB4 HB4.size (fun r hr => hr.1)
                  obtain ⟨FO, hFO, hOO⟩ := HCS.ex
                  go_wp2
                  refine bodyPost_ret (v := .tuple #[.slice (some ⟨go, 0, none⟩) n n, .slice (some ⟨gs, 0, none⟩) n n]) (by simp [results, Try.results69, go_sem]) rfl ?_
                  exact .mk go n gs n C S rfl (hOO.mono (fun r hr => (hFO r hr).1)) (HCS.sm.mono (fun r hr => by have hr : r = gs := hr; have := HCS.sb; omega)) hfin HCS.ls HSo HBe
  · go_simp
    have hbW1 := below_new (w := wd) (.cells (madeCells #[.bool false] N) 4)
    have hOW1 := ow_allocE (e := 4) (n := N) (r := Rp.bool) (z := .bool false) (x0 := false) wd (by omega) rfl (fun w => rfl)
    have hzW1 : (wd.alloc (.cells (madeCells #[.bool false] N) 4)).heap.size = wd.heap.size + 1 := by simp
    have v1 := cell_below hbW1 v1
    refine hK1.out _ _ v1 (fun _ => ?_)
    clear hK1 K1
    generalize wd.alloc (.cells (madeCells #[.bool false] N) 4) = W1 at *
    try simp only [Act.put, List.setIfInBounds_toArray, List.set_cons_zero, List.set_cons_succ]
    refine wpAnyH_ready (rs := [5]) (by kernel_rfl) (by simp) ?_
    refine AllReadyH.cons rfl (fun K1 hK1 => ?_) AllReadyH.nil
    · go_simp
      have hbW2 := below_new (w := W1) (.cells (madeCells #[.slice none 0 0] N) 91)
      have hOW2 := ow_allocE (e := 91) (n := N) (r := Rp.ow true 4 Rp.bool) (z := .slice none 0 0) (x0 := []) W1 (by omega) rfl (fun w => ⟨_, rfl, Ow.nil _ _ _ _ _⟩)
      have hzW2 : (W1.alloc (.cells (madeCells #[.slice none 0 0] N) 91)).heap.size = W1.heap.size + 1 := by simp
      have v1 := cell_below hbW2 v1
      refine hK1.out _ _ v1 (fun _ => ?_)
      clear hK1 K1
      generalize W1.alloc (.cells (madeCells #[.slice none 0 0] N) 91) = W2 at *
      try simp only [Act.put, List.setIfInBounds_toArray, List.set_cons_zero, List.set_cons_succ]
      refine wpAnyH_take (i := 12) (v := ?_) rfl (by kernel_rfl) (by kernel_rfl) (by kernel_rfl) (fun _ _ _ h => h) (Or.inl ⟨by rfl, ?_⟩) (by assumption) ?_
      rotate_left 1
      focus ((intro w hSw; (try dsimp only at hSw); go_simp); try with_reducible rfl)
      try simp only [Act.put, Array.getInternal_eq_getElem, List.getElem_toArray, List.getElem_cons_zero, List.getElem_cons_succ, List.setIfInBounds_toArray, List.set_cons_zero, List.set_cons_succ]
      refine wpAnyH_take (i := 13) (v := ?_) rfl (by kernel_rfl) (by kernel_rfl) (by kernel_rfl) (fun _ _ _ h => h) (Or.inl ⟨by rfl, ?_⟩) (by assumption) ?_
      rotate_left 1
      focus ((intro w hSw; (try dsimp only at hSw); go_simp); try with_reducible rfl)
      try simp only [Act.put, Array.getInternal_eq_getElem, List.getElem_toArray, List.getElem_cons_zero, List.getElem_cons_succ, List.setIfInBounds_toArray, List.set_cons_zero, List.set_cons_succ]
      refine wpAnyH_done (by kernel_rfl) ?_ _
      have hBW := below_then (below_then hBd hbW1) hbW2
      have hcO : Ow true 91 (Rp.ow true 4 Rp.bool) W2 (fun q => w.heap.size ≤ q ∧ q ≠ wd.heap.size) (.slice (some ⟨W1.heap.size, 0, none⟩) N N) (List.replicate N []) := (hOW2).mono (fun q hq => by have hq : q = W1.heap.size := hq; have := hBd.size; omega)
      have hcS : Ow true 4 Rp.bool W2 (fun q => q = wd.heap.size) (.slice (some ⟨wd.heap.size, 0, none⟩) N N) (List.replicate N false) := hOW1.below hbW2
      have hgs : w.heap.size ≤ wd.heap.size ∧ wd.heap.size < W2.heap.size := by have := hBd.size; omega
      clear hOW1 hOW2 hbW1 hbW2 hH0 v1
      have hgg := hzW1
      generalize wd.heap.size = gs at *
      generalize W1.heap.size = go at *
      rw [← hgg]
      clear hzW1 hzW2 hBd hgg
      have hv2 := blk_below hvN hBW
      go_wp2_with fail
      go_loopw [26] (fun i wr => ∃ k : Nat, k ≤ N ∧ i = .int .i64 k ∧ Ow true 91 (Rp.ow true 4 Rp.bool) wr (fun q => w.heap.size ≤ q ∧ q ≠ gs) (.slice (some ⟨go, 0, none⟩) N N) (List.replicate k (List.replicate N false) ++ List.replicate (N - k) []) ∧ Ow true 4 Rp.bool wr (fun q => q = gs) (.slice (some ⟨gs, 0, none⟩) N N) (List.replicate N false) ∧ Below w.heap.size w wr ∧ gs < wr.heap.size) (fun i _ => N - (intOf i).toNat)
      case atStart => exact ⟨0, Nat.zero_le _, rfl, by simpa using hcO, hcS, hBW, hgs.2⟩
      case round =>
        clear hcO hcS hBW hv2
        obtain ⟨k, hk, rfl, HO, HS, HB, hz⟩ := hrel
        rename World => wo
        by_cases hkt : k < N
        · have hv1 := blk_below hvN HB
          obtain ⟨v0, v1, v2, v3, v4, v5⟩ := view_cells hv1
          have hkL : k < (List.replicate k (List.replicate N false) ++ List.replicate (N - k) ([] : List Bool)).length := by simp; omega
          have hset : (List.replicate k (List.replicate N false) ++ List.replicate (N - k) ([] : List Bool)).set k (List.replicate N false) = List.replicate (k + 1) (List.replicate N false) ++ List.replicate (N - (k + 1)) [] := by
            have e1 : N - k = (N - (k + 1)) + 1 := by omega
            rw [e1, List.replicate_succ, List.set_append_right _ _ (by simp), List.length_replicate, Nat.sub_self, List.set_cons_zero, List.replicate_succ' (n := k), List.append_assoc]
            rfl
          have hb2 := below_new (w := wo) (.cells (madeCells #[.bool false] N) 4)
          have hO2 := ow_allocE (e := 4) (n := N) (r := Rp.bool) (z := .bool false) (x0 := false) wo (by omega) rfl (fun w => rfl)
          have hzn : (wo.alloc (.cells (madeCells #[.bool false] N) 4)).heap.size = wo.heap.size + 1 := by simp
          have HO2 := HO.bound.below hb2
          obtain ⟨_, u0, cu0, fu0, -⟩ := HO2.focus hkL
          have HO3 := HO2.put1 (G := fun q => q = wo.heap.size) rfl hkL (y := List.replicate N false) (u := .slice (some ⟨wo.heap.size, 0, none⟩) N N) ⟨_, rfl, hO2⟩ (fun q hq h => by have := h.2; have hq : q = wo.heap.size := hq; omega)
          rw [hset] at HO3
          have hgo := (HO.lt_size (k := go) rfl).1
          have HO4 := HO3.mono (G := fun q => w.heap.size ≤ q ∧ q ≠ gs) (fun q hq => by rcases hq with hq | hq; exact hq.1; (have hq : q = wo.heap.size := hq; have := HB.size; omega))
          have HS2 := HS.below hb2
          have hC := Chg.set (w := wo.alloc (.cells (madeCells #[.bool false] N) 4)) (b := go) (o := k) (u := .slice (some ⟨wo.heap.size, 0, none⟩) N N) (A := fun q => q = go) rfl
          have HS3 := HS2.move (hC.same (fun q hq h => by have hq : q = gs := hq; have h : q = go := h; omega))
          have HB2 := below_then HB hb2
          have HB3 := hC.to_below HB2 HB2.size (fun q hq => by have hq : q = go := hq; omega)
          have hz3 := hC.size
          have i0 : (0 : Int) ≤ (k : Int) := Int.natCast_nonneg _
          have i1 : (k : Int) < (N : Int) := by omega
          clear HO HS HO2 HO3 hO2 HS2 hset
          go_wp2_with fail
          go_roundw
          case rel => exact ⟨k + 1, by omega, by go_num, HO4, HS3, HB3, by omega⟩
          case measure => simp [intOf]; omega
        · obtain rfl : k = N := by omega
          rw [Nat.sub_self, List.replicate_zero, List.append_nil] at HO
          have HCS : CSt k w.heap.size wo.heap.size go k gs k (List.replicate k (List.replicate k false)) (List.replicate k false) wo := ⟨by simp, by simp, HS, ⟨hgs.1, hz⟩, _, fun q hq => ⟨hq.1.1, hq.2, hq.1.2⟩, HO.bound⟩
          have hR0 := RepB.nil k
          have HM1 := Lib.hid (HM.out _ HB)
          clear HO HS
          go_wp2_with fail
          refine HM1.out.mono ?_
          rintro e w4 ⟨vL, rfl, hvL, hb4⟩
          have HCS := HCS.below hb4
          have HB4 := below_then HB hb4
          have hs4 := hb4.size
          obtain ⟨AL, cL, rfl, hl1, hl2, -⟩ := rd_ints hvL
          have hswo := HB.size
          clear HM1 HB hb4
          go_wp2_with fail
          go_loopw [42] (fun i wr => ∃ (q : Nat) (C : List (List Bool)) (S : List Bool), q ≤ M.length ∧ i = .int .i64 q ∧ CSt k w.heap.size wo.heap.size go k gs k C S wr ∧ RepB k C (CB0 (M.take q)) ∧ Hid (∀ v, InB S v ↔ SomeP (M.take q) v) ∧ Chg (fun r => w.heap.size ≤ r ∧ r < wo.heap.size) w4 wr) (fun i _ => M.length - (intOf i).toNat)
          case atStart => exact ⟨0, _, _, Nat.zero_le _, rfl, HCS, hR0.congr (fun a b => by simp [CB0]), Lib.hid (fun v => ⟨fun h => absurd h InB_rep, fun h => by simp [SomeP] at h⟩), Chg.refl _ _⟩
          case round =>
            clear HCS hR0
            obtain ⟨q, C, S, hq, rfl, HCS, HR, HSo, HCh⟩ := hrel
            rename World => wx
            by_cases hqt : q < M.length
            · have hvx := hvL.move (HCh.same (fun r hr h => by have hr : wo.heap.size ≤ r := hr; omega))
              obtain ⟨A', c', he, -, -, hrow⟩ := rd_ints hvx
              injection he with he1 _ he3
              subst he1
              subst he3
              rcases hrow with hnil | ⟨b, o, rfl, hbx, hcell⟩
              · rw [hnil] at hqt; simp at hqt
              obtain ⟨u, cu, hu⟩ := hcell q hqt
              obtain ⟨Au, ku, rfl, hu1, hu2, -⟩ := rd_int hu
              obtain ⟨m, hm⟩ : ∃ m, m = M[q] := ⟨_, rfl⟩
              obtain ⟨M0, hM0⟩ : ∃ M0, M0 = M.take q := ⟨_, rfl⟩
              have hmv : Hid (∀ v ∈ m, 0 ≤ v ∧ v < (k : Int)) := Lib.hid (by rw [hm]; exact HMs.out _ (List.getElem_mem hqt))
              have hCB : Hid (∀ (a : Nat) (v : Int), CB1 M0 m m.length a v ↔ CB0 (M.take (q + 1)) a v) := Lib.hid (by rw [hm, hM0]; exact fun a b => CB1_all hqt)
              have hSA : Hid (∀ v, InB (addB S m) v ↔ SomeP (M.take (q + 1)) v) := Lib.hid (by rw [hm]; exact some_add hqt HSo.out (fun v hv => by rw [HCS.ls]; rw [← hm] at hv; exact hmv.out v hv))
              have HR : RepB k C (CB1 M0 m 0) := by rw [hM0]; exact HR.congr (fun a b => CB1_zero)
              rw [← hm] at hu cu hu1
              have hux := hu
              have HAd := Lib.hid (setAddN_calls gs k k S _ m (fun r => r = gs) wx HCS.ls HCS.sm hu (fun r hr h => by have h : r = gs := h; have hr : wo.heap.size ≤ r := hr; have := HCS.sb; omega) hmv.out)
              have q0 : (0 : Int) ≤ (q : Int) := Int.natCast_nonneg _
              have q1 : (q : Int) < (M.length : Int) := by omega
              clear hcell hvx hm hM0 HSo
              go_wp2_with fail
              refine HAd.out.mono ?_
              rintro e w5 ⟨rfl, hO5, hC5⟩
              have HCS5 := HCS.setS hC5 (by rw [addB_len]; exact HCS.ls) hO5
              have HCx5 : Chg (fun r => w.heap.size ≤ r ∧ r < wo.heap.size) wx w5 := hC5.mono (fun r hr => by have hr : r = gs := hr; subst hr; exact HCS.sb)
              have HCh5 := HCh.trans HCx5
              generalize addB S m = S5 at *
              clear HAd hO5 hC5 HCS HCh hu
              have hu5 := hux
              go_wp2_with fail
              go_loopw [51] (fun i wr => ∃ (j : Nat) (C : List (List Bool)), j ≤ m.length ∧ i = .int .i64 j ∧ CSt k w.heap.size wo.heap.size go k gs k C S5 wr ∧ RepB k C (CB1 M0 m j) ∧ Chg (fun r => w.heap.size ≤ r ∧ r < wo.heap.size) w4 wr ∧ Chg (fun r => w.heap.size ≤ r ∧ r < wo.heap.size) wx wr) (fun i _ => m.length - (intOf i).toNat)
              case atStart => exact ⟨0, C, Nat.zero_le _, rfl, HCS5, HR, HCh5, HCx5⟩
              case round =>
                clear HCS5 HR HCh5 HCx5
                obtain ⟨j, C, hj, rfl, HCS, HR, HCh, HCx⟩ := hrel
                rename World => wy
                by_cases hjt : j < m.length
                · have huy := hu5.move (HCx.same (fun r hr h => by have hr : wo.heap.size ≤ r := hr; omega))
                  obtain ⟨A3, c3, he, -, -, hrow3⟩ := rd_int huy
                  injection he with he1 _ he3
                  subst he1
                  subst he3
                  rcases hrow3 with hnil | ⟨b3, o3, rfl, hb3, hc3⟩
                  · rw [hnil] at hjt; simp at hjt
                  have cx := hc3 j hjt
                  have hmj := hmv.out _ (List.getElem_mem hjt)
                  obtain ⟨a, ha⟩ := Int.eq_ofNat_of_zero_le hmj.1
                  have hak : a < k := by omega
                  have HR2 := Lib.hid (HR.add hjt hmv.out ha.symm)
                  obtain ⟨G, g, cg, cu3, hRl, hGF, hOr, hback⟩ := HCS.row (by omega) hak
                  rw [ha] at cx
                  obtain ⟨Ra, hRa⟩ : ∃ Ra, Ra = C.getD a [] := ⟨_, rfl⟩
                  rw [← hRa] at HR2 hRl hOr
                  have HAd := Lib.hid (setAddN_calls g cg k Ra _ m G wy hRl hOr huy (fun r hr h => by have hr : wo.heap.size ≤ r := hr; have := hGF r h; omega) hmv.out)
                  have j0 : (0 : Int) ≤ (j : Int) := Int.natCast_nonneg _
                  have j1 : (j : Int) < (m.length : Int) := by omega
                  have a0 : (0 : Int) ≤ (a : Int) := Int.natCast_nonneg _
                  have a1 : (a : Int) < (k : Int) := by omega
                  replace hback := Lib.hid hback
                  replace hRl := Lib.hid hRl
                  clear hc3 ha hRa hmj
                  go_wp2_with fail
                  refine HAd.out.mono ?_
                  rintro e w6 ⟨rfl, hO6, hC6⟩
                  have HCS6 := hback.out w6 _ (by rw [addB_len]; exact hRl.out) hC6 hO6
                  have hX : Chg (fun r => w.heap.size ≤ r ∧ r < wo.heap.size) wy w6 := hC6.mono (fun r hr => by have := hGF r hr; exact ⟨this.1, this.2.1⟩)
                  have HCh6 := HCh.trans hX
                  have HCx6 := HCx.trans hX
                  clear HAd hback hO6 hC6 hX HCS HCh HCx hOr huy cu3
                  go_wp2
                  go_roundw
                  case rel => exact ⟨j + 1, _, by omega, by go_num, HCS6, HR2.out, HCh6, HCx6⟩
                  case measure => simp [intOf]; omega
                · obtain rfl : j = m.length := by omega
                  have HR2 := HR.congr hCB.out
                  go_wp2
                  go_roundw
                  case rel => exact ⟨q + 1, C, S5, by omega, by go_num, HCS, HR2, hSA, HCh⟩
                  case measure => simp [intOf]; omega
            · obtain rfl : q = M.length := by omega
              rw [List.take_length] at HR HSo
              have HR := HR.congr (fun a b => CD_zero (M := M))
              go_wp2_with fail
              go_loopw [65] (fun i wr => ∃ (n : Nat) (C : List (List Bool)), n ≤ k ∧ i = .int .i64 n ∧ CSt k w.heap.size wo.heap.size go k gs k C S wr ∧ RepB k C (CD M n) ∧ Chg (fun r => w.heap.size ≤ r ∧ r < wo.heap.size) w4 wr) (fun i _ => k - (intOf i).toNat)
              case atStart => exact ⟨0, C, Nat.zero_le _, rfl, HCS, HR, HCh⟩
              case round =>
                clear HCS HR HCh
                obtain ⟨n, C, hn, rfl, HCS, HR, HCh⟩ := hrel
                rename World => wz
                by_cases hnt : n < k
                · obtain ⟨G, g, cg, cu3, hRl, hGF, hOr, hback⟩ := HCS.row (by omega) hnt
                  have hR2 := HR.diag hnt
                  have hnl : n < (C.getD n []).length := by omega
                  have hO6 := hOr.set1 rfl hnl (y := false) (u := .bool false) rfl
                  obtain ⟨d1, d2⟩ := bool_at hOr hnl
                  have hgG := (hOr.lt_size (k := g) rfl).1
                  have hC6 : Chg G wz (wz.setCell ⟨g, n, none⟩ (.bool false)) := Chg.set hgG
                  have HCS6 := hback _ _ (by rw [List.length_set]; exact hRl) hC6 hO6
                  have HCh6 := HCh.trans (hC6.mono (fun r hr => by have := hGF r hr; exact ⟨this.1, this.2.1⟩))
                  have n0 : (0 : Int) ≤ (n : Int) := Int.natCast_nonneg _
                  have n1 : (n : Int) < (k : Int) := by omega
                  clear HCS HCh hback hOr hO6 hC6 HR
                  generalize (C.getD n [])[n] = yb at *
                  go_wp2
                  go_roundw
                  case rel => exact ⟨n + 1, _, by omega, by go_num, HCS6, hR2, HCh6⟩
                  case measure => simp [intOf]; omega
                · obtain rfl : n = k := by omega
                  have hM := hM.out
                  subst hM
                  have hfin := HR.congr (fun a b => CD_all (N := n) HMs.out)
                  have HBe := HCh.to_below HB4 HB4.size (fun r hr => hr.1)
                  obtain ⟨FO, hFO, hOO⟩ := HCS.ex
                  go_wp2
                  refine bodyPost_ret (v := .tuple #[.slice (some ⟨go, 0, none⟩) n n, .slice (some ⟨gs, 0, none⟩) n n]) (by simp [results, Try.results69, go_sem]) rfl ?_
                  exact .mk go n gs n C S rfl (hOO.mono (fun r hr => (hFO r hr).1)) (HCS.sm.mono (fun r hr => by have hr : r = gs := hr; have := HCS.sb; omega)) hfin HCS.ls HSo HBe
end Go.Proofs.Ytmcnoeinjocimaa.L

set_option linter.unusedVariables false
set_option linter.unusedSimpArgs false
namespace Go.Proofs.Ytmcnoeinjocimaa.L
open Go.RowKit
/-- The rows of the reference's clashes as they lie. -/
structure RSt (N go B : Nat) (C : List (List Int)) (w : World) : Prop where
  lt : go < B
  le : B ≤ w.heap.size
  ex : Ow false 35 (Rp.sl Rp.int) w (fun q => q = go ∨ B ≤ q) (.slice (some ⟨go, 0, none⟩) N N) C
theorem RSt.row {N go B : Nat} {C : List (List Int)} {w : World} (h : RSt N go B C w) {k : Nat} (hk : k < C.length) :
    ∃ A c, w.cell? ⟨go, k, none⟩ = some (.slice A (C.getD k []).length c) ∧ w.frozen? ⟨go, k, none⟩ = false ∧ Rp.Rd Rp.int w (fun q => B ≤ q) (.slice A (C.getD k []).length c) (C.getD k []) := by
  obtain ⟨A, c, h1, h2, h3⟩ := rd_ints_row h.ex hk
  exact ⟨A, c, h1, h2, h3.mono (fun q hq => by rcases hq with ⟨hq | hq, hn⟩; exact absurd hq hn; exact hq)⟩
theorem RSt.below {N go B : Nat} {C : List (List Int)} {w w' : World} (h : RSt N go B C w) (hb : Below w.heap.size w w') : RSt N go B C w' := ⟨h.lt, Nat.le_trans h.le hb.size, h.ex.below hb⟩
theorem RSt.put {N go B : Nat} {C : List (List Int)} {w : World} (h : RSt N go B C w) {k : Nat} (hk : k < C.length) {y : List Int} {u : Value} (hy : Rp.Rd Rp.int w (fun q => B ≤ q) u y) : RSt N go B (C.set k y) (w.setCell ⟨go, k, none⟩ u) :=
  ⟨h.lt, by rw [show (w.setCell ⟨go, k, none⟩ u).heap.size = w.heap.size by simp]; exact h.le, (h.ex.put_loose (G := fun q => B ≤ q) rfl hk ⟨_, rfl, hy⟩ (fun q hq he => by have := h.lt; have hq : B ≤ q := hq; omega)).mono (fun q hq => by rcases hq with hq | hq; exact hq; exact .inr hq)⟩
set_option maxRecDepth 100000 in
set_option maxHeartbeats 8000000 in
theorem l10Clashes_calls {F : Nat → Prop} (s : Sa) (N : Nat) (vparts : Value) (w : World) (hs : Rp.Rd part w F vparts s.parts) (hg : GoodP s) (hx2 : ∀ p ∈ s.parts, PtLim p) (hNV : (N : Int) = s.values) :
    Calls Try.prog 68 #[saV s vparts] w fun e w' => ∃ v' C, e = .returned v' ∧ Rp.Rd (Rp.sl Rp.int) w' (fun q => w.heap.size ≤ q) v' C ∧ Rep N C (ClP (momS s)) ∧ Below w.heap.size w w' := by
  obtain ⟨A, c, rfl, hlc, hcm, hrow⟩ := rd_part hs
  have hv1 := hg.v1
  have hv2 := hg.v2
  have hN0 : 0 < N := by omega
  have hN1 : N ≤ 250 := by omega
  have HD := Lib.hid (fun W (hW : Below w.heap.size w W) => l10Moments_calls s _ W (hs.below hW) hg hx2)
  have HMs : Hid (∀ m ∈ momS s, ∀ v ∈ m, 0 ≤ v ∧ v < (N : Int)) := Lib.hid (fun m hm v hv => by have := (momS_sets hg m hm).2 v hv; omega)
  unfold saV at HD ⊢
  rw [← hNV] at HD ⊢
  have hB0 : Below w.heap.size w (w.alloc (.cells #[.slice A s.parts.length c, .int .i64 (N : Int)] 29)) := below_new _
  have b0 := heap_alloc_new w (.cells #[.slice A s.parts.length c, .int .i64 (N : Int)] 29)
  have hz0 : (w.alloc (.cells #[.slice A s.parts.length c, .int .i64 (N : Int)] 29)).heap.size = w.heap.size + 1 := by simp
  obtain ⟨M, hM⟩ : ∃ M, M = momS s := ⟨_, rfl⟩
  rw [← hM] at HD HMs ⊢
  have hmk := mk_all Try.underlying41 infoInts N (by omega) (by omega)
  clear hM hv1 hv2 hrow hs
  replace hNV := Lib.hid hNV
  go_enter Try.func68, Try.ntmps68
  go_wp2_with fail
  obtain ⟨W0, hW0⟩ : ∃ W0, W0 = w.alloc (.cells #[.slice A s.parts.length c, .int .i64 (N : Int)] 29) := ⟨_, rfl⟩
  rw [← hW0] at hB0 b0 hz0 ⊢
  clear hW0
  have hb1 := below_new (w := W0) (.cells (madeCells #[.slice none 0 0] N) 35)
  have hO1 := ow_allocE (e := 35) (n := N) (r := Rp.sl Rp.int) (z := .slice none 0 0) (x0 := []) W0 (by omega) rfl (fun w => ⟨_, rfl, Rp.Rd.nil _ _ _⟩)
  have hsz1 : (W0.alloc (.cells (madeCells #[.slice none 0 0] N) 35)).heap.size = W0.heap.size + 1 := by simp
  obtain ⟨W1, hW1⟩ : ∃ W1, W1 = W0.alloc (.cells (madeCells #[.slice none 0 0] N) 35) := ⟨_, rfl⟩
  rw [← hW1] at hb1 hO1 hsz1 ⊢
  clear hW1
  obtain ⟨go, hgo⟩ : ∃ go, go = W0.heap.size := ⟨_, rfl⟩
  rw [← hgo] at hO1 hsz1
  have hB1 := below_then hB0 hb1
  have hsB := hB0.size
  rw [← hgo] at hsB
  have hgw : go = w.heap.size + 1 := by omega
  rw [← hgw]
  have hgl : w.heap.size ≤ go := by omega
  clear hgw
  clear hgo b0 hb1 hB0
  refine (HD.out _ hB1).mono ?_
  rintro e w2 ⟨vL, rfl, hvL, hb2⟩
  have hB2 := below_then hB1 hb2
  have hs2 := hb2.size
  have HR0 : RSt N go w2.heap.size (List.replicate N []) w2 := ⟨by omega, Nat.le_refl _, (hO1.loose.below hb2).mono (fun q hq => .inl hq)⟩
  have hvL := hvL.bound
  obtain ⟨AL, cL, rfl, hl1, hl2, -⟩ := rd_ints hvL
  have HN0 := Rep.nil N
  clear HD hb2 hB1 hO1 hz0
  go_wp2_with fail
  go_loopw [16] (fun i wr => ∃ (q : Nat) (C : List (List Int)), q ≤ M.length ∧ i = .int .i64 q ∧ RSt N go w2.heap.size C wr ∧ Rep N C (ClP (M.take q)) ∧ Chg (fun r => r = go) w2 wr) (fun i _ => M.length - (intOf i).toNat)
  case atStart => exact ⟨0, _, Nat.zero_le _, rfl, HR0, HN0.congr (fun a b => by simp [ClP]), Chg.refl _ _⟩
  case round =>
    clear HR0 HN0
    obtain ⟨q, C, hq, rfl, HCS, HR, HCh⟩ := hrel
    rename World => wx
    by_cases hqt : q < M.length
    · have hvx := hvL.move (HCh.same (fun r hr h => by have hr2 := hr.1; have h : r = go := h; omega))
      obtain ⟨A', c', he, -, -, hrow⟩ := rd_ints hvx
      injection he with he1 _ he3
      subst he1
      subst he3
      rcases hrow with hnil | ⟨b, o, rfl, hbx, hcell⟩
      · rw [hnil] at hqt; simp at hqt
      obtain ⟨u, cu, hu⟩ := hcell q hqt
      obtain ⟨Au, ku, rfl, hu1, hu2, -⟩ := rd_int hu
      have hmv := Lib.hid (HMs.out _ (List.getElem_mem hqt))
      have q0 : (0 : Int) ≤ (q : Int) := Int.natCast_nonneg _
      have q1 : (q : Int) < (M.length : Int) := by omega
      clear hcell hvx
      obtain ⟨m, hm⟩ : ∃ m, m = M[q] := ⟨_, rfl⟩
      obtain ⟨M0, hM0⟩ : ∃ M0, M0 = M.take q := ⟨_, rfl⟩
      have hCB : Hid (∀ (k : Nat) (v : Int), CS1 M0 m m.length k v ↔ ClP (M.take (q + 1)) k v) := Lib.hid (by rw [hm, hM0]; exact fun k v => CS1_all hqt)
      have HR : Rep N C (CS1 M0 m 0) := by rw [hM0]; exact HR.congr (fun k v => CS1_zero.symm)
      rw [← hm] at hu cu hu1 hmv
      clear hm hM0
      go_wp2_with fail
      go_loopw [22] (fun i wr => ∃ (j : Nat) (C : List (List Int)), j ≤ m.length ∧ i = .int .i64 j ∧ RSt N go w2.heap.size C wr ∧ Rep N C (CS1 M0 m j) ∧ Chg (fun r => r = go) w2 wr ∧ Chg (fun r => r = go) wx wr) (fun i _ => m.length - (intOf i).toNat)
      case atStart => exact ⟨0, C, Nat.zero_le _, rfl, HCS, HR, HCh, Chg.refl _ _⟩
      case round =>
        clear HCS HR HCh
        obtain ⟨j, C, hj, rfl, HCS, HR, HCh, HCx⟩ := hrel
        rename World => wy
        by_cases hjt : j < m.length
        · have huy := hu.move (HCx.same (fun r hr h => by have hr2 := hr.1; have h : r = go := h; omega))
          obtain ⟨A3, c3, he, -, -, hrow3⟩ := rd_int huy
          injection he with he1 _ he3
          subst he1
          subst he3
          rcases hrow3 with hnil | ⟨b3, o3, rfl, hb3, hc3⟩
          · rw [hnil] at hjt; simp at hjt
          have cx := hc3 j hjt
          have hmj := hmv.out _ (List.getElem_mem hjt)
          have HR : Rep N C (CS2 M0 m j m[j] 0) := HR.congr (fun k v => CS2_zero.symm)
          have hCA : Hid (∀ (k : Nat) (v : Int), CS2 M0 m j m[j] m.length k v ↔ CS1 M0 m (j + 1) k v) := Lib.hid (fun k v => CS2_all hjt)
          have hSk : Hid (∀ (i : Nat) (hi : i < m.length), (m[j] = m[i] ∨ ∃ a : Nat, (a : Int) = m[j] ∧ CS2 M0 m j m[j] i a m[i]) → ∀ (k : Nat) (v : Int), CS2 M0 m j m[j] i k v ↔ CS2 M0 m j m[j] (i + 1) k v) := Lib.hid (fun i hi h k v => CS2_skip hi h)
          have hPt : Hid (∀ (i : Nat) (hi : i < m.length), m[j] ≠ m[i] → ∀ a : Nat, (a : Int) = m[j] → ∀ (k : Nat) (v : Int), CS2 M0 m j m[j] (i + 1) k v ↔ (CS2 M0 m j m[j] i k v ∨ (k = a ∧ v = m[i]))) := Lib.hid (fun i hi h a ha k v => CS2_put hi h ha)
          obtain ⟨x, hx⟩ : ∃ x, x = m[j] := ⟨_, rfl⟩
          rw [← hx] at cx hmj HR hCA hSk hPt
          clear hx
          obtain ⟨a, rfl⟩ := Int.eq_ofNat_of_zero_le hmj.1
          have haN : a < N := by omega
          have j0 : (0 : Int) ≤ (j : Int) := Int.natCast_nonneg _
          have j1 : (j : Int) < (m.length : Int) := by omega
          clear hc3
          go_wp2_with fail
          clear cx
          go_loopw [28] (fun i wr => ∃ (n : Nat) (C : List (List Int)), n ≤ m.length ∧ i = .int .i64 n ∧ RSt N go w2.heap.size C wr ∧ Rep N C (CS2 M0 m j a n) ∧ Chg (fun r => r = go) w2 wr ∧ Chg (fun r => r = go) wy wr) (fun i _ => m.length - (intOf i).toNat)
          case atStart => exact ⟨0, C, Nat.zero_le _, rfl, HCS, HR, HCh, Chg.refl _ _⟩
          case round =>
            clear HCS HR HCh
            obtain ⟨n, C, hn, rfl, HCS, HR, HCh, HCy⟩ := hrel
            rename World => wz
            by_cases hnt : n < m.length
            · have huz := huy.move (HCy.same (fun r hr h => by have hr2 := hr.1; have h : r = go := h; omega))
              obtain ⟨A4, c4, he, -, -, hrow4⟩ := rd_int huz
              injection he with he1 _ he3
              subst he1
              subst he3
              rcases hrow4 with hnil | ⟨b4, o4, he4, hb4, hc4⟩
              · rw [hnil] at hnt; simp at hnt
              injection he4 with he4
              injection he4 with he5 he6 _
              subst he5
              subst he6
              have cy := hc4 n hnt
              have hmn := hmv.out _ (List.getElem_mem hnt)
              have hSk1 := Lib.hid (hSk.out n hnt)
              have hPt1 := Lib.hid (fun h => hPt.out n hnt h a rfl)
              have n0 : (0 : Int) ≤ (n : Int) := Int.natCast_nonneg _
              have n1 : (n : Int) < (m.length : Int) := by omega
              have a0 : (0 : Int) ≤ (a : Int) := Int.natCast_nonneg _
              have a1 : (a : Int) < (N : Int) := by omega
              have haC : a < C.length := by rw [HR.ln]; exact haN
              obtain ⟨Ar, cr, cur, fur, hRd⟩ := HCS.row haC
              have hlr := HR.len a
              have HHas : Hid (∀ v, v ∈ C.getD a [] ↔ CS2 M0 m j a n a v) := Lib.hid (HR.iff a)
              have HPutR : Hid (∀ (b : Int) (Q : Nat → Int → Prop), 0 ≤ b ∧ b < (N : Int) → (∀ k v, Q k v ↔ (CS2 M0 m j a n k v ∨ (k = a ∧ v = b))) → Rep N (C.set a (putL (C.getD a []) b)) Q) := Lib.hid (fun b Q hb e => HR.put haN hb e)
              obtain ⟨Ra, hRa⟩ : ∃ Ra, Ra = C.getD a [] := ⟨_, rfl⟩
              rw [← hRa] at cur hRd hlr HHas HPutR
              clear hRa
              clear hc4 huz
              generalize m[n] = y at *
              by_cases hay : (a : Int) = y
              · have HR2 := HR.congr (hSk1.out (.inl hay))
                clear hSk1 hPt1 cur fur hRd
                subst hay
                go_wp2_with fail
                go_roundw
                case rel => exact ⟨n + 1, C, by omega, by go_num, HCS, HR2, HCh, HCy⟩
                case measure => simp [intOf]; omega
              · have hHas := Lib.hid (l1Has_calls _ Ra y wz hRd)
                go_wp2_with fail
                refine hHas.out.mono ?_
                rintro e w5 ⟨rfl, hb5⟩
                have HCS5 := HCS.below hb5
                have HCh5 := HCh.trans (Chg.of_below hb5)
                have HCy5 := HCy.trans (Chg.of_below hb5)
                have cur := cell_below hb5 cur
                have hRd := hRd.below hb5
                have hle5 := HCS5.le
                clear HCS HCh HCy hHas
                cases hcon : Ra.contains y
                · have HR2 := Lib.hid (HPutR.out y _ hmn (fun k v => hPt1.out hay k v))
                  have fur5 := (HCS5.row haC)
                  obtain ⟨_, _, _, fur5, _⟩ := fur5
                  have hPut := Lib.hid (l1Put_calls _ Ra y w5 hRd (by omega))
                  clear hSk1 hPt1 hcon
                  go_wp2_with fail
                  refine hPut.out.mono ?_
                  rintro e w6 ⟨v6, rfl, hv6, hb6⟩
                  have HCS6 := HCS5.below hb6
                  have hv6 := hv6.mono (G := fun q => w2.heap.size ≤ q) (fun q hq => by rcases hq with hq | hq; exact hq; omega)
                  obtain ⟨A6, c6, hv6e, _⟩ := id hv6
                  subst hv6e
                  have HCS7 := HCS6.put haC hv6
                  obtain ⟨_, _, cur6, fur6, _⟩ := HCS6.row haC
                  have HCX := (Chg.of_below (A := fun r => r = go) hb6).trans (Chg.set (o := a) (u := .slice A6 (putL Ra y).length c6) rfl)
                  have HCh6 := HCh5.trans HCX
                  have HCy6 := HCy5.trans HCX
                  clear hPut HCS5 HCS6 HCh5 HCy5 HCX cur fur5 hv6 hRd
                  go_wp2
                  go_roundw
                  case rel => exact ⟨n + 1, _, by omega, by go_num, HCS7, HR2.out, HCh6, HCy6⟩
                  case measure => simp [intOf]; omega
                · have hin : CS2 M0 m j a n a y := (HHas.out y).1 (by simpa using hcon)
                  have HR2 := HR.congr (hSk1.out (.inr ⟨a, rfl, hin⟩))
                  clear hSk1 hPt1 hin hcon cur fur hRd
                  go_wp2
                  go_roundw
                  case rel => exact ⟨n + 1, C, by omega, by go_num, HCS5, HR2, HCh5, HCy5⟩
                  case measure => simp [intOf]; omega
            · obtain rfl : n = m.length := by omega
              have HR2 := HR.congr hCA.out
              have HCx2 := HCx.trans HCy
              go_wp2
              go_roundw
              case rel => exact ⟨j + 1, C, by omega, by go_num, HCS, HR2, HCh, HCx2⟩
              case measure => simp [intOf]; omega
        · obtain rfl : j = m.length := by omega
          have HR2 := HR.congr hCB.out
          go_wp2
          go_roundw
          case rel => exact ⟨q + 1, C, by omega, by go_num, HCS, HR2, HCh⟩
          case measure => simp [intOf]; omega
    · obtain rfl : q = M.length := by omega
      rw [List.take_length] at HR
      have HBe := HCh.to_below hB2 hB2.size (fun r hr => by have hr : r = go := hr; omega)
      go_wp2
      go_ret
      have hs2b := hB2.size
      have hfin := HCS.ex.mono (G := fun q => w.heap.size ≤ q) (fun q hq => by rcases hq with hq | hq <;> omega)
      exact ⟨_, C, rfl, hfin.rd, HR, HBe⟩
end Go.Proofs.Ytmcnoeinjocimaa.L
