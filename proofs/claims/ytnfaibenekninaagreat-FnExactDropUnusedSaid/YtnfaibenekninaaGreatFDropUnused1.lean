/- Joined texts, each of which was built by itself: Px1 Px3 Px2 Px4 Is1 Px10 Px5 Df2. -/
import Derived.Test.YtnfaibenekninaaGreatB13
import Derived.Test.YtnfaibenekninaaGreatB10
import Derived.Test.YtnfaibenekninaaGreatB12
import Derived.Deep.RegionHeld3
import Derived.Lib.SliceRun
set_option linter.unusedVariables false
set_option linter.unusedSimpArgs false
namespace Go.Proofs.YtnfaibenekninaaGreat.L
open Go.RowKit
theorem GoodP.static {s : Sa} (h : GoodP s) {p : Pt} (hp : p ∈ s.parts) : staticI s p = true := (static_iff h.v1).2 ⟨h.nx p hp, h.pt p hp⟩
theorem static_args {s : Sa} {p : Pt} (h : staticI s p = true) : p.next.length ≤ p.args.length := by
  unfold staticI at h
  simp only [Bool.and_eq_true] at h
  obtain ⟨⟨⟨hc, hg⟩, h0⟩, ha⟩ := h
  unfold argsS at ha
  split at ha
  · rename_i h3
    unfold goB at hg
    simp only [Bool.and_eq_true] at hg
    have hg := hg.2
    rw [beq_iff_eq] at h3
    rw [h3] at hg
    have h0 : p.next.length = 0 := by simpa using hg
    omega
  · rw [fitS_len _ _ _ ha]; exact Nat.le_refl _
def edgesN (l : List Pt) (k : Int) : Nat := (l.map (fun p : Pt => p.next.count k)).sum
theorem edgesN_take {l : List Pt} {j : Nat} (hj : j < l.length) (k : Int) : edgesN (l.take (j + 1)) k = edgesN (l.take j) k + l[j].next.count k := by
  unfold edgesN
  rw [List.take_succ_eq_append_getElem hj, List.map_append, List.sum_append]; simp
theorem count_take {l : List Int} {j : Nat} (hj : j < l.length) (k : Int) : (l.take (j + 1)).count k = (l.take j).count k + (if l[j] = k then 1 else 0) := by
  rw [List.take_succ_eq_append_getElem hj, List.count_append, List.count_singleton]
  by_cases h : l[j] = k <;> simp [h]
theorem edgesN_le {l : List Pt} {k : Int} (h : ∀ p ∈ l, p.next.length ≤ 1048576) : edgesN l k ≤ l.length * 1048576 := by
  induction l with
  | nil => simp [edgesN]
  | cons p t ih =>
    have h1 := ih (fun q hq => h q (List.mem_cons_of_mem _ hq))
    have h2 := h p List.mem_cons_self
    have h3 := List.count_le_length (a := k) (l := p.next)
    unfold edgesN at h1 ⊢
    simp only [List.map_cons, List.sum_cons, List.length_cons, Nat.succ_mul]
    omega
/-- An edge is critical and has Args. -/
def critB (l : List Pt) (p : Pt) (i : Nat) : Bool := decide (1 < p.next.length) && decide (1 < edgesN l (p.next.getD i 0)) && decide (0 < (p.args.getD i []).length)
def splitB (s : Sa) : Bool := s.parts.all (fun p => (List.range p.next.length).all (fun i => !critB s.parts p i))
end Go.Proofs.YtnfaibenekninaaGreat.L

set_option linter.unusedVariables false
set_option linter.unusedSimpArgs false
namespace Go.Proofs.YtnfaibenekninaaGreat.L
open Go.RowKit
/-- A value is needed ahead of a part. -/
inductive LvI (s : Sa) : Nat → Int → Prop
  | own {k : Nat} {p : Pt} {v : Int} (hp : s.parts[k]? = some p) (h : v ∈ endsS p ∨ v ∈ p.code.flatMap usesS) (hn : v ∉ ownS p) : LvI s k v
  | flow {k : Nat} {p : Pt} {x v : Int} (hp : s.parts[k]? = some p) (hx : x ∈ p.next) (h : LvI s x.toNat v) (hn : v ∉ ownS p) : LvI s k v
/-- A value is needed behind a part, given what is needed ahead of each. -/
def BhP (I : Nat → Int → Prop) (p : Pt) (v : Int) : Prop := v ∈ endsS p ∨ ∃ x ∈ p.next, I x.toNat v
def LvO (s : Sa) (k : Nat) (v : Int) : Prop := ∃ p, s.parts[k]? = some p ∧ BhP (LvI s) p v
/-- .. and ahead of it. -/
def AhP (I : Nat → Int → Prop) (p : Pt) (v : Int) : Prop := (BhP I p v ∨ v ∈ p.code.flatMap usesS) ∧ v ∉ ownS p
theorem LvI.ah {s : Sa} {k : Nat} {v : Int} (h : LvI s k v) : ∃ p, s.parts[k]? = some p ∧ AhP (LvI s) p v := by
  cases h with
  | own hp h hn => exact ⟨_, hp, by rcases h with h | h; exact .inl (.inl h); exact .inr h, hn⟩
  | flow hp hx h hn => exact ⟨_, hp, .inl (.inr ⟨_, hx, h⟩), hn⟩
theorem LvI.of_ah {s : Sa} {k : Nat} {p : Pt} {v : Int} (hp : s.parts[k]? = some p) (h : AhP (LvI s) p v) : LvI s k v := by
  obtain ⟨(h | ⟨x, hx, h⟩) | h, hn⟩ := h
  · exact .own hp (.inl h) hn
  · exact .flow hp hx h hn
  · exact .own hp (.inr h) hn
theorem BhP.mono {I J : Nat → Int → Prop} {p : Pt} {v : Int} (h : BhP I p v) (hIJ : ∀ k v, I k v → J k v) : BhP J p v := by
  rcases h with h | ⟨x, hx, h⟩
  · exact .inl h
  · exact .inr ⟨x, hx, hIJ _ _ h⟩
theorem AhP.mono {I J : Nat → Int → Prop} {p : Pt} {v : Int} (h : AhP I p v) (hIJ : ∀ k v, I k v → J k v) : AhP J p v :=
  ⟨h.1.imp (fun h => h.mono hIJ) id, h.2⟩
/-- What holds no more than is needed, and all that its own rules ask, is what is needed. -/
theorem LvI.least {s : Sa} {I : Nat → Int → Prop} (hc : ∀ (k : Nat) (p : Pt), s.parts[k]? = some p → ∀ v, AhP I p v → I k v) : ∀ {k v}, LvI s k v → I k v := by
  intro k v h
  induction h with
  | own hp h hn => exact hc _ _ hp _ ⟨by rcases h with h | h; exact .inl (.inl h); exact .inr h, hn⟩
  | flow hp hx h hn ih => exact hc _ _ hp _ ⟨.inl (.inr ⟨_, hx, ih⟩), hn⟩
/-- Lists that grow. -/
def Inc (l : List Int) : Prop := l.Pairwise (· < ·)
theorem Inc.nil : Inc [] := List.Pairwise.nil
theorem Inc.putL {l : List Int} (h : Inc l) (n : Int) : Inc (putL l n) := by
  induction l with
  | nil => exact List.pairwise_singleton _ _
  | cons x t ih =>
    obtain ⟨h1, h2⟩ := List.pairwise_cons.1 h
    simp only [L.putL]
    split
    · refine List.pairwise_cons.2 ⟨fun y hy => ?_, ih h2⟩
      rcases (mem_putL t n y).1 hy with rfl | hy
      · assumption
      · exact h1 y hy
    · split
      · exact h
      · refine List.pairwise_cons.2 ⟨fun y hy => ?_, h⟩
        rcases List.mem_cons.1 hy with rfl | hy
        · omega
        · have := h1 y hy; omega
theorem Inc.foldl {l : List Int} : ∀ {m : List Int}, Inc m → Inc (l.foldl L.putL m) := by
  induction l with
  | nil => intro m h; exact h
  | cons x t ih => intro m h; exact ih (h.putL x)
theorem mem_foldl_putL {l : List Int} : ∀ {m : List Int} {v : Int}, v ∈ l.foldl putL m ↔ v ∈ l ∨ v ∈ m := by
  induction l with
  | nil => intro m v; simp
  | cons x t ih =>
    intro m v
    rw [List.foldl_cons, ih, mem_putL, List.mem_cons]
    constructor
    · rintro (h | h | h); exact .inl (.inr h); exact .inl (.inl h); exact .inr h
    · rintro ((h | h) | h); exact .inr (.inl h); exact .inl h; exact .inr (.inr h)
theorem Inc.filter {l : List Int} (h : Inc l) (f : Int → Bool) : Inc (l.filter f) := List.Pairwise.filter f h
theorem Inc.ext {l m : List Int} (hl : Inc l) (hm : Inc m) (h : ∀ v, v ∈ l ↔ v ∈ m) : l = m := by
  induction l generalizing m with
  | nil => cases m with
    | nil => rfl
    | cons y t => exact absurd ((h y).2 List.mem_cons_self) (by simp)
  | cons x t ih =>
    cases m with
    | nil => exact absurd ((h x).1 List.mem_cons_self) (by simp)
    | cons y u =>
      obtain ⟨a1, a2⟩ := List.pairwise_cons.1 hl
      obtain ⟨b1, b2⟩ := List.pairwise_cons.1 hm
      have hxy : x = y := by
        rcases List.mem_cons.1 ((h x).1 List.mem_cons_self) with e | e
        · exact e
        · rcases List.mem_cons.1 ((h y).2 List.mem_cons_self) with e2 | e2
          · exact e2.symm
          · have := b1 x e; have := a1 y e2; omega
      subst hxy
      congr 1
      refine ih a2 b2 fun v => ⟨fun hv => ?_, fun hv => ?_⟩
      · rcases List.mem_cons.1 ((h v).1 (List.mem_cons_of_mem _ hv)) with e | e
        · subst e; exact absurd (a1 v hv) (by omega)
        · exact e
      · rcases List.mem_cons.1 ((h v).2 (List.mem_cons_of_mem _ hv)) with e | e
        · subst e; exact absurd (b1 v hv) (by omega)
        · exact e
/-- A list that grows, of values below a bound. -/
theorem Inc.length_le {l : List Int} (h : Inc l) {V : Int} (hV : 0 ≤ V) (h0 : ∀ v ∈ l, 0 ≤ v ∧ v < V) : (l.length : Int) ≤ V := by
  have key : ∀ (l : List Int) (a : Int), Inc l → (∀ v ∈ l, a ≤ v ∧ v < V) → a ≤ V → a + l.length ≤ V := by
    intro l
    induction l with
    | nil => intro a _ _ h; simpa using h
    | cons x t ih =>
      intro a hi hr ha
      obtain ⟨h1, h2⟩ := List.pairwise_cons.1 hi
      have hx := hr x List.mem_cons_self
      have := ih (x + 1) h2 (fun v hv => ⟨by have := h1 v hv; omega, (hr v (List.mem_cons_of_mem _ hv)).2⟩) (by omega)
      rw [List.length_cons]; omega
  have := key l 0 h (fun v hv => h0 v hv) hV
  omega
theorem Inc.sub_eq {l m : List Int} (hl : Inc l) (hm : Inc m) (h : ∀ v ∈ l, v ∈ m) (hn : m.length ≤ l.length) : l = m := by
  induction l generalizing m with
  | nil => cases m with
    | nil => rfl
    | cons y t => simp at hn
  | cons x t ih =>
    cases m with
    | nil => exact absurd (h x List.mem_cons_self) (by simp)
    | cons y u =>
      obtain ⟨a1, a2⟩ := List.pairwise_cons.1 hl
      obtain ⟨b1, b2⟩ := List.pairwise_cons.1 hm
      simp only [List.length_cons] at hn
      have ht : ∀ v ∈ t, v ∈ u := fun v hv => by
        rcases List.mem_cons.1 (h v (List.mem_cons_of_mem _ hv)) with e | e
        · rcases List.mem_cons.1 (h x List.mem_cons_self) with e2 | e2
          · have := a1 v hv; omega
          · have := a1 v hv; have := b1 x e2; omega
        · exact e
      have htu := ih a2 b2 ht (by omega)
      subst htu
      rcases List.mem_cons.1 (h x List.mem_cons_self) with e | e
      · rw [e]
      · exact absurd (a1 x e) (by omega)
open Classical in
/-- A set as a list. -/
noncomputable def listP (P : Int → Prop) (V : Nat) : List Int := ((List.range V).map (fun n : Nat => (n : Int))).filter (fun v => decide (P v))
theorem listP_inc (P : Int → Prop) (V : Nat) : Inc (listP P V) := by
  unfold listP
  refine Inc.filter ?_ _
  unfold Inc
  rw [List.pairwise_map]
  exact List.pairwise_lt_range.imp (fun h => by omega)
theorem mem_listP {P : Int → Prop} {V : Nat} {v : Int} : v ∈ listP P V ↔ (0 ≤ v ∧ v < V) ∧ P v := by
  unfold listP
  rw [List.mem_filter, List.mem_map]
  constructor
  · rintro ⟨⟨n, hn, rfl⟩, h2⟩
    exact ⟨⟨by omega, by have := List.mem_range.1 hn; omega⟩, by simpa using h2⟩
  · rintro ⟨⟨h1, h2⟩, h3⟩
    exact ⟨⟨v.toNat, List.mem_range.2 (by omega), by omega⟩, by simpa using h3⟩
end Go.Proofs.YtnfaibenekninaaGreat.L

set_option linter.unusedVariables false
set_option linter.unusedSimpArgs false
namespace Go.Proofs.YtnfaibenekninaaGreat.L
open Go.RowKit
theorem defs_eq {s : Sa} {D T : List Int} {M : List (List Bool)} (h : GoodV s D T M) : (defsS s).getD [] = List.replicate 12 0 ++ D.drop 12 ∧ (D.length : Int) = s.values := by
  obtain ⟨h1, h2, S, h3, h4⟩ := (sim_parts h.v1 s.parts 0 _ _ (List.replicate s.values.toNat 0) (by omega) (rel0 h.v1)).1 D T h.ps
  have hd : defsS s = some S := h3
  have hv := h.v1
  have hl1 := h4.l1
  have hl2 := h4.l2
  rw [hd]
  refine ⟨?_, hl2⟩
  show S = _
  apply List.ext_getElem
  · rw [List.length_append, List.length_replicate, List.length_drop]; omega
  intro i a b
  have e : S[i] = S.getD i 0 := by rw [List.getD_eq_getElem?_getD, List.getElem?_eq_getElem a]; rfl
  rw [e]
  by_cases hi : i < 12
  · rw [h4.lo i hi, List.getElem_append_left (by rw [List.length_replicate]; exact hi), List.getElem_replicate]
  · rw [h4.hi i (by omega), List.getElem_append_right (by rw [List.length_replicate]; omega), List.getElem_drop, List.getD_eq_getElem?_getD]
    simp only [List.length_replicate]
    have hi2 : 12 + (i - 12) = i := by omega
    rw [List.getElem?_eq_getElem (show i < D.length by omega)]
    simp only [hi2, Option.getD_some]
end Go.Proofs.YtnfaibenekninaaGreat.L

set_option linter.unusedVariables false
set_option linter.unusedSimpArgs false
namespace Go.Proofs.YtnfaibenekninaaGreat.L
open Go.RowKit
theorem GoodP.rel {s : Sa} (h : GoodP s) : ∃ D T S, defsS s = some S ∧ Rel s.values S D ∧ partsI s 0 s.parts (List.replicate s.values.toNat (-1)) (List.replicate s.values.toNat 0) = some (D, T) := by
  obtain ⟨D, T, M, hg⟩ := (good_iff s).2 h
  obtain ⟨h1, h2, S, h3, h4⟩ := (sim_parts hg.v1 s.parts 0 _ _ (List.replicate s.values.toNat 0) (by omega) (rel0 hg.v1)).1 D T hg.ps
  exact ⟨D, T, S, h3, h4, hg.ps⟩
theorem GoodP.own_def {s : Sa} (h : GoodP s) {q : Nat} {p : Pt} (hq : s.parts[q]? = some p) {v : Int} (hv : v ∈ ownS p) : 12 ≤ v ∧ v < s.values ∧ ((defsS s).getD [])[v.toNat]! = q := by
  obtain ⟨D, T, S, h1, h2, h3⟩ := h.rel
  have hV := h.v1
  have hl1 : ((List.replicate s.values.toNat (-1 : Int)).length : Int) = s.values := by rw [List.length_replicate]; omega
  have hl2 : ((List.replicate s.values.toNat (0 : Int)).length : Int) = s.values := by rw [List.length_replicate]; omega
  obtain ⟨-, -, a3, -⟩ := partsI_spec s.parts 0 _ _ D T (by omega) hl1 hl2 h3
  rw [← items_fst] at hv
  obtain ⟨x, hx, rfl⟩ := List.mem_map.1 hv
  obtain ⟨b1, b2, b3, _⟩ := a3 q p hq x hx
  refine ⟨b1, b2, ?_⟩
  have hS := h2.l1
  rw [h1]
  show S[x.1.toNat]! = _
  rw [getD_bang S _ (by omega), h2.hi _ (by omega), b3]
  omega
theorem GoodP.defs_len {s : Sa} (h : GoodP s) : (((defsS s).getD []).length : Int) = s.values := by
  obtain ⟨D, T, S, h1, h2, h3⟩ := h.rel
  rw [h1]; exact h2.l1
theorem GoodP.use_far {s : Sa} (h : GoodP s) {q : Nat} {p : Pt} (hq : s.parts[q]? = some p) {j : Nat} {x : Fl} (hx : p.code[j]? = some x) {v : Int} (hv : v ∈ usesS x) (ho : v ∈ ownS p) : v ∈ p.params ++ dstsS (p.code.take j) := by
  obtain ⟨h1, h2, h3⟩ := h.own_def hq ho
  obtain ⟨_, _, ht⟩ := (h.us q p hq).code j x hx v hv
  rcases ht with ht | ht | ⟨_, ht, _⟩
  · omega
  · exact ht
  · exact absurd h3 ht
theorem GoodP.use_in {s : Sa} (h : GoodP s) {q : Nat} {p : Pt} (hq : s.parts[q]? = some p) {v : Int} (hv : v ∈ endsS p ∨ v ∈ p.code.flatMap usesS) : 0 ≤ v ∧ v < s.values := by
  have hl := h.defs_len
  rcases hv with hv | hv
  · obtain ⟨a, b, _⟩ := (h.us q p hq).ends v hv
    exact ⟨a, by omega⟩
  · obtain ⟨x, hx, hv⟩ := List.mem_flatMap.1 hv
    obtain ⟨j, hj⟩ := List.getElem?_of_mem hx
    obtain ⟨a, b, _⟩ := (h.us q p hq).code j x hj v hv
    exact ⟨a, by omega⟩
theorem LvI.range {s : Sa} (h : GoodP s) {k : Nat} {v : Int} (hv : LvI s k v) : 0 ≤ v ∧ v < s.values := by
  induction hv with
  | own hp h1 hn => exact h.use_in hp h1
  | flow hp hx _ hn ih => exact ih
theorem GoodP.uses_eq {s : Sa} (h : GoodP s) {p : Pt} (hp : p ∈ s.parts) {x : Fl} (hx : x ∈ p.code) : usesI x = usesS x :=
  L.uses_eq (flat_op (static_flat (h.static hp) x hx))
/-- A value is needed ahead of steps, of those needed behind them. -/
def LC (O : Int → Prop) : List Fl → Int → Prop
  | [], v => O v
  | x :: t, v => v ∈ usesI x ∨ (¬ (setsS x = true ∧ v = x.dst) ∧ LC O t v)
theorem LC.of_not {O : Int → Prop} {v : Int} : ∀ {l : List Fl}, v ∉ dstsS l → (O v ∨ ∃ x ∈ l, v ∈ usesI x) → LC O l v
  | [], _, h => by rcases h with h | ⟨x, hx, _⟩; exact h; simp at hx
  | x :: t, hn, h => by
    have hn1 : ¬ (setsS x = true ∧ v = x.dst) := fun ⟨a, b⟩ => hn (by unfold dstsS; rw [List.filter_cons, if_pos a, List.map_cons, b]; exact List.mem_cons_self)
    have hn2 : v ∉ dstsS t := fun a => hn (by unfold dstsS at a ⊢; rw [List.filter_cons]; split; exact List.mem_cons_of_mem _ a; exact a)
    by_cases hx : v ∈ usesI x
    · exact .inl hx
    · refine .inr ⟨hn1, LC.of_not hn2 ?_⟩
      rcases h with h | ⟨y, hy, h⟩
      · exact .inl h
      · rcases List.mem_cons.1 hy with rfl | hy
        · exact absurd h hx
        · exact .inr ⟨y, hy, h⟩
theorem LC.to {s : Sa} (h : GoodP s) {q : Nat} {p : Pt} (hq : s.parts[q]? = some p) {O : Int → Prop} {v : Int} : ∀ (n i : Nat), n = p.code.length - i → i ≤ p.code.length → v ∉ p.params ++ dstsS (p.code.take i) → LC O (p.code.drop i) v →
    (O v ∨ v ∈ p.code.flatMap usesS) ∧ v ∉ ownS p
  | 0, i, hn, hi, h1, h2 => by
    obtain rfl : i = p.code.length := by omega
    rw [List.take_length] at h1
    rw [List.drop_length] at h2
    exact ⟨.inl h2, h1⟩
  | n + 1, i, hn, hi, h1, h2 => by
    have hlt : i < p.code.length := by omega
    rw [List.drop_eq_getElem_cons hlt] at h2
    have hmem := List.getElem_mem hlt
    rcases h2 with h2 | ⟨h3, h2⟩
    · rw [h.uses_eq (List.mem_of_getElem? hq) hmem] at h2
      exact ⟨.inr (List.mem_flatMap.2 ⟨_, hmem, h2⟩), fun ho => h1 (h.use_far hq (List.getElem?_eq_getElem hlt) h2 ho)⟩
    · refine LC.to h hq n (i + 1) (by omega) (by omega) (fun hm => ?_) h2
      rw [dstsS_take hlt] at hm
      split at hm
      · rename_i hs
        rcases List.mem_append.1 hm with hm | hm
        · exact h1 (List.mem_append.2 (.inl hm))
        · rcases List.mem_append.1 hm with hm | hm
          · exact h1 (List.mem_append.2 (.inr hm))
          · exact h3 ⟨hs, List.mem_singleton.1 hm⟩
      · exact h1 hm
theorem LC_iff {s : Sa} (h : GoodP s) {q : Nat} {p : Pt} (hq : s.parts[q]? = some p) {O : Int → Prop} {v : Int} : (LC O p.code v ∧ v ∉ p.params) ↔ ((O v ∨ v ∈ p.code.flatMap usesS) ∧ v ∉ ownS p) := by
  constructor
  · rintro ⟨h1, h2⟩
    exact LC.to h hq (p.code.length - 0) 0 rfl (Nat.zero_le _) (by rw [List.take_zero]; show v ∉ p.params ++ []; rw [List.append_nil]; exact h2) h1
  · rintro ⟨h1, h2⟩
    have hn : ¬ (v ∈ p.params ∨ v ∈ dstsS p.code) := fun h => h2 (List.mem_append.2 h)
    refine ⟨LC.of_not (fun hv => hn (.inr hv)) (h1.imp id fun hv => ?_), fun hv => hn (.inl hv)⟩
    obtain ⟨x, hx, hv⟩ := List.mem_flatMap.1 hv
    exact ⟨x, hx, by rw [h.uses_eq (List.mem_of_getElem? hq) hx]; exact hv⟩
/-- A set as the program keeps it. -/
def addB (S : List Bool) (l : List Int) : List Bool := l.foldl (fun S v => S.set v.toNat true) S
def delB (S : List Bool) (l : List Int) : List Bool := l.foldl (fun S v => S.set v.toNat false) S
def stepB (S : List Bool) (x : Fl) : List Bool := addB (if setsS x then S.set x.dst.toNat false else S) (usesI x)
def liveC (l : List Fl) (S : List Bool) : List Bool := l.foldr (fun x S => stepB S x) S
def liveB (p : Pt) (S : List Bool) : List Bool := delB (liveC p.code S) p.params
def InB (S : List Bool) (v : Int) : Prop := 0 ≤ v ∧ S.getD v.toNat false = true
theorem addB_len (S : List Bool) (l : List Int) : (addB S l).length = S.length := by
  unfold addB
  induction l generalizing S with
  | nil => rfl
  | cons x t ih => rw [List.foldl_cons, ih, List.length_set]
theorem delB_len (S : List Bool) (l : List Int) : (delB S l).length = S.length := by
  unfold delB
  induction l generalizing S with
  | nil => rfl
  | cons x t ih => rw [List.foldl_cons, ih, List.length_set]
theorem stepB_len (S : List Bool) (x : Fl) : (stepB S x).length = S.length := by
  unfold stepB; rw [addB_len]; split <;> simp
theorem liveC_len (l : List Fl) (S : List Bool) : (liveC l S).length = S.length := by
  induction l with
  | nil => rfl
  | cons x t ih => show (stepB (liveC t S) x).length = _; rw [stepB_len, ih]
theorem liveB_len (p : Pt) (S : List Bool) : (liveB p S).length = S.length := by unfold liveB; rw [delB_len, liveC_len]
theorem getD_setB (S : List Bool) (m n : Nat) (b : Bool) (hm : m < S.length) : (S.set m b).getD n false = if n = m then b else S.getD n false := by
  rw [List.getD_eq_getElem?_getD, List.getD_eq_getElem?_getD, List.getElem?_set]
  by_cases h : m = n
  · subst h; simp [hm]
  · rw [if_neg h, if_neg (fun e => h e.symm)]
theorem InB_set {S : List Bool} {m v : Int} {b : Bool} (h0 : 0 ≤ m) (hm : m < S.length) : InB (S.set m.toNat b) v ↔ (if v = m then b = true else InB S v) := by
  unfold InB
  rw [getD_setB _ _ _ _ (by omega)]
  by_cases h : v = m
  · subst h; simp [h0]
  · rw [if_neg h]
    by_cases hv : 0 ≤ v
    · rw [if_neg (by omega)]
    · simp [hv]
theorem InB_add {l : List Int} : ∀ {S : List Bool} {v : Int}, (∀ m ∈ l, 0 ≤ m ∧ m < S.length) → (InB (addB S l) v ↔ v ∈ l ∨ InB S v) := by
  induction l with
  | nil => intro S v _; simp [addB]
  | cons m t ih =>
    intro S v h
    have hm := h m List.mem_cons_self
    show InB (addB (S.set m.toNat true) t) v ↔ _
    rw [ih (fun q hq => by rw [List.length_set]; exact h q (List.mem_cons_of_mem _ hq)), InB_set hm.1 hm.2, List.mem_cons]
    by_cases e : v = m
    · subst e; simp
    · simp [e]
theorem InB_del {l : List Int} : ∀ {S : List Bool} {v : Int}, (∀ m ∈ l, 0 ≤ m ∧ m < S.length) → (InB (delB S l) v ↔ v ∉ l ∧ InB S v) := by
  induction l with
  | nil => intro S v _; simp [delB]
  | cons m t ih =>
    intro S v h
    have hm := h m List.mem_cons_self
    show InB (delB (S.set m.toNat false) t) v ↔ _
    rw [ih (fun q hq => by rw [List.length_set]; exact h q (List.mem_cons_of_mem _ hq)), InB_set hm.1 hm.2, List.mem_cons]
    by_cases e : v = m
    · subst e; simp
    · simp [e]
theorem InB_step {S : List Bool} {x : Fl} {v : Int} (hd : setsS x = true → 0 ≤ x.dst ∧ x.dst < S.length) (hu : ∀ m ∈ usesI x, 0 ≤ m ∧ m < S.length) : InB (stepB S x) v ↔ v ∈ usesI x ∨ (¬ (setsS x = true ∧ v = x.dst) ∧ InB S v) := by
  unfold stepB
  by_cases hs : setsS x = true
  · rw [if_pos hs, InB_add (by rw [List.length_set]; exact hu), InB_set (hd hs).1 (hd hs).2]
    by_cases e : v = x.dst <;> simp [e, hs]
  · rw [if_neg hs, InB_add hu]
    simp [hs]
theorem InB_code {S : List Bool} {v : Int} : ∀ {l : List Fl}, (∀ x ∈ l, (setsS x = true → 0 ≤ x.dst ∧ x.dst < S.length) ∧ ∀ m ∈ usesI x, 0 ≤ m ∧ m < S.length) → (InB (liveC l S) v ↔ LC (InB S) l v)
  | [], _ => Iff.rfl
  | x :: t, h => by
    have hx := h x List.mem_cons_self
    show InB (stepB (liveC t S) x) v ↔ _
    rw [InB_step (by rw [liveC_len]; exact hx.1) (by rw [liveC_len]; exact hx.2), InB_code (fun y hy => h y (List.mem_cons_of_mem _ hy))]
    exact Iff.rfl
theorem GoodP.steps_in {s : Sa} (h : GoodP s) {q : Nat} {p : Pt} (hq : s.parts[q]? = some p) {x : Fl} (hx : x ∈ p.code) : (setsS x = true → 12 ≤ x.dst ∧ x.dst < s.values) ∧ ∀ m ∈ usesI x, 0 ≤ m ∧ m < s.values := by
  refine ⟨fun hs => ?_, fun m hm => ?_⟩
  · obtain ⟨h1, h2, _⟩ := h.own_def hq (v := x.dst) (List.mem_append.2 (.inr (by unfold dstsS; exact List.mem_map.2 ⟨x, List.mem_filter.2 ⟨hx, hs⟩, rfl⟩)))
    exact ⟨h1, h2⟩
  · rw [h.uses_eq (List.mem_of_getElem? hq) hx] at hm
    exact h.use_in hq (.inr (List.mem_flatMap.2 ⟨x, hx, hm⟩))
theorem InB_live {s : Sa} (h : GoodP s) {q : Nat} {p : Pt} (hq : s.parts[q]? = some p) {S : List Bool} (hS : (S.length : Int) = s.values) {v : Int} : InB (liveB p S) v ↔ ((InB S v ∨ v ∈ p.code.flatMap usesS) ∧ v ∉ ownS p) := by
  unfold liveB
  rw [InB_del (fun m hm => by
      have := h.own_def hq (v := m) (List.mem_append.2 (.inl hm))
      rw [liveC_len]; omega), InB_code (fun x hx => by
      have := h.steps_in hq hx
      refine ⟨fun hs => ?_, fun m hm => ?_⟩
      · have := this.1 hs; omega
      · have := this.2 m hm; omega), and_comm]
  exact LC_iff h hq
end Go.Proofs.YtnfaibenekninaaGreat.L

set_option linter.unusedVariables false
set_option linter.unusedSimpArgs false
namespace Go.Proofs.YtnfaibenekninaaGreat.L
open Go.RowKit
theorem oneIf_calls (b : Bool) (w : World) : Calls Tryz.prog 129 #[.bool b] w fun e w' => e = .returned (.int .i64 (if b then 1 else 0)) ∧ w = w' := by
  cases b
  · go_enter Tryz.func129, Tryz.ntmps129
    go_wp2
    go_ret
    exact ⟨rfl, rfl⟩
  · go_enter Tryz.func129, Tryz.ntmps129
    go_wp2
    go_ret
    exact ⟨rfl, rfl⟩
theorem if_nat (P : Prop) [Decidable P] : (if decide P = true then (1 : Int) else 0) = ((if P then 1 else 0 : Nat) : Int) := by
  by_cases h : P <;> simp [h]
/-- Whether an ssa is split, and whether it is good. -/
inductive SplitRes (G : Prop) (s : Sa) (w : World) (e : Ending) (w' : World) : Prop where
  | mk (g : Bool) (hg : Hid (g = true ↔ G)) (he : e = .returned (.tuple #[.bool (g && splitB s), .bool g])) (hb : Below w.heap.size w w') : SplitRes G s w e w'
theorem GoodP.args_lt {s : Sa} (h : GoodP s) {k i : Nat} (hk : k < s.parts.length) (hi : i < s.parts[k].next.length) : i < s.parts[k].args.length :=
  Nat.lt_of_lt_of_le hi (static_args (h.static (List.getElem_mem hk)))
theorem split_no {s : Sa} {k i : Nat} (hk : k < s.parts.length) (hi : i < s.parts[k].next.length) (h : critB s.parts s.parts[k] i = true) : splitB s = false := by
  unfold splitB
  rw [List.all_eq_false]
  refine ⟨s.parts[k], List.getElem_mem hk, ?_⟩
  rw [Bool.not_eq_true, List.all_eq_false]
  exact ⟨i, List.mem_range.2 hi, by rw [h]; simp⟩
end Go.Proofs.YtnfaibenekninaaGreat.L

set_option linter.unusedVariables false
set_option linter.unusedSimpArgs false
namespace Go.Proofs.YtnfaibenekninaaGreat.L
open Go.RowKit
theorem getD_set_bang {D : List Int} {a b : Nat} {x : Int} (ha : a < D.length) : (D.set a x)[b]! = if b = a then x else D[b]! := by
  by_cases h : b = a
  · subst h; rw [if_pos rfl]; simp [ha]
  · rw [if_neg h]; simp [List.getElem!_eq_getElem?_getD, List.getElem?_set, Ne.symm h]
theorem defStep_nodup {k : Int} (hk : 0 ≤ k) : ∀ {l : List Int} {D D' : List Int}, defStep k D l = some D' → l.Nodup ∧ ∀ v ∈ l, 0 ≤ v ∧ D[v.toNat]! < 0
  | [], _, _, _ => ⟨List.nodup_nil, fun v h => by cases h⟩
  | v :: t, D, D', h => by
    unfold defStep at h
    split at h
    · cases h
    · rename_i hc
      obtain ⟨h1, h2⟩ := defStep_nodup hk h
      have hv : v.toNat < D.length := by omega
      refine ⟨List.nodup_cons.2 ⟨fun hm => ?_, h1⟩, fun u hu => ?_⟩
      · have := (h2 v hm).2
        rw [getD_set_bang hv, if_pos rfl] at this; omega
      · rcases List.mem_cons.1 hu with rfl | hu
        · omega
        · obtain ⟨h3, h4⟩ := h2 u hu
          rw [getD_set_bang hv] at h4
          split at h4
          · omega
          · exact ⟨h3, h4⟩
theorem defsFrom_nodup : ∀ {ps : List Pt} {k : Int} {D D' : List Int}, 0 ≤ k → defsFrom k D ps = some D' → ∀ p ∈ ps, (ownS p).Nodup
  | [], _, _, _, _, _, p, hp => by cases hp
  | q :: t, k, D, D', hk, h, p, hp => by
    unfold defsFrom at h
    obtain ⟨D1, h1, h2⟩ := Option.bind_eq_some_iff.1 h
    rcases List.mem_cons.1 hp with rfl | hp
    · exact (defStep_nodup hk h1).1
    · exact defsFrom_nodup (by omega) h2 p hp
theorem GoodP.own_nodup {s : Sa} (h : GoodP s) {p : Pt} (hp : p ∈ s.parts) : (ownS p).Nodup := by
  obtain ⟨D, hD⟩ := Option.isSome_iff_exists.1 h.defs
  exact defsFrom_nodup (by omega) hD p hp
theorem GoodP.params_len {s : Sa} (h : GoodP s) {p : Pt} (hp : p ∈ s.parts) : p.params.length ≤ 250 := by
  obtain ⟨q, hq, hqe⟩ := List.getElem_of_mem hp
  have hq' : s.parts[q]? = some p := by rw [List.getElem?_eq_getElem hq, hqe]
  have hn := (List.nodup_append.1 (h.own_nodup hp)).1
  exact len_nodup_range hn (fun x hx => by have := h.own_def hq' (v := x) (List.mem_append.2 (.inl hx)); have := h.v2; omega)
theorem GoodP.next_len {s : Sa} (h : GoodP s) {p : Pt} (hp : p ∈ s.parts) : p.next.length ≤ 6 := by
  have hs := h.static hp
  unfold staticI at hs
  simp only [Bool.and_eq_true] at hs
  have hg := hs.1.1.2
  unfold goB at hg
  simp only [Bool.and_eq_true] at hg
  have hg := hg.2
  split at hg
  · simp at hg; omega
  · split at hg
    · simp at hg; omega
    · split at hg
      · unfold inB at hg; simp at hg; omega
      · simp at hg; rw [hg.2]; simp
theorem fitS_rows {parts : List Pt} {N : Nat} (hN : ∀ q ∈ parts, q.params.length ≤ N) : ∀ {ks : List Int} {l : List (List Int)}, fitS parts ks l = true → ∀ a ∈ l, a.length ≤ N
  | [], [], _, a, ha => by cases ha
  | [], _ :: _, h, _, _ => by simp [fitS] at h
  | _ :: _, [], h, _, ha => by cases ha
  | k :: ks, b :: l, h, a, ha => by
    simp only [fitS, Bool.and_eq_true] at h
    rcases List.mem_cons.1 ha with rfl | ha
    · cases hq : parts[k.toNat]? with
      | none => rw [hq] at h; simp at h
      | some q =>
        rw [hq] at h
        have := hN q (List.mem_of_getElem? hq)
        simp at h; omega
    · exact fitS_rows hN h.2 a ha
theorem GoodP.ptOk {s : Sa} (h : GoodP s) {p : Pt} (hp : p ∈ s.parts) : PtOk p := by
  have h1 := h.params_len hp
  have h2 := h.next_len hp
  have hs := h.static hp
  unfold staticI at hs
  simp only [Bool.and_eq_true] at hs
  have hpt := h.pt p hp
  unfold partS midS at hpt
  simp only [Bool.and_eq_true, decide_eq_true_eq] at hpt
  have h3 := hpt.1.2.2
  have ha := hs.2
  unfold argsS at ha
  refine ⟨by omega, by omega, by omega, ?_⟩
  split at ha
  · split at ha
    · rename_i a he
      rw [he]
      refine ⟨by simp, fun b hb => ?_⟩
      rw [List.mem_singleton.1 hb]
      simp at ha; omega
    · cases ha
  · have := fitS_len _ _ _ ha
    exact ⟨by omega, fun a haa => by have := fitS_rows (N := 250) (fun q hq => h.params_len hq) ha a haa; omega⟩
theorem GoodP.ptsOk {s : Sa} (h : GoodP s) : PtsOk s.parts := ⟨by have := h.n2; omega, fun p hp => h.ptOk hp⟩
/-- A part that goes on with what an edge hands on. -/
def extraP (tw : Int) (l : List Int) : Pt := ⟨[], [], 1, 0, [tw], [l]⟩
def setNA (p : Pt) (i : Nat) (x : Int) : Pt := { p with next := p.next.set i x, args := p.args.set i [] }
def stepSp (ps : List Pt) (p : Pt) (st : Pt × List Pt) (i : Nat) : Pt × List Pt :=
  if critB ps p i = true then (setNA st.1 i ((ps.length + st.2.length : Nat) : Int), st.2 ++ [extraP (p.next.getD i 0) (p.args.getD i [])]) else st
def splitP (ps : List Pt) (p : Pt) (ex : List Pt) : Nat → Pt × List Pt
  | 0 => (p, ex)
  | i + 1 => stepSp ps p (splitP ps p ex i) i
def splitK (ps : List Pt) : Nat → List Pt × List Pt
  | 0 => (ps, [])
  | k + 1 => ((splitK ps k).1.set k (splitP ps (ps.getD k zPt) (splitK ps k).2 (ps.getD k zPt).next.length).1, (splitP ps (ps.getD k zPt) (splitK ps k).2 (ps.getD k zPt).next.length).2)
def splitS (s : Sa) : Sa := ⟨(splitK s.parts s.parts.length).1 ++ (splitK s.parts s.parts.length).2, s.values⟩
def splitN (s : Sa) : Nat := (splitK s.parts s.parts.length).2.length
/-- What stays of a part while its places are split. -/
structure SpI (p : Pt) (q : Pt) (i : Nat) : Prop where
  pa : q.params = p.params
  co : q.code = p.code
  go : q.go = p.go
  te : q.test = p.test
  nl : q.next.length = p.next.length
  al : q.args.length = p.args.length
  nx : ∀ j, i ≤ j → q.next[j]? = p.next[j]?
  ar : ∀ j, i ≤ j → q.args[j]? = p.args[j]?
  am : ∀ a ∈ q.args, a = [] ∨ a ∈ p.args
theorem splitP_inv (ps : List Pt) (p : Pt) (ex : List Pt) : ∀ i, SpI p (splitP ps p ex i).1 i ∧ ex.length ≤ (splitP ps p ex i).2.length ∧ (splitP ps p ex i).2.length ≤ ex.length + i
  | 0 => ⟨⟨rfl, rfl, rfl, rfl, rfl, rfl, fun _ _ => rfl, fun _ _ => rfl, fun _ h => .inr h⟩, Nat.le_refl _, Nat.le_refl _⟩
  | i + 1 => by
    obtain ⟨h, h1, h2⟩ := splitP_inv ps p ex i
    unfold splitP stepSp
    split
    · refine ⟨⟨h.pa, h.co, h.go, h.te, by simp [setNA, h.nl], by simp [setNA, h.al], fun j hj => ?_, fun j hj => ?_, fun a ha => ?_⟩, by simp; omega, by simp; omega⟩
      · unfold setNA; dsimp only; rw [List.getElem?_set_ne (by omega)]; exact h.nx j (by omega)
      · unfold setNA; dsimp only; rw [List.getElem?_set_ne (by omega)]; exact h.ar j (by omega)
      · rcases List.mem_or_eq_of_mem_set ha with ha | rfl
        · exact h.am a ha
        · exact .inl rfl
    · exact ⟨⟨h.pa, h.co, h.go, h.te, h.nl, h.al, fun j hj => h.nx j (by omega), fun j hj => h.ar j (by omega), h.am⟩, h1, by omega⟩
theorem splitK_inv (ps : List Pt) : ∀ k, (splitK ps k).1.length = ps.length ∧ ∀ j, k ≤ j → (splitK ps k).1[j]? = ps[j]?
  | 0 => ⟨rfl, fun _ _ => rfl⟩
  | k + 1 => by
    obtain ⟨h1, h2⟩ := splitK_inv ps k
    refine ⟨by simp [splitK, h1], fun j hj => ?_⟩
    simp only [splitK]
    rw [List.getElem?_set_ne (by omega)]; exact h2 j (by omega)
theorem edgesN_app (A B : List Pt) (x : Int) : edgesN (A ++ B) x = edgesN A x + edgesN B x := by unfold edgesN; rw [List.map_append, List.sum_append]
theorem edgesN_set : ∀ {A : List Pt} {k : Nat} (q : Pt) (x : Int) (hk : k < A.length), edgesN (A.set k q) x + A[k].next.count x = edgesN A x + q.next.count x
  | p :: t, 0, q, x, _ => by simp [edgesN]; omega
  | p :: t, k + 1, q, x, hk => by
    have := edgesN_set (A := t) (k := k) q x (by simpa using hk)
    simp only [edgesN, List.set_cons_succ, List.map_cons, List.sum_cons, List.getElem_cons_succ] at this ⊢
    omega
theorem count_set : ∀ {l : List Int} {i : Nat} (v x : Int) (hi : i < l.length), (l.set i v).count x + (if l[i] = x then 1 else 0) = l.count x + (if v = x then 1 else 0)
  | a :: t, 0, v, x, _ => by simp [List.count_cons]; omega
  | a :: t, i + 1, v, x, hi => by
    have := count_set (l := t) (i := i) v x (by simpa using hi)
    simp only [List.set_cons_succ, List.count_cons, List.getElem_cons_succ] at this ⊢
    omega
/-- The parts that are now lead to the parts that were as often as those that were. -/
def EOk (ps cur : List Pt) : Prop := ∀ x : Int, x < ps.length → edgesN cur x = edgesN ps x
theorem EOk.step {ps L ex : List Pt} {P : Pt} {k i : Nat} {tw : Int} {l : List Int} (h : EOk ps (L.set k P ++ ex)) (hk : k < L.length) (hi : i < P.next.length) (hto : P.next[i] = tw) {n : Int} (hn : (ps.length : Int) ≤ n) : EOk ps (L.set k (setNA P i n) ++ (ex ++ [extraP tw l])) := by
  intro x hx
  have h0 := h x hx
  have h1 := edgesN_set (A := L.set k P) (k := k) (setNA P i n) x (by simpa using hk)
  rw [List.set_set, List.getElem_set_self] at h1
  have h2 := count_set (l := P.next) (i := i) n x hi
  have e1 : (setNA P i n).next = P.next.set i n := rfl
  rw [e1] at h1
  rw [edgesN_app] at h0
  rw [edgesN_app, edgesN_app]
  have e2 : edgesN [extraP tw l] x = if tw = x then 1 else 0 := by simp [edgesN, extraP, List.count_cons]
  rw [e2]
  rw [hto, if_neg (show ¬ n = x by omega)] at h2
  omega
theorem splitP_edges {ps : List Pt} {k : Nat} {ex : List Pt} {p : Pt} (hp : ps[k]? = some p) (hkl : k < (splitK ps k).1.length) (h : EOk ps ((splitK ps k).1.set k p ++ ex)) : ∀ i, i ≤ p.next.length → EOk ps ((splitK ps k).1.set k (splitP ps p ex i).1 ++ (splitP ps p ex i).2)
  | 0, _ => h
  | i + 1, hi => by
    have ih := splitP_edges hp hkl h i (by omega)
    obtain ⟨hI, _, _⟩ := splitP_inv ps p ex i
    unfold splitP stepSp
    split
    · have hil : i < (splitP ps p ex i).1.next.length := by rw [hI.nl]; omega
      refine EOk.step ih hkl hil ?_ (by omega)
      have := hI.nx i (Nat.le_refl _)
      rw [List.getElem?_eq_getElem hil, List.getElem?_eq_getElem (by omega)] at this
      rw [List.getD_eq_getElem?_getD, List.getElem?_eq_getElem (by omega)]
      exact Option.some.inj this
    · exact ih
theorem splitK_set {ps : List Pt} {k : Nat} {p : Pt} (hp : ps[k]? = some p) : (splitK ps k).1.set k p = (splitK ps k).1 := by
  have h := (splitK_inv ps k).2 k (Nat.le_refl _)
  rw [hp] at h
  obtain ⟨hk, he⟩ := List.getElem?_eq_some_iff.1 h
  rw [← he, List.set_getElem_self]
theorem splitK_edges (ps : List Pt) : ∀ k, k ≤ ps.length → EOk ps ((splitK ps k).1 ++ (splitK ps k).2)
  | 0, _ => fun x _ => by simp [splitK]
  | k + 1, hk => by
    have ih := splitK_edges ps k (by omega)
    have hp : ps[k]? = some (ps.getD k zPt) := by rw [List.getD_eq_getElem?_getD, List.getElem?_eq_getElem (by omega)]; rfl
    have hkl : k < (splitK ps k).1.length := by rw [(splitK_inv ps k).1]; omega
    rw [← splitK_set hp] at ih
    exact splitP_edges hp hkl ih _ (Nat.le_refl _)
/-- The edge is critical now just if it was at first. -/
theorem crit_now {s : Sa} (h : GoodP s) {k i : Nat} {p : Pt} {ex : List Pt} (hp : s.parts[k]? = some p) (hi : i < p.next.length) (he : EOk s.parts ((splitK s.parts k).1.set k (splitP s.parts p ex i).1 ++ (splitP s.parts p ex i).2)) :
    critB ((splitK s.parts k).1.set k (splitP s.parts p ex i).1 ++ (splitP s.parts p ex i).2) (splitP s.parts p ex i).1 i = critB s.parts p i := by
  obtain ⟨hI, _, _⟩ := splitP_inv s.parts p ex i
  unfold critB
  have e1 : (splitP s.parts p ex i).1.next.getD i 0 = p.next.getD i 0 := by rw [List.getD_eq_getElem?_getD, List.getD_eq_getElem?_getD, hI.nx i (Nat.le_refl _)]
  have e2 : (splitP s.parts p ex i).1.args.getD i [] = p.args.getD i [] := by rw [List.getD_eq_getElem?_getD, List.getD_eq_getElem?_getD, hI.ar i (Nat.le_refl _)]
  have e3 : p.next.getD i 0 = p.next[i] := by rw [List.getD_eq_getElem?_getD, List.getElem?_eq_getElem hi]; rfl
  have hx := h.nx p (List.mem_of_getElem? hp) _ (List.getElem_mem hi)
  rw [hI.nl, e1, e2, e3, he _ hx.2]
/-- Bounds of what comes of it. -/
structure SpB (ps : List Pt) (L ex : List Pt) : Prop where
  l : ∀ p ∈ L, PtOk p
  e : ∀ p ∈ ex, PtOk p
theorem extra_ok {tw : Int} {l : List Int} (h : l.length ≤ 300) : PtOk (extraP tw l) := ⟨by simp [extraP], by simp [extraP], by simp [extraP], by simp [extraP], fun a ha => by simp [extraP] at ha; rw [ha]; exact h⟩
theorem SpI.ok {p q : Pt} {i : Nat} (h : SpI p q i) (hp : PtOk p) : PtOk q := ⟨by rw [h.pa]; exact hp.1, by rw [h.co]; exact hp.2.1, by rw [h.nl]; exact hp.2.2.1, by rw [h.al]; exact hp.2.2.2.1, fun a ha => by rcases h.am a ha with rfl | ha; simp; exact hp.2.2.2.2 a ha⟩
theorem splitP_ok {ps : List Pt} {p : Pt} {ex : List Pt} (hp : PtOk p) (he : ∀ q ∈ ex, PtOk q) : ∀ i, ∀ q ∈ (splitP ps p ex i).2, PtOk q
  | 0 => he
  | i + 1 => by
    have ih := splitP_ok (ps := ps) hp he i
    unfold splitP stepSp
    split
    · intro q hq
      rcases List.mem_append.1 hq with hq | hq
      · exact ih q hq
      · rw [List.mem_singleton.1 hq]
        refine extra_ok ?_
        rw [List.getD_eq_getElem?_getD]
        cases ha : p.args[i]? with
        | none => simp
        | some a => exact hp.2.2.2.2 a (List.mem_of_getElem? ha)
    · exact ih
theorem splitK_ok {ps : List Pt} (hp : ∀ p ∈ ps, PtOk p) : ∀ k, k ≤ ps.length → SpB ps (splitK ps k).1 (splitK ps k).2 ∧ (splitK ps k).2.length ≤ 10 * k
  | 0, _ => ⟨⟨hp, fun _ h => by cases h⟩, by simp [splitK]⟩
  | k + 1, hk => by
    obtain ⟨h1, h2⟩ := splitK_ok hp k (by omega)
    have hm : ps.getD k zPt ∈ ps := by rw [List.getD_eq_getElem?_getD, List.getElem?_eq_getElem (by omega)]; exact List.getElem_mem _
    have hok := hp _ hm
    obtain ⟨hI, _, h4⟩ := splitP_inv ps (ps.getD k zPt) (splitK ps k).2 (ps.getD k zPt).next.length
    refine ⟨⟨fun q hq => ?_, splitP_ok hok h1.e _⟩, ?_⟩
    · rcases List.mem_or_eq_of_mem_set hq with hq | rfl
      · exact h1.l q hq
      · exact hI.ok hok
    · have := hok.2.2.1
      simp only [splitK]; omega
theorem PtOk.lim {p : Pt} (h : PtOk p) : PtLim p := ⟨by have := h.1; omega, by have := h.2.1; omega, by have := h.2.2.1; omega, by have := h.2.2.2.1; omega, fun a ha => by have := h.2.2.2.2 a ha; omega⟩
theorem splitS_lim {s : Sa} (h : GoodP s) : SaLim (splitS s) := by
  obtain ⟨h1, h2⟩ := splitK_ok (ps := s.parts) (fun p hp => h.ptOk hp) s.parts.length (Nat.le_refl _)
  have h3 := (splitK_inv s.parts s.parts.length).1
  have h4 := h.n2
  refine ⟨?_, fun p hp => ?_⟩
  · show ((splitK s.parts s.parts.length).1 ++ _).length ≤ _
    rw [List.length_append]; omega
  · rcases List.mem_append.1 hp with hp | hp
    · exact (h1.l p hp).lim
    · exact (h1.e p hp).lim
theorem now_ok {s : Sa} (h : GoodP s) {k i : Nat} {p : Pt} (hp : s.parts[k]? = some p) (hi : i ≤ p.next.length) :
    (∀ q ∈ (splitK s.parts k).1.set k (splitP s.parts p (splitK s.parts k).2 i).1 ++ (splitP s.parts p (splitK s.parts k).2 i).2, PtOk q) ∧ (splitP s.parts p (splitK s.parts k).2 i).2.length ≤ 120 := by
  have hk : k < s.parts.length := (List.getElem?_eq_some_iff.1 hp).1
  obtain ⟨h1, h2⟩ := splitK_ok (ps := s.parts) (fun p hp => h.ptOk hp) k (by omega)
  have hpo := h.ptOk (List.mem_of_getElem? hp)
  obtain ⟨h3, _, h5⟩ := splitP_inv s.parts p (splitK s.parts k).2 i
  have hn := h.n2
  have hnx := hpo.2.2.1
  refine ⟨fun q hq => ?_, by omega⟩
  rcases List.mem_append.1 hq with hq | hq
  · rcases List.mem_or_eq_of_mem_set hq with hq | rfl
    · exact h1.l q hq
    · exact h3.ok hpo
  · exact splitP_ok hpo h1.e i q hq
theorem splitK_succ {ps : List Pt} {k : Nat} {p : Pt} (hp : ps[k]? = some p) : splitK ps (k + 1) = ((splitK ps k).1.set k (splitP ps p (splitK ps k).2 p.next.length).1, (splitP ps p (splitK ps k).2 p.next.length).2) := by
  have : ps.getD k zPt = p := by rw [List.getD_eq_getElem?_getD, hp]; rfl
  simp only [splitK, this]
theorem splitP_edges0 {s : Sa} {k : Nat} {p : Pt} (hp : s.parts[k]? = some p) {i : Nat} (hi : i ≤ p.next.length) : EOk s.parts ((splitK s.parts k).1.set k (splitP s.parts p (splitK s.parts k).2 i).1 ++ (splitP s.parts p (splitK s.parts k).2 i).2) := by
  have hk : k < s.parts.length := (List.getElem?_eq_some_iff.1 hp).1
  have h := splitK_edges s.parts k (by omega)
  rw [← splitK_set hp] at h
  exact splitP_edges hp (by rw [(splitK_inv s.parts k).1]; exact hk) h i hi
end Go.Proofs.YtnfaibenekninaaGreat.L

set_option linter.unusedVariables false
set_option linter.unusedSimpArgs false
namespace Go.Proofs.YtnfaibenekninaaGreat.L
open Go.RowKit
/-- The numbers that are so, rising. -/
def listB (S : List Bool) : List Int := ((List.range S.length).map (fun n : Nat => (n : Int))).filter (fun v => S.getD v.toNat false)
theorem listB_inc (S : List Bool) : Inc (listB S) := by
  unfold listB
  refine Inc.filter ?_ _
  unfold Inc
  rw [List.pairwise_map]
  exact List.pairwise_lt_range.imp (fun h => by omega)
theorem mem_listB {S : List Bool} {v : Int} : v ∈ listB S ↔ InB S v := by
  unfold listB InB
  rw [List.mem_filter, List.mem_map]
  constructor
  · rintro ⟨⟨n, hn, rfl⟩, h2⟩
    exact ⟨by omega, h2⟩
  · rintro ⟨h1, h2⟩
    refine ⟨⟨v.toNat, List.mem_range.2 ?_, by omega⟩, h2⟩
    rcases Nat.lt_or_ge v.toNat S.length with h | h
    · exact h
    · rw [List.getD_eq_getElem?_getD, List.getElem?_eq_none h] at h2; cases h2
theorem listB_eq {S : List Bool} {P : Int → Prop} {V : Nat} (hl : S.length = V) (h : ∀ v, InB S v ↔ P v) : listB S = listP P V := by
  refine (listB_inc S).ext (listP_inc P V) fun v => ?_
  rw [mem_listB, mem_listP, ← h v]
  constructor
  · intro hv
    have hm := mem_listB.2 hv
    unfold listB at hm
    obtain ⟨n, hn, rfl⟩ := List.mem_map.1 (List.mem_filter.1 hm).1
    exact ⟨⟨by omega, by have := List.mem_range.1 hn; omega⟩, hv⟩
  · exact fun hv => hv.2
theorem InB_len {S : List Bool} {v : Int} (h : InB S v) : 0 ≤ v ∧ v < S.length := by
  have hm := mem_listB.2 h
  unfold listB at hm
  obtain ⟨n, hn, rfl⟩ := List.mem_map.1 (List.mem_filter.1 hm).1
  exact ⟨by omega, by have := List.mem_range.1 hn; omega⟩
/-- Sets of parts as sets. -/
def InR2 (I : List (List Bool)) (k : Nat) (v : Int) : Prop := InB (I.getD k []) v
def bhB (I : List (List Bool)) (p : Pt) (S : List Bool) : List Bool := addB S (endsS p ++ p.next.flatMap (fun x => listB (I.getD x.toNat [])))
theorem getD_set2 {α : Type} (S : List α) (m n : Nat) (b d : α) (hm : m < S.length) : (S.set m b).getD n d = if n = m then b else S.getD n d := by
  rw [List.getD_eq_getElem?_getD, List.getD_eq_getElem?_getD, List.getElem?_set]
  by_cases h : m = n
  · subst h; simp [hm]
  · rw [if_neg h, if_neg (fun e => h e.symm)]
/-- What holds between the rounds. -/
structure LInv (s : Sa) (I O : List (List Bool)) : Prop where
  li : I.length = s.parts.length
  lo : O.length = s.parts.length
  ri : ∀ S ∈ I, (S.length : Int) = s.values
  ro : ∀ S ∈ O, (S.length : Int) = s.values
  si : ∀ k v, InR2 I k v → LvI s k v
  so : ∀ k v, InR2 O k v → LvO s k v
  up : ∀ (k : Nat) (p : Pt), s.parts[k]? = some p → ∀ v, InR2 I k v → InB (liveB p (O.getD k [])) v
theorem LInv.rowI {s : Sa} {I O : List (List Bool)} (h : LInv s I O) {k : Nat} (hk : k < s.parts.length) : ((I.getD k []).length : Int) = s.values := by
  have hk' : k < I.length := by rw [h.li]; exact hk
  rw [List.getD_eq_getElem?_getD, List.getElem?_eq_getElem hk']
  exact h.ri _ (List.getElem_mem hk')
theorem LInv.rowO {s : Sa} {I O : List (List Bool)} (h : LInv s I O) {k : Nat} (hk : k < s.parts.length) : ((O.getD k []).length : Int) = s.values := by
  have hk' : k < O.length := by rw [h.lo]; exact hk
  rw [List.getD_eq_getElem?_getD, List.getElem?_eq_getElem hk']
  exact h.ro _ (List.getElem_mem hk')
theorem bhB_iff {s : Sa} (h : GoodP s) {I : List (List Bool)} (hI : ∀ S ∈ I, (S.length : Int) = s.values) {k : Nat} {p : Pt} (hk : s.parts[k]? = some p) {S : List Bool} (hS : (S.length : Int) = s.values) {v : Int} :
    InB (bhB I p S) v ↔ BhP (InR2 I) p v ∨ InB S v := by
  unfold bhB
  have hrow : ∀ x : Int, ∀ m, InB (I.getD x.toNat []) m → 0 ≤ m ∧ m < s.values := fun x m hm => by
    have := InB_len hm
    rw [List.getD_eq_getElem?_getD] at this
    cases hx : I[x.toNat]? with
    | none => rw [hx] at this; simp at this; omega
    | some R =>
      rw [hx] at this
      have := hI R (List.mem_of_getElem? hx)
      simp at *; omega
  rw [InB_add (fun m hm => by
    rcases List.mem_append.1 hm with hm | hm
    · have := h.use_in hk (.inl hm); omega
    · obtain ⟨x, hx, hm⟩ := List.mem_flatMap.1 hm
      have := hrow x m (mem_listB.1 hm); omega)]
  refine or_congr ?_ Iff.rfl
  unfold BhP InR2
  rw [List.mem_append, List.mem_flatMap]
  exact or_congr Iff.rfl ⟨fun ⟨x, hx, hm⟩ => ⟨x, hx, mem_listB.1 hm⟩, fun ⟨x, hx, hm⟩ => ⟨x, hx, mem_listB.2 hm⟩⟩
theorem InR2_set {I : List (List Bool)} {k : Nat} {S : List Bool} (hk : k < I.length) {q : Nat} {v : Int} : InR2 (I.set k S) q v ↔ if q = k then InB S v else InR2 I q v := by
  unfold InR2
  rw [getD_set2 _ _ _ _ _ hk]
  split <;> rfl
theorem bhB_len (I : List (List Bool)) (p : Pt) (S : List Bool) : (bhB I p S).length = S.length := addB_len _ _
/-- One part's turn. -/
theorem LInv.turn {s : Sa} (h : GoodP s) {I O : List (List Bool)} (hi : LInv s I O) {k : Nat} {p : Pt} (hk : s.parts[k]? = some p) :
    LInv s (I.set k (liveB p (bhB I p (O.getD k [])))) (O.set k (bhB I p (O.getD k []))) ∧ ∀ v, InR2 I k v → InB (liveB p (bhB I p (O.getD k []))) v := by
  obtain ⟨hkl, hke⟩ := List.getElem?_eq_some_iff.1 hk
  have hkI : k < I.length := by rw [hi.li]; exact hkl
  have hkO : k < O.length := by rw [hi.lo]; exact hkl
  have hOl := hi.rowO hkl
  have hB : ∀ v, InB (bhB I p (O.getD k [])) v ↔ BhP (InR2 I) p v ∨ InB (O.getD k []) v := fun v => bhB_iff h hi.ri hk hOl
  have hBl : ((bhB I p (O.getD k [])).length : Int) = s.values := by rw [bhB_len]; exact hOl
  have hL : ∀ v, InB (liveB p (bhB I p (O.getD k []))) v ↔ ((InB (bhB I p (O.getD k [])) v ∨ v ∈ p.code.flatMap usesS) ∧ v ∉ ownS p) := fun v => InB_live h hk hBl
  have hL0 : ∀ v, InB (liveB p (O.getD k [])) v ↔ ((InB (O.getD k []) v ∨ v ∈ p.code.flatMap usesS) ∧ v ∉ ownS p) := fun v => InB_live h hk hOl
  have hup : ∀ v, InR2 I k v → InB (liveB p (bhB I p (O.getD k []))) v := fun v hv => by
    have h1 := (hL0 v).1 (hi.up k p hk v hv)
    exact (hL v).2 ⟨h1.1.imp (fun h => (hB v).2 (.inr h)) id, h1.2⟩
  have hso : ∀ v, InB (bhB I p (O.getD k [])) v → LvO s k v := fun v hv => by
    rcases (hB v).1 hv with hv | hv
    · exact ⟨p, hk, hv.mono hi.si⟩
    · exact hi.so k v hv
  refine ⟨⟨by rw [List.length_set]; exact hi.li, by rw [List.length_set]; exact hi.lo, fun S hS => ?_, fun S hS => ?_, fun q v hv => ?_, fun q v hv => ?_, fun q p' hq v hv => ?_⟩, hup⟩
  · rcases List.mem_or_eq_of_mem_set hS with hS | rfl
    · exact hi.ri S hS
    · rw [liveB_len]; exact hBl
  · rcases List.mem_or_eq_of_mem_set hS with hS | rfl
    · exact hi.ro S hS
    · exact hBl
  · rw [InR2_set hkI] at hv
    split at hv
    · rename_i e
      subst e
      have h1 := (hL v).1 hv
      refine LvI.of_ah hk ⟨?_, h1.2⟩
      rcases h1.1 with h1 | h1
      · obtain ⟨p', hp', h2⟩ := hso v h1
        rw [hk] at hp'; cases hp'
        exact .inl h2
      · exact .inr h1
    · exact hi.si q v hv
  · rw [InR2_set hkO] at hv
    split at hv
    · rename_i e
      subst e
      exact hso v hv
    · exact hi.so q v hv
  · rw [getD_set2 _ _ _ _ _ hkO]
    rw [InR2_set hkI] at hv
    split
    · rename_i e
      subst e
      rw [if_pos rfl] at hv
      rw [hk] at hq; cases hq
      exact hv
    · rename_i e
      rw [if_neg e] at hv
      exact hi.up q p' hq v hv
/-- A part asks for no more. -/
def Still (s : Sa) (I O : List (List Bool)) (q : Nat) : Prop := ∀ p, s.parts[q]? = some p → (∀ v, BhP (InR2 I) p v → InR2 O q v) ∧ ∀ v, ((InR2 O q v ∨ v ∈ p.code.flatMap usesS) ∧ v ∉ ownS p) → InR2 I q v
theorem still_turn {s : Sa} (h : GoodP s) {I O : List (List Bool)} (hi : LInv s I O) {k : Nat} {p : Pt} (hk : s.parts[k]? = some p) (he : liveB p (bhB I p (O.getD k [])) = I.getD k []) (hs : ∀ q, q < k → Still s I O q) :
    I.set k (liveB p (bhB I p (O.getD k []))) = I ∧ ∀ q, q < k + 1 → Still s I (O.set k (bhB I p (O.getD k []))) q := by
  obtain ⟨hkl, hke⟩ := List.getElem?_eq_some_iff.1 hk
  have hkI : k < I.length := by rw [hi.li]; exact hkl
  have hkO : k < O.length := by rw [hi.lo]; exact hkl
  have hOl := hi.rowO hkl
  have hBl : ((bhB I p (O.getD k [])).length : Int) = s.values := by rw [bhB_len]; exact hOl
  refine ⟨?_, fun q hq p' hp' => ?_⟩
  · rw [he, List.getD_eq_getElem?_getD, List.getElem?_eq_getElem hkI]
    exact List.set_getElem_self hkI
  · rcases Nat.lt_or_eq_of_le (Nat.le_of_lt_succ hq) with hq | rfl
    · obtain ⟨h1, h2⟩ := hs q hq p' hp'
      have e : ∀ v, InR2 (O.set k (bhB I p (O.getD k []))) q v ↔ InR2 O q v := fun v => by rw [InR2_set hkO, if_neg (by omega)]
      exact ⟨fun v hv => (e v).2 (h1 v hv), fun v hv => h2 v (by rw [e v] at hv; exact hv)⟩
    · rw [hk] at hp'; cases hp'
      have e : ∀ v, InR2 (O.set q (bhB I p (O.getD q []))) q v ↔ InB (bhB I p (O.getD q [])) v := fun v => by rw [InR2_set hkO, if_pos rfl]
      refine ⟨fun v hv => (e v).2 ((bhB_iff h hi.ri hk hOl).2 (.inl hv)), fun v hv => ?_⟩
      rw [e v] at hv
      show InB (I.getD q []) v
      rw [← he]
      exact (InB_live h hk hBl).2 hv
/-- Where no part asks for more, it is what is needed. -/
theorem still_all {s : Sa} (h : GoodP s) {I O : List (List Bool)} (hi : LInv s I O) (hs : ∀ q, q < s.parts.length → Still s I O q) : (∀ k v, InR2 I k v ↔ LvI s k v) ∧ ∀ k v, InR2 O k v ↔ LvO s k v := by
  have h1 : ∀ k v, LvI s k v → InR2 I k v := fun k v hv => by
    refine LvI.least (I := InR2 I) (fun q p hq u hu => ?_) hv
    obtain ⟨a, b⟩ := hs q (List.getElem?_eq_some_iff.1 hq).1 p hq
    exact b u ⟨hu.1.imp (a u) id, hu.2⟩
  refine ⟨fun k v => ⟨hi.si k v, h1 k v⟩, fun k v => ⟨hi.so k v, fun ⟨p, hp, hv⟩ => ?_⟩⟩
  exact (hs k (List.getElem?_eq_some_iff.1 hp).1 p hp).1 v (hv.mono h1)
/-- How much is in. -/
def cntB (I : List (List Bool)) : Nat := (I.map (fun S : List Bool => S.count true)).sum
theorem count_lt {S R : List Bool} (hl : S.length = R.length) (h : ∀ v, InB S v → InB R v) : S.count true ≤ R.count true ∧ (S ≠ R → S.count true < R.count true) := by
  induction S generalizing R with
  | nil => cases R with
    | nil => exact ⟨Nat.le_refl _, fun h => absurd rfl h⟩
    | cons y u => simp at hl
  | cons x t ih =>
    cases R with
    | nil => simp at hl
    | cons y u =>
      have ht : ∀ v, InB t v → InB u v := fun v hv => by
        have := h (v + 1) ⟨by have := hv.1; omega, by
          rw [show (v + 1).toNat = v.toNat + 1 by have := hv.1; omega, List.getD_cons_succ]; exact hv.2⟩
        have h2 := this.2
        rw [show (v + 1).toNat = v.toNat + 1 by have := hv.1; omega, List.getD_cons_succ] at h2
        exact ⟨hv.1, h2⟩
      have hx : x = true → y = true := fun e => by
        have := h 0 ⟨Int.le_refl _, by subst e; rfl⟩
        exact this.2
      obtain ⟨i1, i2⟩ := ih (by simpa using hl) ht
      simp only [List.count_cons]
      cases x <;> cases y <;> simp at hx ⊢
      · exact ⟨i1, i2⟩
      · omega
      · exact ⟨i1, i2⟩
theorem cntB_set {I : List (List Bool)} {k : Nat} {S : List Bool} (hk : k < I.length) : cntB (I.set k S) + (I.getD k []).count true = cntB I + S.count true := by
  unfold cntB
  induction I generalizing k with
  | nil => simp at hk
  | cons x t ih =>
    cases k with
    | zero => simp; omega
    | succ k =>
      simp only [List.set_cons_succ, List.map_cons, List.sum_cons, List.getD_cons_succ]
      have := ih (k := k) (by simpa using hk)
      omega
theorem cntB_le {I : List (List Bool)} {V : Nat} (h : ∀ S ∈ I, S.length = V) : cntB I ≤ I.length * V := by
  unfold cntB
  induction I with
  | nil => simp
  | cons x t ih =>
    have h1 := ih (fun S hS => h S (List.mem_cons_of_mem _ hS))
    have h2 := h x List.mem_cons_self
    have h3 := List.count_le_length (a := true) (l := x)
    simp only [List.map_cons, List.sum_cons, List.length_cons, Nat.succ_mul]
    omega
theorem cnt_turn {s : Sa} (h : GoodP s) {I O : List (List Bool)} (hi : LInv s I O) {k : Nat} {p : Pt} (hk : s.parts[k]? = some p) :
    cntB I ≤ cntB (I.set k (liveB p (bhB I p (O.getD k [])))) ∧ (liveB p (bhB I p (O.getD k [])) ≠ I.getD k [] → cntB I < cntB (I.set k (liveB p (bhB I p (O.getD k []))))) := by
  obtain ⟨hkl, hke⟩ := List.getElem?_eq_some_iff.1 hk
  have hkI : k < I.length := by rw [hi.li]; exact hkl
  have h1 := cntB_set (S := liveB p (bhB I p (O.getD k []))) hkI
  have hlen : (I.getD k []).length = (liveB p (bhB I p (O.getD k []))).length := by
    have a := hi.rowI hkl
    have b := hi.rowO hkl
    rw [liveB_len, bhB_len]; omega
  obtain ⟨c1, c2⟩ := count_lt hlen (hi.turn h hk).2
  refine ⟨by omega, fun hne => ?_⟩
  have := c2 (fun e => hne e.symm)
  omega
theorem linv0 {s : Sa} (hV : 0 ≤ s.values) : LInv s (List.replicate s.parts.length (List.replicate s.values.toNat false)) (List.replicate s.parts.length (List.replicate s.values.toNat false)) := by
  have hno : ∀ k v, ¬ InR2 (List.replicate s.parts.length (List.replicate s.values.toNat false)) k v := fun k v hv => by
    have h2 := hv.2
    rw [List.getD_eq_getElem?_getD, List.getD_eq_getElem?_getD, List.getElem?_replicate] at h2
    split at h2
    · simp only [Option.getD_some, List.getElem?_replicate] at h2
      split at h2 <;> cases h2
    · simp at h2
  have hr : ∀ S ∈ List.replicate s.parts.length (List.replicate s.values.toNat false), (S.length : Int) = s.values := fun S hS => by
    rw [(List.mem_replicate.1 hS).2, List.length_replicate]; omega
  exact ⟨List.length_replicate, List.length_replicate, hr, hr, fun k v hv => absurd hv (hno k v), fun k v hv => absurd hv (hno k v), fun k p _ v hv => absurd hv (hno k v)⟩
end Go.Proofs.YtnfaibenekninaaGreat.L

set_option linter.unusedVariables false
set_option linter.unusedSimpArgs false
namespace Go.Proofs.YtnfaibenekninaaGreat.L
open Go.RowKit
/-- A list of an ssa, and whether it is good. -/
inductive ListRes (G : Prop) (L : List Int) (w : World) (e : Ending) (w' : World) : Prop where
  | mk (g : Bool) (v : Value) (hg : Hid (g = true ↔ G)) (he : e = .returned (.tuple #[v, .bool g])) (hv : Ow true 3 Rp.int w' (fun q => w.heap.size ≤ q) v (if g = true then L else [])) (hb : Below w.heap.size w w') : ListRes G L w e w'
theorem zeroInt (w : World) : (zeroValue 3).run Tryz.prog w = .ok (.int .i64 0) w := by
  obtain ⟨i, hi, hzz⟩ := Option.map_eq_some_iff.1 infoInt
  simp only [Prod.mk.injEq] at hzz
  simp [zeroValue, typeInfo, hi, hzz.1]
theorem setCells_chg (g : Nat) : ∀ (vs : List Value) (o : Nat) (w : World), Chg (fun q => q = g) w (w.setCells g o vs)
  | [], _, w => Chg.refl _ _
  | v :: r, o, w => (Chg.set (A := fun q => q = g) rfl).trans (setCells_chg g r (o + 1) (w.setCell ⟨g, o, none⟩ v))
theorem setInts_ow {ap : Bool} {e g n k : Nat} {F : Nat → Prop} {c : List Int} : ∀ {b a : List Int} {w : World}, Ow ap e Rp.int w F (.slice (some ⟨g, 0, none⟩) n k) (a ++ b ++ c) → True →
    Ow ap e Rp.int (w.setCells g a.length (List.replicate b.length (.int .i64 0))) F (.slice (some ⟨g, 0, none⟩) n k) (a ++ List.replicate b.length 0 ++ c)
  | [], a, w, h, _ => h
  | x :: b, a, w, h, _ => by
    have hs := h.set1 rfl (i := a.length) (by simp) (y := 0) (u := .int .i64 0) rfl
    have he : (a ++ (x :: b) ++ c).set a.length 0 = (a ++ [0]) ++ b ++ c := by simp
    rw [he] at hs
    have := setInts_ow hs trivial
    rw [List.length_append, List.length_singleton] at this
    show Ow ap e Rp.int ((w.setCell ⟨g, a.length, none⟩ (.int .i64 0)).setCells g (a.length + 1) (List.replicate b.length (.int .i64 0))) F _ _
    have e2 : a ++ List.replicate (x :: b).length 0 ++ c = a ++ [0] ++ List.replicate b.length 0 ++ c := by simp [List.replicate_succ]
    rw [e2]
    exact this
end Go.Proofs.YtnfaibenekninaaGreat.L
