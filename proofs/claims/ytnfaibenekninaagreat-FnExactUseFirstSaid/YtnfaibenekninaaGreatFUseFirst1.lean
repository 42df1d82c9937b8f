/- Joined texts, each of which was built by itself: Px1 Px3 Px2 Px4 Px11 Gp1 Gp2. -/
import Derived.Test.YtnfaibenekninaaGreatB13
import Derived.Test.YtnfaibenekninaaGreatB10
import Derived.Test.YtnfaibenekninaaGreatB12
import Derived.Test.YtnfaibenekninaaGreatB2
set_option linter.unusedVariables false
set_option linter.unusedSimpArgs false
namespace Go.Proofs.YtnfaibenekninaaGreat.L
open Go.RowKit
theorem GoodP.static {s : Sa} (h : GoodP s) {p : Pt} (hp : p ∈ s.parts) : staticI s p = true := (static_iff h.v1).2 ⟨h.nx p hp, h.pt p hp⟩
theorem static_args {s : Sa} {p : Pt} (h : staticI s p = true) : p.next.length ≤ p.args.length := by
  unfold staticI at h
  simp only [Bool.and_eq_true] at h
  obtain ⟨⟨⟨hc, hg⟩, h0⟩, ha⟩ := h
  unfold argsS at ha
  split at ha
  · rename_i h3
    unfold goB at hg
    simp only [Bool.and_eq_true] at hg
    have hg := hg.2
    rw [beq_iff_eq] at h3
    rw [h3] at hg
    have h0 : p.next.length = 0 := by simpa using hg
    omega
  · rw [fitS_len _ _ _ ha]; exact Nat.le_refl _
def edgesN (l : List Pt) (k : Int) : Nat := (l.map (fun p : Pt => p.next.count k)).sum
theorem edgesN_take {l : List Pt} {j : Nat} (hj : j < l.length) (k : Int) : edgesN (l.take (j + 1)) k = edgesN (l.take j) k + l[j].next.count k := by
  unfold edgesN
  rw [List.take_succ_eq_append_getElem hj, List.map_append, List.sum_append]; simp
theorem count_take {l : List Int} {j : Nat} (hj : j < l.length) (k : Int) : (l.take (j + 1)).count k = (l.take j).count k + (if l[j] = k then 1 else 0) := by
  rw [List.take_succ_eq_append_getElem hj, List.count_append, List.count_singleton]
  by_cases h : l[j] = k <;> simp [h]
theorem edgesN_le {l : List Pt} {k : Int} (h : ∀ p ∈ l, p.next.length ≤ 1048576) : edgesN l k ≤ l.length * 1048576 := by
  induction l with
  | nil => simp [edgesN]
  | cons p t ih =>
    have h1 := ih (fun q hq => h q (List.mem_cons_of_mem _ hq))
    have h2 := h p List.mem_cons_self
    have h3 := List.count_le_length (a := k) (l := p.next)
    unfold edgesN at h1 ⊢
    simp only [List.map_cons, List.sum_cons, List.length_cons, Nat.succ_mul]
    omega
/-- An edge is critical and has Args. -/
def critB (l : List Pt) (p : Pt) (i : Nat) : Bool := decide (1 < p.next.length) && decide (1 < edgesN l (p.next.getD i 0)) && decide (0 < (p.args.getD i []).length)
def splitB (s : Sa) : Bool := s.parts.all (fun p => (List.range p.next.length).all (fun i => !critB s.parts p i))
end Go.Proofs.YtnfaibenekninaaGreat.L

set_option linter.unusedVariables false
set_option linter.unusedSimpArgs false
namespace Go.Proofs.YtnfaibenekninaaGreat.L
open Go.RowKit
/-- A value is needed ahead of a part. -/
inductive LvI (s : Sa) : Nat → Int → Prop
  | own {k : Nat} {p : Pt} {v : Int} (hp : s.parts[k]? = some p) (h : v ∈ endsS p ∨ v ∈ p.code.flatMap usesS) (hn : v ∉ ownS p) : LvI s k v
  | flow {k : Nat} {p : Pt} {x v : Int} (hp : s.parts[k]? = some p) (hx : x ∈ p.next) (h : LvI s x.toNat v) (hn : v ∉ ownS p) : LvI s k v
/-- A value is needed behind a part, given what is needed ahead of each. -/
def BhP (I : Nat → Int → Prop) (p : Pt) (v : Int) : Prop := v ∈ endsS p ∨ ∃ x ∈ p.next, I x.toNat v
def LvO (s : Sa) (k : Nat) (v : Int) : Prop := ∃ p, s.parts[k]? = some p ∧ BhP (LvI s) p v
/-- .. and ahead of it. -/
def AhP (I : Nat → Int → Prop) (p : Pt) (v : Int) : Prop := (BhP I p v ∨ v ∈ p.code.flatMap usesS) ∧ v ∉ ownS p
theorem LvI.ah {s : Sa} {k : Nat} {v : Int} (h : LvI s k v) : ∃ p, s.parts[k]? = some p ∧ AhP (LvI s) p v := by
  cases h with
  | own hp h hn => exact ⟨_, hp, by rcases h with h | h; exact .inl (.inl h); exact .inr h, hn⟩
  | flow hp hx h hn => exact ⟨_, hp, .inl (.inr ⟨_, hx, h⟩), hn⟩
theorem LvI.of_ah {s : Sa} {k : Nat} {p : Pt} {v : Int} (hp : s.parts[k]? = some p) (h : AhP (LvI s) p v) : LvI s k v := by
  obtain ⟨(h | ⟨x, hx, h⟩) | h, hn⟩ := h
  · exact .own hp (.inl h) hn
  · exact .flow hp hx h hn
  · exact .own hp (.inr h) hn
theorem BhP.mono {I J : Nat → Int → Prop} {p : Pt} {v : Int} (h : BhP I p v) (hIJ : ∀ k v, I k v → J k v) : BhP J p v := by
  rcases h with h | ⟨x, hx, h⟩
  · exact .inl h
  · exact .inr ⟨x, hx, hIJ _ _ h⟩
theorem AhP.mono {I J : Nat → Int → Prop} {p : Pt} {v : Int} (h : AhP I p v) (hIJ : ∀ k v, I k v → J k v) : AhP J p v :=
  ⟨h.1.imp (fun h => h.mono hIJ) id, h.2⟩
/-- What holds no more than is needed, and all that its own rules ask, is what is needed. -/
theorem LvI.least {s : Sa} {I : Nat → Int → Prop} (hc : ∀ (k : Nat) (p : Pt), s.parts[k]? = some p → ∀ v, AhP I p v → I k v) : ∀ {k v}, LvI s k v → I k v := by
  intro k v h
  induction h with
  | own hp h hn => exact hc _ _ hp _ ⟨by rcases h with h | h; exact .inl (.inl h); exact .inr h, hn⟩
  | flow hp hx h hn ih => exact hc _ _ hp _ ⟨.inl (.inr ⟨_, hx, ih⟩), hn⟩
/-- Lists that grow. -/
def Inc (l : List Int) : Prop := l.Pairwise (· < ·)
theorem Inc.nil : Inc [] := List.Pairwise.nil
theorem Inc.putL {l : List Int} (h : Inc l) (n : Int) : Inc (putL l n) := by
  induction l with
  | nil => exact List.pairwise_singleton _ _
  | cons x t ih =>
    obtain ⟨h1, h2⟩ := List.pairwise_cons.1 h
    simp only [L.putL]
    split
    · refine List.pairwise_cons.2 ⟨fun y hy => ?_, ih h2⟩
      rcases (mem_putL t n y).1 hy with rfl | hy
      · assumption
      · exact h1 y hy
    · split
      · exact h
      · refine List.pairwise_cons.2 ⟨fun y hy => ?_, h⟩
        rcases List.mem_cons.1 hy with rfl | hy
        · omega
        · have := h1 y hy; omega
theorem Inc.foldl {l : List Int} : ∀ {m : List Int}, Inc m → Inc (l.foldl L.putL m) := by
  induction l with
  | nil => intro m h; exact h
  | cons x t ih => intro m h; exact ih (h.putL x)
theorem mem_foldl_putL {l : List Int} : ∀ {m : List Int} {v : Int}, v ∈ l.foldl putL m ↔ v ∈ l ∨ v ∈ m := by
  induction l with
  | nil => intro m v; simp
  | cons x t ih =>
    intro m v
    rw [List.foldl_cons, ih, mem_putL, List.mem_cons]
    constructor
    · rintro (h | h | h); exact .inl (.inr h); exact .inl (.inl h); exact .inr h
    · rintro ((h | h) | h); exact .inr (.inl h); exact .inl h; exact .inr (.inr h)
theorem Inc.filter {l : List Int} (h : Inc l) (f : Int → Bool) : Inc (l.filter f) := List.Pairwise.filter f h
theorem Inc.ext {l m : List Int} (hl : Inc l) (hm : Inc m) (h : ∀ v, v ∈ l ↔ v ∈ m) : l = m := by
  induction l generalizing m with
  | nil => cases m with
    | nil => rfl
    | cons y t => exact absurd ((h y).2 List.mem_cons_self) (by simp)
  | cons x t ih =>
    cases m with
    | nil => exact absurd ((h x).1 List.mem_cons_self) (by simp)
    | cons y u =>
      obtain ⟨a1, a2⟩ := List.pairwise_cons.1 hl
      obtain ⟨b1, b2⟩ := List.pairwise_cons.1 hm
      have hxy : x = y := by
        rcases List.mem_cons.1 ((h x).1 List.mem_cons_self) with e | e
        · exact e
        · rcases List.mem_cons.1 ((h y).2 List.mem_cons_self) with e2 | e2
          · exact e2.symm
          · have := b1 x e; have := a1 y e2; omega
      subst hxy
      congr 1
      refine ih a2 b2 fun v => ⟨fun hv => ?_, fun hv => ?_⟩
      · rcases List.mem_cons.1 ((h v).1 (List.mem_cons_of_mem _ hv)) with e | e
        · subst e; exact absurd (a1 v hv) (by omega)
        · exact e
      · rcases List.mem_cons.1 ((h v).2 (List.mem_cons_of_mem _ hv)) with e | e
        · subst e; exact absurd (b1 v hv) (by omega)
        · exact e
/-- A list that grows, of values below a bound. -/
theorem Inc.length_le {l : List Int} (h : Inc l) {V : Int} (hV : 0 ≤ V) (h0 : ∀ v ∈ l, 0 ≤ v ∧ v < V) : (l.length : Int) ≤ V := by
  have key : ∀ (l : List Int) (a : Int), Inc l → (∀ v ∈ l, a ≤ v ∧ v < V) → a ≤ V → a + l.length ≤ V := by
    intro l
    induction l with
    | nil => intro a _ _ h; simpa using h
    | cons x t ih =>
      intro a hi hr ha
      obtain ⟨h1, h2⟩ := List.pairwise_cons.1 hi
      have hx := hr x List.mem_cons_self
      have := ih (x + 1) h2 (fun v hv => ⟨by have := h1 v hv; omega, (hr v (List.mem_cons_of_mem _ hv)).2⟩) (by omega)
      rw [List.length_cons]; omega
  have := key l 0 h (fun v hv => h0 v hv) hV
  omega
theorem Inc.sub_eq {l m : List Int} (hl : Inc l) (hm : Inc m) (h : ∀ v ∈ l, v ∈ m) (hn : m.length ≤ l.length) : l = m := by
  induction l generalizing m with
  | nil => cases m with
    | nil => rfl
    | cons y t => simp at hn
  | cons x t ih =>
    cases m with
    | nil => exact absurd (h x List.mem_cons_self) (by simp)
    | cons y u =>
      obtain ⟨a1, a2⟩ := List.pairwise_cons.1 hl
      obtain ⟨b1, b2⟩ := List.pairwise_cons.1 hm
      simp only [List.length_cons] at hn
      have ht : ∀ v ∈ t, v ∈ u := fun v hv => by
        rcases List.mem_cons.1 (h v (List.mem_cons_of_mem _ hv)) with e | e
        · rcases List.mem_cons.1 (h x List.mem_cons_self) with e2 | e2
          · have := a1 v hv; omega
          · have := a1 v hv; have := b1 x e2; omega
        · exact e
      have htu := ih a2 b2 ht (by omega)
      subst htu
      rcases List.mem_cons.1 (h x List.mem_cons_self) with e | e
      · rw [e]
      · exact absurd (a1 x e) (by omega)
open Classical in
/-- A set as a list. -/
noncomputable def listP (P : Int → Prop) (V : Nat) : List Int := ((List.range V).map (fun n : Nat => (n : Int))).filter (fun v => decide (P v))
theorem listP_inc (P : Int → Prop) (V : Nat) : Inc (listP P V) := by
  unfold listP
  refine Inc.filter ?_ _
  unfold Inc
  rw [List.pairwise_map]
  exact List.pairwise_lt_range.imp (fun h => by omega)
theorem mem_listP {P : Int → Prop} {V : Nat} {v : Int} : v ∈ listP P V ↔ (0 ≤ v ∧ v < V) ∧ P v := by
  unfold listP
  rw [List.mem_filter, List.mem_map]
  constructor
  · rintro ⟨⟨n, hn, rfl⟩, h2⟩
    exact ⟨⟨by omega, by have := List.mem_range.1 hn; omega⟩, by simpa using h2⟩
  · rintro ⟨⟨h1, h2⟩, h3⟩
    exact ⟨⟨v.toNat, List.mem_range.2 (by omega), by omega⟩, by simpa using h3⟩
end Go.Proofs.YtnfaibenekninaaGreat.L

set_option linter.unusedVariables false
set_option linter.unusedSimpArgs false
namespace Go.Proofs.YtnfaibenekninaaGreat.L
open Go.RowKit
theorem defs_eq {s : Sa} {D T : List Int} {M : List (List Bool)} (h : GoodV s D T M) : (defsS s).getD [] = List.replicate 12 0 ++ D.drop 12 ∧ (D.length : Int) = s.values := by
  obtain ⟨h1, h2, S, h3, h4⟩ := (sim_parts h.v1 s.parts 0 _ _ (List.replicate s.values.toNat 0) (by omega) (rel0 h.v1)).1 D T h.ps
  have hd : defsS s = some S := h3
  have hv := h.v1
  have hl1 := h4.l1
  have hl2 := h4.l2
  rw [hd]
  refine ⟨?_, hl2⟩
  show S = _
  apply List.ext_getElem
  · rw [List.length_append, List.length_replicate, List.length_drop]; omega
  intro i a b
  have e : S[i] = S.getD i 0 := by rw [List.getD_eq_getElem?_getD, List.getElem?_eq_getElem a]; rfl
  rw [e]
  by_cases hi : i < 12
  · rw [h4.lo i hi, List.getElem_append_left (by rw [List.length_replicate]; exact hi), List.getElem_replicate]
  · rw [h4.hi i (by omega), List.getElem_append_right (by rw [List.length_replicate]; omega), List.getElem_drop, List.getD_eq_getElem?_getD]
    simp only [List.length_replicate]
    have hi2 : 12 + (i - 12) = i := by omega
    rw [List.getElem?_eq_getElem (show i < D.length by omega)]
    simp only [hi2, Option.getD_some]
end Go.Proofs.YtnfaibenekninaaGreat.L

set_option linter.unusedVariables false
set_option linter.unusedSimpArgs false
namespace Go.Proofs.YtnfaibenekninaaGreat.L
open Go.RowKit
theorem GoodP.rel {s : Sa} (h : GoodP s) : ∃ D T S, defsS s = some S ∧ Rel s.values S D ∧ partsI s 0 s.parts (List.replicate s.values.toNat (-1)) (List.replicate s.values.toNat 0) = some (D, T) := by
  obtain ⟨D, T, M, hg⟩ := (good_iff s).2 h
  obtain ⟨h1, h2, S, h3, h4⟩ := (sim_parts hg.v1 s.parts 0 _ _ (List.replicate s.values.toNat 0) (by omega) (rel0 hg.v1)).1 D T hg.ps
  exact ⟨D, T, S, h3, h4, hg.ps⟩
theorem GoodP.own_def {s : Sa} (h : GoodP s) {q : Nat} {p : Pt} (hq : s.parts[q]? = some p) {v : Int} (hv : v ∈ ownS p) : 12 ≤ v ∧ v < s.values ∧ ((defsS s).getD [])[v.toNat]! = q := by
  obtain ⟨D, T, S, h1, h2, h3⟩ := h.rel
  have hV := h.v1
  have hl1 : ((List.replicate s.values.toNat (-1 : Int)).length : Int) = s.values := by rw [List.length_replicate]; omega
  have hl2 : ((List.replicate s.values.toNat (0 : Int)).length : Int) = s.values := by rw [List.length_replicate]; omega
  obtain ⟨-, -, a3, -⟩ := partsI_spec s.parts 0 _ _ D T (by omega) hl1 hl2 h3
  rw [← items_fst] at hv
  obtain ⟨x, hx, rfl⟩ := List.mem_map.1 hv
  obtain ⟨b1, b2, b3, _⟩ := a3 q p hq x hx
  refine ⟨b1, b2, ?_⟩
  have hS := h2.l1
  rw [h1]
  show S[x.1.toNat]! = _
  rw [getD_bang S _ (by omega), h2.hi _ (by omega), b3]
  omega
theorem GoodP.defs_len {s : Sa} (h : GoodP s) : (((defsS s).getD []).length : Int) = s.values := by
  obtain ⟨D, T, S, h1, h2, h3⟩ := h.rel
  rw [h1]; exact h2.l1
theorem GoodP.use_far {s : Sa} (h : GoodP s) {q : Nat} {p : Pt} (hq : s.parts[q]? = some p) {j : Nat} {x : Fl} (hx : p.code[j]? = some x) {v : Int} (hv : v ∈ usesS x) (ho : v ∈ ownS p) : v ∈ p.params ++ dstsS (p.code.take j) := by
  obtain ⟨h1, h2, h3⟩ := h.own_def hq ho
  obtain ⟨_, _, ht⟩ := (h.us q p hq).code j x hx v hv
  rcases ht with ht | ht | ⟨_, ht, _⟩
  · omega
  · exact ht
  · exact absurd h3 ht
theorem GoodP.use_in {s : Sa} (h : GoodP s) {q : Nat} {p : Pt} (hq : s.parts[q]? = some p) {v : Int} (hv : v ∈ endsS p ∨ v ∈ p.code.flatMap usesS) : 0 ≤ v ∧ v < s.values := by
  have hl := h.defs_len
  rcases hv with hv | hv
  · obtain ⟨a, b, _⟩ := (h.us q p hq).ends v hv
    exact ⟨a, by omega⟩
  · obtain ⟨x, hx, hv⟩ := List.mem_flatMap.1 hv
    obtain ⟨j, hj⟩ := List.getElem?_of_mem hx
    obtain ⟨a, b, _⟩ := (h.us q p hq).code j x hj v hv
    exact ⟨a, by omega⟩
theorem LvI.range {s : Sa} (h : GoodP s) {k : Nat} {v : Int} (hv : LvI s k v) : 0 ≤ v ∧ v < s.values := by
  induction hv with
  | own hp h1 hn => exact h.use_in hp h1
  | flow hp hx _ hn ih => exact ih
theorem GoodP.uses_eq {s : Sa} (h : GoodP s) {p : Pt} (hp : p ∈ s.parts) {x : Fl} (hx : x ∈ p.code) : usesI x = usesS x :=
  L.uses_eq (flat_op (static_flat (h.static hp) x hx))
/-- A value is needed ahead of steps, of those needed behind them. -/
def LC (O : Int → Prop) : List Fl → Int → Prop
  | [], v => O v
  | x :: t, v => v ∈ usesI x ∨ (¬ (setsS x = true ∧ v = x.dst) ∧ LC O t v)
theorem LC.of_not {O : Int → Prop} {v : Int} : ∀ {l : List Fl}, v ∉ dstsS l → (O v ∨ ∃ x ∈ l, v ∈ usesI x) → LC O l v
  | [], _, h => by rcases h with h | ⟨x, hx, _⟩; exact h; simp at hx
  | x :: t, hn, h => by
    have hn1 : ¬ (setsS x = true ∧ v = x.dst) := fun ⟨a, b⟩ => hn (by unfold dstsS; rw [List.filter_cons, if_pos a, List.map_cons, b]; exact List.mem_cons_self)
    have hn2 : v ∉ dstsS t := fun a => hn (by unfold dstsS at a ⊢; rw [List.filter_cons]; split; exact List.mem_cons_of_mem _ a; exact a)
    by_cases hx : v ∈ usesI x
    · exact .inl hx
    · refine .inr ⟨hn1, LC.of_not hn2 ?_⟩
      rcases h with h | ⟨y, hy, h⟩
      · exact .inl h
      · rcases List.mem_cons.1 hy with rfl | hy
        · exact absurd h hx
        · exact .inr ⟨y, hy, h⟩
theorem LC.to {s : Sa} (h : GoodP s) {q : Nat} {p : Pt} (hq : s.parts[q]? = some p) {O : Int → Prop} {v : Int} : ∀ (n i : Nat), n = p.code.length - i → i ≤ p.code.length → v ∉ p.params ++ dstsS (p.code.take i) → LC O (p.code.drop i) v →
    (O v ∨ v ∈ p.code.flatMap usesS) ∧ v ∉ ownS p
  | 0, i, hn, hi, h1, h2 => by
    obtain rfl : i = p.code.length := by omega
    rw [List.take_length] at h1
    rw [List.drop_length] at h2
    exact ⟨.inl h2, h1⟩
  | n + 1, i, hn, hi, h1, h2 => by
    have hlt : i < p.code.length := by omega
    rw [List.drop_eq_getElem_cons hlt] at h2
    have hmem := List.getElem_mem hlt
    rcases h2 with h2 | ⟨h3, h2⟩
    · rw [h.uses_eq (List.mem_of_getElem? hq) hmem] at h2
      exact ⟨.inr (List.mem_flatMap.2 ⟨_, hmem, h2⟩), fun ho => h1 (h.use_far hq (List.getElem?_eq_getElem hlt) h2 ho)⟩
    · refine LC.to h hq n (i + 1) (by omega) (by omega) (fun hm => ?_) h2
      rw [dstsS_take hlt] at hm
      split at hm
      · rename_i hs
        rcases List.mem_append.1 hm with hm | hm
        · exact h1 (List.mem_append.2 (.inl hm))
        · rcases List.mem_append.1 hm with hm | hm
          · exact h1 (List.mem_append.2 (.inr hm))
          · exact h3 ⟨hs, List.mem_singleton.1 hm⟩
      · exact h1 hm
theorem LC_iff {s : Sa} (h : GoodP s) {q : Nat} {p : Pt} (hq : s.parts[q]? = some p) {O : Int → Prop} {v : Int} : (LC O p.code v ∧ v ∉ p.params) ↔ ((O v ∨ v ∈ p.code.flatMap usesS) ∧ v ∉ ownS p) := by
  constructor
  · rintro ⟨h1, h2⟩
    exact LC.to h hq (p.code.length - 0) 0 rfl (Nat.zero_le _) (by rw [List.take_zero]; show v ∉ p.params ++ []; rw [List.append_nil]; exact h2) h1
  · rintro ⟨h1, h2⟩
    have hn : ¬ (v ∈ p.params ∨ v ∈ dstsS p.code) := fun h => h2 (List.mem_append.2 h)
    refine ⟨LC.of_not (fun hv => hn (.inr hv)) (h1.imp id fun hv => ?_), fun hv => hn (.inl hv)⟩
    obtain ⟨x, hx, hv⟩ := List.mem_flatMap.1 hv
    exact ⟨x, hx, by rw [h.uses_eq (List.mem_of_getElem? hq) hx]; exact hv⟩
/-- A set as the program keeps it. -/
def addB (S : List Bool) (l : List Int) : List Bool := l.foldl (fun S v => S.set v.toNat true) S
def delB (S : List Bool) (l : List Int) : List Bool := l.foldl (fun S v => S.set v.toNat false) S
def stepB (S : List Bool) (x : Fl) : List Bool := addB (if setsS x then S.set x.dst.toNat false else S) (usesI x)
def liveC (l : List Fl) (S : List Bool) : List Bool := l.foldr (fun x S => stepB S x) S
def liveB (p : Pt) (S : List Bool) : List Bool := delB (liveC p.code S) p.params
def InB (S : List Bool) (v : Int) : Prop := 0 ≤ v ∧ S.getD v.toNat false = true
theorem addB_len (S : List Bool) (l : List Int) : (addB S l).length = S.length := by
  unfold addB
  induction l generalizing S with
  | nil => rfl
  | cons x t ih => rw [List.foldl_cons, ih, List.length_set]
theorem delB_len (S : List Bool) (l : List Int) : (delB S l).length = S.length := by
  unfold delB
  induction l generalizing S with
  | nil => rfl
  | cons x t ih => rw [List.foldl_cons, ih, List.length_set]
theorem stepB_len (S : List Bool) (x : Fl) : (stepB S x).length = S.length := by
  unfold stepB; rw [addB_len]; split <;> simp
theorem liveC_len (l : List Fl) (S : List Bool) : (liveC l S).length = S.length := by
  induction l with
  | nil => rfl
  | cons x t ih => show (stepB (liveC t S) x).length = _; rw [stepB_len, ih]
theorem liveB_len (p : Pt) (S : List Bool) : (liveB p S).length = S.length := by unfold liveB; rw [delB_len, liveC_len]
theorem getD_setB (S : List Bool) (m n : Nat) (b : Bool) (hm : m < S.length) : (S.set m b).getD n false = if n = m then b else S.getD n false := by
  rw [List.getD_eq_getElem?_getD, List.getD_eq_getElem?_getD, List.getElem?_set]
  by_cases h : m = n
  · subst h; simp [hm]
  · rw [if_neg h, if_neg (fun e => h e.symm)]
theorem InB_set {S : List Bool} {m v : Int} {b : Bool} (h0 : 0 ≤ m) (hm : m < S.length) : InB (S.set m.toNat b) v ↔ (if v = m then b = true else InB S v) := by
  unfold InB
  rw [getD_setB _ _ _ _ (by omega)]
  by_cases h : v = m
  · subst h; simp [h0]
  · rw [if_neg h]
    by_cases hv : 0 ≤ v
    · rw [if_neg (by omega)]
    · simp [hv]
theorem InB_add {l : List Int} : ∀ {S : List Bool} {v : Int}, (∀ m ∈ l, 0 ≤ m ∧ m < S.length) → (InB (addB S l) v ↔ v ∈ l ∨ InB S v) := by
  induction l with
  | nil => intro S v _; simp [addB]
  | cons m t ih =>
    intro S v h
    have hm := h m List.mem_cons_self
    show InB (addB (S.set m.toNat true) t) v ↔ _
    rw [ih (fun q hq => by rw [List.length_set]; exact h q (List.mem_cons_of_mem _ hq)), InB_set hm.1 hm.2, List.mem_cons]
    by_cases e : v = m
    · subst e; simp
    · simp [e]
theorem InB_del {l : List Int} : ∀ {S : List Bool} {v : Int}, (∀ m ∈ l, 0 ≤ m ∧ m < S.length) → (InB (delB S l) v ↔ v ∉ l ∧ InB S v) := by
  induction l with
  | nil => intro S v _; simp [delB]
  | cons m t ih =>
    intro S v h
    have hm := h m List.mem_cons_self
    show InB (delB (S.set m.toNat false) t) v ↔ _
    rw [ih (fun q hq => by rw [List.length_set]; exact h q (List.mem_cons_of_mem _ hq)), InB_set hm.1 hm.2, List.mem_cons]
    by_cases e : v = m
    · subst e; simp
    · simp [e]
theorem InB_step {S : List Bool} {x : Fl} {v : Int} (hd : setsS x = true → 0 ≤ x.dst ∧ x.dst < S.length) (hu : ∀ m ∈ usesI x, 0 ≤ m ∧ m < S.length) : InB (stepB S x) v ↔ v ∈ usesI x ∨ (¬ (setsS x = true ∧ v = x.dst) ∧ InB S v) := by
  unfold stepB
  by_cases hs : setsS x = true
  · rw [if_pos hs, InB_add (by rw [List.length_set]; exact hu), InB_set (hd hs).1 (hd hs).2]
    by_cases e : v = x.dst <;> simp [e, hs]
  · rw [if_neg hs, InB_add hu]
    simp [hs]
theorem InB_code {S : List Bool} {v : Int} : ∀ {l : List Fl}, (∀ x ∈ l, (setsS x = true → 0 ≤ x.dst ∧ x.dst < S.length) ∧ ∀ m ∈ usesI x, 0 ≤ m ∧ m < S.length) → (InB (liveC l S) v ↔ LC (InB S) l v)
  | [], _ => Iff.rfl
  | x :: t, h => by
    have hx := h x List.mem_cons_self
    show InB (stepB (liveC t S) x) v ↔ _
    rw [InB_step (by rw [liveC_len]; exact hx.1) (by rw [liveC_len]; exact hx.2), InB_code (fun y hy => h y (List.mem_cons_of_mem _ hy))]
    exact Iff.rfl
theorem GoodP.steps_in {s : Sa} (h : GoodP s) {q : Nat} {p : Pt} (hq : s.parts[q]? = some p) {x : Fl} (hx : x ∈ p.code) : (setsS x = true → 12 ≤ x.dst ∧ x.dst < s.values) ∧ ∀ m ∈ usesI x, 0 ≤ m ∧ m < s.values := by
  refine ⟨fun hs => ?_, fun m hm => ?_⟩
  · obtain ⟨h1, h2, _⟩ := h.own_def hq (v := x.dst) (List.mem_append.2 (.inr (by unfold dstsS; exact List.mem_map.2 ⟨x, List.mem_filter.2 ⟨hx, hs⟩, rfl⟩)))
    exact ⟨h1, h2⟩
  · rw [h.uses_eq (List.mem_of_getElem? hq) hx] at hm
    exact h.use_in hq (.inr (List.mem_flatMap.2 ⟨x, hx, hm⟩))
theorem InB_live {s : Sa} (h : GoodP s) {q : Nat} {p : Pt} (hq : s.parts[q]? = some p) {S : List Bool} (hS : (S.length : Int) = s.values) {v : Int} : InB (liveB p S) v ↔ ((InB S v ∨ v ∈ p.code.flatMap usesS) ∧ v ∉ ownS p) := by
  unfold liveB
  rw [InB_del (fun m hm => by
      have := h.own_def hq (v := m) (List.mem_append.2 (.inl hm))
      rw [liveC_len]; omega), InB_code (fun x hx => by
      have := h.steps_in hq hx
      refine ⟨fun hs => ?_, fun m hm => ?_⟩
      · have := this.1 hs; omega
      · have := this.2 m hm; omega), and_comm]
  exact LC_iff h hq
end Go.Proofs.YtnfaibenekninaaGreat.L

set_option linter.unusedVariables false
set_option linter.unusedSimpArgs false
namespace Go.Proofs.YtnfaibenekninaaGreat.L
open Go.RowKit
theorem getD_set_bang {D : List Int} {a b : Nat} {x : Int} (ha : a < D.length) : (D.set a x)[b]! = if b = a then x else D[b]! := by
  by_cases h : b = a
  · subst h; rw [if_pos rfl]; simp [ha]
  · rw [if_neg h]; simp [List.getElem!_eq_getElem?_getD, List.getElem?_set, Ne.symm h]
theorem defStep_nodup {k : Int} (hk : 0 ≤ k) : ∀ {l : List Int} {D D' : List Int}, defStep k D l = some D' → l.Nodup ∧ ∀ v ∈ l, 0 ≤ v ∧ D[v.toNat]! < 0
  | [], _, _, _ => ⟨List.nodup_nil, fun v h => by cases h⟩
  | v :: t, D, D', h => by
    unfold defStep at h
    split at h
    · cases h
    · rename_i hc
      obtain ⟨h1, h2⟩ := defStep_nodup hk h
      have hv : v.toNat < D.length := by omega
      refine ⟨List.nodup_cons.2 ⟨fun hm => ?_, h1⟩, fun u hu => ?_⟩
      · have := (h2 v hm).2
        rw [getD_set_bang hv, if_pos rfl] at this; omega
      · rcases List.mem_cons.1 hu with rfl | hu
        · omega
        · obtain ⟨h3, h4⟩ := h2 u hu
          rw [getD_set_bang hv] at h4
          split at h4
          · omega
          · exact ⟨h3, h4⟩
theorem defsFrom_nodup : ∀ {ps : List Pt} {k : Int} {D D' : List Int}, 0 ≤ k → defsFrom k D ps = some D' → ∀ p ∈ ps, (ownS p).Nodup
  | [], _, _, _, _, _, p, hp => by cases hp
  | q :: t, k, D, D', hk, h, p, hp => by
    unfold defsFrom at h
    obtain ⟨D1, h1, h2⟩ := Option.bind_eq_some_iff.1 h
    rcases List.mem_cons.1 hp with rfl | hp
    · exact (defStep_nodup hk h1).1
    · exact defsFrom_nodup (by omega) h2 p hp
theorem GoodP.own_nodup {s : Sa} (h : GoodP s) {p : Pt} (hp : p ∈ s.parts) : (ownS p).Nodup := by
  obtain ⟨D, hD⟩ := Option.isSome_iff_exists.1 h.defs
  exact defsFrom_nodup (by omega) hD p hp
theorem GoodP.params_len {s : Sa} (h : GoodP s) {p : Pt} (hp : p ∈ s.parts) : p.params.length ≤ 250 := by
  obtain ⟨q, hq, hqe⟩ := List.getElem_of_mem hp
  have hq' : s.parts[q]? = some p := by rw [List.getElem?_eq_getElem hq, hqe]
  have hn := (List.nodup_append.1 (h.own_nodup hp)).1
  exact len_nodup_range hn (fun x hx => by have := h.own_def hq' (v := x) (List.mem_append.2 (.inl hx)); have := h.v2; omega)
theorem GoodP.next_len {s : Sa} (h : GoodP s) {p : Pt} (hp : p ∈ s.parts) : p.next.length ≤ 6 := by
  have hs := h.static hp
  unfold staticI at hs
  simp only [Bool.and_eq_true] at hs
  have hg := hs.1.1.2
  unfold goB at hg
  simp only [Bool.and_eq_true] at hg
  have hg := hg.2
  split at hg
  · simp at hg; omega
  · split at hg
    · simp at hg; omega
    · split at hg
      · unfold inB at hg; simp at hg; omega
      · simp at hg; rw [hg.2]; simp
theorem fitS_rows {parts : List Pt} {N : Nat} (hN : ∀ q ∈ parts, q.params.length ≤ N) : ∀ {ks : List Int} {l : List (List Int)}, fitS parts ks l = true → ∀ a ∈ l, a.length ≤ N
  | [], [], _, a, ha => by cases ha
  | [], _ :: _, h, _, _ => by simp [fitS] at h
  | _ :: _, [], h, _, ha => by cases ha
  | k :: ks, b :: l, h, a, ha => by
    simp only [fitS, Bool.and_eq_true] at h
    rcases List.mem_cons.1 ha with rfl | ha
    · cases hq : parts[k.toNat]? with
      | none => rw [hq] at h; simp at h
      | some q =>
        rw [hq] at h
        have := hN q (List.mem_of_getElem? hq)
        simp at h; omega
    · exact fitS_rows hN h.2 a ha
theorem GoodP.ptOk {s : Sa} (h : GoodP s) {p : Pt} (hp : p ∈ s.parts) : PtOk p := by
  have h1 := h.params_len hp
  have h2 := h.next_len hp
  have hs := h.static hp
  unfold staticI at hs
  simp only [Bool.and_eq_true] at hs
  have hpt := h.pt p hp
  unfold partS midS at hpt
  simp only [Bool.and_eq_true, decide_eq_true_eq] at hpt
  have h3 := hpt.1.2.2
  have ha := hs.2
  unfold argsS at ha
  refine ⟨by omega, by omega, by omega, ?_⟩
  split at ha
  · split at ha
    · rename_i a he
      rw [he]
      refine ⟨by simp, fun b hb => ?_⟩
      rw [List.mem_singleton.1 hb]
      simp at ha; omega
    · cases ha
  · have := fitS_len _ _ _ ha
    exact ⟨by omega, fun a haa => by have := fitS_rows (N := 250) (fun q hq => h.params_len hq) ha a haa; omega⟩
theorem GoodP.ptsOk {s : Sa} (h : GoodP s) : PtsOk s.parts := ⟨by have := h.n2; omega, fun p hp => h.ptOk hp⟩
end Go.Proofs.YtnfaibenekninaaGreat.L

set_option linter.unusedVariables false
namespace Go.Proofs.YtnfaibenekninaaGreat.L
section
variable {κ μ : Type} [DecidableEq κ] [DecidableEq μ]
/-- Distinct things of a list, in the order in which they first come. -/
def addF (s : List κ) (x : κ) : List κ := if x ∈ s then s else s ++ [x]
def firsts (l : List κ) : List κ := l.foldl addF []
def numL (l : List κ) : List Nat := l.map (fun x => (firsts l).idxOf x)
theorem firsts_snoc (l : List κ) (x : κ) : firsts (l ++ [x]) = addF (firsts l) x := by unfold firsts; rw [List.foldl_append]; rfl
theorem mem_addF {s : List κ} {x y : κ} : y ∈ addF s x ↔ y ∈ s ∨ y = x := by
  unfold addF
  split
  · rename_i h
    exact ⟨.inl, fun h' => h'.elim id (fun e => by rw [e]; exact h)⟩
  · simp
theorem mem_foldF (l : List κ) : ∀ (s : List κ) (y : κ), y ∈ l.foldl addF s ↔ y ∈ s ∨ y ∈ l := by
  induction l with
  | nil => intro s y; simp
  | cons x t ih => intro s y; rw [List.foldl_cons, ih, mem_addF, List.mem_cons, or_assoc]
theorem mem_firsts {l : List κ} {y : κ} : y ∈ firsts l ↔ y ∈ l := by unfold firsts; rw [mem_foldF]; simp
theorem foldF_pre (l : List κ) : ∀ s : List κ, s <+: l.foldl addF s := by
  induction l with
  | nil => intro s; exact List.prefix_refl _
  | cons x t ih =>
    intro s
    rw [List.foldl_cons]
    refine List.IsPrefix.trans ?_ (ih _)
    unfold addF
    split
    · exact List.prefix_refl _
    · exact List.prefix_append _ _
theorem firsts_pre (l m : List κ) : firsts l <+: firsts (l ++ m) := by
  unfold firsts
  rw [List.foldl_append]
  exact foldF_pre _ _
theorem idx_pre {s t : List κ} (h : s <+: t) {x : κ} (hx : x ∈ s) : t.idxOf x = s.idxOf x := by
  obtain ⟨u, rfl⟩ := h
  rw [List.idxOf_append, if_pos hx]
theorem idx_inj {s : List κ} {x y : κ} (hx : x ∈ s) (hy : y ∈ s) (h : s.idxOf x = s.idxOf y) : x = y := by
  have h1 := List.getElem_idxOf (List.idxOf_lt_length_of_mem hx)
  have h2 := List.getElem_idxOf (List.idxOf_lt_length_of_mem hy)
  rw [← h1, ← h2]
  simp only [h]
theorem take_snoc {l : List κ} {i : Nat} (hi : i < l.length) : firsts (l.take (i + 1)) = addF (firsts (l.take i)) l[i] := by
  rw [List.take_succ_eq_append_getElem hi, firsts_snoc]
theorem idx_take {l : List κ} {i : Nat} {x : κ} (hx : x ∈ l.take i) : (firsts l).idxOf x = (firsts (l.take i)).idxOf x := by
  have h := firsts_pre (l.take i) (l.drop i)
  rw [List.take_append_drop] at h
  exact idx_pre h (mem_firsts.2 hx)
theorem numL_len (l : List κ) : (numL l).length = l.length := by unfold numL; simp
theorem numL_get {l : List κ} {i : Nat} (hi : i < l.length) : (numL l).getD i 0 = (firsts l).idxOf l[i] := by
  unfold numL
  rw [List.getD_eq_getElem?_getD, List.getElem?_map, List.getElem?_eq_getElem hi]
  rfl
theorem numL_lt {l : List κ} {i : Nat} (hi : i < l.length) : (numL l).getD i 0 < (firsts l).length := by
  rw [numL_get hi]
  exact List.idxOf_lt_length_of_mem (mem_firsts.2 (List.getElem_mem hi))
theorem firsts_len (l : List κ) : (firsts l).length ≤ l.length := by
  have key : ∀ (l s : List κ), (l.foldl addF s).length ≤ s.length + l.length := by
    intro l
    induction l with
    | nil => intro s; simp
    | cons x t ih =>
      intro s
      rw [List.foldl_cons, List.length_cons]
      refine Nat.le_trans (ih _) ?_
      have : (addF s x).length ≤ s.length + 1 := by unfold addF; split <;> simp
      omega
  have := key l []
  simpa [firsts] using this
theorem numL_iff {l : List κ} {i j : Nat} (hi : i < l.length) (hj : j < l.length) : (numL l).getD i 0 = (numL l).getD j 0 ↔ l[i] = l[j] := by
  rw [numL_get hi, numL_get hj]
  exact ⟨fun h => idx_inj (mem_firsts.2 (List.getElem_mem hi)) (mem_firsts.2 (List.getElem_mem hj)) h, fun h => by rw [h]⟩
omit [DecidableEq κ] in
theorem mem_take_iff {l : List κ} {n : Nat} {x : κ} (hn : n ≤ l.length) : x ∈ l.take n ↔ ∃ (j : Nat) (hj : j < n), l[j]'(by omega) = x := by
  rw [List.mem_take_iff_getElem]
  constructor
  · rintro ⟨j, hj, h⟩; exact ⟨j, by omega, h⟩
  · rintro ⟨j, hj, h⟩; exact ⟨j, by omega, h⟩
/-- Two lists alike in what is alike are numbered alike. -/
theorem num_take {l : List κ} {m : List μ} (hl : l.length = m.length) (h : ∀ (i j : Nat) (hi : i < l.length) (hj : j < l.length), l[i] = l[j] ↔ m[i]'(by omega) = m[j]'(by omega)) : ∀ n, n ≤ l.length →
    (firsts (l.take n)).length = (firsts (m.take n)).length ∧ ∀ (i : Nat) (hi : i < n) (hn : i < l.length), (firsts (l.take n)).idxOf l[i] = (firsts (m.take n)).idxOf (m[i]'(by omega)) := by
  intro n
  induction n with
  | zero => intro _; exact ⟨by simp [firsts], fun i hi => by omega⟩
  | succ n ih =>
    intro hn
    obtain ⟨h1, h2⟩ := ih (by omega)
    have hnl : n < l.length := by omega
    have hnm : n < m.length := by omega
    rw [take_snoc hnl, take_snoc hnm]
    have hiff : l[n] ∈ firsts (l.take n) ↔ m[n] ∈ firsts (m.take n) := by
      rw [mem_firsts, mem_firsts, mem_take_iff (by omega), mem_take_iff (by omega)]
      exact exists_congr fun j => exists_congr fun hj => h j n (by omega) hnl
    unfold addF
    by_cases hin : l[n] ∈ firsts (l.take n)
    · rw [if_pos hin, if_pos (hiff.1 hin)]
      refine ⟨h1, fun i hi hil => ?_⟩
      rcases Nat.lt_or_eq_of_le (Nat.le_of_lt_succ hi) with hi | rfl
      · exact h2 i hi hil
      · obtain ⟨j, hj, hjx⟩ := (mem_take_iff (by omega)).1 (mem_firsts.1 hin)
        have hjy := (h j i (by omega) hil).1 hjx
        rw [← hjx, ← hjy]
        exact h2 j hj (by omega)
    · rw [if_neg hin, if_neg (fun hh => hin (hiff.2 hh))]
      refine ⟨by rw [List.length_append, List.length_append, h1]; rfl, fun i hi hil => ?_⟩
      rcases Nat.lt_or_eq_of_le (Nat.le_of_lt_succ hi) with hi | rfl
      · have a1 : l[i] ∈ firsts (l.take n) := mem_firsts.2 ((mem_take_iff (by omega)).2 ⟨i, hi, rfl⟩)
        have a2 : m[i]'(by omega) ∈ firsts (m.take n) := mem_firsts.2 ((mem_take_iff (by omega)).2 ⟨i, hi, rfl⟩)
        rw [List.idxOf_append, if_pos a1, List.idxOf_append, if_pos a2]
        exact h2 i hi hil
      · rw [List.idxOf_append, if_neg hin, List.idxOf_append, if_neg (fun hh => hin (hiff.2 hh)), h1]
        simp
theorem num_congr {l : List κ} {m : List μ} (hl : l.length = m.length) (h : ∀ (i j : Nat) (hi : i < l.length) (hj : j < l.length), l[i] = l[j] ↔ m[i]'(by omega) = m[j]'(by omega)) : numL l = numL m ∧ (firsts l).length = (firsts m).length := by
  obtain ⟨h1, h2⟩ := num_take hl h l.length (Nat.le_refl _)
  have ht : m.take l.length = m := by rw [hl, List.take_length]
  rw [List.take_length, ht] at h1 h2
  refine ⟨?_, h1⟩
  apply List.ext_getElem
  · rw [numL_len, numL_len, hl]
  · intro i hi hi'
    rw [numL_len] at hi hi'
    simp only [numL, List.getElem_map]
    exact h2 i (by omega) hi
/-- A finer list has no fewer different things, and as many only where it is no finer. -/
theorem num_fine {l : List κ} {m : List μ} (hl : l.length = m.length) (h : ∀ (i j : Nat) (hi : i < l.length) (hj : j < l.length), m[i]'(by omega) = m[j]'(by omega) → l[i] = l[j]) : ∀ n, n ≤ l.length →
    (firsts (l.take n)).length ≤ (firsts (m.take n)).length ∧ ((firsts (l.take n)).length = (firsts (m.take n)).length → ∀ (i j : Nat) (hi : i < n) (hj : j < n) (hil : i < l.length) (hjl : j < l.length), l[i] = l[j] → m[i]'(by omega) = m[j]'(by omega)) := by
  intro n
  induction n with
  | zero => intro _; exact ⟨by simp [firsts], fun _ i j hi => by omega⟩
  | succ n ih =>
    intro hn
    obtain ⟨h1, h2⟩ := ih (by omega)
    have hnl : n < l.length := by omega
    have hnm : n < m.length := by omega
    rw [take_snoc hnl, take_snoc hnm]
    have hL : l[n] ∈ firsts (l.take n) ↔ ∃ (j : Nat) (hj : j < n), l[j]'(by omega) = l[n] := by rw [mem_firsts, mem_take_iff (by omega)]
    have hM : m[n] ∈ firsts (m.take n) ↔ ∃ (j : Nat) (hj : j < n), m[j]'(by omega) = m[n] := by rw [mem_firsts, mem_take_iff (by omega)]
    unfold addF
    by_cases hm : m[n] ∈ firsts (m.take n)
    · obtain ⟨q, hq, hqm⟩ := hM.1 hm
      have hql := h q n (by omega) hnl hqm
      rw [if_pos (hL.2 ⟨q, hq, hql⟩), if_pos hm]
      refine ⟨h1, fun he i j hi hj hil hjl hij => ?_⟩
      have h3 := h2 he
      have hx : ∀ (i : Nat) (hi : i < n + 1) (hil : i < l.length), ∃ (a : Nat) (ha : a < n), l[a]'(by omega) = l[i] ∧ m[a]'(by omega) = m[i]'(by omega) := by
        intro i hi hil
        rcases Nat.lt_or_eq_of_le (Nat.le_of_lt_succ hi) with hi | rfl
        · exact ⟨i, hi, rfl, rfl⟩
        · exact ⟨q, hq, hql, hqm⟩
      obtain ⟨a, ha, ha1, ha2⟩ := hx i hi hil
      obtain ⟨b, hb, hb1, hb2⟩ := hx j hj hjl
      rw [← ha2, ← hb2]
      exact h3 a b ha hb (by omega) (by omega) (by rw [ha1, hb1, hij])
    · rw [if_neg hm]
      by_cases hlm : l[n] ∈ firsts (l.take n)
      · rw [if_pos hlm, List.length_append]
        exact ⟨by omega, fun he => by simp only [List.length_cons, List.length_nil] at he; omega⟩
      · rw [if_neg hlm, List.length_append, List.length_append]
        refine ⟨by simpa using h1, fun he i j hi hj hil hjl hij => ?_⟩
        have h3 := h2 (by simpa using he)
        rcases Nat.lt_or_eq_of_le (Nat.le_of_lt_succ hi) with hi | rfl
        · rcases Nat.lt_or_eq_of_le (Nat.le_of_lt_succ hj) with hj | rfl
          · exact h3 i j hi hj hil hjl hij
          · exact absurd (hL.2 ⟨i, hi, hij⟩) hlm
        · rcases Nat.lt_or_eq_of_le (Nat.le_of_lt_succ hj) with hj | rfl
          · exact absurd (hL.2 ⟨j, hj, hij.symm⟩) hlm
          · rfl
theorem firsts_le {l : List κ} {m : List μ} (hl : l.length = m.length) (h : ∀ (i j : Nat) (hi : i < l.length) (hj : j < l.length), m[i]'(by omega) = m[j]'(by omega) → l[i] = l[j]) : (firsts l).length ≤ (firsts m).length := by
  have := (num_fine hl h l.length (Nat.le_refl _)).1
  have ht : m.take l.length = m := by rw [hl, List.take_length]
  rwa [List.take_length, ht] at this
theorem firsts_eq_iff {l : List κ} {m : List μ} (hl : l.length = m.length) (h : ∀ (i j : Nat) (hi : i < l.length) (hj : j < l.length), m[i]'(by omega) = m[j]'(by omega) → l[i] = l[j]) :
    (firsts m).length = (firsts l).length ↔ ∀ (i j : Nat) (hi : i < l.length) (hj : j < l.length), l[i] = l[j] → m[i]'(by omega) = m[j]'(by omega) := by
  constructor
  · intro he i j hi hj
    have := (num_fine hl h l.length (Nat.le_refl _)).2
    have ht : m.take l.length = m := by rw [hl, List.take_length]
    rw [List.take_length, ht] at this
    exact this he.symm i j (by omega) (by omega) hi hj
  · intro h'
    exact (num_congr hl (fun i j hi hj => ⟨h' i j hi hj, h i j hi hj⟩)).2.symm
/-- The least place with the same key. -/
def leastS (f : Nat → κ) (v : Nat) : Nat := ((List.range v).find? (fun w => decide (f w = f v))).getD v
theorem leastS_spec (f : Nat → κ) (v : Nat) : leastS f v ≤ v ∧ f (leastS f v) = f v ∧ ∀ w, w < leastS f v → f w ≠ f v := by
  unfold leastS
  cases h : (List.range v).find? (fun w => decide (f w = f v)) with
  | none =>
    rw [List.find?_eq_none] at h
    exact ⟨Nat.le_refl _, rfl, fun w hw => by simpa using h w (List.mem_range.2 hw)⟩
  | some w =>
    rw [List.find?_range_eq_some] at h
    obtain ⟨h1, h2, h3⟩ := h
    exact ⟨by have := List.mem_range.1 h2; simp; omega, by simpa using h1, fun u hu => by simpa using h3 u hu⟩
theorem leastS_iff (f : Nat → κ) (v w : Nat) : leastS f v = leastS f w ↔ f v = f w := by
  obtain ⟨a1, a2, a3⟩ := leastS_spec f v
  obtain ⟨b1, b2, b3⟩ := leastS_spec f w
  constructor
  · intro h; rw [← a2, ← b2, h]
  · intro h
    rcases Nat.lt_trichotomy (leastS f v) (leastS f w) with hh | hh | hh
    · exact absurd (a2.trans h) (b3 _ hh)
    · exact hh
    · exact absurd (b2.trans h.symm) (a3 _ hh)
/-- leastS is determined by what is alike. -/
theorem leastS_congr {f : Nat → κ} {g : Nat → μ} {n : Nat} (h : ∀ v w, v < n → w < n → (f v = f w ↔ g v = g w)) {v : Nat} (hv : v < n) : leastS f v = leastS g v := by
  obtain ⟨a1, a2, a3⟩ := leastS_spec f v
  obtain ⟨b1, b2, b3⟩ := leastS_spec g v
  rcases Nat.lt_trichotomy (leastS f v) (leastS g v) with hh | hh | hh
  · exact absurd ((h _ _ (by omega) hv).1 a2) (b3 _ hh)
  · exact hh
  · exact absurd ((h _ _ (by omega) hv).2 b2) (a3 _ hh)
end
end Go.Proofs.YtnfaibenekninaaGreat.L

set_option linter.unusedVariables false
namespace Go.Proofs.YtnfaibenekninaaGreat.L
section
variable {σ : Type} [DecidableEq σ]
/-- What the program's round asks of a value: its group, and those of what it uses. -/
def keyI (us : Nat → List Nat) (now : List Nat) (k : Nat) : Nat × List UInt8 := (now.getD k 0, (us k).map (fun u => UInt8.ofNat (now.getD u 0)))
def keysI (n : Nat) (us : Nat → List Nat) (now : List Nat) : List (Nat × List UInt8) := (List.range n).map (keyI us now)
def nowI (n : Nat) (srt : Nat → σ) (us : Nat → List Nat) : Nat → List Nat
  | 0 => numL ((List.range n).map srt)
  | t + 1 => numL (keysI n us (nowI n srt us t))
def cntI (n : Nat) (srt : Nat → σ) (us : Nat → List Nat) : Nat → Nat
  | 0 => (firsts ((List.range n).map srt)).length
  | t + 1 => (firsts (keysI n us (nowI n srt us t))).length
/-- The reference's groups: by their first values. -/
def gS (srt : Nat → σ) (us : Nat → List Nat) (root : Nat → Nat) : Nat → Nat → Nat
  | 0 => leastS srt
  | t + 1 => leastS (fun v => (gS srt us root t v, srt v, (us v).map (fun u => gS srt us root t (root u))))
def keyS (srt : Nat → σ) (us : Nat → List Nat) (root : Nat → Nat) (t v : Nat) : Nat × σ × List Nat := (gS srt us root t v, srt v, (us v).map (fun u => gS srt us root t (root u)))
theorem gS_succ (srt : Nat → σ) (us : Nat → List Nat) (root : Nat → Nat) (t : Nat) : gS srt us root (t + 1) = leastS (keyS srt us root t) := rfl
structure Grp (n : Nat) (srt : Nat → σ) (us : Nat → List Nat) (root : Nat → Nat) : Prop where
  n2 : n ≤ 250
  rt : ∀ v, v < n → root v < n ∧ root (root v) = root v
  us : ∀ v, v < n → ∀ u ∈ us v, u < n
  cp : ∀ v w, v < n → w < n → root v ≠ v → srt v = srt w → v = w
theorem map_iff {α β γ : Type} {f : α → β} {g : α → γ} : ∀ {l m : List α}, (∀ a ∈ l, ∀ b ∈ m, (f a = f b ↔ g a = g b)) → (l.map f = m.map f ↔ l.map g = m.map g)
  | [], [], _ => by simp
  | [], _ :: _, _ => by simp
  | _ :: _, [], _ => by simp
  | a :: l, b :: m, h => by
    simp only [List.map_cons, List.cons.injEq]
    rw [h a List.mem_cons_self b List.mem_cons_self, map_iff (fun x hx y hy => h x (List.mem_cons_of_mem _ hx) y (List.mem_cons_of_mem _ hy))]
theorem u8_inj {a b : Nat} (ha : a < 256) (hb : b < 256) : UInt8.ofNat a = UInt8.ofNat b ↔ a = b := by
  constructor
  · intro h
    have := congrArg UInt8.toNat h
    simpa [UInt8.toNat_ofNat', Nat.mod_eq_of_lt ha, Nat.mod_eq_of_lt hb] using this
  · intro h; rw [h]
section
variable {n : Nat} {srt : Nat → σ} {us : Nat → List Nat} {root : Nat → Nat}
theorem gS_srt (t : Nat) {v w : Nat} (h : gS srt us root t v = gS srt us root t w) : srt v = srt w := by
  cases t with
  | zero => exact (leastS_iff srt v w).1 h
  | succ t =>
    rw [gS_succ] at h
    have := (leastS_iff _ v w).1 h
    simp only [keyS, Prod.mk.injEq] at this
    exact this.2.1
theorem gS_fine (t : Nat) {v w : Nat} (h : gS srt us root (t + 1) v = gS srt us root (t + 1) w) : gS srt us root t v = gS srt us root t w := by
  rw [gS_succ] at h
  have := (leastS_iff _ v w).1 h
  simp only [keyS, Prod.mk.injEq] at this
  exact this.1
theorem gS_le (t v : Nat) : gS srt us root t v ≤ v := by
  cases t with
  | zero => exact (leastS_spec srt v).1
  | succ t => rw [gS_succ]; exact (leastS_spec _ v).1
/-- The things that are numbered in a round. -/
theorem nowI_len (t : Nat) : (nowI n srt us t).length = n := by
  cases t <;> simp [nowI, numL_len, keysI]
theorem nowI_lt (t : Nat) {v : Nat} (hv : v < n) : (nowI n srt us t).getD v 0 < cntI n srt us t := by
  cases t with
  | zero => exact numL_lt (by simpa using hv)
  | succ t => exact numL_lt (by simpa [keysI] using hv)
theorem cntI_le (t : Nat) : cntI n srt us t ≤ n := by
  cases t with
  | zero => have := firsts_len ((List.range n).map srt); simpa [cntI] using this
  | succ t => have := firsts_len (keysI n us (nowI n srt us t)); simpa [cntI, keysI] using this
theorem nowI_zero_iff {v w : Nat} (hv : v < n) (hw : w < n) : (nowI n srt us 0).getD v 0 = (nowI n srt us 0).getD w 0 ↔ srt v = srt w := by
  have := numL_iff (l := (List.range n).map srt) (i := v) (j := w) (by simpa using hv) (by simpa using hw)
  simpa [nowI] using this
theorem nowI_succ_iff {t v w : Nat} (hv : v < n) (hw : w < n) : (nowI n srt us (t + 1)).getD v 0 = (nowI n srt us (t + 1)).getD w 0 ↔ keyI us (nowI n srt us t) v = keyI us (nowI n srt us t) w := by
  have := numL_iff (l := keysI n us (nowI n srt us t)) (i := v) (j := w) (by simpa [keysI] using hv) (by simpa [keysI] using hw)
  simpa [nowI, keysI] using this
theorem nowI_fine {t v w : Nat} (hv : v < n) (hw : w < n) (h : (nowI n srt us (t + 1)).getD v 0 = (nowI n srt us (t + 1)).getD w 0) : (nowI n srt us t).getD v 0 = (nowI n srt us t).getD w 0 := by
  have := (nowI_succ_iff hv hw).1 h
  simp only [keyI, Prod.mk.injEq] at this
  exact this.1
theorem sim (h : Grp n srt us root) (t : Nat) : ∀ v w, v < n → w < n → ((nowI n (fun v => srt (root v)) (fun v => us (root v)) t).getD v 0 = (nowI n (fun v => srt (root v)) (fun v => us (root v)) t).getD w 0 ↔ gS srt us root t (root v) = gS srt us root t (root w)) := by
  induction t with
  | zero =>
    intro v w hv hw
    rw [nowI_zero_iff hv hw]
    exact (leastS_iff srt _ _).symm
  | succ t ih =>
    intro v w hv hw
    rw [nowI_succ_iff hv hw, gS_succ, leastS_iff]
    simp only [keyI, keyS, Prod.mk.injEq]
    have hm : ((us (root v)).map (fun u => UInt8.ofNat ((nowI n (fun v => srt (root v)) (fun v => us (root v)) t).getD u 0)) = (us (root w)).map (fun u => UInt8.ofNat ((nowI n (fun v => srt (root v)) (fun v => us (root v)) t).getD u 0))) ↔
        ((us (root v)).map (fun u => gS srt us root t (root u)) = (us (root w)).map (fun u => gS srt us root t (root u))) := by
      refine map_iff (fun a ha b hb => ?_)
      have ha' := h.us _ (h.rt v hv).1 a ha
      have hb' := h.us _ (h.rt w hw).1 b hb
      have h1 := nowI_lt (srt := fun v => srt (root v)) (us := fun v => us (root v)) t ha'
      have h2 := nowI_lt (srt := fun v => srt (root v)) (us := fun v => us (root v)) t hb'
      have h3 := cntI_le (n := n) (srt := fun v => srt (root v)) (us := fun v => us (root v)) t
      have h4 := h.n2
      rw [u8_inj (by omega) (by omega)]
      exact ih a b ha' hb'
    rw [hm, ih v w hv hw]
    exact ⟨fun hh => ⟨hh.1, gS_srt t hh.1, hh.2⟩, fun hh => ⟨hh.1, hh.2.2⟩⟩
def StopI (n : Nat) (srt : Nat → σ) (us : Nat → List Nat) (t : Nat) : Prop := cntI n srt us (t + 1) = cntI n srt us t
def StopS (n : Nat) (srt : Nat → σ) (us : Nat → List Nat) (root : Nat → Nat) (t : Nat) : Prop := ∀ v, v < n → gS srt us root (t + 1) v = gS srt us root t v
theorem stopI_iff (t : Nat) : StopI n srt us t ↔ ∀ v w, v < n → w < n → (nowI n srt us t).getD v 0 = (nowI n srt us t).getD w 0 → (nowI n srt us (t + 1)).getD v 0 = (nowI n srt us (t + 1)).getD w 0 := by
  unfold StopI
  cases t with
  | zero =>
    have key := firsts_eq_iff (l := (List.range n).map srt) (m := keysI n us (nowI n srt us 0)) (by simp [keysI]) (fun i j hi hj hij => by
      have hi' : i < n := by simpa using hi
      have hj' : j < n := by simpa using hj
      have := nowI_fine hi' hj' ((nowI_succ_iff hi' hj').2 (by simpa [keysI] using hij))
      simpa using (nowI_zero_iff hi' hj').1 this)
    show (firsts (keysI n us (nowI n srt us 0))).length = (firsts ((List.range n).map srt)).length ↔ _
    rw [key]
    constructor
    · intro h v w hv hw hvw
      have := h v w (by simpa using hv) (by simpa using hw) (by simpa using (nowI_zero_iff hv hw).1 hvw)
      exact (nowI_succ_iff hv hw).2 (by simpa [keysI] using this)
    · intro h i j hi hj hij
      have hi' : i < n := by simpa using hi
      have hj' : j < n := by simpa using hj
      have := (nowI_succ_iff hi' hj').1 (h i j hi' hj' ((nowI_zero_iff hi' hj').2 (by simpa using hij)))
      simpa [keysI] using this
  | succ t =>
    have key := firsts_eq_iff (l := keysI n us (nowI n srt us t)) (m := keysI n us (nowI n srt us (t + 1))) (by simp [keysI]) (fun i j hi hj hij => by
      have hi' : i < n := by simpa [keysI] using hi
      have hj' : j < n := by simpa [keysI] using hj
      have := nowI_fine hi' hj' ((nowI_succ_iff hi' hj').2 (by simpa [keysI] using hij))
      simpa [keysI] using (nowI_succ_iff hi' hj').1 this)
    show (firsts (keysI n us (nowI n srt us (t + 1)))).length = (firsts (keysI n us (nowI n srt us t))).length ↔ _
    rw [key]
    constructor
    · intro h v w hv hw hvw
      have := h v w (by simpa [keysI] using hv) (by simpa [keysI] using hw) (by simpa [keysI] using (nowI_succ_iff hv hw).1 hvw)
      exact (nowI_succ_iff hv hw).2 (by simpa [keysI] using this)
    · intro h i j hi hj hij
      have hi' : i < n := by simpa [keysI] using hi
      have hj' : j < n := by simpa [keysI] using hj
      have := (nowI_succ_iff hi' hj').1 (h i j hi' hj' ((nowI_succ_iff hi' hj').2 (by simpa [keysI] using hij)))
      simpa [keysI] using this
theorem cntI_mono (t : Nat) : cntI n srt us t ≤ cntI n srt us (t + 1) := by
  cases t with
  | zero =>
    exact firsts_le (l := (List.range n).map srt) (m := keysI n us (nowI n srt us 0)) (by simp [keysI]) (fun i j hi hj hij => by
      have hi' : i < n := by simpa using hi
      have hj' : j < n := by simpa using hj
      have := nowI_fine hi' hj' ((nowI_succ_iff hi' hj').2 (by simpa [keysI] using hij))
      simpa using (nowI_zero_iff hi' hj').1 this)
  | succ t =>
    exact firsts_le (l := keysI n us (nowI n srt us t)) (m := keysI n us (nowI n srt us (t + 1))) (by simp [keysI]) (fun i j hi hj hij => by
      have hi' : i < n := by simpa [keysI] using hi
      have hj' : j < n := by simpa [keysI] using hj
      have := nowI_fine hi' hj' ((nowI_succ_iff hi' hj').2 (by simpa [keysI] using hij))
      simpa [keysI] using (nowI_succ_iff hi' hj').1 this)
/-- gS is by least places of one key or other. -/
theorem gS_rel {t : Nat} (hh : ∀ v w, v < n → w < n → gS srt us root t v = gS srt us root t w → gS srt us root (t + 1) v = gS srt us root (t + 1) w) : StopS n srt us root t := by
  intro v hv
  have hiff : ∀ v w, v < n → w < n → (gS srt us root (t + 1) v = gS srt us root (t + 1) w ↔ gS srt us root t v = gS srt us root t w) := fun v w hv hw => ⟨gS_fine t, hh v w hv hw⟩
  cases t with
  | zero =>
    show leastS (keyS srt us root 0) v = leastS srt v
    exact leastS_congr (fun v w hv hw => by
      have := hiff v w hv hw
      rw [gS_succ, leastS_iff] at this
      exact this.trans (leastS_iff srt v w)) hv
  | succ t =>
    rw [gS_succ, gS_succ]
    exact leastS_congr (fun v w hv hw => by
      have := hiff v w hv hw
      rw [gS_succ, leastS_iff, gS_succ, leastS_iff] at this
      exact this) hv
theorem stop_iff (h : Grp n srt us root) (t : Nat) : StopI n (fun v => srt (root v)) (fun v => us (root v)) t ↔ StopS n srt us root t := by
  rw [stopI_iff]
  constructor
  · intro hi
    refine gS_rel fun v w hv hw hvw => ?_
    by_cases h1 : root v = v
    · by_cases h2 : root w = w
      · have := hi v w hv hw ((sim h t v w hv hw).2 (by rw [h1, h2]; exact hvw))
        have := (sim h (t + 1) v w hv hw).1 this
        rwa [h1, h2] at this
      · have := h.cp w v hw hv h2 (gS_srt t hvw).symm
        rw [this]
    · have := h.cp v w hv hw h1 (gS_srt t hvw)
      rw [this]
  · intro hs v w hv hw hvw
    have := (sim h t v w hv hw).1 hvw
    refine (sim h (t + 1) v w hv hw).2 ?_
    rw [hs _ (h.rt v hv).1, hs _ (h.rt w hw).1, this]
/-- What the program hands back is what the reference numbers. -/
theorem num_is (h : Grp n srt us root) (t : Nat) : numL ((List.range n).map (fun v => gS srt us root t (root v))) = nowI n (fun v => srt (root v)) (fun v => us (root v)) t := by
  cases t with
  | zero =>
    refine (num_congr (by simp) (fun i j hi hj => ?_)).1
    have hi' : i < n := by simpa using hi
    have hj' : j < n := by simpa using hj
    have := (sim h 0 i j hi' hj').symm.trans (nowI_zero_iff hi' hj')
    simpa using this
  | succ t =>
    refine (num_congr (by simp [keysI]) (fun i j hi hj => ?_)).1
    have hi' : i < n := by simpa using hi
    have hj' : j < n := by simpa using hj
    have := (sim h (t + 1) i j hi' hj').symm.trans (nowI_succ_iff hi' hj')
    simpa [keysI] using this
def First (P : Nat → Prop) (t : Nat) : Prop := P t ∧ ∀ q, q < t → ¬ P q
theorem First.uniq {P Q : Nat → Prop} (h : ∀ t, P t ↔ Q t) {t u : Nat} (ht : First P t) (hu : First Q u) : t = u := by
  rcases Nat.lt_trichotomy t u with hh | hh | hh
  · exact absurd ((h t).1 ht.1) (hu.2 t hh)
  · exact hh
  · exact absurd ((h u).2 hu.1) (ht.2 u hh)
/-- How many groups the reference has in a round. -/
def cntS (n : Nat) (srt : Nat → σ) (us : Nat → List Nat) (root : Nat → Nat) (t : Nat) : Nat := (firsts ((List.range n).map (gS srt us root t))).length
theorem cntS_le (t : Nat) : cntS n srt us root t ≤ n := by have := firsts_len ((List.range n).map (gS srt us root t)); simpa [cntS] using this
theorem cntS_lt {t : Nat} (hn : ¬ StopS n srt us root t) : cntS n srt us root t < cntS n srt us root (t + 1) := by
  have hf : ∀ (i j : Nat) (hi : i < ((List.range n).map (gS srt us root t)).length) (hj : j < ((List.range n).map (gS srt us root t)).length), ((List.range n).map (gS srt us root (t + 1)))[i]'(by simpa using hi) = ((List.range n).map (gS srt us root (t + 1)))[j]'(by simpa using hj) → ((List.range n).map (gS srt us root t))[i] = ((List.range n).map (gS srt us root t))[j] := by
    intro i j hi hj hij
    simp only [List.getElem_map, List.getElem_range] at hij ⊢
    exact gS_fine t hij
  have h1 := firsts_le (by simp) hf
  have h2 := firsts_eq_iff (by simp) hf
  unfold cntS
  rcases Nat.lt_or_eq_of_le h1 with h | h
  · exact h
  · refine absurd (gS_rel fun v w hv hw hvw => ?_) hn
    have := h2.1 h.symm v w (by simpa using hv) (by simpa using hw) (by simpa using hvw)
    simpa using this
end
end
/-- The least place with the same key, looked for from above: behind n steps. -/
def lowF {κ : Type} [DecidableEq κ] (f : Nat → κ) (v : Nat) : Nat → Nat
  | 0 => v
  | n + 1 => if f (v - (n + 1)) = f v then v - (n + 1) else lowF f v n
theorem lowF_spec {κ : Type} [DecidableEq κ] (f : Nat → κ) (v : Nat) : ∀ n, n ≤ v → v - n ≤ lowF f v n ∧ lowF f v n ≤ v ∧ f (lowF f v n) = f v ∧ ∀ w, v - n ≤ w → w < lowF f v n → f w ≠ f v := by
  intro n
  induction n with
  | zero => intro _; exact ⟨Nat.le_refl _, Nat.le_refl _, rfl, fun w h1 h2 => by simp [lowF] at h2; omega⟩
  | succ n ih =>
    intro hn
    obtain ⟨h1, h2, h3, h4⟩ := ih (by omega)
    unfold lowF
    split
    · rename_i h
      exact ⟨Nat.le_refl _, by omega, h, fun w a b => by omega⟩
    · rename_i h
      refine ⟨by omega, h2, h3, fun w a b => ?_⟩
      by_cases hw : w = v - (n + 1)
      · rw [hw]; exact h
      · exact h4 w (by omega) b
theorem lowF_all {κ : Type} [DecidableEq κ] (f : Nat → κ) (v : Nat) : lowF f v v = leastS f v := by
  obtain ⟨h1, h2, h3, h4⟩ := lowF_spec f v v (Nat.le_refl _)
  obtain ⟨a1, a2, a3⟩ := leastS_spec f v
  rcases Nat.lt_trichotomy (lowF f v v) (leastS f v) with hh | hh | hh
  · exact absurd h3 (a3 _ hh)
  · exact hh
  · exact absurd a2 (h4 _ (by omega) hh)
theorem lowF_at {κ : Type} [DecidableEq κ] (f : Nat → κ) {v n m : Nat} (hm : m + n + 1 = v) : lowF f v (n + 1) = if f m = f v then m else lowF f v n := by
  have e : v - (n + 1) = m := by omega
  rw [lowF, e]
theorem lowF_le {κ : Type} [DecidableEq κ] (f : Nat → κ) (v n : Nat) : lowF f v n ≤ v := by
  induction n with
  | zero => exact Nat.le_refl _
  | succ n ih => unfold lowF; split <;> omega
/-- The first k are told. -/
def tellTo (N : Nat) (g : Nat → Nat) (k : Nat) : List Int := (List.range N).map (fun v => if v < k then ((g v : Nat) : Int) else 0)
theorem tellTo_len (N : Nat) (g : Nat → Nat) (k : Nat) : (tellTo N g k).length = N := by simp [tellTo]
theorem tellTo_zero (N : Nat) (g : Nat → Nat) : tellTo N g 0 = List.replicate N 0 := by
  apply List.ext_getElem
  · simp [tellTo]
  · intro i h1 h2; simp [tellTo]
theorem tellTo_set {N : Nat} {g : Nat → Nat} {k : Nat} (hk : k < N) (x : Int) (h : x = ((g k : Nat) : Int)) : (tellTo N g k).set k x = tellTo N g (k + 1) := by
  apply List.ext_getElem
  · simp [tellTo]
  · intro i h1 h2
    rw [List.getElem_set]
    simp only [tellTo, List.getElem_map, List.getElem_range]
    by_cases hik : k = i
    · subst hik; simp [h]
    · rw [if_neg hik]
      by_cases h3 : i < k
      · rw [if_pos h3, if_pos (by omega)]
      · rw [if_neg h3, if_neg (by omega)]
theorem tellTo_all (N : Nat) (g : Nat → Nat) : tellTo N g N = (List.range N).map (fun v => ((g v : Nat) : Int)) := by
  unfold tellTo
  refine List.map_congr_left fun v hv => ?_
  rw [if_pos (List.mem_range.1 hv)]
end Go.Proofs.YtnfaibenekninaaGreat.L
