/- Joined texts, each of which was built by itself: Rs1 Px1 Px3 Px2 Px4 Px5 Df2 Us1 Us3 Lv1. -/
import Derived.Test.YtnfaibenekninaaB10
import Derived.Deep.RegionHeld3
import Derived.Lib.SliceRun
import Derived.Deep.QuietTactic
set_option linter.unusedVariables false
namespace Go.Proofs.Ytnfaibenekninaa.L
open Go.RowKit
inductive BoolRes (G : Prop) (P : Bool → Bool → Prop) (w : World) (e : Ending) (w' : World) : Prop where
  | mk (g v : Bool) (hg : Hid (g = true ↔ G)) (hv : Hid (P g v)) (he : e = .returned (.tuple #[.bool v, .bool g])) (hb : Below w.heap.size w w') : BoolRes G P w e w'
inductive IntRes (G : Prop) (P : Bool → Int → Prop) (w : World) (e : Ending) (w' : World) : Prop where
  | mk (g : Bool) (v : Int) (hg : Hid (g = true ↔ G)) (hv : Hid (P g v)) (he : e = .returned (.tuple #[.int .i64 v, .bool g])) (hb : Below w.heap.size w w') : IntRes G P w e w'
/-- A truth that is told where the ssa is good. -/
def TellP (P : Prop) (g v : Bool) : Prop := (v = true ↔ g = true ∧ P)
theorem TellP.uniq {P : Prop} (g v v' : Bool) (h : TellP P g v) (h' : TellP P g v') : v = v' := by
  have := h.trans h'.symm
  cases v <;> cases v' <;> simp_all
end Go.Proofs.Ytnfaibenekninaa.L

set_option linter.unusedVariables false
set_option linter.unusedSimpArgs false
namespace Go.Proofs.Ytnfaibenekninaa.L
open Go.RowKit
theorem GoodP.static {s : Sa} (h : GoodP s) {p : Pt} (hp : p ∈ s.parts) : staticI s p = true := (static_iff h.v1).2 ⟨h.nx p hp, h.pt p hp⟩
theorem static_args {s : Sa} {p : Pt} (h : staticI s p = true) : p.next.length ≤ p.args.length := by
  unfold staticI at h
  simp only [Bool.and_eq_true] at h
  obtain ⟨⟨⟨hc, hg⟩, h0⟩, ha⟩ := h
  unfold argsS at ha
  split at ha
  · rename_i h3
    unfold goB at hg
    simp only [Bool.and_eq_true] at hg
    have hg := hg.2
    rw [beq_iff_eq] at h3
    rw [h3] at hg
    have h0 : p.next.length = 0 := by simpa using hg
    omega
  · rw [fitS_len _ _ _ ha]; exact Nat.le_refl _
def edgesN (l : List Pt) (k : Int) : Nat := (l.map (fun p : Pt => p.next.count k)).sum
theorem edgesN_take {l : List Pt} {j : Nat} (hj : j < l.length) (k : Int) : edgesN (l.take (j + 1)) k = edgesN (l.take j) k + l[j].next.count k := by
  unfold edgesN
  rw [List.take_succ_eq_append_getElem hj, List.map_append, List.sum_append]; simp
theorem count_take {l : List Int} {j : Nat} (hj : j < l.length) (k : Int) : (l.take (j + 1)).count k = (l.take j).count k + (if l[j] = k then 1 else 0) := by
  rw [List.take_succ_eq_append_getElem hj, List.count_append, List.count_singleton]
  by_cases h : l[j] = k <;> simp [h]
theorem edgesN_le {l : List Pt} {k : Int} (h : ∀ p ∈ l, p.next.length ≤ 1048576) : edgesN l k ≤ l.length * 1048576 := by
  induction l with
  | nil => simp [edgesN]
  | cons p t ih =>
    have h1 := ih (fun q hq => h q (List.mem_cons_of_mem _ hq))
    have h2 := h p List.mem_cons_self
    have h3 := List.count_le_length (a := k) (l := p.next)
    unfold edgesN at h1 ⊢
    simp only [List.map_cons, List.sum_cons, List.length_cons, Nat.succ_mul]
    omega
/-- An edge is critical and has Args. -/
def critB (l : List Pt) (p : Pt) (i : Nat) : Bool := decide (1 < p.next.length) && decide (1 < edgesN l (p.next.getD i 0)) && decide (0 < (p.args.getD i []).length)
def splitB (s : Sa) : Bool := s.parts.all (fun p => (List.range p.next.length).all (fun i => !critB s.parts p i))
end Go.Proofs.Ytnfaibenekninaa.L

set_option linter.unusedVariables false
set_option linter.unusedSimpArgs false
namespace Go.Proofs.Ytnfaibenekninaa.L
open Go.RowKit
/-- A value is needed ahead of a part. -/
inductive LvI (s : Sa) : Nat → Int → Prop
  | own {k : Nat} {p : Pt} {v : Int} (hp : s.parts[k]? = some p) (h : v ∈ endsS p ∨ v ∈ p.code.flatMap usesS) (hn : v ∉ ownS p) : LvI s k v
  | flow {k : Nat} {p : Pt} {x v : Int} (hp : s.parts[k]? = some p) (hx : x ∈ p.next) (h : LvI s x.toNat v) (hn : v ∉ ownS p) : LvI s k v
/-- A value is needed behind a part, given what is needed ahead of each. -/
def BhP (I : Nat → Int → Prop) (p : Pt) (v : Int) : Prop := v ∈ endsS p ∨ ∃ x ∈ p.next, I x.toNat v
def LvO (s : Sa) (k : Nat) (v : Int) : Prop := ∃ p, s.parts[k]? = some p ∧ BhP (LvI s) p v
/-- .. and ahead of it. -/
def AhP (I : Nat → Int → Prop) (p : Pt) (v : Int) : Prop := (BhP I p v ∨ v ∈ p.code.flatMap usesS) ∧ v ∉ ownS p
theorem LvI.ah {s : Sa} {k : Nat} {v : Int} (h : LvI s k v) : ∃ p, s.parts[k]? = some p ∧ AhP (LvI s) p v := by
  cases h with
  | own hp h hn => exact ⟨_, hp, by rcases h with h | h; exact .inl (.inl h); exact .inr h, hn⟩
  | flow hp hx h hn => exact ⟨_, hp, .inl (.inr ⟨_, hx, h⟩), hn⟩
theorem LvI.of_ah {s : Sa} {k : Nat} {p : Pt} {v : Int} (hp : s.parts[k]? = some p) (h : AhP (LvI s) p v) : LvI s k v := by
  obtain ⟨(h | ⟨x, hx, h⟩) | h, hn⟩ := h
  · exact .own hp (.inl h) hn
  · exact .flow hp hx h hn
  · exact .own hp (.inr h) hn
theorem BhP.mono {I J : Nat → Int → Prop} {p : Pt} {v : Int} (h : BhP I p v) (hIJ : ∀ k v, I k v → J k v) : BhP J p v := by
  rcases h with h | ⟨x, hx, h⟩
  · exact .inl h
  · exact .inr ⟨x, hx, hIJ _ _ h⟩
theorem AhP.mono {I J : Nat → Int → Prop} {p : Pt} {v : Int} (h : AhP I p v) (hIJ : ∀ k v, I k v → J k v) : AhP J p v :=
  ⟨h.1.imp (fun h => h.mono hIJ) id, h.2⟩
/-- What holds no more than is needed, and all that its own rules ask, is what is needed. -/
theorem LvI.least {s : Sa} {I : Nat → Int → Prop} (hc : ∀ (k : Nat) (p : Pt), s.parts[k]? = some p → ∀ v, AhP I p v → I k v) : ∀ {k v}, LvI s k v → I k v := by
  intro k v h
  induction h with
  | own hp h hn => exact hc _ _ hp _ ⟨by rcases h with h | h; exact .inl (.inl h); exact .inr h, hn⟩
  | flow hp hx h hn ih => exact hc _ _ hp _ ⟨.inl (.inr ⟨_, hx, ih⟩), hn⟩
/-- Lists that grow. -/
def Inc (l : List Int) : Prop := l.Pairwise (· < ·)
theorem Inc.nil : Inc [] := List.Pairwise.nil
theorem Inc.putL {l : List Int} (h : Inc l) (n : Int) : Inc (putL l n) := by
  induction l with
  | nil => exact List.pairwise_singleton _ _
  | cons x t ih =>
    obtain ⟨h1, h2⟩ := List.pairwise_cons.1 h
    simp only [L.putL]
    split
    · refine List.pairwise_cons.2 ⟨fun y hy => ?_, ih h2⟩
      rcases (mem_putL t n y).1 hy with rfl | hy
      · assumption
      · exact h1 y hy
    · split
      · exact h
      · refine List.pairwise_cons.2 ⟨fun y hy => ?_, h⟩
        rcases List.mem_cons.1 hy with rfl | hy
        · omega
        · have := h1 y hy; omega
theorem Inc.foldl {l : List Int} : ∀ {m : List Int}, Inc m → Inc (l.foldl L.putL m) := by
  induction l with
  | nil => intro m h; exact h
  | cons x t ih => intro m h; exact ih (h.putL x)
theorem mem_foldl_putL {l : List Int} : ∀ {m : List Int} {v : Int}, v ∈ l.foldl putL m ↔ v ∈ l ∨ v ∈ m := by
  induction l with
  | nil => intro m v; simp
  | cons x t ih =>
    intro m v
    rw [List.foldl_cons, ih, mem_putL, List.mem_cons]
    constructor
    · rintro (h | h | h); exact .inl (.inr h); exact .inl (.inl h); exact .inr h
    · rintro ((h | h) | h); exact .inr (.inl h); exact .inl h; exact .inr (.inr h)
theorem Inc.filter {l : List Int} (h : Inc l) (f : Int → Bool) : Inc (l.filter f) := List.Pairwise.filter f h
theorem Inc.ext {l m : List Int} (hl : Inc l) (hm : Inc m) (h : ∀ v, v ∈ l ↔ v ∈ m) : l = m := by
  induction l generalizing m with
  | nil => cases m with
    | nil => rfl
    | cons y t => exact absurd ((h y).2 List.mem_cons_self) (by simp)
  | cons x t ih =>
    cases m with
    | nil => exact absurd ((h x).1 List.mem_cons_self) (by simp)
    | cons y u =>
      obtain ⟨a1, a2⟩ := List.pairwise_cons.1 hl
      obtain ⟨b1, b2⟩ := List.pairwise_cons.1 hm
      have hxy : x = y := by
        rcases List.mem_cons.1 ((h x).1 List.mem_cons_self) with e | e
        · exact e
        · rcases List.mem_cons.1 ((h y).2 List.mem_cons_self) with e2 | e2
          · exact e2.symm
          · have := b1 x e; have := a1 y e2; omega
      subst hxy
      congr 1
      refine ih a2 b2 fun v => ⟨fun hv => ?_, fun hv => ?_⟩
      · rcases List.mem_cons.1 ((h v).1 (List.mem_cons_of_mem _ hv)) with e | e
        · subst e; exact absurd (a1 v hv) (by omega)
        · exact e
      · rcases List.mem_cons.1 ((h v).2 (List.mem_cons_of_mem _ hv)) with e | e
        · subst e; exact absurd (b1 v hv) (by omega)
        · exact e
/-- A list that grows, of values below a bound. -/
theorem Inc.length_le {l : List Int} (h : Inc l) {V : Int} (hV : 0 ≤ V) (h0 : ∀ v ∈ l, 0 ≤ v ∧ v < V) : (l.length : Int) ≤ V := by
  have key : ∀ (l : List Int) (a : Int), Inc l → (∀ v ∈ l, a ≤ v ∧ v < V) → a ≤ V → a + l.length ≤ V := by
    intro l
    induction l with
    | nil => intro a _ _ h; simpa using h
    | cons x t ih =>
      intro a hi hr ha
      obtain ⟨h1, h2⟩ := List.pairwise_cons.1 hi
      have hx := hr x List.mem_cons_self
      have := ih (x + 1) h2 (fun v hv => ⟨by have := h1 v hv; omega, (hr v (List.mem_cons_of_mem _ hv)).2⟩) (by omega)
      rw [List.length_cons]; omega
  have := key l 0 h (fun v hv => h0 v hv) hV
  omega
theorem Inc.sub_eq {l m : List Int} (hl : Inc l) (hm : Inc m) (h : ∀ v ∈ l, v ∈ m) (hn : m.length ≤ l.length) : l = m := by
  induction l generalizing m with
  | nil => cases m with
    | nil => rfl
    | cons y t => simp at hn
  | cons x t ih =>
    cases m with
    | nil => exact absurd (h x List.mem_cons_self) (by simp)
    | cons y u =>
      obtain ⟨a1, a2⟩ := List.pairwise_cons.1 hl
      obtain ⟨b1, b2⟩ := List.pairwise_cons.1 hm
      simp only [List.length_cons] at hn
      have ht : ∀ v ∈ t, v ∈ u := fun v hv => by
        rcases List.mem_cons.1 (h v (List.mem_cons_of_mem _ hv)) with e | e
        · rcases List.mem_cons.1 (h x List.mem_cons_self) with e2 | e2
          · have := a1 v hv; omega
          · have := a1 v hv; have := b1 x e2; omega
        · exact e
      have htu := ih a2 b2 ht (by omega)
      subst htu
      rcases List.mem_cons.1 (h x List.mem_cons_self) with e | e
      · rw [e]
      · exact absurd (a1 x e) (by omega)
open Classical in
/-- A set as a list. -/
noncomputable def listP (P : Int → Prop) (V : Nat) : List Int := ((List.range V).map (fun n : Nat => (n : Int))).filter (fun v => decide (P v))
theorem listP_inc (P : Int → Prop) (V : Nat) : Inc (listP P V) := by
  unfold listP
  refine Inc.filter ?_ _
  unfold Inc
  rw [List.pairwise_map]
  exact List.pairwise_lt_range.imp (fun h => by omega)
theorem mem_listP {P : Int → Prop} {V : Nat} {v : Int} : v ∈ listP P V ↔ (0 ≤ v ∧ v < V) ∧ P v := by
  unfold listP
  rw [List.mem_filter, List.mem_map]
  constructor
  · rintro ⟨⟨n, hn, rfl⟩, h2⟩
    exact ⟨⟨by omega, by have := List.mem_range.1 hn; omega⟩, by simpa using h2⟩
  · rintro ⟨⟨h1, h2⟩, h3⟩
    exact ⟨⟨v.toNat, List.mem_range.2 (by omega), by omega⟩, by simpa using h3⟩
end Go.Proofs.Ytnfaibenekninaa.L

set_option linter.unusedVariables false
set_option linter.unusedSimpArgs false
namespace Go.Proofs.Ytnfaibenekninaa.L
open Go.RowKit
theorem defs_eq {s : Sa} {D T : List Int} {M : List (List Bool)} (h : GoodV s D T M) : (defsS s).getD [] = List.replicate 12 0 ++ D.drop 12 ∧ (D.length : Int) = s.values := by
  obtain ⟨h1, h2, S, h3, h4⟩ := (sim_parts h.v1 s.parts 0 _ _ (List.replicate s.values.toNat 0) (by omega) (rel0 h.v1)).1 D T h.ps
  have hd : defsS s = some S := h3
  have hv := h.v1
  have hl1 := h4.l1
  have hl2 := h4.l2
  rw [hd]
  refine ⟨?_, hl2⟩
  show S = _
  apply List.ext_getElem
  · rw [List.length_append, List.length_replicate, List.length_drop]; omega
  intro i a b
  have e : S[i] = S.getD i 0 := by rw [List.getD_eq_getElem?_getD, List.getElem?_eq_getElem a]; rfl
  rw [e]
  by_cases hi : i < 12
  · rw [h4.lo i hi, List.getElem_append_left (by rw [List.length_replicate]; exact hi), List.getElem_replicate]
  · rw [h4.hi i (by omega), List.getElem_append_right (by rw [List.length_replicate]; omega), List.getElem_drop, List.getD_eq_getElem?_getD]
    simp only [List.length_replicate]
    have hi2 : 12 + (i - 12) = i := by omega
    rw [List.getElem?_eq_getElem (show i < D.length by omega)]
    simp only [hi2, Option.getD_some]
end Go.Proofs.Ytnfaibenekninaa.L

set_option linter.unusedVariables false
set_option linter.unusedSimpArgs false
namespace Go.Proofs.Ytnfaibenekninaa.L
open Go.RowKit
theorem GoodP.rel {s : Sa} (h : GoodP s) : ∃ D T S, defsS s = some S ∧ Rel s.values S D ∧ partsI s 0 s.parts (List.replicate s.values.toNat (-1)) (List.replicate s.values.toNat 0) = some (D, T) := by
  obtain ⟨D, T, M, hg⟩ := (good_iff s).2 h
  obtain ⟨h1, h2, S, h3, h4⟩ := (sim_parts hg.v1 s.parts 0 _ _ (List.replicate s.values.toNat 0) (by omega) (rel0 hg.v1)).1 D T hg.ps
  exact ⟨D, T, S, h3, h4, hg.ps⟩
theorem GoodP.own_def {s : Sa} (h : GoodP s) {q : Nat} {p : Pt} (hq : s.parts[q]? = some p) {v : Int} (hv : v ∈ ownS p) : 12 ≤ v ∧ v < s.values ∧ ((defsS s).getD [])[v.toNat]! = q := by
  obtain ⟨D, T, S, h1, h2, h3⟩ := h.rel
  have hV := h.v1
  have hl1 : ((List.replicate s.values.toNat (-1 : Int)).length : Int) = s.values := by rw [List.length_replicate]; omega
  have hl2 : ((List.replicate s.values.toNat (0 : Int)).length : Int) = s.values := by rw [List.length_replicate]; omega
  obtain ⟨-, -, a3, -⟩ := partsI_spec s.parts 0 _ _ D T (by omega) hl1 hl2 h3
  rw [← items_fst] at hv
  obtain ⟨x, hx, rfl⟩ := List.mem_map.1 hv
  obtain ⟨b1, b2, b3, _⟩ := a3 q p hq x hx
  refine ⟨b1, b2, ?_⟩
  have hS := h2.l1
  rw [h1]
  show S[x.1.toNat]! = _
  rw [getD_bang S _ (by omega), h2.hi _ (by omega), b3]
  omega
theorem GoodP.defs_len {s : Sa} (h : GoodP s) : (((defsS s).getD []).length : Int) = s.values := by
  obtain ⟨D, T, S, h1, h2, h3⟩ := h.rel
  rw [h1]; exact h2.l1
theorem GoodP.use_far {s : Sa} (h : GoodP s) {q : Nat} {p : Pt} (hq : s.parts[q]? = some p) {j : Nat} {x : Fl} (hx : p.code[j]? = some x) {v : Int} (hv : v ∈ usesS x) (ho : v ∈ ownS p) : v ∈ p.params ++ dstsS (p.code.take j) := by
  obtain ⟨h1, h2, h3⟩ := h.own_def hq ho
  obtain ⟨_, _, ht⟩ := (h.us q p hq).code j x hx v hv
  rcases ht with ht | ht | ⟨_, ht, _⟩
  · omega
  · exact ht
  · exact absurd h3 ht
theorem GoodP.use_in {s : Sa} (h : GoodP s) {q : Nat} {p : Pt} (hq : s.parts[q]? = some p) {v : Int} (hv : v ∈ endsS p ∨ v ∈ p.code.flatMap usesS) : 0 ≤ v ∧ v < s.values := by
  have hl := h.defs_len
  rcases hv with hv | hv
  · obtain ⟨a, b, _⟩ := (h.us q p hq).ends v hv
    exact ⟨a, by omega⟩
  · obtain ⟨x, hx, hv⟩ := List.mem_flatMap.1 hv
    obtain ⟨j, hj⟩ := List.getElem?_of_mem hx
    obtain ⟨a, b, _⟩ := (h.us q p hq).code j x hj v hv
    exact ⟨a, by omega⟩
theorem LvI.range {s : Sa} (h : GoodP s) {k : Nat} {v : Int} (hv : LvI s k v) : 0 ≤ v ∧ v < s.values := by
  induction hv with
  | own hp h1 hn => exact h.use_in hp h1
  | flow hp hx _ hn ih => exact ih
theorem GoodP.uses_eq {s : Sa} (h : GoodP s) {p : Pt} (hp : p ∈ s.parts) {x : Fl} (hx : x ∈ p.code) : usesI x = usesS x :=
  L.uses_eq (flat_op (static_flat (h.static hp) x hx))
/-- A value is needed ahead of steps, of those needed behind them. -/
def LC (O : Int → Prop) : List Fl → Int → Prop
  | [], v => O v
  | x :: t, v => v ∈ usesI x ∨ (¬ (setsS x = true ∧ v = x.dst) ∧ LC O t v)
theorem LC.of_not {O : Int → Prop} {v : Int} : ∀ {l : List Fl}, v ∉ dstsS l → (O v ∨ ∃ x ∈ l, v ∈ usesI x) → LC O l v
  | [], _, h => by rcases h with h | ⟨x, hx, _⟩; exact h; simp at hx
  | x :: t, hn, h => by
    have hn1 : ¬ (setsS x = true ∧ v = x.dst) := fun ⟨a, b⟩ => hn (by unfold dstsS; rw [List.filter_cons, if_pos a, List.map_cons, b]; exact List.mem_cons_self)
    have hn2 : v ∉ dstsS t := fun a => hn (by unfold dstsS at a ⊢; rw [List.filter_cons]; split; exact List.mem_cons_of_mem _ a; exact a)
    by_cases hx : v ∈ usesI x
    · exact .inl hx
    · refine .inr ⟨hn1, LC.of_not hn2 ?_⟩
      rcases h with h | ⟨y, hy, h⟩
      · exact .inl h
      · rcases List.mem_cons.1 hy with rfl | hy
        · exact absurd h hx
        · exact .inr ⟨y, hy, h⟩
theorem LC.to {s : Sa} (h : GoodP s) {q : Nat} {p : Pt} (hq : s.parts[q]? = some p) {O : Int → Prop} {v : Int} : ∀ (n i : Nat), n = p.code.length - i → i ≤ p.code.length → v ∉ p.params ++ dstsS (p.code.take i) → LC O (p.code.drop i) v →
    (O v ∨ v ∈ p.code.flatMap usesS) ∧ v ∉ ownS p
  | 0, i, hn, hi, h1, h2 => by
    obtain rfl : i = p.code.length := by omega
    rw [List.take_length] at h1
    rw [List.drop_length] at h2
    exact ⟨.inl h2, h1⟩
  | n + 1, i, hn, hi, h1, h2 => by
    have hlt : i < p.code.length := by omega
    rw [List.drop_eq_getElem_cons hlt] at h2
    have hmem := List.getElem_mem hlt
    rcases h2 with h2 | ⟨h3, h2⟩
    · rw [h.uses_eq (List.mem_of_getElem? hq) hmem] at h2
      exact ⟨.inr (List.mem_flatMap.2 ⟨_, hmem, h2⟩), fun ho => h1 (h.use_far hq (List.getElem?_eq_getElem hlt) h2 ho)⟩
    · refine LC.to h hq n (i + 1) (by omega) (by omega) (fun hm => ?_) h2
      rw [dstsS_take hlt] at hm
      split at hm
      · rename_i hs
        rcases List.mem_append.1 hm with hm | hm
        · exact h1 (List.mem_append.2 (.inl hm))
        · rcases List.mem_append.1 hm with hm | hm
          · exact h1 (List.mem_append.2 (.inr hm))
          · exact h3 ⟨hs, List.mem_singleton.1 hm⟩
      · exact h1 hm
theorem LC_iff {s : Sa} (h : GoodP s) {q : Nat} {p : Pt} (hq : s.parts[q]? = some p) {O : Int → Prop} {v : Int} : (LC O p.code v ∧ v ∉ p.params) ↔ ((O v ∨ v ∈ p.code.flatMap usesS) ∧ v ∉ ownS p) := by
  constructor
  · rintro ⟨h1, h2⟩
    exact LC.to h hq (p.code.length - 0) 0 rfl (Nat.zero_le _) (by rw [List.take_zero]; show v ∉ p.params ++ []; rw [List.append_nil]; exact h2) h1
  · rintro ⟨h1, h2⟩
    have hn : ¬ (v ∈ p.params ∨ v ∈ dstsS p.code) := fun h => h2 (List.mem_append.2 h)
    refine ⟨LC.of_not (fun hv => hn (.inr hv)) (h1.imp id fun hv => ?_), fun hv => hn (.inl hv)⟩
    obtain ⟨x, hx, hv⟩ := List.mem_flatMap.1 hv
    exact ⟨x, hx, by rw [h.uses_eq (List.mem_of_getElem? hq) hx]; exact hv⟩
/-- A set as the program keeps it. -/
def addB (S : List Bool) (l : List Int) : List Bool := l.foldl (fun S v => S.set v.toNat true) S
def delB (S : List Bool) (l : List Int) : List Bool := l.foldl (fun S v => S.set v.toNat false) S
def stepB (S : List Bool) (x : Fl) : List Bool := addB (if setsS x then S.set x.dst.toNat false else S) (usesI x)
def liveC (l : List Fl) (S : List Bool) : List Bool := l.foldr (fun x S => stepB S x) S
def liveB (p : Pt) (S : List Bool) : List Bool := delB (liveC p.code S) p.params
def InB (S : List Bool) (v : Int) : Prop := 0 ≤ v ∧ S.getD v.toNat false = true
theorem addB_len (S : List Bool) (l : List Int) : (addB S l).length = S.length := by
  unfold addB
  induction l generalizing S with
  | nil => rfl
  | cons x t ih => rw [List.foldl_cons, ih, List.length_set]
theorem delB_len (S : List Bool) (l : List Int) : (delB S l).length = S.length := by
  unfold delB
  induction l generalizing S with
  | nil => rfl
  | cons x t ih => rw [List.foldl_cons, ih, List.length_set]
theorem stepB_len (S : List Bool) (x : Fl) : (stepB S x).length = S.length := by
  unfold stepB; rw [addB_len]; split <;> simp
theorem liveC_len (l : List Fl) (S : List Bool) : (liveC l S).length = S.length := by
  induction l with
  | nil => rfl
  | cons x t ih => show (stepB (liveC t S) x).length = _; rw [stepB_len, ih]
theorem liveB_len (p : Pt) (S : List Bool) : (liveB p S).length = S.length := by unfold liveB; rw [delB_len, liveC_len]
theorem getD_setB (S : List Bool) (m n : Nat) (b : Bool) (hm : m < S.length) : (S.set m b).getD n false = if n = m then b else S.getD n false := by
  rw [List.getD_eq_getElem?_getD, List.getD_eq_getElem?_getD, List.getElem?_set]
  by_cases h : m = n
  · subst h; simp [hm]
  · rw [if_neg h, if_neg (fun e => h e.symm)]
theorem InB_set {S : List Bool} {m v : Int} {b : Bool} (h0 : 0 ≤ m) (hm : m < S.length) : InB (S.set m.toNat b) v ↔ (if v = m then b = true else InB S v) := by
  unfold InB
  rw [getD_setB _ _ _ _ (by omega)]
  by_cases h : v = m
  · subst h; simp [h0]
  · rw [if_neg h]
    by_cases hv : 0 ≤ v
    · rw [if_neg (by omega)]
    · simp [hv]
theorem InB_add {l : List Int} : ∀ {S : List Bool} {v : Int}, (∀ m ∈ l, 0 ≤ m ∧ m < S.length) → (InB (addB S l) v ↔ v ∈ l ∨ InB S v) := by
  induction l with
  | nil => intro S v _; simp [addB]
  | cons m t ih =>
    intro S v h
    have hm := h m List.mem_cons_self
    show InB (addB (S.set m.toNat true) t) v ↔ _
    rw [ih (fun q hq => by rw [List.length_set]; exact h q (List.mem_cons_of_mem _ hq)), InB_set hm.1 hm.2, List.mem_cons]
    by_cases e : v = m
    · subst e; simp
    · simp [e]
theorem InB_del {l : List Int} : ∀ {S : List Bool} {v : Int}, (∀ m ∈ l, 0 ≤ m ∧ m < S.length) → (InB (delB S l) v ↔ v ∉ l ∧ InB S v) := by
  induction l with
  | nil => intro S v _; simp [delB]
  | cons m t ih =>
    intro S v h
    have hm := h m List.mem_cons_self
    show InB (delB (S.set m.toNat false) t) v ↔ _
    rw [ih (fun q hq => by rw [List.length_set]; exact h q (List.mem_cons_of_mem _ hq)), InB_set hm.1 hm.2, List.mem_cons]
    by_cases e : v = m
    · subst e; simp
    · simp [e]
theorem InB_step {S : List Bool} {x : Fl} {v : Int} (hd : setsS x = true → 0 ≤ x.dst ∧ x.dst < S.length) (hu : ∀ m ∈ usesI x, 0 ≤ m ∧ m < S.length) : InB (stepB S x) v ↔ v ∈ usesI x ∨ (¬ (setsS x = true ∧ v = x.dst) ∧ InB S v) := by
  unfold stepB
  by_cases hs : setsS x = true
  · rw [if_pos hs, InB_add (by rw [List.length_set]; exact hu), InB_set (hd hs).1 (hd hs).2]
    by_cases e : v = x.dst <;> simp [e, hs]
  · rw [if_neg hs, InB_add hu]
    simp [hs]
theorem InB_code {S : List Bool} {v : Int} : ∀ {l : List Fl}, (∀ x ∈ l, (setsS x = true → 0 ≤ x.dst ∧ x.dst < S.length) ∧ ∀ m ∈ usesI x, 0 ≤ m ∧ m < S.length) → (InB (liveC l S) v ↔ LC (InB S) l v)
  | [], _ => Iff.rfl
  | x :: t, h => by
    have hx := h x List.mem_cons_self
    show InB (stepB (liveC t S) x) v ↔ _
    rw [InB_step (by rw [liveC_len]; exact hx.1) (by rw [liveC_len]; exact hx.2), InB_code (fun y hy => h y (List.mem_cons_of_mem _ hy))]
    exact Iff.rfl
theorem GoodP.steps_in {s : Sa} (h : GoodP s) {q : Nat} {p : Pt} (hq : s.parts[q]? = some p) {x : Fl} (hx : x ∈ p.code) : (setsS x = true → 12 ≤ x.dst ∧ x.dst < s.values) ∧ ∀ m ∈ usesI x, 0 ≤ m ∧ m < s.values := by
  refine ⟨fun hs => ?_, fun m hm => ?_⟩
  · obtain ⟨h1, h2, _⟩ := h.own_def hq (v := x.dst) (List.mem_append.2 (.inr (by unfold dstsS; exact List.mem_map.2 ⟨x, List.mem_filter.2 ⟨hx, hs⟩, rfl⟩)))
    exact ⟨h1, h2⟩
  · rw [h.uses_eq (List.mem_of_getElem? hq) hx] at hm
    exact h.use_in hq (.inr (List.mem_flatMap.2 ⟨x, hx, hm⟩))
theorem InB_live {s : Sa} (h : GoodP s) {q : Nat} {p : Pt} (hq : s.parts[q]? = some p) {S : List Bool} (hS : (S.length : Int) = s.values) {v : Int} : InB (liveB p S) v ↔ ((InB S v ∨ v ∈ p.code.flatMap usesS) ∧ v ∉ ownS p) := by
  unfold liveB
  rw [InB_del (fun m hm => by
      have := h.own_def hq (v := m) (List.mem_append.2 (.inl hm))
      rw [liveC_len]; omega), InB_code (fun x hx => by
      have := h.steps_in hq hx
      refine ⟨fun hs => ?_, fun m hm => ?_⟩
      · have := this.1 hs; omega
      · have := this.2 m hm; omega), and_comm]
  exact LC_iff h hq
end Go.Proofs.Ytnfaibenekninaa.L

set_option linter.unusedVariables false
set_option linter.unusedSimpArgs false
namespace Go.Proofs.Ytnfaibenekninaa.L
open Go.RowKit
/-- The numbers that are so, rising. -/
def listB (S : List Bool) : List Int := ((List.range S.length).map (fun n : Nat => (n : Int))).filter (fun v => S.getD v.toNat false)
theorem listB_inc (S : List Bool) : Inc (listB S) := by
  unfold listB
  refine Inc.filter ?_ _
  unfold Inc
  rw [List.pairwise_map]
  exact List.pairwise_lt_range.imp (fun h => by omega)
theorem mem_listB {S : List Bool} {v : Int} : v ∈ listB S ↔ InB S v := by
  unfold listB InB
  rw [List.mem_filter, List.mem_map]
  constructor
  · rintro ⟨⟨n, hn, rfl⟩, h2⟩
    exact ⟨by omega, h2⟩
  · rintro ⟨h1, h2⟩
    refine ⟨⟨v.toNat, List.mem_range.2 ?_, by omega⟩, h2⟩
    rcases Nat.lt_or_ge v.toNat S.length with h | h
    · exact h
    · rw [List.getD_eq_getElem?_getD, List.getElem?_eq_none h] at h2; cases h2
theorem listB_eq {S : List Bool} {P : Int → Prop} {V : Nat} (hl : S.length = V) (h : ∀ v, InB S v ↔ P v) : listB S = listP P V := by
  refine (listB_inc S).ext (listP_inc P V) fun v => ?_
  rw [mem_listB, mem_listP, ← h v]
  constructor
  · intro hv
    have hm := mem_listB.2 hv
    unfold listB at hm
    obtain ⟨n, hn, rfl⟩ := List.mem_map.1 (List.mem_filter.1 hm).1
    exact ⟨⟨by omega, by have := List.mem_range.1 hn; omega⟩, hv⟩
  · exact fun hv => hv.2
theorem InB_len {S : List Bool} {v : Int} (h : InB S v) : 0 ≤ v ∧ v < S.length := by
  have hm := mem_listB.2 h
  unfold listB at hm
  obtain ⟨n, hn, rfl⟩ := List.mem_map.1 (List.mem_filter.1 hm).1
  exact ⟨by omega, by have := List.mem_range.1 hn; omega⟩
/-- Sets of parts as sets. -/
def InR2 (I : List (List Bool)) (k : Nat) (v : Int) : Prop := InB (I.getD k []) v
def bhB (I : List (List Bool)) (p : Pt) (S : List Bool) : List Bool := addB S (endsS p ++ p.next.flatMap (fun x => listB (I.getD x.toNat [])))
theorem getD_set2 {α : Type} (S : List α) (m n : Nat) (b d : α) (hm : m < S.length) : (S.set m b).getD n d = if n = m then b else S.getD n d := by
  rw [List.getD_eq_getElem?_getD, List.getD_eq_getElem?_getD, List.getElem?_set]
  by_cases h : m = n
  · subst h; simp [hm]
  · rw [if_neg h, if_neg (fun e => h e.symm)]
/-- What holds between the rounds. -/
structure LInv (s : Sa) (I O : List (List Bool)) : Prop where
  li : I.length = s.parts.length
  lo : O.length = s.parts.length
  ri : ∀ S ∈ I, (S.length : Int) = s.values
  ro : ∀ S ∈ O, (S.length : Int) = s.values
  si : ∀ k v, InR2 I k v → LvI s k v
  so : ∀ k v, InR2 O k v → LvO s k v
  up : ∀ (k : Nat) (p : Pt), s.parts[k]? = some p → ∀ v, InR2 I k v → InB (liveB p (O.getD k [])) v
theorem LInv.rowI {s : Sa} {I O : List (List Bool)} (h : LInv s I O) {k : Nat} (hk : k < s.parts.length) : ((I.getD k []).length : Int) = s.values := by
  have hk' : k < I.length := by rw [h.li]; exact hk
  rw [List.getD_eq_getElem?_getD, List.getElem?_eq_getElem hk']
  exact h.ri _ (List.getElem_mem hk')
theorem LInv.rowO {s : Sa} {I O : List (List Bool)} (h : LInv s I O) {k : Nat} (hk : k < s.parts.length) : ((O.getD k []).length : Int) = s.values := by
  have hk' : k < O.length := by rw [h.lo]; exact hk
  rw [List.getD_eq_getElem?_getD, List.getElem?_eq_getElem hk']
  exact h.ro _ (List.getElem_mem hk')
theorem bhB_iff {s : Sa} (h : GoodP s) {I : List (List Bool)} (hI : ∀ S ∈ I, (S.length : Int) = s.values) {k : Nat} {p : Pt} (hk : s.parts[k]? = some p) {S : List Bool} (hS : (S.length : Int) = s.values) {v : Int} :
    InB (bhB I p S) v ↔ BhP (InR2 I) p v ∨ InB S v := by
  unfold bhB
  have hrow : ∀ x : Int, ∀ m, InB (I.getD x.toNat []) m → 0 ≤ m ∧ m < s.values := fun x m hm => by
    have := InB_len hm
    rw [List.getD_eq_getElem?_getD] at this
    cases hx : I[x.toNat]? with
    | none => rw [hx] at this; simp at this; omega
    | some R =>
      rw [hx] at this
      have := hI R (List.mem_of_getElem? hx)
      simp at *; omega
  rw [InB_add (fun m hm => by
    rcases List.mem_append.1 hm with hm | hm
    · have := h.use_in hk (.inl hm); omega
    · obtain ⟨x, hx, hm⟩ := List.mem_flatMap.1 hm
      have := hrow x m (mem_listB.1 hm); omega)]
  refine or_congr ?_ Iff.rfl
  unfold BhP InR2
  rw [List.mem_append, List.mem_flatMap]
  exact or_congr Iff.rfl ⟨fun ⟨x, hx, hm⟩ => ⟨x, hx, mem_listB.1 hm⟩, fun ⟨x, hx, hm⟩ => ⟨x, hx, mem_listB.2 hm⟩⟩
theorem InR2_set {I : List (List Bool)} {k : Nat} {S : List Bool} (hk : k < I.length) {q : Nat} {v : Int} : InR2 (I.set k S) q v ↔ if q = k then InB S v else InR2 I q v := by
  unfold InR2
  rw [getD_set2 _ _ _ _ _ hk]
  split <;> rfl
theorem bhB_len (I : List (List Bool)) (p : Pt) (S : List Bool) : (bhB I p S).length = S.length := addB_len _ _
/-- One part's turn. -/
theorem LInv.turn {s : Sa} (h : GoodP s) {I O : List (List Bool)} (hi : LInv s I O) {k : Nat} {p : Pt} (hk : s.parts[k]? = some p) :
    LInv s (I.set k (liveB p (bhB I p (O.getD k [])))) (O.set k (bhB I p (O.getD k []))) ∧ ∀ v, InR2 I k v → InB (liveB p (bhB I p (O.getD k []))) v := by
  obtain ⟨hkl, hke⟩ := List.getElem?_eq_some_iff.1 hk
  have hkI : k < I.length := by rw [hi.li]; exact hkl
  have hkO : k < O.length := by rw [hi.lo]; exact hkl
  have hOl := hi.rowO hkl
  have hB : ∀ v, InB (bhB I p (O.getD k [])) v ↔ BhP (InR2 I) p v ∨ InB (O.getD k []) v := fun v => bhB_iff h hi.ri hk hOl
  have hBl : ((bhB I p (O.getD k [])).length : Int) = s.values := by rw [bhB_len]; exact hOl
  have hL : ∀ v, InB (liveB p (bhB I p (O.getD k []))) v ↔ ((InB (bhB I p (O.getD k [])) v ∨ v ∈ p.code.flatMap usesS) ∧ v ∉ ownS p) := fun v => InB_live h hk hBl
  have hL0 : ∀ v, InB (liveB p (O.getD k [])) v ↔ ((InB (O.getD k []) v ∨ v ∈ p.code.flatMap usesS) ∧ v ∉ ownS p) := fun v => InB_live h hk hOl
  have hup : ∀ v, InR2 I k v → InB (liveB p (bhB I p (O.getD k []))) v := fun v hv => by
    have h1 := (hL0 v).1 (hi.up k p hk v hv)
    exact (hL v).2 ⟨h1.1.imp (fun h => (hB v).2 (.inr h)) id, h1.2⟩
  have hso : ∀ v, InB (bhB I p (O.getD k [])) v → LvO s k v := fun v hv => by
    rcases (hB v).1 hv with hv | hv
    · exact ⟨p, hk, hv.mono hi.si⟩
    · exact hi.so k v hv
  refine ⟨⟨by rw [List.length_set]; exact hi.li, by rw [List.length_set]; exact hi.lo, fun S hS => ?_, fun S hS => ?_, fun q v hv => ?_, fun q v hv => ?_, fun q p' hq v hv => ?_⟩, hup⟩
  · rcases List.mem_or_eq_of_mem_set hS with hS | rfl
    · exact hi.ri S hS
    · rw [liveB_len]; exact hBl
  · rcases List.mem_or_eq_of_mem_set hS with hS | rfl
    · exact hi.ro S hS
    · exact hBl
  · rw [InR2_set hkI] at hv
    split at hv
    · rename_i e
      subst e
      have h1 := (hL v).1 hv
      refine LvI.of_ah hk ⟨?_, h1.2⟩
      rcases h1.1 with h1 | h1
      · obtain ⟨p', hp', h2⟩ := hso v h1
        rw [hk] at hp'; cases hp'
        exact .inl h2
      · exact .inr h1
    · exact hi.si q v hv
  · rw [InR2_set hkO] at hv
    split at hv
    · rename_i e
      subst e
      exact hso v hv
    · exact hi.so q v hv
  · rw [getD_set2 _ _ _ _ _ hkO]
    rw [InR2_set hkI] at hv
    split
    · rename_i e
      subst e
      rw [if_pos rfl] at hv
      rw [hk] at hq; cases hq
      exact hv
    · rename_i e
      rw [if_neg e] at hv
      exact hi.up q p' hq v hv
/-- A part asks for no more. -/
def Still (s : Sa) (I O : List (List Bool)) (q : Nat) : Prop := ∀ p, s.parts[q]? = some p → (∀ v, BhP (InR2 I) p v → InR2 O q v) ∧ ∀ v, ((InR2 O q v ∨ v ∈ p.code.flatMap usesS) ∧ v ∉ ownS p) → InR2 I q v
theorem still_turn {s : Sa} (h : GoodP s) {I O : List (List Bool)} (hi : LInv s I O) {k : Nat} {p : Pt} (hk : s.parts[k]? = some p) (he : liveB p (bhB I p (O.getD k [])) = I.getD k []) (hs : ∀ q, q < k → Still s I O q) :
    I.set k (liveB p (bhB I p (O.getD k []))) = I ∧ ∀ q, q < k + 1 → Still s I (O.set k (bhB I p (O.getD k []))) q := by
  obtain ⟨hkl, hke⟩ := List.getElem?_eq_some_iff.1 hk
  have hkI : k < I.length := by rw [hi.li]; exact hkl
  have hkO : k < O.length := by rw [hi.lo]; exact hkl
  have hOl := hi.rowO hkl
  have hBl : ((bhB I p (O.getD k [])).length : Int) = s.values := by rw [bhB_len]; exact hOl
  refine ⟨?_, fun q hq p' hp' => ?_⟩
  · rw [he, List.getD_eq_getElem?_getD, List.getElem?_eq_getElem hkI]
    exact List.set_getElem_self hkI
  · rcases Nat.lt_or_eq_of_le (Nat.le_of_lt_succ hq) with hq | rfl
    · obtain ⟨h1, h2⟩ := hs q hq p' hp'
      have e : ∀ v, InR2 (O.set k (bhB I p (O.getD k []))) q v ↔ InR2 O q v := fun v => by rw [InR2_set hkO, if_neg (by omega)]
      exact ⟨fun v hv => (e v).2 (h1 v hv), fun v hv => h2 v (by rw [e v] at hv; exact hv)⟩
    · rw [hk] at hp'; cases hp'
      have e : ∀ v, InR2 (O.set q (bhB I p (O.getD q []))) q v ↔ InB (bhB I p (O.getD q [])) v := fun v => by rw [InR2_set hkO, if_pos rfl]
      refine ⟨fun v hv => (e v).2 ((bhB_iff h hi.ri hk hOl).2 (.inl hv)), fun v hv => ?_⟩
      rw [e v] at hv
      show InB (I.getD q []) v
      rw [← he]
      exact (InB_live h hk hBl).2 hv
/-- Where no part asks for more, it is what is needed. -/
theorem still_all {s : Sa} (h : GoodP s) {I O : List (List Bool)} (hi : LInv s I O) (hs : ∀ q, q < s.parts.length → Still s I O q) : (∀ k v, InR2 I k v ↔ LvI s k v) ∧ ∀ k v, InR2 O k v ↔ LvO s k v := by
  have h1 : ∀ k v, LvI s k v → InR2 I k v := fun k v hv => by
    refine LvI.least (I := InR2 I) (fun q p hq u hu => ?_) hv
    obtain ⟨a, b⟩ := hs q (List.getElem?_eq_some_iff.1 hq).1 p hq
    exact b u ⟨hu.1.imp (a u) id, hu.2⟩
  refine ⟨fun k v => ⟨hi.si k v, h1 k v⟩, fun k v => ⟨hi.so k v, fun ⟨p, hp, hv⟩ => ?_⟩⟩
  exact (hs k (List.getElem?_eq_some_iff.1 hp).1 p hp).1 v (hv.mono h1)
/-- How much is in. -/
def cntB (I : List (List Bool)) : Nat := (I.map (fun S : List Bool => S.count true)).sum
theorem count_lt {S R : List Bool} (hl : S.length = R.length) (h : ∀ v, InB S v → InB R v) : S.count true ≤ R.count true ∧ (S ≠ R → S.count true < R.count true) := by
  induction S generalizing R with
  | nil => cases R with
    | nil => exact ⟨Nat.le_refl _, fun h => absurd rfl h⟩
    | cons y u => simp at hl
  | cons x t ih =>
    cases R with
    | nil => simp at hl
    | cons y u =>
      have ht : ∀ v, InB t v → InB u v := fun v hv => by
        have := h (v + 1) ⟨by have := hv.1; omega, by
          rw [show (v + 1).toNat = v.toNat + 1 by have := hv.1; omega, List.getD_cons_succ]; exact hv.2⟩
        have h2 := this.2
        rw [show (v + 1).toNat = v.toNat + 1 by have := hv.1; omega, List.getD_cons_succ] at h2
        exact ⟨hv.1, h2⟩
      have hx : x = true → y = true := fun e => by
        have := h 0 ⟨Int.le_refl _, by subst e; rfl⟩
        exact this.2
      obtain ⟨i1, i2⟩ := ih (by simpa using hl) ht
      simp only [List.count_cons]
      cases x <;> cases y <;> simp at hx ⊢
      · exact ⟨i1, i2⟩
      · omega
      · exact ⟨i1, i2⟩
theorem cntB_set {I : List (List Bool)} {k : Nat} {S : List Bool} (hk : k < I.length) : cntB (I.set k S) + (I.getD k []).count true = cntB I + S.count true := by
  unfold cntB
  induction I generalizing k with
  | nil => simp at hk
  | cons x t ih =>
    cases k with
    | zero => simp; omega
    | succ k =>
      simp only [List.set_cons_succ, List.map_cons, List.sum_cons, List.getD_cons_succ]
      have := ih (k := k) (by simpa using hk)
      omega
theorem cntB_le {I : List (List Bool)} {V : Nat} (h : ∀ S ∈ I, S.length = V) : cntB I ≤ I.length * V := by
  unfold cntB
  induction I with
  | nil => simp
  | cons x t ih =>
    have h1 := ih (fun S hS => h S (List.mem_cons_of_mem _ hS))
    have h2 := h x List.mem_cons_self
    have h3 := List.count_le_length (a := true) (l := x)
    simp only [List.map_cons, List.sum_cons, List.length_cons, Nat.succ_mul]
    omega
theorem cnt_turn {s : Sa} (h : GoodP s) {I O : List (List Bool)} (hi : LInv s I O) {k : Nat} {p : Pt} (hk : s.parts[k]? = some p) :
    cntB I ≤ cntB (I.set k (liveB p (bhB I p (O.getD k [])))) ∧ (liveB p (bhB I p (O.getD k [])) ≠ I.getD k [] → cntB I < cntB (I.set k (liveB p (bhB I p (O.getD k []))))) := by
  obtain ⟨hkl, hke⟩ := List.getElem?_eq_some_iff.1 hk
  have hkI : k < I.length := by rw [hi.li]; exact hkl
  have h1 := cntB_set (S := liveB p (bhB I p (O.getD k []))) hkI
  have hlen : (I.getD k []).length = (liveB p (bhB I p (O.getD k []))).length := by
    have a := hi.rowI hkl
    have b := hi.rowO hkl
    rw [liveB_len, bhB_len]; omega
  obtain ⟨c1, c2⟩ := count_lt hlen (hi.turn h hk).2
  refine ⟨by omega, fun hne => ?_⟩
  have := c2 (fun e => hne e.symm)
  omega
theorem linv0 {s : Sa} (hV : 0 ≤ s.values) : LInv s (List.replicate s.parts.length (List.replicate s.values.toNat false)) (List.replicate s.parts.length (List.replicate s.values.toNat false)) := by
  have hno : ∀ k v, ¬ InR2 (List.replicate s.parts.length (List.replicate s.values.toNat false)) k v := fun k v hv => by
    have h2 := hv.2
    rw [List.getD_eq_getElem?_getD, List.getD_eq_getElem?_getD, List.getElem?_replicate] at h2
    split at h2
    · simp only [Option.getD_some, List.getElem?_replicate] at h2
      split at h2 <;> cases h2
    · simp at h2
  have hr : ∀ S ∈ List.replicate s.parts.length (List.replicate s.values.toNat false), (S.length : Int) = s.values := fun S hS => by
    rw [(List.mem_replicate.1 hS).2, List.length_replicate]; omega
  exact ⟨List.length_replicate, List.length_replicate, hr, hr, fun k v hv => absurd hv (hno k v), fun k v hv => absurd hv (hno k v), fun k p _ v hv => absurd hv (hno k v)⟩
end Go.Proofs.Ytnfaibenekninaa.L

set_option linter.unusedVariables false
set_option linter.unusedSimpArgs false
namespace Go.Proofs.Ytnfaibenekninaa.L
open Go.RowKit
/-- A list of an ssa, and whether it is good. -/
inductive ListRes (G : Prop) (L : List Int) (w : World) (e : Ending) (w' : World) : Prop where
  | mk (g : Bool) (v : Value) (hg : Hid (g = true ↔ G)) (he : e = .returned (.tuple #[v, .bool g])) (hv : Ow true 3 Rp.int w' (fun q => w.heap.size ≤ q) v (if g = true then L else [])) (hb : Below w.heap.size w w') : ListRes G L w e w'
theorem zeroInt (w : World) : (zeroValue 3).run Try.prog w = .ok (.int .i64 0) w := by
  obtain ⟨i, hi, hzz⟩ := Option.map_eq_some_iff.1 infoInt
  simp only [Prod.mk.injEq] at hzz
  simp [zeroValue, typeInfo, hi, hzz.1]
theorem setCells_chg (g : Nat) : ∀ (vs : List Value) (o : Nat) (w : World), Chg (fun q => q = g) w (w.setCells g o vs)
  | [], _, w => Chg.refl _ _
  | v :: r, o, w => (Chg.set (A := fun q => q = g) rfl).trans (setCells_chg g r (o + 1) (w.setCell ⟨g, o, none⟩ v))
theorem setInts_ow {ap : Bool} {e g n k : Nat} {F : Nat → Prop} {c : List Int} : ∀ {b a : List Int} {w : World}, Ow ap e Rp.int w F (.slice (some ⟨g, 0, none⟩) n k) (a ++ b ++ c) → True →
    Ow ap e Rp.int (w.setCells g a.length (List.replicate b.length (.int .i64 0))) F (.slice (some ⟨g, 0, none⟩) n k) (a ++ List.replicate b.length 0 ++ c)
  | [], a, w, h, _ => h
  | x :: b, a, w, h, _ => by
    have hs := h.set1 rfl (i := a.length) (by simp) (y := 0) (u := .int .i64 0) rfl
    have he : (a ++ (x :: b) ++ c).set a.length 0 = (a ++ [0]) ++ b ++ c := by simp
    rw [he] at hs
    have := setInts_ow hs trivial
    rw [List.length_append, List.length_singleton] at this
    show Ow ap e Rp.int ((w.setCell ⟨g, a.length, none⟩ (.int .i64 0)).setCells g (a.length + 1) (List.replicate b.length (.int .i64 0))) F _ _
    have e2 : a ++ List.replicate (x :: b).length 0 ++ c = a ++ [0] ++ List.replicate b.length 0 ++ c := by simp [List.replicate_succ]
    rw [e2]
    exact this
end Go.Proofs.Ytnfaibenekninaa.L

set_option linter.unusedVariables false
set_option linter.unusedSimpArgs false
namespace Go.Proofs.Ytnfaibenekninaa.L
open Go.RowKit
def bumpL (L : List Int) (v : Int) : List Int := L.set v.toNat (L.getD v.toNat 0 + 1)
def cntL (V : Nat) (vals : List Int) : List Int := vals.foldl bumpL (List.replicate V 0)
theorem bumpL_len (L : List Int) (v : Int) : (bumpL L v).length = L.length := by unfold bumpL; rw [List.length_set]
theorem cntL_snoc (V : Nat) (a : List Int) (v : Int) : cntL V (a ++ [v]) = bumpL (cntL V a) v := by unfold cntL; rw [List.foldl_append]; rfl
theorem foldl_bump_len (l : List Int) : ∀ L : List Int, (l.foldl bumpL L).length = L.length := by
  induction l with
  | nil => intro L; rfl
  | cons x t ih => intro L; rw [List.foldl_cons, ih, bumpL_len]
theorem cntL_len (V : Nat) (a : List Int) : (cntL V a).length = V := by unfold cntL; rw [foldl_bump_len, List.length_replicate]
theorem foldl_bump_le (l : List Int) : ∀ (L : List Int) (m : Nat), (∀ n : Nat, 0 ≤ L.getD n 0 ∧ L.getD n 0 ≤ m) → ∀ n : Nat, 0 ≤ (l.foldl bumpL L).getD n 0 ∧ (l.foldl bumpL L).getD n 0 ≤ m + l.length := by
  induction l with
  | nil => intro L m h n; simpa using h n
  | cons x t ih =>
    intro L m h n
    rw [List.foldl_cons, List.length_cons]
    have := ih (bumpL L x) (m + 1) (fun q => by
      unfold bumpL
      by_cases hx : x.toNat < L.length
      · rw [getD_set2 _ _ _ _ _ hx]
        have h1 := h x.toNat
        have h2 := h q
        split <;> omega
      · rw [List.set_eq_of_length_le (by omega)]; have h2 := h q; omega) n
    omega
theorem cntL_le (V : Nat) (a : List Int) (n : Nat) : 0 ≤ (cntL V a).getD n 0 ∧ (cntL V a).getD n 0 ≤ a.length := by
  have := foldl_bump_le a (List.replicate V 0) 0 (fun q => by rw [List.getD_eq_getElem?_getD, List.getElem?_replicate]; split <;> simp) n
  unfold cntL; omega
def partU (p : Pt) : List Int := p.code.flatMap usesI ++ endsS p
def usesAll (s : Sa) : List Int := s.parts.flatMap partU
/-- What is known of all uses. -/
structure UOk (s : Sa) (N : Nat) : Prop where
  V : (N : Int) = s.values
  le : N ≤ 250
  rng : ∀ v ∈ usesAll s, 0 ≤ v ∧ v < N
  len : (usesAll s).length ≤ 2305843009213693952
theorem flatMap_len_le {α : Type} {f : α → List Int} {m : Nat} : ∀ {l : List α}, (∀ x ∈ l, (f x).length ≤ m) → (l.flatMap f).length ≤ l.length * m
  | [], _ => by simp
  | x :: t, h => by
    have h1 := flatMap_len_le (l := t) (fun y hy => h y (List.mem_cons_of_mem _ hy))
    have h2 := h x List.mem_cons_self
    rw [List.flatMap_cons, List.length_append, List.length_cons, Nat.succ_mul]; omega
theorem GoodP.uok {s : Sa} (h : GoodP s) (hl : ∀ p ∈ s.parts, PtLim p) : UOk s s.values.toNat := by
  have hv1 := h.v1
  have hv2 := h.v2
  have hn2 := h.n2
  refine ⟨by omega, by omega, fun v hv => ?_, ?_⟩
  · obtain ⟨p, hp, hv⟩ := List.mem_flatMap.1 hv
    obtain ⟨k, hk⟩ := List.getElem?_of_mem hp
    have : 0 ≤ v ∧ v < s.values := by
      rcases List.mem_append.1 hv with hv | hv
      · obtain ⟨x, hx, hv⟩ := List.mem_flatMap.1 hv
        exact (h.steps_in hk hx).2 v hv
      · exact h.use_in hk (.inl hv)
    omega
  · have : (usesAll s).length ≤ s.parts.length * 1099516000000 := flatMap_len_le (fun p hp => by
      obtain ⟨l0, l1, l2, l3, l4⟩ := hl p hp
      have e1 : (p.code.flatMap usesI).length ≤ p.code.length * 2 := flatMap_len_le (fun x _ => usesI_len x)
      have e2 := flatten_len l4
      unfold partU endsS
      rw [List.length_append, List.length_append]
      have e3 : (if p.go == 2 || p.go == 5 then [p.test] else []).length ≤ 1 := by split <;> simp
      have e4 : p.args.length * 1048576 ≤ 1048576 * 1048576 := Nat.mul_le_mul_right _ l3
      omega)
    have e5 : s.parts.length * 1099516000000 ≤ 11 * 1099516000000 := Nat.mul_le_mul_right _ hn2
    omega
theorem UOk.step {s : Sa} {N : Nat} (h : UOk s N) {vals R : List Int} {v : Int} (hU : vals ++ v :: R = usesAll s) : (0 ≤ v ∧ v < N) ∧ vals.length < 2305843009213693952 ∧ (vals ++ [v]) ++ R = usesAll s := by
  refine ⟨h.rng v (by rw [← hU]; simp), ?_, by rw [← hU]; simp⟩
  have := h.len
  rw [← hU, List.length_append, List.length_cons] at this
  omega
end Go.Proofs.Ytnfaibenekninaa.L

set_option linter.unusedVariables false
set_option linter.unusedSimpArgs false
namespace Go.Proofs.Ytnfaibenekninaa.L
open Go.RowKit
theorem GoodP.usesAll_S {s : Sa} (h : GoodP s) : usesAll s = s.parts.flatMap (fun p => p.code.flatMap usesS ++ endsS p) := by
  unfold usesAll
  have key : ∀ l : List Pt, (∀ p ∈ l, p ∈ s.parts) → l.flatMap partU = l.flatMap (fun p => p.code.flatMap usesS ++ endsS p) := by
    intro l
    induction l with
    | nil => intro _; rfl
    | cons p t ih =>
      intro hl
      have hp := hl p List.mem_cons_self
      rw [List.flatMap_cons, List.flatMap_cons, ih (fun q hq => hl q (List.mem_cons_of_mem _ hq))]
      congr 1
      unfold partU
      congr 1
      have k2 : ∀ c : List Fl, (∀ x ∈ c, x ∈ p.code) → c.flatMap usesI = c.flatMap usesS := by
        intro c
        induction c with
        | nil => intro _; rfl
        | cons x u ih2 =>
          intro hc
          rw [List.flatMap_cons, List.flatMap_cons, ih2 (fun y hy => hc y (List.mem_cons_of_mem _ hy)), h.uses_eq hp (hc x List.mem_cons_self)]
      exact k2 _ (fun _ hx => hx)
  exact key _ (fun _ hp => hp)
theorem rd_int_in {w : World} {F : Nat → Prop} {v : Value} {l : List Int} (h : Rp.Rd Rp.int w F v l) : ∃ A c, v = .slice A l.length c ∧ l.length ≤ c ∧ c ≤ 9223372036854775807 ∧
    (l = [] ∨ ∃ b o, A = some ⟨b, o, none⟩ ∧ F b ∧ ∀ (k : Nat) (hk : k < l.length), w.cell? ⟨b, o + k, none⟩ = some (.int .i64 l[k])) := by
  have h2 := rd_int h
  obtain ⟨A, c, rfl, h3, h4, h5⟩ := h2
  refine ⟨A, c, rfl, h3, h4, ?_⟩
  obtain ⟨_, _, hae, _, _, h6⟩ := h
  cases hae
  rcases h5 with h5 | ⟨b, o, rfl, _, h5⟩
  · exact .inl h5
  · rcases h6 with h6 | ⟨_, _, he, hF, _⟩
    · exact .inl h6
    · cases he; exact .inr ⟨b, o, rfl, hF, h5⟩
theorem bump_own {s : Sa} {N : Nat} (hk : UOk s N) {g c : Nat} {vals R : List Int} {v : Int} {W : World} (hU : vals ++ v :: R = usesAll s) (hO : Ow true 3 Rp.int W (fun q => q = g) (.slice (some ⟨g, 0, none⟩) N c) (cntL N vals)) :
    ∃ (n : Nat) (y : Int), v = n ∧ n < N ∧ 0 ≤ y ∧ y < 2305843009213693952 ∧ W.cell? ⟨g, n, none⟩ = some (.int .i64 y) ∧ W.frozen? ⟨g, n, none⟩ = false ∧
      Ow true 3 Rp.int (W.setCell ⟨g, n, none⟩ (.int .i64 (y + 1))) (fun q => q = g) (.slice (some ⟨g, 0, none⟩) N c) (cntL N (vals ++ [v])) ∧ Chg (fun q => q = g) W (W.setCell ⟨g, n, none⟩ (.int .i64 (y + 1))) := by
  obtain ⟨⟨h0, h1⟩, hl, _⟩ := hk.step hU
  obtain ⟨n, rfl⟩ := Int.eq_ofNat_of_zero_le h0
  have hcl := cntL_len N vals
  have hn : n < (cntL N vals).length := by omega
  have hle := cntL_le N vals n
  have hg : (cntL N vals).getD n 0 = (cntL N vals)[n] := by rw [List.getD_eq_getElem?_getD, List.getElem?_eq_getElem hn]; rfl
  rw [hg] at hle
  have HO2 := hO.set1 rfl hn (y := (cntL N vals)[n] + 1) (u := .int .i64 ((cntL N vals)[n] + 1)) rfl
  have he : (cntL N vals).set n ((cntL N vals)[n] + 1) = cntL N (vals ++ [(n : Int)]) := by rw [cntL_snoc]; unfold bumpL; rw [Int.toNat_natCast, hg]
  rw [he] at HO2
  obtain ⟨d1, d2⟩ := hO.int_at hn
  exact ⟨n, _, rfl, by omega, hle.1, by omega, d1, d2, HO2, Chg.set rfl⟩
end Go.Proofs.Ytnfaibenekninaa.L

set_option linter.unusedVariables false
set_option linter.unusedSimpArgs false
namespace Go.Proofs.Ytnfaibenekninaa.L
open Go.RowKit
theorem bool_flat : Rp.Flat Rp.bool := Rp.Flat.lit _ _
theorem rd_boolL {w : World} {F : Nat → Prop} {v : Value} {l : List Bool} (h : Rp.Rd Rp.bool w F v l) : ∃ A c, v = .slice A l.length c ∧ l.length ≤ c ∧ c ≤ 9223372036854775807 ∧
    (l = [] ∨ ∃ b o, A = some ⟨b, o, none⟩ ∧ b < w.heap.size ∧ ∀ (k : Nat) (hk : k < l.length), w.cell? ⟨b, o + k, none⟩ = some (.bool l[k])) := by
  obtain ⟨A, c, rfl, hl, hm, h⟩ := h
  refine ⟨A, c, rfl, hl, hm, ?_⟩
  rcases h with h | ⟨b, o, rfl, _, hb, h⟩
  · exact .inl h
  · refine .inr ⟨b, o, rfl, hb, fun k hk => ?_⟩
    obtain ⟨cs, rfl, hc⟩ := h k l[k] (List.getElem?_eq_getElem hk)
    have := hc 0 _ rfl
    rw [show k * Rp.bool.sz + 0 = k from by show k * 1 + 0 = k; omega] at this
    exact this
set_option maxRecDepth 100000 in
set_option maxHeartbeats 4000000 in
theorem setAdd_calls {G : Nat → Prop} (g c : Nat) (S : List Bool) (vl : Value) (l : List Int) (F : Nat → Prop) (W : World) (hO : Ow true 4 Rp.bool W F (.slice (some ⟨g, 0, none⟩) S.length c) S) (hl : Rp.Rd Rp.int W G vl l)
    (hG : ∀ q, G q → ¬ F q) (hr : ∀ v ∈ l, 0 ≤ v ∧ v < S.length) :
    Calls Try.prog 114 #[.slice (some ⟨g, 0, none⟩) S.length c, vl] W fun e w' => e = .returned (.tuple #[]) ∧ Ow true 4 Rp.bool w' F (.slice (some ⟨g, 0, none⟩) S.length c) (addB S l) ∧ Chg F W w' := by
  obtain ⟨AL, cL, rfl, hlc, hcm, hrow⟩ := rd_int_in hl
  have hFg : F g := (hO.lt_size (k := g) rfl).1
  go_enter Try.func114, Try.ntmps114
  go_wp2
  go_loopw [8] (fun i wr => ∃ m : Nat, m ≤ l.length ∧ i = .int .i64 m ∧ Ow true 4 Rp.bool wr F (.slice (some ⟨g, 0, none⟩) S.length c) (addB S (l.take m)) ∧ Chg F W wr) (fun i _ => l.length - (intOf i).toNat)
  case atStart => exact ⟨0, Nat.zero_le _, rfl, hO, Chg.refl _ _⟩
  case round =>
    clear hO
    obtain ⟨m, hm, rfl, HO, hC⟩ := hrel
    rename World => wo
    by_cases hlt : m < l.length
    · rcases hrow with hnil | ⟨b, o, rfl, hGb, hcell⟩
      · rw [hnil] at hlt; simp at hlt
      have cv := hC.cell (hcell m hlt) (hG b hGb)
      have hv := hr _ (List.getElem_mem hlt)
      have hS : Hid (addB S (l.take (m + 1)) = (addB S (l.take m)).set l[m].toNat true) := Lib.hid (by rw [List.take_succ_eq_append_getElem hlt]; unfold addB; rw [List.foldl_append]; rfl)
      have hlen : (addB S (l.take m)).length = S.length := addB_len _ _
      clear hcell
      generalize l[m] = x at *
      generalize addB S (l.take m) = S1 at *
      obtain ⟨n, rfl⟩ := Int.eq_ofNat_of_zero_le hv.1
      rw [Int.toNat_natCast] at hS
      have hn : n < S1.length := by omega
      have HO2 := HO.set1 rfl hn (y := true) (u := .bool true) rfl
      obtain ⟨d1, d2⟩ := bool_at HO hn
      have hC2 := hC.trans (Chg.set (w := wo) (o := n) (u := .bool true) hFg)
      generalize S1[n] = y at *
      have i0 : (0 : Int) ≤ (m : Int) := Int.natCast_nonneg _
      have i1 : (m : Int) < (l.length : Int) := by omega
      have i2 : (0 : Int) ≤ (n : Int) := Int.natCast_nonneg _
      have i3 : (n : Int) < (S.length : Int) := by omega
      clear HO hC hv hn
      go_wp2
      go_roundw
      case rel => exact ⟨m + 1, by omega, by go_num, by rw [hS.out]; exact HO2, hC2⟩
      case measure => simp [intOf]; omega
    · obtain rfl : m = l.length := by omega
      rw [List.take_length] at HO
      go_wp2
      refine bodyPost_end (results_none (by first | rfl | exact Try.results114 | kernel_rfl) _ _ _) rfl ?_
      exact ⟨rfl, HO, hC⟩
theorem listB_take {S : List Bool} {k : Nat} (hk : k < S.length) : listB (S.take (k + 1)) = listB (S.take k) ++ (if S[k] then [(k : Int)] else []) := by
  have hf : ∀ m, m ≤ S.length → listB (S.take m) = ((List.range m).map (fun n : Nat => (n : Int))).filter (fun v => S.getD v.toNat false) := fun m hm => by
    unfold listB
    rw [List.length_take, Nat.min_eq_left hm]
    refine List.filter_congr fun v hv => ?_
    obtain ⟨n, hn, rfl⟩ := List.mem_map.1 hv
    have hn := List.mem_range.1 hn
    rw [Int.toNat_natCast, List.getD_eq_getElem?_getD, List.getD_eq_getElem?_getD, List.getElem?_take, if_pos hn]
  rw [hf _ (by omega), hf _ (by omega), List.range_succ, List.map_append, List.filter_append]
  congr 1
  have : S.getD k false = S[k] := by rw [List.getD_eq_getElem?_getD, List.getElem?_eq_getElem hk]; rfl
  cases h : S[k] <;> simp only [List.map_cons, List.map_nil, List.filter_cons, List.filter_nil, Int.toNat_natCast, this, h] <;> rfl
theorem listB_len (S : List Bool) : (listB S).length ≤ S.length := by
  unfold listB
  refine Nat.le_trans (List.length_filter_le _ _) ?_
  simp
set_option maxRecDepth 100000 in
set_option maxHeartbeats 4000000 in
theorem listOf_calls {F : Nat → Prop} (v : Value) (S : List Bool) (W : World) (h : Rp.Rd Rp.bool W F v S) (hl : S.length ≤ 1048576) :
    Calls Try.prog 53 #[v] W fun e w' => ∃ v', e = .returned v' ∧ Ow true 3 Rp.int w' (fun q => W.heap.size ≤ q) v' (listB S) ∧ Below W.heap.size W w' := by
  obtain ⟨A, c, rfl, hlc, hcm, hrow⟩ := rd_boolL h
  have hB := below_new (w := W) (.cells #[] 3)
  have hO := (ow_empty (r := Rp.int) (ap := true) (heap_alloc_new W (.cells #[] 3))).mono (G := fun q => W.heap.size ≤ q) (fun q hq => by have hq : q = W.heap.size := hq; omega)
  go_enter Try.func53, Try.ntmps53
  go_wp2
  generalize W.alloc (.cells #[] 3) = W1 at *
  go_loopw [3, 9] (fun sv i wr => ∃ m : Nat, m ≤ S.length ∧ i = .int .i64 m ∧ Ow true 3 Rp.int wr (fun q => W.heap.size ≤ q) sv (listB (S.take m)) ∧ Below W.heap.size W wr) (fun _ i _ => S.length - (intOf i).toNat)
  case atStart => exact ⟨0, Nat.zero_le _, rfl, hO, hB⟩
  case round =>
    clear hO hB
    obtain ⟨m, hm, rfl, HO, HB⟩ := hrel
    rename World => wo
    by_cases hlt : m < S.length
    · rcases hrow with hnil | ⟨b, o, rfl, hb, hcell⟩
      · rw [hnil] at hlt; simp at hlt
      have cv := cell_below HB (hcell m hlt)
      have hS := Lib.hid (listB_take hlt)
      have hle := listB_len (S.take m)
      rw [List.length_take] at hle
      clear hcell
      generalize listB (S.take m) = L1 at *
      obtain ⟨Av, kv, rfl, _, _⟩ := HO.form
      have i0 : (0 : Int) ≤ (m : Int) := Int.natCast_nonneg _
      have i1 : (m : Int) < (S.length : Int) := by omega
      cases hx : S[m]
      · have hS2 : Hid (listB (S.take (m + 1)) = L1) := Lib.hid (by rw [hS.out, hx]; simp)
        rw [hx] at cv
        clear hS hx
        go_wp2
        go_roundw
        case rel => exact ⟨m + 1, by omega, by go_num, by rw [hS2.out]; exact HO, HB⟩
        case measure => simp [intOf]; omega
      · have hS2 : Hid (listB (S.take (m + 1)) = L1 ++ [(m : Int)]) := Lib.hid (by rw [hS.out, hx]; simp)
        rw [hx] at cv
        clear hS hx
        go_wp2_with (at_builtin; (refine app_int (by rfl) _ _ (by rfl) (.slice Av L1.length kv) L1 m wo.heap.size rfl (by rfl) (by rfl) HO (by omega) ?_; intro A' c' w3 HO3 hg; have HB3 := below_grown HB hg (fun q hq => own_in HO (.inr hq)) HB.size; have HO4 := HO3.mono (G := fun q => W.heap.size ≤ q) (fun q hq => by have := HB.size; rcases hq with hq | hq; exact hq; omega)))
        go_roundw
        case rel => exact ⟨m + 1, by omega, by go_num, by rw [hS2.out]; exact HO4, HB3⟩
        case measure => simp [intOf]; omega
    · obtain rfl : m = S.length := by omega
      rw [List.take_length] at HO
      go_wp2
      go_ret
      exact ⟨_, rfl, HO, HB⟩
set_option maxHeartbeats 4000000 in
theorem cloneB_calls {F : Nat → Prop} (v : Value) (l : List Bool) (w : World) (h : Rp.Rd Rp.bool w F v l) (hl : l.length ≤ 1048576) :
    Calls Try.prog 173 #[v] w fun e w' => ∃ v', e = .returned v' ∧ Ow true 4 Rp.bool w' (fun k => w.heap.size ≤ k) v' l ∧ Below w.heap.size w w' := by
  obtain ⟨A, c, rfl, hlc, hcm, hrow⟩ := rd_boolL h
  have q22 : ∀ (w : World) (a : Option Addr) (n c n' c' : Nat), (binOp .eql 74 (.slice a n c) (.slice none n' c')).run Try.prog w = .ok (.bool a.isNone) w := fun w a n c n' c' => Lib.run_eql_slice_nil w _ _ a n c n' c' Try.underlying74
  cases A with
  | none =>
    obtain rfl : l = [] := by rcases hrow with h | ⟨b, o, h, _⟩; exact h; cases h
    go_enter Try.func173, Try.ntmps173
    go_wp2
    go_ret
    exact ⟨_, rfl, Ow.nil _ _ _ _ _, Below.refl _ _⟩
  | some ad =>
    clear hrow
    have hH := h.below (below_new (w := w) (.cells #[] 4))
    have hB := (below_new (w := w) (.cells #[] 4)).size
    have HE : Ow true 4 Rp.bool (w.alloc (.cells #[] 4)) (fun k => w.heap.size ≤ k) (.slice (some ⟨w.heap.size, 0, none⟩) 0 0) [] :=
      ⟨fun _ _ => False, [], World.ownsRow_lit w #[] 0 (Nat.zero_le _) (by unfold maxLen; omega) (by simp), fun k hk => by simp [Value.ownBlock] at hk; omega, fun _ _ h => h.elim, fun _ _ _ _ h => h.elim, fun i x hx => by simp at hx⟩
    go_enter Try.func173, Try.ntmps173
    go_wp2_with (at_builtin; have _t := HE; refine acc_appendf (r := Rp.bool) (e := 4) (B := w.heap.size) (w0 := w) bool_flat (by rfl) _ _ 74 (.bool false) 1 (by rfl) Try.underlying74 infoBool rfl (by decide) (by omega) (.slice (some ⟨w.heap.size, 0, none⟩) 0 0) (.slice (some ad) l.length c) [] l (by rfl) (by rfl) true HE hH (below_new _) hB (by simp; omega) ?_; intro v1 w1 HO1 HB1 hB1; clear HE)
    go_ret
    exact ⟨_, rfl, HO1, HB1⟩
set_option maxRecDepth 100000 in
set_option maxHeartbeats 4000000 in
theorem equalB_calls {F G : Nat → Prop} (va vb : Value) (a b : List Bool) (w : World) (ha : Rp.Rd Rp.bool w F va a) (hb : Rp.Rd Rp.bool w G vb b) (hl : a.length = b.length) :
    Calls Try.prog 194 #[va, vb] w fun e w' => e = .returned (.bool (decide (a = b))) ∧ ∃ n, w' = w.drewN n := by
  obtain ⟨A, c, rfl, hlc, hcm, hra⟩ := rd_boolL ha
  obtain ⟨B, d, rfl, hld, hdm, hrb⟩ := rd_boolL hb
  rw [← hl]
  have hne : ((a.length : Int) != (a.length : Int)) = false := by simp
  go_enter Try.func194, Try.ntmps194
  go_wp2
  go_loopw [13] (fun i wr => ∃ m q : Nat, m ≤ a.length ∧ i = .int .i64 m ∧ Hid (a.take m = b.take m) ∧ wr = w.drewN q) (fun i _ => a.length - (intOf i).toNat)
  case atStart => exact ⟨0, 0, Nat.zero_le _, rfl, Lib.hid rfl, rfl⟩
  case round =>
    obtain ⟨m, q, hm, rfl, HT, rfl⟩ := hrel
    by_cases hlt : m < a.length
    · have hlt2 : m < b.length := by omega
      rcases hra with hnil | ⟨g, o, rfl, hg, hca⟩
      · rw [hnil] at hlt; simp at hlt
      rcases hrb with hnil | ⟨g2, o2, rfl, hg2, hcb⟩
      · rw [hnil] at hlt2; simp at hlt2
      have c1 : (w.drewN q).cell? ⟨g, o + m, none⟩ = some (.bool a[m]) := hca m hlt
      have c2 : (w.drewN q).cell? ⟨g2, o2 + m, none⟩ = some (.bool b[m]) := hcb m hlt2
      have HT1 := Lib.hid (fun h => take_succ_eq hlt hlt2 HT.out h)
      have HT2 : Hid (a[m] ≠ b[m] → a ≠ b) := Lib.hid (fun h => ne_of_get hlt hlt2 h)
      clear hca hcb
      obtain ⟨wq, hwq⟩ : ∃ wq, wq = w.drewN q := ⟨_, rfl⟩
      rw [← hwq] at c1 c2 ⊢
      have HW : Hid (wq.drew = w.drewN (q + 1)) := Lib.hid (by rw [hwq]; rfl)
      clear hwq
      generalize a[m] = x at *
      generalize b[m] = y at *
      have i0 : (0 : Int) ≤ (m : Int) := Int.natCast_nonneg _
      have i1 : (m : Int) < (a.length : Int) := by omega
      cases x
      · cases y
        · have HT3 := Lib.hid (HT1.out rfl)
          clear HT1 HT2 HT
          go_wp2_with fail
          go_region
          go_wp2
          go_roundw
          case rel => exact ⟨m + 1, q + 1, by omega, by go_num, HT3, HW.out⟩
          case measure => simp [intOf]; omega
        · have HT3 := Lib.hid (HT2.out (by decide))
          clear HT1 HT2 HT
          go_wp2_with fail
          go_region
          go_wp2
          go_ret
          exact ⟨ret_bool (by rw [eq_comm, decide_eq_false_iff_not]; exact HT3.out), q + 1, HW.out⟩
      · cases y
        · have HT3 := Lib.hid (HT2.out (by decide))
          clear HT1 HT2 HT
          go_wp2_with fail
          go_region
          go_wp2
          go_ret
          exact ⟨ret_bool (by rw [eq_comm, decide_eq_false_iff_not]; exact HT3.out), q + 1, HW.out⟩
        · have HT3 := Lib.hid (HT1.out rfl)
          clear HT1 HT2 HT
          go_wp2_with fail
          go_region
          go_wp2
          go_roundw
          case rel => exact ⟨m + 1, q + 1, by omega, by go_num, HT3, HW.out⟩
          case measure => simp [intOf]; omega
    · obtain rfl : m = a.length := by omega
      have HE : Hid (a = b) := Lib.hid (by have := HT.out; rw [List.take_length, hl, List.take_length] at this; exact this)
      go_wp2
      go_ret
      exact ⟨ret_bool (by rw [eq_comm, decide_eq_true_eq]; exact HE.out), q, rfl⟩
end Go.Proofs.Ytnfaibenekninaa.L
