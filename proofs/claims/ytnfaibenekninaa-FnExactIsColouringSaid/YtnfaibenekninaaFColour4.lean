/- Joined texts, each of which was built by itself: Px6 Lv5 Lv6. -/
import Derived.Test.YtnfaibenekninaaFColour3
import Derived.Test.YtnfaibenekninaaFColour1
import Derived.Test.YtnfaibenekninaaFColour2
import Derived.Test.YtnfaibenekninaaB8
import Derived.Deep.LoopGhost
set_option linter.unusedVariables false
set_option linter.unusedSimpArgs false
namespace Go.Proofs.Ytnfaibenekninaa.L
open Go.RowKit
def bhT (I : List (List Int)) (p : Pt) : List Int := endsS p ++ p.next.flatMap (fun x => I.getD x.toNat [])
def bhL (I : List (List Int)) (p : Pt) : List Int := (bhT I p).foldl putL []
def alL (p : Pt) (b : List Int) : List Int := (p.code.flatMap usesS).foldl putL b
def ahL (I : List (List Int)) (p : Pt) : List Int := (alL p (bhL I p)).filter (fun v => !(ownS p).contains v)
def InRL (I : List (List Int)) (k : Nat) (v : Int) : Prop := v ∈ I.getD k []
theorem mem_bhL {I : List (List Int)} {p : Pt} {v : Int} : v ∈ bhL I p ↔ BhP (InRL I) p v := by
  unfold bhL bhT BhP InRL
  rw [mem_foldl_putL, List.mem_append, List.mem_flatMap]
  constructor
  · rintro (h | h)
    · exact h
    · cases h
  · exact .inl
theorem mem_alL {p : Pt} {b : List Int} {v : Int} : v ∈ alL p b ↔ v ∈ b ∨ v ∈ p.code.flatMap usesS := by
  unfold alL
  rw [mem_foldl_putL]
  exact Or.comm
theorem mem_ahL {I : List (List Int)} {p : Pt} {v : Int} : v ∈ ahL I p ↔ AhP (InRL I) p v := by
  unfold ahL AhP
  rw [List.mem_filter, mem_alL, mem_bhL]
  simp
theorem inc_bhL (I : List (List Int)) (p : Pt) : Inc (bhL I p) := Inc.foldl Inc.nil
theorem inc_ahL (I : List (List Int)) (p : Pt) : Inc (ahL I p) := Inc.filter (Inc.foldl (inc_bhL I p)) _
structure SInv (s : Sa) (I O : List (List Int)) : Prop where
  li : I.length = s.parts.length
  lo : O.length = s.parts.length
  ni : ∀ k, Inc (I.getD k [])
  no : ∀ k, Inc (O.getD k [])
  si : ∀ k v, InRL I k v → LvI s k v
  so : ∀ k v, InRL O k v → LvO s k v
  ui : ∀ (k : Nat) (p : Pt), s.parts[k]? = some p → ∀ v, InRL I k v → AhP (InRL I) p v
  uo : ∀ (k : Nat) (p : Pt), s.parts[k]? = some p → ∀ v, InRL O k v → BhP (InRL I) p v
theorem InRL_set {I : List (List Int)} {k : Nat} {S : List Int} (hk : k < I.length) {q : Nat} {v : Int} : InRL (I.set k S) q v ↔ if q = k then v ∈ S else InRL I q v := by
  unfold InRL
  rw [getD_set2 _ _ _ _ _ hk]
  split <;> rfl
theorem SInv.turn {s : Sa} {I O : List (List Int)} (hi : SInv s I O) {k : Nat} {p : Pt} (hk : s.parts[k]? = some p) :
    SInv s (I.set k (ahL I p)) (O.set k (bhL I p)) ∧ (∀ v, InRL I k v → v ∈ ahL I p) ∧ ∀ v, InRL O k v → v ∈ bhL I p := by
  obtain ⟨hkl, hke⟩ := List.getElem?_eq_some_iff.1 hk
  have hkI : k < I.length := by rw [hi.li]; exact hkl
  have hkO : k < O.length := by rw [hi.lo]; exact hkl
  have h1 : ∀ v, InRL I k v → v ∈ ahL I p := fun v hv => mem_ahL.2 (hi.ui k p hk v hv)
  have h2 : ∀ v, InRL O k v → v ∈ bhL I p := fun v hv => mem_bhL.2 (hi.uo k p hk v hv)
  have hsub : ∀ q v, InRL I q v → InRL (I.set k (ahL I p)) q v := fun q v hv => by
    rw [InRL_set hkI]
    split
    · rename_i e; subst e; exact h1 v hv
    · exact hv
  have e1 : ∀ q v, InRL (I.set k (ahL I p)) q v → (q = k ∧ v ∈ ahL I p) ∨ (q ≠ k ∧ InRL I q v) := fun q v hv => by
    rw [InRL_set hkI] at hv
    split at hv
    · rename_i e; exact .inl ⟨e, hv⟩
    · rename_i e; exact .inr ⟨e, hv⟩
  have e2 : ∀ q v, InRL (O.set k (bhL I p)) q v → (q = k ∧ v ∈ bhL I p) ∨ (q ≠ k ∧ InRL O q v) := fun q v hv => by
    rw [InRL_set hkO] at hv
    split at hv
    · rename_i e; exact .inl ⟨e, hv⟩
    · rename_i e; exact .inr ⟨e, hv⟩
  refine ⟨⟨by rw [List.length_set]; exact hi.li, by rw [List.length_set]; exact hi.lo, fun q => ?_, fun q => ?_, fun q v hv => ?_, fun q v hv => ?_, fun q p' hq v hv => ?_, fun q p' hq v hv => ?_⟩, h1, h2⟩
  · rw [getD_set2 _ _ _ _ _ hkI]; split; exact inc_ahL I p; exact hi.ni q
  · rw [getD_set2 _ _ _ _ _ hkO]; split; exact inc_bhL I p; exact hi.no q
  · rcases e1 q v hv with ⟨rfl, h⟩ | ⟨_, h⟩
    · exact LvI.of_ah hk ((mem_ahL.1 h).mono hi.si)
    · exact hi.si q v h
  · rcases e2 q v hv with ⟨rfl, h⟩ | ⟨_, h⟩
    · exact ⟨p, hk, (mem_bhL.1 h).mono hi.si⟩
    · exact hi.so q v h
  · rcases e1 q v hv with ⟨rfl, h⟩ | ⟨_, h⟩
    · rw [hk] at hq; cases hq
      exact (mem_ahL.1 h).mono hsub
    · exact (hi.ui q p' hq v h).mono hsub
  · rcases e2 q v hv with ⟨rfl, h⟩ | ⟨_, h⟩
    · rw [hk] at hq; cases hq
      exact (mem_bhL.1 h).mono hsub
    · exact (hi.uo q p' hq v h).mono hsub
def StillL (s : Sa) (I O : List (List Int)) (q : Nat) : Prop := ∀ p, s.parts[q]? = some p → (∀ v, BhP (InRL I) p v → InRL O q v) ∧ ∀ v, AhP (InRL I) p v → InRL I q v
theorem stillL_turn {s : Sa} {I O : List (List Int)} (hi : SInv s I O) {k : Nat} {p : Pt} (hk : s.parts[k]? = some p) (h1 : (ahL I p).length = (I.getD k []).length) (h2 : (bhL I p).length = (O.getD k []).length) (hs : ∀ q, q < k → StillL s I O q) :
    I.set k (ahL I p) = I ∧ O.set k (bhL I p) = O ∧ ∀ q, q < k + 1 → StillL s I O q := by
  obtain ⟨hkl, hke⟩ := List.getElem?_eq_some_iff.1 hk
  have hkI : k < I.length := by rw [hi.li]; exact hkl
  have hkO : k < O.length := by rw [hi.lo]; exact hkl
  obtain ⟨_, s1, s2⟩ := hi.turn hk
  have e1 : I.getD k [] = ahL I p := (hi.ni k).sub_eq (inc_ahL I p) s1 (by omega)
  have e2 : O.getD k [] = bhL I p := (hi.no k).sub_eq (inc_bhL I p) s2 (by omega)
  refine ⟨?_, ?_, fun q hq => ?_⟩
  · rw [← e1, List.getD_eq_getElem?_getD, List.getElem?_eq_getElem hkI]; exact List.set_getElem_self hkI
  · rw [← e2, List.getD_eq_getElem?_getD, List.getElem?_eq_getElem hkO]; exact List.set_getElem_self hkO
  · rcases Nat.lt_or_eq_of_le (Nat.le_of_lt_succ hq) with hq | rfl
    · exact hs q hq
    · intro p' hp'
      rw [hk] at hp'; cases hp'
      exact ⟨fun v hv => by show v ∈ O.getD q []; rw [e2]; exact mem_bhL.2 hv, fun v hv => by show v ∈ I.getD q []; rw [e1]; exact mem_ahL.2 hv⟩
theorem stillL_all {s : Sa} {I O : List (List Int)} (hi : SInv s I O) (hs : ∀ q, q < s.parts.length → StillL s I O q) : (∀ k v, InRL I k v ↔ LvI s k v) ∧ ∀ k v, InRL O k v ↔ LvO s k v := by
  have h1 : ∀ k v, LvI s k v → InRL I k v := fun k v hv => LvI.least (I := InRL I) (fun q p hq u hu => (hs q (List.getElem?_eq_some_iff.1 hq).1 p hq).2 u hu) hv
  exact ⟨fun k v => ⟨hi.si k v, h1 k v⟩, fun k v => ⟨hi.so k v, fun ⟨p, hp, hv⟩ => (hs k (List.getElem?_eq_some_iff.1 hp).1 p hp).1 v (hv.mono h1)⟩⟩
def cntI (I : List (List Int)) : Nat := (I.map List.length).sum
theorem cntI_set {I : List (List Int)} {k : Nat} {S : List Int} (hk : k < I.length) : cntI (I.set k S) + (I.getD k []).length = cntI I + S.length := by
  unfold cntI
  induction I generalizing k with
  | nil => simp at hk
  | cons x t ih =>
    cases k with
    | zero => simp; omega
    | succ k =>
      simp only [List.set_cons_succ, List.map_cons, List.sum_cons, List.getD_cons_succ]
      have := ih (k := k) (by simpa using hk)
      omega
theorem inc_len_sub {l m : List Int} (hl : Inc l) (hm : Inc m) (h : ∀ v ∈ l, v ∈ m) : l.length ≤ m.length := by
  induction l generalizing m with
  | nil => exact Nat.zero_le _
  | cons x t ih =>
    obtain ⟨a1, a2⟩ := List.pairwise_cons.1 hl
    have hx : x ∈ m := h x List.mem_cons_self
    have := ih (m := m.filter (fun v => decide (x < v))) a2 (hm.filter _) (fun v hv => List.mem_filter.2 ⟨h v (List.mem_cons_of_mem _ hv), decide_eq_true (a1 v hv)⟩)
    have hlt : (m.filter (fun v => decide (x < v))).length < m.length := by
      rw [← List.countP_eq_length_filter]
      refine Nat.lt_of_le_of_ne List.countP_le_length fun he => ?_
      have := List.countP_eq_length.1 he x hx
      simp at this
    rw [List.length_cons]; omega
theorem SInv.len_le {s : Sa} (hg : GoodP s) {I O : List (List Int)} (hi : SInv s I O) (k : Nat) : ((I.getD k []).length : Int) ≤ s.values ∧ ((O.getD k []).length : Int) ≤ s.values := by
  have hV : 0 ≤ s.values := by have := hg.v1; omega
  refine ⟨(hi.ni k).length_le hV (fun v hv => (hi.si k v hv).range hg), (hi.no k).length_le hV (fun v hv => ?_)⟩
  obtain ⟨p, hp, h | ⟨x, hx, h⟩⟩ := hi.so k v hv
  · exact hg.use_in hp (.inl h)
  · exact h.range hg
theorem cntI_le {I : List (List Int)} {V : Nat} (h : ∀ k, (I.getD k []).length ≤ V) : cntI I ≤ I.length * V := by
  unfold cntI
  induction I with
  | nil => simp
  | cons x t ih =>
    have h1 := ih (fun k => by have := h (k + 1); rwa [List.getD_cons_succ] at this)
    have h2 := h 0
    rw [List.getD_cons_zero] at h2
    simp only [List.map_cons, List.sum_cons, List.length_cons, Nat.succ_mul]
    omega
theorem cntI_turn {s : Sa} {I O : List (List Int)} (hi : SInv s I O) {k : Nat} {p : Pt} (hk : s.parts[k]? = some p) :
    cntI I + cntI O ≤ cntI (I.set k (ahL I p)) + cntI (O.set k (bhL I p)) ∧ (¬ ((ahL I p).length = (I.getD k []).length ∧ (bhL I p).length = (O.getD k []).length) → cntI I + cntI O < cntI (I.set k (ahL I p)) + cntI (O.set k (bhL I p))) := by
  obtain ⟨hkl, hke⟩ := List.getElem?_eq_some_iff.1 hk
  have hkI : k < I.length := by rw [hi.li]; exact hkl
  have hkO : k < O.length := by rw [hi.lo]; exact hkl
  obtain ⟨_, s1, s2⟩ := hi.turn hk
  have l1 := inc_len_sub (hi.ni k) (inc_ahL I p) s1
  have l2 := inc_len_sub (hi.no k) (inc_bhL I p) s2
  have c1 := cntI_set (S := ahL I p) hkI
  have c2 := cntI_set (S := bhL I p) hkO
  exact ⟨by omega, fun h => by omega⟩
theorem sinv0 (s : Sa) : SInv s (List.replicate s.parts.length []) (List.replicate s.parts.length []) := by
  have hr : ∀ k, (List.replicate s.parts.length ([] : List Int)).getD k [] = [] := fun k => by
    rw [List.getD_eq_getElem?_getD, List.getElem?_replicate]; split <;> rfl
  have hno : ∀ k v, ¬ InRL (List.replicate s.parts.length []) k v := fun k v hv => by
    unfold InRL at hv; rw [hr] at hv; cases hv
  exact ⟨List.length_replicate, List.length_replicate, fun k => by rw [hr]; exact Inc.nil, fun k => by rw [hr]; exact Inc.nil, fun k v h => absurd h (hno k v), fun k v h => absurd h (hno k v), fun k p _ v h => absurd h (hno k v), fun k p _ v h => absurd h (hno k v)⟩
/-- The lists of all parts. -/
noncomputable def liveIL (s : Sa) : List (List Int) := (List.range s.parts.length).map (fun k => listP (LvI s k) s.values.toNat)
noncomputable def liveOL (s : Sa) : List (List Int) := (List.range s.parts.length).map (fun k => listP (LvO s k) s.values.toNat)
theorem LvO.range {s : Sa} (h : GoodP s) {k : Nat} {v : Int} (hv : LvO s k v) : 0 ≤ v ∧ v < s.values := by
  obtain ⟨p, hp, hv | ⟨x, hx, hv⟩⟩ := hv
  · exact h.use_in hp (.inl hv)
  · exact hv.range h
theorem rows_eq {P : Nat → Int → Prop} {V n : Nat} {L : List (List Int)} (hl : L.length = n) (hn : ∀ k, Inc (L.getD k [])) (h : ∀ k v, v ∈ L.getD k [] ↔ P k v) (hr : ∀ k v, P k v → 0 ≤ v ∧ v < V) : L = (List.range n).map (fun k => listP (P k) V) := by
  apply List.ext_getElem
  · simp [hl]
  intro k h1 h2
  rw [List.getElem_map, List.getElem_range]
  have e : L[k] = L.getD k [] := by rw [List.getD_eq_getElem?_getD, List.getElem?_eq_getElem h1]; rfl
  rw [e]
  refine (hn k).ext (listP_inc _ _) fun v => ?_
  rw [mem_listP, h k v]
  exact ⟨fun hv => ⟨hr k v hv, hv⟩, fun hv => hv.2⟩
theorem SInv.lists {s : Sa} (hg : GoodP s) {I O : List (List Int)} (hi : SInv s I O) (hs : ∀ q, q < s.parts.length → StillL s I O q) : I = liveIL s ∧ O = liveOL s := by
  obtain ⟨h1, h2⟩ := stillL_all hi hs
  have hV := hg.v1
  exact ⟨rows_eq hi.li hi.ni h1 (fun k v hv => by have := hv.range hg; omega), rows_eq hi.lo hi.no h2 (fun k v hv => by have := LvO.range hg hv; omega)⟩
theorem listsB_eq {P : Nat → Int → Prop} {V n : Nat} {I : List (List Bool)} (hl : I.length = n) (hr : ∀ S ∈ I, S.length = V) (h : ∀ k v, InR2 I k v ↔ P k v) : I.map listB = (List.range n).map (fun k => listP (P k) V) := by
  apply List.ext_getElem
  · simp [hl]
  intro k h1 h2
  rw [List.getElem_map, List.getElem_map, List.getElem_range]
  rw [List.length_map] at h1
  refine listB_eq (hr _ (List.getElem_mem h1)) fun v => ?_
  have e : I[k] = I.getD k [] := by rw [List.getD_eq_getElem?_getD, List.getElem?_eq_getElem h1]; rfl
  rw [e]; exact h k v
end Go.Proofs.Ytnfaibenekninaa.L

set_option linter.unusedVariables false
set_option linter.unusedSimpArgs false
namespace Go.Proofs.Ytnfaibenekninaa.L
open Go.RowKit
set_option maxRecDepth 100000 in
set_option maxHeartbeats 4000000 in
theorem l10Own_calls {F1 F2 : Nat → Prop} (p : Pt) (v1 v2 v3 v4 : Value) (w : World) (h1 : Rp.Rd Rp.int w F1 v1 p.params) (h2 : Rp.Rd flat w F2 v2 p.code) (h3 : ∃ A c, v3 = .slice A p.next.length c) (h4 : ∃ A c, v4 = .slice A p.args.length c) (hl1 : p.params.length ≤ 1048576) (hl2 : p.code.length ≤ 1048576) :
    Calls Try.prog 187 #[ptV p v1 v2 v3 v4] w fun e w' => ∃ v', e = .returned v' ∧ Ow true 3 Rp.int w' (fun q => w.heap.size ≤ q) v' (ownS p) ∧ Below w.heap.size w w' := by
  obtain ⟨A1, c1, rfl, _⟩ := id h1
  obtain ⟨A2, c2, rfl, _⟩ := id h2
  obtain ⟨A3, c3, rfl⟩ := h3
  obtain ⟨A4, c4, rfl⟩ := h4
  unfold ptV
  have HE0 := (below_new (w := w) (.cells #[.slice A1 p.params.length c1, .slice A2 p.code.length c2, .int .i64 p.go, .int .i64 p.test, .slice A3 p.next.length c3, .slice A4 p.args.length c4] 145))
  obtain ⟨W2, hW2⟩ : ∃ W2, W2 = (w.alloc (.cells #[.slice A1 p.params.length c1, .slice A2 p.code.length c2, .int .i64 p.go, .int .i64 p.test, .slice A3 p.next.length c3, .slice A4 p.args.length c4] 145)).alloc (.cells #[] 3) := ⟨_, rfl⟩
  have hb2 : Below w.heap.size w W2 := by rw [hW2]; exact (below_new _).alloc (by simp) _
  have p2 : W2.heap[w.heap.size]? = some (.cells #[.slice A1 p.params.length c1, .slice A2 p.code.length c2, .int .i64 p.go, .int .i64 p.test, .slice A3 p.next.length c3, .slice A4 p.args.length c4] 145 (0, 0)) := by rw [hW2]; exact heap_alloc2_old w _ _
  have e2 : W2.heap[w.heap.size + 1]? = some (.cells #[] 3 (0, 0)) := by rw [hW2]; exact heap_alloc2_new w _ _
  have HE := (ow_empty (ap := true) (r := Rp.int) e2).mono (G := fun q => w.heap.size + 1 ≤ q) (fun q hq => by omega)
  have hx1' := h1.below hb2
  have HW2 := Lib.hid hW2
  clear hW2 e2 HE0
  have HLE := dstsS_len p.code
  have hz2 := blk_lt p2
  have go1 : True := trivial
  go_enter Try.func187, Try.ntmps187
  go_wp2_with (at_builtin; (rw [← HW2.out]; refine ow_appendf (r := Rp.int) (e := 3) int_flat (by rfl) _ _ 25 (.int .i64 0) 8 (by rfl) Try.underlying25 infoInt rfl (by decide) (by omega) (.slice (some ⟨w.heap.size + 1, 0, none⟩) 0 0) (.slice A1 p.params.length c1) [] p.params (by rfl) (by rfl) true HE hx1' (by simp; omega) ?_; intro v1 w1 HO3 hg1; have p3 := grown_blk hg1 p2 (own_ne HE (fun h => by omega)); have hb3 := below_grown hb2 hg1 (fun q hq => by have := own_in HE (.inr hq); omega) hb2.size; have hz3 := blk_lt p3; obtain ⟨x3, f3⟩ := cell_of_block p3; have x31 : w1.cell? ⟨w.heap.size, 1, none⟩ = some (.slice A2 p.code.length c2) := (x3 1).trans rfl))
  have HL3 : Ow true 3 Rp.int w1 (fun q => w.heap.size + 1 ≤ q) v1 (p.params ++ dstsS (p.code.take 0)) := by
    have := HO3.mono (G := fun q => w.heap.size + 1 ≤ q) (fun q hq => by rcases hq with hq | hq; exact hq; omega)
    simpa [dstsS] using this
  clear HO3 x3 f3 x31 p2 HE hx1' HW2
  go_loopw [3, 13] (fun lv i wr => ∃ j : Nat, j ≤ p.code.length ∧ i = .int .i64 j ∧ Ow true 3 Rp.int wr (fun q => w.heap.size + 1 ≤ q) lv (p.params ++ dstsS (p.code.take j)) ∧ Below w.heap.size w wr ∧ w.heap.size < wr.heap.size) (fun _ i _ => p.code.length - (intOf i).toNat)
  case atStart => exact ⟨0, Nat.zero_le _, rfl, HL3, hb3, hz3⟩
  case round =>
    clear HL3 hb3 p3 hz3 hz2
    obtain ⟨j, hj, rfl, HOl, hbw, hz3⟩ := hrel
    rename World => wr
    by_cases hjt : j < p.code.length
    · obtain ⟨_, _, hAe, _, _, hAr⟩ := rd_flat (h2.below hbw)
      cases hAe
      rcases hAr with hAr | ⟨b2, o2, rfl, hbb2, hc2⟩
      · rw [hAr] at hjt; simp at hjt
      obtain ⟨r0, r1, r2, r3, r4, r5⟩ := hc2 j hjt
      clear hc2
      have HLT := dstsS_len (p.code.take j)
      rw [List.length_take] at HLT
      have hln : (p.params ++ dstsS (p.code.take j)).length ≤ 2097152 := by rw [List.length_append]; omega
      have HNX : Hid ((setsS p.code[j] = true → p.params ++ dstsS (p.code.take (j + 1)) = (p.params ++ dstsS (p.code.take j)) ++ [p.code[j].dst]) ∧ (setsS p.code[j] = false → p.params ++ dstsS (p.code.take (j + 1)) = p.params ++ dstsS (p.code.take j))) := Lib.hid (by
        rw [dstsS_take hjt]
        constructor
        · intro h; rw [if_pos h, List.append_assoc]
        · intro h; rw [if_neg (by rw [h]; decide)])
      clear HLT HLE
      generalize p.params ++ dstsS (p.code.take j) = l1 at *
      generalize p.code[j] = x at *
      have i2 : (0 : Int) ≤ (j : Int) := Int.natCast_nonneg _
      have i3 : (j : Int) < (p.code.length : Int) := by omega
      obtain ⟨Al, kl, rfl, hkl, hkml⟩ := HOl.form
      have HC0 := fun W => l9Sets_calls x.op W
      cases hset : inB x.op 1 4
      · rw [hset] at HC0
        have HC := Lib.hid HC0
        have HL2 := Lib.hid (HNX.out.2 hset)
        clear hset HNX HC0
        go_wp2_with fail
        refine (HC.out _).mono ?_
        rintro e w' ⟨rfl, rfl⟩
        go_wp2
        go_roundw
        case rel => exact ⟨j + 1, by omega, by go_num, by rw [HL2.out]; exact HOl.below (below_new _), hbw.alloc hbw.size _, by simp; omega⟩
        case measure => simp [intOf]; omega
      · rw [hset] at HC0
        have HC := Lib.hid HC0
        have HL2 := Lib.hid (HNX.out.1 hset)
        clear hset HNX HC0
        have HOl2 := HOl.below (below_new (.cells #[.int .i64 x.op, .int .i64 x.dO, .int .i64 x.dst, .int .i64 x.a, .int .i64 x.b, .int .i64 x.n] 108))
        have hbw2 := hbw.alloc hbw.size (.cells #[.int .i64 x.op, .int .i64 x.dO, .int .i64 x.dst, .int .i64 x.a, .int .i64 x.b, .int .i64 x.n] 108)
        go_wp2_with fail
        refine (HC.out _).mono ?_
        rintro e w' ⟨rfl, rfl⟩
        go_wp2_with (at_builtin; (refine app_int (by rfl) _ _ (by rfl) (.slice Al l1.length kl) l1 x.dst (wr.heap.size + 1) (by simp) (by rfl) (by rfl) HOl2 (by omega) ?_; intro A' c' w1 HO3 hg1; have hb3 := below_grown hbw2 hg1 (fun q hq => by have := own_in HOl2 (.inr hq); omega) hbw2.size; have hz4 := hg1.size; simp at hz4; have HO4 := HO3.mono (G := fun q => w.heap.size + 1 ≤ q) (fun q hq => by rcases hq with hq | hq; exact hq; simp at hq; omega)))
        go_roundw
        case rel => exact ⟨j + 1, by omega, by go_num, by rw [HL2.out]; exact HO4, hb3, by omega⟩
        case measure => simp [intOf]; omega
    · obtain rfl : j = p.code.length := by omega
      rw [List.take_length] at HOl
      change Ow _ _ _ _ _ _ (ownS p) at HOl
      go_wp2
      go_ret
      exact ⟨_, rfl, HOl.mono (fun q hq => by omega), hbw⟩
end Go.Proofs.Ytnfaibenekninaa.L

set_option linter.unusedVariables false
set_option linter.unusedSimpArgs false
namespace Go.Proofs.Ytnfaibenekninaa.L
open Go.RowKit
structure HeadS (s : Sa) (M : Nat) (I O : List (List Int)) (gk : Nat) : Prop where
  iv : SInv s I O
  ms : M + 1 - (cntI I + cntI O) ≤ gk
structure RoundS (s : Sa) (c0 : Nat) (I O : List (List Int)) (k : Nat) (ch : Bool) : Prop where
  iv : SInv s I O
  st : ch = false → ∀ q, q < k → StillL s I O q
  le : c0 ≤ cntI I + cntI O
  lt : ch = true → c0 < cntI I + cntI O
/-- A list that is put together, value by value. -/
structure PutT (T b0 : List Int) : Prop where
  step : ∀ (vals R : List Int) (v : Int), vals ++ v :: R = T → (vals.foldl putL b0).length ≤ 1048576 ∧ (vals ++ [v]) ++ R = T ∧ (vals ++ [v]).foldl putL b0 = putL (vals.foldl putL b0) v
theorem putT_of {T b0 : List Int} {V : Int} (hV0 : 0 ≤ V) (hV : V ≤ 250) (hT : ∀ v ∈ T, 0 ≤ v ∧ v < V) (hi : Inc b0) (hb : ∀ v ∈ b0, 0 ≤ v ∧ v < V) : PutT T b0 :=
  ⟨fun vals R v h => ⟨by
    have := (Inc.foldl (l := vals) hi).length_le hV0 (fun u hu => by
      rcases mem_foldl_putL.1 hu with hu | hu
      · exact hT u (by rw [← h]; exact List.mem_append.2 (.inl hu))
      · exact hb u hu)
    omega, by rw [← h]; simp, by rw [List.foldl_append]; rfl⟩⟩
theorem infoIntS : (Try.prog.info? 25).map (fun i => (i.zero, i.size, i.bytes)) = some (some (.slice none 0 0), 1, 24) := by kernel_rfl
theorem rd_ints_row {n c g : Nat} {F : Nat → Prop} {w : World} {L : List (List Int)} (h : Ow false 25 (Rp.sl Rp.int) w F (.slice (some ⟨g, 0, none⟩) n c) L) {k : Nat} (hk : k < L.length) :
    ∃ A c', w.cell? ⟨g, k, none⟩ = some (.slice A (L.getD k []).length c') ∧ w.frozen? ⟨g, k, none⟩ = false ∧ Rp.Rd Rp.int w (fun q => F q ∧ q ≠ g) (.slice A (L.getD k []).length c') (L.getD k []) := by
  obtain ⟨u, hu, hf, hr⟩ := h.sl_at hk
  have e : L.getD k [] = L[k] := by rw [List.getD_eq_getElem?_getD, List.getElem?_eq_getElem hk]; rfl
  rw [e]
  obtain ⟨A, c', rfl, _⟩ := id hr
  exact ⟨A, c', hu, hf, hr⟩
set_option maxRecDepth 100000 in
set_option maxHeartbeats 16000000 in
theorem l10Live_calls {F : Nat → Prop} (s : Sa) (vparts : Value) (w : World) (hs : Rp.Rd part w F vparts s.parts) (hg : GoodP s) (hx2 : ∀ p ∈ s.parts, PtLim p) :
    Calls Try.prog 159 #[saV s vparts] w fun e w' => ∃ vI vO, e = .returned (.tuple #[vI, vO]) ∧ Rp.Rd (Rp.sl Rp.int) w' (fun q => w.heap.size ≤ q) vI (liveIL s) ∧ Rp.Rd (Rp.sl Rp.int) w' (fun q => w.heap.size ≤ q) vO (liveOL s) ∧ Below w.heap.size w w' := by
  replace hs := hs.bound
  have HGP := Lib.hid hg
  have hv1 := hg.v1
  have hv2 := hg.v2
  have hn1 := hg.n1
  have hn2 := hg.n2
  obtain ⟨A, c, rfl, _, _, hrow⟩ := rd_part hs
  rcases hrow with hnil | ⟨b, o, rfl, hbl, hcell⟩
  · rw [hnil] at hn1; simp at hn1
  have HE := Lib.hid (fun (p : Pt) v1 v2 v3 v4 W G (h1 : Rp.Rd Rp.int W G v1 p.params) (h2 : Rp.Rd flat W G v2 p.code) (h3 : Rp.Rd Rp.int W G v3 p.next) (h4 : Rp.Rd (Rp.sl Rp.int) W G v4 p.args) hl => l9Ends_calls p v1 v2 v3 v4 W h1 h2 h3 h4 hl)
  have HW := Lib.hid (fun (p : Pt) v1 v2 v3 v4 W G1 G2 (h1 : Rp.Rd Rp.int W G1 v1 p.params) (h2 : Rp.Rd flat W G2 v2 p.code) h3 h4 hl1 hl2 => l10Own_calls p v1 v2 v3 v4 W h1 h2 h3 h4 hl1 hl2)
  have HU := Lib.hid (fun x W => l9Uses_calls x W)
  have HHas := Lib.hid (fun v l n W G (h : Rp.Rd Rp.int W G v l) => l1Has_calls v l n W h)
  unfold saV ptV flV at *
  have HC := Lib.hid hcell
  have HS0 := Lib.hid (sinv0 s)
  clear hcell hs
  have hB0 : Below w.heap.size w (w.alloc (.cells #[.slice (some ⟨b, o, none⟩) s.parts.length c, .int .i64 s.values] 31)) := below_new _
  have b0 := heap_alloc_new w (.cells #[.slice (some ⟨b, o, none⟩) s.parts.length c, .int .i64 s.values] 31)
  have hmk := mk_all Try.underlying67 infoIntS s.parts.length (by omega) (by omega)
  go_enter Try.func159, Try.ntmps159
  go_wp2_with fail
  obtain ⟨W1, hW1⟩ : ∃ W1, W1 = w.alloc (.cells #[.slice (some ⟨b, o, none⟩) s.parts.length c, .int .i64 s.values] 31) := ⟨_, rfl⟩
  rw [← hW1] at hB0 b0
  have z1 : W1.heap.size = w.heap.size + 1 := by rw [hW1]; simp
  have hOI := ow_alloc1 (e := 25) (n := s.parts.length) (r := Rp.sl Rp.int) (z := .slice none 0 0) (x0 := []) W1 (by omega) rfl (fun w => ⟨_, rfl, Rp.Rd.nil _ _ _⟩)
  obtain ⟨W2, hW2⟩ : ∃ W2, W2 = W1.alloc (.cells (madeCells #[.slice none 0 0] s.parts.length) 25) := ⟨_, rfl⟩
  have hB1 : Below w.heap.size w W2 := by rw [hW2]; exact hB0.alloc hB0.size _
  have b1 := blk_alloc b0 (.cells (madeCells #[.slice none 0 0] s.parts.length) 25)
  rw [← hW2] at hOI b1
  have z2 : W2.heap.size = w.heap.size + 2 := by rw [hW2]; simp; omega
  have hOO := ow_alloc1 (e := 25) (n := s.parts.length) (r := Rp.sl Rp.int) (z := .slice none 0 0) (x0 := []) W2 (by omega) rfl (fun w => ⟨_, rfl, Rp.Rd.nil _ _ _⟩)
  obtain ⟨W3, hW3⟩ : ∃ W3, W3 = W2.alloc (.cells (madeCells #[.slice none 0 0] s.parts.length) 25) := ⟨_, rfl⟩
  have hB2 : Below w.heap.size w W3 := by rw [hW3]; exact hB1.alloc hB1.size _
  have b2 := blk_alloc b1 (.cells (madeCells #[.slice none 0 0] s.parts.length) 25)
  have hOI2 := hOI.bound.below (below_new (w := W2) (.cells (madeCells #[.slice none 0 0] s.parts.length) 25))
  rw [← hW3] at hOO b2 hOI2
  rw [z1] at hOI hOI2
  rw [z2] at hOO hOI2
  have hOI3 := (hOI2.loose).mono (G := fun q => w.heap.size ≤ q ∧ q ≠ w.heap.size + 2) (fun q hq => by omega)
  have hOO3 := (hOO.loose).mono (G := fun q => w.heap.size ≤ q ∧ q ≠ w.heap.size + 1) (fun q hq => by omega)
  have z3 : W3.heap.size = w.heap.size + 3 := by rw [hW3]; simp; omega
  have hZ : w.heap.size + 3 ≤ W3.heap.size := by omega
  have HWW : Hid (W3 = ((w.alloc (.cells #[.slice (some ⟨b, o, none⟩) s.parts.length c, .int .i64 s.values] 31)).alloc (.cells (madeCells #[.slice none 0 0] s.parts.length) 25)).alloc (.cells (madeCells #[.slice none 0 0] s.parts.length) 25)) := Lib.hid (by rw [hW3, hW2, hW1])
  clear hOI hOI2 hOO hB0 hB1 b0 b1 hW1 hW2 hW3 z1 z2 z3
  obtain ⟨gk0, hgk0⟩ : ∃ gk0, gk0 = 2 * (s.parts.length * s.values.toNat) + 1 := ⟨_, rfl⟩
  have hgk1 : gk0 ≤ 100000 := by have := Nat.mul_le_mul hn2 (show s.values.toNat ≤ 250 by omega); omega
  have HH0 : Hid (HeadS s (2 * (s.parts.length * s.values.toNat)) (List.replicate s.parts.length []) (List.replicate s.parts.length []) gk0) := Lib.hid ⟨HS0.out, by omega⟩
  clear HS0 hgk0 hmk
  generalize List.replicate s.parts.length ([] : List Int) = I0 at *
  rw [← HWW.out]
  clear HWW
  go_loopg [6] gk0 (fun gk cv wr => ∃ (I O : List (List Int)), Ow false 25 (Rp.sl Rp.int) wr (fun q => w.heap.size ≤ q ∧ q ≠ w.heap.size + 2) (.slice (some ⟨w.heap.size + 1, 0, none⟩) s.parts.length s.parts.length) I ∧ Ow false 25 (Rp.sl Rp.int) wr (fun q => w.heap.size ≤ q ∧ q ≠ w.heap.size + 1) (.slice (some ⟨w.heap.size + 2, 0, none⟩) s.parts.length s.parts.length) O ∧ Below w.heap.size w wr ∧ wr.heap[w.heap.size]? = some (.cells #[.slice (some ⟨b, o, none⟩) s.parts.length c, .int .i64 s.values] 31 (0, 0)) ∧ w.heap.size + 3 ≤ wr.heap.size ∧ gk ≤ 100000 ∧ Hid (HeadS s (2 * (s.parts.length * s.values.toNat)) I O gk))
  case atStart => exact ⟨I0, I0, hOI3, hOO3, hB2, b2, hZ, hgk1, HH0⟩
  case round =>
    clear hOI3 hOO3 hB2 b2 hZ hgk1 HH0
    obtain ⟨I, O, hOI, hOO, HB, b1, hZ, hgk, HH⟩ := hrel
    rename World => wo
    obtain ⟨x1, _⟩ := cell_of_block b1
    have x10 : wo.cell? ⟨w.heap.size, 0, none⟩ = some (.slice (some ⟨b, o, none⟩) s.parts.length c) := (x1 0).trans rfl
    clear x1
    obtain ⟨cx, hcx⟩ : ∃ cx, cx = cntI I + cntI O := ⟨_, rfl⟩
    have HM : Hid (2 * (s.parts.length * s.values.toNat) + 1 - cx ≤ gk) := Lib.hid (by rw [hcx]; exact HH.out.ms)
    have HR0 : Hid (RoundS s cx I O 0 false) := Lib.hid ⟨HH.out.iv, fun _ q hq => by omega, by omega, fun h => Bool.noConfusion h⟩
    clear HH hcx
    go_wp2_with fail
    clear x10
    go_loopw [6, 36] (fun cv i wr => ∃ (k : Nat) (ch : Bool) (I O : List (List Int)), k ≤ s.parts.length ∧ cv = .bool ch ∧ i = .int .i64 k ∧ Ow false 25 (Rp.sl Rp.int) wr (fun q => w.heap.size ≤ q ∧ q ≠ w.heap.size + 2) (.slice (some ⟨w.heap.size + 1, 0, none⟩) s.parts.length s.parts.length) I ∧ Ow false 25 (Rp.sl Rp.int) wr (fun q => w.heap.size ≤ q ∧ q ≠ w.heap.size + 1) (.slice (some ⟨w.heap.size + 2, 0, none⟩) s.parts.length s.parts.length) O ∧ Below w.heap.size w wr ∧ wr.heap[w.heap.size]? = some (.cells #[.slice (some ⟨b, o, none⟩) s.parts.length c, .int .i64 s.values] 31 (0, 0)) ∧ w.heap.size + 3 ≤ wr.heap.size ∧ Hid (RoundS s cx I O k ch)) (fun _ i _ => s.parts.length - (intOf i).toNat)
    case atStart => exact ⟨0, false, I, O, Nat.zero_le _, rfl, rfl, hOI, hOO, HB, b1, hZ, HR0⟩
    case round =>
      clear hOI hOO HB b1 hZ HR0
      obtain ⟨k, ch, I, O, hk, rfl, rfl, hOI, hOO, HB, b1, hZ, HR⟩ := hrel
      rename World => wo
      by_cases hkt : k < s.parts.length
      · obtain ⟨_, _, _, _, hp, h1, h2, h3, h4⟩ := HC.out k hkt
        obtain ⟨A1, c1, rfl, _⟩ := id h1
        obtain ⟨A2, c2, rfl, _⟩ := id h2
        obtain ⟨A3, c3, rfl, _, _, hr3⟩ := rd_int h3
        obtain ⟨A4, c4, rfl, _⟩ := id h4
        obtain ⟨_, _, _, _, _, hr2⟩ := rd_flat h2
        have hsp : s.parts[k]? = some s.parts[k] := List.getElem?_eq_getElem hkt
        have hmem := List.getElem_mem hkt
        have hlp := hx2 _ hmem
        have hl1 := hlp.1
        have hl2 := hlp.2.1
        have hl3 := hlp.2.2.1
        have hV0 : 0 ≤ s.values := by omega
        have HT1 : Hid (PutT (bhT I s.parts[k]) []) := Lib.hid (putT_of hV0 hv2 (fun v hv => by
          unfold bhT at hv
          rcases List.mem_append.1 hv with hv | hv
          · exact HGP.out.use_in hsp (.inl hv)
          · obtain ⟨x, hx, hv⟩ := List.mem_flatMap.1 hv
            exact (HR.out.iv.si _ _ hv).range HGP.out) Inc.nil (fun v hv => by cases hv))
        have HT2 : Hid (PutT (s.parts[k].code.flatMap usesS) (bhL I s.parts[k])) := Lib.hid (putT_of hV0 hv2 (fun v hv => HGP.out.use_in hsp (.inr hv)) (inc_bhL _ _) (fun v hv => by
          rcases mem_bhL.1 hv with hv | ⟨x, hx, hv⟩
          · exact HGP.out.use_in hsp (.inl hv)
          · exact (HR.out.iv.si _ _ hv).range HGP.out))
        have HTurn := Lib.hid (HR.out.iv.turn hsp).1
        have HStill := Lib.hid (fun e1 e2 hs => stillL_turn HR.out.iv hsp e1 e2 hs)
        have HCnt := Lib.hid (cntI_turn HR.out.iv hsp)
        have HNx := Lib.hid (HGP.out.nx _ hmem)
        have HLen : Hid ((alL s.parts[k] (bhL I s.parts[k])).length ≤ 1048576 ∧ (ahL I s.parts[k]).length ≤ 1048576) := Lib.hid (by
          have hr : ∀ v ∈ alL s.parts[k] (bhL I s.parts[k]), 0 ≤ v ∧ v < s.values := fun v hv => by
            rcases mem_alL.1 hv with hv | hv
            · rcases mem_bhL.1 hv with hv | ⟨x, hx, hv⟩
              · exact HGP.out.use_in hsp (.inl hv)
              · exact (HR.out.iv.si _ _ hv).range HGP.out
            · exact HGP.out.use_in hsp (.inr hv)
          have hi : Inc (alL s.parts[k] (bhL I s.parts[k])) := Inc.foldl (inc_bhL _ _)
          have h1 := hi.length_le hV0 hr
          have h2 : (ahL I s.parts[k]).length ≤ (alL s.parts[k] (bhL I s.parts[k])).length := List.length_filter_le _ _
          omega)
        have hlI : I.length = s.parts.length := HR.out.iv.li
        have hlO : O.length = s.parts.length := HR.out.iv.lo
        have hel : (endsS s.parts[k]).length ≤ 100000000 := by
          have e1 := flat_le 1048576 s.parts[k].args hlp.2.2.2.2
          have e2 := args_len (HGP.out.static hmem)
          have e3 : (if s.parts[k].go == 2 || s.parts[k].go == 5 then [s.parts[k].test] else []).length ≤ 1 := by split <;> simp
          have e4 : s.parts[k].args.length * 1048576 ≤ 6 * 1048576 := Nat.mul_le_mul_right _ e2
          unfold endsS
          rw [List.length_append]; omega
        have hp2 := partAt_below hp HB
        have hlp2 := Lib.hid hlp
        clear hsp hmem hp hlp
        generalize s.parts[k] = p at *
        obtain ⟨q0, q1, q2, q3, q4, q5⟩ := hp2
        obtain ⟨x1, _⟩ := cell_of_block b1
        have x10 : wo.cell? ⟨w.heap.size, 0, none⟩ = some (.slice (some ⟨b, o, none⟩) s.parts.length c) := (x1 0).trans rfl
        have HE1 := Lib.hid (fun W (hW : Below w.heap.size w W) => HE.out p _ _ _ _ W _ (h1.below hW) (h2.below hW) (h3.below hW) (h4.below hW) hlp2.out)
        have HW1 := Lib.hid (fun W (hW : Below w.heap.size w W) => HW.out p _ _ _ _ W _ _ (h1.below hW) (h2.below hW) ⟨A3, c3, rfl⟩ ⟨A4, c4, rfl⟩ hl1 hl2)
        clear x1 h1 h2 h3 h4
        have hb0 := below_new (w := wo) (.cells #[.slice A1 p.params.length c1, .slice A2 p.code.length c2, .int .i64 p.go, .int .i64 p.test, .slice A3 p.next.length c3, .slice A4 p.args.length c4] 145)
        have p0 := heap_alloc_new wo (.cells #[.slice A1 p.params.length c1, .slice A2 p.code.length c2, .int .i64 p.go, .int .i64 p.test, .slice A3 p.next.length c3, .slice A4 p.args.length c4] 145)
        have hsz : (wo.alloc (.cells #[.slice A1 p.params.length c1, .slice A2 p.code.length c2, .int .i64 p.go, .int .i64 p.test, .slice A3 p.next.length c3, .slice A4 p.args.length c4] 145)).heap.size = wo.heap.size + 1 := by simp
        have m0 : (0 : Int) ≤ (k : Int) := Int.natCast_nonneg _
        have m1 : (k : Int) < (s.parts.length : Int) := by omega
        obtain ⟨y1, _⟩ := cell_of_block p0
        have y10 : (wo.alloc (.cells #[.slice A1 p.params.length c1, .slice A2 p.code.length c2, .int .i64 p.go, .int .i64 p.test, .slice A3 p.next.length c3, .slice A4 p.args.length c4] 145)).cell? ⟨wo.heap.size, 0, none⟩ = some (.slice A1 p.params.length c1) := (y1 0).trans rfl
        have y11 : (wo.alloc (.cells #[.slice A1 p.params.length c1, .slice A2 p.code.length c2, .int .i64 p.go, .int .i64 p.test, .slice A3 p.next.length c3, .slice A4 p.args.length c4] 145)).cell? ⟨wo.heap.size, 1, none⟩ = some (.slice A2 p.code.length c2) := (y1 1).trans rfl
        have y12 : (wo.alloc (.cells #[.slice A1 p.params.length c1, .slice A2 p.code.length c2, .int .i64 p.go, .int .i64 p.test, .slice A3 p.next.length c3, .slice A4 p.args.length c4] 145)).cell? ⟨wo.heap.size, 2, none⟩ = some (.int .i64 p.go) := (y1 2).trans rfl
        have y13 : (wo.alloc (.cells #[.slice A1 p.params.length c1, .slice A2 p.code.length c2, .int .i64 p.go, .int .i64 p.test, .slice A3 p.next.length c3, .slice A4 p.args.length c4] 145)).cell? ⟨wo.heap.size, 3, none⟩ = some (.int .i64 p.test) := (y1 3).trans rfl
        have y14 : (wo.alloc (.cells #[.slice A1 p.params.length c1, .slice A2 p.code.length c2, .int .i64 p.go, .int .i64 p.test, .slice A3 p.next.length c3, .slice A4 p.args.length c4] 145)).cell? ⟨wo.heap.size, 4, none⟩ = some (.slice A3 p.next.length c3) := (y1 4).trans rfl
        have y15 : (wo.alloc (.cells #[.slice A1 p.params.length c1, .slice A2 p.code.length c2, .int .i64 p.go, .int .i64 p.test, .slice A3 p.next.length c3, .slice A4 p.args.length c4] 145)).cell? ⟨wo.heap.size, 5, none⟩ = some (.slice A4 p.args.length c4) := (y1 5).trans rfl
        clear y1
        go_wp2_with fail
        refine (HE1.out _ (HB.alloc HB.size _)).mono ?_
        rintro e w2 ⟨vE, rfl, hvE, hb2⟩
        rw [hsz] at hvE
        have hbw := below_then hb0 hb2
        have p2 := blk_below p0 hb2
        have HT1e : Hid (([] : List Int) ++ (endsS p ++ p.next.flatMap (fun x => I.getD x.toNat [])) = bhT I p) := Lib.hid rfl
        have hvE := hvE.rd
        obtain ⟨ends, hends⟩ : ∃ ends, ends = endsS p := ⟨_, rfl⟩
        rw [← hends] at hvE hel HT1e
        clear hends q0 q1 q2 q3 q4 q5 y10 y11 y12 y13 y14 y15 x10 hb0 hb2 HE1 p0 hsz
        obtain ⟨AE, cE, rfl, _, _, hrE⟩ := rd_int hvE
        have hnil : Rp.Rd Rp.int w2 (fun q => wo.heap.size ≤ q) (.slice none 0 0) (([] : List Int).foldl putL []) := Rp.Rd.nil _ _ _
        go_wp2_with fail
        go_loopw [9, 44] (fun bv i wr => ∃ (j : Nat) (vals : List Int) (bx : Value), bx = bv ∧ j ≤ ends.length ∧ i = .int .i64 j ∧ Rp.Rd Rp.int wr (fun q => wo.heap.size ≤ q) bx (vals.foldl putL []) ∧ Hid (vals ++ (ends.drop j ++ p.next.flatMap (fun x => I.getD x.toNat [])) = bhT I p) ∧ Below w2.heap.size w2 wr) (fun _ i _ => ends.length - (intOf i).toNat)
        case atStart => exact ⟨0, [], _, rfl, Nat.zero_le _, rfl, hnil, HT1e, Below.refl _ _⟩
        case round =>
          clear hnil HT1e
          obtain ⟨j, vals, bx, rfl, hj, rfl, hRb, HV, hbx⟩ := hrel
          rename World => wx
          by_cases hjt : j < ends.length
          · rcases hrE with hn0 | ⟨bE, oE, rfl, hbE, hcE⟩
            · rw [hn0] at hjt; simp at hjt
            have cv := cell_below hbx (hcE j hjt)
            have HVj : Hid (vals ++ (ends[j] :: (ends.drop (j + 1) ++ p.next.flatMap (fun x => I.getD x.toNat []))) = bhT I p) := Lib.hid (by
              have := HV.out
              rw [List.drop_eq_getElem_cons hjt, List.cons_append] at this
              exact this)
            clear hcE HV
            generalize ends[j] = v at *
            have HST := Lib.hid (HT1.out.step _ _ _ HVj.out)
            have j0 : (0 : Int) ≤ (j : Int) := Int.natCast_nonneg _
            have j1 : (j : Int) < (ends.length : Int) := by omega
            have HP := Lib.hid (l1Put_calls bx _ v wx hRb HST.out.1)
            clear hRb
            go_wp2_with fail
            refine HP.out.mono ?_
            rintro e w9 ⟨v9, rfl, hR9, hb9⟩
            have hs9 : wo.heap.size ≤ wx.heap.size := by have := hbw.size; have := hbx.size; omega
            have hR10 := hR9.mono (G := fun q => wo.heap.size ≤ q) (fun q hq => by rcases hq with hq | hq; exact hq; omega)
            have hbx2 := below_then hbx hb9
            have HV2 := Lib.hid HST.out.2.1
            have HF2 := Lib.hid HST.out.2.2
            clear HP hR9 hb9 cv hbx HST HVj
            go_wp2
            go_roundw
            case rel => exact ⟨j + 1, vals ++ [v], v9, rfl, by omega, by go_num, by rw [HF2.out]; exact hR10, HV2, hbx2⟩
            case measure => simp [intOf]; omega
          · obtain rfl : j = ends.length := by omega
            have HV0 : Hid (vals ++ p.next.flatMap (fun x => I.getD x.toNat []) = bhT I p) := Lib.hid (by have := HV.out; rw [List.drop_length, List.nil_append] at this; exact this)
            have hbw2 := below_then hbw hbx
            have p3 := blk_below p2 hbx
            clear HV hbw hbx p2 hrE hvE hel hjt hj
            obtain ⟨y1, _⟩ := cell_of_block p3
            have y14 : wx.cell? ⟨wo.heap.size, 4, none⟩ = some (.slice A3 p.next.length c3) := (y1 4).trans rfl
            clear y1
            go_wp2_with fail
            clear y14
            go_loopw [9, 55] (fun bv i wr => ∃ (j : Nat) (vals : List Int) (bx : Value), bx = bv ∧ j ≤ p.next.length ∧ i = .int .i64 j ∧ Rp.Rd Rp.int wr (fun q => wo.heap.size ≤ q) bx (vals.foldl putL []) ∧ Hid (vals ++ (p.next.drop j).flatMap (fun x => I.getD x.toNat []) = bhT I p) ∧ Below wo.heap.size wo wr ∧ wr.heap[wo.heap.size]? = some (.cells #[.slice A1 p.params.length c1, .slice A2 p.code.length c2, .int .i64 p.go, .int .i64 p.test, .slice A3 p.next.length c3, .slice A4 p.args.length c4] 145 (0, 0))) (fun _ i _ => p.next.length - (intOf i).toNat)
            case atStart => exact ⟨0, vals, bx, rfl, Nat.zero_le _, rfl, hRb, HV0, hbw2, p3⟩
            case round =>
              clear hRb HV0 hbw2 p3
              obtain ⟨j, vals, bx, rfl, hj, rfl, hRb, HV, hbx, p3⟩ := hrel
              rename World => wx
              by_cases hjt : j < p.next.length
              · rcases hr3 with hn0 | ⟨b3, o3, rfl, hb3, hc3⟩
                · rw [hn0] at hjt; simp at hjt
                have cv := cell_below (below_then HB hbx) (hc3 j hjt)
                have hxr := HNx.out _ (List.getElem_mem hjt)
                have HVj : Hid (vals ++ (I.getD p.next[j].toNat [] ++ (p.next.drop (j + 1)).flatMap (fun x => I.getD x.toNat [])) = bhT I p) := Lib.hid (by
                  have := HV.out
                  rw [List.drop_eq_getElem_cons hjt, List.flatMap_cons] at this
                  exact this)
                clear hc3 HV
                generalize p.next[j] = x at *
                obtain ⟨n, rfl⟩ := Int.eq_ofNat_of_zero_le (Int.le_of_lt hxr.1)
                rw [Int.toNat_natCast] at HVj
                have hnt : n < I.length := by omega
                have hl0 := HR.out.iv.len_le HGP.out n
                obtain ⟨AI, cI, cu, -, hRI⟩ := rd_ints_row (hOI.below hbx) hnt
                obtain ⟨rw', hrw⟩ : ∃ r, r = I.getD n [] := ⟨_, rfl⟩
                rw [← hrw] at cu hRI HVj hl0
                clear hrw
                obtain ⟨_, _, hAe, _, _, hrI⟩ := rd_int hRI
                cases hAe
                have j0 : (0 : Int) ≤ (j : Int) := Int.natCast_nonneg _
                have j1 : (j : Int) < (p.next.length : Int) := by omega
                have n0 : (0 : Int) ≤ (n : Int) := Int.natCast_nonneg _
                have n1 : (n : Int) < (s.parts.length : Int) := by omega
                have hl0 : rw'.length ≤ 250 := by omega
                have HTl : Hid (p.next.drop (j + 1) = p.next.drop (j + 1)) := Lib.hid rfl
                obtain ⟨TL, hTL⟩ : ∃ TL, TL = (p.next.drop (j + 1)).flatMap (fun x => I.getD x.toNat []) := ⟨_, rfl⟩
                rw [← hTL] at HVj
                replace hTL := Lib.hid hTL
                clear HTl
                go_wp2_with fail
                clear cv cu
                go_loopw [9, 64] (fun bv i wr => ∃ (m : Nat) (vals : List Int) (bx : Value), bx = bv ∧ m ≤ rw'.length ∧ i = .int .i64 m ∧ Rp.Rd Rp.int wr (fun q => wo.heap.size ≤ q) bx (vals.foldl putL []) ∧ Hid (vals ++ (rw'.drop m ++ TL) = bhT I p) ∧ Below wx.heap.size wx wr) (fun _ i _ => rw'.length - (intOf i).toNat)
                case atStart => exact ⟨0, vals, bx, rfl, Nat.zero_le _, rfl, hRb, HVj, Below.refl _ _⟩
                case round =>
                  clear hRb HVj
                  obtain ⟨m, vals, bx, rfl, hm, rfl, hRb, HV, hby⟩ := hrel
                  rename World => wy
                  by_cases hmt : m < rw'.length
                  · rcases hrI with hn0 | ⟨bI, oI, rfl, hbI, hcI⟩
                    · rw [hn0] at hmt; simp at hmt
                    have cv := cell_below hby (hcI m hmt)
                    have HVj : Hid (vals ++ (rw'[m] :: (rw'.drop (m + 1) ++ TL)) = bhT I p) := Lib.hid (by
                      have := HV.out
                      rw [List.drop_eq_getElem_cons hmt, List.cons_append] at this
                      exact this)
                    clear hcI HV
                    generalize rw'[m] = v at *
                    have HST := Lib.hid (HT1.out.step _ _ _ HVj.out)
                    have e0 : (0 : Int) ≤ (m : Int) := Int.natCast_nonneg _
                    have e1 : (m : Int) < (rw'.length : Int) := by omega
                    have HP := Lib.hid (l1Put_calls bx _ v wy hRb HST.out.1)
                    clear hRb
                    go_wp2_with fail
                    refine HP.out.mono ?_
                    rintro e w9 ⟨v9, rfl, hR9, hb9⟩
                    have hs9 : wo.heap.size ≤ wy.heap.size := by have := hbx.size; have := hby.size; omega
                    have hR10 := hR9.mono (G := fun q => wo.heap.size ≤ q) (fun q hq => by rcases hq with hq | hq; exact hq; omega)
                    have hby2 := below_then hby hb9
                    have HV2 := Lib.hid HST.out.2.1
                    have HF2 := Lib.hid HST.out.2.2
                    clear HP hR9 hb9 cv hby HST HVj
                    go_wp2
                    go_roundw
                    case rel => exact ⟨m + 1, vals ++ [v], v9, rfl, by omega, by go_num, by rw [HF2.out]; exact hR10, HV2, hby2⟩
                    case measure => simp [intOf]; omega
                  · obtain rfl : m = rw'.length := by omega
                    have HV0 : Hid (vals ++ (p.next.drop (j + 1)).flatMap (fun x => I.getD x.toNat []) = bhT I p) := Lib.hid (by have := HV.out; rw [List.drop_length, List.nil_append, hTL.out] at this; exact this)
                    have hbx2 := below_then hbx hby
                    have p4 := blk_below p3 hby
                    go_wp2
                    go_roundw
                    case rel => exact ⟨j + 1, vals, bx, rfl, by omega, by go_num, hRb, HV0, hbx2, p4⟩
                    case measure => simp [intOf]; omega
              · obtain rfl : j = p.next.length := by omega
                have HBH : Hid (vals.foldl putL [] = bhL I p) := Lib.hid (by have := HV.out; rw [List.drop_length, List.flatMap_nil, List.append_nil] at this; unfold bhL; rw [← this])
                rw [HBH.out] at hRb
                clear HV HBH hjt hj HT1
                obtain ⟨y1, _⟩ := cell_of_block p3
                have y11 : wx.cell? ⟨wo.heap.size, 1, none⟩ = some (.slice A2 p.code.length c2) := (y1 1).trans rfl
                clear y1
                have HV0 : Hid (([] : List Int) ++ (p.code.drop 0).flatMap usesS = p.code.flatMap usesS) := Lib.hid rfl
                have hR0 : Rp.Rd Rp.int wx (fun q => wo.heap.size ≤ q) bx (([] : List Int).foldl putL (bhL I p)) := hRb
                have hbl1 : Hid (bhL I p = bhL I p) := Lib.hid rfl
                go_wp2_with fail
                clear y11 hbl1
                go_loopw [16, 77] (fun av i wr => ∃ (j : Nat) (vals : List Int) (ax : Value), ax = av ∧ j ≤ p.code.length ∧ i = .int .i64 j ∧ Rp.Rd Rp.int wr (fun q => wo.heap.size ≤ q) ax (vals.foldl putL (bhL I p)) ∧ Hid (vals ++ (p.code.drop j).flatMap usesS = p.code.flatMap usesS) ∧ Below wx.heap.size wx wr) (fun _ i _ => p.code.length - (intOf i).toNat)
                case atStart => exact ⟨0, [], bx, rfl, Nat.zero_le _, rfl, hR0, HV0, Below.refl _ _⟩
                case round =>
                  clear hR0 HV0
                  obtain ⟨j, vals, ax, rfl, hj, rfl, hRa, HV, hby⟩ := hrel
                  rename World => wy
                  by_cases hjt : j < p.code.length
                  · rcases hr2 with hn0 | ⟨b2, o2, rfl, hb2, hc2⟩
                    · rw [hn0] at hjt; simp at hjt
                    obtain ⟨e0, e1, e2, e3, e4, e5⟩ := (hc2 j hjt).below (below_then HB (below_then hbx hby))
                    have HVj : Hid (vals ++ (usesS p.code[j] ++ (p.code.drop (j + 1)).flatMap usesS) = p.code.flatMap usesS) := Lib.hid (by
                      have := HV.out
                      rw [List.drop_eq_getElem_cons hjt, List.flatMap_cons] at this
                      exact this)
                    clear hc2 HV
                    generalize p.code[j] = x at *
                    have hbn := below_new (w := wy) (.cells #[.int .i64 x.op, .int .i64 x.dO, .int .i64 x.dst, .int .i64 x.a, .int .i64 x.b, .int .i64 x.n] 108)
                    have hby1 := below_then hby hbn
                    have hRa1 := hRa.below hbn
                    have hx0 := heap_alloc_new wy (.cells #[.int .i64 x.op, .int .i64 x.dO, .int .i64 x.dst, .int .i64 x.a, .int .i64 x.b, .int .i64 x.n] 108)
                    obtain ⟨y1, _⟩ := cell_of_block hx0
                    have y10 : (wy.alloc (.cells #[.int .i64 x.op, .int .i64 x.dO, .int .i64 x.dst, .int .i64 x.a, .int .i64 x.b, .int .i64 x.n] 108)).cell? ⟨wy.heap.size, 0, none⟩ = some (.int .i64 x.op) := (y1 0).trans rfl
                    have y11 : (wy.alloc (.cells #[.int .i64 x.op, .int .i64 x.dO, .int .i64 x.dst, .int .i64 x.a, .int .i64 x.b, .int .i64 x.n] 108)).cell? ⟨wy.heap.size, 1, none⟩ = some (.int .i64 x.dO) := (y1 1).trans rfl
                    have y12 : (wy.alloc (.cells #[.int .i64 x.op, .int .i64 x.dO, .int .i64 x.dst, .int .i64 x.a, .int .i64 x.b, .int .i64 x.n] 108)).cell? ⟨wy.heap.size, 2, none⟩ = some (.int .i64 x.dst) := (y1 2).trans rfl
                    have y13 : (wy.alloc (.cells #[.int .i64 x.op, .int .i64 x.dO, .int .i64 x.dst, .int .i64 x.a, .int .i64 x.b, .int .i64 x.n] 108)).cell? ⟨wy.heap.size, 3, none⟩ = some (.int .i64 x.a) := (y1 3).trans rfl
                    have y14 : (wy.alloc (.cells #[.int .i64 x.op, .int .i64 x.dO, .int .i64 x.dst, .int .i64 x.a, .int .i64 x.b, .int .i64 x.n] 108)).cell? ⟨wy.heap.size, 4, none⟩ = some (.int .i64 x.b) := (y1 4).trans rfl
                    have y15 : (wy.alloc (.cells #[.int .i64 x.op, .int .i64 x.dO, .int .i64 x.dst, .int .i64 x.a, .int .i64 x.b, .int .i64 x.n] 108)).cell? ⟨wy.heap.size, 5, none⟩ = some (.int .i64 x.n) := (y1 5).trans rfl
                    have n0 : (0 : Int) ≤ (j : Int) := Int.natCast_nonneg _
                    have n1 : (j : Int) < (p.code.length : Int) := by omega
                    have HU1 := Lib.hid (HU.out x (wy.alloc (.cells #[.int .i64 x.op, .int .i64 x.dO, .int .i64 x.dst, .int .i64 x.a, .int .i64 x.b, .int .i64 x.n] 108)))
                    have hul : (usesS x).length ≤ 2 := by
                      unfold usesS
                      split
                      · simp
                      · split <;> simp
                    clear y1 hx0 hbn hRa hby
                    go_wp2_with fail
                    refine HU1.out.mono ?_
                    rintro e w8 ⟨v8, rfl, hv8, hb8⟩
                    have hby3 := below_then hby1 hb8
                    have hRa3 := hRa1.below hb8
                    have hv8 := hv8.rd
                    clear HU1 y10 y11 y12 y13 y14 y15 e0 e1 e2 e3 e4 e5 hby1 hRa1 hb8
                    generalize usesS x = us at *
                    obtain ⟨A8, c8, rfl, _, _, hr8⟩ := rd_int hv8
                    obtain ⟨TL, hTL⟩ : ∃ TL, TL = (p.code.drop (j + 1)).flatMap usesS := ⟨_, rfl⟩
                    rw [← hTL] at HVj
                    replace hTL := Lib.hid hTL
                    go_wp2_with fail
                    go_loopw [16, 84] (fun av i wr => ∃ (m : Nat) (vals : List Int) (ax : Value), ax = av ∧ m ≤ us.length ∧ i = .int .i64 m ∧ Rp.Rd Rp.int wr (fun q => wo.heap.size ≤ q) ax (vals.foldl putL (bhL I p)) ∧ Hid (vals ++ (us.drop m ++ TL) = p.code.flatMap usesS) ∧ Below w8.heap.size w8 wr) (fun _ i _ => us.length - (intOf i).toNat)
                    case atStart => exact ⟨0, vals, ax, rfl, Nat.zero_le _, rfl, hRa3, HVj, Below.refl _ _⟩
                    case round =>
                      clear hRa3 HVj
                      obtain ⟨m, vals, ax, rfl, hm, rfl, hRb2, HV, hbz⟩ := hrel
                      rename World => wz
                      by_cases hmt : m < us.length
                      · rcases hr8 with hn0 | ⟨b8, o8, rfl, hb8, hc8⟩
                        · rw [hn0] at hmt; simp at hmt
                        have cv := cell_below hbz (hc8 m hmt)
                        have HVj : Hid (vals ++ (us[m] :: (us.drop (m + 1) ++ TL)) = p.code.flatMap usesS) := Lib.hid (by
                          have := HV.out
                          rw [List.drop_eq_getElem_cons hmt, List.cons_append] at this
                          exact this)
                        clear hc8 HV
                        generalize us[m] = v at *
                        have HST := Lib.hid (HT2.out.step _ _ _ HVj.out)
                        have e0 : (0 : Int) ≤ (m : Int) := Int.natCast_nonneg _
                        have e1 : (m : Int) < (us.length : Int) := by omega
                        have HP := Lib.hid (l1Put_calls ax _ v wz hRb2 HST.out.1)
                        clear hRb2
                        go_wp2_with fail
                        refine HP.out.mono ?_
                        rintro e w9 ⟨v9, rfl, hR9, hb9⟩
                        have hs9 : wo.heap.size ≤ wz.heap.size := by have := hbx.size; have := hby3.size; have := hbz.size; omega
                        have hR10 := hR9.mono (G := fun q => wo.heap.size ≤ q) (fun q hq => by rcases hq with hq | hq; exact hq; omega)
                        have hbz2 := below_then hbz hb9
                        have HV2 := Lib.hid HST.out.2.1
                        have HF2 := Lib.hid HST.out.2.2
                        clear HP hR9 hb9 cv hbz HST HVj
                        go_wp2
                        go_roundw
                        case rel => exact ⟨m + 1, vals ++ [v], v9, rfl, by omega, by go_num, by rw [HF2.out]; exact hR10, HV2, hbz2⟩
                        case measure => simp [intOf]; omega
                      · obtain rfl : m = us.length := by omega
                        have HV0 : Hid (vals ++ (p.code.drop (j + 1)).flatMap usesS = p.code.flatMap usesS) := Lib.hid (by have := HV.out; rw [List.drop_length, List.nil_append, hTL.out] at this; exact this)
                        have hby4 := below_then hby3 hbz
                        go_wp2
                        go_roundw
                        case rel => exact ⟨j + 1, vals, ax, rfl, by omega, by go_num, hRb2, HV0, hby4⟩
                        case measure => simp [intOf]; omega
                  · obtain rfl : j = p.code.length := by omega
                    have HAL : Hid (vals.foldl putL (bhL I p) = alL p (bhL I p)) := Lib.hid (by have := HV.out; rw [List.drop_length, List.flatMap_nil, List.append_nil] at this; unfold alL; rw [← this])
                    rw [HAL.out] at hRa
                    have hRb2 := hRb.below hby
                    have hbx2 := below_then hbx hby
                    have p4 := blk_below p3 hby
                    clear HV HAL hjt hj HT2 hRb p3 hbx hby hr2
                    have HAH : Hid (ahL I p = (alL p (bhL I p)).filter (fun v => !(ownS p).contains v)) := Lib.hid rfl
                    obtain ⟨al, hal⟩ : ∃ al, al = alL p (bhL I p) := ⟨_, rfl⟩
                    rw [← hal] at hRa HAH HLen
                    clear hal
                    obtain ⟨bh, hbh⟩ : ∃ bh, bh = bhL I p := ⟨_, rfl⟩
                    obtain ⟨ah, hah⟩ : ∃ ah, ah = ahL I p := ⟨_, rfl⟩
                    rw [← hbh] at hRb2 HTurn HStill HCnt
                    rw [← hah] at HTurn HStill HCnt HAH HLen
                    clear hbh hah
                    have hll := HLen.out.1
                    obtain ⟨y1, _⟩ := cell_of_block p4
                    have y10 : wy.cell? ⟨wo.heap.size, 0, none⟩ = some (.slice A1 p.params.length c1) := (y1 0).trans rfl
                    have y11 : wy.cell? ⟨wo.heap.size, 1, none⟩ = some (.slice A2 p.code.length c2) := (y1 1).trans rfl
                    have y12 : wy.cell? ⟨wo.heap.size, 2, none⟩ = some (.int .i64 p.go) := (y1 2).trans rfl
                    have y13 : wy.cell? ⟨wo.heap.size, 3, none⟩ = some (.int .i64 p.test) := (y1 3).trans rfl
                    have y14 : wy.cell? ⟨wo.heap.size, 4, none⟩ = some (.slice A3 p.next.length c3) := (y1 4).trans rfl
                    have y15 : wy.cell? ⟨wo.heap.size, 5, none⟩ = some (.slice A4 p.args.length c4) := (y1 5).trans rfl
                    clear y1
                    obtain ⟨Aa, ca, rfl, _, _, hrA⟩ := rd_int hRa
                    obtain ⟨Ab, cb, rfl, _, _, _⟩ := rd_int hRb2
                    go_wp2_with fail
                    refine (HW1.out _ (below_then HB hbx2)).mono ?_
                    rintro e w8 ⟨v8, rfl, hv8, hb8⟩
                    have hv8 := hv8.rd
                    have hbx3 := below_then hbx2 hb8
                    have hRb3 := hRb2.below hb8
                    clear y10 y11 y12 y13 y14 y15 HW1 p4 hRb2 hbx2
                    obtain ⟨A8, c8, hv8e, _⟩ := id hv8
                    subst hv8e
                    obtain ⟨ow, how⟩ : ∃ ow, ow = ownS p := ⟨_, rfl⟩
                    rw [← how] at hv8 HAH
                    have HHs := Lib.hid (fun n W (hW : Below w8.heap.size w8 W) => HHas.out _ ow n W _ (hv8.below hW))
                    rw [← how]
                    clear how
                    have hO0 : Ow true 3 Rp.int w8 (fun q => w8.heap.size ≤ q) (.slice none 0 0) ((al.take 0).filter (fun v => !ow.contains v)) := Ow.nil _ _ _ _ _
                    go_wp2_with fail
                    go_loopw [21, 97] (fun av i wr => ∃ (m : Nat) (ax : Value), ax = av ∧ m ≤ al.length ∧ i = .int .i64 m ∧ Ow true 3 Rp.int wr (fun q => w8.heap.size ≤ q) ax ((al.take m).filter (fun v => !ow.contains v)) ∧ Below w8.heap.size w8 wr) (fun _ i _ => al.length - (intOf i).toNat)
                    case atStart => exact ⟨0, _, rfl, Nat.zero_le _, rfl, hO0, Below.refl _ _⟩
                    case round =>
                      clear hO0
                      obtain ⟨m, ax, rfl, hm, rfl, hO, hbz⟩ := hrel
                      rename World => wz
                      by_cases hmt : m < al.length
                      · rcases hrA with hn0 | ⟨bA, oA, rfl, hbA, hcA⟩
                        · rw [hn0] at hmt; simp at hmt
                        have cv := cell_below (below_then hb8 hbz) (hcA m hmt)
                        have HTk : Hid ((al.take (m + 1)).filter (fun v => !ow.contains v) = (al.take m).filter (fun v => !ow.contains v) ++ (if ow.contains al[m] = true then [] else [al[m]])) := Lib.hid (by
                          rw [List.take_succ_eq_append_getElem hmt, List.filter_append]
                          congr 1
                          rw [List.filter_cons, List.filter_nil]
                          generalize ow.contains al[m] = r
                          cases r <;> rfl)
                        have hle : ((al.take m).filter (fun v => !ow.contains v)).length ≤ 1048576 := by
                          have h1 := List.length_filter_le (fun v => !ow.contains v) (al.take m)
                          rw [List.length_take] at h1
                          omega
                        clear hcA
                        generalize (al.take m).filter (fun v => !ow.contains v) = l1 at *
                        generalize al[m] = v at *
                        have e0 : (0 : Int) ≤ (m : Int) := Int.natCast_nonneg _
                        have e1 : (m : Int) < (al.length : Int) := by omega
                        obtain ⟨Av, kv, rfl, _, _⟩ := hO.form
                        have HH1 := HHs.out v wz hbz
                        generalize ow.contains v = r at *
                        replace HH1 := Lib.hid HH1
                        have hsz9 : wo.heap.size ≤ wz.heap.size := by have := hbx3.size; have := hbz.size; omega
                        cases r
                        · have HT3 : Hid ((al.take (m + 1)).filter (fun v => !ow.contains v) = l1 ++ [v]) := Lib.hid (by rw [HTk.out]; rfl)
                          clear HTk
                          go_wp2_with fail
                          refine HH1.out.mono ?_
                          rintro e w9 ⟨rfl, hb9⟩
                          have hbz9 := below_then hbz hb9
                          have hO9 := hO.below hb9
                          clear hO hb9 hbz
                          go_wp2_with (at_builtin; (refine app_int (by rfl) _ _ (by rfl) (.slice Av l1.length kv) l1 v w9.heap.size rfl (by rfl) (by rfl) hO9 (by omega) ?_; intro A' c' w3 HO3 hg; have HB3 := below_grown (B := w8.heap.size) hbz9 hg (fun q hq => own_in hO9 (.inr hq)) hbz9.size; have HO4 := HO3.mono (G := fun q => w8.heap.size ≤ q) (fun q hq => by have := hbz9.size; rcases hq with hq | hq; exact hq; omega)))
                          go_roundw
                          case rel => exact ⟨m + 1, _, rfl, by omega, by go_num, by rw [HT3.out]; exact HO4, HB3⟩
                          case measure => simp [intOf]; omega
                        · have HT3 : Hid ((al.take (m + 1)).filter (fun v => !ow.contains v) = l1) := Lib.hid (by rw [HTk.out]; simp)
                          clear HTk
                          go_wp2_with fail
                          refine HH1.out.mono ?_
                          rintro e w9 ⟨rfl, hb9⟩
                          have hbz9 := below_then hbz hb9
                          have hO9 := hO.below hb9
                          clear hO hb9 hbz
                          go_wp2
                          go_roundw
                          case rel => exact ⟨m + 1, _, rfl, by omega, by go_num, by rw [HT3.out]; exact hO9, hbz9⟩
                          case measure => simp [intOf]; omega
                      · obtain rfl : m = al.length := by omega
                        rw [List.take_length, ← HAH.out] at hO
                        have hwz := below_then hbx3 hbz
                        have hBz := below_then HB hwz
                        have hsz3 := hbx3.size
                        have hszz := hbz.size
                        have hRbz := hRb3.below hbz
                        have hkI : k < I.length := by omega
                        have hkO : k < O.length := by omega
                        have hOIz := hOI.below hwz
                        have hOOz := hOO.below hwz
                        have b1z := blk_below b1 hwz
                        obtain ⟨Ah, ch2, rfl, _, _⟩ := hO.form
                        obtain ⟨AI, cI, cuI, fuI, -⟩ := rd_ints_row hOIz hkI
                        obtain ⟨AO, cO, cuO, fuO, -⟩ := rd_ints_row hOOz hkO
                        have hC1 := Chg.set (w := wz) (b := w.heap.size + 1) (o := k) (u := .slice Ah ah.length ch2) (A := fun q => q = w.heap.size + 1) rfl
                        have hB1 := hC1.to_below hBz hBz.size (fun q hq => by have hq : q = w.heap.size + 1 := hq; omega)
                        have b1a := hC1.blk b1z (fun h => by have h : w.heap.size = w.heap.size + 1 := h; omega)
                        have cuO1 := hC1.cell cuO (fun h => by have h : w.heap.size + 2 = w.heap.size + 1 := h; omega)
                        have hI1 := (hOIz.putS1 rfl hkI (y := ah) (u := .slice Ah ah.length ch2) (G := fun q => wo.heap.size ≤ q) ⟨_, rfl, hO.rd.mono (fun q hq => by have hq : w8.heap.size ≤ q := hq; omega)⟩ (fun q hq => by have hq : wo.heap.size ≤ q := hq; omega)).mono (G := fun q => w.heap.size ≤ q ∧ q ≠ w.heap.size + 2) (fun q hq => by rcases hq with hq | hq; exact hq; omega)
                        have hO1 := hOOz.set_other (b := w.heap.size + 1) (o := k) (u := .slice Ah ah.length ch2) (fun h => h.2 rfl)
                        have hRb1 := hRbz.set_other (b := w.heap.size + 1) (o := k) (u := .slice Ah ah.length ch2) (fun h => by have h : wo.heap.size ≤ w.heap.size + 1 := h; omega)
                        have fuO1 : (wz.setCell ⟨w.heap.size + 1, k, none⟩ (.slice Ah ah.length ch2)).frozen? ⟨w.heap.size + 2, k, none⟩ = false := (World.frozen?_setCell ..).trans fuO
                        have hZ1 : w.heap.size + 3 ≤ (wz.setCell ⟨w.heap.size + 1, k, none⟩ (.slice Ah ah.length ch2)).heap.size := by have := hC1.size; omega
                        obtain ⟨wa, hwa⟩ : ∃ wa, wa = wz.setCell ⟨w.heap.size + 1, k, none⟩ (.slice Ah ah.length ch2) := ⟨_, rfl⟩
                        rw [← hwa] at hB1 b1a cuO1 hI1 hO1 hRb1 fuO1 hZ1
                        have hC2 := Chg.set (w := wa) (b := w.heap.size + 2) (o := k) (u := .slice Ab bh.length cb) (A := fun q => q = w.heap.size + 2) rfl
                        have hB2 := hC2.to_below hB1 hB1.size (fun q hq => by have hq : q = w.heap.size + 2 := hq; omega)
                        have b1b := hC2.blk b1a (fun h => by have h : w.heap.size = w.heap.size + 2 := h; omega)
                        have hI2 := hI1.set_other (b := w.heap.size + 2) (o := k) (u := .slice Ab bh.length cb) (fun h => h.2 rfl)
                        have hO2 := (hO1.putS1 rfl hkO (y := bh) (u := .slice Ab bh.length cb) (G := fun q => wo.heap.size ≤ q) ⟨_, rfl, hRb1⟩ (fun q hq => by have hq : wo.heap.size ≤ q := hq; omega)).mono (G := fun q => w.heap.size ≤ q ∧ q ≠ w.heap.size + 1) (fun q hq => by rcases hq with hq | hq; exact hq; omega)
                        have hZ2 : w.heap.size + 3 ≤ (wa.setCell ⟨w.heap.size + 2, k, none⟩ (.slice Ab bh.length cb)).heap.size := by have := hC2.size; omega
                        have HWA := Lib.hid hwa
                        obtain ⟨nI, hnI⟩ : ∃ nI, nI = (I.getD k []).length := ⟨_, rfl⟩
                        obtain ⟨nO, hnO⟩ : ∃ nO, nO = (O.getD k []).length := ⟨_, rfl⟩
                        rw [← hnI] at cuI HStill HCnt
                        rw [← hnO] at cuO cuO1 HStill HCnt
                        clear hnI hnO
                        clear hwa hC1 hC2 hB1 b1a hI1 hO1 hRb1 hZ1 hOIz hOOz b1z hRbz hwz hO hRb3 hbz hbx3 hOI hOO HHs hRa hrA hv8
                        rw [HWA.out] at cuO1 fuO1 hB2 b1b hI2 hO2 hZ2
                        clear HWA
                        cases ch
                        · by_cases e1 : nI = ah.length
                          · subst e1
                            by_cases e2 : nO = bh.length
                            · subst e2
                              have HR2 : Hid (RoundS s cx (I.set k ah) (O.set k bh) (k + 1) false) := Lib.hid (by
                                obtain ⟨r1, r2, r3, r4⟩ := HR.out
                                have hst := HStill.out rfl rfl (r2 rfl)
                                refine ⟨HTurn.out, fun _ q hq => ?_, Nat.le_trans r3 HCnt.out.1, fun h => Bool.noConfusion h⟩
                                rw [hst.1, hst.2.1]; exact hst.2.2 q hq)
                              clear HR HTurn HStill HCnt
                              go_wp2
                              go_roundw
                              case rel => exact ⟨k + 1, false, I.set k ah, O.set k bh, by omega, rfl, by go_num, hI2, hO2, hB2, b1b, hZ2, HR2⟩
                              case measure => simp [intOf]; omega
                            · have t2 : ((bh.length : Int) != (nO : Int)) = true := by rw [bne_iff_ne]; omega
                              have t3 : (bh.length != nO) = true := by rw [bne_iff_ne]; omega
                              have t4 : ¬ (bh.length = nO) := by omega
                              have HR2 : Hid (RoundS s cx (I.set k ah) (O.set k bh) (k + 1) true) := Lib.hid (by
                                obtain ⟨r1, r2, r3, r4⟩ := HR.out
                                exact ⟨HTurn.out, fun h => Bool.noConfusion h, Nat.le_trans r3 HCnt.out.1, fun _ => Nat.lt_of_le_of_lt r3 (HCnt.out.2 (fun h => e2 h.2.symm))⟩)
                              clear HR HTurn HStill HCnt e2
                              go_wp2
                              go_roundw
                              case rel => exact ⟨k + 1, true, I.set k ah, O.set k bh, by omega, rfl, by go_num, hI2, hO2, hB2, b1b, hZ2, HR2⟩
                              case measure => simp [intOf]; omega
                          · have t1 : ((ah.length : Int) != (nI : Int)) = true := by rw [bne_iff_ne]; omega
                            have t3 : (ah.length != nI) = true := by rw [bne_iff_ne]; omega
                            have t4 : ¬ (ah.length = nI) := by omega
                            have HR2 : Hid (RoundS s cx (I.set k ah) (O.set k bh) (k + 1) true) := Lib.hid (by
                              obtain ⟨r1, r2, r3, r4⟩ := HR.out
                              exact ⟨HTurn.out, fun h => Bool.noConfusion h, Nat.le_trans r3 HCnt.out.1, fun _ => Nat.lt_of_le_of_lt r3 (HCnt.out.2 (fun h => e1 h.1.symm))⟩)
                            clear HR HTurn HStill HCnt e1
                            go_wp2
                            go_roundw
                            case rel => exact ⟨k + 1, true, I.set k ah, O.set k bh, by omega, rfl, by go_num, hI2, hO2, hB2, b1b, hZ2, HR2⟩
                            case measure => simp [intOf]; omega
                        · have HR2 : Hid (RoundS s cx (I.set k ah) (O.set k bh) (k + 1) true) := Lib.hid (by
                            obtain ⟨r1, r2, r3, r4⟩ := HR.out
                            exact ⟨HTurn.out, fun h => Bool.noConfusion h, Nat.le_trans r3 HCnt.out.1, fun _ => Nat.lt_of_lt_of_le (r4 rfl) HCnt.out.1⟩)
                          clear HR HTurn HStill HCnt
                          go_wp2
                          go_roundw
                          case rel => exact ⟨k + 1, true, I.set k ah, O.set k bh, by omega, rfl, by go_num, hI2, hO2, hB2, b1b, hZ2, HR2⟩
                          case measure => simp [intOf]; omega
      · obtain rfl : k = s.parts.length := by omega
        cases ch
        · have HF := Lib.hid (SInv.lists HGP.out HR.out.iv (HR.out.st rfl))
          go_wp2
          refine bodyPost_ret (v := .tuple #[.slice (some ⟨w.heap.size + 1, 0, none⟩) s.parts.length s.parts.length, .slice (some ⟨w.heap.size + 2, 0, none⟩) s.parts.length s.parts.length]) (by simp [results, Try.results159, go_sem]) rfl ?_
          exact ⟨_, _, rfl, by rw [← HF.out.1]; exact hOI.rd.mono (fun q hq => hq.1), by rw [← HF.out.2]; exact hOO.rd.mono (fun q hq => hq.1), HB⟩
        · have HH2 : Hid (HeadS s (2 * (s.parts.length * s.values.toNat)) I O (2 * (s.parts.length * s.values.toNat) + 1 - (cntI I + cntI O))) := Lib.hid ⟨HR.out.iv, Nat.le_refl _⟩
          have hms : 2 * (s.parts.length * s.values.toNat) + 1 - (cntI I + cntI O) < gk := by
            have h1 := HM.out
            have h2 := HR.out.lt rfl
            have h3 := cntI_le (I := I) (V := s.values.toNat) (fun q => by have := (HR.out.iv.len_le HGP.out q).1; omega)
            have h4 := cntI_le (I := O) (V := s.values.toNat) (fun q => by have := (HR.out.iv.len_le HGP.out q).2; omega)
            rw [HR.out.iv.li] at h3
            rw [HR.out.iv.lo] at h4
            omega
          clear HR
          go_wp2
          go_roundg (2 * (s.parts.length * s.values.toNat) + 1 - (cntI I + cntI O))
          case measure => exact hms
          case rel => exact ⟨I, O, hOI, hOO, HB, b1, hZ, by omega, HH2⟩
end Go.Proofs.Ytnfaibenekninaa.L
