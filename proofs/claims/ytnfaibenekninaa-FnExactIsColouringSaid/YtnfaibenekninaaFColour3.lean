/- Joined texts, each of which was built by itself: Lv4. -/
import Derived.Test.YtnfaibenekninaaFColour2
import Derived.Deep.RegionHeld3
import Derived.Deep.LoopGhost
set_option linter.unusedVariables false
set_option linter.unusedSimpArgs false
namespace Go.Proofs.Ytnfaibenekninaa.L
open Go.RowKit
/-- The sets as they are made. -/
structure St1 (m N S0 : Nat) (vO vI : Value) (w : World) : Prop where
  ex : ∃ FO FI : Nat → Prop, (∀ q, FO q → S0 ≤ q ∧ ¬ FI q) ∧ (∀ q, FI q → S0 ≤ q) ∧ Ow true 74 (Rp.ow true 4 Rp.bool) w FO vO (List.replicate m (List.replicate N false)) ∧ Ow true 74 (Rp.ow true 4 Rp.bool) w FI vI (List.replicate m (List.replicate N false))
inductive LivesRes (s : Sa) (n N : Nat) (w : World) (e : Ending) (w' : World) : Prop where
  | mk (go co gi ci : Nat) (I O : List (List Bool)) (he : e = .returned (.tuple #[.slice (some ⟨go, 0, none⟩) n co, .slice (some ⟨gi, 0, none⟩) n ci])) (hL : LSt n N w.heap.size go co gi ci I O w')
      (hH : Hid ((∀ k v, InR2 I k v ↔ LvI s k v) ∧ ∀ k v, InR2 O k v ↔ LvO s k v)) (hb : Below w.heap.size w w') : LivesRes s n N w e w'
def HeadP (s : Sa) (M : Nat) (I O : List (List Bool)) (ag : Bool) (gk : Nat) : Prop := LInv s I O ∧ (ag = false → ∀ q, q < s.parts.length → Still s I O q) ∧ (ag = true → M + 1 - cntB I ≤ gk)
def RoundP (s : Sa) (Ix I O : List (List Bool)) (j : Nat) (ag : Bool) : Prop := LInv s I O ∧ (ag = false → ∀ q, q < j → Still s I O q) ∧ cntB Ix ≤ cntB I ∧ (ag = true → cntB Ix < cntB I)
structure O1P (O1 O : List (List Bool)) (j : Nat) (Sc : List Bool) : Prop where
  st : ∀ y, O1.set j y = O.set j y
  gt : O1.getD j [] = Sc
theorem rd_new1 (W : World) (v : Int) : Rp.Rd Rp.int (W.alloc (.cells #[.int .i64 v] 3)) (fun q => W.heap.size ≤ q) (.slice (some ⟨W.heap.size, 0, none⟩) 1 1) [v] :=
  (ow_ints (e := 3) W [v] #[.int .i64 v] rfl (by simp)).rd.mono (fun q hq => by have hq : q = W.heap.size := hq; exact hq ▸ Nat.le_refl _)
set_option maxRecDepth 100000 in
set_option maxHeartbeats 8000000 in
theorem lives_calls {F : Nat → Prop} (s : Sa) (N vb : Nat) (vparts vn vd vD vT : Value) (w : World) (hv : w.heap[vb]? = some (viewC vparts s.values vn vd vD vT)) (hs : Rp.Rd part w F vparts s.parts) (hg : GoodP s) (hx2 : ∀ p ∈ s.parts, PtLim p) (hNV : (N : Int) = s.values) :
    Calls Try.prog 172 #[.pointer (some ⟨vb, 0, none⟩)] w (LivesRes s s.parts.length N w) := by
  have hNoM := entersNo
  replace hs := hs.bound
  have hv1 := hg.v1
  have hv2 := hg.v2
  have hn1 := hg.n1
  have hn2 := hg.n2
  have hN0 : 0 < N := by omega
  have hN1 : N ≤ 250 := by omega
  have hvl := blk_lt hv
  have HGP := Lib.hid hg
  rw [← hNV] at hv
  replace hNV := Lib.hid hNV
  obtain ⟨A, cA, rfl, _, _, hrow⟩ := rd_part hs
  rcases hrow with hnil | ⟨b, o, rfl, hbl, hcell⟩
  · rw [hnil] at hn1; simp at hn1
  have hLI0 := Lib.hid (linv0 (s := s) (by omega))
  have hNN : s.values.toNat = N := by have := hNV.out; omega
  rw [hNN] at hLI0
  clear hv1 hv2 hNN
  have j0 : (0 : Int) ≤ (N : Int) := Int.natCast_nonneg _
  have HT := Lib.hid (fun k W => tests_calls k W)
  have HTe : Hid (∀ k : Int, (k == 2 || k == 5) = testB k) := Lib.hid (fun _ => rfl)
  obtain ⟨v0, v1, v2, v3, v4, v5⟩ := view_cells hv
  go_enter Try.func172, Try.ntmps172
  go_wp2_with fail
  clear v0 v1 v2 v3 v4 v5
  go_loopw [2, 3, 16] (fun xO xI i wr => ∃ (vO vI : Value) (m : Nat), vO = xO ∧ vI = xI ∧ m ≤ s.parts.length ∧ i = .int .i64 m ∧ St1 m N w.heap.size vO vI wr ∧ Below w.heap.size w wr) (fun _ _ i _ => s.parts.length - (intOf i).toNat)
  case atStart => exact ⟨_, _, 0, rfl, rfl, Nat.zero_le _, rfl, ⟨fun q => False, fun q => False, fun q hq => hq.elim, fun q hq => hq.elim, Ow.nil _ _ _ _ _, Ow.nil _ _ _ _ _⟩, Below.refl _ _⟩
  case round =>
    obtain ⟨vO, vI, m, rfl, rfl, hm, rfl, HS1, HB⟩ := hrel
    rename World => wo
    have hv1 := blk_below hv HB
    by_cases hlt : m < s.parts.length
    · obtain ⟨FO, FI, e1, e2, e3, e4⟩ := HS1
      have hmk2 : m ≤ 1000 := by omega
      have hNk : N ≤ 1000 := by omega
      have D : ∀ q, (FO q ∧ q < wo.heap.size) → ¬ (FI q ∧ q < wo.heap.size) := fun q h1 h2 => (e1 q h1.1).2 h2.1
      have hA : Cs0 w.heap.size N m (fun q => FO q ∧ q < wo.heap.size) vO wo.drew := ⟨e3.bound, fun q hq => ⟨(e1 q hq.1).1, hq.2⟩⟩
      have hB : Cs0 w.heap.size N m (fun q => FI q ∧ q < wo.heap.size) vI wo.drew := ⟨e4.bound, fun q hq => ⟨e2 q hq.1, hq.2⟩⟩
      have HBw : Below w.heap.size w wo.drew := below_drew HB
      clear e1 e2 e3 e4
      obtain ⟨v0, v1, v2, v3, v4, v5⟩ := view_cells hv1
      have m0 : (0 : Int) ≤ (m : Int) := Int.natCast_nonneg _
      have m1 : (m : Int) < (s.parts.length : Int) := by omega
      have hmk := mk_all Try.underlying74 infoBool N (by omega) (by omega)
      go_wp2_with fail
      refine wp_region_held_drew (S := (fun w' => w'.cell? ⟨vb, 1, none⟩ = some (.int .i64 (N : Int)))) (by kernel_rfl) v1 (fun hH0 => ?_)
      refine wpAnyH_take (i := 0) (v := ?_) rfl (by kernel_rfl) (by kernel_rfl) (by kernel_rfl) (fun _ _ _ h => h) (Or.inl ⟨by rfl, ?_⟩) (by assumption) ?_
      rotate_left 1
      focus ((intro w hSw; (try dsimp only at hSw); go_simp); try with_reducible rfl)
      try simp only [Act.put, Array.getInternal_eq_getElem, List.getElem_toArray, List.getElem_cons_zero, List.getElem_cons_succ, List.setIfInBounds_toArray, List.set_cons_zero, List.set_cons_succ]
      refine wpAnyH_take (i := 1) (v := ?_) rfl (by kernel_rfl) (by kernel_rfl) (by kernel_rfl) (fun _ _ _ h => h) (Or.inl ⟨by rfl, ?_⟩) (by assumption) ?_
      rotate_left 1
      focus ((intro w hSw; (try dsimp only at hSw); go_simp); try with_reducible rfl)
      try simp only [Act.put, Array.getInternal_eq_getElem, List.getElem_toArray, List.getElem_cons_zero, List.getElem_cons_succ, List.setIfInBounds_toArray, List.set_cons_zero, List.set_cons_succ]
      refine wpAnyH_take (i := 2) (v := ?_) rfl (by kernel_rfl) (by kernel_rfl) (by kernel_rfl) (fun _ _ _ h => h) (Or.inl ⟨by rfl, ?_⟩) (by assumption) ?_
      rotate_left 1
      focus ((intro w hSw; (try dsimp only at hSw); go_simp); try with_reducible rfl)
      try simp only [Act.put, Array.getInternal_eq_getElem, List.getElem_toArray, List.getElem_cons_zero, List.getElem_cons_succ, List.setIfInBounds_toArray, List.set_cons_zero, List.set_cons_succ]
      refine wpAnyH_take (i := 3) (v := ?_) rfl (by kernel_rfl) (by kernel_rfl) (by kernel_rfl) (fun _ _ _ h => h) (Or.inl ⟨by rfl, ?_⟩) (by assumption) ?_
      rotate_left 1
      focus ((intro w hSw; (try dsimp only at hSw); go_simp); try with_reducible rfl)
      try simp only [Act.put, Array.getInternal_eq_getElem, List.getElem_toArray, List.getElem_cons_zero, List.getElem_cons_succ, List.setIfInBounds_toArray, List.set_cons_zero, List.set_cons_succ]
      refine wpAnyH_take (i := 4) (v := ?_) rfl (by kernel_rfl) (by kernel_rfl) (by kernel_rfl) (fun _ _ _ h => h) (Or.inl ⟨by rfl, ?_⟩) (by assumption) ?_
      rotate_left 1
      focus ((intro w hSw; (try dsimp only at hSw); go_simp); try with_reducible rfl)
      try simp only [Act.put, Array.getInternal_eq_getElem, List.getElem_toArray, List.getElem_cons_zero, List.getElem_cons_succ, List.setIfInBounds_toArray, List.set_cons_zero, List.set_cons_succ]
      refine wpAnyH_take (i := 5) (v := ?_) rfl (by kernel_rfl) (by kernel_rfl) (by kernel_rfl) (fun _ _ _ h => h) (Or.inl ⟨by rfl, ?_⟩) (by assumption) ?_
      rotate_left 1
      focus ((intro w hSw; (try dsimp only at hSw); go_simp); try with_reducible rfl)
      try simp only [Act.put, Array.getInternal_eq_getElem, List.getElem_toArray, List.getElem_cons_zero, List.getElem_cons_succ, List.setIfInBounds_toArray, List.set_cons_zero, List.set_cons_succ]
      refine wpAnyH_take (i := 9) (v := ?_) rfl (by kernel_rfl) (by kernel_rfl) (by kernel_rfl) (fun _ _ _ h => h) (Or.inl ⟨by rfl, ?_⟩) (by assumption) ?_
      rotate_left 1
      focus ((intro w hSw; (try dsimp only at hSw); go_simp); try with_reducible rfl)
      try simp only [Act.put, Array.getInternal_eq_getElem, List.getElem_toArray, List.getElem_cons_zero, List.getElem_cons_succ, List.setIfInBounds_toArray, List.set_cons_zero, List.set_cons_succ]
      refine wpAnyH_take (i := 10) (v := ?_) rfl (by kernel_rfl) (by kernel_rfl) (by kernel_rfl) (fun _ _ _ h => h) (Or.inl ⟨by rfl, ?_⟩) (by assumption) ?_
      rotate_left 1
      focus ((intro w hSw; (try dsimp only at hSw); go_simp); try with_reducible rfl)
      try simp only [Act.put, Array.getInternal_eq_getElem, List.getElem_toArray, List.getElem_cons_zero, List.getElem_cons_succ, List.setIfInBounds_toArray, List.set_cons_zero, List.set_cons_succ]
      refine wpAnyH_take (i := 11) (v := ?_) rfl (by kernel_rfl) (by kernel_rfl) (by kernel_rfl) (fun _ _ _ h => h) (Or.inl ⟨by rfl, ?_⟩) (by assumption) ?_
      rotate_left 1
      focus ((intro w hSw; (try dsimp only at hSw); go_simp); try with_reducible rfl)
      try simp only [Act.put, Array.getInternal_eq_getElem, List.getElem_toArray, List.getElem_cons_zero, List.getElem_cons_succ, List.setIfInBounds_toArray, List.set_cons_zero, List.set_cons_succ]
      refine wpAnyH_take (i := 12) (v := ?_) rfl (by kernel_rfl) (by kernel_rfl) (by kernel_rfl) (fun _ _ _ h => h) (Or.inl ⟨by rfl, ?_⟩) (by assumption) ?_
      rotate_left 1
      focus ((intro w hSw; (try dsimp only at hSw); go_simp); try with_reducible rfl)
      try simp only [Act.put, Array.getInternal_eq_getElem, List.getElem_toArray, List.getElem_cons_zero, List.getElem_cons_succ, List.setIfInBounds_toArray, List.set_cons_zero, List.set_cons_succ]
      refine wpAnyH_take (i := 13) (v := ?_) rfl (by kernel_rfl) (by kernel_rfl) (by kernel_rfl) (fun _ _ _ h => h) (Or.inl ⟨by rfl, ?_⟩) (by assumption) ?_
      rotate_left 1
      focus ((intro w hSw; (try dsimp only at hSw); go_simp); try with_reducible rfl)
      try simp only [Act.put, Array.getInternal_eq_getElem, List.getElem_toArray, List.getElem_cons_zero, List.getElem_cons_succ, List.setIfInBounds_toArray, List.set_cons_zero, List.set_cons_succ]
      refine wpAnyH_take (i := 14) (v := ?_) rfl (by kernel_rfl) (by kernel_rfl) (by kernel_rfl) (fun _ _ _ h => h) (Or.inl ⟨by rfl, ?_⟩) (by assumption) ?_
      rotate_left 1
      focus ((intro w hSw; (try dsimp only at hSw); go_simp); try with_reducible rfl)
      try simp only [Act.put, Array.getInternal_eq_getElem, List.getElem_toArray, List.getElem_cons_zero, List.getElem_cons_succ, List.setIfInBounds_toArray, List.set_cons_zero, List.set_cons_succ]
      clear hH0 v0 v1 v2 v3 v4 v5 hv1
      generalize wo.drew = wd at *
      refine wpAnyH_ready (rs := [6, 15]) (by kernel_rfl) (by simp) ?_
      refine AllReadyH.cons rfl (fun K1 hK1 => ?_) (AllReadyH.cons rfl (fun K1 hK1 => ?_) AllReadyH.nil)
      · obtain ⟨h1, h2, h3, h4⟩ := s_mk (w := w) hNk hA hB side0 D HBw rfl
        go_simp
        refine hK1.out _ _ (view_cells (blk_below hv h4)).2.1 (fun _ => ?_)
        clear hK1 K1 hA hB D HBw
        generalize wd.alloc (.cells (madeCells #[.bool false] N) 4) = WA00 at *
        have hA := h1; have hB := h2; have D := h3; have HBw := h4
        clear h1 h2 h3 h4
        try simp only [Act.put, List.setIfInBounds_toArray, List.set_cons_zero, List.set_cons_succ]
        refine wpAnyH_ready (rs := [7, 15]) (by kernel_rfl) (by simp) ?_
        refine AllReadyH.cons rfl (fun K1 hK1 => ?_) (AllReadyH.cons rfl (fun K1 hK1 => ?_) AllReadyH.nil)
        · obtain ⟨h1, h2, h3, h4⟩ := s_bd (w := w) hA hB side0 D HBw rfl
          go_simp
          refine hK1.out _ _ (view_cells (blk_below hv h4)).2.1 (fun _ => ?_)
          clear hK1 K1 hA hB D HBw
          generalize WA00.alloc (.cells #[.slice (some ⟨wd.heap.size, 0, none⟩) N N] 74) = WA10 at *
          have hA := h1; have hB := h2; have D := h3; have HBw := h4
          clear h1 h2 h3 h4
          try simp only [Act.put, List.setIfInBounds_toArray, List.set_cons_zero, List.set_cons_succ]
          refine wpAnyH_ready (rs := [8, 15]) (by kernel_rfl) (by simp) ?_
          refine AllReadyH.cons rfl (fun K1 hK1 => ?_) (AllReadyH.cons rfl (fun K1 hK1 => ?_) AllReadyH.nil)
          · obtain ⟨vxA20, wxA20, FXA20, hrn, h1, h2, h3, h4⟩ := s_ap (w := w) hNk hmk2 hA hB side0 D HBw rfl
            rw [if_pos (by first | kernel_rfl | rfl | decide)]; refine oper_append _ _ _ _ _ _ rfl (by rfl) (by rfl) hrn ?_; try simp only [Act.put, Array.getInternal_eq_getElem, List.getElem_toArray, List.getElem_cons_zero, List.getElem_cons_succ, List.setIfInBounds_toArray, List.set_cons_zero, List.set_cons_succ]
            refine hK1.out _ _ (view_cells (blk_below hv h4)).2.1 (fun _ => ?_)
            clear hK1 K1 hA hB D HBw
            have hA := h1; have hB := h2; have D := h3; have HBw := h4
            clear h1 h2 h3 h4
            try simp only [Act.put, List.setIfInBounds_toArray, List.set_cons_zero, List.set_cons_succ]
            refine wpAnyH_ready (rs := [15]) (by kernel_rfl) (by simp) ?_
            refine AllReadyH.cons rfl (fun K1 hK1 => ?_) AllReadyH.nil
            · obtain ⟨h1, h2, h3, h4⟩ := s_mk (w := w) hNk hB hA side0 (fun q h1 h2 => D q h2 h1) HBw rfl
              go_simp
              refine hK1.out _ _ (view_cells (blk_below hv h4)).2.1 (fun _ => ?_)
              clear hK1 K1 hA hB D HBw
              generalize wxA20.alloc (.cells (madeCells #[.bool false] N) 4) = WB30 at *
              have hB := h1; have hA := h2; have D : ∀ q, _ → ¬ _ := fun q a b => h3 q b a; have HBw := h4
              clear h1 h2 h3 h4
              try simp only [Act.put, List.setIfInBounds_toArray, List.set_cons_zero, List.set_cons_succ]
              refine wpAnyH_ready (rs := [16]) (by kernel_rfl) (by simp) ?_
              refine AllReadyH.cons rfl (fun K1 hK1 => ?_) AllReadyH.nil
              · obtain ⟨h1, h2, h3, h4⟩ := s_bd (w := w) hB hA side0 (fun q h1 h2 => D q h2 h1) HBw rfl
                go_simp
                refine hK1.out _ _ (view_cells (blk_below hv h4)).2.1 (fun _ => ?_)
                clear hK1 K1 hA hB D HBw
                generalize WB30.alloc (.cells #[.slice (some ⟨wxA20.heap.size, 0, none⟩) N N] 74) = WB31 at *
                have hB := h1; have hA := h2; have D : ∀ q, _ → ¬ _ := fun q a b => h3 q b a; have HBw := h4
                clear h1 h2 h3 h4
                try simp only [Act.put, List.setIfInBounds_toArray, List.set_cons_zero, List.set_cons_succ]
                refine wpAnyH_ready (rs := [17]) (by kernel_rfl) (by simp) ?_
                refine AllReadyH.cons rfl (fun K1 hK1 => ?_) AllReadyH.nil
                · obtain ⟨vxB32, wxB32, FXB32, hrn, h1, h2, h3, h4⟩ := s_ap (w := w) hNk hmk2 hB hA side0 (fun q h1 h2 => D q h2 h1) HBw rfl
                  rw [if_pos (by first | kernel_rfl | rfl | decide)]; refine oper_append _ _ _ _ _ _ rfl (by rfl) (by rfl) hrn ?_; try simp only [Act.put, Array.getInternal_eq_getElem, List.getElem_toArray, List.getElem_cons_zero, List.getElem_cons_succ, List.setIfInBounds_toArray, List.set_cons_zero, List.set_cons_succ]
                  refine hK1.out _ _ (view_cells (blk_below hv h4)).2.1 (fun _ => ?_)
                  clear hK1 K1 hA hB D HBw
                  have hB := h1; have hA := h2; have D : ∀ q, _ → ¬ _ := fun q a b => h3 q b a; have HBw := h4
                  clear h1 h2 h3 h4
                  try simp only [Act.put, List.setIfInBounds_toArray, List.set_cons_zero, List.set_cons_succ]
                  refine wpAnyH_take (i := 18) (v := ?_) rfl (by kernel_rfl) (by kernel_rfl) (by kernel_rfl) (fun _ _ _ h => h) (Or.inl ⟨by rfl, ?_⟩) (by assumption) ?_
                  rotate_left 1
                  focus ((intro w hSw; (try dsimp only at hSw); go_simp); try with_reducible rfl)
                  try simp only [Act.put, Array.getInternal_eq_getElem, List.getElem_toArray, List.getElem_cons_zero, List.getElem_cons_succ, List.setIfInBounds_toArray, List.set_cons_zero, List.set_cons_succ]
                  refine wpAnyH_take (i := 19) (v := ?_) rfl (by kernel_rfl) (by kernel_rfl) (by kernel_rfl) (fun _ _ _ h => h) (Or.inl ⟨by rfl, ?_⟩) (by assumption) ?_
                  rotate_left 1
                  focus ((intro w hSw; (try dsimp only at hSw); go_simp); try with_reducible rfl)
                  try simp only [Act.put, Array.getInternal_eq_getElem, List.getElem_toArray, List.getElem_cons_zero, List.getElem_cons_succ, List.setIfInBounds_toArray, List.set_cons_zero, List.set_cons_succ]
                  refine wpAnyH_done (by kernel_rfl) ?_ _
                  go_wp2
                  go_roundw
                  case rel => exact ⟨_, _, m + 1, rfl, rfl, by omega, by go_num, ⟨_, _, fun q hq => ⟨(hA.bd q hq).1, D q hq⟩, fun q hq => (hB.bd q hq).1, hA.ow, hB.ow⟩, HBw⟩
                  case measure => simp [intOf]; omega
          · obtain ⟨h1, h2, h3, h4⟩ := s_mk (w := w) hNk hB hA side2 (fun q h1 h2 => D q h2 h1) HBw rfl
            go_simp
            refine hK1.out _ _ (view_cells (blk_below hv h4)).2.1 (fun _ => ?_)
            clear hK1 K1 hA hB D HBw
            generalize WA10.alloc (.cells (madeCells #[.bool false] N) 4) = WB20 at *
            have hB := h1; have hA := h2; have D : ∀ q, _ → ¬ _ := fun q a b => h3 q b a; have HBw := h4
            clear h1 h2 h3 h4
            try simp only [Act.put, List.setIfInBounds_toArray, List.set_cons_zero, List.set_cons_succ]
            refine wpAnyH_ready (rs := [8, 16]) (by kernel_rfl) (by simp) ?_
            refine AllReadyH.cons rfl (fun K1 hK1 => ?_) (AllReadyH.cons rfl (fun K1 hK1 => ?_) AllReadyH.nil)
            · obtain ⟨vxA21, wxA21, FXA21, hrn, h1, h2, h3, h4⟩ := s_ap (w := w) hNk hmk2 hA hB side1 D HBw rfl
              rw [if_pos (by first | kernel_rfl | rfl | decide)]; refine oper_append _ _ _ _ _ _ rfl (by rfl) (by rfl) hrn ?_; try simp only [Act.put, Array.getInternal_eq_getElem, List.getElem_toArray, List.getElem_cons_zero, List.getElem_cons_succ, List.setIfInBounds_toArray, List.set_cons_zero, List.set_cons_succ]
              refine hK1.out _ _ (view_cells (blk_below hv h4)).2.1 (fun _ => ?_)
              clear hK1 K1 hA hB D HBw
              have hA := h1; have hB := h2; have D := h3; have HBw := h4
              clear h1 h2 h3 h4
              try simp only [Act.put, List.setIfInBounds_toArray, List.set_cons_zero, List.set_cons_succ]
              refine wpAnyH_ready (rs := [16]) (by kernel_rfl) (by simp) ?_
              refine AllReadyH.cons rfl (fun K1 hK1 => ?_) AllReadyH.nil
              · obtain ⟨h1, h2, h3, h4⟩ := s_bd (w := w) hB hA side0 (fun q h1 h2 => D q h2 h1) HBw rfl
                go_simp
                refine hK1.out _ _ (view_cells (blk_below hv h4)).2.1 (fun _ => ?_)
                clear hK1 K1 hA hB D HBw
                generalize wxA21.alloc (.cells #[.slice (some ⟨WA10.heap.size, 0, none⟩) N N] 74) = WB31 at *
                have hB := h1; have hA := h2; have D : ∀ q, _ → ¬ _ := fun q a b => h3 q b a; have HBw := h4
                clear h1 h2 h3 h4
                try simp only [Act.put, List.setIfInBounds_toArray, List.set_cons_zero, List.set_cons_succ]
                refine wpAnyH_ready (rs := [17]) (by kernel_rfl) (by simp) ?_
                refine AllReadyH.cons rfl (fun K1 hK1 => ?_) AllReadyH.nil
                · obtain ⟨vxB32, wxB32, FXB32, hrn, h1, h2, h3, h4⟩ := s_ap (w := w) hNk hmk2 hB hA side0 (fun q h1 h2 => D q h2 h1) HBw rfl
                  rw [if_pos (by first | kernel_rfl | rfl | decide)]; refine oper_append _ _ _ _ _ _ rfl (by rfl) (by rfl) hrn ?_; try simp only [Act.put, Array.getInternal_eq_getElem, List.getElem_toArray, List.getElem_cons_zero, List.getElem_cons_succ, List.setIfInBounds_toArray, List.set_cons_zero, List.set_cons_succ]
                  refine hK1.out _ _ (view_cells (blk_below hv h4)).2.1 (fun _ => ?_)
                  clear hK1 K1 hA hB D HBw
                  have hB := h1; have hA := h2; have D : ∀ q, _ → ¬ _ := fun q a b => h3 q b a; have HBw := h4
                  clear h1 h2 h3 h4
                  try simp only [Act.put, List.setIfInBounds_toArray, List.set_cons_zero, List.set_cons_succ]
                  refine wpAnyH_take (i := 18) (v := ?_) rfl (by kernel_rfl) (by kernel_rfl) (by kernel_rfl) (fun _ _ _ h => h) (Or.inl ⟨by rfl, ?_⟩) (by assumption) ?_
                  rotate_left 1
                  focus ((intro w hSw; (try dsimp only at hSw); go_simp); try with_reducible rfl)
                  try simp only [Act.put, Array.getInternal_eq_getElem, List.getElem_toArray, List.getElem_cons_zero, List.getElem_cons_succ, List.setIfInBounds_toArray, List.set_cons_zero, List.set_cons_succ]
                  refine wpAnyH_take (i := 19) (v := ?_) rfl (by kernel_rfl) (by kernel_rfl) (by kernel_rfl) (fun _ _ _ h => h) (Or.inl ⟨by rfl, ?_⟩) (by assumption) ?_
                  rotate_left 1
                  focus ((intro w hSw; (try dsimp only at hSw); go_simp); try with_reducible rfl)
                  try simp only [Act.put, Array.getInternal_eq_getElem, List.getElem_toArray, List.getElem_cons_zero, List.getElem_cons_succ, List.setIfInBounds_toArray, List.set_cons_zero, List.set_cons_succ]
                  refine wpAnyH_done (by kernel_rfl) ?_ _
                  go_wp2
                  go_roundw
                  case rel => exact ⟨_, _, m + 1, rfl, rfl, by omega, by go_num, ⟨_, _, fun q hq => ⟨(hA.bd q hq).1, D q hq⟩, fun q hq => (hB.bd q hq).1, hA.ow, hB.ow⟩, HBw⟩
                  case measure => simp [intOf]; omega
            · obtain ⟨h1, h2, h3, h4⟩ := s_bd (w := w) hB hA side2 (fun q h1 h2 => D q h2 h1) HBw rfl
              go_simp
              refine hK1.out _ _ (view_cells (blk_below hv h4)).2.1 (fun _ => ?_)
              clear hK1 K1 hA hB D HBw
              generalize WB20.alloc (.cells #[.slice (some ⟨WA10.heap.size, 0, none⟩) N N] 74) = WB21 at *
              have hB := h1; have hA := h2; have D : ∀ q, _ → ¬ _ := fun q a b => h3 q b a; have HBw := h4
              clear h1 h2 h3 h4
              try simp only [Act.put, List.setIfInBounds_toArray, List.set_cons_zero, List.set_cons_succ]
              refine wpAnyH_ready (rs := [8]) (by kernel_rfl) (by simp) ?_
              refine AllReadyH.cons rfl (fun K1 hK1 => ?_) AllReadyH.nil
              · obtain ⟨vxA22, wxA22, FXA22, hrn, h1, h2, h3, h4⟩ := s_ap (w := w) hNk hmk2 hA hB side2 D HBw rfl
                rw [if_pos (by first | kernel_rfl | rfl | decide)]; refine oper_append _ _ _ _ _ _ rfl (by rfl) (by rfl) hrn ?_; try simp only [Act.put, Array.getInternal_eq_getElem, List.getElem_toArray, List.getElem_cons_zero, List.getElem_cons_succ, List.setIfInBounds_toArray, List.set_cons_zero, List.set_cons_succ]
                refine hK1.out _ _ (view_cells (blk_below hv h4)).2.1 (fun _ => ?_)
                clear hK1 K1 hA hB D HBw
                have hA := h1; have hB := h2; have D := h3; have HBw := h4
                clear h1 h2 h3 h4
                try simp only [Act.put, List.setIfInBounds_toArray, List.set_cons_zero, List.set_cons_succ]
                refine wpAnyH_ready (rs := [17]) (by kernel_rfl) (by simp) ?_
                refine AllReadyH.cons rfl (fun K1 hK1 => ?_) AllReadyH.nil
                · obtain ⟨vxB32, wxB32, FXB32, hrn, h1, h2, h3, h4⟩ := s_ap (w := w) hNk hmk2 hB hA side0 (fun q h1 h2 => D q h2 h1) HBw rfl
                  rw [if_pos (by first | kernel_rfl | rfl | decide)]; refine oper_append _ _ _ _ _ _ rfl (by rfl) (by rfl) hrn ?_; try simp only [Act.put, Array.getInternal_eq_getElem, List.getElem_toArray, List.getElem_cons_zero, List.getElem_cons_succ, List.setIfInBounds_toArray, List.set_cons_zero, List.set_cons_succ]
                  refine hK1.out _ _ (view_cells (blk_below hv h4)).2.1 (fun _ => ?_)
                  clear hK1 K1 hA hB D HBw
                  have hB := h1; have hA := h2; have D : ∀ q, _ → ¬ _ := fun q a b => h3 q b a; have HBw := h4
                  clear h1 h2 h3 h4
                  try simp only [Act.put, List.setIfInBounds_toArray, List.set_cons_zero, List.set_cons_succ]
                  refine wpAnyH_take (i := 18) (v := ?_) rfl (by kernel_rfl) (by kernel_rfl) (by kernel_rfl) (fun _ _ _ h => h) (Or.inl ⟨by rfl, ?_⟩) (by assumption) ?_
                  rotate_left 1
                  focus ((intro w hSw; (try dsimp only at hSw); go_simp); try with_reducible rfl)
                  try simp only [Act.put, Array.getInternal_eq_getElem, List.getElem_toArray, List.getElem_cons_zero, List.getElem_cons_succ, List.setIfInBounds_toArray, List.set_cons_zero, List.set_cons_succ]
                  refine wpAnyH_take (i := 19) (v := ?_) rfl (by kernel_rfl) (by kernel_rfl) (by kernel_rfl) (fun _ _ _ h => h) (Or.inl ⟨by rfl, ?_⟩) (by assumption) ?_
                  rotate_left 1
                  focus ((intro w hSw; (try dsimp only at hSw); go_simp); try with_reducible rfl)
                  try simp only [Act.put, Array.getInternal_eq_getElem, List.getElem_toArray, List.getElem_cons_zero, List.getElem_cons_succ, List.setIfInBounds_toArray, List.set_cons_zero, List.set_cons_succ]
                  refine wpAnyH_done (by kernel_rfl) ?_ _
                  go_wp2
                  go_roundw
                  case rel => exact ⟨_, _, m + 1, rfl, rfl, by omega, by go_num, ⟨_, _, fun q hq => ⟨(hA.bd q hq).1, D q hq⟩, fun q hq => (hB.bd q hq).1, hA.ow, hB.ow⟩, HBw⟩
                  case measure => simp [intOf]; omega
        · obtain ⟨h1, h2, h3, h4⟩ := s_mk (w := w) hNk hB hA side1 (fun q h1 h2 => D q h2 h1) HBw rfl
          go_simp
          refine hK1.out _ _ (view_cells (blk_below hv h4)).2.1 (fun _ => ?_)
          clear hK1 K1 hA hB D HBw
          generalize WA00.alloc (.cells (madeCells #[.bool false] N) 4) = WB10 at *
          have hB := h1; have hA := h2; have D : ∀ q, _ → ¬ _ := fun q a b => h3 q b a; have HBw := h4
          clear h1 h2 h3 h4
          try simp only [Act.put, List.setIfInBounds_toArray, List.set_cons_zero, List.set_cons_succ]
          refine wpAnyH_ready (rs := [7, 16]) (by kernel_rfl) (by simp) ?_
          refine AllReadyH.cons rfl (fun K1 hK1 => ?_) (AllReadyH.cons rfl (fun K1 hK1 => ?_) AllReadyH.nil)
          · obtain ⟨h1, h2, h3, h4⟩ := s_bd (w := w) hA hB side1 D HBw rfl
            go_simp
            refine hK1.out _ _ (view_cells (blk_below hv h4)).2.1 (fun _ => ?_)
            clear hK1 K1 hA hB D HBw
            generalize WB10.alloc (.cells #[.slice (some ⟨wd.heap.size, 0, none⟩) N N] 74) = WA11 at *
            have hA := h1; have hB := h2; have D := h3; have HBw := h4
            clear h1 h2 h3 h4
            try simp only [Act.put, List.setIfInBounds_toArray, List.set_cons_zero, List.set_cons_succ]
            refine wpAnyH_ready (rs := [8, 16]) (by kernel_rfl) (by simp) ?_
            refine AllReadyH.cons rfl (fun K1 hK1 => ?_) (AllReadyH.cons rfl (fun K1 hK1 => ?_) AllReadyH.nil)
            · obtain ⟨vxA21, wxA21, FXA21, hrn, h1, h2, h3, h4⟩ := s_ap (w := w) hNk hmk2 hA hB side1 D HBw rfl
              rw [if_pos (by first | kernel_rfl | rfl | decide)]; refine oper_append _ _ _ _ _ _ rfl (by rfl) (by rfl) hrn ?_; try simp only [Act.put, Array.getInternal_eq_getElem, List.getElem_toArray, List.getElem_cons_zero, List.getElem_cons_succ, List.setIfInBounds_toArray, List.set_cons_zero, List.set_cons_succ]
              refine hK1.out _ _ (view_cells (blk_below hv h4)).2.1 (fun _ => ?_)
              clear hK1 K1 hA hB D HBw
              have hA := h1; have hB := h2; have D := h3; have HBw := h4
              clear h1 h2 h3 h4
              try simp only [Act.put, List.setIfInBounds_toArray, List.set_cons_zero, List.set_cons_succ]
              refine wpAnyH_ready (rs := [16]) (by kernel_rfl) (by simp) ?_
              refine AllReadyH.cons rfl (fun K1 hK1 => ?_) AllReadyH.nil
              · obtain ⟨h1, h2, h3, h4⟩ := s_bd (w := w) hB hA side0 (fun q h1 h2 => D q h2 h1) HBw rfl
                go_simp
                refine hK1.out _ _ (view_cells (blk_below hv h4)).2.1 (fun _ => ?_)
                clear hK1 K1 hA hB D HBw
                generalize wxA21.alloc (.cells #[.slice (some ⟨WA00.heap.size, 0, none⟩) N N] 74) = WB31 at *
                have hB := h1; have hA := h2; have D : ∀ q, _ → ¬ _ := fun q a b => h3 q b a; have HBw := h4
                clear h1 h2 h3 h4
                try simp only [Act.put, List.setIfInBounds_toArray, List.set_cons_zero, List.set_cons_succ]
                refine wpAnyH_ready (rs := [17]) (by kernel_rfl) (by simp) ?_
                refine AllReadyH.cons rfl (fun K1 hK1 => ?_) AllReadyH.nil
                · obtain ⟨vxB32, wxB32, FXB32, hrn, h1, h2, h3, h4⟩ := s_ap (w := w) hNk hmk2 hB hA side0 (fun q h1 h2 => D q h2 h1) HBw rfl
                  rw [if_pos (by first | kernel_rfl | rfl | decide)]; refine oper_append _ _ _ _ _ _ rfl (by rfl) (by rfl) hrn ?_; try simp only [Act.put, Array.getInternal_eq_getElem, List.getElem_toArray, List.getElem_cons_zero, List.getElem_cons_succ, List.setIfInBounds_toArray, List.set_cons_zero, List.set_cons_succ]
                  refine hK1.out _ _ (view_cells (blk_below hv h4)).2.1 (fun _ => ?_)
                  clear hK1 K1 hA hB D HBw
                  have hB := h1; have hA := h2; have D : ∀ q, _ → ¬ _ := fun q a b => h3 q b a; have HBw := h4
                  clear h1 h2 h3 h4
                  try simp only [Act.put, List.setIfInBounds_toArray, List.set_cons_zero, List.set_cons_succ]
                  refine wpAnyH_take (i := 18) (v := ?_) rfl (by kernel_rfl) (by kernel_rfl) (by kernel_rfl) (fun _ _ _ h => h) (Or.inl ⟨by rfl, ?_⟩) (by assumption) ?_
                  rotate_left 1
                  focus ((intro w hSw; (try dsimp only at hSw); go_simp); try with_reducible rfl)
                  try simp only [Act.put, Array.getInternal_eq_getElem, List.getElem_toArray, List.getElem_cons_zero, List.getElem_cons_succ, List.setIfInBounds_toArray, List.set_cons_zero, List.set_cons_succ]
                  refine wpAnyH_take (i := 19) (v := ?_) rfl (by kernel_rfl) (by kernel_rfl) (by kernel_rfl) (fun _ _ _ h => h) (Or.inl ⟨by rfl, ?_⟩) (by assumption) ?_
                  rotate_left 1
                  focus ((intro w hSw; (try dsimp only at hSw); go_simp); try with_reducible rfl)
                  try simp only [Act.put, Array.getInternal_eq_getElem, List.getElem_toArray, List.getElem_cons_zero, List.getElem_cons_succ, List.setIfInBounds_toArray, List.set_cons_zero, List.set_cons_succ]
                  refine wpAnyH_done (by kernel_rfl) ?_ _
                  go_wp2
                  go_roundw
                  case rel => exact ⟨_, _, m + 1, rfl, rfl, by omega, by go_num, ⟨_, _, fun q hq => ⟨(hA.bd q hq).1, D q hq⟩, fun q hq => (hB.bd q hq).1, hA.ow, hB.ow⟩, HBw⟩
                  case measure => simp [intOf]; omega
            · obtain ⟨h1, h2, h3, h4⟩ := s_bd (w := w) hB hA side2 (fun q h1 h2 => D q h2 h1) HBw rfl
              go_simp
              refine hK1.out _ _ (view_cells (blk_below hv h4)).2.1 (fun _ => ?_)
              clear hK1 K1 hA hB D HBw
              generalize WA11.alloc (.cells #[.slice (some ⟨WA00.heap.size, 0, none⟩) N N] 74) = WB21 at *
              have hB := h1; have hA := h2; have D : ∀ q, _ → ¬ _ := fun q a b => h3 q b a; have HBw := h4
              clear h1 h2 h3 h4
              try simp only [Act.put, List.setIfInBounds_toArray, List.set_cons_zero, List.set_cons_succ]
              refine wpAnyH_ready (rs := [8]) (by kernel_rfl) (by simp) ?_
              refine AllReadyH.cons rfl (fun K1 hK1 => ?_) AllReadyH.nil
              · obtain ⟨vxA22, wxA22, FXA22, hrn, h1, h2, h3, h4⟩ := s_ap (w := w) hNk hmk2 hA hB side2 D HBw rfl
                rw [if_pos (by first | kernel_rfl | rfl | decide)]; refine oper_append _ _ _ _ _ _ rfl (by rfl) (by rfl) hrn ?_; try simp only [Act.put, Array.getInternal_eq_getElem, List.getElem_toArray, List.getElem_cons_zero, List.getElem_cons_succ, List.setIfInBounds_toArray, List.set_cons_zero, List.set_cons_succ]
                refine hK1.out _ _ (view_cells (blk_below hv h4)).2.1 (fun _ => ?_)
                clear hK1 K1 hA hB D HBw
                have hA := h1; have hB := h2; have D := h3; have HBw := h4
                clear h1 h2 h3 h4
                try simp only [Act.put, List.setIfInBounds_toArray, List.set_cons_zero, List.set_cons_succ]
                refine wpAnyH_ready (rs := [17]) (by kernel_rfl) (by simp) ?_
                refine AllReadyH.cons rfl (fun K1 hK1 => ?_) AllReadyH.nil
                · obtain ⟨vxB32, wxB32, FXB32, hrn, h1, h2, h3, h4⟩ := s_ap (w := w) hNk hmk2 hB hA side0 (fun q h1 h2 => D q h2 h1) HBw rfl
                  rw [if_pos (by first | kernel_rfl | rfl | decide)]; refine oper_append _ _ _ _ _ _ rfl (by rfl) (by rfl) hrn ?_; try simp only [Act.put, Array.getInternal_eq_getElem, List.getElem_toArray, List.getElem_cons_zero, List.getElem_cons_succ, List.setIfInBounds_toArray, List.set_cons_zero, List.set_cons_succ]
                  refine hK1.out _ _ (view_cells (blk_below hv h4)).2.1 (fun _ => ?_)
                  clear hK1 K1 hA hB D HBw
                  have hB := h1; have hA := h2; have D : ∀ q, _ → ¬ _ := fun q a b => h3 q b a; have HBw := h4
                  clear h1 h2 h3 h4
                  try simp only [Act.put, List.setIfInBounds_toArray, List.set_cons_zero, List.set_cons_succ]
                  refine wpAnyH_take (i := 18) (v := ?_) rfl (by kernel_rfl) (by kernel_rfl) (by kernel_rfl) (fun _ _ _ h => h) (Or.inl ⟨by rfl, ?_⟩) (by assumption) ?_
                  rotate_left 1
                  focus ((intro w hSw; (try dsimp only at hSw); go_simp); try with_reducible rfl)
                  try simp only [Act.put, Array.getInternal_eq_getElem, List.getElem_toArray, List.getElem_cons_zero, List.getElem_cons_succ, List.setIfInBounds_toArray, List.set_cons_zero, List.set_cons_succ]
                  refine wpAnyH_take (i := 19) (v := ?_) rfl (by kernel_rfl) (by kernel_rfl) (by kernel_rfl) (fun _ _ _ h => h) (Or.inl ⟨by rfl, ?_⟩) (by assumption) ?_
                  rotate_left 1
                  focus ((intro w hSw; (try dsimp only at hSw); go_simp); try with_reducible rfl)
                  try simp only [Act.put, Array.getInternal_eq_getElem, List.getElem_toArray, List.getElem_cons_zero, List.getElem_cons_succ, List.setIfInBounds_toArray, List.set_cons_zero, List.set_cons_succ]
                  refine wpAnyH_done (by kernel_rfl) ?_ _
                  go_wp2
                  go_roundw
                  case rel => exact ⟨_, _, m + 1, rfl, rfl, by omega, by go_num, ⟨_, _, fun q hq => ⟨(hA.bd q hq).1, D q hq⟩, fun q hq => (hB.bd q hq).1, hA.ow, hB.ow⟩, HBw⟩
                  case measure => simp [intOf]; omega
          · obtain ⟨h1, h2, h3, h4⟩ := s_bd (w := w) hB hA side1 (fun q h1 h2 => D q h2 h1) HBw rfl
            go_simp
            refine hK1.out _ _ (view_cells (blk_below hv h4)).2.1 (fun _ => ?_)
            clear hK1 K1 hA hB D HBw
            generalize WB10.alloc (.cells #[.slice (some ⟨WA00.heap.size, 0, none⟩) N N] 74) = WB11 at *
            have hB := h1; have hA := h2; have D : ∀ q, _ → ¬ _ := fun q a b => h3 q b a; have HBw := h4
            clear h1 h2 h3 h4
            try simp only [Act.put, List.setIfInBounds_toArray, List.set_cons_zero, List.set_cons_succ]
            refine wpAnyH_ready (rs := [7]) (by kernel_rfl) (by simp) ?_
            refine AllReadyH.cons rfl (fun K1 hK1 => ?_) AllReadyH.nil
            · obtain ⟨h1, h2, h3, h4⟩ := s_bd (w := w) hA hB side2 D HBw rfl
              go_simp
              refine hK1.out _ _ (view_cells (blk_below hv h4)).2.1 (fun _ => ?_)
              clear hK1 K1 hA hB D HBw
              generalize WB11.alloc (.cells #[.slice (some ⟨wd.heap.size, 0, none⟩) N N] 74) = WA12 at *
              have hA := h1; have hB := h2; have D := h3; have HBw := h4
              clear h1 h2 h3 h4
              try simp only [Act.put, List.setIfInBounds_toArray, List.set_cons_zero, List.set_cons_succ]
              refine wpAnyH_ready (rs := [8]) (by kernel_rfl) (by simp) ?_
              refine AllReadyH.cons rfl (fun K1 hK1 => ?_) AllReadyH.nil
              · obtain ⟨vxA22, wxA22, FXA22, hrn, h1, h2, h3, h4⟩ := s_ap (w := w) hNk hmk2 hA hB side2 D HBw rfl
                rw [if_pos (by first | kernel_rfl | rfl | decide)]; refine oper_append _ _ _ _ _ _ rfl (by rfl) (by rfl) hrn ?_; try simp only [Act.put, Array.getInternal_eq_getElem, List.getElem_toArray, List.getElem_cons_zero, List.getElem_cons_succ, List.setIfInBounds_toArray, List.set_cons_zero, List.set_cons_succ]
                refine hK1.out _ _ (view_cells (blk_below hv h4)).2.1 (fun _ => ?_)
                clear hK1 K1 hA hB D HBw
                have hA := h1; have hB := h2; have D := h3; have HBw := h4
                clear h1 h2 h3 h4
                try simp only [Act.put, List.setIfInBounds_toArray, List.set_cons_zero, List.set_cons_succ]
                refine wpAnyH_ready (rs := [17]) (by kernel_rfl) (by simp) ?_
                refine AllReadyH.cons rfl (fun K1 hK1 => ?_) AllReadyH.nil
                · obtain ⟨vxB32, wxB32, FXB32, hrn, h1, h2, h3, h4⟩ := s_ap (w := w) hNk hmk2 hB hA side0 (fun q h1 h2 => D q h2 h1) HBw rfl
                  rw [if_pos (by first | kernel_rfl | rfl | decide)]; refine oper_append _ _ _ _ _ _ rfl (by rfl) (by rfl) hrn ?_; try simp only [Act.put, Array.getInternal_eq_getElem, List.getElem_toArray, List.getElem_cons_zero, List.getElem_cons_succ, List.setIfInBounds_toArray, List.set_cons_zero, List.set_cons_succ]
                  refine hK1.out _ _ (view_cells (blk_below hv h4)).2.1 (fun _ => ?_)
                  clear hK1 K1 hA hB D HBw
                  have hB := h1; have hA := h2; have D : ∀ q, _ → ¬ _ := fun q a b => h3 q b a; have HBw := h4
                  clear h1 h2 h3 h4
                  try simp only [Act.put, List.setIfInBounds_toArray, List.set_cons_zero, List.set_cons_succ]
                  refine wpAnyH_take (i := 18) (v := ?_) rfl (by kernel_rfl) (by kernel_rfl) (by kernel_rfl) (fun _ _ _ h => h) (Or.inl ⟨by rfl, ?_⟩) (by assumption) ?_
                  rotate_left 1
                  focus ((intro w hSw; (try dsimp only at hSw); go_simp); try with_reducible rfl)
                  try simp only [Act.put, Array.getInternal_eq_getElem, List.getElem_toArray, List.getElem_cons_zero, List.getElem_cons_succ, List.setIfInBounds_toArray, List.set_cons_zero, List.set_cons_succ]
                  refine wpAnyH_take (i := 19) (v := ?_) rfl (by kernel_rfl) (by kernel_rfl) (by kernel_rfl) (fun _ _ _ h => h) (Or.inl ⟨by rfl, ?_⟩) (by assumption) ?_
                  rotate_left 1
                  focus ((intro w hSw; (try dsimp only at hSw); go_simp); try with_reducible rfl)
                  try simp only [Act.put, Array.getInternal_eq_getElem, List.getElem_toArray, List.getElem_cons_zero, List.getElem_cons_succ, List.setIfInBounds_toArray, List.set_cons_zero, List.set_cons_succ]
                  refine wpAnyH_done (by kernel_rfl) ?_ _
                  go_wp2
                  go_roundw
                  case rel => exact ⟨_, _, m + 1, rfl, rfl, by omega, by go_num, ⟨_, _, fun q hq => ⟨(hA.bd q hq).1, D q hq⟩, fun q hq => (hB.bd q hq).1, hA.ow, hB.ow⟩, HBw⟩
                  case measure => simp [intOf]; omega
      · obtain ⟨h1, h2, h3, h4⟩ := s_mk (w := w) hNk hB hA side0 (fun q h1 h2 => D q h2 h1) HBw rfl
        go_simp
        refine hK1.out _ _ (view_cells (blk_below hv h4)).2.1 (fun _ => ?_)
        clear hK1 K1 hA hB D HBw
        generalize wd.alloc (.cells (madeCells #[.bool false] N) 4) = WB00 at *
        have hB := h1; have hA := h2; have D : ∀ q, _ → ¬ _ := fun q a b => h3 q b a; have HBw := h4
        clear h1 h2 h3 h4
        try simp only [Act.put, List.setIfInBounds_toArray, List.set_cons_zero, List.set_cons_succ]
        refine wpAnyH_ready (rs := [6, 16]) (by kernel_rfl) (by simp) ?_
        refine AllReadyH.cons rfl (fun K1 hK1 => ?_) (AllReadyH.cons rfl (fun K1 hK1 => ?_) AllReadyH.nil)
        · obtain ⟨h1, h2, h3, h4⟩ := s_mk (w := w) hNk hA hB side1 D HBw rfl
          go_simp
          refine hK1.out _ _ (view_cells (blk_below hv h4)).2.1 (fun _ => ?_)
          clear hK1 K1 hA hB D HBw
          generalize WB00.alloc (.cells (madeCells #[.bool false] N) 4) = WA01 at *
          have hA := h1; have hB := h2; have D := h3; have HBw := h4
          clear h1 h2 h3 h4
          try simp only [Act.put, List.setIfInBounds_toArray, List.set_cons_zero, List.set_cons_succ]
          refine wpAnyH_ready (rs := [7, 16]) (by kernel_rfl) (by simp) ?_
          refine AllReadyH.cons rfl (fun K1 hK1 => ?_) (AllReadyH.cons rfl (fun K1 hK1 => ?_) AllReadyH.nil)
          · obtain ⟨h1, h2, h3, h4⟩ := s_bd (w := w) hA hB side1 D HBw rfl
            go_simp
            refine hK1.out _ _ (view_cells (blk_below hv h4)).2.1 (fun _ => ?_)
            clear hK1 K1 hA hB D HBw
            generalize WA01.alloc (.cells #[.slice (some ⟨WB00.heap.size, 0, none⟩) N N] 74) = WA11 at *
            have hA := h1; have hB := h2; have D := h3; have HBw := h4
            clear h1 h2 h3 h4
            try simp only [Act.put, List.setIfInBounds_toArray, List.set_cons_zero, List.set_cons_succ]
            refine wpAnyH_ready (rs := [8, 16]) (by kernel_rfl) (by simp) ?_
            refine AllReadyH.cons rfl (fun K1 hK1 => ?_) (AllReadyH.cons rfl (fun K1 hK1 => ?_) AllReadyH.nil)
            · obtain ⟨vxA21, wxA21, FXA21, hrn, h1, h2, h3, h4⟩ := s_ap (w := w) hNk hmk2 hA hB side1 D HBw rfl
              rw [if_pos (by first | kernel_rfl | rfl | decide)]; refine oper_append _ _ _ _ _ _ rfl (by rfl) (by rfl) hrn ?_; try simp only [Act.put, Array.getInternal_eq_getElem, List.getElem_toArray, List.getElem_cons_zero, List.getElem_cons_succ, List.setIfInBounds_toArray, List.set_cons_zero, List.set_cons_succ]
              refine hK1.out _ _ (view_cells (blk_below hv h4)).2.1 (fun _ => ?_)
              clear hK1 K1 hA hB D HBw
              have hA := h1; have hB := h2; have D := h3; have HBw := h4
              clear h1 h2 h3 h4
              try simp only [Act.put, List.setIfInBounds_toArray, List.set_cons_zero, List.set_cons_succ]
              refine wpAnyH_ready (rs := [16]) (by kernel_rfl) (by simp) ?_
              refine AllReadyH.cons rfl (fun K1 hK1 => ?_) AllReadyH.nil
              · obtain ⟨h1, h2, h3, h4⟩ := s_bd (w := w) hB hA side0 (fun q h1 h2 => D q h2 h1) HBw rfl
                go_simp
                refine hK1.out _ _ (view_cells (blk_below hv h4)).2.1 (fun _ => ?_)
                clear hK1 K1 hA hB D HBw
                generalize wxA21.alloc (.cells #[.slice (some ⟨wd.heap.size, 0, none⟩) N N] 74) = WB31 at *
                have hB := h1; have hA := h2; have D : ∀ q, _ → ¬ _ := fun q a b => h3 q b a; have HBw := h4
                clear h1 h2 h3 h4
                try simp only [Act.put, List.setIfInBounds_toArray, List.set_cons_zero, List.set_cons_succ]
                refine wpAnyH_ready (rs := [17]) (by kernel_rfl) (by simp) ?_
                refine AllReadyH.cons rfl (fun K1 hK1 => ?_) AllReadyH.nil
                · obtain ⟨vxB32, wxB32, FXB32, hrn, h1, h2, h3, h4⟩ := s_ap (w := w) hNk hmk2 hB hA side0 (fun q h1 h2 => D q h2 h1) HBw rfl
                  rw [if_pos (by first | kernel_rfl | rfl | decide)]; refine oper_append _ _ _ _ _ _ rfl (by rfl) (by rfl) hrn ?_; try simp only [Act.put, Array.getInternal_eq_getElem, List.getElem_toArray, List.getElem_cons_zero, List.getElem_cons_succ, List.setIfInBounds_toArray, List.set_cons_zero, List.set_cons_succ]
                  refine hK1.out _ _ (view_cells (blk_below hv h4)).2.1 (fun _ => ?_)
                  clear hK1 K1 hA hB D HBw
                  have hB := h1; have hA := h2; have D : ∀ q, _ → ¬ _ := fun q a b => h3 q b a; have HBw := h4
                  clear h1 h2 h3 h4
                  try simp only [Act.put, List.setIfInBounds_toArray, List.set_cons_zero, List.set_cons_succ]
                  refine wpAnyH_take (i := 18) (v := ?_) rfl (by kernel_rfl) (by kernel_rfl) (by kernel_rfl) (fun _ _ _ h => h) (Or.inl ⟨by rfl, ?_⟩) (by assumption) ?_
                  rotate_left 1
                  focus ((intro w hSw; (try dsimp only at hSw); go_simp); try with_reducible rfl)
                  try simp only [Act.put, Array.getInternal_eq_getElem, List.getElem_toArray, List.getElem_cons_zero, List.getElem_cons_succ, List.setIfInBounds_toArray, List.set_cons_zero, List.set_cons_succ]
                  refine wpAnyH_take (i := 19) (v := ?_) rfl (by kernel_rfl) (by kernel_rfl) (by kernel_rfl) (fun _ _ _ h => h) (Or.inl ⟨by rfl, ?_⟩) (by assumption) ?_
                  rotate_left 1
                  focus ((intro w hSw; (try dsimp only at hSw); go_simp); try with_reducible rfl)
                  try simp only [Act.put, Array.getInternal_eq_getElem, List.getElem_toArray, List.getElem_cons_zero, List.getElem_cons_succ, List.setIfInBounds_toArray, List.set_cons_zero, List.set_cons_succ]
                  refine wpAnyH_done (by kernel_rfl) ?_ _
                  go_wp2
                  go_roundw
                  case rel => exact ⟨_, _, m + 1, rfl, rfl, by omega, by go_num, ⟨_, _, fun q hq => ⟨(hA.bd q hq).1, D q hq⟩, fun q hq => (hB.bd q hq).1, hA.ow, hB.ow⟩, HBw⟩
                  case measure => simp [intOf]; omega
            · obtain ⟨h1, h2, h3, h4⟩ := s_bd (w := w) hB hA side2 (fun q h1 h2 => D q h2 h1) HBw rfl
              go_simp
              refine hK1.out _ _ (view_cells (blk_below hv h4)).2.1 (fun _ => ?_)
              clear hK1 K1 hA hB D HBw
              generalize WA11.alloc (.cells #[.slice (some ⟨wd.heap.size, 0, none⟩) N N] 74) = WB21 at *
              have hB := h1; have hA := h2; have D : ∀ q, _ → ¬ _ := fun q a b => h3 q b a; have HBw := h4
              clear h1 h2 h3 h4
              try simp only [Act.put, List.setIfInBounds_toArray, List.set_cons_zero, List.set_cons_succ]
              refine wpAnyH_ready (rs := [8]) (by kernel_rfl) (by simp) ?_
              refine AllReadyH.cons rfl (fun K1 hK1 => ?_) AllReadyH.nil
              · obtain ⟨vxA22, wxA22, FXA22, hrn, h1, h2, h3, h4⟩ := s_ap (w := w) hNk hmk2 hA hB side2 D HBw rfl
                rw [if_pos (by first | kernel_rfl | rfl | decide)]; refine oper_append _ _ _ _ _ _ rfl (by rfl) (by rfl) hrn ?_; try simp only [Act.put, Array.getInternal_eq_getElem, List.getElem_toArray, List.getElem_cons_zero, List.getElem_cons_succ, List.setIfInBounds_toArray, List.set_cons_zero, List.set_cons_succ]
                refine hK1.out _ _ (view_cells (blk_below hv h4)).2.1 (fun _ => ?_)
                clear hK1 K1 hA hB D HBw
                have hA := h1; have hB := h2; have D := h3; have HBw := h4
                clear h1 h2 h3 h4
                try simp only [Act.put, List.setIfInBounds_toArray, List.set_cons_zero, List.set_cons_succ]
                refine wpAnyH_ready (rs := [17]) (by kernel_rfl) (by simp) ?_
                refine AllReadyH.cons rfl (fun K1 hK1 => ?_) AllReadyH.nil
                · obtain ⟨vxB32, wxB32, FXB32, hrn, h1, h2, h3, h4⟩ := s_ap (w := w) hNk hmk2 hB hA side0 (fun q h1 h2 => D q h2 h1) HBw rfl
                  rw [if_pos (by first | kernel_rfl | rfl | decide)]; refine oper_append _ _ _ _ _ _ rfl (by rfl) (by rfl) hrn ?_; try simp only [Act.put, Array.getInternal_eq_getElem, List.getElem_toArray, List.getElem_cons_zero, List.getElem_cons_succ, List.setIfInBounds_toArray, List.set_cons_zero, List.set_cons_succ]
                  refine hK1.out _ _ (view_cells (blk_below hv h4)).2.1 (fun _ => ?_)
                  clear hK1 K1 hA hB D HBw
                  have hB := h1; have hA := h2; have D : ∀ q, _ → ¬ _ := fun q a b => h3 q b a; have HBw := h4
                  clear h1 h2 h3 h4
                  try simp only [Act.put, List.setIfInBounds_toArray, List.set_cons_zero, List.set_cons_succ]
                  refine wpAnyH_take (i := 18) (v := ?_) rfl (by kernel_rfl) (by kernel_rfl) (by kernel_rfl) (fun _ _ _ h => h) (Or.inl ⟨by rfl, ?_⟩) (by assumption) ?_
                  rotate_left 1
                  focus ((intro w hSw; (try dsimp only at hSw); go_simp); try with_reducible rfl)
                  try simp only [Act.put, Array.getInternal_eq_getElem, List.getElem_toArray, List.getElem_cons_zero, List.getElem_cons_succ, List.setIfInBounds_toArray, List.set_cons_zero, List.set_cons_succ]
                  refine wpAnyH_take (i := 19) (v := ?_) rfl (by kernel_rfl) (by kernel_rfl) (by kernel_rfl) (fun _ _ _ h => h) (Or.inl ⟨by rfl, ?_⟩) (by assumption) ?_
                  rotate_left 1
                  focus ((intro w hSw; (try dsimp only at hSw); go_simp); try with_reducible rfl)
                  try simp only [Act.put, Array.getInternal_eq_getElem, List.getElem_toArray, List.getElem_cons_zero, List.getElem_cons_succ, List.setIfInBounds_toArray, List.set_cons_zero, List.set_cons_succ]
                  refine wpAnyH_done (by kernel_rfl) ?_ _
                  go_wp2
                  go_roundw
                  case rel => exact ⟨_, _, m + 1, rfl, rfl, by omega, by go_num, ⟨_, _, fun q hq => ⟨(hA.bd q hq).1, D q hq⟩, fun q hq => (hB.bd q hq).1, hA.ow, hB.ow⟩, HBw⟩
                  case measure => simp [intOf]; omega
          · obtain ⟨h1, h2, h3, h4⟩ := s_bd (w := w) hB hA side1 (fun q h1 h2 => D q h2 h1) HBw rfl
            go_simp
            refine hK1.out _ _ (view_cells (blk_below hv h4)).2.1 (fun _ => ?_)
            clear hK1 K1 hA hB D HBw
            generalize WA01.alloc (.cells #[.slice (some ⟨wd.heap.size, 0, none⟩) N N] 74) = WB11 at *
            have hB := h1; have hA := h2; have D : ∀ q, _ → ¬ _ := fun q a b => h3 q b a; have HBw := h4
            clear h1 h2 h3 h4
            try simp only [Act.put, List.setIfInBounds_toArray, List.set_cons_zero, List.set_cons_succ]
            refine wpAnyH_ready (rs := [7]) (by kernel_rfl) (by simp) ?_
            refine AllReadyH.cons rfl (fun K1 hK1 => ?_) AllReadyH.nil
            · obtain ⟨h1, h2, h3, h4⟩ := s_bd (w := w) hA hB side2 D HBw rfl
              go_simp
              refine hK1.out _ _ (view_cells (blk_below hv h4)).2.1 (fun _ => ?_)
              clear hK1 K1 hA hB D HBw
              generalize WB11.alloc (.cells #[.slice (some ⟨WB00.heap.size, 0, none⟩) N N] 74) = WA12 at *
              have hA := h1; have hB := h2; have D := h3; have HBw := h4
              clear h1 h2 h3 h4
              try simp only [Act.put, List.setIfInBounds_toArray, List.set_cons_zero, List.set_cons_succ]
              refine wpAnyH_ready (rs := [8]) (by kernel_rfl) (by simp) ?_
              refine AllReadyH.cons rfl (fun K1 hK1 => ?_) AllReadyH.nil
              · obtain ⟨vxA22, wxA22, FXA22, hrn, h1, h2, h3, h4⟩ := s_ap (w := w) hNk hmk2 hA hB side2 D HBw rfl
                rw [if_pos (by first | kernel_rfl | rfl | decide)]; refine oper_append _ _ _ _ _ _ rfl (by rfl) (by rfl) hrn ?_; try simp only [Act.put, Array.getInternal_eq_getElem, List.getElem_toArray, List.getElem_cons_zero, List.getElem_cons_succ, List.setIfInBounds_toArray, List.set_cons_zero, List.set_cons_succ]
                refine hK1.out _ _ (view_cells (blk_below hv h4)).2.1 (fun _ => ?_)
                clear hK1 K1 hA hB D HBw
                have hA := h1; have hB := h2; have D := h3; have HBw := h4
                clear h1 h2 h3 h4
                try simp only [Act.put, List.setIfInBounds_toArray, List.set_cons_zero, List.set_cons_succ]
                refine wpAnyH_ready (rs := [17]) (by kernel_rfl) (by simp) ?_
                refine AllReadyH.cons rfl (fun K1 hK1 => ?_) AllReadyH.nil
                · obtain ⟨vxB32, wxB32, FXB32, hrn, h1, h2, h3, h4⟩ := s_ap (w := w) hNk hmk2 hB hA side0 (fun q h1 h2 => D q h2 h1) HBw rfl
                  rw [if_pos (by first | kernel_rfl | rfl | decide)]; refine oper_append _ _ _ _ _ _ rfl (by rfl) (by rfl) hrn ?_; try simp only [Act.put, Array.getInternal_eq_getElem, List.getElem_toArray, List.getElem_cons_zero, List.getElem_cons_succ, List.setIfInBounds_toArray, List.set_cons_zero, List.set_cons_succ]
                  refine hK1.out _ _ (view_cells (blk_below hv h4)).2.1 (fun _ => ?_)
                  clear hK1 K1 hA hB D HBw
                  have hB := h1; have hA := h2; have D : ∀ q, _ → ¬ _ := fun q a b => h3 q b a; have HBw := h4
                  clear h1 h2 h3 h4
                  try simp only [Act.put, List.setIfInBounds_toArray, List.set_cons_zero, List.set_cons_succ]
                  refine wpAnyH_take (i := 18) (v := ?_) rfl (by kernel_rfl) (by kernel_rfl) (by kernel_rfl) (fun _ _ _ h => h) (Or.inl ⟨by rfl, ?_⟩) (by assumption) ?_
                  rotate_left 1
                  focus ((intro w hSw; (try dsimp only at hSw); go_simp); try with_reducible rfl)
                  try simp only [Act.put, Array.getInternal_eq_getElem, List.getElem_toArray, List.getElem_cons_zero, List.getElem_cons_succ, List.setIfInBounds_toArray, List.set_cons_zero, List.set_cons_succ]
                  refine wpAnyH_take (i := 19) (v := ?_) rfl (by kernel_rfl) (by kernel_rfl) (by kernel_rfl) (fun _ _ _ h => h) (Or.inl ⟨by rfl, ?_⟩) (by assumption) ?_
                  rotate_left 1
                  focus ((intro w hSw; (try dsimp only at hSw); go_simp); try with_reducible rfl)
                  try simp only [Act.put, Array.getInternal_eq_getElem, List.getElem_toArray, List.getElem_cons_zero, List.getElem_cons_succ, List.setIfInBounds_toArray, List.set_cons_zero, List.set_cons_succ]
                  refine wpAnyH_done (by kernel_rfl) ?_ _
                  go_wp2
                  go_roundw
                  case rel => exact ⟨_, _, m + 1, rfl, rfl, by omega, by go_num, ⟨_, _, fun q hq => ⟨(hA.bd q hq).1, D q hq⟩, fun q hq => (hB.bd q hq).1, hA.ow, hB.ow⟩, HBw⟩
                  case measure => simp [intOf]; omega
        · obtain ⟨h1, h2, h3, h4⟩ := s_bd (w := w) hB hA side0 (fun q h1 h2 => D q h2 h1) HBw rfl
          go_simp
          refine hK1.out _ _ (view_cells (blk_below hv h4)).2.1 (fun _ => ?_)
          clear hK1 K1 hA hB D HBw
          generalize WB00.alloc (.cells #[.slice (some ⟨wd.heap.size, 0, none⟩) N N] 74) = WB01 at *
          have hB := h1; have hA := h2; have D : ∀ q, _ → ¬ _ := fun q a b => h3 q b a; have HBw := h4
          clear h1 h2 h3 h4
          try simp only [Act.put, List.setIfInBounds_toArray, List.set_cons_zero, List.set_cons_succ]
          refine wpAnyH_ready (rs := [6]) (by kernel_rfl) (by simp) ?_
          refine AllReadyH.cons rfl (fun K1 hK1 => ?_) AllReadyH.nil
          · obtain ⟨h1, h2, h3, h4⟩ := s_mk (w := w) hNk hA hB side2 D HBw rfl
            go_simp
            refine hK1.out _ _ (view_cells (blk_below hv h4)).2.1 (fun _ => ?_)
            clear hK1 K1 hA hB D HBw
            generalize WB01.alloc (.cells (madeCells #[.bool false] N) 4) = WA02 at *
            have hA := h1; have hB := h2; have D := h3; have HBw := h4
            clear h1 h2 h3 h4
            try simp only [Act.put, List.setIfInBounds_toArray, List.set_cons_zero, List.set_cons_succ]
            refine wpAnyH_ready (rs := [7]) (by kernel_rfl) (by simp) ?_
            refine AllReadyH.cons rfl (fun K1 hK1 => ?_) AllReadyH.nil
            · obtain ⟨h1, h2, h3, h4⟩ := s_bd (w := w) hA hB side2 D HBw rfl
              go_simp
              refine hK1.out _ _ (view_cells (blk_below hv h4)).2.1 (fun _ => ?_)
              clear hK1 K1 hA hB D HBw
              generalize WA02.alloc (.cells #[.slice (some ⟨WB01.heap.size, 0, none⟩) N N] 74) = WA12 at *
              have hA := h1; have hB := h2; have D := h3; have HBw := h4
              clear h1 h2 h3 h4
              try simp only [Act.put, List.setIfInBounds_toArray, List.set_cons_zero, List.set_cons_succ]
              refine wpAnyH_ready (rs := [8]) (by kernel_rfl) (by simp) ?_
              refine AllReadyH.cons rfl (fun K1 hK1 => ?_) AllReadyH.nil
              · obtain ⟨vxA22, wxA22, FXA22, hrn, h1, h2, h3, h4⟩ := s_ap (w := w) hNk hmk2 hA hB side2 D HBw rfl
                rw [if_pos (by first | kernel_rfl | rfl | decide)]; refine oper_append _ _ _ _ _ _ rfl (by rfl) (by rfl) hrn ?_; try simp only [Act.put, Array.getInternal_eq_getElem, List.getElem_toArray, List.getElem_cons_zero, List.getElem_cons_succ, List.setIfInBounds_toArray, List.set_cons_zero, List.set_cons_succ]
                refine hK1.out _ _ (view_cells (blk_below hv h4)).2.1 (fun _ => ?_)
                clear hK1 K1 hA hB D HBw
                have hA := h1; have hB := h2; have D := h3; have HBw := h4
                clear h1 h2 h3 h4
                try simp only [Act.put, List.setIfInBounds_toArray, List.set_cons_zero, List.set_cons_succ]
                refine wpAnyH_ready (rs := [17]) (by kernel_rfl) (by simp) ?_
                refine AllReadyH.cons rfl (fun K1 hK1 => ?_) AllReadyH.nil
                · obtain ⟨vxB32, wxB32, FXB32, hrn, h1, h2, h3, h4⟩ := s_ap (w := w) hNk hmk2 hB hA side0 (fun q h1 h2 => D q h2 h1) HBw rfl
                  rw [if_pos (by first | kernel_rfl | rfl | decide)]; refine oper_append _ _ _ _ _ _ rfl (by rfl) (by rfl) hrn ?_; try simp only [Act.put, Array.getInternal_eq_getElem, List.getElem_toArray, List.getElem_cons_zero, List.getElem_cons_succ, List.setIfInBounds_toArray, List.set_cons_zero, List.set_cons_succ]
                  refine hK1.out _ _ (view_cells (blk_below hv h4)).2.1 (fun _ => ?_)
                  clear hK1 K1 hA hB D HBw
                  have hB := h1; have hA := h2; have D : ∀ q, _ → ¬ _ := fun q a b => h3 q b a; have HBw := h4
                  clear h1 h2 h3 h4
                  try simp only [Act.put, List.setIfInBounds_toArray, List.set_cons_zero, List.set_cons_succ]
                  refine wpAnyH_take (i := 18) (v := ?_) rfl (by kernel_rfl) (by kernel_rfl) (by kernel_rfl) (fun _ _ _ h => h) (Or.inl ⟨by rfl, ?_⟩) (by assumption) ?_
                  rotate_left 1
                  focus ((intro w hSw; (try dsimp only at hSw); go_simp); try with_reducible rfl)
                  try simp only [Act.put, Array.getInternal_eq_getElem, List.getElem_toArray, List.getElem_cons_zero, List.getElem_cons_succ, List.setIfInBounds_toArray, List.set_cons_zero, List.set_cons_succ]
                  refine wpAnyH_take (i := 19) (v := ?_) rfl (by kernel_rfl) (by kernel_rfl) (by kernel_rfl) (fun _ _ _ h => h) (Or.inl ⟨by rfl, ?_⟩) (by assumption) ?_
                  rotate_left 1
                  focus ((intro w hSw; (try dsimp only at hSw); go_simp); try with_reducible rfl)
                  try simp only [Act.put, Array.getInternal_eq_getElem, List.getElem_toArray, List.getElem_cons_zero, List.getElem_cons_succ, List.setIfInBounds_toArray, List.set_cons_zero, List.set_cons_succ]
                  refine wpAnyH_done (by kernel_rfl) ?_ _
                  go_wp2
                  go_roundw
                  case rel => exact ⟨_, _, m + 1, rfl, rfl, by omega, by go_num, ⟨_, _, fun q hq => ⟨(hA.bd q hq).1, D q hq⟩, fun q hq => (hB.bd q hq).1, hA.ow, hB.ow⟩, HBw⟩
                  case measure => simp [intOf]; omega
    · obtain rfl : m = s.parts.length := by omega
      obtain ⟨go, co, gi, ci, rfl, rfl, HL⟩ : ∃ go co gi ci, vO = .slice (some ⟨go, 0, none⟩) s.parts.length co ∧ vI = .slice (some ⟨gi, 0, none⟩) s.parts.length ci ∧ LSt s.parts.length N w.heap.size go co gi ci (List.replicate s.parts.length (List.replicate N false)) (List.replicate s.parts.length (List.replicate N false)) wo := by
        obtain ⟨FO, FI, e1, e2, e3, e4⟩ := HS1
        have hl : (List.replicate s.parts.length (List.replicate N false)).length = s.parts.length := List.length_replicate
        obtain ⟨go, co, rfl, _, _⟩ := e3.some_form (by omega)
        obtain ⟨gi, ci, rfl, _, _⟩ := e4.some_form (by omega)
        rw [hl] at e3 e4
        rw [hl]
        have hr : ∀ S ∈ List.replicate s.parts.length (List.replicate N false), S.length = N := fun S hS => by rw [List.eq_of_mem_replicate hS, List.length_replicate]
        exact ⟨go, co, gi, ci, rfl, rfl, hl, hl, hr, hr, FO, FI, e1, e2, e3, e4⟩
      clear HS1 hlt hm hv1
      obtain ⟨gk0, hgk0⟩ : ∃ gk0, gk0 = s.parts.length * N + 1 := ⟨_, rfl⟩
      have hgk1 : gk0 ≤ 100000 := by have := Nat.mul_le_mul hn2 hN1; omega
      have HI0 : Hid (HeadP s (s.parts.length * N) (List.replicate s.parts.length (List.replicate N false)) (List.replicate s.parts.length (List.replicate N false)) true gk0) := Lib.hid ⟨hLI0.out, fun h => Bool.noConfusion h, fun _ => by omega⟩
      clear hLI0 hgk0
      generalize List.replicate s.parts.length (List.replicate N false) = I0 at *
      go_wp2_with fail
      go_loopg [4] gk0 (fun gk av wr => ∃ (ag : Bool) (I O : List (List Bool)), av = .bool ag ∧ LSt s.parts.length N w.heap.size go co gi ci I O wr ∧ Below w.heap.size w wr ∧ gk ≤ 100000 ∧ Hid (HeadP s (s.parts.length * N) I O ag gk))
      case atStart => exact ⟨true, I0, I0, rfl, HL, HB, hgk1, HI0⟩
      case round =>
        clear HI0 HL HB hgk1
        obtain ⟨ag, I, O, rfl, HL, HB, hgk, HI⟩ := hrel
        rename World => wo
        cases ag
        · have HF := Lib.hid (still_all HGP.out HI.out.1 (HI.out.2.1 rfl))
          go_wp2
          refine bodyPost_ret (v := .tuple #[.slice (some ⟨go, 0, none⟩) s.parts.length co, .slice (some ⟨gi, 0, none⟩) s.parts.length ci]) (by simp [results, Try.results172, go_sem]) rfl ?_
          exact .mk go co gi ci I O rfl HL HF HB
        · have HI1 : Hid (LInv s I O ∧ s.parts.length * N + 1 - cntB I ≤ gk) := Lib.hid ⟨HI.out.1, HI.out.2.2 rfl⟩
          clear HI
          have hv1 := blk_below hv HB
          obtain ⟨v0, v1, v2, v3, v4, v5⟩ := view_cells hv1
          obtain ⟨Ix, hIx⟩ : ∃ Ix, Ix = I := ⟨_, rfl⟩
          have HJ0 : Hid (RoundP s Ix I O 0 false) := Lib.hid ⟨HI1.out.1, fun _ q hq => by omega, by rw [hIx]; exact Nat.le_refl _, fun h => Bool.noConfusion h⟩
          have HI2 : Hid (s.parts.length * N + 1 - cntB Ix ≤ gk) := Lib.hid (by rw [hIx]; exact HI1.out.2)
          clear hIx HI1
          go_wp2_with fail
          clear v0 v1 v2 v3 v4 v5 hv1
          go_loopw [4, 44] (fun av i wr => ∃ (j : Nat) (ag : Bool) (I O : List (List Bool)), j ≤ s.parts.length ∧ av = .bool ag ∧ i = .int .i64 j ∧ LSt s.parts.length N w.heap.size go co gi ci I O wr ∧ Below w.heap.size w wr ∧ Hid (RoundP s Ix I O j ag)) (fun _ i _ => s.parts.length - (intOf i).toNat)
          case atStart => exact ⟨0, false, I, O, Nat.zero_le _, rfl, rfl, HL, HB, HJ0⟩
          case round =>
            clear HL HB HJ0
            obtain ⟨j, ag, I, O, hj, rfl, rfl, HL, HB, HJ⟩ := hrel
            rename World => wi
            by_cases hjt : j < s.parts.length
            · have hk : s.parts[j]? = some s.parts[j] := List.getElem?_eq_getElem hjt
              have hmem := List.getElem_mem hjt
              obtain ⟨_, _, _, _, hp, hpar, hcode, hnext, hargs⟩ := hcell j hjt
              obtain ⟨B1, d1, rfl, _⟩ := id hpar
              obtain ⟨B2, d2, rfl, _⟩ := id hcode
              obtain ⟨B3, d3, rfl, _, _, hrn⟩ := rd_int hnext
              obtain ⟨B4, d4, rfl, _⟩ := id hargs
              have hlp := hx2 _ hmem
              have HTurn := Lib.hid (HJ.out.1.turn HGP.out hk)
              have HStill := Lib.hid (fun he hs => still_turn HGP.out HJ.out.1 hk he hs)
              have HCnt := Lib.hid (cnt_turn HGP.out HJ.out.1 hk)
              have HEnd : Hid (∀ m ∈ endsS s.parts[j], 0 ≤ m ∧ m < N) := Lib.hid (fun m hm => by have := HGP.out.use_in hk (.inl hm); have := hNV.out; omega)
              have HPin : Hid (PtIn s.parts[j] N) := Lib.hid ⟨fun x hx => ⟨fun hs => by have := (HGP.out.steps_in hk hx).1 hs; have := hNV.out; omega, fun m hm => by have := (HGP.out.steps_in hk hx).2 m hm; have := hNV.out; omega⟩, fun m hm => by have := HGP.out.own_def hk (v := m) (List.mem_append.2 (.inl hm)); have := hNV.out; omega, hlp.2.1, hlp.1⟩
              have HNx : Hid (∀ x ∈ s.parts[j].next, 0 < x ∧ x < s.parts.length) := Lib.hid (HGP.out.nx _ hmem)
              have HES : Hid (endsS s.parts[j] = (if s.parts[j].go == 2 || s.parts[j].go == 5 then [s.parts[j].test] else []) ++ s.parts[j].args.flatten) := Lib.hid rfl
              have hal := args_len (HGP.out.static hmem)
              have hfl := flat_le 1048576 s.parts[j].args hlp.2.2.2.2
              have hnl := hlp.2.2.1
              clear hk hmem hlp
              generalize s.parts[j] = p at *
              have hfl2 : p.args.flatten.length ≤ 500000000 := by have : p.args.length * 1048576 ≤ 6 * 1048576 := Nat.mul_le_mul_right _ hal; omega
              obtain ⟨fl, hfl0⟩ : ∃ fl, fl = p.args.flatten := ⟨_, rfl⟩
              have HCC : Hid (∀ W, Below w.heap.size w W → Calls Try.prog 171 #[.slice B4 p.args.length d4] W fun e w' => ∃ v', e = .returned v' ∧ Ow true 3 Rp.int w' (fun q => W.heap.size ≤ q) v' fl ∧ Below W.heap.size W w') := Lib.hid (fun W hW => by rw [hfl0]; exact concat_calls _ p.args W (hargs.below hW) (by omega) hfl2)
              rw [← hfl0] at HES
              clear hfl0 hfl2 hfl
              have hv1 := blk_below hv HB
              obtain ⟨v0, v1, v2, v3, v4, v5⟩ := view_cells hv1
              obtain ⟨q0, q1, q2, q3, q4, q5⟩ := partAt_below hp HB
              have hpb := hcell j hjt
              clear hpb
              have m0 : (0 : Int) ≤ (j : Int) := Int.natCast_nonneg _
              have m1 : (j : Int) < (s.parts.length : Int) := by omega
              obtain ⟨S0, hS0⟩ : ∃ S0, S0 = O.getD j [] := ⟨_, rfl⟩
              rw [← hS0] at HTurn HStill HCnt
              replace hS0 := Lib.hid hS0
              have HOr0 : (O.getD j []).length = N := by
                have hjO : j < O.length := by rw [HL.lo]; exact hjt
                rw [List.getD_eq_getElem?_getD, List.getElem?_eq_getElem hjO]; exact HL.ro _ (List.getElem_mem hjO)
              have hjI : j < I.length := by rw [HL.li]; exact hjt
              have hjO : j < O.length := by rw [HL.lo]; exact hjt
              have HNR := Lib.hid hrn
              clear hrn
              have HPAR := Lib.hid hpar
              have HCODE := Lib.hid hcode
              have HHP := Lib.hid hp
              clear hargs hpar hcode hp hnext
              go_wp2_with fail
              refine (HT.out p.go wi).mono ?_
              rintro e w' ⟨rfl, rfl⟩
              rw [HTe.out] at HES
              rw [HTe.out]
              have HES2 := HES
              have HOrow := Lib.hid HOr0
              generalize testB p.go = rt at *
              clear v0 v1 v2 v3 v4 v5 hv1
              cases rt
              · have HA : Hid (endsS p = fl) := Lib.hid (by rw [HES.out]; rfl)
                have HA : Hid (∀ l, addB S0 (fl ++ l) = addB S0 (endsS p ++ l)) := Lib.hid (fun l => by rw [HA.out])
                have HO1 : Hid (O1P O O j S0) := Lib.hid ⟨fun _ => rfl, hS0.out.symm⟩
                have HRg : Hid (∀ m ∈ fl, 0 ≤ m ∧ m < N) := Lib.hid (fun m hm => HEnd.out m (by rw [HES2.out]; exact List.mem_append.2 (.inr hm)))
                have hqx := partAt_below HHP.out HB
                have q5 := hqx.2.2.2.2.2
                obtain ⟨G, g, c, cu, hSl, hGs, hOr, hback⟩ := HL.rowO hN0 hjt
                replace hGs := Lib.hid hGs
                replace hback := Lib.hid hback
                rw [HO1.out.gt] at hSl hOr
                have hgg := HL.lt
                have hbs := Nat.lt_of_lt_of_le hbl HB.size
                clear hqx
                go_wp2_with fail
                refine wp_region_held_drew (S := (fun w' => w'.cell? ⟨go, j, none⟩ = some (.slice (some ⟨g, 0, none⟩) N c) ∧ w'.cell? ⟨b, o + j * 6 + 5, none⟩ = some (.slice B4 p.args.length d4))) (by kernel_rfl) ⟨cu, q5⟩ (fun hH0 => ?_)
                refine wpAnyH_take (i := 0) (v := ?_) rfl (by kernel_rfl) (by kernel_rfl) (by kernel_rfl) (fun _ _ _ h => h) (Or.inl ⟨by rfl, ?_⟩) (by assumption) ?_
                rotate_left 1
                focus ((intro w hSw; (try dsimp only at hSw); go_simp); try with_reducible rfl)
                try simp only [Act.put, Array.getInternal_eq_getElem, List.getElem_toArray, List.getElem_cons_zero, List.getElem_cons_succ, List.setIfInBounds_toArray, List.set_cons_zero, List.set_cons_succ]
                refine wpAnyH_take (i := 1) (v := ?_) rfl (by kernel_rfl) (by kernel_rfl) (by kernel_rfl) (fun _ _ _ h => h) (Or.inl ⟨by rfl, ?_⟩) (by assumption) ?_
                rotate_left 1
                focus ((intro w hSw; (try dsimp only at hSw); go_simp); try with_reducible rfl)
                try simp only [Act.put, Array.getInternal_eq_getElem, List.getElem_toArray, List.getElem_cons_zero, List.getElem_cons_succ, List.setIfInBounds_toArray, List.set_cons_zero, List.set_cons_succ]
                refine wpAnyH_take (i := 2) (v := ?_) rfl (by kernel_rfl) (by kernel_rfl) (by kernel_rfl) (fun _ _ _ h => h) (Or.inl ⟨by rfl, ?_⟩) (by assumption) ?_
                rotate_left 1
                focus ((intro w hSw; (try dsimp only at hSw); go_simp); try with_reducible rfl)
                try simp only [Act.put, Array.getInternal_eq_getElem, List.getElem_toArray, List.getElem_cons_zero, List.getElem_cons_succ, List.setIfInBounds_toArray, List.set_cons_zero, List.set_cons_succ]
                refine wpAnyH_take (i := 3) (v := ?_) rfl (by kernel_rfl) (by kernel_rfl) (by kernel_rfl) (fun _ _ _ h => h) (Or.inl ⟨by rfl, ?_⟩) (by assumption) ?_
                rotate_left 1
                focus ((intro w hSw; (try dsimp only at hSw); go_simp); try with_reducible rfl)
                try simp only [Act.put, Array.getInternal_eq_getElem, List.getElem_toArray, List.getElem_cons_zero, List.getElem_cons_succ, List.setIfInBounds_toArray, List.set_cons_zero, List.set_cons_succ]
                refine wpAnyH_take (i := 4) (v := ?_) rfl (by kernel_rfl) (by kernel_rfl) (by kernel_rfl) (fun _ _ _ h => h) (Or.inl ⟨by rfl, ?_⟩) (by assumption) ?_
                rotate_left 1
                focus ((intro w hSw; (try dsimp only at hSw); go_simp); try with_reducible rfl)
                try simp only [Act.put, Array.getInternal_eq_getElem, List.getElem_toArray, List.getElem_cons_zero, List.getElem_cons_succ, List.setIfInBounds_toArray, List.set_cons_zero, List.set_cons_succ]
                refine wpAnyH_take (i := 5) (v := ?_) rfl (by kernel_rfl) (by kernel_rfl) (by kernel_rfl) (fun _ _ _ h => h) (Or.inl ⟨by rfl, ?_⟩) (by assumption) ?_
                rotate_left 1
                focus ((intro w hSw; (try dsimp only at hSw); go_simp); try with_reducible rfl)
                try simp only [Act.put, Array.getInternal_eq_getElem, List.getElem_toArray, List.getElem_cons_zero, List.getElem_cons_succ, List.setIfInBounds_toArray, List.set_cons_zero, List.set_cons_succ]
                refine wpAnyH_take (i := 6) (v := ?_) rfl (by kernel_rfl) (by kernel_rfl) (by kernel_rfl) (fun _ _ _ h => h) (Or.inl ⟨by rfl, ?_⟩) (by assumption) ?_
                rotate_left 1
                focus ((intro w hSw; (try dsimp only at hSw); go_simp); try with_reducible rfl)
                try simp only [Act.put, Array.getInternal_eq_getElem, List.getElem_toArray, List.getElem_cons_zero, List.getElem_cons_succ, List.setIfInBounds_toArray, List.set_cons_zero, List.set_cons_succ]
                refine wpAnyH_take (i := 7) (v := ?_) rfl (by kernel_rfl) (by kernel_rfl) (by kernel_rfl) (fun _ _ _ h => h) (Or.inl ⟨by rfl, ?_⟩) (by assumption) ?_
                rotate_left 1
                focus ((intro w hSw; (try dsimp only at hSw); go_simp); try with_reducible rfl)
                try simp only [Act.put, Array.getInternal_eq_getElem, List.getElem_toArray, List.getElem_cons_zero, List.getElem_cons_succ, List.setIfInBounds_toArray, List.set_cons_zero, List.set_cons_succ]
                refine wpAnyH_ready (rs := [8]) (by kernel_rfl) (by simp) ?_
                refine AllReadyH.cons rfl (fun K1 hK1 => ?_) AllReadyH.nil
                try simp only [Array.getInternal_eq_getElem, List.getElem_toArray, List.getElem_cons_zero, List.getElem_cons_succ]
                go_simp
                go_at_call 171
                refine (HCC.out _ (below_drew HB)).mono ?_
                rintro e wc ⟨vc, rfl, hvc, hbc⟩
                obtain ⟨Ac, kc, rfl, _, _⟩ := hvc.form
                go_wp2_with fail
                refine hK1.out _ _ ⟨cell_below hbc cu, cell_below hbc q5⟩ (fun hH1 => ?_)
                clear hK1 K1
                try simp only [Act.put, List.setIfInBounds_toArray, List.set_cons_zero, List.set_cons_succ]
                refine wpAnyH_ready (rs := [9]) (by kernel_rfl) (by simp) ?_
                refine AllReadyH.cons rfl (fun K2 hK2 => ?_) AllReadyH.nil
                try simp only [Array.getInternal_eq_getElem, List.getElem_toArray, List.getElem_cons_zero, List.getElem_cons_succ]
                go_simp
                go_at_call 114
                refine (setAddN_calls g c N S0 _ _ G _ hSl (hOr.below (below_then (below_drew (Below.refl _ _)) hbc)) hvc.rd (fun q hq hG => by have hG := hGs.out _ hG; have hq : wi.drew.heap.size ≤ q := hq; simp only [Lib_hsd] at hq; omega) HRg.out).mono ?_
                rintro e wa ⟨rfl, hOa, hCa⟩
                go_wp2_with fail
                refine hK2.out _ _ ⟨hCa.cell hH1.1 (fun h => (hGs.out _ h).2.1 rfl), hCa.cell hH1.2 (fun h => absurd (hGs.out _ h).1 (Nat.not_le_of_lt hbl))⟩ (fun hH2 => ?_)
                clear hK2 K2
                try simp only [Act.put, List.setIfInBounds_toArray, List.set_cons_zero, List.set_cons_succ]
                refine wpAnyH_done (by kernel_rfl) ?_ _
                have hbcx := below_then (below_drew (Below.refl wi.heap.size wi)) hbc
                have hCx := (Chg.of_below hbcx).trans hCa
                have HL2 := hback.out wa _ (by rw [addB_len]; exact hSl) hCx hOa
                have HB2 := hCx.to_below HB HB.size (fun q hq => (hGs.out q hq).1)
                rw [HO1.out.st] at HL2
                have HL3 : LSt s.parts.length N w.heap.size go co gi ci I (O.set j (addB S0 (endsS p ++ (p.next.take 0).flatMap (fun x => listB (I.getD x.toNat []))))) wa := by
                  have := HA.out []
                  rw [List.append_nil] at this
                  rw [List.take_zero, List.flatMap_nil, ← HA.out []]
                  rw [List.append_nil]
                  exact HL2
                clear HL2 hbcx hCx hCa hOa hvc hbc hOr hback cu q5 HL HB HO1 HA HRg hSl hGs hgg
                obtain ⟨q0, q1, q2, q3, q4, q5⟩ := partAt_below HHP.out HB2
                have hS0l : S0.length = N := by rw [hS0.out]; exact HOrow.out
                go_wp2_with fail
                clear q0 q1 q2 q3 q4 q5
                go_loopw [84] (fun i wr => ∃ k : Nat, k ≤ p.next.length ∧ i = .int .i64 k ∧ LSt s.parts.length N w.heap.size go co gi ci I (O.set j (addB S0 (endsS p ++ (p.next.take k).flatMap (fun x => listB (I.getD x.toNat []))))) wr ∧ Below w.heap.size w wr) (fun i _ => p.next.length - (intOf i).toNat)
                case atStart => exact ⟨0, Nat.zero_le _, rfl, HL3, HB2⟩
                case round =>
                  clear HL3 HB2
                  obtain ⟨k, hk, rfl, HL, HB⟩ := hrel
                  rename World => wk
                  by_cases hkt : k < p.next.length
                  · have hxr := HNx.out _ (List.getElem_mem hkt)
                    have hxn := Lib.hid (rfl : (p.next.take (k + 1)).flatMap (fun x => listB (I.getD x.toNat [])) = (p.next.take (k + 1)).flatMap (fun x => listB (I.getD x.toNat [])))
                    have HTk : Hid ((p.next.take (k + 1)).flatMap (fun x => listB (I.getD x.toNat [])) = (p.next.take k).flatMap (fun x => listB (I.getD x.toNat [])) ++ listB (I.getD p.next[k].toNat [])) := Lib.hid (by rw [List.take_succ_eq_append_getElem hkt, List.flatMap_append]; simp)
                    rcases HNR.out with hnil | ⟨b3, o3, hB3e, hb3, hcn⟩
                    · rw [hnil] at hkt; simp at hkt
                    rw [hB3e]
                    have cv := cell_below HB (hcn k hkt)
                    clear hcn hxn
                    generalize p.next[k] = x at *
                    obtain ⟨n, rfl⟩ := Int.eq_ofNat_of_zero_le (Int.le_of_lt hxr.1)
                    have hnt : n < s.parts.length := by omega
                    rw [Int.toNat_natCast] at HTk
                    have hjO2 : (O.set j (addB S0 (endsS p ++ (p.next.take k).flatMap (fun x => listB (I.getD x.toNat []))))).getD j [] = addB S0 (endsS p ++ (p.next.take k).flatMap (fun x => listB (I.getD x.toNat []))) := getD_set_same hjO _ _
                    obtain ⟨G, g, c, cu, hSl, hGs, hOr, hback⟩ := HL.rowO hN0 hjt
                    replace hGs := Lib.hid hGs
                    replace hback := Lib.hid hback
                    obtain ⟨g2, c2, cu2, hIl, hRI⟩ := HL.rowI hN0 hnt
                    rw [hjO2] at hSl hOr
                    have hgg := HL.lt
                    have HSS : Hid (∀ y, (O.set j (addB S0 (endsS p ++ (p.next.take k).flatMap (fun x => listB (I.getD x.toNat []))))).set j y = O.set j y) := Lib.hid (fun y => List.set_set _)
                    have HAp : (addB (addB S0 (endsS p ++ (p.next.take k).flatMap (fun x => listB (I.getD x.toNat [])))) (listB (I.getD n [])) = addB S0 (endsS p ++ (p.next.take (k + 1)).flatMap (fun x => listB (I.getD x.toNat [])))) := (by rw [addB_append, List.append_assoc, ← HTk.out])
                    have hrg : ∀ m ∈ listB (I.getD n []), 0 ≤ m ∧ m < N := fun m hm => by have := InB_len (mem_listB.1 hm); omega
                    clear hjO2 HTk
                    obtain ⟨Tk, hTk⟩ : ∃ Tk, Tk = addB S0 (endsS p ++ (p.next.take (k + 1)).flatMap (fun x => listB (I.getD x.toNat []))) := ⟨_, rfl⟩
                    rw [← hTk] at HAp
                    replace hTk := Lib.hid hTk
                    generalize addB S0 (endsS p ++ (p.next.take k).flatMap (fun x => listB (I.getD x.toNat []))) = Sc at *
                    obtain ⟨Si, hSi⟩ : ∃ Si, Si = I.getD n [] := ⟨_, rfl⟩
                    rw [← hSi] at hIl hRI HAp hrg
                    clear hSi
                    obtain ⟨li, hli⟩ : ∃ li, li = listB Si := ⟨_, rfl⟩
                    have hLO : Hid (∀ W, Below wk.heap.size wk W → Calls Try.prog 53 #[.slice (some ⟨g2, 0, none⟩) N c2] W fun e w' => ∃ v', e = .returned v' ∧ Ow true 3 Rp.int w' (fun q => W.heap.size ≤ q) v' li ∧ Below W.heap.size W w') := Lib.hid (fun W hW => by rw [hli]; exact listOf_calls _ Si _ (hRI.below hW) (by omega))
                    rw [← hli] at HAp hrg
                    replace hrg := Lib.hid hrg
                    clear hli hRI hIl
                    replace HAp := Lib.hid HAp
                    have k0 : (0 : Int) ≤ (k : Int) := Int.natCast_nonneg _
                    have k1 : (k : Int) < (p.next.length : Int) := by omega
                    have n0 : (0 : Int) ≤ (n : Int) := Int.natCast_nonneg _
                    have n1 : (n : Int) < (s.parts.length : Int) := by omega
                    go_wp2_with fail
                    refine wp_region_held_drew (S := (fun w' => w'.cell? ⟨go, j, none⟩ = some (.slice (some ⟨g, 0, none⟩) N c) ∧ w'.cell? ⟨gi, n, none⟩ = some (.slice (some ⟨g2, 0, none⟩) N c2))) (by kernel_rfl) ⟨cu, cu2⟩ (fun hH0 => ?_)
                    refine wpAnyH_take (i := 0) (v := ?_) rfl (by kernel_rfl) (by kernel_rfl) (by kernel_rfl) (fun _ _ _ h => h) (Or.inl ⟨by rfl, ?_⟩) (by assumption) ?_
                    rotate_left 1
                    focus ((intro w hSw; (try dsimp only at hSw); go_simp); try with_reducible rfl)
                    try simp only [Act.put, Array.getInternal_eq_getElem, List.getElem_toArray, List.getElem_cons_zero, List.getElem_cons_succ, List.setIfInBounds_toArray, List.set_cons_zero, List.set_cons_succ]
                    refine wpAnyH_take (i := 1) (v := ?_) rfl (by kernel_rfl) (by kernel_rfl) (by kernel_rfl) (fun _ _ _ h => h) (Or.inl ⟨by rfl, ?_⟩) (by assumption) ?_
                    rotate_left 1
                    focus ((intro w hSw; (try dsimp only at hSw); go_simp); try with_reducible rfl)
                    try simp only [Act.put, Array.getInternal_eq_getElem, List.getElem_toArray, List.getElem_cons_zero, List.getElem_cons_succ, List.setIfInBounds_toArray, List.set_cons_zero, List.set_cons_succ]
                    refine wpAnyH_take (i := 2) (v := ?_) rfl (by kernel_rfl) (by kernel_rfl) (by kernel_rfl) (fun _ _ _ h => h) (Or.inl ⟨by rfl, ?_⟩) (by assumption) ?_
                    rotate_left 1
                    focus ((intro w hSw; (try dsimp only at hSw); go_simp); try with_reducible rfl)
                    try simp only [Act.put, Array.getInternal_eq_getElem, List.getElem_toArray, List.getElem_cons_zero, List.getElem_cons_succ, List.setIfInBounds_toArray, List.set_cons_zero, List.set_cons_succ]
                    refine wpAnyH_take (i := 3) (v := ?_) rfl (by kernel_rfl) (by kernel_rfl) (by kernel_rfl) (fun _ _ _ h => h) (Or.inl ⟨by rfl, ?_⟩) (by assumption) ?_
                    rotate_left 1
                    focus ((intro w hSw; (try dsimp only at hSw); go_simp); try with_reducible rfl)
                    try simp only [Act.put, Array.getInternal_eq_getElem, List.getElem_toArray, List.getElem_cons_zero, List.getElem_cons_succ, List.setIfInBounds_toArray, List.set_cons_zero, List.set_cons_succ]
                    refine wpAnyH_take (i := 4) (v := ?_) rfl (by kernel_rfl) (by kernel_rfl) (by kernel_rfl) (fun _ _ _ h => h) (Or.inl ⟨by rfl, ?_⟩) (by assumption) ?_
                    rotate_left 1
                    focus ((intro w hSw; (try dsimp only at hSw); go_simp); try with_reducible rfl)
                    try simp only [Act.put, Array.getInternal_eq_getElem, List.getElem_toArray, List.getElem_cons_zero, List.getElem_cons_succ, List.setIfInBounds_toArray, List.set_cons_zero, List.set_cons_succ]
                    refine wpAnyH_take (i := 5) (v := ?_) rfl (by kernel_rfl) (by kernel_rfl) (by kernel_rfl) (fun _ _ _ h => h) (Or.inl ⟨by rfl, ?_⟩) (by assumption) ?_
                    rotate_left 1
                    focus ((intro w hSw; (try dsimp only at hSw); go_simp); try with_reducible rfl)
                    try simp only [Act.put, Array.getInternal_eq_getElem, List.getElem_toArray, List.getElem_cons_zero, List.getElem_cons_succ, List.setIfInBounds_toArray, List.set_cons_zero, List.set_cons_succ]
                    refine wpAnyH_take (i := 6) (v := ?_) rfl (by kernel_rfl) (by kernel_rfl) (by kernel_rfl) (fun _ _ _ h => h) (Or.inl ⟨by rfl, ?_⟩) (by assumption) ?_
                    rotate_left 1
                    focus ((intro w hSw; (try dsimp only at hSw); go_simp); try with_reducible rfl)
                    try simp only [Act.put, Array.getInternal_eq_getElem, List.getElem_toArray, List.getElem_cons_zero, List.getElem_cons_succ, List.setIfInBounds_toArray, List.set_cons_zero, List.set_cons_succ]
                    refine wpAnyH_take (i := 7) (v := ?_) rfl (by kernel_rfl) (by kernel_rfl) (by kernel_rfl) (fun _ _ _ h => h) (Or.inl ⟨by rfl, ?_⟩) (by assumption) ?_
                    rotate_left 1
                    focus ((intro w hSw; (try dsimp only at hSw); go_simp); try with_reducible rfl)
                    try simp only [Act.put, Array.getInternal_eq_getElem, List.getElem_toArray, List.getElem_cons_zero, List.getElem_cons_succ, List.setIfInBounds_toArray, List.set_cons_zero, List.set_cons_succ]
                    refine wpAnyH_ready (rs := [8]) (by kernel_rfl) (by simp) ?_
                    refine AllReadyH.cons rfl (fun K1 hK1 => ?_) AllReadyH.nil
                    try simp only [Array.getInternal_eq_getElem, List.getElem_toArray, List.getElem_cons_zero, List.getElem_cons_succ]
                    go_simp
                    go_at_call 53
                    refine (hLO.out _ (below_drew (Below.refl _ _))).mono ?_
                    rintro e wc ⟨vc, rfl, hvc, hbc⟩
                    obtain ⟨Ac, kc, rfl, _, _⟩ := hvc.form
                    go_wp2_with fail
                    refine hK1.out _ _ ⟨cell_below hbc cu, cell_below hbc cu2⟩ (fun hH1 => ?_)
                    clear hK1 K1
                    try simp only [Act.put, List.setIfInBounds_toArray, List.set_cons_zero, List.set_cons_succ]
                    refine wpAnyH_ready (rs := [9]) (by kernel_rfl) (by simp) ?_
                    refine AllReadyH.cons rfl (fun K2 hK2 => ?_) AllReadyH.nil
                    try simp only [Array.getInternal_eq_getElem, List.getElem_toArray, List.getElem_cons_zero, List.getElem_cons_succ]
                    go_simp
                    go_at_call 114
                    refine (setAddN_calls g c N Sc _ _ G _ hSl (hOr.below (below_then (below_drew (Below.refl _ _)) hbc)) hvc.rd (fun q hq hG => by have hG := hGs.out _ hG; have hq : wk.drew.heap.size ≤ q := hq; simp only [Lib_hsd] at hq; omega) hrg.out).mono ?_
                    rintro e wa ⟨rfl, hOa, hCa⟩
                    go_wp2_with fail
                    refine hK2.out _ _ ⟨hCa.cell hH1.1 (fun h => (hGs.out _ h).2.1 rfl), hCa.cell hH1.2 (fun h => (hGs.out _ h).2.2.1 rfl)⟩ (fun hH2 => ?_)
                    clear hK2 K2
                    try simp only [Act.put, List.setIfInBounds_toArray, List.set_cons_zero, List.set_cons_succ]
                    refine wpAnyH_done (by kernel_rfl) ?_ _
                    have hbcx := below_then (below_drew (Below.refl wk.heap.size wk)) hbc
                    have hCx := (Chg.of_below hbcx).trans hCa
                    have HL2 := hback.out wa _ (by rw [addB_len]; exact hSl) hCx hOa
                    have HB2 := hCx.to_below HB HB.size (fun q hq => (hGs.out q hq).1)
                    rw [HSS.out, HAp.out, hTk.out] at HL2
                    clear hbcx hCx hCa hOa hvc hbc hOr hback cu cu2 HL HB hgg
                    go_wp2
                    go_roundw
                    case rel => exact ⟨k + 1, by omega, by go_num, HL2, HB2⟩
                    case measure => simp [intOf]; omega
                  · obtain rfl : k = p.next.length := by omega
                    rw [List.take_length] at HL
                    have HBh : Hid (addB S0 (endsS p ++ p.next.flatMap (fun x => listB (I.getD x.toNat []))) = bhB I p S0) := Lib.hid rfl
                    rw [HBh.out] at HL
                    have hbl2 : (bhB I p S0).length = N := by rw [bhB_len]; exact hS0l
                    have hjO2 : (O.set j (bhB I p S0)).getD j [] = bhB I p S0 := getD_set_same hjO _ _
                    have hnewl : (liveB p (bhB I p S0)).length = N := by rw [liveB_len]; exact hbl2
                    obtain ⟨G, g, c, cu, hSl, hGs, hOr, hback⟩ := HL.rowO hN0 hjt
                    rw [hjO2] at hSl hOr
                    have hpx := partAt_below HHP.out HB
                    have HLv := Lib.hid (live0_calls p N b (o + j * 6) _ _ _ _ _ (bhB I p S0) wk hpx (HPAR.out.below HB) (HCODE.out.below HB) hOr.rd hSl hN0 (by omega) HPin.out)
                    clear hback hOr hjO2 HBh hpx hGs
                    generalize hbh : bhB I p S0 = bh at *
                    go_wp2_with fail
                    refine HLv.out.mono ?_
                    rintro e wl ⟨vn, rfl, hvn, hbl3⟩
                    obtain ⟨An, cn, hve, _, _⟩ := hvn.form
                    subst hve
                    rw [hnewl] at hvn ⊢
                    have HLl := HL.below hbl3
                    have HBl := below_then HB hbl3
                    have hgl := HLl.lt
                    clear cu HLv hSl
                    generalize hnw : liveB p bh = nw at *
                    cases ag
                    · obtain ⟨g2, c2, cu2, hIl, hRI⟩ := HLl.rowI hN0 hjt
                      have HEq := Lib.hid (equalB_calls _ _ nw (I.getD j []) wl hvn.rd hRI (by omega))
                      go_wp2_with fail
                      refine HEq.out.mono ?_
                      rintro e we ⟨rfl, qn, rfl⟩
                      have hbe : Below wl.heap.size wl (wl.drewN qn) := below_drewN (Below.refl _ _) _
                      obtain ⟨HLp, ⟨u, hu⟩, hfu⟩ := HL.putI (v := .slice An N cn) (below_then hbl3 hbe) HB.size hnewl hjt (hvn.below hbe)
                      have HBp := (Chg.set (w := wl.drewN qn) (b := gi) (o := j) (u := .slice An N cn) (A := fun q => q = gi) rfl).to_below (below_then HBl hbe) (below_then HBl hbe).size (fun q hq => by have hq : q = gi := hq; omega)
                      by_cases hne : nw = I.getD j []
                      · have hd : decide (nw = I.getD j []) = true := decide_eq_true hne
                        have HR : Hid (RoundP s Ix (I.set j nw) (O.set j bh) (j + 1) false) := Lib.hid (by
                          obtain ⟨r1, r2, r3, r4⟩ := HJ.out
                          have hst := HStill.out hne (r2 rfl)
                          refine ⟨HTurn.out.1, fun _ q hq => ?_, Nat.le_trans r3 HCnt.out.1, fun h => Bool.noConfusion h⟩
                          rw [hst.1]; exact hst.2 q hq)
                        rw [hd]
                        clear HEq HJ HTurn HStill HCnt cu2 hRI hd
                        generalize wl.drewN qn = we at *
                        go_wp2
                        go_roundw
                        case rel => exact ⟨j + 1, false, I.set j nw, O.set j bh, by omega, rfl, by go_num, HLp, HBp, HR⟩
                        case measure => simp [intOf]; omega
                      · have hd : decide (nw = I.getD j []) = false := decide_eq_false hne
                        have HR : Hid (RoundP s Ix (I.set j nw) (O.set j bh) (j + 1) true) := Lib.hid (by
                          obtain ⟨r1, r2, r3, r4⟩ := HJ.out
                          exact ⟨HTurn.out.1, fun h => Bool.noConfusion h, Nat.le_trans r3 HCnt.out.1, fun _ => Nat.lt_of_le_of_lt r3 (HCnt.out.2 hne)⟩)
                        rw [hd]
                        clear HEq HJ HTurn HStill HCnt cu2 hRI hd
                        generalize wl.drewN qn = we at *
                        go_wp2
                        go_roundw
                        case rel => exact ⟨j + 1, true, I.set j nw, O.set j bh, by omega, rfl, by go_num, HLp, HBp, HR⟩
                        case measure => simp [intOf]; omega
                    · obtain ⟨HLp, ⟨u, hu⟩, hfu⟩ := HL.putI (v := .slice An N cn) hbl3 HB.size hnewl hjt hvn
                      have HBp := (Chg.set (w := wl) (b := gi) (o := j) (u := .slice An N cn) (A := fun q => q = gi) rfl).to_below HBl HBl.size (fun q hq => by have hq : q = gi := hq; omega)
                      have HR : Hid (RoundP s Ix (I.set j nw) (O.set j bh) (j + 1) true) := Lib.hid (by
                        obtain ⟨r1, r2, r3, r4⟩ := HJ.out
                        exact ⟨HTurn.out.1, fun h => Bool.noConfusion h, Nat.le_trans r3 HCnt.out.1, fun _ => Nat.lt_of_lt_of_le (r4 rfl) HCnt.out.1⟩)
                      clear HJ HTurn HStill HCnt
                      go_wp2
                      go_roundw
                      case rel => exact ⟨j + 1, true, I.set j nw, O.set j bh, by omega, rfl, by go_num, HLp, HBp, HR⟩
                      case measure => simp [intOf]; omega
              · have hvt : Hid (endsS p = p.test :: fl) := Lib.hid (by rw [HES.out]; rfl)
                have HRg : Hid (∀ m ∈ fl, 0 ≤ m ∧ m < N) := Lib.hid (fun m hm => HEnd.out m (by rw [HES2.out]; exact List.mem_append.2 (.inr hm)))
                have HRt : Hid (∀ m ∈ [p.test], 0 ≤ m ∧ m < N) := Lib.hid (fun m hm => HEnd.out m (by rw [hvt.out]; rw [List.mem_singleton.1 hm]; exact List.mem_cons_self))
                have q3 := (partAt_below HHP.out HB).2.2.2.1
                obtain ⟨G, g, c, cu, hSl, hGs, hOr, hback⟩ := HL.rowO hN0 hjt
                replace hGs := Lib.hid hGs
                replace hback := Lib.hid hback
                rw [← hS0.out] at hSl hOr
                have hgg := HL.lt
                go_wp2_with fail
                refine wp_region_held_drew (S := (fun w' => w'.cell? ⟨go, j, none⟩ = some (.slice (some ⟨g, 0, none⟩) N c) ∧ w'.cell? ⟨b, o + j * 6 + 3, none⟩ = some (.int .i64 p.test))) (by kernel_rfl) ⟨cu, q3⟩ (fun hH0 => ?_)
                refine wpAnyH_take (i := 0) (v := ?_) rfl (by kernel_rfl) (by kernel_rfl) (by kernel_rfl) (fun _ _ _ h => h) (Or.inl ⟨by rfl, ?_⟩) (by assumption) ?_
                rotate_left 1
                focus ((intro w hSw; (try dsimp only at hSw); go_simp); try with_reducible rfl)
                try simp only [Act.put, Array.getInternal_eq_getElem, List.getElem_toArray, List.getElem_cons_zero, List.getElem_cons_succ, List.setIfInBounds_toArray, List.set_cons_zero, List.set_cons_succ]
                refine wpAnyH_take (i := 1) (v := ?_) rfl (by kernel_rfl) (by kernel_rfl) (by kernel_rfl) (fun _ _ _ h => h) (Or.inl ⟨by rfl, ?_⟩) (by assumption) ?_
                rotate_left 1
                focus ((intro w hSw; (try dsimp only at hSw); go_simp); try with_reducible rfl)
                try simp only [Act.put, Array.getInternal_eq_getElem, List.getElem_toArray, List.getElem_cons_zero, List.getElem_cons_succ, List.setIfInBounds_toArray, List.set_cons_zero, List.set_cons_succ]
                refine wpAnyH_take (i := 2) (v := ?_) rfl (by kernel_rfl) (by kernel_rfl) (by kernel_rfl) (fun _ _ _ h => h) (Or.inl ⟨by rfl, ?_⟩) (by assumption) ?_
                rotate_left 1
                focus ((intro w hSw; (try dsimp only at hSw); go_simp); try with_reducible rfl)
                try simp only [Act.put, Array.getInternal_eq_getElem, List.getElem_toArray, List.getElem_cons_zero, List.getElem_cons_succ, List.setIfInBounds_toArray, List.set_cons_zero, List.set_cons_succ]
                refine wpAnyH_take (i := 3) (v := ?_) rfl (by kernel_rfl) (by kernel_rfl) (by kernel_rfl) (fun _ _ _ h => h) (Or.inl ⟨by rfl, ?_⟩) (by assumption) ?_
                rotate_left 1
                focus ((intro w hSw; (try dsimp only at hSw); go_simp); try with_reducible rfl)
                try simp only [Act.put, Array.getInternal_eq_getElem, List.getElem_toArray, List.getElem_cons_zero, List.getElem_cons_succ, List.setIfInBounds_toArray, List.set_cons_zero, List.set_cons_succ]
                refine wpAnyH_take (i := 4) (v := ?_) rfl (by kernel_rfl) (by kernel_rfl) (by kernel_rfl) (fun _ _ _ h => h) (Or.inl ⟨by rfl, ?_⟩) (by assumption) ?_
                rotate_left 1
                focus ((intro w hSw; (try dsimp only at hSw); go_simp); try with_reducible rfl)
                try simp only [Act.put, Array.getInternal_eq_getElem, List.getElem_toArray, List.getElem_cons_zero, List.getElem_cons_succ, List.setIfInBounds_toArray, List.set_cons_zero, List.set_cons_succ]
                refine wpAnyH_take (i := 5) (v := ?_) rfl (by kernel_rfl) (by kernel_rfl) (by kernel_rfl) (fun _ _ _ h => h) (Or.inl ⟨by rfl, ?_⟩) (by assumption) ?_
                rotate_left 1
                focus ((intro w hSw; (try dsimp only at hSw); go_simp); try with_reducible rfl)
                try simp only [Act.put, Array.getInternal_eq_getElem, List.getElem_toArray, List.getElem_cons_zero, List.getElem_cons_succ, List.setIfInBounds_toArray, List.set_cons_zero, List.set_cons_succ]
                refine wpAnyH_take (i := 6) (v := ?_) rfl (by kernel_rfl) (by kernel_rfl) (by kernel_rfl) (fun _ _ _ h => h) (Or.inl ⟨by rfl, ?_⟩) (by assumption) ?_
                rotate_left 1
                focus ((intro w hSw; (try dsimp only at hSw); go_simp); try with_reducible rfl)
                try simp only [Act.put, Array.getInternal_eq_getElem, List.getElem_toArray, List.getElem_cons_zero, List.getElem_cons_succ, List.setIfInBounds_toArray, List.set_cons_zero, List.set_cons_succ]
                refine wpAnyH_take (i := 7) (v := ?_) rfl (by kernel_rfl) (by kernel_rfl) (by kernel_rfl) (fun _ _ _ h => h) (Or.inl ⟨by rfl, ?_⟩) (by assumption) ?_
                rotate_left 1
                focus ((intro w hSw; (try dsimp only at hSw); go_simp); try with_reducible rfl)
                try simp only [Act.put, Array.getInternal_eq_getElem, List.getElem_toArray, List.getElem_cons_zero, List.getElem_cons_succ, List.setIfInBounds_toArray, List.set_cons_zero, List.set_cons_succ]
                refine wpAnyH_ready (rs := [8]) (by kernel_rfl) (by simp) ?_
                refine AllReadyH.cons rfl (fun K1 hK1 => ?_) AllReadyH.nil
                try simp only [Array.getInternal_eq_getElem, List.getElem_toArray, List.getElem_cons_zero, List.getElem_cons_succ]
                go_simp
                refine hK1.out _ _ ⟨cell_below (below_new _) hH0.1, cell_below (below_new _) hH0.2⟩ (fun hH1 => ?_)
                clear hK1 K1
                try simp only [Act.put, List.setIfInBounds_toArray, List.set_cons_zero, List.set_cons_succ]
                refine wpAnyH_ready (rs := [9]) (by kernel_rfl) (by simp) ?_
                refine AllReadyH.cons rfl (fun K2 hK2 => ?_) AllReadyH.nil
                try simp only [Array.getInternal_eq_getElem, List.getElem_toArray, List.getElem_cons_zero, List.getElem_cons_succ]
                go_simp
                go_at_call 114
                refine (setAddN_calls g c N S0 _ [p.test] G _ hSl (hOr.below (below_then (below_drew (Below.refl _ _)) (below_new _))) (rd_new1 _ _) (fun q hq hG => by have hG := hGs.out _ hG; have hq : wi.drew.heap.size ≤ q := hq; simp only [Lib_hsd] at hq; omega) HRt.out).mono ?_
                rintro e w1 ⟨rfl, hOa, hCa⟩
                go_wp2_with fail
                refine hK2.out _ _ ⟨hCa.cell hH1.1 (fun h => (hGs.out _ h).2.1 rfl), hCa.cell hH1.2 (fun h => absurd (hGs.out _ h).1 (Nat.not_le_of_lt hbl))⟩ (fun hH2 => ?_)
                clear hK2 K2
                try simp only [Act.put, List.setIfInBounds_toArray, List.set_cons_zero, List.set_cons_succ]
                refine wpAnyH_done (by kernel_rfl) ?_ _
                have hbcx := below_then (below_drew (Below.refl wi.heap.size wi)) (below_new (w := wi.drew) (.cells #[.int .i64 p.test] 3))
                have hCx := (Chg.of_below hbcx).trans hCa
                have HL1 := hback.out w1 _ (by rw [addB_len]; exact hSl) hCx hOa
                have HB1 := hCx.to_below HB HB.size (fun q hq => (hGs.out q hq).1)
                have HO1 : Hid (O1P (O.set j (addB S0 [p.test])) O j (addB S0 [p.test])) := Lib.hid ⟨fun y => List.set_set _, getD_set_same hjO _ _⟩
                have HA : Hid (∀ l, addB (addB S0 [p.test]) (fl ++ l) = addB S0 (endsS p ++ l)) := Lib.hid (fun l => by rw [addB_append, hvt.out]; rfl)
                obtain ⟨Sc, hSc⟩ : ∃ Sc, Sc = addB S0 [p.test] := ⟨_, rfl⟩
                rw [← hSc] at HO1 HA HL1
                clear hSc hbcx hCx hCa hOa hOr hback cu q3 HL HB hSl hGs hgg hvt HRt hH0 hH1 hH2 q0 q1 q2 q4 q5
                obtain ⟨O1, hO1⟩ : ∃ O1, O1 = O.set j Sc := ⟨_, rfl⟩
                rw [← hO1] at HO1 HL1
                clear hO1
                have hqx := partAt_below HHP.out HB1
                have q5 := hqx.2.2.2.2.2
                obtain ⟨G, g, c, cu, hSl, hGs, hOr, hback⟩ := HL1.rowO hN0 hjt
                replace hGs := Lib.hid hGs
                replace hback := Lib.hid hback
                rw [HO1.out.gt] at hSl hOr
                have hgg := HL1.lt
                have hbs := Nat.lt_of_lt_of_le hbl HB1.size
                clear hqx
                go_wp2_with fail
                refine wp_region_held_drew (S := (fun w' => w'.cell? ⟨go, j, none⟩ = some (.slice (some ⟨g, 0, none⟩) N c) ∧ w'.cell? ⟨b, o + j * 6 + 5, none⟩ = some (.slice B4 p.args.length d4))) (by kernel_rfl) ⟨cu, q5⟩ (fun hH0 => ?_)
                refine wpAnyH_take (i := 0) (v := ?_) rfl (by kernel_rfl) (by kernel_rfl) (by kernel_rfl) (fun _ _ _ h => h) (Or.inl ⟨by rfl, ?_⟩) (by assumption) ?_
                rotate_left 1
                focus ((intro w hSw; (try dsimp only at hSw); go_simp); try with_reducible rfl)
                try simp only [Act.put, Array.getInternal_eq_getElem, List.getElem_toArray, List.getElem_cons_zero, List.getElem_cons_succ, List.setIfInBounds_toArray, List.set_cons_zero, List.set_cons_succ]
                refine wpAnyH_take (i := 1) (v := ?_) rfl (by kernel_rfl) (by kernel_rfl) (by kernel_rfl) (fun _ _ _ h => h) (Or.inl ⟨by rfl, ?_⟩) (by assumption) ?_
                rotate_left 1
                focus ((intro w hSw; (try dsimp only at hSw); go_simp); try with_reducible rfl)
                try simp only [Act.put, Array.getInternal_eq_getElem, List.getElem_toArray, List.getElem_cons_zero, List.getElem_cons_succ, List.setIfInBounds_toArray, List.set_cons_zero, List.set_cons_succ]
                refine wpAnyH_take (i := 2) (v := ?_) rfl (by kernel_rfl) (by kernel_rfl) (by kernel_rfl) (fun _ _ _ h => h) (Or.inl ⟨by rfl, ?_⟩) (by assumption) ?_
                rotate_left 1
                focus ((intro w hSw; (try dsimp only at hSw); go_simp); try with_reducible rfl)
                try simp only [Act.put, Array.getInternal_eq_getElem, List.getElem_toArray, List.getElem_cons_zero, List.getElem_cons_succ, List.setIfInBounds_toArray, List.set_cons_zero, List.set_cons_succ]
                refine wpAnyH_take (i := 3) (v := ?_) rfl (by kernel_rfl) (by kernel_rfl) (by kernel_rfl) (fun _ _ _ h => h) (Or.inl ⟨by rfl, ?_⟩) (by assumption) ?_
                rotate_left 1
                focus ((intro w hSw; (try dsimp only at hSw); go_simp); try with_reducible rfl)
                try simp only [Act.put, Array.getInternal_eq_getElem, List.getElem_toArray, List.getElem_cons_zero, List.getElem_cons_succ, List.setIfInBounds_toArray, List.set_cons_zero, List.set_cons_succ]
                refine wpAnyH_take (i := 4) (v := ?_) rfl (by kernel_rfl) (by kernel_rfl) (by kernel_rfl) (fun _ _ _ h => h) (Or.inl ⟨by rfl, ?_⟩) (by assumption) ?_
                rotate_left 1
                focus ((intro w hSw; (try dsimp only at hSw); go_simp); try with_reducible rfl)
                try simp only [Act.put, Array.getInternal_eq_getElem, List.getElem_toArray, List.getElem_cons_zero, List.getElem_cons_succ, List.setIfInBounds_toArray, List.set_cons_zero, List.set_cons_succ]
                refine wpAnyH_take (i := 5) (v := ?_) rfl (by kernel_rfl) (by kernel_rfl) (by kernel_rfl) (fun _ _ _ h => h) (Or.inl ⟨by rfl, ?_⟩) (by assumption) ?_
                rotate_left 1
                focus ((intro w hSw; (try dsimp only at hSw); go_simp); try with_reducible rfl)
                try simp only [Act.put, Array.getInternal_eq_getElem, List.getElem_toArray, List.getElem_cons_zero, List.getElem_cons_succ, List.setIfInBounds_toArray, List.set_cons_zero, List.set_cons_succ]
                refine wpAnyH_take (i := 6) (v := ?_) rfl (by kernel_rfl) (by kernel_rfl) (by kernel_rfl) (fun _ _ _ h => h) (Or.inl ⟨by rfl, ?_⟩) (by assumption) ?_
                rotate_left 1
                focus ((intro w hSw; (try dsimp only at hSw); go_simp); try with_reducible rfl)
                try simp only [Act.put, Array.getInternal_eq_getElem, List.getElem_toArray, List.getElem_cons_zero, List.getElem_cons_succ, List.setIfInBounds_toArray, List.set_cons_zero, List.set_cons_succ]
                refine wpAnyH_take (i := 7) (v := ?_) rfl (by kernel_rfl) (by kernel_rfl) (by kernel_rfl) (fun _ _ _ h => h) (Or.inl ⟨by rfl, ?_⟩) (by assumption) ?_
                rotate_left 1
                focus ((intro w hSw; (try dsimp only at hSw); go_simp); try with_reducible rfl)
                try simp only [Act.put, Array.getInternal_eq_getElem, List.getElem_toArray, List.getElem_cons_zero, List.getElem_cons_succ, List.setIfInBounds_toArray, List.set_cons_zero, List.set_cons_succ]
                refine wpAnyH_ready (rs := [8]) (by kernel_rfl) (by simp) ?_
                refine AllReadyH.cons rfl (fun K1 hK1 => ?_) AllReadyH.nil
                try simp only [Array.getInternal_eq_getElem, List.getElem_toArray, List.getElem_cons_zero, List.getElem_cons_succ]
                go_simp
                go_at_call 171
                refine (HCC.out _ (below_drew HB1)).mono ?_
                rintro e wc ⟨vc, rfl, hvc, hbc⟩
                obtain ⟨Ac, kc, rfl, _, _⟩ := hvc.form
                go_wp2_with fail
                refine hK1.out _ _ ⟨cell_below hbc cu, cell_below hbc q5⟩ (fun hH1 => ?_)
                clear hK1 K1
                try simp only [Act.put, List.setIfInBounds_toArray, List.set_cons_zero, List.set_cons_succ]
                refine wpAnyH_ready (rs := [9]) (by kernel_rfl) (by simp) ?_
                refine AllReadyH.cons rfl (fun K2 hK2 => ?_) AllReadyH.nil
                try simp only [Array.getInternal_eq_getElem, List.getElem_toArray, List.getElem_cons_zero, List.getElem_cons_succ]
                go_simp
                go_at_call 114
                refine (setAddN_calls g c N Sc _ _ G _ hSl (hOr.below (below_then (below_drew (Below.refl _ _)) hbc)) hvc.rd (fun q hq hG => by have hG := hGs.out _ hG; have hq : w1.drew.heap.size ≤ q := hq; simp only [Lib_hsd] at hq; omega) HRg.out).mono ?_
                rintro e wa ⟨rfl, hOa, hCa⟩
                go_wp2_with fail
                refine hK2.out _ _ ⟨hCa.cell hH1.1 (fun h => (hGs.out _ h).2.1 rfl), hCa.cell hH1.2 (fun h => absurd (hGs.out _ h).1 (Nat.not_le_of_lt hbl))⟩ (fun hH2 => ?_)
                clear hK2 K2
                try simp only [Act.put, List.setIfInBounds_toArray, List.set_cons_zero, List.set_cons_succ]
                refine wpAnyH_done (by kernel_rfl) ?_ _
                have hbcx := below_then (below_drew (Below.refl w1.heap.size w1)) hbc
                have hCx := (Chg.of_below hbcx).trans hCa
                have HL2 := hback.out wa _ (by rw [addB_len]; exact hSl) hCx hOa
                have HB2 := hCx.to_below HB1 HB1.size (fun q hq => (hGs.out q hq).1)
                rw [HO1.out.st] at HL2
                have HL3 : LSt s.parts.length N w.heap.size go co gi ci I (O.set j (addB S0 (endsS p ++ (p.next.take 0).flatMap (fun x => listB (I.getD x.toNat []))))) wa := by
                  have := HA.out []
                  rw [List.append_nil] at this
                  rw [List.take_zero, List.flatMap_nil, ← HA.out []]
                  rw [List.append_nil]
                  exact HL2
                clear HL2 hbcx hCx hCa hOa hvc hbc hOr hback cu q5 HL1 HB1 HO1 HA HRg hSl hGs hgg
                obtain ⟨q0, q1, q2, q3, q4, q5⟩ := partAt_below HHP.out HB2
                have hS0l : S0.length = N := by rw [hS0.out]; exact HOrow.out
                go_wp2_with fail
                clear q0 q1 q2 q3 q4 q5
                go_loopw [84] (fun i wr => ∃ k : Nat, k ≤ p.next.length ∧ i = .int .i64 k ∧ LSt s.parts.length N w.heap.size go co gi ci I (O.set j (addB S0 (endsS p ++ (p.next.take k).flatMap (fun x => listB (I.getD x.toNat []))))) wr ∧ Below w.heap.size w wr) (fun i _ => p.next.length - (intOf i).toNat)
                case atStart => exact ⟨0, Nat.zero_le _, rfl, HL3, HB2⟩
                case round =>
                  clear HL3 HB2
                  obtain ⟨k, hk, rfl, HL, HB⟩ := hrel
                  rename World => wk
                  by_cases hkt : k < p.next.length
                  · have hxr := HNx.out _ (List.getElem_mem hkt)
                    have hxn := Lib.hid (rfl : (p.next.take (k + 1)).flatMap (fun x => listB (I.getD x.toNat [])) = (p.next.take (k + 1)).flatMap (fun x => listB (I.getD x.toNat [])))
                    have HTk : Hid ((p.next.take (k + 1)).flatMap (fun x => listB (I.getD x.toNat [])) = (p.next.take k).flatMap (fun x => listB (I.getD x.toNat [])) ++ listB (I.getD p.next[k].toNat [])) := Lib.hid (by rw [List.take_succ_eq_append_getElem hkt, List.flatMap_append]; simp)
                    rcases HNR.out with hnil | ⟨b3, o3, hB3e, hb3, hcn⟩
                    · rw [hnil] at hkt; simp at hkt
                    rw [hB3e]
                    have cv := cell_below HB (hcn k hkt)
                    clear hcn hxn
                    generalize p.next[k] = x at *
                    obtain ⟨n, rfl⟩ := Int.eq_ofNat_of_zero_le (Int.le_of_lt hxr.1)
                    have hnt : n < s.parts.length := by omega
                    rw [Int.toNat_natCast] at HTk
                    have hjO2 : (O.set j (addB S0 (endsS p ++ (p.next.take k).flatMap (fun x => listB (I.getD x.toNat []))))).getD j [] = addB S0 (endsS p ++ (p.next.take k).flatMap (fun x => listB (I.getD x.toNat []))) := getD_set_same hjO _ _
                    obtain ⟨G, g, c, cu, hSl, hGs, hOr, hback⟩ := HL.rowO hN0 hjt
                    replace hGs := Lib.hid hGs
                    replace hback := Lib.hid hback
                    obtain ⟨g2, c2, cu2, hIl, hRI⟩ := HL.rowI hN0 hnt
                    rw [hjO2] at hSl hOr
                    have hgg := HL.lt
                    have HSS : Hid (∀ y, (O.set j (addB S0 (endsS p ++ (p.next.take k).flatMap (fun x => listB (I.getD x.toNat []))))).set j y = O.set j y) := Lib.hid (fun y => List.set_set _)
                    have HAp : (addB (addB S0 (endsS p ++ (p.next.take k).flatMap (fun x => listB (I.getD x.toNat [])))) (listB (I.getD n [])) = addB S0 (endsS p ++ (p.next.take (k + 1)).flatMap (fun x => listB (I.getD x.toNat [])))) := (by rw [addB_append, List.append_assoc, ← HTk.out])
                    have hrg : ∀ m ∈ listB (I.getD n []), 0 ≤ m ∧ m < N := fun m hm => by have := InB_len (mem_listB.1 hm); omega
                    clear hjO2 HTk
                    obtain ⟨Tk, hTk⟩ : ∃ Tk, Tk = addB S0 (endsS p ++ (p.next.take (k + 1)).flatMap (fun x => listB (I.getD x.toNat []))) := ⟨_, rfl⟩
                    rw [← hTk] at HAp
                    replace hTk := Lib.hid hTk
                    generalize addB S0 (endsS p ++ (p.next.take k).flatMap (fun x => listB (I.getD x.toNat []))) = Sc at *
                    obtain ⟨Si, hSi⟩ : ∃ Si, Si = I.getD n [] := ⟨_, rfl⟩
                    rw [← hSi] at hIl hRI HAp hrg
                    clear hSi
                    obtain ⟨li, hli⟩ : ∃ li, li = listB Si := ⟨_, rfl⟩
                    have hLO : Hid (∀ W, Below wk.heap.size wk W → Calls Try.prog 53 #[.slice (some ⟨g2, 0, none⟩) N c2] W fun e w' => ∃ v', e = .returned v' ∧ Ow true 3 Rp.int w' (fun q => W.heap.size ≤ q) v' li ∧ Below W.heap.size W w') := Lib.hid (fun W hW => by rw [hli]; exact listOf_calls _ Si _ (hRI.below hW) (by omega))
                    rw [← hli] at HAp hrg
                    replace hrg := Lib.hid hrg
                    clear hli hRI hIl
                    replace HAp := Lib.hid HAp
                    have k0 : (0 : Int) ≤ (k : Int) := Int.natCast_nonneg _
                    have k1 : (k : Int) < (p.next.length : Int) := by omega
                    have n0 : (0 : Int) ≤ (n : Int) := Int.natCast_nonneg _
                    have n1 : (n : Int) < (s.parts.length : Int) := by omega
                    go_wp2_with fail
                    refine wp_region_held_drew (S := (fun w' => w'.cell? ⟨go, j, none⟩ = some (.slice (some ⟨g, 0, none⟩) N c) ∧ w'.cell? ⟨gi, n, none⟩ = some (.slice (some ⟨g2, 0, none⟩) N c2))) (by kernel_rfl) ⟨cu, cu2⟩ (fun hH0 => ?_)
                    refine wpAnyH_take (i := 0) (v := ?_) rfl (by kernel_rfl) (by kernel_rfl) (by kernel_rfl) (fun _ _ _ h => h) (Or.inl ⟨by rfl, ?_⟩) (by assumption) ?_
                    rotate_left 1
                    focus ((intro w hSw; (try dsimp only at hSw); go_simp); try with_reducible rfl)
                    try simp only [Act.put, Array.getInternal_eq_getElem, List.getElem_toArray, List.getElem_cons_zero, List.getElem_cons_succ, List.setIfInBounds_toArray, List.set_cons_zero, List.set_cons_succ]
                    refine wpAnyH_take (i := 1) (v := ?_) rfl (by kernel_rfl) (by kernel_rfl) (by kernel_rfl) (fun _ _ _ h => h) (Or.inl ⟨by rfl, ?_⟩) (by assumption) ?_
                    rotate_left 1
                    focus ((intro w hSw; (try dsimp only at hSw); go_simp); try with_reducible rfl)
                    try simp only [Act.put, Array.getInternal_eq_getElem, List.getElem_toArray, List.getElem_cons_zero, List.getElem_cons_succ, List.setIfInBounds_toArray, List.set_cons_zero, List.set_cons_succ]
                    refine wpAnyH_take (i := 2) (v := ?_) rfl (by kernel_rfl) (by kernel_rfl) (by kernel_rfl) (fun _ _ _ h => h) (Or.inl ⟨by rfl, ?_⟩) (by assumption) ?_
                    rotate_left 1
                    focus ((intro w hSw; (try dsimp only at hSw); go_simp); try with_reducible rfl)
                    try simp only [Act.put, Array.getInternal_eq_getElem, List.getElem_toArray, List.getElem_cons_zero, List.getElem_cons_succ, List.setIfInBounds_toArray, List.set_cons_zero, List.set_cons_succ]
                    refine wpAnyH_take (i := 3) (v := ?_) rfl (by kernel_rfl) (by kernel_rfl) (by kernel_rfl) (fun _ _ _ h => h) (Or.inl ⟨by rfl, ?_⟩) (by assumption) ?_
                    rotate_left 1
                    focus ((intro w hSw; (try dsimp only at hSw); go_simp); try with_reducible rfl)
                    try simp only [Act.put, Array.getInternal_eq_getElem, List.getElem_toArray, List.getElem_cons_zero, List.getElem_cons_succ, List.setIfInBounds_toArray, List.set_cons_zero, List.set_cons_succ]
                    refine wpAnyH_take (i := 4) (v := ?_) rfl (by kernel_rfl) (by kernel_rfl) (by kernel_rfl) (fun _ _ _ h => h) (Or.inl ⟨by rfl, ?_⟩) (by assumption) ?_
                    rotate_left 1
                    focus ((intro w hSw; (try dsimp only at hSw); go_simp); try with_reducible rfl)
                    try simp only [Act.put, Array.getInternal_eq_getElem, List.getElem_toArray, List.getElem_cons_zero, List.getElem_cons_succ, List.setIfInBounds_toArray, List.set_cons_zero, List.set_cons_succ]
                    refine wpAnyH_take (i := 5) (v := ?_) rfl (by kernel_rfl) (by kernel_rfl) (by kernel_rfl) (fun _ _ _ h => h) (Or.inl ⟨by rfl, ?_⟩) (by assumption) ?_
                    rotate_left 1
                    focus ((intro w hSw; (try dsimp only at hSw); go_simp); try with_reducible rfl)
                    try simp only [Act.put, Array.getInternal_eq_getElem, List.getElem_toArray, List.getElem_cons_zero, List.getElem_cons_succ, List.setIfInBounds_toArray, List.set_cons_zero, List.set_cons_succ]
                    refine wpAnyH_take (i := 6) (v := ?_) rfl (by kernel_rfl) (by kernel_rfl) (by kernel_rfl) (fun _ _ _ h => h) (Or.inl ⟨by rfl, ?_⟩) (by assumption) ?_
                    rotate_left 1
                    focus ((intro w hSw; (try dsimp only at hSw); go_simp); try with_reducible rfl)
                    try simp only [Act.put, Array.getInternal_eq_getElem, List.getElem_toArray, List.getElem_cons_zero, List.getElem_cons_succ, List.setIfInBounds_toArray, List.set_cons_zero, List.set_cons_succ]
                    refine wpAnyH_take (i := 7) (v := ?_) rfl (by kernel_rfl) (by kernel_rfl) (by kernel_rfl) (fun _ _ _ h => h) (Or.inl ⟨by rfl, ?_⟩) (by assumption) ?_
                    rotate_left 1
                    focus ((intro w hSw; (try dsimp only at hSw); go_simp); try with_reducible rfl)
                    try simp only [Act.put, Array.getInternal_eq_getElem, List.getElem_toArray, List.getElem_cons_zero, List.getElem_cons_succ, List.setIfInBounds_toArray, List.set_cons_zero, List.set_cons_succ]
                    refine wpAnyH_ready (rs := [8]) (by kernel_rfl) (by simp) ?_
                    refine AllReadyH.cons rfl (fun K1 hK1 => ?_) AllReadyH.nil
                    try simp only [Array.getInternal_eq_getElem, List.getElem_toArray, List.getElem_cons_zero, List.getElem_cons_succ]
                    go_simp
                    go_at_call 53
                    refine (hLO.out _ (below_drew (Below.refl _ _))).mono ?_
                    rintro e wc ⟨vc, rfl, hvc, hbc⟩
                    obtain ⟨Ac, kc, rfl, _, _⟩ := hvc.form
                    go_wp2_with fail
                    refine hK1.out _ _ ⟨cell_below hbc cu, cell_below hbc cu2⟩ (fun hH1 => ?_)
                    clear hK1 K1
                    try simp only [Act.put, List.setIfInBounds_toArray, List.set_cons_zero, List.set_cons_succ]
                    refine wpAnyH_ready (rs := [9]) (by kernel_rfl) (by simp) ?_
                    refine AllReadyH.cons rfl (fun K2 hK2 => ?_) AllReadyH.nil
                    try simp only [Array.getInternal_eq_getElem, List.getElem_toArray, List.getElem_cons_zero, List.getElem_cons_succ]
                    go_simp
                    go_at_call 114
                    refine (setAddN_calls g c N Sc _ _ G _ hSl (hOr.below (below_then (below_drew (Below.refl _ _)) hbc)) hvc.rd (fun q hq hG => by have hG := hGs.out _ hG; have hq : wk.drew.heap.size ≤ q := hq; simp only [Lib_hsd] at hq; omega) hrg.out).mono ?_
                    rintro e wa ⟨rfl, hOa, hCa⟩
                    go_wp2_with fail
                    refine hK2.out _ _ ⟨hCa.cell hH1.1 (fun h => (hGs.out _ h).2.1 rfl), hCa.cell hH1.2 (fun h => (hGs.out _ h).2.2.1 rfl)⟩ (fun hH2 => ?_)
                    clear hK2 K2
                    try simp only [Act.put, List.setIfInBounds_toArray, List.set_cons_zero, List.set_cons_succ]
                    refine wpAnyH_done (by kernel_rfl) ?_ _
                    have hbcx := below_then (below_drew (Below.refl wk.heap.size wk)) hbc
                    have hCx := (Chg.of_below hbcx).trans hCa
                    have HL2 := hback.out wa _ (by rw [addB_len]; exact hSl) hCx hOa
                    have HB2 := hCx.to_below HB HB.size (fun q hq => (hGs.out q hq).1)
                    rw [HSS.out, HAp.out, hTk.out] at HL2
                    clear hbcx hCx hCa hOa hvc hbc hOr hback cu cu2 HL HB hgg
                    go_wp2
                    go_roundw
                    case rel => exact ⟨k + 1, by omega, by go_num, HL2, HB2⟩
                    case measure => simp [intOf]; omega
                  · obtain rfl : k = p.next.length := by omega
                    rw [List.take_length] at HL
                    have HBh : Hid (addB S0 (endsS p ++ p.next.flatMap (fun x => listB (I.getD x.toNat []))) = bhB I p S0) := Lib.hid rfl
                    rw [HBh.out] at HL
                    have hbl2 : (bhB I p S0).length = N := by rw [bhB_len]; exact hS0l
                    have hjO2 : (O.set j (bhB I p S0)).getD j [] = bhB I p S0 := getD_set_same hjO _ _
                    have hnewl : (liveB p (bhB I p S0)).length = N := by rw [liveB_len]; exact hbl2
                    obtain ⟨G, g, c, cu, hSl, hGs, hOr, hback⟩ := HL.rowO hN0 hjt
                    rw [hjO2] at hSl hOr
                    have hpx := partAt_below HHP.out HB
                    have HLv := Lib.hid (live0_calls p N b (o + j * 6) _ _ _ _ _ (bhB I p S0) wk hpx (HPAR.out.below HB) (HCODE.out.below HB) hOr.rd hSl hN0 (by omega) HPin.out)
                    clear hback hOr hjO2 HBh hpx hGs
                    generalize hbh : bhB I p S0 = bh at *
                    go_wp2_with fail
                    refine HLv.out.mono ?_
                    rintro e wl ⟨vn, rfl, hvn, hbl3⟩
                    obtain ⟨An, cn, hve, _, _⟩ := hvn.form
                    subst hve
                    rw [hnewl] at hvn ⊢
                    have HLl := HL.below hbl3
                    have HBl := below_then HB hbl3
                    have hgl := HLl.lt
                    clear cu HLv hSl
                    generalize hnw : liveB p bh = nw at *
                    cases ag
                    · obtain ⟨g2, c2, cu2, hIl, hRI⟩ := HLl.rowI hN0 hjt
                      have HEq := Lib.hid (equalB_calls _ _ nw (I.getD j []) wl hvn.rd hRI (by omega))
                      go_wp2_with fail
                      refine HEq.out.mono ?_
                      rintro e we ⟨rfl, qn, rfl⟩
                      have hbe : Below wl.heap.size wl (wl.drewN qn) := below_drewN (Below.refl _ _) _
                      obtain ⟨HLp, ⟨u, hu⟩, hfu⟩ := HL.putI (v := .slice An N cn) (below_then hbl3 hbe) HB.size hnewl hjt (hvn.below hbe)
                      have HBp := (Chg.set (w := wl.drewN qn) (b := gi) (o := j) (u := .slice An N cn) (A := fun q => q = gi) rfl).to_below (below_then HBl hbe) (below_then HBl hbe).size (fun q hq => by have hq : q = gi := hq; omega)
                      by_cases hne : nw = I.getD j []
                      · have hd : decide (nw = I.getD j []) = true := decide_eq_true hne
                        have HR : Hid (RoundP s Ix (I.set j nw) (O.set j bh) (j + 1) false) := Lib.hid (by
                          obtain ⟨r1, r2, r3, r4⟩ := HJ.out
                          have hst := HStill.out hne (r2 rfl)
                          refine ⟨HTurn.out.1, fun _ q hq => ?_, Nat.le_trans r3 HCnt.out.1, fun h => Bool.noConfusion h⟩
                          rw [hst.1]; exact hst.2 q hq)
                        rw [hd]
                        clear HEq HJ HTurn HStill HCnt cu2 hRI hd
                        generalize wl.drewN qn = we at *
                        go_wp2
                        go_roundw
                        case rel => exact ⟨j + 1, false, I.set j nw, O.set j bh, by omega, rfl, by go_num, HLp, HBp, HR⟩
                        case measure => simp [intOf]; omega
                      · have hd : decide (nw = I.getD j []) = false := decide_eq_false hne
                        have HR : Hid (RoundP s Ix (I.set j nw) (O.set j bh) (j + 1) true) := Lib.hid (by
                          obtain ⟨r1, r2, r3, r4⟩ := HJ.out
                          exact ⟨HTurn.out.1, fun h => Bool.noConfusion h, Nat.le_trans r3 HCnt.out.1, fun _ => Nat.lt_of_le_of_lt r3 (HCnt.out.2 hne)⟩)
                        rw [hd]
                        clear HEq HJ HTurn HStill HCnt cu2 hRI hd
                        generalize wl.drewN qn = we at *
                        go_wp2
                        go_roundw
                        case rel => exact ⟨j + 1, true, I.set j nw, O.set j bh, by omega, rfl, by go_num, HLp, HBp, HR⟩
                        case measure => simp [intOf]; omega
                    · obtain ⟨HLp, ⟨u, hu⟩, hfu⟩ := HL.putI (v := .slice An N cn) hbl3 HB.size hnewl hjt hvn
                      have HBp := (Chg.set (w := wl) (b := gi) (o := j) (u := .slice An N cn) (A := fun q => q = gi) rfl).to_below HBl HBl.size (fun q hq => by have hq : q = gi := hq; omega)
                      have HR : Hid (RoundP s Ix (I.set j nw) (O.set j bh) (j + 1) true) := Lib.hid (by
                        obtain ⟨r1, r2, r3, r4⟩ := HJ.out
                        exact ⟨HTurn.out.1, fun h => Bool.noConfusion h, Nat.le_trans r3 HCnt.out.1, fun _ => Nat.lt_of_lt_of_le (r4 rfl) HCnt.out.1⟩)
                      clear HJ HTurn HStill HCnt
                      go_wp2
                      go_roundw
                      case rel => exact ⟨j + 1, true, I.set j nw, O.set j bh, by omega, rfl, by go_num, HLp, HBp, HR⟩
                      case measure => simp [intOf]; omega
            · obtain rfl : j = s.parts.length := by omega
              have HM : Hid (HeadP s (s.parts.length * N) I O ag (if ag = true then s.parts.length * N + 1 - cntB I else 0)) := Lib.hid ⟨HJ.out.1, HJ.out.2.1, fun h => by rw [if_pos h]; exact Nat.le_refl _⟩
              have hle : cntB I ≤ s.parts.length * N := by
                have := cntB_le (I := I) (V := N) HL.ri
                rw [HL.li] at this
                exact this
              have hms : (if ag = true then s.parts.length * N + 1 - cntB I else 0) < gk := by
                have h1 := HI2.out
                have h2 := HJ.out.2.2.1
                cases ag
                · rw [if_neg (by decide)]; omega
                · rw [if_pos rfl]; have h3 := HJ.out.2.2.2 rfl; omega
              clear HJ HI2 hle
              go_wp2
              go_roundg (if ag = true then s.parts.length * N + 1 - cntB I else 0)
              case measure => exact hms
              case rel => exact ⟨ag, I, O, rfl, HL, HB, by omega, HM⟩
end Go.Proofs.Ytnfaibenekninaa.L
