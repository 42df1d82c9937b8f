/- Joined texts, each of which was built by itself: LwGroups. -/
import Derived.Test.YtnfaibenekninaaB17
import Derived.Test.YtnfaibenekninaaB11
import Derived.Test.YtnfaibenekninaaB2
import Derived.Deep.RegionHeld3
set_option linter.unusedVariables false
set_option linter.unusedSimpArgs false
namespace Go.Proofs.Ytnfaibenekninaa.L
open Go.RowKit
set_option maxRecDepth 100000 in
set_option maxHeartbeats 4000000 in
theorem lawGroups_calls {F : Nat → Prop} (x : Sa) (vparts : Value) (w : World) (h : Rp.Rd part w F vparts x.parts) :
    Calls Try.prog 6 #[saV x vparts] w fun e w' => e = .returned (.bool true) ∧ Below w.heap.size w w' := by
  have HC := fun W (hW : Below w.heap.size w W) => szSsa_calls x vparts 1048576 W (h.below hW) (by omega) (by omega)
  have hb0 := szSa_bd (x := x) (left := 1048576) (by omega)
  generalize szSa x 1048576 = r at *
  have hlim : 0 ≤ r → SaLim x := fun h0 => (hb0.2.2 h0).1
  clear hb0
  unfold saV at HC ⊢
  have HC := Lib.hid HC
  have hB0 : Below w.heap.size w (w.alloc (.cells #[vparts, .int .i64 x.values] 24)) := below_new _
  have b0 := heap_alloc_new w (.cells #[vparts, .int .i64 x.values] 24)
  have hlim := Lib.hid hlim
  obtain ⟨A, c, rfl, _, _, _⟩ := id h
  go_enter Try.func6, Try.ntmps6
  go_wp2_with fail
  refine (HC.out _ hB0).mono ?_
  rintro e w1 ⟨rfl, hb1⟩
  by_cases hneg : r < 0
  · have hB := below_then hB0 hb1
    go_wp2
    go_ret
    exact ⟨rfl, hB⟩
  have hx := hlim.out (by omega)
  have HT := Lib.hid (fun W (hW : Below w.heap.size w W) => toSsa_rd2 x _ W (h.below hW) hx)
  have HG1 := Lib.hid (fun v W G (hv : Rp.Rd part W G v x.parts) => groupsS_calls x v W hv hx.1 hx.2)
  have HG2 := Lib.hid (fun v W G (hv : Rp.Rd part W G v x.parts) => groupsI_calls x v W hv hx.1 hx.2)
  have HQ := Lib.hid (good_iff x)
  have HL : Hid (GoodP x → (intsN (grpL x x.values.toNat)).length ≤ 1048576) := Lib.hid (fun h => by rw [intsN_len, grpL_len]; have := h.v2; omega)
  have hB1 := below_then hB0 hb1
  have b1 := blk_below b0 hb1
  have hs1 := blk_lt b1
  obtain ⟨y1, _⟩ := cell_of_block b1
  have y10 : w1.cell? ⟨w.heap.size, 0, none⟩ = some (.slice A x.parts.length c) := (y1 0).trans rfl
  have y11 : w1.cell? ⟨w.heap.size, 1, none⟩ = some (.int .i64 x.values) := (y1 1).trans rfl
  clear y1 HC b0 hb1 hB0 hlim
  unfold saV at HT HG1 HG2
  generalize hLst : intsN (grpL x x.values.toNat) = LL at *
  clear hLst
  go_wp2_with fail
  refine (HT.out _ hB1).mono ?_
  rintro e w2 ⟨v2, rfl, hv2, hb2⟩
  obtain ⟨A2, c2, rfl, _, _⟩ := hv2.form
  have hB2 := below_then hB1 hb2
  have b2 := blk_below b1 hb2
  have hs2 := hb2.size
  clear y10 y11 hb2 b1
  go_wp2_with fail
  refine (HG1.out _ _ _ (partA_le.rd hv2.rd)).mono ?_
  rintro e w3 ⟨g1, vL, hg1, rfl, hvL, hb3⟩
  have hB3 := below_then hB2 hb3
  have b3 := blk_below b2 hb3
  have hs3 := hb3.size
  have hLn : (if g1 = true then LL else []).length ≤ 1048576 := by
    by_cases hgt : g1 = true
    · rw [if_pos hgt]; exact HL.out (hg1.out.1 hgt)
    · rw [if_neg hgt]; exact Nat.zero_le _
  obtain ⟨l1, hl1⟩ : ∃ l1, l1 = (if g1 = true then LL else []) := ⟨_, rfl⟩
  rw [← hl1] at hvL hLn
  replace hl1 := Lib.hid hl1
  replace hvL := hvL.bound
  obtain ⟨AL, cL, hLe, _, _, _⟩ := id hvL
  subst hLe
  obtain ⟨y1, _⟩ := cell_of_block b3
  have y10 : w3.cell? ⟨w.heap.size, 0, none⟩ = some (.slice A x.parts.length c) := (y1 0).trans rfl
  have y11 : w3.cell? ⟨w.heap.size, 1, none⟩ = some (.int .i64 x.values) := (y1 1).trans rfl
  clear y1 hb3 b2 hv2
  go_wp2_with fail
  refine (HT.out _ hB3).mono ?_
  rintro e w4 ⟨v4, rfl, hv4, hb4⟩
  obtain ⟨A4, c4, rfl, _, _⟩ := hv4.form
  have hB4 := below_then hB3 hb4
  have b4 := blk_below b3 hb4
  have hs4 := hb4.size
  have hL4 := hvL.below hb4
  clear y10 y11 hb4 b3 hvL
  obtain ⟨W5, hW5⟩ : ∃ W5, W5 = w4.alloc (.cells #[.slice A4 x.parts.length c4, .int .i64 x.values] 31) := ⟨_, rfl⟩
  have hb5 : Below w4.heap.size w4 W5 := by rw [hW5]; exact below_new _
  have hs5 : W5.heap.size = w4.heap.size + 1 := by rw [hW5]; simp
  have e5 : W5.heap[w4.heap.size]? = some (.cells #[.slice A4 x.parts.length c4, .int .i64 x.values] 31 (0, 0)) := by rw [hW5]; exact heap_alloc_new w4 _
  have hM4 := Lib.hid (hv4.bound.mp hx.2)
  have hv5 := (partA_le.rd hv4.rd).below hb5
  have b5 := blk_below b4 hb5
  have hB5 := below_then hB4 hb5
  have hL5 := hL4.below hb5
  replace hW5 := Lib.hid hW5
  go_wp2_with fail
  rw [← hW5.out]
  refine (HG2.out _ _ _ hv5).mono ?_
  rintro e w6 ⟨g2, vG, hg2, rfl, hvG, hb6⟩
  have hB6 := below_then hB5 hb6
  have b6 := blk_below b5 hb6
  have e6 := blk_below e5 hb6
  have hs6 := hb6.size
  have hv6 := (hv5.mono (G := fun _ => True) (fun _ _ => trivial)).below hb6
  have hL6 := hL5.below hb6
  have hgg : g1 = g2 := by
    have := hg1.out.trans (HQ.out.symm.trans hg2.out.symm)
    cases g1 <;> cases g2 <;> simp_all
  subst hgg
  rw [← hl1.out] at hvG
  obtain ⟨AG, cG, hGe, _, _⟩ := hvG.form
  subst hGe
  have hgn : (g1 != g1) = false := by cases g1 <;> rfl
  have hBx : Below w4.heap.size w4 w6 := below_then hb5 hb6
  have HEq := Lib.hid (fun v u W G1 G2 (h1 : Rp.Rd Rp.int W G1 v l1) (h2 : Rp.Rd Rp.int W G2 u l1) => eqIntS_calls v u l1 l1 W h1 h2)
  have hdec : decide (l1 = l1) = true := decide_eq_true rfl
  rw [hdec] at HEq
  clear b4 b5 e5 hv4 hv5 hW5 HG1 hb5 hb6 hL4 hL5
  go_wp2_with fail
  refine (HEq.out _ _ _ _ _ hvG.rd hL6).mono ?_
  rintro e w7 ⟨rfl, hb7⟩
  have hB7 := below_then hB6 hb7
  have b7 := blk_below b6 hb7
  have e7 := blk_below e6 hb7
  have hv7 := hv6.below hb7
  have hG7 := hvG.below hb7
  have hL7 := hL6.below hb7
  have hBx7 := below_then hBx hb7
  have hs7 := hb7.size
  obtain ⟨y1, _⟩ := cell_of_block b7
  have y10 : w7.cell? ⟨w.heap.size, 0, none⟩ = some (.slice A x.parts.length c) := (y1 0).trans rfl
  have y11 : w7.cell? ⟨w.heap.size, 1, none⟩ = some (.int .i64 x.values) := (y1 1).trans rfl
  obtain ⟨z1, _⟩ := cell_of_block e7
  have z10 : w7.cell? ⟨w4.heap.size, 0, none⟩ = some (.slice A4 x.parts.length c4) := (z1 0).trans rfl
  have z11 : w7.cell? ⟨w4.heap.size, 1, none⟩ = some (.int .i64 x.values) := (z1 1).trans rfl
  clear y1 z1 hb7 hB6 b6 e6 hv6 hvG hL6 hBx
  go_wp2_with fail
  have HE := Lib.hid (fun u W (hu : Rp.Rd part W (fun q => w7.heap.size ≤ q) u x.parts) (hW : Below w7.heap.size w7 W) => eqSsa_calls x x _ u W (hv7.below hW) hu)
  have HEQ : Hid (eqSa x x = true) := Lib.hid (by unfold eqSa; simp)
  unfold saV at HE
  rw [HEQ.out] at HE
  go_region_held3 (fun w' => w'.cell? ⟨w.heap.size, 0, none⟩ = some (.slice A x.parts.length c) ∧ w'.cell? ⟨w.heap.size, 1, none⟩ = some (.int .i64 x.values) ∧ w'.cell? ⟨w4.heap.size, 0, none⟩ = some (.slice A4 x.parts.length c4) ∧ w'.cell? ⟨w4.heap.size, 1, none⟩ = some (.int .i64 x.values))
    (first | go_keep | (go_split_ands; refine ⟨?_, ?_, ?_, ?_⟩ <;> first | exact cell_below hB9 (by assumption) | exact cell_below hB8 (by assumption) | assumption))
    ((first | (go_at_call 13; refine (HT.out _ (below_drew hB7)).mono ?_; rintro e w8 ⟨v8, rfl, hv8, hb8⟩; have hB8 := below_then (below_drew (Below.refl _ _)) hb8; obtain ⟨A8, c8, rfl, _, _⟩ := hv8.form) | (go_at_call 16; refine (HE.out _ _ (partA_le.rd hv8.rd) hB8).mono ?_; rintro e w9 ⟨rfl, hb9⟩; have hB9 := below_then hB8 hb9)))
  have hB9w := below_then hB7 hB9
  have b9 := blk_below b7 hB9
  have e9 := blk_below e7 hB9
  have hG9 := hG7.below hB9
  have hL9 := hL7.below hB9
  have hBx9 := below_then hBx7 hB9
  have hs9 := hB9.size
  clear HE HEQ y10 y11 z10 z11 hv8 hB8 hb8 hb9 hB9 hB7 b7 e7 hG7 hL7 hBx7 hv7
  have hMx := Lib.hid (hM4.out.stay (Stay.below (fun q hq => hq.2) hBx9))
  have hFx : ∀ q, (w3.heap.size ≤ q ∧ q < w4.heap.size) → q < w9.heap.size := fun q hq => by omega
  have HMk := Lib.hid (markSa_calls (.slice A4 x.parts.length c4) (.int .i64 x.values) x.parts.length 1 w9 hMx.out hFx (by omega) (by have := hx.1; omega))
  obtain ⟨z1, _⟩ := cell_of_block e9
  have z10 : w9.cell? ⟨w4.heap.size, 0, none⟩ = some (.slice A4 x.parts.length c4) := (z1 0).trans rfl
  have z11 : w9.cell? ⟨w4.heap.size, 1, none⟩ = some (.int .i64 x.values) := (z1 1).trans rfl
  clear z1 hM4 hMx
  go_wp2_with fail
  refine HMk.out.mono ?_
  rintro e w10 ⟨z, rfl, hz0, hCx⟩
  have hs10 := hCx.size
  have hB10 := hCx.to_below hB9w hB9w.size (fun q hq => by omega)
  have b10 := hCx.blk b9 (by omega)
  have hL10 := hL9.move (hCx.same (fun q hq h => by omega))
  have hG10 := hG9.move (hCx.same (fun q hq h => by omega))
  clear HMk z10 z11 e9 hBx9 hCx hFx hB9w b9 hL9 hG9
  go_wp2_with fail
  refine (HEq.out _ _ _ _ _ hG10.rd hL10).mono ?_
  rintro e w11 ⟨rfl, hb11⟩
  have hB11 := below_then hB10 hb11
  have b11 := blk_below b10 hb11
  have hG11 := hG10.below hb11
  have hL11 := hL10.below hb11
  have hs11 := hb11.size
  clear hb11 hB10 b10 hG10 hL10 hz0
  go_wp2_with fail
  refine (markI_own _ _ 1 _ hG11 (by omega) (by omega)).mono ?_
  rintro e w12 ⟨rfl, hG12, hCg⟩
  have hs12 := hCg.size
  have hB12 := hCg.to_below hB11 hB11.size (fun q hq => by omega)
  have b12 := hCg.blk b11 (by omega)
  have hL12 := hL11.move (hCg.same (fun q hq h => by omega))
  clear hCg hB11 b11 hL11 hG11
  have hnn : ((1 : Int) + (l1.length : Int) != 1 + (l1.length : Int)) = false := by simp
  have hn0 : ¬ ((1 : Int) + (l1.length : Int) < 0) := by omega
  go_wp2_with fail
  refine (heldI_calls _ l1.length 1 _ (by have := hG12.rd; exact this) (by omega) (by omega)).mono ?_
  rintro e w13 ⟨rfl, rfl⟩
  obtain ⟨y1, _⟩ := cell_of_block b12
  have y10 : w12.cell? ⟨w.heap.size, 0, none⟩ = some (.slice A x.parts.length c) := (y1 0).trans rfl
  have y11 : w12.cell? ⟨w.heap.size, 1, none⟩ = some (.int .i64 x.values) := (y1 1).trans rfl
  clear y1
  go_wp2_with fail
  refine (HT.out _ hB12).mono ?_
  rintro e w14 ⟨v14, rfl, hv14, hb14⟩
  obtain ⟨A14, c14, rfl, _, _⟩ := hv14.form
  have hB14 := below_then hB12 hb14
  have hG14 := hG12.below hb14
  have hL14 := hL12.below hb14
  clear y10 y11 b12 hb14 hB12 hG12 hL12
  go_wp2_with fail
  refine (HG2.out _ _ _ (partA_le.rd hv14.rd)).mono ?_
  rintro e w15 ⟨g3, vH, hg3, rfl, hvH, hb15⟩
  have hB15 := below_then hB14 hb15
  have hG15 := hG14.below hb15
  have hL15 := hL14.below hb15
  have hgg : g1 = g3 := by
    have := hg2.out.trans hg3.out.symm
    cases g1 <;> cases g3 <;> simp_all
  subst hgg
  rw [← hl1.out] at hvH
  obtain ⟨AH, cH, hHe, _, _⟩ := hvH.form
  subst hHe
  clear hb15 hB14 hG14 hL14 hv14
  go_wp2_with fail
  refine (HEq.out _ _ _ _ _ hvH.rd hL15).mono ?_
  rintro e w16 ⟨rfl, hb16⟩
  have hB16 := below_then hB15 hb16
  have hG16 := hG15.below hb16
  clear hb16 hB15 hG15 hL15 hvH
  go_wp2_with fail
  refine (heldI_calls _ l1.length 1 _ (by have := hG16.rd; exact this) (by omega) (by omega)).mono ?_
  rintro e w17 ⟨rfl, rfl⟩
  go_wp2
  go_ret
  exact ⟨rfl, hB16⟩
end Go.Proofs.Ytnfaibenekninaa.L
