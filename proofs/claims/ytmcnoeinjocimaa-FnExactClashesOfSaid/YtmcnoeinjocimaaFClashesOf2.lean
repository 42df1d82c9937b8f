/- Joined texts, each of which was built by itself: Cl3 LwClashesOf. -/
import Derived.Test.YtmcnoeinjocimaaFClashesOf1
import Derived.Test.YtmcnoeinjocimaaB16
import Derived.Test.YtmcnoeinjocimaaB2
import Derived.Deep.RegionHeld3
set_option linter.unusedVariables false
set_option linter.unusedSimpArgs false
namespace Go.Proofs.Ytmcnoeinjocimaa.L
open Go.RowKit
theorem lenOk_clash {s : Sa} (h : GoodP s) : LenOk (clashL s) := lenOk_rows (by have := h.v2; omega) (by have := h.v2; omega)
set_option maxRecDepth 100000 in
set_option maxHeartbeats 4000000 in
theorem clashS_calls {F : Nat → Prop} (s : Sa) (vparts : Value) (w : World) (hs : Rp.Rd part w F vparts s.parts) (hx1 : s.parts.length ≤ 1048576) (hx2 : ∀ p ∈ s.parts, PtLim p) :
    Calls Try.prog 39 #[saV s vparts] w (ListsRd (GoodP s) (clashL s) w) := by
  obtain ⟨A, c, rfl, hlc, hcm, hrow⟩ := rd_part hs
  have HG := Lib.hid (fun W (hW : Below w.heap.size w W) => goodS_calls s _ W (hs.below hW) hx1 hx2)
  have HD := Lib.hid (fun W (hW : Below w.heap.size w W) (h : GoodP s) N hN => l10Clashes_calls s N _ W (hs.below hW) h hx2 hN)
  unfold saV at HG HD ⊢
  have hB0 : Below w.heap.size w (w.alloc (.cells #[.slice A s.parts.length c, .int .i64 s.values] 29)) := below_new _
  have b0 := heap_alloc_new w (.cells #[.slice A s.parts.length c, .int .i64 s.values] 29)
  go_enter Try.func39, Try.ntmps39
  go_wp2_with fail
  refine (HG.out _ hB0).mono ?_
  rintro e w1 ⟨g, rfl, hg, hb1⟩
  have hB1 := below_then hB0 hb1
  have b1 := blk_below b0 hb1
  clear hb1 b0 hB0 HG
  cases g
  · go_wp2
    refine bodyPost_ret (v := .tuple #[.slice none 0 0, .bool false]) (by simp [results, Try.results39, go_sem]) rfl ?_
    exact .mk false _ hg rfl (Rp.Rd.nil _ _ _) hB1
  have hgp := Lib.hid (hg.out.1 rfl)
  obtain ⟨v0, _⟩ := cell_of_block b1
  have x0 : w1.cell? ⟨w.heap.size, 0, none⟩ = some (.slice A s.parts.length c) := (v0 0).trans rfl
  have x1 : w1.cell? ⟨w.heap.size, 1, none⟩ = some (.int .i64 s.values) := (v0 1).trans rfl
  clear v0
  go_wp2_with fail
  have hv1 := hgp.out.v1
  have hNN : (s.values.toNat : Int) = s.values := by omega
  replace hNN := Lib.hid hNN
  refine (HD.out _ hB1 hgp.out _ hNN.out).mono ?_
  rintro e w2 ⟨vI, C, rfl, hvI, hRC, hb2⟩
  have HCe := clashS_eq hNN.out hRC
  subst HCe
  have hB2 := below_then hB1 hb2
  have hS := hB1.size
  go_wp2
  refine bodyPost_ret (v := .tuple #[vI, .bool true]) (by simp [results, Try.results39, go_sem]) rfl ?_
  exact .mk true _ (Lib.hid ⟨fun _ => hgp.out, fun _ => rfl⟩) rfl (by rw [if_pos rfl]; exact hvI.mono (fun q hq => Nat.le_trans hS hq)) hB2
set_option maxRecDepth 100000 in
set_option maxHeartbeats 4000000 in
theorem clashI_calls {F : Nat → Prop} (s : Sa) (vparts : Value) (w : World) (hs : Rp.Rd part w F vparts s.parts) (hx1 : s.parts.length ≤ 1048576) (hx2 : ∀ p ∈ s.parts, PtLim p) :
    Calls Try.prog 40 #[saV s vparts] w (ListsRes (∃ D T M, GoodV s D T M) (clashL s) w) := by
  obtain ⟨A, c, rfl, _, _, _⟩ := rd_part hs
  have HC := Lib.hid (fun W (hW : Below w.heap.size w W) => viewOf_calls s _ W (hs.below hW) hx1 hx2)
  have HLv := Lib.hid (fun W (hW : Below w.heap.size w W) (hg : GoodP s) N vb vn vd vD vT hv hN => clashesI_calls s N vb (.slice A s.parts.length c) vn vd vD vT W hv (hs.below hW) hg hx2 hN)
  unfold saV at HC ⊢
  have hB0 : Below w.heap.size w (w.alloc (.cells #[.slice A s.parts.length c, .int .i64 s.values] 29)) := below_new _
  go_enter Try.func40, Try.ntmps40
  go_wp2_with fail
  refine (HC.out _ hB0).mono ?_
  rintro e w1 (⟨rfl, hn, hb⟩ | ⟨vb, D, T, M, vn, vd, vD, vT, rfl, hv, hz, hD, hT, hM, hN, hg, hb⟩)
  · have HN : Hid (false = true ↔ ∃ D T M, GoodV s D T M) := Lib.hid ⟨fun h => Bool.noConfusion h, fun h => absurd h hn.out⟩
    have hb2 := below_then hB0 hb
    clear hn
    go_wp2
    refine bodyPost_ret (v := .tuple #[.slice none 0 0, .bool false]) (by simp [results, Try.results40, go_sem]) rfl ?_
    exact .mk false _ HN rfl (Ow.nil _ _ _ _ _) hb2
  · have HN : Hid (true = true ↔ ∃ D T M, GoodV s D T M) := Lib.hid ⟨fun _ => ⟨D, T, M, hg.out⟩, fun _ => rfl⟩
    have hb2 := below_then hB0 hb
    have hgp := Lib.hid ((good_iff s).1 ⟨D, T, M, hg.out⟩)
    have hv1 := hg.out.v1
    have hv2 := hg.out.v2
    have hn2 := hg.out.n2
    have hNN : (s.values.toNat : Int) = s.values := by omega
    have HL1 := Lib.hid (HLv.out _ hb2 hgp.out s.values.toNat vb vn vd vD vT hv hNN)
    clear hg hT hM hN hD HLv HC
    go_wp2_with fail
    refine HL1.out.mono ?_
    rintro e w2 ⟨go, co, gs, cs, C, S, rfl, hC, hS, hR, hSl, hSs, hb3⟩
    have hB3 := below_then hb2 hb3
    have hs2 := hb2.size
    have hs3 := hb3.size
    have hlen : C.length ≤ 1000 := by have := hR.ln; omega
    have hrl : ∀ S ∈ C, S.length ≤ 1000 := fun S hS => by have := hR.rw_ S hS; omega
    have HE : Hid (C.map listB = clashL s) := Lib.hid (clashB_eq hgp.out hNN hR)
    have hCr := (Rp.Le.ow (Rp.Le.refl _)).rd hC.rd
    have HS := Lib.hid (setLists_calls _ C w2 hCr hlen hrl)
    have hCf := hC.form
    clear hC hS hR hSl hSs
    go_wp2_with fail
    refine HS.out.mono ?_
    rintro e w3 ⟨v3, rfl, hv3, hb4⟩
    rw [HE.out] at hv3
    have hB4 := below_then hB3 hb4
    go_wp2
    refine bodyPost_ret (v := .tuple #[v3, .bool true]) (by simp [results, Try.results40, go_sem]) rfl ?_
    exact .mk true _ (Lib.hid ⟨fun _ => HN.out.1 trivial, fun _ => rfl⟩) rfl (by rw [if_pos rfl]; exact hv3.mono (fun q hq => by omega)) hB4
end Go.Proofs.Ytmcnoeinjocimaa.L

set_option linter.unusedVariables false
set_option linter.unusedSimpArgs false
namespace Go.Proofs.Ytmcnoeinjocimaa.L
open Go.RowKit
set_option maxRecDepth 100000 in
set_option maxHeartbeats 4000000 in
theorem lawClashesOf_calls {F : Nat → Prop} (x : Sa) (vparts : Value) (w : World) (h : Rp.Rd part w F vparts x.parts) :
    Calls Try.prog 11 #[saV x vparts] w fun e w' => e = .returned (.bool true) ∧ Below w.heap.size w w' := by
  have HC := fun W (hW : Below w.heap.size w W) => szSsa_calls x vparts 1048576 W (h.below hW) (by omega) (by omega)
  have hb0 := szSa_bd (x := x) (left := 1048576) (by omega)
  generalize szSa x 1048576 = r at *
  have hlim : 0 ≤ r → SaLim x := fun h0 => (hb0.2.2 h0).1
  clear hb0
  unfold saV at HC ⊢
  have HC := Lib.hid HC
  have hB0 : Below w.heap.size w (w.alloc (.cells #[vparts, .int .i64 x.values] 24)) := below_new _
  have b0 := heap_alloc_new w (.cells #[vparts, .int .i64 x.values] 24)
  have hlim := Lib.hid hlim
  obtain ⟨A, c, rfl, _, _, _⟩ := id h
  go_enter Try.func11, Try.ntmps11
  go_wp2_with fail
  refine (HC.out _ hB0).mono ?_
  rintro e w1 ⟨rfl, hb1⟩
  by_cases hneg : r < 0
  · have hB := below_then hB0 hb1
    go_wp2
    go_ret
    exact ⟨rfl, hB⟩
  have hx := hlim.out (by omega)
  have HT := Lib.hid (fun W (hW : Below w.heap.size w W) => toSsa_rd2 x _ W (h.below hW) hx)
  have HG1 := Lib.hid (fun v W G (hv : Rp.Rd part W G v x.parts) => clashS_calls x v W hv hx.1 hx.2)
  have HG2 := Lib.hid (fun v W G (hv : Rp.Rd part W G v x.parts) => clashI_calls x v W hv hx.1 hx.2)
  have HQ := Lib.hid (good_iff x)
  have HL : Hid (GoodP x → LenOk (clashL x)) := Lib.hid (lenOk_clash)
  have hB1 := below_then hB0 hb1
  have b1 := blk_below b0 hb1
  have hs1 := blk_lt b1
  obtain ⟨y1, _⟩ := cell_of_block b1
  have y10 : w1.cell? ⟨w.heap.size, 0, none⟩ = some (.slice A x.parts.length c) := (y1 0).trans rfl
  have y11 : w1.cell? ⟨w.heap.size, 1, none⟩ = some (.int .i64 x.values) := (y1 1).trans rfl
  clear y1 HC b0 hb1 hB0 hlim
  unfold saV at HT HG1 HG2
  generalize hLst : clashL x = LL at *
  clear hLst
  go_wp2_with fail
  refine (HT.out _ hB1).mono ?_
  rintro e w2 ⟨v2, rfl, hv2, hb2⟩
  obtain ⟨A2, c2, rfl, _, _⟩ := hv2.form
  have hB2 := below_then hB1 hb2
  have b2 := blk_below b1 hb2
  have hs2 := hb2.size
  clear y10 y11 hb2 b1
  go_wp2_with fail
  refine (HG1.out _ _ _ (partA_le.rd hv2.rd)).mono ?_
  rintro e w3 ⟨g1, vL, hg1, rfl, hvL, hb3⟩
  have hB3 := below_then hB2 hb3
  have b3 := blk_below b2 hb3
  have hs3 := hb3.size
  have hLn : LenOk (if g1 = true then LL else []) := by
    by_cases hgt : g1 = true
    · rw [if_pos hgt]; exact HL.out (hg1.out.1 hgt)
    · rw [if_neg hgt]; exact ⟨Nat.zero_le _, fun a ha => by cases ha⟩
  obtain ⟨l1, hl1⟩ : ∃ l1, l1 = (if g1 = true then LL else []) := ⟨_, rfl⟩
  rw [← hl1] at hvL hLn
  replace hl1 := Lib.hid hl1
  have htb := totLL_le hLn.2
  have hl0 := hLn.1
  replace hLn := Lib.hid hLn
  replace hvL := hvL.bound
  obtain ⟨AL, cL, hLe, _, _, _⟩ := id hvL
  subst hLe
  obtain ⟨y1, _⟩ := cell_of_block b3
  have y10 : w3.cell? ⟨w.heap.size, 0, none⟩ = some (.slice A x.parts.length c) := (y1 0).trans rfl
  have y11 : w3.cell? ⟨w.heap.size, 1, none⟩ = some (.int .i64 x.values) := (y1 1).trans rfl
  clear y1 hb3 b2 hv2
  go_wp2_with fail
  refine (HT.out _ hB3).mono ?_
  rintro e w4 ⟨v4, rfl, hv4, hb4⟩
  obtain ⟨A4, c4, rfl, _, _⟩ := hv4.form
  have hB4 := below_then hB3 hb4
  have b4 := blk_below b3 hb4
  have hs4 := hb4.size
  have hL4 := hvL.below hb4
  clear y10 y11 hb4 b3 hvL
  obtain ⟨W5, hW5⟩ : ∃ W5, W5 = w4.alloc (.cells #[.slice A4 x.parts.length c4, .int .i64 x.values] 29) := ⟨_, rfl⟩
  have hb5 : Below w4.heap.size w4 W5 := by rw [hW5]; exact below_new _
  have hs5 : W5.heap.size = w4.heap.size + 1 := by rw [hW5]; simp
  have e5 : W5.heap[w4.heap.size]? = some (.cells #[.slice A4 x.parts.length c4, .int .i64 x.values] 29 (0, 0)) := by rw [hW5]; exact heap_alloc_new w4 _
  have hM4 := Lib.hid (hv4.bound.mp hx.2)
  have hv5 := (partA_le.rd hv4.rd).below hb5
  have b5 := blk_below b4 hb5
  have hB5 := below_then hB4 hb5
  have hL5 := hL4.below hb5
  replace hW5 := Lib.hid hW5
  go_wp2_with fail
  rw [← hW5.out]
  refine (HG2.out _ _ _ hv5).mono ?_
  rintro e w6 ⟨g2, vG, hg2, rfl, hvG, hb6⟩
  have hB6 := below_then hB5 hb6
  have b6 := blk_below b5 hb6
  have e6 := blk_below e5 hb6
  have hs6 := hb6.size
  have hv6 := (hv5.mono (G := fun _ => True) (fun _ _ => trivial)).below hb6
  have hL6 := hL5.below hb6
  have hgg : g1 = g2 := by
    have := hg1.out.trans (HQ.out.symm.trans hg2.out.symm)
    cases g1 <;> cases g2 <;> simp_all
  subst hgg
  rw [← hl1.out] at hvG
  obtain ⟨AG, cG, hGe, _, _⟩ := hvG.form
  subst hGe
  have hgn : (g1 != g1) = false := by cases g1 <;> rfl
  have hBx : Below w4.heap.size w4 w6 := below_then hb5 hb6
  have HEq := Lib.hid (fun v u W G1 G2 (h1 : Rp.Rd (Rp.sl Rp.int) W G1 v l1) (h2 : Rp.Rd (Rp.sl Rp.int) W G2 u l1) => eqIntSS_calls v u l1 l1 W h1 h2)
  have hLE : Rp.Le (Rp.ow true 3 Rp.int) (Rp.sl Rp.int) := Rp.Le.ow (Rp.Le.refl _)
  have hdec : decide (l1 = l1) = true := decide_eq_true rfl
  rw [hdec] at HEq
  clear b4 b5 e5 hv4 hv5 hW5 HG1 hb5 hb6 hL4 hL5
  go_wp2_with fail
  refine (HEq.out _ _ _ _ _ (hLE.rd hvG.rd) hL6).mono ?_
  rintro e w7 ⟨rfl, hb7⟩
  have hB7 := below_then hB6 hb7
  have b7 := blk_below b6 hb7
  have e7 := blk_below e6 hb7
  have hv7 := hv6.below hb7
  have hG7 := hvG.below hb7
  have hL7 := hL6.below hb7
  have hBx7 := below_then hBx hb7
  have hs7 := hb7.size
  obtain ⟨y1, _⟩ := cell_of_block b7
  have y10 : w7.cell? ⟨w.heap.size, 0, none⟩ = some (.slice A x.parts.length c) := (y1 0).trans rfl
  have y11 : w7.cell? ⟨w.heap.size, 1, none⟩ = some (.int .i64 x.values) := (y1 1).trans rfl
  obtain ⟨z1, _⟩ := cell_of_block e7
  have z10 : w7.cell? ⟨w4.heap.size, 0, none⟩ = some (.slice A4 x.parts.length c4) := (z1 0).trans rfl
  have z11 : w7.cell? ⟨w4.heap.size, 1, none⟩ = some (.int .i64 x.values) := (z1 1).trans rfl
  clear y1 z1 hb7 hB6 b6 e6 hv6 hvG hL6 hBx
  go_wp2_with fail
  have HE := Lib.hid (fun u W (hu : Rp.Rd part W (fun q => w7.heap.size ≤ q) u x.parts) (hW : Below w7.heap.size w7 W) => eqSsa_calls x x _ u W (hv7.below hW) hu)
  have HEQ : Hid (eqSa x x = true) := Lib.hid (by unfold eqSa; simp)
  unfold saV at HE
  rw [HEQ.out] at HE
  go_region_held3 (fun w' => w'.cell? ⟨w.heap.size, 0, none⟩ = some (.slice A x.parts.length c) ∧ w'.cell? ⟨w.heap.size, 1, none⟩ = some (.int .i64 x.values) ∧ w'.cell? ⟨w4.heap.size, 0, none⟩ = some (.slice A4 x.parts.length c4) ∧ w'.cell? ⟨w4.heap.size, 1, none⟩ = some (.int .i64 x.values))
    (first | go_keep | (go_split_ands; refine ⟨?_, ?_, ?_, ?_⟩ <;> first | exact cell_below hB9 (by assumption) | exact cell_below hB8 (by assumption) | assumption))
    ((first | (go_at_call 14; refine (HT.out _ (below_drew hB7)).mono ?_; rintro e w8 ⟨v8, rfl, hv8, hb8⟩; have hB8 := below_then (below_drew (Below.refl _ _)) hb8; obtain ⟨A8, c8, rfl, _, _⟩ := hv8.form) | (go_at_call 16; refine (HE.out _ _ (partA_le.rd hv8.rd) hB8).mono ?_; rintro e w9 ⟨rfl, hb9⟩; have hB9 := below_then hB8 hb9)))
  have hB9w := below_then hB7 hB9
  have b9 := blk_below b7 hB9
  have e9 := blk_below e7 hB9
  have hG9 := hG7.below hB9
  have hL9 := hL7.below hB9
  have hBx9 := below_then hBx7 hB9
  have hs9 := hB9.size
  clear HE HEQ y10 y11 z10 z11 hv8 hB8 hb8 hb9 hB9 hB7 b7 e7 hG7 hL7 hBx7 hv7
  have hMx := Lib.hid (hM4.out.stay (Stay.below (fun q hq => hq.2) hBx9))
  have hFx : ∀ q, (w3.heap.size ≤ q ∧ q < w4.heap.size) → q < w9.heap.size := fun q hq => by omega
  have HMk := Lib.hid (markSa_calls (.slice A4 x.parts.length c4) (.int .i64 x.values) x.parts.length 1 w9 hMx.out hFx (by omega) (by have := hx.1; omega))
  obtain ⟨z1, _⟩ := cell_of_block e9
  have z10 : w9.cell? ⟨w4.heap.size, 0, none⟩ = some (.slice A4 x.parts.length c4) := (z1 0).trans rfl
  have z11 : w9.cell? ⟨w4.heap.size, 1, none⟩ = some (.int .i64 x.values) := (z1 1).trans rfl
  clear z1 hM4 hMx
  go_wp2_with fail
  refine HMk.out.mono ?_
  rintro e w10 ⟨z, rfl, hz0, hCx⟩
  have hs10 := hCx.size
  have hB10 := hCx.to_below hB9w hB9w.size (fun q hq => by omega)
  have b10 := hCx.blk b9 (by omega)
  have hL10 := hL9.move (hCx.same (fun q hq h => by omega))
  have hG10 := hG9.move (hCx.same (fun q hq h => by omega))
  clear HMk z10 z11 e9 hBx9 hCx hFx hB9w b9 hL9 hG9
  go_wp2_with fail
  refine (HEq.out _ _ _ _ _ (hLE.rd hG10.rd) hL10).mono ?_
  rintro e w11 ⟨rfl, hb11⟩
  have hB11 := below_then hB10 hb11
  have b11 := blk_below b10 hb11
  have hG11 := hG10.below hb11
  have hL11 := hL10.below hb11
  have hs11 := hb11.size
  clear hb11 hB10 b10 hG10 hL10 hz0
  go_wp2_with fail
  refine (markII_own _ _ 1 _ hG11 hLn.out.1 hLn.out.2 (by omega) (by omega)).mono ?_
  rintro e w12 ⟨rfl, hG12, hCg⟩
  have hs12 := hCg.size
  have hB12 := hCg.to_below hB11 hB11.size (fun q hq => by omega)
  have b12 := hCg.blk b11 (by omega)
  have hL12 := hL11.move (hCg.same (fun q hq h => by omega))
  clear hCg hB11 b11 hL11 hG11
  have hnn : ((1 : Int) + (totLL l1 : Int) != 1 + (totLL l1 : Int)) = false := by simp
  have hn0 : ¬ ((1 : Int) + (totLL l1 : Int) < 0) := by omega
  have hG12f := hG12.rd
  go_wp2_with fail
  refine (heldII_calls _ l1 1 _ (hLE.rd hG12f) hLn.out.1 hLn.out.2 (by omega) (by omega)).mono ?_
  rintro e w13 ⟨rfl, rfl⟩
  obtain ⟨y1, _⟩ := cell_of_block b12
  have y10 : w12.cell? ⟨w.heap.size, 0, none⟩ = some (.slice A x.parts.length c) := (y1 0).trans rfl
  have y11 : w12.cell? ⟨w.heap.size, 1, none⟩ = some (.int .i64 x.values) := (y1 1).trans rfl
  clear y1
  go_wp2_with fail
  refine (HT.out _ hB12).mono ?_
  rintro e w14 ⟨v14, rfl, hv14, hb14⟩
  obtain ⟨A14, c14, rfl, _, _⟩ := hv14.form
  have hB14 := below_then hB12 hb14
  have hG14 := hG12.below hb14
  have hL14 := hL12.below hb14
  clear y10 y11 b12 hb14 hB12 hG12 hL12
  go_wp2_with fail
  refine (HG2.out _ _ _ (partA_le.rd hv14.rd)).mono ?_
  rintro e w15 ⟨g3, vH, hg3, rfl, hvH, hb15⟩
  have hB15 := below_then hB14 hb15
  have hG15 := hG14.below hb15
  have hL15 := hL14.below hb15
  have hgg : g1 = g3 := by
    have := hg2.out.trans hg3.out.symm
    cases g1 <;> cases g3 <;> simp_all
  subst hgg
  rw [← hl1.out] at hvH
  obtain ⟨AH, cH, hHe, _, _⟩ := hvH.form
  subst hHe
  clear hb15 hB14 hG14 hL14 hv14
  go_wp2_with fail
  refine (HEq.out _ _ _ _ _ (hLE.rd hvH.rd) hL15).mono ?_
  rintro e w16 ⟨rfl, hb16⟩
  have hB16 := below_then hB15 hb16
  have hG16 := hG15.below hb16
  clear hb16 hB15 hG15 hL15 hvH
  go_wp2_with fail
  refine (heldII_calls _ l1 1 _ (hLE.rd hG16.rd) hLn.out.1 hLn.out.2 (by omega) (by omega)).mono ?_
  rintro e w17 ⟨rfl, rfl⟩
  go_wp2
  go_ret
  exact ⟨rfl, hB16⟩
end Go.Proofs.Ytmcnoeinjocimaa.L
