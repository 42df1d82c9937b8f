/- Joined texts, each of which was built by itself: Uf8 LwUseFirst. -/
import Derived.Test.YtnfaibenekninaaGreatFUseFirst10
import Derived.Test.YtnfaibenekninaaGreatFUseFirst8
import Derived.Test.YtnfaibenekninaaGreatFUseFirst7
import Derived.Test.YtnfaibenekninaaGreatB12
import Derived.Test.YtnfaibenekninaaGreatB2
import Derived.Deep.RegionHeld3
set_option linter.unusedVariables false
set_option linter.unusedSimpArgs false
namespace Go.Proofs.YtnfaibenekninaaGreat.L
open Go.RowKit
set_option maxRecDepth 100000 in
set_option maxHeartbeats 8000000 in
theorem useFirstS_calls {F : Nat → Prop} (s : Sa) (vparts : Value) (w : World) (hs : Rp.Rd part w F vparts s.parts) (hx : SaLim s) :
    Calls Tryz.prog 7 #[saV s vparts] w (SsaRes (GoodP s) (useS s) (useN s) w) := by
  obtain ⟨A, c, rfl, _, _, _⟩ := rd_part hs
  have HG := Lib.hid (fun W (hW : Below w.heap.size w W) => goodS_calls s _ W (hs.below hW) hx.1 hx.2)
  have HSp := Lib.hid (fun W (hW : Below w.heap.size w W) (h : GoodP s) => l11UseFirst_calls s _ W (hs.below hW) h hx)
  unfold saV at HG HSp ⊢
  have hB0 : Below w.heap.size w ((w.alloc (.cells #[.slice A s.parts.length c, .int .i64 s.values] 28)).alloc (.cells #[.slice none 0 0, .int .i64 0] 28)) := below_then (below_new _) (below_new _)
  have b0 : ((w.alloc (.cells #[.slice A s.parts.length c, .int .i64 s.values] 28)).alloc (.cells #[.slice none 0 0, .int .i64 0] 28)).heap[w.heap.size]? = some (.cells #[.slice A s.parts.length c, .int .i64 s.values] 28 (0, 0)) := alloc_old (alloc_at rfl)
  have r0 : ((w.alloc (.cells #[.slice A s.parts.length c, .int .i64 s.values] 28)).alloc (.cells #[.slice none 0 0, .int .i64 0] 28)).heap[w.heap.size + 1]? = some (.cells #[.slice none 0 0, .int .i64 0] 28 (0, 0)) := alloc_at (by simp)
  obtain ⟨x1, _⟩ := cell_of_block b0
  have x10 := (x1 0).trans (show (#[Value.slice A s.parts.length c, Value.int .i64 s.values] : Array Value)[0]? = some (Value.slice A s.parts.length c) from rfl)
  have x11 := (x1 1).trans (show (#[Value.slice A s.parts.length c, Value.int .i64 s.values] : Array Value)[1]? = some (Value.int .i64 s.values) from rfl)
  clear x1
  go_enter Tryz.func7, Tryz.ntmps7
  go_wp2_with fail
  generalize (w.alloc (.cells #[.slice A s.parts.length c, .int .i64 s.values] 28)).alloc (.cells #[.slice none 0 0, .int .i64 0] 28) = W0 at *
  refine (HG.out _ hB0).mono ?_
  rintro e w1 ⟨g, rfl, hg, hb1⟩
  have hB1 := below_then hB0 hb1
  have b1 := blk_below b0 hb1
  have r1 := blk_below r0 hb1
  have hr1s := blk_lt r1
  clear x10 x11 b0 r0 hB0 hb1 HG
  cases g
  · obtain ⟨y1, y2⟩ := cell_of_block r1
    have z10 : w1.cell? ⟨w.heap.size + 1, 0, none⟩ = some (.slice none 0 0) := (y1 0).trans rfl
    have z11 : w1.cell? ⟨w.heap.size + 1, 1, none⟩ = some (.int .i64 0) := (y1 1).trans rfl
    have z20 := y2 0
    have z21 := y2 1
    have hE := res_end (.slice none 0 0) (.int .i64 0) r1 hB1
    have cF := Lib.hid (cell_of_block hE.1).1
    have hBf := hE.2.1
    clear y1 y2 b1 hE
    go_wp2_with fail
    have cF := cF.out
    refine bodyPost_ret (v := .tuple #[.agg #[.slice none 0 0, .int .i64 0], .int .i64 0, .bool false]) (by simp [results, Tryz.results7, go_sem, cF]) rfl ?_
    exact .mk false ⟨[], 0⟩ 0 (.slice none 0 0) hg (Lib.hid ⟨rfl, rfl⟩) rfl (Ow.nil _ _ _ _ _) hBf
  have hgp := Lib.hid (hg.out.1 rfl)
  obtain ⟨y1, _⟩ := cell_of_block b1
  have x10 : w1.cell? ⟨w.heap.size, 0, none⟩ = some (.slice A s.parts.length c) := (y1 0).trans rfl
  have x11 : w1.cell? ⟨w.heap.size, 1, none⟩ = some (.int .i64 s.values) := (y1 1).trans rfl
  clear y1 b1
  go_wp2_with fail
  refine (HSp.out _ hB1 hgp.out).mono ?_
  rintro e w2 ⟨v2, rfl, hO2, hb2⟩
  obtain ⟨A2, c2, rfl, _, _⟩ := hO2.form
  have hB2 := below_then hB1 hb2
  have r2 := blk_below r1 hb2
  have hbx := below_new (w := w2) (.cells #[.slice A2 (useS s).parts.length c2, .int .i64 (useS s).values] 28)
  have hO3 := hO2.below hbx
  have hB3 := below_then hB2 hbx
  have r3 := blk_below r2 hbx
  have o3 := heap_alloc_new w2 (.cells #[.slice A2 (useS s).parts.length c2, .int .i64 (useS s).values] 28)
  obtain ⟨y1, _⟩ := cell_of_block o3
  have x20 := (y1 0).trans (show (#[Value.slice A2 (useS s).parts.length c2, Value.int .i64 (useS s).values] : Array Value)[0]? = some (Value.slice A2 (useS s).parts.length c2) from rfl)
  have x21 := (y1 1).trans (show (#[Value.slice A2 (useS s).parts.length c2, Value.int .i64 (useS s).values] : Array Value)[1]? = some (Value.int .i64 (useS s).values) from rfl)
  clear y1 x10 x11 r1 hb2 HSp hO2 hB2 r2 o3
  have hB4 := hB3
  have r4 := r3
  have hO4 := hO3
  have hs3 := hB3.size
  have hlr := blk_lt r3
  obtain ⟨y1, y2⟩ := cell_of_block r4
  have z10 : (w2.alloc (.cells #[.slice A2 (useS s).parts.length c2, .int .i64 (useS s).values] 28)).cell? ⟨w.heap.size + 1, 0, none⟩ = some (.slice none 0 0) := (y1 0).trans rfl
  have z11 : (w2.alloc (.cells #[.slice A2 (useS s).parts.length c2, .int .i64 (useS s).values] 28)).cell? ⟨w.heap.size + 1, 1, none⟩ = some (.int .i64 0) := (y1 1).trans rfl
  have z20 := y2 0
  have z21 := y2 1
  have hE := res_end (.slice A2 (useS s).parts.length c2) (.int .i64 (useS s).values) r4 hB4
  have cF := Lib.hid (cell_of_block hE.1).1
  have hN : Hid (true = true ↔ GoodP s) := Lib.hid ⟨fun _ => hgp.out, fun _ => rfl⟩
  have hOf := (hO4.move (hE.2.2.same (fun q hq h => by have h : q = w.heap.size + 1 := h; have hq : w1.heap.size ≤ q := hq; have h5 := hr1s; omega))).mono (G := fun q => w.heap.size ≤ q) (fun q hq => by have hq : w1.heap.size ≤ q := hq; have h5 := hr1s; omega)
  have hBf := hE.2.1
  clear y1 y2 hO3 hB3 r3 hO4 r4 hB4 hE
  go_wp2_with fail
  have cF := cF.out
  refine bodyPost_ret (v := .tuple #[.agg #[.slice A2 (useS s).parts.length c2, .int .i64 (useS s).values], .int .i64 (useN s : Nat), .bool true]) (by simp [results, Tryz.results7, go_sem, cF]) rfl ?_
  exact .mk true (useS s) (useN s) _ (Lib.hid ⟨fun _ => hN.out.1 trivial, fun _ => rfl⟩) (Lib.hid ⟨rfl, rfl⟩) rfl hOf hBf
set_option maxRecDepth 100000 in
set_option maxHeartbeats 8000000 in
theorem useFirstI_calls {F : Nat → Prop} (s : Sa) (vparts : Value) (w : World) (hs : Rp.Rd part w F vparts s.parts) (hx : SaLim s) :
    Calls Tryz.prog 9 #[saV s vparts] w (SsaRes (GoodP s) (useS s) (useN s) w) := by
  obtain ⟨A, c, rfl, _, _, _⟩ := rd_part hs
  have HG := Lib.hid (fun W (hW : Below w.heap.size w W) => viewOf_calls s _ W (hs.below hW) hx.1 hx.2)
  have HQ := Lib.hid (good_iff s)
  have HRs := Lib.hid (fun W (hW : Below w.heap.size w W) => hs.below hW)
  have HSp := Lib.hid (fun W (hW : Below w.heap.size w W) => cloneSsa_calls s _ W (hs.below hW) hx)
  have HSe := Lib.hid (fun W vb ob B0 vn vd vD vT vp D T M (FO : Nat → Prop) (hW : Below w.heap.size w W) hv hvB hD hT hM (h : GoodP s) (hgv : GoodV s D T M) ho hO hFO hob => useFirst_calls (FO := FO) s vb ob B0 (.slice A s.parts.length c) vn vd vD vT vp D T M W hv hvB (hs.below hW) hD hT hM h hgv hx.2 ho hO hFO hob)
  have HV : Hid (GoodP s → (useS s).values = s.values) := Lib.hid (fun h => rfl)
  unfold saV at HG HSp ⊢
  have hB0 : Below w.heap.size w ((w.alloc (.cells #[.slice A s.parts.length c, .int .i64 s.values] 28)).alloc (.cells #[.slice none 0 0, .int .i64 0] 28)) := below_then (below_new _) (below_new _)
  have b0 : ((w.alloc (.cells #[.slice A s.parts.length c, .int .i64 s.values] 28)).alloc (.cells #[.slice none 0 0, .int .i64 0] 28)).heap[w.heap.size]? = some (.cells #[.slice A s.parts.length c, .int .i64 s.values] 28 (0, 0)) := alloc_old (alloc_at rfl)
  have r0 : ((w.alloc (.cells #[.slice A s.parts.length c, .int .i64 s.values] 28)).alloc (.cells #[.slice none 0 0, .int .i64 0] 28)).heap[w.heap.size + 1]? = some (.cells #[.slice none 0 0, .int .i64 0] 28 (0, 0)) := alloc_at (by simp)
  obtain ⟨x1, _⟩ := cell_of_block b0
  have x10 := (x1 0).trans (show (#[Value.slice A s.parts.length c, Value.int .i64 s.values] : Array Value)[0]? = some (Value.slice A s.parts.length c) from rfl)
  have x11 := (x1 1).trans (show (#[Value.slice A s.parts.length c, Value.int .i64 s.values] : Array Value)[1]? = some (Value.int .i64 s.values) from rfl)
  clear x1
  go_enter Tryz.func9, Tryz.ntmps9
  go_wp2_with fail
  generalize (w.alloc (.cells #[.slice A s.parts.length c, .int .i64 s.values] 28)).alloc (.cells #[.slice none 0 0, .int .i64 0] 28) = W0 at *
  refine (HG.out _ hB0).mono ?_
  rintro e w1 (⟨rfl, hn, hb1⟩ | ⟨vb, D, T, M, vn, vd, vD, vT, rfl, hv, hz, hD, hT, hM, hNx, hg, hb1⟩)
  · have hB1 := below_then hB0 hb1
    have r1 := blk_below r0 hb1
    obtain ⟨y1, y2⟩ := cell_of_block r1
    have z10 : w1.cell? ⟨w.heap.size + 1, 0, none⟩ = some (.slice none 0 0) := (y1 0).trans rfl
    have z11 : w1.cell? ⟨w.heap.size + 1, 1, none⟩ = some (.int .i64 0) := (y1 1).trans rfl
    have z20 := y2 0
    have z21 := y2 1
    have hE := res_end (.slice none 0 0) (.int .i64 0) r1 hB1
    have cF := Lib.hid (cell_of_block hE.1).1
    have hBf := hE.2.1
    have hN : Hid (false = true ↔ GoodP s) := Lib.hid ⟨fun h => Bool.noConfusion h, fun h => absurd (HQ.out.2 h) hn.out⟩
    clear y1 y2 hE hn x10 x11 b0 r0 hB0 hb1 HG
    go_wp2_with fail
    have cF := cF.out
    refine bodyPost_ret (v := .tuple #[.agg #[.slice none 0 0, .int .i64 0], .int .i64 0, .bool false]) (by simp [results, Tryz.results9, go_sem, cF]) rfl ?_
    exact .mk false ⟨[], 0⟩ 0 (.slice none 0 0) hN (Lib.hid ⟨rfl, rfl⟩) rfl (Ow.nil _ _ _ _ _) hBf
  have hB1 := below_then hB0 hb1
  have b1 := blk_below b0 hb1
  have r1 := blk_below r0 hb1
  have hvl := blk_lt hv
  have hD1 := hD.rd.bound.mono (G := fun q => q < w1.heap.size) (fun q hq => hq.2)
  have hT1 := hT.bound.mono (G := fun q => q < w1.heap.size) (fun q hq => hq.2)
  have hM1 := hM.bound.mono (G := fun q => q < w1.heap.size) (fun q hq => hq.2)
  clear x10 x11 b0 r0 hB0 HG hD hT hM hNx
  have hgp := Lib.hid (HQ.out.1 ⟨D, T, M, hg.out⟩)
  obtain ⟨y1, _⟩ := cell_of_block b1
  have x10 : w1.cell? ⟨w.heap.size, 0, none⟩ = some (.slice A s.parts.length c) := (y1 0).trans rfl
  have x11 : w1.cell? ⟨w.heap.size, 1, none⟩ = some (.int .i64 s.values) := (y1 1).trans rfl
  clear y1 b1
  go_wp2_with fail
  refine (HSp.out _ hB1).mono ?_
  rintro e w2 ⟨v2, rfl, hO2, hb2⟩
  obtain ⟨A2, c2, rfl, _, _⟩ := hO2.form
  have hs1 := hB1.size
  have hB2 := below_then hB1 hb2
  have r2 := blk_below r1 hb2
  have hs2 := blk_lt r1
  have hs12 := hb2.size
  clear x10 x11 r1 HSp
  have hbx := below_new (w := w2) (.cells #[.slice A2 s.parts.length c2, .int .i64 s.values] 28)
  have hO3 := hO2.bound.below hbx
  have hB3 := below_then hB2 hbx
  have r3 := blk_below r2 hbx
  have o3 := heap_alloc_new w2 (.cells #[.slice A2 s.parts.length c2, .int .i64 s.values] 28)
  have hz3 : w2.heap.size < (w2.alloc (.cells #[.slice A2 s.parts.length c2, .int .i64 s.values] 28)).heap.size := by simp
  have hs0 := hB2.size
  have hW3 := below_then hb2 hbx
  have hv3 := blk_below hv hW3
  have hD3 := hD1.below hW3
  have hT3 := hT1.below hW3
  have hM3 := hM1.below hW3
  clear hO2 hB2 r2 hb2 hW3 hv hD1 hT1 hM1
  go_wp2_with fail
  generalize w2.alloc (.cells #[.slice A2 s.parts.length c2, .int .i64 s.values] 28) = W3 at *
  refine (HSe.out W3 vb w2.heap.size w1.heap.size _ _ _ _ _ D T M _ hB3 hv3 hvl hD3 hT3 hM3 hgp.out hg.out o3 hO3 (fun q hq => ⟨hq.1, by have := hq.2; omega, by have := hq.2; omega⟩) hs12).mono ?_
  rintro e w5 ⟨rfl, hO5, hC5⟩
  have hB5 := hC5.to_below hB3 hB3.size (fun q hq => by have := hq.1; omega)
  have r5 := hC5.blk r3 (fun h => by have := h.1; omega)
  have o5 := hC5.blk o3 (fun h => by have := h.2; omega)
  have hVV := HV.out hgp.out
  have hlen : s.parts.length = (useS s).parts.length := by
    have := hO5.form
    obtain ⟨_, _, he, _, _⟩ := this
    injection he
  rw [← hVV] at o5
  replace hVV := Lib.hid hVV
  obtain ⟨y1, _⟩ := cell_of_block o5
  have x10 : w5.cell? ⟨w2.heap.size, 0, none⟩ = some (.slice A2 s.parts.length c2) := (y1 0).trans rfl
  have x11 : w5.cell? ⟨w2.heap.size, 1, none⟩ = some (.int .i64 (useS s).values) := (y1 1).trans rfl
  obtain ⟨y1, y2⟩ := cell_of_block r5
  have z10 : w5.cell? ⟨w.heap.size + 1, 0, none⟩ = some (.slice none 0 0) := (y1 0).trans rfl
  have z11 : w5.cell? ⟨w.heap.size + 1, 1, none⟩ = some (.int .i64 0) := (y1 1).trans rfl
  have z20 := y2 0
  have z21 := y2 1
  have hE := res_end (.slice A2 s.parts.length c2) (.int .i64 (useS s).values) r5 hB5
  have cF := Lib.hid (cell_of_block hE.1).1
  have hN : Hid (true = true ↔ GoodP s) := Lib.hid ⟨fun _ => hgp.out, fun _ => rfl⟩
  have hOf := (hO5.move (hE.2.2.same (fun q hq h => by have h : q = w.heap.size + 1 := h; have := hq.1; omega))).mono (G := fun q => w.heap.size ≤ q) (fun q hq => by have := hq.1; omega)
  have hBf := hE.2.1
  clear y1 y2 hO3 hB3 r3 o3 hO5 hC5 HSe r5 o5 hB5 hE
  replace hlen := Lib.hid hlen
  go_wp2_with fail
  have cF := cF.out
  refine bodyPost_ret (v := .tuple #[.agg #[.slice A2 s.parts.length c2, .int .i64 (useS s).values], .int .i64 (useN s : Nat), .bool true]) (by simp [results, Tryz.results9, go_sem, cF]) rfl ?_
  exact .mk true (useS s) (useN s) _ (Lib.hid ⟨fun _ => hN.out.1 trivial, fun _ => rfl⟩) (Lib.hid ⟨rfl, rfl⟩) rfl hOf hBf
end Go.Proofs.YtnfaibenekninaaGreat.L

set_option linter.unusedVariables false
set_option linter.unusedSimpArgs false
namespace Go.Proofs.YtnfaibenekninaaGreat.L
open Go.RowKit
set_option maxRecDepth 100000 in
set_option maxHeartbeats 8000000 in
theorem lawUseFirst_calls {F : Nat → Prop} (x : Sa) (vparts : Value) (w : World) (h : Rp.Rd part w F vparts x.parts) :
    Calls Tryz.prog 3 #[saV x vparts] w fun e w' => e = .returned (.bool true) ∧ Below w.heap.size w w' := by
  have HC := fun W (hW : Below w.heap.size w W) => szSsa_calls x vparts 1048576 W (h.below hW) (by omega) (by omega)
  have hb0 := szSa_bd (x := x) (left := 1048576) (by omega)
  generalize szSa x 1048576 = r at *
  have hlim : 0 ≤ r → SaLim x := fun h0 => (hb0.2.2 h0).1
  clear hb0
  unfold saV at HC ⊢
  have HC := Lib.hid HC
  have hB0 : Below w.heap.size w (w.alloc (.cells #[vparts, .int .i64 x.values] 24)) := below_new _
  have b0 := heap_alloc_new w (.cells #[vparts, .int .i64 x.values] 24)
  have hlim := Lib.hid hlim
  obtain ⟨A, c, rfl, _, _, _⟩ := id h
  go_enter Tryz.func3, Tryz.ntmps3
  go_wp2_with fail
  refine (HC.out _ hB0).mono ?_
  rintro e w1 ⟨rfl, hb1⟩
  by_cases hneg : r < 0
  · have hB := below_then hB0 hb1
    go_wp2
    go_ret
    exact ⟨rfl, hB⟩
  have hx := hlim.out (by omega)
  have HT := Lib.hid (fun W (hW : Below w.heap.size w W) => toSsa_rd2 x _ W (h.below hW) hx)
  have HG1 := Lib.hid (fun v W G (hv : Rp.Rd part W G v x.parts) => useFirstS_calls x v W hv hx)
  have HG2 := Lib.hid (fun v W G (hv : Rp.Rd part W G v x.parts) => useFirstI_calls x v W hv hx)
  have HOK : Hid (GoodP x → PtsOk (useS x).parts) := Lib.hid (fun h => useS_ok h)
  have hB1 := below_then hB0 hb1
  have b1 := blk_below b0 hb1
  have hs1 := blk_lt b1
  obtain ⟨y1, _⟩ := cell_of_block b1
  have y10 : w1.cell? ⟨w.heap.size, 0, none⟩ = some (.slice A x.parts.length c) := (y1 0).trans rfl
  have y11 : w1.cell? ⟨w.heap.size, 1, none⟩ = some (.int .i64 x.values) := (y1 1).trans rfl
  clear y1 HC b0 hb1 hB0 hlim
  unfold saV at HT HG1 HG2
  generalize hGGe : (GoodP x) = GG at *
  generalize hSSe : (useS x) = SS at *
  generalize hNNe : (useN x) = nN at *
  clear hGGe hSSe hNNe
  go_wp2_with fail
  refine (HT.out _ hB1).mono ?_
  rintro e w2 ⟨v2, rfl, hv2, hb2⟩
  obtain ⟨A2, c2, rfl, _, _⟩ := hv2.form
  have hB2 := below_then hB1 hb2
  have b2 := blk_below b1 hb2
  have hs2 := hb2.size
  clear y10 y11 hb2 b1
  go_wp2_with fail
  refine (HG1.out _ _ _ (partA_le.rd hv2.rd)).mono ?_
  rintro e w3 ⟨g1, S1, n1, vL, hg1, hS1, rfl, hvL, hb3⟩
  unfold saV
  have hB3 := below_then hB2 hb3
  have b3 := blk_below b2 hb3
  have hs3 := hb3.size
  have hPO : PtsOk S1.parts := by
    rw [hS1.out.1]
    by_cases hgt : g1 = true
    · rw [if_pos hgt]; exact HOK.out (hg1.out.1 hgt)
    · rw [if_neg hgt]; exact ⟨Nat.zero_le _, fun a ha => by cases ha⟩
  have htb := totP_le hPO.2
  have hl0 := hPO.1
  replace hPO := Lib.hid hPO
  obtain ⟨AL, cL, rfl, _, _⟩ := hvL.form
  have hL3 := (partA_le.rd hvL.rd).bound
  have hbL := below_new (w := w3) (.cells #[.slice AL S1.parts.length cL, .int .i64 S1.values] 28)
  have l3 := heap_alloc_new w3 (.cells #[.slice AL S1.parts.length cL, .int .i64 S1.values] 28)
  have hzL : w3.heap.size < (w3.alloc (.cells #[.slice AL S1.parts.length cL, .int .i64 S1.values] 28)).heap.size := by simp
  have b3 := blk_below b3 hbL
  have hB3 := below_then hB3 hbL
  have hL3 := hL3.below hbL
  obtain ⟨y1, _⟩ := cell_of_block b3
  have y10 : (w3.alloc (.cells #[.slice AL S1.parts.length cL, .int .i64 S1.values] 28)).cell? ⟨w.heap.size, 0, none⟩ = some (.slice A x.parts.length c) := (y1 0).trans rfl
  have y11 : (w3.alloc (.cells #[.slice AL S1.parts.length cL, .int .i64 S1.values] 28)).cell? ⟨w.heap.size, 1, none⟩ = some (.int .i64 x.values) := (y1 1).trans rfl
  clear y1 hb3 b2 hv2 hvL hbL
  go_wp2_with fail
  generalize w3.alloc (.cells #[.slice AL S1.parts.length cL, .int .i64 S1.values] 28) = w3b at *
  refine (HT.out _ hB3).mono ?_
  rintro e w4 ⟨v4, rfl, hv4, hb4⟩
  obtain ⟨A4, c4, rfl, _, _⟩ := hv4.form
  have hB4 := below_then hB3 hb4
  have b4 := blk_below b3 hb4
  have l4 := blk_below l3 hb4
  have hs4 := hb4.size
  have hL4 := hL3.below hb4
  clear y10 y11 hb4 b3 hL3 l3
  obtain ⟨W5, hW5⟩ : ∃ W5, W5 = w4.alloc (.cells #[.slice A4 x.parts.length c4, .int .i64 x.values] 28) := ⟨_, rfl⟩
  have hb5 : Below w4.heap.size w4 W5 := by rw [hW5]; exact below_new _
  have hs5 : W5.heap.size ≤ w4.heap.size + 1 ∧ w4.heap.size + 1 ≤ W5.heap.size := by rw [hW5]; simp
  have e5 : W5.heap[w4.heap.size]? = some (.cells #[.slice A4 x.parts.length c4, .int .i64 x.values] 28 (0, 0)) := by rw [hW5]; exact heap_alloc_new w4 _
  have hM4 := Lib.hid (hv4.bound.mp hx.2)
  have hv5 := (partA_le.rd hv4.rd).below hb5
  have b5 := blk_below b4 hb5
  have l5 := blk_below l4 hb5
  have hB5 := below_then hB4 hb5
  have hL5 := hL4.below hb5
  replace hW5 := Lib.hid hW5
  go_wp2_with fail
  rw [← hW5.out]
  refine (HG2.out _ _ _ hv5).mono ?_
  rintro e w6 ⟨g2, S2, n2, vG, hg2, hS2, rfl, hvG, hb6⟩
  unfold saV
  have hB6 := below_then hB5 hb6
  have b6 := blk_below b5 hb6
  have l6 := blk_below l5 hb6
  have e6 := blk_below e5 hb6
  have hs6 := hb6.size
  have hv6 := (hv5.mono (G := fun _ => True) (fun _ _ => trivial)).below hb6
  have hL6 := hL5.below hb6
  have hgg : g1 = g2 := by
    have := hg1.out.trans hg2.out.symm
    cases g1 <;> cases g2 <;> simp_all
  subst hgg
  obtain rfl : S2 = S1 := hS2.out.1.trans hS1.out.1.symm
  obtain rfl : n2 = n1 := hS2.out.2.trans hS1.out.2.symm
  obtain ⟨AG, cG, rfl, _, _⟩ := hvG.form
  have hBx : Below w4.heap.size w4 w6 := below_then hb5 hb6
  have HEq := Lib.hid (fun v u W G1 G2 (h1 : Rp.Rd part W G1 v S2.parts) (h2 : Rp.Rd part W G2 u S2.parts) => eqSsa_calls S2 S2 v u W h1 h2)
  have hdec : eqSa S2 S2 = true := by unfold eqSa; simp
  rw [hdec] at HEq
  unfold saV at HEq
  have hbG := below_new (w := w6) (.cells #[.slice AG S2.parts.length cG, .int .i64 S2.values] 28)
  have g6 := heap_alloc_new w6 (.cells #[.slice AG S2.parts.length cG, .int .i64 S2.values] 28)
  have hzG : w6.heap.size < (w6.alloc (.cells #[.slice AG S2.parts.length cG, .int .i64 S2.values] 28)).heap.size := by simp
  have hG6 := hvG.bound.below hbG
  have hL6 := hL6.below hbG
  have b6 := blk_below b6 hbG
  have l6 := blk_below l6 hbG
  have e6 := blk_below e6 hbG
  have hB6 := below_then hB6 hbG
  have hBx := below_then hBx hbG
  have hv6 := hv6.below hbG
  obtain ⟨y1, _⟩ := cell_of_block g6
  have g0 := (y1 0).trans (show (#[Value.slice AG S2.parts.length cG, Value.int .i64 S2.values] : Array Value)[0]? = some (Value.slice AG S2.parts.length cG) from rfl)
  have g10 := (y1 1).trans (show (#[Value.slice AG S2.parts.length cG, Value.int .i64 S2.values] : Array Value)[1]? = some (Value.int .i64 S2.values) from rfl)
  obtain ⟨y1, _⟩ := cell_of_block l6
  have l0 := (y1 0).trans (show (#[Value.slice AL S2.parts.length cL, Value.int .i64 S2.values] : Array Value)[0]? = some (Value.slice AL S2.parts.length cL) from rfl)
  have l10 := (y1 1).trans (show (#[Value.slice AL S2.parts.length cL, Value.int .i64 S2.values] : Array Value)[1]? = some (Value.int .i64 S2.values) from rfl)
  have hgn : (g1 != g1) = false := by cases g1 <;> rfl
  have hnn1 : ((n2 : Int) != (n2 : Int)) = false := by simp
  clear y1 b4 b5 e5 l4 l5 hv4 hv5 hW5 HG1 hb5 hb6 hL4 hL5 hvG hbG
  go_wp2_with fail
  generalize w6.alloc (.cells #[.slice AG S2.parts.length cG, .int .i64 S2.values] 28) = w6b at *
  refine (HEq.out _ _ _ _ _ (partA_le.rd hG6.rd) hL6).mono ?_
  rintro e w7 ⟨rfl, hb7⟩
  have hB7 := below_then hB6 hb7
  have b7 := blk_below b6 hb7
  have e7 := blk_below e6 hb7
  have l7 := blk_below l6 hb7
  have g7 := blk_below g6 hb7
  have hv7 := hv6.below hb7
  have hG7 := hG6.below hb7
  have hL7 := hL6.below hb7
  have hBx7 := below_then hBx hb7
  have hs7 := hb7.size
  obtain ⟨y1, _⟩ := cell_of_block b7
  have y10 : w7.cell? ⟨w.heap.size, 0, none⟩ = some (.slice A x.parts.length c) := (y1 0).trans rfl
  have y11 : w7.cell? ⟨w.heap.size, 1, none⟩ = some (.int .i64 x.values) := (y1 1).trans rfl
  obtain ⟨z1, _⟩ := cell_of_block e7
  have z10 : w7.cell? ⟨w4.heap.size, 0, none⟩ = some (.slice A4 x.parts.length c4) := (z1 0).trans rfl
  have z11 : w7.cell? ⟨w4.heap.size, 1, none⟩ = some (.int .i64 x.values) := (z1 1).trans rfl
  clear y1 z1 hb7 hB6 b6 e6 l6 g6 hv6 hG6 hL6 hBx g0 g10 l0 l10
  go_wp2_with fail
  have HE := Lib.hid (fun u W (hu : Rp.Rd part W (fun q => w7.heap.size ≤ q) u x.parts) (hW : Below w7.heap.size w7 W) => eqSsa_calls x x _ u W (hv7.below hW) hu)
  have HEQ : Hid (eqSa x x = true) := Lib.hid (by unfold eqSa; simp)
  unfold saV at HE
  rw [HEQ.out] at HE
  go_region_held3 (fun w' => w'.cell? ⟨w.heap.size, 0, none⟩ = some (.slice A x.parts.length c) ∧ w'.cell? ⟨w.heap.size, 1, none⟩ = some (.int .i64 x.values) ∧ w'.cell? ⟨w4.heap.size, 0, none⟩ = some (.slice A4 x.parts.length c4) ∧ w'.cell? ⟨w4.heap.size, 1, none⟩ = some (.int .i64 x.values))
    (first | go_keep | (go_split_ands; refine ⟨?_, ?_, ?_, ?_⟩ <;> first | exact cell_below hB9 (by assumption) | exact cell_below hB8 (by assumption) | assumption))
    ((first | (go_at_call 8; refine (HT.out _ (below_drew hB7)).mono ?_; rintro e w8 ⟨v8, rfl, hv8, hb8⟩; have hB8 := below_then (below_drew (Below.refl _ _)) hb8; obtain ⟨A8, c8, rfl, _, _⟩ := hv8.form) | (go_at_call 10; refine (HE.out _ _ (partA_le.rd hv8.rd) hB8).mono ?_; rintro e w9 ⟨rfl, hb9⟩; have hB9 := below_then hB8 hb9)))
  have hB9w := below_then hB7 hB9
  have b9 := blk_below b7 hB9
  have e9 := blk_below e7 hB9
  have l9 := blk_below l7 hB9
  have g9 := blk_below g7 hB9
  have hG9 := hG7.below hB9
  have hL9 := hL7.below hB9
  have hBx9 := below_then hBx7 hB9
  have hs9 := hB9.size
  clear HE HEQ y10 y11 z10 z11 hv8 hB8 hb8 hb9 hB9 hB7 b7 e7 l7 g7 hG7 hL7 hBx7 hv7
  have hMx := Lib.hid (hM4.out.stay (Stay.below (fun q hq => hq.2) hBx9))
  have hFx : ∀ q, (w3b.heap.size ≤ q ∧ q < w4.heap.size) → q < w9.heap.size := fun q hq => by omega
  have HMk := Lib.hid (markSa_calls (.slice A4 x.parts.length c4) (.int .i64 x.values) x.parts.length 1 w9 hMx.out hFx (by omega) (by have := hx.1; omega))
  obtain ⟨z1, _⟩ := cell_of_block e9
  have z10 : w9.cell? ⟨w4.heap.size, 0, none⟩ = some (.slice A4 x.parts.length c4) := (z1 0).trans rfl
  have z11 : w9.cell? ⟨w4.heap.size, 1, none⟩ = some (.int .i64 x.values) := (z1 1).trans rfl
  clear z1 hM4 hMx
  go_wp2_with fail
  refine HMk.out.mono ?_
  rintro e w10 ⟨z, rfl, hz0, hCx⟩
  have hs10 := hCx.size
  have hB10 := hCx.to_below hB9w hB9w.size (fun q hq => by omega)
  have b10 := hCx.blk b9 (by omega)
  have l10 := hCx.blk l9 (by omega)
  have g10 := hCx.blk g9 (by omega)
  have hL10 := hL9.move (hCx.same (fun q hq h => by have h1 := hq.2; omega))
  have hG10 := hG9.move (hCx.same (fun q hq h => by have h1 := hq.1; omega))
  obtain ⟨y1, _⟩ := cell_of_block g10
  have g0 : w10.cell? ⟨w6.heap.size, 0, none⟩ = some (.slice AG S2.parts.length cG) := (y1 0).trans rfl
  have g1' : w10.cell? ⟨w6.heap.size, 1, none⟩ = some (.int .i64 S2.values) := (y1 1).trans rfl
  obtain ⟨y1, _⟩ := cell_of_block l10
  have l0 : w10.cell? ⟨w3.heap.size, 0, none⟩ = some (.slice AL S2.parts.length cL) := (y1 0).trans rfl
  have l1' : w10.cell? ⟨w3.heap.size, 1, none⟩ = some (.int .i64 S2.values) := (y1 1).trans rfl
  have hzn : ¬ (z < 0) := by omega
  clear HMk z10 z11 e9 hBx9 hCx hFx hB9w b9 hL9 hG9 l9 g9 y1
  go_wp2_with fail
  refine (HEq.out _ _ _ _ _ (partA_le.rd hG10.rd) hL10).mono ?_
  rintro e w11 ⟨rfl, hb11⟩
  have hB11 := below_then hB10 hb11
  have b11 := blk_below b10 hb11
  have l11 := blk_below l10 hb11
  have g11 := blk_below g10 hb11
  have hG11 := hG10.below hb11
  have hL11 := hL10.below hb11
  have hs11 := hb11.size
  obtain ⟨y1, _⟩ := cell_of_block g11
  have g0 : w11.cell? ⟨w6.heap.size, 0, none⟩ = some (.slice AG S2.parts.length cG) := (y1 0).trans rfl
  have g1' : w11.cell? ⟨w6.heap.size, 1, none⟩ = some (.int .i64 S2.values) := (y1 1).trans rfl
  have HMo := Lib.hid (markSa_own (.slice AG S2.parts.length cG) S2 1 w11 hG11 hPO.out (by omega) (by omega))
  unfold saV at HMo
  clear hb11 hB10 b10 hG10 hL10 l10 g10 hz0 y1 hzn l0 l1'
  go_wp2_with fail
  refine HMo.out.mono ?_
  rintro e w12 ⟨rfl, hG12, hCg⟩
  have hs12 := hCg.size
  have hB12 := hCg.to_below hB11 hB11.size (fun q hq => by have := hq.1; omega)
  have b12 := hCg.blk b11 (fun h => by have := h.1; omega)
  have l12 := hCg.blk l11 (fun h => by have := h.1; omega)
  have g12 := hCg.blk g11 (fun h => by have := h.2; omega)
  have hL12 := hL11.move (hCg.same (fun q hq h => by have h1 := hq.2; have := h.1; omega))
  have hlm : (marksP 1 S2.parts).length = S2.parts.length := marksP_len _ _
  have HHe := Lib.hid (fun W (hW : Rp.Rd part W (fun _ => True) (.slice AG S2.parts.length cG) (marksP 1 S2.parts)) => heldSa_calls (.slice AG S2.parts.length cG) S2.parts S2.values 1 W hW hPO.out (by omega) (by omega))
  have hG12f := (partA_le.rd hG12.rd).mono (G := fun _ => True) (fun _ _ => trivial)
  have hnn : ((1 : Int) + (totP S2.parts : Int) != 1 + (totP S2.parts : Int)) = false := by simp
  have hn0 : ¬ ((1 : Int) + (totP S2.parts : Int) < 0) := by omega
  obtain ⟨y1, _⟩ := cell_of_block g12
  have g0 : w12.cell? ⟨w6.heap.size, 0, none⟩ = some (.slice AG S2.parts.length cG) := (y1 0).trans rfl
  have g1' : w12.cell? ⟨w6.heap.size, 1, none⟩ = some (.int .i64 S2.values) := (y1 1).trans rfl
  replace hlm := Lib.hid hlm
  clear hCg hB11 b11 hL11 hG11 l11 g11 HMo y1
  go_wp2_with fail
  refine (HHe.out _ hG12f).mono ?_
  rintro e w13 ⟨rfl, hb13⟩
  have hB13 := below_then hB12 hb13
  have b13 := blk_below b12 hb13
  have l13 := blk_below l12 hb13
  have g13 := blk_below g12 hb13
  have hL13 := hL12.below hb13
  have hG13 := hG12f.below hb13
  have hs13 := hb13.size
  obtain ⟨y1, _⟩ := cell_of_block b13
  have y10 : w13.cell? ⟨w.heap.size, 0, none⟩ = some (.slice A x.parts.length c) := (y1 0).trans rfl
  have y11 : w13.cell? ⟨w.heap.size, 1, none⟩ = some (.int .i64 x.values) := (y1 1).trans rfl
  clear y1 g0 g1' b12 l12 g12 hL12 hG12 hG12f hb13 hB12
  go_wp2_with fail
  refine (HT.out _ hB13).mono ?_
  rintro e w14 ⟨v14, rfl, hv14, hb14⟩
  obtain ⟨A14, c14, rfl, _, _⟩ := hv14.form
  have hB14 := below_then hB13 hb14
  have g14 := blk_below g13 hb14
  have l14 := blk_below l13 hb14
  have hG14 := hG13.below hb14
  have hL14 := hL13.below hb14
  clear y10 y11 b13 hb14 hB13 hG13 hL13 g13 l13
  go_wp2_with fail
  refine (HG2.out _ _ _ (partA_le.rd hv14.rd)).mono ?_
  rintro e w15 ⟨g3, S3, n3, vH, hg3, hS3, rfl, hvH, hb15⟩
  unfold saV
  have hB15 := below_then hB14 hb15
  have g15 := blk_below g14 hb15
  have l15 := blk_below l14 hb15
  have hG15 := hG14.below hb15
  have hL15 := hL14.below hb15
  have hgg : g1 = g3 := by
    have := hg2.out.trans hg3.out.symm
    cases g1 <;> cases g3 <;> simp_all
  subst hgg
  obtain rfl : S3 = S2 := hS3.out.1.trans hS2.out.1.symm
  obtain rfl : n3 = n2 := hS3.out.2.trans hS2.out.2.symm
  obtain ⟨AH, cH, rfl, _, _⟩ := hvH.form
  have hbH := below_new (w := w15) (.cells #[.slice AH S3.parts.length cH, .int .i64 S3.values] 28)
  have h15 := heap_alloc_new w15 (.cells #[.slice AH S3.parts.length cH, .int .i64 S3.values] 28)
  have hB16 := below_then hB15 hbH
  have g16 := blk_below g15 hbH
  have l16 := blk_below l15 hbH
  have hG16 := hG15.below hbH
  have hL16 := hL15.below hbH
  have hH16 := (partA_le.rd hvH.rd).below hbH
  obtain ⟨y1, _⟩ := cell_of_block h15
  have q0 := (y1 0).trans (show (#[Value.slice AH S3.parts.length cH, Value.int .i64 S3.values] : Array Value)[0]? = some (Value.slice AH S3.parts.length cH) from rfl)
  have q1 := (y1 1).trans (show (#[Value.slice AH S3.parts.length cH, Value.int .i64 S3.values] : Array Value)[1]? = some (Value.int .i64 S3.values) from rfl)
  obtain ⟨y1, _⟩ := cell_of_block l16
  have l0 := (y1 0).trans (show (#[Value.slice AL S3.parts.length cL, Value.int .i64 S3.values] : Array Value)[0]? = some (Value.slice AL S3.parts.length cL) from rfl)
  have l1' := (y1 1).trans (show (#[Value.slice AL S3.parts.length cL, Value.int .i64 S3.values] : Array Value)[1]? = some (Value.int .i64 S3.values) from rfl)
  clear y1 hb15 hB14 hG14 hL14 hv14 g14 l14 g15 l15 hG15 hL15 hB15 hvH hbH
  go_wp2_with fail
  generalize w15.alloc (.cells #[.slice AH S3.parts.length cH, .int .i64 S3.values] 28) = w16 at *
  refine (HEq.out _ _ _ _ _ hH16 hL16).mono ?_
  rintro e w17 ⟨rfl, hb17⟩
  have hB17 := below_then hB16 hb17
  have hG17 := hG16.below hb17
  have g17 := blk_below g16 hb17
  obtain ⟨y1, _⟩ := cell_of_block g17
  have g0 : w17.cell? ⟨w6.heap.size, 0, none⟩ = some (.slice AG S3.parts.length cG) := (y1 0).trans rfl
  have g1' : w17.cell? ⟨w6.heap.size, 1, none⟩ = some (.int .i64 S3.values) := (y1 1).trans rfl
  clear y1 hb17 hB16 hG16 hL16 g16 l16 hH16 q0 q1 l0 l1'
  go_wp2_with fail
  refine (HHe.out _ hG17).mono ?_
  rintro e w18 ⟨rfl, hb18⟩
  have hB18 := below_then hB17 hb18
  go_wp2_with fail
  go_ret
  exact ⟨rfl, hB18⟩
end Go.Proofs.YtnfaibenekninaaGreat.L
