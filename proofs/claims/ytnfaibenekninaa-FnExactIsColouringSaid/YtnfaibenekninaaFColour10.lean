/- Joined texts, each of which was built by itself: LwColour. -/
import Derived.Test.YtnfaibenekninaaFColour9
import Derived.Test.YtnfaibenekninaaFColour1
import Derived.Test.YtnfaibenekninaaB2
import Derived.Test.YtnfaibenekninaaB10
import Derived.Deep.RegionHeld3
set_option linter.unusedVariables false
set_option linter.unusedSimpArgs false
namespace Go.Proofs.Ytnfaibenekninaa.L
open Go.RowKit
set_option maxRecDepth 100000 in
set_option maxHeartbeats 4000000 in
theorem lawColour_calls {F : Nat → Prop} (x : Sa) (vparts : Value) (gl : List Int) (vg : Value) (w : World) (h : Rp.Rd part w F vparts x.parts) {Fg : Nat → Prop} (hgl : Rp.Rd Rp.int w Fg vg gl) :
    Calls Try.prog 3 #[saV x vparts, vg] w fun e w' => e = .returned (.bool true) ∧ Below w.heap.size w w' := by
  have HC := fun W (hW : Below w.heap.size w W) => szSsa_calls x vparts 1048576 W (h.below hW) (by omega) (by omega)
  have hb0 := szSa_bd (x := x) (left := 1048576) (by omega)
  generalize szSa x 1048576 = r at *
  have hlim : 0 ≤ r → SaLim x := fun h0 => (hb0.2.2 h0).1
  clear hb0
  unfold saV at HC ⊢
  have HC := Lib.hid HC
  have hB0 : Below w.heap.size w (w.alloc (.cells #[vparts, .int .i64 x.values] 24)) := below_new _
  have b0 := heap_alloc_new w (.cells #[vparts, .int .i64 x.values] 24)
  have hlim := Lib.hid hlim
  obtain ⟨A, c, rfl, _, _, _⟩ := id h
  obtain ⟨Ag, cg, rfl, _, _, _⟩ := id hgl
  by_cases hbig : (1048576 : Int) < (gl.length : Int)
  · go_enter Try.func3, Try.ntmps3
    go_wp2
    go_ret
    exact ⟨rfl, hB0⟩
  have hgll : gl.length ≤ 1048576 := by omega
  go_enter Try.func3, Try.ntmps3
  go_wp2_with fail
  refine (HC.out _ hB0).mono ?_
  rintro e w1 ⟨rfl, hb1⟩
  by_cases hneg : r < 0
  · have hB := below_then hB0 hb1
    go_wp2
    go_ret
    exact ⟨rfl, hB⟩
  have hx := hlim.out (by omega)
  have HT := Lib.hid (fun W (hW : Below w.heap.size w W) => toSsa_rd x _ W (h.below hW) hx)
  have HI := Lib.hid (fun W (hW : Below w.heap.size w W) => toIntS_calls _ gl W (hgl.below hW) hgll)
  have HG1 := Lib.hid (fun v u W G G' (hv : Rp.Rd part W G v x.parts) (hu : Rp.Rd Rp.int W G' u gl) => colourS_calls x gl v u W hv hu hx.1 hx.2 hgll)
  have HG2 := Lib.hid (fun v u W G G' (hv : Rp.Rd part W G v x.parts) (hu : Rp.Rd Rp.int W G' u gl) => colourI_calls x gl v u W hv hu hx.1 hx.2 hgll)
  have HU := Lib.hid (fun g v v' h h' => TellP.uniq (P := ColP (momS x) gl) g v v' h h')
  have hB1 := below_then hB0 hb1
  have b1 := blk_below b0 hb1
  obtain ⟨y1, _⟩ := cell_of_block b1
  have y10 : w1.cell? ⟨w.heap.size, 0, none⟩ = some (.slice A x.parts.length c) := (y1 0).trans rfl
  have y11 : w1.cell? ⟨w.heap.size, 1, none⟩ = some (.int .i64 x.values) := (y1 1).trans rfl
  clear y1 HC b0 hb1 hB0 hlim
  unfold saV at HT HG1 HG2
  go_wp2_with fail
  refine (HT.out _ hB1).mono ?_
  rintro e w2 ⟨v2, rfl, hv2, hb2⟩
  obtain ⟨A2, c2, rfl, _, _, _⟩ := id hv2
  have hB2 := below_then hB1 hb2
  have b2 := blk_below b1 hb2
  clear y10 y11 hb2 b1
  go_wp2_with fail
  refine (HI.out _ hB2).mono ?_
  rintro e w2i ⟨u2, rfl, hu2, hb2i⟩
  obtain ⟨Au2, cu2, rfl, _, _⟩ := hu2.form
  have hB2i := below_then hB2 hb2i
  have b2i := blk_below b2 hb2i
  have hv2i := hv2.below hb2i
  clear hb2i hB2 b2 hv2
  go_wp2_with fail
  refine (HG1.out _ _ _ _ _ hv2i hu2.rd).mono ?_
  rintro e w3 ⟨g1, r1, hg1, hr1, rfl, hb3⟩
  have hB3 := below_then hB2i hb3
  have b3 := blk_below b2i hb3
  clear hv2i b2i hu2
  obtain ⟨y1, _⟩ := cell_of_block b3
  have y10 : w3.cell? ⟨w.heap.size, 0, none⟩ = some (.slice A x.parts.length c) := (y1 0).trans rfl
  have y11 : w3.cell? ⟨w.heap.size, 1, none⟩ = some (.int .i64 x.values) := (y1 1).trans rfl
  clear y1 hb3
  go_wp2_with fail
  refine (HT.out _ hB3).mono ?_
  rintro e w4 ⟨v4, rfl, hv4, hb4⟩
  obtain ⟨A4, c4, rfl, _, _, _⟩ := id hv4
  have hB4 := below_then hB3 hb4
  have b4 := blk_below b3 hb4
  clear y10 y11 hb4 b3
  obtain ⟨W5, hW5⟩ : ∃ W5, W5 = w4.alloc (.cells #[.slice A4 x.parts.length c4, .int .i64 x.values] 31) := ⟨_, rfl⟩
  have hb5 : Below w4.heap.size w4 W5 := by rw [hW5]; exact below_new _
  have e5 : W5.heap[w4.heap.size]? = some (.cells #[.slice A4 x.parts.length c4, .int .i64 x.values] 31 (0, 0)) := by rw [hW5]; exact heap_alloc_new w4 _
  have hv5 := hv4.below hb5
  have b5 := blk_below b4 hb5
  have hB5 := below_then hB4 hb5
  replace hW5 := Lib.hid hW5
  go_wp2_with fail
  rw [← hW5.out]
  refine (HI.out _ hB5).mono ?_
  rintro e w5i ⟨u5, rfl, hu5, hb5i⟩
  obtain ⟨Au5, cu5, rfl, _, _⟩ := hu5.form
  have hB5i := below_then hB5 hb5i
  have b5i := blk_below b5 hb5i
  have e5i := blk_below e5 hb5i
  have hv5i := hv5.below hb5i
  clear hb5i hB5 b5 hv5 e5
  obtain ⟨z1, _⟩ := cell_of_block e5i
  have z10 : w5i.cell? ⟨w4.heap.size, 0, none⟩ = some (.slice A4 x.parts.length c4) := (z1 0).trans rfl
  have z11 : w5i.cell? ⟨w4.heap.size, 1, none⟩ = some (.int .i64 x.values) := (z1 1).trans rfl
  clear z1
  go_wp2_with fail
  refine (HG2.out _ _ _ _ _ hv5i hu5.rd).mono ?_
  rintro e w6 ⟨g2, r2, hg2, hr2, rfl, hb6⟩
  have hB6 := below_then hB5i hb6
  have b6 := blk_below b5i hb6
  have e6 := blk_below e5i hb6
  have hu6 := (hu5.rd.mono (G := fun _ => True) (fun _ _ => trivial)).below hb6
  have hv6 := (hv5i.mono (G := fun _ => True) (fun _ _ => trivial)).below hb6
  clear z10 z11 b5i e5i hv5i hu5
  have hgg : g1 = g2 := by
    have := hg1.out.trans hg2.out.symm
    cases g1 <;> cases g2 <;> simp_all
  subst hgg
  have hvv := HU.out _ _ _ hr1.out hr2.out
  subst hvv
  have hgn : (g1 != g1) = false := by cases g1 <;> rfl
  have hgn2 : (r1 != r1) = false := by cases r1 <;> rfl
  obtain ⟨y1, _⟩ := cell_of_block b6
  have y10 : w6.cell? ⟨w.heap.size, 0, none⟩ = some (.slice A x.parts.length c) := (y1 0).trans rfl
  have y11 : w6.cell? ⟨w.heap.size, 1, none⟩ = some (.int .i64 x.values) := (y1 1).trans rfl
  obtain ⟨z1, _⟩ := cell_of_block e6
  have z10 : w6.cell? ⟨w4.heap.size, 0, none⟩ = some (.slice A4 x.parts.length c4) := (z1 0).trans rfl
  have z11 : w6.cell? ⟨w4.heap.size, 1, none⟩ = some (.int .i64 x.values) := (z1 1).trans rfl
  clear y1 z1 b4 hv4 hW5 hg1 hg2 HG1 HG2 hr1 hr2
  go_wp2_with fail
  have HE := Lib.hid (fun u W (hu : Rp.Rd part W (fun q => w6.heap.size ≤ q) u x.parts) (hW : Below w6.heap.size w6 W) => eqSsa_calls x x _ u W (hv6.below hW) hu)
  have HEQ : Hid (eqSa x x = true) := Lib.hid (by unfold eqSa; simp)
  unfold saV at HE
  rw [HEQ.out] at HE
  go_region_held3 (fun w' => w'.cell? ⟨w.heap.size, 0, none⟩ = some (.slice A x.parts.length c) ∧ w'.cell? ⟨w.heap.size, 1, none⟩ = some (.int .i64 x.values) ∧ w'.cell? ⟨w4.heap.size, 0, none⟩ = some (.slice A4 x.parts.length c4) ∧ w'.cell? ⟨w4.heap.size, 1, none⟩ = some (.int .i64 x.values))
    (first | go_keep | (go_split_ands; refine ⟨?_, ?_, ?_, ?_⟩ <;> first | exact cell_below hB9 (by assumption) | exact cell_below hB8 (by assumption) | assumption))
    ((first | (go_at_call 13; refine (HT.out _ (below_drew hB6)).mono ?_; rintro e w8 ⟨v8, rfl, hv8, hb8⟩; have hB8 := below_then (below_drew (Below.refl _ _)) hb8; obtain ⟨A8, c8, rfl, _, _, _⟩ := id hv8) | (go_at_call 16; refine (HE.out _ _ hv8 hB8).mono ?_; rintro e w9 ⟨rfl, hb9⟩; have hB9 := below_then hB8 hb9)))
  have hB9w := below_then hB6 hB9
  have hu9 := hu6.below hB9
  have HEI := Lib.hid (fun v u W G1 G2 (h1 : Rp.Rd Rp.int W G1 v gl) (h2 : Rp.Rd Rp.int W G2 u gl) => eqIntS_calls v u gl gl W h1 h2)
  have hdec : decide (gl = gl) = true := decide_eq_true rfl
  rw [hdec] at HEI
  clear HE HEQ y10 y11 z10 z11 hv8 hB8 hb8 hb9 hB9 hB6 b6 e6 hv6 hu6
  go_wp2_with fail
  refine (HI.out _ hB9w).mono ?_
  rintro e w10 ⟨u10, rfl, hu10, hb10⟩
  obtain ⟨Au10, cu10, rfl, _, _⟩ := hu10.form
  have hB10 := below_then hB9w hb10
  go_wp2_with fail
  refine (HEI.out _ _ _ _ _ (hu9.below hb10) hu10.rd).mono ?_
  rintro e w11 ⟨rfl, hb11⟩
  have hB11 := below_then hB10 hb11
  go_wp2
  go_ret
  exact ⟨rfl, hB11⟩
end Go.Proofs.Ytnfaibenekninaa.L
