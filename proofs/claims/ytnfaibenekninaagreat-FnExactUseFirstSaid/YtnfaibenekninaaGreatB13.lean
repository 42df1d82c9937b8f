/- Joined texts, each of which was built by itself: So1. -/
import Derived.Test.YtnfaibenekninaaGreatB12
import Derived.Test.YtnfaibenekninaaGreatB3
set_option linter.unusedVariables false
set_option linter.unusedSimpArgs false
namespace Go.Proofs.YtnfaibenekninaaGreat.L
open Go.RowKit
set_option maxRecDepth 100000 in
set_option maxHeartbeats 8000000 in
theorem l9Own_calls {F : Nat → Prop} (s : Sa) (v : Value) (w : World) (hs : Rp.Rd part w F v s.parts) (hx : SaLim s) :
    Calls Tryz.prog 32 #[saV s v] w fun e w' => ∃ v', e = .returned (saV s v') ∧ Ow true 67 partA w' (fun q => w.heap.size ≤ q) v' s.parts ∧ Below w.heap.size w w' := by
  obtain ⟨A, c, rfl, hlc, hcm, hrow⟩ := rd_part hs
  have hl := hx.1
  have HX := Lib.hid hx.2
  clear hx
  unfold saV
  have b0 := (heap_alloc_new w (.cells #[.slice A s.parts.length c, .int .i64 s.values] 28))
  have hS : ∃ W, W = ((w.alloc (.cells #[.slice A s.parts.length c, .int .i64 s.values] 28)).alloc (.cells #[.slice none 0 0, .int .i64 0] 28)).alloc (.cells #[.slice none 0 0, .int .i64 s.values] 28) ∧ Below w.heap.size w W ∧ W.heap[w.heap.size]? = some (.cells #[.slice A s.parts.length c, .int .i64 s.values] 28 (0, 0)) ∧ W.heap[w.heap.size + 1]? = some (.cells #[.slice none 0 0, .int .i64 0] 28 (0, 0)) ∧ W.heap[w.heap.size + 2]? = some (.cells #[.slice none 0 0, .int .i64 s.values] 28 (0, 0)) ∧ W.heap.size = w.heap.size + 3 :=
    ⟨_, rfl, below_then (below_then (below_new _) (below_new _)) (below_new _), alloc_old (alloc_old (alloc_at rfl)), alloc_old (alloc_at (by simp)), alloc_at (by simp), by simp⟩
  obtain ⟨W, hW, hBW, s0, r0, o0, hz⟩ := hS
  obtain ⟨x1, _⟩ := cell_of_block b0
  have x11 : (w.alloc (.cells #[.slice A s.parts.length c, .int .i64 s.values] 28)).cell? ⟨w.heap.size, 1, none⟩ = some (.int .i64 s.values) := (x1 1).trans rfl
  have x12 := cell_below (below_new (w := w.alloc (.cells #[.slice A s.parts.length c, .int .i64 s.values] 28)) (.cells #[.slice none 0 0, .int .i64 0] 28)) x11
  clear x1 b0 x11
  replace hW := Lib.hid hW
  go_enter Tryz.func32, Tryz.ntmps32
  go_upto_region 2 with fail
  rw [← hW.out]
  clear hW x12
  obtain ⟨x1, _⟩ := cell_of_block s0
  have x10 : W.cell? ⟨w.heap.size, 0, none⟩ = some (.slice A s.parts.length c) := (x1 0).trans rfl
  clear x1 s0
  go_wp2_with fail
  clear x10
  go_loopw [15] (fun i wr => ∃ (k : Nat) (Ap : Option Addr) (cp : Nat), k ≤ s.parts.length ∧ i = .int .i64 k ∧ Below w.heap.size w wr ∧ wr.heap[w.heap.size + 1]? = some (.cells #[.slice none 0 0, .int .i64 0] 28 (0, 0)) ∧ wr.heap[w.heap.size + 2]? = some (.cells #[.slice Ap k cp, .int .i64 s.values] 28 (0, 0)) ∧ Ow true 67 partA wr (fun q => w.heap.size + 3 ≤ q) (.slice Ap k cp) (s.parts.take k)) (fun i _ => s.parts.length - (intOf i).toNat)
  case atStart => exact ⟨0, none, 0, Nat.zero_le _, rfl, hBW, r0, o0, Ow.nil _ _ _ _ _⟩
  case round =>
    clear hBW r0 o0 hz
    obtain ⟨k, Ap, cp, hk, rfl, HB, hr, ho, HO⟩ := hrel
    rename World => wo
    by_cases hkt : k < s.parts.length
    · rcases hrow with hnil | ⟨b, o, rfl, hb, hcell⟩
      · rw [hnil] at hkt; simp at hkt
      obtain ⟨vp, vc, vn, va, hp, h1, h2, h3, h4⟩ := hcell k hkt
      have hlim := HX.out _ (List.getElem_mem hkt)
      have hset : Hid (s.parts.take (k + 1) = s.parts.take k ++ [s.parts[k]]) := Lib.hid (by rw [List.take_succ_eq_append_getElem hkt])
      have hp := partAt_below hp HB
      have h1 := h1.below HB
      have h2 := h2.below HB
      have h3 := h3.below HB
      have h4 := h4.below HB
      have m0 : (0 : Int) ≤ (k : Int) := Int.natCast_nonneg _
      have m1 : (k : Int) < (s.parts.length : Int) := by omega
      have hlL : Hid ((s.parts.take k).length = k) := Lib.hid (by rw [List.length_take]; omega)
      clear hcell
      generalize s.parts[k] = p at *
      generalize s.parts.take k = LL at *
      obtain ⟨l1, l2, l3, l4, l5⟩ := hlim
      obtain ⟨q0, q1, q2, q3, q4, q5⟩ := hp
      obtain ⟨A1, c1, rfl, _⟩ := id h1
      obtain ⟨A2, c2, rfl, _⟩ := id h2
      obtain ⟨A3, c3, rfl, _⟩ := id h3
      obtain ⟨A4, c4, rfl, _⟩ := id h4
      have hlto := blk_lt ho
      have hbx := below_new (w := wo) (.cells #[.slice A1 p.params.length c1, .slice A2 p.code.length c2, .int .i64 p.go, .int .i64 p.test, .slice A3 p.next.length c3, .slice A4 p.args.length c4] 67)
      have px := heap_alloc_new wo (.cells #[.slice A1 p.params.length c1, .slice A2 p.code.length c2, .int .i64 p.go, .int .i64 p.test, .slice A3 p.next.length c3, .slice A4 p.args.length c4] 67)
      have hxs : (wo.alloc (.cells #[.slice A1 p.params.length c1, .slice A2 p.code.length c2, .int .i64 p.go, .int .i64 p.test, .slice A3 p.next.length c3, .slice A4 p.args.length c4] 67)).heap.size ≤ wo.heap.size + 1 ∧ wo.heap.size + 1 ≤ (wo.alloc (.cells #[.slice A1 p.params.length c1, .slice A2 p.code.length c2, .int .i64 p.go, .int .i64 p.test, .slice A3 p.next.length c3, .slice A4 p.args.length c4] 67)).heap.size := by simp
      go_upto_region 5 with fail
      clear q0 q1 q2 q3 q4 q5
      generalize wo.alloc (.cells #[.slice A1 p.params.length c1, .slice A2 p.code.length c2, .int .i64 p.go, .int .i64 p.test, .slice A3 p.next.length c3, .slice A4 p.args.length c4] 67) = W1 at *
      have HA1 := h1.below hbx
      have hE1 := below_new (w := W1) (.cells #[] 3)
      have hEs1 := hE1.size
      have HE1 : Ow true 3 Rp.int (W1.alloc (.cells #[] 3)) (fun k => W1.heap.size ≤ k) (.slice (some ⟨W1.heap.size, 0, none⟩) 0 0) [] := (ow_empty (ap := true) (r := Rp.int) (heap_alloc_new W1 (.cells #[] 3))).mono (fun q hq => by have hq : q = W1.heap.size := hq; omega)
      have HX1 := HA1.below hE1
      obtain ⟨y1, _⟩ := cell_of_block (blk_below px hE1)
      have y1 : (W1.alloc (.cells #[] 3)).cell? ⟨wo.heap.size, 0, none⟩ = some (.slice A1 p.params.length c1) := (y1 0).trans rfl
      clear y1
      go_upto_region 6 with (at_builtin; have _t := HE1; refine acc_appendf (r := Rp.int) (e := 3) (B := W1.heap.size) (w0 := W1) int_flat (by rfl) _ _ 59 (.int .i64 0) 8 (by rfl) Tryz.underlying59 infoInt rfl (by decide) (by omega) (.slice (some ⟨W1.heap.size, 0, none⟩) 0 0) (.slice A1 p.params.length c1) [] p.params (by rfl) (by rfl) true HE1 HX1 hE1 hEs1 (by simp; omega) ?_; intro v1 w1 hO1 hb1 hs1; clear HE1; rw [List.nil_append] at hO1; obtain ⟨B1, d1, rfl, _, _⟩ := hO1.form; have px1 := blk_below px hb1; obtain ⟨za, zb⟩ := cell_of_block px1; have zc1 : w1.cell? ⟨wo.heap.size, 0, none⟩ = some (.slice A1 p.params.length c1) := (za 0).trans rfl; have zf1 := zb 0; clear za zb)
      clear y1 zc1 zf1 px HX1 HA1 hE1
      have hC1 := Chg.set (A := fun q => q = wo.heap.size) (w := w1) (b := wo.heap.size) (o := 0) (u := .slice B1 p.params.length d1) rfl
      have px := blk_put px1 0 (.slice B1 p.params.length d1)
      have hbx := hC1.to_below (below_then hbx hb1) (below_then hbx hb1).size (fun q hq => by have hq : q = wo.heap.size := hq; omega)
      have hZ1 : (w1.setCell ⟨wo.heap.size, 0, none⟩ (.slice B1 p.params.length d1)).heap.size ≤ w1.heap.size ∧ w1.heap.size ≤ (w1.setCell ⟨wo.heap.size, 0, none⟩ (.slice B1 p.params.length d1)).heap.size := by simp
      have k1 := hO1.bound.move (hC1.same (fun q hq h => by have h : q = wo.heap.size := h; have := hq.1; omega))
      clear hC1 px1 hO1
      generalize w1.setCell ⟨wo.heap.size, 0, none⟩ (.slice B1 p.params.length d1) = W2 at *
      have HA2 := h2.below hbx
      have hE2 := below_new (w := W2) (.cells #[] 71)
      have hEs2 := hE2.size
      have HE2 : Ow true 71 flat (W2.alloc (.cells #[] 71)) (fun k => W2.heap.size ≤ k) (.slice (some ⟨W2.heap.size, 0, none⟩) 0 0) [] := (ow_empty (ap := true) (r := flat) (heap_alloc_new W2 (.cells #[] 71))).mono (fun q hq => by have hq : q = W2.heap.size := hq; omega)
      have HX2 := HA2.below hE2
      obtain ⟨y1, _⟩ := cell_of_block (blk_below px hE2)
      have y2 : (W2.alloc (.cells #[] 71)).cell? ⟨wo.heap.size, 1, none⟩ = some (.slice A2 p.code.length c2) := (y1 1).trans rfl
      clear y1
      go_upto_region 7 with (at_builtin; have _t := HE2; refine acc_appendf (r := flat) (e := 71) (B := W2.heap.size) (w0 := W2) flat_flat (by rfl) _ _ 65 (.agg #[.int .i64 0, .int .i64 0, .int .i64 0, .int .i64 0, .int .i64 0, .int .i64 0]) 48 (by rfl) Tryz.underlying65 infoFlat rfl (by decide) (by omega) (.slice (some ⟨W2.heap.size, 0, none⟩) 0 0) (.slice A2 p.code.length c2) [] p.code (by rfl) (by rfl) true HE2 HX2 hE2 hEs2 (by simp; omega) ?_; intro v2 w2 hO2 hb2 hs2; clear HE2; rw [List.nil_append] at hO2; obtain ⟨B2, d2, rfl, _, _⟩ := hO2.form; have px2 := blk_below px hb2; obtain ⟨za, zb⟩ := cell_of_block px2; have zc2 : w2.cell? ⟨wo.heap.size, 1, none⟩ = some (.slice A2 p.code.length c2) := (za 1).trans rfl; have zf2 := zb 1; clear za zb)
      clear y2 zc2 zf2 px HX2 HA2 hE2
      have hC2 := Chg.set (A := fun q => q = wo.heap.size) (w := w2) (b := wo.heap.size) (o := 1) (u := .slice B2 p.code.length d2) rfl
      have px := blk_put px2 1 (.slice B2 p.code.length d2)
      have hbx := hC2.to_below (below_then hbx hb2) (below_then hbx hb2).size (fun q hq => by have hq : q = wo.heap.size := hq; omega)
      have hZ2 : (w2.setCell ⟨wo.heap.size, 1, none⟩ (.slice B2 p.code.length d2)).heap.size ≤ w2.heap.size ∧ w2.heap.size ≤ (w2.setCell ⟨wo.heap.size, 1, none⟩ (.slice B2 p.code.length d2)).heap.size := by simp
      have k2 := hO2.bound.move (hC2.same (fun q hq h => by have h : q = wo.heap.size := h; have := hq.1; omega))
      have k1 := (k1.below hb2).move (hC2.same (fun q hq h => by have h : q = wo.heap.size := h; have := hq.1; omega))
      clear hC2 px2 hO2
      generalize w2.setCell ⟨wo.heap.size, 1, none⟩ (.slice B2 p.code.length d2) = W3 at *
      have HA3 := h3.below hbx
      have hE3 := below_new (w := W3) (.cells #[] 3)
      have hEs3 := hE3.size
      have HE3 : Ow true 3 Rp.int (W3.alloc (.cells #[] 3)) (fun k => W3.heap.size ≤ k) (.slice (some ⟨W3.heap.size, 0, none⟩) 0 0) [] := (ow_empty (ap := true) (r := Rp.int) (heap_alloc_new W3 (.cells #[] 3))).mono (fun q hq => by have hq : q = W3.heap.size := hq; omega)
      have HX3 := HA3.below hE3
      obtain ⟨y1, _⟩ := cell_of_block (blk_below px hE3)
      have y3 : (W3.alloc (.cells #[] 3)).cell? ⟨wo.heap.size, 4, none⟩ = some (.slice A3 p.next.length c3) := (y1 4).trans rfl
      clear y1
      go_upto_region 8 with (at_builtin; have _t := HE3; refine acc_appendf (r := Rp.int) (e := 3) (B := W3.heap.size) (w0 := W3) int_flat (by rfl) _ _ 59 (.int .i64 0) 8 (by rfl) Tryz.underlying59 infoInt rfl (by decide) (by omega) (.slice (some ⟨W3.heap.size, 0, none⟩) 0 0) (.slice A3 p.next.length c3) [] p.next (by rfl) (by rfl) true HE3 HX3 hE3 hEs3 (by simp; omega) ?_; intro v3 w3 hO3 hb3 hs3; clear HE3; rw [List.nil_append] at hO3; obtain ⟨B3, d3, rfl, _, _⟩ := hO3.form; have px3 := blk_below px hb3; obtain ⟨za, zb⟩ := cell_of_block px3; have zc3 : w3.cell? ⟨wo.heap.size, 4, none⟩ = some (.slice A3 p.next.length c3) := (za 4).trans rfl; have zf3 := zb 4; clear za zb)
      clear y3 zc3 zf3 px HX3 HA3 hE3
      have hC3 := Chg.set (A := fun q => q = wo.heap.size) (w := w3) (b := wo.heap.size) (o := 4) (u := .slice B3 p.next.length d3) rfl
      have px := blk_put px3 4 (.slice B3 p.next.length d3)
      have hbx := hC3.to_below (below_then hbx hb3) (below_then hbx hb3).size (fun q hq => by have hq : q = wo.heap.size := hq; omega)
      have hZ3 : (w3.setCell ⟨wo.heap.size, 4, none⟩ (.slice B3 p.next.length d3)).heap.size ≤ w3.heap.size ∧ w3.heap.size ≤ (w3.setCell ⟨wo.heap.size, 4, none⟩ (.slice B3 p.next.length d3)).heap.size := by simp
      have k3 := hO3.bound.move (hC3.same (fun q hq h => by have h : q = wo.heap.size := h; have := hq.1; omega))
      have k1 := (k1.below hb3).move (hC3.same (fun q hq h => by have h : q = wo.heap.size := h; have := hq.1; omega))
      have k2 := (k2.below hb3).move (hC3.same (fun q hq h => by have h : q = wo.heap.size := h; have := hq.1; omega))
      clear hC3 px3 hO3
      generalize w3.setCell ⟨wo.heap.size, 4, none⟩ (.slice B3 p.next.length d3) = W4 at *
      have px : W4.heap[wo.heap.size]? = some (.cells #[.slice B1 p.params.length d1, .slice B2 p.code.length d2, .int .i64 p.go, .int .i64 p.test, .slice B3 p.next.length d3, .slice A4 p.args.length c4] 67 (0, 0)) := px
      have h4 := h4.below hbx
      have HBc := below_then HB hbx
      have hltr := blk_lt hr
      have hpl := blk_lt px
      obtain ⟨Aa0, ca0, he, _, _, hrA⟩ := rd_ints h4
      injection he with he1 _ he3
      subst he1
      subst he3
      obtain ⟨y1, _⟩ := cell_of_block px
      have y15 : W4.cell? ⟨wo.heap.size, 5, none⟩ = some (.slice A4 p.args.length c4) := (y1 5).trans rfl
      clear y1 h1 h2 h3
      go_wp2_with fail
      clear y15
      go_loopw [6, 37] (fun av i wr => ∃ (j : Nat) (Aa : Option Addr) (ca : Nat), j ≤ p.args.length ∧ av = .slice Aa j ca ∧ i = .int .i64 j ∧ Ow true 59 (Rp.ow true 3 Rp.int) wr (fun q => W4.heap.size ≤ q) (.slice Aa j ca) (p.args.take j) ∧ Below W4.heap.size W4 wr) (fun _ i _ => p.args.length - (intOf i).toNat)
      case atStart => exact ⟨0, none, 0, Nat.zero_le _, rfl, rfl, Ow.nil _ _ _ _ _, Below.refl _ _⟩
      case round =>
        obtain ⟨j, Aa, ca, hj, rfl, rfl, HOa, HBi⟩ := hrel
        rename World => wi
        by_cases hjt : j < p.args.length
        · rcases hrA with hnil | ⟨ba, oa, rfl, hba, hca⟩
          · rw [hnil] at hjt; simp at hjt
          obtain ⟨u, cu, hu⟩ := hca j hjt
          have cu := cell_below HBi cu
          have hu := hu.below HBi
          have hSl := l5 _ (List.getElem_mem hjt)
          have hst : Hid (p.args.take (j + 1) = p.args.take j ++ [p.args[j]]) := Lib.hid (by rw [List.take_succ_eq_append_getElem hjt])
          have hLl : Hid ((p.args.take j).length = j) := Lib.hid (by rw [List.length_take]; omega)
          clear hca
          generalize p.args[j] = S at *
          generalize p.args.take j = LA at *
          obtain ⟨Au, ku, rfl, _⟩ := id hu
          have i0 : (0 : Int) ≤ (j : Int) := Int.natCast_nonneg _
          have i1 : (j : Int) < (p.args.length : Int) := by omega
          have hE := below_new (w := wi) (.cells #[] 3)
          have hEs := hE.size
          have HE : Ow true 3 Rp.int (wi.alloc (.cells #[] 3)) (fun k => wi.heap.size ≤ k) (.slice (some ⟨wi.heap.size, 0, none⟩) 0 0) [] := (ow_empty (ap := true) (r := Rp.int) (heap_alloc_new wi (.cells #[] 3))).mono (fun q hq => by have hq : q = wi.heap.size := hq; omega)
          have HX := hu.below hE
          have hjb := HOa.form
          have hsi := HBi.size
          go_wp2_with (first | (at_builtin; have _t := HE; refine acc_appendf (r := Rp.int) (e := 3) (B := wi.heap.size) (w0 := wi) int_flat (by rfl) _ _ 59 (.int .i64 0) 8 (by rfl) Tryz.underlying59 infoInt rfl (by decide) (by omega) (.slice (some ⟨wi.heap.size, 0, none⟩) 0 0) (.slice Au S.length ku) [] S (by rfl) (by rfl) true HE HX hE hEs (by simp; omega) ?_; intro vx wx hOx hbx2 hsx; clear HE; rw [List.nil_append] at hOx; obtain ⟨Bx, dx, rfl, _, _⟩ := hOx.form; have HOa2 := HOa.bound.below hbx2; have _u := HOa2) | (at_builtin; have _u := _u; refine ow_append1 (r := Rp.ow true 3 Rp.int) (e := 59) (G := fun q => wi.heap.size ≤ q) (by rfl) _ _ 64 (.slice none 0 0) 24 (by rfl) Tryz.underlying64 infoInts rfl (by decide) (by omega) (.slice Aa j ca) LA S [.slice Bx S.length dx] (by rfl) (by rfl) HOa2 ⟨_, rfl, hOx⟩ (fun q hq h => by have := h.2; have hq : wi.heap.size ≤ q := hq; omega) (by have := hLl.out; omega) ?_; intro v5 w5 HO5 hg5; clear _u))
          obtain ⟨A5, c5, h5e, _, _⟩ := HO5.form1
          rw [hLl.out] at h5e
          subst h5e
          have hBx := below_then HBi hbx2
          have HB5 := below_grown hBx hg5 (fun q hq => (own_in HOa2 (.inr hq)).1) hBx.size
          have HO6 := HO5.mono (G := fun q => W4.heap.size ≤ q) (fun q hq => by rcases hq with hq | hq | hq; exact hq.1; omega; omega)
          rw [← hst.out] at HO6
          clear HO5 hg5 HOa2 hOx hbx2 HOa hBx hE HX hu cu hst
          go_roundw
          case rel => exact ⟨j + 1, A5, c5, by omega, rfl, by go_num, HO6, HB5⟩
          case measure => first | (simp [intOf]; done) | (simp [intOf]; omega)
        · obtain rfl : j = p.args.length := by omega
          rw [List.take_length] at HOa
          have px2 := blk_below px HBi
          have ho2 := blk_below (blk_below ho hbx) HBi
          have hr2 := blk_below (blk_below hr hbx) HBi
          have HO2 := (HO.bound.below hbx).below HBi
          have k1 := k1.below HBi
          have k2 := k2.below HBi
          have k3 := k3.below HBi
          have HBi2 := below_then HBc HBi
          have hsi := HBi.size
          have hsB := HB.size
          clear px ho hr HBc h4 hrA HBi HB hbx
          obtain ⟨y1, y2⟩ := cell_of_block px2
          have y15 : wi.cell? ⟨wo.heap.size, 5, none⟩ = some (.slice A4 p.args.length c4) := (y1 5).trans rfl
          have y25 := y2 5
          clear y1 y2
          have p3 := blk_put px2 5 (.slice Aa p.args.length ca)
          have ho3 := blk_set ho2 (a := ⟨wo.heap.size, 5, none⟩) (by dsimp only; omega) (.slice Aa p.args.length ca)
          have hr3 := blk_set hr2 (a := ⟨wo.heap.size, 5, none⟩) (by dsimp only; omega) (.slice Aa p.args.length ca)
          have hC := Chg.set (A := fun q => q = wo.heap.size) (w := wi) (b := wo.heap.size) (o := 5) (u := .slice Aa p.args.length ca) rfl
          have HO3 := HO2.move (hC.same (fun q hq h => by have h : q = wo.heap.size := h; have := hq.2; omega))
          have k1 := k1.move (hC.same (fun q hq h => by have h : q = wo.heap.size := h; have := hq.1; omega))
          have k2 := k2.move (hC.same (fun q hq h => by have h : q = wo.heap.size := h; have := hq.1; omega))
          have k3 := k3.move (hC.same (fun q hq h => by have h : q = wo.heap.size := h; have := hq.1; omega))
          have k4 := HOa.move (hC.same (fun q hq h => by have h : q = wo.heap.size := h; omega))
          have HB3 := hC.to_below HBi2 HBi2.size (fun q hq => by have hq : q = wo.heap.size := hq; omega)
          have hs3 := hC.size
          have HK := partA_mk (F := fun q => wo.heap.size < q) (x := p) (fun q hq => by have := hq.1; omega) (fun q hq => by have := hq.1; omega) (fun q hq => by have := hq.1; omega) (fun q hq => by omega) (fun q hq h => by have := hq.2; have := h.1; omega) (fun q hq h => by have := hq.2; have := h.1; omega) (fun q hq h => by have := hq.2; omega) (fun q hq h => by have := hq.2; have := h.1; omega) (fun q hq h => by have := hq.2; omega) (fun q hq h => by have := hq.2; omega) k1 k2 k3 k4
          have p3 : (wi.setCell ⟨wo.heap.size, 5, none⟩ (.slice Aa p.args.length ca)).heap[wo.heap.size]? = some (.cells #[.slice B1 p.params.length d1, .slice B2 p.code.length d2, .int .i64 p.go, .int .i64 p.test, .slice B3 p.next.length d3, .slice Aa p.args.length ca] 67 (0, 0)) := p3
          obtain ⟨wz, hwz⟩ : ∃ wz, wz = wi.setCell ⟨wo.heap.size, 5, none⟩ (.slice Aa p.args.length ca) := ⟨_, rfl⟩
          rw [← hwz] at p3 ho3 hr3 HO3 HB3 hs3 HK
          replace hwz := Lib.hid hwz
          obtain ⟨y1, _⟩ := cell_of_block ho3
          have yo : wz.cell? ⟨w.heap.size + 2, 0, none⟩ = some (.slice Ap k cp) := (y1 0).trans rfl
          clear y1
          obtain ⟨y1, _⟩ := cell_of_block p3
          have z0 : wz.cell? ⟨wo.heap.size, 0, none⟩ = some (.slice B1 p.params.length d1) := (y1 0).trans rfl
          have z1 : wz.cell? ⟨wo.heap.size, 1, none⟩ = some (.slice B2 p.code.length d2) := (y1 1).trans rfl
          have z2 : wz.cell? ⟨wo.heap.size, 2, none⟩ = some (.int .i64 p.go) := (y1 2).trans rfl
          have z3 : wz.cell? ⟨wo.heap.size, 3, none⟩ = some (.int .i64 p.test) := (y1 3).trans rfl
          have z4 : wz.cell? ⟨wo.heap.size, 4, none⟩ = some (.slice B3 p.next.length d3) := (y1 4).trans rfl
          have z5 : wz.cell? ⟨wo.heap.size, 5, none⟩ = some (.slice Aa p.args.length ca) := (y1 5).trans rfl
          clear y1 p3 k1 k2 k3 k4 HOa HO2 px2 ho2 hr2 HBi2 hC
          go_upto_region 15 with fail
          rw [← hwz.out]
          clear y15 y25
          have hkk := hlL.out
          go_wp2_with (at_builtin; refine ow_append1 (r := partA) (e := 67) (G := fun q => wo.heap.size < q) (by rfl) _ _ 26 (.agg #[.slice none 0 0, .slice none 0 0, .int .i64 0, .int .i64 0, .slice none 0 0, .slice none 0 0]) 112 (by rfl) Tryz.underlying26 infoPart rfl (by decide) (by omega) (.slice Ap k cp) LL p [.slice B1 p.params.length d1, .slice B2 p.code.length d2, .int .i64 p.go, .int .i64 p.test, .slice B3 p.next.length d3, .slice Aa p.args.length ca] (by rfl) (by rfl) HO3 HK (fun q hq h => by have := h.2; omega) (by rw [hkk]; omega) ?_; intro v7 w7 HO7 hg7; obtain ⟨A7, c7, h7e, _, _⟩ := HO7.form1; rw [hkk] at h7e; subst h7e; have ho7 := grown_blk hg7 ho3 (own_ne HO3 (fun h => by have := h.1; omega)); have hr7 := grown_blk hg7 hr3 (own_ne HO3 (fun h => by have := h.1; omega)); have HB7 := below_grown HB3 hg7 (fun q hq => by have := (own_in HO3 (.inr hq)).1; omega) HB3.size; obtain ⟨ya, yb⟩ := cell_of_block ho7; have yo7 : w7.cell? ⟨w.heap.size + 2, 0, none⟩ = some (.slice Ap k cp) := (ya 0).trans rfl; have yf7 := yb 0; clear ya yb yo z0 z1 z2 z3 z4 z5)
          have HO8 := HO7.mono (G := fun q => w.heap.size + 3 ≤ q) (fun q hq => by rcases hq with hq | hq | hq; exact hq.1; omega; omega)
          have hC7 := Chg.set (A := fun q => q = w.heap.size + 2) (w := w7) (b := w.heap.size + 2) (o := 0) (u := .slice A7 (k + 1) c7) rfl
          have HO9 := HO8.move (hC7.same (fun q hq h => by have h : q = w.heap.size + 2 := h; omega))
          rw [← hset.out] at HO9
          have HB9 := hC7.to_below HB7 HB7.size (fun q hq => by have hq : q = w.heap.size + 2 := hq; omega)
          have ho9 := blk_put ho7 0 (.slice A7 (k + 1) c7)
          have hr9 := blk_set hr7 (a := ⟨w.heap.size + 2, 0, none⟩) (by dsimp only; omega) (.slice A7 (k + 1) c7)
          clear HO7 HO8 hg7 HO3 HK ho3 hr3 HB3 hC7 HB7 ho7 hr7
          go_roundw
          case rel => exact ⟨k + 1, A7, c7, by omega, by go_num, HB9, hr9, ho9, HO9⟩
          case measure => first | (simp [intOf]; done) | (simp [intOf]; omega)
    · obtain rfl : k = s.parts.length := by omega
      rw [List.take_length] at HO
      obtain ⟨y1, _⟩ := cell_of_block ho
      have y10 : wo.cell? ⟨w.heap.size + 2, 0, none⟩ = some (.slice Ap s.parts.length cp) := (y1 0).trans rfl
      have y11 : wo.cell? ⟨w.heap.size + 2, 1, none⟩ = some (.int .i64 s.values) := (y1 1).trans rfl
      clear y1
      obtain ⟨y1, y2⟩ := cell_of_block hr
      have z10 : wo.cell? ⟨w.heap.size + 1, 0, none⟩ = some (.slice none 0 0) := (y1 0).trans rfl
      have z11 : wo.cell? ⟨w.heap.size + 1, 1, none⟩ = some (.int .i64 0) := (y1 1).trans rfl
      have z20 := y2 0
      have z21 := y2 1
      clear y1 y2
      have hBf := putRow_below (g := w.heap.size + 1) HB (by omega) [.slice Ap s.parts.length cp, .int .i64 s.values] 0
      have hpr := putRow_same [.slice Ap s.parts.length cp, .int .i64 s.values] (w.heap.size + 1) wo 0
      have HOf := (HO.move (w' := putRow wo (w.heap.size + 1) 0 [.slice Ap s.parts.length cp, .int .i64 s.values]) (fun q hq _ => hpr.2 q (by omega))).mono (G := fun q => w.heap.size ≤ q) (fun q hq => by omega)
      have cF := (cell_of_block (blk_put (blk_put hr 0 (.slice Ap s.parts.length cp)) 1 (.int .i64 s.values))).1
      replace cF := Lib.hid cF
      clear hpr HO HB hr ho
      go_wp2_with fail
      have cF := cF.out
      refine bodyPost_ret (v := saV s (.slice Ap s.parts.length cp)) (by simp [results, Tryz.results32, go_sem, saV, cF]) rfl ?_
      exact ⟨_, rfl, HOf, hBf⟩
end Go.Proofs.YtnfaibenekninaaGreat.L
