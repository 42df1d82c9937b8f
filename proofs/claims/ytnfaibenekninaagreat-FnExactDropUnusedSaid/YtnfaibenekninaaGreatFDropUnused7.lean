/- Joined texts, each of which was built by itself: Du8. -/
import Derived.Test.YtnfaibenekninaaGreatFDropUnused6
import Derived.Test.YtnfaibenekninaaGreatFDropUnused5
set_option linter.unusedVariables false
set_option linter.unusedSimpArgs false
namespace Go.Proofs.YtnfaibenekninaaGreat.L
open Go.RowKit
theorem dropOne_parS {r : Sa} (h : stepD (usesN r) r.parts = none) : dropOne r = (paramD r).map (fun l => ⟨l, r.values⟩) := by unfold dropOne; rw [h]; rfl
theorem dropOne_stepS {r : Sa} {l : List Pt} (h : stepD (usesN r) r.parts = some l) : dropOne r = some ⟨l, r.values⟩ := by unfold dropOne; rw [h]; rfl
/-- What is left behind one try. -/
def dropRes (s : Sa) : Sa := (dropOne s).getD s
set_option maxRecDepth 100000 in
set_option maxHeartbeats 16000000 in
theorem l12Drop_calls (FF : Nat → Prop) (s : Sa) (vp : Value) (w : World) (hO0 : Ow true 67 partA w FF vp s.parts) (hg : DOk s) :
    Calls Tryz.prog 78 #[saV s vp] w fun e w' => e = .returned (.tuple #[saV (dropRes s) vp, .bool (dropOne s).isSome]) ∧ Ow true 67 partA w' (fun q => FF q ∨ w.heap.size ≤ q) vp (dropRes s).parts ∧ Chg (fun q => FF q ∧ q < w.heap.size) w w' := by
  obtain ⟨A0, c0, rfl, _, _⟩ := hO0.form
  have hn2 := hg.n
  obtain ⟨W0, hW0⟩ : ∃ W0, W0 = (w.alloc (.cells #[.slice A0 s.parts.length c0, .int .i64 s.values] 28)).alloc (.cells #[.slice none 0 0, .int .i64 0] 28) := ⟨_, rfl⟩
  have hB0 : Below w.heap.size w W0 := by rw [hW0]; exact below_then (below_new _) (below_new _)
  have b0 : W0.heap[w.heap.size]? = some (.cells #[.slice A0 s.parts.length c0, .int .i64 s.values] 28 (0, 0)) := by rw [hW0]; exact alloc_old (alloc_at rfl)
  have r0 : W0.heap[w.heap.size + 1]? = some (.cells #[.slice none 0 0, .int .i64 0] 28 (0, 0)) := by rw [hW0]; exact alloc_at (by simp)
  have hO1 := (hO0.bound).below hB0
  have HCn := Lib.hid (fun W (hW : Below W0.heap.size W0 W) => countS_calls hg.uok hg.usesAll_S _ W (partA_le.rd (hO1.below hW).rd) hg.lim.1 hg.lim.2)
  have HOw := Lib.hid (fun (k i : Nat) W (hW : Below W0.heap.size W0 W) hk hi => l12Own_calls s _ k i W (partA_le.rd (hO1.below hW).rd) hg hk hi)
  have HUn := Lib.hid (fun (k i : Nat) W (hW : Below W0.heap.size W0 W) hk hi => l9Unparam_calls (fun q => FF q ∧ q < w.heap.size) s k i _ W (hO1.below hW) hg hk hi)
  have HPr := Lib.hid hg.par
  have HDs := Lib.hid hg.dst
  have HOk := Lib.hid hg.ok
  have HL12 := Lib.hid (fun x W => l12Pure_calls x W)
  have hv1 := hg.v1
  obtain ⟨U, hU⟩ : ∃ U, U = cntL s.values.toNat (usesAll s) := ⟨_, rfl⟩
  have hUl : Hid (U.length = s.values.toNat) := Lib.hid (by rw [hU]; exact cntL_len _ _)
  have hUs : usesN s = U := hU.symm
  rw [← hU] at HCn
  have hPd : Hid (paramD s = (parD U s.parts 0 s.parts).map (fun q => unparD s.parts q.1 q.2)) := Lib.hid (by unfold paramD; rw [hUs])
  have HD1 : Hid (∀ l, stepD U s.parts = some l → dropOne s = some ⟨l, s.values⟩) := Lib.hid (fun l h => dropOne_stepS (by rw [hUs]; exact h))
  have HD2 : Hid (stepD U s.parts = none → dropOne s = (paramD s).map (fun l => ⟨l, s.values⟩)) := Lib.hid (fun h => dropOne_parS (by rw [hUs]; exact h))
  obtain ⟨dd, hdd⟩ : ∃ dd, dd = dropOne s := ⟨_, rfl⟩
  have hDR : dropRes s = dd.getD s := by unfold dropRes; rw [hdd]
  rw [hDR]
  rw [← hdd] at HD1 HD2 ⊢
  clear hU hUs hdd hDR hg
  have hx0 : W0.cell? ⟨w.heap.size, 0, none⟩ = some (.slice A0 s.parts.length c0) ∧ W0.cell? ⟨w.heap.size, 1, none⟩ = some (.int .i64 s.values) := by
    obtain ⟨y1, _⟩ := cell_of_block b0
    exact ⟨(y1 0).trans rfl, (y1 1).trans rfl⟩
  obtain ⟨x10, x11⟩ := hx0
  have HR0 := Lib.hid r0
  have HB0 := Lib.hid b0
  clear r0 b0
  unfold saV at HOw HUn ⊢
  subst hW0
  go_enter Tryz.func78, Tryz.ntmps78
  go_wp2_with fail
  generalize (w.alloc (.cells #[.slice A0 s.parts.length c0, .int .i64 s.values] 28)).alloc (.cells #[.slice none 0 0, .int .i64 0] 28) = W0 at *
  refine (HCn.out _ (Below.refl _ _)).mono ?_
  rintro e w1 ⟨v', rfl, hOu, hb1⟩
  clear HCn
  obtain ⟨Au, cu, rfl, _, _, hrU⟩ := rd_int hOu.rd
  have hOw1 := hO1.below hb1
  have b1 := blk_below HB0.out hb1
  have r1 := blk_below HR0.out hb1
  have hs1 := blk_lt r1
  have y10 := cell_below hb1 x10
  have hHu : Hid (Rp.Rd Rp.int w1 (fun q => W0.heap.size ≤ q) (.slice Au U.length cu) U) := Lib.hid hOu.rd
  clear x10 x11 hOu
  go_wp2_with fail
  clear y10
  go_loopw [18] (fun x wr => ∃ m : Nat, m ≤ s.parts.length ∧ x = .int .i64 m ∧ Hid (∀ (j : Nat) (hj : j < s.parts.length), j < m → ixOf (idleP U) s.parts[j].code < 0) ∧ Below w1.heap.size w1 wr) (fun x _ => s.parts.length - (intOf x).toNat)
  case atStart => exact ⟨0, Nat.zero_le _, rfl, Lib.hid (fun j _ h => by omega), Below.refl _ _⟩
  case round =>
    obtain ⟨m, hm, rfl, HN, HB⟩ := hrel
    rename World => wo
    by_cases hlt : m < s.parts.length
    · obtain ⟨g, c', he, _, _⟩ := Ow.some_form hOw1 (by omega)
      injection he with he1 _ he3
      subst he1
      subst he3
      obtain ⟨_, _, _, _, hpt, h1, h2, h3, h4⟩ := ow_read (hOw1.below HB) hlt
      obtain ⟨A1, c1, rfl, _⟩ := id h1
      obtain ⟨A2, c2, rfl, _, _, hr2⟩ := rd_flat h2
      obtain ⟨A3, c3, rfl, _⟩ := id h3
      obtain ⟨A4, c4, rfl, _⟩ := id h4
      obtain ⟨q0, q1, q2, q3, q4, q5⟩ := hpt
      have HDm := Lib.hid (HDs.out _ (List.getElem_mem hlt))
      have hcl := (HOk.out _ (List.getElem_mem hlt)).1.2.1
      have HNo : Hid ((∀ (j : Nat) (hj : j < s.parts[m].code.length), idleP U s.parts[m].code[j] = false) → ∀ (j : Nat) (hj : j < s.parts.length), j < m + 1 → ixOf (idleP U) s.parts[j].code < 0) := Lib.hid (fun h j hj hjm => by
        by_cases he : j = m
        · subst he; rw [ixOf_none h]; omega
        · exact HN.out j hj (by omega))
      have HYe : Hid (∀ (i : Nat) (hi : i < s.parts[m].code.length), (∀ (j : Nat) (hj : j < s.parts[m].code.length), j < i → idleP U s.parts[m].code[j] = false) → idleP U s.parts[m].code[i] = true → dd = some ⟨s.parts.set m { s.parts[m] with code := s.parts[m].code.eraseIdx i }, s.values⟩) := Lib.hid (fun i hi h1 h2 => HD1.out _ (stepD_hit hlt HN.out i (ixOf_hit hi h1 h2)))
      have HPH : Hid (∀ W (hW : Below w1.heap.size w1 W), W.cell? ⟨g, m * 6 + 1, none⟩ = some (.slice A2 s.parts[m].code.length c2)) := Lib.hid (fun W hW => by
        obtain ⟨_, vc, _, _, hpt, _, _, _, _⟩ := ow_read hOw1 hlt
        have h1 := cell_below HB hpt.2.1
        have h2 := Option.some.inj (h1.symm.trans q1)
        rw [← h2]; exact cell_below hW hpt.2.1)
      obtain ⟨p, hp⟩ : ∃ p, p = s.parts[m] := ⟨_, rfl⟩
      rw [← hp] at q0 q1 q2 q3 q4 q5 hr2 HDm hcl HNo HYe HPH
      have hpH := Lib.hid hp
      clear h1 h2 h3 h4 hp HN
      have m0 : (0 : Int) ≤ (m : Int) := Int.natCast_nonneg _
      have m1 : (m : Int) < (s.parts.length : Int) := by omega
      have hbw := below_new (w := wo) (.cells #[.slice A1 p.params.length c1, .slice A2 p.code.length c2, .int .i64 p.go, .int .i64 p.test, .slice A3 p.next.length c3, .slice A4 p.args.length c4] 67)
      have b2 := heap_alloc_new wo (.cells #[.slice A1 p.params.length c1, .slice A2 p.code.length c2, .int .i64 p.go, .int .i64 p.test, .slice A3 p.next.length c3, .slice A4 p.args.length c4] 67)
      have HB1 := below_then HB hbw
      obtain ⟨y1, _⟩ := cell_of_block b2
      have y11 := (y1 1).trans (show (#[Value.slice A1 p.params.length c1, .slice A2 p.code.length c2, .int .i64 p.go, .int .i64 p.test, .slice A3 p.next.length c3, .slice A4 p.args.length c4] : Array Value)[1]? = some (.slice A2 p.code.length c2) from rfl)
      clear y1
      go_wp2_with fail
      clear q0 q1 q2 q3 q4 q5 y11
      generalize wo.alloc (.cells #[.slice A1 p.params.length c1, .slice A2 p.code.length c2, .int .i64 p.go, .int .i64 p.test, .slice A3 p.next.length c3, .slice A4 p.args.length c4] 67) = W1 at *
      go_loopw [26] (fun x wr => ∃ i : Nat, i ≤ p.code.length ∧ x = .int .i64 i ∧ Hid (∀ (j : Nat) (hj : j < p.code.length), j < i → idleP U p.code[j] = false) ∧ Below W1.heap.size W1 wr) (fun x _ => p.code.length - (intOf x).toNat)
      case atStart => exact ⟨0, Nat.zero_le _, rfl, Lib.hid (fun j _ h => by omega), Below.refl _ _⟩
      case round =>
        obtain ⟨i, hi, rfl, HN, HBi⟩ := hrel
        rename World => wx
        have HB2 := below_then HB1 HBi
        by_cases hit : i < p.code.length
        · rcases hr2 with hn0 | ⟨bc, oc, rfl, hbc, hcc⟩
          · rw [hn0] at hit; simp at hit
          obtain ⟨f0, f1, f2, f3, f4, f5⟩ := (hcc i hit).below (hbw.trans (HBi.mono hbw.size))
          have hdx := HDm.out _ (List.getElem_mem hit)
          have HNx : Hid (idleP U p.code[i] = false → ∀ (j : Nat) (hj : j < p.code.length), j < i + 1 → idleP U p.code[j] = false) := Lib.hid (fun h j hj hji => (Nat.lt_or_eq_of_le (Nat.le_of_lt_succ hji)).elim (fun h2 => HN.out j hj h2) (fun h2 => by subst h2; exact h))
          have HYx : Hid (idleP U p.code[i] = true → dd = some ⟨s.parts.set m { p with code := p.code.eraseIdx i }, s.values⟩) := Lib.hid (fun h => HYe.out i hit HN.out h)
          obtain ⟨x, hx⟩ : ∃ x, x = p.code[i] := ⟨_, rfl⟩
          rw [← hx] at f0 f1 f2 f3 f4 f5 hdx HNx HYx
          clear hx hcc HN
          have i0 : (0 : Int) ≤ (i : Int) := Int.natCast_nonneg _
          have i1 : (i : Int) < (p.code.length : Int) := by omega
          have HI : Hid (idleP U x = (pureB x && U.getD x.dst.toNat 0 == 0)) := Lib.hid rfl
          have HPu := Lib.hid (fun W => HL12.out x W)
          obtain ⟨r, hr⟩ : ∃ r, r = pureB x := ⟨_, rfl⟩
          rw [← hr] at HI HPu hdx
          have hdx2 := hdx.2
          clear hr hdx
          have hbx := below_new (w := wx) (.cells #[.int .i64 x.op, .int .i64 x.dO, .int .i64 x.dst, .int .i64 x.a, .int .i64 x.b, .int .i64 x.n] 71)
          have bx := heap_alloc_new wx (.cells #[.int .i64 x.op, .int .i64 x.dO, .int .i64 x.dst, .int .i64 x.a, .int .i64 x.b, .int .i64 x.n] 71)
          obtain ⟨y1, _⟩ := cell_of_block bx
          have g0 := (y1 0).trans (show (#[Value.int .i64 x.op, .int .i64 x.dO, .int .i64 x.dst, .int .i64 x.a, .int .i64 x.b, .int .i64 x.n] : Array Value)[0]? = some (.int .i64 x.op) from rfl)
          have g1 := (y1 1).trans (show (#[Value.int .i64 x.op, .int .i64 x.dO, .int .i64 x.dst, .int .i64 x.a, .int .i64 x.b, .int .i64 x.n] : Array Value)[1]? = some (.int .i64 x.dO) from rfl)
          have g2 := (y1 2).trans (show (#[Value.int .i64 x.op, .int .i64 x.dO, .int .i64 x.dst, .int .i64 x.a, .int .i64 x.b, .int .i64 x.n] : Array Value)[2]? = some (.int .i64 x.dst) from rfl)
          have g3 := (y1 3).trans (show (#[Value.int .i64 x.op, .int .i64 x.dO, .int .i64 x.dst, .int .i64 x.a, .int .i64 x.b, .int .i64 x.n] : Array Value)[3]? = some (.int .i64 x.a) from rfl)
          have g4 := (y1 4).trans (show (#[Value.int .i64 x.op, .int .i64 x.dO, .int .i64 x.dst, .int .i64 x.a, .int .i64 x.b, .int .i64 x.n] : Array Value)[4]? = some (.int .i64 x.b) from rfl)
          have g5 := (y1 5).trans (show (#[Value.int .i64 x.op, .int .i64 x.dO, .int .i64 x.dst, .int .i64 x.a, .int .i64 x.b, .int .i64 x.n] : Array Value)[5]? = some (.int .i64 x.n) from rfl)
          clear y1
          unfold flV at HPu
          go_wp2_with fail
          refine (HPu.out _).mono ?_
          rintro e w2 ⟨rfl, hb2⟩
          have gd := cell_below hb2 g2
          have HBi2 := below_then HBi (below_then hbx hb2)
          have HB3 := below_then HB1 HBi2
          clear HPu g0 g1 g2 g3 g4 g5 bx f0 f1 f2 f3 f4 f5
          cases r
          · have hn := Lib.hid (HNx.out (by rw [HI.out]; rfl))
            clear HI HNx HYx
            go_wp2_with fail
            go_roundw
            case rel => exact ⟨i + 1, by omega, by go_num, hn, HBi2⟩
            case measure => simp [intOf]; omega
          · obtain ⟨d0, d1⟩ := hdx2 rfl
            obtain ⟨d, hd⟩ := Int.eq_ofNat_of_zero_le d0
            have hdl : d < U.length := by rw [hUl.out]; omega
            rcases hrU with hnil | ⟨bU, oU, rfl, hbU, hcU⟩
            · rw [hnil] at hdl; simp at hdl
            have cu := cell_below HB3 (hcU d hdl)
            rw [hd] at gd
            have hn : Hid (idleP U x = (U[d] == 0)) := Lib.hid (by rw [HI.out, hd, Int.toNat_natCast, List.getD_eq_getElem?_getD, List.getElem?_eq_getElem hdl]; simp)
            obtain ⟨u, hu⟩ : ∃ u, u = U[d] := ⟨_, rfl⟩
            rw [← hu] at cu hn
            have e0 : (0 : Int) ≤ (d : Int) := Int.natCast_nonneg _
            have e1 : (d : Int) < (U.length : Int) := by omega
            clear hu hcU HI hdx2 hd d0 d1
            by_cases hu0 : u = 0
            · have hu1 : (u == 0) = true := by simpa using hu0
              have hdd := Lib.hid (HYx.out (by rw [hn.out]; exact hu1))
              clear HNx HYx hn hu1
              subst hu0
              have hO2 := hOw1.below HB3
              obtain ⟨vc, G, xc, fc, hOc, hG, hgF, hCl⟩ := ow_code hO2 hlt
              have hv := Option.some.inj ((HPH.out w2 HB3).symm.trans xc)
              subst hv
              simp only [← hpH.out] at hOc hCl
              obtain ⟨gc, cc, he, _, _⟩ := Ow.some_form hOc (by omega)
              injection he with he1 _ he3
              injection he1 with he1
              injection he1 with e1' e2'
              subst e1'
              subst e2'
              subst he3
              have hcc2 : p.code.length ≤ c2 := by
                obtain ⟨_, _, he, h, _⟩ := hOc.form
                injection he with _ _ h3
                rw [h3]; exact h
              obtain ⟨Ad, hAd, hRd2⟩ := rd_behind (hOc.rd.below (below_drew (Below.refl _ _))) hit
              have hRd1 := rd_upto (hOc.rd.below (below_drew (Below.refl _ _))) (i := i) (by omega)
              obtain ⟨u2, W2, u3, W3, hr2, hr3, hO3, hBa, hBb, hBc⟩ := cut_run (P := Tryz.prog) (W := w2.drew) (e := 71) flat_flat 65 (.agg #[.int .i64 0, .int .i64 0, .int .i64 0, .int .i64 0, .int .i64 0, .int .i64 0]) 48 Tryz.underlying65 infoFlat rfl (by decide) (by omega) _ _ _ _ hRd1 hRd2 (by rw [List.length_take, List.length_drop]; omega)
              rw [← erase_cells _ hit] at hO3
              obtain ⟨A5, c5, rfl, _, _⟩ := hO3.form
              obtain ⟨Le, hLe⟩ : ∃ Le, Le = (p.code.eraseIdx i).length := ⟨_, rfl⟩
              rw [← hLe] at hr3 hO3
              clear hLe
              have hBc0 : Below w2.heap.size w2 W3 := ⟨hBc.os, hBc.tape, hBc.output, hBc.size, hBc.block⟩
              have hBb0 : Below w2.heap.size w2 W2 := ⟨hBb.os, hBb.tape, hBb.output, hBb.size, hBb.block⟩
              have b3 := blk_below b1 HB3
              have r3 := blk_below r1 HB3
              have hw2s := blk_lt r3
              have hF := hCl W3 _ (.slice A5 Le c5) _ (Chg.of_below hBc0) hO3 (fun q hq => .inr hq)
              have hBt := below_then (below_then (below_then hB0 hb1) HB3) hBc0
              have hRes : Hid (Ow true 67 partA (W3.setCell ⟨g, m * 6 + 1, none⟩ (.slice A5 Le c5)) (fun q => (FF q ∨ w.heap.size ≤ q) ∧ ¬ q = w.heap.size + 1) (.slice (some ⟨g, 0, none⟩) s.parts.length c0) (s.parts.set m { p with code := p.code.eraseIdx i }) ∧ Chg (fun q => FF q ∧ q < w.heap.size) w (W3.setCell ⟨g, m * 6 + 1, none⟩ (.slice A5 Le c5)) ∧ (W3.setCell ⟨g, m * 6 + 1, none⟩ (.slice A5 Le c5)).heap[w.heap.size]? = some (.cells #[.slice (some ⟨g, 0, none⟩) s.parts.length c0, .int .i64 s.values] 28 (0, 0)) ∧ (W3.setCell ⟨g, m * 6 + 1, none⟩ (.slice A5 Le c5)).heap[w.heap.size + 1]? = some (.cells #[.slice none 0 0, .int .i64 0] 28 (0, 0))) := Lib.hid (by
                have hgw : g < w.heap.size := hgF.1.2
                exact ⟨hF.mono (fun q hq => by rcases hq with hq | hq; (exact ⟨.inl hq.1, by have := hq.2; omega⟩); (have h : w2.heap.size ≤ q := hq; exact ⟨.inr (by omega), by omega⟩)), (Chg.of_below hBt).trans (Chg.set hgF.1), blk_set (blk_below b3 hBc0) (a := ⟨g, m * 6 + 1, none⟩) (show w.heap.size ≠ g by omega) _, blk_set (blk_below r3 hBc0) (a := ⟨g, m * 6 + 1, none⟩) (show w.heap.size + 1 ≠ g by omega) _⟩)
              obtain ⟨y1, _⟩ := cell_of_block b3
              have x20 : w2.cell? ⟨w.heap.size, 0, none⟩ = some (.slice (some ⟨g, 0, none⟩) s.parts.length c0) := (y1 0).trans rfl
              obtain ⟨y1, _⟩ := cell_of_block (blk_below b2 HBi2)
              have y21 : w2.cell? ⟨wo.heap.size, 1, none⟩ = some (.slice (some ⟨bc, 0, none⟩) p.code.length c2) := (y1 1).trans rfl
              have x02 := cell_below hBb0 x20
              have x03 := cell_below hBc0 x20
              have y22 := cell_below hBb0 y21
              have y23 := cell_below hBc0 y21
              have z3 := cell_below hBc0 xc
              have f3 : W3.frozen? ⟨g, m * 6 + 1, none⟩ = false := by rw [(Chg.of_below (A := fun _ => False) hBc0).froz (Nat.lt_of_lt_of_le hgF.1.2 (by omega)) (fun h => h)]; exact fc _
              have HA2 := Lib.hid hr2
              have HA3 := Lib.hid hr3
              have hAd : (if c2 = i + 1 then (some ⟨bc, 0, none⟩ : Option Addr) else some ⟨bc, (i + 1) * 6, none⟩) = some Ad := by
                rw [← hAd, show 0 + (i + 1) * flat.sz = (i + 1) * 6 from by show 0 + (i + 1) * 6 = _; omega]
              have j3 : (i : Int) ≤ (c2 : Int) := by omega
              have iw : IntKind.i64.wrap ((i : Int) + 1) = (i : Int) + 1 := IntWalk.i64_in _ (by omega)
              have j7 : ((i : Int) + 1).toNat = i + 1 := by omega
              have j8 : (0 : Int) ≤ (i : Int) + 1 := by omega
              have j4 : (i : Int) + 1 ≤ (p.code.length : Int) := by omega
              have j5 : i ≤ c2 := by omega
              have j6 : i + 1 ≤ p.code.length := by omega
              clear y1 hCl hOc fc hF hRd1 hRd2 hr2 hr3 hO3 hBc hBb hO2 HPH hBt xc b3 r3
              go_upto_region 9 with fail
              refine anyT_region [(17, fun w' => w'.cell? ⟨w.heap.size, 0, none⟩ = some (.slice (some ⟨g, 0, none⟩) s.parts.length c0) ∧ w'.cell? ⟨wo.heap.size, 1, none⟩ = some (.slice (some ⟨bc, 0, none⟩) p.code.length c2))] (by kernel_rfl) ⟨fun _ => ⟨x20, y21⟩, trivial⟩ (fun hT => ?_)
              refine anyT_pure (i := 0) (v := ?_) rfl (by kernel_rfl) (by kernel_rfl) (by kernel_rfl) (fun _ _ _ h => h) (Or.inl ⟨by rfl, ?_⟩) (by assumption) ?_
              rotate_left 1
              focus ((intro w hSw; (try dsimp only at hSw); go_simp); try with_reducible rfl)
              try simp only [Act.put, Array.getInternal_eq_getElem, List.getElem_toArray, List.getElem_cons_zero, List.getElem_cons_succ, List.setIfInBounds_toArray, List.set_cons_zero, List.set_cons_succ]
              refine anyT_pure (i := 2) (v := ?_) rfl (by kernel_rfl) (by kernel_rfl) (by kernel_rfl) (fun _ _ _ h => h) (Or.inl ⟨by rfl, ?_⟩) (by assumption) ?_
              rotate_left 1
              focus ((intro w hSw; (try dsimp only at hSw); go_simp); try with_reducible rfl)
              try simp only [Act.put, Array.getInternal_eq_getElem, List.getElem_toArray, List.getElem_cons_zero, List.getElem_cons_succ, List.setIfInBounds_toArray, List.set_cons_zero, List.set_cons_succ]
              refine anyT_pure (i := 4) (v := ?_) rfl (by kernel_rfl) (by kernel_rfl) (by kernel_rfl) (fun _ _ _ h => h) (Or.inl ⟨by rfl, ?_⟩) (by assumption) ?_
              rotate_left 1
              focus ((intro w hSw; (try dsimp only at hSw); go_simp); try with_reducible rfl)
              try simp only [Act.put, Array.getInternal_eq_getElem, List.getElem_toArray, List.getElem_cons_zero, List.getElem_cons_succ, List.setIfInBounds_toArray, List.set_cons_zero, List.set_cons_succ]
              refine anyT_pure (i := 6) (v := ?_) rfl (by kernel_rfl) (by kernel_rfl) (by kernel_rfl) (fun _ _ _ h => h) (Or.inl ⟨by rfl, ?_⟩) (by assumption) ?_
              rotate_left 1
              focus ((intro w hSw; (try dsimp only at hSw); go_simp); try with_reducible rfl)
              try simp only [Act.put, Array.getInternal_eq_getElem, List.getElem_toArray, List.getElem_cons_zero, List.getElem_cons_succ, List.setIfInBounds_toArray, List.set_cons_zero, List.set_cons_succ]
              refine anyT_pure (i := 9) (v := ?_) rfl (by kernel_rfl) (by kernel_rfl) (by kernel_rfl) (fun _ _ _ h => h) (Or.inl ⟨by rfl, ?_⟩) (by assumption) ?_
              rotate_left 1
              focus ((intro w hSw; (try dsimp only at hSw); go_simp); try with_reducible rfl)
              try simp only [Act.put, Array.getInternal_eq_getElem, List.getElem_toArray, List.getElem_cons_zero, List.getElem_cons_succ, List.setIfInBounds_toArray, List.set_cons_zero, List.set_cons_succ]
              refine anyT_pure (i := 11) (v := ?_) rfl (by kernel_rfl) (by kernel_rfl) (by kernel_rfl) (fun _ _ _ h => h) (Or.inl ⟨by rfl, ?_⟩) (by assumption) ?_
              rotate_left 1
              focus ((intro w hSw; (try dsimp only at hSw); go_simp); try with_reducible rfl)
              try simp only [Act.put, Array.getInternal_eq_getElem, List.getElem_toArray, List.getElem_cons_zero, List.getElem_cons_succ, List.setIfInBounds_toArray, List.set_cons_zero, List.set_cons_succ]
              refine anyT_pure (i := 12) (v := ?_) rfl (by kernel_rfl) (by kernel_rfl) (by kernel_rfl) (fun _ _ _ h => h) (Or.inl ⟨by rfl, ?_⟩) (by assumption) ?_
              rotate_left 1
              focus ((intro w hSw; (try dsimp only at hSw); go_simp); try with_reducible rfl)
              try simp only [Act.put, Array.getInternal_eq_getElem, List.getElem_toArray, List.getElem_cons_zero, List.getElem_cons_succ, List.setIfInBounds_toArray, List.set_cons_zero, List.set_cons_succ]
              refine anyT_take (k := 0) (i := 1) (v := ?_) rfl rfl (by kernel_rfl) (by kernel_rfl) (by kernel_rfl) (fun _ _ _ h => h) (Or.inl ⟨by rfl, ?_⟩) (by assumption) ?_
              rotate_left 1
              focus ((intro w hSw; (try dsimp only at hSw); go_simp); try with_reducible rfl)
              try simp only [Act.put, Array.getInternal_eq_getElem, List.getElem_toArray, List.getElem_cons_zero, List.getElem_cons_succ, List.setIfInBounds_toArray, List.set_cons_zero, List.set_cons_succ]
              refine anyT_take (k := 0) (i := 5) (v := ?_) rfl rfl (by kernel_rfl) (by kernel_rfl) (by kernel_rfl) (fun _ _ _ h => h) (Or.inl ⟨by rfl, ?_⟩) (by assumption) ?_
              rotate_left 1
              focus ((intro w hSw; (try dsimp only at hSw); go_simp); try with_reducible rfl)
              try simp only [Act.put, Array.getInternal_eq_getElem, List.getElem_toArray, List.getElem_cons_zero, List.getElem_cons_succ, List.setIfInBounds_toArray, List.set_cons_zero, List.set_cons_succ]
              refine anyT_take (k := 0) (i := 10) (v := ?_) rfl rfl (by kernel_rfl) (by kernel_rfl) (by kernel_rfl) (fun _ _ _ h => h) (Or.inl ⟨by rfl, ?_⟩) (by assumption) ?_
              rotate_left 1
              focus ((intro w hSw; (try dsimp only at hSw); go_simp); try with_reducible rfl)
              try simp only [Act.put, Array.getInternal_eq_getElem, List.getElem_toArray, List.getElem_cons_zero, List.getElem_cons_succ, List.setIfInBounds_toArray, List.set_cons_zero, List.set_cons_succ]
              refine anyT_pure (i := 7) (v := ?_) rfl (by kernel_rfl) (by kernel_rfl) (by kernel_rfl) (fun _ _ _ h => h) (Or.inl ⟨by rfl, ?_⟩) (by assumption) ?_
              rotate_left 1
              focus ((intro w hSw; (try dsimp only at hSw); go_simp); try with_reducible rfl)
              try simp only [Act.put, Array.getInternal_eq_getElem, List.getElem_toArray, List.getElem_cons_zero, List.getElem_cons_succ, List.setIfInBounds_toArray, List.set_cons_zero, List.set_cons_succ]
              refine anyT_pure (i := 13) (v := ?_) rfl (by kernel_rfl) (by kernel_rfl) (by kernel_rfl) (fun _ _ _ h => h) (Or.inl ⟨by rfl, ?_⟩) (by assumption) ?_
              rotate_left 1
              focus ((intro w hSw; (try dsimp only at hSw); go_simp); try with_reducible rfl)
              try simp only [Act.put, Array.getInternal_eq_getElem, List.getElem_toArray, List.getElem_cons_zero, List.getElem_cons_succ, List.setIfInBounds_toArray, List.set_cons_zero, List.set_cons_succ]
              refine anyT_ready (rs := [3]) (by kernel_rfl) (by simp) ?_
              refine AllT.cons rfl (fun K1 hK1 => ?_) AllT.nil
              try simp only [Array.getInternal_eq_getElem, List.getElem_toArray, List.getElem_cons_zero, List.getElem_cons_succ]
              go_simp
              refine hK1.out _ _ ⟨fun _ => ⟨cell_below hBa x20, cell_below hBa y21⟩, trivial⟩ (fun hT => ?_)
              clear hK1 K1
              try simp only [Act.put, Array.getInternal_eq_getElem, List.getElem_toArray, List.getElem_cons_zero, List.getElem_cons_succ, List.setIfInBounds_toArray, List.set_cons_zero, List.set_cons_succ]
              refine anyT_ready (rs := [8]) (by kernel_rfl) (by simp) ?_
              refine AllT.cons rfl (fun K1 hK1 => ?_) AllT.nil
              try simp only [Array.getInternal_eq_getElem, List.getElem_toArray, List.getElem_cons_zero, List.getElem_cons_succ]
              rw [if_pos (by first | kernel_rfl | rfl | decide)]
              refine oper_append _ _ _ _ _ _ rfl (by rfl) (by rfl) (HA2.out _) ?_
              refine hK1.out _ _ ⟨fun _ => ⟨x02, y22⟩, trivial⟩ (fun hT => ?_)
              clear hK1 K1
              try simp only [Act.put, Array.getInternal_eq_getElem, List.getElem_toArray, List.getElem_cons_zero, List.getElem_cons_succ, List.setIfInBounds_toArray, List.set_cons_zero, List.set_cons_succ]
              refine anyT_ready (rs := [14]) (by kernel_rfl) (by simp) ?_
              refine AllT.cons rfl (fun K1 hK1 => ?_) AllT.nil
              try simp only [Array.getInternal_eq_getElem, List.getElem_toArray, List.getElem_cons_zero, List.getElem_cons_succ]
              rw [if_pos (by first | kernel_rfl | rfl | decide)]
              refine oper_append _ _ _ _ _ _ rfl (by rfl) (by rfl) (HA3.out _) ?_
              refine hK1.out _ _ ⟨fun _ => ⟨x03, y23⟩, trivial⟩ (fun hT => ?_)
              clear hK1 K1
              try simp only [Act.put, Array.getInternal_eq_getElem, List.getElem_toArray, List.getElem_cons_zero, List.getElem_cons_succ, List.setIfInBounds_toArray, List.set_cons_zero, List.set_cons_succ]
              refine anyT_pure (i := 15) (v := ?_) rfl (by kernel_rfl) (by kernel_rfl) (by kernel_rfl) (fun _ _ _ h => h) (Or.inl ⟨by rfl, ?_⟩) (by assumption) ?_
              rotate_left 1
              focus ((intro w hSw; (try dsimp only at hSw); go_simp); try with_reducible rfl)
              try simp only [Act.put, Array.getInternal_eq_getElem, List.getElem_toArray, List.getElem_cons_zero, List.getElem_cons_succ, List.setIfInBounds_toArray, List.set_cons_zero, List.set_cons_succ]
              refine anyT_pure (i := 16) (v := ?_) rfl (by kernel_rfl) (by kernel_rfl) (by kernel_rfl) (fun _ _ _ h => h) (Or.inl ⟨by rfl, ?_⟩) (by assumption) ?_
              rotate_left 1
              focus ((intro w hSw; (try dsimp only at hSw); go_simp); try with_reducible rfl)
              try simp only [Act.put, Array.getInternal_eq_getElem, List.getElem_toArray, List.getElem_cons_zero, List.getElem_cons_succ, List.setIfInBounds_toArray, List.set_cons_zero, List.set_cons_succ]
              refine anyT_ready (rs := [17]) (by kernel_rfl) (by simp) ?_
              refine AllT.cons rfl (fun K1 hK1 => ?_) AllT.nil
              try simp only [Array.getInternal_eq_getElem, List.getElem_toArray, List.getElem_cons_zero, List.getElem_cons_succ]
              go_simp
              refine hK1.out _ _ ⟨fun h => absurd h (by simp), trivial⟩ (fun hT => ?_)
              clear hK1 K1
              try simp only [Act.put, Array.getInternal_eq_getElem, List.getElem_toArray, List.getElem_cons_zero, List.getElem_cons_succ, List.setIfInBounds_toArray, List.set_cons_zero, List.set_cons_succ]
              refine anyT_done (by kernel_rfl) ?_ _
              obtain ⟨eO, eC, eb, er⟩ := hRes.out
              clear x20 y21 x02 x03 y22 y23 z3 f3 HA2 HA3 hRes
              generalize W3.setCell ⟨g, m * 6 + 1, none⟩ (.slice A5 Le c5) = W5 at *
              obtain ⟨y1, _⟩ := cell_of_block eb
              have e10 : W5.cell? ⟨w.heap.size, 0, none⟩ = some (.slice (some ⟨g, 0, none⟩) s.parts.length c0) := (y1 0).trans rfl
              have e11 : W5.cell? ⟨w.heap.size, 1, none⟩ = some (.int .i64 s.values) := (y1 1).trans rfl
              obtain ⟨y1, y2⟩ := cell_of_block er
              have z10 : W5.cell? ⟨w.heap.size + 1, 0, none⟩ = some (.slice none 0 0) := (y1 0).trans rfl
              have z11 : W5.cell? ⟨w.heap.size + 1, 1, none⟩ = some (.int .i64 0) := (y1 1).trans rfl
              have z20 := y2 0
              have z21 := y2 1
              have hr1 := blk_put (blk_put er 0 (.slice (some ⟨g, 0, none⟩) s.parts.length c0)) 1 (.int .i64 s.values)
              have cF := Lib.hid (cell_of_block hr1).1
              have hCs := (Chg.set (A := fun q => q = w.heap.size + 1) (w := W5) (b := w.heap.size + 1) (o := 0) (u := .slice (some ⟨g, 0, none⟩) s.parts.length c0) rfl).trans (Chg.set (b := w.heap.size + 1) (o := 1) (u := .int .i64 s.values) rfl)
              have hOf := (eO.move (hCs.same (fun q hq h => hq.2 h))).mono (G := fun q => FF q ∨ w.heap.size ≤ q) (fun q hq => hq.1)
              have hCf := eC.trans2 hCs (fun q hq => by have hq : q = w.heap.size + 1 := hq; exact .inr (by omega))
              clear y1 y2 eO eC hCs hr1 eb er
              go_wp2_with fail
              have cF := cF.out
              refine bodyPost_ret (v := .tuple #[.agg #[.slice (some ⟨g, 0, none⟩) s.parts.length c0, .int .i64 s.values], .bool true]) (by simp [results, Tryz.results78, go_sem, cF]) rfl ?_
              exact ⟨by rw [hdd.out]; rfl, by rw [hdd.out]; exact hOf, hCf⟩
            · have hu1 : (u == 0) = false := by simpa using hu0
              have hn2 := Lib.hid (HNx.out (by rw [hn.out]; exact hu1))
              clear HNx HYx hn hu0
              go_wp2_with fail
              go_roundw
              case rel => exact ⟨i + 1, by omega, by go_num, hn2, HBi2⟩
              case measure => simp [intOf]; omega
        · obtain rfl : i = p.code.length := by omega
          have hn := Lib.hid (HNo.out (fun j hj => HN.out j hj hj))
          go_wp2_with fail
          go_roundw
          case rel => exact ⟨m + 1, by omega, by go_num, hn, HB2⟩
          case measure => simp [intOf]; omega
    · obtain rfl : m = s.parts.length := by omega
      have hdn := Lib.hid (HD2.out (stepD_none (fun j hj => HN.out j hj hj)))
      clear HN HD1 HD2
      have b2 := blk_below b1 HB
      have r2 := blk_below r1 HB
      obtain ⟨y1, _⟩ := cell_of_block b2
      have x20 : wo.cell? ⟨w.heap.size, 0, none⟩ = some (.slice A0 s.parts.length c0) := (y1 0).trans rfl
      have hOo := hOw1.below HB
      have hBo := below_then hb1 HB
      have hUo := Lib.hid (hHu.out.below HB)
      have hdd0 : Hid (dd = (parD U s.parts 0 s.parts).map (fun q => ⟨unparD s.parts q.1 q.2, s.values⟩)) := Lib.hid (by rw [hdn.out, hPd.out]; cases parD U s.parts 0 s.parts <;> rfl)
      have HW1 := Lib.hid (below_then hB0 hBo)
      clear y1 hdn hPd b1 r1 hOw1 hHu hrU hs1
      have hs1 := blk_lt r2
      go_wp2_with fail
      clear x20
      go_loopw [64] (fun x wr => ∃ m : Nat, m ≤ s.parts.length ∧ x = .int .i64 m ∧ Hid (∀ (j : Nat) (hj : j < s.parts.length), j < m → parIn U s.parts (0 + j) s.parts[j] < 0) ∧ Below wo.heap.size wo wr) (fun x _ => s.parts.length - (intOf x).toNat)
      case atStart => exact ⟨0, Nat.zero_le _, rfl, Lib.hid (fun j _ h => by omega), Below.refl _ _⟩
      case round =>
        obtain ⟨m, hm, rfl, HN, HB1⟩ := hrel
        rename World => wp
        by_cases hlt : m < s.parts.length
        · obtain ⟨g, c', he, _, _⟩ := Ow.some_form hOo (by omega)
          injection he with he1 _ he3
          subst he1
          subst he3
          obtain ⟨_, _, _, _, hpt, h1, h2, h3, h4⟩ := ow_read (hOo.below HB1) hlt
          obtain ⟨A1, c1, rfl, _, _, hr1⟩ := rd_int h1
          obtain ⟨A2, c2, rfl, _⟩ := id h2
          obtain ⟨A3, c3, rfl, _⟩ := id h3
          obtain ⟨A4, c4, rfl, _⟩ := id h4
          obtain ⟨q0, q1, q2, q3, q4, q5⟩ := hpt
          have HPm := Lib.hid (HPr.out _ (List.getElem_mem hlt))
          have HIq : Hid (∀ i : Nat, idleQ U s.parts m s.parts[m] i = (U.getD (s.parts[m].params.getD i 0).toNat 0 == ((handS s.parts m i).count (s.parts[m].params.getD i 0) : Int))) := Lib.hid (fun i => rfl)
          have HOm := Lib.hid (fun (i : Nat) W hW (hi : i < s.parts[m].params.length) => HOw.out m i W hW hlt hi)
          have HUm := Lib.hid (fun (i : Nat) W hW (hi : i < s.parts[m].params.length) => HUn.out m i W hW hlt hi)
          have hpl := (HOk.out _ (List.getElem_mem hlt)).1.1
          have HNo : Hid ((∀ j, j < s.parts[m].params.length → idleQ U s.parts m s.parts[m] j = false) → ∀ (j : Nat) (hj : j < s.parts.length), j < m + 1 → parIn U s.parts (0 + j) s.parts[j] < 0) := Lib.hid (fun h j hj hjm => by
            by_cases he : j = m
            · subst he
              rw [Nat.zero_add]
              exact parIn_none (fun i hi => h i hi)
            · exact HN.out j hj (by omega))
          have HYe : Hid (∀ i : Nat, i < s.parts[m].params.length → (∀ j, j < i → idleQ U s.parts m s.parts[m] j = false) → idleQ U s.parts m s.parts[m] i = true → dd = some ⟨unparD s.parts m i, s.values⟩) := Lib.hid (fun i hi h1 h2 => by
            have := parD_hit (U := U) (l := s.parts) (t := s.parts) (k0 := 0) hlt HN.out i (by rw [Nat.zero_add]; exact parIn_hit hi h1 h2)
            rw [hdd0.out, this, Option.map_some, Nat.zero_add])
          obtain ⟨IQ, hIQ⟩ : ∃ IQ : Nat → Bool, IQ = fun i => idleQ U s.parts m s.parts[m] i := ⟨_, rfl⟩
          have HIq : Hid (∀ i : Nat, IQ i = (U.getD (s.parts[m].params.getD i 0).toNat 0 == ((handS s.parts m i).count (s.parts[m].params.getD i 0) : Int))) := Lib.hid (fun i => by rw [hIQ]; exact HIq.out i)
          have HNo : Hid ((∀ j, j < s.parts[m].params.length → IQ j = false) → ∀ (j : Nat) (hj : j < s.parts.length), j < m + 1 → parIn U s.parts (0 + j) s.parts[j] < 0) := Lib.hid (by rw [hIQ]; exact HNo.out)
          have HYe : Hid (∀ i : Nat, i < s.parts[m].params.length → (∀ j, j < i → IQ j = false) → IQ i = true → dd = some ⟨unparD s.parts m i, s.values⟩) := Lib.hid (by rw [hIQ]; exact HYe.out)
          clear hIQ HN
          obtain ⟨CN, hCN⟩ : ∃ CN : Nat → Nat, CN = fun i : Nat => (handS s.parts m i).count (s.parts[m].params.getD i 0) := ⟨_, rfl⟩
          have HIq : Hid (∀ i : Nat, IQ i = (U.getD (s.parts[m].params.getD i 0).toNat 0 == (CN i : Int))) := Lib.hid (by rw [hCN]; exact HIq.out)
          have HOm : Hid (∀ (i : Nat) (W : World), Below W0.heap.size W0 W → i < s.parts[m].params.length → Calls Tryz.prog 121 #[.agg #[.slice (some ⟨g, 0, none⟩) s.parts.length c0, .int .i64 s.values], .int .i64 m, .int .i64 i] W fun e w' => e = .returned (.int .i64 (CN i : Nat)) ∧ Below W.heap.size W w') := Lib.hid (by rw [hCN]; exact HOm.out)
          clear hCN
          obtain ⟨p, hp⟩ : ∃ p, p = s.parts[m] := ⟨_, rfl⟩
          rw [← hp] at q0 q1 q2 q3 q4 q5 hr1 HPm hpl HNo HYe HIq HOm HUm
          clear h1 h2 h3 h4 hp
          have m0 : (0 : Int) ≤ (m : Int) := Int.natCast_nonneg _
          have m1 : (m : Int) < (s.parts.length : Int) := by omega
          have hbw := below_new (w := wp) (.cells #[.slice A1 p.params.length c1, .slice A2 p.code.length c2, .int .i64 p.go, .int .i64 p.test, .slice A3 p.next.length c3, .slice A4 p.args.length c4] 67)
          have bp := heap_alloc_new wp (.cells #[.slice A1 p.params.length c1, .slice A2 p.code.length c2, .int .i64 p.go, .int .i64 p.test, .slice A3 p.next.length c3, .slice A4 p.args.length c4] 67)
          have HB2 := below_then HB1 hbw
          obtain ⟨y1, _⟩ := cell_of_block bp
          have y10 := (y1 0).trans (show (#[Value.slice A1 p.params.length c1, .slice A2 p.code.length c2, .int .i64 p.go, .int .i64 p.test, .slice A3 p.next.length c3, .slice A4 p.args.length c4] : Array Value)[0]? = some (.slice A1 p.params.length c1) from rfl)
          clear y1 bp
          go_wp2_with fail
          clear q0 q1 q2 q3 q4 q5 y10
          generalize wp.alloc (.cells #[.slice A1 p.params.length c1, .slice A2 p.code.length c2, .int .i64 p.go, .int .i64 p.test, .slice A3 p.next.length c3, .slice A4 p.args.length c4] 67) = W1 at *
          go_loopw [72] (fun x wr => ∃ i : Nat, i ≤ p.params.length ∧ x = .int .i64 i ∧ Hid (∀ j, j < i → IQ j = false) ∧ Below W1.heap.size W1 wr) (fun x _ => p.params.length - (intOf x).toNat)
          case atStart => exact ⟨0, Nat.zero_le _, rfl, Lib.hid (fun j h => by omega), Below.refl _ _⟩
          case round =>
            obtain ⟨i, hi, rfl, HN, HBi⟩ := hrel
            rename World => wx
            have HB3 := below_then HB2 HBi
            by_cases hit : i < p.params.length
            · rcases hr1 with hn0 | ⟨b1, o1, rfl, hb1', hc1⟩
              · rw [hn0] at hit; simp at hit
              have cp := cell_below HBi (cell_below hbw (hc1 i hit))
              have e : p.params.getD i 0 = p.params[i] := by rw [List.getD_eq_getElem?_getD, List.getElem?_eq_getElem hit]; rfl
              have hIq := Lib.hid (HIq.out i)
              rw [e] at hIq
              have hvr := HPm.out _ (List.getElem_mem hit)
              obtain ⟨v, hv⟩ : ∃ v, v = p.params[i] := ⟨_, rfl⟩
              rw [← hv] at cp hIq hvr
              clear hv e hc1
              obtain ⟨d, hd⟩ := Int.eq_ofNat_of_zero_le hvr.1
              have hdl : d < U.length := by rw [hUl.out]; omega
              obtain ⟨Au', cu', hAu, _, _, hrU⟩ := rd_int (hUo.out.below HB3)
              injection hAu with hAu1 _ hAu3
              subst hAu1
              subst hAu3
              rcases hrU with hn0 | ⟨bU, oU, rfl, _, hcU⟩
              · rw [hn0] at hdl; simp at hdl
              have cu1 := hcU d hdl
              have eU : U.getD v.toNat 0 = U[d] := by rw [hd, Int.toNat_natCast, List.getD_eq_getElem?_getD, List.getElem?_eq_getElem hdl]; rfl
              rw [eU] at hIq
              obtain ⟨x, hx⟩ : ∃ x, x = U[d] := ⟨_, rfl⟩
              rw [← hx] at cu1 hIq
              obtain ⟨N1, hN1⟩ : ∃ N1, N1 = CN i := ⟨_, rfl⟩
              have hOm := Lib.hid (fun W (hW : Below wx.heap.size wx W) => HOm.out i W (below_then (below_then hBo HB3) hW) hit)
              rw [← hN1] at hIq hOm
              have hUm := Lib.hid (fun W (hW : Below wx.heap.size wx W) => HUm.out i W (below_then (below_then hBo HB3) hW) hit)
              have hNx : Hid (IQ i = false → ∀ j, j < i + 1 → IQ j = false) := Lib.hid (fun h j hj => (Nat.lt_or_eq_of_le (Nat.le_of_lt_succ hj)).elim (fun h2 => HN.out j h2) (fun h2 => by subst h2; exact h))
              have hYx : Hid (IQ i = true → dd = some ⟨unparD s.parts m i, s.values⟩) := Lib.hid (fun h => HYe.out i hit HN.out h)
              clear hx hN1 eU hcU HN
              have i0 : (0 : Int) ≤ (i : Int) := Int.natCast_nonneg _
              have i1 : (i : Int) < (p.params.length : Int) := by omega
              have d0 : (0 : Int) ≤ (d : Int) := Int.natCast_nonneg _
              have d1 : (d : Int) < (U.length : Int) := by omega
              replace hvr := Lib.hid hvr
              subst hd
              have b3 := blk_below b2 HB3
              obtain ⟨y1, _⟩ := cell_of_block b3
              have x20 : wx.cell? ⟨w.heap.size, 0, none⟩ = some (.slice (some ⟨g, 0, none⟩) s.parts.length c0) := (y1 0).trans rfl
              have x21 : wx.cell? ⟨w.heap.size, 1, none⟩ = some (.int .i64 s.values) := (y1 1).trans rfl
              clear y1
              go_upto_region 19 with fail
              refine anyT_region [(8, fun w' => w'.cell? ⟨bU, oU + d, none⟩ = some (.int .i64 x)), (7, fun w' => w'.cell? ⟨w.heap.size, 0, none⟩ = some (.slice (some ⟨g, 0, none⟩) s.parts.length c0) ∧ w'.cell? ⟨w.heap.size, 1, none⟩ = some (.int .i64 s.values))] (by kernel_rfl) ⟨fun _ => cu1, fun _ => ⟨x20, x21⟩, trivial⟩ (fun hT => ?_)
              refine anyT_pure (i := 0) (v := ?_) rfl (by kernel_rfl) (by kernel_rfl) (by kernel_rfl) (fun _ _ _ h => h) (Or.inl ⟨by rfl, ?_⟩) (by assumption) ?_
              rotate_left 1
              focus ((intro w hSw; (try dsimp only at hSw); go_simp); try with_reducible rfl)
              try simp only [Act.put, Array.getInternal_eq_getElem, List.getElem_toArray, List.getElem_cons_zero, List.getElem_cons_succ, List.setIfInBounds_toArray, List.set_cons_zero, List.set_cons_succ]
              refine anyT_pure (i := 1) (v := ?_) rfl (by kernel_rfl) (by kernel_rfl) (by kernel_rfl) (fun _ _ _ h => h) (Or.inl ⟨by rfl, ?_⟩) (by assumption) ?_
              rotate_left 1
              focus ((intro w hSw; (try dsimp only at hSw); go_simp); try with_reducible rfl)
              try simp only [Act.put, Array.getInternal_eq_getElem, List.getElem_toArray, List.getElem_cons_zero, List.getElem_cons_succ, List.setIfInBounds_toArray, List.set_cons_zero, List.set_cons_succ]
              refine anyT_pure (i := 5) (v := ?_) rfl (by kernel_rfl) (by kernel_rfl) (by kernel_rfl) (fun _ _ _ h => h) (Or.inl ⟨by rfl, ?_⟩) (by assumption) ?_
              rotate_left 1
              focus ((intro w hSw; (try dsimp only at hSw); go_simp); try with_reducible rfl)
              try simp only [Act.put, Array.getInternal_eq_getElem, List.getElem_toArray, List.getElem_cons_zero, List.getElem_cons_succ, List.setIfInBounds_toArray, List.set_cons_zero, List.set_cons_succ]
              refine anyT_pure (i := 6) (v := ?_) rfl (by kernel_rfl) (by kernel_rfl) (by kernel_rfl) (fun _ _ _ h => h) (Or.inl ⟨by rfl, ?_⟩) (by assumption) ?_
              rotate_left 1
              focus ((intro w hSw; (try dsimp only at hSw); go_simp); try with_reducible rfl)
              try simp only [Act.put, Array.getInternal_eq_getElem, List.getElem_toArray, List.getElem_cons_zero, List.getElem_cons_succ, List.setIfInBounds_toArray, List.set_cons_zero, List.set_cons_succ]
              refine anyT_pure (i := 2) (v := ?_) rfl (by kernel_rfl) (by kernel_rfl) (by kernel_rfl) (fun _ _ _ h => h) (Or.inl ⟨by rfl, ?_⟩) (by assumption) ?_
              rotate_left 1
              focus ((intro w hSw; (try dsimp only at hSw); go_simp); try with_reducible rfl)
              try simp only [Act.put, Array.getInternal_eq_getElem, List.getElem_toArray, List.getElem_cons_zero, List.getElem_cons_succ, List.setIfInBounds_toArray, List.set_cons_zero, List.set_cons_succ]
              refine anyT_take (k := 0) (i := 3) (v := ?_) rfl rfl (by kernel_rfl) (by kernel_rfl) (by kernel_rfl) (fun _ _ _ h => h) (Or.inl ⟨by rfl, ?_⟩) (by assumption) ?_
              rotate_left 1
              focus ((intro w hSw; (try dsimp only at hSw); go_simp); try with_reducible rfl)
              try simp only [Act.put, Array.getInternal_eq_getElem, List.getElem_toArray, List.getElem_cons_zero, List.getElem_cons_succ, List.setIfInBounds_toArray, List.set_cons_zero, List.set_cons_succ]
              refine anyT_take (k := 1) (i := 4) (v := ?_) rfl rfl (by kernel_rfl) (by kernel_rfl) (by kernel_rfl) (fun _ _ _ h => h) (Or.inl ⟨by rfl, ?_⟩) (by assumption) ?_
              rotate_left 1
              focus ((intro w hSw; (try dsimp only at hSw); go_simp); try with_reducible rfl)
              try simp only [Act.put, Array.getInternal_eq_getElem, List.getElem_toArray, List.getElem_cons_zero, List.getElem_cons_succ, List.setIfInBounds_toArray, List.set_cons_zero, List.set_cons_succ]
              refine anyT_ready (rs := [7]) (by kernel_rfl) (by simp) ?_
              refine AllT.cons rfl (fun K1 hK1 => ?_) AllT.nil
              try simp only [Array.getInternal_eq_getElem, List.getElem_toArray, List.getElem_cons_zero, List.getElem_cons_succ]
              go_simp
              go_at_call 121
              refine (hOm.out _ (below_drew (Below.refl _ _))).mono ?_
              rintro e w2 ⟨rfl, hb2⟩
              have hb3 : Below wx.heap.size wx w2 := below_then (below_drew (Below.refl _ _)) hb2
              refine hK1.out _ _ ⟨fun _ => cell_below hb3 cu1, fun h => absurd h (by simp), trivial⟩ (fun hT => ?_)
              clear hK1 K1
              try simp only [Act.put, Array.getInternal_eq_getElem, List.getElem_toArray, List.getElem_cons_zero, List.getElem_cons_succ, List.setIfInBounds_toArray, List.set_cons_zero, List.set_cons_succ]
              refine anyT_ready (rs := [8]) (by kernel_rfl) (by simp) ?_
              refine AllT.cons rfl (fun K1 hK1 => ?_) AllT.nil
              try simp only [Array.getInternal_eq_getElem, List.getElem_toArray, List.getElem_cons_zero, List.getElem_cons_succ]
              go_simp
              refine hK1.out _ _ ⟨fun h => absurd h (by simp), fun h => absurd h (by simp), trivial⟩ (fun hT => ?_)
              clear hK1 K1
              try simp only [Act.put, Array.getInternal_eq_getElem, List.getElem_toArray, List.getElem_cons_zero, List.getElem_cons_succ, List.setIfInBounds_toArray, List.set_cons_zero, List.set_cons_succ]
              refine anyT_done (by kernel_rfl) ?_ _
              have HBw2 := below_then HB3 hb3
              have HBi2 := below_then HBi hb3
              have b4 := blk_below b2 HBw2
              have r4 := blk_below r2 HBw2
              clear x20 x21 cu1 cp hOm b3
              by_cases hxe : x = (N1 : Int)
              · have hx2 : (x == (N1 : Int)) = true := by simpa using hxe
                have hdd := Lib.hid (hYx.out (by rw [hIq.out]; exact hx2))
                clear hYx hNx hIq hx2
                subst hxe
                obtain ⟨y1, _⟩ := cell_of_block b4
                have x20 : w2.cell? ⟨w.heap.size, 0, none⟩ = some (.slice (some ⟨g, 0, none⟩) s.parts.length c0) := (y1 0).trans rfl
                have x21 : w2.cell? ⟨w.heap.size, 1, none⟩ = some (.int .i64 s.values) := (y1 1).trans rfl
                clear y1
                go_wp2_with fail
                refine (hUm.out _ hb3).mono ?_
                rintro e w3 ⟨rfl, hO3, hC3⟩
                have hs4 := blk_lt r4
                have eb := hC3.blk b4 (fun h => by have := h.1.2; omega)
                have er := hC3.blk r4 (fun h => by have := h.1.2; omega)
                have eO := hO3.mono (G := fun q => (FF q ∨ w.heap.size ≤ q) ∧ ¬ q = w.heap.size + 1) (fun q hq => by rcases hq with hq | hq; exact ⟨.inl hq.1, by have := hq.2; omega⟩; exact ⟨.inr (by omega), by omega⟩)
                have eC : Chg (fun q => FF q ∧ q < w.heap.size) w w3 := (Chg.of_below (below_then HW1.out HBw2)).trans2 hC3 (fun q hq => .inl hq.1)
                clear hUm x20 x21
                obtain ⟨y1, _⟩ := cell_of_block eb
                have e10 : w3.cell? ⟨w.heap.size, 0, none⟩ = some (.slice (some ⟨g, 0, none⟩) s.parts.length c0) := (y1 0).trans rfl
                have e11 : w3.cell? ⟨w.heap.size, 1, none⟩ = some (.int .i64 s.values) := (y1 1).trans rfl
                obtain ⟨y1, y2⟩ := cell_of_block er
                have z10 : w3.cell? ⟨w.heap.size + 1, 0, none⟩ = some (.slice none 0 0) := (y1 0).trans rfl
                have z11 : w3.cell? ⟨w.heap.size + 1, 1, none⟩ = some (.int .i64 0) := (y1 1).trans rfl
                have z20 := y2 0
                have z21 := y2 1
                have hr1 := blk_put (blk_put er 0 (.slice (some ⟨g, 0, none⟩) s.parts.length c0)) 1 (.int .i64 s.values)
                have cF := Lib.hid (cell_of_block hr1).1
                have hCs := (Chg.set (A := fun q => q = w.heap.size + 1) (w := w3) (b := w.heap.size + 1) (o := 0) (u := .slice (some ⟨g, 0, none⟩) s.parts.length c0) rfl).trans (Chg.set (b := w.heap.size + 1) (o := 1) (u := .int .i64 s.values) rfl)
                have hOf := (eO.move (hCs.same (fun q hq h => hq.2 h))).mono (G := fun q => FF q ∨ w.heap.size ≤ q) (fun q hq => hq.1)
                have hCf := eC.trans2 hCs (fun q hq => by have hq : q = w.heap.size + 1 := hq; exact .inr (by omega))
                clear y1 y2 eO eC hCs hr1 eb er
                go_wp2_with fail
                have cF := cF.out
                refine bodyPost_ret (v := .tuple #[.agg #[.slice (some ⟨g, 0, none⟩) s.parts.length c0, .int .i64 s.values], .bool true]) (by simp [results, Tryz.results78, go_sem, cF]) rfl ?_
                exact ⟨by rw [hdd.out]; rfl, by rw [hdd.out]; exact hOf, hCf⟩
              · have hx2 : (x == (N1 : Int)) = false := by simpa using hxe
                have hN5 := Lib.hid (hNx.out (by rw [hIq.out]; exact hx2))
                clear hYx hNx hIq hxe hUm
                go_wp2_with fail
                go_roundw
                case rel => exact ⟨i + 1, by omega, by go_num, hN5, HBi2⟩
                case measure => simp [intOf]; omega
            · obtain rfl : i = p.params.length := by omega
              have hn := Lib.hid (HNo.out (fun j hj => HN.out j hj))
              go_wp2_with fail
              go_roundw
              case rel => exact ⟨m + 1, by omega, by go_num, hn, HB3⟩
              case measure => simp [intOf]; omega
        · obtain rfl : m = s.parts.length := by omega
          have hdd : Hid (dd = none) := Lib.hid (by rw [hdd0.out, parD_none (fun j hj => HN.out j hj hj)]; rfl)
          have eb := blk_below b2 HB1
          have er := blk_below r2 HB1
          have eO := (hOo.below HB1).mono (G := fun q => (FF q ∨ w.heap.size ≤ q) ∧ ¬ q = w.heap.size + 1) (fun q hq => ⟨.inl hq.1, by have := hq.2; omega⟩)
          have eC : Chg (fun q => FF q ∧ q < w.heap.size) w wp := Chg.of_below (below_then HW1.out HB1)
          obtain ⟨y1, _⟩ := cell_of_block eb
          have e10 : wp.cell? ⟨w.heap.size, 0, none⟩ = some (.slice A0 s.parts.length c0) := (y1 0).trans rfl
          have e11 : wp.cell? ⟨w.heap.size, 1, none⟩ = some (.int .i64 s.values) := (y1 1).trans rfl
          obtain ⟨y1, y2⟩ := cell_of_block er
          have z10 : wp.cell? ⟨w.heap.size + 1, 0, none⟩ = some (.slice none 0 0) := (y1 0).trans rfl
          have z11 : wp.cell? ⟨w.heap.size + 1, 1, none⟩ = some (.int .i64 0) := (y1 1).trans rfl
          have z20 := y2 0
          have z21 := y2 1
          have hr1 := blk_put (blk_put er 0 (.slice A0 s.parts.length c0)) 1 (.int .i64 s.values)
          have cF := Lib.hid (cell_of_block hr1).1
          have hCs := (Chg.set (A := fun q => q = w.heap.size + 1) (w := wp) (b := w.heap.size + 1) (o := 0) (u := .slice A0 s.parts.length c0) rfl).trans (Chg.set (b := w.heap.size + 1) (o := 1) (u := .int .i64 s.values) rfl)
          have hOf := (eO.move (hCs.same (fun q hq h => hq.2 h))).mono (G := fun q => FF q ∨ w.heap.size ≤ q) (fun q hq => hq.1)
          have hCf := eC.trans2 hCs (fun q hq => by have hq : q = w.heap.size + 1 := hq; exact .inr (by omega))
          clear y1 y2 eO eC hCs hr1 eb er
          go_wp2_with fail
          have cF := cF.out
          refine bodyPost_ret (v := .tuple #[.agg #[.slice A0 s.parts.length c0, .int .i64 s.values], .bool false]) (by simp [results, Tryz.results78, go_sem, cF]) rfl ?_
          exact ⟨by rw [hdd.out]; rfl, by rw [hdd.out]; exact hOf, hCf⟩
end Go.Proofs.YtnfaibenekninaaGreat.L
