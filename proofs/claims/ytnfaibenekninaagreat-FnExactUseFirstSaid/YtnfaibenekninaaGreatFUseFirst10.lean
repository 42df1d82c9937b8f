/- Joined texts, each of which was built by itself: Uf7. -/
import Derived.Test.YtnfaibenekninaaGreatFUseFirst9
import Derived.Test.YtnfaibenekninaaGreatFUseFirst8
import Derived.Test.YtnfaibenekninaaGreatFUseFirst5
import Derived.Test.YtnfaibenekninaaGreatB13
import Derived.Test.YtnfaibenekninaaGreatFUseFirst7
set_option linter.unusedVariables false
set_option linter.unusedSimpArgs false
namespace Go.Proofs.YtnfaibenekninaaGreat.L
open Go.RowKit
theorem ow_readQ {F : Nat → Prop} {g n c : Nat} {L : List Pt} {w : World} {k : Nat} {q : Pt} (HO : Ow true 67 partA w F (.slice (some ⟨g, 0, none⟩) n c) L) (hk : L[k]? = some q) :
    ∃ vp vc vn va, partAt w g (k * 6) q vp vc vn va ∧ Rp.Rd Rp.int w F vp q.params ∧ Rp.Rd flat w F vc q.code ∧ Rp.Rd Rp.int w F vn q.next ∧ Rp.Rd (Rp.sl Rp.int) w F va q.args := by
  obtain ⟨hk', rfl⟩ := List.getElem?_eq_some_iff.1 hk
  exact ow_read HO hk'
theorem ow_testQ {F : Nat → Prop} {g n c : Nat} {L : List Pt} {w : World} {k : Nat} {q : Pt} (HO : Ow true 67 partA w F (.slice (some ⟨g, 0, none⟩) n c) L) (hk : L[k]? = some q) :
    w.cell? ⟨g, k * 6 + 3, none⟩ = some (.int .i64 q.test) ∧ (∀ o, w.frozen? ⟨g, o, none⟩ = false) ∧ (F g ∧ g < w.heap.size) ∧
    ∀ t : Int, Ow true 67 partA (w.setCell ⟨g, k * 6 + 3, none⟩ (.int .i64 t)) F (.slice (some ⟨g, 0, none⟩) n c) (L.set k { q with test := t }) := by
  obtain ⟨hk', rfl⟩ := List.getElem?_eq_some_iff.1 hk
  exact ow_test HO hk'
theorem ow_argInQ {F : Nat → Prop} {g n c : Nat} {L : List Pt} {w : World} {k i : Nat} {q : Pt} {l : List Int} (HO : Ow true 67 partA w F (.slice (some ⟨g, 0, none⟩) n c) L) (hk : L[k]? = some q) (hi : q.args[i]? = some l) :
    ∃ (ga ca : Nat) (u : Value) (G : Nat → Prop), w.cell? ⟨g, k * 6 + 5, none⟩ = some (.slice (some ⟨ga, 0, none⟩) q.args.length ca) ∧ w.cell? ⟨ga, i, none⟩ = some u ∧ Ow true 3 Rp.int w G u l ∧ (∀ q, G q → F q ∧ q ≠ ga ∧ q ≠ g ∧ q < w.heap.size) ∧ (F ga ∧ ga < w.heap.size ∧ ga ≠ g) ∧
    ∀ (w' : World) (l' : List Int), Chg G w w' → Ow true 3 Rp.int w' G u l' → Ow true 67 partA w' F (.slice (some ⟨g, 0, none⟩) n c) (L.set k { q with args := q.args.set i l' }) := by
  obtain ⟨hk', rfl⟩ := List.getElem?_eq_some_iff.1 hk
  obtain ⟨hi', rfl⟩ := List.getElem?_eq_some_iff.1 hi
  exact ow_argIn HO hk' hi'
theorem ow_codeInQ {F : Nat → Prop} {g n c : Nat} {L : List Pt} {w : World} {k : Nat} {q : Pt} (HO : Ow true 67 partA w F (.slice (some ⟨g, 0, none⟩) n c) L) (hk : L[k]? = some q) :
    ∃ (vc : Value) (G : Nat → Prop), w.cell? ⟨g, k * 6 + 1, none⟩ = some vc ∧ Ow true 71 flat w G vc q.code ∧ (∀ q, G q → F q ∧ q ≠ g ∧ q < w.heap.size) ∧
    ∀ (w' : World) (l' : List Fl), Chg G w w' → Ow true 71 flat w' G vc l' → Ow true 67 partA w' F (.slice (some ⟨g, 0, none⟩) n c) (L.set k { q with code := l' }) := by
  obtain ⟨hk', rfl⟩ := List.getElem?_eq_some_iff.1 hk
  exact ow_codeIn HO hk'
theorem thereB_thU {s : Sa} {k : Nat} {p : Pt} {dom : List Int} (h : ∀ x, x ∈ dom ↔ Dom (graphS s.parts) k x) (j : Nat) : thereB ((defsS s).getD []) dom (p.params ++ dstsS (p.code.take j)) k = thU s k p j :=
  funext (fun v => Bool.eq_iff_iff.2 ((thereB_iff h).trans (thU_iff (s := s) (k := k) (p := p) (j := j) (v := v)).symm))
theorem fB_fA {o : Int} (h : fB o = true) : fA o = true := by
  unfold fB at h
  unfold fA
  simp only [Bool.or_eq_true, beq_iff_eq] at h ⊢
  omega
theorem cell_of_rdi {w : World} {F : Nat → Prop} {v : Value} {l : List Int} (h : Rp.Rd Rp.int w F v l) : ∃ A c, v = .slice A l.length c := by
  obtain ⟨A, c, h, _⟩ := h; exact ⟨A, c, h⟩
/-- A step of one's own stored anew. -/
theorem ow_flPut {w : World} {F : Nat → Prop} {g n c j : Nat} {l : List Fl} (HO : Ow true 71 flat w F (.slice (some ⟨g, 0, none⟩) n c) l) (hj : j < l.length) (y : Fl) :
    Ow true 71 flat (putRow w g (j * 6) [.int .i64 y.op, .int .i64 y.dO, .int .i64 y.dst, .int .i64 y.a, .int .i64 y.b, .int .i64 y.n]) F (.slice (some ⟨g, 0, none⟩) n c) (l.set j y) :=
  (HO.put rfl hj (flat_mk w (fun _ => False) y) (fun _ h => h.elim)).mono (fun q hq => hq.elim id (fun h => h.elim))
set_option maxRecDepth 100000 in
set_option maxHeartbeats 32000000 in
theorem l11UseFirst_calls {F : Nat → Prop} (s : Sa) (v : Value) (w : World) (hs : Rp.Rd part w F v s.parts) (hg : GoodP s) (hx : SaLim s) :
    Calls Tryz.prog 23 #[saV s v] w fun e w' => ∃ v', e = .returned (.tuple #[saV (useS s) v', .int .i64 (useN s : Nat)]) ∧ Ow true 67 partA w' (fun q => w.heap.size ≤ q) v' (useS s).parts ∧ Below w.heap.size w w' := by
  obtain ⟨A0, c0, rfl, _, _, _⟩ := rd_part hs
  have hn1 := hg.n1
  have hn2 := hg.n2
  have hv1 := hg.v1
  have hv2 := hg.v2
  have hNV : Hid ((s.values.toNat : Int) = s.values) := Lib.hid (by omega)
  have hNX : ∀ p ∈ s.parts, p.next.length ≤ 1048576 := fun p hp => (hx.2 p hp).2.2.1
  obtain ⟨W0, hW0⟩ : ∃ W0, W0 = (w.alloc (.cells #[.slice A0 s.parts.length c0, .int .i64 s.values] 28)).alloc (.cells #[.slice none 0 0, .int .i64 0] 28) := ⟨_, rfl⟩
  have hB0 : Below w.heap.size w W0 := by rw [hW0]; exact below_then (below_new _) (below_new _)
  have b0 : W0.heap[w.heap.size]? = some (.cells #[.slice A0 s.parts.length c0, .int .i64 s.values] 28 (0, 0)) := by rw [hW0]; exact alloc_old (alloc_at rfl)
  have r0 : W0.heap[w.heap.size + 1]? = some (.cells #[.slice none 0 0, .int .i64 0] 28 (0, 0)) := by rw [hW0]; exact alloc_at (by simp)
  have HOw := Lib.hid (fun W (hW : Below w.heap.size w W) => l9Own_calls s _ W (hs.below hW) hx)
  have HGr := Lib.hid (fun W (hW : Below w.heap.size w W) => l11Numbered_calls s s.values.toNat _ W (hs.below hW) hg hx.2 hNV.out)
  have HGt := Lib.hid (fun t hF => (show numL (keyN s (dfAll s) s.values.toNat t) = grpL s s.values.toNat by rw [rounds_S (s := s) (N := s.values.toNat) (t := t) hF]; exact grp_S hg hNV.out))
  have HDf := Lib.hid (fun W (hW : Below w.heap.size w W) => l9Defs_calls s _ W (hs.below hW) hx.1 hx.2 hv1 hv2)
  have HGp := Lib.hid (fun W (hW : Below w.heap.size w W) => l9Graph_calls s _ W (hs.below hW) hx.1 hNX)
  have hgl0 : (graphS s.parts).length = s.parts.length := graphS_len _
  have HDo := Lib.hid (fun (vg : Value) (W : World) (G : Nat → Prop) (h : Rp.Rd (Rp.sl Rp.int) W G vg (graphS s.parts)) => l7Dominators_calls (graphS s.parts) vg W h (by rw [hgl0]; omega) (by rw [hgl0]; omega) (graphS_inR hg.nx))
  have HXs := Lib.hid (fun (q : Nat) (p : Pt) (hq : s.parts[q]? = some p) (x : Fl) (hx : x ∈ p.code) => (hg.steps_in hq hx).2)
  have HUe := Lib.hid (fun (p : Pt) (hp : p ∈ s.parts) (x : Fl) (hx : x ∈ p.code) => hg.uses_eq hp hx)
  have HEn := Lib.hid (fun (q : Nat) (p : Pt) (hq : s.parts[q]? = some p) (v : Int) (hv : v ∈ endsS p) => hg.use_in hq (.inl hv))
  have HPk := Lib.hid (fun (p : Pt) (hp : p ∈ s.parts) => hg.ptOk hp)
  have HAc : Hid (∀ k, k ≤ s.parts.length → uAllN (fU s) s.parts k ≤ 40000) := Lib.hid (fun k hk => by
    have := uAllN_le (fU s) (l := s.parts) (fun p hp => hg.ptOk hp) hk
    have h2 : k * 3300 ≤ 11 * 3300 := Nat.mul_le_mul_right _ (by omega)
    omega)
  have hx0 : W0.cell? ⟨w.heap.size, 0, none⟩ = some (.slice A0 s.parts.length c0) ∧ W0.cell? ⟨w.heap.size, 1, none⟩ = some (.int .i64 s.values) := by
    obtain ⟨y1, _⟩ := cell_of_block b0
    exact ⟨(y1 0).trans rfl, (y1 1).trans rfl⟩
  obtain ⟨x10, x11⟩ := hx0
  have HR0 := Lib.hid r0
  have hrs := blk_lt r0
  clear r0 b0 hg hx hNX hs
  replace hgl0 := Lib.hid hgl0
  unfold saV at HOw HGr HDf HGp ⊢
  subst hW0
  go_enter Tryz.func23, Tryz.ntmps23
  go_wp2_with fail
  generalize (w.alloc (.cells #[.slice A0 s.parts.length c0, .int .i64 s.values] 28)).alloc (.cells #[.slice none 0 0, .int .i64 0] 28) = W0 at *
  refine (HOw.out _ hB0).mono ?_
  rintro e w1 ⟨v1, rfl, hO1, hb1⟩
  obtain ⟨g, c, rfl, _, _⟩ := Ow.some_form hO1 (by omega)
  have hB1 := below_then hB0 hb1
  have hob := heap_alloc_new w1 (.cells #[.slice (some ⟨g, 0, none⟩) s.parts.length c, .int .i64 s.values] 28)
  have hbo := below_new (w := w1) (.cells #[.slice (some ⟨g, 0, none⟩) s.parts.length c, .int .i64 s.values] 28)
  have y10 := cell_below hbo (cell_below hb1 x10)
  have y11 := cell_below hbo (cell_below hb1 x11)
  have hB2 := below_then hB1 hbo
  have hz1 : (w1.alloc (.cells #[.slice (some ⟨g, 0, none⟩) s.parts.length c, .int .i64 s.values] 28)).heap.size = w1.heap.size + 1 := by simp
  have hO2 := hO1.bound.below hbo
  have r2 := blk_below HR0.out (below_then hb1 hbo)
  have hs1 := hb1.size
  clear HOw x10 x11 hO1
  go_wp2_with fail
  generalize w1.alloc (.cells #[.slice (some ⟨g, 0, none⟩) s.parts.length c, .int .i64 s.values] 28) = W2 at *
  refine (HGr.out _ hB2).mono ?_
  rintro e w3 ⟨vG, t, rfl, hRG, hFt, hb3⟩
  rw [HGt.out t hFt] at hRG
  obtain ⟨gl, hgl⟩ : ∃ gl, gl = intsN (grpL s s.values.toNat) := ⟨_, rfl⟩
  rw [← hgl] at hRG
  have hGL : Hid (gl.length = s.values.toNat) := Lib.hid (by rw [hgl]; unfold intsN; rw [List.length_map, grpL_len])
  have hFU : Hid (∀ (k : Nat) (p : Pt) (j : Nat), fU s k p j = firstV gl (thU s k p j)) := Lib.hid (fun k p j => by unfold fU; rw [hgl])
  clear hgl HGr HGt hFt
  have hB3 := below_then hB2 hb3
  have z10 := cell_below hb3 y10
  have z11 := cell_below hb3 y11
  obtain ⟨AG, cG, hvG⟩ := cell_of_rdi hRG
  subst hvG
  clear y10 y11
  go_wp2_with fail
  refine (HDf.out _ hB3).mono ?_
  rintro e w4 ⟨vD, rfl, hOD, hb4⟩
  have hB4 := below_then hB3 hb4
  have y10 := cell_below hb4 z10
  have y11 := cell_below hb4 z11
  obtain ⟨DL, hDL⟩ : ∃ DL, DL = (defsS s).getD [] := ⟨_, rfl⟩
  rw [← hDL] at hOD
  have hDLH := Lib.hid hDL
  obtain ⟨AD, cD, rfl, _, _⟩ := hOD.form
  clear z10 z11 HDf hDL
  go_wp2_with fail
  refine (HGp.out _ hB4).mono ?_
  rintro e w5 ⟨vg, rfl, hOg, hb5⟩
  have hB5 := below_then hB4 hb5
  obtain ⟨Ag, cg, rfl, _, _⟩ := hOg.form
  clear y10 y11 HGp
  go_wp2_with fail
  refine (HDo.out _ _ _ hOg.rd).mono ?_
  rintro e w6 ⟨vM, DM, rfl, hOM, hb6, hDM⟩
  have hB6 := below_then hB5 hb6
  have hs2 := hbo.size
  have hs3 := hb3.size
  have hs4 := hb4.size
  have hs5 := hb5.size
  have hs6 := hb6.size
  have hO6 := hO2.below (below_then (below_then (below_then hb3 hb4) hb5) hb6)
  have o6 := blk_below hob (below_then (below_then (below_then hb3 hb4) hb5) hb6)
  have r6 := blk_below r2 (below_then (below_then (below_then hb3 hb4) hb5) hb6)
  obtain ⟨FO, hFOe⟩ : ∃ FO : Nat → Prop, FO = fun q => W0.heap.size ≤ q ∧ q < w1.heap.size := ⟨_, rfl⟩
  rw [← hFOe] at hO6
  have hFO : ∀ q, FO q → W0.heap.size ≤ q ∧ q < w1.heap.size := fun q hq => by rw [hFOe] at hq; exact hq
  clear hFOe
  obtain ⟨FR, hFRe⟩ : ∃ FR : Nat → Prop, FR = fun q => w1.heap.size ≤ q ∧ q < w6.heap.size := ⟨_, rfl⟩
  have hFR : ∀ q, FR q → w1.heap.size ≤ q ∧ q < w6.heap.size := fun q hq => by rw [hFRe] at hq; exact hq
  have hRG6 : Rp.Rd Rp.int w6 FR (.slice AG gl.length cG) gl := by rw [hFRe]; exact (hRG.below (below_then (below_then hb4 hb5) hb6)).bound.mono (fun q hq => ⟨by have h := hq.1; omega, hq.2⟩)
  have hRD6 : Rp.Rd Rp.int w6 FR (.slice AD DL.length cD) DL := by rw [hFRe]; exact (hOD.rd.below (below_then hb5 hb6)).bound.mono (fun q hq => ⟨by have h := hq.1; omega, hq.2⟩)
  have hRM6 : Rp.Rd (Rp.sl Rp.int) w6 FR vM DM := by rw [hFRe]; exact hOM.rd.bound.mono (fun q hq => ⟨by have h := hq.1; omega, hq.2⟩)
  clear hFRe hRG hOD hOM hOg HDo
  obtain ⟨AM, cM, rfl, _, _, hrM⟩ := id hRM6
  rcases hrM with hn0 | ⟨bM, oM, rfl, hbMF, hbM, hrowM⟩
  · exfalso; have h := hDM.out.1; rw [hn0, hgl0.out] at h; simp at h; omega
  obtain ⟨y1, _⟩ := cell_of_block o6
  have x6 : w6.cell? ⟨w1.heap.size, 0, none⟩ = some (.slice (some ⟨g, 0, none⟩) s.parts.length c) := (y1 0).trans rfl
  obtain ⟨ob, hobe⟩ : ∃ ob, ob = w1.heap.size := ⟨_, rfl⟩
  rw [← hobe] at x6 o6 hFO hFR ⊢
  have hSt : Ow true 67 partA w6 FO (.slice (some ⟨g, 0, none⟩) s.parts.length c) (s.parts) := hO6
  have hDisj : Hid (∀ q, FO q → ¬ FR q) := Lib.hid (fun q hq h => by have h1 := (hFO q hq).2; have h2 := (hFR q h).1; omega)
  have hFOs : Hid (∀ q, FO q → w.heap.size + 1 < q ∧ q < ob) := Lib.hid (fun q hq => by have h1 := hFO q hq; omega)
  have hBf := Lib.hid hB6
  have hobs := blk_lt o6
  clear y1 hFO hB0 hB1 hB2 hB3 hB4 hB5 hB6 hb1 hb3 hb4 hb5 hb6 hbo hob r2 hO2 HR0 hz1 hs1 hs2 hs3 hs4 hs5 hrs hobe hRM6
  go_wp2_with fail
  clear x6
  have HCk : Hid (∀ (k : Nat) (hk : k < DM.length) (wr : World), Chg FO w6 wr → ∃ Au cu, wr.cell? ⟨bM, oM + k, none⟩ = some (.slice Au DM[k].length cu) ∧ Rp.Rd Rp.int wr FR (.slice Au DM[k].length cu) DM[k]) := Lib.hid (fun k hk wr hC => by
    obtain ⟨cs, ⟨u, rfl, hu⟩, hc⟩ := hrowM k DM[k] (List.getElem?_eq_getElem hk)
    obtain ⟨Au, cu, rfl, h3, h4, h5⟩ := hu
    have hu : Rp.Rd Rp.int w6 FR (.slice Au DM[k].length cu) DM[k] := ⟨Au, cu, rfl, h3, h4, h5⟩
    refine ⟨Au, cu, hC.cell (by have h := hc 0 _ rfl; rw [show k * (Rp.sl Rp.int).sz + 0 = k from by show k * 1 + 0 = k; omega] at h; exact h) (fun h => hDisj.out _ h hbMF), hu.move (hC.same (fun q hq h => hDisj.out _ h hq))⟩)
  have HUse : Hid (∀ (k : Nat) (p : Pt) (hk : s.parts[k]? = some p) (hkD : k < DM.length) (j : Nat) (wr : World) (hC : Chg FO w6 wr) (G F4 : Nat → Prop) (vl vf : Value) (Au : Option Addr) (cu : Nat) (l : List Int) (hO : Ow true 3 Rp.int wr G vl l) (hG : ∀ q, G q → ¬ FR q ∧ ¬ F4 q) (hF : Rp.Rd Rp.int wr F4 vf (p.params ++ dstsS (p.code.take j))) (hr : ∀ v ∈ l, 0 ≤ v ∧ v < s.values) (hl : l.length ≤ 1000) (hu : Rp.Rd Rp.int wr FR (.slice Au DM[k].length cu) DM[k]),
      Calls Tryz.prog 56 #[vl, .slice AG gl.length cG, .slice AD DL.length cD, .slice Au DM[k].length cu, vf, .int .i64 k] wr fun e w' => e = .returned (.int .i64 (uRowN (fU s k p j) l l.length : Nat)) ∧ Ow true 3 Rp.int w' G vl (l.map (fU s k p j)) ∧ Chg G wr w') := Lib.hid (fun k p hk hkD j wr hC G F4 vl vf Au cu l hO hG hF hr hl hu => by
    have hth : thereB DL DM[k] (p.params ++ dstsS (p.code.take j)) k = thU s k p j := by rw [hDLH.out]; exact thereB_thU (hDM.out.2 k hkD) j
    have hGLo := hGL.out
    have hNVo := hNV.out
    have h := l11Use_calls (G := G) vl _ _ _ vf l gl DL DM[k] (p.params ++ dstsS (p.code.take j)) k wr hO (hRG6.move (hC.same (fun q hq h => hDisj.out _ h hq))) (hRD6.move (hC.same (fun q hq h => hDisj.out _ h hq))) hu hF (fun q hq => ⟨(hG q hq).1, (hG q hq).1, (hG q hq).1, (hG q hq).2⟩) (fun v hv => by have := hr v hv; omega) (by omega) hl
    rw [hth, ← hFU.out] at h
    exact h)
  have hDl : Hid (DM.length = s.parts.length) := Lib.hid (hDM.out.1.trans hgl0.out)
  have hFRs : Hid (∀ q, FR q → q < w6.heap.size) := Lib.hid (fun q hq => (hFR q hq).2)
  clear hrowM hRG6 hRD6 hFR hFU hGL hNV hDLH hDM
  have hN0 : Hid (uAllN (fU s) s.parts 0 = 0) := Lib.hid rfl
  go_loopw [9, 34] (fun nv x wr => ∃ k : Nat, k ≤ s.parts.length ∧ nv = .int .i64 (uAllN (fU s) s.parts k : Nat) ∧ x = .int .i64 k ∧ Ow true 67 partA wr FO (.slice (some ⟨g, 0, none⟩) s.parts.length c) (uAll (fU s) s.parts k) ∧ Chg FO w6 wr) (fun _ x _ => s.parts.length - (intOf x).toNat)
  case atStart => exact ⟨0, Nat.zero_le _, rfl, rfl, hSt, Chg.refl _ _⟩
  case round =>
    clear hSt
    obtain ⟨k, hk, rfl, rfl, HO, HC⟩ := hrel
    rename World => wo
    have ho := HC.blk o6 (fun h => by have := (hFOs.out _ h).2; omega)
    by_cases hkt : k < s.parts.length
    · obtain ⟨p, hpe⟩ : ∃ p, p = s.parts[k] := ⟨_, rfl⟩
      have hpk : s.parts[k]? = some p := by rw [hpe, List.getElem?_eq_getElem hkt]
      have hLk : (uAll (fU s) s.parts k)[k]? = some p := (uAll_get _ _ (Nat.le_refl k)).trans hpk
      have hgd : s.parts.getD k zPt = p := by rw [List.getD_eq_getElem?_getD, hpk]; rfl
      have HNx : Hid (uAll (fU s) s.parts (k + 1) = (uAll (fU s) s.parts k).set k (partUf (fU s k p) p) ∧ uAllN (fU s) s.parts (k + 1) = uAllN (fU s) s.parts k + partUc (fU s k p) p) := Lib.hid (by
        have e1 : uAll (fU s) s.parts (k + 1) = (uAll (fU s) s.parts k).set k (partUf (fU s k (s.parts.getD k zPt)) (s.parts.getD k zPt)) := rfl
        have e2 : uAllN (fU s) s.parts (k + 1) = uAllN (fU s) s.parts k + partUc (fU s k (s.parts.getD k zPt)) (s.parts.getD k zPt) := rfl
        rw [e1, e2, hgd]; exact ⟨rfl, rfl⟩)
      have hpm : p ∈ s.parts := List.mem_of_getElem? hpk
      have hpok := HPk.out p hpm
      have hAcK := HAc.out k hk
      have hUc := Lib.hid (partUc_le (fU s k p) hpok)
      have HXk := Lib.hid (HXs.out k p hpk)
      have HUk := Lib.hid (HUe.out p hpm)
      have HEk := Lib.hid (HEn.out k p hpk)
      have hkD : k < DM.length := by rw [hDl.out]; exact hkt
      have HUk2 := Lib.hid (HUse.out k p hpk hkD)
      have HCk2 := Lib.hid (HCk.out k hkD)
      obtain ⟨L, hL⟩ : ∃ L, L = uAll (fU s) s.parts k := ⟨_, rfl⟩
      obtain ⟨cnt0, hc0⟩ : ∃ cnt0, cnt0 = uAllN (fU s) s.parts k := ⟨_, rfl⟩
      have hkL : k < L.length := by rw [hL, uAll_len]; exact hkt
      rw [← hL] at HO hLk HNx
      rw [← hc0] at hAcK HNx ⊢
      obtain ⟨f, hf⟩ : ∃ f, f = fU s k p := ⟨_, rfl⟩
      rw [← hf] at HNx HUk2 hUc
      have hpl := hpok.2.1
      have hpp := hpok.1
      have hal := hpok.2.2.2.1
      have hal2 := Lib.hid hpok.2.2.2.2
      obtain ⟨row, hrow⟩ : ∃ row, row = DM[k] := ⟨_, rfl⟩
      rw [← hrow] at HUk2 HCk2
      have hw6o : Hid (w6.heap.size ≤ wo.heap.size) := Lib.hid HC.size
      have hgF : Hid (FO g) := Lib.hid (own_in HO (k := g) (.inl rfl))
      clear hpe hgd hpm hL hc0 hf hpok hpk hrow
      have hlo := Nat.lt_of_lt_of_le hobs HC.size
      obtain ⟨hk', hLk'⟩ := List.getElem?_eq_some_iff.1 hLk
      obtain ⟨vp, vc, vn, va, hpt, h1, h2, h3, h4⟩ := ow_read HO hkL
      rw [hLk'] at hpt h1 h2 h3 h4
      obtain ⟨A1, c1, rfl, _, _⟩ := id h1
      obtain ⟨A2, c2, rfl, _⟩ := id h2
      obtain ⟨A3, c3, rfl, _⟩ := id h3
      obtain ⟨A4, c4, rfl, _⟩ := id h4
      obtain ⟨q0, q1, q2, q3, q4, q5⟩ := hpt
      have k0 : (0 : Int) ≤ (k : Int) := Int.natCast_nonneg _
      have k1 : (k : Int) < (s.parts.length : Int) := by omega
      have k2 : (k : Int) < (DM.length : Int) := by omega
      have hbp := below_new (w := wo) (.cells #[.slice A1 p.params.length c1, .slice A2 p.code.length c2, .int .i64 p.go, .int .i64 p.test, .slice A3 p.next.length c3, .slice A4 p.args.length c4] 67)
      have hp1 := heap_alloc_new wo (.cells #[.slice A1 p.params.length c1, .slice A2 p.code.length c2, .int .i64 p.go, .int .i64 p.test, .slice A3 p.next.length c3, .slice A4 p.args.length c4] 67)
      obtain ⟨y1, _⟩ := cell_of_block ho
      have x10 : wo.cell? ⟨ob, 0, none⟩ = some (.slice (some ⟨g, 0, none⟩) s.parts.length c) := (y1 0).trans rfl
      go_upto_region 9 with fail
      clear q0 q2 q3 q4 x10 y1
      have hO1 := HO.below hbp
      have hC1 := HC.trans (Chg.of_below hbp)
      have q1' := Lib.hid (cell_below hbp q1)
      have hz1 : (wo.alloc (.cells #[.slice A1 p.params.length c1, .slice A2 p.code.length c2, .int .i64 p.go, .int .i64 p.test, .slice A3 p.next.length c3, .slice A4 p.args.length c4] 67)).heap.size = wo.heap.size + 1 := by simp
      have h1' := h1.below hbp
      clear q1 q5 h1 h2 h3 h4 HO HC hbp
      generalize wo.alloc (.cells #[.slice A1 p.params.length c1, .slice A2 p.code.length c2, .int .i64 p.go, .int .i64 p.test, .slice A3 p.next.length c3, .slice A4 p.args.length c4] 67) = W1 at *
      replace hz1 := Lib.hid hz1
      have hE1 := below_new (w := W1) (.cells #[] 3)
      have hEs1 := hE1.size
      have HE1 : Ow true 3 Rp.int (W1.alloc (.cells #[] 3)) (fun q => W1.heap.size ≤ q) (.slice (some ⟨W1.heap.size, 0, none⟩) 0 0) [] := (ow_empty (ap := true) (r := Rp.int) (heap_alloc_new W1 (.cells #[] 3))).mono (fun q hq => by have hq : q = W1.heap.size := hq; omega)
      have HX1 := h1'.below hE1
      obtain ⟨y1, _⟩ := cell_of_block (blk_below hp1 hE1)
      have y1 : (W1.alloc (.cells #[] 3)).cell? ⟨wo.heap.size, 0, none⟩ = some (.slice A1 p.params.length c1) := (y1 0).trans rfl
      go_upto_region 10 with (at_builtin; have _t := HE1; refine acc_appendf (r := Rp.int) (e := 3) (B := W1.heap.size) (w0 := W1) int_flat (by rfl) _ _ 59 (.int .i64 0) 8 (by rfl) Tryz.underlying59 infoInt rfl (by decide) (by omega) (.slice (some ⟨W1.heap.size, 0, none⟩) 0 0) (.slice A1 p.params.length c1) [] p.params (by rfl) (by rfl) true HE1 HX1 hE1 hEs1 (by simp; omega) ?_; intro vf w7 hOf hb7 hs7; clear HE1; rw [List.nil_append] at hOf; obtain ⟨Bf, df, rfl, _, _⟩ := hOf.form; have px := blk_below hp1 hb7; obtain ⟨za, zb⟩ := cell_of_block px; have zc1 : w7.cell? ⟨wo.heap.size, 1, none⟩ = some (.slice A2 p.code.length c2) := (za 1).trans rfl; clear za zb)
      have hO7 := hO1.below hb7
      have hC7 := hC1.trans (Chg.of_below hb7)
      have hX1 := Lib.hid (cell_below hb7 q1'.out)
      clear y1 h1' HX1 hp1 hE1 hEs1 hO1 hC1 q1' ho
      have hz1o : Hid (wo.heap.size < W1.heap.size) := Lib.hid (by rw [hz1.out]; omega)
      have hz17 := hb7.size
      have hSo : Ow true 67 partA w7 FO (.slice (some ⟨g, 0, none⟩) s.parts.length c) (L.set k { p with code := uCode f p.code 0 }) := by
        have e : ({ p with code := uCode f p.code 0 } : Pt) = p := rfl
        rw [e, set_same hLk]; exact hO7
      have hOf0 : Ow true 3 Rp.int w7 (fun q => W1.heap.size ≤ q) (.slice Bf p.params.length df) (p.params ++ dstsS (p.code.take 0)) := by simpa [dstsS] using hOf
      clear hO7 hOf hb7 HUse HCk
      go_wp2_with fail
      clear zc1
      go_loopw [9, 12, 46] (fun nv fv xv wr => ∃ (j : Nat) (sv : Value), sv = fv ∧ j ≤ p.code.length ∧ nv = .int .i64 ((cnt0 + uCodeN f p.code j : Nat) : Int) ∧ xv = .int .i64 j ∧ Ow true 3 Rp.int wr (fun q => W1.heap.size ≤ q) sv (p.params ++ dstsS (p.code.take j)) ∧ Ow true 67 partA wr FO (.slice (some ⟨g, 0, none⟩) s.parts.length c) (L.set k { p with code := uCode f p.code j }) ∧ Chg FO w6 wr ∧ wr.heap[wo.heap.size]? = some (.cells #[.slice A1 p.params.length c1, .slice A2 p.code.length c2, .int .i64 p.go, .int .i64 p.test, .slice A3 p.next.length c3, .slice A4 p.args.length c4] 67 (0, 0)) ∧ Hid (wr.cell? ⟨g, k * 6 + 1, none⟩ = some (.slice A2 p.code.length c2)) ∧ Hid (W1.heap.size ≤ wr.heap.size)) (fun _ _ xv _ => p.code.length - (intOf xv).toNat)
      case atStart => exact ⟨0, _, rfl, Nat.zero_le _, rfl, rfl, hOf0, hSo, hC7, px, hX1, Lib.hid hz17⟩
      case round =>
        clear hOf0 hSo hC7 px hX1 hz17
        obtain ⟨j, sv, rfl, hj, rfl, rfl, HF, HO, HC, HP, X1, HZ⟩ := hrel
        rename World => wi
        by_cases hjt : j < p.code.length
        · obtain ⟨x, hxe⟩ : ∃ x, x = p.code[j] := ⟨_, rfl⟩
          have hx : p.code[j]? = some x := by rw [hxe, List.getElem?_eq_getElem hjt]
          have hxm : x ∈ p.code := List.mem_of_getElem? hx
          have hcj := (hUc.out).2 j hj
          have HC0 := Lib.hid (fun ra rb h1 h2 => code_next (f := f) hx (ra := ra) (rb := rb) h1 h2)
          obtain ⟨cd, hcd⟩ : ∃ cd, cd = uCode f p.code j := ⟨_, rfl⟩
          obtain ⟨cn, hcn⟩ : ∃ cn, cn = cnt0 + uCodeN f p.code j := ⟨_, rfl⟩
          have hcdx : cd[j]? = some x := by rw [hcd]; exact (uCode_get f p.code (Nat.le_refl j)).trans hx
          have hcdl : cd.length = p.code.length := by rw [hcd]; exact uCode_len f p.code j
          have HC2 : Hid (∀ ra rb, fA x.op = ra → fB x.op = rb → uCode f p.code (j + 1) = cd.set j { x with a := cond ra (f j x.a) x.a, b := cond rb (f j x.b) x.b } ∧ cnt0 + uCodeN f p.code (j + 1) = cn + (cond ra (cntV (f j) x.a) 0 + cond rb (cntV (f j) x.b) 0)) := Lib.hid (fun ra rb h1 h2 => by
            obtain ⟨e1, e2⟩ := HC0.out ra rb h1 h2
            rw [e1, e2, hcd, hcn]; exact ⟨rfl, by omega⟩)
          have hDs := Lib.hid (dstsS_take hjt)
          rw [← hxe] at hDs
          rw [← hcd] at HO
          rw [← hcn]
          have hcn2 : cn ≤ 50000 := by omega
          have hIn := Lib.hid (HXk.out x hxm)
          have hUI := HUk.out x hxm
          obtain ⟨far, hfar⟩ : ∃ far, far = p.params ++ dstsS (p.code.take j) := ⟨_, rfl⟩
          have hfl : far.length ≤ 400 := by
            have h1 := dstsS_len (p.code.take j)
            rw [List.length_take] at h1
            rw [hfar, List.length_append]; omega
          have hDs2 : Hid (p.params ++ dstsS (p.code.take (j + 1)) = if setsS x then far ++ [x.dst] else far) := Lib.hid (by rw [hDs.out, hfar]; split <;> simp)
          have HUj : Hid (∀ (wr : World) (hC : Chg FO w6 wr) (G F4 : Nat → Prop) (vl vf : Value) (Au : Option Addr) (cu : Nat) (l : List Int) (hO : Ow true 3 Rp.int wr G vl l) (hG : ∀ q, G q → ¬ FR q ∧ ¬ F4 q) (hF : Rp.Rd Rp.int wr F4 vf far) (hr : ∀ v ∈ l, 0 ≤ v ∧ v < s.values) (hl : l.length ≤ 1000) (hu : Rp.Rd Rp.int wr FR (.slice Au row.length cu) row),
              Calls Tryz.prog 56 #[vl, .slice AG gl.length cG, .slice AD DL.length cD, .slice Au row.length cu, vf, .int .i64 k] wr fun e w' => e = .returned (.int .i64 (uRowN (f j) l l.length : Nat)) ∧ Ow true 3 Rp.int w' G vl (l.map (f j)) ∧ Chg G wr w') := Lib.hid (by rw [hfar]; exact HUk2.out j)
          rw [← hfar] at HF
          clear hxe hxm HC0 hcd hcn hcj hDs hfar
          have hq : (L.set k { p with code := cd })[k]? = some { p with code := cd } := get_set hkL
          obtain ⟨vc, G, xc, hOc, hG, hCl⟩ := ow_codeInQ HO hq
          have hvc := Option.some.inj (X1.out.symm.trans xc)
          subst hvc
          have hOc : Ow true 71 flat wi G (.slice A2 p.code.length c2) cd := hOc
          obtain ⟨gc, cc, he, _, _⟩ := Ow.some_form hOc (by omega)
          injection he with he1 hlen he3
          subst he1
          subst he3
          clear hlen
          have hgc := own_in hOc (k := gc) (.inl rfl)
          have hgcF := hG gc hgc
          have hjc : j < cd.length := by omega
          obtain ⟨fl, ffr, _, _⟩ := ow_flSet hOc hjc
          have hcx : cd[j] = x := by rw [List.getElem?_eq_getElem hjc] at hcdx; exact Option.some.inj hcdx
          rw [hcx] at fl
          obtain ⟨e0, e1, e2, e3, e4, e5⟩ := fl
          have j0 : (0 : Int) ≤ (j : Int) := Int.natCast_nonneg _
          have j1 : (j : Int) < (p.code.length : Int) := by omega
          have hbx := below_new (w := wi) (.cells #[.int .i64 x.op, .int .i64 x.dO, .int .i64 x.dst, .int .i64 x.a, .int .i64 x.b, .int .i64 x.n] 71)
          have bx := heap_alloc_new wi (.cells #[.int .i64 x.op, .int .i64 x.dO, .int .i64 x.dst, .int .i64 x.a, .int .i64 x.b, .int .i64 x.n] 71)
          have hzx : (wi.alloc (.cells #[.int .i64 x.op, .int .i64 x.dO, .int .i64 x.dst, .int .i64 x.a, .int .i64 x.b, .int .i64 x.n] 71)).heap.size = wi.heap.size + 1 := by simp
          obtain ⟨y1, _⟩ := cell_of_block bx
          have g0 := (y1 0).trans (show (#[Value.int .i64 x.op, .int .i64 x.dO, .int .i64 x.dst, .int .i64 x.a, .int .i64 x.b, .int .i64 x.n] : Array Value)[0]? = some (.int .i64 x.op) from rfl)
          have g1 := (y1 1).trans (show (#[Value.int .i64 x.op, .int .i64 x.dO, .int .i64 x.dst, .int .i64 x.a, .int .i64 x.b, .int .i64 x.n] : Array Value)[1]? = some (.int .i64 x.dO) from rfl)
          have g2 := (y1 2).trans (show (#[Value.int .i64 x.op, .int .i64 x.dO, .int .i64 x.dst, .int .i64 x.a, .int .i64 x.b, .int .i64 x.n] : Array Value)[2]? = some (.int .i64 x.dst) from rfl)
          have g3 := (y1 3).trans (show (#[Value.int .i64 x.op, .int .i64 x.dO, .int .i64 x.dst, .int .i64 x.a, .int .i64 x.b, .int .i64 x.n] : Array Value)[3]? = some (.int .i64 x.a) from rfl)
          have g4 := (y1 4).trans (show (#[Value.int .i64 x.op, .int .i64 x.dO, .int .i64 x.dst, .int .i64 x.a, .int .i64 x.b, .int .i64 x.n] : Array Value)[4]? = some (.int .i64 x.b) from rfl)
          have g5 := (y1 5).trans (show (#[Value.int .i64 x.op, .int .i64 x.dO, .int .i64 x.dst, .int .i64 x.a, .int .i64 x.b, .int .i64 x.n] : Array Value)[5]? = some (.int .i64 x.n) from rfl)
          obtain ⟨sA, sc, rfl, _, _⟩ := HF.form
          have HLu := Lib.hid (fun W => l9Uses_calls x W)
          unfold flV at HLu
          have hszi := HC.size
          obtain ⟨z1, _⟩ := cell_of_block HP
          clear y1 hcdx hcx xc
          replace hcdl := Lib.hid hcdl
          replace hzx := Lib.hid hzx
          go_wp2_with fail
          refine (HLu.out _).mono ?_
          rintro e w8 ⟨v8, rfl, hO8, hb8⟩
          clear HLu g0 g1 g2 g3 g4 g5 z1
          generalize wi.alloc (.cells #[.int .i64 x.op, .int .i64 x.dO, .int .i64 x.dst, .int .i64 x.a, .int .i64 x.b, .int .i64 x.n] 71) = W2 at *
          have hbW := below_then hbx hb8
          have hC8 := HC.trans (Chg.of_below hbW)
          obtain ⟨Au, cu, xu, hu⟩ := HCk2.out w8 hC8
          have hFb := (HF.bound.below hbW).rd
          obtain ⟨ra, hra⟩ : ∃ ra, ra = fA x.op := ⟨_, rfl⟩
          obtain ⟨rb, hrb⟩ : ∃ rb, rb = fB x.op := ⟨_, rfl⟩
          have hUS : usesS x = (if ra then [x.a] else []) ++ (if rb then [x.b] else []) := by rw [← hUI, hra, hrb]; rfl
          have HC3 := Lib.hid (HC2.out ra rb hra.symm hrb.symm)
          have hBA : Hid (rb = true → ra = true) := Lib.hid (fun h => by rw [hra]; exact fB_fA (by rw [← hrb]; exact h))
          have hIn2 : Hid (∀ v ∈ usesS x, 0 ≤ v ∧ v < s.values) := Lib.hid (fun v hv => hIn.out v (by rw [hUI]; exact hv))
          clear hra hrb HC2 hIn hUI
          have k2' : (k : Int) < (DM.length : Int) := k2
          cases ra
          · cases rb
            · have hUS : usesS x = [] := hUS
              rw [hUS] at hO8 hIn2
              obtain ⟨A8, c8, rfl, _, _⟩ := hO8.form
              have HCl := Lib.hid (HUj.out w8 hC8 (fun q => W2.heap.size ≤ q) _ _ _ _ _ [] hO8 (fun q hq => by
                have hs1 := hbx.size
                exact ⟨fun h => by have h2 := hFRs.out q h; have h3 := hszi; have hq : W2.heap.size ≤ q := hq; omega, fun h => by have h2 := h.2; have hq : W2.heap.size ≤ q := hq; omega⟩) hFb hIn2.out (by simp) hu)
              clear hUS HUj hO8 hu
              go_wp2_with fail
              refine HCl.out.mono ?_
              rintro e w9 ⟨rfl, hO9, hC9⟩
              clear HCl xu
              have hb9 : Below W2.heap.size W2 w9 := hC9.to_below hb8 hb8.size (fun q h => h)
              have hb9i := below_then hbx hb9
              have bx9 := blk_below bx hb9
              obtain ⟨y1, y2⟩ := cell_of_block bx9
              have gx0 : w9.cell? ⟨wi.heap.size, 0, none⟩ = some (.int .i64 x.op) := (y1 0).trans rfl
              have gx1 : w9.cell? ⟨wi.heap.size, 1, none⟩ = some (.int .i64 x.dO) := (y1 1).trans rfl
              have gx2 : w9.cell? ⟨wi.heap.size, 2, none⟩ = some (.int .i64 x.dst) := (y1 2).trans rfl
              have gx3 : w9.cell? ⟨wi.heap.size, 3, none⟩ = some (.int .i64 x.a) := (y1 3).trans rfl
              have gx4 : w9.cell? ⟨wi.heap.size, 4, none⟩ = some (.int .i64 x.b) := (y1 4).trans rfl
              have gx5 : w9.cell? ⟨wi.heap.size, 5, none⟩ = some (.int .i64 x.n) := (y1 5).trans rfl
              have gf3 := y2 3
              have gf4 := y2 4
              clear y1 y2
              have bxf : w9.heap[wi.heap.size]? = some (.cells #[.int .i64 x.op, .int .i64 x.dO, .int .i64 x.dst, .int .i64 x.a, .int .i64 x.b, .int .i64 x.n] 71 (0, 0)) := bx9
              have hSx : Chg (fun q => q = wi.heap.size) w9 w9 := Chg.refl _ _
              have hb10 : Below wi.heap.size wi w9 := hSx.to_below hb9i hb9i.size (fun q hq => by have hq : q = wi.heap.size := hq; omega)
              have hbd := hb10
              have hmk : Hid ({ x with a := cond false (f j x.a) x.a, b := cond false (f j x.b) x.b } = (⟨x.op, x.dO, x.dst, x.a, x.b, x.n⟩ : Fl)) := Lib.hid rfl
              have hcnt : Hid (cnt0 + uCodeN f p.code (j + 1) = cn + uRowN (f j) [] 0) := Lib.hid (by rw [HC3.out.2]; unfold uRowN; simp [cond])
              have hOcd := hOc.below hbd
              have hput := ow_flPut hOcd hjc ⟨x.op, x.dO, x.dst, x.a, x.b, x.n⟩
              have hpC := putRow_chg gc [.int .i64 x.op, .int .i64 x.dO, .int .i64 x.dst, .int .i64 (x.a), .int .i64 (x.b), .int .i64 x.n] w9 (j * 6)
              have hOn := hCl _ _ ((Chg.of_below hbd).trans (hpC.mono (fun q hq => by have hq : q = gc := hq; rw [hq]; exact hgc))) hput
              have hCn := (HC.trans (Chg.of_below hbd)).trans (hpC.mono (fun q hq => by have hq : q = gc := hq; rw [hq]; exact hgcF.1))
              have hgcl := (hFOs.out gc hgcF.1).2
              have hoC := hCn.blk o6 (fun h => by have := (hFOs.out _ h).2; omega)
              have hPn := hpC.blk (blk_below HP hbd) (fun h => by have h : wo.heap.size = gc := h; have := hgcF.2.2; omega)
              have hXn : Hid ((putRow w9 gc (j * 6) [.int .i64 x.op, .int .i64 x.dO, .int .i64 x.dst, .int .i64 (x.a), .int .i64 (x.b), .int .i64 x.n]).cell? ⟨g, k * 6 + 1, none⟩ = some (.slice (some ⟨gc, 0, none⟩) p.code.length c2)) := Lib.hid (hpC.cell (cell_below hbd X1.out) (fun h => hgcF.2.1 (by have h : g = gc := h; exact h.symm)))
              have hFn := (HF.below hbd).move (hpC.same (fun q hq h => by have h : q = gc := h; have hq : W1.heap.size ≤ q := hq; have := hz1o.out; omega))
              have hbxn := hpC.blk bxf (fun h => by have h : wi.heap.size = gc := h; have := hgcF.2.2; omega)
              have hZn : Hid (W1.heap.size ≤ (putRow w9 gc (j * 6) [.int .i64 x.op, .int .i64 x.dO, .int .i64 x.dst, .int .i64 (x.a), .int .i64 (x.b), .int .i64 x.n]).heap.size) := Lib.hid (by have h1 := HZ.out; have h2 := hbd.size; have h3 := hpC.size; omega)
              have hOnx : Hid (Ow true 67 partA (putRow w9 gc (j * 6) [.int .i64 x.op, .int .i64 x.dO, .int .i64 x.dst, .int .i64 (x.a), .int .i64 (x.b), .int .i64 x.n]) FO (.slice (some ⟨g, 0, none⟩) s.parts.length c) (L.set k { p with code := uCode f p.code (j + 1) })) := Lib.hid (by
                rw [HC3.out.1, hmk.out]
                have h := hOn
                rw [List.set_set] at h
                exact h)
              obtain ⟨y1, _⟩ := cell_of_block (blk_below (HC.blk o6 (fun h => by have := (hFOs.out _ h).2; omega)) hb10)
              have xo10 : w9.cell? ⟨ob, 0, none⟩ = some (.slice (some ⟨g, 0, none⟩) s.parts.length c) := (y1 0).trans rfl
              obtain ⟨y1, _⟩ := cell_of_block bxf
              have hx0 : w9.cell? ⟨wi.heap.size, 0, none⟩ = some (.int .i64 x.op) := (y1 0).trans rfl
              have hx1 : w9.cell? ⟨wi.heap.size, 1, none⟩ = some (.int .i64 x.dO) := (y1 1).trans rfl
              have hx2 : w9.cell? ⟨wi.heap.size, 2, none⟩ = some (.int .i64 x.dst) := (y1 2).trans rfl
              have hx3 : w9.cell? ⟨wi.heap.size, 3, none⟩ = some (.int .i64 x.a) := (y1 3).trans rfl
              have hx4 : w9.cell? ⟨wi.heap.size, 4, none⟩ = some (.int .i64 x.b) := (y1 4).trans rfl
              have hx5 : w9.cell? ⟨wi.heap.size, 5, none⟩ = some (.int .i64 x.n) := (y1 5).trans rfl
              have X1c := cell_below hb10 X1.out
              obtain ⟨gq, gqf, _, _⟩ := ow_flSet (hOc.below hb10) hjc
              obtain ⟨d0, d1, d2, d3, d4, d5⟩ := gq
              have df_ := gqf
              obtain ⟨y1, _⟩ := cell_of_block hbxn
              have hy0 : (putRow w9 gc (j * 6) [.int .i64 x.op, .int .i64 x.dO, .int .i64 x.dst, .int .i64 (x.a), .int .i64 (x.b), .int .i64 x.n]).cell? ⟨wi.heap.size, 0, none⟩ = some (.int .i64 x.op) := (y1 0).trans rfl
              have hy2 : (putRow w9 gc (j * 6) [.int .i64 x.op, .int .i64 x.dO, .int .i64 x.dst, .int .i64 (x.a), .int .i64 (x.b), .int .i64 x.n]).cell? ⟨wi.heap.size, 2, none⟩ = some (.int .i64 x.dst) := (y1 2).trans rfl
              have hY := Lib.hid (And.intro hy0 hy2)
              have HLs := Lib.hid (fun W => l9Sets_calls x.op W)
              have hrn := uRowN_le (f j) [] 0
              have hrn2 : uRowN (f j) [] 0 ≤ 2 := Nat.le_trans hrn (by simp)
              have hsx : Hid (setsS x = inB x.op 1 4) := Lib.hid rfl
              obtain ⟨rsN, hrsN⟩ : ∃ rsN, rsN = uRowN (f j) [] 0 := ⟨_, rfl⟩
              have hPE : putRow w9 gc (j * 6) [.int .i64 x.op, .int .i64 x.dO, .int .i64 x.dst, .int .i64 (x.a), .int .i64 (x.b), .int .i64 x.n] = ((((((w9.setCell ⟨gc, j * 6, none⟩ (.int .i64 x.op)).setCell ⟨gc, j * 6 + 1, none⟩ (.int .i64 x.dO)).setCell ⟨gc, j * 6 + 2, none⟩ (.int .i64 x.dst)).setCell ⟨gc, j * 6 + 3, none⟩ (.int .i64 x.a)).setCell ⟨gc, j * 6 + 4, none⟩ (.int .i64 x.b)).setCell ⟨gc, j * 6 + 5, none⟩ (.int .i64 x.n)) := rfl
              rw [hPE] at hOnx hCn hPn hXn hFn hY hZn
              clear y1 hOn hCl hOc hOcd hput hpC hbxn hy0 hy2 bxf hbd hO9 hC9 HC HP X1 hG hPE
              go_upto_region 19 with fail
              refine anyT_region [(9, fun w' => w'.cell? ⟨ob, 0, none⟩ = some (.slice (some ⟨g, 0, none⟩) s.parts.length c) ∧ w'.cell? ⟨g, k * 6 + 1, none⟩ = some (.slice (some ⟨gc, 0, none⟩) p.code.length c2) ∧ w'.cell? ⟨wi.heap.size, 0, none⟩ = some (.int .i64 x.op) ∧ w'.cell? ⟨wi.heap.size, 1, none⟩ = some (.int .i64 x.dO) ∧ w'.cell? ⟨wi.heap.size, 2, none⟩ = some (.int .i64 x.dst) ∧ w'.cell? ⟨wi.heap.size, 3, none⟩ = some (.int .i64 x.a) ∧ w'.cell? ⟨wi.heap.size, 4, none⟩ = some (.int .i64 x.b) ∧ w'.cell? ⟨wi.heap.size, 5, none⟩ = some (.int .i64 x.n))] (by kernel_rfl) ⟨fun _ => ⟨xo10, X1c, hx0, hx1, hx2, hx3, hx4, hx5⟩, trivial⟩ (fun hT => ?_)
              refine anyT_pure (i := 0) (v := ?_) rfl (by kernel_rfl) (by kernel_rfl) (by kernel_rfl) (fun _ _ _ h => h) (Or.inl ⟨by rfl, ?_⟩) (by assumption) ?_
              rotate_left 1
              focus ((intro w hSw; (try dsimp only at hSw); go_simp); try with_reducible rfl)
              try simp only [Act.put, Array.getInternal_eq_getElem, List.getElem_toArray, List.getElem_cons_zero, List.getElem_cons_succ, List.setIfInBounds_toArray, List.set_cons_zero, List.set_cons_succ]
              refine anyT_pure (i := 2) (v := ?_) rfl (by kernel_rfl) (by kernel_rfl) (by kernel_rfl) (fun _ _ _ h => h) (Or.inl ⟨by rfl, ?_⟩) (by assumption) ?_
              rotate_left 1
              focus ((intro w hSw; (try dsimp only at hSw); go_simp); try with_reducible rfl)
              try simp only [Act.put, Array.getInternal_eq_getElem, List.getElem_toArray, List.getElem_cons_zero, List.getElem_cons_succ, List.setIfInBounds_toArray, List.set_cons_zero, List.set_cons_succ]
              refine anyT_pure (i := 6) (v := ?_) rfl (by kernel_rfl) (by kernel_rfl) (by kernel_rfl) (fun _ _ _ h => h) (Or.inl ⟨by rfl, ?_⟩) (by assumption) ?_
              rotate_left 1
              focus ((intro w hSw; (try dsimp only at hSw); go_simp); try with_reducible rfl)
              try simp only [Act.put, Array.getInternal_eq_getElem, List.getElem_toArray, List.getElem_cons_zero, List.getElem_cons_succ, List.setIfInBounds_toArray, List.set_cons_zero, List.set_cons_succ]
              refine anyT_take (k := 0) (i := 1) (v := ?_) rfl rfl (by kernel_rfl) (by kernel_rfl) (by kernel_rfl) (fun _ _ _ h => h) (Or.inl ⟨by rfl, ?_⟩) (by assumption) ?_
              rotate_left 1
              focus ((intro w hSw; (try dsimp only at hSw); go_simp); try with_reducible rfl)
              try simp only [Act.put, Array.getInternal_eq_getElem, List.getElem_toArray, List.getElem_cons_zero, List.getElem_cons_succ, List.setIfInBounds_toArray, List.set_cons_zero, List.set_cons_succ]
              refine anyT_take (k := 0) (i := 7) (v := ?_) rfl rfl (by kernel_rfl) (by kernel_rfl) (by kernel_rfl) (fun _ _ _ h => h) (Or.inl ⟨by rfl, ?_⟩) (by assumption) ?_
              rotate_left 1
              focus ((intro w hSw; (try dsimp only at hSw); go_simp); try with_reducible rfl)
              try simp only [Act.put, Array.getInternal_eq_getElem, List.getElem_toArray, List.getElem_cons_zero, List.getElem_cons_succ, List.setIfInBounds_toArray, List.set_cons_zero, List.set_cons_succ]
              refine anyT_pure (i := 3) (v := ?_) rfl (by kernel_rfl) (by kernel_rfl) (by kernel_rfl) (fun _ _ _ h => h) (Or.inl ⟨by rfl, ?_⟩) (by assumption) ?_
              rotate_left 1
              focus ((intro w hSw; (try dsimp only at hSw); go_simp); try with_reducible rfl)
              try simp only [Act.put, Array.getInternal_eq_getElem, List.getElem_toArray, List.getElem_cons_zero, List.getElem_cons_succ, List.setIfInBounds_toArray, List.set_cons_zero, List.set_cons_succ]
              refine anyT_pure (i := 4) (v := ?_) rfl (by kernel_rfl) (by kernel_rfl) (by kernel_rfl) (fun _ _ _ h => h) (Or.inl ⟨by rfl, ?_⟩) (by assumption) ?_
              rotate_left 1
              focus ((intro w hSw; (try dsimp only at hSw); go_simp); try with_reducible rfl)
              try simp only [Act.put, Array.getInternal_eq_getElem, List.getElem_toArray, List.getElem_cons_zero, List.getElem_cons_succ, List.setIfInBounds_toArray, List.set_cons_zero, List.set_cons_succ]
              refine anyT_take (k := 0) (i := 5) (v := ?_) rfl rfl (by kernel_rfl) (by kernel_rfl) (by kernel_rfl) (fun _ _ _ h => h) (Or.inl ⟨by rfl, ?_⟩) (by assumption) ?_
              rotate_left 1
              focus ((intro w hSw; (try dsimp only at hSw); go_simp); try with_reducible rfl)
              try simp only [Act.put, Array.getInternal_eq_getElem, List.getElem_toArray, List.getElem_cons_zero, List.getElem_cons_succ, List.setIfInBounds_toArray, List.set_cons_zero, List.set_cons_succ]
              refine anyT_pure (i := 8) (v := ?_) rfl (by kernel_rfl) (by kernel_rfl) (by kernel_rfl) (fun _ _ _ h => h) (Or.inl ⟨by rfl, ?_⟩) (by assumption) ?_
              rotate_left 1
              focus ((intro w hSw; (try dsimp only at hSw); go_simp); try with_reducible rfl)
              try simp only [Act.put, Array.getInternal_eq_getElem, List.getElem_toArray, List.getElem_cons_zero, List.getElem_cons_succ, List.setIfInBounds_toArray, List.set_cons_zero, List.set_cons_succ]
              refine anyT_ready (rs := [9]) (by kernel_rfl) (by simp) ?_
              refine AllT.cons rfl (fun K1 hK1 => ?_) AllT.nil
              try simp only [Array.getInternal_eq_getElem, List.getElem_toArray, List.getElem_cons_zero, List.getElem_cons_succ]
              go_simp
              refine hK1.out _ _ ⟨fun h => absurd h (by simp), trivial⟩ (fun hT => ?_)
              clear hK1 K1
              try simp only [Act.put, Array.getInternal_eq_getElem, List.getElem_toArray, List.getElem_cons_zero, List.getElem_cons_succ, List.setIfInBounds_toArray, List.set_cons_zero, List.set_cons_succ]
              refine anyT_done (by kernel_rfl) ?_ _
              clear xo10 X1c hx0 hx1 hx2 hx3 hx4 hx5 d0 d1 d2 d3 d4 d5 df_
              generalize ((((((w9.setCell ⟨gc, j * 6, none⟩ (.int .i64 x.op)).setCell ⟨gc, j * 6 + 1, none⟩ (.int .i64 x.dO)).setCell ⟨gc, j * 6 + 2, none⟩ (.int .i64 x.dst)).setCell ⟨gc, j * 6 + 3, none⟩ (.int .i64 x.a)).setCell ⟨gc, j * 6 + 4, none⟩ (.int .i64 x.b)).setCell ⟨gc, j * 6 + 5, none⟩ (.int .i64 x.n)) = W4x at *
              have hdW : Below W4x.heap.size W4x W4x.drew := below_drew (Below.refl _ _)
              have hOnx := hOnx.out.below hdW
              replace hCn := hCn.trans (Chg.of_below hdW)
              replace hPn := blk_below hPn hdW
              replace hXn := Lib.hid (cell_below hdW hXn.out)
              replace hFn := hFn.below hdW
              obtain ⟨hy0, hy2⟩ := hY.out
              replace hy0 := cell_below hdW hy0
              replace hy2 := cell_below hdW hy2
              replace hZn : Hid (W1.heap.size ≤ W4x.drew.heap.size) := Lib.hid hZn.out
              clear hY hdW
              generalize W4x.drew = W5 at *
              go_wp2_with fail
              refine (HLs.out _).mono ?_
              rintro e w' ⟨rfl, rfl⟩
              clear HLs
              obtain ⟨rs, hrs⟩ : ∃ rs, rs = inB x.op 1 4 := ⟨_, rfl⟩
              have hDs3 : Hid (p.params ++ dstsS (p.code.take (j + 1)) = if rs then far ++ [x.dst] else far) := Lib.hid (by rw [hDs2.out, hrs]; rfl)
              rw [← hrs]
              clear hrs hDs2
              cases rs
              · have hFe : Ow true 3 Rp.int W5 (fun q => W1.heap.size ≤ q) (.slice sA far.length sc) (p.params ++ dstsS (p.code.take (j + 1))) := by
                  have e : p.params ++ dstsS (p.code.take (j + 1)) = far := hDs3.out
                  rw [e]; exact hFn
                go_wp2_with fail
                go_roundw
                case rel => exact ⟨j + 1, _, rfl, by omega, by rw [hcnt.out]; push_cast; rfl, by go_num, hFe, hOnx, hCn, hPn, hXn, hZn⟩
                case measure => simp [intOf]; omega
              · have hse : p.params ++ dstsS (p.code.take (j + 1)) = far ++ [x.dst] := hDs3.out
                replace hse := Lib.hid hse
                go_wp2_with (at_builtin; (refine app_int (by rfl) _ _ (by rfl) (.slice sA far.length sc) far x.dst W5.heap.size rfl (by rfl) (by rfl) hFn (by omega) ?_; intro A' c' w3 HO3 hg3))
                have hC3 := Chg.of_grown hg3
                have hnG : ∀ q, some q = (Value.slice sA far.length sc).ownBlock → W1.heap.size ≤ q := fun q hq => (hFn.lt_size hq.symm).1
                have hsep : ∀ q, FO q → ¬ some q = (Value.slice sA far.length sc).ownBlock := fun q hq h => by have h1 := hnG q h; have h2 := (hFOs.out q hq).2; have := hz1o.out; omega
                have hFe : Ow true 3 Rp.int w3 (fun q => W1.heap.size ≤ q) (.slice A' (far.length + 1) c') (p.params ++ dstsS (p.code.take (j + 1))) := by
                  rw [hse.out]; exact HO3.mono (fun q hq => hq.elim id (fun h => by have h1 := hZn.out; omega))
                have hOe := hOnx.move (hC3.same (fun q hq h => hsep q hq h))
                have hCe : Chg FO w6 w3 := hCn.trans2 hC3 (fun q hq => .inr (by have h1 := hnG q hq; have h2 := hz1o.out; have h3 := hw6o.out; omega))
                have hPe := hC3.blk hPn (fun h => by have h1 := hnG _ h; have h2 := hz1o.out; omega)
                have hXe : Hid (w3.cell? ⟨g, k * 6 + 1, none⟩ = some (.slice (some ⟨gc, 0, none⟩) p.code.length c2)) := Lib.hid (hC3.cell hXn.out (fun h => hsep g hgF.out h))
                have hZe : Hid (W1.heap.size ≤ w3.heap.size) := Lib.hid (Nat.le_trans hZn.out hC3.size)
                go_wp2_with fail
                go_roundw
                case rel => exact ⟨j + 1, _, rfl, by omega, by rw [hcnt.out]; push_cast; rfl, by go_num, hFe, hOe, hCe, hPe, hXe, hZe⟩
                case measure => simp [intOf]; omega
            · exact absurd (hBA.out (by first | rfl | trivial)) (by simp)
          · cases rb
            · have hUS : usesS x = [x.a] := hUS
              rw [hUS] at hO8 hIn2
              obtain ⟨A8, c8, rfl, _, _⟩ := hO8.form
              have HCl := Lib.hid (HUj.out w8 hC8 (fun q => W2.heap.size ≤ q) _ _ _ _ _ [x.a] hO8 (fun q hq => by
                have hs1 := hbx.size
                exact ⟨fun h => by have h2 := hFRs.out q h; have h3 := hszi; have hq : W2.heap.size ≤ q := hq; omega, fun h => by have h2 := h.2; have hq : W2.heap.size ≤ q := hq; omega⟩) hFb hIn2.out (by simp) hu)
              clear hUS HUj hO8 hu
              go_wp2_with fail
              refine HCl.out.mono ?_
              rintro e w9 ⟨rfl, hO9, hC9⟩
              clear HCl xu
              have hb9 : Below W2.heap.size W2 w9 := hC9.to_below hb8 hb8.size (fun q h => h)
              have hb9i := below_then hbx hb9
              have bx9 := blk_below bx hb9
              obtain ⟨y1, y2⟩ := cell_of_block bx9
              have gx0 : w9.cell? ⟨wi.heap.size, 0, none⟩ = some (.int .i64 x.op) := (y1 0).trans rfl
              have gx1 : w9.cell? ⟨wi.heap.size, 1, none⟩ = some (.int .i64 x.dO) := (y1 1).trans rfl
              have gx2 : w9.cell? ⟨wi.heap.size, 2, none⟩ = some (.int .i64 x.dst) := (y1 2).trans rfl
              have gx3 : w9.cell? ⟨wi.heap.size, 3, none⟩ = some (.int .i64 x.a) := (y1 3).trans rfl
              have gx4 : w9.cell? ⟨wi.heap.size, 4, none⟩ = some (.int .i64 x.b) := (y1 4).trans rfl
              have gx5 : w9.cell? ⟨wi.heap.size, 5, none⟩ = some (.int .i64 x.n) := (y1 5).trans rfl
              have gf3 := y2 3
              have gf4 := y2 4
              clear y1 y2
              obtain ⟨g8, c8', he, hg8, _⟩ := Ow.some_form hO9 (by simp)
              injection he with he1 hlen he3
              subst he1
              subst he3
              clear hlen
              obtain ⟨xa8, _⟩ := hO9.int_at (k := 0) (by simp)
              have hg8 : W2.heap.size ≤ g8 := hg8
              have hne8 : ¬ g8 = wi.heap.size := by have := hzx.out; omega
              obtain ⟨fa, hfa⟩ : ∃ fa, fa = f j x.a := ⟨_, rfl⟩
              replace xa8 : w9.cell? ⟨g8, 0, none⟩ = some (.int .i64 fa) := by rw [hfa]; exact xa8
              have hfaH := Lib.hid hfa
              clear hfa
              have hS9 := Chg.set (A := fun q => q = wi.heap.size) (w := w9) (b := wi.heap.size) (o := 3) (u := .int .i64 fa) rfl
              have bx10 := blk_put bx9 3 (.int .i64 fa)
              have bxf : (w9.setCell ⟨wi.heap.size, 3, none⟩ (.int .i64 fa)).heap[wi.heap.size]? = some (.cells #[.int .i64 x.op, .int .i64 x.dO, .int .i64 x.dst, .int .i64 fa, .int .i64 x.b, .int .i64 x.n] 71 (0, 0)) := bx10
              have hSx : Chg (fun q => q = wi.heap.size) w9 (w9.setCell ⟨wi.heap.size, 3, none⟩ (.int .i64 fa)) := hS9
              have hb10 : Below wi.heap.size wi (w9.setCell ⟨wi.heap.size, 3, none⟩ (.int .i64 fa)) := hSx.to_below hb9i hb9i.size (fun q hq => by have hq : q = wi.heap.size := hq; omega)
              have hbd := hb10
              have hmk : Hid ({ x with a := cond true (f j x.a) x.a, b := cond false (f j x.b) x.b } = (⟨x.op, x.dO, x.dst, fa, x.b, x.n⟩ : Fl)) := Lib.hid (by rw [hfaH.out]; rfl)
              have hcnt : Hid (cnt0 + uCodeN f p.code (j + 1) = cn + uRowN (f j) [x.a] 1) := Lib.hid (by rw [HC3.out.2]; unfold uRowN; simp [cond])
              have hOcd := hOc.below hbd
              have hput := ow_flPut hOcd hjc ⟨x.op, x.dO, x.dst, fa, x.b, x.n⟩
              have hpC := putRow_chg gc [.int .i64 x.op, .int .i64 x.dO, .int .i64 x.dst, .int .i64 (fa), .int .i64 (x.b), .int .i64 x.n] (w9.setCell ⟨wi.heap.size, 3, none⟩ (.int .i64 fa)) (j * 6)
              have hOn := hCl _ _ ((Chg.of_below hbd).trans (hpC.mono (fun q hq => by have hq : q = gc := hq; rw [hq]; exact hgc))) hput
              have hCn := (HC.trans (Chg.of_below hbd)).trans (hpC.mono (fun q hq => by have hq : q = gc := hq; rw [hq]; exact hgcF.1))
              have hgcl := (hFOs.out gc hgcF.1).2
              have hoC := hCn.blk o6 (fun h => by have := (hFOs.out _ h).2; omega)
              have hPn := hpC.blk (blk_below HP hbd) (fun h => by have h : wo.heap.size = gc := h; have := hgcF.2.2; omega)
              have hXn : Hid ((putRow (w9.setCell ⟨wi.heap.size, 3, none⟩ (.int .i64 fa)) gc (j * 6) [.int .i64 x.op, .int .i64 x.dO, .int .i64 x.dst, .int .i64 (fa), .int .i64 (x.b), .int .i64 x.n]).cell? ⟨g, k * 6 + 1, none⟩ = some (.slice (some ⟨gc, 0, none⟩) p.code.length c2)) := Lib.hid (hpC.cell (cell_below hbd X1.out) (fun h => hgcF.2.1 (by have h : g = gc := h; exact h.symm)))
              have hFn := (HF.below hbd).move (hpC.same (fun q hq h => by have h : q = gc := h; have hq : W1.heap.size ≤ q := hq; have := hz1o.out; omega))
              have hbxn := hpC.blk bxf (fun h => by have h : wi.heap.size = gc := h; have := hgcF.2.2; omega)
              have hZn : Hid (W1.heap.size ≤ (putRow (w9.setCell ⟨wi.heap.size, 3, none⟩ (.int .i64 fa)) gc (j * 6) [.int .i64 x.op, .int .i64 x.dO, .int .i64 x.dst, .int .i64 (fa), .int .i64 (x.b), .int .i64 x.n]).heap.size) := Lib.hid (by have h1 := HZ.out; have h2 := hbd.size; have h3 := hpC.size; omega)
              have hOnx : Hid (Ow true 67 partA (putRow (w9.setCell ⟨wi.heap.size, 3, none⟩ (.int .i64 fa)) gc (j * 6) [.int .i64 x.op, .int .i64 x.dO, .int .i64 x.dst, .int .i64 (fa), .int .i64 (x.b), .int .i64 x.n]) FO (.slice (some ⟨g, 0, none⟩) s.parts.length c) (L.set k { p with code := uCode f p.code (j + 1) })) := Lib.hid (by
                rw [HC3.out.1, hmk.out]
                have h := hOn
                rw [List.set_set] at h
                exact h)
              obtain ⟨y1, _⟩ := cell_of_block (blk_below (HC.blk o6 (fun h => by have := (hFOs.out _ h).2; omega)) hb10)
              have xo10 : (w9.setCell ⟨wi.heap.size, 3, none⟩ (.int .i64 fa)).cell? ⟨ob, 0, none⟩ = some (.slice (some ⟨g, 0, none⟩) s.parts.length c) := (y1 0).trans rfl
              obtain ⟨y1, _⟩ := cell_of_block bxf
              have hx0 : (w9.setCell ⟨wi.heap.size, 3, none⟩ (.int .i64 fa)).cell? ⟨wi.heap.size, 0, none⟩ = some (.int .i64 x.op) := (y1 0).trans rfl
              have hx1 : (w9.setCell ⟨wi.heap.size, 3, none⟩ (.int .i64 fa)).cell? ⟨wi.heap.size, 1, none⟩ = some (.int .i64 x.dO) := (y1 1).trans rfl
              have hx2 : (w9.setCell ⟨wi.heap.size, 3, none⟩ (.int .i64 fa)).cell? ⟨wi.heap.size, 2, none⟩ = some (.int .i64 x.dst) := (y1 2).trans rfl
              have hx3 : (w9.setCell ⟨wi.heap.size, 3, none⟩ (.int .i64 fa)).cell? ⟨wi.heap.size, 3, none⟩ = some (.int .i64 fa) := (y1 3).trans rfl
              have hx4 : (w9.setCell ⟨wi.heap.size, 3, none⟩ (.int .i64 fa)).cell? ⟨wi.heap.size, 4, none⟩ = some (.int .i64 x.b) := (y1 4).trans rfl
              have hx5 : (w9.setCell ⟨wi.heap.size, 3, none⟩ (.int .i64 fa)).cell? ⟨wi.heap.size, 5, none⟩ = some (.int .i64 x.n) := (y1 5).trans rfl
              have X1c := cell_below hb10 X1.out
              obtain ⟨gq, gqf, _, _⟩ := ow_flSet (hOc.below hb10) hjc
              obtain ⟨d0, d1, d2, d3, d4, d5⟩ := gq
              have df_ := gqf
              obtain ⟨y1, _⟩ := cell_of_block hbxn
              have hy0 : (putRow (w9.setCell ⟨wi.heap.size, 3, none⟩ (.int .i64 fa)) gc (j * 6) [.int .i64 x.op, .int .i64 x.dO, .int .i64 x.dst, .int .i64 (fa), .int .i64 (x.b), .int .i64 x.n]).cell? ⟨wi.heap.size, 0, none⟩ = some (.int .i64 x.op) := (y1 0).trans rfl
              have hy2 : (putRow (w9.setCell ⟨wi.heap.size, 3, none⟩ (.int .i64 fa)) gc (j * 6) [.int .i64 x.op, .int .i64 x.dO, .int .i64 x.dst, .int .i64 (fa), .int .i64 (x.b), .int .i64 x.n]).cell? ⟨wi.heap.size, 2, none⟩ = some (.int .i64 x.dst) := (y1 2).trans rfl
              have hY := Lib.hid (And.intro hy0 hy2)
              have HLs := Lib.hid (fun W => l9Sets_calls x.op W)
              have hrn := uRowN_le (f j) [x.a] 1
              have hrn2 : uRowN (f j) [x.a] 1 ≤ 2 := Nat.le_trans hrn (by simp)
              have hsx : Hid (setsS x = inB x.op 1 4) := Lib.hid rfl
              obtain ⟨rsN, hrsN⟩ : ∃ rsN, rsN = uRowN (f j) [x.a] 1 := ⟨_, rfl⟩
              have hPE : putRow (w9.setCell ⟨wi.heap.size, 3, none⟩ (.int .i64 fa)) gc (j * 6) [.int .i64 x.op, .int .i64 x.dO, .int .i64 x.dst, .int .i64 (fa), .int .i64 (x.b), .int .i64 x.n] = (((((((w9.setCell ⟨wi.heap.size, 3, none⟩ (.int .i64 fa)).setCell ⟨gc, j * 6, none⟩ (.int .i64 x.op)).setCell ⟨gc, j * 6 + 1, none⟩ (.int .i64 x.dO)).setCell ⟨gc, j * 6 + 2, none⟩ (.int .i64 x.dst)).setCell ⟨gc, j * 6 + 3, none⟩ (.int .i64 fa)).setCell ⟨gc, j * 6 + 4, none⟩ (.int .i64 x.b)).setCell ⟨gc, j * 6 + 5, none⟩ (.int .i64 x.n)) := rfl
              rw [hPE] at hOnx hCn hPn hXn hFn hY hZn
              clear y1 hOn hCl hOc hOcd hput hpC hbxn hy0 hy2 bxf hbd hO9 hC9 HC HP X1 hG hPE
              go_upto_region 19 with fail
              refine anyT_region [(9, fun w' => w'.cell? ⟨ob, 0, none⟩ = some (.slice (some ⟨g, 0, none⟩) s.parts.length c) ∧ w'.cell? ⟨g, k * 6 + 1, none⟩ = some (.slice (some ⟨gc, 0, none⟩) p.code.length c2) ∧ w'.cell? ⟨wi.heap.size, 0, none⟩ = some (.int .i64 x.op) ∧ w'.cell? ⟨wi.heap.size, 1, none⟩ = some (.int .i64 x.dO) ∧ w'.cell? ⟨wi.heap.size, 2, none⟩ = some (.int .i64 x.dst) ∧ w'.cell? ⟨wi.heap.size, 3, none⟩ = some (.int .i64 fa) ∧ w'.cell? ⟨wi.heap.size, 4, none⟩ = some (.int .i64 x.b) ∧ w'.cell? ⟨wi.heap.size, 5, none⟩ = some (.int .i64 x.n))] (by kernel_rfl) ⟨fun _ => ⟨xo10, X1c, hx0, hx1, hx2, hx3, hx4, hx5⟩, trivial⟩ (fun hT => ?_)
              refine anyT_pure (i := 0) (v := ?_) rfl (by kernel_rfl) (by kernel_rfl) (by kernel_rfl) (fun _ _ _ h => h) (Or.inl ⟨by rfl, ?_⟩) (by assumption) ?_
              rotate_left 1
              focus ((intro w hSw; (try dsimp only at hSw); go_simp); try with_reducible rfl)
              try simp only [Act.put, Array.getInternal_eq_getElem, List.getElem_toArray, List.getElem_cons_zero, List.getElem_cons_succ, List.setIfInBounds_toArray, List.set_cons_zero, List.set_cons_succ]
              refine anyT_pure (i := 2) (v := ?_) rfl (by kernel_rfl) (by kernel_rfl) (by kernel_rfl) (fun _ _ _ h => h) (Or.inl ⟨by rfl, ?_⟩) (by assumption) ?_
              rotate_left 1
              focus ((intro w hSw; (try dsimp only at hSw); go_simp); try with_reducible rfl)
              try simp only [Act.put, Array.getInternal_eq_getElem, List.getElem_toArray, List.getElem_cons_zero, List.getElem_cons_succ, List.setIfInBounds_toArray, List.set_cons_zero, List.set_cons_succ]
              refine anyT_pure (i := 6) (v := ?_) rfl (by kernel_rfl) (by kernel_rfl) (by kernel_rfl) (fun _ _ _ h => h) (Or.inl ⟨by rfl, ?_⟩) (by assumption) ?_
              rotate_left 1
              focus ((intro w hSw; (try dsimp only at hSw); go_simp); try with_reducible rfl)
              try simp only [Act.put, Array.getInternal_eq_getElem, List.getElem_toArray, List.getElem_cons_zero, List.getElem_cons_succ, List.setIfInBounds_toArray, List.set_cons_zero, List.set_cons_succ]
              refine anyT_take (k := 0) (i := 1) (v := ?_) rfl rfl (by kernel_rfl) (by kernel_rfl) (by kernel_rfl) (fun _ _ _ h => h) (Or.inl ⟨by rfl, ?_⟩) (by assumption) ?_
              rotate_left 1
              focus ((intro w hSw; (try dsimp only at hSw); go_simp); try with_reducible rfl)
              try simp only [Act.put, Array.getInternal_eq_getElem, List.getElem_toArray, List.getElem_cons_zero, List.getElem_cons_succ, List.setIfInBounds_toArray, List.set_cons_zero, List.set_cons_succ]
              refine anyT_take (k := 0) (i := 7) (v := ?_) rfl rfl (by kernel_rfl) (by kernel_rfl) (by kernel_rfl) (fun _ _ _ h => h) (Or.inl ⟨by rfl, ?_⟩) (by assumption) ?_
              rotate_left 1
              focus ((intro w hSw; (try dsimp only at hSw); go_simp); try with_reducible rfl)
              try simp only [Act.put, Array.getInternal_eq_getElem, List.getElem_toArray, List.getElem_cons_zero, List.getElem_cons_succ, List.setIfInBounds_toArray, List.set_cons_zero, List.set_cons_succ]
              refine anyT_pure (i := 3) (v := ?_) rfl (by kernel_rfl) (by kernel_rfl) (by kernel_rfl) (fun _ _ _ h => h) (Or.inl ⟨by rfl, ?_⟩) (by assumption) ?_
              rotate_left 1
              focus ((intro w hSw; (try dsimp only at hSw); go_simp); try with_reducible rfl)
              try simp only [Act.put, Array.getInternal_eq_getElem, List.getElem_toArray, List.getElem_cons_zero, List.getElem_cons_succ, List.setIfInBounds_toArray, List.set_cons_zero, List.set_cons_succ]
              refine anyT_pure (i := 4) (v := ?_) rfl (by kernel_rfl) (by kernel_rfl) (by kernel_rfl) (fun _ _ _ h => h) (Or.inl ⟨by rfl, ?_⟩) (by assumption) ?_
              rotate_left 1
              focus ((intro w hSw; (try dsimp only at hSw); go_simp); try with_reducible rfl)
              try simp only [Act.put, Array.getInternal_eq_getElem, List.getElem_toArray, List.getElem_cons_zero, List.getElem_cons_succ, List.setIfInBounds_toArray, List.set_cons_zero, List.set_cons_succ]
              refine anyT_take (k := 0) (i := 5) (v := ?_) rfl rfl (by kernel_rfl) (by kernel_rfl) (by kernel_rfl) (fun _ _ _ h => h) (Or.inl ⟨by rfl, ?_⟩) (by assumption) ?_
              rotate_left 1
              focus ((intro w hSw; (try dsimp only at hSw); go_simp); try with_reducible rfl)
              try simp only [Act.put, Array.getInternal_eq_getElem, List.getElem_toArray, List.getElem_cons_zero, List.getElem_cons_succ, List.setIfInBounds_toArray, List.set_cons_zero, List.set_cons_succ]
              refine anyT_pure (i := 8) (v := ?_) rfl (by kernel_rfl) (by kernel_rfl) (by kernel_rfl) (fun _ _ _ h => h) (Or.inl ⟨by rfl, ?_⟩) (by assumption) ?_
              rotate_left 1
              focus ((intro w hSw; (try dsimp only at hSw); go_simp); try with_reducible rfl)
              try simp only [Act.put, Array.getInternal_eq_getElem, List.getElem_toArray, List.getElem_cons_zero, List.getElem_cons_succ, List.setIfInBounds_toArray, List.set_cons_zero, List.set_cons_succ]
              refine anyT_ready (rs := [9]) (by kernel_rfl) (by simp) ?_
              refine AllT.cons rfl (fun K1 hK1 => ?_) AllT.nil
              try simp only [Array.getInternal_eq_getElem, List.getElem_toArray, List.getElem_cons_zero, List.getElem_cons_succ]
              go_simp
              refine hK1.out _ _ ⟨fun h => absurd h (by simp), trivial⟩ (fun hT => ?_)
              clear hK1 K1
              try simp only [Act.put, Array.getInternal_eq_getElem, List.getElem_toArray, List.getElem_cons_zero, List.getElem_cons_succ, List.setIfInBounds_toArray, List.set_cons_zero, List.set_cons_succ]
              refine anyT_done (by kernel_rfl) ?_ _
              clear xo10 X1c hx0 hx1 hx2 hx3 hx4 hx5 d0 d1 d2 d3 d4 d5 df_
              generalize (((((((w9.setCell ⟨wi.heap.size, 3, none⟩ (.int .i64 fa)).setCell ⟨gc, j * 6, none⟩ (.int .i64 x.op)).setCell ⟨gc, j * 6 + 1, none⟩ (.int .i64 x.dO)).setCell ⟨gc, j * 6 + 2, none⟩ (.int .i64 x.dst)).setCell ⟨gc, j * 6 + 3, none⟩ (.int .i64 fa)).setCell ⟨gc, j * 6 + 4, none⟩ (.int .i64 x.b)).setCell ⟨gc, j * 6 + 5, none⟩ (.int .i64 x.n)) = W4x at *
              have hdW : Below W4x.heap.size W4x W4x.drew := below_drew (Below.refl _ _)
              have hOnx := hOnx.out.below hdW
              replace hCn := hCn.trans (Chg.of_below hdW)
              replace hPn := blk_below hPn hdW
              replace hXn := Lib.hid (cell_below hdW hXn.out)
              replace hFn := hFn.below hdW
              obtain ⟨hy0, hy2⟩ := hY.out
              replace hy0 := cell_below hdW hy0
              replace hy2 := cell_below hdW hy2
              replace hZn : Hid (W1.heap.size ≤ W4x.drew.heap.size) := Lib.hid hZn.out
              clear hY hdW
              generalize W4x.drew = W5 at *
              go_wp2_with fail
              refine (HLs.out _).mono ?_
              rintro e w' ⟨rfl, rfl⟩
              clear HLs
              obtain ⟨rs, hrs⟩ : ∃ rs, rs = inB x.op 1 4 := ⟨_, rfl⟩
              have hDs3 : Hid (p.params ++ dstsS (p.code.take (j + 1)) = if rs then far ++ [x.dst] else far) := Lib.hid (by rw [hDs2.out, hrs]; rfl)
              rw [← hrs]
              clear hrs hDs2
              cases rs
              · have hFe : Ow true 3 Rp.int W5 (fun q => W1.heap.size ≤ q) (.slice sA far.length sc) (p.params ++ dstsS (p.code.take (j + 1))) := by
                  have e : p.params ++ dstsS (p.code.take (j + 1)) = far := hDs3.out
                  rw [e]; exact hFn
                go_wp2_with fail
                go_roundw
                case rel => exact ⟨j + 1, _, rfl, by omega, by rw [hcnt.out]; push_cast; rfl, by go_num, hFe, hOnx, hCn, hPn, hXn, hZn⟩
                case measure => simp [intOf]; omega
              · have hse : p.params ++ dstsS (p.code.take (j + 1)) = far ++ [x.dst] := hDs3.out
                replace hse := Lib.hid hse
                go_wp2_with (at_builtin; (refine app_int (by rfl) _ _ (by rfl) (.slice sA far.length sc) far x.dst W5.heap.size rfl (by rfl) (by rfl) hFn (by omega) ?_; intro A' c' w3 HO3 hg3))
                have hC3 := Chg.of_grown hg3
                have hnG : ∀ q, some q = (Value.slice sA far.length sc).ownBlock → W1.heap.size ≤ q := fun q hq => (hFn.lt_size hq.symm).1
                have hsep : ∀ q, FO q → ¬ some q = (Value.slice sA far.length sc).ownBlock := fun q hq h => by have h1 := hnG q h; have h2 := (hFOs.out q hq).2; have := hz1o.out; omega
                have hFe : Ow true 3 Rp.int w3 (fun q => W1.heap.size ≤ q) (.slice A' (far.length + 1) c') (p.params ++ dstsS (p.code.take (j + 1))) := by
                  rw [hse.out]; exact HO3.mono (fun q hq => hq.elim id (fun h => by have h1 := hZn.out; omega))
                have hOe := hOnx.move (hC3.same (fun q hq h => hsep q hq h))
                have hCe : Chg FO w6 w3 := hCn.trans2 hC3 (fun q hq => .inr (by have h1 := hnG q hq; have h2 := hz1o.out; have h3 := hw6o.out; omega))
                have hPe := hC3.blk hPn (fun h => by have h1 := hnG _ h; have h2 := hz1o.out; omega)
                have hXe : Hid (w3.cell? ⟨g, k * 6 + 1, none⟩ = some (.slice (some ⟨gc, 0, none⟩) p.code.length c2)) := Lib.hid (hC3.cell hXn.out (fun h => hsep g hgF.out h))
                have hZe : Hid (W1.heap.size ≤ w3.heap.size) := Lib.hid (Nat.le_trans hZn.out hC3.size)
                go_wp2_with fail
                go_roundw
                case rel => exact ⟨j + 1, _, rfl, by omega, by rw [hcnt.out]; push_cast; rfl, by go_num, hFe, hOe, hCe, hPe, hXe, hZe⟩
                case measure => simp [intOf]; omega
            · have hUS : usesS x = [x.a, x.b] := hUS
              rw [hUS] at hO8 hIn2
              obtain ⟨A8, c8, rfl, _, _⟩ := hO8.form
              have HCl := Lib.hid (HUj.out w8 hC8 (fun q => W2.heap.size ≤ q) _ _ _ _ _ [x.a, x.b] hO8 (fun q hq => by
                have hs1 := hbx.size
                exact ⟨fun h => by have h2 := hFRs.out q h; have h3 := hszi; have hq : W2.heap.size ≤ q := hq; omega, fun h => by have h2 := h.2; have hq : W2.heap.size ≤ q := hq; omega⟩) hFb hIn2.out (by simp) hu)
              clear hUS HUj hO8 hu
              go_wp2_with fail
              refine HCl.out.mono ?_
              rintro e w9 ⟨rfl, hO9, hC9⟩
              clear HCl xu
              have hb9 : Below W2.heap.size W2 w9 := hC9.to_below hb8 hb8.size (fun q h => h)
              have hb9i := below_then hbx hb9
              have bx9 := blk_below bx hb9
              obtain ⟨y1, y2⟩ := cell_of_block bx9
              have gx0 : w9.cell? ⟨wi.heap.size, 0, none⟩ = some (.int .i64 x.op) := (y1 0).trans rfl
              have gx1 : w9.cell? ⟨wi.heap.size, 1, none⟩ = some (.int .i64 x.dO) := (y1 1).trans rfl
              have gx2 : w9.cell? ⟨wi.heap.size, 2, none⟩ = some (.int .i64 x.dst) := (y1 2).trans rfl
              have gx3 : w9.cell? ⟨wi.heap.size, 3, none⟩ = some (.int .i64 x.a) := (y1 3).trans rfl
              have gx4 : w9.cell? ⟨wi.heap.size, 4, none⟩ = some (.int .i64 x.b) := (y1 4).trans rfl
              have gx5 : w9.cell? ⟨wi.heap.size, 5, none⟩ = some (.int .i64 x.n) := (y1 5).trans rfl
              have gf3 := y2 3
              have gf4 := y2 4
              clear y1 y2
              obtain ⟨g8, c8', he, hg8, _⟩ := Ow.some_form hO9 (by simp)
              injection he with he1 hlen he3
              subst he1
              subst he3
              clear hlen
              obtain ⟨xa8, _⟩ := hO9.int_at (k := 0) (by simp)
              have hg8 : W2.heap.size ≤ g8 := hg8
              have hne8 : ¬ g8 = wi.heap.size := by have := hzx.out; omega
              obtain ⟨fa, hfa⟩ : ∃ fa, fa = f j x.a := ⟨_, rfl⟩
              replace xa8 : w9.cell? ⟨g8, 0, none⟩ = some (.int .i64 fa) := by rw [hfa]; exact xa8
              have hfaH := Lib.hid hfa
              clear hfa
              have hS9 := Chg.set (A := fun q => q = wi.heap.size) (w := w9) (b := wi.heap.size) (o := 3) (u := .int .i64 fa) rfl
              have bx10 := blk_put bx9 3 (.int .i64 fa)
              obtain ⟨xb8, _⟩ := hO9.int_at (k := 1) (by simp)
              obtain ⟨fb, hfb⟩ : ∃ fb, fb = f j x.b := ⟨_, rfl⟩
              replace xb8 : w9.cell? ⟨g8, 1, none⟩ = some (.int .i64 fb) := by rw [hfb]; exact xb8
              have hfbH := Lib.hid hfb
              clear hfb
              have xb9 := hS9.cell xb8 hne8
              obtain ⟨y1, y2⟩ := cell_of_block bx10
              have gy4 : (w9.setCell ⟨wi.heap.size, 3, none⟩ (.int .i64 fa)).cell? ⟨wi.heap.size, 4, none⟩ = some (.int .i64 x.b) := (y1 4).trans rfl
              have gyf4 := y2 4
              clear y1 y2
              have bx11 := blk_put bx10 4 (.int .i64 fb)
              have hS10 := hS9.trans (Chg.set (A := fun q => q = wi.heap.size) (b := wi.heap.size) (o := 4) (u := .int .i64 fb) rfl)
              have bxf : ((w9.setCell ⟨wi.heap.size, 3, none⟩ (.int .i64 fa)).setCell ⟨wi.heap.size, 4, none⟩ (.int .i64 fb)).heap[wi.heap.size]? = some (.cells #[.int .i64 x.op, .int .i64 x.dO, .int .i64 x.dst, .int .i64 fa, .int .i64 fb, .int .i64 x.n] 71 (0, 0)) := bx11
              have hSx : Chg (fun q => q = wi.heap.size) w9 ((w9.setCell ⟨wi.heap.size, 3, none⟩ (.int .i64 fa)).setCell ⟨wi.heap.size, 4, none⟩ (.int .i64 fb)) := hS10
              have hb10 : Below wi.heap.size wi ((w9.setCell ⟨wi.heap.size, 3, none⟩ (.int .i64 fa)).setCell ⟨wi.heap.size, 4, none⟩ (.int .i64 fb)) := hSx.to_below hb9i hb9i.size (fun q hq => by have hq : q = wi.heap.size := hq; omega)
              have hbd := hb10
              have hmk : Hid ({ x with a := cond true (f j x.a) x.a, b := cond true (f j x.b) x.b } = (⟨x.op, x.dO, x.dst, fa, fb, x.n⟩ : Fl)) := Lib.hid (by rw [hfaH.out, hfbH.out]; rfl)
              have hcnt : Hid (cnt0 + uCodeN f p.code (j + 1) = cn + uRowN (f j) [x.a, x.b] 2) := Lib.hid (by rw [HC3.out.2]; unfold uRowN; simp [cond])
              have hOcd := hOc.below hbd
              have hput := ow_flPut hOcd hjc ⟨x.op, x.dO, x.dst, fa, fb, x.n⟩
              have hpC := putRow_chg gc [.int .i64 x.op, .int .i64 x.dO, .int .i64 x.dst, .int .i64 (fa), .int .i64 (fb), .int .i64 x.n] ((w9.setCell ⟨wi.heap.size, 3, none⟩ (.int .i64 fa)).setCell ⟨wi.heap.size, 4, none⟩ (.int .i64 fb)) (j * 6)
              have hOn := hCl _ _ ((Chg.of_below hbd).trans (hpC.mono (fun q hq => by have hq : q = gc := hq; rw [hq]; exact hgc))) hput
              have hCn := (HC.trans (Chg.of_below hbd)).trans (hpC.mono (fun q hq => by have hq : q = gc := hq; rw [hq]; exact hgcF.1))
              have hgcl := (hFOs.out gc hgcF.1).2
              have hoC := hCn.blk o6 (fun h => by have := (hFOs.out _ h).2; omega)
              have hPn := hpC.blk (blk_below HP hbd) (fun h => by have h : wo.heap.size = gc := h; have := hgcF.2.2; omega)
              have hXn : Hid ((putRow ((w9.setCell ⟨wi.heap.size, 3, none⟩ (.int .i64 fa)).setCell ⟨wi.heap.size, 4, none⟩ (.int .i64 fb)) gc (j * 6) [.int .i64 x.op, .int .i64 x.dO, .int .i64 x.dst, .int .i64 (fa), .int .i64 (fb), .int .i64 x.n]).cell? ⟨g, k * 6 + 1, none⟩ = some (.slice (some ⟨gc, 0, none⟩) p.code.length c2)) := Lib.hid (hpC.cell (cell_below hbd X1.out) (fun h => hgcF.2.1 (by have h : g = gc := h; exact h.symm)))
              have hFn := (HF.below hbd).move (hpC.same (fun q hq h => by have h : q = gc := h; have hq : W1.heap.size ≤ q := hq; have := hz1o.out; omega))
              have hbxn := hpC.blk bxf (fun h => by have h : wi.heap.size = gc := h; have := hgcF.2.2; omega)
              have hZn : Hid (W1.heap.size ≤ (putRow ((w9.setCell ⟨wi.heap.size, 3, none⟩ (.int .i64 fa)).setCell ⟨wi.heap.size, 4, none⟩ (.int .i64 fb)) gc (j * 6) [.int .i64 x.op, .int .i64 x.dO, .int .i64 x.dst, .int .i64 (fa), .int .i64 (fb), .int .i64 x.n]).heap.size) := Lib.hid (by have h1 := HZ.out; have h2 := hbd.size; have h3 := hpC.size; omega)
              have hOnx : Hid (Ow true 67 partA (putRow ((w9.setCell ⟨wi.heap.size, 3, none⟩ (.int .i64 fa)).setCell ⟨wi.heap.size, 4, none⟩ (.int .i64 fb)) gc (j * 6) [.int .i64 x.op, .int .i64 x.dO, .int .i64 x.dst, .int .i64 (fa), .int .i64 (fb), .int .i64 x.n]) FO (.slice (some ⟨g, 0, none⟩) s.parts.length c) (L.set k { p with code := uCode f p.code (j + 1) })) := Lib.hid (by
                rw [HC3.out.1, hmk.out]
                have h := hOn
                rw [List.set_set] at h
                exact h)
              obtain ⟨y1, _⟩ := cell_of_block (blk_below (HC.blk o6 (fun h => by have := (hFOs.out _ h).2; omega)) hb10)
              have xo10 : ((w9.setCell ⟨wi.heap.size, 3, none⟩ (.int .i64 fa)).setCell ⟨wi.heap.size, 4, none⟩ (.int .i64 fb)).cell? ⟨ob, 0, none⟩ = some (.slice (some ⟨g, 0, none⟩) s.parts.length c) := (y1 0).trans rfl
              obtain ⟨y1, _⟩ := cell_of_block bxf
              have hx0 : ((w9.setCell ⟨wi.heap.size, 3, none⟩ (.int .i64 fa)).setCell ⟨wi.heap.size, 4, none⟩ (.int .i64 fb)).cell? ⟨wi.heap.size, 0, none⟩ = some (.int .i64 x.op) := (y1 0).trans rfl
              have hx1 : ((w9.setCell ⟨wi.heap.size, 3, none⟩ (.int .i64 fa)).setCell ⟨wi.heap.size, 4, none⟩ (.int .i64 fb)).cell? ⟨wi.heap.size, 1, none⟩ = some (.int .i64 x.dO) := (y1 1).trans rfl
              have hx2 : ((w9.setCell ⟨wi.heap.size, 3, none⟩ (.int .i64 fa)).setCell ⟨wi.heap.size, 4, none⟩ (.int .i64 fb)).cell? ⟨wi.heap.size, 2, none⟩ = some (.int .i64 x.dst) := (y1 2).trans rfl
              have hx3 : ((w9.setCell ⟨wi.heap.size, 3, none⟩ (.int .i64 fa)).setCell ⟨wi.heap.size, 4, none⟩ (.int .i64 fb)).cell? ⟨wi.heap.size, 3, none⟩ = some (.int .i64 fa) := (y1 3).trans rfl
              have hx4 : ((w9.setCell ⟨wi.heap.size, 3, none⟩ (.int .i64 fa)).setCell ⟨wi.heap.size, 4, none⟩ (.int .i64 fb)).cell? ⟨wi.heap.size, 4, none⟩ = some (.int .i64 fb) := (y1 4).trans rfl
              have hx5 : ((w9.setCell ⟨wi.heap.size, 3, none⟩ (.int .i64 fa)).setCell ⟨wi.heap.size, 4, none⟩ (.int .i64 fb)).cell? ⟨wi.heap.size, 5, none⟩ = some (.int .i64 x.n) := (y1 5).trans rfl
              have X1c := cell_below hb10 X1.out
              obtain ⟨gq, gqf, _, _⟩ := ow_flSet (hOc.below hb10) hjc
              obtain ⟨d0, d1, d2, d3, d4, d5⟩ := gq
              have df_ := gqf
              obtain ⟨y1, _⟩ := cell_of_block hbxn
              have hy0 : (putRow ((w9.setCell ⟨wi.heap.size, 3, none⟩ (.int .i64 fa)).setCell ⟨wi.heap.size, 4, none⟩ (.int .i64 fb)) gc (j * 6) [.int .i64 x.op, .int .i64 x.dO, .int .i64 x.dst, .int .i64 (fa), .int .i64 (fb), .int .i64 x.n]).cell? ⟨wi.heap.size, 0, none⟩ = some (.int .i64 x.op) := (y1 0).trans rfl
              have hy2 : (putRow ((w9.setCell ⟨wi.heap.size, 3, none⟩ (.int .i64 fa)).setCell ⟨wi.heap.size, 4, none⟩ (.int .i64 fb)) gc (j * 6) [.int .i64 x.op, .int .i64 x.dO, .int .i64 x.dst, .int .i64 (fa), .int .i64 (fb), .int .i64 x.n]).cell? ⟨wi.heap.size, 2, none⟩ = some (.int .i64 x.dst) := (y1 2).trans rfl
              have hY := Lib.hid (And.intro hy0 hy2)
              have HLs := Lib.hid (fun W => l9Sets_calls x.op W)
              have hrn := uRowN_le (f j) [x.a, x.b] 2
              have hrn2 : uRowN (f j) [x.a, x.b] 2 ≤ 2 := Nat.le_trans hrn (by simp)
              have hsx : Hid (setsS x = inB x.op 1 4) := Lib.hid rfl
              obtain ⟨rsN, hrsN⟩ : ∃ rsN, rsN = uRowN (f j) [x.a, x.b] 2 := ⟨_, rfl⟩
              have hPE : putRow ((w9.setCell ⟨wi.heap.size, 3, none⟩ (.int .i64 fa)).setCell ⟨wi.heap.size, 4, none⟩ (.int .i64 fb)) gc (j * 6) [.int .i64 x.op, .int .i64 x.dO, .int .i64 x.dst, .int .i64 (fa), .int .i64 (fb), .int .i64 x.n] = ((((((((w9.setCell ⟨wi.heap.size, 3, none⟩ (.int .i64 fa)).setCell ⟨wi.heap.size, 4, none⟩ (.int .i64 fb)).setCell ⟨gc, j * 6, none⟩ (.int .i64 x.op)).setCell ⟨gc, j * 6 + 1, none⟩ (.int .i64 x.dO)).setCell ⟨gc, j * 6 + 2, none⟩ (.int .i64 x.dst)).setCell ⟨gc, j * 6 + 3, none⟩ (.int .i64 fa)).setCell ⟨gc, j * 6 + 4, none⟩ (.int .i64 fb)).setCell ⟨gc, j * 6 + 5, none⟩ (.int .i64 x.n)) := rfl
              rw [hPE] at hOnx hCn hPn hXn hFn hY hZn
              clear y1 hOn hCl hOc hOcd hput hpC hbxn hy0 hy2 bxf hbd hO9 hC9 HC HP X1 hG hPE
              go_upto_region 19 with fail
              refine anyT_region [(9, fun w' => w'.cell? ⟨ob, 0, none⟩ = some (.slice (some ⟨g, 0, none⟩) s.parts.length c) ∧ w'.cell? ⟨g, k * 6 + 1, none⟩ = some (.slice (some ⟨gc, 0, none⟩) p.code.length c2) ∧ w'.cell? ⟨wi.heap.size, 0, none⟩ = some (.int .i64 x.op) ∧ w'.cell? ⟨wi.heap.size, 1, none⟩ = some (.int .i64 x.dO) ∧ w'.cell? ⟨wi.heap.size, 2, none⟩ = some (.int .i64 x.dst) ∧ w'.cell? ⟨wi.heap.size, 3, none⟩ = some (.int .i64 fa) ∧ w'.cell? ⟨wi.heap.size, 4, none⟩ = some (.int .i64 fb) ∧ w'.cell? ⟨wi.heap.size, 5, none⟩ = some (.int .i64 x.n))] (by kernel_rfl) ⟨fun _ => ⟨xo10, X1c, hx0, hx1, hx2, hx3, hx4, hx5⟩, trivial⟩ (fun hT => ?_)
              refine anyT_pure (i := 0) (v := ?_) rfl (by kernel_rfl) (by kernel_rfl) (by kernel_rfl) (fun _ _ _ h => h) (Or.inl ⟨by rfl, ?_⟩) (by assumption) ?_
              rotate_left 1
              focus ((intro w hSw; (try dsimp only at hSw); go_simp); try with_reducible rfl)
              try simp only [Act.put, Array.getInternal_eq_getElem, List.getElem_toArray, List.getElem_cons_zero, List.getElem_cons_succ, List.setIfInBounds_toArray, List.set_cons_zero, List.set_cons_succ]
              refine anyT_pure (i := 2) (v := ?_) rfl (by kernel_rfl) (by kernel_rfl) (by kernel_rfl) (fun _ _ _ h => h) (Or.inl ⟨by rfl, ?_⟩) (by assumption) ?_
              rotate_left 1
              focus ((intro w hSw; (try dsimp only at hSw); go_simp); try with_reducible rfl)
              try simp only [Act.put, Array.getInternal_eq_getElem, List.getElem_toArray, List.getElem_cons_zero, List.getElem_cons_succ, List.setIfInBounds_toArray, List.set_cons_zero, List.set_cons_succ]
              refine anyT_pure (i := 6) (v := ?_) rfl (by kernel_rfl) (by kernel_rfl) (by kernel_rfl) (fun _ _ _ h => h) (Or.inl ⟨by rfl, ?_⟩) (by assumption) ?_
              rotate_left 1
              focus ((intro w hSw; (try dsimp only at hSw); go_simp); try with_reducible rfl)
              try simp only [Act.put, Array.getInternal_eq_getElem, List.getElem_toArray, List.getElem_cons_zero, List.getElem_cons_succ, List.setIfInBounds_toArray, List.set_cons_zero, List.set_cons_succ]
              refine anyT_take (k := 0) (i := 1) (v := ?_) rfl rfl (by kernel_rfl) (by kernel_rfl) (by kernel_rfl) (fun _ _ _ h => h) (Or.inl ⟨by rfl, ?_⟩) (by assumption) ?_
              rotate_left 1
              focus ((intro w hSw; (try dsimp only at hSw); go_simp); try with_reducible rfl)
              try simp only [Act.put, Array.getInternal_eq_getElem, List.getElem_toArray, List.getElem_cons_zero, List.getElem_cons_succ, List.setIfInBounds_toArray, List.set_cons_zero, List.set_cons_succ]
              refine anyT_take (k := 0) (i := 7) (v := ?_) rfl rfl (by kernel_rfl) (by kernel_rfl) (by kernel_rfl) (fun _ _ _ h => h) (Or.inl ⟨by rfl, ?_⟩) (by assumption) ?_
              rotate_left 1
              focus ((intro w hSw; (try dsimp only at hSw); go_simp); try with_reducible rfl)
              try simp only [Act.put, Array.getInternal_eq_getElem, List.getElem_toArray, List.getElem_cons_zero, List.getElem_cons_succ, List.setIfInBounds_toArray, List.set_cons_zero, List.set_cons_succ]
              refine anyT_pure (i := 3) (v := ?_) rfl (by kernel_rfl) (by kernel_rfl) (by kernel_rfl) (fun _ _ _ h => h) (Or.inl ⟨by rfl, ?_⟩) (by assumption) ?_
              rotate_left 1
              focus ((intro w hSw; (try dsimp only at hSw); go_simp); try with_reducible rfl)
              try simp only [Act.put, Array.getInternal_eq_getElem, List.getElem_toArray, List.getElem_cons_zero, List.getElem_cons_succ, List.setIfInBounds_toArray, List.set_cons_zero, List.set_cons_succ]
              refine anyT_pure (i := 4) (v := ?_) rfl (by kernel_rfl) (by kernel_rfl) (by kernel_rfl) (fun _ _ _ h => h) (Or.inl ⟨by rfl, ?_⟩) (by assumption) ?_
              rotate_left 1
              focus ((intro w hSw; (try dsimp only at hSw); go_simp); try with_reducible rfl)
              try simp only [Act.put, Array.getInternal_eq_getElem, List.getElem_toArray, List.getElem_cons_zero, List.getElem_cons_succ, List.setIfInBounds_toArray, List.set_cons_zero, List.set_cons_succ]
              refine anyT_take (k := 0) (i := 5) (v := ?_) rfl rfl (by kernel_rfl) (by kernel_rfl) (by kernel_rfl) (fun _ _ _ h => h) (Or.inl ⟨by rfl, ?_⟩) (by assumption) ?_
              rotate_left 1
              focus ((intro w hSw; (try dsimp only at hSw); go_simp); try with_reducible rfl)
              try simp only [Act.put, Array.getInternal_eq_getElem, List.getElem_toArray, List.getElem_cons_zero, List.getElem_cons_succ, List.setIfInBounds_toArray, List.set_cons_zero, List.set_cons_succ]
              refine anyT_pure (i := 8) (v := ?_) rfl (by kernel_rfl) (by kernel_rfl) (by kernel_rfl) (fun _ _ _ h => h) (Or.inl ⟨by rfl, ?_⟩) (by assumption) ?_
              rotate_left 1
              focus ((intro w hSw; (try dsimp only at hSw); go_simp); try with_reducible rfl)
              try simp only [Act.put, Array.getInternal_eq_getElem, List.getElem_toArray, List.getElem_cons_zero, List.getElem_cons_succ, List.setIfInBounds_toArray, List.set_cons_zero, List.set_cons_succ]
              refine anyT_ready (rs := [9]) (by kernel_rfl) (by simp) ?_
              refine AllT.cons rfl (fun K1 hK1 => ?_) AllT.nil
              try simp only [Array.getInternal_eq_getElem, List.getElem_toArray, List.getElem_cons_zero, List.getElem_cons_succ]
              go_simp
              refine hK1.out _ _ ⟨fun h => absurd h (by simp), trivial⟩ (fun hT => ?_)
              clear hK1 K1
              try simp only [Act.put, Array.getInternal_eq_getElem, List.getElem_toArray, List.getElem_cons_zero, List.getElem_cons_succ, List.setIfInBounds_toArray, List.set_cons_zero, List.set_cons_succ]
              refine anyT_done (by kernel_rfl) ?_ _
              clear xo10 X1c hx0 hx1 hx2 hx3 hx4 hx5 d0 d1 d2 d3 d4 d5 df_
              generalize ((((((((w9.setCell ⟨wi.heap.size, 3, none⟩ (.int .i64 fa)).setCell ⟨wi.heap.size, 4, none⟩ (.int .i64 fb)).setCell ⟨gc, j * 6, none⟩ (.int .i64 x.op)).setCell ⟨gc, j * 6 + 1, none⟩ (.int .i64 x.dO)).setCell ⟨gc, j * 6 + 2, none⟩ (.int .i64 x.dst)).setCell ⟨gc, j * 6 + 3, none⟩ (.int .i64 fa)).setCell ⟨gc, j * 6 + 4, none⟩ (.int .i64 fb)).setCell ⟨gc, j * 6 + 5, none⟩ (.int .i64 x.n)) = W4x at *
              have hdW : Below W4x.heap.size W4x W4x.drew := below_drew (Below.refl _ _)
              have hOnx := hOnx.out.below hdW
              replace hCn := hCn.trans (Chg.of_below hdW)
              replace hPn := blk_below hPn hdW
              replace hXn := Lib.hid (cell_below hdW hXn.out)
              replace hFn := hFn.below hdW
              obtain ⟨hy0, hy2⟩ := hY.out
              replace hy0 := cell_below hdW hy0
              replace hy2 := cell_below hdW hy2
              replace hZn : Hid (W1.heap.size ≤ W4x.drew.heap.size) := Lib.hid hZn.out
              clear hY hdW
              generalize W4x.drew = W5 at *
              go_wp2_with fail
              refine (HLs.out _).mono ?_
              rintro e w' ⟨rfl, rfl⟩
              clear HLs
              obtain ⟨rs, hrs⟩ : ∃ rs, rs = inB x.op 1 4 := ⟨_, rfl⟩
              have hDs3 : Hid (p.params ++ dstsS (p.code.take (j + 1)) = if rs then far ++ [x.dst] else far) := Lib.hid (by rw [hDs2.out, hrs]; rfl)
              rw [← hrs]
              clear hrs hDs2
              cases rs
              · have hFe : Ow true 3 Rp.int W5 (fun q => W1.heap.size ≤ q) (.slice sA far.length sc) (p.params ++ dstsS (p.code.take (j + 1))) := by
                  have e : p.params ++ dstsS (p.code.take (j + 1)) = far := hDs3.out
                  rw [e]; exact hFn
                go_wp2_with fail
                go_roundw
                case rel => exact ⟨j + 1, _, rfl, by omega, by rw [hcnt.out]; push_cast; rfl, by go_num, hFe, hOnx, hCn, hPn, hXn, hZn⟩
                case measure => simp [intOf]; omega
              · have hse : p.params ++ dstsS (p.code.take (j + 1)) = far ++ [x.dst] := hDs3.out
                replace hse := Lib.hid hse
                go_wp2_with (at_builtin; (refine app_int (by rfl) _ _ (by rfl) (.slice sA far.length sc) far x.dst W5.heap.size rfl (by rfl) (by rfl) hFn (by omega) ?_; intro A' c' w3 HO3 hg3))
                have hC3 := Chg.of_grown hg3
                have hnG : ∀ q, some q = (Value.slice sA far.length sc).ownBlock → W1.heap.size ≤ q := fun q hq => (hFn.lt_size hq.symm).1
                have hsep : ∀ q, FO q → ¬ some q = (Value.slice sA far.length sc).ownBlock := fun q hq h => by have h1 := hnG q h; have h2 := (hFOs.out q hq).2; have := hz1o.out; omega
                have hFe : Ow true 3 Rp.int w3 (fun q => W1.heap.size ≤ q) (.slice A' (far.length + 1) c') (p.params ++ dstsS (p.code.take (j + 1))) := by
                  rw [hse.out]; exact HO3.mono (fun q hq => hq.elim id (fun h => by have h1 := hZn.out; omega))
                have hOe := hOnx.move (hC3.same (fun q hq h => hsep q hq h))
                have hCe : Chg FO w6 w3 := hCn.trans2 hC3 (fun q hq => .inr (by have h1 := hnG q hq; have h2 := hz1o.out; have h3 := hw6o.out; omega))
                have hPe := hC3.blk hPn (fun h => by have h1 := hnG _ h; have h2 := hz1o.out; omega)
                have hXe : Hid (w3.cell? ⟨g, k * 6 + 1, none⟩ = some (.slice (some ⟨gc, 0, none⟩) p.code.length c2)) := Lib.hid (hC3.cell hXn.out (fun h => hsep g hgF.out h))
                have hZe : Hid (W1.heap.size ≤ w3.heap.size) := Lib.hid (Nat.le_trans hZn.out hC3.size)
                go_wp2_with fail
                go_roundw
                case rel => exact ⟨j + 1, _, rfl, by omega, by rw [hcnt.out]; push_cast; rfl, by go_num, hFe, hOe, hCe, hPe, hXe, hZe⟩
                case measure => simp [intOf]; omega
        · obtain rfl : j = p.code.length := by omega
          obtain ⟨cd, hcd⟩ : ∃ cd, cd = uCode f p.code p.code.length := ⟨_, rfl⟩
          obtain ⟨cn, hcn⟩ : ∃ cn, cn = cnt0 + uCodeN f p.code p.code.length := ⟨_, rfl⟩
          obtain ⟨f', hf'⟩ : ∃ f', f' = f p.code.length := ⟨_, rfl⟩
          have hcj := (hUc.out).2 p.code.length (Nat.le_refl _)
          have hcdl : Hid (cd.length = p.code.length) := Lib.hid (by rw [hcd]; exact uCode_len f p.code _)
          obtain ⟨far, hfar⟩ : ∃ far, far = p.params ++ dstsS (p.code.take p.code.length) := ⟨_, rfl⟩
          have HUt : Hid (∀ (wr : World) (hC : Chg FO w6 wr) (G F4 : Nat → Prop) (vl vf : Value) (Au : Option Addr) (cu : Nat) (l : List Int) (hO : Ow true 3 Rp.int wr G vl l) (hG : ∀ q, G q → ¬ FR q ∧ ¬ F4 q) (hF : Rp.Rd Rp.int wr F4 vf far) (hr : ∀ v ∈ l, 0 ≤ v ∧ v < s.values) (hl : l.length ≤ 1000) (hu : Rp.Rd Rp.int wr FR (.slice Au row.length cu) row),
              Calls Tryz.prog 56 #[vl, .slice AG gl.length cG, .slice AD DL.length cD, .slice Au row.length cu, vf, .int .i64 k] wr fun e w' => e = .returned (.int .i64 (uRowN f' l l.length : Nat)) ∧ Ow true 3 Rp.int w' G vl (l.map f') ∧ Chg G wr w') := Lib.hid (by rw [hfar, hf']; exact HUk2.out p.code.length)
          have HEt : Hid (testB p.go = true → 0 ≤ p.test ∧ p.test < s.values) := Lib.hid (fun h => HEk.out _ (by unfold endsS; have h2 : (p.go == 2 || p.go == 5) = true := h; rw [h2]; simp))
          have HEa : Hid (∀ l ∈ p.args, ∀ v ∈ l, 0 ≤ v ∧ v < s.values) := Lib.hid (fun l hl v hv => HEk.out _ (by unfold endsS; exact List.mem_append.2 (.inr (List.mem_flatten.2 ⟨l, hl, hv⟩))))
          have HN3 : Hid (uAll (fU s) s.parts (k + 1) = L.set k { p with code := cd, test := cond (testB p.go) (f' p.test) p.test, args := uArgs f' p.args p.args.length } ∧ uAllN (fU s) s.parts (k + 1) = cn + cond (testB p.go) (if f' p.test = p.test then 0 else 1) 0 + uArgsN f' p.args p.args.length) := Lib.hid (by
            obtain ⟨e1, e2⟩ := HNx.out
            rw [e1, e2]
            unfold partUf partUc uTestB
            rw [hcd, hcn, hf']
            unfold cntV
            cases testB p.go
            · exact ⟨rfl, by show cnt0 + (uCodeN f p.code p.code.length + 0 + uArgsN _ _ _) = cnt0 + uCodeN f p.code p.code.length + 0 + uArgsN _ _ _; omega⟩
            · exact ⟨rfl, by show cnt0 + (uCodeN f p.code p.code.length + (if f p.code.length p.test = p.test then 0 else 1) + uArgsN _ _ _) = cnt0 + uCodeN f p.code p.code.length + (if f p.code.length p.test = p.test then 0 else 1) + uArgsN _ _ _; omega⟩)
          have hTBe : Hid (testB p.go = (p.go == 2 || p.go == 5)) := Lib.hid rfl
          rw [← hcd] at HO
          rw [← hcn]
          rw [← hfar] at HF
          have hcn2 : cn ≤ 50000 := by omega
          obtain ⟨sA, sc, rfl, _, _⟩ := HF.form
          obtain ⟨farL, hfarL⟩ : ∃ farL, farL = far.length := ⟨_, rfl⟩
          rw [← hfarL] at HF ⊢
          clear HNx HUk2 hcd hcn hf' hcj HEk hfar hfarL X1
          have j0 : (0 : Int) ≤ (k : Int) := k0
          by_cases hg2 : p.go = 2
          · have HTB : Hid (testB p.go = true) := Lib.hid (by rw [hTBe.out, hg2]; rfl)
            have HN2 : Hid (uAll (fU s) s.parts (k + 1) = L.set k { p with code := cd, test := f' p.test, args := uArgs f' p.args p.args.length } ∧ uAllN (fU s) s.parts (k + 1) = cn + (if f' p.test = p.test then 0 else 1) + uArgsN f' p.args p.args.length) := Lib.hid (by have h := HN3.out; rw [HTB.out] at h; exact h)
            have t2 : (p.go == 2) = true := by simpa using hg2
            clear HN3 hTBe hg2
            obtain ⟨y1, _⟩ := cell_of_block HP
            obtain ⟨Au, cu, xm, hu⟩ := HCk2.out wi HC
            have hbl := below_new (w := wi) (.cells #[.int .i64 p.test] 3)
            have hnl := heap_alloc_new wi (.cells #[.int .i64 p.test] 3)
            have hOl : Ow true 3 Rp.int (wi.alloc (.cells #[.int .i64 p.test] 3)) (fun q => q = wi.heap.size ∨ False) (.slice (some ⟨wi.heap.size, 0, none⟩) 1 1) [p.test] := ow_lit1 (r := Rp.int) (G := fun _ => False) hnl rfl rfl (fun _ h => h.elim)
            have hCl0 := HC.trans (Chg.of_below hbl)
            have hszi := HC.size
            have hZo := HZ.out
            have HCa := Lib.hid (HUt.out _ hCl0 (fun q => q = wi.heap.size ∨ False) (fun q => W1.heap.size ≤ q ∧ q < wi.heap.size) _ _ _ _ [p.test] hOl (fun q hq => by
              have hq : q = wi.heap.size := hq.elim id False.elim
              exact ⟨fun h => by have := hFRs.out q h; omega, fun h => by have := h.2; omega⟩) (HF.bound.below hbl).rd (fun v hv => by rw [List.mem_singleton.1 hv]; exact HEt.out HTB.out) (by simp) (hu.below hbl))
            have xm1 := cell_below hbl xm
            have hrn := uRowN_le f' [p.test] 1
            have hrn1 : uRowN f' [p.test] 1 ≤ 1 := Nat.le_trans hrn (by simp)
            have hZx : wi.heap.size < (wi.alloc (.cells #[.int .i64 p.test] 3)).heap.size := by simp
            have hHO := Lib.hid HO
            have hHF := Lib.hid HF
            have hHC := Lib.hid HC
            clear hOl hu xm HO HF HC hCl0 HP
            go_wp2_with fail
            generalize wi.alloc (.cells #[.int .i64 p.test] 3) = Wl at *
            refine HCa.out.mono ?_
            rintro e wt ⟨rfl, hOt, hCt⟩
            clear HCa xm1 y1
            have hbt : Below wi.heap.size wi wt := hCt.to_below hbl hbl.size (fun q hq => by have hq : q = wi.heap.size := hq.elim id False.elim; omega)
            obtain ⟨xl, _⟩ := hOt.int_at (k := 0) (by simp)
            obtain ⟨ft, hft⟩ : ∃ ft, ft = f' p.test := ⟨_, rfl⟩
            replace xl : wt.cell? ⟨wi.heap.size, 0, none⟩ = some (.int .i64 ft) := by rw [hft]; exact xl
            have HOt := hHO.out.below hbt
            obtain ⟨xt, xtf, xtg, hSet⟩ := ow_testQ HOt (get_set hkL)
            have hCt6 := hHC.out.trans (Chg.of_below hbt)
            obtain ⟨y1, _⟩ := cell_of_block (hCt6.blk o6 (fun h => by have := (hFOs.out _ h).2; omega))
            have x10 : wt.cell? ⟨ob, 0, none⟩ = some (.slice (some ⟨g, 0, none⟩) s.parts.length c) := (y1 0).trans rfl
            have hOa0 : Ow true 67 partA (wt.setCell ⟨g, k * 6 + 3, none⟩ (.int .i64 ft)) FO (.slice (some ⟨g, 0, none⟩) s.parts.length c) (L.set k { p with code := cd, test := f' p.test }) := by
              have h := hSet ft
              rw [List.set_set] at h
              rw [← hft]
              exact h
            have hSg := Chg.set (A := fun q => q = g) (w := wt) (b := g) (o := k * 6 + 3) (u := .int .i64 ft) rfl
            have hCa0 := hCt6.trans (hSg.mono (fun q hq => by have hq : q = g := hq; rw [hq]; exact xtg.1))
            have hFa0 := (hHF.out.below hbt).move (hSg.same (fun q hq h => by have h : q = g := h; have hq : W1.heap.size ≤ q := hq; have h1 := (hFOs.out g xtg.1).2; have h2 := hz1o.out; omega))
            have hcT : Hid (cn + uRowN f' [p.test] 1 = cn + (if f' p.test = p.test then 0 else 1)) := Lib.hid (by unfold uRowN cntV; simp)
            replace hft := Lib.hid hft
            have xtf3 := xtf (k * 6 + 3)
            clear hCt hOt hSet HOt y1 hCt6 hSg xtf
            go_upto_region 26 with fail
            refine anyT_region [(8, fun w' => w'.cell? ⟨ob, 0, none⟩ = some (.slice (some ⟨g, 0, none⟩) s.parts.length c) ∧ w'.cell? ⟨wi.heap.size, 0, none⟩ = some (.int .i64 ft))] (by kernel_rfl) ⟨fun _ => ⟨x10, xl⟩, trivial⟩ (fun hT => ?_)
            refine anyT_pure (i := 0) (v := ?_) rfl (by kernel_rfl) (by kernel_rfl) (by kernel_rfl) (fun _ _ _ h => h) (Or.inl ⟨by rfl, ?_⟩) (by assumption) ?_
            rotate_left 1
            focus ((intro w hSw; (try dsimp only at hSw); go_simp); try with_reducible rfl)
            try simp only [Act.put, Array.getInternal_eq_getElem, List.getElem_toArray, List.getElem_cons_zero, List.getElem_cons_succ, List.setIfInBounds_toArray, List.set_cons_zero, List.set_cons_succ]
            refine anyT_pure (i := 2) (v := ?_) rfl (by kernel_rfl) (by kernel_rfl) (by kernel_rfl) (fun _ _ _ h => h) (Or.inl ⟨by rfl, ?_⟩) (by assumption) ?_
            rotate_left 1
            focus ((intro w hSw; (try dsimp only at hSw); go_simp); try with_reducible rfl)
            try simp only [Act.put, Array.getInternal_eq_getElem, List.getElem_toArray, List.getElem_cons_zero, List.getElem_cons_succ, List.setIfInBounds_toArray, List.set_cons_zero, List.set_cons_succ]
            refine anyT_pure (i := 3) (v := ?_) rfl (by kernel_rfl) (by kernel_rfl) (by kernel_rfl) (fun _ _ _ h => h) (Or.inl ⟨by rfl, ?_⟩) (by assumption) ?_
            rotate_left 1
            focus ((intro w hSw; (try dsimp only at hSw); go_simp); try with_reducible rfl)
            try simp only [Act.put, Array.getInternal_eq_getElem, List.getElem_toArray, List.getElem_cons_zero, List.getElem_cons_succ, List.setIfInBounds_toArray, List.set_cons_zero, List.set_cons_succ]
            refine anyT_pure (i := 4) (v := ?_) rfl (by kernel_rfl) (by kernel_rfl) (by kernel_rfl) (fun _ _ _ h => h) (Or.inl ⟨by rfl, ?_⟩) (by assumption) ?_
            rotate_left 1
            focus ((intro w hSw; (try dsimp only at hSw); go_simp); try with_reducible rfl)
            try simp only [Act.put, Array.getInternal_eq_getElem, List.getElem_toArray, List.getElem_cons_zero, List.getElem_cons_succ, List.setIfInBounds_toArray, List.set_cons_zero, List.set_cons_succ]
            refine anyT_take (k := 0) (i := 1) (v := ?_) rfl rfl (by kernel_rfl) (by kernel_rfl) (by kernel_rfl) (fun _ _ _ h => h) (Or.inl ⟨by rfl, ?_⟩) (by assumption) ?_
            rotate_left 1
            focus ((intro w hSw; (try dsimp only at hSw); go_simp); try with_reducible rfl)
            try simp only [Act.put, Array.getInternal_eq_getElem, List.getElem_toArray, List.getElem_cons_zero, List.getElem_cons_succ, List.setIfInBounds_toArray, List.set_cons_zero, List.set_cons_succ]
            refine anyT_take (k := 0) (i := 5) (v := ?_) rfl rfl (by kernel_rfl) (by kernel_rfl) (by kernel_rfl) (fun _ _ _ h => h) (Or.inl ⟨by rfl, ?_⟩) (by assumption) ?_
            rotate_left 1
            focus ((intro w hSw; (try dsimp only at hSw); go_simp); try with_reducible rfl)
            try simp only [Act.put, Array.getInternal_eq_getElem, List.getElem_toArray, List.getElem_cons_zero, List.getElem_cons_succ, List.setIfInBounds_toArray, List.set_cons_zero, List.set_cons_succ]
            refine anyT_pure (i := 6) (v := ?_) rfl (by kernel_rfl) (by kernel_rfl) (by kernel_rfl) (fun _ _ _ h => h) (Or.inl ⟨by rfl, ?_⟩) (by assumption) ?_
            rotate_left 1
            focus ((intro w hSw; (try dsimp only at hSw); go_simp); try with_reducible rfl)
            try simp only [Act.put, Array.getInternal_eq_getElem, List.getElem_toArray, List.getElem_cons_zero, List.getElem_cons_succ, List.setIfInBounds_toArray, List.set_cons_zero, List.set_cons_succ]
            refine anyT_pure (i := 7) (v := ?_) rfl (by kernel_rfl) (by kernel_rfl) (by kernel_rfl) (fun _ _ _ h => h) (Or.inl ⟨by rfl, ?_⟩) (by assumption) ?_
            rotate_left 1
            focus ((intro w hSw; (try dsimp only at hSw); go_simp); try with_reducible rfl)
            try simp only [Act.put, Array.getInternal_eq_getElem, List.getElem_toArray, List.getElem_cons_zero, List.getElem_cons_succ, List.setIfInBounds_toArray, List.set_cons_zero, List.set_cons_succ]
            refine anyT_ready (rs := [8]) (by kernel_rfl) (by simp) ?_
            refine AllT.cons rfl (fun K1 hK1 => ?_) AllT.nil
            try simp only [Array.getInternal_eq_getElem, List.getElem_toArray, List.getElem_cons_zero, List.getElem_cons_succ]
            go_simp
            refine hK1.out _ _ ⟨fun h => absurd h (by simp), trivial⟩ (fun hT => ?_)
            clear hK1 K1
            try simp only [Act.put, Array.getInternal_eq_getElem, List.getElem_toArray, List.getElem_cons_zero, List.getElem_cons_succ, List.setIfInBounds_toArray, List.set_cons_zero, List.set_cons_succ]
            refine anyT_done (by kernel_rfl) ?_ _
            clear x10 xl xt xtf3
            generalize (wt.setCell ⟨g, k * 6 + 3, none⟩ (.int .i64 ft)) = W4x at *
            have hdW : Below W4x.heap.size W4x W4x.drew := below_drew (Below.refl _ _)
            have hOa := hOa0.below hdW
            have hCa := hCa0.trans (Chg.of_below hdW)
            have hFa := hFa0.below hdW
            clear hOa0 hCa0 hFa0 hdW
            generalize W4x.drew = W5 at *
            rw [show ((cn : Int) + (uRowN f' [p.test] 1 : Nat)) = ((cn + (if f' p.test = p.test then 0 else 1) : Nat) : Int) from by rw [← hcT.out]; push_cast; rfl]
            obtain ⟨cnT, hcnT⟩ : ∃ cnT, cnT = cn + (if f' p.test = p.test then 0 else 1) := ⟨_, rfl⟩
            have hcnT2 : cnT ≤ 50001 := by rw [hcnT]; split <;> omega
            rw [← hcnT] at HN2 ⊢
            clear hcnT hcT
            have ho := hCa.blk o6 (fun h => by have := (hFOs.out _ h).2; omega)
            obtain ⟨_, _, _, _, hpt, _, _, _, h4⟩ := ow_readQ hOa (get_set hkL)
            obtain ⟨A4', c4', rfl, _⟩ := h4
            have x5 := hpt.2.2.2.2.2
            obtain ⟨y1, _⟩ := cell_of_block ho
            have x10 : W5.cell? ⟨ob, 0, none⟩ = some (.slice (some ⟨g, 0, none⟩) s.parts.length c) := (y1 0).trans rfl
            have hS3 : Ow true 67 partA W5 FO (.slice (some ⟨g, 0, none⟩) s.parts.length c) (L.set k { p with code := cd, test := f' p.test, args := uArgs f' p.args 0 }) := by
              rw [(uArgs_zero f' p.args).1]; exact hOa
            have hX5 := Lib.hid x5
            have hA0 := Lib.hid (uArgs_zero f' p.args).2
            clear hpt hOa y1 ho
            go_wp2_with fail
            clear x5 x10
            go_loopw [9, 135] (fun nv xv wr => ∃ i : Nat, i ≤ p.args.length ∧ nv = .int .i64 ((cnT + uArgsN f' p.args i : Nat) : Int) ∧ xv = .int .i64 i ∧ Ow true 67 partA wr FO (.slice (some ⟨g, 0, none⟩) s.parts.length c) (L.set k { p with code := cd, test := f' p.test, args := uArgs f' p.args i }) ∧ Chg FO w6 wr ∧ Ow true 3 Rp.int wr (fun q => W1.heap.size ≤ q) (.slice sA farL sc) far ∧ Hid (wr.cell? ⟨g, k * 6 + 5, none⟩ = some (.slice A4' p.args.length c4'))) (fun _ xv _ => p.args.length - (intOf xv).toNat)
            case atStart => exact ⟨0, Nat.zero_le _, by rw [hA0.out]; simp, rfl, hS3, hCa, hFa, hX5⟩
            case round =>
              clear hS3 hX5 hCa hFa
              obtain ⟨i, hi, rfl, rfl, HO, HC, HF, HX5⟩ := hrel
              rename World => wa
              by_cases hit : i < p.args.length
              · obtain ⟨l, hle⟩ : ∃ l, l = p.args[i] := ⟨_, rfl⟩
                have hl : p.args[i]? = some l := by rw [hle, List.getElem?_eq_getElem hit]
                have hlm : l ∈ p.args := List.mem_of_getElem? hl
                have hl3 := hal2.out l hlm
                have HEl := Lib.hid (fun v (hv : v ∈ l) => HEa.out l hlm v hv)
                obtain ⟨st1, st2⟩ := uArgs_step f' p.args hit
                rw [← hle] at st1 st2
                have hcA : uArgsN f' p.args i ≤ 3000 := Nat.le_trans (uArgsN_le f' i hal2.out) (by have := Nat.mul_le_mul_right 300 hal; omega)
                obtain ⟨ag, hag⟩ : ∃ ag, ag = uArgs f' p.args i := ⟨_, rfl⟩
                obtain ⟨cn3, hcn3⟩ : ∃ cn3, cn3 = cnT + uArgsN f' p.args i := ⟨_, rfl⟩
                have hagl : ag[i]? = some l := by rw [hag, uArgs_get f' p.args hit, hle]
                have hagn : Hid (ag.length = p.args.length) := Lib.hid (by rw [hag]; exact uArgs_len f' p.args (by omega))
                have hnx : Hid (uArgs f' p.args (i + 1) = ag.set i (l.map f') ∧ cnT + uArgsN f' p.args (i + 1) = cn3 + uRowN f' l l.length) := Lib.hid (by rw [st1, st2, hag, hcn3]; exact ⟨rfl, by omega⟩)
                rw [← hag] at HO
                rw [← hcn3]
                have hcn4 : cn3 ≤ 60000 := by omega
                clear st1 st2 hag hcn3 hle hlm hl
                obtain ⟨ga, ca, u, G, xa, xu, hOu, hG, hga, hCl⟩ := ow_argInQ HO (get_set hkL) hagl
                have hA4 := Option.some.inj (xa.symm.trans (by rw [show ({ p with code := cd, test := f' p.test, args := ag } : Pt).args.length = p.args.length from hagn.out]; exact HX5.out : wa.cell? ⟨g, k * 6 + 5, none⟩ = some (.slice A4' ({ p with code := cd, test := f' p.test, args := ag } : Pt).args.length c4')))
                injection hA4 with hA4 hlen hc4
                clear hlen
                subst hA4
                subst hc4
                obtain ⟨Au0, cu0, rfl, _, _⟩ := hOu.form
                obtain ⟨Au, cu, xm, hu⟩ := HCk2.out wa HC
                have i0 : (0 : Int) ≤ (i : Int) := Int.natCast_nonneg _
                have i1 : (i : Int) < (p.args.length : Int) := by omega
                have hwa := HC.size
                have hGd : Hid (∀ q, G q → ¬ FR q ∧ ¬ (W1.heap.size ≤ q)) := Lib.hid (fun q hq => ⟨hDisj.out q (hG q hq).1, fun h => by have h1 := (hFOs.out q (hG q hq).1).2; have h2 := hz1o.out; omega⟩)
                have HCa := Lib.hid (HUt.out wa HC G (fun q => W1.heap.size ≤ q) _ _ _ _ l hOu hGd.out HF.rd HEl.out (by omega) hu)
                have hrn := uRowN_le f' l l.length
                have hGF : Hid (∀ q, G q → FO q ∧ q ≠ ga ∧ q ≠ g) := Lib.hid (fun q hq => ⟨(hG q hq).1, (hG q hq).2.1, (hG q hq).2.2.1⟩)
                have hHO := Lib.hid HO
                clear xa hu HO hG
                go_wp2_with fail
                refine HCa.out.mono ?_
                rintro e wb ⟨rfl, hOb, hCb⟩
                have hOn := hCl wb _ hCb hOb
                have hE : Ow true 67 partA wb FO (.slice (some ⟨g, 0, none⟩) s.parts.length c) (L.set k { p with code := cd, test := f' p.test, args := uArgs f' p.args (i + 1) }) := by
                  rw [hnx.out.1]
                  have h := hOn
                  rw [List.set_set] at h
                  exact h
                have hCn := HC.trans (hCb.mono (fun q hq => (hGF.out q hq).1))
                have hFn := HF.move (hCb.same (fun q hq h => (hGd.out q h).2 hq))
                have hXn : Hid (wb.cell? ⟨g, k * 6 + 5, none⟩ = some (.slice (some ⟨ga, 0, none⟩) p.args.length ca)) := Lib.hid (hCb.cell HX5.out (fun h => (hGF.out _ h).2.2 rfl))
                clear HCa hCl hOu xu xm hOb hOn hCb
                go_wp2_with fail
                go_roundw
                case rel => exact ⟨i + 1, by omega, by rw [hnx.out.2]; push_cast; rfl, by go_num, hE, hCn, hFn, hXn⟩
                case measure => simp [intOf]; omega
              · obtain rfl : i = p.args.length := by omega
                have hE : Ow true 67 partA wa FO (.slice (some ⟨g, 0, none⟩) s.parts.length c) (uAll (fU s) s.parts (k + 1)) := by
                  rw [HN2.out.1]; exact HO
                have hN : Hid (uAllN (fU s) s.parts (k + 1) = cnT + uArgsN f' p.args p.args.length) := Lib.hid HN2.out.2
                go_wp2_with fail
                go_roundw
                case rel => exact ⟨k + 1, by omega, by rw [hN.out], by go_num, hE, HC⟩
                case measure => simp [intOf]; omega
          · by_cases hg5 : p.go = 5
            · have HTB : Hid (testB p.go = true) := Lib.hid (by rw [hTBe.out, hg5]; rfl)
              have HN2 : Hid (uAll (fU s) s.parts (k + 1) = L.set k { p with code := cd, test := f' p.test, args := uArgs f' p.args p.args.length } ∧ uAllN (fU s) s.parts (k + 1) = cn + (if f' p.test = p.test then 0 else 1) + uArgsN f' p.args p.args.length) := Lib.hid (by have h := HN3.out; rw [HTB.out] at h; exact h)
              have t2 : (p.go == 2) = false := by simpa using hg2
              have t5 : (p.go == 5) = true := by simpa using hg5
              clear HN3 hTBe hg2 hg5
              obtain ⟨y1, _⟩ := cell_of_block HP
              obtain ⟨Au, cu, xm, hu⟩ := HCk2.out wi HC
              have hbl := below_new (w := wi) (.cells #[.int .i64 p.test] 3)
              have hnl := heap_alloc_new wi (.cells #[.int .i64 p.test] 3)
              have hOl : Ow true 3 Rp.int (wi.alloc (.cells #[.int .i64 p.test] 3)) (fun q => q = wi.heap.size ∨ False) (.slice (some ⟨wi.heap.size, 0, none⟩) 1 1) [p.test] := ow_lit1 (r := Rp.int) (G := fun _ => False) hnl rfl rfl (fun _ h => h.elim)
              have hCl0 := HC.trans (Chg.of_below hbl)
              have hszi := HC.size
              have hZo := HZ.out
              have HCa := Lib.hid (HUt.out _ hCl0 (fun q => q = wi.heap.size ∨ False) (fun q => W1.heap.size ≤ q ∧ q < wi.heap.size) _ _ _ _ [p.test] hOl (fun q hq => by
                have hq : q = wi.heap.size := hq.elim id False.elim
                exact ⟨fun h => by have := hFRs.out q h; omega, fun h => by have := h.2; omega⟩) (HF.bound.below hbl).rd (fun v hv => by rw [List.mem_singleton.1 hv]; exact HEt.out HTB.out) (by simp) (hu.below hbl))
              have xm1 := cell_below hbl xm
              have hrn := uRowN_le f' [p.test] 1
              have hrn1 : uRowN f' [p.test] 1 ≤ 1 := Nat.le_trans hrn (by simp)
              have hZx : wi.heap.size < (wi.alloc (.cells #[.int .i64 p.test] 3)).heap.size := by simp
              have hHO := Lib.hid HO
              have hHF := Lib.hid HF
              have hHC := Lib.hid HC
              clear hOl hu xm HO HF HC hCl0 HP
              go_wp2_with fail
              generalize wi.alloc (.cells #[.int .i64 p.test] 3) = Wl at *
              refine HCa.out.mono ?_
              rintro e wt ⟨rfl, hOt, hCt⟩
              clear HCa xm1 y1
              have hbt : Below wi.heap.size wi wt := hCt.to_below hbl hbl.size (fun q hq => by have hq : q = wi.heap.size := hq.elim id False.elim; omega)
              obtain ⟨xl, _⟩ := hOt.int_at (k := 0) (by simp)
              obtain ⟨ft, hft⟩ : ∃ ft, ft = f' p.test := ⟨_, rfl⟩
              replace xl : wt.cell? ⟨wi.heap.size, 0, none⟩ = some (.int .i64 ft) := by rw [hft]; exact xl
              have HOt := hHO.out.below hbt
              obtain ⟨xt, xtf, xtg, hSet⟩ := ow_testQ HOt (get_set hkL)
              have hCt6 := hHC.out.trans (Chg.of_below hbt)
              obtain ⟨y1, _⟩ := cell_of_block (hCt6.blk o6 (fun h => by have := (hFOs.out _ h).2; omega))
              have x10 : wt.cell? ⟨ob, 0, none⟩ = some (.slice (some ⟨g, 0, none⟩) s.parts.length c) := (y1 0).trans rfl
              have hOa0 : Ow true 67 partA (wt.setCell ⟨g, k * 6 + 3, none⟩ (.int .i64 ft)) FO (.slice (some ⟨g, 0, none⟩) s.parts.length c) (L.set k { p with code := cd, test := f' p.test }) := by
                have h := hSet ft
                rw [List.set_set] at h
                rw [← hft]
                exact h
              have hSg := Chg.set (A := fun q => q = g) (w := wt) (b := g) (o := k * 6 + 3) (u := .int .i64 ft) rfl
              have hCa0 := hCt6.trans (hSg.mono (fun q hq => by have hq : q = g := hq; rw [hq]; exact xtg.1))
              have hFa0 := (hHF.out.below hbt).move (hSg.same (fun q hq h => by have h : q = g := h; have hq : W1.heap.size ≤ q := hq; have h1 := (hFOs.out g xtg.1).2; have h2 := hz1o.out; omega))
              have hcT : Hid (cn + uRowN f' [p.test] 1 = cn + (if f' p.test = p.test then 0 else 1)) := Lib.hid (by unfold uRowN cntV; simp)
              replace hft := Lib.hid hft
              have xtf3 := xtf (k * 6 + 3)
              clear hCt hOt hSet HOt y1 hCt6 hSg xtf
              go_upto_region 26 with fail
              refine anyT_region [(8, fun w' => w'.cell? ⟨ob, 0, none⟩ = some (.slice (some ⟨g, 0, none⟩) s.parts.length c) ∧ w'.cell? ⟨wi.heap.size, 0, none⟩ = some (.int .i64 ft))] (by kernel_rfl) ⟨fun _ => ⟨x10, xl⟩, trivial⟩ (fun hT => ?_)
              refine anyT_pure (i := 0) (v := ?_) rfl (by kernel_rfl) (by kernel_rfl) (by kernel_rfl) (fun _ _ _ h => h) (Or.inl ⟨by rfl, ?_⟩) (by assumption) ?_
              rotate_left 1
              focus ((intro w hSw; (try dsimp only at hSw); go_simp); try with_reducible rfl)
              try simp only [Act.put, Array.getInternal_eq_getElem, List.getElem_toArray, List.getElem_cons_zero, List.getElem_cons_succ, List.setIfInBounds_toArray, List.set_cons_zero, List.set_cons_succ]
              refine anyT_pure (i := 2) (v := ?_) rfl (by kernel_rfl) (by kernel_rfl) (by kernel_rfl) (fun _ _ _ h => h) (Or.inl ⟨by rfl, ?_⟩) (by assumption) ?_
              rotate_left 1
              focus ((intro w hSw; (try dsimp only at hSw); go_simp); try with_reducible rfl)
              try simp only [Act.put, Array.getInternal_eq_getElem, List.getElem_toArray, List.getElem_cons_zero, List.getElem_cons_succ, List.setIfInBounds_toArray, List.set_cons_zero, List.set_cons_succ]
              refine anyT_pure (i := 3) (v := ?_) rfl (by kernel_rfl) (by kernel_rfl) (by kernel_rfl) (fun _ _ _ h => h) (Or.inl ⟨by rfl, ?_⟩) (by assumption) ?_
              rotate_left 1
              focus ((intro w hSw; (try dsimp only at hSw); go_simp); try with_reducible rfl)
              try simp only [Act.put, Array.getInternal_eq_getElem, List.getElem_toArray, List.getElem_cons_zero, List.getElem_cons_succ, List.setIfInBounds_toArray, List.set_cons_zero, List.set_cons_succ]
              refine anyT_pure (i := 4) (v := ?_) rfl (by kernel_rfl) (by kernel_rfl) (by kernel_rfl) (fun _ _ _ h => h) (Or.inl ⟨by rfl, ?_⟩) (by assumption) ?_
              rotate_left 1
              focus ((intro w hSw; (try dsimp only at hSw); go_simp); try with_reducible rfl)
              try simp only [Act.put, Array.getInternal_eq_getElem, List.getElem_toArray, List.getElem_cons_zero, List.getElem_cons_succ, List.setIfInBounds_toArray, List.set_cons_zero, List.set_cons_succ]
              refine anyT_take (k := 0) (i := 1) (v := ?_) rfl rfl (by kernel_rfl) (by kernel_rfl) (by kernel_rfl) (fun _ _ _ h => h) (Or.inl ⟨by rfl, ?_⟩) (by assumption) ?_
              rotate_left 1
              focus ((intro w hSw; (try dsimp only at hSw); go_simp); try with_reducible rfl)
              try simp only [Act.put, Array.getInternal_eq_getElem, List.getElem_toArray, List.getElem_cons_zero, List.getElem_cons_succ, List.setIfInBounds_toArray, List.set_cons_zero, List.set_cons_succ]
              refine anyT_take (k := 0) (i := 5) (v := ?_) rfl rfl (by kernel_rfl) (by kernel_rfl) (by kernel_rfl) (fun _ _ _ h => h) (Or.inl ⟨by rfl, ?_⟩) (by assumption) ?_
              rotate_left 1
              focus ((intro w hSw; (try dsimp only at hSw); go_simp); try with_reducible rfl)
              try simp only [Act.put, Array.getInternal_eq_getElem, List.getElem_toArray, List.getElem_cons_zero, List.getElem_cons_succ, List.setIfInBounds_toArray, List.set_cons_zero, List.set_cons_succ]
              refine anyT_pure (i := 6) (v := ?_) rfl (by kernel_rfl) (by kernel_rfl) (by kernel_rfl) (fun _ _ _ h => h) (Or.inl ⟨by rfl, ?_⟩) (by assumption) ?_
              rotate_left 1
              focus ((intro w hSw; (try dsimp only at hSw); go_simp); try with_reducible rfl)
              try simp only [Act.put, Array.getInternal_eq_getElem, List.getElem_toArray, List.getElem_cons_zero, List.getElem_cons_succ, List.setIfInBounds_toArray, List.set_cons_zero, List.set_cons_succ]
              refine anyT_pure (i := 7) (v := ?_) rfl (by kernel_rfl) (by kernel_rfl) (by kernel_rfl) (fun _ _ _ h => h) (Or.inl ⟨by rfl, ?_⟩) (by assumption) ?_
              rotate_left 1
              focus ((intro w hSw; (try dsimp only at hSw); go_simp); try with_reducible rfl)
              try simp only [Act.put, Array.getInternal_eq_getElem, List.getElem_toArray, List.getElem_cons_zero, List.getElem_cons_succ, List.setIfInBounds_toArray, List.set_cons_zero, List.set_cons_succ]
              refine anyT_ready (rs := [8]) (by kernel_rfl) (by simp) ?_
              refine AllT.cons rfl (fun K1 hK1 => ?_) AllT.nil
              try simp only [Array.getInternal_eq_getElem, List.getElem_toArray, List.getElem_cons_zero, List.getElem_cons_succ]
              go_simp
              refine hK1.out _ _ ⟨fun h => absurd h (by simp), trivial⟩ (fun hT => ?_)
              clear hK1 K1
              try simp only [Act.put, Array.getInternal_eq_getElem, List.getElem_toArray, List.getElem_cons_zero, List.getElem_cons_succ, List.setIfInBounds_toArray, List.set_cons_zero, List.set_cons_succ]
              refine anyT_done (by kernel_rfl) ?_ _
              clear x10 xl xt xtf3
              generalize (wt.setCell ⟨g, k * 6 + 3, none⟩ (.int .i64 ft)) = W4x at *
              have hdW : Below W4x.heap.size W4x W4x.drew := below_drew (Below.refl _ _)
              have hOa := hOa0.below hdW
              have hCa := hCa0.trans (Chg.of_below hdW)
              have hFa := hFa0.below hdW
              clear hOa0 hCa0 hFa0 hdW
              generalize W4x.drew = W5 at *
              rw [show ((cn : Int) + (uRowN f' [p.test] 1 : Nat)) = ((cn + (if f' p.test = p.test then 0 else 1) : Nat) : Int) from by rw [← hcT.out]; push_cast; rfl]
              obtain ⟨cnT, hcnT⟩ : ∃ cnT, cnT = cn + (if f' p.test = p.test then 0 else 1) := ⟨_, rfl⟩
              have hcnT2 : cnT ≤ 50001 := by rw [hcnT]; split <;> omega
              rw [← hcnT] at HN2 ⊢
              clear hcnT hcT
              have ho := hCa.blk o6 (fun h => by have := (hFOs.out _ h).2; omega)
              obtain ⟨_, _, _, _, hpt, _, _, _, h4⟩ := ow_readQ hOa (get_set hkL)
              obtain ⟨A4', c4', rfl, _⟩ := h4
              have x5 := hpt.2.2.2.2.2
              obtain ⟨y1, _⟩ := cell_of_block ho
              have x10 : W5.cell? ⟨ob, 0, none⟩ = some (.slice (some ⟨g, 0, none⟩) s.parts.length c) := (y1 0).trans rfl
              have hS3 : Ow true 67 partA W5 FO (.slice (some ⟨g, 0, none⟩) s.parts.length c) (L.set k { p with code := cd, test := f' p.test, args := uArgs f' p.args 0 }) := by
                rw [(uArgs_zero f' p.args).1]; exact hOa
              have hX5 := Lib.hid x5
              have hA0 := Lib.hid (uArgs_zero f' p.args).2
              clear hpt hOa y1 ho
              go_wp2_with fail
              clear x5 x10
              go_loopw [9, 135] (fun nv xv wr => ∃ i : Nat, i ≤ p.args.length ∧ nv = .int .i64 ((cnT + uArgsN f' p.args i : Nat) : Int) ∧ xv = .int .i64 i ∧ Ow true 67 partA wr FO (.slice (some ⟨g, 0, none⟩) s.parts.length c) (L.set k { p with code := cd, test := f' p.test, args := uArgs f' p.args i }) ∧ Chg FO w6 wr ∧ Ow true 3 Rp.int wr (fun q => W1.heap.size ≤ q) (.slice sA farL sc) far ∧ Hid (wr.cell? ⟨g, k * 6 + 5, none⟩ = some (.slice A4' p.args.length c4'))) (fun _ xv _ => p.args.length - (intOf xv).toNat)
              case atStart => exact ⟨0, Nat.zero_le _, by rw [hA0.out]; simp, rfl, hS3, hCa, hFa, hX5⟩
              case round =>
                clear hS3 hX5 hCa hFa
                obtain ⟨i, hi, rfl, rfl, HO, HC, HF, HX5⟩ := hrel
                rename World => wa
                by_cases hit : i < p.args.length
                · obtain ⟨l, hle⟩ : ∃ l, l = p.args[i] := ⟨_, rfl⟩
                  have hl : p.args[i]? = some l := by rw [hle, List.getElem?_eq_getElem hit]
                  have hlm : l ∈ p.args := List.mem_of_getElem? hl
                  have hl3 := hal2.out l hlm
                  have HEl := Lib.hid (fun v (hv : v ∈ l) => HEa.out l hlm v hv)
                  obtain ⟨st1, st2⟩ := uArgs_step f' p.args hit
                  rw [← hle] at st1 st2
                  have hcA : uArgsN f' p.args i ≤ 3000 := Nat.le_trans (uArgsN_le f' i hal2.out) (by have := Nat.mul_le_mul_right 300 hal; omega)
                  obtain ⟨ag, hag⟩ : ∃ ag, ag = uArgs f' p.args i := ⟨_, rfl⟩
                  obtain ⟨cn3, hcn3⟩ : ∃ cn3, cn3 = cnT + uArgsN f' p.args i := ⟨_, rfl⟩
                  have hagl : ag[i]? = some l := by rw [hag, uArgs_get f' p.args hit, hle]
                  have hagn : Hid (ag.length = p.args.length) := Lib.hid (by rw [hag]; exact uArgs_len f' p.args (by omega))
                  have hnx : Hid (uArgs f' p.args (i + 1) = ag.set i (l.map f') ∧ cnT + uArgsN f' p.args (i + 1) = cn3 + uRowN f' l l.length) := Lib.hid (by rw [st1, st2, hag, hcn3]; exact ⟨rfl, by omega⟩)
                  rw [← hag] at HO
                  rw [← hcn3]
                  have hcn4 : cn3 ≤ 60000 := by omega
                  clear st1 st2 hag hcn3 hle hlm hl
                  obtain ⟨ga, ca, u, G, xa, xu, hOu, hG, hga, hCl⟩ := ow_argInQ HO (get_set hkL) hagl
                  have hA4 := Option.some.inj (xa.symm.trans (by rw [show ({ p with code := cd, test := f' p.test, args := ag } : Pt).args.length = p.args.length from hagn.out]; exact HX5.out : wa.cell? ⟨g, k * 6 + 5, none⟩ = some (.slice A4' ({ p with code := cd, test := f' p.test, args := ag } : Pt).args.length c4')))
                  injection hA4 with hA4 hlen hc4
                  clear hlen
                  subst hA4
                  subst hc4
                  obtain ⟨Au0, cu0, rfl, _, _⟩ := hOu.form
                  obtain ⟨Au, cu, xm, hu⟩ := HCk2.out wa HC
                  have i0 : (0 : Int) ≤ (i : Int) := Int.natCast_nonneg _
                  have i1 : (i : Int) < (p.args.length : Int) := by omega
                  have hwa := HC.size
                  have hGd : Hid (∀ q, G q → ¬ FR q ∧ ¬ (W1.heap.size ≤ q)) := Lib.hid (fun q hq => ⟨hDisj.out q (hG q hq).1, fun h => by have h1 := (hFOs.out q (hG q hq).1).2; have h2 := hz1o.out; omega⟩)
                  have HCa := Lib.hid (HUt.out wa HC G (fun q => W1.heap.size ≤ q) _ _ _ _ l hOu hGd.out HF.rd HEl.out (by omega) hu)
                  have hrn := uRowN_le f' l l.length
                  have hGF : Hid (∀ q, G q → FO q ∧ q ≠ ga ∧ q ≠ g) := Lib.hid (fun q hq => ⟨(hG q hq).1, (hG q hq).2.1, (hG q hq).2.2.1⟩)
                  have hHO := Lib.hid HO
                  clear xa hu HO hG
                  go_wp2_with fail
                  refine HCa.out.mono ?_
                  rintro e wb ⟨rfl, hOb, hCb⟩
                  have hOn := hCl wb _ hCb hOb
                  have hE : Ow true 67 partA wb FO (.slice (some ⟨g, 0, none⟩) s.parts.length c) (L.set k { p with code := cd, test := f' p.test, args := uArgs f' p.args (i + 1) }) := by
                    rw [hnx.out.1]
                    have h := hOn
                    rw [List.set_set] at h
                    exact h
                  have hCn := HC.trans (hCb.mono (fun q hq => (hGF.out q hq).1))
                  have hFn := HF.move (hCb.same (fun q hq h => (hGd.out q h).2 hq))
                  have hXn : Hid (wb.cell? ⟨g, k * 6 + 5, none⟩ = some (.slice (some ⟨ga, 0, none⟩) p.args.length ca)) := Lib.hid (hCb.cell HX5.out (fun h => (hGF.out _ h).2.2 rfl))
                  clear HCa hCl hOu xu xm hOb hOn hCb
                  go_wp2_with fail
                  go_roundw
                  case rel => exact ⟨i + 1, by omega, by rw [hnx.out.2]; push_cast; rfl, by go_num, hE, hCn, hFn, hXn⟩
                  case measure => simp [intOf]; omega
                · obtain rfl : i = p.args.length := by omega
                  have hE : Ow true 67 partA wa FO (.slice (some ⟨g, 0, none⟩) s.parts.length c) (uAll (fU s) s.parts (k + 1)) := by
                    rw [HN2.out.1]; exact HO
                  have hN : Hid (uAllN (fU s) s.parts (k + 1) = cnT + uArgsN f' p.args p.args.length) := Lib.hid HN2.out.2
                  go_wp2_with fail
                  go_roundw
                  case rel => exact ⟨k + 1, by omega, by rw [hN.out], by go_num, hE, HC⟩
                  case measure => simp [intOf]; omega
            · have HTB : Hid (testB p.go = false) := Lib.hid (by rw [hTBe.out]; simp [hg2, hg5])
              have HN2 : Hid (uAll (fU s) s.parts (k + 1) = L.set k { p with code := cd, args := uArgs f' p.args p.args.length } ∧ uAllN (fU s) s.parts (k + 1) = cn + uArgsN f' p.args p.args.length) := Lib.hid (by have h := HN3.out; rw [HTB.out] at h; exact h)
              have t2 : (p.go == 2) = false := by simpa using hg2
              have t5 : (p.go == 5) = false := by simpa using hg5
              clear HN3 hTBe hg2 hg5
              obtain ⟨y1, _⟩ := cell_of_block HP
              have hOa := HO
              have hCa := HC
              have hFa := HF
              have hx2 : wi.cell? ⟨wo.heap.size, 2, none⟩ = some (.int .i64 p.go) := (y1 2).trans rfl
              clear HO HC HF HP y1
              have ho := hCa.blk o6 (fun h => by have := (hFOs.out _ h).2; omega)
              obtain ⟨_, _, _, _, hpt, _, _, _, h4⟩ := ow_readQ hOa (get_set hkL)
              obtain ⟨A4', c4', rfl, _⟩ := h4
              have x5 := hpt.2.2.2.2.2
              obtain ⟨y1, _⟩ := cell_of_block ho
              have x10 : wi.cell? ⟨ob, 0, none⟩ = some (.slice (some ⟨g, 0, none⟩) s.parts.length c) := (y1 0).trans rfl
              have hS3 : Ow true 67 partA wi FO (.slice (some ⟨g, 0, none⟩) s.parts.length c) (L.set k { p with code := cd, args := uArgs f' p.args 0 }) := by
                rw [(uArgs_zero f' p.args).1]; exact hOa
              have hX5 := Lib.hid x5
              have hA0 := Lib.hid (uArgs_zero f' p.args).2
              clear hpt hOa y1 ho
              go_wp2_with fail
              clear x5 x10
              go_loopw [9, 135] (fun nv xv wr => ∃ i : Nat, i ≤ p.args.length ∧ nv = .int .i64 ((cn + uArgsN f' p.args i : Nat) : Int) ∧ xv = .int .i64 i ∧ Ow true 67 partA wr FO (.slice (some ⟨g, 0, none⟩) s.parts.length c) (L.set k { p with code := cd, args := uArgs f' p.args i }) ∧ Chg FO w6 wr ∧ Ow true 3 Rp.int wr (fun q => W1.heap.size ≤ q) (.slice sA farL sc) far ∧ Hid (wr.cell? ⟨g, k * 6 + 5, none⟩ = some (.slice A4' p.args.length c4'))) (fun _ xv _ => p.args.length - (intOf xv).toNat)
              case atStart => exact ⟨0, Nat.zero_le _, by rw [hA0.out]; simp, rfl, hS3, hCa, hFa, hX5⟩
              case round =>
                clear hS3 hX5 hCa hFa
                obtain ⟨i, hi, rfl, rfl, HO, HC, HF, HX5⟩ := hrel
                rename World => wa
                by_cases hit : i < p.args.length
                · obtain ⟨l, hle⟩ : ∃ l, l = p.args[i] := ⟨_, rfl⟩
                  have hl : p.args[i]? = some l := by rw [hle, List.getElem?_eq_getElem hit]
                  have hlm : l ∈ p.args := List.mem_of_getElem? hl
                  have hl3 := hal2.out l hlm
                  have HEl := Lib.hid (fun v (hv : v ∈ l) => HEa.out l hlm v hv)
                  obtain ⟨st1, st2⟩ := uArgs_step f' p.args hit
                  rw [← hle] at st1 st2
                  have hcA : uArgsN f' p.args i ≤ 3000 := Nat.le_trans (uArgsN_le f' i hal2.out) (by have := Nat.mul_le_mul_right 300 hal; omega)
                  obtain ⟨ag, hag⟩ : ∃ ag, ag = uArgs f' p.args i := ⟨_, rfl⟩
                  obtain ⟨cn3, hcn3⟩ : ∃ cn3, cn3 = cn + uArgsN f' p.args i := ⟨_, rfl⟩
                  have hagl : ag[i]? = some l := by rw [hag, uArgs_get f' p.args hit, hle]
                  have hagn : Hid (ag.length = p.args.length) := Lib.hid (by rw [hag]; exact uArgs_len f' p.args (by omega))
                  have hnx : Hid (uArgs f' p.args (i + 1) = ag.set i (l.map f') ∧ cn + uArgsN f' p.args (i + 1) = cn3 + uRowN f' l l.length) := Lib.hid (by rw [st1, st2, hag, hcn3]; exact ⟨rfl, by omega⟩)
                  rw [← hag] at HO
                  rw [← hcn3]
                  have hcn4 : cn3 ≤ 60000 := by omega
                  clear st1 st2 hag hcn3 hle hlm hl
                  obtain ⟨ga, ca, u, G, xa, xu, hOu, hG, hga, hCl⟩ := ow_argInQ HO (get_set hkL) hagl
                  have hA4 := Option.some.inj (xa.symm.trans (by rw [show ({ p with code := cd, args := ag } : Pt).args.length = p.args.length from hagn.out]; exact HX5.out : wa.cell? ⟨g, k * 6 + 5, none⟩ = some (.slice A4' ({ p with code := cd, args := ag } : Pt).args.length c4')))
                  injection hA4 with hA4 hlen hc4
                  clear hlen
                  subst hA4
                  subst hc4
                  obtain ⟨Au0, cu0, rfl, _, _⟩ := hOu.form
                  obtain ⟨Au, cu, xm, hu⟩ := HCk2.out wa HC
                  have i0 : (0 : Int) ≤ (i : Int) := Int.natCast_nonneg _
                  have i1 : (i : Int) < (p.args.length : Int) := by omega
                  have hwa := HC.size
                  have hGd : Hid (∀ q, G q → ¬ FR q ∧ ¬ (W1.heap.size ≤ q)) := Lib.hid (fun q hq => ⟨hDisj.out q (hG q hq).1, fun h => by have h1 := (hFOs.out q (hG q hq).1).2; have h2 := hz1o.out; omega⟩)
                  have HCa := Lib.hid (HUt.out wa HC G (fun q => W1.heap.size ≤ q) _ _ _ _ l hOu hGd.out HF.rd HEl.out (by omega) hu)
                  have hrn := uRowN_le f' l l.length
                  have hGF : Hid (∀ q, G q → FO q ∧ q ≠ ga ∧ q ≠ g) := Lib.hid (fun q hq => ⟨(hG q hq).1, (hG q hq).2.1, (hG q hq).2.2.1⟩)
                  have hHO := Lib.hid HO
                  clear xa hu HO hG
                  go_wp2_with fail
                  refine HCa.out.mono ?_
                  rintro e wb ⟨rfl, hOb, hCb⟩
                  have hOn := hCl wb _ hCb hOb
                  have hE : Ow true 67 partA wb FO (.slice (some ⟨g, 0, none⟩) s.parts.length c) (L.set k { p with code := cd, args := uArgs f' p.args (i + 1) }) := by
                    rw [hnx.out.1]
                    have h := hOn
                    rw [List.set_set] at h
                    exact h
                  have hCn := HC.trans (hCb.mono (fun q hq => (hGF.out q hq).1))
                  have hFn := HF.move (hCb.same (fun q hq h => (hGd.out q h).2 hq))
                  have hXn : Hid (wb.cell? ⟨g, k * 6 + 5, none⟩ = some (.slice (some ⟨ga, 0, none⟩) p.args.length ca)) := Lib.hid (hCb.cell HX5.out (fun h => (hGF.out _ h).2.2 rfl))
                  clear HCa hCl hOu xu xm hOb hOn hCb
                  go_wp2_with fail
                  go_roundw
                  case rel => exact ⟨i + 1, by omega, by rw [hnx.out.2]; push_cast; rfl, by go_num, hE, hCn, hFn, hXn⟩
                  case measure => simp [intOf]; omega
                · obtain rfl : i = p.args.length := by omega
                  have hE : Ow true 67 partA wa FO (.slice (some ⟨g, 0, none⟩) s.parts.length c) (uAll (fU s) s.parts (k + 1)) := by
                    rw [HN2.out.1]; exact HO
                  have hN : Hid (uAllN (fU s) s.parts (k + 1) = cn + uArgsN f' p.args p.args.length) := Lib.hid HN2.out.2
                  go_wp2_with fail
                  go_roundw
                  case rel => exact ⟨k + 1, by omega, by rw [hN.out], by go_num, hE, HC⟩
                  case measure => simp [intOf]; omega
    · obtain rfl : k = s.parts.length := by omega
      have HO : Ow true 67 partA wo FO (.slice (some ⟨g, 0, none⟩) s.parts.length c) ((useS s).parts) := HO
      have hN : Hid (uAllN (fU s) s.parts s.parts.length = useN s) := Lib.hid rfl
      have hr := HC.blk r6 (fun h => by have := (hFOs.out _ h).1; omega)
      have hoz := hBf.out.size
      obtain ⟨y1, _⟩ := cell_of_block ho
      have x10 : wo.cell? ⟨ob, 0, none⟩ = some (.slice (some ⟨g, 0, none⟩) s.parts.length c) := (y1 0).trans rfl
      have x11 : wo.cell? ⟨ob, 1, none⟩ = some (.int .i64 s.values) := (y1 1).trans rfl
      obtain ⟨y1, y2⟩ := cell_of_block hr
      have z10 : wo.cell? ⟨w.heap.size + 1, 0, none⟩ = some (.slice none 0 0) := (y1 0).trans rfl
      have z11 : wo.cell? ⟨w.heap.size + 1, 1, none⟩ = some (.int .i64 0) := (y1 1).trans rfl
      have z20 := y2 0
      have z21 := y2 1
      have hBw : Below w.heap.size w wo := HC.to_below hBf.out hBf.out.size (fun q hq => by have := (hFOs.out q hq).1; omega)
      have hE := res_end (.slice (some ⟨g, 0, none⟩) s.parts.length c) (.int .i64 s.values) hr hBw
      have cF := Lib.hid (cell_of_block hE.1).1
      have hOf := (HO.move (hE.2.2.same (fun q hq h => by have h : q = w.heap.size + 1 := h; have := (hFOs.out q hq).1; omega))).mono (G := fun q => w.heap.size ≤ q) (fun q hq => by have := (hFOs.out q hq).1; omega)
      have hBe := hE.2.1
      clear y1 y2 HO HC hE hr hBw ho
      go_wp2_with fail
      have cF := cF.out
      refine bodyPost_ret (v := .tuple #[.agg #[.slice (some ⟨g, 0, none⟩) s.parts.length c, .int .i64 s.values], .int .i64 (useN s : Nat)]) (by simp [results, Tryz.results23, go_sem, cF, hN.out]) rfl ?_
      exact ⟨_, rfl, hOf, hBe⟩
end Go.Proofs.YtnfaibenekninaaGreat.L
