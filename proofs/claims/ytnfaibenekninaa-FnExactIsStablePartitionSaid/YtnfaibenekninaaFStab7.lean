/- Joined texts, each of which was built by itself: St2 LwStab. -/
import Derived.Test.YtnfaibenekninaaFStab6
import Derived.Test.YtnfaibenekninaaB10
import Derived.Test.YtnfaibenekninaaFStab1
import Derived.Test.YtnfaibenekninaaB2
import Derived.Deep.RegionHeld3
set_option linter.unusedVariables false
set_option linter.unusedSimpArgs false
namespace Go.Proofs.Ytnfaibenekninaa.L
open Go.RowKit
set_option maxRecDepth 100000 in
set_option maxHeartbeats 16000000 in
theorem stableI_calls {F F' : Nat → Prop} (s : Sa) (gl : List Int) (vparts vg : Value) (w : World) (hs : Rp.Rd part w F vparts s.parts) (hgl : Rp.Rd Rp.int w F' vg gl) (hx1 : s.parts.length ≤ 1048576) (hx2 : ∀ p ∈ s.parts, PtLim p) (hgll : gl.length ≤ 1048576) (hgw : ∀ x ∈ gl, in64 x) :
    Calls Try.prog 19 #[saV s vparts, vg] w (BoolRes (StabG s gl) (TellP (stabS s (dfAll s) gl)) w) := by
  obtain ⟨A, c, rfl, _, _, _⟩ := rd_part hs
  obtain ⟨Ag, cg, rfl, _, _, hrg⟩ := rd_int hgl
  have HC := Lib.hid (fun W (hW : Below w.heap.size w W) => viewOf_calls s _ W (hs.below hW) hx1 hx2)
  have HMk := Lib.hid (fun W (hW : Below w.heap.size w W) (hg : GoodP s) vb vn vd vD vT hv hN => makers_calls s gl.length vb (.slice A s.parts.length c) vn vd vD vT W hv (hs.below hW) hg hx2 hN)
  have HQ := Lib.hid (good_iff s)
  have hP := Lib.hid (fun (hg : GoodP s) (hN : (gl.length : Int) = s.values) => (show stabS s (dfAll s) gl ↔ ∀ v, v < gl.length → stepI1 s (dfAll s) gl v by
    rw [← stab_iff hg]
    unfold stabI
    rw [show s.values.toNat = gl.length by omega]))
  have hCp := Lib.hid (fun (hg : GoodP s) (hN : (gl.length : Int) = s.values) k (hk : k < gl.length) => copy_at hg hN hk)
  have hDX := Lib.hid (fun (h : GoodP s) (hN : (gl.length : Int) = s.values) => dctx h hN)
  unfold saV at HC ⊢
  have hB0 := below_then (below_new (w := w) (.cells #[.slice A s.parts.length c, .int .i64 s.values] 31)) (below_new (.cells #[.slice Ag gl.length cg] 25))
  have b0 := blk_below (heap_alloc_new w (.cells #[.slice A s.parts.length c, .int .i64 s.values] 31)) (below_new (.cells #[.slice Ag gl.length cg] 25))
  have g0 := heap_alloc_new (w.alloc (.cells #[.slice A s.parts.length c, .int .i64 s.values] 31)) (.cells #[.slice Ag gl.length cg] 25)
  have hz0 : (w.alloc (.cells #[.slice A s.parts.length c, .int .i64 s.values] 31)).heap.size = w.heap.size + 1 := by simp
  rw [hz0] at g0
  clear hz0
  obtain ⟨P, hPe⟩ : ∃ P, P = stabS s (dfAll s) gl := ⟨_, rfl⟩
  rw [← hPe] at hP ⊢
  clear hPe
  obtain ⟨D, hD⟩ : ∃ D, D = dfAll s := ⟨_, rfl⟩
  rw [← hD] at HMk hP hCp hDX
  clear hD hs hx1 hx2
  have hmm := fun t W => run_makeMap (P := Try.prog) t W
  go_enter Try.func19, Try.ntmps19
  go_wp2_with fail
  refine (HC.out _ hB0).mono ?_
  rintro e w1 (⟨rfl, hn, hb⟩ | ⟨vb, D9, T, M, vn, vd, vD, vT, rfl, hv, hz, hD, hT, hM, hN, hg, hb⟩)
  · have HN : Hid (false = true ↔ StabG s gl) := Lib.hid ⟨fun h => Bool.noConfusion h, fun h => absurd (HQ.out.2 h.1) hn.out⟩
    have HT : Hid (TellP P false false) := Lib.hid ⟨fun h => Bool.noConfusion h, fun h => Bool.noConfusion h.1⟩
    have hB1 := below_then hB0 hb
    clear hn
    go_wp2
    refine bodyPost_ret (v := .tuple #[.bool false, .bool false]) (by simp [results, Try.results19, go_sem]) rfl ?_
    exact .mk false false HN HT rfl hB1
  have hB1 := below_then hB0 hb
  have b1 := blk_below b0 hb
  have g1 := blk_below g0 hb
  have hgp := Lib.hid (HQ.out.1 ⟨D9, T, M, hg.out⟩)
  have hv1 := hgp.out.v1
  have hv2 := hgp.out.v2
  obtain ⟨v0, _⟩ := cell_of_block b1
  have x1 : w1.cell? ⟨w.heap.size, 1, none⟩ = some (.int .i64 s.values) := (v0 1).trans rfl
  obtain ⟨v0, _⟩ := cell_of_block g1
  have bx1 : w1.cell? ⟨w.heap.size + 1, 0, none⟩ = some (.slice Ag gl.length cg) := (v0 0).trans rfl
  clear v0 hg hz hD hT hM hN HC hB0 b0 g0 HQ hb
  by_cases hNV : (gl.length : Int) = s.values
  · have HN : Hid (true = true ↔ StabG s gl) := Lib.hid ⟨fun _ => ⟨hgp.out, hNV⟩, fun _ => rfl⟩
    obtain ⟨rank, X⟩ := hDX.out hgp.out hNV
    have hP := Lib.hid (hP.out hgp.out hNV)
    have hCp := Lib.hid (hCp.out hgp.out hNV)
    have hN0 : 0 < gl.length := by omega
    have hN1 : gl.length ≤ 250 := by omega
    have Hpin := Lib.hid (fun v (hv : v < gl.length) => X.pin (rootD D v) (rootD_lt X.rk hv).1)
    have HMk := Lib.hid (HMk.out _ hB1 hgp.out vb vn vd vD vT hv hNV)
    clear X hDX b1
    go_wp2_with fail
    replace hNV := Lib.hid hNV
    refine HMk.out.mono ?_
    rintro e w2 ⟨vM, rfl, hM, hb2⟩
    have hlM : Hid ((resL s D gl.length).length = gl.length) := Lib.hid (by simp [resL])
    have hgM := Lib.hid (fun v (hv : v < gl.length) (h : v < (resL s D gl.length).length) => (show (resL s D gl.length)[v] = resM s D v by simp [resL]))
    obtain ⟨L, hL⟩ : ∃ L, L = resL s D gl.length := ⟨_, rfl⟩
    rw [← hL] at hM hlM hgM
    clear hL HMk
    have hl1 : L.length ≤ gl.length := by have := hlM.out; omega
    have hl2 : gl.length ≤ L.length := by have := hlM.out; omega
    replace hM := hM.bound
    obtain ⟨AM, cM, rfl, _, _, hrM⟩ := rd_mkr hM
    rcases hrM with hn | ⟨bM, oM, rfl, hbM, hcM⟩
    · exact absurd (congrArg List.length hn) (by rw [List.length_nil]; omega)
    have hB2 := below_then hB1 hb2
    have g2 := blk_below g1 hb2
    rcases hrg with hn | ⟨bg, og, rfl, hbg, hcg⟩
    · rw [hn] at hN0; simp at hN0
    have hcg2 : Hid (∀ k (hk : k < gl.length), w2.cell? ⟨bg, og + k, none⟩ = some (.int .i64 (grO gl k))) := Lib.hid (fun k hk => by rw [grO_get hk]; exact cell_below hB2 (hcg k hk))
    have hs2 := hB2.size
    have hgs := blk_lt g2
    have HcM := Lib.hid hcM
    clear hcM hM hcg hb2 hB1 x1 bx1 g1 hv
    go_wp2_with fail
    have HM0 := MapV.made (val := fstV gl) w2
    have hb3 := below_new (w := w2) (.map #[] 0)
    obtain ⟨W3, hW3⟩ : ∃ W3, W3 = w2.alloc (.map #[] 0) := ⟨_, rfl⟩
    rw [← hW3] at HM0 hb3 ⊢
    clear hW3
    obtain ⟨mb, hmb⟩ : ∃ mb, mb = w2.heap.size := ⟨_, rfl⟩
    rw [← hmb] at HM0 ⊢
    have hMk : Hid (∀ k (hk : k < L.length), ∃ u, MkAt W3 bM (oM + k * 4) L[k] u ∧ Rp.Rd Rp.int W3 (fun q => q < mb) u L[k].uses) := Lib.hid (fun k hk => by
      obtain ⟨u, h1, h2⟩ := HcM.out k hk
      exact ⟨u, h1.below hb3, (h2.mono (fun q hq => by have := hq.2; omega)).below hb3⟩)
    have hcg3 : Hid (∀ k (hk : k < gl.length), W3.cell? ⟨bg, og + k, none⟩ = some (.int .i64 (grO gl k))) := Lib.hid (fun k hk => cell_below hb3 (hcg2.out k hk))
    have g3 := blk_below g2 hb3
    have hbm : bM < mb := by omega
    have hbgm : bg < mb := by omega
    have hgm : w.heap.size + 1 < mb := by omega
    have hB3 := below_then hB2 hb3
    have hclg : Hid (∀ (W' : World) j (hj : j < gl.length), Chg (fun q => q = mb) W3 W' → W'.cell? ⟨bg, og + j, none⟩ = some (.int .i64 (grO gl j))) := Lib.hid (fun W' j hj h => (Rp.cell_move (h.block bg (World.block_lt_of_cell? _ _ (hcg3.out j hj)) (by show ¬ bg = mb; omega)) (og + j)).trans (hcg3.out j hj))
    have hRet : Hid (∀ W' : World, Chg (fun q => q = mb) W3 W' → Below w.heap.size w W') := Lib.hid (fun W' h => h.to_below hB3 hB3.size (fun q hq => by have hq : q = mb := hq; omega))
    have HM0 : MapV (fstV gl) mb (firsts (gl.take 0)) W3 := HM0
    clear HcM hcg2 g2 hb3 hmb hB2 hB3 hs2 hgs hbM
    go_loopw [30] (fun i wr => ∃ k : Nat, k ≤ gl.length ∧ i = .int .i64 k ∧ MapV (fstV gl) mb (firsts (gl.take k)) wr ∧ Chg (fun q => q = mb) W3 wr ∧ Hid (∀ v, v < k → stepI1 s D gl v)) (fun i _ => gl.length - (intOf i).toNat)
    case atStart => exact ⟨0, Nat.zero_le _, rfl, HM0, Chg.refl _ _, Lib.hid (fun v hv => by omega)⟩
    case round =>
      clear HM0
      obtain ⟨k, hk, rfl, HM, HC, HI⟩ := hrel
      rename World => wx
      by_cases hkt : k < gl.length
      · have k0 : (0 : Int) ≤ (k : Int) := Int.natCast_nonneg _
        have k1 : (k : Int) < (gl.length : Int) := by omega
        have k2 : (k : Int) < (L.length : Int) := by omega
        have hkL : k < L.length := by omega
        obtain ⟨u, hu1, hu2⟩ := hMk.out k hkL
        rw [hgM.out k hkt hkL] at hu1 hu2
        have hcl : ∀ (o : Nat) (x : Value), W3.cell? ⟨bM, o, none⟩ = some x → wx.cell? ⟨bM, o, none⟩ = some x := fun o x h => (Rp.cell_move (HC.block bM (World.block_lt_of_cell? _ _ h) (by show ¬ bM = mb; omega)) o).trans h
        have z0 := hcl _ _ hu1.c0
        have z1 := hcl _ _ hu1.c1
        have z2 := hcl _ _ hu1.c2
        have z3 := hcl _ _ hu1.c3
        have hu3 := hu2.move (HC.same (fun q hq h => by have hq : q < mb := hq; have h : q = mb := h; omega))
        have hIn : Hid (stepI1 s D gl k → ∀ v, v < k + 1 → stepI1 s D gl v) := Lib.hid (fun h v hv => by
          rcases Nat.lt_or_eq_of_le (Nat.le_of_lt_succ hv) with h2 | rfl
          · exact HI.out v h2
          · exact h)
        have Hpk := Hpin.out k hkt
        have hkok := hgw (grO gl k) (by rw [grO_get hkt]; exact List.getElem_mem hkt)
        have hcpk := hCp.out k hkt
        have hsk : Hid (sortD D (rootD D k) = ((resM s D k).kind, (resM s D k).n)) := Lib.hid rfl
        have hur : (resM s D k).uses = partsD s D (rootD D k) := rfl
        rw [← hur] at Hpk
        obtain ⟨rm, hrm⟩ : ∃ rm, rm = resM s D k := ⟨_, rfl⟩
        rw [← hrm] at z0 z1 z3 hu3 Hpk hcpk hsk hur
        replace Hpk := Lib.hid Hpk
        replace hur := Lib.hid hur
        obtain ⟨Au, cu, rfl, _, _, _⟩ := rd_int hu3
        have g4 := HC.blk g3 (by show ¬ w.heap.size + 1 = mb; omega)
        have ckx := hclg.out wx k hkt HC
        clear hcl hu1 hu2 hrm
        go_wp2_with fail
        have hb3 := below_new (w := wx) (.cells #[.int .i64 rm.kind, .int .i64 rm.n, .slice Au rm.uses.length cu, .int .i64 rm.copy] 91)
        have x3 := heap_alloc_new wx (.cells #[.int .i64 rm.kind, .int .i64 rm.n, .slice Au rm.uses.length cu, .int .i64 rm.copy] 91)
        obtain ⟨Wa, hWa⟩ : ∃ Wa, Wa = wx.alloc (.cells #[.int .i64 rm.kind, .int .i64 rm.n, .slice Au rm.uses.length cu, .int .i64 rm.copy] 91) := ⟨_, rfl⟩
        rw [← hWa] at hb3 x3 ⊢
        clear hWa
        obtain ⟨yy, _⟩ := cell_of_block x3
        have y0 : Wa.cell? ⟨wx.heap.size, 0, none⟩ = some (.int .i64 rm.kind) := (yy 0).trans rfl
        have y1 : Wa.cell? ⟨wx.heap.size, 1, none⟩ = some (.int .i64 rm.n) := (yy 1).trans rfl
        have y2 : Wa.cell? ⟨wx.heap.size, 2, none⟩ = some (.slice Au rm.uses.length cu) := (yy 2).trans rfl
        have y3 : Wa.cell? ⟨wx.heap.size, 3, none⟩ = some (.int .i64 rm.copy) := (yy 3).trans rfl
        have g5 := blk_below g4 hb3
        obtain ⟨yy, _⟩ := cell_of_block g5
        have bxc : Wa.cell? ⟨w.heap.size + 1, 0, none⟩ = some (.slice (some ⟨bg, og, none⟩) gl.length cg) := (yy 0).trans rfl
        have ck := cell_below hb3 ckx
        have HMa := HM.below hb3
        have HCa := HC.trans (Chg.of_below (A := fun q => q = mb) hb3)
        clear yy x3 z0 z1 z2 z3 ckx g4 g5 HM
        rcases hcpk with ⟨hc1, hop⟩ | ⟨cp, hcN, hc1, hop, hca⟩
        · have hst : Hid ((D.getD k df0).step.op = 2 → grO gl k = grO gl (D.getD k df0).step.a.toNat) := Lib.hid (fun h => absurd h hop)
          rw [hc1] at y3
          clear hop
          go_region
          obtain ⟨Wb, hWb⟩ : ∃ Wb, Wb = Wa.drew := ⟨_, rfl⟩
          have hbW : Below Wa.heap.size Wa Wb := by rw [hWb]; exact below_drew (Below.refl _ _)
          rw [← hWb]
          clear hWb
          have HMb := HMa.below hbW
          have HCb := HCa.trans (Chg.of_below (A := fun q => q = mb) hbW)
          have ck := cell_below hbW ck
          have bxc := cell_below hbW bxc
          have y0 := cell_below hbW y0
          have y1 := cell_below hbW y1
          have y2 := cell_below hbW y2
          clear HMa HCa
          by_cases hin : grO gl k ∈ firsts (gl.take k)
          · obtain ⟨m, m1, m2, m3, m4⟩ := old_at hkt hin
            have hfs : Hid (firsts (gl.take (k + 1)) = firsts (gl.take k)) := Lib.hid (by rw [firsts_take hkt, addF_in hin])
            have hyes := inS_yes hin
            have hmL : m < L.length := by omega
            have hmG : m < gl.length := by omega
            obtain ⟨um, hm1, hm2⟩ := hMk.out m hmL
            rw [hgM.out m hmG hmL] at hm1 hm2
            have hclb : ∀ (o : Nat) (x : Value), W3.cell? ⟨bM, o, none⟩ = some x → Wb.cell? ⟨bM, o, none⟩ = some x := fun o x h => (Rp.cell_move (HCb.block bM (World.block_lt_of_cell? _ _ h) (by show ¬ bM = mb; omega)) o).trans h
            have q0 := hclb _ _ hm1.c0
            have q1 := hclb _ _ hm1.c1
            have q2 := hclb _ _ hm1.c2
            have hm3 := hm2.move (HCb.same (fun q hq h => by have hq := hq; have h : q = mb := h; omega))
            have hk3 := ((hu3.below hb3).below hbW)
            have hlk := Lib.hid (Iff.trans (and_congr_right fun _ => (eqF_map (f := fun u => grO gl u.toNat)).symm) Iff.rfl : likeI s D gl m k ↔ (sortD D (rootD D m) = sortD D (rootD D k) ∧ eqF (fun x y => grO gl x.toNat == grO gl y.toNat) (partsD s D (rootD D m)) (partsD s D (rootD D k))))
            have hOK := Lib.hid (fun (h : likeI s D gl m k) => old_ok (s := s) (D := D) hst.out m1 m3 m4 h)
            have hNO := Lib.hid (fun (h : ¬ likeI s D gl m k) (hP2 : P) => old_no (s := s) (D := D) m1 m3 m4 h (hP.out.1 hP2 k hkt))
            have hpm := Hpin.out m hmG
            have hum : (resM s D m).uses = partsD s D (rootD D m) := rfl
            have hsm : Hid (sortD D (rootD D m) = ((resM s D m).kind, (resM s D m).n)) := Lib.hid rfl
            rw [← hum] at hlk hpm
            rw [← hur.out] at hlk
            rw [hsm.out, hsk.out] at hlk
            obtain ⟨rq, hrq⟩ : ∃ rq, rq = resM s D m := ⟨_, rfl⟩
            rw [← hrq] at q0 q1 hm3 hlk hpm
            replace hpm := Lib.hid hpm
            have hmm : Hid (∀ c : Int, c = fstV gl (grO gl k) → c = (m : Int)) := Lib.hid (fun c h => h.trans m2)
            clear hclb hm1 hm2 hum hsm hrq m2 m3 m4
            obtain ⟨Aq, cq, rfl, _, _, _⟩ := rd_int hm3
            have mm0 : (0 : Int) ≤ (m : Int) := Int.natCast_nonneg _
            have mm1 : (m : Int) < (L.length : Int) := by omega
            obtain ⟨gk, hgk⟩ : ∃ gk, gk = grO gl k := ⟨_, rfl⟩
            rw [← hgk] at ck hin hyes hmm hkok
            clear hgk
            go_wp2_with (first | (at_lookup; refine mapV_look (by rfl) _ _ 87 (by rfl) Try.underlying87 (by rfl) HMb gk hkok (by rfl) ?_; intro ci hci; obtain rfl : ci = (m : Int) := hmm.out _ (hci hin); clear hci; rw [hyes]) | fail)
            by_cases hso : rq.kind = rm.kind ∧ rq.n = rm.n
            · have HEq := fun W => (eq_pairS rq.kind rq.n rm.kind rm.n W).trans (by rw [hso.1, hso.2, beq_self_eq_true, beq_self_eq_true, Bool.and_self])
              have hlk2 : Hid (eqF (fun x y => grO gl x.toNat == grO gl y.toNat) rq.uses rm.uses → likeI s D gl m k) := Lib.hid (fun h => hlk.out.2 ⟨Prod.ext hso.1 hso.2, h⟩)
              have hlk3 : Hid (¬ eqF (fun x y => grO gl x.toNat == grO gl y.toNat) rq.uses rm.uses → ¬ likeI s D gl m k) := Lib.hid (fun h h2 => h (hlk.out.1 h2).2)
              have hbd := below_drew (Below.refl Wb.heap.size Wb)
              have hEF := Lib.hid (eqFun_calls (.slice Aq rq.uses.length cq) (.slice Au rm.uses.length cu) rq.uses rm.uses 60 #[.pointer (some ⟨w.heap.size + 1, 0, none⟩)] (fun x y => grO gl x.toNat == grO gl y.toNat) Wb.drew (hm3.below hbd) (hk3.below hbd) entersStab1
                (fun x hx y hy W hW => stab1_calls x y gl (w.heap.size + 1) bg og cg W (cell_below hW (cell_below hbd bxc)) (fun j hj => cell_below hW (cell_below hbd (hclg.out Wb j hj HCb))) (hpm.out x hx) (Hpk.out y hy)))
              clear hso hlk
              refine wp_region_held_drew (S := (fun w' => w'.cell? ⟨bM, oM + m * 4, none⟩ = some (.int .i64 rq.kind) ∧ w'.cell? ⟨bM, oM + m * 4 + 1, none⟩ = some (.int .i64 rq.n) ∧ w'.cell? ⟨bM, oM + m * 4 + 2, none⟩ = some (.slice Aq rq.uses.length cq) ∧ w'.cell? ⟨wx.heap.size, 0, none⟩ = some (.int .i64 rm.kind) ∧ w'.cell? ⟨wx.heap.size, 1, none⟩ = some (.int .i64 rm.n) ∧ w'.cell? ⟨wx.heap.size, 2, none⟩ = some (.slice Au rm.uses.length cu))) (by kernel_rfl) ⟨q0, q1, q2, y0, y1, y2⟩ (fun hH0 => ?_)
              refine wpAnyH_take (i := 0) (v := ?_) rfl (by kernel_rfl) (by kernel_rfl) (by kernel_rfl) (fun _ _ _ h => h) (Or.inl ⟨by rfl, ?_⟩) (by assumption) ?_
              rotate_left 1
              focus ((intro w hSw; (try dsimp only at hSw); go_simp); try with_reducible rfl)
              try simp only [Act.put, Array.getInternal_eq_getElem, List.getElem_toArray, List.getElem_cons_zero, List.getElem_cons_succ, List.setIfInBounds_toArray, List.set_cons_zero, List.set_cons_succ]
              refine wpAnyH_take (i := 1) (v := ?_) rfl (by kernel_rfl) (by kernel_rfl) (by kernel_rfl) (fun _ _ _ h => h) (Or.inl ⟨by rfl, ?_⟩) (by assumption) ?_
              rotate_left 1
              focus ((intro w hSw; (try dsimp only at hSw); go_simp); try with_reducible rfl)
              try simp only [Act.put, Array.getInternal_eq_getElem, List.getElem_toArray, List.getElem_cons_zero, List.getElem_cons_succ, List.setIfInBounds_toArray, List.set_cons_zero, List.set_cons_succ]
              refine wpAnyH_take (i := 2) (v := ?_) rfl (by kernel_rfl) (by kernel_rfl) (by kernel_rfl) (fun _ _ _ h => h) (Or.inl ⟨by rfl, ?_⟩) (by assumption) ?_
              rotate_left 1
              focus ((intro w hSw; (try dsimp only at hSw); go_simp); try with_reducible rfl)
              try simp only [Act.put, Array.getInternal_eq_getElem, List.getElem_toArray, List.getElem_cons_zero, List.getElem_cons_succ, List.setIfInBounds_toArray, List.set_cons_zero, List.set_cons_succ]
              refine wpAnyH_take (i := 3) (v := ?_) rfl (by kernel_rfl) (by kernel_rfl) (by kernel_rfl) (fun _ _ _ h => h) (Or.inl ⟨by rfl, ?_⟩) (by assumption) ?_
              rotate_left 1
              focus ((intro w hSw; (try dsimp only at hSw); go_simp); try with_reducible rfl)
              try simp only [Act.put, Array.getInternal_eq_getElem, List.getElem_toArray, List.getElem_cons_zero, List.getElem_cons_succ, List.setIfInBounds_toArray, List.set_cons_zero, List.set_cons_succ]
              refine wpAnyH_take (i := 4) (v := ?_) rfl (by kernel_rfl) (by kernel_rfl) (by kernel_rfl) (fun _ _ _ h => h) (Or.inl ⟨by rfl, ?_⟩) (by assumption) ?_
              rotate_left 1
              focus ((intro w hSw; (try dsimp only at hSw); go_simp); try with_reducible rfl)
              try simp only [Act.put, Array.getInternal_eq_getElem, List.getElem_toArray, List.getElem_cons_zero, List.getElem_cons_succ, List.setIfInBounds_toArray, List.set_cons_zero, List.set_cons_succ]
              refine wpAnyH_take (i := 5) (v := ?_) rfl (by kernel_rfl) (by kernel_rfl) (by kernel_rfl) (fun _ _ _ h => h) (Or.inl ⟨by rfl, ?_⟩) (by assumption) ?_
              rotate_left 1
              focus ((intro w hSw; (try dsimp only at hSw); go_simp); try with_reducible rfl)
              try simp only [Act.put, Array.getInternal_eq_getElem, List.getElem_toArray, List.getElem_cons_zero, List.getElem_cons_succ, List.setIfInBounds_toArray, List.set_cons_zero, List.set_cons_succ]
              refine wpAnyH_take (i := 6) (v := ?_) rfl (by kernel_rfl) (by kernel_rfl) (by kernel_rfl) (fun _ _ _ h => h) (Or.inl ⟨by rfl, ?_⟩) (by assumption) ?_
              rotate_left 1
              focus ((intro w hSw; (try dsimp only at hSw); go_simp); try with_reducible rfl)
              try simp only [Act.put, Array.getInternal_eq_getElem, List.getElem_toArray, List.getElem_cons_zero, List.getElem_cons_succ, List.setIfInBounds_toArray, List.set_cons_zero, List.set_cons_succ]
              refine wpAnyH_take (i := 7) (v := ?_) rfl (by kernel_rfl) (by kernel_rfl) (by kernel_rfl) (fun _ _ _ h => h) (Or.inl ⟨by rfl, ?_⟩) (by assumption) ?_
              rotate_left 1
              focus ((intro w hSw; (try dsimp only at hSw); go_simp); try with_reducible rfl)
              try simp only [Act.put, Array.getInternal_eq_getElem, List.getElem_toArray, List.getElem_cons_zero, List.getElem_cons_succ, List.setIfInBounds_toArray, List.set_cons_zero, List.set_cons_succ]
              refine wpAnyH_take (i := 8) (v := ?_) rfl (by kernel_rfl) (by kernel_rfl) (by kernel_rfl) (fun _ _ _ h => h) (Or.inl ⟨by rfl, ?_⟩) (by assumption) ?_
              rotate_left 1
              focus ((intro w hSw; (try dsimp only at hSw); go_simp); try with_reducible rfl)
              try simp only [Act.put, Array.getInternal_eq_getElem, List.getElem_toArray, List.getElem_cons_zero, List.getElem_cons_succ, List.setIfInBounds_toArray, List.set_cons_zero, List.set_cons_succ]
              refine wpAnyH_take (i := 9) (v := ?_) rfl (by kernel_rfl) (by kernel_rfl) (by kernel_rfl) (fun _ _ _ h => h) (Or.inl ⟨by rfl, ?_⟩) (by assumption) ?_
              rotate_left 1
              focus ((intro w hSw; (try dsimp only at hSw); go_simp); try with_reducible rfl)
              try simp only [Act.put, Array.getInternal_eq_getElem, List.getElem_toArray, List.getElem_cons_zero, List.getElem_cons_succ, List.setIfInBounds_toArray, List.set_cons_zero, List.set_cons_succ]
              refine wpAnyH_take (i := 10) (v := ?_) rfl (by kernel_rfl) (by kernel_rfl) (by kernel_rfl) (fun _ _ _ h => h) (Or.inl ⟨by rfl, ?_⟩) (by assumption) ?_
              rotate_left 1
              focus ((intro w hSw; (try dsimp only at hSw); go_simp); try with_reducible rfl)
              try simp only [Act.put, Array.getInternal_eq_getElem, List.getElem_toArray, List.getElem_cons_zero, List.getElem_cons_succ, List.setIfInBounds_toArray, List.set_cons_zero, List.set_cons_succ]
              refine wpAnyH_take (i := 11) (v := ?_) rfl (by kernel_rfl) (by kernel_rfl) (by kernel_rfl) (fun _ _ _ h => h) (Or.inl ⟨by rfl, ?_⟩) (by assumption) ?_
              rotate_left 1
              focus ((intro w hSw; (try dsimp only at hSw); go_simp); try with_reducible rfl)
              try simp only [Act.put, Array.getInternal_eq_getElem, List.getElem_toArray, List.getElem_cons_zero, List.getElem_cons_succ, List.setIfInBounds_toArray, List.set_cons_zero, List.set_cons_succ]
              refine wpAnyH_take (i := 12) (v := ?_) rfl (by kernel_rfl) (by kernel_rfl) (by kernel_rfl) (fun _ _ _ h => h) (Or.inl ⟨by rfl, ?_⟩) (by assumption) ?_
              rotate_left 1
              focus ((intro w hSw; (try dsimp only at hSw); go_simp); try with_reducible rfl)
              try simp only [Act.put, Array.getInternal_eq_getElem, List.getElem_toArray, List.getElem_cons_zero, List.getElem_cons_succ, List.setIfInBounds_toArray, List.set_cons_zero, List.set_cons_succ]
              refine wpAnyH_take (i := 13) (v := ?_) rfl (by kernel_rfl) (by kernel_rfl) (by kernel_rfl) (fun _ _ _ h => h) (Or.inl ⟨by rfl, ?_⟩) (by assumption) ?_
              rotate_left 1
              focus ((intro w hSw; (try dsimp only at hSw); go_simp); try with_reducible rfl)
              try simp only [Act.put, Array.getInternal_eq_getElem, List.getElem_toArray, List.getElem_cons_zero, List.getElem_cons_succ, List.setIfInBounds_toArray, List.set_cons_zero, List.set_cons_succ]
              refine wpAnyH_take (i := 14) (v := ?_) rfl (by kernel_rfl) (by kernel_rfl) (by kernel_rfl) (fun _ _ _ h => h) (Or.inl ⟨by rfl, ?_⟩) (by assumption) ?_
              rotate_left 1
              focus ((intro w hSw; (try dsimp only at hSw); go_simp); try with_reducible rfl)
              try simp only [Act.put, Array.getInternal_eq_getElem, List.getElem_toArray, List.getElem_cons_zero, List.getElem_cons_succ, List.setIfInBounds_toArray, List.set_cons_zero, List.set_cons_succ]
              refine wpAnyH_take (i := 15) (v := ?_) rfl (by kernel_rfl) (by kernel_rfl) (by kernel_rfl) (fun _ _ _ h => h) (Or.inl ⟨by rfl, ?_⟩) (by assumption) ?_
              rotate_left 1
              focus ((intro w hSw; (try dsimp only at hSw); go_simp); try with_reducible rfl)
              try simp only [Act.put, Array.getInternal_eq_getElem, List.getElem_toArray, List.getElem_cons_zero, List.getElem_cons_succ, List.setIfInBounds_toArray, List.set_cons_zero, List.set_cons_succ]
              refine wpAnyH_take (i := 16) (v := ?_) rfl (by kernel_rfl) (by kernel_rfl) (by kernel_rfl) (fun _ _ _ h => h) (Or.inl ⟨by rfl, ?_⟩) (by assumption) ?_
              rotate_left 1
              focus ((intro w hSw; (try dsimp only at hSw); go_simp); try with_reducible rfl)
              try simp only [Act.put, Array.getInternal_eq_getElem, List.getElem_toArray, List.getElem_cons_zero, List.getElem_cons_succ, List.setIfInBounds_toArray, List.set_cons_zero, List.set_cons_succ]
              refine wpAnyH_ready (rs := [17]) (by kernel_rfl) (by simp) ?_
              refine AllReadyH.cons rfl (fun K1 hK1 => ?_) AllReadyH.nil
              try simp only [Array.getInternal_eq_getElem, List.getElem_toArray, List.getElem_cons_zero, List.getElem_cons_succ]
              rw [if_pos (by first | kernel_rfl | rfl | decide)]
              go_simp
              go_at_call 61
              refine hEF.out.mono ?_
              rintro e w8 ⟨R, rfl, hR, hb8⟩
              have hb9 := below_then hbd hb8
              have q0 := cell_below hb9 q0
              have q1 := cell_below hb9 q1
              have q2 := cell_below hb9 q2
              have y0 := cell_below hb9 y0
              have y1 := cell_below hb9 y1
              have y2 := cell_below hb9 y2
              have HM9 := HMb.below hb9
              have HC9 := HCb.trans (Chg.of_below (A := fun q => q = mb) hb9)
              go_wp2_with fail
              refine hK1.out _ _ ⟨q0, q1, q2, y0, y1, y2⟩ (fun _ => ?_)
              clear hK1 K1
              try simp only [Act.put, List.setIfInBounds_toArray, List.set_cons_zero, List.set_cons_succ]
              refine wpAnyH_take (i := 18) (v := ?_) rfl (by kernel_rfl) (by kernel_rfl) (by kernel_rfl) (fun _ _ _ h => h) (Or.inl ⟨by rfl, ?_⟩) (by assumption) ?_
              rotate_left 1
              focus ((intro w hSw; (try dsimp only at hSw); go_simp); try with_reducible rfl)
              try simp only [Act.put, Array.getInternal_eq_getElem, List.getElem_toArray, List.getElem_cons_zero, List.getElem_cons_succ, List.setIfInBounds_toArray, List.set_cons_zero, List.set_cons_succ]
              refine wpAnyH_take (i := 19) (v := ?_) rfl (by kernel_rfl) (by kernel_rfl) (by kernel_rfl) (fun _ _ _ h => h) (Or.inl ⟨by rfl, ?_⟩) (by assumption) ?_
              rotate_left 1
              focus ((intro w hSw; (try dsimp only at hSw); go_simp); try with_reducible rfl)
              try simp only [Act.put, Array.getInternal_eq_getElem, List.getElem_toArray, List.getElem_cons_zero, List.getElem_cons_succ, List.setIfInBounds_toArray, List.set_cons_zero, List.set_cons_succ]
              refine wpAnyH_done (by kernel_rfl) ?_ _
              clear hH0 q0 q1 q2 y0 y1 y2 hb8 hb9 hEF hbd HEq HMb HCb hm3 hk3 ck bxc
              cases R
              · have hnP : Hid (¬ P) := Lib.hid (hNO.out (hlk3.out (fun h => Bool.noConfusion (hR.out.2 h))))
                have HT : Hid (TellP P true false) := Lib.hid ⟨fun h => Bool.noConfusion h, fun h => absurd h.2 hnP.out⟩
                have HBr := hRet.out _ HC9
                clear hOK hNO hlk2 hlk3 hR
                go_wp2
                refine bodyPost_ret (v := .tuple #[.bool false, .bool true]) (by simp [results, Try.results19, go_sem]) rfl ?_
                exact .mk true false (Lib.hid ⟨fun _ => HN.out.1 trivial, fun _ => rfl⟩) HT rfl HBr
              · have hstep := Lib.hid (hOK.out (hlk2.out (hR.out.1 rfl)))
                have hI9 := Lib.hid (hIn.out hstep.out)
                rw [← hfs.out] at HM9
                clear hOK hNO hlk2 hlk3 hR hstep
                go_wp2
                go_roundw
                case rel => exact ⟨k + 1, by omega, by go_num, HM9, HC9, hI9⟩
                case measure => simp [intOf]; omega
            · have hnb : ((rq.kind == rm.kind) && (rq.n == rm.n)) = false := by
                cases h1 : (rq.kind == rm.kind)
                · rfl
                · cases h2 : (rq.n == rm.n)
                  · rfl
                  · exact absurd ⟨by simpa using h1, by simpa using h2⟩ hso
              have HEq := fun W => (eq_pairS rq.kind rq.n rm.kind rm.n W).trans (by rw [hnb])
              have hnP : Hid (¬ P) := Lib.hid (hNO.out (fun h => hso (by have := (hlk.out.1 h).1; exact ⟨congrArg Prod.fst this, congrArg Prod.snd this⟩)))
              have HT : Hid (TellP P true false) := Lib.hid ⟨fun h => Bool.noConfusion h, fun h => absurd h.2 hnP.out⟩
              have HBr := hRet.out _ HCb
              clear hso hlk hnb hOK hNO hm3 hk3 HMb HCb
              go_quiet (fail)
              go_wp2
              refine bodyPost_ret (v := .tuple #[.bool false, .bool true]) (by simp [results, Try.results19, go_sem]) rfl ?_
              exact .mk true false (Lib.hid ⟨fun _ => HN.out.1 trivial, fun _ => rfl⟩) HT rfl (by first | exact HBr | exact below_drewN HBr _ | exact below_drew HBr)
          · have hfs : Hid (firsts (gl.take (k + 1)) = firsts (gl.take k) ++ [grO gl k]) := Lib.hid (by rw [firsts_take hkt, addF_out hin])
            have hno := inS_no hin
            obtain ⟨hst1, hfv⟩ := new_ok (s := s) (D := D) hkt hst.out hin
            have hI9 := Lib.hid (hIn.out hst1)
            have hSl : (firsts (gl.take k)).length ≤ 1000000 := by have := firsts_len (gl.take k); rw [List.length_take] at this; omega
            obtain ⟨S, hS⟩ : ∃ S, S = firsts (gl.take k) := ⟨_, rfl⟩
            rw [← hS] at HMb hin hno hSl hfs
            obtain ⟨gk, hgk⟩ : ∃ gk, gk = grO gl k := ⟨_, rfl⟩
            rw [← hgk] at ck hin hno hfs hkok hfv
            clear hgk hS hst1
            replace hfv := Lib.hid hfv
            go_wp2_with (first | (at_lookup; refine mapV_look (by rfl) _ _ 87 (by rfl) Try.underlying87 (by rfl) HMb gk hkok (by rfl) ?_; intro ci hci; clear hci; rw [hno]) | (at_mapUpdate; refine mapV_put (by rfl) _ _ _ 87 (by rfl) Try.underlying87 (by rfl) HMb gk hkok (by rfl) (k : Int) (by rfl) hfv.out (by unfold in64; omega) hin hSl ?_; intro w5 HM5 hC5; have HC5 := HCb.trans hC5) | fail)
            rw [← hfs.out] at HM5
            go_roundw
            case rel => exact ⟨k + 1, by omega, by go_num, HM5, HC5, hI9⟩
            case measure => simp [intOf]; omega
        · have cc := cell_below hb3 (hclg.out wx cp hcN HC)
          rw [hc1] at y3
          have c0 : (0 : Int) ≤ (cp : Int) := Int.natCast_nonneg _
          have c1 : (cp : Int) < (gl.length : Int) := by omega
          by_cases heq : grO gl k = grO gl cp
          · have hst : Hid ((D.getD k df0).step.op = 2 → grO gl k = grO gl (D.getD k df0).step.a.toNat) := Lib.hid (fun h => by rw [hca]; exact heq)
            rw [← heq] at cc
            clear hop hca heq c0 c1
            go_region
            clear cc
            obtain ⟨Wb, hWb⟩ : ∃ Wb, Wb = Wa.drew := ⟨_, rfl⟩
            have hbW : Below Wa.heap.size Wa Wb := by rw [hWb]; exact below_drew (Below.refl _ _)
            rw [← hWb]
            clear hWb
            have HMb := HMa.below hbW
            have HCb := HCa.trans (Chg.of_below (A := fun q => q = mb) hbW)
            have ck := cell_below hbW ck
            have bxc := cell_below hbW bxc
            have y0 := cell_below hbW y0
            have y1 := cell_below hbW y1
            have y2 := cell_below hbW y2
            clear HMa HCa
            by_cases hin : grO gl k ∈ firsts (gl.take k)
            · obtain ⟨m, m1, m2, m3, m4⟩ := old_at hkt hin
              have hfs : Hid (firsts (gl.take (k + 1)) = firsts (gl.take k)) := Lib.hid (by rw [firsts_take hkt, addF_in hin])
              have hyes := inS_yes hin
              have hmL : m < L.length := by omega
              have hmG : m < gl.length := by omega
              obtain ⟨um, hm1, hm2⟩ := hMk.out m hmL
              rw [hgM.out m hmG hmL] at hm1 hm2
              have hclb : ∀ (o : Nat) (x : Value), W3.cell? ⟨bM, o, none⟩ = some x → Wb.cell? ⟨bM, o, none⟩ = some x := fun o x h => (Rp.cell_move (HCb.block bM (World.block_lt_of_cell? _ _ h) (by show ¬ bM = mb; omega)) o).trans h
              have q0 := hclb _ _ hm1.c0
              have q1 := hclb _ _ hm1.c1
              have q2 := hclb _ _ hm1.c2
              have hm3 := hm2.move (HCb.same (fun q hq h => by have hq := hq; have h : q = mb := h; omega))
              have hk3 := ((hu3.below hb3).below hbW)
              have hlk := Lib.hid (Iff.trans (and_congr_right fun _ => (eqF_map (f := fun u => grO gl u.toNat)).symm) Iff.rfl : likeI s D gl m k ↔ (sortD D (rootD D m) = sortD D (rootD D k) ∧ eqF (fun x y => grO gl x.toNat == grO gl y.toNat) (partsD s D (rootD D m)) (partsD s D (rootD D k))))
              have hOK := Lib.hid (fun (h : likeI s D gl m k) => old_ok (s := s) (D := D) hst.out m1 m3 m4 h)
              have hNO := Lib.hid (fun (h : ¬ likeI s D gl m k) (hP2 : P) => old_no (s := s) (D := D) m1 m3 m4 h (hP.out.1 hP2 k hkt))
              have hpm := Hpin.out m hmG
              have hum : (resM s D m).uses = partsD s D (rootD D m) := rfl
              have hsm : Hid (sortD D (rootD D m) = ((resM s D m).kind, (resM s D m).n)) := Lib.hid rfl
              rw [← hum] at hlk hpm
              rw [← hur.out] at hlk
              rw [hsm.out, hsk.out] at hlk
              obtain ⟨rq, hrq⟩ : ∃ rq, rq = resM s D m := ⟨_, rfl⟩
              rw [← hrq] at q0 q1 hm3 hlk hpm
              replace hpm := Lib.hid hpm
              have hmm : Hid (∀ c : Int, c = fstV gl (grO gl k) → c = (m : Int)) := Lib.hid (fun c h => h.trans m2)
              clear hclb hm1 hm2 hum hsm hrq m2 m3 m4
              obtain ⟨Aq, cq, rfl, _, _, _⟩ := rd_int hm3
              have mm0 : (0 : Int) ≤ (m : Int) := Int.natCast_nonneg _
              have mm1 : (m : Int) < (L.length : Int) := by omega
              obtain ⟨gk, hgk⟩ : ∃ gk, gk = grO gl k := ⟨_, rfl⟩
              rw [← hgk] at ck hin hyes hmm hkok
              clear hgk
              go_wp2_with (first | (at_lookup; refine mapV_look (by rfl) _ _ 87 (by rfl) Try.underlying87 (by rfl) HMb gk hkok (by rfl) ?_; intro ci hci; obtain rfl : ci = (m : Int) := hmm.out _ (hci hin); clear hci; rw [hyes]) | fail)
              by_cases hso : rq.kind = rm.kind ∧ rq.n = rm.n
              · have HEq := fun W => (eq_pairS rq.kind rq.n rm.kind rm.n W).trans (by rw [hso.1, hso.2, beq_self_eq_true, beq_self_eq_true, Bool.and_self])
                have hlk2 : Hid (eqF (fun x y => grO gl x.toNat == grO gl y.toNat) rq.uses rm.uses → likeI s D gl m k) := Lib.hid (fun h => hlk.out.2 ⟨Prod.ext hso.1 hso.2, h⟩)
                have hlk3 : Hid (¬ eqF (fun x y => grO gl x.toNat == grO gl y.toNat) rq.uses rm.uses → ¬ likeI s D gl m k) := Lib.hid (fun h h2 => h (hlk.out.1 h2).2)
                have hbd := below_drew (Below.refl Wb.heap.size Wb)
                have hEF := Lib.hid (eqFun_calls (.slice Aq rq.uses.length cq) (.slice Au rm.uses.length cu) rq.uses rm.uses 60 #[.pointer (some ⟨w.heap.size + 1, 0, none⟩)] (fun x y => grO gl x.toNat == grO gl y.toNat) Wb.drew (hm3.below hbd) (hk3.below hbd) entersStab1
                  (fun x hx y hy W hW => stab1_calls x y gl (w.heap.size + 1) bg og cg W (cell_below hW (cell_below hbd bxc)) (fun j hj => cell_below hW (cell_below hbd (hclg.out Wb j hj HCb))) (hpm.out x hx) (Hpk.out y hy)))
                clear hso hlk
                refine wp_region_held_drew (S := (fun w' => w'.cell? ⟨bM, oM + m * 4, none⟩ = some (.int .i64 rq.kind) ∧ w'.cell? ⟨bM, oM + m * 4 + 1, none⟩ = some (.int .i64 rq.n) ∧ w'.cell? ⟨bM, oM + m * 4 + 2, none⟩ = some (.slice Aq rq.uses.length cq) ∧ w'.cell? ⟨wx.heap.size, 0, none⟩ = some (.int .i64 rm.kind) ∧ w'.cell? ⟨wx.heap.size, 1, none⟩ = some (.int .i64 rm.n) ∧ w'.cell? ⟨wx.heap.size, 2, none⟩ = some (.slice Au rm.uses.length cu))) (by kernel_rfl) ⟨q0, q1, q2, y0, y1, y2⟩ (fun hH0 => ?_)
                refine wpAnyH_take (i := 0) (v := ?_) rfl (by kernel_rfl) (by kernel_rfl) (by kernel_rfl) (fun _ _ _ h => h) (Or.inl ⟨by rfl, ?_⟩) (by assumption) ?_
                rotate_left 1
                focus ((intro w hSw; (try dsimp only at hSw); go_simp); try with_reducible rfl)
                try simp only [Act.put, Array.getInternal_eq_getElem, List.getElem_toArray, List.getElem_cons_zero, List.getElem_cons_succ, List.setIfInBounds_toArray, List.set_cons_zero, List.set_cons_succ]
                refine wpAnyH_take (i := 1) (v := ?_) rfl (by kernel_rfl) (by kernel_rfl) (by kernel_rfl) (fun _ _ _ h => h) (Or.inl ⟨by rfl, ?_⟩) (by assumption) ?_
                rotate_left 1
                focus ((intro w hSw; (try dsimp only at hSw); go_simp); try with_reducible rfl)
                try simp only [Act.put, Array.getInternal_eq_getElem, List.getElem_toArray, List.getElem_cons_zero, List.getElem_cons_succ, List.setIfInBounds_toArray, List.set_cons_zero, List.set_cons_succ]
                refine wpAnyH_take (i := 2) (v := ?_) rfl (by kernel_rfl) (by kernel_rfl) (by kernel_rfl) (fun _ _ _ h => h) (Or.inl ⟨by rfl, ?_⟩) (by assumption) ?_
                rotate_left 1
                focus ((intro w hSw; (try dsimp only at hSw); go_simp); try with_reducible rfl)
                try simp only [Act.put, Array.getInternal_eq_getElem, List.getElem_toArray, List.getElem_cons_zero, List.getElem_cons_succ, List.setIfInBounds_toArray, List.set_cons_zero, List.set_cons_succ]
                refine wpAnyH_take (i := 3) (v := ?_) rfl (by kernel_rfl) (by kernel_rfl) (by kernel_rfl) (fun _ _ _ h => h) (Or.inl ⟨by rfl, ?_⟩) (by assumption) ?_
                rotate_left 1
                focus ((intro w hSw; (try dsimp only at hSw); go_simp); try with_reducible rfl)
                try simp only [Act.put, Array.getInternal_eq_getElem, List.getElem_toArray, List.getElem_cons_zero, List.getElem_cons_succ, List.setIfInBounds_toArray, List.set_cons_zero, List.set_cons_succ]
                refine wpAnyH_take (i := 4) (v := ?_) rfl (by kernel_rfl) (by kernel_rfl) (by kernel_rfl) (fun _ _ _ h => h) (Or.inl ⟨by rfl, ?_⟩) (by assumption) ?_
                rotate_left 1
                focus ((intro w hSw; (try dsimp only at hSw); go_simp); try with_reducible rfl)
                try simp only [Act.put, Array.getInternal_eq_getElem, List.getElem_toArray, List.getElem_cons_zero, List.getElem_cons_succ, List.setIfInBounds_toArray, List.set_cons_zero, List.set_cons_succ]
                refine wpAnyH_take (i := 5) (v := ?_) rfl (by kernel_rfl) (by kernel_rfl) (by kernel_rfl) (fun _ _ _ h => h) (Or.inl ⟨by rfl, ?_⟩) (by assumption) ?_
                rotate_left 1
                focus ((intro w hSw; (try dsimp only at hSw); go_simp); try with_reducible rfl)
                try simp only [Act.put, Array.getInternal_eq_getElem, List.getElem_toArray, List.getElem_cons_zero, List.getElem_cons_succ, List.setIfInBounds_toArray, List.set_cons_zero, List.set_cons_succ]
                refine wpAnyH_take (i := 6) (v := ?_) rfl (by kernel_rfl) (by kernel_rfl) (by kernel_rfl) (fun _ _ _ h => h) (Or.inl ⟨by rfl, ?_⟩) (by assumption) ?_
                rotate_left 1
                focus ((intro w hSw; (try dsimp only at hSw); go_simp); try with_reducible rfl)
                try simp only [Act.put, Array.getInternal_eq_getElem, List.getElem_toArray, List.getElem_cons_zero, List.getElem_cons_succ, List.setIfInBounds_toArray, List.set_cons_zero, List.set_cons_succ]
                refine wpAnyH_take (i := 7) (v := ?_) rfl (by kernel_rfl) (by kernel_rfl) (by kernel_rfl) (fun _ _ _ h => h) (Or.inl ⟨by rfl, ?_⟩) (by assumption) ?_
                rotate_left 1
                focus ((intro w hSw; (try dsimp only at hSw); go_simp); try with_reducible rfl)
                try simp only [Act.put, Array.getInternal_eq_getElem, List.getElem_toArray, List.getElem_cons_zero, List.getElem_cons_succ, List.setIfInBounds_toArray, List.set_cons_zero, List.set_cons_succ]
                refine wpAnyH_take (i := 8) (v := ?_) rfl (by kernel_rfl) (by kernel_rfl) (by kernel_rfl) (fun _ _ _ h => h) (Or.inl ⟨by rfl, ?_⟩) (by assumption) ?_
                rotate_left 1
                focus ((intro w hSw; (try dsimp only at hSw); go_simp); try with_reducible rfl)
                try simp only [Act.put, Array.getInternal_eq_getElem, List.getElem_toArray, List.getElem_cons_zero, List.getElem_cons_succ, List.setIfInBounds_toArray, List.set_cons_zero, List.set_cons_succ]
                refine wpAnyH_take (i := 9) (v := ?_) rfl (by kernel_rfl) (by kernel_rfl) (by kernel_rfl) (fun _ _ _ h => h) (Or.inl ⟨by rfl, ?_⟩) (by assumption) ?_
                rotate_left 1
                focus ((intro w hSw; (try dsimp only at hSw); go_simp); try with_reducible rfl)
                try simp only [Act.put, Array.getInternal_eq_getElem, List.getElem_toArray, List.getElem_cons_zero, List.getElem_cons_succ, List.setIfInBounds_toArray, List.set_cons_zero, List.set_cons_succ]
                refine wpAnyH_take (i := 10) (v := ?_) rfl (by kernel_rfl) (by kernel_rfl) (by kernel_rfl) (fun _ _ _ h => h) (Or.inl ⟨by rfl, ?_⟩) (by assumption) ?_
                rotate_left 1
                focus ((intro w hSw; (try dsimp only at hSw); go_simp); try with_reducible rfl)
                try simp only [Act.put, Array.getInternal_eq_getElem, List.getElem_toArray, List.getElem_cons_zero, List.getElem_cons_succ, List.setIfInBounds_toArray, List.set_cons_zero, List.set_cons_succ]
                refine wpAnyH_take (i := 11) (v := ?_) rfl (by kernel_rfl) (by kernel_rfl) (by kernel_rfl) (fun _ _ _ h => h) (Or.inl ⟨by rfl, ?_⟩) (by assumption) ?_
                rotate_left 1
                focus ((intro w hSw; (try dsimp only at hSw); go_simp); try with_reducible rfl)
                try simp only [Act.put, Array.getInternal_eq_getElem, List.getElem_toArray, List.getElem_cons_zero, List.getElem_cons_succ, List.setIfInBounds_toArray, List.set_cons_zero, List.set_cons_succ]
                refine wpAnyH_take (i := 12) (v := ?_) rfl (by kernel_rfl) (by kernel_rfl) (by kernel_rfl) (fun _ _ _ h => h) (Or.inl ⟨by rfl, ?_⟩) (by assumption) ?_
                rotate_left 1
                focus ((intro w hSw; (try dsimp only at hSw); go_simp); try with_reducible rfl)
                try simp only [Act.put, Array.getInternal_eq_getElem, List.getElem_toArray, List.getElem_cons_zero, List.getElem_cons_succ, List.setIfInBounds_toArray, List.set_cons_zero, List.set_cons_succ]
                refine wpAnyH_take (i := 13) (v := ?_) rfl (by kernel_rfl) (by kernel_rfl) (by kernel_rfl) (fun _ _ _ h => h) (Or.inl ⟨by rfl, ?_⟩) (by assumption) ?_
                rotate_left 1
                focus ((intro w hSw; (try dsimp only at hSw); go_simp); try with_reducible rfl)
                try simp only [Act.put, Array.getInternal_eq_getElem, List.getElem_toArray, List.getElem_cons_zero, List.getElem_cons_succ, List.setIfInBounds_toArray, List.set_cons_zero, List.set_cons_succ]
                refine wpAnyH_take (i := 14) (v := ?_) rfl (by kernel_rfl) (by kernel_rfl) (by kernel_rfl) (fun _ _ _ h => h) (Or.inl ⟨by rfl, ?_⟩) (by assumption) ?_
                rotate_left 1
                focus ((intro w hSw; (try dsimp only at hSw); go_simp); try with_reducible rfl)
                try simp only [Act.put, Array.getInternal_eq_getElem, List.getElem_toArray, List.getElem_cons_zero, List.getElem_cons_succ, List.setIfInBounds_toArray, List.set_cons_zero, List.set_cons_succ]
                refine wpAnyH_take (i := 15) (v := ?_) rfl (by kernel_rfl) (by kernel_rfl) (by kernel_rfl) (fun _ _ _ h => h) (Or.inl ⟨by rfl, ?_⟩) (by assumption) ?_
                rotate_left 1
                focus ((intro w hSw; (try dsimp only at hSw); go_simp); try with_reducible rfl)
                try simp only [Act.put, Array.getInternal_eq_getElem, List.getElem_toArray, List.getElem_cons_zero, List.getElem_cons_succ, List.setIfInBounds_toArray, List.set_cons_zero, List.set_cons_succ]
                refine wpAnyH_take (i := 16) (v := ?_) rfl (by kernel_rfl) (by kernel_rfl) (by kernel_rfl) (fun _ _ _ h => h) (Or.inl ⟨by rfl, ?_⟩) (by assumption) ?_
                rotate_left 1
                focus ((intro w hSw; (try dsimp only at hSw); go_simp); try with_reducible rfl)
                try simp only [Act.put, Array.getInternal_eq_getElem, List.getElem_toArray, List.getElem_cons_zero, List.getElem_cons_succ, List.setIfInBounds_toArray, List.set_cons_zero, List.set_cons_succ]
                refine wpAnyH_ready (rs := [17]) (by kernel_rfl) (by simp) ?_
                refine AllReadyH.cons rfl (fun K1 hK1 => ?_) AllReadyH.nil
                try simp only [Array.getInternal_eq_getElem, List.getElem_toArray, List.getElem_cons_zero, List.getElem_cons_succ]
                rw [if_pos (by first | kernel_rfl | rfl | decide)]
                go_simp
                go_at_call 61
                refine hEF.out.mono ?_
                rintro e w8 ⟨R, rfl, hR, hb8⟩
                have hb9 := below_then hbd hb8
                have q0 := cell_below hb9 q0
                have q1 := cell_below hb9 q1
                have q2 := cell_below hb9 q2
                have y0 := cell_below hb9 y0
                have y1 := cell_below hb9 y1
                have y2 := cell_below hb9 y2
                have HM9 := HMb.below hb9
                have HC9 := HCb.trans (Chg.of_below (A := fun q => q = mb) hb9)
                go_wp2_with fail
                refine hK1.out _ _ ⟨q0, q1, q2, y0, y1, y2⟩ (fun _ => ?_)
                clear hK1 K1
                try simp only [Act.put, List.setIfInBounds_toArray, List.set_cons_zero, List.set_cons_succ]
                refine wpAnyH_take (i := 18) (v := ?_) rfl (by kernel_rfl) (by kernel_rfl) (by kernel_rfl) (fun _ _ _ h => h) (Or.inl ⟨by rfl, ?_⟩) (by assumption) ?_
                rotate_left 1
                focus ((intro w hSw; (try dsimp only at hSw); go_simp); try with_reducible rfl)
                try simp only [Act.put, Array.getInternal_eq_getElem, List.getElem_toArray, List.getElem_cons_zero, List.getElem_cons_succ, List.setIfInBounds_toArray, List.set_cons_zero, List.set_cons_succ]
                refine wpAnyH_take (i := 19) (v := ?_) rfl (by kernel_rfl) (by kernel_rfl) (by kernel_rfl) (fun _ _ _ h => h) (Or.inl ⟨by rfl, ?_⟩) (by assumption) ?_
                rotate_left 1
                focus ((intro w hSw; (try dsimp only at hSw); go_simp); try with_reducible rfl)
                try simp only [Act.put, Array.getInternal_eq_getElem, List.getElem_toArray, List.getElem_cons_zero, List.getElem_cons_succ, List.setIfInBounds_toArray, List.set_cons_zero, List.set_cons_succ]
                refine wpAnyH_done (by kernel_rfl) ?_ _
                clear hH0 q0 q1 q2 y0 y1 y2 hb8 hb9 hEF hbd HEq HMb HCb hm3 hk3 ck bxc
                cases R
                · have hnP : Hid (¬ P) := Lib.hid (hNO.out (hlk3.out (fun h => Bool.noConfusion (hR.out.2 h))))
                  have HT : Hid (TellP P true false) := Lib.hid ⟨fun h => Bool.noConfusion h, fun h => absurd h.2 hnP.out⟩
                  have HBr := hRet.out _ HC9
                  clear hOK hNO hlk2 hlk3 hR
                  go_wp2
                  refine bodyPost_ret (v := .tuple #[.bool false, .bool true]) (by simp [results, Try.results19, go_sem]) rfl ?_
                  exact .mk true false (Lib.hid ⟨fun _ => HN.out.1 trivial, fun _ => rfl⟩) HT rfl HBr
                · have hstep := Lib.hid (hOK.out (hlk2.out (hR.out.1 rfl)))
                  have hI9 := Lib.hid (hIn.out hstep.out)
                  rw [← hfs.out] at HM9
                  clear hOK hNO hlk2 hlk3 hR hstep
                  go_wp2
                  go_roundw
                  case rel => exact ⟨k + 1, by omega, by go_num, HM9, HC9, hI9⟩
                  case measure => simp [intOf]; omega
              · have hnb : ((rq.kind == rm.kind) && (rq.n == rm.n)) = false := by
                  cases h1 : (rq.kind == rm.kind)
                  · rfl
                  · cases h2 : (rq.n == rm.n)
                    · rfl
                    · exact absurd ⟨by simpa using h1, by simpa using h2⟩ hso
                have HEq := fun W => (eq_pairS rq.kind rq.n rm.kind rm.n W).trans (by rw [hnb])
                have hnP : Hid (¬ P) := Lib.hid (hNO.out (fun h => hso (by have := (hlk.out.1 h).1; exact ⟨congrArg Prod.fst this, congrArg Prod.snd this⟩)))
                have HT : Hid (TellP P true false) := Lib.hid ⟨fun h => Bool.noConfusion h, fun h => absurd h.2 hnP.out⟩
                have HBr := hRet.out _ HCb
                clear hso hlk hnb hOK hNO hm3 hk3 HMb HCb
                go_quiet (fail)
                go_wp2
                refine bodyPost_ret (v := .tuple #[.bool false, .bool true]) (by simp [results, Try.results19, go_sem]) rfl ?_
                exact .mk true false (Lib.hid ⟨fun _ => HN.out.1 trivial, fun _ => rfl⟩) HT rfl (by first | exact HBr | exact below_drewN HBr _ | exact below_drew HBr)
            · have hfs : Hid (firsts (gl.take (k + 1)) = firsts (gl.take k) ++ [grO gl k]) := Lib.hid (by rw [firsts_take hkt, addF_out hin])
              have hno := inS_no hin
              obtain ⟨hst1, hfv⟩ := new_ok (s := s) (D := D) hkt hst.out hin
              have hI9 := Lib.hid (hIn.out hst1)
              have hSl : (firsts (gl.take k)).length ≤ 1000000 := by have := firsts_len (gl.take k); rw [List.length_take] at this; omega
              obtain ⟨S, hS⟩ : ∃ S, S = firsts (gl.take k) := ⟨_, rfl⟩
              rw [← hS] at HMb hin hno hSl hfs
              obtain ⟨gk, hgk⟩ : ∃ gk, gk = grO gl k := ⟨_, rfl⟩
              rw [← hgk] at ck hin hno hfs hkok hfv
              clear hgk hS hst1
              replace hfv := Lib.hid hfv
              go_wp2_with (first | (at_lookup; refine mapV_look (by rfl) _ _ 87 (by rfl) Try.underlying87 (by rfl) HMb gk hkok (by rfl) ?_; intro ci hci; clear hci; rw [hno]) | (at_mapUpdate; refine mapV_put (by rfl) _ _ _ 87 (by rfl) Try.underlying87 (by rfl) HMb gk hkok (by rfl) (k : Int) (by rfl) hfv.out (by unfold in64; omega) hin hSl ?_; intro w5 HM5 hC5; have HC5 := HCb.trans hC5) | fail)
              rw [← hfs.out] at HM5
              go_roundw
              case rel => exact ⟨k + 1, by omega, by go_num, HM5, HC5, hI9⟩
              case measure => simp [intOf]; omega
          · have hnP : Hid (¬ P) := Lib.hid (fun h => heq (by rw [← hca]; exact ((hP.out.1 h) k hkt).1 hop))
            have HT : Hid (TellP P true false) := Lib.hid ⟨fun h => Bool.noConfusion h, fun h => absurd h.2 hnP.out⟩
            have HBr := hRet.out _ HCa
            obtain ⟨gk, hgk⟩ : ∃ gk, gk = grO gl k := ⟨_, rfl⟩
            obtain ⟨gc, hgc⟩ : ∃ gc, gc = grO gl cp := ⟨_, rfl⟩
            rw [← hgk] at ck heq
            rw [← hgc] at cc heq
            have hne : (gk == gc) = false := by rw [beq_eq_false_iff_ne]; exact heq
            have hne2 : (gk != gc) = true := by rw [bne_iff_ne]; exact heq
            clear hop hca heq hgk hgc hkok
            go_region
            go_wp2
            refine bodyPost_ret (v := .tuple #[.bool false, .bool true]) (by simp [results, Try.results19, go_sem]) rfl ?_
            exact .mk true false (Lib.hid ⟨fun _ => HN.out.1 trivial, fun _ => rfl⟩) HT rfl (by first | exact HBr | exact below_drewN HBr _ | exact below_drew HBr)
      · obtain rfl : k = gl.length := by omega
        have HT : Hid (TellP P true true) := Lib.hid ⟨fun _ => ⟨rfl, hP.out.2 HI.out⟩, fun _ => rfl⟩
        have HBr := hRet.out _ HC
        go_wp2
        refine bodyPost_ret (v := .tuple #[.bool true, .bool true]) (by simp [results, Try.results19, go_sem]) rfl ?_
        exact .mk true true (Lib.hid ⟨fun _ => HN.out.1 trivial, fun _ => rfl⟩) HT rfl HBr
  · have HN : Hid (false = true ↔ StabG s gl) := Lib.hid ⟨fun h => Bool.noConfusion h, fun h => absurd h.2 hNV⟩
    have HT : Hid (TellP P false false) := Lib.hid ⟨fun h => Bool.noConfusion h, fun h => Bool.noConfusion h.1⟩
    clear hDX HMk hP hCp
    go_wp2
    refine bodyPost_ret (v := .tuple #[.bool false, .bool false]) (by simp [results, Try.results19, go_sem]) rfl ?_
    exact .mk false false HN HT rfl hB1
end Go.Proofs.Ytnfaibenekninaa.L

set_option linter.unusedVariables false
set_option linter.unusedSimpArgs false
namespace Go.Proofs.Ytnfaibenekninaa.L
open Go.RowKit
set_option maxRecDepth 100000 in
set_option maxHeartbeats 4000000 in
theorem lawStab_calls {F : Nat → Prop} (x : Sa) (vparts : Value) (gl : List Int) (vg : Value) (w : World) (h : Rp.Rd part w F vparts x.parts) {Fg : Nat → Prop} (hgl : Rp.Rd Rp.int w Fg vg gl) (hgw : ∀ x ∈ gl, in64 x) :
    Calls Try.prog 4 #[saV x vparts, vg] w fun e w' => e = .returned (.bool true) ∧ Below w.heap.size w w' := by
  have HC := fun W (hW : Below w.heap.size w W) => szSsa_calls x vparts 1048576 W (h.below hW) (by omega) (by omega)
  have hb0 := szSa_bd (x := x) (left := 1048576) (by omega)
  generalize szSa x 1048576 = r at *
  have hlim : 0 ≤ r → SaLim x := fun h0 => (hb0.2.2 h0).1
  clear hb0
  unfold saV at HC ⊢
  have HC := Lib.hid HC
  have hB0 : Below w.heap.size w (w.alloc (.cells #[vparts, .int .i64 x.values] 24)) := below_new _
  have b0 := heap_alloc_new w (.cells #[vparts, .int .i64 x.values] 24)
  have hlim := Lib.hid hlim
  obtain ⟨A, c, rfl, _, _, _⟩ := id h
  obtain ⟨Ag, cg, rfl, _, _, _⟩ := id hgl
  by_cases hbig : (1048576 : Int) < (gl.length : Int)
  · go_enter Try.func4, Try.ntmps4
    go_wp2
    go_ret
    exact ⟨rfl, hB0⟩
  have hgll : gl.length ≤ 1048576 := by omega
  go_enter Try.func4, Try.ntmps4
  go_wp2_with fail
  refine (HC.out _ hB0).mono ?_
  rintro e w1 ⟨rfl, hb1⟩
  by_cases hneg : r < 0
  · have hB := below_then hB0 hb1
    go_wp2
    go_ret
    exact ⟨rfl, hB⟩
  have hx := hlim.out (by omega)
  have HT := Lib.hid (fun W (hW : Below w.heap.size w W) => toSsa_rd x _ W (h.below hW) hx)
  have HI := Lib.hid (fun W (hW : Below w.heap.size w W) => toIntS_calls _ gl W (hgl.below hW) hgll)
  have HG1 := Lib.hid (fun v u W G G' (hv : Rp.Rd part W G v x.parts) (hu : Rp.Rd Rp.int W G' u gl) => stableS_calls x gl v u W hv hu hx.1 hx.2 hgll)
  have HG2 := Lib.hid (fun v u W G G' (hv : Rp.Rd part W G v x.parts) (hu : Rp.Rd Rp.int W G' u gl) => stableI_calls x gl v u W hv hu hx.1 hx.2 hgll hgw)
  have HU := Lib.hid (fun g v v' h h' => TellP.uniq (P := stabS x (dfAll x) gl) g v v' h h')
  have hB1 := below_then hB0 hb1
  have b1 := blk_below b0 hb1
  obtain ⟨y1, _⟩ := cell_of_block b1
  have y10 : w1.cell? ⟨w.heap.size, 0, none⟩ = some (.slice A x.parts.length c) := (y1 0).trans rfl
  have y11 : w1.cell? ⟨w.heap.size, 1, none⟩ = some (.int .i64 x.values) := (y1 1).trans rfl
  clear y1 HC b0 hb1 hB0 hlim
  unfold saV at HT HG1 HG2
  go_wp2_with fail
  refine (HT.out _ hB1).mono ?_
  rintro e w2 ⟨v2, rfl, hv2, hb2⟩
  obtain ⟨A2, c2, rfl, _, _, _⟩ := id hv2
  have hB2 := below_then hB1 hb2
  have b2 := blk_below b1 hb2
  clear y10 y11 hb2 b1
  go_wp2_with fail
  refine (HI.out _ hB2).mono ?_
  rintro e w2i ⟨u2, rfl, hu2, hb2i⟩
  obtain ⟨Au2, cu2, rfl, _, _⟩ := hu2.form
  have hB2i := below_then hB2 hb2i
  have b2i := blk_below b2 hb2i
  have hv2i := hv2.below hb2i
  clear hb2i hB2 b2 hv2
  go_wp2_with fail
  refine (HG1.out _ _ _ _ _ hv2i hu2.rd).mono ?_
  rintro e w3 ⟨g1, r1, hg1, hr1, rfl, hb3⟩
  have hB3 := below_then hB2i hb3
  have b3 := blk_below b2i hb3
  clear hv2i b2i hu2
  obtain ⟨y1, _⟩ := cell_of_block b3
  have y10 : w3.cell? ⟨w.heap.size, 0, none⟩ = some (.slice A x.parts.length c) := (y1 0).trans rfl
  have y11 : w3.cell? ⟨w.heap.size, 1, none⟩ = some (.int .i64 x.values) := (y1 1).trans rfl
  clear y1 hb3
  go_wp2_with fail
  refine (HT.out _ hB3).mono ?_
  rintro e w4 ⟨v4, rfl, hv4, hb4⟩
  obtain ⟨A4, c4, rfl, _, _, _⟩ := id hv4
  have hB4 := below_then hB3 hb4
  have b4 := blk_below b3 hb4
  clear y10 y11 hb4 b3
  obtain ⟨W5, hW5⟩ : ∃ W5, W5 = w4.alloc (.cells #[.slice A4 x.parts.length c4, .int .i64 x.values] 31) := ⟨_, rfl⟩
  have hb5 : Below w4.heap.size w4 W5 := by rw [hW5]; exact below_new _
  have e5 : W5.heap[w4.heap.size]? = some (.cells #[.slice A4 x.parts.length c4, .int .i64 x.values] 31 (0, 0)) := by rw [hW5]; exact heap_alloc_new w4 _
  have hv5 := hv4.below hb5
  have b5 := blk_below b4 hb5
  have hB5 := below_then hB4 hb5
  replace hW5 := Lib.hid hW5
  go_wp2_with fail
  rw [← hW5.out]
  refine (HI.out _ hB5).mono ?_
  rintro e w5i ⟨u5, rfl, hu5, hb5i⟩
  obtain ⟨Au5, cu5, rfl, _, _⟩ := hu5.form
  have hB5i := below_then hB5 hb5i
  have b5i := blk_below b5 hb5i
  have e5i := blk_below e5 hb5i
  have hv5i := hv5.below hb5i
  clear hb5i hB5 b5 hv5 e5
  obtain ⟨z1, _⟩ := cell_of_block e5i
  have z10 : w5i.cell? ⟨w4.heap.size, 0, none⟩ = some (.slice A4 x.parts.length c4) := (z1 0).trans rfl
  have z11 : w5i.cell? ⟨w4.heap.size, 1, none⟩ = some (.int .i64 x.values) := (z1 1).trans rfl
  clear z1
  go_wp2_with fail
  refine (HG2.out _ _ _ _ _ hv5i hu5.rd).mono ?_
  rintro e w6 ⟨g2, r2, hg2, hr2, rfl, hb6⟩
  have hB6 := below_then hB5i hb6
  have b6 := blk_below b5i hb6
  have e6 := blk_below e5i hb6
  have hu6 := (hu5.rd.mono (G := fun _ => True) (fun _ _ => trivial)).below hb6
  have hv6 := (hv5i.mono (G := fun _ => True) (fun _ _ => trivial)).below hb6
  clear z10 z11 b5i e5i hv5i hu5
  have hgg : g1 = g2 := by
    have := hg1.out.trans hg2.out.symm
    cases g1 <;> cases g2 <;> simp_all
  subst hgg
  have hvv := HU.out _ _ _ hr1.out hr2.out
  subst hvv
  have hgn : (g1 != g1) = false := by cases g1 <;> rfl
  have hgn2 : (r1 != r1) = false := by cases r1 <;> rfl
  obtain ⟨y1, _⟩ := cell_of_block b6
  have y10 : w6.cell? ⟨w.heap.size, 0, none⟩ = some (.slice A x.parts.length c) := (y1 0).trans rfl
  have y11 : w6.cell? ⟨w.heap.size, 1, none⟩ = some (.int .i64 x.values) := (y1 1).trans rfl
  obtain ⟨z1, _⟩ := cell_of_block e6
  have z10 : w6.cell? ⟨w4.heap.size, 0, none⟩ = some (.slice A4 x.parts.length c4) := (z1 0).trans rfl
  have z11 : w6.cell? ⟨w4.heap.size, 1, none⟩ = some (.int .i64 x.values) := (z1 1).trans rfl
  clear y1 z1 b4 hv4 hW5 hg1 hg2 HG1 HG2 hr1 hr2
  go_wp2_with fail
  have HE := Lib.hid (fun u W (hu : Rp.Rd part W (fun q => w6.heap.size ≤ q) u x.parts) (hW : Below w6.heap.size w6 W) => eqSsa_calls x x _ u W (hv6.below hW) hu)
  have HEQ : Hid (eqSa x x = true) := Lib.hid (by unfold eqSa; simp)
  unfold saV at HE
  rw [HEQ.out] at HE
  go_region_held3 (fun w' => w'.cell? ⟨w.heap.size, 0, none⟩ = some (.slice A x.parts.length c) ∧ w'.cell? ⟨w.heap.size, 1, none⟩ = some (.int .i64 x.values) ∧ w'.cell? ⟨w4.heap.size, 0, none⟩ = some (.slice A4 x.parts.length c4) ∧ w'.cell? ⟨w4.heap.size, 1, none⟩ = some (.int .i64 x.values))
    (first | go_keep | (go_split_ands; refine ⟨?_, ?_, ?_, ?_⟩ <;> first | exact cell_below hB9 (by assumption) | exact cell_below hB8 (by assumption) | assumption))
    ((first | (go_at_call 13; refine (HT.out _ (below_drew hB6)).mono ?_; rintro e w8 ⟨v8, rfl, hv8, hb8⟩; have hB8 := below_then (below_drew (Below.refl _ _)) hb8; obtain ⟨A8, c8, rfl, _, _, _⟩ := id hv8) | (go_at_call 16; refine (HE.out _ _ hv8 hB8).mono ?_; rintro e w9 ⟨rfl, hb9⟩; have hB9 := below_then hB8 hb9)))
  have hB9w := below_then hB6 hB9
  have hu9 := hu6.below hB9
  have HEI := Lib.hid (fun v u W G1 G2 (h1 : Rp.Rd Rp.int W G1 v gl) (h2 : Rp.Rd Rp.int W G2 u gl) => eqIntS_calls v u gl gl W h1 h2)
  have hdec : decide (gl = gl) = true := decide_eq_true rfl
  rw [hdec] at HEI
  clear HE HEQ y10 y11 z10 z11 hv8 hB8 hb8 hb9 hB9 hB6 b6 e6 hv6 hu6
  go_wp2_with fail
  refine (HI.out _ hB9w).mono ?_
  rintro e w10 ⟨u10, rfl, hu10, hb10⟩
  obtain ⟨Au10, cu10, rfl, _, _⟩ := hu10.form
  have hB10 := below_then hB9w hb10
  go_wp2_with fail
  refine (HEI.out _ _ _ _ _ (hu9.below hb10) hu10.rd).mono ?_
  rintro e w11 ⟨rfl, hb11⟩
  have hB11 := below_then hB10 hb11
  go_wp2
  go_ret
  exact ⟨rfl, hB11⟩
end Go.Proofs.Ytnfaibenekninaa.L
