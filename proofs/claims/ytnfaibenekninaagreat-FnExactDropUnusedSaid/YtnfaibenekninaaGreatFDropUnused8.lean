/- Joined texts, each of which was built by itself: Du3 Ha1 Du5 Du6. -/
import Derived.Test.YtnfaibenekninaaGreatFDropUnused7
import Derived.Test.YtnfaibenekninaaGreatFDropUnused5
import Derived.Test.YtnfaibenekninaaGreatFDropUnused4
import Derived.Test.YtnfaibenekninaaGreatB12
import Derived.Test.YtnfaibenekninaaGreatFDropUnused3
import Derived.Test.YtnfaibenekninaaGreatB3
import Derived.Test.YtnfaibenekninaaGreatFDropUnused6
set_option linter.unusedVariables false
set_option linter.unusedSimpArgs false
namespace Go.Proofs.YtnfaibenekninaaGreat.L
open Go.RowKit
set_option maxRecDepth 100000 in
set_option maxHeartbeats 16000000 in
theorem dropParam_calls {F : Nat → Prop} (s : Sa) (sb k i : Nat) (vp : Value) (w : World) (hb0 : w.heap[sb]? = some (.cells #[vp, .int .i64 s.values] 28 (0, 0))) (hO0 : Ow true 67 partA w F vp s.parts) (hF : ¬ F sb) (hg : DOk s) (hk : k < s.parts.length) (hi : i < s.parts[k].params.length) :
    Calls Tryz.prog 130 #[.pointer (some ⟨sb, 0, none⟩), .int .i64 k, .int .i64 i] w fun e w' => e = .returned (.tuple #[]) ∧ Ow true 67 partA w' F vp (unparD s.parts k i) ∧ Chg F w w' := by
  obtain ⟨g, c, rfl, _, _⟩ := Ow.some_form hO0 (by omega)
  have hsb := blk_lt hb0
  have hn2 := hg.n
  obtain ⟨vq, G0, x0, f0, hO1, hG0, hFg, hCl⟩ := ow_params hO0 hk
  obtain ⟨gp, cp, rfl, _, _⟩ := Ow.some_form hO1 (by omega)
  have hgp := own_in hO1 (k := gp) (.inl rfl)
  have hOK := hg.ok _ (List.getElem_mem hk)
  have hpl := hOK.1.1
  have HD := delInt_calls (F := G0) gp cp i s.parts[k].params w hO1 hi (by omega)
  have HB : Hid (∀ w1 : World, Chg (fun q => q = gp) w w1 → Ow true 3 Rp.int w1 G0 (.slice (some ⟨gp, 0, none⟩) (s.parts[k].params.length - 1) cp) (s.parts[k].params.eraseIdx i) → Ow true 67 partA (w1.setCell ⟨g, k * 6, none⟩ (.slice (some ⟨gp, 0, none⟩) (s.parts[k].params.length - 1) cp)) F (.slice (some ⟨g, 0, none⟩) s.parts.length c) (unparB s.parts k i) ∧ Chg F w (w1.setCell ⟨g, k * 6, none⟩ (.slice (some ⟨gp, 0, none⟩) (s.parts[k].params.length - 1) cp))) := Lib.hid (fun w1 hC hO => by
    have h := hCl w1 G0 _ _ (hC.mono (fun q hq => by have hq : q = gp := hq; rw [hq]; exact hgp)) hO (fun q hq => .inl hq)
    rw [← unparB_set hk] at h
    refine ⟨h.mono (fun q hq => hq.elim id (fun h => (hG0 q h).1)), (hC.mono (fun q hq => ?_)).trans (Chg.set hFg.1)⟩
    have hq : q = gp := hq
    rw [hq]; exact (hG0 gp hgp).1)
  have HDl := Lib.hid HD
  have HED : Hid (∀ (m : Nat) (hm : m < s.parts.length) (n : Nat), n < s.parts[m].next.length → n < s.parts[m].args.length ∧ (s.parts[m].next.getD n 0 = (k : Int) → i < (s.parts[m].args.getD n []).length ∧ (s.parts[m].args.getD n []).length ≤ 300)) := Lib.hid (fun m hm n hn => by
    obtain ⟨h1, h2⟩ := hg.ed _ (List.getElem_mem hm) n hn
    refine ⟨h1, fun he => ⟨by rw [h2 k _ (List.getElem?_eq_getElem hk) he]; exact hi, ?_⟩⟩
    have := (hg.ok _ (List.getElem_mem hm)).1.2.2.2.2 (s.parts[m].args.getD n []) (by rw [List.getD_eq_getElem?_getD, List.getElem?_eq_getElem h1]; exact List.getElem_mem h1)
    exact this)
  have HNl : Hid (∀ (m : Nat) (hm : m < s.parts.length), s.parts[m].next.length ≤ 6) := Lib.hid (fun m hm => (hg.ok _ (List.getElem_mem hm)).2)
  obtain ⟨y1, _⟩ := cell_of_block hb0
  have xs : w.cell? ⟨sb, 0, none⟩ = some (.slice (some ⟨g, 0, none⟩) s.parts.length c) := (y1 0).trans rfl
  have hgk : w.frozen? ⟨g, k * 6, none⟩ = false := f0 _
  have hgne : sb ≠ g := fun h => hF (h ▸ hFg.1)
  have hgpne : gp ≠ g := (hG0 gp hgp).2.1
  have hgps : gp ≠ sb := fun h => hF (h ▸ (hG0 gp hgp).1)
  obtain ⟨Lq, hLq⟩ : ∃ Lq, Lq = s.parts[k].params.length := ⟨_, rfl⟩
  rw [← hLq] at HDl HB x0 hpl hi
  have k0 : (0 : Int) ≤ (k : Int) := Int.natCast_nonneg _
  have k1 : (k : Int) < (s.parts.length : Int) := by omega
  have i0 : (0 : Int) ≤ (i : Int) := Int.natCast_nonneg _
  have iw : IntKind.i64.wrap ((i : Int) + 1) = (i : Int) + 1 := IntWalk.i64_in _ (by omega)
  clear y1 hCl HD hOK hO1 hO0 hG0 hg hLq f0
  go_enter Tryz.func130, Tryz.ntmps130
  go_wp2_with fail
  refine HDl.out.mono ?_
  rintro e w1 ⟨rfl, hO1, hC1⟩
  have hf1 : w1.frozen? ⟨g, k * 6, none⟩ = false := by rw [hC1.froz hFg.2 (show ¬ g = gp from fun h => hgpne h.symm)]; exact hgk
  have hx1 := hC1.cell x0 (show ¬ g = gp from fun h => hgpne h.symm)
  have hb1 := hC1.blk hb0 (show ¬ sb = gp from fun h => hgps h.symm)
  obtain ⟨hO2, hC2⟩ := HB.out w1 hC1 hO1
  have hb2 := blk_set hb1 (a := ⟨g, k * 6, none⟩) hgne (.slice (some ⟨gp, 0, none⟩) (Lq - 1) cp)
  obtain ⟨y1, _⟩ := cell_of_block hb2
  have xs2 : (w1.setCell ⟨g, k * 6, none⟩ (.slice (some ⟨gp, 0, none⟩) (Lq - 1) cp)).cell? ⟨sb, 0, none⟩ = some (.slice (some ⟨g, 0, none⟩) s.parts.length c) := (y1 0).trans rfl
  clear HDl HB hO1 hC1 y1 xs
  go_wp2_with fail
  generalize w1.setCell ⟨g, k * 6, none⟩ (.slice (some ⟨gp, 0, none⟩) (Lq - 1) cp) = W2 at *
  clear hx1 hf1 xs2 hb2 hb1 x0 hgk
  obtain ⟨B, hB⟩ : ∃ B, B = unparB s.parts k i := ⟨_, rfl⟩
  rw [← hB] at hO2
  have hBl : Hid (B.length = s.parts.length) := Lib.hid (by rw [hB, unparB_len])
  have HFin : Hid (unparD s.parts k i = parX B k i s.parts.length) := Lib.hid (by rw [← hBl.out, parX_all, hB]; rfl)
  have HBg : Hid (∀ (m : Nat) (hm : m < s.parts.length) (hm2 : m < B.length), B[m].next = s.parts[m].next ∧ B[m].args = s.parts[m].args) := Lib.hid (fun m hm hm2 => by subst hB; exact unparB_get hm hm2)
  clear hB
  go_loopw [32] (fun x wr => ∃ m : Nat, m ≤ s.parts.length ∧ x = .int .i64 m ∧ Ow true 67 partA wr F (.slice (some ⟨g, 0, none⟩) s.parts.length c) (parX B k i m) ∧ Chg F w wr) (fun x _ => s.parts.length - (intOf x).toNat)
  case atStart => exact ⟨0, Nat.zero_le _, rfl, by rw [parX_zero]; exact hO2, hC2⟩
  case round =>
    clear hO2 hC2
    obtain ⟨m, hm, rfl, HO, HC⟩ := hrel
    rename World => wo
    by_cases hlt : m < s.parts.length
    · have hmB : m < B.length := by rw [hBl.out]; exact hlt
      have hmX : m < (parX B k i m).length := by rw [parX_len (by omega)]; exact hmB
      obtain ⟨_, _, _, _, hpt, _, _, h3, _⟩ := ow_read HO hmX
      have hXm : (parX B k i m)[m] = B[m] := Option.some.inj ((List.getElem?_eq_getElem hmX).symm.trans (parX_get hmB))
      rw [hXm] at hpt h3
      obtain ⟨A3, c3, rfl, _⟩ := id h3
      have x4 := hpt.2.2.2.2.1
      obtain ⟨y1, _⟩ := cell_of_block (HC.blk hb0 hF)
      have xs : wo.cell? ⟨sb, 0, none⟩ = some (.slice (some ⟨g, 0, none⟩) s.parts.length c) := (y1 0).trans rfl
      have hed := Lib.hid (HED.out m hlt)
      have hnl := HNl.out m hlt
      obtain ⟨hBn, hBa⟩ := HBg.out m hlt hmB
      have hLst := Lib.hid (parY_last (k := (k : Int)) (i := i) hmB)
      obtain ⟨nx, hnx⟩ : ∃ nx, nx = B[m].next := ⟨_, rfl⟩
      rw [← hBn, ← hBa, ← hnx] at hed
      rw [← hBn, ← hnx] at hnl
      rw [← hnx] at x4 hLst
      have hnxH := Lib.hid hnx
      clear hpt h3 hXm y1 hBn hBa hnx
      have m0 : (0 : Int) ≤ (m : Int) := Int.natCast_nonneg _
      have m1 : (m : Int) < (s.parts.length : Int) := by omega
      go_wp2_with fail
      have HO0 : Ow true 67 partA wo F (.slice (some ⟨g, 0, none⟩) s.parts.length c) (parY B k i m 0) := by rw [parY_zero hmB]; exact HO
      have HX := Lib.hid (And.intro x4 xs)
      clear xs HO x4
      go_loopw [44] (fun x wr => ∃ n : Nat, n ≤ nx.length ∧ x = .int .i64 n ∧ Ow true 67 partA wr F (.slice (some ⟨g, 0, none⟩) s.parts.length c) (parY B k i m n) ∧ Chg F w wr ∧ Hid (wr.cell? ⟨g, m * 6 + 4, none⟩ = some (.slice A3 nx.length c3))) (fun x _ => nx.length - (intOf x).toNat)
      case atStart => exact ⟨0, Nat.zero_le _, rfl, HO0, HC, Lib.hid HX.out.1⟩
      case round =>
        clear HO0 HC HX
        obtain ⟨n, hn, rfl, HO, HC, x4⟩ := hrel
        rename World => wx
        by_cases hnt : n < nx.length
        · have hmY : m < (parY B k i m n).length := by rw [parY_len hmB]; exact hmB
          obtain ⟨_, _, _, _, hpt, _, _, h3, _⟩ := ow_read HO hmY
          have hYm : (parY B k i m n)[m] = parQ B k i m n := Option.some.inj ((List.getElem?_eq_getElem hmY).symm.trans (parY_get hmB))
          obtain ⟨hQ1, hQ2, hQ3⟩ := parQ_args (k := (k : Int)) (i := i) hmB (Nat.le_refl n)
          rw [hYm] at hpt h3
          rw [hQ3, ← hnxH.out] at h3
          obtain ⟨A3', c3', hv3, _, _, hr3⟩ := rd_int h3
          have hv4 := Option.some.inj (hpt.2.2.2.2.1.symm.trans x4.out)
          rw [hv3] at hv4
          injection hv4 with hA3 _ hc3
          subst hA3
          rcases hr3 with hn0 | ⟨b3, o3, rfl, hb3, hc3'⟩
          · rw [hn0] at hnt; simp at hnt
          have cv := hc3' n hnt
          have e : nx.getD n 0 = nx[n] := by rw [List.getD_eq_getElem?_getD, List.getElem?_eq_getElem hnt]; rfl
          have hed1 := Lib.hid (hed.out n hnt)
          have hyB : B[m]?.map (fun p => p.next.getD n 0) = some nx[n] := by rw [List.getElem?_eq_getElem hmB, Option.map_some, ← hnxH.out, e]
          rw [e] at hed1
          clear hpt h3 hv3 hc3' e
          obtain ⟨y, hy⟩ : ∃ y, y = nx[n] := ⟨_, rfl⟩
          rw [← hy] at cv hed1 hyB
          clear hy
          have n0 : (0 : Int) ≤ (n : Int) := Int.natCast_nonneg _
          have n1 : (n : Int) < (nx.length : Int) := by omega
          by_cases hyk : y = (k : Int)
          · obtain ⟨hal, hal2⟩ := hed1.out
            obtain ⟨hl1, hl2⟩ := hal2 hyk
            rw [← hQ1] at hl1 hl2
            rw [← hQ2] at hal
            have hstep := Lib.hid (parY_yes (i := i) (hyk ▸ hyB) hmB)
            obtain ⟨ga, ca, u, G, xa, xu, fa, hOu, hG, hga, hCl⟩ := ow_arg HO hmY (by rw [hYm]; exact hal)
            simp only [hYm] at xa hOu hCl
            have hQg : (parQ B k i m n).args.getD n [] = (parQ B k i m n).args[n] := by rw [List.getD_eq_getElem?_getD, List.getElem?_eq_getElem hal]; rfl
            rw [hQg] at hl1 hl2 hstep
            obtain ⟨Lg, hLg⟩ : ∃ Lg, Lg = (parQ B k i m n).args.length := ⟨_, rfl⟩
            rw [← hLg] at xa hal
            obtain ⟨al, hal'⟩ : ∃ al, al = (parQ B k i m n).args[n] := ⟨_, rfl⟩
            rw [← hal'] at hl1 hl2 hstep hOu
            obtain ⟨gu, cu, rfl, _, _⟩ := Ow.some_form hOu (by omega)
            have hgu := own_in hOu (k := gu) (.inl rfl)
            have hguF := hG gu hgu
            have HDl := Lib.hid (delInt_calls (F := G) gu cu i al wx.drew (hOu.below (below_drew (Below.refl _ _))) hl1 (by omega))
            have HBf : Hid (∀ w1 : World, Chg (fun q => q = gu) wx.drew w1 → Ow true 3 Rp.int w1 G (.slice (some ⟨gu, 0, none⟩) (al.length - 1) cu) (al.eraseIdx i) → Ow true 67 partA (w1.setCell ⟨ga, n, none⟩ (.slice (some ⟨gu, 0, none⟩) (al.length - 1) cu)) F (.slice (some ⟨g, 0, none⟩) s.parts.length c) (parY B k i m (n + 1)) ∧ Chg F w (w1.setCell ⟨ga, n, none⟩ (.slice (some ⟨gu, 0, none⟩) (al.length - 1) cu)) ∧ (w1.setCell ⟨ga, n, none⟩ (.slice (some ⟨gu, 0, none⟩) (al.length - 1) cu)).cell? ⟨g, m * 6 + 4, none⟩ = some (.slice (some ⟨b3, o3, none⟩) nx.length c3)) := Lib.hid (fun w1 hC hO => by
              have hC0 : Chg (fun q => q = gu) wx w1 := (Chg.of_below (below_drew (Below.refl _ _))).trans hC
              have h := hCl w1 G _ _ (hC0.mono (fun q hq => by have hq : q = gu := hq; rw [hq]; exact hgu)) hO (fun q hq => .inl hq)
              rw [hstep.out]
              have hCs : Chg (fun q => q = ga) w1 (w1.setCell ⟨ga, n, none⟩ (.slice (some ⟨gu, 0, none⟩) (al.length - 1) cu)) := Chg.set rfl
              refine ⟨h.mono (fun q hq => hq.elim id (fun h => (hG q h).1)), (HC.trans (hC0.mono (fun q hq => ?_))).trans (Chg.set hga.1), ?_⟩
              · have hq : q = gu := hq
                rw [hq]; exact hguF.1
              · exact hCs.cell (hC0.cell x4.out (show ¬ g = gu from fun h => hguF.2.2.1 h.symm)) (show ¬ g = ga from fun h => hga.2.2 h.symm))
            have hgas : ga ≠ sb := fun h => hF (h ▸ hga.1)
            have hgus : gu ≠ sb := fun h => hF (h ▸ hguF.1)
            obtain ⟨y1, _⟩ := cell_of_block (HC.blk hb0 hF)
            have xs : wx.cell? ⟨sb, 0, none⟩ = some (.slice (some ⟨g, 0, none⟩) s.parts.length c) := (y1 0).trans rfl
            have hn3 : ¬ sb = gu := fun h => hgus h.symm
            have hn4 : ¬ g = gu := fun h => hguF.2.2.1 h.symm
            have hn5 : ¬ ga = gu := fun h => hguF.2.1 h.symm
            have a1 : (n : Int) < (Lg : Int) := by omega
            have fan := fa n
            have hgal := hga.2.1
            clear y1 hstep hCl hOu hQ1 hQ2 hQ3 hQg hLg hal' HO HC hyB hal2 hed1 fa
            subst hyk
            go_upto_region 9 with fail
            refine anyT_region [(25, fun w' => w'.cell? ⟨sb, 0, none⟩ = some (.slice (some ⟨g, 0, none⟩) s.parts.length c) ∧ w'.cell? ⟨g, m * 6 + 5, none⟩ = some (.slice (some ⟨ga, 0, none⟩) Lg ca) ∧ w'.cell? ⟨ga, n, none⟩ = some (.slice (some ⟨gu, 0, none⟩) al.length cu))] (by kernel_rfl) ⟨fun _ => ⟨xs, xa, xu⟩, trivial⟩ (fun hT => ?_)
            refine anyT_pure (i := 0) (v := ?_) rfl (by kernel_rfl) (by kernel_rfl) (by kernel_rfl) (fun _ _ _ h => h) (Or.inl ⟨by rfl, ?_⟩) (by assumption) ?_
            rotate_left 1
            focus ((intro w hSw; (try dsimp only at hSw); go_simp); try with_reducible rfl)
            try simp only [Act.put, Array.getInternal_eq_getElem, List.getElem_toArray, List.getElem_cons_zero, List.getElem_cons_succ, List.setIfInBounds_toArray, List.set_cons_zero, List.set_cons_succ]
            refine anyT_pure (i := 4) (v := ?_) rfl (by kernel_rfl) (by kernel_rfl) (by kernel_rfl) (fun _ _ _ h => h) (Or.inl ⟨by rfl, ?_⟩) (by assumption) ?_
            rotate_left 1
            focus ((intro w hSw; (try dsimp only at hSw); go_simp); try with_reducible rfl)
            try simp only [Act.put, Array.getInternal_eq_getElem, List.getElem_toArray, List.getElem_cons_zero, List.getElem_cons_succ, List.setIfInBounds_toArray, List.set_cons_zero, List.set_cons_succ]
            refine anyT_pure (i := 8) (v := ?_) rfl (by kernel_rfl) (by kernel_rfl) (by kernel_rfl) (fun _ _ _ h => h) (Or.inl ⟨by rfl, ?_⟩) (by assumption) ?_
            rotate_left 1
            focus ((intro w hSw; (try dsimp only at hSw); go_simp); try with_reducible rfl)
            try simp only [Act.put, Array.getInternal_eq_getElem, List.getElem_toArray, List.getElem_cons_zero, List.getElem_cons_succ, List.setIfInBounds_toArray, List.set_cons_zero, List.set_cons_succ]
            refine anyT_pure (i := 9) (v := ?_) rfl (by kernel_rfl) (by kernel_rfl) (by kernel_rfl) (fun _ _ _ h => h) (Or.inl ⟨by rfl, ?_⟩) (by assumption) ?_
            rotate_left 1
            focus ((intro w hSw; (try dsimp only at hSw); go_simp); try with_reducible rfl)
            try simp only [Act.put, Array.getInternal_eq_getElem, List.getElem_toArray, List.getElem_cons_zero, List.getElem_cons_succ, List.setIfInBounds_toArray, List.set_cons_zero, List.set_cons_succ]
            refine anyT_pure (i := 13) (v := ?_) rfl (by kernel_rfl) (by kernel_rfl) (by kernel_rfl) (fun _ _ _ h => h) (Or.inl ⟨by rfl, ?_⟩) (by assumption) ?_
            rotate_left 1
            focus ((intro w hSw; (try dsimp only at hSw); go_simp); try with_reducible rfl)
            try simp only [Act.put, Array.getInternal_eq_getElem, List.getElem_toArray, List.getElem_cons_zero, List.getElem_cons_succ, List.setIfInBounds_toArray, List.set_cons_zero, List.set_cons_succ]
            refine anyT_pure (i := 17) (v := ?_) rfl (by kernel_rfl) (by kernel_rfl) (by kernel_rfl) (fun _ _ _ h => h) (Or.inl ⟨by rfl, ?_⟩) (by assumption) ?_
            rotate_left 1
            focus ((intro w hSw; (try dsimp only at hSw); go_simp); try with_reducible rfl)
            try simp only [Act.put, Array.getInternal_eq_getElem, List.getElem_toArray, List.getElem_cons_zero, List.getElem_cons_succ, List.setIfInBounds_toArray, List.set_cons_zero, List.set_cons_succ]
            refine anyT_pure (i := 20) (v := ?_) rfl (by kernel_rfl) (by kernel_rfl) (by kernel_rfl) (fun _ _ _ h => h) (Or.inl ⟨by rfl, ?_⟩) (by assumption) ?_
            rotate_left 1
            focus ((intro w hSw; (try dsimp only at hSw); go_simp); try with_reducible rfl)
            try simp only [Act.put, Array.getInternal_eq_getElem, List.getElem_toArray, List.getElem_cons_zero, List.getElem_cons_succ, List.setIfInBounds_toArray, List.set_cons_zero, List.set_cons_succ]
            refine anyT_pure (i := 21) (v := ?_) rfl (by kernel_rfl) (by kernel_rfl) (by kernel_rfl) (fun _ _ _ h => h) (Or.inl ⟨by rfl, ?_⟩) (by assumption) ?_
            rotate_left 1
            focus ((intro w hSw; (try dsimp only at hSw); go_simp); try with_reducible rfl)
            try simp only [Act.put, Array.getInternal_eq_getElem, List.getElem_toArray, List.getElem_cons_zero, List.getElem_cons_succ, List.setIfInBounds_toArray, List.set_cons_zero, List.set_cons_succ]
            refine anyT_pure (i := 1) (v := ?_) rfl (by kernel_rfl) (by kernel_rfl) (by kernel_rfl) (fun _ _ _ h => h) (Or.inl ⟨by rfl, ?_⟩) (by assumption) ?_
            rotate_left 1
            focus ((intro w hSw; (try dsimp only at hSw); go_simp); try with_reducible rfl)
            try simp only [Act.put, Array.getInternal_eq_getElem, List.getElem_toArray, List.getElem_cons_zero, List.getElem_cons_succ, List.setIfInBounds_toArray, List.set_cons_zero, List.set_cons_succ]
            refine anyT_pure (i := 10) (v := ?_) rfl (by kernel_rfl) (by kernel_rfl) (by kernel_rfl) (fun _ _ _ h => h) (Or.inl ⟨by rfl, ?_⟩) (by assumption) ?_
            rotate_left 1
            focus ((intro w hSw; (try dsimp only at hSw); go_simp); try with_reducible rfl)
            try simp only [Act.put, Array.getInternal_eq_getElem, List.getElem_toArray, List.getElem_cons_zero, List.getElem_cons_succ, List.setIfInBounds_toArray, List.set_cons_zero, List.set_cons_succ]
            refine anyT_pure (i := 2) (v := ?_) rfl (by kernel_rfl) (by kernel_rfl) (by kernel_rfl) (fun _ _ _ h => h) (Or.inl ⟨by rfl, ?_⟩) (by assumption) ?_
            rotate_left 1
            focus ((intro w hSw; (try dsimp only at hSw); go_simp); try with_reducible rfl)
            try simp only [Act.put, Array.getInternal_eq_getElem, List.getElem_toArray, List.getElem_cons_zero, List.getElem_cons_succ, List.setIfInBounds_toArray, List.set_cons_zero, List.set_cons_succ]
            refine anyT_pure (i := 11) (v := ?_) rfl (by kernel_rfl) (by kernel_rfl) (by kernel_rfl) (fun _ _ _ h => h) (Or.inl ⟨by rfl, ?_⟩) (by assumption) ?_
            rotate_left 1
            focus ((intro w hSw; (try dsimp only at hSw); go_simp); try with_reducible rfl)
            try simp only [Act.put, Array.getInternal_eq_getElem, List.getElem_toArray, List.getElem_cons_zero, List.getElem_cons_succ, List.setIfInBounds_toArray, List.set_cons_zero, List.set_cons_succ]
            refine anyT_pure (i := 22) (v := ?_) rfl (by kernel_rfl) (by kernel_rfl) (by kernel_rfl) (fun _ _ _ h => h) (Or.inl ⟨by rfl, ?_⟩) (by assumption) ?_
            rotate_left 1
            focus ((intro w hSw; (try dsimp only at hSw); go_simp); try with_reducible rfl)
            try simp only [Act.put, Array.getInternal_eq_getElem, List.getElem_toArray, List.getElem_cons_zero, List.getElem_cons_succ, List.setIfInBounds_toArray, List.set_cons_zero, List.set_cons_succ]
            refine anyT_take (k := 0) (i := 3) (v := ?_) rfl rfl (by kernel_rfl) (by kernel_rfl) (by kernel_rfl) (fun _ _ _ h => h) (Or.inl ⟨by rfl, ?_⟩) (by assumption) ?_
            rotate_left 1
            focus ((intro w hSw; (try dsimp only at hSw); go_simp); try with_reducible rfl)
            try simp only [Act.put, Array.getInternal_eq_getElem, List.getElem_toArray, List.getElem_cons_zero, List.getElem_cons_succ, List.setIfInBounds_toArray, List.set_cons_zero, List.set_cons_succ]
            refine anyT_take (k := 0) (i := 12) (v := ?_) rfl rfl (by kernel_rfl) (by kernel_rfl) (by kernel_rfl) (fun _ _ _ h => h) (Or.inl ⟨by rfl, ?_⟩) (by assumption) ?_
            rotate_left 1
            focus ((intro w hSw; (try dsimp only at hSw); go_simp); try with_reducible rfl)
            try simp only [Act.put, Array.getInternal_eq_getElem, List.getElem_toArray, List.getElem_cons_zero, List.getElem_cons_succ, List.setIfInBounds_toArray, List.set_cons_zero, List.set_cons_succ]
            refine anyT_pure (i := 5) (v := ?_) rfl (by kernel_rfl) (by kernel_rfl) (by kernel_rfl) (fun _ _ _ h => h) (Or.inl ⟨by rfl, ?_⟩) (by assumption) ?_
            rotate_left 1
            focus ((intro w hSw; (try dsimp only at hSw); go_simp); try with_reducible rfl)
            try simp only [Act.put, Array.getInternal_eq_getElem, List.getElem_toArray, List.getElem_cons_zero, List.getElem_cons_succ, List.setIfInBounds_toArray, List.set_cons_zero, List.set_cons_succ]
            refine anyT_pure (i := 14) (v := ?_) rfl (by kernel_rfl) (by kernel_rfl) (by kernel_rfl) (fun _ _ _ h => h) (Or.inl ⟨by rfl, ?_⟩) (by assumption) ?_
            rotate_left 1
            focus ((intro w hSw; (try dsimp only at hSw); go_simp); try with_reducible rfl)
            try simp only [Act.put, Array.getInternal_eq_getElem, List.getElem_toArray, List.getElem_cons_zero, List.getElem_cons_succ, List.setIfInBounds_toArray, List.set_cons_zero, List.set_cons_succ]
            refine anyT_pure (i := 6) (v := ?_) rfl (by kernel_rfl) (by kernel_rfl) (by kernel_rfl) (fun _ _ _ h => h) (Or.inl ⟨by rfl, ?_⟩) (by assumption) ?_
            rotate_left 1
            focus ((intro w hSw; (try dsimp only at hSw); go_simp); try with_reducible rfl)
            try simp only [Act.put, Array.getInternal_eq_getElem, List.getElem_toArray, List.getElem_cons_zero, List.getElem_cons_succ, List.setIfInBounds_toArray, List.set_cons_zero, List.set_cons_succ]
            refine anyT_pure (i := 15) (v := ?_) rfl (by kernel_rfl) (by kernel_rfl) (by kernel_rfl) (fun _ _ _ h => h) (Or.inl ⟨by rfl, ?_⟩) (by assumption) ?_
            rotate_left 1
            focus ((intro w hSw; (try dsimp only at hSw); go_simp); try with_reducible rfl)
            try simp only [Act.put, Array.getInternal_eq_getElem, List.getElem_toArray, List.getElem_cons_zero, List.getElem_cons_succ, List.setIfInBounds_toArray, List.set_cons_zero, List.set_cons_succ]
            refine anyT_take (k := 0) (i := 7) (v := ?_) rfl rfl (by kernel_rfl) (by kernel_rfl) (by kernel_rfl) (fun _ _ _ h => h) (Or.inl ⟨by rfl, ?_⟩) (by assumption) ?_
            rotate_left 1
            focus ((intro w hSw; (try dsimp only at hSw); go_simp); try with_reducible rfl)
            try simp only [Act.put, Array.getInternal_eq_getElem, List.getElem_toArray, List.getElem_cons_zero, List.getElem_cons_succ, List.setIfInBounds_toArray, List.set_cons_zero, List.set_cons_succ]
            refine anyT_take (k := 0) (i := 16) (v := ?_) rfl rfl (by kernel_rfl) (by kernel_rfl) (by kernel_rfl) (fun _ _ _ h => h) (Or.inl ⟨by rfl, ?_⟩) (by assumption) ?_
            rotate_left 1
            focus ((intro w hSw; (try dsimp only at hSw); go_simp); try with_reducible rfl)
            try simp only [Act.put, Array.getInternal_eq_getElem, List.getElem_toArray, List.getElem_cons_zero, List.getElem_cons_succ, List.setIfInBounds_toArray, List.set_cons_zero, List.set_cons_succ]
            refine anyT_pure (i := 18) (v := ?_) rfl (by kernel_rfl) (by kernel_rfl) (by kernel_rfl) (fun _ _ _ h => h) (Or.inl ⟨by rfl, ?_⟩) (by assumption) ?_
            rotate_left 1
            focus ((intro w hSw; (try dsimp only at hSw); go_simp); try with_reducible rfl)
            try simp only [Act.put, Array.getInternal_eq_getElem, List.getElem_toArray, List.getElem_cons_zero, List.getElem_cons_succ, List.setIfInBounds_toArray, List.set_cons_zero, List.set_cons_succ]
            refine anyT_take (k := 0) (i := 19) (v := ?_) rfl rfl (by kernel_rfl) (by kernel_rfl) (by kernel_rfl) (fun _ _ _ h => h) (Or.inl ⟨by rfl, ?_⟩) (by assumption) ?_
            rotate_left 1
            focus ((intro w hSw; (try dsimp only at hSw); go_simp); try with_reducible rfl)
            try simp only [Act.put, Array.getInternal_eq_getElem, List.getElem_toArray, List.getElem_cons_zero, List.getElem_cons_succ, List.setIfInBounds_toArray, List.set_cons_zero, List.set_cons_succ]
            refine anyT_ready (rs := [23]) (by kernel_rfl) (by simp) ?_
            refine AllT.cons rfl (fun K1 hK1 => ?_) AllT.nil
            try simp only [Array.getInternal_eq_getElem, List.getElem_toArray, List.getElem_cons_zero, List.getElem_cons_succ]
            go_simp
            go_at_call 150
            refine HDl.out.mono ?_
            rintro e w1 ⟨rfl, hO1, hC1⟩
            obtain ⟨R1, R2, R3⟩ := HBf.out w1 hC1 hO1
            have f1 : w1.frozen? ⟨ga, n, none⟩ = false := by rw [hC1.froz (show ga < wx.drew.heap.size from hgal) hn5]; exact fan
            have z1 := hC1.cell (show wx.drew.cell? ⟨sb, 0, none⟩ = _ from xs) hn3
            have z2 := hC1.cell (show wx.drew.cell? ⟨g, m * 6 + 5, none⟩ = _ from xa) hn4
            have z3 := hC1.cell (show wx.drew.cell? ⟨ga, n, none⟩ = _ from xu) hn5
            refine hK1.out _ _ ⟨fun _ => ⟨z1, z2, z3⟩, trivial⟩ (fun hT => ?_)
            clear hK1 K1 HBf HDl
            try simp only [Act.put, Array.getInternal_eq_getElem, List.getElem_toArray, List.getElem_cons_zero, List.getElem_cons_succ, List.setIfInBounds_toArray, List.set_cons_zero, List.set_cons_succ]
            refine anyT_pure (i := 24) (v := ?_) rfl (by kernel_rfl) (by kernel_rfl) (by kernel_rfl) (fun _ _ _ h => h) (Or.inl ⟨by rfl, ?_⟩) (by assumption) ?_
            rotate_left 1
            focus ((intro w hSw; (try dsimp only at hSw); go_simp); try with_reducible rfl)
            try simp only [Act.put, Array.getInternal_eq_getElem, List.getElem_toArray, List.getElem_cons_zero, List.getElem_cons_succ, List.setIfInBounds_toArray, List.set_cons_zero, List.set_cons_succ]
            refine anyT_ready (rs := [25]) (by kernel_rfl) (by simp) ?_
            refine AllT.cons rfl (fun K1 hK1 => ?_) AllT.nil
            try simp only [Array.getInternal_eq_getElem, List.getElem_toArray, List.getElem_cons_zero, List.getElem_cons_succ]
            go_simp
            refine hK1.out _ _ ⟨fun h => absurd h (by simp), trivial⟩ (fun hT => ?_)
            clear hK1 K1
            try simp only [Act.put, Array.getInternal_eq_getElem, List.getElem_toArray, List.getElem_cons_zero, List.getElem_cons_succ, List.setIfInBounds_toArray, List.set_cons_zero, List.set_cons_succ]
            refine anyT_done (by kernel_rfl) ?_ _
            go_wp2_with fail
            go_roundw
            case rel => exact ⟨n + 1, by omega, by go_num, R1, R2, Lib.hid R3⟩
            case measure => simp [intOf]; omega
          · have hstep := Lib.hid (parY_no (i := i) (k := (k : Int)) (n := n) (B := B) (m := m) (by rw [hyB]; intro h; exact hyk (Option.some.inj h)) hmB)
            have hy2 : (y == (k : Int)) = false := by simpa using hyk
            clear hyB hed1 hQ1 hQ2 hQ3
            go_wp2_with fail
            go_roundw
            case rel => exact ⟨n + 1, by omega, by go_num, by rw [hstep.out]; exact HO, HC, x4⟩
            case measure => simp [intOf]; omega
        · obtain rfl : n = nx.length := by omega
          rw [hLst.out] at HO
          go_wp2_with fail
          go_roundw
          case rel => exact ⟨m + 1, by omega, by go_num, HO, HC⟩
          case measure => simp [intOf]; omega
    · obtain rfl : m = s.parts.length := by omega
      rw [← HFin.out] at HO
      go_wp2
      refine bodyPost_end (results_none (by first | rfl | exact Tryz.results130 | kernel_rfl) _ _ _) rfl ?_
      exact ⟨rfl, HO, HC⟩
end Go.Proofs.YtnfaibenekninaaGreat.L

set_option linter.unusedVariables false
set_option linter.unusedSimpArgs false
namespace Go.Proofs.YtnfaibenekninaaGreat.L
open Go.RowKit
theorem handP_step (p : Pt) (q i : Int) {m : Nat} : handP p q i (m + 1) = handP p q i m ++ (if p.next.getD m 0 = q then [(p.args.getD m []).getD i.toNat 0] else []) := handP_succ p q i m
set_option maxRecDepth 100000 in
set_option maxHeartbeats 4000000 in
theorem handed_calls {F : Nat → Prop} (s : Sa) (sb so q i : Nat) (vparts : Value) (w : World) (hc : w.cell? ⟨sb, so, none⟩ = some vparts) (hs : Rp.Rd part w F vparts s.parts)
    (hlen : s.parts.length ≤ 11 ∧ ∀ p ∈ s.parts, p.next.length ≤ 6) (hed : ∀ p ∈ s.parts, ∀ m, m < p.next.length → m < p.args.length ∧ (p.next.getD m 0 = q → i < (p.args.getD m []).length)) :
    Calls Tryz.prog 128 #[.pointer (some ⟨sb, so, none⟩), .int .i64 q, .int .i64 i] w fun e w' => ∃ v', e = .returned v' ∧ Ow true 3 Rp.int w' (fun k => w.heap.size ≤ k) v' (handS s.parts q i) ∧ Below w.heap.size w w' := by
  obtain ⟨A, c, rfl, hlc, hcm, hrow⟩ := rd_part hs
  have hB := below_new (w := w) (.cells #[] 3)
  have hO := (ow_empty (r := Rp.int) (ap := true) (heap_alloc_new w (.cells #[] 3))).mono (G := fun q => w.heap.size ≤ q) (fun q hq => by have hq : q = w.heap.size := hq; omega)
  have hz : w.heap.size < (w.alloc (.cells #[] 3)).heap.size := by simp
  have HE := Lib.hid hed
  have HNl := Lib.hid hlen.2
  have hlp := hlen.1
  have HSl : Hid (∀ k, k ≤ s.parts.length → (handS (s.parts.take k) q i).length ≤ 66) := Lib.hid (fun k hk => Nat.le_trans (handS_len (B := 6) (fun p hp => hlen.2 p (List.mem_of_mem_take hp))) (by rw [List.length_take]; omega))
  clear hs hed hlen
  go_enter Tryz.func128, Tryz.ntmps128
  have hcc := cell_below hB hc
  go_wp2_with fail
  generalize w.alloc (.cells #[] 3) = W1 at *
  go_loopw [7, 17] (fun av x wr => ∃ (m : Nat) (sv : Value), sv = av ∧ m ≤ s.parts.length ∧ x = .int .i64 m ∧ Ow true 3 Rp.int wr (fun k => w.heap.size ≤ k) sv (handS (s.parts.take m) q i) ∧ Below w.heap.size w wr) (fun _ x _ => s.parts.length - (intOf x).toNat)
  case atStart => exact ⟨0, _, rfl, Nat.zero_le _, rfl, by simpa [handS] using hO, hB⟩
  case round =>
    clear hO hB hcc
    obtain ⟨m, sv, rfl, hm, rfl, HO, HB⟩ := hrel
    rename World => wo
    by_cases hlt : m < s.parts.length
    · rcases hrow with hnil | ⟨b, o, rfl, hb, hcell⟩
      · rw [hnil] at hlt; simp at hlt
      obtain ⟨_, _, _, _, hp, ⟨A1, c1, rfl, _⟩, ⟨A2, c2, rfl, _⟩, h3, h4⟩ := hcell m hlt
      obtain ⟨A3, c3, rfl, _, _, hr3⟩ := rd_int h3
      obtain ⟨A4, c4, rfl, _, _, hr4⟩ := rd_ints h4
      have hpm := List.getElem_mem hlt
      have hed := Lib.hid (HE.out _ hpm)
      have hnl := HNl.out _ hpm
      have hsl := HSl.out m hm
      have hTk := Lib.hid (handS_take hlt q i)
      obtain ⟨q0, q1, q2, q3, q4, q5⟩ := partAt_below hp HB
      have hcw := cell_below HB hc
      have HP := Lib.hid hp
      clear hcell hpm hp
      obtain ⟨p, hpe⟩ : ∃ p, p = s.parts[m] := ⟨_, rfl⟩
      rw [← hpe] at h3 h4 hr3 hr4 hed hnl hTk q0 q1 q2 q3 q4 q5 HP
      clear hpe
      obtain ⟨H0, hH0⟩ : ∃ H0, H0 = handS (s.parts.take m) q i := ⟨_, rfl⟩
      rw [← hH0] at HO hsl hTk
      clear hH0
      have i0 : (0 : Int) ≤ (m : Int) := Int.natCast_nonneg _
      have i1 : (m : Int) < (s.parts.length : Int) := by omega
      have HO0 : Ow true 3 Rp.int wo (fun k => w.heap.size ≤ k) sv (H0 ++ handP p q i 0) := by simpa [handP] using HO
      clear HO
      go_wp2_with fail
      clear q0 q1 q2 q3 q4 q5 hcw
      go_loopw [7, 29] (fun av x wr => ∃ (n : Nat) (sv : Value), sv = av ∧ n ≤ p.next.length ∧ x = .int .i64 n ∧ Ow true 3 Rp.int wr (fun k => w.heap.size ≤ k) sv (H0 ++ handP p q i n) ∧ Below w.heap.size w wr) (fun _ x _ => p.next.length - (intOf x).toNat)
      case atStart => exact ⟨0, _, rfl, Nat.zero_le _, rfl, HO0, HB⟩
      case round =>
        clear HO0 HB
        obtain ⟨n, sv, rfl, hn, rfl, HO, HB⟩ := hrel
        rename World => wx
        by_cases hnt : n < p.next.length
        · rcases hr3 with hn0 | ⟨b3, o3, rfl, hb3, hc3⟩
          · rw [hn0] at hnt; simp at hnt
          have cv := cell_below HB (hc3 n hnt)
          have hed1 := Lib.hid (hed.out n hnt)
          have e : p.next.getD n 0 = p.next[n] := by rw [List.getD_eq_getElem?_getD, List.getElem?_eq_getElem hnt]; rfl
          have hSt := Lib.hid (handP_step p q i (m := n))
          rw [e] at hSt hed1
          have hLn := handP_len p q i n
          clear hc3 e
          obtain ⟨y, hy⟩ : ∃ y, y = p.next[n] := ⟨_, rfl⟩
          rw [← hy] at cv hSt hed1
          clear hy
          have n0 : (0 : Int) ≤ (n : Int) := Int.natCast_nonneg _
          have n1 : (n : Int) < (p.next.length : Int) := by omega
          by_cases hyq : y = (q : Int)
          · have hal := (hed1.out).1
            have hai := (hed1.out).2 hyq
            have hSt2 : Hid (H0 ++ handP p q i (n + 1) = (H0 ++ handP p q i n) ++ [(p.args.getD n []).getD i 0]) := Lib.hid (by rw [hSt.out, if_pos hyq, List.append_assoc]; rfl)
            rcases hr4 with hn0 | ⟨b4, o4, rfl, hb4, hc4⟩
            · rw [hn0] at hal; simp at hal
            obtain ⟨u4, cu4, hu4⟩ := hc4 n hal
            have e4 : p.args.getD n [] = p.args[n] := by rw [List.getD_eq_getElem?_getD, List.getElem?_eq_getElem hal]; rfl
            rw [e4] at hai hSt2
            obtain ⟨A5, c5, rfl, _, _, hr5⟩ := rd_int hu4
            rcases hr5 with hn0 | ⟨b5, o5, rfl, hb5, hc5⟩
            · rw [hn0] at hai; simp at hai
            have cu5 := cell_below HB (hc5 i hai)
            have cu4 := cell_below HB cu4
            have e5 : p.args[n].getD i 0 = p.args[n][i] := by rw [List.getD_eq_getElem?_getD, List.getElem?_eq_getElem hai]; rfl
            rw [e5] at hSt2
            obtain ⟨z, hz⟩ : ∃ z, z = p.args[n][i] := ⟨_, rfl⟩
            rw [← hz] at hSt2 cu5
            clear hz e4 e5 hc5 hc4
            obtain ⟨La, hLa⟩ : ∃ La, La = p.args[n].length := ⟨_, rfl⟩
            rw [← hLa] at cu4 hai
            clear hLa hu4
            obtain ⟨q0, q1, q2, q3, q4, q5⟩ := partAt_below HP.out HB
            have hcw := cell_below HB hc
            obtain ⟨l1, hl1⟩ : ∃ l1, l1 = H0 ++ handP p q i n := ⟨_, rfl⟩
            have hl1n : l1.length ≤ 200 := by rw [hl1, List.length_append]; omega
            rw [← hl1] at HO hSt2
            clear hl1 hSt hed1
            obtain ⟨Av, kv, rfl, _, _⟩ := HO.form
            have a0 : (0 : Int) ≤ (i : Int) := Int.natCast_nonneg _
            have a1 : (i : Int) < (La : Int) := by omega
            have a2 : (n : Int) < (p.args.length : Int) := by omega
            subst hyq
            go_wp2_with (at_builtin; (refine app_int (by rfl) _ _ (by rfl) (.slice Av l1.length kv) l1 z wx.heap.size rfl (by rfl) (by rfl) HO (by omega) ?_; intro A' c' w3 HO3 hg; have HB3 := below_grown HB hg (fun q hq => own_in HO (.inr hq)) HB.size; have HO4 := HO3.mono (G := fun q => w.heap.size ≤ q) (fun q hq => by have := HB.size; rcases hq with hq | hq; exact hq; omega)))
            go_roundw
            case rel => exact ⟨n + 1, _, rfl, by omega, by go_num, by rw [hSt2.out]; simpa using HO4, HB3⟩
            case measure => simp [intOf]; omega
          · have hSt2 : Hid (H0 ++ handP p q i (n + 1) = H0 ++ handP p q i n) := Lib.hid (by rw [hSt.out, if_neg hyq, List.append_nil])
            have hne : (y == (q : Int)) = false := by simpa using hyq
            clear hyq hSt hed1
            go_wp2
            go_roundw
            case rel => exact ⟨n + 1, _, rfl, by omega, by go_num, by rw [hSt2.out]; exact HO, HB⟩
            case measure => simp [intOf]; omega
        · obtain rfl : n = p.next.length := by omega
          rw [← hTk.out] at HO
          go_wp2
          go_roundw
          case rel => exact ⟨m + 1, _, rfl, by omega, by go_num, HO, HB⟩
          case measure => simp [intOf]; omega
    · obtain rfl : m = s.parts.length := by omega
      rw [List.take_length] at HO
      go_wp2
      go_ret
      exact ⟨_, rfl, HO, HB⟩
end Go.Proofs.YtnfaibenekninaaGreat.L

set_option linter.unusedVariables false
set_option linter.unusedSimpArgs false
namespace Go.Proofs.YtnfaibenekninaaGreat.L
open Go.RowKit
set_option maxRecDepth 100000 in
set_option maxHeartbeats 8000000 in
theorem idleParam_calls {F : Nat → Prop} (s : Sa) (sb : Nat) (vp : Value) (w : World) (hb0 : w.heap[sb]? = some (.cells #[vp, .int .i64 s.values] 28 (0, 0))) (hO0 : Ow true 67 partA w F vp s.parts) (hF : ¬ F sb) (hg : DOk s) :
    Calls Tryz.prog 80 #[.pointer (some ⟨sb, 0, none⟩)] w fun e w' => e = .returned (.bool (paramD s).isSome) ∧ Ow true 67 partA w' F vp ((paramD s).getD s.parts) ∧ Chg F w w' := by
  obtain ⟨A0, c0, rfl, _, _⟩ := hO0.form
  have hsb := blk_lt hb0
  have hn2 := hg.n
  have HU := Lib.hid (used_calls hg.uok sb _ w hb0 (partA_le.rd hO0.rd) hg.lim.1 hg.lim.2)
  have hv1 := hg.v1
  obtain ⟨x1, _⟩ := cell_of_block hb0
  have x10 : w.cell? ⟨sb, 0, none⟩ = some (.slice A0 s.parts.length c0) := (x1 0).trans rfl
  obtain ⟨U, hU⟩ : ∃ U, U = cntL s.values.toNat (usesAll s) := ⟨_, rfl⟩
  have hUl : Hid (U.length = s.values.toNat) := Lib.hid (by rw [hU]; exact cntL_len _ _)
  have hUs : usesN s = U := hU.symm
  have hUle : Hid (∀ n, 0 ≤ U.getD n 0) := Lib.hid (fun n => by rw [hU]; exact (cntL_le _ _ n).1)
  rw [← hU] at HU
  have hPd : Hid (paramD s = (parD U s.parts 0 s.parts).map (fun q => unparD s.parts q.1 q.2)) := Lib.hid (by unfold paramD; rw [hUs])
  obtain ⟨pd, hpd⟩ : ∃ pd, pd = paramD s := ⟨_, rfl⟩
  rw [← hpd] at hPd ⊢
  have HHa := Lib.hid (fun (q i : Nat) (W : World) (hW : Below w.heap.size w W) (hq : q < s.parts.length) (hi : i < s.parts[q].params.length) => handed_calls s sb 0 q i _ W (cell_below hW x10) ((partA_le.rd hO0.rd).below hW) ⟨hg.n, fun p hp => (hg.ok p hp).2⟩ (fun p hp m hm => by
    obtain ⟨h1, h2⟩ := hg.ed p hp m hm
    exact ⟨h1, fun he => by rw [h2 q _ (List.getElem?_eq_getElem hq) he]; exact hi⟩))
  have HPr := Lib.hid hg.par
  have HOk := Lib.hid hg.ok
  have HDp := Lib.hid (fun (q i : Nat) (W : World) (hW : Below w.heap.size w W) (hq : q < s.parts.length) (hi : i < s.parts[q].params.length) => dropParam_calls (F := F) s sb q i _ W (blk_below hb0 hW) (hO0.below hW) hF hg hq hi)
  have HLn : Hid (∀ q i : Nat, (handS s.parts q i).length ≤ 66) := Lib.hid (fun q i => Nat.le_trans (handS_len (B := 6) (fun p hp => (hg.ok p hp).2)) (by omega))
  clear hU hUs hpd x1 hg
  go_enter Tryz.func80, Tryz.ntmps80
  go_wp2_with fail
  refine HU.out.mono ?_
  rintro e w1 ⟨v', rfl, hOu, hb1⟩
  clear HU
  obtain ⟨Au, cu, rfl, _, _, hrU⟩ := rd_int hOu.rd
  have x11 := cell_below hb1 x10
  have hO1 := hO0.below hb1
  go_wp2_with fail
  clear x10 x11
  go_loopw [17] (fun x wr => ∃ m : Nat, m ≤ s.parts.length ∧ x = .int .i64 m ∧ Hid (∀ (j : Nat) (hj : j < s.parts.length), j < m → parIn U s.parts (0 + j) s.parts[j] < 0) ∧ Below w1.heap.size w1 wr) (fun x _ => s.parts.length - (intOf x).toNat)
  case atStart => exact ⟨0, Nat.zero_le _, rfl, Lib.hid (fun j _ h => by omega), Below.refl _ _⟩
  case round =>
    obtain ⟨m, hm, rfl, HN, HB⟩ := hrel
    rename World => wo
    by_cases hlt : m < s.parts.length
    · obtain ⟨g, c', he, _, _⟩ := Ow.some_form hO1 (by omega)
      injection he with he1 _ he3
      subst he1
      subst he3
      obtain ⟨_, _, _, _, hpt, h1, _, _, _⟩ := ow_read hO1 hlt
      obtain ⟨A1, c1, rfl, _, _, hr1⟩ := rd_int h1
      have x1 := cell_below HB hpt.1
      have HBw := below_then hb1 HB
      obtain ⟨y1, _⟩ := cell_of_block (blk_below hb0 HBw)
      have xs : wo.cell? ⟨sb, 0, none⟩ = some (.slice (some ⟨g, 0, none⟩) s.parts.length c0) := (y1 0).trans rfl
      have HPm := Lib.hid (HPr.out _ (List.getElem_mem hlt))
      have hpl := (HOk.out _ (List.getElem_mem hlt)).1.1
      obtain ⟨ps, hps⟩ : ∃ ps, ps = s.parts[m].params := ⟨_, rfl⟩
      have HIq : Hid (∀ i : Nat, idleQ U s.parts m s.parts[m] i = (U.getD (ps.getD i 0).toNat 0 == ((handS s.parts m i).count (ps.getD i 0) : Int))) := Lib.hid (fun i => by rw [hps]; rfl)
      have HHm := Lib.hid (fun (i : Nat) W hW (hi : i < ps.length) => HHa.out m i W hW hlt (by rw [← hps]; exact hi))
      have HDm := Lib.hid (fun (i : Nat) W hW (hi : i < ps.length) => HDp.out m i W hW hlt (by rw [← hps]; exact hi))
      have HNo : Hid ((∀ j, j < ps.length → idleQ U s.parts m s.parts[m] j = false) → ∀ (j : Nat) (hj : j < s.parts.length), j < m + 1 → parIn U s.parts (0 + j) s.parts[j] < 0) := Lib.hid (fun h j hj hjm => by
        by_cases he : j = m
        · subst he
          rw [Nat.zero_add]
          exact parIn_none (fun i hi => h i (by rw [hps]; exact hi))
        · exact HN.out j hj (by omega))
      have HYe : Hid (∀ i : Nat, i < ps.length → (∀ j, j < i → idleQ U s.parts m s.parts[m] j = false) → idleQ U s.parts m s.parts[m] i = true → pd = some (unparD s.parts m i)) := Lib.hid (fun i hi h1 h2 => by
        have := parD_hit (U := U) (l := s.parts) (t := s.parts) (k0 := 0) hlt HN.out i (by rw [Nat.zero_add]; exact parIn_hit (by rw [← hps]; exact hi) h1 h2)
        rw [hPd.out, this, Option.map_some, Nat.zero_add])
      rw [← hps] at x1 hr1 hpl HPm
      have HLm := Lib.hid (fun i : Nat => HLn.out m i)
      clear hpt h1 y1 hps HN
      obtain ⟨IQ, hIQ⟩ : ∃ IQ : Nat → Bool, IQ = fun i => idleQ U s.parts m s.parts[m] i := ⟨_, rfl⟩
      have HIq : Hid (∀ i : Nat, IQ i = (U.getD (ps.getD i 0).toNat 0 == ((handS s.parts m i).count (ps.getD i 0) : Int))) := Lib.hid (fun i => by rw [hIQ]; exact HIq.out i)
      have HNo : Hid ((∀ j, j < ps.length → IQ j = false) → ∀ (j : Nat) (hj : j < s.parts.length), j < m + 1 → parIn U s.parts (0 + j) s.parts[j] < 0) := Lib.hid (by rw [hIQ]; exact HNo.out)
      have HYe : Hid (∀ i : Nat, i < ps.length → (∀ j, j < i → IQ j = false) → IQ i = true → pd = some (unparD s.parts m i)) := Lib.hid (by rw [hIQ]; exact HYe.out)
      clear hIQ
      obtain ⟨hs, hhs⟩ : ∃ hs : Nat → List Int, hs = fun i : Nat => handS s.parts m i := ⟨_, rfl⟩
      have HIq : Hid (∀ i : Nat, IQ i = (U.getD (ps.getD i 0).toNat 0 == ((hs i).count (ps.getD i 0) : Int))) := Lib.hid (by rw [hhs]; exact HIq.out)
      have HHm : Hid (∀ (i : Nat) (W : World), Below w.heap.size w W → i < ps.length → Calls Tryz.prog 128 #[.pointer (some ⟨sb, 0, none⟩), .int .i64 m, .int .i64 i] W fun e w' => ∃ v', e = .returned v' ∧ Ow true 3 Rp.int w' (fun k => W.heap.size ≤ k) v' (hs i) ∧ Below W.heap.size W w') := Lib.hid (fun i W hW hi => by rw [hhs]; exact HHm.out i W hW hi)
      have HLm : Hid (∀ i : Nat, (hs i).length ≤ 66) := Lib.hid (by rw [hhs]; exact HLm.out)
      clear hhs
      have m0 : (0 : Int) ≤ (m : Int) := Int.natCast_nonneg _
      have m1 : (m : Int) < (s.parts.length : Int) := by omega
      go_wp2_with fail
      clear xs x1
      go_loopw [29] (fun x wr => ∃ i : Nat, i ≤ ps.length ∧ x = .int .i64 i ∧ Hid (∀ j, j < i → IQ j = false) ∧ Below w1.heap.size w1 wr) (fun x _ => ps.length - (intOf x).toNat)
      case atStart => exact ⟨0, Nat.zero_le _, rfl, Lib.hid (fun j h => by omega), HB⟩
      case round =>
        obtain ⟨i, hi, rfl, HN, HB1⟩ := hrel
        rename World => wx
        by_cases hit : i < ps.length
        · rcases hr1 with hn0 | ⟨b1, o1, rfl, hb1', hc1⟩
          · rw [hn0] at hit; simp at hit
          have cp := cell_below HB1 (hc1 i hit)
          have e : ps.getD i 0 = ps[i] := by rw [List.getD_eq_getElem?_getD, List.getElem?_eq_getElem hit]; rfl
          have hIq := Lib.hid (HIq.out i)
          rw [e] at hIq
          have hvr := HPm.out _ (List.getElem_mem hit)
          obtain ⟨v, hv⟩ : ∃ v, v = ps[i] := ⟨_, rfl⟩
          rw [← hv] at cp hIq hvr
          clear hv e hc1
          have hHc := Lib.hid (fun W (hW : Below wx.heap.size wx W) => HHm.out i W (below_then (below_then hb1 HB1) hW) hit)
          have hHl := HLm.out i
          obtain ⟨H, hH⟩ : ∃ H, H = hs i := ⟨_, rfl⟩
          rw [← hH] at hHc hIq hHl
          clear hH
          have i0 : (0 : Int) ≤ (i : Int) := Int.natCast_nonneg _
          have i1 : (i : Int) < (ps.length : Int) := by omega
          go_wp2_with fail
          refine (hHc.out _ (Below.refl _ _)).mono ?_
          rintro e w2 ⟨v2, rfl, hO2, hb2⟩
          have HB2 := below_then HB1 hb2
          obtain ⟨A2, c2, rfl, _, _, hr2⟩ := rd_int_in hO2.rd
          clear hHc cp hO2
          go_wp2_with fail
          go_loopw [7, 39] (fun nv x wr => ∃ n : Nat, n ≤ H.length ∧ nv = .int .i64 ((H.take n).count v : Nat) ∧ x = .int .i64 n ∧ Below w2.heap.size w2 wr) (fun _ x _ => H.length - (intOf x).toNat)
          case atStart => exact ⟨0, Nat.zero_le _, by simp, rfl, Below.refl _ _⟩
          case round =>
            obtain ⟨n, hn, rfl, rfl, HB3⟩ := hrel
            rename World => wy
            by_cases hnt : n < H.length
            · rcases hr2 with hn0 | ⟨b2, o2, rfl, hb2', hc2⟩
              · rw [hn0] at hnt; simp at hnt
              have cz := cell_below HB3 (hc2 n hnt)
              have hSt := Lib.hid (List.take_succ_eq_append_getElem hnt)
              have hcl := List.count_le_length (a := v) (l := H.take n)
              have hcl2 : (H.take n).length ≤ 66 := by rw [List.length_take]; omega
              obtain ⟨z, hz⟩ : ∃ z, z = H[n] := ⟨_, rfl⟩
              rw [← hz] at cz hSt
              obtain ⟨N1, hN1⟩ : ∃ N1, N1 = (H.take n).count v := ⟨_, rfl⟩
              have hSt2 : Hid ((H.take (n + 1)).count v = N1 + (if z = v then 1 else 0)) := Lib.hid (by rw [hSt.out, List.count_append, ← hN1, List.count_singleton]; congr 1; by_cases h : z = v <;> simp [h])
              rw [← hN1] at hcl ⊢
              clear hz hN1 hSt hc2
              have n0 : (0 : Int) ≤ (n : Int) := Int.natCast_nonneg _
              have n1 : (n : Int) < (H.length : Int) := by omega
              have HC := Lib.hid (fun b W => oneIf_calls b W)
              obtain ⟨b, hb⟩ : ∃ b, b = (z == v) := ⟨_, rfl⟩
              by_cases hzv : z = v
              · have hz2 : (z == v) = true := by simpa using hzv
                have hSt3 : Hid ((H.take (n + 1)).count v = N1 + 1) := Lib.hid (by rw [hSt2.out, if_pos hzv])
                clear hSt2 hb
                subst hzv
                go_wp2_with (go_at_call 129; refine (HC.out _ _).mono ?_; rintro e w' ⟨rfl, rfl⟩)
                go_roundw
                case rel => exact ⟨n + 1, by omega, by rw [hSt3.out]; go_num, by go_num, HB3⟩
                case measure => simp [intOf]; omega
              · have hz2 : (z == v) = false := by simpa using hzv
                have hSt3 : Hid ((H.take (n + 1)).count v = N1) := Lib.hid (by rw [hSt2.out, if_neg hzv]; rfl)
                clear hSt2 hb
                go_wp2_with (go_at_call 129; refine (HC.out _ _).mono ?_; rintro e w' ⟨rfl, rfl⟩)
                go_roundw
                case rel => exact ⟨n + 1, by omega, by rw [hSt3.out], by go_num, HB3⟩
                case measure => simp [intOf]; omega
            · obtain rfl : n = H.length := by omega
              rw [List.take_length] at *
              have HB4 := below_then HB2 HB3
              obtain ⟨d, hd⟩ := Int.eq_ofNat_of_zero_le hvr.1
              have hdl : d < U.length := by rw [hUl.out]; omega
              rcases hrU with hn0 | ⟨bU, oU, rfl, _, hcU⟩
              · rw [hn0] at hdl; simp at hdl
              have cu1 := cell_below HB4 (hcU d hdl)
              have eU : U.getD v.toNat 0 = U[d] := by rw [hd, Int.toNat_natCast, List.getD_eq_getElem?_getD, List.getElem?_eq_getElem hdl]; rfl
              rw [eU] at hIq
              obtain ⟨x, hx⟩ : ∃ x, x = U[d] := ⟨_, rfl⟩
              rw [← hx] at cu1 hIq
              obtain ⟨N1, hN1⟩ : ∃ N1, N1 = H.count v := ⟨_, rfl⟩
              rw [← hN1] at hIq ⊢
              have hNi := HN
              have d0 : (0 : Int) ≤ (d : Int) := Int.natCast_nonneg _
              have d1 : (d : Int) < (U.length : Int) := by omega
              have hDp := Lib.hid (HDm.out i wy (below_then hb1 HB4) hit)
              have hNx : Hid (IQ i = false → ∀ j, j < i + 1 → IQ j = false) := Lib.hid (fun h j hj => (Nat.lt_or_eq_of_le (Nat.le_of_lt_succ hj)).elim (fun h2 => HN.out j h2) (fun h2 => by subst h2; exact h))
              have hYx : Hid (IQ i = true → pd = some (unparD s.parts m i)) := Lib.hid (fun h => HYe.out i hit HN.out h)
              clear hx hN1 eU HYe HNo HHm HDm hcU HN
              replace hvr := Lib.hid hvr
              subst hd
              by_cases hxe : x = (N1 : Int)
              · have hx2 : (x == (N1 : Int)) = true := by simpa using hxe
                have hpd := Lib.hid (hYx.out (by rw [hIq.out]; exact hx2))
                clear hYx hNx hIq hx2
                subst hxe
                go_wp2_with fail
                refine hDp.out.mono ?_
                rintro e w5 ⟨rfl, hO5, hC5⟩
                have hCf : Chg F w w5 := (Chg.of_below (below_then hb1 HB4)).trans hC5
                clear hDp
                go_wp2_with fail
                go_ret
                exact ⟨by rw [hpd.out]; rfl, by rw [hpd.out]; exact hO5, hCf⟩
              · have hx2 : (x == (N1 : Int)) = false := by simpa using hxe
                have hN5 := Lib.hid (hNx.out (by rw [hIq.out]; exact hx2))
                clear hYx hNx hIq hxe
                go_wp2_with fail
                go_roundw
                case rel => exact ⟨i + 1, by omega, by go_num, hN5, HB4⟩
                case measure => simp [intOf]; omega
        · obtain rfl : i = ps.length := by omega
          have hN2 := Lib.hid (HNo.out (fun j hj => HN.out j hj))
          go_wp2_with fail
          go_roundw
          case rel => exact ⟨m + 1, by omega, by go_num, hN2, HB1⟩
          case measure => simp [intOf]; omega
    · obtain rfl : m = s.parts.length := by omega
      have hst : Hid (pd = none) := Lib.hid (by rw [hPd.out, parD_none (fun j hj => HN.out j hj hj)]; rfl)
      have hCe : Chg F w wo := Chg.of_below (below_then hb1 HB)
      have hOe := hO1.below HB
      go_wp2_with fail
      go_ret
      exact ⟨by rw [hst.out]; rfl, by rw [hst.out]; exact hOe, hCe⟩
end Go.Proofs.YtnfaibenekninaaGreat.L

set_option linter.unusedVariables false
set_option linter.unusedSimpArgs false
namespace Go.Proofs.YtnfaibenekninaaGreat.L
open Go.RowKit
theorem dropOne_step {r : Sa} {l : List Pt} (h : stepD (usesN r) r.parts = some l) : dropOne r = some ⟨l, r.values⟩ := by unfold dropOne; rw [h]; rfl
theorem dropOne_par {r : Sa} (h : stepD (usesN r) r.parts = none) : dropOne r = (paramD r).map (fun l => ⟨l, r.values⟩) := by unfold dropOne; rw [h]; rfl
set_option maxRecDepth 100000 in
set_option maxHeartbeats 8000000 in
theorem dropUnused_calls {F : Nat → Prop} (s : Sa) (sb : Nat) (vp : Value) (w : World) (hb0 : w.heap[sb]? = some (.cells #[vp, .int .i64 s.values] 28 (0, 0))) (hO0 : Ow true 67 partA w F vp s.parts) (hF : ¬ F sb) (hg : DOk s) :
    Calls Tryz.prog 34 #[.pointer (some ⟨sb, 0, none⟩)] w fun e w' => e = .returned (.int .i64 (dropN s : Nat)) ∧ Ow true 67 partA w' F vp (dropS s).parts ∧ Chg F w w' := by
  have HZ := Lib.hid (DropTo.zero hg)
  have HSt := Lib.hid (fun (r : Sa) (W : World) hb hO (h : DOk r) => idleStep_calls (F := F) r sb vp W hb hO hF h)
  have HPa := Lib.hid (fun (r : Sa) (W : World) hb hO (h : DOk r) => idleParam_calls (F := F) r sb vp W hb hO hF h)
  have hmu := muS_le hg
  clear hg
  obtain ⟨M, hM⟩ : ∃ M, M = muS s := ⟨_, rfl⟩
  have HM := Lib.hid hM
  rw [← hM] at hmu
  clear hM
  go_enter Tryz.func34, Tryz.ntmps34
  go_wp2_with fail
  go_loopw [3] (fun nv wr => ∃ (m : Nat) (r : Sa), nv = .int .i64 m ∧ Hid (DropTo s r m) ∧ Ow true 67 partA wr F vp r.parts ∧ Chg F w wr) (fun nv _ => M - (intOf nv).toNat)
  case atStart => exact ⟨0, s, rfl, HZ, hO0, Chg.refl _ _⟩
  case round =>
    clear HZ hO0
    obtain ⟨m, r, rfl, HD, HO, HC⟩ := hrel
    rename World => wo
    have hmM : m + muS r = M := by rw [HM.out]; exact HD.out.mu
    obtain ⟨u, hu⟩ : ∃ u, u = muS r := ⟨_, rfl⟩
    have HU := Lib.hid hu
    rw [← hu] at hmM
    clear hu
    have hbr : ∀ W, Chg F w W → W.heap[sb]? = some (.cells #[vp, .int .i64 r.values] 28 (0, 0)) := fun W hW => by rw [HD.out.val]; exact hW.blk hb0 hF
    replace hbr := Lib.hid hbr
    go_wp2_with fail
    refine (HSt.out r wo (hbr.out wo HC) HO HD.out.ok).mono ?_
    rintro e w1 ⟨rfl, HO1, hC1⟩
    have HC1 := HC.trans hC1
    obtain ⟨q, hq⟩ : ∃ q, q = stepD (usesN r) r.parts := ⟨_, rfl⟩
    rw [← hq] at HO1 ⊢
    cases q with
    | some l =>
      have hd := dropOne_step hq.symm
      have hT := Lib.hid (HD.out.step hd)
      have hu1 : 1 ≤ u := by have := (dropOne_ok HD.out.ok hd).2.1; rw [HU.out]; omega
      have HO2 : Ow true 67 partA w1 F vp (Sa.mk l r.values).parts := HO1
      clear hq hd
      simp only [Option.isSome_some]
      go_wp2_with fail
      go_roundw
      case rel => exact ⟨m + 1, _, by go_num, hT, HO2, HC1⟩
      case measure => simp [intOf]; omega
    | none =>
      have hd := dropOne_par hq.symm
      have HO2 : Ow true 67 partA w1 F vp r.parts := HO1
      clear hq
      replace hd := Lib.hid hd
      simp only [Option.isSome_none]
      go_wp2_with fail
      refine (HPa.out r w1 (hbr.out w1 HC1) HO2 HD.out.ok).mono ?_
      rintro e w2 ⟨rfl, HO3, hC3⟩
      have HC2 := HC1.trans hC3
      obtain ⟨q, hq⟩ : ∃ q, q = paramD r := ⟨_, rfl⟩
      rw [← hq] at HO3 ⊢
      have hd2 := hd.out
      rw [← hq] at hd2
      clear hq hd
      cases q with
      | some l =>
        have hd2 : dropOne r = some ⟨l, r.values⟩ := hd2
        have hT := Lib.hid (HD.out.step hd2)
        have hu1 : 1 ≤ u := by have := (dropOne_ok HD.out.ok hd2).2.1; rw [HU.out]; omega
        have HO4 : Ow true 67 partA w2 F vp (Sa.mk l r.values).parts := HO3
        clear hd2
        simp only [Option.isSome_some]
        go_wp2_with fail
        go_roundw
        case rel => exact ⟨m + 1, _, by go_num, hT, HO4, HC2⟩
        case measure => simp [intOf]; omega
      | none =>
        have hd2 : dropOne r = none := hd2
        have hfin := Lib.hid (HD.out.done hd2)
        have HO4 : Ow true 67 partA w2 F vp r.parts := HO3
        clear hd2
        simp only [Option.isSome_none]
        go_wp2_with fail
        go_ret
        exact ⟨ret_int (by rw [hfin.out.2]), by rw [hfin.out.1]; exact HO4, HC2⟩
theorem dropS_values {s : Sa} (h : DOk s) : (dropS s).values = s.values ∧ DOk (dropS s) := by
  have key : ∀ (f : Nat) (r : Sa), DOk r → (dropGo f r).1.values = r.values ∧ DOk (dropGo f r).1 := by
    intro f
    induction f with
    | zero => intro r hr; exact ⟨rfl, hr⟩
    | succ f ih =>
      intro r hr
      unfold dropGo
      cases hd : dropOne r with
      | none => exact ⟨rfl, hr⟩
      | some r' =>
        obtain ⟨h1, _, h3⟩ := dropOne_ok hr hd
        obtain ⟨h4, h5⟩ := ih r' h1
        exact ⟨h4.trans h3, h5⟩
  exact key _ s h
set_option maxRecDepth 100000 in
set_option maxHeartbeats 8000000 in
theorem dropUnusedI_calls {F : Nat → Prop} (s : Sa) (vparts : Value) (w : World) (hs : Rp.Rd part w F vparts s.parts) (hx : SaLim s) :
    Calls Tryz.prog 14 #[saV s vparts] w (SsaRes (GoodP s) (dropS s) (dropN s) w) := by
  obtain ⟨A, c, rfl, _, _, _⟩ := rd_part hs
  have HG := Lib.hid (fun W (hW : Below w.heap.size w W) => goodI_calls s _ W (hs.below hW) hx.1 hx.2)
  have HSp := Lib.hid (fun W (hW : Below w.heap.size w W) => cloneSsa_calls s _ W (hs.below hW) hx)
  have HSe := Lib.hid (fun W sb vp (G : Nat → Prop) (h : GoodP s) hb hO hF => dropUnused_calls (F := G) s sb vp W hb hO hF h.dok)
  have HV : Hid (GoodP s → (dropS s).values = s.values) := Lib.hid (fun h => (dropS_values h.dok).1)
  unfold saV at HG HSp ⊢
  have hB0 : Below w.heap.size w ((w.alloc (.cells #[.slice A s.parts.length c, .int .i64 s.values] 28)).alloc (.cells #[.slice none 0 0, .int .i64 0] 28)) := below_then (below_new _) (below_new _)
  have b0 : ((w.alloc (.cells #[.slice A s.parts.length c, .int .i64 s.values] 28)).alloc (.cells #[.slice none 0 0, .int .i64 0] 28)).heap[w.heap.size]? = some (.cells #[.slice A s.parts.length c, .int .i64 s.values] 28 (0, 0)) := alloc_old (alloc_at rfl)
  have r0 : ((w.alloc (.cells #[.slice A s.parts.length c, .int .i64 s.values] 28)).alloc (.cells #[.slice none 0 0, .int .i64 0] 28)).heap[w.heap.size + 1]? = some (.cells #[.slice none 0 0, .int .i64 0] 28 (0, 0)) := alloc_at (by simp)
  obtain ⟨x1, _⟩ := cell_of_block b0
  have x10 := (x1 0).trans (show (#[Value.slice A s.parts.length c, Value.int .i64 s.values] : Array Value)[0]? = some (Value.slice A s.parts.length c) from rfl)
  have x11 := (x1 1).trans (show (#[Value.slice A s.parts.length c, Value.int .i64 s.values] : Array Value)[1]? = some (Value.int .i64 s.values) from rfl)
  clear x1
  go_enter Tryz.func14, Tryz.ntmps14
  go_wp2_with fail
  generalize (w.alloc (.cells #[.slice A s.parts.length c, .int .i64 s.values] 28)).alloc (.cells #[.slice none 0 0, .int .i64 0] 28) = W0 at *
  refine (HG.out _ hB0).mono ?_
  rintro e w1 ⟨g, rfl, hg0, hb1⟩
  have hg : Hid (g = true ↔ GoodP s) := Lib.hid (hg0.out.trans (good_iff s))
  clear hg0
  have hB1 := below_then hB0 hb1
  have b1 := blk_below b0 hb1
  have r1 := blk_below r0 hb1
  clear x10 x11 b0 r0 hB0 hb1 HG
  cases g
  · obtain ⟨y1, y2⟩ := cell_of_block r1
    have z10 : w1.cell? ⟨w.heap.size + 1, 0, none⟩ = some (.slice none 0 0) := (y1 0).trans rfl
    have z11 : w1.cell? ⟨w.heap.size + 1, 1, none⟩ = some (.int .i64 0) := (y1 1).trans rfl
    have z20 := y2 0
    have z21 := y2 1
    have hE := res_end (.slice none 0 0) (.int .i64 0) r1 hB1
    have cF := Lib.hid (cell_of_block hE.1).1
    have hBf := hE.2.1
    clear y1 y2 b1 hE
    have hN : Hid (false = true ↔ GoodP s) := hg
    go_wp2_with fail
    have cF := cF.out
    refine bodyPost_ret (v := .tuple #[.agg #[.slice none 0 0, .int .i64 0], .int .i64 0, .bool false]) (by simp [results, Tryz.results14, go_sem, cF]) rfl ?_
    exact .mk false ⟨[], 0⟩ 0 (.slice none 0 0) hN (Lib.hid ⟨rfl, rfl⟩) rfl (Ow.nil _ _ _ _ _) hBf
  have hgp := Lib.hid (hg.out.1 rfl)
  obtain ⟨y1, _⟩ := cell_of_block b1
  have x10 : w1.cell? ⟨w.heap.size, 0, none⟩ = some (.slice A s.parts.length c) := (y1 0).trans rfl
  have x11 : w1.cell? ⟨w.heap.size, 1, none⟩ = some (.int .i64 s.values) := (y1 1).trans rfl
  clear y1 b1
  go_wp2_with fail
  refine (HSp.out _ hB1).mono ?_
  rintro e w2 ⟨v2, rfl, hO2, hb2⟩
  obtain ⟨A2, c2, rfl, _, _⟩ := hO2.form
  have hs1 := hB1.size
  have hB2 := below_then hB1 hb2
  have r2 := blk_below r1 hb2
  have hs2 := blk_lt r1
  have hs12 := hb2.size
  clear x10 x11 r1 hb2 HSp
  have hbx := below_new (w := w2) (.cells #[.slice A2 s.parts.length c2, .int .i64 s.values] 28)
  have hO3 := hO2.bound.below hbx
  have hB3 := below_then hB2 hbx
  have r3 := blk_below r2 hbx
  have o3 := heap_alloc_new w2 (.cells #[.slice A2 s.parts.length c2, .int .i64 s.values] 28)
  have hz3 : w2.heap.size < (w2.alloc (.cells #[.slice A2 s.parts.length c2, .int .i64 s.values] 28)).heap.size := by simp
  have hs0 := hB2.size
  clear hO2 hB2 r2
  go_wp2_with fail
  generalize w2.alloc (.cells #[.slice A2 s.parts.length c2, .int .i64 s.values] 28) = W3 at *
  refine (HSe.out W3 w2.heap.size _ _ hgp.out o3 hO3 (fun h => by have := h.2; omega)).mono ?_
  rintro e w5 ⟨rfl, hO5, hC5⟩
  have hB5 := hC5.to_below hB3 hB3.size (fun q hq => by have := hq.1; omega)
  have r5 := hC5.blk r3 (fun h => by have := h.1; omega)
  have o5 := hC5.blk o3 (fun h => by have := h.2; omega)
  have hVV := HV.out hgp.out
  have hlen : s.parts.length = (dropS s).parts.length := by
    have := hO5.form
    obtain ⟨_, _, he, _, _⟩ := this
    injection he
  rw [← hVV] at o5
  replace hVV := Lib.hid hVV
  obtain ⟨y1, _⟩ := cell_of_block o5
  have x10 : w5.cell? ⟨w2.heap.size, 0, none⟩ = some (.slice A2 s.parts.length c2) := (y1 0).trans rfl
  have x11 : w5.cell? ⟨w2.heap.size, 1, none⟩ = some (.int .i64 (dropS s).values) := (y1 1).trans rfl
  obtain ⟨y1, y2⟩ := cell_of_block r5
  have z10 : w5.cell? ⟨w.heap.size + 1, 0, none⟩ = some (.slice none 0 0) := (y1 0).trans rfl
  have z11 : w5.cell? ⟨w.heap.size + 1, 1, none⟩ = some (.int .i64 0) := (y1 1).trans rfl
  have z20 := y2 0
  have z21 := y2 1
  have hE := res_end (.slice A2 s.parts.length c2) (.int .i64 (dropS s).values) r5 hB5
  have cF := Lib.hid (cell_of_block hE.1).1
  have hN : Hid (true = true ↔ GoodP s) := Lib.hid ⟨fun _ => hgp.out, fun _ => rfl⟩
  have hOf := (hO5.move (hE.2.2.same (fun q hq h => by have h : q = w.heap.size + 1 := h; have := hq.1; omega))).mono (G := fun q => w.heap.size ≤ q) (fun q hq => by have := hq.1; omega)
  have hBf := hE.2.1
  clear y1 y2 hO3 hB3 r3 o3 hO5 hC5 HSe r5 o5 hB5 hE
  replace hlen := Lib.hid hlen
  go_wp2_with fail
  have cF := cF.out
  refine bodyPost_ret (v := .tuple #[.agg #[.slice A2 s.parts.length c2, .int .i64 (dropS s).values], .int .i64 (dropN s : Nat), .bool true]) (by simp [results, Tryz.results14, go_sem, cF]) rfl ?_
  exact .mk true (dropS s) (dropN s) _ (Lib.hid ⟨fun _ => hN.out.1 trivial, fun _ => rfl⟩) (Lib.hid ⟨rfl, rfl⟩) rfl hOf hBf
end Go.Proofs.YtnfaibenekninaaGreat.L
