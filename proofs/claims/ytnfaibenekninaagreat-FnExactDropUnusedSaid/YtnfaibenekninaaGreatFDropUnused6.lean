/- Joined texts, each of which was built by itself: Du7 Se2 Se3. -/
import Derived.Test.YtnfaibenekninaaGreatFDropUnused5
import Derived.Test.YtnfaibenekninaaGreatFDropUnused4
import Derived.Test.YtnfaibenekninaaGreatB12
import Derived.Test.YtnfaibenekninaaGreatB13
import Derived.Test.YtnfaibenekninaaGreatB10
set_option linter.unusedVariables false
set_option linter.unusedSimpArgs false
namespace Go.Proofs.YtnfaibenekninaaGreat.L
open Go.RowKit
set_option maxRecDepth 100000 in
set_option maxHeartbeats 16000000 in
theorem l9Unparam_calls (FF : Nat → Prop) (s : Sa) (k i : Nat) (vp : Value) (w : World) (hO0 : Ow true 67 partA w FF vp s.parts) (hg : DOk s) (hk : k < s.parts.length) (hi : i < s.parts[k].params.length) :
    Calls Tryz.prog 122 #[saV s vp, .int .i64 k, .int .i64 i] w fun e w' => e = .returned (saV ⟨unparD s.parts k i, s.values⟩ vp) ∧ Ow true 67 partA w' (fun q => FF q ∨ w.heap.size ≤ q) vp (unparD s.parts k i) ∧ Chg (fun q => FF q ∧ q < w.heap.size) w w' := by
  obtain ⟨g, c, rfl, _, _⟩ := Ow.some_form hO0 (by omega)
  have hn2 := hg.n
  obtain ⟨W0, hW0⟩ : ∃ W0, W0 = (w.alloc (.cells #[.slice (some ⟨g, 0, none⟩) s.parts.length c, .int .i64 s.values] 28)).alloc (.cells #[.slice none 0 0, .int .i64 0] 28) := ⟨_, rfl⟩
  have hB0 : Below w.heap.size w W0 := by rw [hW0]; exact below_then (below_new _) (below_new _)
  have b0 : W0.heap[w.heap.size]? = some (.cells #[.slice (some ⟨g, 0, none⟩) s.parts.length c, .int .i64 s.values] 28 (0, 0)) := by rw [hW0]; exact alloc_old (alloc_at rfl)
  have r0 : W0.heap[w.heap.size + 1]? = some (.cells #[.slice none 0 0, .int .i64 0] 28 (0, 0)) := by rw [hW0]; exact alloc_at (by simp)
  have hO1 := (hO0.bound).below hB0
  have hED : Hid (∀ (m : Nat) (hm : m < s.parts.length) (n : Nat), n < s.parts[m].next.length → n < s.parts[m].args.length ∧ (s.parts[m].next.getD n 0 = (k : Int) → i < (s.parts[m].args.getD n []).length ∧ (s.parts[m].args.getD n []).length ≤ 300)) := Lib.hid (fun m hm n hn => by
    obtain ⟨h1, h2⟩ := hg.ed _ (List.getElem_mem hm) n hn
    refine ⟨h1, fun he => ⟨by rw [h2 k _ (List.getElem?_eq_getElem hk) he]; exact hi, ?_⟩⟩
    have := (hg.ok _ (List.getElem_mem hm)).1.2.2.2.2 (s.parts[m].args.getD n []) (by rw [List.getD_eq_getElem?_getD, List.getElem?_eq_getElem h1]; exact List.getElem_mem h1)
    exact this)
  have HNl : Hid (∀ (m : Nat) (hm : m < s.parts.length), s.parts[m].next.length ≤ 6) := Lib.hid (fun m hm => (hg.ok _ (List.getElem_mem hm)).2)
  have hpl := (hg.ok _ (List.getElem_mem hk)).1.1
  have hgB : FF g ∧ g < w.heap.size := own_in hO0.bound (k := g) (.inl rfl)
  obtain ⟨vq, G0, x0, f0, hOq, hG0, hFg, hCl⟩ := ow_params hO1 hk
  obtain ⟨gp, cp, rfl, _, _⟩ := Ow.some_form hOq (by omega)
  obtain ⟨Ad, hAd, hRd2⟩ := rd_behind (hOq.rd.below (below_drew (Below.refl _ _))) hi
  have hRd1 := rd_upto (hOq.rd.below (below_drew (Below.refl _ _))) (i := i) (by omega)
  obtain ⟨u2, W2, u3, W3, hr2, hr3, hO3, hBa, hBb, hBc⟩ := cut_run (P := Tryz.prog) (W := W0.drew) (e := 3) int_flat 59 (.int .i64 0) 8 Tryz.underlying59 infoInt rfl (by decide) (by omega) _ _ _ _ hRd1 hRd2 (by rw [List.length_take, List.length_drop]; omega)
  rw [← erase_cells _ hi] at hO3
  obtain ⟨A5, c5, rfl, _, _⟩ := hO3.form
  obtain ⟨Le, hLe⟩ : ∃ Le, Le = (s.parts[k].params.eraseIdx i).length := ⟨_, rfl⟩
  rw [← hLe] at hr3 hO3
  obtain ⟨u3, hu3⟩ : ∃ u3, u3 = Value.slice A5 Le c5 := ⟨_, rfl⟩
  rw [← hu3] at hr3 hO3
  have hBc0 : Below W0.heap.size W0 W3 := ⟨hBc.os, hBc.tape, hBc.output, hBc.size, hBc.block⟩
  have hBb0 : Below W0.heap.size W0 W2 := ⟨hBb.os, hBb.tape, hBb.output, hBb.size, hBb.block⟩
  have hF := hCl W3 _ u3 _ (Chg.of_below hBc0) hO3 (fun q hq => .inr hq)
  have hOF : Ow true 67 partA (W3.setCell ⟨g, k * 6, none⟩ u3) (fun q => q ≠ w.heap.size ∧ q ≠ w.heap.size + 1 ∧ (FF q ∨ w.heap.size ≤ q)) (.slice (some ⟨g, 0, none⟩) s.parts.length c) (unparB s.parts k i) := by
    rw [unparB_set hk]
    have h1 := blk_lt r0
    exact hF.mono (fun q hq => by rcases hq with hq | hq; exact ⟨by have := hq.2; omega, by have := hq.2; omega, .inl hq.1⟩; exact ⟨by have hq : W0.heap.size ≤ q := hq; omega, by have hq : W0.heap.size ≤ q := hq; omega, .inr (by have hq : W0.heap.size ≤ q := hq; omega)⟩)
  have hCF : Chg (fun q => FF q ∧ q < w.heap.size) w (W3.setCell ⟨g, k * 6, none⟩ u3) := (Chg.of_below (hB0.trans (hBc0.mono hB0.size))).trans (Chg.set hgB)
  have x0d : W0.drew.cell? ⟨g, k * 6, none⟩ = some (.slice (some ⟨gp, 0, none⟩) s.parts[k].params.length cp) := x0
  have x00 : W0.cell? ⟨w.heap.size, 0, none⟩ = some (.slice (some ⟨g, 0, none⟩) s.parts.length c) := by
    obtain ⟨y1, _⟩ := cell_of_block b0
    exact (y1 0).trans rfl
  have hgne : g ≠ w.heap.size ∧ g ≠ w.heap.size + 1 := by omega
  have b3 : (W3.setCell ⟨g, k * 6, none⟩ u3).heap[w.heap.size]? = some (.cells #[.slice (some ⟨g, 0, none⟩) s.parts.length c, .int .i64 s.values] 28 (0, 0)) := blk_set (blk_below b0 hBc0) (a := ⟨g, k * 6, none⟩) (show w.heap.size ≠ g by omega) u3
  have r3 : (W3.setCell ⟨g, k * 6, none⟩ u3).heap[w.heap.size + 1]? = some (.cells #[.slice none 0 0, .int .i64 0] 28 (0, 0)) := blk_set (blk_below r0 hBc0) (a := ⟨g, k * 6, none⟩) (show w.heap.size + 1 ≠ g by omega) u3
  have x02 := cell_below hBb0 x00
  have x03 := cell_below hBc0 x00
  have z3 := cell_below hBc0 x0
  have f3 : W3.frozen? ⟨g, k * 6, none⟩ = false := by rw [(Chg.of_below (A := fun _ => False) hBc0).froz hFg.2 (fun h => h)]; exact f0 _
  subst hu3
  clear hLe
  have HR := Lib.hid (And.intro hOF (And.intro hCF (And.intro b3 r3)))
  obtain ⟨Lq, hLq⟩ : ∃ Lq, Lq = s.parts[k].params.length := ⟨_, rfl⟩
  rw [← hLq] at x0d x0 hi hpl z3
  simp only [← hLq] at hr3
  have HA2 := Lib.hid hr2
  have HA3 := Lib.hid hr3
  have HAd := Lib.hid (show Rp.Rd Rp.int W0.drew G0 (.slice (some Ad) (Lq - (i + 1)) (cp - (i + 1))) (s.parts[k].params.drop (i + 1)) by rw [hLq]; exact hRd2)
  have hAd : (if cp = i + 1 then (some ⟨gp, 0, none⟩ : Option Addr) else some ⟨gp, i + 1, none⟩) = some Ad := by
    rw [← hAd, show 0 + (i + 1) * Rp.int.sz = i + 1 from by show 0 + (i + 1) * 1 = _; omega]
  have hlp : Lq ≤ cp := by rw [hLq]; exact hOq.form.elim (fun A h => h.elim (fun c h => by injection h.1 with _ _ h3; rw [h3]; exact h.2.1))
  have k0 : (0 : Int) ≤ (k : Int) := Int.natCast_nonneg _
  have k1 : (k : Int) < (s.parts.length : Int) := by omega
  have i0 : (0 : Int) ≤ (i : Int) := Int.natCast_nonneg _
  have i1 : (i : Int) < (Lq : Int) := by omega
  have i2 : (i : Int) ≤ (cp : Int) := by omega
  have i3 : (i : Int) + 1 ≤ (Lq : Int) := by omega
  have i4 : (0 : Int) ≤ (i : Int) + 1 := by omega
  have i5 : ((i : Int) + 1).toNat = i + 1 := by omega
  have i6 : i ≤ cp := by omega
  have i7 : i + 1 ≤ Lq := by omega
  have iw : IntKind.i64.wrap ((i : Int) + 1) = (i : Int) + 1 := IntWalk.i64_in _ (by omega)
  have hW0s : W0.drew.heap.size = W0.heap.size := rfl
  clear hOF hCF b3 r3 hRd1 hRd2 hr2 hr3 hO3 hF hCl hG0 hOq f0 hO1 hO0 hg hBc hBb hLq
  have HK := Lib.hid (And.intro b0 r0)
  clear b0 r0
  unfold saV
  subst hW0
  go_enter Tryz.func122, Tryz.ntmps122
  go_upto_region 2 with fail
  generalize (w.alloc (.cells #[.slice (some ⟨g, 0, none⟩) s.parts.length c, .int .i64 s.values] 28)).alloc (.cells #[.slice none 0 0, .int .i64 0] 28) = W0 at *
  have x0i := Lib.hid x0
  clear x0 x0d
  refine anyT_region [(15, fun w' => w'.cell? ⟨w.heap.size, 0, none⟩ = some (.slice (some ⟨g, 0, none⟩) s.parts.length c))] (by kernel_rfl) ⟨fun _ => x00, trivial⟩ (fun hT => ?_)
  refine anyT_pure (i := 0) (v := ?_) rfl (by kernel_rfl) (by kernel_rfl) (by kernel_rfl) (fun _ _ _ h => h) (Or.inl ⟨by rfl, ?_⟩) (by assumption) ?_
  rotate_left 1
  focus ((intro w hSw; (try dsimp only at hSw); go_simp); try with_reducible rfl)
  try simp only [Act.put, Array.getInternal_eq_getElem, List.getElem_toArray, List.getElem_cons_zero, List.getElem_cons_succ, List.setIfInBounds_toArray, List.set_cons_zero, List.set_cons_succ]
  refine anyT_pure (i := 2) (v := ?_) rfl (by kernel_rfl) (by kernel_rfl) (by kernel_rfl) (fun _ _ _ h => h) (Or.inl ⟨by rfl, ?_⟩) (by assumption) ?_
  rotate_left 1
  focus ((intro w hSw; (try dsimp only at hSw); go_simp); try with_reducible rfl)
  try simp only [Act.put, Array.getInternal_eq_getElem, List.getElem_toArray, List.getElem_cons_zero, List.getElem_cons_succ, List.setIfInBounds_toArray, List.set_cons_zero, List.set_cons_succ]
  refine anyT_pure (i := 4) (v := ?_) rfl (by kernel_rfl) (by kernel_rfl) (by kernel_rfl) (fun _ _ _ h => h) (Or.inl ⟨by rfl, ?_⟩) (by assumption) ?_
  rotate_left 1
  focus ((intro w hSw; (try dsimp only at hSw); go_simp); try with_reducible rfl)
  try simp only [Act.put, Array.getInternal_eq_getElem, List.getElem_toArray, List.getElem_cons_zero, List.getElem_cons_succ, List.setIfInBounds_toArray, List.set_cons_zero, List.set_cons_succ]
  refine anyT_pure (i := 5) (v := ?_) rfl (by kernel_rfl) (by kernel_rfl) (by kernel_rfl) (fun _ _ _ h => h) (Or.inl ⟨by rfl, ?_⟩) (by assumption) ?_
  rotate_left 1
  focus ((intro w hSw; (try dsimp only at hSw); go_simp); try with_reducible rfl)
  try simp only [Act.put, Array.getInternal_eq_getElem, List.getElem_toArray, List.getElem_cons_zero, List.getElem_cons_succ, List.setIfInBounds_toArray, List.set_cons_zero, List.set_cons_succ]
  refine anyT_pure (i := 8) (v := ?_) rfl (by kernel_rfl) (by kernel_rfl) (by kernel_rfl) (fun _ _ _ h => h) (Or.inl ⟨by rfl, ?_⟩) (by assumption) ?_
  rotate_left 1
  focus ((intro w hSw; (try dsimp only at hSw); go_simp); try with_reducible rfl)
  try simp only [Act.put, Array.getInternal_eq_getElem, List.getElem_toArray, List.getElem_cons_zero, List.getElem_cons_succ, List.setIfInBounds_toArray, List.set_cons_zero, List.set_cons_succ]
  refine anyT_pure (i := 9) (v := ?_) rfl (by kernel_rfl) (by kernel_rfl) (by kernel_rfl) (fun _ _ _ h => h) (Or.inl ⟨by rfl, ?_⟩) (by assumption) ?_
  rotate_left 1
  focus ((intro w hSw; (try dsimp only at hSw); go_simp); try with_reducible rfl)
  try simp only [Act.put, Array.getInternal_eq_getElem, List.getElem_toArray, List.getElem_cons_zero, List.getElem_cons_succ, List.setIfInBounds_toArray, List.set_cons_zero, List.set_cons_succ]
  refine anyT_take (k := 0) (i := 1) (v := ?_) rfl rfl (by kernel_rfl) (by kernel_rfl) (by kernel_rfl) (fun _ _ _ h => h) (Or.inl ⟨by rfl, ?_⟩) (by assumption) ?_
  rotate_left 1
  focus ((intro w hSw; (try dsimp only at hSw); go_simp); try with_reducible rfl)
  try simp only [Act.put, Array.getInternal_eq_getElem, List.getElem_toArray, List.getElem_cons_zero, List.getElem_cons_succ, List.setIfInBounds_toArray, List.set_cons_zero, List.set_cons_succ]
  refine anyT_pure (i := 6) (v := ?_) rfl (by kernel_rfl) (by kernel_rfl) (by kernel_rfl) (fun _ _ _ h => h) (Or.inl ⟨by rfl, ?_⟩) (by assumption) ?_
  rotate_left 1
  focus ((intro w hSw; (try dsimp only at hSw); go_simp); try with_reducible rfl)
  try simp only [Act.put, Array.getInternal_eq_getElem, List.getElem_toArray, List.getElem_cons_zero, List.getElem_cons_succ, List.setIfInBounds_toArray, List.set_cons_zero, List.set_cons_succ]
  refine anyT_pure (i := 10) (v := ?_) rfl (by kernel_rfl) (by kernel_rfl) (by kernel_rfl) (fun _ _ _ h => h) (Or.inl ⟨by rfl, ?_⟩) (by assumption) ?_
  rotate_left 1
  focus ((intro w hSw; (try dsimp only at hSw); go_simp); try with_reducible rfl)
  try simp only [Act.put, Array.getInternal_eq_getElem, List.getElem_toArray, List.getElem_cons_zero, List.getElem_cons_succ, List.setIfInBounds_toArray, List.set_cons_zero, List.set_cons_succ]
  refine anyT_pure (i := 11) (v := ?_) rfl (by kernel_rfl) (by kernel_rfl) (by kernel_rfl) (fun _ _ _ h => h) (Or.inl ⟨by rfl, ?_⟩) (by assumption) ?_
  rotate_left 1
  focus ((intro w hSw; (try dsimp only at hSw); go_simp); try with_reducible rfl)
  try simp only [Act.put, Array.getInternal_eq_getElem, List.getElem_toArray, List.getElem_cons_zero, List.getElem_cons_succ, List.setIfInBounds_toArray, List.set_cons_zero, List.set_cons_succ]
  refine anyT_ready (rs := [3]) (by kernel_rfl) (by simp) ?_
  refine AllT.cons rfl (fun K1 hK1 => ?_) AllT.nil
  try simp only [Array.getInternal_eq_getElem, List.getElem_toArray, List.getElem_cons_zero, List.getElem_cons_succ]
  go_simp
  refine hK1.out _ _ ⟨fun _ => cell_below hBa x00, trivial⟩ (fun hT => ?_)
  clear hK1 K1
  try simp only [Act.put, Array.getInternal_eq_getElem, List.getElem_toArray, List.getElem_cons_zero, List.getElem_cons_succ, List.setIfInBounds_toArray, List.set_cons_zero, List.set_cons_succ]
  refine anyT_ready (rs := [7]) (by kernel_rfl) (by simp) ?_
  refine AllT.cons rfl (fun K1 hK1 => ?_) AllT.nil
  try simp only [Array.getInternal_eq_getElem, List.getElem_toArray, List.getElem_cons_zero, List.getElem_cons_succ]
  rw [if_pos (by first | kernel_rfl | rfl | decide)]
  refine oper_append _ _ _ _ _ _ rfl (by rfl) (by rfl) (HA2.out _) ?_
  refine hK1.out _ _ ⟨fun _ => x02, trivial⟩ (fun hT => ?_)
  clear hK1 K1
  try simp only [Act.put, Array.getInternal_eq_getElem, List.getElem_toArray, List.getElem_cons_zero, List.getElem_cons_succ, List.setIfInBounds_toArray, List.set_cons_zero, List.set_cons_succ]
  refine anyT_ready (rs := [12]) (by kernel_rfl) (by simp) ?_
  refine AllT.cons rfl (fun K1 hK1 => ?_) AllT.nil
  try simp only [Array.getInternal_eq_getElem, List.getElem_toArray, List.getElem_cons_zero, List.getElem_cons_succ]
  rw [if_pos (by first | kernel_rfl | rfl | decide)]
  refine oper_append _ _ _ _ _ _ rfl (by rfl) (by rfl) (HA3.out _) ?_
  refine hK1.out _ _ ⟨fun _ => x03, trivial⟩ (fun hT => ?_)
  clear hK1 K1
  try simp only [Act.put, Array.getInternal_eq_getElem, List.getElem_toArray, List.getElem_cons_zero, List.getElem_cons_succ, List.setIfInBounds_toArray, List.set_cons_zero, List.set_cons_succ]
  refine anyT_pure (i := 13) (v := ?_) rfl (by kernel_rfl) (by kernel_rfl) (by kernel_rfl) (fun _ _ _ h => h) (Or.inl ⟨by rfl, ?_⟩) (by assumption) ?_
  rotate_left 1
  focus ((intro w hSw; (try dsimp only at hSw); go_simp); try with_reducible rfl)
  try simp only [Act.put, Array.getInternal_eq_getElem, List.getElem_toArray, List.getElem_cons_zero, List.getElem_cons_succ, List.setIfInBounds_toArray, List.set_cons_zero, List.set_cons_succ]
  refine anyT_pure (i := 14) (v := ?_) rfl (by kernel_rfl) (by kernel_rfl) (by kernel_rfl) (fun _ _ _ h => h) (Or.inl ⟨by rfl, ?_⟩) (by assumption) ?_
  rotate_left 1
  focus ((intro w hSw; (try dsimp only at hSw); go_simp); try with_reducible rfl)
  try simp only [Act.put, Array.getInternal_eq_getElem, List.getElem_toArray, List.getElem_cons_zero, List.getElem_cons_succ, List.setIfInBounds_toArray, List.set_cons_zero, List.set_cons_succ]
  refine anyT_ready (rs := [15]) (by kernel_rfl) (by simp) ?_
  refine AllT.cons rfl (fun K1 hK1 => ?_) AllT.nil
  try simp only [Array.getInternal_eq_getElem, List.getElem_toArray, List.getElem_cons_zero, List.getElem_cons_succ]
  go_simp
  refine hK1.out _ _ ⟨fun h => absurd h (by simp), trivial⟩ (fun hT => ?_)
  clear hK1 K1
  try simp only [Act.put, Array.getInternal_eq_getElem, List.getElem_toArray, List.getElem_cons_zero, List.getElem_cons_succ, List.setIfInBounds_toArray, List.set_cons_zero, List.set_cons_succ]
  refine anyT_done (by kernel_rfl) ?_ _
  obtain ⟨hO2, hC2, b2, r2⟩ := HR.out
  obtain ⟨y1, _⟩ := cell_of_block b2
  have x20 : (W3.setCell ⟨g, k * 6, none⟩ (.slice A5 Le c5)).cell? ⟨w.heap.size, 0, none⟩ = some (.slice (some ⟨g, 0, none⟩) s.parts.length c) := (y1 0).trans rfl
  clear y1 x00 x02 x03 z3 f3 HA2 HA3 HR
  generalize W3.setCell ⟨g, k * 6, none⟩ (.slice A5 Le c5) = W4 at *
  have hs4 := blk_lt r2
  obtain ⟨PB, hPB⟩ : ∃ PB, PB = unparB s.parts k i := ⟨_, rfl⟩
  rw [← hPB] at hO2
  have hBl : Hid (PB.length = s.parts.length) := Lib.hid (by rw [hPB, unparB_len])
  have HFin : Hid (unparD s.parts k i = parX PB k i s.parts.length) := Lib.hid (by rw [← hBl.out, parX_all, hPB]; rfl)
  have HBg : Hid (∀ (m : Nat) (hm : m < s.parts.length) (hm2 : m < PB.length), PB[m].next = s.parts[m].next ∧ PB[m].args = s.parts[m].args) := Lib.hid (fun m hm hm2 => by subst hPB; exact unparB_get hm hm2)
  clear hPB
  obtain ⟨FX, hFX⟩ : ∃ FX : Nat → Prop, FX = fun q => q ≠ w.heap.size ∧ q ≠ w.heap.size + 1 ∧ (FF q ∨ w.heap.size ≤ q) := ⟨_, rfl⟩
  rw [← hFX] at hO2
  have HFX : Hid (∀ q, FX q ↔ q ≠ w.heap.size ∧ q ≠ w.heap.size + 1 ∧ (FF q ∨ w.heap.size ≤ q)) := Lib.hid (fun q => by rw [hFX])
  clear hFX
  go_wp2_with fail
  clear x20
  go_loopw [37] (fun x wr => ∃ m : Nat, m ≤ s.parts.length ∧ x = .int .i64 m ∧ Ow true 67 partA wr FX (.slice (some ⟨g, 0, none⟩) s.parts.length c) (parX PB k i m) ∧ Chg (fun q => FF q ∧ q < w.heap.size) w wr ∧ wr.heap[w.heap.size]? = some (.cells #[.slice (some ⟨g, 0, none⟩) s.parts.length c, .int .i64 s.values] 28 (0, 0)) ∧ wr.heap[w.heap.size + 1]? = some (.cells #[.slice none 0 0, .int .i64 0] 28 (0, 0))) (fun x _ => s.parts.length - (intOf x).toNat)
  case atStart => exact ⟨0, Nat.zero_le _, rfl, by rw [parX_zero]; exact hO2, hC2, b2, r2⟩
  case round =>
    clear hO2 hC2 b2 r2 hs4
    obtain ⟨m, hm, rfl, HO, HC, b0, r0⟩ := hrel
    rename World => wo
    have hs4 := blk_lt r0
    by_cases hlt : m < s.parts.length
    · have hmB : m < PB.length := by rw [hBl.out]; exact hlt
      have hmX : m < (parX PB k i m).length := by rw [parX_len (by omega)]; exact hmB
      obtain ⟨_, _, _, _, hpt, h1, h2, h3, h4⟩ := ow_read HO hmX
      have hXm : (parX PB k i m)[m] = PB[m] := Option.some.inj ((List.getElem?_eq_getElem hmX).symm.trans (parX_get hmB))
      rw [hXm] at hpt h1 h2 h3 h4
      obtain ⟨A1, c1, rfl, _⟩ := id h1
      obtain ⟨A2, c2, rfl, _⟩ := id h2
      obtain ⟨A3, c3, rfl, _⟩ := id h3
      obtain ⟨A4, c4, rfl, _, _, hr4⟩ := id h4
      have hga4 : Hid (PB[m].args = [] ∨ ∃ b o, A4 = some ⟨b, o, none⟩ ∧ b < wo.heap.size) := Lib.hid (hr4.imp id (fun ⟨b, o, h, _, h2, _⟩ => ⟨b, o, h, h2⟩))
      obtain ⟨q0, q1, q2, q3, q4, q5⟩ := hpt
      obtain ⟨hBn, hBa⟩ := HBg.out m hlt hmB
      have hed := Lib.hid (hED.out m hlt)
      have hnl := HNl.out m hlt
      have hLst := Lib.hid (parY_last (k := (k : Int)) (i := i) hmB)
      have HO0 : Ow true 67 partA wo FX (.slice (some ⟨g, 0, none⟩) s.parts.length c) (parY PB k i m 0) := by rw [parY_zero hmB]; exact HO
      obtain ⟨p, hp⟩ : ∃ p, p = PB[m] := ⟨_, rfl⟩
      rw [← hBn, ← hBa, ← hp] at hed
      rw [← hBn, ← hp] at hnl
      rw [← hp] at q0 q1 q2 q3 q4 q5 hLst hga4
      have hpH := Lib.hid hp
      clear h1 h2 h3 h4 hr4 hXm hBn hBa hp HO
      have m0 : (0 : Int) ≤ (m : Int) := Int.natCast_nonneg _
      have m1 : (m : Int) < (s.parts.length : Int) := by omega
      have hbw := below_new (w := wo) (.cells #[.slice A1 p.params.length c1, .slice A2 p.code.length c2, .int .i64 p.go, .int .i64 p.test, .slice A3 p.next.length c3, .slice A4 p.args.length c4] 67)
      have b1 := heap_alloc_new wo (.cells #[.slice A1 p.params.length c1, .slice A2 p.code.length c2, .int .i64 p.go, .int .i64 p.test, .slice A3 p.next.length c3, .slice A4 p.args.length c4] 67)
      obtain ⟨y1, _⟩ := cell_of_block b0
      have x10 : wo.cell? ⟨w.heap.size, 0, none⟩ = some (.slice (some ⟨g, 0, none⟩) s.parts.length c) := (y1 0).trans rfl
      obtain ⟨y1, _⟩ := cell_of_block b1
      have y4 := (y1 4).trans (show (#[Value.slice A1 p.params.length c1, .slice A2 p.code.length c2, .int .i64 p.go, .int .i64 p.test, .slice A3 p.next.length c3, .slice A4 p.args.length c4] : Array Value)[4]? = some (.slice A3 p.next.length c3) from rfl)
      clear y1
      have b0 := blk_below b0 hbw
      have r0 := blk_below r0 hbw
      have HO1 := HO0.below hbw
      have HC1 := HC.trans (Chg.of_below hbw)
      have HX4 := Lib.hid (cell_below hbw q4)
      have HX5 := Lib.hid (cell_below hbw q5)
      go_wp2_with fail
      clear q0 q1 q2 q3 q4 q5 x10 y4 HO0 HC hbw
      generalize wo.alloc (.cells #[.slice A1 p.params.length c1, .slice A2 p.code.length c2, .int .i64 p.go, .int .i64 p.test, .slice A3 p.next.length c3, .slice A4 p.args.length c4] 67) = W1 at *
      go_loopw [45] (fun x wr => ∃ n : Nat, n ≤ p.next.length ∧ x = .int .i64 n ∧ Ow true 67 partA wr FX (.slice (some ⟨g, 0, none⟩) s.parts.length c) (parY PB k i m n) ∧ Chg (fun q => FF q ∧ q < w.heap.size) w wr ∧ wr.heap[w.heap.size]? = some (.cells #[.slice (some ⟨g, 0, none⟩) s.parts.length c, .int .i64 s.values] 28 (0, 0)) ∧ wr.heap[w.heap.size + 1]? = some (.cells #[.slice none 0 0, .int .i64 0] 28 (0, 0)) ∧ wr.heap[wo.heap.size]? = some (.cells #[.slice A1 p.params.length c1, .slice A2 p.code.length c2, .int .i64 p.go, .int .i64 p.test, .slice A3 p.next.length c3, .slice A4 p.args.length c4] 67 (0, 0)) ∧ Hid (wr.cell? ⟨g, m * 6 + 4, none⟩ = some (.slice A3 p.next.length c3)) ∧ Hid (wr.cell? ⟨g, m * 6 + 5, none⟩ = some (.slice A4 p.args.length c4))) (fun x _ => p.next.length - (intOf x).toNat)
      case atStart => exact ⟨0, Nat.zero_le _, rfl, HO1, HC1, b0, r0, b1, HX4, HX5⟩
      case round =>
        clear HO1 HC1 b0 r0 b1 HX4 HX5
        obtain ⟨n, hn, rfl, HO, HC, b0, r0, b1, X4, X5⟩ := hrel
        rename World => wx
        by_cases hnt : n < p.next.length
        · have hmY : m < (parY PB k i m n).length := by rw [parY_len hmB]; exact hmB
          obtain ⟨_, _, _, _, hpt, _, _, h3, _⟩ := ow_read HO hmY
          have hYm : (parY PB k i m n)[m] = parQ PB k i m n := Option.some.inj ((List.getElem?_eq_getElem hmY).symm.trans (parY_get hmB))
          obtain ⟨hQ1, hQ2, hQ3⟩ := parQ_args (k := (k : Int)) (i := i) hmB (Nat.le_refl n)
          rw [hYm] at hpt h3
          rw [hQ3, ← hpH.out] at h3
          rw [← hpH.out] at hQ1 hQ2
          obtain ⟨A3', c3', hv3, _, _, hr3⟩ := rd_int h3
          have hv4 := Option.some.inj (hpt.2.2.2.2.1.symm.trans X4.out)
          rw [hv3] at hv4
          injection hv4 with hA3 _ hc3
          subst hA3
          rcases hr3 with hn0 | ⟨b3, o3, rfl, hb3, hc3'⟩
          · rw [hn0] at hnt; simp at hnt
          have cv := hc3' n hnt
          have e : p.next.getD n 0 = p.next[n] := by rw [List.getD_eq_getElem?_getD, List.getElem?_eq_getElem hnt]; rfl
          have hed1 := Lib.hid (hed.out n hnt)
          have hyB : PB[m]?.map (fun p => p.next.getD n 0) = some p.next[n] := by rw [List.getElem?_eq_getElem hmB, Option.map_some, ← hpH.out, e]
          rw [e] at hed1
          clear hpt h3 hv3 hc3' e
          obtain ⟨y, hy⟩ : ∃ y, y = p.next[n] := ⟨_, rfl⟩
          rw [← hy] at cv hed1 hyB
          clear hy
          have n0 : (0 : Int) ≤ (n : Int) := Int.natCast_nonneg _
          have n1 : (n : Int) < (p.next.length : Int) := by omega
          by_cases hyk : y = (k : Int)
          · obtain ⟨hal, hal2⟩ := hed1.out
            obtain ⟨hl1, hl2⟩ := hal2 hyk
            rw [← hQ1] at hl1 hl2
            have hal0 := hal
            rw [← hQ2] at hal
            have hstep := Lib.hid (parY_yes (i := i) (hyk ▸ hyB) hmB)
            obtain ⟨ga, ca, u, G, xa, xu, fa, hOu, hG, hga, hCl⟩ := ow_arg HO hmY (by rw [hYm]; exact hal)
            simp only [hYm] at xa hOu hCl
            rw [hQ2] at xa
            have hv5 := Option.some.inj (xa.symm.trans X5.out)
            injection hv5 with hA4 _ hc4
            subst hA4
            subst hc4
            have hgaw : ga < wo.heap.size := by
              rcases hga4.out with h | ⟨b, o, h, h2⟩
              · rw [h] at hal0; simp at hal0
              · injection h with h; injection h with h; rw [h]; exact h2
            have hQg : (parQ PB k i m n).args.getD n [] = (parQ PB k i m n).args[n] := by rw [List.getD_eq_getElem?_getD, List.getElem?_eq_getElem hal]; rfl
            rw [hQg] at hl1 hl2 hstep
            obtain ⟨al, hal'⟩ : ∃ al, al = (parQ PB k i m n).args[n] := ⟨_, rfl⟩
            rw [← hal'] at hl1 hl2 hstep hOu
            obtain ⟨gu, cu, rfl, hcu, _⟩ := Ow.some_form hOu (by omega)
            obtain ⟨Ad, hAd, hRd2⟩ := rd_behind (hOu.rd.below (below_drew (Below.refl _ _))) hl1
            have hRd1 := rd_upto (hOu.rd.below (below_drew (Below.refl _ _))) (i := i) (by omega)
            obtain ⟨u2, W2, u3, W3, hr2, hr3, hO3, hBa, hBb, hBc⟩ := cut_run (P := Tryz.prog) (W := wx.drew) (e := 3) int_flat 59 (.int .i64 0) 8 Tryz.underlying59 infoInt rfl (by decide) (by omega) _ _ _ _ hRd1 hRd2 (by rw [List.length_take, List.length_drop]; omega)
            rw [← erase_cells _ hl1] at hO3
            obtain ⟨A5, c5, rfl, _, _⟩ := hO3.form
            obtain ⟨Le, hLe⟩ : ∃ Le, Le = (al.eraseIdx i).length := ⟨_, rfl⟩
            rw [← hLe] at hr3 hO3
            clear hLe
            have hBc0 : Below wx.heap.size wx W3 := ⟨hBc.os, hBc.tape, hBc.output, hBc.size, hBc.block⟩
            have hBb0 : Below wx.heap.size wx W2 := ⟨hBb.os, hBb.tape, hBb.output, hBb.size, hBb.block⟩
            have hwxs := blk_lt r0
            have hwob := blk_lt b1
            have hF := hCl W3 _ (.slice A5 Le c5) _ (Chg.of_below hBc0) hO3 (fun q hq => .inr hq)
            rw [← hstep.out] at hF
            have hga1 := (HFX.out ga).1 hga.1
            have hne5 : ¬ g = ga := fun h => hga.2.2 h.symm
            have hRes : Hid (Ow true 67 partA (W3.setCell ⟨ga, n, none⟩ (.slice A5 Le c5)) FX (.slice (some ⟨g, 0, none⟩) s.parts.length c) (parY PB k i m (n + 1)) ∧ Chg (fun q => FF q ∧ q < w.heap.size) w (W3.setCell ⟨ga, n, none⟩ (.slice A5 Le c5)) ∧ (W3.setCell ⟨ga, n, none⟩ (.slice A5 Le c5)).heap[w.heap.size]? = some (.cells #[.slice (some ⟨g, 0, none⟩) s.parts.length c, .int .i64 s.values] 28 (0, 0)) ∧ (W3.setCell ⟨ga, n, none⟩ (.slice A5 Le c5)).heap[w.heap.size + 1]? = some (.cells #[.slice none 0 0, .int .i64 0] 28 (0, 0)) ∧ (W3.setCell ⟨ga, n, none⟩ (.slice A5 Le c5)).heap[wo.heap.size]? = some (.cells #[.slice A1 p.params.length c1, .slice A2 p.code.length c2, .int .i64 p.go, .int .i64 p.test, .slice (some ⟨b3, o3, none⟩) p.next.length c3, .slice (some ⟨ga, 0, none⟩) p.args.length ca] 67 (0, 0)) ∧ Hid ((W3.setCell ⟨ga, n, none⟩ (.slice A5 Le c5)).cell? ⟨g, m * 6 + 4, none⟩ = some (.slice (some ⟨b3, o3, none⟩) p.next.length c3)) ∧ Hid ((W3.setCell ⟨ga, n, none⟩ (.slice A5 Le c5)).cell? ⟨g, m * 6 + 5, none⟩ = some (.slice (some ⟨ga, 0, none⟩) p.args.length ca))) := Lib.hid (by
              have hCs : Chg (fun q => q = ga) W3 (W3.setCell ⟨ga, n, none⟩ (.slice A5 Le c5)) := Chg.set rfl
              have hCa := (HC.trans2 (Chg.of_below (A := fun _ => False) hBc0) (fun _ h => h.elim)).trans2 hCs (fun q hq => by have hq : q = ga := hq; rw [hq]; rcases hga1.2.2 with h | h; (rcases Nat.lt_or_ge ga w.heap.size with h2 | h2; exact .inl ⟨h, h2⟩; exact .inr h2); exact .inr h)
              refine ⟨hF.mono (fun q hq => hq.elim id (fun h => (HFX.out q).2 ⟨by have h : wx.heap.size ≤ q := h; omega, by have h : wx.heap.size ≤ q := h; omega, .inr (by have h : wx.heap.size ≤ q := h; omega)⟩)), hCa, ?_, ?_, ?_, Lib.hid ?_, Lib.hid ?_⟩
              · exact blk_set (blk_below b0 hBc0) (a := ⟨ga, n, none⟩) (fun h => hga1.1 h.symm) _
              · exact blk_set (blk_below r0 hBc0) (a := ⟨ga, n, none⟩) (fun h => hga1.2.1 h.symm) _
              · exact blk_set (blk_below b1 hBc0) (a := ⟨ga, n, none⟩) (show wo.heap.size ≠ ga by omega) _
              · exact hCs.cell (cell_below hBc0 X4.out) hne5
              · exact hCs.cell (cell_below hBc0 X5.out) hne5)
            obtain ⟨y1, _⟩ := cell_of_block b0
            have x10 : wx.cell? ⟨w.heap.size, 0, none⟩ = some (.slice (some ⟨g, 0, none⟩) s.parts.length c) := (y1 0).trans rfl
            obtain ⟨y1, _⟩ := cell_of_block b1
            have y5 : wx.cell? ⟨wo.heap.size, 5, none⟩ = some (.slice (some ⟨ga, 0, none⟩) p.args.length ca) := (y1 5).trans rfl
            have x02 := cell_below hBb0 x10
            have x03 := cell_below hBc0 x10
            have xa2 := cell_below hBb0 xa
            have xa3 := cell_below hBc0 xa
            have z3 := cell_below hBc0 xu
            have f3 : W3.frozen? ⟨ga, n, none⟩ = false := by rw [(Chg.of_below (A := fun _ => False) hBc0).froz hga.2.1 (fun h => h)]; exact fa _
            have HA2 := Lib.hid hr2
            have HA3 := Lib.hid hr3
            have hAd : (if cu = i + 1 then (some ⟨gu, 0, none⟩ : Option Addr) else some ⟨gu, i + 1, none⟩) = some Ad := by
              rw [← hAd, show 0 + (i + 1) * Rp.int.sz = i + 1 from by show 0 + (i + 1) * 1 = _; omega]
            have j1 : (n : Int) < (p.args.length : Int) := by omega
            have j2 : (i : Int) < (al.length : Int) := by omega
            have hcu2 : al.length ≤ cu := by
              obtain ⟨_, _, he, h, _⟩ := hOu.form
              injection he with _ _ h3
              rw [h3]; exact h
            have j3 : (i : Int) ≤ (cu : Int) := by omega
            have j4 : (i : Int) + 1 ≤ (al.length : Int) := by omega
            have j5 : i ≤ cu := by omega
            have j6 : i + 1 ≤ al.length := by omega
            clear y1 hstep hCl hOu hQ1 hQ2 hQ3 hQg hal' HO HC hyB hal2 hed1 fa hF hRd1 hRd2 hr2 hr3 hO3 hBc hBb hga1 b0 r0 b1
            subst hyk
            go_upto_region 11 with fail
            refine anyT_region [(18, fun w' => w'.cell? ⟨w.heap.size, 0, none⟩ = some (.slice (some ⟨g, 0, none⟩) s.parts.length c) ∧ w'.cell? ⟨g, m * 6 + 5, none⟩ = some (.slice (some ⟨ga, 0, none⟩) p.args.length ca))] (by kernel_rfl) ⟨fun _ => ⟨x10, xa⟩, trivial⟩ (fun hT => ?_)
            refine anyT_pure (i := 0) (v := ?_) rfl (by kernel_rfl) (by kernel_rfl) (by kernel_rfl) (fun _ _ _ h => h) (Or.inl ⟨by rfl, ?_⟩) (by assumption) ?_
            rotate_left 1
            focus ((intro w hSw; (try dsimp only at hSw); go_simp); try with_reducible rfl)
            try simp only [Act.put, Array.getInternal_eq_getElem, List.getElem_toArray, List.getElem_cons_zero, List.getElem_cons_succ, List.setIfInBounds_toArray, List.set_cons_zero, List.set_cons_succ]
            refine anyT_pure (i := 2) (v := ?_) rfl (by kernel_rfl) (by kernel_rfl) (by kernel_rfl) (fun _ _ _ h => h) (Or.inl ⟨by rfl, ?_⟩) (by assumption) ?_
            rotate_left 1
            focus ((intro w hSw; (try dsimp only at hSw); go_simp); try with_reducible rfl)
            try simp only [Act.put, Array.getInternal_eq_getElem, List.getElem_toArray, List.getElem_cons_zero, List.getElem_cons_succ, List.setIfInBounds_toArray, List.set_cons_zero, List.set_cons_succ]
            refine anyT_pure (i := 6) (v := ?_) rfl (by kernel_rfl) (by kernel_rfl) (by kernel_rfl) (fun _ _ _ h => h) (Or.inl ⟨by rfl, ?_⟩) (by assumption) ?_
            rotate_left 1
            focus ((intro w hSw; (try dsimp only at hSw); go_simp); try with_reducible rfl)
            try simp only [Act.put, Array.getInternal_eq_getElem, List.getElem_toArray, List.getElem_cons_zero, List.getElem_cons_succ, List.setIfInBounds_toArray, List.set_cons_zero, List.set_cons_succ]
            refine anyT_pure (i := 8) (v := ?_) rfl (by kernel_rfl) (by kernel_rfl) (by kernel_rfl) (fun _ _ _ h => h) (Or.inl ⟨by rfl, ?_⟩) (by assumption) ?_
            rotate_left 1
            focus ((intro w hSw; (try dsimp only at hSw); go_simp); try with_reducible rfl)
            try simp only [Act.put, Array.getInternal_eq_getElem, List.getElem_toArray, List.getElem_cons_zero, List.getElem_cons_succ, List.setIfInBounds_toArray, List.set_cons_zero, List.set_cons_succ]
            refine anyT_pure (i := 9) (v := ?_) rfl (by kernel_rfl) (by kernel_rfl) (by kernel_rfl) (fun _ _ _ h => h) (Or.inl ⟨by rfl, ?_⟩) (by assumption) ?_
            rotate_left 1
            focus ((intro w hSw; (try dsimp only at hSw); go_simp); try with_reducible rfl)
            try simp only [Act.put, Array.getInternal_eq_getElem, List.getElem_toArray, List.getElem_cons_zero, List.getElem_cons_succ, List.setIfInBounds_toArray, List.set_cons_zero, List.set_cons_succ]
            refine anyT_pure (i := 12) (v := ?_) rfl (by kernel_rfl) (by kernel_rfl) (by kernel_rfl) (fun _ _ _ h => h) (Or.inl ⟨by rfl, ?_⟩) (by assumption) ?_
            rotate_left 1
            focus ((intro w hSw; (try dsimp only at hSw); go_simp); try with_reducible rfl)
            try simp only [Act.put, Array.getInternal_eq_getElem, List.getElem_toArray, List.getElem_cons_zero, List.getElem_cons_succ, List.setIfInBounds_toArray, List.set_cons_zero, List.set_cons_succ]
            refine anyT_pure (i := 13) (v := ?_) rfl (by kernel_rfl) (by kernel_rfl) (by kernel_rfl) (fun _ _ _ h => h) (Or.inl ⟨by rfl, ?_⟩) (by assumption) ?_
            rotate_left 1
            focus ((intro w hSw; (try dsimp only at hSw); go_simp); try with_reducible rfl)
            try simp only [Act.put, Array.getInternal_eq_getElem, List.getElem_toArray, List.getElem_cons_zero, List.getElem_cons_succ, List.setIfInBounds_toArray, List.set_cons_zero, List.set_cons_succ]
            refine anyT_take (k := 0) (i := 1) (v := ?_) rfl rfl (by kernel_rfl) (by kernel_rfl) (by kernel_rfl) (fun _ _ _ h => h) (Or.inl ⟨by rfl, ?_⟩) (by assumption) ?_
            rotate_left 1
            focus ((intro w hSw; (try dsimp only at hSw); go_simp); try with_reducible rfl)
            try simp only [Act.put, Array.getInternal_eq_getElem, List.getElem_toArray, List.getElem_cons_zero, List.getElem_cons_succ, List.setIfInBounds_toArray, List.set_cons_zero, List.set_cons_succ]
            refine anyT_pure (i := 3) (v := ?_) rfl (by kernel_rfl) (by kernel_rfl) (by kernel_rfl) (fun _ _ _ h => h) (Or.inl ⟨by rfl, ?_⟩) (by assumption) ?_
            rotate_left 1
            focus ((intro w hSw; (try dsimp only at hSw); go_simp); try with_reducible rfl)
            try simp only [Act.put, Array.getInternal_eq_getElem, List.getElem_toArray, List.getElem_cons_zero, List.getElem_cons_succ, List.setIfInBounds_toArray, List.set_cons_zero, List.set_cons_succ]
            refine anyT_pure (i := 4) (v := ?_) rfl (by kernel_rfl) (by kernel_rfl) (by kernel_rfl) (fun _ _ _ h => h) (Or.inl ⟨by rfl, ?_⟩) (by assumption) ?_
            rotate_left 1
            focus ((intro w hSw; (try dsimp only at hSw); go_simp); try with_reducible rfl)
            try simp only [Act.put, Array.getInternal_eq_getElem, List.getElem_toArray, List.getElem_cons_zero, List.getElem_cons_succ, List.setIfInBounds_toArray, List.set_cons_zero, List.set_cons_succ]
            refine anyT_pure (i := 14) (v := ?_) rfl (by kernel_rfl) (by kernel_rfl) (by kernel_rfl) (fun _ _ _ h => h) (Or.inl ⟨by rfl, ?_⟩) (by assumption) ?_
            rotate_left 1
            focus ((intro w hSw; (try dsimp only at hSw); go_simp); try with_reducible rfl)
            try simp only [Act.put, Array.getInternal_eq_getElem, List.getElem_toArray, List.getElem_cons_zero, List.getElem_cons_succ, List.setIfInBounds_toArray, List.set_cons_zero, List.set_cons_succ]
            refine anyT_take (k := 0) (i := 5) (v := ?_) rfl rfl (by kernel_rfl) (by kernel_rfl) (by kernel_rfl) (fun _ _ _ h => h) (Or.inl ⟨by rfl, ?_⟩) (by assumption) ?_
            rotate_left 1
            focus ((intro w hSw; (try dsimp only at hSw); go_simp); try with_reducible rfl)
            try simp only [Act.put, Array.getInternal_eq_getElem, List.getElem_toArray, List.getElem_cons_zero, List.getElem_cons_succ, List.setIfInBounds_toArray, List.set_cons_zero, List.set_cons_succ]
            refine anyT_pure (i := 10) (v := ?_) rfl (by kernel_rfl) (by kernel_rfl) (by kernel_rfl) (fun _ _ _ h => h) (Or.inl ⟨by rfl, ?_⟩) (by assumption) ?_
            rotate_left 1
            focus ((intro w hSw; (try dsimp only at hSw); go_simp); try with_reducible rfl)
            try simp only [Act.put, Array.getInternal_eq_getElem, List.getElem_toArray, List.getElem_cons_zero, List.getElem_cons_succ, List.setIfInBounds_toArray, List.set_cons_zero, List.set_cons_succ]
            refine anyT_pure (i := 15) (v := ?_) rfl (by kernel_rfl) (by kernel_rfl) (by kernel_rfl) (fun _ _ _ h => h) (Or.inl ⟨by rfl, ?_⟩) (by assumption) ?_
            rotate_left 1
            focus ((intro w hSw; (try dsimp only at hSw); go_simp); try with_reducible rfl)
            try simp only [Act.put, Array.getInternal_eq_getElem, List.getElem_toArray, List.getElem_cons_zero, List.getElem_cons_succ, List.setIfInBounds_toArray, List.set_cons_zero, List.set_cons_succ]
            refine anyT_ready (rs := [7]) (by kernel_rfl) (by simp) ?_
            refine AllT.cons rfl (fun K1 hK1 => ?_) AllT.nil
            try simp only [Array.getInternal_eq_getElem, List.getElem_toArray, List.getElem_cons_zero, List.getElem_cons_succ]
            go_simp
            refine hK1.out _ _ ⟨fun _ => ⟨cell_below hBa x10, cell_below hBa xa⟩, trivial⟩ (fun hT => ?_)
            clear hK1 K1
            try simp only [Act.put, Array.getInternal_eq_getElem, List.getElem_toArray, List.getElem_cons_zero, List.getElem_cons_succ, List.setIfInBounds_toArray, List.set_cons_zero, List.set_cons_succ]
            refine anyT_ready (rs := [11]) (by kernel_rfl) (by simp) ?_
            refine AllT.cons rfl (fun K1 hK1 => ?_) AllT.nil
            try simp only [Array.getInternal_eq_getElem, List.getElem_toArray, List.getElem_cons_zero, List.getElem_cons_succ]
            rw [if_pos (by first | kernel_rfl | rfl | decide)]
            refine oper_append _ _ _ _ _ _ rfl (by rfl) (by rfl) (HA2.out _) ?_
            refine hK1.out _ _ ⟨fun _ => ⟨x02, xa2⟩, trivial⟩ (fun hT => ?_)
            clear hK1 K1
            try simp only [Act.put, Array.getInternal_eq_getElem, List.getElem_toArray, List.getElem_cons_zero, List.getElem_cons_succ, List.setIfInBounds_toArray, List.set_cons_zero, List.set_cons_succ]
            refine anyT_ready (rs := [16]) (by kernel_rfl) (by simp) ?_
            refine AllT.cons rfl (fun K1 hK1 => ?_) AllT.nil
            try simp only [Array.getInternal_eq_getElem, List.getElem_toArray, List.getElem_cons_zero, List.getElem_cons_succ]
            rw [if_pos (by first | kernel_rfl | rfl | decide)]
            refine oper_append _ _ _ _ _ _ rfl (by rfl) (by rfl) (HA3.out _) ?_
            refine hK1.out _ _ ⟨fun _ => ⟨x03, xa3⟩, trivial⟩ (fun hT => ?_)
            clear hK1 K1
            try simp only [Act.put, Array.getInternal_eq_getElem, List.getElem_toArray, List.getElem_cons_zero, List.getElem_cons_succ, List.setIfInBounds_toArray, List.set_cons_zero, List.set_cons_succ]
            refine anyT_pure (i := 17) (v := ?_) rfl (by kernel_rfl) (by kernel_rfl) (by kernel_rfl) (fun _ _ _ h => h) (Or.inl ⟨by rfl, ?_⟩) (by assumption) ?_
            rotate_left 1
            focus ((intro w hSw; (try dsimp only at hSw); go_simp); try with_reducible rfl)
            try simp only [Act.put, Array.getInternal_eq_getElem, List.getElem_toArray, List.getElem_cons_zero, List.getElem_cons_succ, List.setIfInBounds_toArray, List.set_cons_zero, List.set_cons_succ]
            refine anyT_ready (rs := [18]) (by kernel_rfl) (by simp) ?_
            refine AllT.cons rfl (fun K1 hK1 => ?_) AllT.nil
            try simp only [Array.getInternal_eq_getElem, List.getElem_toArray, List.getElem_cons_zero, List.getElem_cons_succ]
            go_simp
            refine hK1.out _ _ ⟨fun h => absurd h (by simp), trivial⟩ (fun hT => ?_)
            clear hK1 K1
            try simp only [Act.put, Array.getInternal_eq_getElem, List.getElem_toArray, List.getElem_cons_zero, List.getElem_cons_succ, List.setIfInBounds_toArray, List.set_cons_zero, List.set_cons_succ]
            refine anyT_done (by kernel_rfl) ?_ _
            obtain ⟨R1, R2, R3, R4, R5, R6, R7⟩ := hRes.out
            go_wp2_with fail
            go_roundw
            case rel => exact ⟨n + 1, by omega, by go_num, R1, R2, R3, R4, R5, R6, R7⟩
            case measure => simp [intOf]; omega
          · have hstep := Lib.hid (parY_no (i := i) (k := (k : Int)) (n := n) (B := PB) (m := m) (by rw [hyB]; intro h; exact hyk (Option.some.inj h)) hmB)
            have hy2 : (y == (k : Int)) = false := by simpa using hyk
            clear hyB hed1 hQ1 hQ2 hQ3
            go_wp2_with fail
            go_roundw
            case rel => exact ⟨n + 1, by omega, by go_num, by rw [hstep.out]; exact HO, HC, b0, r0, b1, X4, X5⟩
            case measure => simp [intOf]; omega
        · obtain rfl : n = p.next.length := by omega
          rw [hLst.out] at HO
          go_wp2_with fail
          go_roundw
          case rel => exact ⟨m + 1, by omega, by go_num, HO, HC, b0, r0⟩
          case measure => simp [intOf]; omega
    · obtain rfl : m = s.parts.length := by omega
      rw [← HFin.out] at HO
      obtain ⟨y1, _⟩ := cell_of_block b0
      have x10 : wo.cell? ⟨w.heap.size, 0, none⟩ = some (.slice (some ⟨g, 0, none⟩) s.parts.length c) := (y1 0).trans rfl
      have x11 : wo.cell? ⟨w.heap.size, 1, none⟩ = some (.int .i64 s.values) := (y1 1).trans rfl
      obtain ⟨y1, y2⟩ := cell_of_block r0
      have z10 : wo.cell? ⟨w.heap.size + 1, 0, none⟩ = some (.slice none 0 0) := (y1 0).trans rfl
      have z11 : wo.cell? ⟨w.heap.size + 1, 1, none⟩ = some (.int .i64 0) := (y1 1).trans rfl
      have z20 := y2 0
      have z21 := y2 1
      have hr1 := blk_put (blk_put r0 0 (.slice (some ⟨g, 0, none⟩) s.parts.length c)) 1 (.int .i64 s.values)
      have cF := Lib.hid (cell_of_block hr1).1
      have hCs := (Chg.set (A := fun q => q = w.heap.size + 1) (w := wo) (b := w.heap.size + 1) (o := 0) (u := .slice (some ⟨g, 0, none⟩) s.parts.length c) rfl).trans (Chg.set (b := w.heap.size + 1) (o := 1) (u := .int .i64 s.values) rfl)
      have hOf := (HO.move (hCs.same (fun q hq h => ((HFX.out q).1 hq).2.1 h))).mono (G := fun q => FF q ∨ w.heap.size ≤ q) (fun q hq => ((HFX.out q).1 hq).2.2)
      have hCf := HC.trans2 hCs (fun q hq => by have hq : q = w.heap.size + 1 := hq; exact .inr (by omega))
      clear y1 y2 HO HC hCs hr1 b0 r0
      go_wp2_with fail
      have cF := cF.out
      refine bodyPost_ret (v := .agg #[.slice (some ⟨g, 0, none⟩) s.parts.length c, .int .i64 s.values]) (by simp [results, Tryz.results122, go_sem, cF]) rfl ?_
      exact ⟨rfl, hOf, hCf⟩
end Go.Proofs.YtnfaibenekninaaGreat.L

set_option linter.unusedVariables false
set_option linter.unusedSimpArgs false
namespace Go.Proofs.YtnfaibenekninaaGreat.L
open Go.RowKit
end Go.Proofs.YtnfaibenekninaaGreat.L

set_option linter.unusedVariables false
set_option linter.unusedSimpArgs false
namespace Go.Proofs.YtnfaibenekninaaGreat.L
open Go.RowKit
/-- An ssa of its own, a number, and whether it is good. -/
inductive SsaRes (G : Prop) (S : Sa) (n : Nat) (w : World) (e : Ending) (w' : World) : Prop where
  | mk (g : Bool) (S' : Sa) (n' : Nat) (v : Value) (hg : Hid (g = true ↔ G)) (hS : Hid (S' = (if g = true then S else ⟨[], 0⟩) ∧ n' = (if g = true then n else 0))) (he : e = .returned (.tuple #[saV S' v, .int .i64 (n' : Nat), .bool g])) (hv : Ow true 67 partA w' (fun q => w.heap.size ≤ q) v S'.parts) (hb : Below w.heap.size w w') : SsaRes G S n w e w'
/-- The result's variable, when it is written at the end. -/
theorem res_end {w w1 : World} {x0 y0 : Value} (x y : Value) (hr : w1.heap[w.heap.size + 1]? = some (.cells #[x0, y0] 28 (0, 0))) (hB : Below w.heap.size w w1) :
    ((w1.setCell ⟨w.heap.size + 1, 0, none⟩ x).setCell ⟨w.heap.size + 1, 1, none⟩ y).heap[w.heap.size + 1]? = some (.cells #[x, y] 28 (0, 0)) ∧ Below w.heap.size w ((w1.setCell ⟨w.heap.size + 1, 0, none⟩ x).setCell ⟨w.heap.size + 1, 1, none⟩ y) ∧
      Chg (fun q => q = w.heap.size + 1) w1 ((w1.setCell ⟨w.heap.size + 1, 0, none⟩ x).setCell ⟨w.heap.size + 1, 1, none⟩ y) := by
  have hC := (Chg.set (A := fun q => q = w.heap.size + 1) (w := w1) (b := w.heap.size + 1) (o := 0) (u := x) rfl).trans (Chg.set (b := w.heap.size + 1) (o := 1) (u := y) rfl)
  exact ⟨blk_put (blk_put hr 0 x) 1 y, hC.to_below hB hB.size (fun q hq => by have hq : q = w.heap.size + 1 := hq; omega), hC⟩
end Go.Proofs.YtnfaibenekninaaGreat.L
