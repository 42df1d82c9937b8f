/- Joined texts, each of which was built by itself: Uf5 Uf6. -/
import Derived.Test.YtnfaibenekninaaGreatFUseFirst8
import Derived.Test.YtnfaibenekninaaGreatFUseFirst6
import Derived.Test.YtnfaibenekninaaGreatB3
import Derived.Test.YtnfaibenekninaaGreatB12
set_option linter.unusedVariables false
set_option linter.unusedSimpArgs false
namespace Go.Proofs.YtnfaibenekninaaGreat.L
open Go.RowKit
set_option maxRecDepth 100000 in
set_option maxHeartbeats 8000000 in
theorem l11First_calls {F1 F2 F3 F4 : Nat → Prop} (v1 v2 v3 v4 : Value) (gl defs dom far : List Int) (v part : Int) (w : World) (h1 : Rp.Rd Rp.int w F1 v1 gl) (h2 : Rp.Rd Rp.int w F2 v2 defs) (h3 : Rp.Rd Rp.int w F3 v3 dom) (h4 : Rp.Rd Rp.int w F4 v4 far) (hv : 0 ≤ v ∧ v < (gl.length : Int)) (hgl : gl.length ≤ 1000) :
    Calls Tryz.prog 105 #[v1, .int .i64 v, v2, v3, v4, .int .i64 part] w fun e w' => e = .returned (.int .i64 (firstV gl (thereB defs dom far part) v)) ∧ Below w.heap.size w w' := by
  obtain ⟨d, rfl⟩ := Int.eq_ofNat_of_zero_le hv.1
  have hdl : d < gl.length := by omega
  obtain ⟨A1, c1, rfl, _, _, hr1⟩ := rd_int h1
  obtain ⟨A2, c2, rfl, _⟩ := id h2
  obtain ⟨A3, c3, rfl, _⟩ := id h3
  obtain ⟨A4, c4, rfl, _⟩ := id h4
  rcases hr1 with hn0 | ⟨gg, go_, rfl, hgg, hgc⟩
  · rw [hn0] at hdl; simp at hdl
  have HTh := Lib.hid (fun (x : Int) (vx : Value) (W : World) (G : Nat → Prop) (hW : Below w.heap.size w W) (hx : Rp.Rd Rp.int W G vx [x]) => l9There_calls vx _ _ _ [x] defs dom far part W hx (h2.below hW) (h3.below hW) (h4.below hW))
  have cd := hgc d hdl
  obtain ⟨th, hth⟩ : ∃ th, th = thereB defs dom far part := ⟨_, rfl⟩
  have hThS : Hid (∀ x : Int, thereS [x] defs dom far part = th x) := Lib.hid (fun x => by rw [hth]; unfold thereS; simp)
  rw [← hth]
  have hXh : Hid (∀ n : Nat, n < d → (∀ j, j < n → hitV gl th d j = false) → hitV gl th d n = true → firstV gl th d = n) := Lib.hid (fun n hn h1 h2 => firstV_hit (by simpa using hn) h1 h2)
  have hXn : Hid ((∀ j, j < d → hitV gl th d j = false) → firstV gl th d = d) := Lib.hid (fun h => firstV_none (fun j hj => h j (by simpa using hj)))
  have hXi : Hid (∀ n : Nat, hitV gl th d n = (gl.getD n 0 == gl.getD d 0 && th n)) := Lib.hid (fun n => rfl)
  obtain ⟨f, hf⟩ : ∃ f, f = firstV gl th d := ⟨_, rfl⟩
  rw [← hf] at hXh hXn ⊢
  obtain ⟨HI, hHI⟩ : ∃ HI, HI = hitV gl th d := ⟨_, rfl⟩
  rw [← hHI] at hXh hXn hXi
  have hgd0 : gl.getD d 0 = gl[d] := by rw [List.getD_eq_getElem?_getD, List.getElem?_eq_getElem hdl]; rfl
  rw [hgd0] at hXi
  obtain ⟨gd, hgd⟩ : ∃ gd, gd = gl[d] := ⟨_, rfl⟩
  rw [← hgd] at cd hXi
  clear hf hHI hgd hgd0 hth h1 h2 h3 h4 hv
  have d0 : (0 : Int) ≤ (d : Int) := Int.natCast_nonneg _
  have d1 : (d : Int) < (gl.length : Int) := by omega
  go_enter Tryz.func105, Tryz.ntmps105
  go_wp2_with fail
  go_loopw [13] (fun x wr => ∃ i : Nat, i ≤ d ∧ x = .int .i64 i ∧ Hid (∀ j, j < i → HI j = false) ∧ Below w.heap.size w wr) (fun x _ => d - (intOf x).toNat)
  case atStart => exact ⟨0, Nat.zero_le _, rfl, Lib.hid (fun j h => by omega), Below.refl _ _⟩
  case round =>
    obtain ⟨i, hi, rfl, HN, HB⟩ := hrel
    rename World => wo
    by_cases hit : i < d
    · have ci := cell_below HB (hgc i (by omega))
      have cd2 := cell_below HB cd
      have hIi := Lib.hid (hXi.out i)
      have hgi0 : gl.getD i 0 = gl[i]'(by omega) := by rw [List.getD_eq_getElem?_getD, List.getElem?_eq_getElem (by omega)]; rfl
      rw [hgi0] at hIi
      have HNx : Hid (HI i = false → ∀ j, j < i + 1 → HI j = false) := Lib.hid (fun h j hj => (Nat.lt_or_eq_of_le (Nat.le_of_lt_succ hj)).elim (fun h2 => HN.out j h2) (fun h2 => by subst h2; exact h))
      have HYx : Hid (HI i = true → f = i) := Lib.hid (fun h => hXh.out i hit HN.out h)
      have hdw : Below w.heap.size w wo.drew := below_drew HB
      have hb1 := below_new (w := wo.drew) (.cells #[.int .i64 (i : Int)] 3)
      have hnew := heap_alloc_new wo.drew (.cells #[.int .i64 (i : Int)] 3)
      have hRx : Rp.Rd Rp.int (wo.drew.alloc (.cells #[.int .i64 (i : Int)] 3)) (fun q => q = wo.drew.heap.size ∨ False) (.slice (some ⟨wo.drew.heap.size, 0, none⟩) 1 1) [(i : Int)] := (ow_lit1 (r := Rp.int) (G := fun _ => False) hnew rfl rfl (fun _ h => h.elim)).rd
      have HTi := Lib.hid (HTh.out (i : Int) _ _ _ (below_then hdw hb1) hRx)
      rw [hThS.out] at HTi
      obtain ⟨gi, hgi⟩ : ∃ gi, gi = gl[i]'(by omega) := ⟨_, rfl⟩
      rw [← hgi] at ci hIi
      obtain ⟨ti, hti⟩ : ∃ ti, ti = th i := ⟨_, rfl⟩
      rw [← hti] at hIi HTi
      clear hgi hti HN hgi0 hRx hnew
      have i0 : (0 : Int) ≤ (i : Int) := Int.natCast_nonneg _
      have i1 : (i : Int) < (gl.length : Int) := by omega
      have i2 : (i : Int) < (d : Int) := by omega
      by_cases hge : gi = gd
      · have hg2 : (gi == gd) = true := by simpa using hge
        clear hge hXh hXn hXi
        go_upto_region 4 with fail
        refine anyT_region [(8, fun w' => w'.cell? ⟨gg, go_ + i, none⟩ = some (.int .i64 gi) ∧ w'.cell? ⟨gg, go_ + d, none⟩ = some (.int .i64 gd))] (by kernel_rfl) ⟨fun _ => ⟨ci, cd2⟩, trivial⟩ (fun hT => ?_)
        refine anyT_pure (i := 0) (v := ?_) rfl (by kernel_rfl) (by kernel_rfl) (by kernel_rfl) (fun _ _ _ h => h) (Or.inl ⟨by rfl, ?_⟩) (by assumption) ?_
        rotate_left 1
        focus ((intro w hSw; (try dsimp only at hSw); go_simp); try with_reducible rfl)
        try simp only [Act.put, Array.getInternal_eq_getElem, List.getElem_toArray, List.getElem_cons_zero, List.getElem_cons_succ, List.setIfInBounds_toArray, List.set_cons_zero, List.set_cons_succ]
        refine anyT_pure (i := 1) (v := ?_) rfl (by kernel_rfl) (by kernel_rfl) (by kernel_rfl) (fun _ _ _ h => h) (Or.inl ⟨by rfl, ?_⟩) (by assumption) ?_
        rotate_left 1
        focus ((intro w hSw; (try dsimp only at hSw); go_simp); try with_reducible rfl)
        try simp only [Act.put, Array.getInternal_eq_getElem, List.getElem_toArray, List.getElem_cons_zero, List.getElem_cons_succ, List.setIfInBounds_toArray, List.set_cons_zero, List.set_cons_succ]
        refine anyT_pure (i := 4) (v := ?_) rfl (by kernel_rfl) (by kernel_rfl) (by kernel_rfl) (fun _ _ _ h => h) (Or.inl ⟨by rfl, ?_⟩) (by assumption) ?_
        rotate_left 1
        focus ((intro w hSw; (try dsimp only at hSw); go_simp); try with_reducible rfl)
        try simp only [Act.put, Array.getInternal_eq_getElem, List.getElem_toArray, List.getElem_cons_zero, List.getElem_cons_succ, List.setIfInBounds_toArray, List.set_cons_zero, List.set_cons_succ]
        refine anyT_pure (i := 5) (v := ?_) rfl (by kernel_rfl) (by kernel_rfl) (by kernel_rfl) (fun _ _ _ h => h) (Or.inl ⟨by rfl, ?_⟩) (by assumption) ?_
        rotate_left 1
        focus ((intro w hSw; (try dsimp only at hSw); go_simp); try with_reducible rfl)
        try simp only [Act.put, Array.getInternal_eq_getElem, List.getElem_toArray, List.getElem_cons_zero, List.getElem_cons_succ, List.setIfInBounds_toArray, List.set_cons_zero, List.set_cons_succ]
        refine anyT_pure (i := 2) (v := ?_) rfl (by kernel_rfl) (by kernel_rfl) (by kernel_rfl) (fun _ _ _ h => h) (Or.inl ⟨by rfl, ?_⟩) (by assumption) ?_
        rotate_left 1
        focus ((intro w hSw; (try dsimp only at hSw); go_simp); try with_reducible rfl)
        try simp only [Act.put, Array.getInternal_eq_getElem, List.getElem_toArray, List.getElem_cons_zero, List.getElem_cons_succ, List.setIfInBounds_toArray, List.set_cons_zero, List.set_cons_succ]
        refine anyT_pure (i := 6) (v := ?_) rfl (by kernel_rfl) (by kernel_rfl) (by kernel_rfl) (fun _ _ _ h => h) (Or.inl ⟨by rfl, ?_⟩) (by assumption) ?_
        rotate_left 1
        focus ((intro w hSw; (try dsimp only at hSw); go_simp); try with_reducible rfl)
        try simp only [Act.put, Array.getInternal_eq_getElem, List.getElem_toArray, List.getElem_cons_zero, List.getElem_cons_succ, List.setIfInBounds_toArray, List.set_cons_zero, List.set_cons_succ]
        refine anyT_take (k := 0) (i := 3) (v := ?_) rfl rfl (by kernel_rfl) (by kernel_rfl) (by kernel_rfl) (fun _ _ _ h => h) (Or.inl ⟨by rfl, ?_⟩) (by assumption) ?_
        rotate_left 1
        focus ((intro w hSw; (try dsimp only at hSw); go_simp); try with_reducible rfl)
        try simp only [Act.put, Array.getInternal_eq_getElem, List.getElem_toArray, List.getElem_cons_zero, List.getElem_cons_succ, List.setIfInBounds_toArray, List.set_cons_zero, List.set_cons_succ]
        refine anyT_take (k := 0) (i := 7) (v := ?_) rfl rfl (by kernel_rfl) (by kernel_rfl) (by kernel_rfl) (fun _ _ _ h => h) (Or.inl ⟨by rfl, ?_⟩) (by assumption) ?_
        rotate_left 1
        focus ((intro w hSw; (try dsimp only at hSw); go_simp); try with_reducible rfl)
        try simp only [Act.put, Array.getInternal_eq_getElem, List.getElem_toArray, List.getElem_cons_zero, List.getElem_cons_succ, List.setIfInBounds_toArray, List.set_cons_zero, List.set_cons_succ]
        refine anyT_ready (rs := [8]) (by kernel_rfl) (by simp) ?_
        refine AllT.cons rfl (fun K1 hK1 => ?_) AllT.nil
        try simp only [Array.getInternal_eq_getElem, List.getElem_toArray, List.getElem_cons_zero, List.getElem_cons_succ]
        go_simp
        refine hK1.out _ _ ⟨fun h => absurd h (by simp), trivial⟩ (fun hT => ?_)
        clear hK1 K1
        try simp only [Act.put, Array.getInternal_eq_getElem, List.getElem_toArray, List.getElem_cons_zero, List.getElem_cons_succ, List.setIfInBounds_toArray, List.set_cons_zero, List.set_cons_succ]
        refine anyT_pure (i := 9) (v := ?_) rfl (by kernel_rfl) (by kernel_rfl) (by kernel_rfl) (fun _ _ _ h => h) (Or.inl ⟨by rfl, ?_⟩) (by assumption) ?_
        rotate_left 1
        focus ((intro w hSw; (try dsimp only at hSw); go_simp); try with_reducible rfl)
        try simp only [Act.put, Array.getInternal_eq_getElem, List.getElem_toArray, List.getElem_cons_zero, List.getElem_cons_succ, List.setIfInBounds_toArray, List.set_cons_zero, List.set_cons_succ]
        refine anyT_pure (i := 10) (v := ?_) rfl (by kernel_rfl) (by kernel_rfl) (by kernel_rfl) (fun _ _ _ h => h) (Or.inl ⟨by rfl, ?_⟩) (by assumption) ?_
        rotate_left 1
        focus ((intro w hSw; (try dsimp only at hSw); go_simp); try with_reducible rfl)
        try simp only [Act.put, Array.getInternal_eq_getElem, List.getElem_toArray, List.getElem_cons_zero, List.getElem_cons_succ, List.setIfInBounds_toArray, List.set_cons_zero, List.set_cons_succ]
        refine anyT_pure (i := 12) (v := ?_) rfl (by kernel_rfl) (by kernel_rfl) (by kernel_rfl) (fun _ _ _ h => h) (Or.inl ⟨by rfl, ?_⟩) (by assumption) ?_
        rotate_left 1
        focus ((intro w hSw; (try dsimp only at hSw); go_simp); try with_reducible rfl)
        try simp only [Act.put, Array.getInternal_eq_getElem, List.getElem_toArray, List.getElem_cons_zero, List.getElem_cons_succ, List.setIfInBounds_toArray, List.set_cons_zero, List.set_cons_succ]
        refine anyT_pure (i := 13) (v := ?_) rfl (by kernel_rfl) (by kernel_rfl) (by kernel_rfl) (fun _ _ _ h => h) (Or.inl ⟨by rfl, ?_⟩) (by assumption) ?_
        rotate_left 1
        focus ((intro w hSw; (try dsimp only at hSw); go_simp); try with_reducible rfl)
        try simp only [Act.put, Array.getInternal_eq_getElem, List.getElem_toArray, List.getElem_cons_zero, List.getElem_cons_succ, List.setIfInBounds_toArray, List.set_cons_zero, List.set_cons_succ]
        refine anyT_pure (i := 14) (v := ?_) rfl (by kernel_rfl) (by kernel_rfl) (by kernel_rfl) (fun _ _ _ h => h) (Or.inl ⟨by rfl, ?_⟩) (by assumption) ?_
        rotate_left 1
        focus ((intro w hSw; (try dsimp only at hSw); go_simp); try with_reducible rfl)
        try simp only [Act.put, Array.getInternal_eq_getElem, List.getElem_toArray, List.getElem_cons_zero, List.getElem_cons_succ, List.setIfInBounds_toArray, List.set_cons_zero, List.set_cons_succ]
        refine anyT_pure (i := 15) (v := ?_) rfl (by kernel_rfl) (by kernel_rfl) (by kernel_rfl) (fun _ _ _ h => h) (Or.inl ⟨by rfl, ?_⟩) (by assumption) ?_
        rotate_left 1
        focus ((intro w hSw; (try dsimp only at hSw); go_simp); try with_reducible rfl)
        try simp only [Act.put, Array.getInternal_eq_getElem, List.getElem_toArray, List.getElem_cons_zero, List.getElem_cons_succ, List.setIfInBounds_toArray, List.set_cons_zero, List.set_cons_succ]
        refine anyT_ready (rs := [11]) (by kernel_rfl) (by simp) ?_
        refine AllT.cons rfl (fun K1 hK1 => ?_) AllT.nil
        try simp only [Array.getInternal_eq_getElem, List.getElem_toArray, List.getElem_cons_zero, List.getElem_cons_succ]
        go_simp
        refine hK1.out _ _ ⟨fun h => absurd h (by simp), trivial⟩ (fun hT => ?_)
        clear hK1 K1
        try simp only [Act.put, Array.getInternal_eq_getElem, List.getElem_toArray, List.getElem_cons_zero, List.getElem_cons_succ, List.setIfInBounds_toArray, List.set_cons_zero, List.set_cons_succ]
        refine anyT_ready (rs := [16]) (by kernel_rfl) (by simp) ?_
        refine AllT.cons rfl (fun K1 hK1 => ?_) AllT.nil
        try simp only [Array.getInternal_eq_getElem, List.getElem_toArray, List.getElem_cons_zero, List.getElem_cons_succ]
        go_simp
        go_at_call 52
        refine HTi.out.mono ?_
        rintro e w2 ⟨rfl, hb2⟩
        have HB2 := below_then (below_then hdw hb1) hb2
        refine hK1.out _ _ ⟨fun h => absurd h (by simp), trivial⟩ (fun hT => ?_)
        clear hK1 K1 HTi
        try simp only [Act.put, Array.getInternal_eq_getElem, List.getElem_toArray, List.getElem_cons_zero, List.getElem_cons_succ, List.setIfInBounds_toArray, List.set_cons_zero, List.set_cons_succ]
        refine anyT_pure (i := 17) (v := ?_) rfl (by kernel_rfl) (by kernel_rfl) (by kernel_rfl) (fun _ _ _ h => h) (Or.inl ⟨by rfl, ?_⟩) (by assumption) ?_
        rotate_left 1
        focus ((intro w hSw; (try dsimp only at hSw); go_simp); try with_reducible rfl)
        try simp only [Act.put, Array.getInternal_eq_getElem, List.getElem_toArray, List.getElem_cons_zero, List.getElem_cons_succ, List.setIfInBounds_toArray, List.set_cons_zero, List.set_cons_succ]
        refine anyT_done (by kernel_rfl) ?_ _
        cases ti
        · have hn := Lib.hid (HNx.out (by rw [hIi.out, Bool.and_false]))
          clear HNx HYx hIi
          go_wp2_with fail
          go_roundw
          case rel => exact ⟨i + 1, by omega, by go_num, hn, HB2⟩
          case measure => simp [intOf]; omega
        · have hfe := Lib.hid (HYx.out (by rw [hIi.out, hg2]; rfl))
          clear HNx HYx hIi
          go_wp2_with fail
          go_ret
          exact ⟨ret_int hfe.out.symm, HB2⟩
      · have hg2 : (gi == gd) = false := by simpa using hge
        have hn := Lib.hid (HNx.out (by rw [hIi.out, hg2]; rfl))
        clear HNx HYx hIi hXh hXn hXi hge HTi
        go_upto_region 4 with fail
        refine anyT_region [(8, fun w' => w'.cell? ⟨gg, go_ + i, none⟩ = some (.int .i64 gi) ∧ w'.cell? ⟨gg, go_ + d, none⟩ = some (.int .i64 gd))] (by kernel_rfl) ⟨fun _ => ⟨ci, cd2⟩, trivial⟩ (fun hT => ?_)
        refine anyT_pure (i := 0) (v := ?_) rfl (by kernel_rfl) (by kernel_rfl) (by kernel_rfl) (fun _ _ _ h => h) (Or.inl ⟨by rfl, ?_⟩) (by assumption) ?_
        rotate_left 1
        focus ((intro w hSw; (try dsimp only at hSw); go_simp); try with_reducible rfl)
        try simp only [Act.put, Array.getInternal_eq_getElem, List.getElem_toArray, List.getElem_cons_zero, List.getElem_cons_succ, List.setIfInBounds_toArray, List.set_cons_zero, List.set_cons_succ]
        refine anyT_pure (i := 1) (v := ?_) rfl (by kernel_rfl) (by kernel_rfl) (by kernel_rfl) (fun _ _ _ h => h) (Or.inl ⟨by rfl, ?_⟩) (by assumption) ?_
        rotate_left 1
        focus ((intro w hSw; (try dsimp only at hSw); go_simp); try with_reducible rfl)
        try simp only [Act.put, Array.getInternal_eq_getElem, List.getElem_toArray, List.getElem_cons_zero, List.getElem_cons_succ, List.setIfInBounds_toArray, List.set_cons_zero, List.set_cons_succ]
        refine anyT_pure (i := 4) (v := ?_) rfl (by kernel_rfl) (by kernel_rfl) (by kernel_rfl) (fun _ _ _ h => h) (Or.inl ⟨by rfl, ?_⟩) (by assumption) ?_
        rotate_left 1
        focus ((intro w hSw; (try dsimp only at hSw); go_simp); try with_reducible rfl)
        try simp only [Act.put, Array.getInternal_eq_getElem, List.getElem_toArray, List.getElem_cons_zero, List.getElem_cons_succ, List.setIfInBounds_toArray, List.set_cons_zero, List.set_cons_succ]
        refine anyT_pure (i := 5) (v := ?_) rfl (by kernel_rfl) (by kernel_rfl) (by kernel_rfl) (fun _ _ _ h => h) (Or.inl ⟨by rfl, ?_⟩) (by assumption) ?_
        rotate_left 1
        focus ((intro w hSw; (try dsimp only at hSw); go_simp); try with_reducible rfl)
        try simp only [Act.put, Array.getInternal_eq_getElem, List.getElem_toArray, List.getElem_cons_zero, List.getElem_cons_succ, List.setIfInBounds_toArray, List.set_cons_zero, List.set_cons_succ]
        refine anyT_pure (i := 2) (v := ?_) rfl (by kernel_rfl) (by kernel_rfl) (by kernel_rfl) (fun _ _ _ h => h) (Or.inl ⟨by rfl, ?_⟩) (by assumption) ?_
        rotate_left 1
        focus ((intro w hSw; (try dsimp only at hSw); go_simp); try with_reducible rfl)
        try simp only [Act.put, Array.getInternal_eq_getElem, List.getElem_toArray, List.getElem_cons_zero, List.getElem_cons_succ, List.setIfInBounds_toArray, List.set_cons_zero, List.set_cons_succ]
        refine anyT_pure (i := 6) (v := ?_) rfl (by kernel_rfl) (by kernel_rfl) (by kernel_rfl) (fun _ _ _ h => h) (Or.inl ⟨by rfl, ?_⟩) (by assumption) ?_
        rotate_left 1
        focus ((intro w hSw; (try dsimp only at hSw); go_simp); try with_reducible rfl)
        try simp only [Act.put, Array.getInternal_eq_getElem, List.getElem_toArray, List.getElem_cons_zero, List.getElem_cons_succ, List.setIfInBounds_toArray, List.set_cons_zero, List.set_cons_succ]
        refine anyT_take (k := 0) (i := 3) (v := ?_) rfl rfl (by kernel_rfl) (by kernel_rfl) (by kernel_rfl) (fun _ _ _ h => h) (Or.inl ⟨by rfl, ?_⟩) (by assumption) ?_
        rotate_left 1
        focus ((intro w hSw; (try dsimp only at hSw); go_simp); try with_reducible rfl)
        try simp only [Act.put, Array.getInternal_eq_getElem, List.getElem_toArray, List.getElem_cons_zero, List.getElem_cons_succ, List.setIfInBounds_toArray, List.set_cons_zero, List.set_cons_succ]
        refine anyT_take (k := 0) (i := 7) (v := ?_) rfl rfl (by kernel_rfl) (by kernel_rfl) (by kernel_rfl) (fun _ _ _ h => h) (Or.inl ⟨by rfl, ?_⟩) (by assumption) ?_
        rotate_left 1
        focus ((intro w hSw; (try dsimp only at hSw); go_simp); try with_reducible rfl)
        try simp only [Act.put, Array.getInternal_eq_getElem, List.getElem_toArray, List.getElem_cons_zero, List.getElem_cons_succ, List.setIfInBounds_toArray, List.set_cons_zero, List.set_cons_succ]
        refine anyT_ready (rs := [8]) (by kernel_rfl) (by simp) ?_
        refine AllT.cons rfl (fun K1 hK1 => ?_) AllT.nil
        try simp only [Array.getInternal_eq_getElem, List.getElem_toArray, List.getElem_cons_zero, List.getElem_cons_succ]
        go_simp
        refine hK1.out _ _ ⟨fun h => absurd h (by simp), trivial⟩ (fun hT => ?_)
        clear hK1 K1
        try simp only [Act.put, Array.getInternal_eq_getElem, List.getElem_toArray, List.getElem_cons_zero, List.getElem_cons_succ, List.setIfInBounds_toArray, List.set_cons_zero, List.set_cons_succ]
        refine anyT_pure (i := 9) (v := ?_) rfl (by kernel_rfl) (by kernel_rfl) (by kernel_rfl) (fun _ _ _ h => h) (Or.inl ⟨by rfl, ?_⟩) (by assumption) ?_
        rotate_left 1
        focus ((intro w hSw; (try dsimp only at hSw); go_simp); try with_reducible rfl)
        try simp only [Act.put, Array.getInternal_eq_getElem, List.getElem_toArray, List.getElem_cons_zero, List.getElem_cons_succ, List.setIfInBounds_toArray, List.set_cons_zero, List.set_cons_succ]
        refine anyT_pure (i := 10) (v := undef) rfl (by kernel_rfl) (by kernel_rfl) (by kernel_rfl) (fun _ _ _ h => h) (Or.inr ⟨by rfl, rfl⟩) (by assumption) ?_
        try simp only [Act.put, Array.getInternal_eq_getElem, List.getElem_toArray, List.getElem_cons_zero, List.getElem_cons_succ, List.setIfInBounds_toArray, List.set_cons_zero, List.set_cons_succ]
        refine anyT_pure (i := 12) (v := undef) rfl (by kernel_rfl) (by kernel_rfl) (by kernel_rfl) (fun _ _ _ h => h) (Or.inr ⟨by rfl, rfl⟩) (by assumption) ?_
        try simp only [Act.put, Array.getInternal_eq_getElem, List.getElem_toArray, List.getElem_cons_zero, List.getElem_cons_succ, List.setIfInBounds_toArray, List.set_cons_zero, List.set_cons_succ]
        refine anyT_pure (i := 13) (v := undef) rfl (by kernel_rfl) (by kernel_rfl) (by kernel_rfl) (fun _ _ _ h => h) (Or.inr ⟨by rfl, rfl⟩) (by assumption) ?_
        try simp only [Act.put, Array.getInternal_eq_getElem, List.getElem_toArray, List.getElem_cons_zero, List.getElem_cons_succ, List.setIfInBounds_toArray, List.set_cons_zero, List.set_cons_succ]
        refine anyT_pure (i := 14) (v := undef) rfl (by kernel_rfl) (by kernel_rfl) (by kernel_rfl) (fun _ _ _ h => h) (Or.inr ⟨by rfl, rfl⟩) (by assumption) ?_
        try simp only [Act.put, Array.getInternal_eq_getElem, List.getElem_toArray, List.getElem_cons_zero, List.getElem_cons_succ, List.setIfInBounds_toArray, List.set_cons_zero, List.set_cons_succ]
        refine anyT_pure (i := 15) (v := undef) rfl (by kernel_rfl) (by kernel_rfl) (by kernel_rfl) (fun _ _ _ h => h) (Or.inr ⟨by rfl, rfl⟩) (by assumption) ?_
        try simp only [Act.put, Array.getInternal_eq_getElem, List.getElem_toArray, List.getElem_cons_zero, List.getElem_cons_succ, List.setIfInBounds_toArray, List.set_cons_zero, List.set_cons_succ]
        refine anyT_ready (rs := [11]) (by kernel_rfl) (by simp) ?_
        refine AllT.cons rfl (fun K1 hK1 => ?_) AllT.nil
        try simp only [Array.getInternal_eq_getElem, List.getElem_toArray, List.getElem_cons_zero, List.getElem_cons_succ]
        rw [if_neg (by intro h; exact Bool.noConfusion (h : false = true))]
        refine hK1.out _ _ ⟨fun h => absurd h (by simp), trivial⟩ (fun hT => ?_)
        clear hK1 K1
        try simp only [Act.put, Array.getInternal_eq_getElem, List.getElem_toArray, List.getElem_cons_zero, List.getElem_cons_succ, List.setIfInBounds_toArray, List.set_cons_zero, List.set_cons_succ]
        refine anyT_ready (rs := [16]) (by kernel_rfl) (by simp) ?_
        refine AllT.cons rfl (fun K1 hK1 => ?_) AllT.nil
        try simp only [Array.getInternal_eq_getElem, List.getElem_toArray, List.getElem_cons_zero, List.getElem_cons_succ]
        rw [if_neg (by intro h; exact Bool.noConfusion (h : false = true))]
        refine hK1.out _ _ ⟨fun h => absurd h (by simp), trivial⟩ (fun hT => ?_)
        clear hK1 K1
        try simp only [Act.put, Array.getInternal_eq_getElem, List.getElem_toArray, List.getElem_cons_zero, List.getElem_cons_succ, List.setIfInBounds_toArray, List.set_cons_zero, List.set_cons_succ]
        refine anyT_pure (i := 17) (v := ?_) rfl (by kernel_rfl) (by kernel_rfl) (by kernel_rfl) (fun _ _ _ h => h) (Or.inl ⟨by rfl, ?_⟩) (by assumption) ?_
        rotate_left 1
        focus ((intro w hSw; (try dsimp only at hSw); go_simp); try with_reducible rfl)
        try simp only [Act.put, Array.getInternal_eq_getElem, List.getElem_toArray, List.getElem_cons_zero, List.getElem_cons_succ, List.setIfInBounds_toArray, List.set_cons_zero, List.set_cons_succ]
        refine anyT_done (by kernel_rfl) ?_ _
        go_wp2_with fail
        go_roundw
        case rel => exact ⟨i + 1, by omega, by go_num, hn, hdw⟩
        case measure => simp [intOf]; omega
    · obtain rfl : i = d := by omega
      have hfe := Lib.hid (hXn.out HN.out)
      go_wp2_with fail
      go_ret
      exact ⟨ret_int hfe.out.symm, HB⟩
end Go.Proofs.YtnfaibenekninaaGreat.L

set_option linter.unusedVariables false
set_option linter.unusedSimpArgs false
namespace Go.Proofs.YtnfaibenekninaaGreat.L
open Go.RowKit
set_option maxRecDepth 100000 in
set_option maxHeartbeats 8000000 in
theorem l11Use_calls {F1 F2 F3 F4 G : Nat → Prop} (vl v1 v2 v3 v4 : Value) (l gl defs dom far : List Int) (part : Int) (w : World) (hO : Ow true 3 Rp.int w G vl l) (h1 : Rp.Rd Rp.int w F1 v1 gl) (h2 : Rp.Rd Rp.int w F2 v2 defs) (h3 : Rp.Rd Rp.int w F3 v3 dom) (h4 : Rp.Rd Rp.int w F4 v4 far)
    (hd : ∀ q, G q → ¬ F1 q ∧ ¬ F2 q ∧ ¬ F3 q ∧ ¬ F4 q) (hr : ∀ v ∈ l, 0 ≤ v ∧ v < (gl.length : Int)) (hgl : gl.length ≤ 1000) (hl : l.length ≤ 1000) :
    Calls Tryz.prog 56 #[vl, v1, v2, v3, v4, .int .i64 part] w fun e w' => e = .returned (.int .i64 (uRowN (firstV gl (thereB defs dom far part)) l l.length : Nat)) ∧ Ow true 3 Rp.int w' G vl (l.map (firstV gl (thereB defs dom far part))) ∧ Chg G w w' := by
  obtain ⟨A, c, rfl, _, _⟩ := hO.form
  obtain ⟨A1, c1, rfl, _⟩ := id h1
  obtain ⟨A2, c2, rfl, _⟩ := id h2
  obtain ⟨A3, c3, rfl, _⟩ := id h3
  obtain ⟨A4, c4, rfl, _⟩ := id h4
  have HF := Lib.hid (fun (v : Int) (W : World) (hC : Chg G w W) (hv : 0 ≤ v ∧ v < (gl.length : Int)) => l11First_calls _ _ _ _ gl defs dom far v part W (h1.move (hC.same (fun q hq h => (hd q h).1 hq))) (h2.move (hC.same (fun q hq h => (hd q h).2.1 hq))) (h3.move (hC.same (fun q hq h => (hd q h).2.2.1 hq))) (h4.move (hC.same (fun q hq h => (hd q h).2.2.2 hq))) hv hgl)
  have HR := Lib.hid hr
  obtain ⟨f, hf⟩ : ∃ f, f = firstV gl (thereB defs dom far part) := ⟨_, rfl⟩
  rw [← hf] at HF ⊢
  clear hf h1 h2 h3 h4 hd hr
  have hO0 : Ow true 3 Rp.int w G (.slice A l.length c) (uRow f l 0) := by rw [(uRow_zero f l).1]; exact hO
  have hN0 := Lib.hid (uRow_zero f l).2
  have hAll := Lib.hid (uRow_all f l)
  go_enter Tryz.func56, Tryz.ntmps56
  go_wp2_with fail
  go_loopw [13, 19] (fun nv x wr => ∃ j : Nat, j ≤ l.length ∧ nv = .int .i64 (uRowN f l j : Nat) ∧ x = .int .i64 j ∧ Ow true 3 Rp.int wr G (.slice A l.length c) (uRow f l j) ∧ Chg G w wr) (fun _ x _ => l.length - (intOf x).toNat)
  case atStart => exact ⟨0, Nat.zero_le _, by rw [hN0.out]; rfl, rfl, hO0, Chg.refl _ _⟩
  case round =>
    clear hO0 hO
    obtain ⟨j, hj, rfl, rfl, HO, HC⟩ := hrel
    rename World => wo
    by_cases hjt : j < l.length
    · obtain ⟨st1, st2⟩ := uRow_step f l hjt
      have hrl := uRow_len f l (Nat.le_of_lt hjt)
      have hrg := uRow_get f l hjt
      have hcR := uRowN_le f l j
      have hvr := HR.out l[j] (List.getElem_mem hjt)
      obtain ⟨v, hve⟩ : ∃ v, v = l[j] := ⟨_, rfl⟩
      obtain ⟨rw_, hrw⟩ : ∃ rw_, rw_ = uRow f l j := ⟨_, rfl⟩
      obtain ⟨cn, hcn⟩ : ∃ cn, cn = uRowN f l j := ⟨_, rfl⟩
      rw [← hve] at hvr hrg st1 st2
      rw [← hrw] at hrl hrg st1 HO
      rw [← hcn] at hcR st2 ⊢
      have hst := Lib.hid (And.intro st1 st2)
      have hjr : j < rw_.length := by omega
      obtain ⟨gu, cu, he, _, _⟩ := Ow.some_form HO (by omega)
      injection he with he1 hlen he3
      subst he1
      subst he3
      clear hlen
      have hgu := own_in HO (k := gu) (.inl rfl)
      obtain ⟨xj, fj⟩ := HO.int_at hjr
      have hrj : rw_[j] = v := by rw [List.getElem?_eq_getElem hjr] at hrg; exact Option.some.inj hrg
      rw [hrj] at xj
      have HFv := Lib.hid (HF.out v wo HC hvr)
      have HSet := Lib.hid (fun (W : World) (hW : Below wo.heap.size wo W) => ((HO.below hW).set1 rfl hjr (y := f v) (u := .int .i64 (f v)) rfl))
      have HSame : Hid (f v = v → rw_.set j (f v) = rw_) := Lib.hid (fun h => by rw [h, ← hrj]; exact List.set_getElem_self hjr)
      obtain ⟨fv, hfv⟩ : ∃ fv, fv = f v := ⟨_, rfl⟩
      have hcv : Hid (cntV f v = if fv = v then 0 else 1) := Lib.hid (by rw [hfv]; rfl)
      rw [← hfv] at HFv HSet HSame hst
      replace hrl := Lib.hid hrl
      clear st1 st2 hrg hrj hve hrw hcn hfv
      have j0 : (0 : Int) ≤ (j : Int) := Int.natCast_nonneg _
      have j1 : (j : Int) < (l.length : Int) := by omega
      go_wp2_with fail
      refine HFv.out.mono ?_
      rintro e w1 ⟨rfl, hb1⟩
      have HC1 := HC.trans (Chg.of_below hb1)
      have HO1 := HO.below hb1
      have xj1 := cell_below hb1 xj
      have fj1 : w1.frozen? ⟨gu, j, none⟩ = false := by
        have h := hb1.block gu (World.block_lt_of_cell? _ _ xj)
        simpa [World.frozen?, h] using fj
      have hS1 := HSet.out w1 hb1
      clear HFv HSet
      by_cases hfe : fv = v
      · have hne : (fv != v) = false := by simpa using hfe
        have hE : Ow true 3 Rp.int w1 G (.slice (some ⟨gu, 0, none⟩) l.length c) (uRow f l (j + 1)) := by rw [hst.out.1, HSame.out hfe]; exact HO1
        have hN : Hid (uRowN f l (j + 1) = cn) := Lib.hid (by rw [hst.out.2, hcv.out, if_pos hfe]; rfl)
        clear hS1 hcv HSame hst
        subst hfe
        go_wp2_with fail
        go_roundw
        case rel => exact ⟨j + 1, by omega, by rw [hN.out], by go_num, hE, HC1⟩
        case measure => simp [intOf]; omega
      · have hne : (fv != v) = true := by simpa using hfe
        have hE : Ow true 3 Rp.int (w1.setCell ⟨gu, j, none⟩ (.int .i64 fv)) G (.slice (some ⟨gu, 0, none⟩) l.length c) (uRow f l (j + 1)) := by rw [hst.out.1]; exact hS1
        have hN : Hid (uRowN f l (j + 1) = cn + 1) := Lib.hid (by rw [hst.out.2, hcv.out, if_neg hfe])
        have HC2 := HC1.trans (Chg.set (A := G) (w := w1) (b := gu) (o := j) (u := .int .i64 fv) hgu)
        clear hS1 hcv HSame hst
        go_wp2_with fail
        go_roundw
        case rel => exact ⟨j + 1, by omega, by rw [hN.out]; go_num, by go_num, hE, HC2⟩
        case measure => simp [intOf]; omega
    · obtain rfl : j = l.length := by omega
      rw [hAll.out] at HO
      go_wp2_with fail
      go_ret
      exact ⟨rfl, HO, HC⟩
end Go.Proofs.YtnfaibenekninaaGreat.L
