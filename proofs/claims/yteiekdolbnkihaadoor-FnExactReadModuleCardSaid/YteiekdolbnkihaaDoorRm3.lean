/- The reference's ReadModule. -/
import Derived.Test.YteiekdolbnkihaaDoorRm2
import Derived.Test.YteiekdolbnkihaaDoorGs3
set_option linter.unusedVariables false
set_option linter.unusedSimpArgs false
namespace Go.Proofs.YteiekdolbnkihaaDoor.L
open Go.RowKit
set_option maxRecDepth 100000 in
set_option maxHeartbeats 8000000 in
theorem readModuleS_calls (s : ByteArray) (w : World) (hs : s.size ≤ 1048576) :
    Calls Tryd.prog 25 #[.string s] w fun e w' => ∃ v, e = .returned (readV v (readB s)) ∧ owS w w' v (readB s).1 ∧ Below w.heap.size w w' := by
  have HR : Hid (readB s = if 2000 < s.size then ([], 0, false) else if headB s then (if (rdF s s.size 8 []).1 = 0 then (if goodB (rdF s s.size 8 []).2 then ((rdF s s.size 8 []).2, 0, true) else ([], 4, false)) else ([], (rdF s s.size 8 []).1, false)) else ([], 1, false)) := Lib.hid rfl
  by_cases h2 : 2000 < s.size
  · have t1 : (2000 : Int) < (s.size : Int) := by omega
    have HR2 : Hid (readB s = ([], 0, false)) := Lib.hid (by rw [HR.out, if_pos h2])
    clear HR
    go_enter Tryd.func25, Tryd.ntmps25
    go_wp2
    exact bodyPost_ret (v := readV (.slice none 0 0) ([], 0, false)) (by simp [results, Tryd.results25, go_sem, readV]) rfl ⟨_, by rw [HR2.out], by rw [HR2.out]; exact Ow.nil _ _ _ _ _, Below.refl _ _⟩
  have t1 : ¬ (2000 : Int) < (s.size : Int) := by omega
  rw [if_neg h2] at HR
  by_cases h8 : 8 ≤ s.size
  · have t3 : ¬ (s.size : Int) < 8 := by omega
    have t5 : (8 : Int) ≤ (s.size : Int) := by omega
    have hl : (ByteArray.mk #[0, 97, 115, 109, 1, 0, 0, 0]).toList = [0, 97, 115, 109, 1, 0, 0, 0] := by rw [ByteArray.toList_eq]
    have hH : headB s = ((s.extract 0 8).toList == [0, 97, 115, 109, 1, 0, 0, 0]) := by rw [headB, hl, decide_eq_true h8, Bool.true_and]
    rw [hH] at HR
    clear hH hl
    cases hh : ((s.extract 0 8).toList == [0, 97, 115, 109, 1, 0, 0, 0])
    · have HR2 : Hid (readB s = ([], 1, false)) := Lib.hid (by rw [HR.out, hh]; rfl)
      clear HR
      go_enter Tryd.func25, Tryd.ntmps25
      go_wp2
      exact bodyPost_ret (v := readV (.slice none 0 0) ([], 1, false)) (by simp [results, Tryd.results25, go_sem, readV]) rfl ⟨_, by rw [HR2.out], by rw [HR2.out]; exact Ow.nil _ _ _ _ _, Below.refl _ _⟩
    · rw [hh] at HR
      go_enter Tryd.func25, Tryd.ntmps25
      go_wp2
      clear hh
      go_loopw [5, 6] (fun o a wr => ∃ (f i : Nat) (l : List Se), a = .int .i64 i ∧ i ≤ s.size ∧ Ow true 27 sect wr (fun k => w.heap.size ≤ k) o l ∧ l.length ≤ i ∧ (∀ x ∈ l, x.body.size ≤ 200) ∧ s.size - i ≤ f ∧ Hid (rdF s f i l = rdF s s.size 8 []) ∧ Below w.heap.size w wr) (fun _ a _ => s.size - (intOf a).toNat)
      case atStart => exact ⟨s.size, 8, [], rfl, h8, Ow.nil _ _ _ _ _, by simp, by simp, by omega, Lib.hid rfl, Below.refl _ _⟩
      case round =>
        obtain ⟨f, i, l, rfl, hi, HO, hll, hbs, hf, HF, HB⟩ := hrel
        by_cases hlt : i < s.size
        · obtain ⟨f, rfl⟩ : ∃ f', f = f' + 1 := ⟨f - 1, by omega⟩
          have i0 : (0 : Int) ≤ (i : Int) := Int.natCast_nonneg _
          have i1 : (i : Int) < (s.size : Int) := by omega
          have HC := Lib.hid (fun W => l1Take_calls s (i + 1) W hs (by omega))
          have HF2 : Hid (rdF s (f + 1) i l = if (secAt s i).2.2 = 0 then rdF s f (secAt s i).2.1 (l ++ [(secAt s i).1]) else ((secAt s i).2.2, [])) := Lib.hid (by rw [rdF, if_pos hlt])
          have HS : Hid (secAt s i = match tkU s (i + 1) with | none => (⟨bt s i, emp⟩, 0, 2) | some (n, e) => if e + n ≤ s.size then (if bt s i ≤ 11 ∧ n ≤ 200 then (⟨bt s i, s.extract e (e + n)⟩, e + n, 0) else (⟨bt s i, emp⟩, 0, 3)) else (⟨bt s i, emp⟩, 0, 2)) := Lib.hid rfl
          have HU : Hid (tkU s (i + 1) = match tk s 5 0 0 (i + 1) with | none => none | some (n, _, e) => if n ≤ 4294967295 then some (n, e) else none) := Lib.hid rfl
          have hbd := fun m k' e => tk_le (s := s) (f := 5) (k := 0) (n := 0) (i := i + 1) (m := m) (k' := k') (e := e) (by omega)
          have hx := bt_lt s i
          have hba := byte_at s i hlt
          obtain ⟨x, hx0⟩ : ∃ x, bt s i = x := ⟨_, rfl⟩
          rw [hx0] at HS hx hba
          clear hx0
          have bad : ∀ (c : Nat) (xx : Se) (W : World), c ≠ 0 → secAt s i = (xx, 0, c) → Hid (readB s = ([], c, false)) := by
            intro c xx W hc0 hsec
            have hrd : rdF s s.size 8 [] = (c, []) := by rw [← HF.out, HF2.out, hsec]; exact if_neg hc0
            exact Lib.hid (by rw [HR.out, hrd]; simp [hc0])
          have bad := Lib.hid bad
          generalize tk s 5 0 0 (i + 1) = r at *
          rcases r with _ | ⟨n, k, e⟩
          · have HR2 := bad.out 2 ⟨x, emp⟩ wr (by omega) (by rw [HS.out, HU.out])
            unfold tkSV at HC
            clear hbd HF2 HS
            go_wp2_with fail
            rw [show ((i : Int) + 1) = ((i + 1 : Nat) : Int) by omega]
            refine (HC.out _).mono ?_
            rintro e w' ⟨rfl, rfl⟩
            go_wp2
            exact bodyPost_ret (v := readV (.slice none 0 0) ([], 2, false)) (by simp [results, Tryd.results25, go_sem, readV]) rfl ⟨_, by rw [HR2.out], by rw [HR2.out]; exact Ow.nil _ _ _ _ _, below_then HB (below_new _)⟩
          · obtain ⟨g1, g2, g3, _, _⟩ := hbd n k e rfl
            unfold tkSV at HC
            have he : ((e : Int) == 0) = false := by rw [beq_eq_false_iff_ne]; omega
            have HI : Hid (inB (n : Int) 0 4294967295 = decide (n ≤ 4294967295)) := Lib.hid (by unfold inB; rw [Bool.eq_iff_iff]; simp; omega)
            by_cases hn : n ≤ 4294967295
            · rw [decide_eq_true hn] at HI
              have HS2 : Hid (secAt s i = if e + n ≤ s.size then (if x ≤ 11 ∧ n ≤ 200 then (⟨x, s.extract e (e + n)⟩, e + n, 0) else (⟨x, emp⟩, 0, 3)) else (⟨x, emp⟩, 0, 2)) := Lib.hid (by rw [HS.out, HU.out]; simp only [if_pos hn])
              clear HS HU hbd
              by_cases hle : e + n ≤ s.size
              · have hle2 : ¬ (s.size : Int) - (e : Int) < (n : Int) := by omega
                have s1 : (0 : Int) ≤ (e : Int) := by omega
                have s2 : (e : Int) ≤ (e : Int) + (n : Int) := by omega
                have s3 : (e : Int) + (n : Int) ≤ (s.size : Int) := by omega
                have s4 : ((e : Int) + (n : Int)).toNat = e + n := by omega
                by_cases hok : x ≤ 11 ∧ n ≤ 200
                · have u1 : ¬ (11 : Int) < (x : Int) := by omega
                  have u2 : ¬ (200 : Int) < (n : Int) := by omega
                  have HS3 : Hid (secAt s i = (⟨x, s.extract e (e + n)⟩, e + n, 0)) := Lib.hid (by rw [HS2.out, if_pos hle, if_pos hok])
                  have hts : (s.extract e (e + n)).size ≤ 200 := by rw [ByteArray.size_extract]; omega
                  have hB := HB.size
                  clear HS2
                  obtain ⟨t, ht⟩ : ∃ t, s.extract e (e + n) = t := ⟨_, rfl⟩
                  rw [ht] at HS3 hts
                  go_wp2_with fail
                  rw [show ((i : Int) + 1) = ((i + 1 : Nat) : Int) by omega]
                  refine (HC.out _).mono ?_
                  rintro e1 w1 ⟨rfl, rfl⟩
                  have tok1 : True := trivial
                  go_wp2_with (first | (go_at_call 53; refine (l1U32_calls _ _).mono ?_; rintro e1 w2 ⟨rfl, rfl⟩; rw [HI.out]) | (at_builtin; have _t := tok1; refine acc_append1 (r := sect) (e := 27) (B := w.heap.size) (w0 := w) sect_flat (by rfl) _ _ 33 (.agg #[.int .i64 0, .string ByteArray.empty]) 24 (by rfl) Tryd.underlying33 infoSect rfl (by decide) (by omega) _ l ⟨x, t⟩ [.int .i64 (x : Int), .string t] (by rfl) (by rw [World.size_alloc] <;> rfl) true (HO.below (below_new _)) (sect_mk _ _ ⟨x, t⟩) (HB.alloc hB _) (by rw [World.size_alloc]; omega) (by omega) ?_; intro v2 w2 HO2 HB2 hB2; clear HO tok1))
                  go_roundw
                  case rel => exact ⟨f, e + n, l ++ [⟨x, t⟩], by go_num, hle, HO2, by simp; omega, by simp; exact fun y hy => hy.elim (hbs y) (fun h => h ▸ hts), by omega, Lib.hid (by rw [← HF.out, HF2.out, HS3.out]; rfl), HB2⟩
                  case measure => simp [intOf]; omega
                · have HR2 := bad.out 3 ⟨x, emp⟩ wr (by omega) (by rw [HS2.out, if_pos hle, if_neg hok])
                  clear HF2 HS2
                  by_cases hx11 : x ≤ 11
                  · have u1 : ¬ (11 : Int) < (x : Int) := by omega
                    have u2 : (200 : Int) < (n : Int) := by omega
                    go_wp2_with fail
                    rw [show ((i : Int) + 1) = ((i + 1 : Nat) : Int) by omega]
                    refine (HC.out _).mono ?_
                    rintro e1 w1 ⟨rfl, rfl⟩
                    go_wp2_with (go_at_call 53; refine (l1U32_calls _ _).mono ?_; rintro e1 w2 ⟨rfl, rfl⟩; rw [HI.out])
                    exact bodyPost_ret (v := readV (.slice none 0 0) ([], 3, false)) (by simp [results, Tryd.results25, go_sem, readV]) rfl ⟨_, by rw [HR2.out], by rw [HR2.out]; exact Ow.nil _ _ _ _ _, below_then HB (below_new _)⟩
                  · have u1 : (11 : Int) < (x : Int) := by omega
                    go_wp2_with fail
                    rw [show ((i : Int) + 1) = ((i + 1 : Nat) : Int) by omega]
                    refine (HC.out _).mono ?_
                    rintro e1 w1 ⟨rfl, rfl⟩
                    go_wp2_with (go_at_call 53; refine (l1U32_calls _ _).mono ?_; rintro e1 w2 ⟨rfl, rfl⟩; rw [HI.out])
                    exact bodyPost_ret (v := readV (.slice none 0 0) ([], 3, false)) (by simp [results, Tryd.results25, go_sem, readV]) rfl ⟨_, by rw [HR2.out], by rw [HR2.out]; exact Ow.nil _ _ _ _ _, below_then HB (below_new _)⟩
              · have hle2 : (s.size : Int) - (e : Int) < (n : Int) := by omega
                have HR2 := bad.out 2 ⟨x, emp⟩ wr (by omega) (by rw [HS2.out, if_neg hle])
                clear HF2 HS2
                go_wp2_with fail
                rw [show ((i : Int) + 1) = ((i + 1 : Nat) : Int) by omega]
                refine (HC.out _).mono ?_
                rintro e1 w1 ⟨rfl, rfl⟩
                go_wp2_with (go_at_call 53; refine (l1U32_calls _ _).mono ?_; rintro e1 w2 ⟨rfl, rfl⟩; rw [HI.out])
                exact bodyPost_ret (v := readV (.slice none 0 0) ([], 2, false)) (by simp [results, Tryd.results25, go_sem, readV]) rfl ⟨_, by rw [HR2.out], by rw [HR2.out]; exact Ow.nil _ _ _ _ _, below_then HB (below_new _)⟩
            · rw [decide_eq_false hn] at HI
              have HR2 := bad.out 2 ⟨x, emp⟩ wr (by omega) (by rw [HS.out, HU.out]; simp only [if_neg hn])
              clear HF2 HS HU hbd
              go_wp2_with fail
              rw [show ((i : Int) + 1) = ((i + 1 : Nat) : Int) by omega]
              refine (HC.out _).mono ?_
              rintro e1 w1 ⟨rfl, rfl⟩
              go_wp2_with (go_at_call 53; refine (l1U32_calls _ _).mono ?_; rintro e1 w2 ⟨rfl, rfl⟩; rw [HI.out])
              exact bodyPost_ret (v := readV (.slice none 0 0) ([], 2, false)) (by simp [results, Tryd.results25, go_sem, readV]) rfl ⟨_, by rw [HR2.out], by rw [HR2.out]; exact Ow.nil _ _ _ _ _, below_then HB (below_new _)⟩
        · obtain rfl : i = s.size := by omega
          have hrd : Hid (rdF s s.size 8 [] = (0, l)) := Lib.hid (by rw [← HF.out, rdF_end (Nat.le_refl _)])
          have HR2 : Hid (readB s = if goodB l then (l, 0, true) else ([], 4, false)) := Lib.hid (by rw [HR.out, hrd.out]; rfl)
          obtain ⟨A, c, rfl, _⟩ := HO.form
          have HG := goodSectionsS_calls _ l wr HO.rd (by omega) (fun x hx => by have := hbs x hx; omega)
          rw [← good_same] at HG
          have HG := Lib.hid HG
          cases hz : goodB l
          · rw [hz] at HR2 HG
            go_wp2_with (go_at_call 17; refine HG.out.mono ?_; rintro e1 w1 ⟨rfl, hb1⟩)
            exact bodyPost_ret (v := readV (.slice none 0 0) ([], 4, false)) (by simp [results, Tryd.results25, go_sem, readV]) rfl ⟨_, by rw [HR2.out]; rfl, by rw [HR2.out]; exact Ow.nil _ _ _ _ _, below_then HB hb1⟩
          · rw [hz] at HR2 HG
            go_wp2_with (go_at_call 17; refine HG.out.mono ?_; rintro e1 w1 ⟨rfl, hb1⟩)
            exact bodyPost_ret (v := readV (.slice A l.length c) (l, 0, true)) (by simp [results, Tryd.results25, go_sem, readV]) rfl ⟨_, by rw [HR2.out]; rfl, by rw [HR2.out]; exact HO.below hb1, below_then HB hb1⟩
  · have t3 : (s.size : Int) < 8 := by omega
    have HR2 : Hid (readB s = ([], 1, false)) := Lib.hid (by rw [HR.out, headB, decide_eq_false h8]; simp)
    clear HR
    go_enter Tryd.func25, Tryd.ntmps25
    go_wp2
    exact bodyPost_ret (v := readV (.slice none 0 0) ([], 1, false)) (by simp [results, Tryd.results25, go_sem, readV]) rfl ⟨_, by rw [HR2.out], by rw [HR2.out]; exact Ow.nil _ _ _ _ _, Below.refl _ _⟩
end Go.Proofs.YteiekdolbnkihaaDoor.L
