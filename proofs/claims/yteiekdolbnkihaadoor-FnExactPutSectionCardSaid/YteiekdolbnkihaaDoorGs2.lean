/- The reference's IsUtf8. -/
import Derived.Test.YteiekdolbnkihaaDoorTk1
set_option linter.unusedVariables false
set_option linter.unusedSimpArgs false
namespace Go.Proofs.YteiekdolbnkihaaDoor.L
open Go.RowKit Go.Lib
theorem valid_none {s : ByteArray} {k : Nat} (hk : k < s.size) {r : Option Nat} (h : r = runeS s k) (hr : r = none) : validD (s.data.toList.drop k) = false := by
  rw [valid_at s k hk, ← h, hr]
theorem valid_some {s : ByteArray} {k j : Nat} (hk : k < s.size) {r : Option Nat} (h : r = runeS s k) (hr : r = some j) : validD (s.data.toList.drop k) = validD (s.data.toList.drop j) := by
  rw [valid_at s k hk, ← h, hr]
theorem cont_bound {N q r : Nat} (h : (N + 1) * 64 ^ (q + 1) ≤ 1073741824) (hr : r < 64) : (N * 64 + r + 1) * 64 ^ q ≤ 1073741824 := by
  refine Nat.le_trans ?_ h
  rw [Nat.pow_succ, Nat.mul_comm (64 ^ q) 64, ← Nat.mul_assoc]
  exact Nat.mul_le_mul (by omega) (Nat.le_refl _)
theorem cont_small {N q : Nat} (h : (N + 1) * 64 ^ q ≤ 1073741824) : N < 1073741824 := by
  have : (N + 1) * 1 ≤ (N + 1) * 64 ^ q := Nat.mul_le_mul (Nat.le_refl _) (Nat.one_le_pow _ _ (by omega))
  omega
theorem or_val (N y : Nat) (hN : (N + 1) * 64 ≤ 1073741824) : bits .or .i64 (wrap64 ((N : Int) * 64)) ((y % 64 : Nat) : Int) = ((N * 64 + y % 64 : Nat) : Int) := by
  rw [show wrap64 ((N : Int) * 64) = ((N * 64 : Nat) : Int) by unfold wrap64; omega]
  exact i64_or6 N (y % 64) (by omega) (by omega)
set_option maxRecDepth 100000 in
set_option maxHeartbeats 8000000 in
theorem isUtf8S_calls (s : ByteArray) (w : World) (hs : s.size ≤ 1048576) :
    Calls Tryd.prog 36 #[.string s] w fun e w' => e = .returned (.bool (validD s.data.toList)) ∧ w = w' := by
  obtain ⟨ANS, hANS⟩ : ∃ ANS, validD s.data.toList = ANS := ⟨_, rfl⟩
  rw [hANS]
  have HA : Hid (validD (s.data.toList.drop 0) = ANS) := Lib.hid hANS
  clear hANS
  go_enter Tryd.func36, Tryd.ntmps36
  go_wp2
  go_loop [3] (fun i => ∃ k : Nat, k ≤ s.size ∧ i = .int .i64 k ∧ Hid (validD (s.data.toList.drop k) = ANS)) (fun i => s.size - (intOf i).toNat)
  case atStart => exact ⟨0, by omega, rfl, HA⟩
  case round =>
    obtain ⟨k, hk, rfl, HV⟩ := hrel
    by_cases hlt : k < s.size
    · have hlt2 : (k : Int) < (s.size : Int) := by omega
      have hx := bt_lt s k
      have hb := byte_at s k hlt
      obtain ⟨x, hxe⟩ : ∃ x, bt s k = x := ⟨_, rfl⟩
      have HX := Lib.hid hxe
      rw [hxe] at hx hb
      clear hxe
      by_cases c4 : 240 ≤ x ∧ x < 248
      · have t1 : (240 : Int) ≤ (x : Int) := by omega
        have t2 : (x : Int) < 248 := by omega
        have t3 := i64_7 x hx
        have HL : Hid (lead x = some (3, x % 8, 65536)) := Lib.hid (by unfold lead; rw [if_pos c4])
        go_wp2_with fail
        go_loop [6, 3, 5] (fun n i m => ∃ (j q N : Nat), j ≤ s.size ∧ k < j ∧ i = .int .i64 j ∧ m = .int .i64 q ∧ n = .int .i64 N ∧ (N + 1) * 64 ^ q ≤ 1073741824 ∧ q ≤ 3 ∧ Hid (chkN (cont s q N j) 65536 = runeS s k)) (fun _ _ m => (intOf m).toNat)
        case atStart => exact ⟨k + 1, 3, x % 8, by omega, by omega, by go_num, rfl, by go_num, by omega, by omega, Lib.hid (by rw [runeS, HX.out, HL.out])⟩
        case round =>
          obtain ⟨j, q, N, hj, hkj, rfl, rfl, rfl, hN, hq, HR⟩ := hrel
          rcases q with _ | q
          · have hN0 := cont_small hN
            go_wp2_with (go_at_call 48; refine (l1In_calls _ _ _ _).mono ?_; rintro e w' ⟨rfl, rfl⟩)
            all_goals first
              | (go_ret; exact ⟨ret_bool (by rw [← HV.out]; refine (valid_none hlt HR.out ?_).symm; rw [cont, chkN, if_pos]; simp [inB] at *; simp [badN]; omega), rfl⟩)
              | (refine ⟨⟨j, hj, rfl, Lib.hid (by rw [← HV.out]; refine (valid_some hlt HR.out ?_).symm; rw [cont, chkN, if_neg]; simp [inB] at *; simp [badN]; omega)⟩, by simp [intOf]; omega⟩)
          · by_cases hjs : j < s.size
            · have hjs2 : (j : Int) < (s.size : Int) := by omega
              have hy := bt_lt s j
              have hb2 := byte_at s j hjs
              obtain ⟨y, hye⟩ : ∃ y, bt s j = y := ⟨_, rfl⟩
              have HY := Lib.hid hye
              rw [hye] at hy hb2
              clear hye
              have m1 := u8_192 y hy
              have m2 := u8_63 y hy
              have m3 := or_val N y (by rw [Nat.pow_succ] at hN; exact Nat.le_trans (Nat.mul_le_mul (Nat.le_refl _) (Nat.le_mul_of_pos_left _ (Nat.pos_of_ne_zero (by simp)))) hN)
              have MV := Lib.hid m3
              clear m3
              by_cases h2 : y / 64 = 2
              · have e2 : ((y / 64 * 64 : Nat) : Int) = 128 := by omega
                rw [e2] at m1
                go_wp2
                refine ⟨⟨j + 1, q, N * 64 + y % 64, by omega, by omega, by go_num, by go_num, ?_, cont_bound hN (by omega), by omega, Lib.hid ?_⟩, ?_⟩
                · first | exact congrArg (Value.int .i64) MV.out | trace_state
                · rw [← HR.out, cont, HY.out, if_pos ⟨hjs, h2⟩]
                · first | (simp [intOf]; done) | (simp [intOf]; omega)
              · have e2 : ((y : Int) / 64 * 64 != 128) = true := by rw [bne_iff_ne]; omega
                go_wp2
                go_ret
                exact ⟨ret_bool (by rw [← HV.out]; refine (valid_none hlt HR.out ?_).symm; rw [cont, HY.out, if_neg (fun h => h2 h.2)]; try rfl), rfl⟩
            · have hjs2 : ¬ (j : Int) < (s.size : Int) := by omega
              go_wp2
              go_ret
              exact ⟨ret_bool (by rw [← HV.out]; refine (valid_none hlt HR.out ?_).symm; rw [cont, if_neg (fun h => hjs h.1)]; try rfl), rfl⟩
      by_cases c3 : 224 ≤ x ∧ x < 240
      · have t1 : ¬ (240 : Int) ≤ (x : Int) := by omega
        have t2 : (224 : Int) ≤ (x : Int) := by omega
        have t4 : (x : Int) < 240 := by omega
        have t3 := i64_15 x hx
        have HL : Hid (lead x = some (2, x % 16, 2048)) := Lib.hid (by unfold lead; rw [if_neg c4, if_pos c3])
        go_wp2_with fail
        go_loop [6, 3, 5] (fun n i m => ∃ (j q N : Nat), j ≤ s.size ∧ k < j ∧ i = .int .i64 j ∧ m = .int .i64 q ∧ n = .int .i64 N ∧ (N + 1) * 64 ^ q ≤ 1073741824 ∧ q ≤ 3 ∧ Hid (chkN (cont s q N j) 2048 = runeS s k)) (fun _ _ m => (intOf m).toNat)
        case atStart => exact ⟨k + 1, 2, x % 16, by omega, by omega, by go_num, rfl, by go_num, by omega, by omega, Lib.hid (by rw [runeS, HX.out, HL.out])⟩
        case round =>
          obtain ⟨j, q, N, hj, hkj, rfl, rfl, rfl, hN, hq, HR⟩ := hrel
          rcases q with _ | q
          · have hN0 := cont_small hN
            go_wp2_with (go_at_call 48; refine (l1In_calls _ _ _ _).mono ?_; rintro e w' ⟨rfl, rfl⟩)
            all_goals first
              | (go_ret; exact ⟨ret_bool (by rw [← HV.out]; refine (valid_none hlt HR.out ?_).symm; rw [cont, chkN, if_pos]; simp [inB] at *; simp [badN]; omega), rfl⟩)
              | (refine ⟨⟨j, hj, rfl, Lib.hid (by rw [← HV.out]; refine (valid_some hlt HR.out ?_).symm; rw [cont, chkN, if_neg]; simp [inB] at *; simp [badN]; omega)⟩, by simp [intOf]; omega⟩)
          · by_cases hjs : j < s.size
            · have hjs2 : (j : Int) < (s.size : Int) := by omega
              have hy := bt_lt s j
              have hb2 := byte_at s j hjs
              obtain ⟨y, hye⟩ : ∃ y, bt s j = y := ⟨_, rfl⟩
              have HY := Lib.hid hye
              rw [hye] at hy hb2
              clear hye
              have m1 := u8_192 y hy
              have m2 := u8_63 y hy
              have m3 := or_val N y (by rw [Nat.pow_succ] at hN; exact Nat.le_trans (Nat.mul_le_mul (Nat.le_refl _) (Nat.le_mul_of_pos_left _ (Nat.pos_of_ne_zero (by simp)))) hN)
              have MV := Lib.hid m3
              clear m3
              by_cases h2 : y / 64 = 2
              · have e2 : ((y / 64 * 64 : Nat) : Int) = 128 := by omega
                rw [e2] at m1
                go_wp2
                refine ⟨⟨j + 1, q, N * 64 + y % 64, by omega, by omega, by go_num, by go_num, ?_, cont_bound hN (by omega), by omega, Lib.hid ?_⟩, ?_⟩
                · first | exact congrArg (Value.int .i64) MV.out | trace_state
                · rw [← HR.out, cont, HY.out, if_pos ⟨hjs, h2⟩]
                · first | (simp [intOf]; done) | (simp [intOf]; omega)
              · have e2 : ((y : Int) / 64 * 64 != 128) = true := by rw [bne_iff_ne]; omega
                go_wp2
                go_ret
                exact ⟨ret_bool (by rw [← HV.out]; refine (valid_none hlt HR.out ?_).symm; rw [cont, HY.out, if_neg (fun h => h2 h.2)]; try rfl), rfl⟩
            · have hjs2 : ¬ (j : Int) < (s.size : Int) := by omega
              go_wp2
              go_ret
              exact ⟨ret_bool (by rw [← HV.out]; refine (valid_none hlt HR.out ?_).symm; rw [cont, if_neg (fun h => hjs h.1)]; try rfl), rfl⟩
      by_cases c2 : 192 ≤ x ∧ x < 224
      · have t1 : ¬ (240 : Int) ≤ (x : Int) := by omega
        have t2 : ¬ (224 : Int) ≤ (x : Int) := by omega
        have t4 : (192 : Int) ≤ (x : Int) := by omega
        have t5 : (x : Int) < 224 := by omega
        have t3 := i64_31 x hx
        have HL : Hid (lead x = some (1, x % 32, 128)) := Lib.hid (by unfold lead; rw [if_neg c4, if_neg c3, if_pos c2])
        go_wp2_with fail
        go_loop [6, 3, 5] (fun n i m => ∃ (j q N : Nat), j ≤ s.size ∧ k < j ∧ i = .int .i64 j ∧ m = .int .i64 q ∧ n = .int .i64 N ∧ (N + 1) * 64 ^ q ≤ 1073741824 ∧ q ≤ 3 ∧ Hid (chkN (cont s q N j) 128 = runeS s k)) (fun _ _ m => (intOf m).toNat)
        case atStart => exact ⟨k + 1, 1, x % 32, by omega, by omega, by go_num, rfl, by go_num, by omega, by omega, Lib.hid (by rw [runeS, HX.out, HL.out])⟩
        case round =>
          obtain ⟨j, q, N, hj, hkj, rfl, rfl, rfl, hN, hq, HR⟩ := hrel
          rcases q with _ | q
          · have hN0 := cont_small hN
            go_wp2_with (go_at_call 48; refine (l1In_calls _ _ _ _).mono ?_; rintro e w' ⟨rfl, rfl⟩)
            all_goals first
              | (go_ret; exact ⟨ret_bool (by rw [← HV.out]; refine (valid_none hlt HR.out ?_).symm; rw [cont, chkN, if_pos]; simp [inB] at *; simp [badN]; omega), rfl⟩)
              | (refine ⟨⟨j, hj, rfl, Lib.hid (by rw [← HV.out]; refine (valid_some hlt HR.out ?_).symm; rw [cont, chkN, if_neg]; simp [inB] at *; simp [badN]; omega)⟩, by simp [intOf]; omega⟩)
          · by_cases hjs : j < s.size
            · have hjs2 : (j : Int) < (s.size : Int) := by omega
              have hy := bt_lt s j
              have hb2 := byte_at s j hjs
              obtain ⟨y, hye⟩ : ∃ y, bt s j = y := ⟨_, rfl⟩
              have HY := Lib.hid hye
              rw [hye] at hy hb2
              clear hye
              have m1 := u8_192 y hy
              have m2 := u8_63 y hy
              have m3 := or_val N y (by rw [Nat.pow_succ] at hN; exact Nat.le_trans (Nat.mul_le_mul (Nat.le_refl _) (Nat.le_mul_of_pos_left _ (Nat.pos_of_ne_zero (by simp)))) hN)
              have MV := Lib.hid m3
              clear m3
              by_cases h2 : y / 64 = 2
              · have e2 : ((y / 64 * 64 : Nat) : Int) = 128 := by omega
                rw [e2] at m1
                go_wp2
                refine ⟨⟨j + 1, q, N * 64 + y % 64, by omega, by omega, by go_num, by go_num, ?_, cont_bound hN (by omega), by omega, Lib.hid ?_⟩, ?_⟩
                · first | exact congrArg (Value.int .i64) MV.out | trace_state
                · rw [← HR.out, cont, HY.out, if_pos ⟨hjs, h2⟩]
                · first | (simp [intOf]; done) | (simp [intOf]; omega)
              · have e2 : ((y : Int) / 64 * 64 != 128) = true := by rw [bne_iff_ne]; omega
                go_wp2
                go_ret
                exact ⟨ret_bool (by rw [← HV.out]; refine (valid_none hlt HR.out ?_).symm; rw [cont, HY.out, if_neg (fun h => h2 h.2)]; try rfl), rfl⟩
            · have hjs2 : ¬ (j : Int) < (s.size : Int) := by omega
              go_wp2
              go_ret
              exact ⟨ret_bool (by rw [← HV.out]; refine (valid_none hlt HR.out ?_).symm; rw [cont, if_neg (fun h => hjs h.1)]; try rfl), rfl⟩
      by_cases c1 : 128 ≤ x
      · have HL : Hid (lead x = none) := Lib.hid (by unfold lead; rw [if_neg c4, if_neg c3, if_neg c2, if_pos c1])
        by_cases c5 : x < 192
        · have t1 : ¬ (240 : Int) ≤ (x : Int) := by omega
          have t2 : ¬ (224 : Int) ≤ (x : Int) := by omega
          have t4 : ¬ (192 : Int) ≤ (x : Int) := by omega
          have t5 : (128 : Int) ≤ (x : Int) := by omega
          go_wp2
          go_ret
          exact ⟨ret_bool (by rw [← HV.out]; exact (valid_none hlt rfl (by rw [runeS, HX.out, HL.out])).symm), rfl⟩
        · have t1 : (240 : Int) ≤ (x : Int) := by omega
          have t2 : ¬ (x : Int) < 248 := by omega
          have t3 : (224 : Int) ≤ (x : Int) := by omega
          have t4 : ¬ (x : Int) < 240 := by omega
          have t5 : (192 : Int) ≤ (x : Int) := by omega
          have t6 : ¬ (x : Int) < 224 := by omega
          have t7 : (128 : Int) ≤ (x : Int) := by omega
          go_wp2
          go_ret
          exact ⟨ret_bool (by rw [← HV.out]; exact (valid_none hlt rfl (by rw [runeS, HX.out, HL.out])).symm), rfl⟩
      · have t1 : ¬ (240 : Int) ≤ (x : Int) := by omega
        have t2 : ¬ (224 : Int) ≤ (x : Int) := by omega
        have t4 : ¬ (192 : Int) ≤ (x : Int) := by omega
        have t5 : ¬ (128 : Int) ≤ (x : Int) := by omega
        have HL : Hid (lead x = some (0, x, 0)) := Lib.hid (by unfold lead; rw [if_neg c4, if_neg c3, if_neg c2, if_neg c1])
        go_wp2_with fail
        go_loop [6, 3, 5] (fun n i m => ∃ (j q N : Nat), j ≤ s.size ∧ k < j ∧ i = .int .i64 j ∧ m = .int .i64 q ∧ n = .int .i64 N ∧ (N + 1) * 64 ^ q ≤ 1073741824 ∧ q ≤ 3 ∧ Hid (chkN (cont s q N j) 0 = runeS s k)) (fun _ _ m => (intOf m).toNat)
        case atStart => exact ⟨k + 1, 0, x, by omega, by omega, by go_num, rfl, by go_num, by omega, by omega, Lib.hid (by rw [runeS, HX.out, HL.out])⟩
        case round =>
          obtain ⟨j, q, N, hj, hkj, rfl, rfl, rfl, hN, hq, HR⟩ := hrel
          rcases q with _ | q
          · have hN0 := cont_small hN
            go_wp2_with (go_at_call 48; refine (l1In_calls _ _ _ _).mono ?_; rintro e w' ⟨rfl, rfl⟩)
            all_goals first
              | (go_ret; exact ⟨ret_bool (by rw [← HV.out]; refine (valid_none hlt HR.out ?_).symm; rw [cont, chkN, if_pos]; simp [inB] at *; simp [badN]; omega), rfl⟩)
              | (refine ⟨⟨j, hj, rfl, Lib.hid (by rw [← HV.out]; refine (valid_some hlt HR.out ?_).symm; rw [cont, chkN, if_neg]; simp [inB] at *; simp [badN]; omega)⟩, by simp [intOf]; omega⟩)
          · by_cases hjs : j < s.size
            · have hjs2 : (j : Int) < (s.size : Int) := by omega
              have hy := bt_lt s j
              have hb2 := byte_at s j hjs
              obtain ⟨y, hye⟩ : ∃ y, bt s j = y := ⟨_, rfl⟩
              have HY := Lib.hid hye
              rw [hye] at hy hb2
              clear hye
              have m1 := u8_192 y hy
              have m2 := u8_63 y hy
              have m3 := or_val N y (by rw [Nat.pow_succ] at hN; exact Nat.le_trans (Nat.mul_le_mul (Nat.le_refl _) (Nat.le_mul_of_pos_left _ (Nat.pos_of_ne_zero (by simp)))) hN)
              have MV := Lib.hid m3
              clear m3
              by_cases h2 : y / 64 = 2
              · have e2 : ((y / 64 * 64 : Nat) : Int) = 128 := by omega
                rw [e2] at m1
                go_wp2
                refine ⟨⟨j + 1, q, N * 64 + y % 64, by omega, by omega, by go_num, by go_num, ?_, cont_bound hN (by omega), by omega, Lib.hid ?_⟩, ?_⟩
                · first | exact congrArg (Value.int .i64) MV.out | trace_state
                · rw [← HR.out, cont, HY.out, if_pos ⟨hjs, h2⟩]
                · first | (simp [intOf]; done) | (simp [intOf]; omega)
              · have e2 : ((y : Int) / 64 * 64 != 128) = true := by rw [bne_iff_ne]; omega
                go_wp2
                go_ret
                exact ⟨ret_bool (by rw [← HV.out]; refine (valid_none hlt HR.out ?_).symm; rw [cont, HY.out, if_neg (fun h => h2 h.2)]; try rfl), rfl⟩
            · have hjs2 : ¬ (j : Int) < (s.size : Int) := by omega
              go_wp2
              go_ret
              exact ⟨ret_bool (by rw [← HV.out]; refine (valid_none hlt HR.out ?_).symm; rw [cont, if_neg (fun h => hjs h.1)]; try rfl), rfl⟩
    · obtain rfl : k = s.size := by omega
      go_wp2
      go_ret
      exact ⟨ret_bool (by rw [← HV.out, valid_end _ _ (Nat.le_refl _)]), rfl⟩
end Go.Proofs.YteiekdolbnkihaaDoor.L
