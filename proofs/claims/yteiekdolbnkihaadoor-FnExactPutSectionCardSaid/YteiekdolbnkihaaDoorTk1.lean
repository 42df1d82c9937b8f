/- Numbers in seven bits are taken: the program's takeBits and takeU, the reference's l1Take and TakeU32. -/
import Derived.Test.YteiekdolbnkihaaDoorProg
import Derived.Test.YteiekdolbnkihaaDoorPu2
import Derived.Test.YteiekdolbnkihaaDoorBi1
set_option linter.unusedVariables false
set_option linter.unusedSimpArgs false
namespace Go.Proofs.YteiekdolbnkihaaDoor.L
open Go.RowKit
theorem within_calls (a b c : Int) (w : World) : Calls Tryd.prog 46 #[.int .i64 a, .int .i64 b, .int .i64 c] w fun e w' => e = .returned (.bool (inB a b c)) ∧ w = w' := by
  go_enter Tryd.func46, Tryd.ntmps46
  go_wp2
  all_goals
    go_ret
    simp [inB, *]
    try omega
theorem l1In_calls (a b c : Int) (w : World) : Calls Tryd.prog 48 #[.int .i64 a, .int .i64 b, .int .i64 c] w fun e w' => e = .returned (.bool (inB a b c)) ∧ w = w' := by
  go_enter Tryd.func48, Tryd.ntmps48
  go_wp2
  all_goals
    go_ret
    simp [inB, *]
    try omega
def tkV : Option (Nat × Nat × Nat) → Value
  | none => .tuple #[.int .i64 0, .int .i64 0, .int .i64 0, .bool false]
  | some (n, k, e) => .tuple #[.int .i64 n, .int .i64 (7 * k : Nat), .int .i64 e, .bool true]
theorem byte_at (s : ByteArray) (j : Nat) (h : j < s.size) : (s[j]'h).toNat = bt s j := by
  unfold bt
  show (s.data[j]'h).toNat = (s.data[j]!).toNat
  rw [getElem!_pos s.data j h]
theorem leb_val (x N k : Nat) (hk : k ≤ 4) (hN : N < 2 ^ (7 * k)) :
    bits .or .i64 (N : Int) (wrap64 (((x % 128 : Nat) : Int) * 2 ^ (7 * k))) = ((N + x % 128 * 2 ^ (7 * k) : Nat) : Int) := by
  have hp : (2 : Nat) ^ (7 * k) ≤ 2 ^ 28 := Nat.pow_le_pow_right (by omega) (by omega)
  have hm : x % 128 * 2 ^ (7 * k) ≤ 127 * 2 ^ 28 := Nat.mul_le_mul (by omega) hp
  have e : ((x % 128 : Nat) : Int) * 2 ^ (7 * k) = ((x % 128 * 2 ^ (7 * k) : Nat) : Int) := by simp
  rw [e, show wrap64 ((x % 128 * 2 ^ (7 * k) : Nat) : Int) = ((x % 128 * 2 ^ (7 * k) : Nat) : Int) from by unfold wrap64; omega]
  exact i64_or_hi (7 * k) N (x % 128) (by omega) hN (by omega)
theorem leb_u8 (x N k : Nat) (hx : x < 256) (hk : k ≤ 4) (hN : N < 2 ^ (7 * k)) :
    bits .or .i64 (N : Int) (wrap64 (wrap64 (bits .and .u8 (x : Int) 127) * 2 ^ (7 * k))) = ((N + x % 128 * 2 ^ (7 * k) : Nat) : Int) := by
  rw [u8_127 x hx, show wrap64 ((x % 128 : Nat) : Int) = ((x % 128 : Nat) : Int) from by unfold wrap64; omega]
  exact leb_val x N k hk hN
theorem leb_bound (x N k : Nat) (hN : N < 2 ^ (7 * k)) : N + x % 128 * 2 ^ (7 * k) < 2 ^ (7 * (k + 1)) := by
  have hp : 2 ^ (7 * (k + 1)) = 128 * 2 ^ (7 * k) := by rw [Nat.mul_add, Nat.pow_add]; omega
  have hm : x % 128 * 2 ^ (7 * k) ≤ 127 * 2 ^ (7 * k) := Nat.mul_le_mul (by omega) (Nat.le_refl _)
  omega
theorem tk_hit {s : ByteArray} {i k N f : Nat} (hk : k < 5) (hlt : i + k < s.size) (hx : bt s (i + k) < 128) : tk s (5 - k) k N (i + k) = some (N + bt s (i + k) % 128 * 2 ^ (7 * k), k + 1, i + k + 1) := by
  rw [show 5 - k = (4 - k) + 1 by omega, tk, if_pos hlt, if_pos hx]
theorem tk_next {s : ByteArray} {i k N : Nat} (hk : k < 5) (hlt : i + k < s.size) (hx : ¬ bt s (i + k) < 128) : tk s (5 - k) k N (i + k) = tk s (5 - (k + 1)) (k + 1) (N + bt s (i + k) % 128 * 2 ^ (7 * k)) (i + (k + 1)) := by
  rw [show 5 - k = (5 - (k + 1)) + 1 by omega, tk, if_pos hlt, if_neg hx]
  rfl
theorem tk_out {s : ByteArray} {i k N : Nat} (hlt : ¬ i + k < s.size) : tk s (5 - k) k N (i + k) = none := by
  cases h : 5 - k with
  | zero => rfl
  | succ n => rw [tk, if_neg hlt]
set_option maxRecDepth 100000 in
set_option maxHeartbeats 1000000 in
theorem takeBits_calls (s : ByteArray) (i : Nat) (w : World) (hs : s.size ≤ 1048576) (hi : i ≤ 1048577) :
    Calls Tryd.prog 80 #[.string s, .int .i64 i] w fun e w' => e = .returned (tkV (tk s 5 0 0 i)) ∧ w = w' := by
  go_enter Tryd.func80, Tryd.ntmps80
  go_wp2
  go_loop [8, 9] (fun n j => ∃ k N : Nat, k ≤ 5 ∧ j = .int .i64 k ∧ n = .int .i64 N ∧ N < 2 ^ (7 * k) ∧ Hid (tk s (5 - k) k N (i + k) = tk s 5 0 0 i)) (fun _ j => 5 - (intOf j).toNat)
  case atStart => exact ⟨0, 0, by omega, rfl, rfl, by omega, Lib.hid rfl⟩
  case round =>
    obtain ⟨k, N, hk, rfl, rfl, hN, HT⟩ := hrel
    by_cases h5 : k = 5
    · subst h5
      go_wp2
      exact bodyPost_ret (v := tkV none) (by simp [results, Tryd.results80, go_sem, tkV]) rfl ⟨by rw [← HT.out]; rfl, rfl⟩
    · by_cases hlt : i + k < s.size
      · have hlt2 : (i : Int) + (k : Int) < (s.size : Int) := by omega
        have hb := byte_at s (i + k) hlt
        have hx := bt_lt s (i + k)
        have HV := Lib.hid (leb_u8 (bt s (i + k)) N k hx (by omega) hN)
        go_wp2
        · refine bodyPost_ret (v := tkV (some (N + bt s (i + k) % 128 * 2 ^ (7 * k), k + 1, i + k + 1))) ?_ rfl ⟨by rw [← HT.out, tk_hit (f := 0) (by omega) hlt (by omega)], rfl⟩
          simp [results, Tryd.results80, go_sem, tkV, hb, HV.out]
        · refine ⟨⟨k + 1, N + bt s (i + k) % 128 * 2 ^ (7 * k), by omega, by go_num, congrArg (Value.int .i64) HV.out, leb_bound _ _ _ hN, Lib.hid ?_⟩, ?_⟩
          · rw [← HT.out, tk_next (by omega) hlt (by omega)]
          · simp [intOf]; omega
      · have hlt2 : ¬ (i : Int) + (k : Int) < (s.size : Int) := by omega
        go_wp2
        exact bodyPost_ret (v := tkV none) (by simp [results, Tryd.results80, go_sem, tkV]) rfl ⟨by rw [← HT.out, tk_out hlt], rfl⟩
def tkUV : Option (Nat × Nat) → Value
  | none => .tuple #[.int .i64 0, .int .i64 0, .bool false]
  | some (n, e) => .tuple #[.int .i64 n, .int .i64 e, .bool true]
set_option maxHeartbeats 1000000 in
theorem takeU_calls (s : ByteArray) (i : Nat) (w : World) (hs : s.size ≤ 1048576) (hi : i ≤ 1048577) :
    Calls Tryd.prog 72 #[.string s, .int .i64 i] w fun e w' => e = .returned (tkUV (tkU s i)) ∧ w = w' := by
  have HC := Lib.hid (fun W => takeBits_calls s i W hs hi)
  have HU : Hid (tkU s i = match tk s 5 0 0 i with | none => none | some (n, _, e) => if n ≤ 4294967295 then some (n, e) else none) := Lib.hid rfl
  have hb := fun m k' e => tk_le (s := s) (f := 5) (k := 0) (n := 0) (i := i) (m := m) (k' := k') (e := e) (by omega)
  generalize tk s 5 0 0 i = r at *
  rcases r with _ | ⟨n, k, e⟩
  · unfold tkV at HC
    clear hb
    go_enter Tryd.func72, Tryd.ntmps72
    go_wp2_with (go_at_call 80; refine (HC.out _).mono ?_; rintro e w' ⟨rfl, rfl⟩)
    exact bodyPost_ret (v := tkUV none) (by simp [results, Tryd.results72, go_sem, tkUV]) rfl ⟨by rw [HU.out], rfl⟩
  · obtain ⟨h1, h2, h3, _, _⟩ := hb n k e rfl
    unfold tkV at HC
    go_enter Tryd.func72, Tryd.ntmps72
    go_wp2_with (go_at_call 80; refine (HC.out _).mono ?_; rintro e w' ⟨rfl, rfl⟩)
    · exact bodyPost_ret (v := tkUV none) (by simp [results, Tryd.results72, go_sem, tkUV]) rfl ⟨by rw [HU.out]; exact congrArg (fun o => Ending.returned (tkUV o)) (if_neg (by omega)).symm, rfl⟩
    · exact bodyPost_ret (v := tkUV (some (n, e))) (by simp [results, Tryd.results72, go_sem, tkUV]) rfl ⟨by rw [HU.out]; exact congrArg (fun o => Ending.returned (tkUV o)) (if_pos (by omega)).symm, rfl⟩
def tkSV : Option (Nat × Nat × Nat) → Value
  | none => .tuple #[.int .i64 0, .int .i64 0, .int .i64 0]
  | some (n, k, e) => .tuple #[.int .i64 n, .int .i64 (7 * k : Nat), .int .i64 e]
theorem leb_i64 (x N k : Nat) (hk : k ≤ 4) (hN : N < 2 ^ (7 * k)) :
    bits .or .i64 (N : Int) (wrap64 (bits .and .i64 (x : Int) 127 * 2 ^ (7 * k))) = ((N + x % 128 * 2 ^ (7 * k) : Nat) : Int) := by
  rw [i64_127]
  exact leb_val x N k hk hN
set_option maxRecDepth 100000 in
set_option maxHeartbeats 1000000 in
theorem l1Take_calls (s : ByteArray) (i : Nat) (w : World) (hs : s.size ≤ 1048576) (hi : i ≤ 1048577) :
    Calls Tryd.prog 52 #[.string s, .int .i64 i] w fun e w' => e = .returned (tkSV (tk s 5 0 0 i)) ∧ w = w' := by
  go_enter Tryd.func52, Tryd.ntmps52
  go_wp2
  go_loop [1, 7, 8] (fun a n j => ∃ k N : Nat, k ≤ 5 ∧ a = .int .i64 (i + k : Nat) ∧ j = .int .i64 k ∧ n = .int .i64 N ∧ N < 2 ^ (7 * k) ∧ Hid (tk s (5 - k) k N (i + k) = tk s 5 0 0 i)) (fun _ _ j => 5 - (intOf j).toNat)
  case atStart => exact ⟨0, 0, by omega, rfl, rfl, rfl, by omega, Lib.hid rfl⟩
  case round =>
    obtain ⟨k, N, hk, rfl, rfl, rfl, hN, HT⟩ := hrel
    by_cases h5 : k = 5
    · subst h5
      go_wp2
      exact bodyPost_ret (v := tkSV none) (by simp [results, Tryd.results52, go_sem, tkSV]) rfl ⟨by rw [← HT.out]; rfl, rfl⟩
    · by_cases hlt : i + k < s.size
      · have hlt2 : ((i + k : Nat) : Int) < (s.size : Int) := by omega
        have hb := byte_at s (i + k) hlt
        have hx := bt_lt s (i + k)
        have HV := Lib.hid (leb_i64 (bt s (i + k)) N k (by omega) hN)
        go_wp2
        · refine bodyPost_ret (v := tkSV (some (N + bt s (i + k) % 128 * 2 ^ (7 * k), k + 1, i + k + 1))) ?_ rfl ⟨by rw [← HT.out, tk_hit (f := 0) (by omega) hlt (by omega)], rfl⟩
          simp [results, Tryd.results52, go_sem, tkSV, hb, HV.out]
          try omega
        · refine ⟨⟨k + 1, N + bt s (i + k) % 128 * 2 ^ (7 * k), by omega, by go_num, by go_num, congrArg (Value.int .i64) HV.out, leb_bound _ _ _ hN, Lib.hid ?_⟩, ?_⟩
          · rw [← HT.out, tk_next (by omega) hlt (by omega)]
          · simp [intOf]; omega
      · have hlt2 : ¬ ((i + k : Nat) : Int) < (s.size : Int) := by omega
        go_wp2
        exact bodyPost_ret (v := tkSV none) (by simp [results, Tryd.results52, go_sem, tkSV]) rfl ⟨by rw [← HT.out, tk_out hlt], rfl⟩
end Go.Proofs.YteiekdolbnkihaaDoor.L
