/- Bits of small numbers. -/
import Derived.Laws.BitsAllLaws
import Derived.Laws.Bits128
set_option linter.unusedVariables false
set_option linter.unusedSimpArgs false
namespace Go.Proofs.YteiekdolbnkihaaDoor.L
open Go
theorem wraps_i64' (n : Int) (h₀ : 0 ≤ n) (h₁ : n < 2 ^ 62) : IntKind.i64.wrap n = n := by rw [IntKind.wrap_i64]; omega
theorem u8_192 (b : Nat) (hb : b < 256) : bits .and .u8 (b : Int) 192 = ((b / 64 * 64 : Nat) : Int) := by
  rw [show (192 : Int) = ((192 : Nat) : Int) from rfl, u8_and_nat b 192 hb (by omega)]
  congr 1
  have h : ∀ b : Fin 256, b.val &&& 192 = b.val / 64 * 64 := by decide +kernel
  exact h ⟨b, hb⟩
theorem u8_63 (b : Nat) (hb : b < 256) : bits .and .u8 (b : Int) 63 = ((b % 64 : Nat) : Int) :=
  (bits_mask .u8 8 (by decide) wraps_u8 6 (by decide) b (by omega) (by omega)).trans (by omega)
theorem u8_127 (b : Nat) (hb : b < 256) : bits .and .u8 (b : Int) 127 = ((b % 128 : Nat) : Int) :=
  (bits_mask .u8 8 (by decide) wraps_u8 7 (by decide) b (by omega) (by omega)).trans (by omega)
theorem i64_127 (b : Nat) : bits .and .i64 (b : Int) 127 = ((b % 128 : Nat) : Int) := (i64_and127 b).trans (by omega)
theorem i64_7 (b : Nat) (hb : b < 256) : bits .and .i64 (b : Int) 7 = ((b % 8 : Nat) : Int) :=
  (bits_mask .i64 62 (by decide) wraps_i64' 3 (by decide) b (by omega) (by omega)).trans (by omega)
theorem i64_15 (b : Nat) (hb : b < 256) : bits .and .i64 (b : Int) 15 = ((b % 16 : Nat) : Int) :=
  (bits_mask .i64 62 (by decide) wraps_i64' 4 (by decide) b (by omega) (by omega)).trans (by omega)
theorem i64_31 (b : Nat) (hb : b < 256) : bits .and .i64 (b : Int) 31 = ((b % 32 : Nat) : Int) :=
  (bits_mask .i64 62 (by decide) wraps_i64' 5 (by decide) b (by omega) (by omega)).trans (by omega)
theorem i64_or6 (x y : Nat) (hx : x < 1000000000) (hy : y < 64) : bits .or .i64 ((x * 64 : Nat) : Int) (y : Int) = ((x * 64 + y : Nat) : Int) :=
  (bits_join .i64 62 (by decide) wraps_i64' 6 _ _ (by omega) (by omega) (by omega) (by omega) (by omega) (by omega)).trans (by omega)
theorem bits_or_comm (k : IntKind) (a b : Int) : bits .or k a b = bits .or k b a := by simp only [bits, BitVec.or_comm]
theorem i64_or_hi (j n y : Nat) (hj : j ≤ 35) (hn : n < 2 ^ j) (hy : y < 128) : bits .or .i64 (n : Int) ((y * 2 ^ j : Nat) : Int) = ((n + y * 2 ^ j : Nat) : Int) := by
  have h1 : 2 ^ j ≤ 2 ^ 35 := Nat.pow_le_pow_right (by omega) hj
  have h2 : y * 2 ^ j ≤ 127 * 2 ^ 35 := Nat.mul_le_mul (by omega) h1
  have h3 : ((y * 2 ^ j : Nat) : Int) % 2 ^ j = 0 := by
    have : ((y * 2 ^ j : Nat) : Int) = (y : Int) * 2 ^ j := by simp
    rw [this]; exact Int.mul_emod_left _ _
  have h4 : (n : Int) < 2 ^ j := by
    have : ((2 ^ j : Nat) : Int) = (2 : Int) ^ j := by simp
    rw [← this]; omega
  rw [bits_or_comm, bits_join .i64 62 (by decide) wraps_i64' j _ _ (by omega) h3 (by omega) (by omega) h4 (by omega)]
  omega
end Go.Proofs.YteiekdolbnkihaaDoor.L
