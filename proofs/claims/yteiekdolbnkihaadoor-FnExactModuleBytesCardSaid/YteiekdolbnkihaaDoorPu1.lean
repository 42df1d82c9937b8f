/- Runes as the reference reads them, and the library's word for them: plain Lean. -/
import Derived.Lib.ValidLaws
import Derived.Lib.ValidAsc
set_option linter.unusedVariables false
set_option linter.unusedSimpArgs false
namespace Go.Proofs.YteiekdolbnkihaaDoor.L
open Go.Lib
/-- The byte at a place, as a number. -/
def bt (s : ByteArray) (i : Nat) : Nat := (s.get! i).toNat
theorem bt_lt (s : ByteArray) (i : Nat) : bt s i < 256 := (s.get! i).toNat_lt
def cont (s : ByteArray) : Nat → Nat → Nat → Option (Nat × Nat)
  | 0, n, i => some (n, i)
  | m + 1, n, i => if i < s.size ∧ bt s i / 64 = 2 then cont s m (n * 64 + bt s i % 64) (i + 1) else none
def lead (b : Nat) : Option (Nat × Nat × Nat) :=
  if 240 ≤ b ∧ b < 248 then some (3, b % 8, 65536)
  else if 224 ≤ b ∧ b < 240 then some (2, b % 16, 2048)
  else if 192 ≤ b ∧ b < 224 then some (1, b % 32, 128)
  else if 128 ≤ b then none
  else some (0, b, 0)
def badN (n least : Nat) : Bool := decide (n < least) || decide (1114111 < n) || (decide (55296 ≤ n) && decide (n ≤ 57343))
def chkN (r : Option (Nat × Nat)) (least : Nat) : Option Nat :=
  match r with
  | none => none
  | some (n, j) => if badN n least then none else some j
def runeS (s : ByteArray) (i : Nat) : Option Nat :=
  match lead (bt s i) with
  | none => none
  | some (m, n, least) => chkN (cont s m n (i + 1)) least
def runeN (n b0 b1 b2 b3 : Nat) : Option Nat :=
  if 240 ≤ b0 ∧ b0 < 248 then (if 1 < n ∧ b1 / 64 = 2 then if 2 < n ∧ b2 / 64 = 2 then if 3 < n ∧ b3 / 64 = 2 then if badN (((b0 % 8 * 64 + b1 % 64) * 64 + b2 % 64) * 64 + b3 % 64) 65536 then none else some 4 else none else none else none)
  else if 224 ≤ b0 ∧ b0 < 240 then (if 1 < n ∧ b1 / 64 = 2 then if 2 < n ∧ b2 / 64 = 2 then if badN ((b0 % 16 * 64 + b1 % 64) * 64 + b2 % 64) 2048 then none else some 3 else none else none)
  else if 192 ≤ b0 ∧ b0 < 224 then (if 1 < n ∧ b1 / 64 = 2 then if badN (b0 % 32 * 64 + b1 % 64) 128 then none else some 2 else none)
  else if 128 ≤ b0 then none
  else some 1
set_option maxHeartbeats 8000000 in
set_option maxRecDepth 100000 in
theorem runeN_decode (n b0 b1 b2 b3 : Nat) (hn : 1 ≤ n) (h0 : b0 < 256) (h1 : b1 < 256) (h2 : b2 < 256) (h3 : b3 < 256) :
    runeN n b0 b1 b2 b3 = if (decodeN n b0 b1 b2 b3).1 = 65533 ∧ (decodeN n b0 b1 b2 b3).2 = 1 then none else some (decodeN n b0 b1 b2 b3).2 := by
  by_cases c0 : b0 < 128
  · have hd : decodeN n b0 b1 b2 b3 = (b0, 1) := by unfold decodeN; rw [if_pos c0]
    have hr : runeN n b0 b1 b2 b3 = some 1 := by unfold runeN; rw [if_neg (by omega), if_neg (by omega), if_neg (by omega), if_neg (by omega)]
    rw [hd, hr, if_neg (by simp; omega)]
  have bad : decodeN n b0 b1 b2 b3 = (65533, 1) → runeN n b0 b1 b2 b3 = none → runeN n b0 b1 b2 b3 = if (decodeN n b0 b1 b2 b3).1 = 65533 ∧ (decodeN n b0 b1 b2 b3).2 = 1 then none else some (decodeN n b0 b1 b2 b3).2 := by
    intro h k; rw [h, k]; rfl
  have good : ∀ v k, 2 ≤ k → decodeN n b0 b1 b2 b3 = (v, k) → runeN n b0 b1 b2 b3 = some k → runeN n b0 b1 b2 b3 = if (decodeN n b0 b1 b2 b3).1 = 65533 ∧ (decodeN n b0 b1 b2 b3).2 = 1 then none else some (decodeN n b0 b1 b2 b3).2 := by
    intro v k hk h h2; rw [h, h2, if_neg (by omega)]
  by_cases c1 : b0 < 192
  · exact bad (by unfold decodeN; rw [if_neg c0, if_neg (by omega), if_neg (by omega), if_neg (by omega)]) (by unfold runeN; rw [if_neg (by omega), if_neg (by omega), if_neg (by omega), if_pos (by omega)])
  by_cases c2 : b0 < 224
  · by_cases d1 : 1 < n ∧ b1 / 64 = 2
    · by_cases d : b0 % 32 * 64 + b1 % 64 ≥ 128
      · exact good _ 2 (by omega) (by unfold decodeN; rw [if_neg c0, if_pos (⟨by omega, d1⟩ : b0 / 32 = 6 ∧ (1 < n ∧ b1 / 64 = 2)), if_pos d]) (by unfold runeN; rw [if_neg (by omega), if_neg (by omega), if_pos (by omega), if_pos d1, if_neg (by simp [badN]; omega)])
      · exact bad (by unfold decodeN; rw [if_neg c0, if_pos (⟨by omega, d1⟩ : b0 / 32 = 6 ∧ (1 < n ∧ b1 / 64 = 2)), if_neg d]) (by unfold runeN; rw [if_neg (by omega), if_neg (by omega), if_pos (by omega), if_pos d1, if_pos (by simp [badN]; omega)])
    · exact bad (by unfold decodeN; rw [if_neg c0, if_neg (fun h => d1 h.2), if_neg (by omega), if_neg (by omega)]) (by unfold runeN; rw [if_neg (by omega), if_neg (by omega), if_pos (by omega), if_neg d1])
  by_cases c3 : b0 < 240
  · by_cases d1 : 1 < n ∧ b1 / 64 = 2
    · by_cases d2 : 2 < n ∧ b2 / 64 = 2
      · have he : (b0 % 16 * 64 + b1 % 64) * 64 + b2 % 64 = b0 % 16 * 4096 + b1 % 64 * 64 + b2 % 64 := by omega
        have hc : b0 / 16 = 14 ∧ (1 < n ∧ b1 / 64 = 2) ∧ (2 < n ∧ b2 / 64 = 2) := ⟨by omega, d1, d2⟩
        have hx : ¬ (b0 / 32 = 6 ∧ (1 < n ∧ b1 / 64 = 2)) := fun h => by omega
        by_cases d : b0 % 16 * 4096 + b1 % 64 * 64 + b2 % 64 ≥ 2048 ∧ (b0 % 16 * 4096 + b1 % 64 * 64 + b2 % 64 < 55296 ∨ (57344 ≤ b0 % 16 * 4096 + b1 % 64 * 64 + b2 % 64 ∧ b0 % 16 * 4096 + b1 % 64 * 64 + b2 % 64 ≤ 1114111))
        · have hb : badN (b0 % 16 * 4096 + b1 % 64 * 64 + b2 % 64) 2048 = false := by
            unfold badN
            generalize b0 % 16 * 4096 + b1 % 64 * 64 + b2 % 64 = v at *
            simp; omega
          exact good _ 3 (by omega) (by unfold decodeN; rw [if_neg c0, if_neg hx, if_pos hc, if_pos d]) (by unfold runeN; rw [if_neg (by omega), if_pos (by omega), if_pos d1, if_pos d2, he, if_neg (by rw [hb]; decide)])
        · have hb : badN (b0 % 16 * 4096 + b1 % 64 * 64 + b2 % 64) 2048 = true := by
            unfold badN
            generalize b0 % 16 * 4096 + b1 % 64 * 64 + b2 % 64 = v at *
            simp; omega
          exact bad (by unfold decodeN; rw [if_neg c0, if_neg hx, if_pos hc, if_neg d]) (by unfold runeN; rw [if_neg (by omega), if_pos (by omega), if_pos d1, if_pos d2, he, if_pos (by rw [hb])])
      · exact bad (by unfold decodeN; rw [if_neg c0, if_neg (fun h => by omega), if_neg (fun h => d2 h.2.2), if_neg (by omega)]) (by unfold runeN; rw [if_neg (by omega), if_pos (by omega), if_pos d1, if_neg d2])
    · exact bad (by unfold decodeN; rw [if_neg c0, if_neg (fun h => by omega), if_neg (fun h => d1 h.2.1), if_neg (by omega)]) (by unfold runeN; rw [if_neg (by omega), if_pos (by omega), if_neg d1])
  by_cases c4 : b0 < 248
  · have hr4 : 240 ≤ b0 ∧ b0 < 248 := ⟨by omega, c4⟩
    have hx : ¬ (b0 / 32 = 6 ∧ (1 < n ∧ b1 / 64 = 2)) := fun h => by omega
    have hy : ¬ (b0 / 16 = 14 ∧ (1 < n ∧ b1 / 64 = 2) ∧ (2 < n ∧ b2 / 64 = 2)) := fun h => by omega
    by_cases d1 : 1 < n ∧ b1 / 64 = 2
    · by_cases d2 : 2 < n ∧ b2 / 64 = 2
      · by_cases d3 : 3 < n ∧ b3 / 64 = 2
        · have hc : b0 / 8 = 30 ∧ (1 < n ∧ b1 / 64 = 2) ∧ (2 < n ∧ b2 / 64 = 2) ∧ (3 < n ∧ b3 / 64 = 2) := ⟨by omega, d1, d2, d3⟩
          have he : ((b0 % 8 * 64 + b1 % 64) * 64 + b2 % 64) * 64 + b3 % 64 = b0 % 8 * 262144 + b1 % 64 * 4096 + b2 % 64 * 64 + b3 % 64 := by omega
          by_cases d : b0 % 8 * 262144 + b1 % 64 * 4096 + b2 % 64 * 64 + b3 % 64 ≥ 65536 ∧ (b0 % 8 * 262144 + b1 % 64 * 4096 + b2 % 64 * 64 + b3 % 64 < 55296 ∨ (57344 ≤ b0 % 8 * 262144 + b1 % 64 * 4096 + b2 % 64 * 64 + b3 % 64 ∧ b0 % 8 * 262144 + b1 % 64 * 4096 + b2 % 64 * 64 + b3 % 64 ≤ 1114111))
          · have hb : badN (b0 % 8 * 262144 + b1 % 64 * 4096 + b2 % 64 * 64 + b3 % 64) 65536 = false := by
              unfold badN
              generalize b0 % 8 * 262144 + b1 % 64 * 4096 + b2 % 64 * 64 + b3 % 64 = v at *
              simp; omega
            exact good _ 4 (by omega) (by unfold decodeN; rw [if_neg c0, if_neg hx, if_neg hy, if_pos hc, if_pos d]) (by unfold runeN; rw [if_pos hr4, if_pos d1, if_pos d2, if_pos d3, he, if_neg (by rw [hb]; decide)])
          · have hb : badN (b0 % 8 * 262144 + b1 % 64 * 4096 + b2 % 64 * 64 + b3 % 64) 65536 = true := by
              unfold badN
              generalize b0 % 8 * 262144 + b1 % 64 * 4096 + b2 % 64 * 64 + b3 % 64 = v at *
              simp; omega
            exact bad (by unfold decodeN; rw [if_neg c0, if_neg hx, if_neg hy, if_pos hc, if_neg d]) (by unfold runeN; rw [if_pos hr4, if_pos d1, if_pos d2, if_pos d3, he, if_pos (by rw [hb])])
        · exact bad (by unfold decodeN; rw [if_neg c0, if_neg hx, if_neg hy, if_neg (fun h => d3 h.2.2.2)]) (by unfold runeN; rw [if_pos hr4, if_pos d1, if_pos d2, if_neg d3])
      · exact bad (by unfold decodeN; rw [if_neg c0, if_neg hx, if_neg hy, if_neg (fun h => d2 h.2.2.1)]) (by unfold runeN; rw [if_pos hr4, if_pos d1, if_neg d2])
    · exact bad (by unfold decodeN; rw [if_neg c0, if_neg hx, if_neg hy, if_neg (fun h => d1 h.2.1)]) (by unfold runeN; rw [if_pos hr4, if_neg d1])
  · exact bad (by unfold decodeN; rw [if_neg c0, if_neg (by omega), if_neg (by omega), if_neg (by omega)]) (by unfold runeN; rw [if_neg (by omega), if_neg (by omega), if_neg (by omega), if_pos (by omega)])
theorem runeS_N (s : ByteArray) (i : Nat) (hi : i < s.size) : runeS s i = (runeN (s.size - i) (bt s i) (bt s (i + 1)) (bt s (i + 2)) (bt s (i + 3))).map (i + ·) := by
  have e1 : (i + 1 < s.size) = (1 < s.size - i) := propext ⟨fun h => by omega, fun h => by omega⟩
  have e2 : (i + 2 < s.size) = (2 < s.size - i) := propext ⟨fun h => by omega, fun h => by omega⟩
  have e3 : (i + 3 < s.size) = (3 < s.size - i) := propext ⟨fun h => by omega, fun h => by omega⟩
  unfold runeS lead runeN
  by_cases c4 : 240 ≤ bt s i ∧ bt s i < 248
  · rw [if_pos c4, if_pos c4]
    simp only [cont, chkN, e1, show i + 1 + 1 = i + 2 from rfl, show i + 2 + 1 = i + 3 from rfl, e2, e3, Nat.add_assoc, Nat.reduceAdd]
    by_cases d1 : 1 < s.size - i ∧ bt s (i + 1) / 64 = 2 <;> by_cases d2 : 2 < s.size - i ∧ bt s (i + 2) / 64 = 2 <;> by_cases d3 : 3 < s.size - i ∧ bt s (i + 3) / 64 = 2 <;> simp only [d1, d2, d3, if_true, if_false, and_true, and_self] <;> first | rfl | (split <;> rfl)
  rw [if_neg c4, if_neg c4]
  by_cases c3 : 224 ≤ bt s i ∧ bt s i < 240
  · rw [if_pos c3, if_pos c3]
    simp only [cont, chkN, e1, e2, e3, Nat.add_assoc, Nat.reduceAdd]
    by_cases d1 : 1 < s.size - i ∧ bt s (i + 1) / 64 = 2 <;> by_cases d2 : 2 < s.size - i ∧ bt s (i + 2) / 64 = 2 <;> simp only [d1, d2, if_true, if_false, and_true, and_self] <;> first | rfl | (split <;> rfl)
  rw [if_neg c3, if_neg c3]
  by_cases c2 : 192 ≤ bt s i ∧ bt s i < 224
  · rw [if_pos c2, if_pos c2]
    simp only [cont, chkN, e1, e2, e3, Nat.add_assoc, Nat.reduceAdd]
    by_cases d1 : 1 < s.size - i ∧ bt s (i + 1) / 64 = 2 <;> simp only [d1, if_true, if_false, and_true, and_self] <;> first | rfl | (split <;> rfl)
  rw [if_neg c2, if_neg c2]
  by_cases c1 : 128 ≤ bt s i
  · rw [if_pos c1, if_pos c1]; rfl
  · rw [if_neg c1, if_neg c1]
    have := bt_lt s i
    simp only [cont, chkN]
    rw [if_neg (by simp [badN]; omega)]
    rfl
theorem get_drop (s : ByteArray) (i k : Nat) : ((s.data.toList.drop i).getD k 0).toNat = bt s (i + k) := by
  unfold bt
  congr 1
  rw [List.getD_eq_getElem?_getD, List.getElem?_drop]
  show _ = s.data[i + k]!
  rw [Array.getElem?_toList, Array.getElem!_eq_getD, Array.getD_eq_getD_getElem?]
  rfl
theorem valid_at (s : ByteArray) (i : Nat) (hi : i < s.size) : validD (s.data.toList.drop i) = match runeS s i with | none => false | some j => validD (s.data.toList.drop j) := by
  have hl : (s.data.toList.drop i).length = s.size - i := by rw [List.length_drop]; rfl
  have hne : s.data.toList.drop i ≠ [] := fun h => by rw [h] at hl; simp at hl; omega
  rw [validD_step _ hne, decodeL_N, runeS_N s i hi, hl, get_drop, get_drop, get_drop, get_drop, Nat.add_zero, runeN_decode _ _ _ _ _ (by omega) (bt_lt _ _) (bt_lt _ _) (bt_lt _ _) (bt_lt _ _)]
  split
  · rfl
  · simp [List.drop_drop]
theorem runeS_gt {s : ByteArray} {i j : Nat} (hi : i < s.size) (h : runeS s i = some j) : i < j ∧ j ≤ s.size := by
  rw [runeS_N s i hi] at h
  obtain ⟨k, hk, rfl⟩ := Option.map_eq_some_iff.1 h
  unfold runeN at hk
  repeat' split at hk
  all_goals first | (cases hk; omega) | cases hk
theorem valid_end (s : ByteArray) (i : Nat) (hi : s.size ≤ i) : validD (s.data.toList.drop i) = true := by
  rw [List.drop_eq_nil_of_le (by simpa using hi)]; rfl
end Go.Proofs.YteiekdolbnkihaaDoor.L
