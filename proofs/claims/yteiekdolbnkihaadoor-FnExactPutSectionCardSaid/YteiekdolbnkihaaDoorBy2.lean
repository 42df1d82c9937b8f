/- Numbers in seven bits are put: the program's putU, the reference's l1PutU. -/
import Derived.Test.YteiekdolbnkihaaDoorBy1
import Derived.Test.YteiekdolbnkihaaDoorMt1
import Derived.Test.YteiekdolbnkihaaDoorBi1
set_option linter.unusedVariables false
set_option linter.unusedSimpArgs false
namespace Go.Proofs.YteiekdolbnkihaaDoor.L
open Go.RowKit
def lebB (n : Nat) : List UInt8 := if n < 128 then [UInt8.ofNat n] else [UInt8.ofNat n, 1]
theorem lebB_len (n : Nat) : 0 < (lebB n).length ∧ (lebB n).length ≤ 2 := by unfold lebB; split <;> simp
theorem u8_or (n : Nat) (h1 : 128 ≤ n) (h2 : n < 256) : bits .or .u8 (n : Int) 128 = (n : Int) := by
  rw [show (128 : Int) = ((128 : Nat) : Int) from rfl, u8_or_nat n 128 h2 (by omega)]
  congr 1
  have h : ∀ b : Fin 256, 128 ≤ b.val → b.val ||| 128 = b.val := by decide +kernel
  exact h ⟨n, h2⟩ h1
theorem i64_or (n : Nat) (h1 : 128 ≤ n) (h2 : n < 256) : bits .or .i64 (bits .and .i64 (n : Int) 127) 128 = (n : Int) := by
  rw [i64_127, bits_or_comm, bits_join .i64 62 (by decide) wraps_i64' 7 _ _ (by omega) (by decide) (by omega) (by omega) (by omega) (by omega)]
  omega
theorem ofNat_toNat (n : Nat) (h : n < 256) : (n : Int) = ((UInt8.ofNat n).toNat : Int) := by
  rw [UInt8.toNat_ofNat']; omega
set_option maxRecDepth 100000 in
set_option maxHeartbeats 4000000 in
theorem putU_calls (B : Nat) (w0 w : World) (v : Value) (l : List UInt8) (n : Nat) (HO : BO B w0 w v l) (hl : l.length ≤ 100000) (hn : n ≤ 200) :
    Calls Tryd.prog 51 #[v, .int .i64 n] w fun e w' => ∃ v', e = .returned v' ∧ BO B w0 w' v' (l ++ lebB n) ∧ GB w w' v v' := by
  have HL : Hid (lebB n = if n < 128 then [UInt8.ofNat n] else [UInt8.ofNat n, 1]) := Lib.hid rfl
  go_enter Tryd.func51, Tryd.ntmps51
  go_wp2
  go_loopw [0, 1] (fun o m wr => ∃ (q : Nat) (l1 : List UInt8), m = .int .i64 q ∧ BO B w0 wr o l1 ∧ GB w wr v o ∧ ((q = n ∧ l1 = l) ∨ (q = 1 ∧ 128 ≤ n ∧ l1 = l ++ [UInt8.ofNat n]))) (fun _ m _ => (intOf m).toNat)
  case atStart => exact ⟨n, l, rfl, HO, GB.refl _ _, .inl ⟨rfl, rfl⟩⟩
  case round =>
    obtain ⟨q, l1, rfl, HOr, HGr, hq⟩ := hrel
    by_cases h128 : 128 ≤ q
    · obtain ⟨rfl, rfl⟩ : q = n ∧ l1 = l := by
        rcases hq with h | h
        · exact h
        · omega
      have t1 : (128 : Int) ≤ (q : Int) := by omega
      have t2 := u8_or q h128 (by omega)
      have HN := Lib.hid (ofNat_toNat q (by omega))
      have tok1 : True := trivial
      have t3 : (q : Int) / 128 = 1 := by omega
      clear hq
      go_wp2_with (at_builtin; have _t := tok1; refine bapp1 (by rfl) _ _ (by rfl) (UInt8.ofNat q) (q : Int) (HN.out) (by rfl) (by rfl) HOr (by omega) ?_; intro v2 w2 HO2 HG2; clear tok1)
      go_roundw
      case rel => exact ⟨1, l1 ++ [UInt8.ofNat q], by rfl, HO2, HGr.trans HG2, .inr ⟨rfl, h128, rfl⟩⟩
      case measure => simp [intOf]; omega
    · have t1 : ¬ (128 : Int) ≤ (q : Int) := by omega
      have HN := Lib.hid (ofNat_toNat q (by omega))
      have tok1 : True := trivial
      have hl1 : l1.length ≤ 100001 := by rcases hq with ⟨_, rfl⟩ | ⟨_, _, rfl⟩ <;> first | omega | (simp; omega)
      have HQ : Hid (l1 ++ [UInt8.ofNat q] = l ++ lebB n) := Lib.hid (by
        rw [HL.out]
        rcases hq with ⟨rfl, rfl⟩ | ⟨rfl, h, rfl⟩
        · rw [if_pos (by omega)]
        · rw [if_neg (by omega)]; simp)
      clear hq
      go_wp2_with (at_builtin; have _t := tok1; refine bapp1 (by rfl) _ _ (by rfl) (UInt8.ofNat q) (q : Int) (HN.out) (by rfl) (by rfl) HOr (by omega) ?_; intro v2 w2 HO2 HG2; clear tok1)
      go_ret
      exact ⟨_, rfl, by rw [← HQ.out]; exact HO2, HGr.trans HG2⟩
theorem b1_data (n : Nat) : (b1 n).data.toList = [UInt8.ofNat n] := rfl
theorem append_data (a b : ByteArray) : (a ++ b).data.toList = a.data.toList ++ b.data.toList := by
  rw [ByteArray.data_append, Array.toList_append]
theorem of_data {a : ByteArray} {l : List UInt8} (h : a.data.toList = l) : a = ⟨l.toArray⟩ := by
  obtain ⟨⟨a⟩⟩ := a
  simp at h
  rw [h]
set_option maxRecDepth 100000 in
set_option maxHeartbeats 4000000 in
theorem l1PutU_calls (w : World) (n : Nat) (hn : n ≤ 200) :
    Calls Tryd.prog 50 #[.int .i64 n] w fun e w' => e = .returned (.string ⟨(lebB n).toArray⟩) ∧ Below w.heap.size w w' := by
  have HL : Hid (lebB n = if n < 128 then [UInt8.ofNat n] else [UInt8.ofNat n, 1]) := Lib.hid rfl
  go_enter Tryd.func50, Tryd.ntmps50
  go_wp2
  go_loopw [0, 3] (fun m o wr => ∃ (q : Nat) (s : ByteArray), m = .int .i64 q ∧ o = .string s ∧ Below w.heap.size w wr ∧ Hid ((q = n ∧ s.data.toList = []) ∨ (q = 1 ∧ 128 ≤ n ∧ s.data.toList = [UInt8.ofNat n]))) (fun m _ _ => (intOf m).toNat)
  case atStart => exact ⟨n, ByteArray.mk #[], rfl, rfl, Below.refl _ _, Lib.hid (.inl ⟨rfl, rfl⟩)⟩
  case round =>
    obtain ⟨q, s, rfl, rfl, HB, HQ⟩ := hrel
    have hq200 : q ≤ 200 := by rcases HQ.out with h | h <;> omega
    have hss : s.size ≤ 1 := by
      have : s.data.toList.length = s.size := Array.length_toList
      rcases HQ.out with h | h
      · rw [← this, h.2]; simp
      · rw [← this, h.2.2]; simp
    by_cases h128 : 128 ≤ q
    · have t1 : (128 : Int) ≤ (q : Int) := by omega
      have t2 := i64_or q h128 (by omega)
      have t3 : (q : Int) / 128 = 1 := by omega
      have hcv := conv1_new wr (q : Int) q rfl (by omega)
      have hsz : s.size + (b1 q).size ≤ 9223372036854775807 := by show s.size + 1 ≤ _; omega
      have HQ2 : Hid ((s ++ b1 q).data.toList = [UInt8.ofNat n] ∧ 128 ≤ n) := Lib.hid (by
        rw [append_data, b1_data]
        rcases HQ.out with ⟨rfl, h⟩ | ⟨h1, _, _⟩
        · rw [h]; exact ⟨rfl, h128⟩
        · omega)
      go_wp2
      go_roundw
      case rel => exact ⟨1, s ++ b1 q, by rfl, rfl, below_then HB (below_new _), Lib.hid (.inr ⟨rfl, HQ2.out.2, HQ2.out.1⟩)⟩
      case measure => simp [intOf]; omega
    · have t1 : ¬ (128 : Int) ≤ (q : Int) := by omega
      have hcv := conv1_new wr (q : Int) q rfl (by omega)
      have hsz : s.size + (b1 q).size ≤ 9223372036854775807 := by show s.size + 1 ≤ _; omega
      have HQ2 : Hid (s ++ b1 q = ⟨(lebB n).toArray⟩) := Lib.hid (of_data (by
        rw [append_data, b1_data, HL.out]
        rcases HQ.out with ⟨rfl, h⟩ | ⟨rfl, h1, h2⟩
        · rw [h, if_pos (by omega)]; rfl
        · rw [h2, if_neg (by omega)]; rfl))
      go_wp2
      go_ret
      exact ⟨by rw [HQ2.out]; rfl, below_then HB (below_new _)⟩
end Go.Proofs.YteiekdolbnkihaaDoor.L
