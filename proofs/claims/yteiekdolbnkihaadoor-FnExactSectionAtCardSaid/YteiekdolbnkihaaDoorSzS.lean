/- The laws' own count of what sections hold. -/
import Derived.Test.YteiekdolbnkihaaDoorProg
import Derived.Test.YteiekdolbnkihaaDoorTyS
set_option linter.unusedVariables false
set_option linter.unusedSimpArgs false
namespace Go.Proofs.YteiekdolbnkihaaDoor.L
open Go.RowKit
def szS (n : Nat) (left : Int) : Int := if left - n < 0 then -1 else left - n
theorem szS_bd {n : Nat} {left : Int} (h : left ≤ 1048576) : szS n left ≤ 1048576 ∧ -1 ≤ szS n left ∧ (0 ≤ szS n left → (n : Int) ≤ left ∧ 0 ≤ left) := by
  unfold szS; split <;> omega
def szSe (x : Se) (left : Int) : Int := szS x.body.size left
def szSes : List Se → Int → Int
  | [], left => left
  | x :: t, left => if szSe x left < 0 then -1 else szSes t (szSe x left)
theorem szSes_bd : ∀ (l : List Se) (left : Int), left ≤ 1048576 → 0 ≤ szSes l left → ∀ x ∈ l, x.body.size ≤ 1048576
  | [], _, _, _, x, hx => by simp at hx
  | y :: t, left, h, h0, x, hx => by
    have hb := szS_bd (n := y.body.size) h
    rw [szSes] at h0
    unfold szSe at h0
    split at h0
    · omega
    · rcases List.mem_cons.1 hx with rfl | hx
      · have := hb.2.2 (by omega); omega
      · exact szSes_bd t _ hb.1 h0 x hx
theorem szSection_calls (x : Se) (left : Int) (w : World) (h0 : -1 ≤ left) (h1 : left ≤ 1048576) (hs : x.body.size ≤ 9223372036854775807) :
    Calls Tryd.prog 12 #[seV x, .int .i64 left] w fun e w' => e = .returned (.int .i64 (szSe x left)) ∧ Below w.heap.size w w' := by
  have HS : Hid (szSe x left = if left - x.body.size < 0 then -1 else left - x.body.size) := Lib.hid rfl
  unfold seV
  go_enter Tryd.func12, Tryd.ntmps12
  go_wp2
  all_goals
    go_ret
    refine ⟨ret_int ?_, by first | exact below_new _ | exact Below.refl _ _⟩
    rw [HS.out]
    split <;> omega
set_option maxHeartbeats 1000000 in
theorem szSectionS_calls {F : Nat → Prop} (v : Value) (l : List Se) (left : Int) (w : World) (h : Rp.Rd sect w F v l) (h0 : -1 ≤ left) (h1 : left ≤ 1048576) (hs : ∀ x ∈ l, x.body.size ≤ 9223372036854775807) :
    Calls Tryd.prog 16 #[v, .int .i64 left] w fun e w' => e = .returned (.int .i64 (if szS l.length left < 0 then -1 else szSes l (szS l.length left))) ∧ Below w.heap.size w w' := by
  obtain ⟨A, c, rfl, hlc, hcm, hrow⟩ := rd_sect h
  have b1 := szS_bd (n := l.length) h1
  obtain ⟨s1, hs1⟩ : ∃ s1, s1 = szS l.length left := ⟨_, rfl⟩
  rw [← hs1] at b1 ⊢
  have hs2 : left - l.length < 0 ∧ s1 = -1 ∨ 0 ≤ left - l.length ∧ s1 = left - l.length := by rw [hs1]; unfold szS; split <;> omega
  clear hs1
  rcases hs2 with ⟨hneg, rfl⟩ | ⟨hpos, hss⟩
  · go_enter Tryd.func16, Tryd.ntmps16
    go_wp2
    go_ret
    exact ⟨by simp, Below.refl _ _⟩
  · have HS := Lib.hid hss
    clear hss
    obtain ⟨q0, q1, _⟩ := b1
    have hs0 : 0 ≤ s1 := by have := HS.out; omega
    go_enter Tryd.func16, Tryd.ntmps16
    go_wp2_with fail
    rw [← HS.out]
    go_loopw [1, 5] (fun t i wr => ∃ (k : Nat) (s : Int), k ≤ l.length ∧ i = .int .i64 k ∧ t = .int .i64 s ∧ 0 ≤ s ∧ s ≤ 1048576 ∧ Hid (szSes (l.drop k) s = szSes l s1) ∧ Below w.heap.size w wr) (fun _ i _ => l.length - (intOf i).toNat)
    case atStart => exact ⟨0, s1, Nat.zero_le _, rfl, rfl, hs0, q0, Lib.hid rfl, Below.refl _ _⟩
    case round =>
      obtain ⟨k, s, hk, rfl, rfl, p0, p1, HH, HB⟩ := hrel
      by_cases hlt : k < l.length
      · rcases hrow with rfl | ⟨b, o, rfl, hb, hcell⟩
        · simp at hlt
        have c1 := (hcell k hlt).below HB
        clear hcell
        obtain ⟨r0, r1⟩ := c1
        have hbd := szS_bd (n := l[k].body.size) p1
        obtain ⟨y, hy⟩ : ∃ y, y = szSe l[k] s := ⟨_, rfl⟩
        have HC := szSection_calls l[k] s wr (by omega) p1 (hs _ (List.getElem_mem hlt))
        have HH2 : Hid (szSes (l.drop k) s = if y < 0 then -1 else szSes (l.drop (k + 1)) y) := Lib.hid (by rw [List.drop_eq_getElem_cons hlt, szSes, hy])
        rw [← hy] at HC
        rw [show szS l[k].body.size s = y from hy.symm] at hbd
        have HC := Lib.hid HC
        clear hy
        go_wp2_with (go_at_call 12; refine HC.out.mono ?_; rintro e w1 ⟨rfl, hb1⟩)
        · go_ret
          refine ⟨ret_int ?_, below_then HB hb1⟩
          try rw [if_neg (show ¬ s1 < 0 by omega)]
          rw [← HH.out, HH2.out, if_pos (by omega)]
        · go_roundw
          case rel => exact ⟨k + 1, y, by omega, by go_num, rfl, by omega, hbd.1, Lib.hid (by rw [← HH.out, HH2.out, if_neg (by omega)]), below_then HB hb1⟩
          case measure => simp [intOf]; omega
      · obtain rfl : k = l.length := by omega
        go_wp2
        go_ret
        refine ⟨ret_int ?_, HB⟩
        try rw [if_neg (show ¬ s1 < 0 by omega)]
        rw [← HH.out, List.drop_length, szSes]
end Go.Proofs.YteiekdolbnkihaaDoor.L
