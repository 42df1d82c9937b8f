/- The laws' own count of what flows hold. -/
import Derived.Test.YteiekdolbnkihaaSz1
import Derived.Test.YteiekdolbnkihaaTy2
set_option linter.unusedVariables false
namespace Go.Proofs.Yteiekdolbnkihaa.L
open Go.RowKit
def szBk (x : Bk) (left : Int) : Int := if szS x.code.length left < 0 then -1 else szS x.next.length (szS x.code.length left)
theorem szBk_bd {x : Bk} {left : Int} (h : left ≤ 1048576) : szBk x left ≤ 1048576 ∧ -1 ≤ szBk x left ∧ (0 ≤ szBk x left → (x.code.length : Int) ≤ left ∧ (x.next.length : Int) ≤ left ∧ 0 ≤ left) := by
  unfold szBk szS; split <;> split <;> omega
def szBks : List Bk → Int → Int
  | [], left => left
  | x :: t, left => if szBk x left < 0 then -1 else szBks t (szBk x left)
theorem szBks_bd : ∀ (l : List Bk) (left : Int), left ≤ 1048576 → 0 ≤ szBks l left → ∀ x ∈ l, x.code.length ≤ 1048576 ∧ x.next.length ≤ 1048576
  | [], _, _, _, x, hx => by simp at hx
  | y :: t, left, h, h0, x, hx => by
    have hb := szBk_bd (x := y) h
    rw [szBks] at h0
    split at h0
    · omega
    · rcases List.mem_cons.1 hx with rfl | hx
      · have := hb.2.2 (by omega); omega
      · exact szBks_bd t _ hb.1 h0 x hx
theorem szBlock_calls {F : Nat → Prop} (x : Bk) (vc vn : Value) (left : Int) (w : World) (hc : Rp.Rd flat w F vc x.code) (hn : Rp.Rd Rp.int w F vn x.next) (h0 : -1 ≤ left) (h1 : left ≤ 1048576) :
    Calls Try.prog 36 #[bkV vc x vn, .int .i64 left] w fun e w' => e = .returned (.int .i64 (szBk x left)) ∧ Below w.heap.size w w' := by
  have b1 := szS_bd (n := x.code.length) h1
  obtain ⟨s1, hs1⟩ : ∃ s1, s1 = szS x.code.length left := ⟨_, rfl⟩
  have HS : Hid (szBk x left = if s1 < 0 then -1 else szS x.next.length s1) := Lib.hid (by rw [hs1]; rfl)
  have H1 := fun w' (h : Rp.Rd flat w' F vc x.code) => szFlatS_calls vc x.code left w' h h0 h1
  rw [← hs1] at H1 b1
  have H1 := Lib.hid H1
  clear hs1
  obtain ⟨c0, c1, _⟩ := b1
  have b2 := szS_bd (n := x.next.length) c0
  obtain ⟨s2, hs2⟩ : ∃ s2, s2 = szS x.next.length s1 := ⟨_, rfl⟩
  have H2 := fun w' (h : Rp.Rd Rp.int w' F vn x.next) => szIntS_calls vn x.next s1 w' h c1 c0
  rw [← hs2] at H2 b2 HS
  have H2 := Lib.hid H2
  clear hs2
  obtain ⟨d0, d1, _⟩ := b2
  unfold bkV
  go_enter Try.func36, Try.ntmps36
  go_wp2_with (first | (go_at_call 57; refine (H1.out _ (hc.below (below_new _))).mono ?_; rintro e w' ⟨rfl, rfl⟩) | (go_at_call 58; refine (H2.out _ (hn.below (below_new _))).mono ?_; rintro e w' ⟨rfl, rfl⟩))
  all_goals
    go_ret
    refine ⟨ret_int ?_, below_new _⟩
    rw [HS.out]
    split <;> omega
set_option maxHeartbeats 1000000 in
theorem szBlockS_calls {F : Nat → Prop} (v : Value) (l : List Bk) (left : Int) (w : World) (h : Rp.Rd block w F v l) (h0 : -1 ≤ left) (h1 : left ≤ 1048576) :
    Calls Try.prog 17 #[v, .int .i64 left] w fun e w' => e = .returned (.int .i64 (if szS l.length left < 0 then -1 else szBks l (szS l.length left))) ∧ Below w.heap.size w w' := by
  obtain ⟨A, c, rfl, hlc, hcm, hrow⟩ := rd_block h
  have b1 := szS_bd (n := l.length) h1
  obtain ⟨s1, hs1⟩ : ∃ s1, s1 = szS l.length left := ⟨_, rfl⟩
  rw [← hs1] at b1 ⊢
  have hs2 : left - l.length < 0 ∧ s1 = -1 ∨ 0 ≤ left - l.length ∧ s1 = left - l.length := by rw [hs1]; unfold szS; split <;> omega
  clear hs1
  rcases hs2 with ⟨hneg, rfl⟩ | ⟨hpos, hs⟩
  · go_enter Try.func17, Try.ntmps17
    go_wp2
    go_ret
    exact ⟨by simp, Below.refl _ _⟩
  · have HS := Lib.hid hs
    clear hs
    obtain ⟨q0, q1, _⟩ := b1
    have hs0 : 0 ≤ s1 := by have := HS.out; omega
    go_enter Try.func17, Try.ntmps17
    go_wp2_with fail
    rw [← HS.out]
    go_loopw [1, 5] (fun t i wr => ∃ (k : Nat) (s : Int), k ≤ l.length ∧ i = .int .i64 k ∧ t = .int .i64 s ∧ 0 ≤ s ∧ s ≤ 1048576 ∧ Hid (szBks (l.drop k) s = szBks l s1) ∧ Below w.heap.size w wr) (fun _ i _ => l.length - (intOf i).toNat)
    case atStart => exact ⟨0, s1, Nat.zero_le _, rfl, rfl, hs0, q0, Lib.hid rfl, Below.refl _ _⟩
    case round =>
      obtain ⟨k, s, hk, rfl, rfl, p0, p1, HH, HB⟩ := hrel
      by_cases hlt : k < l.length
      · rcases hrow with rfl | ⟨b, o, rfl, hb, hcell⟩
        · simp at hlt
        obtain ⟨vc, vn, c1, hc, hn⟩ := hcell k hlt
        replace c1 := c1.below HB
        replace hc := hc.below HB
        replace hn := hn.below HB
        clear hcell
        obtain ⟨r0, r1, r2, r3⟩ := c1
        have ⟨A0, k0, hvc, _⟩ := hc
        have ⟨A3, k3, hvn, _⟩ := hn
        subst hvc hvn
        have hbd := szBk_bd (x := l[k]) p1
        obtain ⟨y, hy⟩ : ∃ y, y = szBk l[k] s := ⟨_, rfl⟩
        have HC := szBlock_calls l[k] _ _ s wr hc hn (by omega) p1
        have HH2 : Hid (szBks (l.drop k) s = if y < 0 then -1 else szBks (l.drop (k + 1)) y) := Lib.hid (by rw [List.drop_eq_getElem_cons hlt, szBks, hy])
        rw [← hy] at HC hbd
        have HC := Lib.hid HC
        clear hy
        go_wp2_with (go_at_call 36; refine HC.out.mono ?_; rintro e w1 ⟨rfl, hb1⟩)
        · go_ret
          refine ⟨ret_int ?_, below_then HB hb1⟩
          try rw [if_neg (show ¬ s1 < 0 by omega)]
          rw [← HH.out, HH2.out, if_pos (by omega)]
        · go_roundw
          case rel => exact ⟨k + 1, y, by omega, by go_num, rfl, by omega, hbd.1, Lib.hid (by rw [← HH.out, HH2.out, if_neg (by omega)]), below_then HB hb1⟩
          case measure => simp [intOf]; omega
      · obtain rfl : k = l.length := by omega
        go_wp2
        go_ret
        refine ⟨ret_int ?_, HB⟩
        try rw [if_neg (show ¬ s1 < 0 by omega)]
        rw [← HH.out, List.drop_length, szBks]
end Go.Proofs.Yteiekdolbnkihaa.L
