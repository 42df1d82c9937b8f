/- The laws' own comparison of lists of numbers and of flat steps. -/
import Derived.Test.YteiekdolbnkihaaProg
import Derived.Test.YteiekdolbnkihaaTy1
import Derived.Deep.RegionHeld3
set_option linter.unusedVariables false
namespace Go.Proofs.Yteiekdolbnkihaa.L
open Go.RowKit
theorem take_succ_eq {α : Type} {a b : List α} {k : Nat} (ha : k < a.length) (hb : k < b.length) (h : a.take k = b.take k) (he : a[k] = b[k]) : a.take (k + 1) = b.take (k + 1) := by
  rw [List.take_succ_eq_append_getElem ha, List.take_succ_eq_append_getElem hb, h, he]
theorem ne_of_get {α : Type} {a b : List α} {k : Nat} (ha : k < a.length) (hb : k < b.length) (he : a[k] ≠ b[k]) : a ≠ b := by
  rintro rfl
  exact he rfl
set_option maxHeartbeats 1000000 in
theorem eqIntS_calls {F G : Nat → Prop} (va vb : Value) (a b : List Int) (w : World) (ha : Rp.Rd Rp.int w F va a) (hb : Rp.Rd Rp.int w G vb b) :
    Calls Try.prog 13 #[va, vb] w fun e w' => e = .returned (.bool (decide (a = b))) ∧ Below w.heap.size w w' := by
  obtain ⟨A, c, rfl, hlc, hcm, hra⟩ := rd_int ha
  obtain ⟨B, d, rfl, hld, hdm, hrb⟩ := rd_int hb
  by_cases hl : a.length = b.length
  · have HL := Lib.hid hl
    have hle1 : a.length ≤ b.length := by omega
    have hle2 : b.length ≤ a.length := by omega
    have ht1 : ((a.length : Int) != (b.length : Int)) = false := by rw [bne_eq_false_iff_eq]; omega
    clear hl
    go_enter Try.func13, Try.ntmps13
    go_wp2
    go_loopw [5] (fun i wr => ∃ k : Nat, k ≤ a.length ∧ i = .int .i64 k ∧ Hid (a.take k = b.take k) ∧ Below w.heap.size w wr) (fun i _ => a.length - (intOf i).toNat)
    case atStart => exact ⟨0, Nat.zero_le _, rfl, Lib.hid rfl, Below.refl _ _⟩
    case round =>
      obtain ⟨k, hk, rfl, HT, HB⟩ := hrel
      by_cases hlt : k < a.length
      · have hlt2 : k < b.length := by omega
        rcases hra with rfl | ⟨g, o, rfl, hg, hca⟩
        · simp at hlt
        rcases hrb with rfl | ⟨g2, o2, rfl, hg2, hcb⟩
        · simp at hlt2
        have c1 := cell_below HB (hca k hlt)
        have c2 := cell_below HB (hcb k hlt2)
        clear hca hcb
        have i0 : (0 : Int) ≤ (k : Int) := Int.natCast_nonneg _
        have i1 : (k : Int) < (a.length : Int) := by omega
        have i2 : (k : Int) < (b.length : Int) := by omega
        by_cases he : a[k] = b[k]
        · have hne : (a[k] != b[k]) = false := by rw [bne_eq_false_iff_eq]; exact he
          have HE := Lib.hid he
          clear he
          go_wp2
          go_quiet (fail)
          go_wp2
          go_roundw
          case rel => exact ⟨k + 1, by omega, by go_num, Lib.hid (take_succ_eq hlt hlt2 HT.out HE.out), by first | exact HB | exact below_drewN HB _ | exact below_drew HB⟩
          case measure => simp [intOf]; omega
        · have hne : (a[k] != b[k]) = true := by rw [bne_iff_ne]; exact he
          have HE := Lib.hid he
          clear he
          go_wp2
          go_quiet (fail)
          go_wp2
          go_ret
          exact ⟨ret_bool (by rw [eq_comm, decide_eq_false_iff_not]; exact ne_of_get hlt hlt2 HE.out), by first | exact HB | exact below_drewN HB _ | exact below_drew HB⟩
      · obtain rfl : k = a.length := by omega
        go_wp2
        go_ret
        refine ⟨ret_bool ?_, HB⟩
        have := HT.out
        rw [List.take_length, HL.out, List.take_length] at this
        rw [eq_comm, decide_eq_true_eq]; exact this
  · have ht1 : ((a.length : Int) != (b.length : Int)) = true := by rw [bne_iff_ne]; omega
    have hn : a ≠ b := fun h => hl (by rw [h])
    have HN := Lib.hid hn
    clear hl hn hra hrb
    go_enter Try.func13, Try.ntmps13
    go_wp2
    go_ret
    exact ⟨ret_bool (by rw [eq_comm, decide_eq_false_iff_not]; exact HN.out), Below.refl _ _⟩
def eqFl (x y : Fl) : Bool := decide (x = y)
set_option maxHeartbeats 4000000 in
theorem eqFlat_calls (x y : Fl) (w : World) : Calls Try.prog 35 #[flV x, flV y] w fun e w' => e = .returned (.bool (eqFl x y)) ∧ Below w.heap.size w w' := by
  have HP : eqFl x y = (x.op == y.op && x.dO == y.dO && x.dst == y.dst && x.a == y.a && x.b == y.b && x.n == y.n) := by
    unfold eqFl
    rw [Bool.eq_iff_iff]
    obtain ⟨a1, a2, a3, a4, a5, a6⟩ := x
    obtain ⟨b1, b2, b3, b4, b5, b6⟩ := y
    simp [and_assoc]
  have HP := Lib.hid HP
  unfold flV
  go_enter Try.func35, Try.ntmps35
  go_wp2_with fail
  all_goals
    go_ret
    refine ⟨ret_bool ?_, ((Below.refl _ _).alloc (Nat.le_refl _) _).alloc (by simp) _⟩
    rw [HP.out]
    clear HP
    simp_all
end Go.Proofs.Yteiekdolbnkihaa.L
