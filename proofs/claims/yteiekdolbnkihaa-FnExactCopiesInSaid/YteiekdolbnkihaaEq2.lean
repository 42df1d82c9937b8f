/- The laws' own comparison of lists of flat steps. -/
import Derived.Test.YteiekdolbnkihaaEq1
set_option linter.unusedVariables false
namespace Go.Proofs.Yteiekdolbnkihaa.L
open Go.RowKit
set_option maxHeartbeats 2000000 in
theorem eqFlatS_calls {F G : Nat → Prop} (va vb : Value) (a b : List Fl) (w : World) (ha : Rp.Rd flat w F va a) (hb : Rp.Rd flat w G vb b) :
    Calls Try.prog 12 #[va, vb] w fun e w' => e = .returned (.bool (decide (a = b))) ∧ Below w.heap.size w w' := by
  obtain ⟨A, c, rfl, hlc, hcm, hra⟩ := rd_flat ha
  obtain ⟨B, d, rfl, hld, hdm, hrb⟩ := rd_flat hb
  by_cases hl : a.length = b.length
  · have HL := Lib.hid hl
    have hle1 : a.length ≤ b.length := by omega
    have hle2 : b.length ≤ a.length := by omega
    have ht1 : ((a.length : Int) != (b.length : Int)) = false := by rw [bne_eq_false_iff_eq]; omega
    clear hl
    go_enter Try.func12, Try.ntmps12
    go_wp2
    go_loopw [5] (fun i wr => ∃ k : Nat, k ≤ a.length ∧ i = .int .i64 k ∧ Hid (a.take k = b.take k) ∧ Below w.heap.size w wr) (fun i _ => a.length - (intOf i).toNat)
    case atStart => exact ⟨0, Nat.zero_le _, rfl, Lib.hid rfl, Below.refl _ _⟩
    case round =>
      obtain ⟨k, hk, rfl, HT, HB⟩ := hrel
      by_cases hlt : k < a.length
      · have hlt2 : k < b.length := by omega
        rcases hra with rfl | ⟨g, o, rfl, hg, hca⟩
        · simp at hlt
        rcases hrb with rfl | ⟨g2, o2, rfl, hg2, hcb⟩
        · simp at hlt2
        have c1 := (hca k hlt).below HB
        have c2 := (hcb k hlt2).below HB
        clear hca hcb
        obtain ⟨p0, p1, p2, p3, p4, p5⟩ := c1
        obtain ⟨q0, q1, q2, q3, q4, q5⟩ := c2
        have i0 : (0 : Int) ≤ (k : Int) := Int.natCast_nonneg _
        have i1 : (k : Int) < (a.length : Int) := by omega
        have i2 : (k : Int) < (b.length : Int) := by omega
        have HC := Lib.hid (fun W => eqFlat_calls a[k] b[k] W)
        unfold flV at HC
        have HE : Hid (eqFl a[k] b[k] = decide (a[k] = b[k])) := Lib.hid rfl
        generalize eqFl a[k] b[k] = r at *
        go_wp2_with fail
        go_region_held3 (fun w' => w'.cell? ⟨g, o + k * 6, none⟩ = some (.int .i64 a[k].op) ∧ w'.cell? ⟨g, o + k * 6 + 1, none⟩ = some (.int .i64 a[k].dO) ∧ w'.cell? ⟨g, o + k * 6 + 2, none⟩ = some (.int .i64 a[k].dst) ∧ w'.cell? ⟨g, o + k * 6 + 3, none⟩ = some (.int .i64 a[k].a) ∧ w'.cell? ⟨g, o + k * 6 + 4, none⟩ = some (.int .i64 a[k].b) ∧ w'.cell? ⟨g, o + k * 6 + 5, none⟩ = some (.int .i64 a[k].n) ∧
          w'.cell? ⟨g2, o2 + k * 6, none⟩ = some (.int .i64 b[k].op) ∧ w'.cell? ⟨g2, o2 + k * 6 + 1, none⟩ = some (.int .i64 b[k].dO) ∧ w'.cell? ⟨g2, o2 + k * 6 + 2, none⟩ = some (.int .i64 b[k].dst) ∧ w'.cell? ⟨g2, o2 + k * 6 + 3, none⟩ = some (.int .i64 b[k].a) ∧ w'.cell? ⟨g2, o2 + k * 6 + 4, none⟩ = some (.int .i64 b[k].b) ∧ w'.cell? ⟨g2, o2 + k * 6 + 5, none⟩ = some (.int .i64 b[k].n))
          (first | go_keep | (go_split_ands; refine ⟨?_, ?_, ?_, ?_, ?_, ?_, ?_, ?_, ?_, ?_, ?_, ?_⟩ <;> exact cell_below hb1 (by assumption)))
          ((go_at_call 35; refine (HC.out _).mono ?_; rintro e w1 ⟨rfl, hb1⟩))
        have HB1 : Below w.heap.size w w1 := by first | exact below_then HB hb1 | exact below_then (below_drew HB) hb1 | exact below_then (below_drewN HB _) hb1
        clear hb1
        cases r
        · go_wp2
          go_ret
          exact ⟨ret_bool (by rw [eq_comm, decide_eq_false_iff_not]; exact ne_of_get hlt hlt2 (of_decide_eq_false HE.out.symm)), HB1⟩
        · go_wp2
          go_roundw
          case rel => exact ⟨k + 1, by omega, by go_num, Lib.hid (take_succ_eq hlt hlt2 HT.out (of_decide_eq_true HE.out.symm)), HB1⟩
          case measure => simp [intOf]; omega
      · obtain rfl : k = a.length := by omega
        go_wp2
        go_ret
        refine ⟨ret_bool ?_, HB⟩
        have := HT.out
        rw [List.take_length, HL.out, List.take_length] at this
        rw [eq_comm, decide_eq_true_eq]; exact this
  · have ht1 : ((a.length : Int) != (b.length : Int)) = true := by rw [bne_iff_ne]; omega
    have hn : a ≠ b := fun h => hl (by rw [h])
    have HN := Lib.hid hn
    clear hl hn hra hrb
    go_enter Try.func12, Try.ntmps12
    go_wp2
    go_ret
    exact ⟨ret_bool (by rw [eq_comm, decide_eq_false_iff_not]; exact HN.out), Below.refl _ _⟩
end Go.Proofs.Yteiekdolbnkihaa.L
