/- The laws' heldSectionS finds the marks; both at a nil slice. -/
import Derived.Test.YteiekdolbnkihaaDoorMt1
import Derived.Deep.RegionHeld3
set_option linter.unusedVariables false
set_option linter.unusedSimpArgs false
namespace Go.Proofs.YteiekdolbnkihaaDoor.L
open Go.RowKit
theorem markNil_calls (c : Nat) (w : World) : Calls Tryd.prog 27 #[.slice none 0 c, .int .i64 1] w fun e w' => e = .returned (.int .i64 1) ∧ w = w' := by
  go_enter Tryd.func27, Tryd.ntmps27
  go_wp2
  go_loop [1, 5] (fun k i => k = .int .i64 1 ∧ i = .int .i64 0) (fun _ _ => 0)
  case atStart => exact ⟨rfl, rfl⟩
  case round =>
    obtain ⟨rfl, rfl⟩ := hrel
    go_wp2
    go_ret
    exact ⟨rfl, rfl⟩
theorem heldNil_calls (c : Nat) (w : World) : Calls Tryd.prog 28 #[.slice none 0 c, .int .i64 1] w fun e w' => e = .returned (.int .i64 1) ∧ w = w' := by
  go_enter Tryd.func28, Tryd.ntmps28
  go_wp2
  go_loop [1, 5] (fun k i => k = .int .i64 1 ∧ i = .int .i64 0) (fun _ _ => 0)
  case atStart => exact ⟨rfl, rfl⟩
  case round =>
    obtain ⟨rfl, rfl⟩ := hrel
    go_wp2
    go_ret
    exact ⟨rfl, rfl⟩
set_option maxRecDepth 100000 in
set_option maxHeartbeats 4000000 in
theorem heldSectionS_calls {F : Nat → Prop} (v : Value) (n : Nat) (w : World) (h : Rp.Rd sect w F v (marks 1 n)) (hl : n ≤ 1048576) :
    Calls Tryd.prog 28 #[v, .int .i64 1] w fun e w' => e = .returned (.int .i64 (1 + 2 * n : Nat)) ∧ Below w.heap.size w w' := by
  obtain ⟨A, c, rfl, hlc, hcm, hrow⟩ := rd_sect h
  have hln := marks_len n 1
  rw [hln] at hlc ⊢
  go_enter Tryd.func28, Tryd.ntmps28
  go_wp2
  go_loopw [1, 5] (fun k i wr => ∃ q : Nat, q ≤ n ∧ k = .int .i64 (1 + 2 * q : Nat) ∧ i = .int .i64 q ∧ Below w.heap.size w wr) (fun _ i _ => n - (intOf i).toNat)
  case atStart => exact ⟨0, Nat.zero_le _, rfl, rfl, Below.refl _ _⟩
  case round =>
    obtain ⟨q, hq, rfl, rfl, HB⟩ := hrel
    by_cases hlt : q < n
    · rcases hrow with h0 | ⟨b, o, rfl, hb, hcell⟩
      · rw [h0] at hln; simp at hln; omega
      have c1 := (hcell q (by omega)).below HB
      rw [marks_get] at c1
      clear hcell
      obtain ⟨q0, q1⟩ := c1
      have q0' : wr.cell? ⟨b, o + q * 2, none⟩ = some (.int .i64 (1 + 2 * (q : Int))) := by rw [q0]; congr 2; try omega
      clear q0
      have i0 : (0 : Int) ≤ (q : Int) := Int.natCast_nonneg _
      have i1 : (q : Int) < (n : Int) := by omega
      have HC := Lib.hid (fun W => markText_calls (1 + 2 * q + 1) W (by omega))
      generalize mt (1 + 2 * q + 1) = t at *
      go_wp2_with fail
      go_region_held3 (fun w' => w'.cell? ⟨b, o + q * 2 + 1, none⟩ = some (.string t))
        (first | go_keep | exact cell_below hb1 (by assumption))
        ((go_at_call 56; refine (HC.out _).mono ?_; rintro e w1 ⟨rfl, hb1⟩))
      all_goals
        have HB1 : Below w.heap.size w w1 := by first | exact below_then HB hb1 | exact below_then (below_drew HB) hb1 | exact below_then (below_drewN HB _) hb1
        clear hb1
        go_wp2
        go_roundw
        case rel => exact ⟨q + 1, by omega, by go_num, by go_num, HB1⟩
        case measure => simp [intOf]; omega
    · obtain rfl : q = n := by omega
      go_wp2
      go_ret
      exact ⟨rfl, HB⟩
end Go.Proofs.YteiekdolbnkihaaDoor.L
