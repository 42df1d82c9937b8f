/- The laws' own count of what lists hold. -/
import Derived.Test.YteiekdolbnkihaaProg
import Derived.Test.YteiekdolbnkihaaTy1
set_option linter.unusedVariables false
namespace Go.Proofs.Yteiekdolbnkihaa.L
open Go.RowKit
def szS (n : Nat) (left : Int) : Int := if left - n < 0 then -1 else left - n
theorem szS_bd {n : Nat} {left : Int} (h : left ≤ 1048576) : szS n left ≤ 1048576 ∧ -1 ≤ szS n left ∧ (0 ≤ szS n left → (n : Int) ≤ left ∧ 0 ≤ left) := by
  unfold szS; split <;> omega
theorem szIntS_calls {F : Nat → Prop} (v : Value) (l : List Int) (left : Int) (w : World) (h : Rp.Rd Rp.int w F v l) (h0 : -1 ≤ left) (h1 : left ≤ 1048576) :
    Calls Try.prog 58 #[v, .int .i64 left] w fun e w' => e = .returned (.int .i64 (szS l.length left)) ∧ w = w' := by
  obtain ⟨A, c, rfl, hlc, hcm, hrow⟩ := rd_int h
  clear hrow
  go_enter Try.func58, Try.ntmps58
  go_wp2
  all_goals
    go_ret
    exact ⟨ret_int (by unfold szS; split <;> omega), rfl⟩
theorem szFlatS_calls {F : Nat → Prop} (v : Value) (l : List Fl) (left : Int) (w : World) (h : Rp.Rd flat w F v l) (h0 : -1 ≤ left) (h1 : left ≤ 1048576) :
    Calls Try.prog 57 #[v, .int .i64 left] w fun e w' => e = .returned (.int .i64 (szS l.length left)) ∧ w = w' := by
  obtain ⟨A, c, rfl, hlc, hcm, hrow⟩ := rd_flat h
  clear hrow
  go_enter Try.func57, Try.ntmps57
  go_wp2
  all_goals
    go_ret
    exact ⟨ret_int (by unfold szS; split <;> omega), rfl⟩
end Go.Proofs.Yteiekdolbnkihaa.L
