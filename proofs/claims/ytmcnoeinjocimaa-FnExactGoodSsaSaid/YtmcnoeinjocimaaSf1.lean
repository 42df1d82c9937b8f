/- The reference's look at a flat step. -/
import Derived.Test.YtmcnoeinjocimaaProg
import Derived.Test.YtmcnoeinjocimaaTy1
set_option linter.unusedVariables false
set_option linter.unusedSimpArgs false
namespace Go.Proofs.Ytmcnoeinjocimaa.L
open Go.RowKit
theorem l1In_calls (a b c : Int) (w : World) : Calls Try.prog 42 #[.int .i64 a, .int .i64 b, .int .i64 c] w fun e w' => e = .returned (.bool (inB a b c)) ∧ w = w' := by
  go_enter Try.func42, Try.ntmps42
  go_wp2
  all_goals
    go_ret
    simp [inB, *]
    try omega
theorem l6Name_calls (a : Int) (w : World) : Calls Try.prog 110 #[.int .i64 a] w fun e w' => e = .returned (.bool (inB a 0 11)) ∧ w = w' := by
  go_enter Try.func110, Try.ntmps110
  go_wp2_with (go_at_call 42; refine (l1In_calls _ _ _ _).mono ?_; rintro e w' ⟨rfl, rfl⟩)
  go_ret
  exact ⟨rfl, rfl⟩
def sFlatB (x : Fl) : Bool :=
  !(x.op != 3 && x.dO != 0 || x.op != 1 && x.n != 0) &&
  (if x.op == 1 then inB x.dst 0 11 && x.a == 0 && x.b == 0 && inB x.n 0 65535
   else if x.op == 2 || x.op == 4 then inB x.dst 0 11 && inB x.a 0 11 && x.b == 0
   else if x.op == 3 then inB x.dst 0 11 && inB x.a 0 11 && inB x.b 0 11 && inB x.dO 4 9
   else if x.op == 5 then x.dst == 0 && inB x.a 0 11 && inB x.b 0 11
   else x.op == 6 && x.dst == 0 && inB x.a 0 11 && x.b == 0)
set_option maxHeartbeats 1000000 in
theorem l6Flat_calls (x : Fl) (w : World) : Calls Try.prog 71 #[flV x] w fun e w' => e = .returned (.bool (sFlatB x)) ∧ Below w.heap.size w w' := by
  unfold flV
  go_enter Try.func71, Try.ntmps71
  go_wp2_with (first | (go_at_call 110; refine (l6Name_calls _ _).mono ?_; rintro e w' ⟨rfl, rfl⟩) | (go_at_call 42; refine (l1In_calls _ _ _ _).mono ?_; rintro e w' ⟨rfl, rfl⟩))
  all_goals
    go_ret
    refine ⟨ret_bool ?_, (Below.refl _ _).alloc (Nat.le_refl _) _⟩
    simp_all [sFlatB]
end Go.Proofs.Ytmcnoeinjocimaa.L
