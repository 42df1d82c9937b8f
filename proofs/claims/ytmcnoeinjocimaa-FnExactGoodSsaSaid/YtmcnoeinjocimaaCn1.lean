/- slices.Index and Contains over numbers and Bools. -/
import Derived.Test.YtmcnoeinjocimaaW1
import Derived.Test.YtmcnoeinjocimaaProg
set_option linter.unusedVariables false
set_option linter.unusedSimpArgs false
namespace Go.Proofs.Ytmcnoeinjocimaa.L
open Go.RowKit
set_option maxHeartbeats 1000000 in
theorem indexInt_calls {F : Nat → Prop} (v : Value) (l : List Int) (n : Int) (w : World) (h : Rp.Rd Rp.int w F v l) :
    Calls Try.prog 134 #[v, .int .i64 n] w fun e w' => ∃ r : Int, e = .returned (.int .i64 r) ∧ decide (0 ≤ r) = l.contains n ∧ w' = w := by
  obtain ⟨A, c, rfl, hlc, hcm, hrow⟩ := rd_int h
  go_enter Try.func134, Try.ntmps134
  go_wp2
  go_loopw [8] (fun i wr => ∃ k : Nat, k ≤ l.length ∧ i = .int .i64 k ∧ Hid (∀ (j : Nat) (hj : j < l.length), j < k → l[j] ≠ n) ∧ wr = w) (fun i _ => l.length - (intOf i).toNat)
  case atStart => exact ⟨0, Nat.zero_le _, rfl, Lib.hid (fun j _ hj => by omega), rfl⟩
  case round =>
    obtain ⟨k, hk, rfl, HN, rfl⟩ := hrel
    by_cases hlt : k < l.length
    · rcases hrow with rfl | ⟨b, o, rfl, hb, hcell⟩
      · simp at hlt
      have c1 := hcell k hlt
      clear hcell
      have k0 : (0 : Int) ≤ (k : Int) := Int.natCast_nonneg _
      have k1 : (k : Int) < (l.length : Int) := by omega
      by_cases he : l[k] = n
      · have ht : (n == l[k]) = true := by simpa using he.symm
        have HE := Lib.hid he
        clear he
        go_wp2
        go_ret
        refine ⟨_, rfl, ?_, rfl⟩
        rw [decide_eq_true (Int.natCast_nonneg k)]
        symm; rw [List.contains_iff_mem]; exact HE.out ▸ List.getElem_mem hlt
      · have ht : (n == l[k]) = false := by simpa using (fun e => he (Eq.symm e))
        have HE := Lib.hid he
        clear he
        go_wp2
        go_roundw
        case rel => exact ⟨k + 1, by omega, by go_num, Lib.hid (fun j hj hjk => (Nat.lt_or_eq_of_le (Nat.le_of_lt_succ hjk)).elim (fun h => HN.out j hj h) (fun h => by subst h; exact HE.out)), by first | rfl | trivial⟩
        case measure => simp [intOf]; omega
    · obtain rfl : k = l.length := by omega
      go_wp2
      go_ret
      refine ⟨_, rfl, ?_, rfl⟩
      rw [show decide ((0 : Int) ≤ -1) = false by decide]
      symm
      rw [Bool.eq_false_iff]
      intro hc
      rw [List.contains_iff_mem] at hc
      obtain ⟨j, hj, hjn⟩ := List.getElem_of_mem hc
      exact HN.out j hj hj hjn
theorem containsInt_calls {F : Nat → Prop} (v : Value) (l : List Int) (n : Int) (w : World) (h : Rp.Rd Rp.int w F v l) :
    Calls Try.prog 117 #[v, .int .i64 n] w fun e w' => e = .returned (.bool (l.contains n)) ∧ w' = w := by
  have HC := Lib.hid (indexInt_calls v l n w h)
  obtain ⟨A, c, rfl, _⟩ := rd_int h
  generalize l.contains n = z at *
  go_enter Try.func117, Try.ntmps117
  go_wp2_with (go_at_call 134; refine HC.out.mono ?_; rintro e w1 ⟨r, rfl, hr, rfl⟩; have hr := Lib.hid hr)
  go_ret
  exact ⟨ret_bool (by first | exact hr.out | rfl), rfl⟩
end Go.Proofs.Ytmcnoeinjocimaa.L
