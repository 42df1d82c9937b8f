/- slices.Index and Contains over Bools. -/
import Derived.Test.YtmcnoeinjocimaaCn1
set_option linter.unusedVariables false
set_option linter.unusedSimpArgs false
namespace Go.Proofs.Ytmcnoeinjocimaa.L
open Go.RowKit
theorem rd_bool {w : World} {F : Nat → Prop} {v : Value} {l : List Bool} (h : Rp.Rd Rp.bool w F v l) : ∃ A c, v = .slice A l.length c ∧ l.length ≤ c ∧ c ≤ 9223372036854775807 ∧
    (l = [] ∨ ∃ b o, A = some ⟨b, o, none⟩ ∧ b < w.heap.size ∧ ∀ (k : Nat) (hk : k < l.length), w.cell? ⟨b, o + k, none⟩ = some (.bool l[k])) := by
  obtain ⟨A, c, rfl, hl, hm, h⟩ := h
  refine ⟨A, c, rfl, hl, hm, ?_⟩
  rcases h with h | ⟨b, o, rfl, _, hb, h⟩
  · exact .inl h
  · refine .inr ⟨b, o, rfl, hb, fun k hk => ?_⟩
    obtain ⟨cs, hK, hc⟩ := h k l[k] (List.getElem?_eq_getElem hk)
    obtain rfl : cs = [.bool l[k]] := hK
    have := hc 0 _ rfl
    rw [show k * Rp.bool.sz + 0 = k from by show k * 1 + 0 = k; omega] at this
    exact this
set_option maxHeartbeats 1000000 in
theorem indexBool_calls {F : Nat → Prop} (v : Value) (l : List Bool) (n : Bool) (w : World) (h : Rp.Rd Rp.bool w F v l) :
    Calls Try.prog 120 #[v, .bool n] w fun e w' => ∃ r : Int, e = .returned (.int .i64 r) ∧ decide (0 ≤ r) = l.contains n ∧ w' = w := by
  obtain ⟨A, c, rfl, hlc, hcm, hrow⟩ := rd_bool h
  go_enter Try.func120, Try.ntmps120
  go_wp2
  go_loopw [8] (fun i wr => ∃ k : Nat, k ≤ l.length ∧ i = .int .i64 k ∧ Hid (∀ (j : Nat) (hj : j < l.length), j < k → l[j] ≠ n) ∧ wr = w) (fun i _ => l.length - (intOf i).toNat)
  case atStart => exact ⟨0, Nat.zero_le _, rfl, Lib.hid (fun j _ hj => by omega), rfl⟩
  case round =>
    obtain ⟨k, hk, rfl, HN, rfl⟩ := hrel
    by_cases hlt : k < l.length
    · rcases hrow with rfl | ⟨b, o, rfl, hb, hcell⟩
      · simp at hlt
      have c1 := hcell k hlt
      clear hcell
      have k0 : (0 : Int) ≤ (k : Int) := Int.natCast_nonneg _
      have k1 : (k : Int) < (l.length : Int) := by omega
      by_cases he : l[k] = n
      · have ht : (n == l[k]) = true := by simpa using he.symm
        have HE := Lib.hid he
        clear he
        go_wp2
        go_ret
        refine ⟨_, rfl, ?_, rfl⟩
        rw [decide_eq_true (Int.natCast_nonneg k)]
        symm; rw [List.contains_iff_mem]; exact HE.out ▸ List.getElem_mem hlt
      · have ht : (n == l[k]) = false := by simpa using (fun e => he (Eq.symm e))
        have HE := Lib.hid he
        clear he
        go_wp2
        go_roundw
        case rel => exact ⟨k + 1, by omega, by go_num, Lib.hid (fun j hj hjk => (Nat.lt_or_eq_of_le (Nat.le_of_lt_succ hjk)).elim (fun h => HN.out j hj h) (fun h => by subst h; exact HE.out)), by first | rfl | trivial⟩
        case measure => simp [intOf]; omega
    · obtain rfl : k = l.length := by omega
      go_wp2
      go_ret
      refine ⟨_, rfl, ?_, rfl⟩
      rw [show decide ((0 : Int) ≤ -1) = false by decide]
      symm
      rw [Bool.eq_false_iff]
      intro hc
      rw [List.contains_iff_mem] at hc
      obtain ⟨j, hj, hjn⟩ := List.getElem_of_mem hc
      exact HN.out j hj hj hjn
theorem containsBool_calls {F : Nat → Prop} (v : Value) (l : List Bool) (n : Bool) (w : World) (h : Rp.Rd Rp.bool w F v l) :
    Calls Try.prog 82 #[v, .bool n] w fun e w' => e = .returned (.bool (l.contains n)) ∧ w' = w := by
  have HC := Lib.hid (indexBool_calls v l n w h)
  obtain ⟨A, c, rfl, _⟩ := rd_bool h
  generalize l.contains n = z at *
  go_enter Try.func82, Try.ntmps82
  go_wp2_with (go_at_call 120; refine HC.out.mono ?_; rintro e w1 ⟨r, rfl, hr, rfl⟩; have hr := Lib.hid hr)
  go_ret
  exact ⟨ret_bool (by first | exact hr.out | rfl), rfl⟩
end Go.Proofs.Ytmcnoeinjocimaa.L
