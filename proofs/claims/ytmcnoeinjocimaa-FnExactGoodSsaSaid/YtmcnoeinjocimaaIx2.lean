/- slices.IndexFunc and slices.ContainsFunc over numbers. -/
import Derived.Test.YtmcnoeinjocimaaIx1
set_option linter.unusedVariables false
namespace Go.Proofs.Ytmcnoeinjocimaa.L
open Go.RowKit
set_option maxHeartbeats 1000000 in
theorem ixInt_calls {F : Nat → Prop} (v : Value) (l : List Int) (fn : Nat) (caps : Array Value) (p : Int → Bool) (w : World) (h : Rp.Rd Rp.int w F v l) (hen : Enters Try.prog fn)
    (hf : ∀ x ∈ l, ∀ W, Below w.heap.size w W → Calls Try.prog fn (#[Value.int .i64 x] ++ caps) W fun e w' => e = .returned (.bool (p x)) ∧ Below W.heap.size W w') :
    Calls Try.prog 140 #[v, .func (.func fn) #[] caps] w fun e w' => e = .returned (.int .i64 (ixOf p l)) ∧ Below w.heap.size w w' := by
  obtain ⟨A, c, rfl, hlc, hcm, hrow⟩ := rd_int h
  unfold Enters at hen
  go_enter Try.func140, Try.ntmps140
  go_wp2_with fail
  go_loopw [8] (fun i wr => ∃ k : Nat, k ≤ l.length ∧ i = .int .i64 k ∧ Hid (∀ (j : Nat) (hj : j < l.length), j < k → p l[j] = false) ∧ Below w.heap.size w wr) (fun i _ => l.length - (intOf i).toNat)
  case atStart => exact ⟨0, Nat.zero_le _, rfl, Lib.hid (fun j _ hj => by omega), Below.refl _ _⟩
  case round =>
    obtain ⟨k, hk, rfl, HN, HB⟩ := hrel
    by_cases hlt : k < l.length
    · rcases hrow with rfl | ⟨b, o, rfl, hb, hcell⟩
      · simp at hlt
      have c1 := cell_below HB (hcell k hlt)
      clear hcell
      have HC := hf l[k] (List.getElem_mem hlt) wr HB
      have HP : Hid (p l[k] = p l[k]) := Lib.hid rfl
      generalize hr : p l[k] = r at HC
      have HR := Lib.hid hr
      clear hr HP hf
      have HC := Lib.hid HC
      go_wp2_with fail
      refine HC.out.mono ?_
      rintro e w1 ⟨rfl, hb1⟩
      have HB1 := below_then HB hb1
      clear HC hb1
      cases r
      · go_wp2
        go_roundw
        case rel => exact ⟨k + 1, by omega, by go_num, Lib.hid (fun j hj hjk => (Nat.lt_or_eq_of_le (Nat.le_of_lt_succ hjk)).elim (fun h => HN.out j hj h) (fun h => by subst h; exact HR.out)), HB1⟩
        case measure => simp [intOf]; omega
      · go_wp2
        go_ret
        exact ⟨ret_int (ixOf_hit hlt HN.out HR.out).symm, HB1⟩
    · obtain rfl : k = l.length := by omega
      go_wp2
      go_ret
      exact ⟨ret_int (ixOf_none (fun j hj => HN.out j hj hj)).symm, HB⟩
theorem hasInt_calls {F : Nat → Prop} (v : Value) (l : List Int) (fn : Nat) (caps : Array Value) (p : Int → Bool) (w : World) (h : Rp.Rd Rp.int w F v l) (hen : Enters Try.prog fn)
    (hf : ∀ x ∈ l, ∀ W, Below w.heap.size w W → Calls Try.prog fn (#[Value.int .i64 x] ++ caps) W fun e w' => e = .returned (.bool (p x)) ∧ Below W.heap.size W w') :
    Calls Try.prog 132 #[v, .func (.func fn) #[] caps] w fun e w' => e = .returned (.bool (l.any p)) ∧ Below w.heap.size w w' := by
  have HC := ixInt_calls v l fn caps p w h hen hf
  have HX := Lib.hid (ixOf_any p l)
  generalize l.any p = r at *
  generalize ixOf p l = n at *
  have HC := Lib.hid HC
  clear hf hen
  go_enter Try.func132, Try.ntmps132
  go_wp2_with (go_at_call 140; refine HC.out.mono ?_; rintro e w1 ⟨rfl, hb⟩)
  go_ret
  exact ⟨ret_bool HX.out, hb⟩
end Go.Proofs.Ytmcnoeinjocimaa.L
