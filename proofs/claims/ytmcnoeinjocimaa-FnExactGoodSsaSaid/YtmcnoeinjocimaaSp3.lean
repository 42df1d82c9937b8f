/- The reference: what a part uses behind its steps. -/
import Derived.Test.YtmcnoeinjocimaaSp2
import Derived.Test.YtmcnoeinjocimaaCv5
import Derived.Deep.DeepMust
set_option linter.unusedVariables false
set_option linter.unusedSimpArgs false
namespace Go.Proofs.Ytmcnoeinjocimaa.L
open Go.RowKit
def endsS (p : Pt) : List Int := (if p.go == 2 || p.go == 5 then [p.test] else []) ++ p.args.flatten
theorem flatten_len {l : List (List Int)} (h : ∀ a ∈ l, a.length ≤ 1048576) : l.flatten.length ≤ l.length * 1048576 := by
  induction l with
  | nil => simp
  | cons x t ih =>
    have h1 := h x (by simp)
    have h2 := ih (fun a ha => h a (by simp [ha]))
    simp only [List.flatten_cons, List.length_append, List.length_cons, Nat.succ_mul]
    omega
theorem flatten_take {l : List (List Int)} {k : Nat} (hk : k < l.length) : (l.take (k + 1)).flatten = (l.take k).flatten ++ l[k] := by
  rw [List.take_succ_eq_append_getElem hk, List.flatten_append]; simp
set_option maxHeartbeats 2000000 in
theorem l9Ends_calls {F : Nat → Prop} (p : Pt) (vparams vcode vnext vargs : Value) (w : World) (hp : Rp.Rd Rp.int w F vparams p.params) (hc : Rp.Rd flat w F vcode p.code) (hn : Rp.Rd Rp.int w F vnext p.next) (h : Rp.Rd (Rp.sl Rp.int) w F vargs p.args) (hx : PtLim p) :
    Calls Try.prog 50 #[ptV p vparams vcode vnext vargs] w fun e w' => ∃ v', e = .returned v' ∧ Ow true 3 Rp.int w' (fun k => w.heap.size ≤ k) v' (endsS p) ∧ Below w.heap.size w w' := by
  obtain ⟨_, _, _, hl, hx⟩ := hx
  have HL := Lib.hid (flatten_len hx)
  obtain ⟨A1, c1, rfl, _, _⟩ := hp
  obtain ⟨A2, c2, rfl, _, _⟩ := hc
  obtain ⟨A3, c3, rfl, _, _⟩ := hn
  obtain ⟨A, c, rfl, hlc, hcm, hrow⟩ := rd_ints h
  obtain ⟨pre, HE, hpre, key⟩ : ∃ pre, Hid (endsS p = pre ++ p.args.flatten) ∧ pre.length ≤ 1 ∧ (Hid (pre = [p.test]) ∧ (p.go == 2) = true ∨ Hid (pre = [p.test]) ∧ (p.go == 2) = false ∧ (p.go == 5) = true ∨ Hid (pre = []) ∧ (p.go == 2) = false ∧ (p.go == 5) = false) := by
    refine ⟨if p.go == 2 || p.go == 5 then [p.test] else [], Lib.hid rfl, by split <;> simp, ?_⟩
    cases (p.go == 2) <;> cases (p.go == 5) <;> simp [Lib.hid]
  unfold ptV
  go_enter Try.func50, Try.ntmps50
  have tok1 : True := trivial
  rcases key with ⟨HQ, h1⟩ | ⟨HQ, h1, h2⟩ | ⟨HQ, h1, h2⟩
  all_goals
    go_wp2_with (at_builtin; have _t := tok1; refine acc_append1 (r := Rp.int) (e := 3) (B := (w.alloc (.cells #[.slice A1 p.params.length c1, .slice A2 p.code.length c2, .int .i64 p.go, .int .i64 p.test, .slice A3 p.next.length c3, .slice A p.args.length c] 54)).heap.size) (w0 := (w.alloc (.cells #[.slice A1 p.params.length c1, .slice A2 p.code.length c2, .int .i64 p.go, .int .i64 p.test, .slice A3 p.next.length c3, .slice A p.args.length c] 54))) int_flat (by rfl) _ _ 35 (.int .i64 0) 8 (by rfl) Try.underlying35 infoInt rfl (by decide) (by omega) (.slice none 0 0) [] p.test [.int .i64 p.test] (by rfl) (by rw [World.size_alloc] <;> rfl) true (Ow.nil _ _ _ _ _) rfl (Below.refl _ _) (Nat.le_refl _) (by simp) ?_; intro v1 w1 HO1 HB1 hB1; clear tok1; have b1 := (boxed1 HB1).1; have z1 := blk_lt b1; obtain ⟨x1, f1⟩ := cell_of_block b1)
  all_goals
    go_loopw [3, 22] (fun o i wr => ∃ k : Nat, k ≤ p.args.length ∧ i = .int .i64 k ∧ Ow true 3 Rp.int wr (fun k => (w.alloc (.cells #[.slice A1 p.params.length c1, .slice A2 p.code.length c2, .int .i64 p.go, .int .i64 p.test, .slice A3 p.next.length c3, .slice A p.args.length c] 54)).heap.size ≤ k) o (pre ++ (p.args.take k).flatten) ∧ Below (w.alloc (.cells #[.slice A1 p.params.length c1, .slice A2 p.code.length c2, .int .i64 p.go, .int .i64 p.test, .slice A3 p.next.length c3, .slice A p.args.length c] 54)).heap.size (w.alloc (.cells #[.slice A1 p.params.length c1, .slice A2 p.code.length c2, .int .i64 p.go, .int .i64 p.test, .slice A3 p.next.length c3, .slice A p.args.length c] 54)) wr ∧ (w.alloc (.cells #[.slice A1 p.params.length c1, .slice A2 p.code.length c2, .int .i64 p.go, .int .i64 p.test, .slice A3 p.next.length c3, .slice A p.args.length c] 54)).heap.size ≤ wr.heap.size) (fun _ i _ => p.args.length - (intOf i).toNat)
    case atStart => first | exact ⟨0, Nat.zero_le _, rfl, by rw [HQ.out]; simpa using HO1, HB1, hB1⟩ | exact ⟨0, Nat.zero_le _, rfl, by rw [HQ.out]; exact Ow.nil _ _ _ _ _, Below.refl _ _, Nat.le_refl _⟩
    case round =>
      obtain ⟨k, hk, rfl, HO, HB, hB⟩ := hrel
      by_cases hlt : k < p.args.length
      · rcases hrow with hnil | ⟨b, o, rfl, hb, hcell⟩
        · rw [hnil] at hlt; simp at hlt
        obtain ⟨u, c1, hu⟩ := hcell k hlt
        replace c1 := cell_below (below1 HB) c1
        replace hu := hu.below (below1 HB)
        clear hcell
        have hlen := flatten_len (l := p.args.take k) (fun a ha => hx a (List.mem_of_mem_take ha))
        rw [List.length_take, Nat.min_eq_left hk] at hlen
        have hy := hx p.args[k] (List.getElem_mem hlt)
        have HFT := Lib.hid (flatten_take hlt)
        obtain ⟨Av, kv, rfl, _, _⟩ := HO.form
        have ⟨A0, k0, hu0, _⟩ := hu
        subst hu0
        go_wp2_with (at_builtin; refine acc_appendf (r := Rp.int) (e := 3) int_flat (by rfl) _ _ 35 (.int .i64 0) 8 (by rfl) Try.underlying35 infoInt rfl (by decide) (by omega) (.slice Av (pre ++ (p.args.take k).flatten).length kv) (.slice A0 p.args[k].length k0) (pre ++ (p.args.take k).flatten) p.args[k] (by rfl) (by rfl) true HO hu HB hB (by simp only [List.length_append]; omega) ?_; intro v2 w2 HO2 HB2 hB2)
        go_roundw
        case rel => exact ⟨k + 1, by omega, by go_num, by rw [HFT.out, ← List.append_assoc]; exact HO2, HB2, hB2⟩
        case measure => simp [intOf]; omega
      · obtain rfl : k = p.args.length := by omega
        obtain ⟨Av, kv, rfl, _, _⟩ := HO.form
        clear hrow
        go_wp2
        go_ret
        exact ⟨.slice Av (pre ++ p.args.flatten).length kv, by rw [List.take_length]; rfl, by rw [HE.out]; rw [List.take_length] at HO; exact HO.mono (fun k hk => by simp at hk; omega), below1 HB⟩
end Go.Proofs.Ytmcnoeinjocimaa.L
