/- The program's GoodSections. -/
import Derived.Test.YteiekdolbnkihaaDoorNm1
set_option linter.unusedVariables false
set_option linter.unusedSimpArgs false
namespace Go.Proofs.YteiekdolbnkihaaDoor.L
open Go.RowKit
set_option maxRecDepth 100000 in
set_option maxHeartbeats 4000000 in
theorem goodSections_calls {F : Nat → Prop} (v : Value) (l : List Se) (w : World) (h : Rp.Rd sect w F v l) (hl : l.length ≤ 1048576) (hs : ∀ x ∈ l, x.body.size ≤ 1048576) (hT : Tabs w) :
    Calls Tryd.prog 19 #[v] w fun e w' => e = .returned (.bool (goodB l)) ∧ Below w.heap.size w w' := by
  obtain ⟨A, c, rfl, hlc, hcm, hrow⟩ := rd_sect h
  by_cases h8 : l.length ≤ 8
  · have HG : Hid (goodB l = loopB 0 l) := Lib.hid (by unfold goodB; simp [h8])
    go_enter Tryd.func19, Tryd.ntmps19
    go_wp2_with fail
    go_loopw [3, 13] (fun t i wr => ∃ (k : Nat) (u : Int), k ≤ l.length ∧ i = .int .i64 k ∧ t = .int .i64 u ∧ Hid (loopB u (l.drop k) = loopB 0 l) ∧ Below w.heap.size w wr) (fun _ i _ => l.length - (intOf i).toNat)
    case atStart => exact ⟨0, 0, Nat.zero_le _, rfl, rfl, Lib.hid rfl, Below.refl _ _⟩
    case round =>
      obtain ⟨k, u, hk, rfl, rfl, HH, HB⟩ := hrel
      by_cases hlt : k < l.length
      · rcases hrow with rfl | ⟨b, o, rfl, hb, hcell⟩
        · simp at hlt
        have c1 := (hcell k hlt).below HB
        clear hcell
        obtain ⟨q0, q1⟩ := c1
        have hsz := hs l[k] (List.getElem_mem hlt)
        have HC := Lib.hid (fun W (h : Tabs W) => name_calls l[k].body W hsz h)
        have HN : Hid (loopB u (l.drop k) = if inB l[k].id 0 11 && decide (l[k].body.size ≤ 200) then (if 0 < l[k].id then (if l[k].id ≤ u then false else loopB l[k].id (l.drop (k + 1))) else if (nameB l[k].body).isSome then loopB u (l.drop (k + 1)) else false) else false) := Lib.hid (by rw [List.drop_eq_getElem_cons hlt, loopB, oneB])
        have hTr := hT.below HB
        unfold nameV at HC
        generalize nameB l[k].body = r at *
        generalize l[k].id = id at *
        generalize l[k].body = body at *
        go_wp2_with (first | (go_at_call 46; refine (within_calls _ _ _ _).mono ?_; rintro e w' ⟨rfl, rfl⟩) | (go_at_call 45; refine (HC.out _ (hTr.below (below_new _))).mono ?_; rintro e w1 ⟨rfl, hb1⟩))
        · rename_i h1 h2
          go_ret
          exact ⟨ret_bool (by rw [HG.out, ← HH.out, HN.out, if_neg (by simp; omega)]), below_then HB (below_new _)⟩
        · have h1 : inB id 0 11 = true := by assumption
          have h2 : (body.size : Int) ≤ 200 := by assumption
          have h3 : 0 < id := by assumption
          have h4 : id ≤ u := by assumption
          go_ret
          exact ⟨ret_bool (by rw [HG.out, ← HH.out, HN.out, if_pos (by simp [h1]; omega), if_pos h3, if_pos h4]), below_then HB (below_new _)⟩
        · have h1 : inB id 0 11 = true := by assumption
          have h2 : (body.size : Int) ≤ 200 := by assumption
          have h3 : 0 < id := by assumption
          have h4 : u < id := by assumption
          go_roundw
          case rel => exact ⟨k + 1, id, by omega, by go_num, rfl, Lib.hid (by rw [← HH.out, HN.out, if_pos (by simp [h1]; omega), if_pos h3, if_neg (by omega)]), below_then HB (below_new _)⟩
          case measure => simp [intOf]; omega
        · have h1 : inB id 0 11 = true := by assumption
          have h2 : (body.size : Int) ≤ 200 := by assumption
          have h3 : id ≤ 0 := by assumption
          have h4 : r.isNone = true := by assumption
          go_ret
          exact ⟨ret_bool (by rw [HG.out, ← HH.out, HN.out, if_pos (by simp [h1]; omega), if_neg (by omega), if_neg (by cases r <;> simp_all)]), below_then HB (below1 hb1)⟩
        · have h1 : inB id 0 11 = true := by assumption
          have h2 : (body.size : Int) ≤ 200 := by assumption
          have h3 : id ≤ 0 := by assumption
          have h4 : r.isNone = false := by assumption
          go_roundw
          case rel => exact ⟨k + 1, u, by omega, by go_num, rfl, Lib.hid (by rw [← HH.out, HN.out, if_pos (by simp [h1]; omega), if_neg (by omega), if_pos (by cases r <;> simp_all)]), below_then HB (below1 hb1)⟩
          case measure => simp [intOf]; omega
        · rename_i h1
          go_ret
          exact ⟨ret_bool (by rw [HG.out, ← HH.out, HN.out, if_neg (by simp [h1])]), below_then HB (below_new _)⟩
      · obtain rfl : k = l.length := by omega
        go_wp2
        go_ret
        exact ⟨ret_bool (by rw [HG.out, ← HH.out, List.drop_length, loopB]), HB⟩
  · have HG : Hid (goodB l = false) := Lib.hid (by unfold goodB; simp [h8])
    clear hrow
    go_enter Tryd.func19, Tryd.ntmps19
    go_wp2
    go_ret
    exact ⟨ret_bool HG.out.symm, Below.refl _ _⟩
end Go.Proofs.YteiekdolbnkihaaDoor.L
