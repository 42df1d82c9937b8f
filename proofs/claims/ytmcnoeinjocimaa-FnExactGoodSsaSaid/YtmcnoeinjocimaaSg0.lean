/- The reference's look at a block. -/
import Derived.Test.YtmcnoeinjocimaaSf1
import Derived.Test.YtmcnoeinjocimaaTy2
set_option linter.unusedVariables false
set_option linter.unusedSimpArgs false
namespace Go.Proofs.Ytmcnoeinjocimaa.L
open Go.RowKit
def sEnd (go test n c : Int) : Bool :=
  if go == 1 then n == 1 && test == 0 && decide (c ≤ 60) else if go == 2 then n == 2 && inB test 0 11 && decide (c ≤ 60)
  else if go == 5 then inB n 2 6 && inB test 0 11 && decide (c ≤ 60) else inB go 3 4 && n == 0 && test == 0 && decide (c ≤ 60)
def sBlk (x : Bk) (many : Int) : Bool := x.code.all sFlatB && x.next.all (fun k => decide (0 ≤ k) && decide (k < many)) && sEnd x.go x.test x.next.length x.code.length
theorem all_take_succ {α : Type} {p : α → Bool} {l : List α} {k : Nat} (hk : k < l.length) (h : (l.take k).all p = true) (hp : p l[k] = true) : (l.take (k + 1)).all p = true := by
  rw [List.take_succ_eq_append_getElem hk, List.all_append, h]; simp [hp]
theorem all_false {α : Type} {p : α → Bool} {l : List α} {k : Nat} (hk : k < l.length) (hp : p l[k] = false) : l.all p = false := by
  rw [List.all_eq_false]; exact ⟨_, List.getElem_mem hk, by simp [hp]⟩
set_option maxHeartbeats 4000000 in
theorem l6Block_calls {F : Nat → Prop} (x : Bk) (vc vn : Value) (many : Int) (w : World) (h1 : Rp.Rd flat w F vc x.code) (h2 : Rp.Rd Rp.int w F vn x.next) :
    Calls Try.prog 72 #[bkV vc x vn, .int .i64 many] w fun e w' => e = .returned (.bool (sBlk x many)) ∧ Below w.heap.size w w' := by
  have HX : Hid (sBlk x many = (x.code.all sFlatB && x.next.all (fun k => decide (0 ≤ k) && decide (k < many)) && sEnd x.go x.test x.next.length x.code.length)) := Lib.hid rfl
  obtain ⟨A, c, rfl, hlc, hcm, hra⟩ := rd_flat h1
  obtain ⟨B, d, rfl, hld, hdm, hrb⟩ := rd_int h2
  unfold bkV
  go_enter Try.func72, Try.ntmps72
  go_wp2
  go_loopw [13] (fun i wr => ∃ k : Nat, k ≤ x.code.length ∧ i = .int .i64 k ∧ Hid ((x.code.take k).all sFlatB = true) ∧ Below w.heap.size w wr ∧ wr.heap[w.heap.size]? = some (.cells #[.slice A x.code.length c, .int .i64 x.go, .int .i64 x.test, .slice B x.next.length d] 100 (0, 0))) (fun i _ => x.code.length - (intOf i).toNat)
  case atStart => exact ⟨0, Nat.zero_le _, rfl, Lib.hid rfl, below_new _, heap_alloc_new _ _⟩
  case round =>
    obtain ⟨k, hk, rfl, HT, HB, b1⟩ := hrel
    obtain ⟨c1, f1⟩ := cell_of_block b1
    have z1 := blk_lt b1
    by_cases hlt : k < x.code.length
    · rcases hra with hnil | ⟨g, o, rfl, hg, hca⟩
      · rw [hnil] at hlt; simp at hlt
      have q := (hca k hlt).below HB
      clear hca hrb
      obtain ⟨q0, q1, q2, q3, q4, q5⟩ := q
      have HC := fun W => l6Flat_calls x.code[k] W
      unfold flV at HC
      generalize hr : sFlatB x.code[k] = r at HC
      have HR := Lib.hid hr
      clear hr
      have HC := Lib.hid HC
      go_wp2_with fail
      refine (HC.out _).mono ?_
      rintro e w1 ⟨rfl, hb1⟩
      have b2 := blk_below (blk_alloc b1 _) hb1
      replace hb1 := below_then HB (below1 hb1)
      clear HC c1 f1
      cases r
      · go_wp2
        go_ret
        refine ⟨ret_bool ?_, hb1⟩
        rw [HX.out, all_false hlt HR.out]; rfl
      · go_wp2
        go_roundw
        case rel => exact ⟨k + 1, by omega, by go_num, Lib.hid (all_take_succ hlt HT.out HR.out), hb1, b2⟩
        case measure => simp [intOf]; omega
    · obtain rfl : k = x.code.length := by omega
      have HA : Hid (x.code.all sFlatB = true) := Lib.hid (by have := HT.out; rwa [List.take_length] at this)
      clear HT hra hlt hk
      go_wp2
      go_loopw [24] (fun i wr => ∃ k : Nat, k ≤ x.next.length ∧ i = .int .i64 k ∧ Hid ((x.next.take k).all (fun k => decide (0 ≤ k) && decide (k < many)) = true) ∧ Below w.heap.size w wr ∧ wr.heap[w.heap.size]? = some (.cells #[.slice A x.code.length c, .int .i64 x.go, .int .i64 x.test, .slice B x.next.length d] 100 (0, 0))) (fun i _ => x.next.length - (intOf i).toNat)
      case atStart => exact ⟨0, Nat.zero_le _, rfl, Lib.hid rfl, HB, b1⟩
      case round =>
        obtain ⟨k, hk, rfl, HT, HB, b1⟩ := hrel
        clear c1 f1 z1
        obtain ⟨c1, f1⟩ := cell_of_block b1
        have z1 := blk_lt b1
        by_cases hlt : k < x.next.length
        · rcases hrb with hnil | ⟨g, o, rfl, hg, hcb⟩
          · rw [hnil] at hlt; simp at hlt
          have q := cell_below HB (hcb k hlt)
          clear hcb
          by_cases hp : 0 ≤ x.next[k] ∧ x.next[k] < many
          · obtain ⟨p0, p1⟩ := hp
            have t0 : decide (x.next[k] < 0) = false := decide_eq_false (by omega)
            have t1 : decide (many ≤ x.next[k]) = false := decide_eq_false (by omega)
            go_wp2
            go_roundw
            case rel => exact ⟨k + 1, by omega, by go_num, Lib.hid (all_take_succ hlt HT.out (by simp [p0, p1])), HB, b1⟩
            case measure => simp [intOf]; omega
          · have HF : Hid (x.next.all (fun k => decide (0 ≤ k) && decide (k < many)) = false) := Lib.hid (all_false hlt (by simp; omega))
            by_cases hp0 : x.next[k] < 0
            · go_wp2
              go_ret
              refine ⟨ret_bool ?_, HB⟩
              rw [HX.out, HF.out]; simp
            · have hp1 : many ≤ x.next[k] := by omega
              clear hp
              go_wp2
              go_ret
              refine ⟨ret_bool ?_, HB⟩
              rw [HX.out, HF.out]; simp
        · obtain rfl : k = x.next.length := by omega
          have HA2 : Hid (x.next.all (fun k => decide (0 ≤ k) && decide (k < many)) = true) := Lib.hid (by have := HT.out; rwa [List.take_length] at this)
          clear HT hrb hlt hk
          go_wp2_with (first | (go_at_call 110; refine (l6Name_calls _ _).mono ?_; rintro e w' ⟨rfl, rfl⟩) | (go_at_call 42; refine (l1In_calls _ _ _ _).mono ?_; rintro e w' ⟨rfl, rfl⟩))
          all_goals
            go_ret
            refine ⟨ret_bool ?_, HB⟩
            rw [HX.out, HA.out, HA2.out]
            clear HX HA HA2 c1 f1
            unfold sEnd
            simp_all
end Go.Proofs.Ytmcnoeinjocimaa.L
