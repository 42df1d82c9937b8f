/- CopiesIn, the program's and the reference's. -/
import Derived.Test.YteiekdolbnkihaaSg1
import Derived.Test.YteiekdolbnkihaaGf2
set_option linter.unusedVariables false
set_option linter.unusedSimpArgs false
namespace Go.Proofs.Yteiekdolbnkihaa.L
open Go.RowKit
def cnt (c : List Fl) : Int := (c.filter (fun x => x.op == 2)).length
def nCp : List Bk → Int
  | [] => 0
  | x :: t => cnt x.code + nCp t
theorem cnt_bd (c : List Fl) : 0 ≤ cnt c ∧ cnt c ≤ c.length := by
  unfold cnt; exact ⟨by omega, by have := List.length_filter_le (fun x : Fl => x.op == 2) c; omega⟩
theorem cnt_snoc (c : List Fl) (x : Fl) : cnt (c ++ [x]) = cnt c + if x.op == 2 then 1 else 0 := by
  unfold cnt; rw [List.filter_append]; cases h : x.op == 2 <;> simp [List.filter_cons, h]
theorem nCp_snoc (l : List Bk) (x : Bk) : nCp (l ++ [x]) = nCp l + cnt x.code := by
  induction l with
  | nil => simp [nCp]
  | cons y t ih => simp only [List.cons_append, nCp, ih]; omega
theorem nCp_bd (l : List Bk) (h : ∀ x ∈ l, x.code.length ≤ 60) : 0 ≤ nCp l ∧ nCp l ≤ 60 * l.length := by
  induction l with
  | nil => simp [nCp]
  | cons y t ih =>
    have h1 := ih (fun x hx => h x (List.mem_cons_of_mem _ hx))
    have h2 := cnt_bd y.code
    have h3 := h y List.mem_cons_self
    simp only [nCp, List.length_cons]; omega
theorem oneIf_calls (b : Bool) (w : World) : Calls Try.prog 40 #[.bool b] w fun e w' => e = .returned (.int .i64 (if b then 1 else 0)) ∧ w = w' := by
  cases b
  all_goals
    go_enter Try.func40, Try.ntmps40
    go_wp2
    go_ret
    exact ⟨rfl, rfl⟩
theorem flowB_lim {l : List Bk} (h : flowB l = true) : l.length ≤ 64 ∧ ∀ x ∈ l, x.code.length ≤ 60 := by
  unfold flowB at h
  simp only [Bool.and_eq_true, Bool.not_eq_true', List.any_eq_false, Bool.not_eq_true', Bool.not_eq_false, inB, decide_eq_true_eq] at h
  refine ⟨by omega, fun x hx => ?_⟩
  have := h.2 x hx
  simp only [blkB, codeB, Bool.not_eq_true', Bool.not_eq_false, Bool.and_eq_true, decide_eq_true_eq] at this
  exact this.1.1
set_option maxHeartbeats 2000000 in
theorem copiesIn_calls {F : Nat → Prop} (v : Value) (l : List Bk) (w : World) (h : Rp.Rd block w F v l) (hl : l.length ≤ 1048576) :
    Calls Try.prog 20 #[v] w fun e w' => e = .returned (.tuple #[.int .i64 (if flowB l then nCp l else 0), .bool (flowB l)]) ∧ Below w.heap.size w w' := by
  have HC := goodFlow_calls v l w h hl
  have hlim := @flowB_lim l
  generalize flowB l = z at *
  have HC := Lib.hid HC
  obtain ⟨A, c, rfl, hlc, hcm, hrow⟩ := rd_block h
  cases z
  · clear hrow h hlim
    go_enter Try.func20, Try.ntmps20
    go_wp2_with (go_at_call 39; refine HC.out.mono ?_; rintro e w1 ⟨rfl, hb⟩)
    go_ret2
    exact ⟨rfl, hb⟩
  · obtain ⟨hl64, hl60⟩ := hlim rfl
    go_enter Try.func20, Try.ntmps20
    go_wp2_with (go_at_call 39; refine HC.out.mono ?_; rintro e w1 ⟨rfl, hb⟩)
    go_loopw [4, 14] (fun n i wr => ∃ k : Nat, k ≤ l.length ∧ i = .int .i64 k ∧ n = .int .i64 (nCp (l.take k)) ∧ Below w.heap.size w wr) (fun _ i _ => l.length - (intOf i).toNat)
    case atStart => exact ⟨0, Nat.zero_le _, rfl, rfl, hb⟩
    case round =>
      obtain ⟨k, hk, rfl, rfl, HB⟩ := hrel
      by_cases hlt : k < l.length
      · rcases hrow with rfl | ⟨b, o, rfl, hb, hcell⟩
        · simp at hlt
        obtain ⟨vc, vn, c1, hc, hn⟩ := hcell k hlt
        replace c1 := c1.below HB
        clear hcell
        obtain ⟨q0, q1, q2, q3⟩ := c1
        have ⟨A3, k3, hvn, _⟩ := hn
        have hx60 := hl60 l[k] (List.getElem_mem hlt)
        obtain ⟨A0, k0, hvc, _, _, hra⟩ := rd_flat (hc.below HB)
        subst hvc hvn
        clear hc hn
        have hn0 := nCp_bd (l.take k) (fun x hx => hl60 x (List.mem_of_mem_take hx))
        have hlen : (l.take k).length ≤ 64 := by simp; omega
        have HS : Hid (nCp (l.take (k + 1)) = nCp (l.take k) + cnt l[k].code) := Lib.hid (by rw [List.take_succ_eq_append_getElem hlt, nCp_snoc])
        generalize nCp (l.take k) = m at *
        obtain ⟨m0, m1⟩ := hn0
        go_wp2_with fail
        have HB0 := HB.alloc HB.size (.cells #[.slice A0 l[k].code.length k0, .int .i64 l[k].go, .int .i64 l[k].test, .slice A3 l[k].next.length k3] 63)
        go_loopw [4, 21] (fun n i wi => ∃ j : Nat, j ≤ l[k].code.length ∧ i = .int .i64 j ∧ n = .int .i64 (m + cnt (l[k].code.take j)) ∧ Below w.heap.size w wi ∧ Below wr.heap.size wr wi) (fun _ i _ => l[k].code.length - (intOf i).toNat)
        case atStart => exact ⟨0, Nat.zero_le _, rfl, by simp [cnt], HB0, below_new _⟩
        case round =>
          obtain ⟨j, hj, rfl, rfl, HBi, HBo⟩ := hrel
          clear q0 q1 q2 q3
          by_cases hlt2 : j < l[k].code.length
          · rcases hra with hnil | ⟨g, o2, rfl, hg, hca⟩
            · rw [hnil] at hlt2; simp at hlt2
            have q := (hca j hlt2).below HBo
            clear hca
            obtain ⟨q0, q1, q2, q3, q4, q5⟩ := q
            have hbd := cnt_bd (l[k].code.take j)
            have hlen2 : (l[k].code.take j).length ≤ 60 := by simp; omega
            have HS2 : Hid (cnt (l[k].code.take (j + 1)) = cnt (l[k].code.take j) + if l[k].code[j].op == 2 then 1 else 0) := Lib.hid (by rw [List.take_succ_eq_append_getElem hlt2, cnt_snoc])
            generalize cnt (l[k].code.take j) = p at *
            obtain ⟨p0, p1⟩ := hbd
            cases hop : l[k].code[j].op == 2
            all_goals
              have HOP := Lib.hid hop
              go_wp2_with (go_at_call 40; refine (oneIf_calls _ _).mono ?_; rintro e w' ⟨rfl, rfl⟩)
              go_roundw
              case rel => exact ⟨j + 1, by omega, by go_num, by rw [HS2.out, HOP.out]; exact congrArg (Value.int .i64) (by simp <;> omega), HBi.alloc HBi.size _, HBo.alloc HBo.size _⟩
              case measure => simp [intOf]; omega
          · obtain rfl : j = l[k].code.length := by omega
            have HS3 : Hid (nCp (l.take (k + 1)) = m + cnt l[k].code) := HS
            go_wp2
            go_roundw
            case rel => exact ⟨k + 1, by omega, by go_num, by rw [HS.out, List.take_length], HBi⟩
            case measure => simp [intOf]; omega
      · obtain rfl : k = l.length := by omega
        go_wp2
        go_ret2
        exact ⟨by simp, HB⟩
theorem flowS_lim {l : List Bk} (h : flowS l = true) : l.length ≤ 64 ∧ ∀ x ∈ l, x.code.length ≤ 60 := by
  unfold flowS at h
  simp only [Bool.and_eq_true, List.all_eq_true, inB, decide_eq_true_eq] at h
  refine ⟨by omega, fun x hx => ?_⟩
  have := (h.1 x hx)
  unfold sBlk at this
  simp only [Bool.and_eq_true] at this
  have h3 := this.2
  unfold sEnd at h3
  split at h3
  · simp at h3; omega
  · split at h3
    · simp at h3; omega
    · split at h3
      · simp at h3; omega
      · simp at h3; omega
set_option maxHeartbeats 2000000 in
theorem copiesInS_calls {F : Nat → Prop} (v : Value) (l : List Bk) (w : World) (h : Rp.Rd block w F v l) (hl : l.length ≤ 1048576) :
    Calls Try.prog 18 #[v] w fun e w' => e = .returned (.tuple #[.int .i64 (if flowS l then nCp l else 0), .bool (flowS l)]) ∧ Below w.heap.size w w' := by
  have HC := goodFlowS_calls v l w h
  have hlim := @flowS_lim l
  generalize flowS l = z at *
  have HC := Lib.hid HC
  obtain ⟨A, c, rfl, hlc, hcm, hrow⟩ := rd_block h
  cases z
  · clear hrow h hlim
    go_enter Try.func18, Try.ntmps18
    go_wp2_with (go_at_call 37; refine HC.out.mono ?_; rintro e w1 ⟨rfl, hb⟩)
    go_ret2
    exact ⟨rfl, hb⟩
  · obtain ⟨hl64, hl60⟩ := hlim rfl
    go_enter Try.func18, Try.ntmps18
    go_wp2_with (go_at_call 37; refine HC.out.mono ?_; rintro e w1 ⟨rfl, hb⟩)
    go_loopw [4, 14] (fun n i wr => ∃ k : Nat, k ≤ l.length ∧ i = .int .i64 k ∧ n = .int .i64 (nCp (l.take k)) ∧ Below w.heap.size w wr) (fun _ i _ => l.length - (intOf i).toNat)
    case atStart => exact ⟨0, Nat.zero_le _, rfl, rfl, hb⟩
    case round =>
      obtain ⟨k, hk, rfl, rfl, HB⟩ := hrel
      by_cases hlt : k < l.length
      · rcases hrow with rfl | ⟨b, o, rfl, hb, hcell⟩
        · simp at hlt
        obtain ⟨vc, vn, c1, hc, hn⟩ := hcell k hlt
        replace c1 := c1.below HB
        clear hcell
        obtain ⟨q0, q1, q2, q3⟩ := c1
        have ⟨A3, k3, hvn, _⟩ := hn
        have hx60 := hl60 l[k] (List.getElem_mem hlt)
        obtain ⟨A0, k0, hvc, _, _, hra⟩ := rd_flat (hc.below HB)
        subst hvc hvn
        clear hc hn
        have hn0 := nCp_bd (l.take k) (fun x hx => hl60 x (List.mem_of_mem_take hx))
        have hlen : (l.take k).length ≤ 64 := by simp; omega
        have HS : Hid (nCp (l.take (k + 1)) = nCp (l.take k) + cnt l[k].code) := Lib.hid (by rw [List.take_succ_eq_append_getElem hlt, nCp_snoc])
        generalize nCp (l.take k) = m at *
        obtain ⟨m0, m1⟩ := hn0
        go_wp2_with fail
        have HB0 := HB.alloc HB.size (.cells #[.slice A0 l[k].code.length k0, .int .i64 l[k].go, .int .i64 l[k].test, .slice A3 l[k].next.length k3] 63)
        go_loopw [4, 21] (fun n i wi => ∃ j : Nat, j ≤ l[k].code.length ∧ i = .int .i64 j ∧ n = .int .i64 (m + cnt (l[k].code.take j)) ∧ Below w.heap.size w wi ∧ Below wr.heap.size wr wi) (fun _ i _ => l[k].code.length - (intOf i).toNat)
        case atStart => exact ⟨0, Nat.zero_le _, rfl, by simp [cnt], HB0, below_new _⟩
        case round =>
          obtain ⟨j, hj, rfl, rfl, HBi, HBo⟩ := hrel
          clear q0 q1 q2 q3
          by_cases hlt2 : j < l[k].code.length
          · rcases hra with hnil | ⟨g, o2, rfl, hg, hca⟩
            · rw [hnil] at hlt2; simp at hlt2
            have q := (hca j hlt2).below HBo
            clear hca
            obtain ⟨q0, q1, q2, q3, q4, q5⟩ := q
            have hbd := cnt_bd (l[k].code.take j)
            have hlen2 : (l[k].code.take j).length ≤ 60 := by simp; omega
            have HS2 : Hid (cnt (l[k].code.take (j + 1)) = cnt (l[k].code.take j) + if l[k].code[j].op == 2 then 1 else 0) := Lib.hid (by rw [List.take_succ_eq_append_getElem hlt2, cnt_snoc])
            generalize cnt (l[k].code.take j) = p at *
            obtain ⟨p0, p1⟩ := hbd
            cases hop : l[k].code[j].op == 2
            all_goals
              have HOP := Lib.hid hop
              go_wp2
              go_roundw
              case rel => exact ⟨j + 1, by omega, by go_num, by rw [HS2.out, HOP.out]; exact congrArg (Value.int .i64) (by simp <;> omega), HBi.alloc HBi.size _, HBo.alloc HBo.size _⟩
              case measure => simp [intOf]; omega
          · obtain rfl : j = l[k].code.length := by omega
            have HS3 : Hid (nCp (l.take (k + 1)) = m + cnt l[k].code) := HS
            go_wp2
            go_roundw
            case rel => exact ⟨k + 1, by omega, by go_num, by rw [HS.out, List.take_length], HBi⟩
            case measure => simp [intOf]; omega
      · obtain rfl : k = l.length := by omega
        go_wp2
        go_ret2
        exact ⟨by simp, HB⟩
end Go.Proofs.Yteiekdolbnkihaa.L
