/- Joined texts, each of which was built by itself: Is1 Px10 Sc1 Rg1. -/
import Derived.Test.YtmcnoeinjocimaaFSplitEdges1
import Derived.Test.YtmcnoeinjocimaaB3
import Derived.Test.YtmcnoeinjocimaaB2
import Derived.Deep.QuietTactic
import Derived.Lib.SliceRun
import Derived.Deep.RegionHeld3
import Derived.StillTail
import Derived.Lib.Hide
import Derived.WalkKit
import Derived.RowKit
set_option linter.unusedVariables false
set_option linter.unusedSimpArgs false
namespace Go.Proofs.Ytmcnoeinjocimaa.L
open Go.RowKit
theorem oneIf_calls (b : Bool) (w : World) : Calls Try.prog 87 #[.bool b] w fun e w' => e = .returned (.int .i64 (if b then 1 else 0)) ∧ w = w' := by
  cases b
  · go_enter Try.func87, Try.ntmps87
    go_wp2
    go_ret
    exact ⟨rfl, rfl⟩
  · go_enter Try.func87, Try.ntmps87
    go_wp2
    go_ret
    exact ⟨rfl, rfl⟩
theorem if_nat (P : Prop) [Decidable P] : (if decide P = true then (1 : Int) else 0) = ((if P then 1 else 0 : Nat) : Int) := by
  by_cases h : P <;> simp [h]
set_option maxRecDepth 100000 in
set_option maxHeartbeats 4000000 in
theorem critI_calls {F : Nat → Prop} (s : Sa) (k i sb : Nat) (vparts : Value) (w : World) (hb0 : w.heap[sb]? = some (.cells #[vparts, .int .i64 s.values] 29 (0, 0))) (hs : Rp.Rd part w F vparts s.parts) (hk : k < s.parts.length)
    (hi : i < s.parts[k].next.length) (ha : i < s.parts[k].args.length) (hn : s.parts.length ≤ 1048576) (hl : ∀ p ∈ s.parts, p.next.length ≤ 1048576) :
    Calls Try.prog 55 #[.pointer (some ⟨sb, 0, none⟩), .int .i64 k, .int .i64 i] w fun e w' => e = .returned (.bool (critB s.parts s.parts[k] i)) ∧ Below w.heap.size w w' := by
  obtain ⟨A, c, rfl, hlc, hcm, hrow⟩ := rd_part hs
  rcases hrow with hnil | ⟨b, o, rfl, hb, hcell⟩
  · rw [hnil] at hk; simp at hk
  obtain ⟨A1, c1, A2, c2, A3, c3, A4, c4, hp⟩ : ∃ A1 c1 A2 c2 A3 c3 A4 c4, (partAt w b (o + k * 6) s.parts[k] (.slice A1 s.parts[k].params.length c1) (.slice A2 s.parts[k].code.length c2) (.slice A3 s.parts[k].next.length c3) (.slice A4 s.parts[k].args.length c4)) ∧ Rp.Rd Rp.int w (fun _ => True) (.slice A3 s.parts[k].next.length c3) s.parts[k].next ∧ Rp.Rd (Rp.sl Rp.int) w (fun _ => True) (.slice A4 s.parts[k].args.length c4) s.parts[k].args := by
    obtain ⟨_, _, _, _, hp, ⟨A1, c1, rfl, h1⟩, ⟨A2, c2, rfl, h2⟩, ⟨A3, c3, rfl, h3⟩, ⟨A4, c4, rfl, h4⟩⟩ := hcell k hk
    exact ⟨A1, c1, A2, c2, A3, c3, A4, c4, hp, Rp.Rd.mono (fun _ _ => trivial) ⟨A3, c3, rfl, h3⟩, Rp.Rd.mono (fun _ _ => trivial) ⟨A4, c4, rfl, h4⟩⟩
  obtain ⟨hp, hxn, hxa⟩ := hp
  have HN : Hid (s.parts[k].next.getD i 0 = s.parts[k].next[i]) := Lib.hid (by rw [List.getD_eq_getElem?_getD, List.getElem?_eq_getElem hi]; rfl)
  have HA : Hid (s.parts[k].args.getD i [] = s.parts[k].args[i]) := Lib.hid (by rw [List.getD_eq_getElem?_getD, List.getElem?_eq_getElem ha]; rfl)
  have HX : Hid (critB s.parts s.parts[k] i = (decide (1 < s.parts[k].next.length) && decide (1 < edgesN s.parts s.parts[k].next[i]) && decide (0 < s.parts[k].args[i].length))) := Lib.hid (by unfold critB; rw [HN.out, HA.out])
  clear HN HA
  obtain ⟨x0, x1, x2, x3, x4, x5⟩ := hp
  obtain ⟨An, cn, he, _, _, hrn⟩ := rd_int hxn
  cases he
  obtain ⟨Aa, ca, he, _, _, hra⟩ := rd_ints hxa
  cases he
  rcases hrn with hnil | ⟨bn, on, rfl, hbn, hcn⟩
  · rw [hnil] at hi; simp at hi
  rcases hra with hnil | ⟨ba, oa, rfl, hba, hca⟩
  · rw [hnil] at ha; simp at ha
  have y0 := hcn i hi
  obtain ⟨u, z0, hu⟩ := hca i ha
  obtain ⟨Au, ku, rfl, _⟩ := hu
  clear hcn hca
  obtain ⟨v0, _⟩ := cell_of_block hb0
  have v0 : w.cell? ⟨sb, 0, none⟩ = some (.slice (some ⟨b, o, none⟩) s.parts.length c) := (v0 0).trans rfl
  have i0 : (0 : Int) ≤ (k : Int) := Int.natCast_nonneg _
  have i1 : (k : Int) < (s.parts.length : Int) := by omega
  have i2 : (0 : Int) ≤ (i : Int) := Int.natCast_nonneg _
  have i3 : (i : Int) < (s.parts[k].next.length : Int) := by omega
  have i4 : (i : Int) < (s.parts[k].args.length : Int) := by omega
  clear hxn hxa
  generalize s.parts[k].next[i] = K at *
  generalize s.parts[k].args[i] = a at *
  clear hi ha
  generalize s.parts[k] = p at *
  have HC := Lib.hid (fun b W => oneIf_calls b W)
  go_enter Try.func55, Try.ntmps55
  go_wp2
  go_loopw [8, 24] (fun z j wr => ∃ m : Nat, m ≤ s.parts.length ∧ j = .int .i64 m ∧ z = .int .i64 (edgesN (s.parts.take m) K : Nat) ∧ Below w.heap.size w wr) (fun _ j _ => s.parts.length - (intOf j).toNat)
  case atStart => exact ⟨0, Nat.zero_le _, rfl, rfl, Below.refl _ _⟩
  case round =>
    obtain ⟨m, hm, rfl, rfl, HB⟩ := hrel
    rename World => wo
    by_cases hlt : m < s.parts.length
    · obtain ⟨_, _, _, _, hp, ⟨B1, d1, rfl, h1⟩, ⟨B2, d2, rfl, h2⟩, hxn, ⟨B4, d4, rfl, h4⟩⟩ := hcell m hlt
      obtain ⟨q0, q1, q2, q3, q4, q5⟩ := partAt_below hp HB
      have hxn := hxn.below HB
      have hE := edgesN_take hlt K
      have hL := hl _ (List.getElem_mem hlt)
      have hE0 := edgesN_le (k := K) (l := s.parts.take m) (fun q hq => hl q (List.mem_of_mem_take hq))
      rw [List.length_take] at hE0
      have hE1 : edgesN (s.parts.take m) K ≤ 1048576 * 1048576 := Nat.le_trans hE0 (Nat.mul_le_mul (by omega) (Nat.le_refl _))
      clear hp hE0
      have hE := Lib.hid hE
      generalize edgesN (s.parts.take m) K = z at *
      generalize s.parts[m] = q at *
      obtain ⟨A5, c5, rfl, _, _, hrn⟩ := rd_int hxn
      have j0 : (0 : Int) ≤ (m : Int) := Int.natCast_nonneg _
      have j1 : (m : Int) < (s.parts.length : Int) := by omega
      have hB1 := HB.alloc HB.size (.cells #[.slice B1 q.params.length d1, .slice B2 q.code.length d2, .int .i64 q.go, .int .i64 q.test, .slice A5 q.next.length c5, .slice B4 q.args.length d4] 54)
      go_wp2
      have hbn := below_new (w := wo) (.cells #[.slice B1 q.params.length d1, .slice B2 q.code.length d2, .int .i64 q.go, .int .i64 q.test, .slice A5 q.next.length c5, .slice B4 q.args.length d4] 54)
      generalize wo.alloc (.cells #[.slice B1 q.params.length d1, .slice B2 q.code.length d2, .int .i64 q.go, .int .i64 q.test, .slice A5 q.next.length c5, .slice B4 q.args.length d4] 54) = W1 at *
      have X4 := cell_below hB1 x4
      have Y0 := cell_below hB1 y0
      clear q0 q1 q2 q3 q4 q5 HB
      go_loop [8, 31] (fun z2 j => ∃ n : Nat, n ≤ q.next.length ∧ j = .int .i64 n ∧ z2 = .int .i64 (z + (q.next.take n).count K : Nat)) (fun _ j => q.next.length - (intOf j).toNat)
      case atStart => exact ⟨0, Nat.zero_le _, rfl, rfl⟩
      case round =>
        obtain ⟨n, hn2, rfl, rfl⟩ := hrel
        by_cases hnt : n < q.next.length
        · rcases hrn with hnil | ⟨b3, o3, rfl, hb3, hc3⟩
          · rw [hnil] at hnt; simp at hnt
          have q3 := cell_below hbn (hc3 n hnt)
          have hcl := List.count_le_length (a := K) (l := q.next.take n)
          rw [List.length_take] at hcl
          have hct := Lib.hid (count_take hnt K)
          clear hc3
          generalize (q.next.take n).count K = y at *
          generalize q.next[n] = x at *
          have n0 : (0 : Int) ≤ (n : Int) := Int.natCast_nonneg _
          have n1 : (n : Int) < (q.next.length : Int) := by omega
          by_cases hxK : x = K
          · have hct2 : Hid ((q.next.take (n + 1)).count K = y + 1) := Lib.hid (by rw [hct.out, if_pos hxK])
            have hd : (x == K) = true := by simpa using hxK
            clear hct hxK
            go_wp2_with (go_at_call 87; refine (HC.out _ _).mono ?_; rintro e w' ⟨rfl, rfl⟩)
            go_round
            case rel => exact ⟨n + 1, by omega, by go_num, by rw [hct2.out]; go_num⟩
            case measure => simp [intOf]; omega
          · have hct2 : Hid ((q.next.take (n + 1)).count K = y) := Lib.hid (by rw [hct.out, if_neg hxK]; rfl)
            have hd : (x == K) = false := by simpa using hxK
            clear hct hxK
            go_wp2_with (go_at_call 87; refine (HC.out _ _).mono ?_; rintro e w' ⟨rfl, rfl⟩)
            go_round
            case rel => exact ⟨n + 1, by omega, by go_num, by rw [hct2.out]; go_num⟩
            case measure => simp [intOf]; omega
        · obtain rfl : n = q.next.length := by omega
          rw [List.take_length]
          go_wp2
          go_roundw
          case rel => exact ⟨m + 1, by omega, by go_num, by rw [hE.out], hB1⟩
          case measure => simp [intOf]; omega
    · obtain rfl : m = s.parts.length := by omega
      rw [List.take_length]
      have X4 := cell_below HB x4
      have X5 := cell_below HB x5
      have Z0 := cell_below HB z0
      clear x0 x1 x2 x3 x4 x5 z0 y0 v0 hcell hs hl hb0
      generalize edgesN s.parts K = z at *
      generalize hL1 : p.next.length = L1 at *
      generalize hL2 : a.length = L2 at *
      by_cases d1 : 1 < L1
      · have g1 : decide ((1 : Int) < (L1 : Int)) = true := decide_eq_true (by omega)
        by_cases d2 : 1 < z
        · have g2 : decide ((1 : Int) < (z : Int)) = true := decide_eq_true (by omega)
          by_cases d3 : 0 < L2
          · have g3 : decide (0 < L2) = true := decide_eq_true (by omega)
            have HN : Hid (critB s.parts p i = true) := Lib.hid (by rw [HX.out, decide_eq_true d1, decide_eq_true d2, decide_eq_true d3]; rfl)
            clear HX d1 d2 d3
            go_wp2
            go_ret
            exact ⟨ret_bool HN.out.symm, HB⟩
          · have g3 : decide (0 < L2) = false := decide_eq_false (by omega)
            have HN : Hid (critB s.parts p i = false) := Lib.hid (by rw [HX.out, decide_eq_false d3, Bool.and_false])
            clear HX d1 d2 d3
            go_wp2
            go_ret
            exact ⟨ret_bool HN.out.symm, HB⟩
        · have g2 : decide ((1 : Int) < (z : Int)) = false := decide_eq_false (by omega)
          have HN : Hid (critB s.parts p i = false) := Lib.hid (by rw [HX.out, decide_eq_false d2, Bool.and_false, Bool.false_and])
          clear HX d1 d2
          go_wp2
          go_ret
          exact ⟨ret_bool HN.out.symm, HB⟩
      · have g1 : decide ((1 : Int) < (L1 : Int)) = false := decide_eq_false (by omega)
        have HN : Hid (critB s.parts p i = false) := Lib.hid (by rw [HX.out, decide_eq_false d1, Bool.false_and, Bool.false_and])
        clear HX d1
        go_wp2
        go_ret
        exact ⟨ret_bool HN.out.symm, HB⟩
/-- Whether an ssa is split, and whether it is good. -/
inductive SplitRes (G : Prop) (s : Sa) (w : World) (e : Ending) (w' : World) : Prop where
  | mk (g : Bool) (hg : Hid (g = true ↔ G)) (he : e = .returned (.tuple #[.bool (g && splitB s), .bool g])) (hb : Below w.heap.size w w') : SplitRes G s w e w'
theorem GoodP.args_lt {s : Sa} (h : GoodP s) {k i : Nat} (hk : k < s.parts.length) (hi : i < s.parts[k].next.length) : i < s.parts[k].args.length :=
  Nat.lt_of_lt_of_le hi (static_args (h.static (List.getElem_mem hk)))
theorem split_no {s : Sa} {k i : Nat} (hk : k < s.parts.length) (hi : i < s.parts[k].next.length) (h : critB s.parts s.parts[k] i = true) : splitB s = false := by
  unfold splitB
  rw [List.all_eq_false]
  refine ⟨s.parts[k], List.getElem_mem hk, ?_⟩
  rw [Bool.not_eq_true, List.all_eq_false]
  exact ⟨i, List.mem_range.2 hi, by rw [h]; simp⟩
set_option maxRecDepth 100000 in
set_option maxHeartbeats 4000000 in
theorem splitI_calls {F : Nat → Prop} (s : Sa) (vparts : Value) (w : World) (hs : Rp.Rd part w F vparts s.parts) (hx1 : s.parts.length ≤ 1048576) (hx2 : ∀ p ∈ s.parts, PtLim p) :
    Calls Try.prog 18 #[saV s vparts] w (SplitRes (∃ D T M, GoodV s D T M) s w) := by
  obtain ⟨A, c, rfl, hlc, hcm, hrow⟩ := rd_part hs
  have HG := Lib.hid (fun W (hW : Below w.heap.size w W) => goodI_calls s _ W (hs.below hW) hx1 hx2)
  have hnl : ∀ p ∈ s.parts, p.next.length ≤ 1048576 := fun p hp => (hx2 p hp).2.2.1
  unfold saV at HG ⊢
  have hB0 : Below w.heap.size w (w.alloc (.cells #[.slice A s.parts.length c, .int .i64 s.values] 29)) := below_new _
  have b0 := heap_alloc_new w (.cells #[.slice A s.parts.length c, .int .i64 s.values] 29)
  go_enter Try.func18, Try.ntmps18
  go_wp2_with fail
  refine (HG.out _ hB0).mono ?_
  rintro e w1 ⟨g, rfl, hg, hb1⟩
  have hB1 := below_then hB0 hb1
  have b1 := blk_below b0 hb1
  clear hb1 b0 hB0 HG
  cases g
  · go_wp2
    refine bodyPost_ret (v := .tuple #[.bool false, .bool false]) (by simp [results, Try.results18, go_sem]) rfl ?_
    exact .mk false hg rfl hB1
  have hgp := Lib.hid ((good_iff s).1 (hg.out.1 rfl))
  obtain ⟨v0, _⟩ := cell_of_block b1
  have v0 : w1.cell? ⟨w.heap.size, 0, none⟩ = some (.slice A s.parts.length c) := (v0 0).trans rfl
  go_wp2
  clear v0
  go_loopw [13] (fun j wr => ∃ m : Nat, m ≤ s.parts.length ∧ j = .int .i64 m ∧ Below w.heap.size w wr ∧ wr.heap[w.heap.size]? = some (.cells #[.slice A s.parts.length c, .int .i64 s.values] 29 (0, 0)) ∧ Hid (∀ p ∈ s.parts.take m, (List.range p.next.length).all (fun i => !critB s.parts p i) = true)) (fun j _ => s.parts.length - (intOf j).toNat)
  case atStart => exact ⟨0, Nat.zero_le _, rfl, hB1, b1, Lib.hid (fun p hp => by simp at hp)⟩
  case round =>
    clear hB1 b1
    obtain ⟨m, hm, rfl, HB, b1, HI⟩ := hrel
    rename World => wo
    by_cases hlt : m < s.parts.length
    · rcases hrow with hnil | ⟨b, o, rfl, hb, hcell⟩
      · rw [hnil] at hlt; simp at hlt
      obtain ⟨_, _, _, _, hp, ⟨B1, d1, rfl, h1⟩, ⟨B2, d2, rfl, h2⟩, ⟨A5, c5, rfl, h5⟩, ⟨B4, d4, rfl, h4⟩⟩ := hcell m hlt
      obtain ⟨q0, q1, q2, q3, q4, q5⟩ := partAt_below hp HB
      clear hp hcell h1 h2 h4 h5
      have j0 : (0 : Int) ≤ (m : Int) := Int.natCast_nonneg _
      have j1 : (m : Int) < (s.parts.length : Int) := by omega
      have hB1 := HB.alloc HB.size (.cells #[.slice B1 s.parts[m].params.length d1, .slice B2 s.parts[m].code.length d2, .int .i64 s.parts[m].go, .int .i64 s.parts[m].test, .slice A5 s.parts[m].next.length c5, .slice B4 s.parts[m].args.length d4] 54)
      have b2 := blk_alloc b1 (.cells #[.slice B1 s.parts[m].params.length d1, .slice B2 s.parts[m].code.length d2, .int .i64 s.parts[m].go, .int .i64 s.parts[m].test, .slice A5 s.parts[m].next.length c5, .slice B4 s.parts[m].args.length d4] 54)
      have HC := Lib.hid (fun i (hi : i < s.parts[m].next.length) W (hW : Below w.heap.size w W) (hb : W.heap[w.heap.size]? = some (.cells #[.slice (some ⟨b, o, none⟩) s.parts.length c, .int .i64 s.values] 29 (0, 0))) => critI_calls s m i w.heap.size _ W hb (hs.below hW) hlt hi (hgp.out.args_lt hlt hi) hx1 hnl)
      have HNo := Lib.hid (fun i (hi : i < s.parts[m].next.length) h => split_no hlt hi h)
      have HYes := Lib.hid (fun h => forall_take_succ (P := fun p : Pt => (List.range p.next.length).all (fun i => !critB s.parts p i) = true) hlt HI.out h)
      have hL := hnl _ (List.getElem_mem hlt)
      generalize s.parts[m] = q at *
      go_wp2
      clear q0 q1 q2 q3 q4 q5 HB b1
      go_loopw [21] (fun j wr => ∃ n : Nat, n ≤ q.next.length ∧ j = .int .i64 n ∧ Below w.heap.size w wr ∧ wr.heap[w.heap.size]? = some (.cells #[.slice (some ⟨b, o, none⟩) s.parts.length c, .int .i64 s.values] 29 (0, 0)) ∧ Hid (∀ i, i < n → critB s.parts q i = false)) (fun j _ => q.next.length - (intOf j).toNat)
      case atStart => exact ⟨0, Nat.zero_le _, rfl, hB1, b2, Lib.hid (fun i hi => by omega)⟩
      case round =>
        clear hB1 b2
        obtain ⟨n, hn2, rfl, HB, b1, HJ⟩ := hrel
        rename World => wi
        by_cases hnt : n < q.next.length
        · have n0 : (0 : Int) ≤ (n : Int) := Int.natCast_nonneg _
          have n1 : (n : Int) < (q.next.length : Int) := by omega
          have HC1 := Lib.hid (HC.out n hnt wi HB b1)
          have HN1 := Lib.hid (HNo.out n hnt)
          have HJ1 : Hid (critB s.parts q n = false → ∀ i, i < n + 1 → critB s.parts q i = false) := Lib.hid (fun h i hi => by
            rcases Nat.lt_or_eq_of_le (Nat.le_of_lt_succ hi) with hi | rfl
            · exact HJ.out i hi
            · exact h)
          generalize critB s.parts q n = r at *
          go_wp2_with fail
          refine HC1.out.mono ?_
          rintro e w2 ⟨rfl, hb2⟩
          have hB2 := below_then HB hb2
          have b2 := blk_below b1 hb2
          clear HC1 hb2 HB b1
          cases r
          · have HJ2 := Lib.hid (HJ1.out rfl)
            go_wp2
            go_roundw
            case rel => exact ⟨n + 1, by omega, by go_num, hB2, b2, HJ2⟩
            case measure => simp [intOf]; omega
          · have HN2 : Hid (splitB s = false) := Lib.hid (HN1.out rfl)
            go_wp2
            refine bodyPost_ret (v := .tuple #[.bool false, .bool true]) (by simp [results, Try.results18, go_sem]) rfl ?_
            exact .mk true (Lib.hid ⟨fun _ => hg.out.1 trivial, fun _ => rfl⟩) (by rw [HN2.out]; rfl) hB2
        · obtain rfl : n = q.next.length := by omega
          have HY := Lib.hid (HYes.out (by rw [List.all_eq_true]; intro i hi; rw [HJ.out i (List.mem_range.1 hi)]; rfl))
          go_wp2
          go_roundw
          case rel => exact ⟨m + 1, by omega, by go_num, HB, b1, HY⟩
          case measure => simp [intOf]; omega
    · obtain rfl : m = s.parts.length := by omega
      have HY : Hid (splitB s = true) := Lib.hid (by have := HI.out; rw [List.take_length] at this; unfold splitB; rw [List.all_eq_true]; exact this)
      go_wp2
      refine bodyPost_ret (v := .tuple #[.bool true, .bool true]) (by simp [results, Try.results18, go_sem]) rfl ?_
      exact .mk true (Lib.hid ⟨fun _ => hg.out.1 trivial, fun _ => rfl⟩) (by rw [HY.out]; rfl) HB
end Go.Proofs.Ytmcnoeinjocimaa.L

set_option linter.unusedVariables false
set_option linter.unusedSimpArgs false
namespace Go.Proofs.Ytmcnoeinjocimaa.L
open Go.RowKit
theorem getD_set_bang {D : List Int} {a b : Nat} {x : Int} (ha : a < D.length) : (D.set a x)[b]! = if b = a then x else D[b]! := by
  by_cases h : b = a
  · subst h; rw [if_pos rfl]; simp [ha]
  · rw [if_neg h]; simp [List.getElem!_eq_getElem?_getD, List.getElem?_set, Ne.symm h]
theorem defStep_nodup {k : Int} (hk : 0 ≤ k) : ∀ {l : List Int} {D D' : List Int}, defStep k D l = some D' → l.Nodup ∧ ∀ v ∈ l, 0 ≤ v ∧ D[v.toNat]! < 0
  | [], _, _, _ => ⟨List.nodup_nil, fun v h => by cases h⟩
  | v :: t, D, D', h => by
    unfold defStep at h
    split at h
    · cases h
    · rename_i hc
      obtain ⟨h1, h2⟩ := defStep_nodup hk h
      have hv : v.toNat < D.length := by omega
      refine ⟨List.nodup_cons.2 ⟨fun hm => ?_, h1⟩, fun u hu => ?_⟩
      · have := (h2 v hm).2
        rw [getD_set_bang hv, if_pos rfl] at this; omega
      · rcases List.mem_cons.1 hu with rfl | hu
        · omega
        · obtain ⟨h3, h4⟩ := h2 u hu
          rw [getD_set_bang hv] at h4
          split at h4
          · omega
          · exact ⟨h3, h4⟩
theorem defsFrom_nodup : ∀ {ps : List Pt} {k : Int} {D D' : List Int}, 0 ≤ k → defsFrom k D ps = some D' → ∀ p ∈ ps, (ownS p).Nodup
  | [], _, _, _, _, _, p, hp => by cases hp
  | q :: t, k, D, D', hk, h, p, hp => by
    unfold defsFrom at h
    obtain ⟨D1, h1, h2⟩ := Option.bind_eq_some_iff.1 h
    rcases List.mem_cons.1 hp with rfl | hp
    · exact (defStep_nodup hk h1).1
    · exact defsFrom_nodup (by omega) h2 p hp
theorem GoodP.own_nodup {s : Sa} (h : GoodP s) {p : Pt} (hp : p ∈ s.parts) : (ownS p).Nodup := by
  obtain ⟨D, hD⟩ := Option.isSome_iff_exists.1 h.defs
  exact defsFrom_nodup (by omega) hD p hp
theorem GoodP.params_len {s : Sa} (h : GoodP s) {p : Pt} (hp : p ∈ s.parts) : p.params.length ≤ 250 := by
  obtain ⟨q, hq, hqe⟩ := List.getElem_of_mem hp
  have hq' : s.parts[q]? = some p := by rw [List.getElem?_eq_getElem hq, hqe]
  have hn := (List.nodup_append.1 (h.own_nodup hp)).1
  exact len_nodup_range hn (fun x hx => by have := h.own_def hq' (v := x) (List.mem_append.2 (.inl hx)); have := h.v2; omega)
theorem GoodP.next_len {s : Sa} (h : GoodP s) {p : Pt} (hp : p ∈ s.parts) : p.next.length ≤ 6 := by
  have hs := h.static hp
  unfold staticI at hs
  simp only [Bool.and_eq_true] at hs
  have hg := hs.1.1.2
  unfold goB at hg
  simp only [Bool.and_eq_true] at hg
  have hg := hg.2
  split at hg
  · simp at hg; omega
  · split at hg
    · simp at hg; omega
    · split at hg
      · unfold inB at hg; simp at hg; omega
      · simp at hg; rw [hg.2]; simp
theorem fitS_rows {parts : List Pt} {N : Nat} (hN : ∀ q ∈ parts, q.params.length ≤ N) : ∀ {ks : List Int} {l : List (List Int)}, fitS parts ks l = true → ∀ a ∈ l, a.length ≤ N
  | [], [], _, a, ha => by cases ha
  | [], _ :: _, h, _, _ => by simp [fitS] at h
  | _ :: _, [], h, _, ha => by cases ha
  | k :: ks, b :: l, h, a, ha => by
    simp only [fitS, Bool.and_eq_true] at h
    rcases List.mem_cons.1 ha with rfl | ha
    · cases hq : parts[k.toNat]? with
      | none => rw [hq] at h; simp at h
      | some q =>
        rw [hq] at h
        have := hN q (List.mem_of_getElem? hq)
        simp at h; omega
    · exact fitS_rows hN h.2 a ha
theorem GoodP.ptOk {s : Sa} (h : GoodP s) {p : Pt} (hp : p ∈ s.parts) : PtOk p := by
  have h1 := h.params_len hp
  have h2 := h.next_len hp
  have hs := h.static hp
  unfold staticI at hs
  simp only [Bool.and_eq_true] at hs
  have hpt := h.pt p hp
  unfold partS midS at hpt
  simp only [Bool.and_eq_true, decide_eq_true_eq] at hpt
  have h3 := hpt.1.2.2
  have ha := hs.2
  unfold argsS at ha
  refine ⟨by omega, by omega, by omega, ?_⟩
  split at ha
  · split at ha
    · rename_i a he
      rw [he]
      refine ⟨by simp, fun b hb => ?_⟩
      rw [List.mem_singleton.1 hb]
      simp at ha; omega
    · cases ha
  · have := fitS_len _ _ _ ha
    exact ⟨by omega, fun a haa => by have := fitS_rows (N := 250) (fun q hq => h.params_len hq) ha a haa; omega⟩
theorem GoodP.ptsOk {s : Sa} (h : GoodP s) : PtsOk s.parts := ⟨by have := h.n2; omega, fun p hp => h.ptOk hp⟩
/-- A part that goes on with what an edge hands on. -/
def extraP (tw : Int) (l : List Int) : Pt := ⟨[], [], 1, 0, [tw], [l]⟩
def setNA (p : Pt) (i : Nat) (x : Int) : Pt := { p with next := p.next.set i x, args := p.args.set i [] }
def stepSp (ps : List Pt) (p : Pt) (st : Pt × List Pt) (i : Nat) : Pt × List Pt :=
  if critB ps p i = true then (setNA st.1 i ((ps.length + st.2.length : Nat) : Int), st.2 ++ [extraP (p.next.getD i 0) (p.args.getD i [])]) else st
def splitP (ps : List Pt) (p : Pt) (ex : List Pt) : Nat → Pt × List Pt
  | 0 => (p, ex)
  | i + 1 => stepSp ps p (splitP ps p ex i) i
def splitK (ps : List Pt) : Nat → List Pt × List Pt
  | 0 => (ps, [])
  | k + 1 => ((splitK ps k).1.set k (splitP ps (ps.getD k zPt) (splitK ps k).2 (ps.getD k zPt).next.length).1, (splitP ps (ps.getD k zPt) (splitK ps k).2 (ps.getD k zPt).next.length).2)
def splitS (s : Sa) : Sa := ⟨(splitK s.parts s.parts.length).1 ++ (splitK s.parts s.parts.length).2, s.values⟩
def splitN (s : Sa) : Nat := (splitK s.parts s.parts.length).2.length
/-- What stays of a part while its places are split. -/
structure SpI (p : Pt) (q : Pt) (i : Nat) : Prop where
  pa : q.params = p.params
  co : q.code = p.code
  go : q.go = p.go
  te : q.test = p.test
  nl : q.next.length = p.next.length
  al : q.args.length = p.args.length
  nx : ∀ j, i ≤ j → q.next[j]? = p.next[j]?
  ar : ∀ j, i ≤ j → q.args[j]? = p.args[j]?
  am : ∀ a ∈ q.args, a = [] ∨ a ∈ p.args
theorem splitP_inv (ps : List Pt) (p : Pt) (ex : List Pt) : ∀ i, SpI p (splitP ps p ex i).1 i ∧ ex.length ≤ (splitP ps p ex i).2.length ∧ (splitP ps p ex i).2.length ≤ ex.length + i
  | 0 => ⟨⟨rfl, rfl, rfl, rfl, rfl, rfl, fun _ _ => rfl, fun _ _ => rfl, fun _ h => .inr h⟩, Nat.le_refl _, Nat.le_refl _⟩
  | i + 1 => by
    obtain ⟨h, h1, h2⟩ := splitP_inv ps p ex i
    unfold splitP stepSp
    split
    · refine ⟨⟨h.pa, h.co, h.go, h.te, by simp [setNA, h.nl], by simp [setNA, h.al], fun j hj => ?_, fun j hj => ?_, fun a ha => ?_⟩, by simp; omega, by simp; omega⟩
      · unfold setNA; dsimp only; rw [List.getElem?_set_ne (by omega)]; exact h.nx j (by omega)
      · unfold setNA; dsimp only; rw [List.getElem?_set_ne (by omega)]; exact h.ar j (by omega)
      · rcases List.mem_or_eq_of_mem_set ha with ha | rfl
        · exact h.am a ha
        · exact .inl rfl
    · exact ⟨⟨h.pa, h.co, h.go, h.te, h.nl, h.al, fun j hj => h.nx j (by omega), fun j hj => h.ar j (by omega), h.am⟩, h1, by omega⟩
theorem splitK_inv (ps : List Pt) : ∀ k, (splitK ps k).1.length = ps.length ∧ ∀ j, k ≤ j → (splitK ps k).1[j]? = ps[j]?
  | 0 => ⟨rfl, fun _ _ => rfl⟩
  | k + 1 => by
    obtain ⟨h1, h2⟩ := splitK_inv ps k
    refine ⟨by simp [splitK, h1], fun j hj => ?_⟩
    simp only [splitK]
    rw [List.getElem?_set_ne (by omega)]; exact h2 j (by omega)
theorem edgesN_app (A B : List Pt) (x : Int) : edgesN (A ++ B) x = edgesN A x + edgesN B x := by unfold edgesN; rw [List.map_append, List.sum_append]
theorem edgesN_set : ∀ {A : List Pt} {k : Nat} (q : Pt) (x : Int) (hk : k < A.length), edgesN (A.set k q) x + A[k].next.count x = edgesN A x + q.next.count x
  | p :: t, 0, q, x, _ => by simp [edgesN]; omega
  | p :: t, k + 1, q, x, hk => by
    have := edgesN_set (A := t) (k := k) q x (by simpa using hk)
    simp only [edgesN, List.set_cons_succ, List.map_cons, List.sum_cons, List.getElem_cons_succ] at this ⊢
    omega
theorem count_set : ∀ {l : List Int} {i : Nat} (v x : Int) (hi : i < l.length), (l.set i v).count x + (if l[i] = x then 1 else 0) = l.count x + (if v = x then 1 else 0)
  | a :: t, 0, v, x, _ => by simp [List.count_cons]; omega
  | a :: t, i + 1, v, x, hi => by
    have := count_set (l := t) (i := i) v x (by simpa using hi)
    simp only [List.set_cons_succ, List.count_cons, List.getElem_cons_succ] at this ⊢
    omega
/-- The parts that are now lead to the parts that were as often as those that were. -/
def EOk (ps cur : List Pt) : Prop := ∀ x : Int, x < ps.length → edgesN cur x = edgesN ps x
theorem EOk.step {ps L ex : List Pt} {P : Pt} {k i : Nat} {tw : Int} {l : List Int} (h : EOk ps (L.set k P ++ ex)) (hk : k < L.length) (hi : i < P.next.length) (hto : P.next[i] = tw) {n : Int} (hn : (ps.length : Int) ≤ n) : EOk ps (L.set k (setNA P i n) ++ (ex ++ [extraP tw l])) := by
  intro x hx
  have h0 := h x hx
  have h1 := edgesN_set (A := L.set k P) (k := k) (setNA P i n) x (by simpa using hk)
  rw [List.set_set, List.getElem_set_self] at h1
  have h2 := count_set (l := P.next) (i := i) n x hi
  have e1 : (setNA P i n).next = P.next.set i n := rfl
  rw [e1] at h1
  rw [edgesN_app] at h0
  rw [edgesN_app, edgesN_app]
  have e2 : edgesN [extraP tw l] x = if tw = x then 1 else 0 := by simp [edgesN, extraP, List.count_cons]
  rw [e2]
  rw [hto, if_neg (show ¬ n = x by omega)] at h2
  omega
theorem splitP_edges {ps : List Pt} {k : Nat} {ex : List Pt} {p : Pt} (hp : ps[k]? = some p) (hkl : k < (splitK ps k).1.length) (h : EOk ps ((splitK ps k).1.set k p ++ ex)) : ∀ i, i ≤ p.next.length → EOk ps ((splitK ps k).1.set k (splitP ps p ex i).1 ++ (splitP ps p ex i).2)
  | 0, _ => h
  | i + 1, hi => by
    have ih := splitP_edges hp hkl h i (by omega)
    obtain ⟨hI, _, _⟩ := splitP_inv ps p ex i
    unfold splitP stepSp
    split
    · have hil : i < (splitP ps p ex i).1.next.length := by rw [hI.nl]; omega
      refine EOk.step ih hkl hil ?_ (by omega)
      have := hI.nx i (Nat.le_refl _)
      rw [List.getElem?_eq_getElem hil, List.getElem?_eq_getElem (by omega)] at this
      rw [List.getD_eq_getElem?_getD, List.getElem?_eq_getElem (by omega)]
      exact Option.some.inj this
    · exact ih
theorem splitK_set {ps : List Pt} {k : Nat} {p : Pt} (hp : ps[k]? = some p) : (splitK ps k).1.set k p = (splitK ps k).1 := by
  have h := (splitK_inv ps k).2 k (Nat.le_refl _)
  rw [hp] at h
  obtain ⟨hk, he⟩ := List.getElem?_eq_some_iff.1 h
  rw [← he, List.set_getElem_self]
theorem splitK_edges (ps : List Pt) : ∀ k, k ≤ ps.length → EOk ps ((splitK ps k).1 ++ (splitK ps k).2)
  | 0, _ => fun x _ => by simp [splitK]
  | k + 1, hk => by
    have ih := splitK_edges ps k (by omega)
    have hp : ps[k]? = some (ps.getD k zPt) := by rw [List.getD_eq_getElem?_getD, List.getElem?_eq_getElem (by omega)]; rfl
    have hkl : k < (splitK ps k).1.length := by rw [(splitK_inv ps k).1]; omega
    rw [← splitK_set hp] at ih
    exact splitP_edges hp hkl ih _ (Nat.le_refl _)
/-- The edge is critical now just if it was at first. -/
theorem crit_now {s : Sa} (h : GoodP s) {k i : Nat} {p : Pt} {ex : List Pt} (hp : s.parts[k]? = some p) (hi : i < p.next.length) (he : EOk s.parts ((splitK s.parts k).1.set k (splitP s.parts p ex i).1 ++ (splitP s.parts p ex i).2)) :
    critB ((splitK s.parts k).1.set k (splitP s.parts p ex i).1 ++ (splitP s.parts p ex i).2) (splitP s.parts p ex i).1 i = critB s.parts p i := by
  obtain ⟨hI, _, _⟩ := splitP_inv s.parts p ex i
  unfold critB
  have e1 : (splitP s.parts p ex i).1.next.getD i 0 = p.next.getD i 0 := by rw [List.getD_eq_getElem?_getD, List.getD_eq_getElem?_getD, hI.nx i (Nat.le_refl _)]
  have e2 : (splitP s.parts p ex i).1.args.getD i [] = p.args.getD i [] := by rw [List.getD_eq_getElem?_getD, List.getD_eq_getElem?_getD, hI.ar i (Nat.le_refl _)]
  have e3 : p.next.getD i 0 = p.next[i] := by rw [List.getD_eq_getElem?_getD, List.getElem?_eq_getElem hi]; rfl
  have hx := h.nx p (List.mem_of_getElem? hp) _ (List.getElem_mem hi)
  rw [hI.nl, e1, e2, e3, he _ hx.2]
/-- Bounds of what comes of it. -/
structure SpB (ps : List Pt) (L ex : List Pt) : Prop where
  l : ∀ p ∈ L, PtOk p
  e : ∀ p ∈ ex, PtOk p
theorem extra_ok {tw : Int} {l : List Int} (h : l.length ≤ 300) : PtOk (extraP tw l) := ⟨by simp [extraP], by simp [extraP], by simp [extraP], by simp [extraP], fun a ha => by simp [extraP] at ha; rw [ha]; exact h⟩
theorem SpI.ok {p q : Pt} {i : Nat} (h : SpI p q i) (hp : PtOk p) : PtOk q := ⟨by rw [h.pa]; exact hp.1, by rw [h.co]; exact hp.2.1, by rw [h.nl]; exact hp.2.2.1, by rw [h.al]; exact hp.2.2.2.1, fun a ha => by rcases h.am a ha with rfl | ha; simp; exact hp.2.2.2.2 a ha⟩
theorem splitP_ok {ps : List Pt} {p : Pt} {ex : List Pt} (hp : PtOk p) (he : ∀ q ∈ ex, PtOk q) : ∀ i, ∀ q ∈ (splitP ps p ex i).2, PtOk q
  | 0 => he
  | i + 1 => by
    have ih := splitP_ok (ps := ps) hp he i
    unfold splitP stepSp
    split
    · intro q hq
      rcases List.mem_append.1 hq with hq | hq
      · exact ih q hq
      · rw [List.mem_singleton.1 hq]
        refine extra_ok ?_
        rw [List.getD_eq_getElem?_getD]
        cases ha : p.args[i]? with
        | none => simp
        | some a => exact hp.2.2.2.2 a (List.mem_of_getElem? ha)
    · exact ih
theorem splitK_ok {ps : List Pt} (hp : ∀ p ∈ ps, PtOk p) : ∀ k, k ≤ ps.length → SpB ps (splitK ps k).1 (splitK ps k).2 ∧ (splitK ps k).2.length ≤ 10 * k
  | 0, _ => ⟨⟨hp, fun _ h => by cases h⟩, by simp [splitK]⟩
  | k + 1, hk => by
    obtain ⟨h1, h2⟩ := splitK_ok hp k (by omega)
    have hm : ps.getD k zPt ∈ ps := by rw [List.getD_eq_getElem?_getD, List.getElem?_eq_getElem (by omega)]; exact List.getElem_mem _
    have hok := hp _ hm
    obtain ⟨hI, _, h4⟩ := splitP_inv ps (ps.getD k zPt) (splitK ps k).2 (ps.getD k zPt).next.length
    refine ⟨⟨fun q hq => ?_, splitP_ok hok h1.e _⟩, ?_⟩
    · rcases List.mem_or_eq_of_mem_set hq with hq | rfl
      · exact h1.l q hq
      · exact hI.ok hok
    · have := hok.2.2.1
      simp only [splitK]; omega
theorem PtOk.lim {p : Pt} (h : PtOk p) : PtLim p := ⟨by have := h.1; omega, by have := h.2.1; omega, by have := h.2.2.1; omega, by have := h.2.2.2.1; omega, fun a ha => by have := h.2.2.2.2 a ha; omega⟩
theorem splitS_lim {s : Sa} (h : GoodP s) : SaLim (splitS s) := by
  obtain ⟨h1, h2⟩ := splitK_ok (ps := s.parts) (fun p hp => h.ptOk hp) s.parts.length (Nat.le_refl _)
  have h3 := (splitK_inv s.parts s.parts.length).1
  have h4 := h.n2
  refine ⟨?_, fun p hp => ?_⟩
  · show ((splitK s.parts s.parts.length).1 ++ _).length ≤ _
    rw [List.length_append]; omega
  · rcases List.mem_append.1 hp with hp | hp
    · exact (h1.l p hp).lim
    · exact (h1.e p hp).lim
theorem now_ok {s : Sa} (h : GoodP s) {k i : Nat} {p : Pt} (hp : s.parts[k]? = some p) (hi : i ≤ p.next.length) :
    (∀ q ∈ (splitK s.parts k).1.set k (splitP s.parts p (splitK s.parts k).2 i).1 ++ (splitP s.parts p (splitK s.parts k).2 i).2, PtOk q) ∧ (splitP s.parts p (splitK s.parts k).2 i).2.length ≤ 120 := by
  have hk : k < s.parts.length := (List.getElem?_eq_some_iff.1 hp).1
  obtain ⟨h1, h2⟩ := splitK_ok (ps := s.parts) (fun p hp => h.ptOk hp) k (by omega)
  have hpo := h.ptOk (List.mem_of_getElem? hp)
  obtain ⟨h3, _, h5⟩ := splitP_inv s.parts p (splitK s.parts k).2 i
  have hn := h.n2
  have hnx := hpo.2.2.1
  refine ⟨fun q hq => ?_, by omega⟩
  rcases List.mem_append.1 hq with hq | hq
  · rcases List.mem_or_eq_of_mem_set hq with hq | rfl
    · exact h1.l q hq
    · exact h3.ok hpo
  · exact splitP_ok hpo h1.e i q hq
theorem splitK_succ {ps : List Pt} {k : Nat} {p : Pt} (hp : ps[k]? = some p) : splitK ps (k + 1) = ((splitK ps k).1.set k (splitP ps p (splitK ps k).2 p.next.length).1, (splitP ps p (splitK ps k).2 p.next.length).2) := by
  have : ps.getD k zPt = p := by rw [List.getD_eq_getElem?_getD, hp]; rfl
  simp only [splitK, this]
theorem splitP_edges0 {s : Sa} {k : Nat} {p : Pt} (hp : s.parts[k]? = some p) {i : Nat} (hi : i ≤ p.next.length) : EOk s.parts ((splitK s.parts k).1.set k (splitP s.parts p (splitK s.parts k).2 i).1 ++ (splitP s.parts p (splitK s.parts k).2 i).2) := by
  have hk : k < s.parts.length := (List.getElem?_eq_some_iff.1 hp).1
  have h := splitK_edges s.parts k (by omega)
  rw [← splitK_set hp] at h
  exact splitP_edges hp (by rw [(splitK_inv s.parts k).1]; exact hk) h i hi
end Go.Proofs.Ytmcnoeinjocimaa.L

set_option linter.unusedVariables false
set_option linter.unusedSimpArgs false
namespace Go.Proofs.Ytmcnoeinjocimaa.L
open Go.RowKit
set_option maxHeartbeats 4000000 in
theorem cloneI_calls {F : Nat → Prop} (v : Value) (l : List Int) (w : World) (h : Rp.Rd Rp.int w F v l) (hl : l.length ≤ 1048576) :
    Calls Try.prog 104 #[v] w fun e w' => ∃ v', e = .returned v' ∧ Ow true 3 Rp.int w' (fun k => w.heap.size ≤ k) v' l ∧ Below w.heap.size w w' := by
  obtain ⟨A, c, rfl, hlc, hcm, hrow⟩ := rd_int h
  have q22 : ∀ (w : World) (a : Option Addr) (n c n' c' : Nat), (binOp .eql 35 (.slice a n c) (.slice none n' c')).run Try.prog w = .ok (.bool a.isNone) w := fun w a n c n' c' => Lib.run_eql_slice_nil w _ _ a n c n' c' Try.underlying35
  cases A with
  | none =>
    obtain rfl : l = [] := by rcases hrow with h | ⟨b, o, h, _⟩; exact h; cases h
    go_enter Try.func104, Try.ntmps104
    go_wp2
    go_ret
    exact ⟨_, rfl, Ow.nil _ _ _ _ _, Below.refl _ _⟩
  | some ad =>
    clear hrow
    have hH := h.below (below_new (w := w) (.cells #[] 3))
    have hB := (below_new (w := w) (.cells #[] 3)).size
    have HE : Ow true 3 Rp.int (w.alloc (.cells #[] 3)) (fun k => w.heap.size ≤ k) (.slice (some ⟨w.heap.size, 0, none⟩) 0 0) [] :=
      ⟨fun _ _ => False, [], World.ownsRow_lit w #[] 0 (Nat.zero_le _) (by unfold maxLen; omega) (by simp), fun k hk => by simp [Value.ownBlock] at hk; omega, fun _ _ h => h.elim, fun _ _ _ _ h => h.elim, fun i x hx => by simp at hx⟩
    go_enter Try.func104, Try.ntmps104
    go_wp2_with (at_builtin; have _t := HE; refine acc_appendf (r := Rp.int) (e := 3) (B := w.heap.size) (w0 := w) int_flat (by rfl) _ _ 35 (.int .i64 0) 8 (by rfl) Try.underlying35 infoInt rfl (by decide) (by omega) (.slice (some ⟨w.heap.size, 0, none⟩) 0 0) (.slice (some ad) l.length c) [] l (by rfl) (by rfl) true HE hH (below_new _) hB (by simp; omega) ?_; intro v1 w1 HO1 HB1 hB1; clear HE)
    go_ret
    exact ⟨_, rfl, HO1, HB1⟩
set_option maxHeartbeats 4000000 in
theorem cloneF_calls {F : Nat → Prop} (v : Value) (l : List Fl) (w : World) (h : Rp.Rd flat w F v l) (hl : l.length ≤ 1048576) :
    Calls Try.prog 105 #[v] w fun e w' => ∃ v', e = .returned v' ∧ Ow true 61 flat w' (fun k => w.heap.size ≤ k) v' l ∧ Below w.heap.size w w' := by
  obtain ⟨A, c, rfl, hlc, hcm, hrow⟩ := rd_flat h
  have q22 : ∀ (w : World) (a : Option Addr) (n c n' c' : Nat), (binOp .eql 52 (.slice a n c) (.slice none n' c')).run Try.prog w = .ok (.bool a.isNone) w := fun w a n c n' c' => Lib.run_eql_slice_nil w _ _ a n c n' c' Try.underlying52
  cases A with
  | none =>
    obtain rfl : l = [] := by rcases hrow with h | ⟨b, o, h, _⟩; exact h; cases h
    go_enter Try.func105, Try.ntmps105
    go_wp2
    go_ret
    exact ⟨_, rfl, Ow.nil _ _ _ _ _, Below.refl _ _⟩
  | some ad =>
    clear hrow
    have hH := h.below (below_new (w := w) (.cells #[] 61))
    have hB := (below_new (w := w) (.cells #[] 61)).size
    have HE : Ow true 61 flat (w.alloc (.cells #[] 61)) (fun k => w.heap.size ≤ k) (.slice (some ⟨w.heap.size, 0, none⟩) 0 0) [] :=
      ⟨fun _ _ => False, [], World.ownsRow_lit w #[] 0 (Nat.zero_le _) (by unfold maxLen; omega) (by simp), fun k hk => by simp [Value.ownBlock] at hk; omega, fun _ _ h => h.elim, fun _ _ _ _ h => h.elim, fun i x hx => by simp at hx⟩
    go_enter Try.func105, Try.ntmps105
    go_wp2_with (at_builtin; have _t := HE; refine acc_appendf (r := flat) (e := 61) (B := w.heap.size) (w0 := w) flat_flat (by rfl) _ _ 52 (.agg #[.int .i64 0, .int .i64 0, .int .i64 0, .int .i64 0, .int .i64 0, .int .i64 0]) 48 (by rfl) Try.underlying52 infoFlat rfl (by decide) (by omega) (.slice (some ⟨w.heap.size, 0, none⟩) 0 0) (.slice (some ad) l.length c) [] l (by rfl) (by rfl) true HE hH (below_new _) hB (by simp; omega) ?_; intro v1 w1 HO1 HB1 hB1; clear HE)
    go_ret
    exact ⟨_, rfl, HO1, HB1⟩
end Go.Proofs.Ytmcnoeinjocimaa.L

set_option linter.unusedVariables false
namespace Go.Proofs.Ytmcnoeinjocimaa.L
open Go.RowKit
section
variable {P : Program} {ops : Array Oper} {Q : Exit → Act → World → Prop} {md : Region.Mode} {C : World → Prop} {T : List (Nat × (World → Prop))}
/-- What each store leaves true until it comes up. -/
def Till : List (Nat × (World → Prop)) → Array Bool → World → Prop
  | [], _, _ => True
  | c :: r, L, w => (L.getD c.1 false = false → c.2 w) ∧ Till r L w
theorem getD_other {L : Array Bool} {i t : Nat} (h : i ≠ t) : (L.setIfInBounds i true).getD t false = L.getD t false := by
  simp [Array.getD_eq_getD_getElem?, Array.getElem?_setIfInBounds_ne h]
theorem Till.other {L : Array Bool} {i : Nat} {w : World} : ∀ {T : List (Nat × (World → Prop))}, (T.map Prod.fst).all (fun t => t != i) = true → (Till T (L.setIfInBounds i true) w ↔ Till T L w)
  | [], _ => Iff.rfl
  | c :: r, h => by
    simp only [List.map_cons, List.all_cons, Bool.and_eq_true, bne_iff_ne, ne_eq] at h
    unfold Till
    rw [getD_other (fun e => h.1 e.symm), Till.other (T := r) h.2]
theorem Till.get {L : Array Bool} {w : World} {t : Nat} : ∀ {T : List (Nat × (World → Prop))} {k : Nat}, T[k]? = some (t, C) → Till T L w → L.getD t false = false → C w
  | [], _, h, _, _ => by simp at h
  | c :: r, 0, h, hT, hL => by simp at h; subst h; exact hT.1 hL
  | c :: r, k + 1, h, hT, hL => Till.get (T := r) (k := k) (by simpa using h) hT.2 hL
/-- Any order; behind each operation what the stores that have not come up leave true holds. -/
def AnyT (P : Program) (md : Region.Mode) (ops : Array Oper) (Q : Exit → Act → World → Prop) (T : List (Nat × (World → Prop))) : Nat → Array Bool → Act → World → Prop
  | 0, L, a, w => Region.ready md ops L = [] ∧ Q .normal a w
  | n + 1, L, a, w => (Region.ready md ops L = [] → Q .normal a w) ∧
      ∀ i ∈ Region.ready md ops L, wpOp P ops Q i (fun a' w' => Till T (L.setIfInBounds i true) w' ∧ AnyT P md ops Q T n (L.setIfInBounds i true) a' w') a w
theorem anyT_any : ∀ (n : Nat) (L : Array Bool) (a : Act) (w : World), AnyT P md ops Q T n L a w → wpAny P md ops Q n L a w
  | 0, _, _, _, h => h
  | n + 1, _, _, _, h => ⟨h.1, fun i hi => wpOp_mono (fun a' w' k => anyT_any n _ a' w' k.2) (h.2 i hi)⟩
theorem not_ready {L : Array Bool} {i j : Nat} (hw : Region.waitsFor md ops j i = true) (hi : i ∈ Region.ready md ops L) : j ∉ Region.ready md ops L := by
  intro hj
  obtain ⟨oj, hoj, e, he, hb, hon⟩ := Region.waitsFor_spec hw
  obtain ⟨_, oj', hoj', hall⟩ := mem_ready.1 hj
  have he' := hall e (by rw [hoj] at hoj'; cases hoj'; exact he) hb
  have h0 := (mem_ready.1 hi).1
  rw [hon] at he'
  rcases Nat.lt_or_ge i L.size with h | h
  · simp [h] at h0 he'; rw [h0] at he'; cases he'
  · simp [Array.getElem?_eq_none h] at h0
theorem anyT_first {i : Nat} {oi : Oper} {v : Value} (I : Array Bool → Prop) (hI : ∀ L j, I L → i ∈ Region.ready md ops L → j ∈ Region.ready md ops L → j ≠ i → I (L.setIfInBounds j true)) (hIC : ∀ L w, I L → Till T L w → C w)
    (hi : ops[i]? = some oi) (hsel : ∀ (j : Nat) (o : Oper) cs b, ops[j]? = some o → o.op ≠ .select cs b)
    (hQ : ∀ c a w, Q (.panic c) (a.put oi.dst v) w → Q (.panic c) a w) (hT : (T.map Prod.fst).all (fun t => t != i) = true) :
    ∀ (n : Nat) (L : Array Bool) (a : Act) (w : World),
      (∀ j oj, ops[j]? = some oj → j ≠ i → L.getD j true = false → (∀ e ∈ oj.after, Region.binds md e = true → e.on ≠ i) → oi.apart ops oj = true) →
      i ∈ Region.ready md ops L → I L → YieldsIf P ops C oi v a → Till T L w → AnyT P md ops Q T n (L.setIfInBounds i true) (a.put oi.dst v) w → AnyT P md ops Q T (n + 1) L a w := by
  have one : ∀ (L : Array Bool) (a : Act) (w : World) (n : Nat), I L → YieldsIf P ops C oi v a → Till T L w → AnyT P md ops Q T n (L.setIfInBounds i true) (a.put oi.dst v) w →
      wpOp P ops Q i (fun a' w' => Till T (L.setIfInBounds i true) w' ∧ AnyT P md ops Q T n (L.setIfInBounds i true) a' w') a w := fun L a w n hL hy hC H => hy.wpOp hi (hIC L w hL hC) ⟨(Till.other hT).2 hC, H⟩
  intro n
  induction n with
  | zero =>
    intro L a w _ hr hL hy hC H
    refine ⟨fun h => (by rw [h] at hr; cases hr), fun j hj => ?_⟩
    by_cases hji : j = i
    · rw [hji]; exact one L a w 0 hL hy hC H
    · have := ready_mono hj hji
      rw [H.1] at this; cases this
  | succ n ih =>
    intro L a w hfree hr hL hy hC H
    refine ⟨fun h => (by rw [h] at hr; cases hr), fun j hj => ?_⟩
    by_cases hji : j = i
    · rw [hji]; exact one L a w _ hL hy hC H
    · have h1 := H.2 j (ready_mono hj hji)
      obtain ⟨hjun, oj, hoj, hall⟩ := mem_ready.1 hj
      have hnot : ∀ e ∈ oj.after, Region.binds md e = true → e.on ≠ i := fun e he hb heq => by
        have hwj : Region.waitsFor md ops j i = true := by
          unfold Region.waitsFor
          rw [hoj]
          exact Array.any_eq_true'.2 ⟨e, he, by simp [hb, heq]⟩
        exact not_ready hwj hr hj
      have h2 := wpOp_putIf hoj (hfree j oj hoj hji hjun hnot) (fun cs b => hsel i oi cs b hi) (fun cs b => hsel j oj cs b hoj) hQ hy h1
      have hfree2 : ∀ k ok, ops[k]? = some ok → k ≠ i → (L.setIfInBounds j true).getD k true = false → (∀ e ∈ ok.after, Region.binds md e = true → e.on ≠ i) → oi.apart ops ok = true := fun k ok hk hki hun hno => by
        refine hfree k ok hk hki ?_ hno
        by_cases hjk : j = k
        · rw [← hjk]; exact hjun
        · rwa [getD_set_ne true hjk] at hun
      refine wpOp_mono (fun a' w' h3 => ?_) h2
      have hC3 : Till T (L.setIfInBounds j true) w' := (Till.other hT).1 (by rw [Array.setIfInBounds_comm _ _ hji]; exact h3.2.1)
      refine ⟨hC3, ih (L.setIfInBounds j true) a' w' hfree2 (ready_mono hr (Ne.symm hji)) (hI L j hL hr hj hji) h3.1 hC3 ?_⟩
      rw [Array.setIfInBounds_comm _ _ hji]
      exact h3.2.2
/-- Number i is taken first: nothing but store t, which waits for it, changes what it reads. -/
theorem anyT_take {i k t : Nat} {oi : Oper} {v : Value} {n : Nat} {L : Array Bool} {a : Act} {w : World} (hk : T[k]? = some (t, C)) (hi : ops[i]? = some oi)
    (hs : Region.noSelect ops = true) (hf : Region.free md ops L i = true) (hr : ((Region.ready md ops L).contains i && (Region.waitsFor md ops t i && (!L.getD t false && (T.map Prod.fst).all (fun t => t != i)))) = true)
    (hQ : ∀ c a w, Q (.panic c) (a.put oi.dst v) w → Q (.panic c) a w) (hy : YieldsIf P ops C oi v a) (hC : Till T L w)
    (h : AnyT P md ops Q T n (L.setIfInBounds i true) (a.put oi.dst v) w) : AnyT P md ops Q T (n + 1) L a w := by
  simp only [Bool.and_eq_true, Bool.not_eq_true'] at hr
  exact anyT_first (fun L => L.getD t false = false) (fun L j hL hri hrj _ => (getD_other (fun e => not_ready hr.2.1 hri (by rw [← e]; exact hrj))).trans hL) (fun L w hL hT => hT.get hk hL) hi (Region.noSelect_spec hs) hQ hr.2.2.2 n L a w (Region.free_spec hi hf) (by simpa using hr.1) hr.2.2.1 hy hC h
/-- Number i, whose value no world changes, is taken first. -/
theorem anyT_pure {i : Nat} {oi : Oper} {v : Value} {n : Nat} {L : Array Bool} {a : Act} {w : World} (hi : ops[i]? = some oi)
    (hs : Region.noSelect ops = true) (hf : Region.free md ops L i = true) (hr : ((Region.ready md ops L).contains i && (T.map Prod.fst).all (fun t => t != i)) = true)
    (hQ : ∀ c a w, Q (.panic c) (a.put oi.dst v) w → Q (.panic c) a w) (hy : YieldsIf P ops (fun _ => True) oi v a) (hC : Till T L w)
    (h : AnyT P md ops Q T n (L.setIfInBounds i true) (a.put oi.dst v) w) : AnyT P md ops Q T (n + 1) L a w := by
  simp only [Bool.and_eq_true] at hr
  exact anyT_first (fun _ => True) (fun _ _ _ _ _ _ => trivial) (fun _ _ _ _ => trivial) hi (Region.noSelect_spec hs) hQ hr.2 n L a w (Region.free_spec hi hf) (by simpa using hr.1) trivial hy hC h
/-- The operations of rs may come up next. -/
def AllT (P : Program) (md : Region.Mode) (ops : Array Oper) (Q : Exit → Act → World → Prop) (T : List (Nat × (World → Prop))) (n : Nat) (L : Array Bool) (a : Act) (w : World) (rs : List Nat) : Prop :=
  ∀ i ∈ rs, wpOp P ops Q i (fun a' w' => Till T (L.setIfInBounds i true) w' ∧ AnyT P md ops Q T n (L.setIfInBounds i true) a' w') a w
theorem AllT.nil {n : Nat} {L : Array Bool} {a : Act} {w : World} : AllT P md ops Q T n L a w [] := fun _ h => by cases h
theorem AllT.cons {n : Nat} {L : Array Bool} {a : Act} {w : World} {i : Nat} {o : Oper} {rs : List Nat} (ho : ops[i]? = some o)
    (h : ∀ K : Act → World → Prop, Hid (∀ a w, Till T (L.setIfInBounds i true) w → (Till T (L.setIfInBounds i true) w → AnyT P md ops Q T n (L.setIfInBounds i true) a w) → K a w) → if Region.wanted o (yielded ops a.tmps) = true then Oper.wp P o a w K Q else K (a.put o.dst undef) w)
    (hs : AllT P md ops Q T n L a w rs) : AllT P md ops Q T n L a w (i :: rs) := fun j hj => by
  rcases List.mem_cons.1 hj with rfl | hj
  · exact wpOp_step ho (fun K hK => h K (Lib.hid (fun a w hC hW => hK a w ⟨hC, hW hC⟩)))
  · exact hs j hj
theorem anyT_ready {rs : List Nat} {n : Nat} {L : Array Bool} {a : Act} {w : World} (hr : Region.ready md ops L = rs) (hne : rs ≠ [])
    (h : AllT P md ops Q T n L a w rs) : AnyT P md ops Q T (n + 1) L a w := ⟨fun h0 => absurd (hr ▸ h0) hne, hr ▸ h⟩
theorem anyT_done {L : Array Bool} {a : Act} {w : World} (hr : Region.ready md ops L = []) (h : Q .normal a w) : ∀ n, AnyT P md ops Q T n L a w
  | 0 => ⟨hr, h⟩
  | _ + 1 => ⟨fun _ => h, by rw [hr]; simp⟩
theorem anyT_region (T : List (Nat × (World → Prop))) {id : Nat} {a : Act} {w : World} (hm : P.follows .mixedOrders = true) (hC : Till T (Array.replicate ops.size false) w.drew)
    (h : Till T (Array.replicate ops.size false) w.drew → AnyT P .any ops Q T ops.size (Array.replicate ops.size false) a w.drew) : (Code.region id ops true).wp P Q a w :=
  wp_region_any hm (anyT_any _ _ _ _ (h hC))
end
end Go.Proofs.Ytmcnoeinjocimaa.L
