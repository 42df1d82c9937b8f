/- Joined texts, each of which was built by itself: Is1 Is2 Is3 JOp. -/
import Derived.Test.YtmcnoeinjocimaaFIsSplit10
import Derived.Deep.RegionHeld3
import Derived.Test.YtmcnoeinjocimaaFIsSplit9
import Derived.Test.YtmcnoeinjocimaaFIsSplit1
import Derived.ProofKit
import Derived.Test.YtmcnoeinjocimaaProg
import Derived.Test.YtmcnoeinjocimaaFIsSplit2
set_option linter.unusedVariables false
set_option linter.unusedSimpArgs false
namespace Go.Proofs.Ytmcnoeinjocimaa.L
open Go.RowKit
theorem oneIf_calls (b : Bool) (w : World) : Calls Try.prog 87 #[.bool b] w fun e w' => e = .returned (.int .i64 (if b then 1 else 0)) ∧ w = w' := by
  cases b
  · go_enter Try.func87, Try.ntmps87
    go_wp2
    go_ret
    exact ⟨rfl, rfl⟩
  · go_enter Try.func87, Try.ntmps87
    go_wp2
    go_ret
    exact ⟨rfl, rfl⟩
theorem if_nat (P : Prop) [Decidable P] : (if decide P = true then (1 : Int) else 0) = ((if P then 1 else 0 : Nat) : Int) := by
  by_cases h : P <;> simp [h]
set_option maxRecDepth 100000 in
set_option maxHeartbeats 4000000 in
theorem critI_calls {F : Nat → Prop} (s : Sa) (k i sb : Nat) (vparts : Value) (w : World) (hb0 : w.heap[sb]? = some (.cells #[vparts, .int .i64 s.values] 29 (0, 0))) (hs : Rp.Rd part w F vparts s.parts) (hk : k < s.parts.length)
    (hi : i < s.parts[k].next.length) (ha : i < s.parts[k].args.length) (hn : s.parts.length ≤ 1048576) (hl : ∀ p ∈ s.parts, p.next.length ≤ 1048576) :
    Calls Try.prog 55 #[.pointer (some ⟨sb, 0, none⟩), .int .i64 k, .int .i64 i] w fun e w' => e = .returned (.bool (critB s.parts s.parts[k] i)) ∧ Below w.heap.size w w' := by
  obtain ⟨A, c, rfl, hlc, hcm, hrow⟩ := rd_part hs
  rcases hrow with hnil | ⟨b, o, rfl, hb, hcell⟩
  · rw [hnil] at hk; simp at hk
  obtain ⟨A1, c1, A2, c2, A3, c3, A4, c4, hp⟩ : ∃ A1 c1 A2 c2 A3 c3 A4 c4, (partAt w b (o + k * 6) s.parts[k] (.slice A1 s.parts[k].params.length c1) (.slice A2 s.parts[k].code.length c2) (.slice A3 s.parts[k].next.length c3) (.slice A4 s.parts[k].args.length c4)) ∧ Rp.Rd Rp.int w (fun _ => True) (.slice A3 s.parts[k].next.length c3) s.parts[k].next ∧ Rp.Rd (Rp.sl Rp.int) w (fun _ => True) (.slice A4 s.parts[k].args.length c4) s.parts[k].args := by
    obtain ⟨_, _, _, _, hp, ⟨A1, c1, rfl, h1⟩, ⟨A2, c2, rfl, h2⟩, ⟨A3, c3, rfl, h3⟩, ⟨A4, c4, rfl, h4⟩⟩ := hcell k hk
    exact ⟨A1, c1, A2, c2, A3, c3, A4, c4, hp, Rp.Rd.mono (fun _ _ => trivial) ⟨A3, c3, rfl, h3⟩, Rp.Rd.mono (fun _ _ => trivial) ⟨A4, c4, rfl, h4⟩⟩
  obtain ⟨hp, hxn, hxa⟩ := hp
  have HN : Hid (s.parts[k].next.getD i 0 = s.parts[k].next[i]) := Lib.hid (by rw [List.getD_eq_getElem?_getD, List.getElem?_eq_getElem hi]; rfl)
  have HA : Hid (s.parts[k].args.getD i [] = s.parts[k].args[i]) := Lib.hid (by rw [List.getD_eq_getElem?_getD, List.getElem?_eq_getElem ha]; rfl)
  have HX : Hid (critB s.parts s.parts[k] i = (decide (1 < s.parts[k].next.length) && decide (1 < edgesN s.parts s.parts[k].next[i]) && decide (0 < s.parts[k].args[i].length))) := Lib.hid (by unfold critB; rw [HN.out, HA.out])
  clear HN HA
  obtain ⟨x0, x1, x2, x3, x4, x5⟩ := hp
  obtain ⟨An, cn, he, _, _, hrn⟩ := rd_int hxn
  cases he
  obtain ⟨Aa, ca, he, _, _, hra⟩ := rd_ints hxa
  cases he
  rcases hrn with hnil | ⟨bn, on, rfl, hbn, hcn⟩
  · rw [hnil] at hi; simp at hi
  rcases hra with hnil | ⟨ba, oa, rfl, hba, hca⟩
  · rw [hnil] at ha; simp at ha
  have y0 := hcn i hi
  obtain ⟨u, z0, hu⟩ := hca i ha
  obtain ⟨Au, ku, rfl, _⟩ := hu
  clear hcn hca
  obtain ⟨v0, _⟩ := cell_of_block hb0
  have v0 : w.cell? ⟨sb, 0, none⟩ = some (.slice (some ⟨b, o, none⟩) s.parts.length c) := (v0 0).trans rfl
  have i0 : (0 : Int) ≤ (k : Int) := Int.natCast_nonneg _
  have i1 : (k : Int) < (s.parts.length : Int) := by omega
  have i2 : (0 : Int) ≤ (i : Int) := Int.natCast_nonneg _
  have i3 : (i : Int) < (s.parts[k].next.length : Int) := by omega
  have i4 : (i : Int) < (s.parts[k].args.length : Int) := by omega
  clear hxn hxa
  generalize s.parts[k].next[i] = K at *
  generalize s.parts[k].args[i] = a at *
  clear hi ha
  generalize s.parts[k] = p at *
  have HC := Lib.hid (fun b W => oneIf_calls b W)
  go_enter Try.func55, Try.ntmps55
  go_wp2
  go_loopw [8, 24] (fun z j wr => ∃ m : Nat, m ≤ s.parts.length ∧ j = .int .i64 m ∧ z = .int .i64 (edgesN (s.parts.take m) K : Nat) ∧ Below w.heap.size w wr) (fun _ j _ => s.parts.length - (intOf j).toNat)
  case atStart => exact ⟨0, Nat.zero_le _, rfl, rfl, Below.refl _ _⟩
  case round =>
    obtain ⟨m, hm, rfl, rfl, HB⟩ := hrel
    rename World => wo
    by_cases hlt : m < s.parts.length
    · obtain ⟨_, _, _, _, hp, ⟨B1, d1, rfl, h1⟩, ⟨B2, d2, rfl, h2⟩, hxn, ⟨B4, d4, rfl, h4⟩⟩ := hcell m hlt
      obtain ⟨q0, q1, q2, q3, q4, q5⟩ := partAt_below hp HB
      have hxn := hxn.below HB
      have hE := edgesN_take hlt K
      have hL := hl _ (List.getElem_mem hlt)
      have hE0 := edgesN_le (k := K) (l := s.parts.take m) (fun q hq => hl q (List.mem_of_mem_take hq))
      rw [List.length_take] at hE0
      have hE1 : edgesN (s.parts.take m) K ≤ 1048576 * 1048576 := Nat.le_trans hE0 (Nat.mul_le_mul (by omega) (Nat.le_refl _))
      clear hp hE0
      have hE := Lib.hid hE
      generalize edgesN (s.parts.take m) K = z at *
      generalize s.parts[m] = q at *
      obtain ⟨A5, c5, rfl, _, _, hrn⟩ := rd_int hxn
      have j0 : (0 : Int) ≤ (m : Int) := Int.natCast_nonneg _
      have j1 : (m : Int) < (s.parts.length : Int) := by omega
      have hB1 := HB.alloc HB.size (.cells #[.slice B1 q.params.length d1, .slice B2 q.code.length d2, .int .i64 q.go, .int .i64 q.test, .slice A5 q.next.length c5, .slice B4 q.args.length d4] 54)
      go_wp2
      have hbn := below_new (w := wo) (.cells #[.slice B1 q.params.length d1, .slice B2 q.code.length d2, .int .i64 q.go, .int .i64 q.test, .slice A5 q.next.length c5, .slice B4 q.args.length d4] 54)
      generalize wo.alloc (.cells #[.slice B1 q.params.length d1, .slice B2 q.code.length d2, .int .i64 q.go, .int .i64 q.test, .slice A5 q.next.length c5, .slice B4 q.args.length d4] 54) = W1 at *
      have X4 := cell_below hB1 x4
      have Y0 := cell_below hB1 y0
      clear q0 q1 q2 q3 q4 q5 HB
      go_loop [8, 31] (fun z2 j => ∃ n : Nat, n ≤ q.next.length ∧ j = .int .i64 n ∧ z2 = .int .i64 (z + (q.next.take n).count K : Nat)) (fun _ j => q.next.length - (intOf j).toNat)
      case atStart => exact ⟨0, Nat.zero_le _, rfl, rfl⟩
      case round =>
        obtain ⟨n, hn2, rfl, rfl⟩ := hrel
        by_cases hnt : n < q.next.length
        · rcases hrn with hnil | ⟨b3, o3, rfl, hb3, hc3⟩
          · rw [hnil] at hnt; simp at hnt
          have q3 := cell_below hbn (hc3 n hnt)
          have hcl := List.count_le_length (a := K) (l := q.next.take n)
          rw [List.length_take] at hcl
          have hct := Lib.hid (count_take hnt K)
          clear hc3
          generalize (q.next.take n).count K = y at *
          generalize q.next[n] = x at *
          have n0 : (0 : Int) ≤ (n : Int) := Int.natCast_nonneg _
          have n1 : (n : Int) < (q.next.length : Int) := by omega
          by_cases hxK : x = K
          · have hct2 : Hid ((q.next.take (n + 1)).count K = y + 1) := Lib.hid (by rw [hct.out, if_pos hxK])
            have hd : (x == K) = true := by simpa using hxK
            clear hct hxK
            go_wp2_with (go_at_call 87; refine (HC.out _ _).mono ?_; rintro e w' ⟨rfl, rfl⟩)
            go_round
            case rel => exact ⟨n + 1, by omega, by go_num, by rw [hct2.out]; go_num⟩
            case measure => simp [intOf]; omega
          · have hct2 : Hid ((q.next.take (n + 1)).count K = y) := Lib.hid (by rw [hct.out, if_neg hxK]; rfl)
            have hd : (x == K) = false := by simpa using hxK
            clear hct hxK
            go_wp2_with (go_at_call 87; refine (HC.out _ _).mono ?_; rintro e w' ⟨rfl, rfl⟩)
            go_round
            case rel => exact ⟨n + 1, by omega, by go_num, by rw [hct2.out]; go_num⟩
            case measure => simp [intOf]; omega
        · obtain rfl : n = q.next.length := by omega
          rw [List.take_length]
          go_wp2
          go_roundw
          case rel => exact ⟨m + 1, by omega, by go_num, by rw [hE.out], hB1⟩
          case measure => simp [intOf]; omega
    · obtain rfl : m = s.parts.length := by omega
      rw [List.take_length]
      have X4 := cell_below HB x4
      have X5 := cell_below HB x5
      have Z0 := cell_below HB z0
      clear x0 x1 x2 x3 x4 x5 z0 y0 v0 hcell hs hl hb0
      generalize edgesN s.parts K = z at *
      generalize hL1 : p.next.length = L1 at *
      generalize hL2 : a.length = L2 at *
      by_cases d1 : 1 < L1
      · have g1 : decide ((1 : Int) < (L1 : Int)) = true := decide_eq_true (by omega)
        by_cases d2 : 1 < z
        · have g2 : decide ((1 : Int) < (z : Int)) = true := decide_eq_true (by omega)
          by_cases d3 : 0 < L2
          · have g3 : decide (0 < L2) = true := decide_eq_true (by omega)
            have HN : Hid (critB s.parts p i = true) := Lib.hid (by rw [HX.out, decide_eq_true d1, decide_eq_true d2, decide_eq_true d3]; rfl)
            clear HX d1 d2 d3
            go_wp2
            go_ret
            exact ⟨ret_bool HN.out.symm, HB⟩
          · have g3 : decide (0 < L2) = false := decide_eq_false (by omega)
            have HN : Hid (critB s.parts p i = false) := Lib.hid (by rw [HX.out, decide_eq_false d3, Bool.and_false])
            clear HX d1 d2 d3
            go_wp2
            go_ret
            exact ⟨ret_bool HN.out.symm, HB⟩
        · have g2 : decide ((1 : Int) < (z : Int)) = false := decide_eq_false (by omega)
          have HN : Hid (critB s.parts p i = false) := Lib.hid (by rw [HX.out, decide_eq_false d2, Bool.and_false, Bool.false_and])
          clear HX d1 d2
          go_wp2
          go_ret
          exact ⟨ret_bool HN.out.symm, HB⟩
      · have g1 : decide ((1 : Int) < (L1 : Int)) = false := decide_eq_false (by omega)
        have HN : Hid (critB s.parts p i = false) := Lib.hid (by rw [HX.out, decide_eq_false d1, Bool.false_and, Bool.false_and])
        clear HX d1
        go_wp2
        go_ret
        exact ⟨ret_bool HN.out.symm, HB⟩
/-- Whether an ssa is split, and whether it is good. -/
inductive SplitRes (G : Prop) (s : Sa) (w : World) (e : Ending) (w' : World) : Prop where
  | mk (g : Bool) (hg : Hid (g = true ↔ G)) (he : e = .returned (.tuple #[.bool (g && splitB s), .bool g])) (hb : Below w.heap.size w w') : SplitRes G s w e w'
theorem GoodP.args_lt {s : Sa} (h : GoodP s) {k i : Nat} (hk : k < s.parts.length) (hi : i < s.parts[k].next.length) : i < s.parts[k].args.length :=
  Nat.lt_of_lt_of_le hi (static_args (h.static (List.getElem_mem hk)))
theorem split_no {s : Sa} {k i : Nat} (hk : k < s.parts.length) (hi : i < s.parts[k].next.length) (h : critB s.parts s.parts[k] i = true) : splitB s = false := by
  unfold splitB
  rw [List.all_eq_false]
  refine ⟨s.parts[k], List.getElem_mem hk, ?_⟩
  rw [Bool.not_eq_true, List.all_eq_false]
  exact ⟨i, List.mem_range.2 hi, by rw [h]; simp⟩
set_option maxRecDepth 100000 in
set_option maxHeartbeats 4000000 in
theorem splitI_calls {F : Nat → Prop} (s : Sa) (vparts : Value) (w : World) (hs : Rp.Rd part w F vparts s.parts) (hx1 : s.parts.length ≤ 1048576) (hx2 : ∀ p ∈ s.parts, PtLim p) :
    Calls Try.prog 18 #[saV s vparts] w (SplitRes (∃ D T M, GoodV s D T M) s w) := by
  obtain ⟨A, c, rfl, hlc, hcm, hrow⟩ := rd_part hs
  have HG := Lib.hid (fun W (hW : Below w.heap.size w W) => goodI_calls s _ W (hs.below hW) hx1 hx2)
  have hnl : ∀ p ∈ s.parts, p.next.length ≤ 1048576 := fun p hp => (hx2 p hp).2.2.1
  unfold saV at HG ⊢
  have hB0 : Below w.heap.size w (w.alloc (.cells #[.slice A s.parts.length c, .int .i64 s.values] 29)) := below_new _
  have b0 := heap_alloc_new w (.cells #[.slice A s.parts.length c, .int .i64 s.values] 29)
  go_enter Try.func18, Try.ntmps18
  go_wp2_with fail
  refine (HG.out _ hB0).mono ?_
  rintro e w1 ⟨g, rfl, hg, hb1⟩
  have hB1 := below_then hB0 hb1
  have b1 := blk_below b0 hb1
  clear hb1 b0 hB0 HG
  cases g
  · go_wp2
    refine bodyPost_ret (v := .tuple #[.bool false, .bool false]) (by simp [results, Try.results18, go_sem]) rfl ?_
    exact .mk false hg rfl hB1
  have hgp := Lib.hid ((good_iff s).1 (hg.out.1 rfl))
  obtain ⟨v0, _⟩ := cell_of_block b1
  have v0 : w1.cell? ⟨w.heap.size, 0, none⟩ = some (.slice A s.parts.length c) := (v0 0).trans rfl
  go_wp2
  clear v0
  go_loopw [13] (fun j wr => ∃ m : Nat, m ≤ s.parts.length ∧ j = .int .i64 m ∧ Below w.heap.size w wr ∧ wr.heap[w.heap.size]? = some (.cells #[.slice A s.parts.length c, .int .i64 s.values] 29 (0, 0)) ∧ Hid (∀ p ∈ s.parts.take m, (List.range p.next.length).all (fun i => !critB s.parts p i) = true)) (fun j _ => s.parts.length - (intOf j).toNat)
  case atStart => exact ⟨0, Nat.zero_le _, rfl, hB1, b1, Lib.hid (fun p hp => by simp at hp)⟩
  case round =>
    clear hB1 b1
    obtain ⟨m, hm, rfl, HB, b1, HI⟩ := hrel
    rename World => wo
    by_cases hlt : m < s.parts.length
    · rcases hrow with hnil | ⟨b, o, rfl, hb, hcell⟩
      · rw [hnil] at hlt; simp at hlt
      obtain ⟨_, _, _, _, hp, ⟨B1, d1, rfl, h1⟩, ⟨B2, d2, rfl, h2⟩, ⟨A5, c5, rfl, h5⟩, ⟨B4, d4, rfl, h4⟩⟩ := hcell m hlt
      obtain ⟨q0, q1, q2, q3, q4, q5⟩ := partAt_below hp HB
      clear hp hcell h1 h2 h4 h5
      have j0 : (0 : Int) ≤ (m : Int) := Int.natCast_nonneg _
      have j1 : (m : Int) < (s.parts.length : Int) := by omega
      have hB1 := HB.alloc HB.size (.cells #[.slice B1 s.parts[m].params.length d1, .slice B2 s.parts[m].code.length d2, .int .i64 s.parts[m].go, .int .i64 s.parts[m].test, .slice A5 s.parts[m].next.length c5, .slice B4 s.parts[m].args.length d4] 54)
      have b2 := blk_alloc b1 (.cells #[.slice B1 s.parts[m].params.length d1, .slice B2 s.parts[m].code.length d2, .int .i64 s.parts[m].go, .int .i64 s.parts[m].test, .slice A5 s.parts[m].next.length c5, .slice B4 s.parts[m].args.length d4] 54)
      have HC := Lib.hid (fun i (hi : i < s.parts[m].next.length) W (hW : Below w.heap.size w W) (hb : W.heap[w.heap.size]? = some (.cells #[.slice (some ⟨b, o, none⟩) s.parts.length c, .int .i64 s.values] 29 (0, 0))) => critI_calls s m i w.heap.size _ W hb (hs.below hW) hlt hi (hgp.out.args_lt hlt hi) hx1 hnl)
      have HNo := Lib.hid (fun i (hi : i < s.parts[m].next.length) h => split_no hlt hi h)
      have HYes := Lib.hid (fun h => forall_take_succ (P := fun p : Pt => (List.range p.next.length).all (fun i => !critB s.parts p i) = true) hlt HI.out h)
      have hL := hnl _ (List.getElem_mem hlt)
      generalize s.parts[m] = q at *
      go_wp2
      clear q0 q1 q2 q3 q4 q5 HB b1
      go_loopw [21] (fun j wr => ∃ n : Nat, n ≤ q.next.length ∧ j = .int .i64 n ∧ Below w.heap.size w wr ∧ wr.heap[w.heap.size]? = some (.cells #[.slice (some ⟨b, o, none⟩) s.parts.length c, .int .i64 s.values] 29 (0, 0)) ∧ Hid (∀ i, i < n → critB s.parts q i = false)) (fun j _ => q.next.length - (intOf j).toNat)
      case atStart => exact ⟨0, Nat.zero_le _, rfl, hB1, b2, Lib.hid (fun i hi => by omega)⟩
      case round =>
        clear hB1 b2
        obtain ⟨n, hn2, rfl, HB, b1, HJ⟩ := hrel
        rename World => wi
        by_cases hnt : n < q.next.length
        · have n0 : (0 : Int) ≤ (n : Int) := Int.natCast_nonneg _
          have n1 : (n : Int) < (q.next.length : Int) := by omega
          have HC1 := Lib.hid (HC.out n hnt wi HB b1)
          have HN1 := Lib.hid (HNo.out n hnt)
          have HJ1 : Hid (critB s.parts q n = false → ∀ i, i < n + 1 → critB s.parts q i = false) := Lib.hid (fun h i hi => by
            rcases Nat.lt_or_eq_of_le (Nat.le_of_lt_succ hi) with hi | rfl
            · exact HJ.out i hi
            · exact h)
          generalize critB s.parts q n = r at *
          go_wp2_with fail
          refine HC1.out.mono ?_
          rintro e w2 ⟨rfl, hb2⟩
          have hB2 := below_then HB hb2
          have b2 := blk_below b1 hb2
          clear HC1 hb2 HB b1
          cases r
          · have HJ2 := Lib.hid (HJ1.out rfl)
            go_wp2
            go_roundw
            case rel => exact ⟨n + 1, by omega, by go_num, hB2, b2, HJ2⟩
            case measure => simp [intOf]; omega
          · have HN2 : Hid (splitB s = false) := Lib.hid (HN1.out rfl)
            go_wp2
            refine bodyPost_ret (v := .tuple #[.bool false, .bool true]) (by simp [results, Try.results18, go_sem]) rfl ?_
            exact .mk true (Lib.hid ⟨fun _ => hg.out.1 trivial, fun _ => rfl⟩) (by rw [HN2.out]; rfl) hB2
        · obtain rfl : n = q.next.length := by omega
          have HY := Lib.hid (HYes.out (by rw [List.all_eq_true]; intro i hi; rw [HJ.out i (List.mem_range.1 hi)]; rfl))
          go_wp2
          go_roundw
          case rel => exact ⟨m + 1, by omega, by go_num, HB, b1, HY⟩
          case measure => simp [intOf]; omega
    · obtain rfl : m = s.parts.length := by omega
      have HY : Hid (splitB s = true) := Lib.hid (by have := HI.out; rw [List.take_length] at this; unfold splitB; rw [List.all_eq_true]; exact this)
      go_wp2
      refine bodyPost_ret (v := .tuple #[.bool true, .bool true]) (by simp [results, Try.results18, go_sem]) rfl ?_
      exact .mk true (Lib.hid ⟨fun _ => hg.out.1 trivial, fun _ => rfl⟩) (by rw [HY.out]; rfl) HB
end Go.Proofs.Ytmcnoeinjocimaa.L

set_option linter.unusedVariables false
set_option linter.unusedSimpArgs false
namespace Go.Proofs.Ytmcnoeinjocimaa.L
open Go.RowKit
set_option maxRecDepth 100000 in
set_option maxHeartbeats 4000000 in
theorem edgesS_calls {F : Nat → Prop} (s : Sa) (K : Int) (vparts : Value) (w : World) (hs : Rp.Rd part w F vparts s.parts) (hn : s.parts.length ≤ 1048576) (hl : ∀ p ∈ s.parts, p.next.length ≤ 1048576) :
    Calls Try.prog 86 #[saV s vparts, .int .i64 K] w fun e w' => e = .returned (.int .i64 (edgesN s.parts K : Nat)) ∧ Below w.heap.size w w' := by
  obtain ⟨A, c, rfl, hlc, hcm, hrow⟩ := rd_part hs
  unfold saV
  have hB0 : Below w.heap.size w (w.alloc (.cells #[.slice A s.parts.length c, .int .i64 s.values] 29)) := below_new _
  go_enter Try.func86, Try.ntmps86
  go_wp2
  generalize w.alloc (.cells #[.slice A s.parts.length c, .int .i64 s.values] 29) = W0 at *
  go_loopw [5, 13] (fun z j wr => ∃ m : Nat, m ≤ s.parts.length ∧ j = .int .i64 m ∧ z = .int .i64 (edgesN (s.parts.take m) K : Nat) ∧ Below w.heap.size w wr) (fun _ j _ => s.parts.length - (intOf j).toNat)
  case atStart => exact ⟨0, Nat.zero_le _, rfl, rfl, hB0⟩
  case round =>
    clear hB0
    obtain ⟨m, hm, rfl, rfl, HB⟩ := hrel
    rename World => wo
    by_cases hlt : m < s.parts.length
    · rcases hrow with hnil | ⟨b, o, rfl, hb, hcell⟩
      · rw [hnil] at hlt; simp at hlt
      obtain ⟨_, _, _, _, hp, ⟨B1, d1, rfl, h1⟩, ⟨B2, d2, rfl, h2⟩, hxn, ⟨B4, d4, rfl, h4⟩⟩ := hcell m hlt
      obtain ⟨q0, q1, q2, q3, q4, q5⟩ := partAt_below hp HB
      have hxn := hxn.below HB
      have hE := edgesN_take hlt K
      have hL := hl _ (List.getElem_mem hlt)
      have hE0 := edgesN_le (k := K) (l := s.parts.take m) (fun q hq => hl q (List.mem_of_mem_take hq))
      rw [List.length_take] at hE0
      have hE1 : edgesN (s.parts.take m) K ≤ 1048576 * 1048576 := Nat.le_trans hE0 (Nat.mul_le_mul (by omega) (Nat.le_refl _))
      clear hp hE0 hcell
      have hE := Lib.hid hE
      generalize edgesN (s.parts.take m) K = z at *
      generalize s.parts[m] = q at *
      obtain ⟨A5, c5, rfl, _, _, hrn⟩ := rd_int hxn
      have j0 : (0 : Int) ≤ (m : Int) := Int.natCast_nonneg _
      have j1 : (m : Int) < (s.parts.length : Int) := by omega
      have hB1 := HB.alloc HB.size (.cells #[.slice B1 q.params.length d1, .slice B2 q.code.length d2, .int .i64 q.go, .int .i64 q.test, .slice A5 q.next.length c5, .slice B4 q.args.length d4] 54)
      go_wp2
      have hbn := below_new (w := wo) (.cells #[.slice B1 q.params.length d1, .slice B2 q.code.length d2, .int .i64 q.go, .int .i64 q.test, .slice A5 q.next.length c5, .slice B4 q.args.length d4] 54)
      generalize wo.alloc (.cells #[.slice B1 q.params.length d1, .slice B2 q.code.length d2, .int .i64 q.go, .int .i64 q.test, .slice A5 q.next.length c5, .slice B4 q.args.length d4] 54) = W1 at *
      clear q0 q1 q2 q3 q4 q5 HB
      go_loop [5, 20] (fun z2 j => ∃ n : Nat, n ≤ q.next.length ∧ j = .int .i64 n ∧ z2 = .int .i64 (z + (q.next.take n).count K : Nat)) (fun _ j => q.next.length - (intOf j).toNat)
      case atStart => exact ⟨0, Nat.zero_le _, rfl, rfl⟩
      case round =>
        obtain ⟨n, hn2, rfl, rfl⟩ := hrel
        by_cases hnt : n < q.next.length
        · rcases hrn with hnil | ⟨b3, o3, rfl, hb3, hc3⟩
          · rw [hnil] at hnt; simp at hnt
          have q3 := cell_below hbn (hc3 n hnt)
          have hcl := List.count_le_length (a := K) (l := q.next.take n)
          rw [List.length_take] at hcl
          have hct := Lib.hid (count_take hnt K)
          clear hc3
          generalize (q.next.take n).count K = y at *
          generalize q.next[n] = x at *
          have n0 : (0 : Int) ≤ (n : Int) := Int.natCast_nonneg _
          have n1 : (n : Int) < (q.next.length : Int) := by omega
          by_cases hxK : x = K
          · have hct2 : Hid ((q.next.take (n + 1)).count K = y + 1) := Lib.hid (by rw [hct.out, if_pos hxK])
            have hd : (x == K) = true := by simpa using hxK
            clear hct hxK
            go_wp2
            go_round
            case rel => exact ⟨n + 1, by omega, by go_num, by rw [hct2.out]; go_num⟩
            case measure => simp [intOf]; omega
          · have hct2 : Hid ((q.next.take (n + 1)).count K = y) := Lib.hid (by rw [hct.out, if_neg hxK]; rfl)
            have hd : (x == K) = false := by simpa using hxK
            clear hct hxK
            go_wp2
            go_round
            case rel => exact ⟨n + 1, by omega, by go_num, by rw [hct2.out]⟩
            case measure => simp [intOf]; omega
        · obtain rfl : n = q.next.length := by omega
          rw [List.take_length]
          go_wp2
          go_roundw
          case rel => exact ⟨m + 1, by omega, by go_num, by rw [hE.out], hB1⟩
          case measure => simp [intOf]; omega
    · obtain rfl : m = s.parts.length := by omega
      rw [List.take_length]
      go_wp2
      go_ret
      exact ⟨rfl, HB⟩
set_option maxRecDepth 100000 in
set_option maxHeartbeats 8000000 in
theorem critS_calls {F F2 : Nat → Prop} (s : Sa) (p : Pt) (i : Nat) (vparts v1 v2 v3 v4 : Value) (w : World) (hs : Rp.Rd part w F vparts s.parts) (hn : s.parts.length ≤ 1048576) (hl : ∀ p ∈ s.parts, p.next.length ≤ 1048576)
    (h1 : ∃ A c, v1 = .slice A p.params.length c) (h2 : ∃ A c, v2 = .slice A p.code.length c) (h3 : Rp.Rd Rp.int w F2 v3 p.next) (h4 : Rp.Rd (Rp.sl Rp.int) w F2 v4 p.args) (hi : i < p.next.length) (ha : i < p.args.length) :
    Calls Try.prog 54 #[saV s vparts, ptV p v1 v2 v3 v4, .int .i64 i] w fun e w' => e = .returned (.bool (critB s.parts p i)) ∧ Below w.heap.size w w' := by
  obtain ⟨A, c, rfl, _, _, _⟩ := rd_part hs
  obtain ⟨A1, c1, rfl⟩ := h1
  obtain ⟨A2, c2, rfl⟩ := h2
  obtain ⟨A3, c3, rfl, _, _, hr3⟩ := rd_int h3
  obtain ⟨A4, c4, rfl, _, _, hr4⟩ := rd_ints h4
  have HN : Hid (p.next.getD i 0 = p.next[i]) := Lib.hid (by rw [List.getD_eq_getElem?_getD, List.getElem?_eq_getElem hi]; rfl)
  have HA : Hid (p.args.getD i [] = p.args[i]) := Lib.hid (by rw [List.getD_eq_getElem?_getD, List.getElem?_eq_getElem ha]; rfl)
  have HX : Hid (critB s.parts p i = (decide (1 < p.next.length) && decide (1 < edgesN s.parts p.next[i]) && decide (0 < p.args[i].length))) := Lib.hid (by unfold critB; rw [HN.out, HA.out])
  clear HN HA
  rcases hr3 with hnil | ⟨bn, on, rfl, hbn, hcn⟩
  · rw [hnil] at hi; simp at hi
  rcases hr4 with hnil | ⟨ba, oa, rfl, hba, hca⟩
  · rw [hnil] at ha; simp at ha
  have y0 := hcn i hi
  obtain ⟨u, z0, hu⟩ := hca i ha
  obtain ⟨Au, ku, rfl, _⟩ := hu
  clear hcn hca
  have i2 : (0 : Int) ≤ (i : Int) := Int.natCast_nonneg _
  have i3 : (i : Int) < (p.next.length : Int) := by omega
  have i4 : (i : Int) < (p.args.length : Int) := by omega
  have HC := Lib.hid (fun K W (hW : Below w.heap.size w W) => edgesS_calls s K _ W (hs.below hW) hn hl)
  clear h3 h4
  generalize p.next[i] = K at *
  generalize p.args[i] = a at *
  clear hi ha hs hl
  have HC := Lib.hid (HC.out K)
  unfold saV at HC
  unfold saV ptV
  generalize edgesN s.parts K = z at *
  have hB1 : Below w.heap.size w (w.alloc (.cells #[.slice A s.parts.length c, .int .i64 s.values] 29)) := below_new _
  have b1 := heap_alloc_new w (.cells #[.slice A s.parts.length c, .int .i64 s.values] 29)
  obtain ⟨W1, hW1⟩ : ∃ W1, W1 = w.alloc (.cells #[.slice A s.parts.length c, .int .i64 s.values] 29) := ⟨_, rfl⟩
  rw [← hW1] at hB1 b1
  have hz1 : W1.heap.size = w.heap.size + 1 := by rw [hW1]; simp
  have hB2 := hB1.alloc hB1.size (.cells #[.slice A1 p.params.length c1, .slice A2 p.code.length c2, .int .i64 p.go, .int .i64 p.test, .slice (some ⟨bn, on, none⟩) p.next.length c3, .slice (some ⟨ba, oa, none⟩) p.args.length c4] 54)
  have b2 := heap_alloc_new W1 (.cells #[.slice A1 p.params.length c1, .slice A2 p.code.length c2, .int .i64 p.go, .int .i64 p.test, .slice (some ⟨bn, on, none⟩) p.next.length c3, .slice (some ⟨ba, oa, none⟩) p.args.length c4] 54)
  have b1' := blk_alloc b1 (.cells #[.slice A1 p.params.length c1, .slice A2 p.code.length c2, .int .i64 p.go, .int .i64 p.test, .slice (some ⟨bn, on, none⟩) p.next.length c3, .slice (some ⟨ba, oa, none⟩) p.args.length c4] 54)
  obtain ⟨x1, _⟩ := cell_of_block b1'
  obtain ⟨x2, _⟩ := cell_of_block b2
  have Y0 := cell_below hB2 y0
  have Z0 := cell_below hB2 z0
  obtain ⟨W2, hW2⟩ : ∃ W2, W2 = W1.alloc (.cells #[.slice A1 p.params.length c1, .slice A2 p.code.length c2, .int .i64 p.go, .int .i64 p.test, .slice (some ⟨bn, on, none⟩) p.next.length c3, .slice (some ⟨ba, oa, none⟩) p.args.length c4] 54) := ⟨_, rfl⟩
  rw [← hW2] at hB2 x1 x2 Y0 Z0
  have e10 : W2.cell? ⟨w.heap.size, 0, none⟩ = some (.slice A s.parts.length c) := (x1 0).trans rfl
  have e11 : W2.cell? ⟨w.heap.size, 1, none⟩ = some (.int .i64 s.values) := (x1 1).trans rfl
  have e24 : W2.cell? ⟨W1.heap.size, 4, none⟩ = some (.slice (some ⟨bn, on, none⟩) p.next.length c3) := (x2 4).trans rfl
  have e25 : W2.cell? ⟨W1.heap.size, 5, none⟩ = some (.slice (some ⟨ba, oa, none⟩) p.args.length c4) := (x2 5).trans rfl
  rw [hz1] at e24 e25
  clear x1 x2 b1 b2 b1' hB1 y0 z0
  replace hW1 := Lib.hid hW1
  replace hW2 := Lib.hid hW2
  generalize hL1 : p.next.length = L1 at *
  generalize hL2 : a.length = L2 at *
  by_cases d1 : 1 < L1
  · have g1 : decide ((1 : Int) < (L1 : Int)) = true := decide_eq_true (by omega)
    by_cases d3 : 0 < L2
    · have g3 : decide ((0 : Int) < (L2 : Int)) = true := decide_eq_true (by omega)
      have HY : Hid (decide ((1 : Int) < (z : Int)) = critB s.parts p i) := Lib.hid (by rw [HX.out, decide_eq_true d1, decide_eq_true d3, Bool.and_true, Bool.true_and, decide_eq_decide]; omega)
      clear HX
      go_enter Try.func54, Try.ntmps54
      go_wp2_with fail
      rw [← hW1.out, ← hW2.out]
      go_region_held3 (fun w' => w'.cell? ⟨w.heap.size, 0, none⟩ = some (.slice A s.parts.length c) ∧ w'.cell? ⟨w.heap.size, 1, none⟩ = some (.int .i64 s.values) ∧ w'.cell? ⟨w.heap.size + 1, 4, none⟩ = some (.slice (some ⟨bn, on, none⟩) L1 c3) ∧ w'.cell? ⟨w.heap.size + 1, 5, none⟩ = some (.slice (some ⟨ba, oa, none⟩) p.args.length c4) ∧ w'.cell? ⟨bn, on + i, none⟩ = some (.int .i64 K) ∧ w'.cell? ⟨ba, oa + i, none⟩ = some (.slice Au L2 ku))
        (first | go_keep | (go_split_ands; refine ⟨?_, ?_, ?_, ?_, ?_, ?_⟩ <;> exact cell_below hb9 (by assumption)))
        ((go_at_call 86; refine (HC.out _ (below_drew hB2)).mono ?_; rintro e w9 ⟨rfl, hb9⟩))
      have hB9 := below_then hB2 (below_then (below_drew (Below.refl _ _)) hb9)
      go_wp2
      go_ret
      exact ⟨ret_bool HY.out, hB9⟩
    · have g3 : decide ((0 : Int) < (L2 : Int)) = false := decide_eq_false (by omega)
      have HY : Hid (critB s.parts p i = false) := Lib.hid (by rw [HX.out, decide_eq_false d3, Bool.and_false])
      clear HX HC
      go_enter Try.func54, Try.ntmps54
      go_wp2_with fail
      rw [← hW1.out, ← hW2.out]
      go_region
      go_wp2
      go_ret
      exact ⟨ret_bool HY.out.symm, by first | exact hB2 | exact below_drew hB2⟩
  · have g1 : decide ((1 : Int) < (L1 : Int)) = false := decide_eq_false (by omega)
    have HY : Hid (critB s.parts p i = false) := Lib.hid (by rw [HX.out, decide_eq_false d1, Bool.false_and, Bool.false_and])
    clear HX HC
    go_enter Try.func54, Try.ntmps54
    go_wp2_with fail
    rw [← hW1.out, ← hW2.out]
    go_region
    go_wp2
    go_ret
    exact ⟨ret_bool HY.out.symm, by first | exact hB2 | exact below_drew hB2⟩
end Go.Proofs.Ytmcnoeinjocimaa.L

set_option linter.unusedVariables false
set_option linter.unusedSimpArgs false
namespace Go.Proofs.Ytmcnoeinjocimaa.L
open Go.RowKit
set_option maxRecDepth 100000 in
set_option maxHeartbeats 4000000 in
theorem splitS_calls {F : Nat → Prop} (s : Sa) (vparts : Value) (w : World) (hs : Rp.Rd part w F vparts s.parts) (hx1 : s.parts.length ≤ 1048576) (hx2 : ∀ p ∈ s.parts, PtLim p) :
    Calls Try.prog 17 #[saV s vparts] w (SplitRes (GoodP s) s w) := by
  obtain ⟨A, c, rfl, hlc, hcm, hrow⟩ := rd_part hs
  have HG := Lib.hid (fun W (hW : Below w.heap.size w W) => goodS_calls s _ W (hs.below hW) hx1 hx2)
  have hnl : ∀ p ∈ s.parts, p.next.length ≤ 1048576 := fun p hp => (hx2 p hp).2.2.1
  unfold saV at HG ⊢
  have hB0 : Below w.heap.size w (w.alloc (.cells #[.slice A s.parts.length c, .int .i64 s.values] 29)) := below_new _
  have b0 := heap_alloc_new w (.cells #[.slice A s.parts.length c, .int .i64 s.values] 29)
  go_enter Try.func17, Try.ntmps17
  go_wp2_with fail
  refine (HG.out _ hB0).mono ?_
  rintro e w1 ⟨g, rfl, hg, hb1⟩
  have hB1 := below_then hB0 hb1
  have b1 := blk_below b0 hb1
  clear hb1 b0 hB0 HG
  cases g
  · go_wp2
    refine bodyPost_ret (v := .tuple #[.bool false, .bool false]) (by simp [results, Try.results17, go_sem]) rfl ?_
    exact .mk false hg rfl hB1
  have hgp := Lib.hid (hg.out.1 rfl)
  obtain ⟨v0, _⟩ := cell_of_block b1
  have v0 : w1.cell? ⟨w.heap.size, 0, none⟩ = some (.slice A s.parts.length c) := (v0 0).trans rfl
  go_wp2
  clear v0
  go_loopw [13] (fun j wr => ∃ m : Nat, m ≤ s.parts.length ∧ j = .int .i64 m ∧ Below w.heap.size w wr ∧ wr.heap[w.heap.size]? = some (.cells #[.slice A s.parts.length c, .int .i64 s.values] 29 (0, 0)) ∧ Hid (∀ p ∈ s.parts.take m, (List.range p.next.length).all (fun i => !critB s.parts p i) = true)) (fun j _ => s.parts.length - (intOf j).toNat)
  case atStart => exact ⟨0, Nat.zero_le _, rfl, hB1, b1, Lib.hid (fun p hp => by simp at hp)⟩
  case round =>
    clear hB1 b1
    obtain ⟨m, hm, rfl, HB, b1, HI⟩ := hrel
    rename World => wo
    by_cases hlt : m < s.parts.length
    · rcases hrow with hnil | ⟨b, o, rfl, hb, hcell⟩
      · rw [hnil] at hlt; simp at hlt
      obtain ⟨_, _, _, _, hp, ⟨B1, d1, rfl, h1⟩, ⟨B2, d2, rfl, h2⟩, hr3, hr4⟩ := hcell m hlt
      obtain ⟨A5, c5, rfl, _⟩ := id hr3
      obtain ⟨B4, d4, rfl, _⟩ := id hr4
      obtain ⟨q0, q1, q2, q3, q4, q5⟩ := partAt_below hp HB
      clear hp hcell h1 h2
      have j0 : (0 : Int) ≤ (m : Int) := Int.natCast_nonneg _
      have j1 : (m : Int) < (s.parts.length : Int) := by omega
      have hB1 := HB.alloc HB.size (.cells #[.slice B1 s.parts[m].params.length d1, .slice B2 s.parts[m].code.length d2, .int .i64 s.parts[m].go, .int .i64 s.parts[m].test, .slice A5 s.parts[m].next.length c5, .slice B4 s.parts[m].args.length d4] 54)
      have b2 := blk_alloc b1 (.cells #[.slice B1 s.parts[m].params.length d1, .slice B2 s.parts[m].code.length d2, .int .i64 s.parts[m].go, .int .i64 s.parts[m].test, .slice A5 s.parts[m].next.length c5, .slice B4 s.parts[m].args.length d4] 54)
      have b3 := heap_alloc_new wo (.cells #[.slice B1 s.parts[m].params.length d1, .slice B2 s.parts[m].code.length d2, .int .i64 s.parts[m].go, .int .i64 s.parts[m].test, .slice A5 s.parts[m].next.length c5, .slice B4 s.parts[m].args.length d4] 54)
      have HC := Lib.hid (fun i (hi : i < s.parts[m].next.length) W (hW : Below w.heap.size w W) => critS_calls s s.parts[m] i (.slice (some ⟨b, o, none⟩) s.parts.length c) (.slice B1 s.parts[m].params.length d1) (.slice B2 s.parts[m].code.length d2) (.slice A5 s.parts[m].next.length c5) (.slice B4 s.parts[m].args.length d4) W (hs.below hW) hx1 hnl ⟨_, _, rfl⟩ ⟨_, _, rfl⟩ (hr3.below hW) (hr4.below hW) hi (hgp.out.args_lt hlt hi))
      have HNo := Lib.hid (fun i (hi : i < s.parts[m].next.length) h => split_no hlt hi h)
      have HYes := Lib.hid (fun h => forall_take_succ (P := fun p : Pt => (List.range p.next.length).all (fun i => !critB s.parts p i) = true) hlt HI.out h)
      have hL := hnl _ (List.getElem_mem hlt)
      clear hr3 hr4
      generalize s.parts[m] = q at *
      unfold saV ptV at HC
      go_wp2
      clear q0 q1 q2 q3 q4 q5 b1
      have HS := Lib.hid HB.size
      clear HB
      go_loopw [20] (fun j wr => ∃ n : Nat, n ≤ q.next.length ∧ j = .int .i64 n ∧ Below w.heap.size w wr ∧ wr.heap[w.heap.size]? = some (.cells #[.slice (some ⟨b, o, none⟩) s.parts.length c, .int .i64 s.values] 29 (0, 0)) ∧ wr.heap[wo.heap.size]? = some (.cells #[.slice B1 q.params.length d1, .slice B2 q.code.length d2, .int .i64 q.go, .int .i64 q.test, .slice A5 q.next.length c5, .slice B4 q.args.length d4] 54 (0, 0)) ∧ Hid (∀ i, i < n → critB s.parts q i = false)) (fun j _ => q.next.length - (intOf j).toNat)
      case atStart => exact ⟨0, Nat.zero_le _, rfl, hB1, b2, b3, Lib.hid (fun i hi => by omega)⟩
      case round =>
        clear hB1 b2 b3
        obtain ⟨n, hn2, rfl, HB, b1, b3, HJ⟩ := hrel
        rename World => wi
        by_cases hnt : n < q.next.length
        · have n0 : (0 : Int) ≤ (n : Int) := Int.natCast_nonneg _
          have n1 : (n : Int) < (q.next.length : Int) := by omega
          have HC1 := Lib.hid (HC.out n hnt wi HB)
          have HN1 := Lib.hid (HNo.out n hnt)
          have HJ1 : Hid (critB s.parts q n = false → ∀ i, i < n + 1 → critB s.parts q i = false) := Lib.hid (fun h i hi => by
            rcases Nat.lt_or_eq_of_le (Nat.le_of_lt_succ hi) with hi | rfl
            · exact HJ.out i hi
            · exact h)
          obtain ⟨x1, _⟩ := cell_of_block b1
          have x10 : wi.cell? ⟨w.heap.size, 0, none⟩ = some (.slice (some ⟨b, o, none⟩) s.parts.length c) := (x1 0).trans rfl
          have x11 : wi.cell? ⟨w.heap.size, 1, none⟩ = some (.int .i64 s.values) := (x1 1).trans rfl
          obtain ⟨x3, _⟩ := cell_of_block b3
          have x30 : wi.cell? ⟨wo.heap.size, 0, none⟩ = some (.slice B1 q.params.length d1) := (x3 0).trans rfl
          have x31 : wi.cell? ⟨wo.heap.size, 1, none⟩ = some (.slice B2 q.code.length d2) := (x3 1).trans rfl
          have x32 : wi.cell? ⟨wo.heap.size, 2, none⟩ = some (.int .i64 q.go) := (x3 2).trans rfl
          have x33 : wi.cell? ⟨wo.heap.size, 3, none⟩ = some (.int .i64 q.test) := (x3 3).trans rfl
          have x34 : wi.cell? ⟨wo.heap.size, 4, none⟩ = some (.slice A5 q.next.length c5) := (x3 4).trans rfl
          have x35 : wi.cell? ⟨wo.heap.size, 5, none⟩ = some (.slice B4 q.args.length d4) := (x3 5).trans rfl
          clear x1 x3
          generalize critB s.parts q n = r at *
          go_wp2_with fail
          refine HC1.out.mono ?_
          rintro e w2 ⟨rfl, hb2⟩
          have hB2 := below_then HB hb2
          have b2 := blk_below b1 hb2
          have b32 := blk_below b3 hb2
          clear HC1 hb2 HB b1 b3 x10 x11 x30 x31 x32 x33 x34 x35
          cases r
          · have HJ2 := Lib.hid (HJ1.out rfl)
            go_wp2
            go_roundw
            case rel => exact ⟨n + 1, by omega, by go_num, hB2, b2, b32, HJ2⟩
            case measure => simp [intOf]; omega
          · have HN2 : Hid (splitB s = false) := Lib.hid (HN1.out rfl)
            go_wp2
            refine bodyPost_ret (v := .tuple #[.bool false, .bool true]) (by simp [results, Try.results17, go_sem]) rfl ?_
            exact .mk true (Lib.hid ⟨fun _ => hgp.out, fun _ => rfl⟩) (by rw [HN2.out]; rfl) hB2
        · obtain rfl : n = q.next.length := by omega
          have HY := Lib.hid (HYes.out (by rw [List.all_eq_true]; intro i hi; rw [HJ.out i (List.mem_range.1 hi)]; rfl))
          clear b3
          go_wp2
          go_roundw
          case rel => exact ⟨m + 1, by omega, by go_num, HB, b1, HY⟩
          case measure => simp [intOf]; omega
    · obtain rfl : m = s.parts.length := by omega
      have HY : Hid (splitB s = true) := Lib.hid (by have := HI.out; rw [List.take_length] at this; unfold splitB; rw [List.all_eq_true]; exact this)
      go_wp2
      refine bodyPost_ret (v := .tuple #[.bool true, .bool true]) (by simp [results, Try.results17, go_sem]) rfl ?_
      exact .mk true (Lib.hid ⟨fun _ => hgp.out, fun _ => rfl⟩) (by rw [HY.out]; rfl) HB
theorem toSsa_rd2 {F : Nat → Prop} (x : Sa) (vparts : Value) (w : World) (hparts : Rp.Rd part w F vparts x.parts) (hx : SaLim x) :
    Calls Try.prog 14 #[saV x vparts] w fun e w' => ∃ vparts', e = .returned (saV x vparts') ∧ Ow true 54 partA w' (fun k => w.heap.size ≤ k) vparts' x.parts ∧ Below w.heap.size w w' := by
  refine (toSsa_calls x vparts w hparts hx).mono ?_
  rintro e w' ⟨v', rfl, hK, hb⟩
  obtain ⟨G0, h0, v2, h1, h2⟩ := ssaA_open hK
  simp only [List.cons.injEq, and_true] at h1
  obtain rfl := h1
  exact ⟨v', rfl, h2.mono h0, hb⟩
set_option maxRecDepth 100000 in
set_option maxHeartbeats 4000000 in
theorem splitLaw_calls {F : Nat → Prop} (x : Sa) (vparts : Value) (w : World) (h : Rp.Rd part w F vparts x.parts) :
    Calls Try.prog 4 #[saV x vparts] w fun e w' => e = .returned (.bool true) ∧ Below w.heap.size w w' := by
  have HC := fun W (hW : Below w.heap.size w W) => szSsa_calls x vparts 1048576 W (h.below hW) (by omega) (by omega)
  have hb0 := szSa_bd (x := x) (left := 1048576) (by omega)
  generalize szSa x 1048576 = r at *
  have hlim : 0 ≤ r → SaLim x := fun h0 => (hb0.2.2 h0).1
  clear hb0
  unfold saV at HC ⊢
  have HC := Lib.hid HC
  have hB0 : Below w.heap.size w (w.alloc (.cells #[vparts, .int .i64 x.values] 24)) := below_new _
  have b0 := heap_alloc_new w (.cells #[vparts, .int .i64 x.values] 24)
  have hlim := Lib.hid hlim
  obtain ⟨A, c, rfl, _, _, _⟩ := id h
  go_enter Try.func4, Try.ntmps4
  go_wp2_with fail
  refine (HC.out _ hB0).mono ?_
  rintro e w1 ⟨rfl, hb1⟩
  by_cases hneg : r < 0
  · have hB := below_then hB0 hb1
    go_wp2
    go_ret
    exact ⟨rfl, hB⟩
  have hx := hlim.out (by omega)
  have HT := Lib.hid (fun W (hW : Below w.heap.size w W) => toSsa_rd x _ W (h.below hW) hx)
  have HG1 := Lib.hid (fun v W G (hv : Rp.Rd part W G v x.parts) => splitS_calls x v W hv hx.1 hx.2)
  have HG2 := Lib.hid (fun v W G (hv : Rp.Rd part W G v x.parts) => splitI_calls x v W hv hx.1 hx.2)
  have HQ := Lib.hid (good_iff x)
  have hB1 := below_then hB0 hb1
  have b1 := blk_below b0 hb1
  obtain ⟨y1, _⟩ := cell_of_block b1
  have y10 : w1.cell? ⟨w.heap.size, 0, none⟩ = some (.slice A x.parts.length c) := (y1 0).trans rfl
  have y11 : w1.cell? ⟨w.heap.size, 1, none⟩ = some (.int .i64 x.values) := (y1 1).trans rfl
  clear y1 HC b0 hb1 hB0 hlim
  unfold saV at HT HG1 HG2
  generalize splitB x = sb at *
  go_wp2_with fail
  refine (HT.out _ hB1).mono ?_
  rintro e w2 ⟨v2, rfl, hv2, hb2⟩
  obtain ⟨A2, c2, rfl, _, _, _⟩ := id hv2
  have hB2 := below_then hB1 hb2
  have b2 := blk_below b1 hb2
  clear y10 y11 hb2 b1
  go_wp2_with fail
  refine (HG1.out _ _ _ hv2).mono ?_
  rintro e w3 ⟨g1, hg1, rfl, hb3⟩
  have hB3 := below_then hB2 hb3
  have b3 := blk_below b2 hb3
  obtain ⟨y1, _⟩ := cell_of_block b3
  have y10 : w3.cell? ⟨w.heap.size, 0, none⟩ = some (.slice A x.parts.length c) := (y1 0).trans rfl
  have y11 : w3.cell? ⟨w.heap.size, 1, none⟩ = some (.int .i64 x.values) := (y1 1).trans rfl
  clear y1 hb3 b2 hv2
  go_wp2_with fail
  refine (HT.out _ hB3).mono ?_
  rintro e w4 ⟨v4, rfl, hv4, hb4⟩
  obtain ⟨A4, c4, rfl, _, _, _⟩ := id hv4
  have hB4 := below_then hB3 hb4
  have b4 := blk_below b3 hb4
  clear y10 y11 hb4 b3
  obtain ⟨W5, hW5⟩ : ∃ W5, W5 = w4.alloc (.cells #[.slice A4 x.parts.length c4, .int .i64 x.values] 29) := ⟨_, rfl⟩
  have hb5 : Below w4.heap.size w4 W5 := by rw [hW5]; exact below_new _
  have e5 : W5.heap[w4.heap.size]? = some (.cells #[.slice A4 x.parts.length c4, .int .i64 x.values] 29 (0, 0)) := by rw [hW5]; exact heap_alloc_new w4 _
  have hv5 := hv4.below hb5
  have b5 := blk_below b4 hb5
  have hB5 := below_then hB4 hb5
  replace hW5 := Lib.hid hW5
  go_wp2_with fail
  rw [← hW5.out]
  refine (HG2.out _ _ _ hv5).mono ?_
  rintro e w6 ⟨g2, hg2, rfl, hb6⟩
  have hB6 := below_then hB5 hb6
  have b6 := blk_below b5 hb6
  have e6 := blk_below e5 hb6
  have hv6 := (hv5.mono (G := fun _ => True) (fun _ _ => trivial)).below hb6
  have hgg : g1 = g2 := by
    have := hg1.out.trans (HQ.out.symm.trans hg2.out.symm)
    cases g1 <;> cases g2 <;> simp_all
  subst hgg
  have hgn : (g1 != g1) = false := by cases g1 <;> rfl
  generalize hgs : (g1 && sb) = gs at *
  have hgn2 : (gs != gs) = false := by cases gs <;> rfl
  obtain ⟨y1, _⟩ := cell_of_block b6
  have y10 : w6.cell? ⟨w.heap.size, 0, none⟩ = some (.slice A x.parts.length c) := (y1 0).trans rfl
  have y11 : w6.cell? ⟨w.heap.size, 1, none⟩ = some (.int .i64 x.values) := (y1 1).trans rfl
  obtain ⟨z1, _⟩ := cell_of_block e6
  have z10 : w6.cell? ⟨w4.heap.size, 0, none⟩ = some (.slice A4 x.parts.length c4) := (z1 0).trans rfl
  have z11 : w6.cell? ⟨w4.heap.size, 1, none⟩ = some (.int .i64 x.values) := (z1 1).trans rfl
  clear y1 z1 b4 b5 e5 hv4 hv5 hW5 hg1 hg2 HQ HG1 HG2
  go_wp2_with fail
  have HE := Lib.hid (fun u W (hu : Rp.Rd part W (fun q => w6.heap.size ≤ q) u x.parts) (hW : Below w6.heap.size w6 W) => eqSsa_calls x x _ u W (hv6.below hW) hu)
  have HEQ : Hid (eqSa x x = true) := Lib.hid (by unfold eqSa; simp)
  unfold saV at HE
  rw [HEQ.out] at HE
  go_region_held3 (fun w' => w'.cell? ⟨w.heap.size, 0, none⟩ = some (.slice A x.parts.length c) ∧ w'.cell? ⟨w.heap.size, 1, none⟩ = some (.int .i64 x.values) ∧ w'.cell? ⟨w4.heap.size, 0, none⟩ = some (.slice A4 x.parts.length c4) ∧ w'.cell? ⟨w4.heap.size, 1, none⟩ = some (.int .i64 x.values))
    (first | go_keep | (go_split_ands; refine ⟨?_, ?_, ?_, ?_⟩ <;> first | exact cell_below hB9 (by assumption) | exact cell_below hB8 (by assumption) | assumption))
    ((first | (go_at_call 14; refine (HT.out _ (below_drew hB6)).mono ?_; rintro e w8 ⟨v8, rfl, hv8, hb8⟩; have hB8 := below_then (below_drew (Below.refl _ _)) hb8; obtain ⟨A8, c8, rfl, _, _, _⟩ := id hv8) | (go_at_call 16; refine (HE.out _ _ hv8 hB8).mono ?_; rintro e w9 ⟨rfl, hb9⟩; have hB9 := below_then hB8 hb9)))
  go_wp2
  go_ret
  exact ⟨rfl, below_then hB6 hB9⟩
end Go.Proofs.Ytmcnoeinjocimaa.L

set_option linter.unusedVariables false
namespace Go.Proofs.Ytmcnoeinjocimaa.L
open Go.RowKit Go.ChangeShapes Go.WideShapes
structure Opens (P : Program) (t : TypeId) {α : Type} (r : Rp α) : Prop where
  cells : P.cellsOf t = r.sz
  out : ∀ {H : Type} (enc : TypeId × Value → H) (w : World) (fuel : Nat) (cs : List Value) (x : DataW H × List MemPlace),
    DataW.trod enc P w 0 (fun _ => true) true fuel t cs = some x → ∃ y, r.K w (fun _ => True) y cs
structure OpensFs (P : Program) (fs : List Field) (off : Nat) {α : Type} (r : Rp α) : Prop where
  out : ∀ {H : Type} (enc : TypeId × Value → H) (w : World) (n : Nat) (cs : List Value), off + r.sz ≤ cs.length →
    (∀ (i : Nat) (f : Field), fs[i]? = some f → ∃ x, DataW.trod enc P w 0 (fun _ => true) true n f.type ((cs.drop f.offset).take (P.cellsOf f.type)) = some x) → ∃ y, r.K w (fun _ => True) y ((cs.drop off).take r.sz)
namespace Opens
variable {P : Program} {t : TypeId}
theorem int (ht : P.underlying t = some (.int .i64)) (hc : P.cellsOf t = 1) : Opens P t Rp.int := ⟨hc, fun enc w fuel cs x h => by
  obtain ⟨n, rfl, _⟩ := DataW.trod_int ht h
  exact ⟨n, rfl⟩⟩
theorem bool (ht : P.underlying t = some .bool) (hc : P.cellsOf t = 1) : Opens P t Rp.bool := ⟨hc, fun enc w fuel cs x h => by
  obtain ⟨n, rfl, _⟩ := DataW.trod_bool ht h
  exact ⟨n, rfl⟩⟩
theorem str (ht : P.underlying t = some .string) (hc : P.cellsOf t = 1) : Opens P t Rp.str := ⟨hc, fun enc w fuel cs x h => by
  obtain ⟨n, rfl, _⟩ := DataW.trod_string ht h
  exact ⟨n, rfl⟩⟩
theorem mapM_get {β γ : Type} {f : β → Option γ} : ∀ {l : List β} {ys : List γ}, l.mapM f = some ys → ∀ (i : Nat) (b : β), l[i]? = some b → ∃ y, ys[i]? = some y ∧ f b = some y
  | [], ys, h, i, b, hb => by simp at hb
  | a :: l, ys, h, i, b, hb => by
    rw [List.mapM_cons] at h
    cases ha : f a with
    | none => rw [ha] at h; cases h
    | some y =>
      rw [ha] at h
      cases hl : l.mapM f with
      | none => rw [hl] at h; cases h
      | some zs =>
        rw [hl] at h
        cases h
        cases i with
        | zero => cases hb; exact ⟨y, rfl, ha⟩
        | succ i => exact mapM_get hl i b hb
theorem cells_get {w : World} {a : Addr} {n : Nat} {cs : List Value} (h : w.cells? 0 a n = some cs) : cs.length = n ∧ ∀ j u, cs[j]? = some u → w.cell? (a.add j) = some u := by
  unfold World.cells? at h
  rw [if_pos (Nat.zero_le _)] at h
  have hl : ∀ {l : List Nat} {ys : List Value}, l.mapM (fun i => w.cell? (a.add i)) = some ys → ys.length = l.length := by
    intro l
    induction l with
    | nil => intro ys h; cases h; rfl
    | cons b l ih =>
      intro ys h
      rw [List.mapM_cons] at h
      cases hb : w.cell? (a.add b) with
      | none => rw [hb] at h; cases h
      | some y =>
        rw [hb] at h
        cases hl : l.mapM (fun i => w.cell? (a.add i)) with
        | none => rw [hl] at h; cases h
        | some zs => rw [hl] at h; cases h; simp [ih hl]
  have hlen := hl h
  rw [List.length_range] at hlen
  refine ⟨hlen, fun j u hu => ?_⟩
  have hj : j < n := by rw [← hlen]; exact (List.getElem?_eq_some_iff.1 hu).1
  obtain ⟨y, hy, hc⟩ := mapM_get h j j (by rw [List.getElem?_range hj])
  rw [hu] at hy
  cases hy
  exact hc
theorem plain_of_cell {w : World} {a : Addr} {u : Value} (h : w.cell? a = some u) : a = ⟨a.block, a.off, none⟩ ∧ a.block < w.heap.size := by
  obtain ⟨b, o, s⟩ := a
  unfold World.cell? at h
  split at h
  · rename_i c t fr hb
    cases s with
    | none => exact ⟨rfl, (Array.getElem?_eq_some_iff.1 hb).1⟩
    | some s => simp at h
  · cases h
theorem slice {e : TypeId} {α : Type} {r : Rp α} (h : Opens P e r) (ht : P.underlying t = some (.slice e)) (hc : P.cellsOf t = 1) (h0 : 0 < r.sz) : Opens P t (Rp.sl r) := ⟨hc, fun enc w fuel cs x hx => by
  rcases Deep.open_slice ht hx with ⟨rfl, _⟩ | ⟨a, len, cap, m, n, D, Pl, rfl, _, hl, hm, hmm, _, hel⟩
  · exact ⟨[], _, rfl, Rp.Rd.nil r w _⟩
  · simp only [if_true] at hmm
    have each : ∀ i, i < len → ∃ y cs', r.K w (fun _ => True) y cs' ∧ (∀ j u, cs'[j]? = some u → w.cell? ((a.add (i * r.sz)).add j) = some u) ∧ cs'.length = r.sz := by
      intro i hi
      obtain ⟨cs', h1, h2⟩ := hel i (by omega)
      rw [h.cells] at h1
      obtain ⟨y, hy⟩ := h.out enc w n cs' _ h2
      obtain ⟨hlen, hcell⟩ := cells_get h1
      exact ⟨y, cs', hy, hcell, hlen⟩
    by_cases hz : len = 0
    · subst hz
      exact ⟨[], _, rfl, some a, cap, rfl, by simp, hm, .inl rfl⟩
    · have ha : a = ⟨a.block, a.off, none⟩ ∧ a.block < w.heap.size := by
        obtain ⟨y, cs', _, hcell, hlen⟩ := each 0 (by omega)
        have hj : cs'[0]? = some (cs'[0]'(by omega)) := List.getElem?_eq_getElem (by omega)
        have := hcell 0 _ hj
        rw [Nat.zero_mul] at this
        have e0 : ((a.add 0).add 0) = a := by simp [Addr.add]
        rw [e0] at this
        exact plain_of_cell this
      obtain ⟨b, o, s⟩ := a
      simp only [Addr.mk.injEq, true_and] at ha
      obtain ⟨rfl, hb⟩ := ha
      let g : Nat → α := fun i => if hi : i < len then (each i hi).choose else (each 0 (by omega)).choose
      refine ⟨(List.range len).map g, _, rfl, some ⟨b, o, none⟩, cap, by simp, by simpa using hl, hm, .inr ⟨b, o, rfl, trivial, hb, fun i y hy => ?_⟩⟩
      rw [List.getElem?_map] at hy
      obtain ⟨i', hi', rfl⟩ := Option.map_eq_some_iff.1 hy
      have hlt : i < len := by
        rcases Nat.lt_or_ge i len with hh | hh
        · exact hh
        · rw [List.getElem?_eq_none (by simpa using hh)] at hi'; cases hi'
      rw [List.getElem?_range hlt] at hi'
      cases hi'
      obtain ⟨cs', hK, hcell, hlen⟩ := (each i hlt).choose_spec
      refine ⟨cs', ?_, fun j u hu => ?_⟩
      · show r.K w _ (g i) cs'
        have : g i = (each i hlt).choose := dif_pos hlt
        rw [this]; exact hK
      · have := hcell j u hu
        rw [Addr.add_lit, Addr.add_lit, Nat.add_assoc] at this
        exact this⟩
theorem last {f : Field} {off : Nat} {α : Type} {r : Rp α} (h : Opens P f.type r) (ho : f.offset = off) : OpensFs P [f] off r := ⟨fun enc w n cs hl hx => by
  obtain ⟨x, hx⟩ := hx 0 f rfl
  rw [h.cells, ho] at hx
  exact h.out enc w n _ x hx⟩
theorem cons {f : Field} {fs : List Field} {off : Nat} {α β : Type} {a : Rp α} {b : Rp β} (h : Opens P f.type a) (ho : f.offset = off) (hs : OpensFs P fs (off + a.sz) b) : OpensFs P (f :: fs) off (a.pair b) := ⟨fun enc w n cs hl hx => by
  have hl' : off + (a.sz + b.sz) ≤ cs.length := hl
  obtain ⟨x, h0⟩ := hx 0 f rfl
  rw [h.cells, ho] at h0
  obtain ⟨y, hy⟩ := h.out enc w n _ x h0
  obtain ⟨z, hz⟩ := hs.out enc w n cs (by omega) (fun i g hg => hx (i + 1) g hg)
  refine ⟨(y, z), _, _, ?_, hy, hz⟩
  show (cs.drop off).take (a.sz + b.sz) = _
  rw [List.take_add, List.drop_drop]⟩
theorem struct {fs : Array Field} {α β : Type} {r : Rp α} (hs : OpensFs P fs.toList 0 r) (ht : P.underlying t = some (.struct fs)) (hc : P.cellsOf t = r.sz) (f : β → α) (g : α → β) (hg : ∀ y, f (g y) = y) : Opens P t (r.iso f) := ⟨hc, fun enc w fuel cs x hx => by
  obtain ⟨xs, n, rfl, _, hlen, hxs, hfs⟩ := DataW.trod_struct ht hx
  rw [hc] at hlen
  obtain ⟨y, hy⟩ := hs.out enc w n cs (by omega) (fun i q hq => by
    have hq' : fs[i]? = some q := by rw [← Array.getElem?_toList]; exact hq
    have hi : i < xs.length := by rw [hxs]; exact (Array.getElem?_eq_some_iff.1 hq').1
    exact ⟨xs[i], by rw [hfs i q hq', List.getElem?_eq_getElem hi]⟩)
  refine ⟨g y, ?_⟩
  show r.K w _ (f (g y)) cs
  rw [hg, show cs = (cs.drop 0).take r.sz by rw [List.drop_zero, List.take_of_length_le (by omega)]]
  exact hy⟩
end Opens
end Go.Proofs.Ytmcnoeinjocimaa.L

set_option linter.unusedVariables false
namespace Go.Proofs.Ytmcnoeinjocimaa.L
open Go.RowKit
theorem opensInt : Opens Try.prog 3 Rp.int := Opens.int Try.underlying3 (by kernel_rfl)
theorem opensInts : Opens Try.prog 35 (Rp.sl Rp.int) := Opens.slice opensInt Try.underlying35 (by kernel_rfl) (by decide)
theorem opensIntss : Opens Try.prog 41 (Rp.sl (Rp.sl Rp.int)) := Opens.slice opensInts Try.underlying41 (by kernel_rfl) (by decide)
theorem opensFlat : Opens Try.prog 143 flat :=
  Opens.struct (fs := _) (Opens.cons opensInt rfl (Opens.cons opensInt rfl (Opens.cons opensInt rfl (Opens.cons opensInt rfl (Opens.cons opensInt rfl (Opens.last opensInt rfl)))))) Try.underlying143 (by kernel_rfl) Fl.t (fun p => ⟨p.1, p.2.1, p.2.2.1, p.2.2.2.1, p.2.2.2.2.1, p.2.2.2.2.2⟩) (fun _ => rfl)
theorem opensFlats : Opens Try.prog 95 (Rp.sl flat) := Opens.slice opensFlat Try.underlying95 (by kernel_rfl) (by decide)
theorem opensPart : Opens Try.prog 97 part :=
  Opens.struct (fs := _) (Opens.cons opensInts rfl (Opens.cons opensFlats rfl (Opens.cons opensInt rfl (Opens.cons opensInt rfl (Opens.cons opensInts rfl (Opens.last opensIntss rfl)))))) Try.underlying97 (by kernel_rfl) Pt.t (fun p => ⟨p.1, p.2.1, p.2.2.1, p.2.2.2.1, p.2.2.2.2.1, p.2.2.2.2.2⟩) (fun _ => rfl)
theorem opensParts : Opens Try.prog 22 (Rp.sl part) := Opens.slice opensPart Try.underlying22 (by kernel_rfl) (by decide)
theorem opensSsa : Opens Try.prog 24 ssa :=
  Opens.struct (fs := _) (Opens.cons opensParts rfl (Opens.last opensInt rfl)) Try.underlying24 (by kernel_rfl) Sa.t (fun p => ⟨p.1, p.2⟩) (fun _ => rfl)
end Go.Proofs.Ytmcnoeinjocimaa.L
