/- The reference's look at a part by itself. -/
import Derived.Test.YtmcnoeinjocimaaSp3
import Derived.Test.YtmcnoeinjocimaaSg0
import Derived.Test.YtmcnoeinjocimaaTy4
import Derived.BigGuardPart
set_option linter.unusedVariables false
set_option linter.unusedSimpArgs false
namespace Go.Proofs.Ytmcnoeinjocimaa.L
open Go.RowKit
def stepS (V : Int) (x : Fl) : Bool :=
  sFlatB { x with dst := 0, a := 0, b := 0 } && inB x.dst 0 (V - 1) && inB x.a 0 (V - 1) && inB x.b 0 (V - 1) && !(!inB x.op 1 4 && x.dst != 0) && !(x.op == 1 && x.a != 0) && !(x.op != 3 && x.op != 5 && x.b != 0)
def midS (V : Int) (p : Pt) (many : Int) : Bool :=
  !((p.go == 2 || p.go == 5) && !inB p.test 0 (V - 1) || p.go != 2 && p.go != 5 && p.test != 0) && sBlk ⟨[], p.go, 0, p.next⟩ many && decide ((p.code.length : Int) ≤ 60)
def fitS (parts : List Pt) : List Int → List (List Int) → Bool
  | [], [] => true
  | k :: ks, a :: rest => (match parts[k.toNat]? with | some q => a.length == q.params.length | none => false) && fitS parts ks rest
  | _, _ => false
def argsS (parts : List Pt) (p : Pt) : Bool :=
  if p.go == 3 then (match p.args with | [a] => a.length == 3 | _ => false) else fitS parts p.next p.args
def partS (s : Sa) (p : Pt) : Bool := p.code.all (stepS s.values) && midS s.values p s.parts.length && argsS s.parts p
theorem fitS_len (parts : List Pt) : ∀ (ks : List Int) (l : List (List Int)), fitS parts ks l = true → ks.length = l.length
  | [], [], _ => rfl
  | [], _ :: _, h => by simp [fitS] at h
  | _ :: _, [], h => by simp [fitS] at h
  | k :: ks, a :: l, h => by
    simp only [fitS, Bool.and_eq_true] at h
    simp only [List.length_cons]
    rw [fitS_len parts ks l h.2]
set_option maxRecDepth 100000 in
set_option maxHeartbeats 40000000 in
theorem l9Part_calls {F1 F2 : Nat → Prop} (s : Sa) (p : Pt) (vparts vparams vcode vnext vargs : Value) (w : World) (hs : Rp.Rd part w F1 vparts s.parts) (h1 : Rp.Rd Rp.int w F2 vparams p.params) (h2 : Rp.Rd flat w F2 vcode p.code) (h3 : Rp.Rd Rp.int w F2 vnext p.next) (h4 : Rp.Rd (Rp.sl Rp.int) w F2 vargs p.args)
    (hn : ∀ k ∈ p.next, 0 ≤ k ∧ k < s.parts.length) (hV : 12 ≤ s.values) (hV2 : s.values ≤ 250) :
    Calls Try.prog 43 #[saV s vparts, ptV p vparams vcode vnext vargs] w fun e w' => e = .returned (.bool (partS s p)) ∧ Below w.heap.size w w' := by
  have HX : Hid (partS s p = (p.code.all (stepS s.values) && midS s.values p s.parts.length && argsS s.parts p)) := Lib.hid rfl
  obtain ⟨A, c, rfl, hlc, hcm, hrow⟩ := rd_part hs
  obtain ⟨A1, c1, rfl, _, _⟩ := h1
  obtain ⟨A2, c2, rfl, _, _, hr2⟩ := rd_flat h2
  obtain ⟨A3, c3, rfl, _, _, hr3⟩ := rd_int h3
  obtain ⟨A4, c4, rfl, _, _, hr4⟩ := rd_ints h4
  unfold saV ptV
  go_enter Try.func43, Try.ntmps43
  dsimp only [List.append]
  go_wp2
  go_loopw [14] (fun i wr => ∃ k : Nat, k ≤ p.code.length ∧ i = .int .i64 k ∧ Hid ((p.code.take k).all (stepS s.values) = true) ∧ Below ((w.alloc (.cells #[.slice A s.parts.length c, .int .i64 s.values] 29)).alloc (.cells #[.slice A1 p.params.length c1, .slice A2 p.code.length c2, .int .i64 p.go, .int .i64 p.test, .slice A3 p.next.length c3, .slice A4 p.args.length c4] 54)).heap.size ((w.alloc (.cells #[.slice A s.parts.length c, .int .i64 s.values] 29)).alloc (.cells #[.slice A1 p.params.length c1, .slice A2 p.code.length c2, .int .i64 p.go, .int .i64 p.test, .slice A3 p.next.length c3, .slice A4 p.args.length c4] 54)) wr) (fun i _ => p.code.length - (intOf i).toNat)
  case atStart => exact ⟨0, Nat.zero_le _, rfl, Lib.hid rfl, Below.refl _ _⟩
  case round =>
    obtain ⟨k, hk, rfl, HT, HB⟩ := hrel
    obtain ⟨b1, b2, z1, z2⟩ := boxed2 HB
    obtain ⟨x1, f1⟩ := cell_of_block b1
    obtain ⟨x2, f2⟩ := cell_of_block b2
    by_cases hlt : k < p.code.length
    · rcases hr2 with hnil | ⟨g, o, rfl, hg, hca⟩
      · rw [hnil] at hlt; simp at hlt
      have q := (hca k hlt).below (below2 HB)
      clear hca hr3 hr4 hrow hn
      obtain ⟨q0, q1, q2, q3, q4, q5⟩ := q
      have HF : Hid (stepS s.values p.code[k] = false → partS s p = false) := Lib.hid (fun h => by rw [HX.out, l_all_false hlt h]; rfl)
      have HS : Hid (stepS s.values p.code[k] = true → (p.code.take (k + 1)).all (stepS s.values) = true) := Lib.hid (fun h => l_all_take_succ hlt HT.out h)
      generalize p.code[k] = x at *
      have HV : Hid (stepS s.values x = (sFlatB { x with dst := 0, a := 0, b := 0 } && inB x.dst 0 (s.values - 1) && inB x.a 0 (s.values - 1) && inB x.b 0 (s.values - 1) && !(!inB x.op 1 4 && x.dst != 0) && !(x.op == 1 && x.a != 0) && !(x.op != 3 && x.op != 5 && x.b != 0))) := Lib.hid rfl
      have HC := fun W => l6Flat_calls { x with dst := 0, a := 0, b := 0 } W
      have HC1 := fun W => l1In_calls x.dst 0 (s.values - 1) W
      have HC2 := fun W => l1In_calls x.a 0 (s.values - 1) W
      have HC3 := fun W => l1In_calls x.b 0 (s.values - 1) W
      have HC4 := fun W => l9Sets_calls x.op W
      generalize sFlatB { x with dst := 0, a := 0, b := 0 } = r at *
      generalize inB x.dst 0 (s.values - 1) = r1 at *
      generalize inB x.a 0 (s.values - 1) = r2 at *
      generalize inB x.b 0 (s.values - 1) = r3 at *
      generalize inB x.op 1 4 = r4 at *
      generalize stepS s.values x = r0 at *
      unfold flV at HC
      replace HC := Lib.hid HC
      replace HC1 := Lib.hid HC1
      replace HC2 := Lib.hid HC2
      replace HC3 := Lib.hid HC3
      replace HC4 := Lib.hid HC4
      generalize t5 : (x.dst != 0) = r5 at *
      generalize t6 : (x.op == 1) = r6 at *
      generalize t7 : (x.a != 0) = r7 at *
      generalize t8 : (x.op != 3) = r8 at *
      generalize t9 : (x.op != 5) = r9 at *
      generalize t10 : (x.b != 0) = r10 at *
      have tok0 : True := trivial
      have tok1 : True := trivial
      have tok2 : True := trivial
      have tok3 : True := trivial
      go_wp2_with (first | (go_at_call 71; refine (HC.out _).mono ?_; rintro e w1 ⟨rfl, hb⟩; have HB1 := below_then HB (below2 hb); obtain ⟨b3, _, z3, _⟩ := boxed2 hb; obtain ⟨x3, f3⟩ := cell_of_block b3; clear hb; obtain ⟨b4, b5, z4, z5⟩ := boxed2 HB1; obtain ⟨x4, f4⟩ := cell_of_block b4; obtain ⟨x5, f5⟩ := cell_of_block b5; skip) | (go_at_call 42; have _t := tok1; refine (HC1.out _).mono ?_; rintro e w' ⟨rfl, rfl⟩; clear tok1) | (go_at_call 42; have _t := tok2; refine (HC2.out _).mono ?_; rintro e w' ⟨rfl, rfl⟩; clear tok2) | (go_at_call 42; have _t := tok3; refine (HC3.out _).mono ?_; rintro e w' ⟨rfl, rfl⟩; clear tok3) | (go_at_call 49; refine (HC4.out _).mono ?_; rintro e w' ⟨rfl, rfl⟩))
      all_goals
        clear x1 f1 x2 f2 x3 f3 x4 x5 f4 f5 b1 b2 b3 b4 b5 z1 z2 z3 z4 z5 q0 q1 q2 q3 q4 q5 HC HC1 HC2 HC3 HC4 HT HX
        first
        | (go_ret
           exact ⟨ret_bool (HF.out (by have h := HV.out; clear HF HS HB HB1 HV; first | (simp_all; done) | (simp_all; omega))).symm, below2 HB1⟩)
        | (have HR : Hid (r0 = true) := Lib.hid (by have h := HV.out; clear HF HS HB HB1 HV; first | (simp_all; done) | (simp_all; omega))
           go_roundw
           case rel => exact ⟨k + 1, by omega, by go_num, Lib.hid (HS.out HR.out), HB1⟩
           case measure => simp [intOf]; omega)
    · obtain rfl : k = p.code.length := by omega
      have HX2 : Hid (partS s p = (midS s.values p s.parts.length && argsS s.parts p)) := Lib.hid (by have := HT.out; rw [List.take_length] at this; rw [HX.out, this]; rfl)
      have HM : Hid (midS s.values p s.parts.length = (!((p.go == 2 || p.go == 5) && !inB p.test 0 (s.values - 1) || p.go != 2 && p.go != 5 && p.test != 0) && sBlk ⟨[], p.go, 0, p.next⟩ s.parts.length && decide ((p.code.length : Int) ≤ 60))) := Lib.hid rfl
      have hBw := below2 HB
      have HC3 := fun W => l1In_calls p.test 0 (s.values - 1) W
      have HC7 := fun W (hW : Below w.heap.size w W) => l6Block_calls ⟨[], p.go, 0, p.next⟩ (.slice none 0 0) _ s.parts.length W (Rp.Rd.nil _ _ _) (h3.below hW)
      have hr8 : decide ((60 : Int) < p.code.length) = !decide ((p.code.length : Int) ≤ 60) := by
        by_cases h : (p.code.length : Int) ≤ 60
        · rw [decide_eq_true h, decide_eq_false (by omega)]; rfl
        · rw [decide_eq_false h, decide_eq_true (by omega)]; rfl
      unfold bkV at HC7
      generalize inB p.test 0 (s.values - 1) = r3 at *
      generalize sBlk ⟨[], p.go, 0, p.next⟩ s.parts.length = r7 at *
      generalize decide ((p.code.length : Int) ≤ 60) = r8 at *
      replace HC3 := Lib.hid HC3
      replace HC7 := Lib.hid HC7
      generalize midS s.values p s.parts.length = m at *
      clear HX HT hlt hr2
      have HE1 : Hid (m = false → partS s p = false) := Lib.hid (fun h => by rw [HX2.out, h]; rfl)
      have HE2 : Hid (argsS s.parts p = false → partS s p = false) := Lib.hid (fun h => by rw [HX2.out, h, Bool.and_false])
      have HE3 : Hid (m = true → partS s p = argsS s.parts p) := Lib.hid (fun h => by rw [HX2.out, h, Bool.true_and])
      clear HX2
      have hgo : (p.go == 2) = true ∧ (p.go != 2) = false ∧ (p.go == 3) = false ∨ (p.go == 2) = false ∧ (p.go != 2) = true ∧ (p.go == 3) = false ∧ (p.go == 5) = true ∧ (p.go != 5) = false ∨ (p.go == 2) = false ∧ (p.go != 2) = true ∧ (p.go == 3) = false ∧ (p.go == 5) = false ∧ (p.go != 5) = true ∨ (p.go == 2) = false ∧ (p.go != 2) = true ∧ (p.go == 5) = false ∧ (p.go != 5) = true ∧ (p.go == 3) = true := by
        simp; omega
      have hW1 := hBw.alloc hBw.size (.cells #[.slice none 0 0, .int .i64 p.go, .int .i64 0, .slice A3 p.next.length c3] 100)
      have hb1' := blk_alloc b1 (.cells #[.slice none 0 0, .int .i64 p.go, .int .i64 0, .slice A3 p.next.length c3] 100)
      have hb2' := blk_alloc b2 (.cells #[.slice none 0 0, .int .i64 p.go, .int .i64 0, .slice A3 p.next.length c3] 100)
      have HA : Hid ((p.go == 3) = false → argsS s.parts p = fitS s.parts p.next p.args) := Lib.hid (fun h => by unfold argsS; rw [h]; rfl)
      rcases hgo with ⟨g1, g2, g3⟩ | ⟨g1, g2, g3, g4, g5⟩ | ⟨g1, g2, g3, g4, g5⟩ | ⟨g1, g2, g4, g5, g3⟩
      case inr.inr.inr =>
        have HA3 : Hid (argsS s.parts p = (match p.args with | [a] => a.length == 3 | _ => false)) := Lib.hid (by unfold argsS; rw [g3]; rfl)
        simp only [g1, g2, g4, g5, Bool.true_or, Bool.false_or, Bool.true_and, Bool.false_and, Bool.or_false] at HM
        by_cases ha : p.args.length = 1
        · rcases hr4 with hnil | ⟨b4, o4, rfl, hb4, hc4⟩
          · rw [hnil] at ha; simp at ha
          have i1 : 0 < p.args.length := by omega
          obtain ⟨u, cu, hu⟩ := hc4 0 i1
          have HA4 : Hid (argsS s.parts p = (p.args[0].length == 3)) := Lib.hid (by
            obtain ⟨a0, ha0⟩ := List.length_eq_one_iff.1 ha
            rw [HA3.out]; simp [ha0])
          have ht : ((p.args.length : Int) == 1) = true := by rw [beq_iff_eq]; omega
          have HQ : Hid (((p.args[0].length : Int) == 3) = (p.args[0].length == 3)) := Lib.hid (by rw [Bool.eq_iff_iff]; simp; omega)
          have i0 : (0 : Int) < (p.args.length : Int) := by omega
          clear HA3 ha hc4 HA
          generalize p.args[0] = a0 at *
          obtain ⟨Au, ku, rfl, _⟩ := hu
          go_wp2_with (first | (go_at_call 42; refine (HC3.out _).mono ?_; rintro e w' ⟨rfl, rfl⟩) | (go_at_call 72; refine (HC7.out _ hW1).mono ?_; rintro e w2 ⟨rfl, hb⟩; have hB2 := below_then hW1 hb; have d1 := blk_below hb1' hb; have d2 := blk_below hb2' hb; obtain ⟨y1, e1⟩ := cell_of_block d1; obtain ⟨y2, e2⟩ := cell_of_block d2; have cu2 := cell_below hB2 cu; rw [Nat.add_zero] at cu2))
          all_goals
            go_ret
            refine ⟨ret_bool ?_, by first | exact hB2 | exact hW1⟩
            symm
            first
            | (apply HE1.out; have h := HM.out; clear HE1 HE2 HE3 HM HC3 HC7 HA4 HQ HB hB2; simp_all; done)
            | (apply HE1.out; have h := HM.out; clear HE1 HE2 HE3 HM HC3 HC7 HA4 HQ HB; simp_all; done)
            | (rw [HE3.out (by have h := HM.out; clear HE1 HE2 HE3 HM HC3 HC7 HA4 HQ HB hB2; simp_all), HA4.out, ← HQ.out])
        · have HA4 : Hid (argsS s.parts p = false) := Lib.hid (by
            rw [HA3.out]
            match p.args, ha with
            | [], _ => rfl
            | [a], h => exact absurd rfl h
            | _ :: _ :: _, _ => rfl)
          have ht : ((p.args.length : Int) == 1) = false := by rw [beq_eq_false_iff_ne]; omega
          have HN : Hid (partS s p = false) := Lib.hid (HE2.out HA4.out)
          clear HA3 ha HA
          go_wp2_with (first | (go_at_call 42; refine (HC3.out _).mono ?_; rintro e w' ⟨rfl, rfl⟩) | (go_at_call 72; refine (HC7.out _ hW1).mono ?_; rintro e w2 ⟨rfl, hb⟩; have hB2 := below_then hW1 hb; have d1 := blk_below hb1' hb; have d2 := blk_below hb2' hb; obtain ⟨y1, e1⟩ := cell_of_block d1; obtain ⟨y2, e2⟩ := cell_of_block d2))
          all_goals
            go_ret
            exact ⟨ret_bool HN.out.symm, by first | exact hB2 | exact hW1⟩
      all_goals
        replace HA := Lib.hid (HA.out g3)
        simp only [g1, g2, Bool.true_or, Bool.false_or, Bool.true_and, Bool.false_and, Bool.or_false] at HM
        try simp only [g4, g5, Bool.true_or, Bool.false_or, Bool.true_and, Bool.false_and, Bool.or_false] at HM
        by_cases hle : p.args.length = p.next.length
        · have hle2 : ((p.args.length : Int) != (p.next.length : Int)) = false := by rw [bne_eq_false_iff_eq]; omega
          have HLE := Lib.hid hle
          clear hle
          go_wp2_with (first | (go_at_call 42; refine (HC3.out _).mono ?_; rintro e w' ⟨rfl, rfl⟩) | (go_at_call 72; refine (HC7.out _ hW1).mono ?_; rintro e w2 ⟨rfl, hb⟩; have hB2 := below_then hW1 hb; have d1 := blk_below hb1' hb; have d2 := blk_below hb2' hb; obtain ⟨y1, e1⟩ := cell_of_block d1; obtain ⟨y2, e2⟩ := cell_of_block d2))
          all_goals first
          | (go_ret
             refine ⟨ret_bool (HE1.out ?_).symm, by first | exact hB2 | exact hW1⟩
             have h := HM.out
             clear HE1 HE2 HE3 HM HC3 HC7 HB HA HLE
             simp_all
             done)
          | (have HF : Hid (partS s p = fitS s.parts p.next p.args) := Lib.hid (by rw [← HA.out]; apply HE3.out; have h := HM.out; clear HE1 HE2 HE3 HM HC3 HC7 HB HA HLE hB2; simp_all)
             clear y1 y2 e1 e2 HE1 HE2 HE3 HM HC3 HC7 HB HA hb1' hb2' hW1
             go_loopw [165] (fun i wr => ∃ j : Nat, j ≤ p.next.length ∧ i = .int .i64 j ∧ Below w.heap.size w wr ∧ wr.heap[w.heap.size]? = some (.cells #[.slice A s.parts.length c, .int .i64 s.values] 29 (0, 0)) ∧ wr.heap[w.heap.size + 1]? = some (.cells #[.slice A1 p.params.length c1, .slice A2 p.code.length c2, .int .i64 p.go, .int .i64 p.test, .slice A3 p.next.length c3, .slice A4 p.args.length c4] 54 (0, 0)) ∧ Hid (fitS s.parts (p.next.drop j) (p.args.drop j) = fitS s.parts p.next p.args)) (fun i _ => p.next.length - (intOf i).toNat)
             case atStart => exact ⟨0, Nat.zero_le _, rfl, hB2, d1, d2, Lib.hid rfl⟩
             case round =>
               clear hB2 d1 d2
               obtain ⟨j, hj, rfl, HB, d1, d2, HJ⟩ := hrel
               obtain ⟨y1, e1⟩ := cell_of_block d1
               obtain ⟨y2, e2⟩ := cell_of_block d2
               by_cases hjt : j < p.next.length
               · have hja : j < p.args.length := by rw [HLE.out]; exact hjt
                 have hnk := hn p.next[j] (List.getElem_mem hjt)
                 obtain ⟨n, hnn⟩ := Int.eq_ofNat_of_zero_le hnk.1
                 have hnl : n < s.parts.length := by omega
                 rcases hr3 with hnil | ⟨b3, o3, rfl, hb3, hc3⟩
                 · rw [hnil] at hjt; simp at hjt
                 rcases hr4 with hnil | ⟨b4, o4, rfl, hb4, hc4⟩
                 · rw [hnil] at hja; simp at hja
                 rcases hrow with hnil | ⟨b5, o5, rfl, hb5, hc5⟩
                 · rw [hnil] at hnl; simp at hnl
                 have q3 := cell_below HB (hc3 j hjt)
                 obtain ⟨u, q4, hu⟩ := hc4 j hja
                 replace q4 := cell_below HB q4
                 obtain ⟨_, _, _, _, q5, ⟨A6, c6, rfl, _⟩, -, -, -⟩ := hc5 n hnl
                 have q5 := cell_below HB q5.1
                 have HJ2 : Hid (fitS s.parts (p.next.drop j) (p.args.drop j) = ((p.args[j].length == s.parts[n].params.length) && fitS s.parts (p.next.drop (j + 1)) (p.args.drop (j + 1)))) := Lib.hid (by
                   rw [List.drop_eq_getElem_cons hjt, List.drop_eq_getElem_cons hja, fitS, hnn, Int.toNat_natCast, List.getElem?_eq_getElem hnl])
                 rw [hnn] at q3
                 clear hc3 hc4 hc5 hnn hnk
                 generalize p.args[j] = a0 at *
                 generalize s.parts[n] = p5 at *
                 obtain ⟨Au, ku, rfl, _⟩ := hu
                 have i0 : (0 : Int) ≤ (j : Int) := Int.natCast_nonneg _
                 have i1 : (j : Int) < (p.next.length : Int) := by omega
                 have i2 : (j : Int) < (p.args.length : Int) := by omega
                 have i3 : (0 : Int) ≤ (n : Int) := Int.natCast_nonneg _
                 have i4 : (n : Int) < (s.parts.length : Int) := by omega
                 by_cases hq : a0.length = p5.params.length
                 · have hq2 : ((a0.length : Int) != (p5.params.length : Int)) = false := by rw [bne_eq_false_iff_eq]; omega
                   have HN : Hid (fitS s.parts (p.next.drop (j + 1)) (p.args.drop (j + 1)) = fitS s.parts p.next p.args) := Lib.hid (by rw [← HJ.out, HJ2.out, beq_iff_eq.2 hq, Bool.true_and])
                   clear hq HJ HJ2
                   go_wp2
                   go_quiet (fail)
                   go_wp2
                   go_roundw
                   case rel => exact ⟨j + 1, by omega, by go_num, below_drewN HB _, d1, d2, HN⟩
                   case measure => simp [intOf]; omega
                 · have hq2 : ((a0.length : Int) != (p5.params.length : Int)) = true := by rw [bne_iff_ne]; omega
                   have HN : Hid (partS s p = false) := Lib.hid (by rw [HF.out, ← HJ.out, HJ2.out, beq_eq_false_iff_ne.2 hq, Bool.false_and])
                   clear hq HJ HJ2
                   go_wp2
                   go_quiet (fail)
                   go_wp2
                   go_ret
                   exact ⟨ret_bool HN.out.symm, below_drewN HB _⟩
               · obtain rfl : j = p.next.length := by omega
                 have HN : Hid (partS s p = true) := Lib.hid (by rw [HF.out, ← HJ.out, List.drop_length, ← HLE.out, List.drop_length]; rfl)
                 go_wp2
                 go_ret
                 exact ⟨ret_bool HN.out.symm, HB⟩)
        · have hle2 : ((p.args.length : Int) != (p.next.length : Int)) = true := by rw [bne_iff_ne]; omega
          have HN : Hid (partS s p = false) := Lib.hid (HE2.out (by
            rw [HA.out]
            cases hf : fitS s.parts p.next p.args
            · rfl
            · exact absurd (fitS_len _ _ _ hf).symm hle))
          clear hle
          go_wp2_with (first | (go_at_call 42; refine (HC3.out _).mono ?_; rintro e w' ⟨rfl, rfl⟩) | (go_at_call 72; refine (HC7.out _ hW1).mono ?_; rintro e w2 ⟨rfl, hb⟩; have hB2 := below_then hW1 hb; have d1 := blk_below hb1' hb; have d2 := blk_below hb2' hb; obtain ⟨y1, e1⟩ := cell_of_block d1; obtain ⟨y2, e2⟩ := cell_of_block d2))
          all_goals
            go_ret
            exact ⟨ret_bool HN.out.symm, by first | exact hB2 | exact hW1⟩
end Go.Proofs.Ytmcnoeinjocimaa.L
