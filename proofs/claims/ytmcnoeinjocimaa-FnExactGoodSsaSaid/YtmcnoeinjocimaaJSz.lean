/- Sz1 Sz3 Sz4 Sz5 Sz6: joined. -/
import Derived.Test.YtmcnoeinjocimaaProg
import Derived.Test.YtmcnoeinjocimaaTy1
import Derived.Test.YtmcnoeinjocimaaCv4
import Derived.Test.YtmcnoeinjocimaaCv5
import Derived.Test.YtmcnoeinjocimaaJCv
set_option linter.unusedVariables false
namespace Go.Proofs.Ytmcnoeinjocimaa.L
open Go.RowKit
def szS (n : Nat) (left : Int) : Int := if left - n < 0 then -1 else left - n
theorem szS_bd {n : Nat} {left : Int} (h : left ≤ 1048576) : szS n left ≤ 1048576 ∧ -1 ≤ szS n left ∧ (0 ≤ szS n left → (n : Int) ≤ left ∧ 0 ≤ left) := by
  unfold szS; split <;> omega
theorem szIntS_calls {F : Nat → Prop} (v : Value) (l : List Int) (left : Int) (w : World) (h : Rp.Rd Rp.int w F v l) (h0 : -1 ≤ left) (h1 : left ≤ 1048576) :
    Calls Try.prog 107 #[v, .int .i64 left] w fun e w' => e = .returned (.int .i64 (szS l.length left)) ∧ w = w' := by
  obtain ⟨A, c, rfl, hlc, hcm, hrow⟩ := rd_int h
  clear hrow
  go_enter Try.func107, Try.ntmps107
  go_wp2
  all_goals
    go_ret
    exact ⟨ret_int (by unfold szS; split <;> omega), rfl⟩
theorem szFlatS_calls {F : Nat → Prop} (v : Value) (l : List Fl) (left : Int) (w : World) (h : Rp.Rd flat w F v l) (h0 : -1 ≤ left) (h1 : left ≤ 1048576) :
    Calls Try.prog 108 #[v, .int .i64 left] w fun e w' => e = .returned (.int .i64 (szS l.length left)) ∧ w = w' := by
  obtain ⟨A, c, rfl, hlc, hcm, hrow⟩ := rd_flat h
  clear hrow
  go_enter Try.func108, Try.ntmps108
  go_wp2
  all_goals
    go_ret
    exact ⟨ret_int (by unfold szS; split <;> omega), rfl⟩
end Go.Proofs.Ytmcnoeinjocimaa.L

set_option linter.unusedVariables false
namespace Go.Proofs.Ytmcnoeinjocimaa.L
open Go.RowKit
def szIs : List (List Int) → Int → Int
  | [], left => left
  | x :: t, left => if szS x.length left < 0 then -1 else szIs t (szS x.length left)
theorem szIs_bd : ∀ (l : List (List Int)) (left : Int), left ≤ 1048576 → szIs l left ≤ 1048576 ∧ (-1 ≤ left → -1 ≤ szIs l left) ∧ (0 ≤ szIs l left → ∀ x ∈ l, x.length ≤ 1048576)
  | [], left, h => ⟨h, fun h => h, fun _ x hx => by simp at hx⟩
  | y :: t, left, h => by
    have hb := szS_bd (n := y.length) h
    have ih := szIs_bd t (szS y.length left) hb.1
    rw [szIs]
    split
    · exact ⟨by omega, fun _ => by omega, fun h0 => by omega⟩
    · refine ⟨ih.1, fun _ => ih.2.1 hb.2.1, fun h0 x hx => ?_⟩
      rcases List.mem_cons.1 hx with rfl | hx
      · have := hb.2.2 (by omega); omega
      · exact ih.2.2 h0 x hx
def szIss (l : List (List Int)) (left : Int) : Int := if szS l.length left < 0 then -1 else szIs l (szS l.length left)
theorem szIss_bd {l : List (List Int)} {left : Int} (h : left ≤ 1048576) : szIss l left ≤ 1048576 ∧ -1 ≤ szIss l left ∧ (0 ≤ szIss l left → (l.length ≤ 1048576 ∧ ∀ x ∈ l, x.length ≤ 1048576) ∧ 0 ≤ left) := by
  have b := szS_bd (n := l.length) h
  have c := szIs_bd l _ b.1
  unfold szIss
  split
  · exact ⟨by omega, by omega, fun h0 => by omega⟩
  · refine ⟨c.1, c.2.1 b.2.1, fun h0 => ?_⟩
    have := b.2.2 (by omega)
    exact ⟨⟨by omega, c.2.2 h0⟩, by omega⟩
set_option maxHeartbeats 1000000 in
theorem szIntSS_calls {F : Nat → Prop} (v : Value) (l : List (List Int)) (left : Int) (w : World) (h : Rp.Rd (Rp.sl Rp.int) w F v l) (h0 : -1 ≤ left) (h1 : left ≤ 1048576) :
    Calls Try.prog 109 #[v, .int .i64 left] w fun e w' => e = .returned (.int .i64 (szIss l left)) ∧ Below w.heap.size w w' := by
  unfold szIss
  obtain ⟨A, c, rfl, hlc, hcm, hrow⟩ := rd_ints h
  have b1 := szS_bd (n := l.length) h1
  obtain ⟨s1, hs1⟩ : ∃ s1, s1 = szS l.length left := ⟨_, rfl⟩
  rw [← hs1] at b1 ⊢
  have hs2 : left - l.length < 0 ∧ s1 = -1 ∨ 0 ≤ left - l.length ∧ s1 = left - l.length := by rw [hs1]; unfold szS; split <;> omega
  clear hs1
  rcases hs2 with ⟨hneg, rfl⟩ | ⟨hpos, hs⟩
  · go_enter Try.func109, Try.ntmps109
    go_wp2
    go_ret
    exact ⟨by simp, Below.refl _ _⟩
  · have HS := Lib.hid hs
    clear hs
    obtain ⟨q0, q1, _⟩ := b1
    have hs0 : 0 ≤ s1 := by have := HS.out; omega
    go_enter Try.func109, Try.ntmps109
    go_wp2_with fail
    rw [← HS.out]
    go_loopw [1, 5] (fun t i wr => ∃ (k : Nat) (s : Int), k ≤ l.length ∧ i = .int .i64 k ∧ t = .int .i64 s ∧ 0 ≤ s ∧ s ≤ 1048576 ∧ Hid (szIs (l.drop k) s = szIs l s1) ∧ Below w.heap.size w wr) (fun _ i _ => l.length - (intOf i).toNat)
    case atStart => exact ⟨0, s1, Nat.zero_le _, rfl, rfl, hs0, q0, Lib.hid rfl, Below.refl _ _⟩
    case round =>
      obtain ⟨k, s, hk, rfl, rfl, p0, p1, HH, HB⟩ := hrel
      by_cases hlt : k < l.length
      · rcases hrow with rfl | ⟨b, o, rfl, hb, hcell⟩
        · simp at hlt
        obtain ⟨u, c1, hu⟩ := hcell k hlt
        replace c1 := cell_below HB c1
        replace hu := hu.below HB
        clear hcell
        have ⟨A0, k0, hvc, _⟩ := hu
        subst hvc
        have hbd := szS_bd (n := l[k].length) p1
        obtain ⟨y, hy⟩ : ∃ y, y = szS l[k].length s := ⟨_, rfl⟩
        have HC := szIntS_calls _ l[k] s wr hu (by omega) p1
        have HH2 : Hid (szIs (l.drop k) s = if y < 0 then -1 else szIs (l.drop (k + 1)) y) := Lib.hid (by rw [List.drop_eq_getElem_cons hlt, szIs, hy])
        rw [← hy] at HC hbd
        have HC := Lib.hid HC
        clear hy
        go_wp2_with (go_at_call 107; refine HC.out.mono ?_; rintro e w1 ⟨rfl, rfl⟩)
        · go_ret
          refine ⟨ret_int ?_, HB⟩
          try rw [if_neg (show ¬ s1 < 0 by omega)]
          rw [← HH.out, HH2.out, if_pos (by omega)]
        · go_roundw
          case rel => exact ⟨k + 1, y, by omega, by go_num, rfl, by omega, hbd.1, Lib.hid (by rw [← HH.out, HH2.out, if_neg (by omega)]), HB⟩
          case measure => simp [intOf]; omega
      · obtain rfl : k = l.length := by omega
        go_wp2
        go_ret
        refine ⟨ret_int ?_, HB⟩
        try rw [if_neg (show ¬ s1 < 0 by omega)]
        rw [← HH.out, List.drop_length, szIs]
end Go.Proofs.Ytmcnoeinjocimaa.L

set_option linter.unusedVariables false
set_option linter.unusedSimpArgs false
namespace Go.Proofs.Ytmcnoeinjocimaa.L
open Go.RowKit
def szPt (x : Pt) (left : Int) : Int := if szS x.params.length left < 0 then -1 else if szS x.code.length (szS x.params.length left) < 0 then -1 else if szS x.next.length (szS x.code.length (szS x.params.length left)) < 0 then -1 else szIss x.args (szS x.next.length (szS x.code.length (szS x.params.length left)))
theorem szPt_steps (x : Pt) (left : Int) (h : left ≤ 1048576) : ∃ s0 s1 s2 s3 : Int, szPt x left = (if s0 < 0 then -1 else (if s1 < 0 then -1 else (if s2 < 0 then -1 else s3))) ∧ s0 = szS x.params.length left ∧ s1 = szS x.code.length s0 ∧ s2 = szS x.next.length s1 ∧ s3 = szIss x.args s2 ∧ (s0 ≤ 1048576 ∧ -1 ≤ s0 ∧ s1 ≤ 1048576 ∧ -1 ≤ s1 ∧ s2 ≤ 1048576 ∧ -1 ≤ s2 ∧ s3 ≤ 1048576 ∧ -1 ≤ s3) := by
  refine ⟨(szS x.params.length left), (szS x.code.length (szS x.params.length left)), (szS x.next.length (szS x.code.length (szS x.params.length left))), (szIss x.args (szS x.next.length (szS x.code.length (szS x.params.length left)))), rfl, rfl, rfl, rfl, rfl, ?_⟩
  have b0 := szS_bd (n := x.params.length) h
  have b1 := szS_bd (n := x.code.length) b0.1
  have b2 := szS_bd (n := x.next.length) b1.1
  have b3 := szIss_bd (l := x.args) b2.1
  exact ⟨b0.1, b0.2.1, b1.1, b1.2.1, b2.1, b2.2.1, b3.1, b3.2.1⟩
theorem szPt_bd {x : Pt} {left : Int} (h : left ≤ 1048576) : szPt x left ≤ 1048576 ∧ -1 ≤ szPt x left ∧ (0 ≤ szPt x left → PtLim x ∧ 0 ≤ left) := by
  unfold szPt
  have b0 := szS_bd (n := x.params.length) h
  have b1 := szS_bd (n := x.code.length) b0.1
  have b2 := szS_bd (n := x.next.length) b1.1
  have b3 := szIss_bd (l := x.args) b2.1
  generalize szS x.params.length left = r0 at *
  generalize szS x.code.length r0 = r1 at *
  generalize szS x.next.length r1 = r2 at *
  generalize szIss x.args r2 = r3 at *
  refine ⟨by (repeat' split) <;> omega, by (repeat' split) <;> omega, fun h0 => ?_⟩
  have p0 : ¬ r0 < 0 := fun hn => by rw [if_pos hn] at h0; omega
  rw [if_neg p0] at h0
  have p1 : ¬ r1 < 0 := fun hn => by rw [if_pos hn] at h0; omega
  rw [if_neg p1] at h0
  have p2 : ¬ r2 < 0 := fun hn => by rw [if_pos hn] at h0; omega
  rw [if_neg p2] at h0
  have f0 := b0.2.2 (by omega)
  have f1 := b1.2.2 (by omega)
  have f2 := b2.2.2 (by omega)
  have f3 := b3.2.2 (by omega)
  exact ⟨⟨by omega, by omega, by omega, f3.1.1, f3.1.2⟩, by omega⟩
set_option maxHeartbeats 1000000 in
theorem szPart_calls {F : Nat → Prop} (x : Pt) (vparams vcode vnext vargs : Value) (left : Int) (w : World) (hparams : Rp.Rd Rp.int w F vparams x.params) (hcode : Rp.Rd flat w F vcode x.code) (hnext : Rp.Rd Rp.int w F vnext x.next) (hargs : Rp.Rd (Rp.sl Rp.int) w F vargs x.args) (h0 : -1 ≤ left) (h1 : left ≤ 1048576) :
    Calls Try.prog 70 #[ptV x vparams vcode vnext vargs, .int .i64 left] w fun e w' => e = .returned (.int .i64 (szPt x left)) ∧ Below w.heap.size w w' := by
  obtain ⟨s0, s1, s2, s3, HS, e0, e1, e2, e3, p0, q0, p1, q1, p2, q2, p3, q3⟩ := szPt_steps x left h1
  have H0 := fun W (hW : Below w.heap.size w W) => szIntS_calls vparams x.params left W (hparams.below hW) h0 h1
  rw [← e0] at H0
  have H0 := Lib.hid H0
  have H1 := fun W (hW : Below w.heap.size w W) => szFlatS_calls vcode x.code s0 W (hcode.below hW) q0 p0
  rw [← e1] at H1
  have H1 := Lib.hid H1
  have H2 := fun W (hW : Below w.heap.size w W) => szIntS_calls vnext x.next s1 W (hnext.below hW) q1 p1
  rw [← e2] at H2
  have H2 := Lib.hid H2
  have H3 := fun W (hW : Below w.heap.size w W) => szIntSS_calls vargs x.args s2 W (hargs.below hW) q2 p2
  rw [← e3] at H3
  have H3 := Lib.hid H3
  clear e0 e1 e2 e3
  have HS := Lib.hid HS
  have ⟨Aparams, kparams, yparams, _⟩ := hparams
  have ⟨Acode, kcode, ycode, _⟩ := hcode
  have ⟨Anext, knext, ynext, _⟩ := hnext
  have ⟨Aargs, kargs, yargs, _⟩ := hargs
  subst yparams ycode ynext yargs
  unfold ptV
  go_enter Try.func70, Try.ntmps70
  go_wp2_with fail
  have HB : Below w.heap.size w (w.alloc (.cells #[.slice Aparams x.params.length kparams, .slice Acode x.code.length kcode, .int .i64 x.go, .int .i64 x.test, .slice Anext x.next.length knext, .slice Aargs x.args.length kargs] 97)) := below_new _
  have b1 : (w.alloc (.cells #[.slice Aparams x.params.length kparams, .slice Acode x.code.length kcode, .int .i64 x.go, .int .i64 x.test, .slice Anext x.next.length knext, .slice Aargs x.args.length kargs] 97)).heap[w.heap.size]? = _ := heap_alloc_new _ _
  refine (H0.out _ HB).mono ?_
  rintro e w0 ⟨rfl, rfl⟩
  obtain ⟨c1, f1⟩ := cell_of_block b1
  by_cases n0 : s0 < 0
  · go_wp2
    go_ret
    refine ⟨ret_int ?_, HB⟩
    rw [HS.out]
    (repeat' split) <;> omega
  go_wp2_with fail
  refine (H1.out _ HB).mono ?_
  rintro e w1 ⟨rfl, rfl⟩
  clear c1 f1
  obtain ⟨c1, f1⟩ := cell_of_block b1
  by_cases n1 : s1 < 0
  · go_wp2
    go_ret
    refine ⟨ret_int ?_, HB⟩
    rw [HS.out]
    (repeat' split) <;> omega
  go_wp2_with fail
  refine (H2.out _ HB).mono ?_
  rintro e w2 ⟨rfl, rfl⟩
  clear c1 f1
  obtain ⟨c1, f1⟩ := cell_of_block b1
  by_cases n2 : s2 < 0
  · go_wp2
    go_ret
    refine ⟨ret_int ?_, HB⟩
    rw [HS.out]
    (repeat' split) <;> omega
  go_wp2_with fail
  refine (H3.out _ HB).mono ?_
  rintro e w3 ⟨rfl, hb⟩
  replace b1 := blk_below b1 hb
  replace HB := below_then HB hb
  clear hb
  clear c1 f1
  obtain ⟨c1, f1⟩ := cell_of_block b1
  by_cases n3 : s3 < 0
  all_goals
    go_wp2
    go_ret
    refine ⟨ret_int ?_, HB⟩
    rw [HS.out]
    try ((repeat' split) <;> omega)
end Go.Proofs.Ytmcnoeinjocimaa.L

set_option linter.unusedVariables false
set_option linter.unusedSimpArgs false
namespace Go.Proofs.Ytmcnoeinjocimaa.L
open Go.RowKit
def szPts : List Pt → Int → Int
  | [], left => left
  | x :: t, left => if szPt x left < 0 then -1 else szPts t (szPt x left)
theorem szPts_bd : ∀ (l : List Pt) (left : Int), left ≤ 1048576 → szPts l left ≤ 1048576 ∧ (-1 ≤ left → -1 ≤ szPts l left) ∧ (0 ≤ szPts l left → ∀ x ∈ l, PtLim x)
  | [], left, h => ⟨h, fun h => h, fun _ x hx => by simp at hx⟩
  | y :: t, left, h => by
    have hb := szPt_bd (x := y) h
    have ih := szPts_bd t (szPt y left) hb.1
    rw [szPts]
    split
    · exact ⟨by omega, fun _ => by omega, fun h0 => by omega⟩
    · refine ⟨ih.1, fun _ => ih.2.1 hb.2.1, fun h0 x hx => ?_⟩
      rcases List.mem_cons.1 hx with rfl | hx
      · exact (hb.2.2 (by omega)).1
      · exact ih.2.2 h0 x hx
def szPtl (l : List Pt) (left : Int) : Int := if szS l.length left < 0 then -1 else szPts l (szS l.length left)
theorem szPtl_bd {l : List Pt} {left : Int} (h : left ≤ 1048576) : szPtl l left ≤ 1048576 ∧ -1 ≤ szPtl l left ∧ (0 ≤ szPtl l left → (l.length ≤ 1048576 ∧ ∀ x ∈ l, PtLim x) ∧ 0 ≤ left) := by
  have b := szS_bd (n := l.length) h
  have c := szPts_bd l _ b.1
  unfold szPtl
  split
  · exact ⟨by omega, by omega, fun h0 => by omega⟩
  · refine ⟨c.1, c.2.1 b.2.1, fun h0 => ?_⟩
    have := b.2.2 (by omega)
    exact ⟨⟨by omega, c.2.2 h0⟩, by omega⟩
set_option maxHeartbeats 1000000 in
theorem szPartS_calls {F : Nat → Prop} (v : Value) (l : List Pt) (left : Int) (w : World) (h : Rp.Rd part w F v l) (h0 : -1 ≤ left) (h1 : left ≤ 1048576) :
    Calls Try.prog 41 #[v, .int .i64 left] w fun e w' => e = .returned (.int .i64 (szPtl l left)) ∧ Below w.heap.size w w' := by
  obtain ⟨A, c, rfl, hlc, hcm, hrow⟩ := rd_part h
  unfold szPtl
  have b1 := szS_bd (n := l.length) h1
  obtain ⟨s1, hs1⟩ : ∃ s1, s1 = szS l.length left := ⟨_, rfl⟩
  rw [← hs1] at b1 ⊢
  have hs2 : left - l.length < 0 ∧ s1 = -1 ∨ 0 ≤ left - l.length ∧ s1 = left - l.length := by rw [hs1]; unfold szS; split <;> omega
  clear hs1
  rcases hs2 with ⟨hneg, rfl⟩ | ⟨hpos, hs⟩
  · go_enter Try.func41, Try.ntmps41
    go_wp2
    go_ret
    exact ⟨by simp, Below.refl _ _⟩
  · have HS := Lib.hid hs
    clear hs
    obtain ⟨q0, q1, _⟩ := b1
    have hs0 : 0 ≤ s1 := by have := HS.out; omega
    go_enter Try.func41, Try.ntmps41
    go_wp2_with fail
    rw [← HS.out]
    go_loopw [1, 5] (fun t i wr => ∃ (k : Nat) (s : Int), k ≤ l.length ∧ i = .int .i64 k ∧ t = .int .i64 s ∧ 0 ≤ s ∧ s ≤ 1048576 ∧ Hid (szPts (l.drop k) s = szPts l s1) ∧ Below w.heap.size w wr) (fun _ i _ => l.length - (intOf i).toNat)
    case atStart => exact ⟨0, s1, Nat.zero_le _, rfl, rfl, hs0, q0, Lib.hid rfl, Below.refl _ _⟩
    case round =>
      obtain ⟨k, s, hk, rfl, rfl, p0, p1, HH, HB⟩ := hrel
      by_cases hlt : k < l.length
      · rcases hrow with rfl | ⟨b, o, rfl, hb, hcell⟩
        · simp at hlt
        obtain ⟨vparams, vcode, vnext, vargs, c1, hparams, hcode, hnext, hargs⟩ := hcell k hlt
        replace c1 := partAt_below c1 HB
        replace hparams := hparams.below HB
        replace hcode := hcode.below HB
        replace hnext := hnext.below HB
        replace hargs := hargs.below HB
        clear hcell
        obtain ⟨r0, r1, r2, r3, r4, r5⟩ := c1
        have ⟨Aparams, kparams, yparams, _⟩ := hparams
        have ⟨Acode, kcode, ycode, _⟩ := hcode
        have ⟨Anext, knext, ynext, _⟩ := hnext
        have ⟨Aargs, kargs, yargs, _⟩ := hargs
        subst yparams ycode ynext yargs
        have hbd := szPt_bd (x := l[k]) p1
        obtain ⟨y, hy⟩ : ∃ y, y = szPt l[k] s := ⟨_, rfl⟩
        have HC := szPart_calls l[k] _ _ _ _ s wr hparams hcode hnext hargs (by omega) p1
        have HH2 : Hid (szPts (l.drop k) s = if y < 0 then -1 else szPts (l.drop (k + 1)) y) := Lib.hid (by rw [List.drop_eq_getElem_cons hlt, szPts, hy])
        rw [← hy] at HC hbd
        have HC := Lib.hid HC
        clear hy
        go_wp2_with (go_at_call 70; refine HC.out.mono ?_; rintro e w1 ⟨rfl, hb1⟩)
        · go_ret
          refine ⟨ret_int ?_, below_then HB hb1⟩
          try rw [if_neg (show ¬ s1 < 0 by omega)]
          rw [← HH.out, HH2.out, if_pos (by omega)]
        · go_roundw
          case rel => exact ⟨k + 1, y, by omega, by go_num, rfl, by omega, hbd.1, Lib.hid (by rw [← HH.out, HH2.out, if_neg (by omega)]), below_then HB hb1⟩
          case measure => simp [intOf]; omega
      · obtain rfl : k = l.length := by omega
        go_wp2
        go_ret
        refine ⟨ret_int ?_, HB⟩
        try rw [if_neg (show ¬ s1 < 0 by omega)]
        rw [← HH.out, List.drop_length, szPts]
end Go.Proofs.Ytmcnoeinjocimaa.L

set_option linter.unusedVariables false
set_option linter.unusedSimpArgs false
namespace Go.Proofs.Ytmcnoeinjocimaa.L
open Go.RowKit
def szSa (x : Sa) (left : Int) : Int := szPtl x.parts left
theorem szSa_steps (x : Sa) (left : Int) (h : left ≤ 1048576) : ∃ s0 : Int, szSa x left = s0 ∧ s0 = szPtl x.parts left ∧ (s0 ≤ 1048576 ∧ -1 ≤ s0) := by
  refine ⟨(szPtl x.parts left), rfl, rfl, ?_⟩
  have b0 := szPtl_bd (l := x.parts) h
  exact ⟨b0.1, b0.2.1⟩
theorem szSa_bd {x : Sa} {left : Int} (h : left ≤ 1048576) : szSa x left ≤ 1048576 ∧ -1 ≤ szSa x left ∧ (0 ≤ szSa x left → SaLim x ∧ 0 ≤ left) := by
  unfold szSa
  have b0 := szPtl_bd (l := x.parts) h
  generalize szPtl x.parts left = r0 at *
  refine ⟨by (repeat' split) <;> omega, by (repeat' split) <;> omega, fun h0 => ?_⟩
  have f0 := b0.2.2 (by omega)
  exact ⟨⟨f0.1.1, f0.1.2⟩, by omega⟩
set_option maxHeartbeats 1000000 in
theorem szSsa_calls {F : Nat → Prop} (x : Sa) (vparts : Value) (left : Int) (w : World) (hparts : Rp.Rd part w F vparts x.parts) (h0 : -1 ≤ left) (h1 : left ≤ 1048576) :
    Calls Try.prog 12 #[saV x vparts, .int .i64 left] w fun e w' => e = .returned (.int .i64 (szSa x left)) ∧ Below w.heap.size w w' := by
  obtain ⟨s0, HS, e0, p0, q0⟩ := szSa_steps x left h1
  have H0 := fun W (hW : Below w.heap.size w W) => szPartS_calls vparts x.parts left W (hparts.below hW) h0 h1
  rw [← e0] at H0
  have H0 := Lib.hid H0
  clear e0
  have HS := Lib.hid HS
  have ⟨Aparts, kparts, yparts, _⟩ := hparts
  subst yparts
  unfold saV
  go_enter Try.func12, Try.ntmps12
  go_wp2_with fail
  have HB : Below w.heap.size w (w.alloc (.cells #[.slice Aparts x.parts.length kparts, .int .i64 x.values] 24)) := below_new _
  have b1 : (w.alloc (.cells #[.slice Aparts x.parts.length kparts, .int .i64 x.values] 24)).heap[w.heap.size]? = _ := heap_alloc_new _ _
  refine (H0.out _ HB).mono ?_
  rintro e w0 ⟨rfl, hb⟩
  replace b1 := blk_below b1 hb
  replace HB := below_then HB hb
  clear hb
  obtain ⟨c1, f1⟩ := cell_of_block b1
  by_cases n0 : s0 < 0
  all_goals
    go_wp2
    go_ret
    refine ⟨ret_int ?_, HB⟩
    rw [HS.out]
    try ((repeat' split) <;> omega)
end Go.Proofs.Ytmcnoeinjocimaa.L
