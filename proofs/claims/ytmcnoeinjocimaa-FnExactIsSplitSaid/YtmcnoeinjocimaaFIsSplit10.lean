/- Joined texts, each of which was built by itself: JEq JPl Px1. -/
import Derived.Test.YtmcnoeinjocimaaFIsSplit9
import Derived.Test.YtmcnoeinjocimaaProg
import Derived.Test.YtmcnoeinjocimaaFIsSplit1
import Derived.Deep.RegionHeld3
import Derived.Test.YtmcnoeinjocimaaFIsSplit2
import Derived.Test.YtmcnoeinjocimaaFIsSplit8
set_option linter.unusedVariables false
namespace Go.Proofs.Ytmcnoeinjocimaa.L
open Go.RowKit
theorem take_succ_eq {α : Type} {a b : List α} {k : Nat} (ha : k < a.length) (hb : k < b.length) (h : a.take k = b.take k) (he : a[k] = b[k]) : a.take (k + 1) = b.take (k + 1) := by
  rw [List.take_succ_eq_append_getElem ha, List.take_succ_eq_append_getElem hb, h, he]
theorem ne_of_get {α : Type} {a b : List α} {k : Nat} (ha : k < a.length) (hb : k < b.length) (he : a[k] ≠ b[k]) : a ≠ b := by
  rintro rfl
  exact he rfl
set_option maxHeartbeats 1000000 in
theorem eqIntS_calls {F G : Nat → Prop} (va vb : Value) (a b : List Int) (w : World) (ha : Rp.Rd Rp.int w F va a) (hb : Rp.Rd Rp.int w G vb b) :
    Calls Try.prog 21 #[va, vb] w fun e w' => e = .returned (.bool (decide (a = b))) ∧ Below w.heap.size w w' := by
  obtain ⟨A, c, rfl, hlc, hcm, hra⟩ := rd_int ha
  obtain ⟨B, d, rfl, hld, hdm, hrb⟩ := rd_int hb
  by_cases hl : a.length = b.length
  · have HL := Lib.hid hl
    have hle1 : a.length ≤ b.length := by omega
    have hle2 : b.length ≤ a.length := by omega
    have ht1 : ((a.length : Int) != (b.length : Int)) = false := by rw [bne_eq_false_iff_eq]; omega
    clear hl
    go_enter Try.func21, Try.ntmps21
    go_wp2
    go_loopw [5] (fun i wr => ∃ k : Nat, k ≤ a.length ∧ i = .int .i64 k ∧ Hid (a.take k = b.take k) ∧ Below w.heap.size w wr) (fun i _ => a.length - (intOf i).toNat)
    case atStart => exact ⟨0, Nat.zero_le _, rfl, Lib.hid rfl, Below.refl _ _⟩
    case round =>
      obtain ⟨k, hk, rfl, HT, HB⟩ := hrel
      by_cases hlt : k < a.length
      · have hlt2 : k < b.length := by omega
        rcases hra with rfl | ⟨g, o, rfl, hg, hca⟩
        · simp at hlt
        rcases hrb with rfl | ⟨g2, o2, rfl, hg2, hcb⟩
        · simp at hlt2
        have c1 := cell_below HB (hca k hlt)
        have c2 := cell_below HB (hcb k hlt2)
        clear hca hcb
        have i0 : (0 : Int) ≤ (k : Int) := Int.natCast_nonneg _
        have i1 : (k : Int) < (a.length : Int) := by omega
        have i2 : (k : Int) < (b.length : Int) := by omega
        by_cases he : a[k] = b[k]
        · have hne : (a[k] != b[k]) = false := by rw [bne_eq_false_iff_eq]; exact he
          have HE := Lib.hid he
          clear he
          go_wp2
          go_quiet (fail)
          go_wp2
          go_roundw
          case rel => exact ⟨k + 1, by omega, by go_num, Lib.hid (take_succ_eq hlt hlt2 HT.out HE.out), by first | exact HB | exact below_drewN HB _ | exact below_drew HB⟩
          case measure => simp [intOf]; omega
        · have hne : (a[k] != b[k]) = true := by rw [bne_iff_ne]; exact he
          have HE := Lib.hid he
          clear he
          go_wp2
          go_quiet (fail)
          go_wp2
          go_ret
          exact ⟨ret_bool (by rw [eq_comm, decide_eq_false_iff_not]; exact ne_of_get hlt hlt2 HE.out), by first | exact HB | exact below_drewN HB _ | exact below_drew HB⟩
      · obtain rfl : k = a.length := by omega
        go_wp2
        go_ret
        refine ⟨ret_bool ?_, HB⟩
        have := HT.out
        rw [List.take_length, HL.out, List.take_length] at this
        rw [eq_comm, decide_eq_true_eq]; exact this
  · have ht1 : ((a.length : Int) != (b.length : Int)) = true := by rw [bne_iff_ne]; omega
    have hn : a ≠ b := fun h => hl (by rw [h])
    have HN := Lib.hid hn
    clear hl hn hra hrb
    go_enter Try.func21, Try.ntmps21
    go_wp2
    go_ret
    exact ⟨ret_bool (by rw [eq_comm, decide_eq_false_iff_not]; exact HN.out), Below.refl _ _⟩
def eqFl (x y : Fl) : Bool := decide (x = y)
set_option maxHeartbeats 4000000 in
theorem eqFlat_calls (x y : Fl) (w : World) : Calls Try.prog 135 #[flV x, flV y] w fun e w' => e = .returned (.bool (eqFl x y)) ∧ Below w.heap.size w w' := by
  have HP : eqFl x y = (x.op == y.op && x.dO == y.dO && x.dst == y.dst && x.a == y.a && x.b == y.b && x.n == y.n) := by
    unfold eqFl
    rw [Bool.eq_iff_iff]
    obtain ⟨a1, a2, a3, a4, a5, a6⟩ := x
    obtain ⟨b1, b2, b3, b4, b5, b6⟩ := y
    simp [and_assoc]
  have HP := Lib.hid HP
  unfold flV
  go_enter Try.func135, Try.ntmps135
  go_wp2_with fail
  all_goals
    go_ret
    refine ⟨ret_bool ?_, ((Below.refl _ _).alloc (Nat.le_refl _) _).alloc (by simp) _⟩
    rw [HP.out]
    clear HP
    simp_all
end Go.Proofs.Ytmcnoeinjocimaa.L

set_option linter.unusedVariables false
namespace Go.Proofs.Ytmcnoeinjocimaa.L
open Go.RowKit
set_option maxHeartbeats 2000000 in
theorem eqFlatS_calls {F G : Nat → Prop} (va vb : Value) (a b : List Fl) (w : World) (ha : Rp.Rd flat w F va a) (hb : Rp.Rd flat w G vb b) :
    Calls Try.prog 123 #[va, vb] w fun e w' => e = .returned (.bool (decide (a = b))) ∧ Below w.heap.size w w' := by
  obtain ⟨A, c, rfl, hlc, hcm, hra⟩ := rd_flat ha
  obtain ⟨B, d, rfl, hld, hdm, hrb⟩ := rd_flat hb
  by_cases hl : a.length = b.length
  · have HL := Lib.hid hl
    have hle1 : a.length ≤ b.length := by omega
    have hle2 : b.length ≤ a.length := by omega
    have ht1 : ((a.length : Int) != (b.length : Int)) = false := by rw [bne_eq_false_iff_eq]; omega
    clear hl
    go_enter Try.func123, Try.ntmps123
    go_wp2
    go_loopw [5] (fun i wr => ∃ k : Nat, k ≤ a.length ∧ i = .int .i64 k ∧ Hid (a.take k = b.take k) ∧ Below w.heap.size w wr) (fun i _ => a.length - (intOf i).toNat)
    case atStart => exact ⟨0, Nat.zero_le _, rfl, Lib.hid rfl, Below.refl _ _⟩
    case round =>
      obtain ⟨k, hk, rfl, HT, HB⟩ := hrel
      by_cases hlt : k < a.length
      · have hlt2 : k < b.length := by omega
        rcases hra with rfl | ⟨g, o, rfl, hg, hca⟩
        · simp at hlt
        rcases hrb with rfl | ⟨g2, o2, rfl, hg2, hcb⟩
        · simp at hlt2
        have c1 := (hca k hlt).below HB
        have c2 := (hcb k hlt2).below HB
        clear hca hcb
        obtain ⟨p0, p1, p2, p3, p4, p5⟩ := c1
        obtain ⟨q0, q1, q2, q3, q4, q5⟩ := c2
        have i0 : (0 : Int) ≤ (k : Int) := Int.natCast_nonneg _
        have i1 : (k : Int) < (a.length : Int) := by omega
        have i2 : (k : Int) < (b.length : Int) := by omega
        have HC := Lib.hid (fun W => eqFlat_calls a[k] b[k] W)
        unfold flV at HC
        have HE : Hid (eqFl a[k] b[k] = decide (a[k] = b[k])) := Lib.hid rfl
        generalize eqFl a[k] b[k] = r at *
        go_wp2_with fail
        go_region_held3 (fun w' => w'.cell? ⟨g, o + k * 6, none⟩ = some (.int .i64 a[k].op) ∧ w'.cell? ⟨g, o + k * 6 + 1, none⟩ = some (.int .i64 a[k].dO) ∧ w'.cell? ⟨g, o + k * 6 + 2, none⟩ = some (.int .i64 a[k].dst) ∧ w'.cell? ⟨g, o + k * 6 + 3, none⟩ = some (.int .i64 a[k].a) ∧ w'.cell? ⟨g, o + k * 6 + 4, none⟩ = some (.int .i64 a[k].b) ∧ w'.cell? ⟨g, o + k * 6 + 5, none⟩ = some (.int .i64 a[k].n) ∧
          w'.cell? ⟨g2, o2 + k * 6, none⟩ = some (.int .i64 b[k].op) ∧ w'.cell? ⟨g2, o2 + k * 6 + 1, none⟩ = some (.int .i64 b[k].dO) ∧ w'.cell? ⟨g2, o2 + k * 6 + 2, none⟩ = some (.int .i64 b[k].dst) ∧ w'.cell? ⟨g2, o2 + k * 6 + 3, none⟩ = some (.int .i64 b[k].a) ∧ w'.cell? ⟨g2, o2 + k * 6 + 4, none⟩ = some (.int .i64 b[k].b) ∧ w'.cell? ⟨g2, o2 + k * 6 + 5, none⟩ = some (.int .i64 b[k].n))
          (first | go_keep | (go_split_ands; refine ⟨?_, ?_, ?_, ?_, ?_, ?_, ?_, ?_, ?_, ?_, ?_, ?_⟩ <;> exact cell_below hb1 (by assumption)))
          ((go_at_call 135; refine (HC.out _).mono ?_; rintro e w1 ⟨rfl, hb1⟩))
        have HB1 : Below w.heap.size w w1 := by first | exact below_then HB hb1 | exact below_then (below_drew HB) hb1 | exact below_then (below_drewN HB _) hb1
        clear hb1
        cases r
        · go_wp2
          go_ret
          exact ⟨ret_bool (by rw [eq_comm, decide_eq_false_iff_not]; exact ne_of_get hlt hlt2 (of_decide_eq_false HE.out.symm)), HB1⟩
        · go_wp2
          go_roundw
          case rel => exact ⟨k + 1, by omega, by go_num, Lib.hid (take_succ_eq hlt hlt2 HT.out (of_decide_eq_true HE.out.symm)), HB1⟩
          case measure => simp [intOf]; omega
      · obtain rfl : k = a.length := by omega
        go_wp2
        go_ret
        refine ⟨ret_bool ?_, HB⟩
        have := HT.out
        rw [List.take_length, HL.out, List.take_length] at this
        rw [eq_comm, decide_eq_true_eq]; exact this
  · have ht1 : ((a.length : Int) != (b.length : Int)) = true := by rw [bne_iff_ne]; omega
    have hn : a ≠ b := fun h => hl (by rw [h])
    have HN := Lib.hid hn
    clear hl hn hra hrb
    go_enter Try.func123, Try.ntmps123
    go_wp2
    go_ret
    exact ⟨ret_bool (by rw [eq_comm, decide_eq_false_iff_not]; exact HN.out), Below.refl _ _⟩
end Go.Proofs.Ytmcnoeinjocimaa.L

set_option linter.unusedVariables false
namespace Go.Proofs.Ytmcnoeinjocimaa.L
open Go.RowKit
def eqIl (x y : List Int) : Bool := decide (x = y)
set_option maxHeartbeats 2000000 in
theorem eqIntSS_calls {F G : Nat → Prop} (va vb : Value) (a b : List (List Int)) (w : World) (ha : Rp.Rd (Rp.sl Rp.int) w F va a) (hb : Rp.Rd (Rp.sl Rp.int) w G vb b) :
    Calls Try.prog 29 #[va, vb] w fun e w' => e = .returned (.bool (decide (a = b))) ∧ Below w.heap.size w w' := by
  obtain ⟨A, c, rfl, hlc, hcm, hra⟩ := rd_ints ha
  obtain ⟨B, d, rfl, hld, hdm, hrb⟩ := rd_ints hb
  by_cases hl : a.length = b.length
  · have HL := Lib.hid hl
    have hle1 : a.length ≤ b.length := by omega
    have hle2 : b.length ≤ a.length := by omega
    have ht1 : ((a.length : Int) != (b.length : Int)) = false := by rw [bne_eq_false_iff_eq]; omega
    clear hl
    go_enter Try.func29, Try.ntmps29
    go_wp2
    go_loopw [5] (fun i wr => ∃ k : Nat, k ≤ a.length ∧ i = .int .i64 k ∧ Hid (a.take k = b.take k) ∧ Below w.heap.size w wr) (fun i _ => a.length - (intOf i).toNat)
    case atStart => exact ⟨0, Nat.zero_le _, rfl, Lib.hid rfl, Below.refl _ _⟩
    case round =>
      obtain ⟨k, hk, rfl, HT, HB⟩ := hrel
      by_cases hlt : k < a.length
      · have hlt2 : k < b.length := by omega
        rcases hra with rfl | ⟨g, o, rfl, hg, hca⟩
        · simp at hlt
        rcases hrb with rfl | ⟨g2, o2, rfl, hg2, hcb⟩
        · simp at hlt2
        obtain ⟨u, c1, hu⟩ := hca k hlt
        obtain ⟨v, c2, hv⟩ := hcb k hlt2
        replace c1 := cell_below HB c1
        replace c2 := cell_below HB c2
        replace hu := hu.below HB
        replace hv := hv.below HB
        clear hca hcb
        have ⟨A0, k0, hv0, _⟩ := hu
        have ⟨A2, k2, hv2, _⟩ := hv
        subst hv0 hv2
        have i0 : (0 : Int) ≤ (k : Int) := Int.natCast_nonneg _
        have i1 : (k : Int) < (a.length : Int) := by omega
        have i2 : (k : Int) < (b.length : Int) := by omega
        have HC := Lib.hid (fun W (hb : Below wr.heap.size wr W) => eqIntS_calls _ _ a[k] b[k] W (hu.below hb) (hv.below hb))
        clear hu hv
        have HE : Hid (decide (a[k] = b[k]) = decide (a[k] = b[k])) := Lib.hid rfl
        have HE : Hid (eqIl a[k] b[k] = decide (a[k] = b[k])) := Lib.hid rfl
        change Hid (∀ W (hb : Below wr.heap.size wr W), Calls Try.prog 21 #[.slice A0 a[k].length k0, .slice A2 b[k].length k2] W fun e w' => e = .returned (.bool (eqIl a[k] b[k])) ∧ Below W.heap.size W w') at HC
        generalize eqIl a[k] b[k] = r at *
        go_wp2_with fail
        go_region_held3 (fun w' => w'.cell? ⟨g, o + k, none⟩ = some (.slice A0 a[k].length k0) ∧ w'.cell? ⟨g2, o2 + k, none⟩ = some (.slice A2 b[k].length k2))
          (first | go_keep | (go_split_ands; refine ⟨?_, ?_⟩ <;> exact cell_below hb1 (by assumption)))
          ((go_at_call 21; refine (HC.out _ (by first | exact Below.refl _ _ | exact below_drew (Below.refl _ _) | exact below_drewN (Below.refl _ _) _)).mono ?_; rintro e w1 ⟨rfl, hb1⟩))
        have HB1 : Below w.heap.size w w1 := by first | exact below_then HB hb1 | exact below_then (below_drew HB) hb1 | exact below_then (below_drewN HB _) hb1
        clear hb1 HC
        cases r
        · go_wp2
          go_ret
          exact ⟨ret_bool (by rw [eq_comm, decide_eq_false_iff_not]; exact ne_of_get hlt hlt2 (of_decide_eq_false HE.out.symm)), HB1⟩
        · go_wp2
          go_roundw
          case rel => exact ⟨k + 1, by omega, by go_num, Lib.hid (take_succ_eq hlt hlt2 HT.out (of_decide_eq_true HE.out.symm)), HB1⟩
          case measure => simp [intOf]; omega
      · obtain rfl : k = a.length := by omega
        go_wp2
        go_ret
        refine ⟨ret_bool ?_, HB⟩
        have := HT.out
        rw [List.take_length, HL.out, List.take_length] at this
        rw [eq_comm, decide_eq_true_eq]; exact this
  · have ht1 : ((a.length : Int) != (b.length : Int)) = true := by rw [bne_iff_ne]; omega
    have hn : a ≠ b := fun h => hl (by rw [h])
    have HN := Lib.hid hn
    clear hl hn hra hrb
    go_enter Try.func29, Try.ntmps29
    go_wp2
    go_ret
    exact ⟨ret_bool (by rw [eq_comm, decide_eq_false_iff_not]; exact HN.out), Below.refl _ _⟩
end Go.Proofs.Ytmcnoeinjocimaa.L

set_option linter.unusedVariables false
set_option linter.unusedSimpArgs false
namespace Go.Proofs.Ytmcnoeinjocimaa.L
open Go.RowKit
def eqPt (x y : Pt) : Bool := decide (x = y)
set_option maxHeartbeats 4000000 in
theorem eqPart_calls {F G : Nat → Prop} (x y : Pt) (vparams vcode vnext vargs uparams ucode unext uargs : Value) (w : World) (hparams : Rp.Rd Rp.int w F vparams x.params) (hcode : Rp.Rd flat w F vcode x.code) (hnext : Rp.Rd Rp.int w F vnext x.next) (hargs : Rp.Rd (Rp.sl Rp.int) w F vargs x.args) (gparams : Rp.Rd Rp.int w G uparams y.params) (gcode : Rp.Rd flat w G ucode y.code) (gnext : Rp.Rd Rp.int w G unext y.next) (gargs : Rp.Rd (Rp.sl Rp.int) w G uargs y.args) :
    Calls Try.prog 85 #[ptV x vparams vcode vnext vargs, ptV y uparams ucode unext uargs] w fun e w' => e = .returned (.bool (eqPt x y)) ∧ Below w.heap.size w w' := by
  have HP : eqPt x y = (decide (x.params = y.params) && decide (x.code = y.code) && x.go == y.go && x.test == y.test && decide (x.next = y.next) && decide (x.args = y.args)) := by
    unfold eqPt
    rw [Bool.eq_iff_iff]
    obtain ⟨a0, a1, a2, a3, a4, a5⟩ := x
    obtain ⟨b0, b1, b2, b3, b4, b5⟩ := y
    simp [and_assoc]
  have HP := Lib.hid HP
  have Hparams := fun W (hW : Below w.heap.size w W) => eqIntS_calls vparams uparams x.params y.params W (hparams.below hW) (gparams.below hW)
  have Hcode := fun W (hW : Below w.heap.size w W) => eqFlatS_calls vcode ucode x.code y.code W (hcode.below hW) (gcode.below hW)
  have Hnext := fun W (hW : Below w.heap.size w W) => eqIntS_calls vnext unext x.next y.next W (hnext.below hW) (gnext.below hW)
  have Hargs := fun W (hW : Below w.heap.size w W) => eqIntSS_calls vargs uargs x.args y.args W (hargs.below hW) (gargs.below hW)
  generalize decide (x.params = y.params) = rparams at *
  have Hparams := Lib.hid Hparams
  generalize decide (x.code = y.code) = rcode at *
  have Hcode := Lib.hid Hcode
  generalize decide (x.next = y.next) = rnext at *
  have Hnext := Lib.hid Hnext
  generalize decide (x.args = y.args) = rargs at *
  have Hargs := Lib.hid Hargs
  have ⟨Aparams, kparams, yparams, _⟩ := hparams
  have ⟨Bparams, dparams, zparams, _⟩ := gparams
  have ⟨Acode, kcode, ycode, _⟩ := hcode
  have ⟨Bcode, dcode, zcode, _⟩ := gcode
  have ⟨Anext, knext, ynext, _⟩ := hnext
  have ⟨Bnext, dnext, znext, _⟩ := gnext
  have ⟨Aargs, kargs, yargs, _⟩ := hargs
  have ⟨Bargs, dargs, zargs, _⟩ := gargs
  subst yparams ycode ynext yargs zparams zcode znext zargs
  clear hparams gparams hcode gcode hnext gnext hargs gargs
  unfold ptV
  go_enter Try.func85, Try.ntmps85
  go_wp2_with fail
  have HB : Below w.heap.size w ((w.alloc (.cells #[.slice Aparams x.params.length kparams, .slice Acode x.code.length kcode, .int .i64 x.go, .int .i64 x.test, .slice Anext x.next.length knext, .slice Aargs x.args.length kargs] 54)).alloc (.cells #[.slice Bparams y.params.length dparams, .slice Bcode y.code.length dcode, .int .i64 y.go, .int .i64 y.test, .slice Bnext y.next.length dnext, .slice Bargs y.args.length dargs] 54)) := (below_new _).alloc (by simp) _
  have b1 := heap_alloc2_old w (.cells #[.slice Aparams x.params.length kparams, .slice Acode x.code.length kcode, .int .i64 x.go, .int .i64 x.test, .slice Anext x.next.length knext, .slice Aargs x.args.length kargs] 54) (.cells #[.slice Bparams y.params.length dparams, .slice Bcode y.code.length dcode, .int .i64 y.go, .int .i64 y.test, .slice Bnext y.next.length dnext, .slice Bargs y.args.length dargs] 54)
  have b2 := heap_alloc2_new w (.cells #[.slice Aparams x.params.length kparams, .slice Acode x.code.length kcode, .int .i64 x.go, .int .i64 x.test, .slice Anext x.next.length knext, .slice Aargs x.args.length kargs] 54) (.cells #[.slice Bparams y.params.length dparams, .slice Bcode y.code.length dcode, .int .i64 y.go, .int .i64 y.test, .slice Bnext y.next.length dnext, .slice Bargs y.args.length dargs] 54)
  refine (Hparams.out _ HB).mono ?_
  rintro e w0 ⟨rfl, hb⟩
  replace b1 := blk_below b1 hb; replace b2 := blk_below b2 hb; replace HB := below_then HB hb
  clear hb
  obtain ⟨c1, f1⟩ := cell_of_block b1; obtain ⟨c2, f2⟩ := cell_of_block b2
  have s1 := blk_lt b1; have s2 := blk_lt b2
  cases rparams
  · go_wp2
    go_ret
    refine ⟨ret_bool ?_, HB⟩
    rw [HP.out]
    clear HP Hparams Hcode Hnext Hargs c1 f1 c2 f2
    simp_all
  go_wp2_with fail
  all_goals try (go_ret; refine ⟨ret_bool ?_, HB⟩; rw [HP.out]; clear HP Hparams Hcode Hnext Hargs c1 f1 c2 f2; simp_all; done)
  refine (Hcode.out _ HB).mono ?_
  rintro e w1 ⟨rfl, hb⟩
  replace b1 := blk_below b1 hb; replace b2 := blk_below b2 hb; replace HB := below_then HB hb
  clear hb c1 f1 c2 f2
  obtain ⟨c1, f1⟩ := cell_of_block b1; obtain ⟨c2, f2⟩ := cell_of_block b2
  replace s1 := blk_lt b1; replace s2 := blk_lt b2
  cases rcode
  · go_wp2
    go_ret
    refine ⟨ret_bool ?_, HB⟩
    rw [HP.out]
    clear HP Hparams Hcode Hnext Hargs c1 f1 c2 f2
    simp_all
  go_wp2_with fail
  all_goals try (go_ret; refine ⟨ret_bool ?_, HB⟩; rw [HP.out]; clear HP Hparams Hcode Hnext Hargs c1 f1 c2 f2; simp_all; done)
  refine (Hnext.out _ HB).mono ?_
  rintro e w2 ⟨rfl, hb⟩
  replace b1 := blk_below b1 hb; replace b2 := blk_below b2 hb; replace HB := below_then HB hb
  clear hb c1 f1 c2 f2
  obtain ⟨c1, f1⟩ := cell_of_block b1; obtain ⟨c2, f2⟩ := cell_of_block b2
  replace s1 := blk_lt b1; replace s2 := blk_lt b2
  cases rnext
  · go_wp2
    go_ret
    refine ⟨ret_bool ?_, HB⟩
    rw [HP.out]
    clear HP Hparams Hcode Hnext Hargs c1 f1 c2 f2
    simp_all
  go_wp2_with fail
  all_goals try (go_ret; refine ⟨ret_bool ?_, HB⟩; rw [HP.out]; clear HP Hparams Hcode Hnext Hargs c1 f1 c2 f2; simp_all; done)
  refine (Hargs.out _ HB).mono ?_
  rintro e w3 ⟨rfl, hb⟩
  replace b1 := blk_below b1 hb; replace b2 := blk_below b2 hb; replace HB := below_then HB hb
  clear hb c1 f1 c2 f2
  obtain ⟨c1, f1⟩ := cell_of_block b1; obtain ⟨c2, f2⟩ := cell_of_block b2
  replace s1 := blk_lt b1; replace s2 := blk_lt b2
  cases rargs
  all_goals
    go_wp2_with fail
  all_goals
    go_ret
    refine ⟨ret_bool ?_, HB⟩
    rw [HP.out]
    clear HP Hparams Hcode Hnext Hargs c1 f1 c2 f2
    simp_all
end Go.Proofs.Ytmcnoeinjocimaa.L

set_option linter.unusedVariables false
set_option linter.unusedSimpArgs false
namespace Go.Proofs.Ytmcnoeinjocimaa.L
open Go.RowKit
set_option maxHeartbeats 2000000 in
theorem eqPartS_calls {F G : Nat → Prop} (va vb : Value) (a b : List Pt) (w : World) (ha : Rp.Rd part w F va a) (hb : Rp.Rd part w G vb b) :
    Calls Try.prog 53 #[va, vb] w fun e w' => e = .returned (.bool (decide (a = b))) ∧ Below w.heap.size w w' := by
  obtain ⟨A, c, rfl, hlc, hcm, hra⟩ := rd_part ha
  obtain ⟨B, d, rfl, hld, hdm, hrb⟩ := rd_part hb
  by_cases hl : a.length = b.length
  · have HL := Lib.hid hl
    have hle1 : a.length ≤ b.length := by omega
    have hle2 : b.length ≤ a.length := by omega
    have ht1 : ((a.length : Int) != (b.length : Int)) = false := by rw [bne_eq_false_iff_eq]; omega
    clear hl
    go_enter Try.func53, Try.ntmps53
    go_wp2
    go_loopw [5] (fun i wr => ∃ k : Nat, k ≤ a.length ∧ i = .int .i64 k ∧ Hid (a.take k = b.take k) ∧ Below w.heap.size w wr) (fun i _ => a.length - (intOf i).toNat)
    case atStart => exact ⟨0, Nat.zero_le _, rfl, Lib.hid rfl, Below.refl _ _⟩
    case round =>
      obtain ⟨k, hk, rfl, HT, HB⟩ := hrel
      by_cases hlt : k < a.length
      · have hlt2 : k < b.length := by omega
        rcases hra with rfl | ⟨g, o, rfl, hg, hca⟩
        · simp at hlt
        rcases hrb with rfl | ⟨g2, o2, rfl, hg2, hcb⟩
        · simp at hlt2
        obtain ⟨vparams, vcode, vnext, vargs, c1, hparams, hcode, hnext, hargs⟩ := hca k hlt
        obtain ⟨uparams, ucode, unext, uargs, c2, gparams, gcode, gnext, gargs⟩ := hcb k hlt2
        replace c1 := partAt_below c1 HB
        replace c2 := partAt_below c2 HB
        replace hparams := hparams.below HB
        replace gparams := gparams.below HB
        replace hcode := hcode.below HB
        replace gcode := gcode.below HB
        replace hnext := hnext.below HB
        replace gnext := gnext.below HB
        replace hargs := hargs.below HB
        replace gargs := gargs.below HB
        clear hca hcb
        obtain ⟨p0, p1, p2, p3, p4, p5⟩ := c1
        obtain ⟨q0, q1, q2, q3, q4, q5⟩ := c2
        have ⟨Aparams, kparams, yparams, _⟩ := hparams
        have ⟨Bparams, dparams, zparams, _⟩ := gparams
        have ⟨Acode, kcode, ycode, _⟩ := hcode
        have ⟨Bcode, dcode, zcode, _⟩ := gcode
        have ⟨Anext, knext, ynext, _⟩ := hnext
        have ⟨Bnext, dnext, znext, _⟩ := gnext
        have ⟨Aargs, kargs, yargs, _⟩ := hargs
        have ⟨Bargs, dargs, zargs, _⟩ := gargs
        subst yparams ycode ynext yargs zparams zcode znext zargs
        have i0 : (0 : Int) ≤ (k : Int) := Int.natCast_nonneg _
        have i1 : (k : Int) < (a.length : Int) := by omega
        have i2 : (k : Int) < (b.length : Int) := by omega
        have HC := Lib.hid (fun W (hb : Below wr.heap.size wr W) => eqPart_calls a[k] b[k] _ _ _ _ _ _ _ _ W (hparams.below hb) (hcode.below hb) (hnext.below hb) (hargs.below hb) (gparams.below hb) (gcode.below hb) (gnext.below hb) (gargs.below hb))
        unfold ptV at HC
        clear hparams gparams hcode gcode hnext gnext hargs gargs
        have HE : Hid (eqPt a[k] b[k] = decide (a[k] = b[k])) := Lib.hid rfl
        generalize eqPt a[k] b[k] = r at *
        go_wp2_with fail
        go_region_held3 (fun w' => w'.cell? ⟨g, o + k * 6, none⟩ = some (.slice Aparams a[k].params.length kparams) ∧ w'.cell? ⟨g, o + k * 6 + 1, none⟩ = some (.slice Acode a[k].code.length kcode) ∧ w'.cell? ⟨g, o + k * 6 + 2, none⟩ = some (.int .i64 a[k].go) ∧ w'.cell? ⟨g, o + k * 6 + 3, none⟩ = some (.int .i64 a[k].test) ∧ w'.cell? ⟨g, o + k * 6 + 4, none⟩ = some (.slice Anext a[k].next.length knext) ∧ w'.cell? ⟨g, o + k * 6 + 5, none⟩ = some (.slice Aargs a[k].args.length kargs) ∧
          w'.cell? ⟨g2, o2 + k * 6, none⟩ = some (.slice Bparams b[k].params.length dparams) ∧ w'.cell? ⟨g2, o2 + k * 6 + 1, none⟩ = some (.slice Bcode b[k].code.length dcode) ∧ w'.cell? ⟨g2, o2 + k * 6 + 2, none⟩ = some (.int .i64 b[k].go) ∧ w'.cell? ⟨g2, o2 + k * 6 + 3, none⟩ = some (.int .i64 b[k].test) ∧ w'.cell? ⟨g2, o2 + k * 6 + 4, none⟩ = some (.slice Bnext b[k].next.length dnext) ∧ w'.cell? ⟨g2, o2 + k * 6 + 5, none⟩ = some (.slice Bargs b[k].args.length dargs))
          (first | go_keep | (go_split_ands; refine ⟨?_, ?_, ?_, ?_, ?_, ?_, ?_, ?_, ?_, ?_, ?_, ?_⟩ <;> exact cell_below hb1 (by assumption)))
          ((go_at_call 85; refine (HC.out _ (by first | exact Below.refl _ _ | exact below_drew (Below.refl _ _) | exact below_drewN (Below.refl _ _) _)).mono ?_; rintro e w1 ⟨rfl, hb1⟩))
        have HB1 : Below w.heap.size w w1 := by first | exact below_then HB hb1 | exact below_then (below_drew HB) hb1 | exact below_then (below_drewN HB _) hb1
        clear hb1 HC
        cases r
        · go_wp2
          go_ret
          exact ⟨ret_bool (by rw [eq_comm, decide_eq_false_iff_not]; exact ne_of_get hlt hlt2 (of_decide_eq_false HE.out.symm)), HB1⟩
        · go_wp2
          go_roundw
          case rel => exact ⟨k + 1, by omega, by go_num, Lib.hid (take_succ_eq hlt hlt2 HT.out (of_decide_eq_true HE.out.symm)), HB1⟩
          case measure => simp [intOf]; omega
      · obtain rfl : k = a.length := by omega
        go_wp2
        go_ret
        refine ⟨ret_bool ?_, HB⟩
        have := HT.out
        rw [List.take_length, HL.out, List.take_length] at this
        rw [eq_comm, decide_eq_true_eq]; exact this
  · have ht1 : ((a.length : Int) != (b.length : Int)) = true := by rw [bne_iff_ne]; omega
    have hn : a ≠ b := fun h => hl (by rw [h])
    have HN := Lib.hid hn
    clear hl hn hra hrb
    go_enter Try.func53, Try.ntmps53
    go_wp2
    go_ret
    exact ⟨ret_bool (by rw [eq_comm, decide_eq_false_iff_not]; exact HN.out), Below.refl _ _⟩
end Go.Proofs.Ytmcnoeinjocimaa.L

set_option linter.unusedVariables false
set_option linter.unusedSimpArgs false
namespace Go.Proofs.Ytmcnoeinjocimaa.L
open Go.RowKit
def eqSa (x y : Sa) : Bool := decide (x = y)
set_option maxHeartbeats 4000000 in
theorem eqSsa_calls {F G : Nat → Prop} (x y : Sa) (vparts uparts : Value) (w : World) (hparts : Rp.Rd part w F vparts x.parts) (gparts : Rp.Rd part w G uparts y.parts) :
    Calls Try.prog 16 #[saV x vparts, saV y uparts] w fun e w' => e = .returned (.bool (eqSa x y)) ∧ Below w.heap.size w w' := by
  have HP : eqSa x y = (decide (x.parts = y.parts) && x.values == y.values) := by
    unfold eqSa
    rw [Bool.eq_iff_iff]
    obtain ⟨a0, a1⟩ := x
    obtain ⟨b0, b1⟩ := y
    simp [and_assoc]
  have HP := Lib.hid HP
  have Hparts := fun W (hW : Below w.heap.size w W) => eqPartS_calls vparts uparts x.parts y.parts W (hparts.below hW) (gparts.below hW)
  generalize decide (x.parts = y.parts) = rparts at *
  have Hparts := Lib.hid Hparts
  have ⟨Aparts, kparts, yparts, _⟩ := hparts
  have ⟨Bparts, dparts, zparts, _⟩ := gparts
  subst yparts zparts
  clear hparts gparts
  unfold saV
  go_enter Try.func16, Try.ntmps16
  go_wp2_with fail
  have HB : Below w.heap.size w ((w.alloc (.cells #[.slice Aparts x.parts.length kparts, .int .i64 x.values] 29)).alloc (.cells #[.slice Bparts y.parts.length dparts, .int .i64 y.values] 29)) := (below_new _).alloc (by simp) _
  have b1 := heap_alloc2_old w (.cells #[.slice Aparts x.parts.length kparts, .int .i64 x.values] 29) (.cells #[.slice Bparts y.parts.length dparts, .int .i64 y.values] 29)
  have b2 := heap_alloc2_new w (.cells #[.slice Aparts x.parts.length kparts, .int .i64 x.values] 29) (.cells #[.slice Bparts y.parts.length dparts, .int .i64 y.values] 29)
  refine (Hparts.out _ HB).mono ?_
  rintro e w0 ⟨rfl, hb⟩
  replace b1 := blk_below b1 hb; replace b2 := blk_below b2 hb; replace HB := below_then HB hb
  clear hb
  obtain ⟨c1, f1⟩ := cell_of_block b1; obtain ⟨c2, f2⟩ := cell_of_block b2
  have s1 := blk_lt b1; have s2 := blk_lt b2
  cases rparts
  all_goals
    go_wp2_with fail
  all_goals
    go_ret
    refine ⟨ret_bool ?_, HB⟩
    rw [HP.out]
    clear HP Hparts c1 f1 c2 f2
    simp_all
end Go.Proofs.Ytmcnoeinjocimaa.L

set_option linter.unusedVariables false
set_option linter.unusedSimpArgs false
namespace Go.Proofs.Ytmcnoeinjocimaa.L
theorem step_eq {V : Int} (hV : 12 ≤ V) (x : Fl) : stepS V x = flatB x V := by
  have key : x.op = 1 ∨ x.op = 2 ∨ x.op = 3 ∨ x.op = 4 ∨ x.op = 5 ∨ x.op = 6 ∨ (x.op ≠ 1 ∧ x.op ≠ 2 ∧ x.op ≠ 3 ∧ x.op ≠ 4 ∧ x.op ≠ 5 ∧ x.op ≠ 6) := by omega
  rw [Bool.eq_iff_iff]
  rcases key with h | h | h | h | h | h | ⟨h1, h2, h3, h4, h5, h6⟩
  case inr.inr.inr.inr.inr.inr =>
    simp [stepS, sFlatB, flatB, nameB, fK, fD, fA, fB, fN, fT, inB, *]
    try omega
  all_goals
    simp [stepS, sFlatB, flatB, nameB, fK, fD, fA, fB, fN, fT, inB, h]
    try omega
theorem all_any {α : Type} (l : List α) (f g : α → Bool) (h : ∀ x, f x = g x) : l.all f = !l.any (fun x => !g x) := by
  induction l with
  | nil => rfl
  | cons x t ih => rw [List.all_cons, List.any_cons, ih, h]; cases g x <;> simp
theorem static_iff {s : Sa} (hV : 12 ≤ s.values) {p : Pt} : staticI s p = true ↔ (∀ k ∈ p.next, 0 < k ∧ k < s.parts.length) ∧ partS s p = true := by
  have hc : codeB p.code s.values = (decide (p.code.length ≤ 60) && p.code.all (stepS s.values)) := by
    unfold codeB
    rw [← all_any p.code (stepS s.values) _ (step_eq hV)]
  have hn : (∀ k ∈ p.next, 0 < k ∧ k < s.parts.length) ↔ (p.next.any (fun k => !inB k 0 (s.parts.length - 1)) = false ∧ p.next.contains 0 = false) := by
    rw [List.any_eq_false]
    constructor
    · intro h
      refine ⟨fun k hk => ?_, ?_⟩
      · have := h k hk
        unfold inB; simp; omega
      · cases hc : p.next.contains 0
        · rfl
        · have := h 0 (List.contains_iff_mem.1 hc); omega
    · rintro ⟨h1, h2⟩ k hk
      have h3 := h1 k hk
      have h4 : k ≠ 0 := fun he => by
        rw [he] at hk
        rw [List.contains_iff_mem.2 hk] at h2; cases h2
      unfold inB at h3; simp at h3; omega
  have hx : p.next.all (fun k => decide (0 ≤ k) && decide (k < s.parts.length)) = !p.next.any (fun k => !inB k 0 (s.parts.length - 1)) := all_any _ _ _ (fun k => by
    unfold inB
    rw [Bool.eq_iff_iff]; simp; omega)
  rw [hn]
  unfold staticI partS midS sBlk goB testB
  rw [hc, hx]
  generalize argsS s.parts p = A
  generalize p.code.all (stepS s.values) = C
  generalize p.next.any (fun k => !inB k 0 (s.parts.length - 1)) = X
  generalize p.next.contains 0 = Z
  have he : ∀ n : Nat, (if p.go == 1 then (n : Int) == 1 else if p.go == 2 then (n : Int) == 2 else if p.go == 5 then inB n 2 6 else (p.go == 3 || p.go == 4) && (n : Int) == 0) = sEnd p.go 0 n ([] : List Fl).length := fun n => by
    unfold sEnd
    have key : p.go = 1 ∨ p.go = 2 ∨ p.go = 5 ∨ p.go = 3 ∨ p.go = 4 ∨ (p.go ≠ 1 ∧ p.go ≠ 2 ∧ p.go ≠ 3 ∧ p.go ≠ 4 ∧ p.go ≠ 5) := by omega
    rw [Bool.eq_iff_iff]
    rcases key with h | h | h | h | h | ⟨h1, h2, h3, h4, h5⟩
    case inr.inr.inr.inr.inr =>
      simp [inB, *]
      try omega
    all_goals
      simp [inB, h]
      try omega
  rw [he]
  generalize sEnd p.go 0 p.next.length ([] : List Fl).length = E
  have ht : (!(((p.go == 2 || p.go == 5) && !inB p.test 0 (s.values - 1)) || (!(p.go == 2 || p.go == 5) && p.test != 0))) = !((p.go == 2 || p.go == 5) && !inB p.test 0 (s.values - 1) || p.go != 2 && p.go != 5 && p.test != 0) := by
    cases h1 : p.go == 2 <;> cases h2 : p.go == 5 <;> simp [bne, h1, h2]
  rw [ht]
  generalize (!((p.go == 2 || p.go == 5) && !inB p.test 0 (s.values - 1) || p.go != 2 && p.go != 5 && p.test != 0)) = T
  cases A <;> cases C <;> cases X <;> cases Z <;> cases E <;> cases T <;> simp <;> omega
end Go.Proofs.Ytmcnoeinjocimaa.L

set_option linter.unusedVariables false
set_option linter.unusedSimpArgs false
namespace Go.Proofs.Ytmcnoeinjocimaa.L
theorem getD_set (D : List Int) (m n : Nat) (k : Int) (hm : m < D.length) : (D.set m k).getD n 0 = if n = m then k else D.getD n 0 := by
  rw [List.getD_eq_getElem?_getD, List.getD_eq_getElem?_getD, List.getElem?_set]
  by_cases h : n = m
  · subst h; simp [hm]
  · rw [if_neg h, if_neg (fun h' => h h'.symm)]
theorem defI_spec {V k : Int} (hk : 0 ≤ k) : ∀ (l : List (Int × Int)) (D T D' T' : List Int), (D.length : Int) = V → (T.length : Int) = V → defI V k D T l = some (D', T') →
    (∀ n : Nat, 0 ≤ D.getD n 0 → D'.getD n 0 = D.getD n 0 ∧ T'.getD n 0 = T.getD n 0) ∧
    (∀ x ∈ l, 12 ≤ x.1 ∧ x.1 < V ∧ D'.getD x.1.toNat 0 = k ∧ T'.getD x.1.toNat 0 = x.2) ∧
    (∀ n : Nat, (D'.getD n 0 = D.getD n 0 ∧ T'.getD n 0 = T.getD n 0) ∨ (D'.getD n 0 = k ∧ ((n : Int), T'.getD n 0) ∈ l))
  | [], D, T, D', T', _, _, h => by
    cases h
    exact ⟨fun _ _ => ⟨rfl, rfl⟩, fun _ hx => (by cases hx), fun _ => .inl ⟨rfl, rfl⟩⟩
  | (v, a) :: t, D, T, D', T', hD, hT, h => by
    rw [defI] at h
    split at h
    · rename_i hok
      obtain ⟨h1, h2, h3⟩ := hok
      obtain ⟨m, rfl⟩ := Int.eq_ofNat_of_zero_le (by omega : 0 ≤ v)
      rw [Int.toNat_natCast] at h h3
      have hm : m < D.length := by omega
      have hm2 : m < T.length := by omega
      obtain ⟨i1, i2, i3⟩ := defI_spec hk t (D.set m k) (T.set m a) D' T' (by simpa using hD) (by simpa using hT) h
      have gD := fun n => getD_set D m n k hm
      have gT := fun n => getD_set T m n a hm2
      have hh := i1 m (by rw [gD, if_pos rfl]; exact hk)
      rw [gD, gT, if_pos rfl, if_pos rfl] at hh
      refine ⟨fun n hn => ?_, fun x hx => ?_, fun n => ?_⟩
      · have hne : n ≠ m := fun he => by rw [he] at hn; omega
        have := i1 n (by rw [gD, if_neg hne]; exact hn)
        rw [gD, gT, if_neg hne, if_neg hne] at this
        exact this
      · rcases List.mem_cons.1 hx with rfl | hx
        · exact ⟨h1, h2, by simpa using hh.1, by simpa using hh.2⟩
        · exact i2 x hx
      · by_cases hne : n = m
        · subst hne
          right
          rw [hh.1, hh.2]
          exact ⟨rfl, List.mem_cons_self⟩
        · rcases i3 n with h4 | h4
          · rw [gD, gT, if_neg hne, if_neg hne] at h4
            exact .inl h4
          · exact .inr ⟨h4.1, List.mem_cons_of_mem _ h4.2⟩
    · cases h
theorem partsI_spec {s : Sa} : ∀ (l : List Pt) (k : Int) (D T D' T' : List Int), 0 ≤ k → (D.length : Int) = s.values → (T.length : Int) = s.values → partsI s k l D T = some (D', T') →
    (D'.length = D.length ∧ T'.length = T.length) ∧
    (∀ n : Nat, 0 ≤ D.getD n 0 → D'.getD n 0 = D.getD n 0 ∧ T'.getD n 0 = T.getD n 0) ∧
    (∀ (q : Nat) (p : Pt), l[q]? = some p → ∀ x ∈ itemsI p, 12 ≤ x.1 ∧ x.1 < s.values ∧ D'.getD x.1.toNat 0 = k + q ∧ T'.getD x.1.toNat 0 = x.2) ∧
    (∀ n : Nat, (D'.getD n 0 = D.getD n 0 ∧ T'.getD n 0 = T.getD n 0) ∨ ∃ (q : Nat) (p : Pt), l[q]? = some p ∧ D'.getD n 0 = k + q ∧ ((n : Int), T'.getD n 0) ∈ itemsI p)
  | [], k, D, T, D', T', _, _, _, h => by
    cases h
    exact ⟨⟨rfl, rfl⟩, fun _ _ => ⟨rfl, rfl⟩, fun _ _ hx => by simp at hx, fun _ => .inl ⟨rfl, rfl⟩⟩
  | p :: t, k, D, T, D', T', hk, hD, hT, h => by
    rw [partsI] at h
    obtain ⟨⟨D1, T1⟩, h1, h2⟩ := Option.bind_eq_some_iff.1 h
    have hd := (partI_some h1).2.2
    have hl := defI_len _ _ _ _ _ hd
    obtain ⟨a1, a2, a3⟩ := defI_spec hk _ _ _ _ _ hD hT hd
    obtain ⟨b0, b1, b2, b3⟩ := partsI_spec t (k + 1) D1 T1 D' T' (by omega) (by rw [hl.1]; exact hD) (by rw [hl.2]; exact hT) h2
    refine ⟨⟨b0.1.trans hl.1, b0.2.trans hl.2⟩, fun n hn => ?_, fun q p' hq x hx => ?_, fun n => ?_⟩
    · have c1 := a1 n hn
      have c2 := b1 n (by rw [c1.1]; exact hn)
      exact ⟨c2.1.trans c1.1, c2.2.trans c1.2⟩
    · cases q with
      | zero =>
        simp only [List.getElem?_cons_zero, Option.some.injEq] at hq
        subst hq
        obtain ⟨c1, c2, c3, c4⟩ := a2 x hx
        have c5 := b1 x.1.toNat (by rw [c3]; exact hk)
        exact ⟨c1, c2, by rw [c5.1, c3]; simp, by rw [c5.2, c4]⟩
      | succ q =>
        rw [List.getElem?_cons_succ] at hq
        obtain ⟨c1, c2, c3, c4⟩ := b2 q p' hq x hx
        exact ⟨c1, c2, by rw [c3]; omega, c4⟩
    · rcases b3 n with c | ⟨q, p', hq, c1, c2⟩
      · rcases a3 n with d | ⟨d1, d2⟩
        · exact .inl ⟨c.1.trans d.1, c.2.trans d.2⟩
        · exact .inr ⟨0, p, rfl, by rw [c.1, d1]; simp, by rw [c.2]; exact d2⟩
      · exact .inr ⟨q + 1, p', by rw [List.getElem?_cons_succ]; exact hq, by rw [c1]; omega, c2⟩
/-- The reference's row beside the program's. -/
structure Rel (V : Int) (S D : List Int) : Prop where
  l1 : (S.length : Int) = V
  l2 : (D.length : Int) = V
  lo : ∀ n : Nat, n < 12 → S.getD n 0 = 0
  hi : ∀ n : Nat, 12 ≤ n → S.getD n 0 = D.getD n 0
theorem Rel.set {V k : Int} {S D : List Int} (h : Rel V S D) {m : Nat} (h12 : 12 ≤ m) (hm : (m : Int) < V) : Rel V (S.set m k) (D.set m k) := by
  have h1 := h.l1
  have h2 := h.l2
  refine ⟨by simpa using h1, by simpa using h2, fun n hn => ?_, fun n hn => ?_⟩
  · rw [getD_set _ _ _ _ (by omega), if_neg (by omega)]; exact h.lo n hn
  · rw [getD_set _ _ _ _ (by omega), getD_set _ _ _ _ (by omega), h.hi n hn]
theorem getD_bang (S : List Int) (m : Nat) (h : m < S.length) : S[m]! = S.getD m 0 := by
  rw [List.getD_eq_getElem?_getD, List.getElem?_eq_getElem h, getElem!_pos S m h]; rfl
theorem ok_iff {V v : Int} {S D : List Int} (h : Rel V S D) (hV : 12 ≤ V) : okD V v D ↔ ¬ (v < 0 ∨ (S.length : Int) ≤ v ∨ 0 ≤ S[v.toNat]!) := by
  have h1 := h.l1
  unfold okD
  constructor
  · rintro ⟨a, b, c⟩ hn
    obtain ⟨m, rfl⟩ := Int.eq_ofNat_of_zero_le (by omega : 0 ≤ v)
    rw [Int.toNat_natCast] at c hn
    rw [getD_bang S m (by omega), h.hi m (by omega)] at hn
    omega
  · intro hn
    have h2 : 0 ≤ v ∧ v < S.length := by omega
    obtain ⟨m, rfl⟩ := Int.eq_ofNat_of_zero_le h2.1
    rw [Int.toNat_natCast, getD_bang S m (by omega)] at hn
    rw [Int.toNat_natCast]
    have h3 : 12 ≤ m := by
      rcases Nat.lt_or_ge m 12 with h4 | h4
      · have := h.lo m h4; omega
      · exact h4
    rw [h.hi m h3] at hn
    omega
theorem sim_def {V k : Int} (hV : 12 ≤ V) : ∀ (l : List (Int × Int)) (S D T : List Int), Rel V S D →
    (∀ S', defStep k S (l.map Prod.fst) = some S' → ∃ D' T', defI V k D T l = some (D', T') ∧ Rel V S' D') ∧ (∀ D' T', defI V k D T l = some (D', T') → ∃ S', defStep k S (l.map Prod.fst) = some S' ∧ Rel V S' D')
  | [], S, D, T, h => ⟨fun S' h' => by cases h'; exact ⟨D, T, rfl, h⟩, fun D' T' h' => by cases h'; exact ⟨S, rfl, h⟩⟩
  | (v, a) :: t, S, D, T, h => by
    rw [List.map_cons, defStep, defI]
    by_cases hok : okD V v D
    · rw [if_pos hok, if_neg ((ok_iff h hV).1 hok)]
      have h12 := hok.1
      have hm := hok.2.1
      exact sim_def hV t _ _ _ (h.set (by omega) (by omega))
    · rw [if_neg hok, if_pos (by have := mt (ok_iff h hV).2 hok; exact Classical.not_not.1 this)]
      exact ⟨fun _ h' => (by cases h'), fun _ _ h' => (by cases h')⟩
theorem fD_sets (x : Fl) : fD x.op = setsS x := by
  unfold fD setsS inB
  rw [Bool.eq_iff_iff]; simp; omega
theorem codeItems_fst : ∀ (l : List Fl) (i : Int), (codeItems i l).map Prod.fst = dstsS l
  | [], _ => rfl
  | x :: t, i => by
    have ih := codeItems_fst t (i + 1)
    unfold dstsS at ih ⊢
    rw [codeItems, fD_sets]
    cases h : setsS x <;> simp [h, ih]
theorem items_fst (p : Pt) : (itemsI p).map Prod.fst = ownS p := by
  unfold itemsI ownS parItems
  rw [List.map_append, codeItems_fst, List.map_map]
  congr 1
  exact List.map_id' _
theorem sim_parts {s : Sa} (hV : 12 ≤ s.values) : ∀ (l : List Pt) (k : Int) (S D T : List Int), 0 ≤ k → Rel s.values S D →
    (∀ D' T', partsI s k l D T = some (D', T') → (∀ p ∈ l, staticI s p = true) ∧ (∀ p, l[0]? = some p → 0 < k ∨ p.params = []) ∧ ∃ S', defsFrom k S l = some S' ∧ Rel s.values S' D') ∧
    (∀ S', (∀ p ∈ l, staticI s p = true) → (∀ p, l[0]? = some p → 0 < k ∨ p.params = []) → defsFrom k S l = some S' → ∃ D' T', partsI s k l D T = some (D', T') ∧ Rel s.values S' D')
  | [], k, S, D, T, hk, h => ⟨fun D' T' h' => by cases h'; exact ⟨fun _ h => (by cases h), fun _ h => (by simp at h), S, rfl, h⟩, fun S' _ _ h' => by cases h'; exact ⟨D, T, rfl, h⟩⟩
  | p :: t, k, S, D, T, hk, h => by
    constructor
    · intro D' T' h'
      rw [partsI] at h'
      obtain ⟨⟨D1, T1⟩, h1, h2⟩ := Option.bind_eq_some_iff.1 h'
      obtain ⟨e1, e2, e3⟩ := partI_some h1
      obtain ⟨S1, f1, f2⟩ := (sim_def hV _ S D T h).2 D1 T1 e3
      obtain ⟨g1, g2, S', g3, g4⟩ := (sim_parts hV t (k + 1) S1 D1 T1 (by omega) f2).1 D' T' h2
      refine ⟨fun q hq => ?_, fun q hq => ?_, S', ?_, g4⟩
      · rcases List.mem_cons.1 hq with rfl | hq
        · exact e1
        · exact g1 q hq
      · simp only [List.getElem?_cons_zero, Option.some.injEq] at hq
        subst hq; exact e2
      · rw [defsFrom, ← items_fst, f1]; exact g3
    · intro S' h1 h2 h'
      rw [defsFrom, ← items_fst] at h'
      obtain ⟨S1, f1, f2⟩ := Option.bind_eq_some_iff.1 h'
      obtain ⟨D1, T1, e1, e2⟩ := (sim_def hV _ S D T h).1 S1 f1
      obtain ⟨D', T', g1, g2⟩ := (sim_parts hV t (k + 1) S1 D1 T1 (by omega) e2).2 S' (fun q hq => h1 q (List.mem_cons_of_mem _ hq)) (fun q _ => .inl (by omega)) f2
      refine ⟨D', T', ?_, g2⟩
      have hp : partI s k p D T = some (D1, T1) := by
        unfold partI
        have h3 := h2 p rfl
        rw [h1 p List.mem_cons_self]
        have h4 : (decide (0 < k) || p.params.isEmpty) = true := by
          simpa [List.isEmpty_iff] using h3
        rw [h4]
        exact e1
      rw [partsI, hp]
      exact g1
end Go.Proofs.Ytmcnoeinjocimaa.L

set_option linter.unusedVariables false
set_option linter.unusedSimpArgs false
namespace Go.Proofs.Ytmcnoeinjocimaa.L
theorem rch_congr {n1 n2 : List (List Int)} {ok : Int → Prop} {f k : Int} (h : ∀ (i : Nat) (l : List Int), n1[i]? = some l → ∃ l', n2[i]? = some l' ∧ ∀ x ∈ l, x ∈ l') (hr : Rch n1 ok f k) : Rch n2 ok f k := by
  induction hr with
  | start h => exact .start h
  | step _ h1 h2 h3 h4 ih =>
    obtain ⟨l', h5, h6⟩ := h _ _ h2
    exact .step ih h1 h5 (h6 _ h3) h4
theorem rch_graph {s : Sa} {ok : Int → Prop} {f k : Int} : Rch (graphS s.parts) ok f k ↔ Rch (nexts s) ok f k := by
  unfold graphS nexts
  constructor
  · refine rch_congr (fun i l hl => ?_)
    rw [List.getElem?_map] at hl ⊢
    obtain ⟨p, hp, rfl⟩ := Option.map_eq_some_iff.1 hl
    exact ⟨p.next, by rw [hp]; rfl, fun x hx => nxS_mem.1 hx⟩
  · refine rch_congr (fun i l hl => ?_)
    rw [List.getElem?_map] at hl ⊢
    obtain ⟨p, hp, rfl⟩ := Option.map_eq_some_iff.1 hl
    exact ⟨_, by rw [hp]; rfl, fun x hx => nxS_mem.2 hx⟩
theorem dom_graph {s : Sa} {k d : Int} : Dom (graphS s.parts) k d ↔ Dom (nexts s) k d := by
  unfold Dom
  rw [rch_graph, rch_graph, rch_graph]
theorem mem_codeItems {v a : Int} : ∀ (l : List Fl) (i : Int), (v, a) ∈ codeItems i l ↔ ∃ (j : Nat) (x : Fl), l[j]? = some x ∧ setsS x = true ∧ x.dst = v ∧ a = i + j
  | [], i => by simp [codeItems]
  | y :: t, i => by
    have ih := mem_codeItems (v := v) (a := a) t (i + 1)
    rw [codeItems, fD_sets]
    constructor
    · intro h
      split at h
      · rename_i hy
        rcases List.mem_cons.1 h with h | h
        · cases h
          exact ⟨0, y, rfl, hy, rfl, by simp⟩
        · obtain ⟨j, x, h1, h2, h3, h4⟩ := ih.1 h
          exact ⟨j + 1, x, by rw [List.getElem?_cons_succ]; exact h1, h2, h3, by omega⟩
      · obtain ⟨j, x, h1, h2, h3, h4⟩ := ih.1 h
        exact ⟨j + 1, x, by rw [List.getElem?_cons_succ]; exact h1, h2, h3, by omega⟩
    · rintro ⟨j, x, h1, h2, h3, h4⟩
      cases j with
      | zero =>
        simp only [List.getElem?_cons_zero, Option.some.injEq] at h1
        subst h1
        rw [if_pos h2]
        have : (v, a) = (y.dst, i) := by rw [h3, h4]; simp
        rw [this]
        exact List.mem_cons_self
      | succ j =>
        rw [List.getElem?_cons_succ] at h1
        have := ih.2 ⟨j, x, h1, h2, h3, by omega⟩
        split
        · exact List.mem_cons_of_mem _ this
        · exact this
theorem mem_dsts {v : Int} {l : List Fl} : v ∈ dstsS l ↔ ∃ (j : Nat) (x : Fl), l[j]? = some x ∧ setsS x = true ∧ x.dst = v := by
  unfold dstsS
  rw [List.mem_map]
  constructor
  · rintro ⟨x, hx, rfl⟩
    obtain ⟨h1, h2⟩ := List.mem_filter.1 hx
    obtain ⟨j, hj⟩ := List.getElem?_of_mem h1
    exact ⟨j, x, hj, h2, rfl⟩
  · rintro ⟨j, x, h1, h2, rfl⟩
    exact ⟨x, List.mem_filter.2 ⟨List.mem_of_getElem? h1, h2⟩, rfl⟩
theorem mem_far {v : Int} {p : Pt} {i : Nat} : v ∈ p.params ++ dstsS (p.code.take i) ↔ ∃ a, a < (i : Int) ∧ (v, a) ∈ itemsI p := by
  unfold itemsI parItems
  constructor
  · intro h
    rcases List.mem_append.1 h with h | h
    · exact ⟨-1, by omega, List.mem_append.2 (.inl (List.mem_map.2 ⟨v, h, rfl⟩))⟩
    · obtain ⟨j, x, h1, h2, h3⟩ := mem_dsts.1 h
      rw [List.getElem?_take] at h1
      split at h1
      · exact ⟨j, by omega, List.mem_append.2 (.inr ((mem_codeItems _ _).2 ⟨j, x, h1, h2, h3, by omega⟩))⟩
      · cases h1
  · rintro ⟨a, ha, h⟩
    rcases List.mem_append.1 h with h | h
    · obtain ⟨y, hy, he⟩ := List.mem_map.1 h
      cases he
      exact List.mem_append.2 (.inl hy)
    · obtain ⟨j, x, h1, h2, h3, h4⟩ := (mem_codeItems _ _).1 h
      exact List.mem_append.2 (.inr (mem_dsts.2 ⟨j, x, by rw [List.getElem?_take, if_pos (by omega)]; exact h1, h2, h3⟩))
theorem there_iff {s : Sa} {S D T : List Int} {M : List (List Bool)} (hV : 12 ≤ s.values) (hR : Rel s.values S D) (hP : partsI s 0 s.parts (List.replicate s.values.toNat (-1)) (List.replicate s.values.toNat 0) = some (D, T))
    (hM : ∀ b x : Nat, Mt M b x ↔ Dom (nexts s) b x) {k : Nat} {p : Pt} (hk : s.parts[k]? = some p) (i : Nat) (v : Int) :
    thereI s.values D T M k i v = true ↔ ThereP (graphS s.parts) S (p.params ++ dstsS (p.code.take i)) k v := by
  have hl1 : ((List.replicate s.values.toNat (-1 : Int)).length : Int) = s.values := by rw [List.length_replicate]; omega
  have hl2 : ((List.replicate s.values.toNat (0 : Int)).length : Int) = s.values := by rw [List.length_replicate]; omega
  obtain ⟨⟨a1, a2⟩, -, a3, a4⟩ := partsI_spec s.parts 0 _ _ D T (by omega) hl1 hl2 hP
  have hS := hR.l1
  unfold ThereP
  by_cases hv : 0 ≤ v ∧ v < s.values
  rotate_left
  · have h1 : thereI s.values D T M k i v = false := by
      unfold thereI inB
      have : (decide (0 ≤ v) && decide (v ≤ s.values - 1)) = false := by simp; omega
      rw [this]; rfl
    rw [h1]
    constructor
    · intro h; cases h
    · rintro ⟨h2, h3, _⟩; omega
  obtain ⟨n, rfl⟩ := Int.eq_ofNat_of_zero_le hv.1
  have hin : inB (n : Int) 0 (s.values - 1) = true := by unfold inB; simp; omega
  by_cases h12 : n < 12
  · have h1 : thereI s.values D T M k i n = true := by
      unfold thereI
      rw [hin, decide_eq_true (by omega : (n : Int) < 12)]; rfl
    rw [h1]
    exact ⟨fun _ => ⟨by omega, by omega, .inl (by omega)⟩, fun _ => rfl⟩
  have hd : S[n]! = D.getD n 0 := by rw [getD_bang S n (by omega), hR.hi n (by omega)]
  have hb4 := a4 n
  have hr : (List.replicate s.values.toNat (-1 : Int)).getD n 0 = -1 := by
    rw [List.getD_eq_getElem?_getD, List.getElem?_replicate, if_pos (by omega)]; rfl
  rw [hr] at hb4
  have h1 : thereI s.values D T M k i n = (if D.getD n 0 == (k : Int) then decide (T.getD n 0 < i) else decide (0 ≤ D.getD n 0) && (M.getD k []).getD (D.getD n 0).toNat false) := by
    unfold thereI
    rw [hin, decide_eq_false (by omega), Int.toNat_natCast, Int.toNat_natCast]; rfl
  rw [h1, Int.toNat_natCast, hd, mem_far]
  have hfar : ∀ a, ((n : Int), a) ∈ itemsI p → D.getD n 0 = k ∧ T.getD n 0 = a := fun a ha => by
    obtain ⟨-, -, h3, h4⟩ := a3 k p hk _ ha
    rw [Int.toNat_natCast] at h3 h4
    exact ⟨by rw [h3]; simp, h4⟩
  by_cases hdk : D.getD n 0 = (k : Int)
  · rw [if_pos (by rw [hdk]; simp), decide_eq_true_eq]
    constructor
    · intro ht
      refine ⟨by omega, by omega, .inr (.inl ⟨_, ht, ?_⟩)⟩
      rcases hb4 with h | ⟨q, p', hq, h2, h3⟩
      · omega
      · obtain rfl : q = k := by omega
        rw [hk] at hq; cases hq; exact h3
    · rintro ⟨-, -, h | ⟨a, ha, hm⟩ | h⟩
      · omega
      · rw [(hfar a hm).2]; exact ha
      · exact absurd hdk h.2.1
  · rw [if_neg (by simpa using hdk), Bool.and_eq_true, decide_eq_true_eq, getD_mt, hM]
    constructor
    · rintro ⟨h2, h3⟩
      refine ⟨by omega, by omega, .inr (.inr ⟨h2, hdk, dom_graph.2 ?_⟩)⟩
      rw [Int.toNat_of_nonneg h2] at h3
      exact h3
    · rintro ⟨-, -, h | ⟨a, ha, hm⟩ | ⟨h2, -, h3⟩⟩
      · omega
      · exact absurd (hfar a hm).1 hdk
      · refine ⟨h2, ?_⟩
        rw [Int.toNat_of_nonneg h2]
        exact dom_graph.1 h3
end Go.Proofs.Ytmcnoeinjocimaa.L

set_option linter.unusedVariables false
set_option linter.unusedSimpArgs false
namespace Go.Proofs.Ytmcnoeinjocimaa.L
theorem flat_op {x : Fl} {V : Int} (h : flatB x V = true) : 1 ≤ x.op ∧ x.op ≤ 6 := by
  unfold flatB fK at h
  simp only [Bool.and_eq_true] at h
  have := h.1.1.1.1.1
  simp at this
  omega
theorem uses_eq {x : Fl} (h : 1 ≤ x.op ∧ x.op ≤ 6) : usesI x = usesS x := by
  have key : x.op = 1 ∨ x.op = 2 ∨ x.op = 3 ∨ x.op = 4 ∨ x.op = 5 ∨ x.op = 6 := by omega
  unfold usesI usesS fA fB
  rcases key with h | h | h | h | h | h <;> simp [h]
theorem codeU_iff {f : Int → Int → Bool} : ∀ (l : List Fl) (i : Int), codeU f i l = true ↔ ∀ (j : Nat) (x : Fl), l[j]? = some x → ∀ v ∈ usesI x, f (i + j) v = true
  | [], i => by simp [codeU]
  | y :: t, i => by
    rw [codeU, Bool.and_eq_true, codeU_iff t (i + 1), List.all_eq_true]
    constructor
    · rintro ⟨h1, h2⟩ j x hj v hv
      cases j with
      | zero =>
        simp only [List.getElem?_cons_zero, Option.some.injEq] at hj
        subst hj
        have := h1 v hv
        simpa using this
      | succ j =>
        rw [List.getElem?_cons_succ] at hj
        have := h2 j x hj v hv
        rw [show i + ((j + 1 : Nat) : Int) = i + 1 + j by omega]
        exact this
    · intro h
      refine ⟨fun v hv => ?_, fun j x hj v hv => ?_⟩
      · have := h 0 y rfl v hv
        simpa using this
      · have := h (j + 1) x (by rw [List.getElem?_cons_succ]; exact hj) v hv
        rw [show i + 1 + (j : Int) = i + ((j + 1 : Nat) : Int) by omega]
        exact this
theorem static_flat {s : Sa} {p : Pt} (h : staticI s p = true) : ∀ x ∈ p.code, flatB x s.values = true := fun x hx => by
  unfold staticI codeB at h
  simp only [Bool.and_eq_true, Bool.not_eq_true'] at h
  have h2 := h.1.1.1.2
  rw [List.any_eq_false] at h2
  have := h2 x hx
  simpa using this
theorem use_iff {s : Sa} {S D T : List Int} {M : List (List Bool)} (hV : 12 ≤ s.values) (hR : Rel s.values S D) (hP : partsI s 0 s.parts (List.replicate s.values.toNat (-1)) (List.replicate s.values.toNat 0) = some (D, T))
    (hM : ∀ b x : Nat, Mt M b x ↔ Dom (nexts s) b x) {k : Nat} {p : Pt} (hk : s.parts[k]? = some p) :
    useB (fun i v => thereI s.values D T M k i v) p = true ↔ (∀ (i : Nat) (x : Fl), p.code[i]? = some x → ∀ v ∈ usesS x, ThereP (graphS s.parts) S (p.params ++ dstsS (p.code.take i)) k v) ∧ ∀ v ∈ endsS p, ThereP (graphS s.parts) S (ownS p) k v := by
  have hst := partsI_static _ _ _ _ _ _ hP p (List.mem_of_getElem? hk)
  have hth := fun i v => there_iff hV hR hP hM hk i v
  have hend : ∀ v, thereI s.values D T M k p.code.length v = true ↔ ThereP (graphS s.parts) S (ownS p) k v := fun v => by
    rw [hth, List.take_length]; rfl
  unfold useB
  simp only [Bool.and_eq_true, and_assoc]
  rw [codeU_iff]
  constructor
  · rintro ⟨h1, h2, h3⟩
    refine ⟨fun i x hx v hv => ?_, fun v hv => ?_⟩
    · have := h1 i x hx v (by rw [uses_eq (flat_op (static_flat hst x (List.mem_of_getElem? hx)))]; exact hv)
      rw [Int.zero_add, hth] at this
      exact this
    · rw [← hend]
      unfold endsS at hv
      rcases List.mem_append.1 hv with hv | hv
      · split at hv
        · rename_i ht
          rw [List.mem_singleton.1 hv]
          have ht : testB p.go = true := ht
          rw [ht] at h2
          simpa using h2
        · cases hv
      · exact (List.all_eq_true.1 h3) v hv
  · rintro ⟨h1, h2⟩
    refine ⟨fun i x hx v hv => ?_, ?_, ?_⟩
    · rw [uses_eq (flat_op (static_flat hst x (List.mem_of_getElem? hx)))] at hv
      rw [Int.zero_add, hth]
      exact h1 i x hx v hv
    · cases ht : testB p.go
      · rfl
      · have := (hend p.test).2 (h2 _ (by
          unfold endsS
          have ht : (p.go == 2 || p.go == 5) = true := ht
          rw [if_pos ht]
          exact List.mem_append.2 (.inl (List.mem_singleton.2 rfl))))
        rw [this]; rfl
    · rw [List.all_eq_true]
      intro v hv
      rw [hend]
      exact h2 v (List.mem_append.2 (.inr hv))
theorem rel0 {V : Int} (hV : 12 ≤ V) : Rel V (defs0 V.toNat) (List.replicate V.toNat (-1)) := by
  have hg : ∀ n : Nat, n < V.toNat → (defs0 V.toNat).getD n 0 = if n < 12 then 0 else -1 := fun n hn => by
    unfold defs0
    rw [List.getD_eq_getElem?_getD, List.getElem?_map, List.getElem?_range hn]; rfl
  refine ⟨by rw [defs0_len]; omega, by rw [List.length_replicate]; omega, fun n hn => ?_, fun n hn => ?_⟩
  · rw [hg n (by omega), if_pos hn]
  · by_cases h : n < V.toNat
    · rw [hg n h, if_neg (by omega), List.getD_eq_getElem?_getD, List.getElem?_replicate, if_pos h]; rfl
    · rw [List.getD_eq_getElem?_getD, List.getD_eq_getElem?_getD, List.getElem?_eq_none (by rw [defs0_len]; omega), List.getElem?_eq_none (by rw [List.length_replicate]; omega)]
theorem good_iff (s : Sa) : (∃ D T M, GoodV s D T M) ↔ GoodP s := by
  constructor
  · rintro ⟨D, T, M, h⟩
    obtain ⟨h1, h2, S, h3, h4⟩ := (sim_parts h.v1 s.parts 0 _ _ (List.replicate s.values.toNat 0) (by omega) (rel0 h.v1)).1 D T h.ps
    have hd : defsS s = some S := h3
    have hnx : ∀ p ∈ s.parts, ∀ k ∈ p.next, 0 < k ∧ k < s.parts.length := fun p hp => ((static_iff h.v1).1 (h1 p hp)).1
    have hir : InR (nexts s) := nexts_inR h1
    refine ⟨h.n1, h.n2, h.v1, h.v2, hnx, fun p hp => ((static_iff h.v1).1 (h1 p hp)).2, by rw [hd]; rfl, fun p hp => ?_, fun k p hk => ?_⟩
    · rcases h2 p hp with h5 | h5
      · omega
      · exact h5
    · have hkl : k < s.parts.length := (List.getElem?_eq_some_iff.1 hk).1
      have hu := h.us k hkl
      rw [(List.getElem?_eq_some_iff.1 hk).2] at hu
      obtain ⟨u1, u2⟩ := (use_iff h.v1 h4 h.ps h.mt hk).1 hu
      rw [hd]
      exact ⟨rch_graph.2 ((rch_all hir (by rw [nexts_len]; exact h.n1)).1 (h.all k hkl)), u1, u2⟩
  · intro h
    obtain ⟨S, hd⟩ := Option.isSome_iff_exists.1 h.defs
    have hst : ∀ p ∈ s.parts, staticI s p = true := fun p hp => (static_iff h.v1).2 ⟨h.nx p hp, h.pt p hp⟩
    obtain ⟨D, T, h3, h4⟩ := (sim_parts h.v1 s.parts 0 _ _ (List.replicate s.values.toNat 0) (by omega) (rel0 h.v1)).2 S hst (fun p hp => .inr (h.par p hp)) hd
    have hir : InR (nexts s) := nexts_inR hst
    have hn0 : 0 < (nexts s).length := by rw [nexts_len]; exact h.n1
    refine ⟨D, T, (List.range s.parts.length).map (fun b => (List.range s.parts.length).map (fun x => @decide (Dom (nexts s) (b : Nat) (x : Nat)) (Classical.propDecidable _))), ?_⟩
    have hmt : ∀ b x : Nat, Mt ((List.range s.parts.length).map (fun b => (List.range s.parts.length).map (fun x => @decide (Dom (nexts s) (b : Nat) (x : Nat)) (Classical.propDecidable _)))) b x ↔ Dom (nexts s) b x := fun b x => by
      unfold Mt
      constructor
      · rintro ⟨row, h5, h6⟩
        rw [List.getElem?_map] at h5
        obtain ⟨b', hb', rfl⟩ := Option.map_eq_some_iff.1 h5
        obtain ⟨hb1, rfl⟩ := List.getElem?_eq_some_iff.1 hb'
        rw [List.getElem?_map] at h6
        obtain ⟨x', hx', h7⟩ := Option.map_eq_some_iff.1 h6
        obtain ⟨hx1, rfl⟩ := List.getElem?_eq_some_iff.1 hx'
        rw [List.getElem_range, List.getElem_range] at h7
        exact @of_decide_eq_true _ (Classical.propDecidable _) h7
      · intro h5
        have r1 := h5.1.range ⟨by omega, by omega⟩ hir
        have r2 := h5.2.1.range ⟨by omega, by omega⟩ hir
        rw [nexts_len] at r1 r2
        refine ⟨_, by rw [List.getElem?_map, List.getElem?_range (by omega)]; rfl, ?_⟩
        rw [List.getElem?_map, List.getElem?_range (by omega)]
        exact congrArg some (@decide_eq_true _ (Classical.propDecidable _) h5)
    refine ⟨h.n1, h.n2, h.v1, h.v2, h3, fun x hx => ?_, by simp, fun b hb => by simp, hmt, fun k hk => ?_⟩
    · have := (h.us x _ (List.getElem?_eq_getElem hx)).rch
      exact (rch_all hir hn0).2 (rch_graph.1 this)
    · have hu := h.us k _ (List.getElem?_eq_getElem hk)
      rw [hd] at hu
      exact (use_iff h.v1 h4 h3 hmt (List.getElem?_eq_getElem hk)).2 ⟨hu.code, hu.ends⟩
end Go.Proofs.Ytmcnoeinjocimaa.L

set_option linter.unusedVariables false
set_option linter.unusedSimpArgs false
namespace Go.Proofs.Ytmcnoeinjocimaa.L
open Go.RowKit
theorem toSsa_rd {F : Nat → Prop} (x : Sa) (vparts : Value) (w : World) (hparts : Rp.Rd part w F vparts x.parts) (hx : SaLim x) :
    Calls Try.prog 14 #[saV x vparts] w fun e w' => ∃ vparts', e = .returned (saV x vparts') ∧ Rp.Rd part w' (fun k => w.heap.size ≤ k) vparts' x.parts ∧ Below w.heap.size w w' := by
  refine (toSsa_calls x vparts w hparts hx).mono ?_
  rintro e w' ⟨v', rfl, hK, hb⟩
  obtain ⟨v2, h1, h2⟩ := ssa_open (ssaA_le.2 hK)
  simp only [List.cons.injEq, and_true] at h1
  obtain rfl := h1
  exact ⟨v', rfl, h2, hb⟩
set_option maxRecDepth 100000 in
set_option maxHeartbeats 4000000 in
theorem goodLaw_calls {F : Nat → Prop} (x : Sa) (vparts : Value) (w : World) (h : Rp.Rd part w F vparts x.parts) :
    Calls Try.prog 3 #[saV x vparts] w fun e w' => e = .returned (.bool true) ∧ Below w.heap.size w w' := by
  have HC := fun W (hW : Below w.heap.size w W) => szSsa_calls x vparts 1048576 W (h.below hW) (by omega) (by omega)
  have hb0 := szSa_bd (x := x) (left := 1048576) (by omega)
  generalize szSa x 1048576 = r at *
  have hlim : 0 ≤ r → SaLim x := fun h0 => (hb0.2.2 h0).1
  clear hb0
  unfold saV at HC ⊢
  have HC := Lib.hid HC
  have hB0 : Below w.heap.size w (w.alloc (.cells #[vparts, .int .i64 x.values] 24)) := below_new _
  have b0 := heap_alloc_new w (.cells #[vparts, .int .i64 x.values] 24)
  have hlim := Lib.hid hlim
  obtain ⟨A, c, rfl, _, _, _⟩ := id h
  go_enter Try.func3, Try.ntmps3
  go_wp2_with fail
  refine (HC.out _ hB0).mono ?_
  rintro e w1 ⟨rfl, hb1⟩
  by_cases hneg : r < 0
  · have hB := below_then hB0 hb1
    go_wp2
    go_ret
    exact ⟨rfl, hB⟩
  have hx := hlim.out (by omega)
  have HT := Lib.hid (fun W (hW : Below w.heap.size w W) => toSsa_rd x _ W (h.below hW) hx)
  have HG1 := Lib.hid (fun v W G (hv : Rp.Rd part W G v x.parts) => goodS_calls x v W hv hx.1 hx.2)
  have HG2 := Lib.hid (fun v W G (hv : Rp.Rd part W G v x.parts) => goodI_calls x v W hv hx.1 hx.2)
  have HQ := Lib.hid (good_iff x)
  have hB1 := below_then hB0 hb1
  have b1 := blk_below b0 hb1
  obtain ⟨y1, _⟩ := cell_of_block b1
  have y10 : w1.cell? ⟨w.heap.size, 0, none⟩ = some (.slice A x.parts.length c) := (y1 0).trans rfl
  have y11 : w1.cell? ⟨w.heap.size, 1, none⟩ = some (.int .i64 x.values) := (y1 1).trans rfl
  clear y1 HC b0 hb1 hB0 hlim
  unfold saV at HT HG1 HG2
  go_wp2_with fail
  refine (HT.out _ hB1).mono ?_
  rintro e w2 ⟨v2, rfl, hv2, hb2⟩
  obtain ⟨A2, c2, rfl, _, _, _⟩ := id hv2
  have hB2 := below_then hB1 hb2
  have b2 := blk_below b1 hb2
  clear y10 y11 hb2 b1
  go_wp2_with fail
  refine (HG1.out _ _ _ hv2).mono ?_
  rintro e w3 ⟨g1, rfl, hg1, hb3⟩
  have hB3 := below_then hB2 hb3
  have b3 := blk_below b2 hb3
  obtain ⟨y1, _⟩ := cell_of_block b3
  have y10 : w3.cell? ⟨w.heap.size, 0, none⟩ = some (.slice A x.parts.length c) := (y1 0).trans rfl
  have y11 : w3.cell? ⟨w.heap.size, 1, none⟩ = some (.int .i64 x.values) := (y1 1).trans rfl
  clear y1 hb3 b2 hv2
  go_wp2_with fail
  refine (HT.out _ hB3).mono ?_
  rintro e w4 ⟨v4, rfl, hv4, hb4⟩
  obtain ⟨A4, c4, rfl, _, _, _⟩ := id hv4
  have hB4 := below_then hB3 hb4
  have b4 := blk_below b3 hb4
  clear y10 y11 hb4 b3
  obtain ⟨W5, hW5⟩ : ∃ W5, W5 = w4.alloc (.cells #[.slice A4 x.parts.length c4, .int .i64 x.values] 29) := ⟨_, rfl⟩
  have hb5 : Below w4.heap.size w4 W5 := by rw [hW5]; exact below_new _
  have e5 : W5.heap[w4.heap.size]? = some (.cells #[.slice A4 x.parts.length c4, .int .i64 x.values] 29 (0, 0)) := by rw [hW5]; exact heap_alloc_new w4 _
  have hv5 := hv4.below hb5
  have b5 := blk_below b4 hb5
  have hB5 := below_then hB4 hb5
  replace hW5 := Lib.hid hW5
  go_wp2_with fail
  rw [← hW5.out]
  refine (HG2.out _ _ _ hv5).mono ?_
  rintro e w6 ⟨g2, rfl, hg2, hb6⟩
  have hB6 := below_then hB5 hb6
  have b6 := blk_below b5 hb6
  have e6 := blk_below e5 hb6
  have hv6 := (hv5.mono (G := fun _ => True) (fun _ _ => trivial)).below hb6
  have hgg : g1 = g2 := by
    have := hg1.out.trans (HQ.out.symm.trans hg2.out.symm)
    cases g1 <;> cases g2 <;> simp_all
  subst hgg
  have hgn : (g1 != g1) = false := by cases g1 <;> rfl
  obtain ⟨y1, _⟩ := cell_of_block b6
  have y10 : w6.cell? ⟨w.heap.size, 0, none⟩ = some (.slice A x.parts.length c) := (y1 0).trans rfl
  have y11 : w6.cell? ⟨w.heap.size, 1, none⟩ = some (.int .i64 x.values) := (y1 1).trans rfl
  obtain ⟨z1, _⟩ := cell_of_block e6
  have z10 : w6.cell? ⟨w4.heap.size, 0, none⟩ = some (.slice A4 x.parts.length c4) := (z1 0).trans rfl
  have z11 : w6.cell? ⟨w4.heap.size, 1, none⟩ = some (.int .i64 x.values) := (z1 1).trans rfl
  clear y1 z1 b4 b5 e5 hv4 hv5 hW5 hg1 hg2 HQ HG1 HG2
  go_wp2_with fail
  have HE := Lib.hid (fun u W (hu : Rp.Rd part W (fun q => w6.heap.size ≤ q) u x.parts) (hW : Below w6.heap.size w6 W) => eqSsa_calls x x _ u W (hv6.below hW) hu)
  have HEQ : Hid (eqSa x x = true) := Lib.hid (by unfold eqSa; simp)
  unfold saV at HE
  rw [HEQ.out] at HE
  go_region_held3 (fun w' => w'.cell? ⟨w.heap.size, 0, none⟩ = some (.slice A x.parts.length c) ∧ w'.cell? ⟨w.heap.size, 1, none⟩ = some (.int .i64 x.values) ∧ w'.cell? ⟨w4.heap.size, 0, none⟩ = some (.slice A4 x.parts.length c4) ∧ w'.cell? ⟨w4.heap.size, 1, none⟩ = some (.int .i64 x.values))
    (first | go_keep | (go_split_ands; refine ⟨?_, ?_, ?_, ?_⟩ <;> first | exact cell_below hB9 (by assumption) | exact cell_below hB8 (by assumption) | assumption))
    ((first | (go_at_call 14; refine (HT.out _ (below_drew hB6)).mono ?_; rintro e w8 ⟨v8, rfl, hv8, hb8⟩; have hB8 := below_then (below_drew (Below.refl _ _)) hb8; obtain ⟨A8, c8, rfl, _, _, _⟩ := id hv8) | (go_at_call 16; refine (HE.out _ _ hv8 hB8).mono ?_; rintro e w9 ⟨rfl, hb9⟩; have hB9 := below_then hB8 hb9)))
  go_wp2
  go_ret
  exact ⟨rfl, below_then hB6 hB9⟩
end Go.Proofs.Ytmcnoeinjocimaa.L

set_option linter.unusedVariables false
set_option linter.unusedSimpArgs false
namespace Go.Proofs.Ytmcnoeinjocimaa.L
open Go.RowKit
theorem GoodP.static {s : Sa} (h : GoodP s) {p : Pt} (hp : p ∈ s.parts) : staticI s p = true := (static_iff h.v1).2 ⟨h.nx p hp, h.pt p hp⟩
theorem static_args {s : Sa} {p : Pt} (h : staticI s p = true) : p.next.length ≤ p.args.length := by
  unfold staticI at h
  simp only [Bool.and_eq_true] at h
  obtain ⟨⟨⟨hc, hg⟩, h0⟩, ha⟩ := h
  unfold argsS at ha
  split at ha
  · rename_i h3
    unfold goB at hg
    simp only [Bool.and_eq_true] at hg
    have hg := hg.2
    rw [beq_iff_eq] at h3
    rw [h3] at hg
    have h0 : p.next.length = 0 := by simpa using hg
    omega
  · rw [fitS_len _ _ _ ha]; exact Nat.le_refl _
def edgesN (l : List Pt) (k : Int) : Nat := (l.map (fun p : Pt => p.next.count k)).sum
theorem edgesN_take {l : List Pt} {j : Nat} (hj : j < l.length) (k : Int) : edgesN (l.take (j + 1)) k = edgesN (l.take j) k + l[j].next.count k := by
  unfold edgesN
  rw [List.take_succ_eq_append_getElem hj, List.map_append, List.sum_append]; simp
theorem count_take {l : List Int} {j : Nat} (hj : j < l.length) (k : Int) : (l.take (j + 1)).count k = (l.take j).count k + (if l[j] = k then 1 else 0) := by
  rw [List.take_succ_eq_append_getElem hj, List.count_append, List.count_singleton]
  by_cases h : l[j] = k <;> simp [h]
theorem edgesN_le {l : List Pt} {k : Int} (h : ∀ p ∈ l, p.next.length ≤ 1048576) : edgesN l k ≤ l.length * 1048576 := by
  induction l with
  | nil => simp [edgesN]
  | cons p t ih =>
    have h1 := ih (fun q hq => h q (List.mem_cons_of_mem _ hq))
    have h2 := h p List.mem_cons_self
    have h3 := List.count_le_length (a := k) (l := p.next)
    unfold edgesN at h1 ⊢
    simp only [List.map_cons, List.sum_cons, List.length_cons, Nat.succ_mul]
    omega
/-- An edge is critical and has Args. -/
def critB (l : List Pt) (p : Pt) (i : Nat) : Bool := decide (1 < p.next.length) && decide (1 < edgesN l (p.next.getD i 0)) && decide (0 < (p.args.getD i []).length)
def splitB (s : Sa) : Bool := s.parts.all (fun p => (List.range p.next.length).all (fun i => !critB s.parts p i))
end Go.Proofs.Ytmcnoeinjocimaa.L
