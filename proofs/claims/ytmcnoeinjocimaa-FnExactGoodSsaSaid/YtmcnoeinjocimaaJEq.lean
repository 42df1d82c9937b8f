/- Eq1 Eq2 Eq4 Eq5 Eq6 Eq7: joined. -/
import Derived.Test.YtmcnoeinjocimaaProg
import Derived.Test.YtmcnoeinjocimaaTy1
import Derived.Deep.RegionHeld3
import Derived.Test.YtmcnoeinjocimaaCv4
import Derived.Test.YtmcnoeinjocimaaTy3
import Derived.Test.YtmcnoeinjocimaaTy4
set_option linter.unusedVariables false
namespace Go.Proofs.Ytmcnoeinjocimaa.L
open Go.RowKit
theorem take_succ_eq {α : Type} {a b : List α} {k : Nat} (ha : k < a.length) (hb : k < b.length) (h : a.take k = b.take k) (he : a[k] = b[k]) : a.take (k + 1) = b.take (k + 1) := by
  rw [List.take_succ_eq_append_getElem ha, List.take_succ_eq_append_getElem hb, h, he]
theorem ne_of_get {α : Type} {a b : List α} {k : Nat} (ha : k < a.length) (hb : k < b.length) (he : a[k] ≠ b[k]) : a ≠ b := by
  rintro rfl
  exact he rfl
set_option maxHeartbeats 1000000 in
theorem eqIntS_calls {F G : Nat → Prop} (va vb : Value) (a b : List Int) (w : World) (ha : Rp.Rd Rp.int w F va a) (hb : Rp.Rd Rp.int w G vb b) :
    Calls Try.prog 21 #[va, vb] w fun e w' => e = .returned (.bool (decide (a = b))) ∧ Below w.heap.size w w' := by
  obtain ⟨A, c, rfl, hlc, hcm, hra⟩ := rd_int ha
  obtain ⟨B, d, rfl, hld, hdm, hrb⟩ := rd_int hb
  by_cases hl : a.length = b.length
  · have HL := Lib.hid hl
    have hle1 : a.length ≤ b.length := by omega
    have hle2 : b.length ≤ a.length := by omega
    have ht1 : ((a.length : Int) != (b.length : Int)) = false := by rw [bne_eq_false_iff_eq]; omega
    clear hl
    go_enter Try.func21, Try.ntmps21
    go_wp2
    go_loopw [5] (fun i wr => ∃ k : Nat, k ≤ a.length ∧ i = .int .i64 k ∧ Hid (a.take k = b.take k) ∧ Below w.heap.size w wr) (fun i _ => a.length - (intOf i).toNat)
    case atStart => exact ⟨0, Nat.zero_le _, rfl, Lib.hid rfl, Below.refl _ _⟩
    case round =>
      obtain ⟨k, hk, rfl, HT, HB⟩ := hrel
      by_cases hlt : k < a.length
      · have hlt2 : k < b.length := by omega
        rcases hra with rfl | ⟨g, o, rfl, hg, hca⟩
        · simp at hlt
        rcases hrb with rfl | ⟨g2, o2, rfl, hg2, hcb⟩
        · simp at hlt2
        have c1 := cell_below HB (hca k hlt)
        have c2 := cell_below HB (hcb k hlt2)
        clear hca hcb
        have i0 : (0 : Int) ≤ (k : Int) := Int.natCast_nonneg _
        have i1 : (k : Int) < (a.length : Int) := by omega
        have i2 : (k : Int) < (b.length : Int) := by omega
        by_cases he : a[k] = b[k]
        · have hne : (a[k] != b[k]) = false := by rw [bne_eq_false_iff_eq]; exact he
          have HE := Lib.hid he
          clear he
          go_wp2
          go_quiet (fail)
          go_wp2
          go_roundw
          case rel => exact ⟨k + 1, by omega, by go_num, Lib.hid (take_succ_eq hlt hlt2 HT.out HE.out), by first | exact HB | exact below_drewN HB _ | exact below_drew HB⟩
          case measure => simp [intOf]; omega
        · have hne : (a[k] != b[k]) = true := by rw [bne_iff_ne]; exact he
          have HE := Lib.hid he
          clear he
          go_wp2
          go_quiet (fail)
          go_wp2
          go_ret
          exact ⟨ret_bool (by rw [eq_comm, decide_eq_false_iff_not]; exact ne_of_get hlt hlt2 HE.out), by first | exact HB | exact below_drewN HB _ | exact below_drew HB⟩
      · obtain rfl : k = a.length := by omega
        go_wp2
        go_ret
        refine ⟨ret_bool ?_, HB⟩
        have := HT.out
        rw [List.take_length, HL.out, List.take_length] at this
        rw [eq_comm, decide_eq_true_eq]; exact this
  · have ht1 : ((a.length : Int) != (b.length : Int)) = true := by rw [bne_iff_ne]; omega
    have hn : a ≠ b := fun h => hl (by rw [h])
    have HN := Lib.hid hn
    clear hl hn hra hrb
    go_enter Try.func21, Try.ntmps21
    go_wp2
    go_ret
    exact ⟨ret_bool (by rw [eq_comm, decide_eq_false_iff_not]; exact HN.out), Below.refl _ _⟩
def eqFl (x y : Fl) : Bool := decide (x = y)
set_option maxHeartbeats 4000000 in
theorem eqFlat_calls (x y : Fl) (w : World) : Calls Try.prog 135 #[flV x, flV y] w fun e w' => e = .returned (.bool (eqFl x y)) ∧ Below w.heap.size w w' := by
  have HP : eqFl x y = (x.op == y.op && x.dO == y.dO && x.dst == y.dst && x.a == y.a && x.b == y.b && x.n == y.n) := by
    unfold eqFl
    rw [Bool.eq_iff_iff]
    obtain ⟨a1, a2, a3, a4, a5, a6⟩ := x
    obtain ⟨b1, b2, b3, b4, b5, b6⟩ := y
    simp [and_assoc]
  have HP := Lib.hid HP
  unfold flV
  go_enter Try.func135, Try.ntmps135
  go_wp2_with fail
  all_goals
    go_ret
    refine ⟨ret_bool ?_, ((Below.refl _ _).alloc (Nat.le_refl _) _).alloc (by simp) _⟩
    rw [HP.out]
    clear HP
    simp_all
end Go.Proofs.Ytmcnoeinjocimaa.L

set_option linter.unusedVariables false
namespace Go.Proofs.Ytmcnoeinjocimaa.L
open Go.RowKit
set_option maxHeartbeats 2000000 in
theorem eqFlatS_calls {F G : Nat → Prop} (va vb : Value) (a b : List Fl) (w : World) (ha : Rp.Rd flat w F va a) (hb : Rp.Rd flat w G vb b) :
    Calls Try.prog 123 #[va, vb] w fun e w' => e = .returned (.bool (decide (a = b))) ∧ Below w.heap.size w w' := by
  obtain ⟨A, c, rfl, hlc, hcm, hra⟩ := rd_flat ha
  obtain ⟨B, d, rfl, hld, hdm, hrb⟩ := rd_flat hb
  by_cases hl : a.length = b.length
  · have HL := Lib.hid hl
    have hle1 : a.length ≤ b.length := by omega
    have hle2 : b.length ≤ a.length := by omega
    have ht1 : ((a.length : Int) != (b.length : Int)) = false := by rw [bne_eq_false_iff_eq]; omega
    clear hl
    go_enter Try.func123, Try.ntmps123
    go_wp2
    go_loopw [5] (fun i wr => ∃ k : Nat, k ≤ a.length ∧ i = .int .i64 k ∧ Hid (a.take k = b.take k) ∧ Below w.heap.size w wr) (fun i _ => a.length - (intOf i).toNat)
    case atStart => exact ⟨0, Nat.zero_le _, rfl, Lib.hid rfl, Below.refl _ _⟩
    case round =>
      obtain ⟨k, hk, rfl, HT, HB⟩ := hrel
      by_cases hlt : k < a.length
      · have hlt2 : k < b.length := by omega
        rcases hra with rfl | ⟨g, o, rfl, hg, hca⟩
        · simp at hlt
        rcases hrb with rfl | ⟨g2, o2, rfl, hg2, hcb⟩
        · simp at hlt2
        have c1 := (hca k hlt).below HB
        have c2 := (hcb k hlt2).below HB
        clear hca hcb
        obtain ⟨p0, p1, p2, p3, p4, p5⟩ := c1
        obtain ⟨q0, q1, q2, q3, q4, q5⟩ := c2
        have i0 : (0 : Int) ≤ (k : Int) := Int.natCast_nonneg _
        have i1 : (k : Int) < (a.length : Int) := by omega
        have i2 : (k : Int) < (b.length : Int) := by omega
        have HC := Lib.hid (fun W => eqFlat_calls a[k] b[k] W)
        unfold flV at HC
        have HE : Hid (eqFl a[k] b[k] = decide (a[k] = b[k])) := Lib.hid rfl
        generalize eqFl a[k] b[k] = r at *
        go_wp2_with fail
        go_region_held3 (fun w' => w'.cell? ⟨g, o + k * 6, none⟩ = some (.int .i64 a[k].op) ∧ w'.cell? ⟨g, o + k * 6 + 1, none⟩ = some (.int .i64 a[k].dO) ∧ w'.cell? ⟨g, o + k * 6 + 2, none⟩ = some (.int .i64 a[k].dst) ∧ w'.cell? ⟨g, o + k * 6 + 3, none⟩ = some (.int .i64 a[k].a) ∧ w'.cell? ⟨g, o + k * 6 + 4, none⟩ = some (.int .i64 a[k].b) ∧ w'.cell? ⟨g, o + k * 6 + 5, none⟩ = some (.int .i64 a[k].n) ∧
          w'.cell? ⟨g2, o2 + k * 6, none⟩ = some (.int .i64 b[k].op) ∧ w'.cell? ⟨g2, o2 + k * 6 + 1, none⟩ = some (.int .i64 b[k].dO) ∧ w'.cell? ⟨g2, o2 + k * 6 + 2, none⟩ = some (.int .i64 b[k].dst) ∧ w'.cell? ⟨g2, o2 + k * 6 + 3, none⟩ = some (.int .i64 b[k].a) ∧ w'.cell? ⟨g2, o2 + k * 6 + 4, none⟩ = some (.int .i64 b[k].b) ∧ w'.cell? ⟨g2, o2 + k * 6 + 5, none⟩ = some (.int .i64 b[k].n))
          (first | go_keep | (go_split_ands; refine ⟨?_, ?_, ?_, ?_, ?_, ?_, ?_, ?_, ?_, ?_, ?_, ?_⟩ <;> exact cell_below hb1 (by assumption)))
          ((go_at_call 135; refine (HC.out _).mono ?_; rintro e w1 ⟨rfl, hb1⟩))
        have HB1 : Below w.heap.size w w1 := by first | exact below_then HB hb1 | exact below_then (below_drew HB) hb1 | exact below_then (below_drewN HB _) hb1
        clear hb1
        cases r
        · go_wp2
          go_ret
          exact ⟨ret_bool (by rw [eq_comm, decide_eq_false_iff_not]; exact ne_of_get hlt hlt2 (of_decide_eq_false HE.out.symm)), HB1⟩
        · go_wp2
          go_roundw
          case rel => exact ⟨k + 1, by omega, by go_num, Lib.hid (take_succ_eq hlt hlt2 HT.out (of_decide_eq_true HE.out.symm)), HB1⟩
          case measure => simp [intOf]; omega
      · obtain rfl : k = a.length := by omega
        go_wp2
        go_ret
        refine ⟨ret_bool ?_, HB⟩
        have := HT.out
        rw [List.take_length, HL.out, List.take_length] at this
        rw [eq_comm, decide_eq_true_eq]; exact this
  · have ht1 : ((a.length : Int) != (b.length : Int)) = true := by rw [bne_iff_ne]; omega
    have hn : a ≠ b := fun h => hl (by rw [h])
    have HN := Lib.hid hn
    clear hl hn hra hrb
    go_enter Try.func123, Try.ntmps123
    go_wp2
    go_ret
    exact ⟨ret_bool (by rw [eq_comm, decide_eq_false_iff_not]; exact HN.out), Below.refl _ _⟩
end Go.Proofs.Ytmcnoeinjocimaa.L

set_option linter.unusedVariables false
namespace Go.Proofs.Ytmcnoeinjocimaa.L
open Go.RowKit
def eqIl (x y : List Int) : Bool := decide (x = y)
set_option maxHeartbeats 2000000 in
theorem eqIntSS_calls {F G : Nat → Prop} (va vb : Value) (a b : List (List Int)) (w : World) (ha : Rp.Rd (Rp.sl Rp.int) w F va a) (hb : Rp.Rd (Rp.sl Rp.int) w G vb b) :
    Calls Try.prog 29 #[va, vb] w fun e w' => e = .returned (.bool (decide (a = b))) ∧ Below w.heap.size w w' := by
  obtain ⟨A, c, rfl, hlc, hcm, hra⟩ := rd_ints ha
  obtain ⟨B, d, rfl, hld, hdm, hrb⟩ := rd_ints hb
  by_cases hl : a.length = b.length
  · have HL := Lib.hid hl
    have hle1 : a.length ≤ b.length := by omega
    have hle2 : b.length ≤ a.length := by omega
    have ht1 : ((a.length : Int) != (b.length : Int)) = false := by rw [bne_eq_false_iff_eq]; omega
    clear hl
    go_enter Try.func29, Try.ntmps29
    go_wp2
    go_loopw [5] (fun i wr => ∃ k : Nat, k ≤ a.length ∧ i = .int .i64 k ∧ Hid (a.take k = b.take k) ∧ Below w.heap.size w wr) (fun i _ => a.length - (intOf i).toNat)
    case atStart => exact ⟨0, Nat.zero_le _, rfl, Lib.hid rfl, Below.refl _ _⟩
    case round =>
      obtain ⟨k, hk, rfl, HT, HB⟩ := hrel
      by_cases hlt : k < a.length
      · have hlt2 : k < b.length := by omega
        rcases hra with rfl | ⟨g, o, rfl, hg, hca⟩
        · simp at hlt
        rcases hrb with rfl | ⟨g2, o2, rfl, hg2, hcb⟩
        · simp at hlt2
        obtain ⟨u, c1, hu⟩ := hca k hlt
        obtain ⟨v, c2, hv⟩ := hcb k hlt2
        replace c1 := cell_below HB c1
        replace c2 := cell_below HB c2
        replace hu := hu.below HB
        replace hv := hv.below HB
        clear hca hcb
        have ⟨A0, k0, hv0, _⟩ := hu
        have ⟨A2, k2, hv2, _⟩ := hv
        subst hv0 hv2
        have i0 : (0 : Int) ≤ (k : Int) := Int.natCast_nonneg _
        have i1 : (k : Int) < (a.length : Int) := by omega
        have i2 : (k : Int) < (b.length : Int) := by omega
        have HC := Lib.hid (fun W (hb : Below wr.heap.size wr W) => eqIntS_calls _ _ a[k] b[k] W (hu.below hb) (hv.below hb))
        clear hu hv
        have HE : Hid (decide (a[k] = b[k]) = decide (a[k] = b[k])) := Lib.hid rfl
        have HE : Hid (eqIl a[k] b[k] = decide (a[k] = b[k])) := Lib.hid rfl
        change Hid (∀ W (hb : Below wr.heap.size wr W), Calls Try.prog 21 #[.slice A0 a[k].length k0, .slice A2 b[k].length k2] W fun e w' => e = .returned (.bool (eqIl a[k] b[k])) ∧ Below W.heap.size W w') at HC
        generalize eqIl a[k] b[k] = r at *
        go_wp2_with fail
        go_region_held3 (fun w' => w'.cell? ⟨g, o + k, none⟩ = some (.slice A0 a[k].length k0) ∧ w'.cell? ⟨g2, o2 + k, none⟩ = some (.slice A2 b[k].length k2))
          (first | go_keep | (go_split_ands; refine ⟨?_, ?_⟩ <;> exact cell_below hb1 (by assumption)))
          ((go_at_call 21; refine (HC.out _ (by first | exact Below.refl _ _ | exact below_drew (Below.refl _ _) | exact below_drewN (Below.refl _ _) _)).mono ?_; rintro e w1 ⟨rfl, hb1⟩))
        have HB1 : Below w.heap.size w w1 := by first | exact below_then HB hb1 | exact below_then (below_drew HB) hb1 | exact below_then (below_drewN HB _) hb1
        clear hb1 HC
        cases r
        · go_wp2
          go_ret
          exact ⟨ret_bool (by rw [eq_comm, decide_eq_false_iff_not]; exact ne_of_get hlt hlt2 (of_decide_eq_false HE.out.symm)), HB1⟩
        · go_wp2
          go_roundw
          case rel => exact ⟨k + 1, by omega, by go_num, Lib.hid (take_succ_eq hlt hlt2 HT.out (of_decide_eq_true HE.out.symm)), HB1⟩
          case measure => simp [intOf]; omega
      · obtain rfl : k = a.length := by omega
        go_wp2
        go_ret
        refine ⟨ret_bool ?_, HB⟩
        have := HT.out
        rw [List.take_length, HL.out, List.take_length] at this
        rw [eq_comm, decide_eq_true_eq]; exact this
  · have ht1 : ((a.length : Int) != (b.length : Int)) = true := by rw [bne_iff_ne]; omega
    have hn : a ≠ b := fun h => hl (by rw [h])
    have HN := Lib.hid hn
    clear hl hn hra hrb
    go_enter Try.func29, Try.ntmps29
    go_wp2
    go_ret
    exact ⟨ret_bool (by rw [eq_comm, decide_eq_false_iff_not]; exact HN.out), Below.refl _ _⟩
end Go.Proofs.Ytmcnoeinjocimaa.L

set_option linter.unusedVariables false
set_option linter.unusedSimpArgs false
namespace Go.Proofs.Ytmcnoeinjocimaa.L
open Go.RowKit
def eqPt (x y : Pt) : Bool := decide (x = y)
set_option maxHeartbeats 4000000 in
theorem eqPart_calls {F G : Nat → Prop} (x y : Pt) (vparams vcode vnext vargs uparams ucode unext uargs : Value) (w : World) (hparams : Rp.Rd Rp.int w F vparams x.params) (hcode : Rp.Rd flat w F vcode x.code) (hnext : Rp.Rd Rp.int w F vnext x.next) (hargs : Rp.Rd (Rp.sl Rp.int) w F vargs x.args) (gparams : Rp.Rd Rp.int w G uparams y.params) (gcode : Rp.Rd flat w G ucode y.code) (gnext : Rp.Rd Rp.int w G unext y.next) (gargs : Rp.Rd (Rp.sl Rp.int) w G uargs y.args) :
    Calls Try.prog 85 #[ptV x vparams vcode vnext vargs, ptV y uparams ucode unext uargs] w fun e w' => e = .returned (.bool (eqPt x y)) ∧ Below w.heap.size w w' := by
  have HP : eqPt x y = (decide (x.params = y.params) && decide (x.code = y.code) && x.go == y.go && x.test == y.test && decide (x.next = y.next) && decide (x.args = y.args)) := by
    unfold eqPt
    rw [Bool.eq_iff_iff]
    obtain ⟨a0, a1, a2, a3, a4, a5⟩ := x
    obtain ⟨b0, b1, b2, b3, b4, b5⟩ := y
    simp [and_assoc]
  have HP := Lib.hid HP
  have Hparams := fun W (hW : Below w.heap.size w W) => eqIntS_calls vparams uparams x.params y.params W (hparams.below hW) (gparams.below hW)
  have Hcode := fun W (hW : Below w.heap.size w W) => eqFlatS_calls vcode ucode x.code y.code W (hcode.below hW) (gcode.below hW)
  have Hnext := fun W (hW : Below w.heap.size w W) => eqIntS_calls vnext unext x.next y.next W (hnext.below hW) (gnext.below hW)
  have Hargs := fun W (hW : Below w.heap.size w W) => eqIntSS_calls vargs uargs x.args y.args W (hargs.below hW) (gargs.below hW)
  generalize decide (x.params = y.params) = rparams at *
  have Hparams := Lib.hid Hparams
  generalize decide (x.code = y.code) = rcode at *
  have Hcode := Lib.hid Hcode
  generalize decide (x.next = y.next) = rnext at *
  have Hnext := Lib.hid Hnext
  generalize decide (x.args = y.args) = rargs at *
  have Hargs := Lib.hid Hargs
  have ⟨Aparams, kparams, yparams, _⟩ := hparams
  have ⟨Bparams, dparams, zparams, _⟩ := gparams
  have ⟨Acode, kcode, ycode, _⟩ := hcode
  have ⟨Bcode, dcode, zcode, _⟩ := gcode
  have ⟨Anext, knext, ynext, _⟩ := hnext
  have ⟨Bnext, dnext, znext, _⟩ := gnext
  have ⟨Aargs, kargs, yargs, _⟩ := hargs
  have ⟨Bargs, dargs, zargs, _⟩ := gargs
  subst yparams ycode ynext yargs zparams zcode znext zargs
  clear hparams gparams hcode gcode hnext gnext hargs gargs
  unfold ptV
  go_enter Try.func85, Try.ntmps85
  go_wp2_with fail
  have HB : Below w.heap.size w ((w.alloc (.cells #[.slice Aparams x.params.length kparams, .slice Acode x.code.length kcode, .int .i64 x.go, .int .i64 x.test, .slice Anext x.next.length knext, .slice Aargs x.args.length kargs] 54)).alloc (.cells #[.slice Bparams y.params.length dparams, .slice Bcode y.code.length dcode, .int .i64 y.go, .int .i64 y.test, .slice Bnext y.next.length dnext, .slice Bargs y.args.length dargs] 54)) := (below_new _).alloc (by simp) _
  have b1 := heap_alloc2_old w (.cells #[.slice Aparams x.params.length kparams, .slice Acode x.code.length kcode, .int .i64 x.go, .int .i64 x.test, .slice Anext x.next.length knext, .slice Aargs x.args.length kargs] 54) (.cells #[.slice Bparams y.params.length dparams, .slice Bcode y.code.length dcode, .int .i64 y.go, .int .i64 y.test, .slice Bnext y.next.length dnext, .slice Bargs y.args.length dargs] 54)
  have b2 := heap_alloc2_new w (.cells #[.slice Aparams x.params.length kparams, .slice Acode x.code.length kcode, .int .i64 x.go, .int .i64 x.test, .slice Anext x.next.length knext, .slice Aargs x.args.length kargs] 54) (.cells #[.slice Bparams y.params.length dparams, .slice Bcode y.code.length dcode, .int .i64 y.go, .int .i64 y.test, .slice Bnext y.next.length dnext, .slice Bargs y.args.length dargs] 54)
  refine (Hparams.out _ HB).mono ?_
  rintro e w0 ⟨rfl, hb⟩
  replace b1 := blk_below b1 hb; replace b2 := blk_below b2 hb; replace HB := below_then HB hb
  clear hb
  obtain ⟨c1, f1⟩ := cell_of_block b1; obtain ⟨c2, f2⟩ := cell_of_block b2
  have s1 := blk_lt b1; have s2 := blk_lt b2
  cases rparams
  · go_wp2
    go_ret
    refine ⟨ret_bool ?_, HB⟩
    rw [HP.out]
    clear HP Hparams Hcode Hnext Hargs c1 f1 c2 f2
    simp_all
  go_wp2_with fail
  all_goals try (go_ret; refine ⟨ret_bool ?_, HB⟩; rw [HP.out]; clear HP Hparams Hcode Hnext Hargs c1 f1 c2 f2; simp_all; done)
  refine (Hcode.out _ HB).mono ?_
  rintro e w1 ⟨rfl, hb⟩
  replace b1 := blk_below b1 hb; replace b2 := blk_below b2 hb; replace HB := below_then HB hb
  clear hb c1 f1 c2 f2
  obtain ⟨c1, f1⟩ := cell_of_block b1; obtain ⟨c2, f2⟩ := cell_of_block b2
  replace s1 := blk_lt b1; replace s2 := blk_lt b2
  cases rcode
  · go_wp2
    go_ret
    refine ⟨ret_bool ?_, HB⟩
    rw [HP.out]
    clear HP Hparams Hcode Hnext Hargs c1 f1 c2 f2
    simp_all
  go_wp2_with fail
  all_goals try (go_ret; refine ⟨ret_bool ?_, HB⟩; rw [HP.out]; clear HP Hparams Hcode Hnext Hargs c1 f1 c2 f2; simp_all; done)
  refine (Hnext.out _ HB).mono ?_
  rintro e w2 ⟨rfl, hb⟩
  replace b1 := blk_below b1 hb; replace b2 := blk_below b2 hb; replace HB := below_then HB hb
  clear hb c1 f1 c2 f2
  obtain ⟨c1, f1⟩ := cell_of_block b1; obtain ⟨c2, f2⟩ := cell_of_block b2
  replace s1 := blk_lt b1; replace s2 := blk_lt b2
  cases rnext
  · go_wp2
    go_ret
    refine ⟨ret_bool ?_, HB⟩
    rw [HP.out]
    clear HP Hparams Hcode Hnext Hargs c1 f1 c2 f2
    simp_all
  go_wp2_with fail
  all_goals try (go_ret; refine ⟨ret_bool ?_, HB⟩; rw [HP.out]; clear HP Hparams Hcode Hnext Hargs c1 f1 c2 f2; simp_all; done)
  refine (Hargs.out _ HB).mono ?_
  rintro e w3 ⟨rfl, hb⟩
  replace b1 := blk_below b1 hb; replace b2 := blk_below b2 hb; replace HB := below_then HB hb
  clear hb c1 f1 c2 f2
  obtain ⟨c1, f1⟩ := cell_of_block b1; obtain ⟨c2, f2⟩ := cell_of_block b2
  replace s1 := blk_lt b1; replace s2 := blk_lt b2
  cases rargs
  all_goals
    go_wp2_with fail
  all_goals
    go_ret
    refine ⟨ret_bool ?_, HB⟩
    rw [HP.out]
    clear HP Hparams Hcode Hnext Hargs c1 f1 c2 f2
    simp_all
end Go.Proofs.Ytmcnoeinjocimaa.L

set_option linter.unusedVariables false
set_option linter.unusedSimpArgs false
namespace Go.Proofs.Ytmcnoeinjocimaa.L
open Go.RowKit
set_option maxHeartbeats 2000000 in
theorem eqPartS_calls {F G : Nat → Prop} (va vb : Value) (a b : List Pt) (w : World) (ha : Rp.Rd part w F va a) (hb : Rp.Rd part w G vb b) :
    Calls Try.prog 53 #[va, vb] w fun e w' => e = .returned (.bool (decide (a = b))) ∧ Below w.heap.size w w' := by
  obtain ⟨A, c, rfl, hlc, hcm, hra⟩ := rd_part ha
  obtain ⟨B, d, rfl, hld, hdm, hrb⟩ := rd_part hb
  by_cases hl : a.length = b.length
  · have HL := Lib.hid hl
    have hle1 : a.length ≤ b.length := by omega
    have hle2 : b.length ≤ a.length := by omega
    have ht1 : ((a.length : Int) != (b.length : Int)) = false := by rw [bne_eq_false_iff_eq]; omega
    clear hl
    go_enter Try.func53, Try.ntmps53
    go_wp2
    go_loopw [5] (fun i wr => ∃ k : Nat, k ≤ a.length ∧ i = .int .i64 k ∧ Hid (a.take k = b.take k) ∧ Below w.heap.size w wr) (fun i _ => a.length - (intOf i).toNat)
    case atStart => exact ⟨0, Nat.zero_le _, rfl, Lib.hid rfl, Below.refl _ _⟩
    case round =>
      obtain ⟨k, hk, rfl, HT, HB⟩ := hrel
      by_cases hlt : k < a.length
      · have hlt2 : k < b.length := by omega
        rcases hra with rfl | ⟨g, o, rfl, hg, hca⟩
        · simp at hlt
        rcases hrb with rfl | ⟨g2, o2, rfl, hg2, hcb⟩
        · simp at hlt2
        obtain ⟨vparams, vcode, vnext, vargs, c1, hparams, hcode, hnext, hargs⟩ := hca k hlt
        obtain ⟨uparams, ucode, unext, uargs, c2, gparams, gcode, gnext, gargs⟩ := hcb k hlt2
        replace c1 := partAt_below c1 HB
        replace c2 := partAt_below c2 HB
        replace hparams := hparams.below HB
        replace gparams := gparams.below HB
        replace hcode := hcode.below HB
        replace gcode := gcode.below HB
        replace hnext := hnext.below HB
        replace gnext := gnext.below HB
        replace hargs := hargs.below HB
        replace gargs := gargs.below HB
        clear hca hcb
        obtain ⟨p0, p1, p2, p3, p4, p5⟩ := c1
        obtain ⟨q0, q1, q2, q3, q4, q5⟩ := c2
        have ⟨Aparams, kparams, yparams, _⟩ := hparams
        have ⟨Bparams, dparams, zparams, _⟩ := gparams
        have ⟨Acode, kcode, ycode, _⟩ := hcode
        have ⟨Bcode, dcode, zcode, _⟩ := gcode
        have ⟨Anext, knext, ynext, _⟩ := hnext
        have ⟨Bnext, dnext, znext, _⟩ := gnext
        have ⟨Aargs, kargs, yargs, _⟩ := hargs
        have ⟨Bargs, dargs, zargs, _⟩ := gargs
        subst yparams ycode ynext yargs zparams zcode znext zargs
        have i0 : (0 : Int) ≤ (k : Int) := Int.natCast_nonneg _
        have i1 : (k : Int) < (a.length : Int) := by omega
        have i2 : (k : Int) < (b.length : Int) := by omega
        have HC := Lib.hid (fun W (hb : Below wr.heap.size wr W) => eqPart_calls a[k] b[k] _ _ _ _ _ _ _ _ W (hparams.below hb) (hcode.below hb) (hnext.below hb) (hargs.below hb) (gparams.below hb) (gcode.below hb) (gnext.below hb) (gargs.below hb))
        unfold ptV at HC
        clear hparams gparams hcode gcode hnext gnext hargs gargs
        have HE : Hid (eqPt a[k] b[k] = decide (a[k] = b[k])) := Lib.hid rfl
        generalize eqPt a[k] b[k] = r at *
        go_wp2_with fail
        go_region_held3 (fun w' => w'.cell? ⟨g, o + k * 6, none⟩ = some (.slice Aparams a[k].params.length kparams) ∧ w'.cell? ⟨g, o + k * 6 + 1, none⟩ = some (.slice Acode a[k].code.length kcode) ∧ w'.cell? ⟨g, o + k * 6 + 2, none⟩ = some (.int .i64 a[k].go) ∧ w'.cell? ⟨g, o + k * 6 + 3, none⟩ = some (.int .i64 a[k].test) ∧ w'.cell? ⟨g, o + k * 6 + 4, none⟩ = some (.slice Anext a[k].next.length knext) ∧ w'.cell? ⟨g, o + k * 6 + 5, none⟩ = some (.slice Aargs a[k].args.length kargs) ∧
          w'.cell? ⟨g2, o2 + k * 6, none⟩ = some (.slice Bparams b[k].params.length dparams) ∧ w'.cell? ⟨g2, o2 + k * 6 + 1, none⟩ = some (.slice Bcode b[k].code.length dcode) ∧ w'.cell? ⟨g2, o2 + k * 6 + 2, none⟩ = some (.int .i64 b[k].go) ∧ w'.cell? ⟨g2, o2 + k * 6 + 3, none⟩ = some (.int .i64 b[k].test) ∧ w'.cell? ⟨g2, o2 + k * 6 + 4, none⟩ = some (.slice Bnext b[k].next.length dnext) ∧ w'.cell? ⟨g2, o2 + k * 6 + 5, none⟩ = some (.slice Bargs b[k].args.length dargs))
          (first | go_keep | (go_split_ands; refine ⟨?_, ?_, ?_, ?_, ?_, ?_, ?_, ?_, ?_, ?_, ?_, ?_⟩ <;> exact cell_below hb1 (by assumption)))
          ((go_at_call 85; refine (HC.out _ (by first | exact Below.refl _ _ | exact below_drew (Below.refl _ _) | exact below_drewN (Below.refl _ _) _)).mono ?_; rintro e w1 ⟨rfl, hb1⟩))
        have HB1 : Below w.heap.size w w1 := by first | exact below_then HB hb1 | exact below_then (below_drew HB) hb1 | exact below_then (below_drewN HB _) hb1
        clear hb1 HC
        cases r
        · go_wp2
          go_ret
          exact ⟨ret_bool (by rw [eq_comm, decide_eq_false_iff_not]; exact ne_of_get hlt hlt2 (of_decide_eq_false HE.out.symm)), HB1⟩
        · go_wp2
          go_roundw
          case rel => exact ⟨k + 1, by omega, by go_num, Lib.hid (take_succ_eq hlt hlt2 HT.out (of_decide_eq_true HE.out.symm)), HB1⟩
          case measure => simp [intOf]; omega
      · obtain rfl : k = a.length := by omega
        go_wp2
        go_ret
        refine ⟨ret_bool ?_, HB⟩
        have := HT.out
        rw [List.take_length, HL.out, List.take_length] at this
        rw [eq_comm, decide_eq_true_eq]; exact this
  · have ht1 : ((a.length : Int) != (b.length : Int)) = true := by rw [bne_iff_ne]; omega
    have hn : a ≠ b := fun h => hl (by rw [h])
    have HN := Lib.hid hn
    clear hl hn hra hrb
    go_enter Try.func53, Try.ntmps53
    go_wp2
    go_ret
    exact ⟨ret_bool (by rw [eq_comm, decide_eq_false_iff_not]; exact HN.out), Below.refl _ _⟩
end Go.Proofs.Ytmcnoeinjocimaa.L

set_option linter.unusedVariables false
set_option linter.unusedSimpArgs false
namespace Go.Proofs.Ytmcnoeinjocimaa.L
open Go.RowKit
def eqSa (x y : Sa) : Bool := decide (x = y)
set_option maxHeartbeats 4000000 in
theorem eqSsa_calls {F G : Nat → Prop} (x y : Sa) (vparts uparts : Value) (w : World) (hparts : Rp.Rd part w F vparts x.parts) (gparts : Rp.Rd part w G uparts y.parts) :
    Calls Try.prog 16 #[saV x vparts, saV y uparts] w fun e w' => e = .returned (.bool (eqSa x y)) ∧ Below w.heap.size w w' := by
  have HP : eqSa x y = (decide (x.parts = y.parts) && x.values == y.values) := by
    unfold eqSa
    rw [Bool.eq_iff_iff]
    obtain ⟨a0, a1⟩ := x
    obtain ⟨b0, b1⟩ := y
    simp [and_assoc]
  have HP := Lib.hid HP
  have Hparts := fun W (hW : Below w.heap.size w W) => eqPartS_calls vparts uparts x.parts y.parts W (hparts.below hW) (gparts.below hW)
  generalize decide (x.parts = y.parts) = rparts at *
  have Hparts := Lib.hid Hparts
  have ⟨Aparts, kparts, yparts, _⟩ := hparts
  have ⟨Bparts, dparts, zparts, _⟩ := gparts
  subst yparts zparts
  clear hparts gparts
  unfold saV
  go_enter Try.func16, Try.ntmps16
  go_wp2_with fail
  have HB : Below w.heap.size w ((w.alloc (.cells #[.slice Aparts x.parts.length kparts, .int .i64 x.values] 29)).alloc (.cells #[.slice Bparts y.parts.length dparts, .int .i64 y.values] 29)) := (below_new _).alloc (by simp) _
  have b1 := heap_alloc2_old w (.cells #[.slice Aparts x.parts.length kparts, .int .i64 x.values] 29) (.cells #[.slice Bparts y.parts.length dparts, .int .i64 y.values] 29)
  have b2 := heap_alloc2_new w (.cells #[.slice Aparts x.parts.length kparts, .int .i64 x.values] 29) (.cells #[.slice Bparts y.parts.length dparts, .int .i64 y.values] 29)
  refine (Hparts.out _ HB).mono ?_
  rintro e w0 ⟨rfl, hb⟩
  replace b1 := blk_below b1 hb; replace b2 := blk_below b2 hb; replace HB := below_then HB hb
  clear hb
  obtain ⟨c1, f1⟩ := cell_of_block b1; obtain ⟨c2, f2⟩ := cell_of_block b2
  have s1 := blk_lt b1; have s2 := blk_lt b2
  cases rparts
  all_goals
    go_wp2_with fail
  all_goals
    go_ret
    refine ⟨ret_bool ?_, HB⟩
    rw [HP.out]
    clear HP Hparts c1 f1 c2 f2
    simp_all
end Go.Proofs.Ytmcnoeinjocimaa.L
