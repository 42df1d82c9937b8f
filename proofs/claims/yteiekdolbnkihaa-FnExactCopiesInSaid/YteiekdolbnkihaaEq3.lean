/- The laws' own comparison of flows. -/
import Derived.Test.YteiekdolbnkihaaEq2
import Derived.Test.YteiekdolbnkihaaTy2
set_option linter.unusedVariables false
namespace Go.Proofs.Yteiekdolbnkihaa.L
open Go.RowKit
def eqBk (x y : Bk) : Bool := decide (x = y)
set_option maxHeartbeats 2000000 in
theorem eqBlock_calls {F G : Nat → Prop} (x y : Bk) (vc vn uc un : Value) (w : World) (hc : Rp.Rd flat w F vc x.code) (hn : Rp.Rd Rp.int w F vn x.next) (kc : Rp.Rd flat w G uc y.code) (kn : Rp.Rd Rp.int w G un y.next) :
    Calls Try.prog 41 #[bkV vc x vn, bkV uc y un] w fun e w' => e = .returned (.bool (eqBk x y)) ∧ Below w.heap.size w w' := by
  have HP : eqBk x y = (decide (x.code = y.code) && x.go == y.go && x.test == y.test && decide (x.next = y.next)) := by
    unfold eqBk
    rw [Bool.eq_iff_iff]
    obtain ⟨a1, a2, a3, a4⟩ := x
    obtain ⟨b1, b2, b3, b4⟩ := y
    simp [and_assoc]
  have HP := Lib.hid HP
  have H1 := fun w' (h : Rp.Rd flat w' F vc x.code) (k : Rp.Rd flat w' G uc y.code) => eqFlatS_calls vc uc x.code y.code w' h k
  have H2 := fun w' (h : Rp.Rd Rp.int w' F vn x.next) (k : Rp.Rd Rp.int w' G un y.next) => eqIntS_calls vn un x.next y.next w' h k
  generalize decide (x.code = y.code) = r1 at *
  generalize decide (x.next = y.next) = r2 at *
  have H1 := Lib.hid H1
  have H2 := Lib.hid H2
  have HN : Below w.heap.size w ((w.alloc (.cells #[vc, .int .i64 x.go, .int .i64 x.test, vn] 63)).alloc (.cells #[uc, .int .i64 y.go, .int .i64 y.test, un] 63)) := (below_new _).alloc (by simp) _
  replace hc := hc.below HN
  replace hn := hn.below HN
  replace kc := kc.below HN
  replace kn := kn.below HN
  unfold bkV
  go_enter Try.func41, Try.ntmps41
  go_wp2_with fail
  refine (H1.out _ hc kc).mono ?_
  rintro e w1 ⟨rfl, hb⟩
  obtain ⟨b1, b2, z1, z2⟩ := boxed2 hb
  obtain ⟨c1, f1⟩ := cell_of_block b1; obtain ⟨c2, f2⟩ := cell_of_block b2
  replace hn := hn.below hb
  replace kn := kn.below hb
  replace hb := HN.trans (hb.mono HN.size)
  go_wp2_with (go_at_call 13; refine (H2.out _ hn kn).mono ?_; rintro e w2 ⟨rfl, hb2⟩; replace hb := below_then hb hb2)
  all_goals
    go_ret
    refine ⟨ret_bool ?_, hb⟩
    rw [HP.out]
    clear HP c1 c2 f1 f2 z1 z2 H1 H2
    simp_all
set_option maxHeartbeats 2000000 in
theorem eqBlockS_calls {F G : Nat → Prop} (va vb : Value) (a b : List Bk) (w : World) (ha : Rp.Rd block w F va a) (hb : Rp.Rd block w G vb b) :
    Calls Try.prog 21 #[va, vb] w fun e w' => e = .returned (.bool (decide (a = b))) ∧ Below w.heap.size w w' := by
  obtain ⟨A, c, rfl, hlc, hcm, hra⟩ := rd_block ha
  obtain ⟨B, d, rfl, hld, hdm, hrb⟩ := rd_block hb
  by_cases hl : a.length = b.length
  · have HL := Lib.hid hl
    have hle1 : a.length ≤ b.length := by omega
    have hle2 : b.length ≤ a.length := by omega
    have ht1 : ((a.length : Int) != (b.length : Int)) = false := by rw [bne_eq_false_iff_eq]; omega
    clear hl
    go_enter Try.func21, Try.ntmps21
    go_wp2
    go_loopw [5] (fun i wr => ∃ k : Nat, k ≤ a.length ∧ i = .int .i64 k ∧ Hid (a.take k = b.take k) ∧ Below w.heap.size w wr) (fun i _ => a.length - (intOf i).toNat)
    case atStart => exact ⟨0, Nat.zero_le _, rfl, Lib.hid rfl, Below.refl _ _⟩
    case round =>
      obtain ⟨k, hk, rfl, HT, HB⟩ := hrel
      by_cases hlt : k < a.length
      · have hlt2 : k < b.length := by omega
        rcases hra with rfl | ⟨g, o, rfl, hg, hca⟩
        · simp at hlt
        rcases hrb with rfl | ⟨g2, o2, rfl, hg2, hcb⟩
        · simp at hlt2
        obtain ⟨vc, vn, c1, hc, hn⟩ := hca k hlt
        obtain ⟨uc, un, c2, kc, kn⟩ := hcb k hlt2
        replace c1 := c1.below HB
        replace c2 := c2.below HB
        replace hc := hc.below HB
        replace hn := hn.below HB
        replace kc := kc.below HB
        replace kn := kn.below HB
        clear hca hcb
        obtain ⟨p0, p1, p2, p3⟩ := c1
        obtain ⟨q0, q1, q2, q3⟩ := c2
        have ⟨A0, k0, hv0, _⟩ := hc
        have ⟨A1, k1, hv1, _⟩ := hn
        have ⟨A2, k2, hv2, _⟩ := kc
        have ⟨A3, k3, hv3, _⟩ := kn
        subst hv0 hv1 hv2 hv3
        have i0 : (0 : Int) ≤ (k : Int) := Int.natCast_nonneg _
        have i1 : (k : Int) < (a.length : Int) := by omega
        have i2 : (k : Int) < (b.length : Int) := by omega
        have HC := Lib.hid (fun W (hb : Below wr.heap.size wr W) => eqBlock_calls a[k] b[k] _ _ _ _ W (hc.below hb) (hn.below hb) (kc.below hb) (kn.below hb))
        unfold bkV at HC
        clear hc hn kc kn
        have HE : Hid (eqBk a[k] b[k] = decide (a[k] = b[k])) := Lib.hid rfl
        generalize eqBk a[k] b[k] = r at *
        go_wp2_with fail
        go_region_held3 (fun w' => w'.cell? ⟨g, o + k * 4, none⟩ = some (.slice A0 a[k].code.length k0) ∧ w'.cell? ⟨g, o + k * 4 + 1, none⟩ = some (.int .i64 a[k].go) ∧ w'.cell? ⟨g, o + k * 4 + 2, none⟩ = some (.int .i64 a[k].test) ∧ w'.cell? ⟨g, o + k * 4 + 3, none⟩ = some (.slice A1 a[k].next.length k1) ∧
          w'.cell? ⟨g2, o2 + k * 4, none⟩ = some (.slice A2 b[k].code.length k2) ∧ w'.cell? ⟨g2, o2 + k * 4 + 1, none⟩ = some (.int .i64 b[k].go) ∧ w'.cell? ⟨g2, o2 + k * 4 + 2, none⟩ = some (.int .i64 b[k].test) ∧ w'.cell? ⟨g2, o2 + k * 4 + 3, none⟩ = some (.slice A3 b[k].next.length k3))
          (first | go_keep | (go_split_ands; refine ⟨?_, ?_, ?_, ?_, ?_, ?_, ?_, ?_⟩ <;> exact cell_below hb1 (by assumption)))
          ((go_at_call 41; refine (HC.out _ (by first | exact Below.refl _ _ | exact below_drew (Below.refl _ _) | exact below_drewN (Below.refl _ _) _)).mono ?_; rintro e w1 ⟨rfl, hb1⟩))
        have HB1 : Below w.heap.size w w1 := by first | exact below_then HB hb1 | exact below_then (below_drew HB) hb1 | exact below_then (below_drewN HB _) hb1
        clear hb1 HC
        cases r
        · go_wp2
          go_ret
          exact ⟨ret_bool (by rw [eq_comm, decide_eq_false_iff_not]; exact ne_of_get hlt hlt2 (of_decide_eq_false HE.out.symm)), HB1⟩
        · go_wp2
          go_roundw
          case rel => exact ⟨k + 1, by omega, by go_num, Lib.hid (take_succ_eq hlt hlt2 HT.out (of_decide_eq_true HE.out.symm)), HB1⟩
          case measure => simp [intOf]; omega
      · obtain rfl : k = a.length := by omega
        go_wp2
        go_ret
        refine ⟨ret_bool ?_, HB⟩
        have := HT.out
        rw [List.take_length, HL.out, List.take_length] at this
        rw [eq_comm, decide_eq_true_eq]; exact this
  · have ht1 : ((a.length : Int) != (b.length : Int)) = true := by rw [bne_iff_ne]; omega
    have hn : a ≠ b := fun h => hl (by rw [h])
    have HN := Lib.hid hn
    clear hl hn hra hrb
    go_enter Try.func21, Try.ntmps21
    go_wp2
    go_ret
    exact ⟨ret_bool (by rw [eq_comm, decide_eq_false_iff_not]; exact HN.out), Below.refl _ _⟩
end Go.Proofs.Yteiekdolbnkihaa.L
