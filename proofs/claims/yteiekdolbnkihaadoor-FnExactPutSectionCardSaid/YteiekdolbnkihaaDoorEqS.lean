/- The laws' own comparison of lists of sections. -/
import Derived.Test.YteiekdolbnkihaaDoorProg
import Derived.Test.YteiekdolbnkihaaDoorTyS
import Derived.Deep.RegionHeld3
set_option linter.unusedVariables false
set_option linter.unusedSimpArgs false
namespace Go.Proofs.YteiekdolbnkihaaDoor.L
open Go.RowKit
theorem take_succ_eq {α : Type} {a b : List α} {k : Nat} (ha : k < a.length) (hb : k < b.length) (h : a.take k = b.take k) (he : a[k] = b[k]) : a.take (k + 1) = b.take (k + 1) := by
  rw [List.take_succ_eq_append_getElem ha, List.take_succ_eq_append_getElem hb, h, he]
theorem ne_of_get {α : Type} {a b : List α} {k : Nat} (ha : k < a.length) (hb : k < b.length) (he : a[k] ≠ b[k]) : a ≠ b := by
  rintro rfl
  exact he rfl
theorem bytes_eq (a b : ByteArray) : a.toList = b.toList ↔ a = b := by
  rw [ByteArray.toList_eq, ByteArray.toList_eq]
  constructor
  · intro h
    obtain ⟨⟨a⟩⟩ := a
    obtain ⟨⟨b⟩⟩ := b
    simp at h
    rw [h]
  · rintro rfl; rfl
def eqSe (x y : Se) : Bool := decide (x = y)
theorem eqSection_calls (x y : Se) (w : World) : Calls Tryd.prog 47 #[seV x, seV y] w fun e w' => e = .returned (.bool (eqSe x y)) ∧ Below w.heap.size w w' := by
  have HP : eqSe x y = (x.id == y.id && x.body.toList == y.body.toList) := by
    unfold eqSe
    rw [Bool.eq_iff_iff]
    obtain ⟨a1, a2⟩ := x
    obtain ⟨b1, b2⟩ := y
    simp only [decide_eq_true_eq, Bool.and_eq_true, beq_iff_eq, Se.mk.injEq, bytes_eq]
  have HP := Lib.hid HP
  unfold seV
  go_enter Tryd.func47, Tryd.ntmps47
  go_wp2_with fail
  all_goals
    go_ret
    refine ⟨ret_bool ?_, ((Below.refl _ _).alloc (Nat.le_refl _) _).alloc (by simp) _⟩
    rw [HP.out]
    clear HP
    simp_all
set_option maxHeartbeats 2000000 in
theorem eqSectionS_calls {F G : Nat → Prop} (va vb : Value) (a b : List Se) (w : World) (ha : Rp.Rd sect w F va a) (hb : Rp.Rd sect w G vb b) :
    Calls Tryd.prog 20 #[va, vb] w fun e w' => e = .returned (.bool (decide (a = b))) ∧ Below w.heap.size w w' := by
  obtain ⟨A, c, rfl, hlc, hcm, hra⟩ := rd_sect ha
  obtain ⟨B, d, rfl, hld, hdm, hrb⟩ := rd_sect hb
  by_cases hl : a.length = b.length
  · have HL := Lib.hid hl
    have hle1 : a.length ≤ b.length := by omega
    have hle2 : b.length ≤ a.length := by omega
    have ht1 : ((a.length : Int) != (b.length : Int)) = false := by rw [bne_eq_false_iff_eq]; omega
    clear hl
    go_enter Tryd.func20, Tryd.ntmps20
    go_wp2
    go_loopw [5] (fun i wr => ∃ k : Nat, k ≤ a.length ∧ i = .int .i64 k ∧ Hid (a.take k = b.take k) ∧ Below w.heap.size w wr) (fun i _ => a.length - (intOf i).toNat)
    case atStart => exact ⟨0, Nat.zero_le _, rfl, Lib.hid rfl, Below.refl _ _⟩
    case round =>
      obtain ⟨k, hk, rfl, HT, HB⟩ := hrel
      by_cases hlt : k < a.length
      · have hlt2 : k < b.length := by omega
        rcases hra with rfl | ⟨g, o, rfl, hg, hca⟩
        · simp at hlt
        rcases hrb with rfl | ⟨g2, o2, rfl, hg2, hcb⟩
        · simp at hlt2
        have c1 := (hca k hlt).below HB
        have c2 := (hcb k hlt2).below HB
        clear hca hcb
        obtain ⟨p0, p1⟩ := c1
        obtain ⟨q0, q1⟩ := c2
        have i0 : (0 : Int) ≤ (k : Int) := Int.natCast_nonneg _
        have i1 : (k : Int) < (a.length : Int) := by omega
        have i2 : (k : Int) < (b.length : Int) := by omega
        have HC := Lib.hid (fun W => eqSection_calls a[k] b[k] W)
        unfold seV at HC
        have HE : Hid (eqSe a[k] b[k] = decide (a[k] = b[k])) := Lib.hid rfl
        generalize eqSe a[k] b[k] = r at *
        go_wp2_with fail
        go_region_held3 (fun w' => w'.cell? ⟨g, o + k * 2, none⟩ = some (.int .i64 a[k].id) ∧ w'.cell? ⟨g, o + k * 2 + 1, none⟩ = some (.string a[k].body) ∧
          w'.cell? ⟨g2, o2 + k * 2, none⟩ = some (.int .i64 b[k].id) ∧ w'.cell? ⟨g2, o2 + k * 2 + 1, none⟩ = some (.string b[k].body))
          (first | go_keep | (go_split_ands; refine ⟨?_, ?_, ?_, ?_⟩ <;> exact cell_below hb1 (by assumption)))
          ((go_at_call 47; refine (HC.out _).mono ?_; rintro e w1 ⟨rfl, hb1⟩))
        have HB1 : Below w.heap.size w w1 := by first | exact below_then HB hb1 | exact below_then (below_drew HB) hb1 | exact below_then (below_drewN HB _) hb1
        clear hb1
        cases r
        · go_wp2
          go_ret
          exact ⟨ret_bool (by rw [eq_comm, decide_eq_false_iff_not]; exact ne_of_get hlt hlt2 (of_decide_eq_false HE.out.symm)), HB1⟩
        · go_wp2
          go_roundw
          case rel => exact ⟨k + 1, by omega, by go_num, Lib.hid (take_succ_eq hlt hlt2 HT.out (of_decide_eq_true HE.out.symm)), HB1⟩
          case measure => simp [intOf]; omega
      · obtain rfl : k = a.length := by omega
        go_wp2
        go_ret
        refine ⟨ret_bool ?_, HB⟩
        have := HT.out
        rw [List.take_length, HL.out, List.take_length] at this
        rw [eq_comm, decide_eq_true_eq]; exact this
  · have ht1 : ((a.length : Int) != (b.length : Int)) = true := by rw [bne_iff_ne]; omega
    have hn : a ≠ b := fun h => hl (by rw [h])
    have HN := Lib.hid hn
    clear hl hn hra hrb
    go_enter Tryd.func20, Tryd.ntmps20
    go_wp2
    go_ret
    exact ⟨ret_bool (by rw [eq_comm, decide_eq_false_iff_not]; exact HN.out), Below.refl _ _⟩
end Go.Proofs.YteiekdolbnkihaaDoor.L
