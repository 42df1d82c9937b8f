/- The laws' markSectionS, with what it leaves as it was. -/
import Derived.Test.YteiekdolbnkihaaDoorMt1
set_option linter.unusedVariables false
set_option linter.unusedSimpArgs false
namespace Go.Proofs.YteiekdolbnkihaaDoor.L
open Go.RowKit
set_option maxRecDepth 100000 in
set_option maxHeartbeats 4000000 in
theorem markSectionF_calls {F : Nat → Prop} (g n c : Nat) (l : List Se) (w : World) (B : Nat) (w0 : World) (HO : Ow true 27 sect w F (.slice (some ⟨g, 0, none⟩) n c) l) (hl : l.length ≤ 1048576) (hB : B ≤ g) (HB : Below B w0 w) :
    Calls Tryd.prog 27 #[.slice (some ⟨g, 0, none⟩) n c, .int .i64 1] w fun e w' => e = .returned (.int .i64 (1 + 2 * l.length : Nat)) ∧ Ow true 27 sect w' F (.slice (some ⟨g, 0, none⟩) n c) (marks 1 l.length) ∧ Below B w0 w' ∧ (∀ k, k < w.heap.size → k ≠ g → w'.heap[k]? = w.heap[k]?) ∧ w.heap.size ≤ w'.heap.size := by
  obtain rfl := HO.len_eq
  go_enter Tryd.func27, Tryd.ntmps27
  go_wp2
  go_loopw [1, 5] (fun k i wr => ∃ q : Nat, q ≤ l.length ∧ k = .int .i64 (1 + 2 * q : Nat) ∧ i = .int .i64 q ∧ Ow true 27 sect wr F (.slice (some ⟨g, 0, none⟩) l.length c) (marks 1 q ++ l.drop q) ∧ Below B w0 wr ∧ Hid ((∀ k, k < w.heap.size → k ≠ g → wr.heap[k]? = w.heap[k]?) ∧ w.heap.size ≤ wr.heap.size)) (fun _ i _ => l.length - (intOf i).toNat)
  case atStart => exact ⟨0, Nat.zero_le _, rfl, rfl, by simpa [marks] using HO, HB, Lib.hid ⟨fun _ _ _ => rfl, Nat.le_refl _⟩⟩
  case round =>
    obtain ⟨q, hq, rfl, rfl, HOr, HBr, HFr⟩ := hrel
    by_cases hlt : q < l.length
    · have hlen : (marks 1 q ++ l.drop q).length = l.length := by simp [marks_len]; omega
      have hqlt : q < (marks 1 q ++ l.drop q).length := by omega
      obtain ⟨⟨c0, c1⟩, f0⟩ := HOr.sect_at hqlt
      have f1 := f0 (q * 2)
      have HO1 := HOr.set_id hqlt (1 + 2 * (q : Int))
      have HB1 := HBr.setCell (p := ⟨g, q * 2, none⟩) hB (.int .i64 (1 + 2 * (q : Int)))
      have i0 : (0 : Int) ≤ (q : Int) := Int.natCast_nonneg _
      have i1 : (q : Int) < (l.length : Int) := by omega
      clear c1 f0
      go_wp2_with fail
      have HF1 : Hid ((∀ k, k < w.heap.size → k ≠ g → (wr.setCell ⟨g, q * 2, none⟩ (.int .i64 (1 + 2 * (q : Int)))).heap[k]? = w.heap[k]?) ∧ w.heap.size ≤ (wr.setCell ⟨g, q * 2, none⟩ (.int .i64 (1 + 2 * (q : Int)))).heap.size) :=
        Lib.hid ⟨fun k hk hne => (heap_setCell_other wr ⟨g, q * 2, none⟩ k _ hne).trans (HFr.out.1 k hk hne), by simpa using HFr.out.2⟩
      generalize wr.setCell ⟨g, q * 2, none⟩ (.int .i64 (1 + 2 * (q : Int))) = W1 at HO1 HB1 HF1 ⊢
      rw [show (1 + 2 * (q : Int) + 1) = ((1 + 2 * q + 1 : Nat) : Int) by omega]
      refine (markText_calls (1 + 2 * q + 1) W1 (by omega)).mono ?_
      rintro e w1 ⟨rfl, hb1⟩
      have HO2 := HO1.below hb1
      have HF2 : Hid ((∀ k, k < w.heap.size → k ≠ g → w1.heap[k]? = w.heap[k]?) ∧ w.heap.size ≤ w1.heap.size) :=
        Lib.hid ⟨fun k hk hne => (hb1.block k (Nat.lt_of_lt_of_le hk HF1.out.2)).trans (HF1.out.1 k hk hne), Nat.le_trans HF1.out.2 hb1.size⟩
      have HB2 : Below B w0 w1 := HB1.trans (hb1.mono (Nat.le_of_lt (Nat.lt_of_le_of_lt hB (World.block_lt_of_cell? _ _ (HO1.sect_at (k := q) (by rw [List.length_set]; exact hqlt)).1.1))))
      have hq1 : q < ((marks 1 q ++ l.drop q).set q ⟨1 + 2 * (q : Int), (marks 1 q ++ l.drop q)[q].body⟩).length := by rw [List.length_set]; exact hqlt
      obtain ⟨⟨c0, c1⟩, f0⟩ := HO2.sect_at hq1
      have f2 := f0 (q * 2 + 1)
      have HO3 := HO2.set_body hq1 (mt (1 + 2 * q + 1))
      clear f0
      go_wp2
      go_roundw
      case rel =>
        refine ⟨q + 1, by omega, by go_num, by go_num, ?_, HB2.setCell (p := ⟨g, q * 2 + 1, none⟩) hB _, Lib.hid ⟨fun k hk hne => (heap_setCell_other w1 ⟨g, q * 2 + 1, none⟩ k _ hne).trans (HF2.out.1 k hk hne), by simpa using HF2.out.2⟩⟩
        have hml := marks_len q 1
        have e1 : ((marks 1 q ++ l.drop q).set q ⟨1 + 2 * (q : Int), (marks 1 q ++ l.drop q)[q].body⟩).set q ⟨((marks 1 q ++ l.drop q).set q ⟨1 + 2 * (q : Int), (marks 1 q ++ l.drop q)[q].body⟩)[q].id, mt (1 + 2 * q + 1)⟩ = marks 1 (q + 1) ++ l.drop (q + 1) := by
          rw [List.set_set, List.getElem_set_self, set_mid hml (by simp; omega), marks_snoc, List.drop_drop, show q + 1 = 1 + q by omega]
          congr 4
          try omega
        rw [← e1]
        exact HO3
      case measure => simp [intOf]; omega
    · obtain rfl : q = l.length := by omega
      go_wp2
      go_ret
      exact ⟨rfl, by simpa using HOr, HBr, HFr.out.1, HFr.out.2⟩
end Go.Proofs.YteiekdolbnkihaaDoor.L
