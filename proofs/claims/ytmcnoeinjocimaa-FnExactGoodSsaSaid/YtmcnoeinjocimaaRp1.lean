/- slices.Repeat of one number. -/
import Derived.Test.YtmcnoeinjocimaaLib10
import Derived.Ground.NamesProg
import Derived.WalkKit
import Derived.WalkMore
import Derived.Below
import Derived.Shelf.Bits.Mul64
import Derived.Shelf.Spec.SlicesInsertGrow
import Derived.Laws.IdiomCopy
set_option linter.unusedVariables false
set_option linter.unusedSimpArgs false
namespace Go.Proofs
open Go.RowKit Go.Shelf Go.Lib
def Try.laysMul_ren : Go.Shelf.Ren := ⟨fun | 212 => 114 | 263 => 127 | 264 => 128 | n => n, fun | 46 => 130 | 51 => 144 | 146 => 145 | 53 => 147 | 148 => 148 | n => n, fun | n => n⟩
theorem Try.laysMul : Go.Proofs.Lays.n212 Try.prog Try.laysMul_ren := {
  mixed := by kernel_rfl
  f212 := Try.func114.trans (congrArg some (by kernel_rfl))
  f263 := Try.func127.trans (congrArg some (by kernel_rfl))
  f264 := Try.func128.trans (congrArg some (by kernel_rfl))
  t46 := Try.underlying130
  a46 := Try.isAgg130
  z46 := Try.sizeOf130
  v46 := Try.zeroValue130
  t51 := Try.underlying144
  a51 := Try.isAgg144
  z51 := Try.sizeOf144
  v51 := Try.zeroValue144
  t53 := Try.underlying147
  a53 := Try.isAgg147
  z53 := Try.sizeOf147
  v53 := Try.zeroValue147
  t146 := Try.underlying145
  a146 := Try.isAgg145
  z146 := Try.sizeOf145
  v146 := Try.zeroValue145
  t148 := Try.underlying148
  a148 := Try.isAgg148
  z148 := Try.sizeOf148
  v148 := Try.zeroValue148 }
namespace Ytmcnoeinjocimaa.L
theorem setCells_heap1 (g : Nat) (T : Nat) : ∀ (vs : List Value) (o : Nat) (w : World) (cur : Array Value), w.heap[g]? = some (.cells cur T (0, 0)) → o + vs.length ≤ cur.size →
    ∃ cur', (w.setCells g o vs).heap[g]? = some (.cells cur' T (0, 0)) ∧ cur'.size = cur.size ∧ cur'.toList = cur.toList.take o ++ (vs ++ cur.toList.drop (o + vs.length)) ∧ ∀ k, k ≠ g → (w.setCells g o vs).heap[k]? = w.heap[k]?
  | [], o, w, cur, h, hl => ⟨cur, h, rfl, by simp, fun _ _ => rfl⟩
  | v :: r, o, w, cur, h, hl => by
    simp only [List.length_cons] at hl
    obtain ⟨cur', h1, h2, h3, h4⟩ := setCells_heap1 g T r (o + 1) (w.setCell ⟨g, o, none⟩ v) (cur.setIfInBounds o v) (heap_setCell_same w g o cur T v h) (by simp; omega)
    refine ⟨cur', h1, by rw [h2]; simp, ?_, fun k hk => (h4 k hk).trans (heap_setCell_other w ⟨g, o, none⟩ k v hk)⟩
    have hlen : cur.toList.length = cur.size := Array.length_toList
    rw [h3, Array.toList_setIfInBounds, List.take_add_one, List.getElem?_set, if_pos rfl, if_pos (by omega), List.take_set_of_le (Nat.le_refl o), List.drop_set_of_lt (by omega)]
    simp [show o + 1 + r.length = o + (r.length + 1) by omega]

theorem setCells_putRow1 (g : Nat) : ∀ (vs : List Value) (o : Nat) (w : World), w.setCells g o vs = putRow w g o vs
  | [], _, _ => rfl
  | v :: r, o, w => by rw [World.setCells, putRow, setCells_putRow1 g r]
theorem mul_calls (n : Nat) (hn : n ≤ 250) (w : World) : Calls Try.prog 114 #[.int .u64 1, .int .u64 n] w fun e w' => e = .returned (.tuple #[.int .u64 0, .int .u64 n]) ∧ w' = w := by
  have h : Calls Try.prog 114 #[.int .u64 (1 : Nat), .int .u64 n] w _ := Any.bits_Mul Try.laysMul 1 n (by omega) (by omega) w
  refine h.mono ?_
  rintro e w' ⟨rfl, rfl⟩
  refine ⟨?_, rfl⟩
  rw [Nat.one_mul, Nat.div_eq_of_lt (by omega), Nat.mod_eq_of_lt (by omega)]
  rfl
theorem ow_of_ints {w : World} {g : Nat} {cur : Array Value} {l : List Int} (h : w.heap[g]? = some (.cells cur 3 (0, 0))) (hc : cur.toList = l.map (Value.int .i64)) (hl : l.length ≤ 1000000000) : Ow true 3 Rp.int w (fun q => q = g) (.slice (some ⟨g, 0, none⟩) l.length l.length) l := by
  have hsz : cur.size = l.length := by rw [← Array.length_toList, hc, List.length_map]
  refine ⟨fun _ _ => False, l.map (Value.int .i64), ⟨by rw [List.length_map]; show _ = _ * 1; omega, .inr ⟨g, l.length, cur, rfl, Nat.zero_le _, h, Nat.le_refl _, by unfold maxLen; omega, by show _ = _ * 1; omega, by rw [hc]; apply List.take_of_length_le; rw [List.length_map]; show _ ≤ _ * 1; omega⟩⟩, fun k hk => by simpa [Value.ownBlock] using hk.symm, fun _ _ h => h.elim, fun _ _ _ _ h => h.elim, fun i x hx => ?_⟩
  show _ = [Value.int .i64 x]
  have h1 : Rp.int.sz = 1 := rfl
  rw [h1, Nat.mul_one]
  obtain ⟨hi, rfl⟩ := List.getElem?_eq_some_iff.1 hx
  rw [← List.map_drop, List.drop_eq_getElem_cons hi]; rfl
set_option maxRecDepth 100000 in
set_option maxHeartbeats 2000000 in
theorem repeat_calls (x : Int) (gx N : Nat) (w : World) (hx : w.cell? ⟨gx, 0, none⟩ = some (.int .i64 x)) (hN : 1 ≤ N) (hN2 : N ≤ 250) :
    Calls Try.prog 79 #[.slice (some ⟨gx, 0, none⟩) 1 1, .int .i64 N] w fun e w' => ∃ v', e = .returned v' ∧ Ow true 3 Rp.int w' (fun q => w.heap.size ≤ q) v' (List.replicate N x) ∧ Below w.heap.size w w' := by
  have hmk := mk_all Try.underlying35 infoInt N (by omega) (by omega)
  have HM := Lib.hid (fun W => mul_calls N hN2 W)
  have i0 : (0 : Int) ≤ (N : Int) := Int.natCast_nonneg _
  have hs1 : (Try.prog.info? 3).map (·.size) = some 1 := by kernel_rfl
  have hB0 := below_new (w := w) (.cells (madeCells #[.int .i64 0] N) 3)
  have hh0 := heap_alloc_new w (.cells (madeCells #[.int .i64 0] N) 3)
  have hcx := cell_below hB0 hx
  have hml : (madeCells #[Value.int .i64 0] N).toList = List.replicate N (Value.int .i64 0) := toList_madeCells_one _ _
  have hmz : (madeCells #[Value.int .i64 0] N).size = N := size_madeCells _ _
  have hC0 := cell_of_block hh0
  have hcp1 := fun ty => run_copy_cells (P := Try.prog) (w.alloc (.cells (madeCells #[.int .i64 0] N) 3)) 35 35 ty 3 w.heap.size 0 N N ⟨gx, 0, none⟩ 1 1 [.int .i64 x] Try.underlying35 hs1 (by show 1 = Nat.min 1 N; exact (Nat.min_eq_left hN).symm)
    (fun j v hj => by
      have hj0 : j = 0 := by have := (List.getElem?_eq_some_iff.1 hj).1; simpa using this
      subst hj0
      cases hj
      simpa [Addr.add] using hcx) (fun j hj => by rw [hC0.1, Array.getElem?_eq_getElem (by rw [hmz]; simp at hj; omega)]; rfl) (fun j hj => hC0.2 _) (fun v hv => by rw [List.mem_singleton.1 hv]; rfl)
  have hst := setCells_heap1 w.heap.size 3 [.int .i64 x] 0 _ _ hh0 (by rw [hmz]; simpa using hN)
  obtain ⟨cur1, k1, k2, k3, k4⟩ := hst
  rw [hml] at k3
  have k3' : cur1.toList = List.replicate 1 (.int .i64 x) ++ List.replicate (N - 1) (.int .i64 0) := by
    rw [k3]; simp
  have hB1 : Below w.heap.size w ((w.alloc (.cells (madeCells #[.int .i64 0] N) 3)).setCells w.heap.size 0 [.int .i64 x]) := by
    refine ⟨hB0.os, hB0.tape, hB0.output, ?_, fun q hq => ?_⟩
    · show w.heap.size ≤ ((w.alloc _).setCell _ _).heap.size; simp
    · rw [k4 q (by omega)]; exact hB0.block q hq
  clear hcx hml hC0 k2 k3 hh0 hmz
  go_enter Try.func79, Try.ntmps79
  go_wp2_with fail
  refine (HM.out _).mono ?_
  rintro e w1 ⟨rfl, rfl⟩
  go_wp2_with (at_builtin; refine wpList_copy_runI _ rfl _ _ 35 35 rfl _ _ rfl rfl (hcp1 _) ?_)
  generalize (w1.alloc (.cells (madeCells #[.int .i64 0] N) 3)).setCells w1.heap.size 0 [.int .i64 x] = W1 at *
  have mixed : Try.prog.follows Departure.mixedOrders = true := by kernel_rfl
  clear hcp1 k4 hB0
  have K3 := Lib.hid k3'
  clear k3'
  go_loopw [8] (fun i wr => ∃ (m : Nat) (cur : Array Value), 1 ≤ m ∧ m ≤ N ∧ i = .int .i64 m ∧ wr.heap[w1.heap.size]? = some (.cells cur 3 (0, 0)) ∧ Hid (cur.toList = List.replicate m (.int .i64 x) ++ List.replicate (N - m) (.int .i64 0)) ∧ Below w1.heap.size w1 wr) (fun i _ => N - (RowKit.intOf i).toNat)
  case atStart => exact ⟨1, cur1, Nat.le_refl _, hN, rfl, k1, K3, hB1⟩
  case round =>
    clear hB1 k1 K3
    obtain ⟨m, cur, hm1, hmN, rfl, k1, K3, HB⟩ := hrel
    by_cases hlt : m < N
    · obtain ⟨c, hc1, hc2, hc3, hc4⟩ : ∃ c : Nat, Hid (c = Nat.min m (N - m)) ∧ c ≤ m ∧ c ≤ N - m ∧ 1 ≤ c := ⟨Nat.min m (N - m), Lib.hid rfl, Nat.min_le_left _ _, Nat.min_le_right _ _, Nat.le_min.2 ⟨hm1, by omega⟩⟩
      have hsz : cur.size = N := by rw [← Array.length_toList, K3.out, List.length_append, List.length_replicate, List.length_replicate]; omega
      have hC := cell_of_block (w := wr.drew) k1
      have hget : ∀ q, q < m → cur[q]? = some (.int .i64 x) := fun q hq => by
        rw [← Array.getElem?_toList, K3.out, List.getElem?_append_left (by rw [List.length_replicate]; exact hq), List.getElem?_replicate, if_pos hq]
      have hcp := fun ty => run_copy_cells (P := Try.prog) wr.drew 35 35 ty 3 w1.heap.size m (N - m) (N - m) ⟨w1.heap.size, 0, none⟩ m N (List.replicate c (.int .i64 x)) Try.underlying35 hs1 (by rw [List.length_replicate, hc1.out])
        (fun j v hj => by
          rw [List.getElem?_replicate] at hj
          split at hj
          · cases hj
            rw [show (⟨w1.heap.size, 0, none⟩ : Addr).add j = ⟨w1.heap.size, j, none⟩ by unfold Addr.add; split <;> simp_all, hC.1]
            exact hget j (by omega)
          · cases hj) (fun j hj => by rw [List.length_replicate] at hj; rw [hC.1, Array.getElem?_eq_getElem (by omega)]; rfl) (fun j hj => hC.2 _) (fun v hv => by rw [(List.mem_replicate.1 hv).2]; rfl)
      rw [List.length_replicate] at hcp
      obtain ⟨cur2, p1, p2, p3, p4⟩ := setCells_heap1 w1.heap.size 3 (List.replicate c (.int .i64 x)) m wr.drew cur k1 (by rw [List.length_replicate]; omega)
      have P3 : Hid (cur2.toList = List.replicate (m + c) (.int .i64 x) ++ List.replicate (N - (m + c)) (.int .i64 0)) := Lib.hid (by
        rw [p3, K3.out, List.length_replicate, List.take_append_of_le_length (by rw [List.length_replicate]; exact Nat.le_refl _), List.take_of_length_le (by rw [List.length_replicate]; exact Nat.le_refl _), List.drop_append, List.length_replicate, List.drop_replicate, List.drop_replicate, ← List.append_assoc, ← List.append_assoc, List.replicate_append_replicate, List.replicate_append_replicate, show m + c + (m - (m + c)) = m + c by omega, show N - m - (m + c - m) = N - (m + c) by omega])
      have hB2 : Below w1.heap.size w1 (wr.drew.setCells w1.heap.size m (List.replicate c (.int .i64 x))) := by
        have hz := HB.size
        rw [setCells_putRow1]
        exact putRow_below (below_drew HB) (Nat.le_refl _) _ _
      have j0 : (0 : Int) ≤ (m : Int) := Int.natCast_nonneg _
      have j1 : (m : Int) ≤ (N : Int) := by omega
      have j2 : (m : Int) < (N : Int) := by omega
      have j3 : m < N := hlt
      have j4 : m ≤ N := hmN
      have jw : IntKind.i64.wrap ((m : Int) + (c : Int)) = (m : Int) + (c : Int) := IntWalk.i64_in _ (by omega)
      have jN : ¬ (N = m) := by omega
      clear hget hC k1 p2 p3 p4 hsz
      go_wp2
      go_region_law_o (refine step_copy_runI rfl _ _ 35 35 rfl (.slice (some ⟨w1.heap.size, m, none⟩) (N - m) (N - m)) (.slice (some ⟨w1.heap.size, 0, none⟩) m N) (by simp [Act.eval, Act.put]) (by simp [Act.eval, Act.put]) (hcp _) ?_)
      go_simp
      go_wp2
      go_roundw
      case rel => exact ⟨m + c, cur2, by omega, by omega, by go_num, p1, P3, hB2⟩
      case measure => simp [RowKit.intOf]; omega
    · obtain rfl : m = N := by omega
      have HF : Ow true 3 Rp.int wr (fun q => w1.heap.size ≤ q) (.slice (some ⟨w1.heap.size, 0, none⟩) m m) (List.replicate m x) := by
        have h1 := K3.out
        rw [Nat.sub_self, List.replicate_zero, List.append_nil] at h1
        have h2 := ow_of_ints k1 (l := List.replicate m x) (by rw [h1, List.map_replicate]) (by rw [List.length_replicate]; omega)
        rw [List.length_replicate] at h2
        exact h2.mono (fun q hq => by have hq : q = _ := hq; omega)
      clear K3 k1
      go_wp2
      go_ret
      exact ⟨_, rfl, HF, HB⟩
end Ytmcnoeinjocimaa.L
end Go.Proofs
