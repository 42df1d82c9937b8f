/- The reference: the graph of parts; what is come to without a node. -/
import Derived.Test.YtmcnoeinjocimaaSp2
import Derived.Test.YtmcnoeinjocimaaCv5
import Derived.Test.YtmcnoeinjocimaaRc1
import Derived.Test.YtmcnoeinjocimaaLib8
set_option linter.unusedVariables false
set_option linter.unusedSimpArgs false
namespace Go.Proofs.Ytmcnoeinjocimaa.L
open Go.RowKit
def nxS (l : List Int) : List Int := l.foldl putL []
def graphS (l : List Pt) : List (List Int) := l.map (fun p => nxS p.next)
theorem putL_len_le (l : List Int) (m : List Int) : (l.foldl putL m).length ≤ m.length + l.length := by
  induction l generalizing m with
  | nil => simp
  | cons x t ih => simp only [List.foldl_cons, List.length_cons]; have := ih (putL m x); have := putL_length m x; omega
theorem foldl_take_putL {l : List Int} {k : Nat} (hk : k < l.length) : (l.take (k + 1)).foldl putL [] = putL ((l.take k).foldl putL []) l[k] := by
  rw [List.take_succ_eq_append_getElem hk, List.foldl_append]; rfl
set_option maxHeartbeats 2000000 in
theorem l9Graph_calls {F : Nat → Prop} (s : Sa) (vparts : Value) (w : World) (hs : Rp.Rd part w F vparts s.parts) (hn : s.parts.length ≤ 1048576) (hl : ∀ p ∈ s.parts, p.next.length ≤ 1048576) :
    Calls Try.prog 45 #[saV s vparts] w fun e w' => ∃ v', e = .returned (.agg #[v']) ∧ Ow false 35 (Rp.sl Rp.int) w' (fun k => w.heap.size ≤ k) v' (graphS s.parts) ∧ Below w.heap.size w w' := by
  obtain ⟨A, c, rfl, hlc, hcm, hrow⟩ := rd_part hs
  unfold saV
  have H0 := hs
  go_enter Try.func45, Try.ntmps45
  go_wp2
  obtain ⟨W0, hW0⟩ : ∃ W0, W0 = ((w.alloc (Obj.cells #[Value.slice A s.parts.length c, Value.int IntKind.i64 s.values] 29)).alloc (Obj.cells #[Value.slice none 0 0] 57)).alloc (Obj.cells #[Value.slice none 0 0] 57) := ⟨_, rfl⟩
  have hB0 : Below w.heap.size w W0 := by rw [hW0]; exact ((below_new _).alloc (by simp) _).alloc (by simp; omega) _
  have k1 : W0.heap[w.heap.size + 1]? = some (.cells #[.slice none 0 0] 57 (0, 0)) := by rw [hW0]; exact blk_alloc (heap_alloc2_new w _ _) _
  have k2 : W0.heap[w.heap.size + 1 + 1]? = some (.cells #[.slice none 0 0] 57 (0, 0)) := by
    rw [hW0]
    have := heap_alloc_new ((w.alloc (Obj.cells #[Value.slice A s.parts.length c, Value.int IntKind.i64 s.values] 29)).alloc (Obj.cells #[Value.slice none 0 0] 57)) (Obj.cells #[Value.slice none 0 0] 57)
    simpa using this
  rw [← hW0]
  clear hW0
  go_loopw [12] (fun i wr => ∃ (k : Nat) (v : Value), k ≤ s.parts.length ∧ i = .int .i64 k ∧ wr.heap[w.heap.size + 1]? = some (.cells #[.slice none 0 0] 57 (0, 0)) ∧ wr.heap[w.heap.size + 1 + 1]? = some (.cells #[v] 57 (0, 0)) ∧ Ow false 35 (Rp.sl Rp.int) wr (fun q => w.heap.size + 1 + 1 < q) v (graphS (s.parts.take k)) ∧ Below w.heap.size w wr) (fun i _ => s.parts.length - (intOf i).toNat)
  case atStart => exact ⟨0, _, Nat.zero_le _, rfl, k1, k2, Ow.nil _ _ _ _ _, hB0⟩
  case round =>
    obtain ⟨k, v, hk, rfl, k1, k2, HO, HB⟩ := hrel
    rename World => wo
    by_cases hlt : k < s.parts.length
    · rcases hrow with hnil | ⟨b, o, rfl, hb, hcell⟩
      · rw [hnil] at hlt; simp at hlt
      obtain ⟨_, _, _, _, hp, ⟨A1, c1, rfl, _⟩, ⟨A2, c2, rfl, _⟩, hx, ⟨A3, c3, rfl, _⟩⟩ := hcell k hlt
      have hp := partAt_below hp HB
      have hx := hx.below HB
      have hnl := hl _ (List.getElem_mem hlt)
      have HG : Hid (graphS (s.parts.take (k + 1)) = graphS (s.parts.take k) ++ [nxS s.parts[k].next]) := Lib.hid (by unfold graphS; rw [List.take_succ_eq_append_getElem hlt, List.map_append]; rfl)
      have hgl : (graphS (s.parts.take k)).length ≤ k := by unfold graphS; rw [List.length_map, List.length_take]; omega
      clear hcell
      generalize s.parts[k] = p at *
      obtain ⟨A4, c4, rfl, _, _, hrn⟩ := rd_int hx
      obtain ⟨q0, q1, q2, q3, q4, q5⟩ := hp
      have i0 : (0 : Int) ≤ (k : Int) := Int.natCast_nonneg _
      have i1 : (k : Int) < (s.parts.length : Int) := by omega
      go_wp2
      obtain ⟨W1, hW1⟩ : ∃ W1, W1 = wo.alloc (Obj.cells #[Value.slice A1 p.params.length c1, Value.slice A2 p.code.length c2, Value.int .i64 p.go, Value.int .i64 p.test, Value.slice A4 p.next.length c4, Value.slice A3 p.args.length c3] 54) := ⟨_, rfl⟩
      have hb1 : Below wo.heap.size wo W1 := by rw [hW1]; exact below_new _
      have hs1 : wo.heap.size < W1.heap.size := by rw [hW1]; simp
      rw [← hW1]
      have k1' := blk_below k1 hb1
      have k2' := blk_below k2 hb1
      have HO1 := HO.bound.below hb1
      have HB1 := below_then HB hb1
      clear hW1 q0 q1 q2 q3 q4 q5
      replace hx := hx.below hb1
      go_loopw [6, 19] (fun v6 i wi => ∃ j : Nat, j ≤ p.next.length ∧ i = .int .i64 j ∧ Rp.Rd Rp.int wi (fun q => wo.heap.size < q) v6 ((p.next.take j).foldl putL []) ∧ Below W1.heap.size W1 wi) (fun _ i _ => p.next.length - (intOf i).toNat)
      case atStart => exact ⟨0, Nat.zero_le _, rfl, Rp.Rd.nil _ _ _, Below.refl _ _⟩
      case round =>
        obtain ⟨j, hj, rfl, HR, HBi⟩ := hrel
        by_cases hjt : j < p.next.length
        · rcases rd_int hx with ⟨_, _, hq, _, _, hnil | ⟨b2, o2, rfl, hb2, hcell2⟩⟩
          · rw [hnil] at hjt; simp at hjt
          cases hq
          have c1 := cell_below HBi (hcell2 j hjt)
          have HL := Lib.hid (foldl_take_putL hjt)
          have hlen := putL_len_le (p.next.take j) []
          rw [List.length_take, Nat.min_eq_left hj, List.length_nil, Nat.zero_add] at hlen
          have HC := Lib.hid (l1Put_calls _ _ p.next[j] wr HR (by omega))
          have hz1 := HBi.size
          clear hcell2
          generalize (p.next.take j).foldl putL [] = l6 at *
          generalize p.next[j] = x at *
          obtain ⟨A6, c6, rfl, _⟩ := HR
          go_wp2_with (go_at_call 73; refine HC.out.mono ?_; rintro e w2 ⟨v2, rfl, HR2, hb2'⟩)
          go_roundw
          case rel => exact ⟨j + 1, by omega, by go_num, by rw [HL.out]; exact HR2.mono (fun q hq => hq.elim id (fun h => by omega)), below_then HBi hb2'⟩
          case measure => simp [intOf]; omega
        · obtain rfl : j = p.next.length := by omega
          rw [List.take_length] at HR
          have g1 := blk_below k1' HBi
          have g2 := blk_below k2' HBi
          have HO2 := HO1.below HBi
          have HB2 := below_then HB1 HBi
          obtain ⟨x2, f2⟩ := cell_of_block g2
          have x20 := x2 0
          have f20 := f2 0
          simp at x20
          obtain ⟨Av, cv, rfl, hcv, hcv2⟩ := HO2.form
          obtain ⟨m6, hm6⟩ : ∃ m6, m6 = nxS p.next := ⟨_, rfl⟩
          replace HG := HG.out
          rw [← hm6] at HG
          replace HG := Lib.hid HG
          change Rp.Rd _ _ _ _ (nxS p.next) at HR
          rw [← hm6] at HR
          clear hm6
          have hHR := HR
          obtain ⟨A6, c6, rfl, _⟩ := HR
          have z2 := blk_lt k2
          have z3 := blk_lt g2
          go_wp2_with (at_builtin; (refine ow_append1 (r := Rp.sl Rp.int) (e := 35) (by rfl) _ _ 41 (.slice none 0 0) 24 (by rfl) Try.underlying41 infoInts rfl (by decide) (by omega) _ (graphS (s.parts.take k)) m6 [.slice A6 m6.length c6] (by rfl) (by rfl) HO2 ⟨_, rfl, hHR⟩ (fun q hq h => by have := h.2; omega) (by omega) ?_; intro v1 w1 HO3 hg1; obtain ⟨Bv, dv, rfl, _, _⟩ := HO3.form1; have g1' := grown_blk hg1 g1 (own_ne HO2 (fun h => by have := h.1; omega)); have g2' := grown_blk hg1 g2 (own_ne HO2 (fun h => by have := h.1; omega)); have HB3 := below_grown HB2 hg1 (fun q hq => by have := (own_in HO2 (.inr hq)).1; omega) HB2.size; obtain ⟨x3, f3⟩ := cell_of_block g2'; have f30 := f3 0; have HO4 := HO3.mono (G := fun q => w.heap.size + 1 + 1 < q) (fun q hq => by rcases hq with hq | hq | hq <;> omega)))
          go_roundw
          case rel => exact ⟨k + 1, _, by omega, by go_num, blk_set g1' (by simp) _, by have := blk_put g2' 0 (.slice Bv ((graphS (s.parts.take k)).length + 1) dv); simpa using this, by rw [HG.out]; exact HO4.set_other (by omega), HB3.setCell (by simp; omega) _⟩
          case measure => simp [intOf]; omega
    · obtain rfl : k = s.parts.length := by omega
      rw [List.take_length] at HO
      obtain ⟨x2, f2⟩ := cell_of_block k2
      obtain ⟨x3, f3⟩ := cell_of_block k1
      have x20 := x2 0
      have x30 := x3 0
      have f30 := f3 0
      simp at x20 x30
      obtain ⟨Av, cv, rfl, hcv, hcv2⟩ := HO.form
      clear hrow
      have z2 := blk_lt k2
      have hpp := blk_put k1 0 (.slice Av (graphS s.parts).length cv)
      simp at hpp
      go_wp2
      obtain ⟨x4, f4⟩ := cell_of_block hpp
      have x40 := x4 0
      simp at x40
      exact bodyPost_ret (v := .agg #[.slice Av (graphS s.parts).length cv]) (by simp [results, Try.results45, go_sem, x40]) rfl ⟨_, rfl, (HO.set_other (by omega)).mono (fun q hq => by omega), HB.setCell (by simp) _⟩
end Go.Proofs.Ytmcnoeinjocimaa.L
