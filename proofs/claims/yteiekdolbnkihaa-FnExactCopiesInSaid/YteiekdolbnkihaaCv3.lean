/- The laws' own copies of flows. -/
import Derived.Test.YteiekdolbnkihaaCv2
import Derived.Test.YteiekdolbnkihaaTy2
set_option linter.unusedVariables false
namespace Go.Proofs.Yteiekdolbnkihaa.L
open Go.RowKit
theorem infoBlock : (Try.prog.info? 63).map (fun i => (i.zero, i.size, i.bytes)) = some (some (.agg #[.slice none 0 0, .int .i64 0, .int .i64 0, .slice none 0 0]), 4, 64) := by kernel_rfl
theorem boxed3 {w w1 : World} {o1 o2 o3 : Obj} (hb : Below (((w.alloc o1).alloc o2).alloc o3).heap.size (((w.alloc o1).alloc o2).alloc o3) w1) :
   w1.heap[w.heap.size]? = some o1 ∧ w1.heap[w.heap.size + 1]? = some o2 ∧ w1.heap[w.heap.size + 2]? = some o3 ∧ w.heap.size < w1.heap.size ∧ w.heap.size + 1 < w1.heap.size ∧ w.heap.size + 2 < w1.heap.size ∧ Below w.heap.size w w1 := by
  have hz : w.heap.size + 1 + 1 + 1 ≤ w1.heap.size := by simpa using hb.size
  refine ⟨?_, ?_, ?_, by omega, by omega, by omega, ((((Below.refl _ _).alloc (Nat.le_refl _) _).alloc (by simp) _).alloc (by simp; omega) _).trans (hb.mono (by simp; omega))⟩
  · rw [hb.block _ (by simp only [World.size_alloc]; omega)]; exact blk_alloc (heap_alloc2_old w o1 o2) o3
  · rw [hb.block _ (by simp only [World.size_alloc]; omega)]; exact blk_alloc (heap_alloc2_new w o1 o2) o3
  · rw [hb.block _ (by simp only [World.size_alloc]; omega)]
    have := heap_alloc2_new (w.alloc o1) o2 o3
    rwa [World.size_alloc] at this
set_option maxHeartbeats 1000000 in
theorem toBlock_calls {F : Nat → Prop} (x : Bk) (vc vn : Value) (w : World) (hc : Rp.Rd flat w F vc x.code) (hn : Rp.Rd Rp.int w F vn x.next) (hl : x.code.length ≤ 1048576) (hl2 : x.next.length ≤ 1048576) :
    Calls Try.prog 38 #[bkV vc x vn] w fun e w' => ∃ vc' vn', e = .returned (bkV vc' x vn') ∧ blockA.K w' (fun k => w.heap.size ≤ k) x [vc', .int .i64 x.go, .int .i64 x.test, vn'] ∧ Below w.heap.size w w' := by
  unfold bkV
  go_enter Try.func38, Try.ntmps38
  go_wp2_with fail
  refine (toFlatS_calls vc x.code _ (hc.below (((below_new _).alloc (by simp) _).alloc (by simp; omega) _)) hl).mono ?_
  rintro e w1 ⟨v1, rfl, HO1, hb⟩
  obtain ⟨b1, b2, b3, z1, z2, z3, HB⟩ := boxed3 hb
  obtain ⟨c1, f1⟩ := cell_of_block b1; obtain ⟨c2, f2⟩ := cell_of_block b2; obtain ⟨c3, f3⟩ := cell_of_block b3
  have hn1 := hn.below HB
  obtain ⟨A1, k1, rfl, _, _⟩ := HO1.form
  go_wp2_with fail
  have HB2 := putRow_below HB (g := w.heap.size + 2) (by omega) [.slice A1 x.code.length k1, .int .i64 x.go, .int .i64 x.test] 0
  have HO2 := HO1.move (w' := putRow w1 (w.heap.size + 2) 0 [.slice A1 x.code.length k1, .int .i64 x.go, .int .i64 x.test]) (fun k hk _ => (putRow_same _ _ w1 0).2 k (by simp only [World.size_alloc] at hk; omega))
  have d3 := blk_put (blk_put (blk_put b3 0 (.slice A1 x.code.length k1)) 1 (.int .i64 x.go)) 2 (.int .i64 x.test)
  have d2 := blk_set (blk_set (blk_set b2 (a := ⟨w.heap.size + 2, 0, none⟩) (by simp) (.slice A1 x.code.length k1)) (a := ⟨w.heap.size + 2, 1, none⟩) (by simp) (.int .i64 x.go)) (a := ⟨w.heap.size + 2, 2, none⟩) (by simp) (.int .i64 x.test)
  refine (toIntS_calls vn x.next _ (hn.below HB2) hl2).mono ?_
  rintro e w2 ⟨v2, rfl, HP, hb2⟩
  have HB3 := below_then HB2 hb2
  have HO3 := HO2.bound.below hb2
  replace d3 := blk_below d3 hb2
  replace d2 := blk_below d2 hb2
  have zz : w.heap.size + 2 < w2.heap.size := blk_lt d3
  clear c1 f1 c2 f2 c3 f3
  obtain ⟨c3, f3⟩ := cell_of_block d3
  obtain ⟨c2, f2⟩ := cell_of_block d2
  obtain ⟨A2, k2, rfl, _, _⟩ := HP.form
  have zs := blk_lt b3
  clear hb hb2 HB HB2 HO1 HO2 hn1 hc hn
  go_wp2_with fail
  have hsame : ∀ G : Nat → Prop, (∀ k, G k → w.heap.size + 3 ≤ k) → Same G w2 (putRow (w2.setCell ⟨w.heap.size + 2, 3, none⟩ (.slice A2 x.next.length k2)) (w.heap.size + 1) 0 [.slice A1 x.code.length k1, .int .i64 x.go, .int .i64 x.test, .slice A2 x.next.length k2]) := by
    intro G hG k hk _
    rw [(putRow_same _ _ _ 0).2 k (by have := hG k hk; omega)]
    exact heap_setCell_other w2 ⟨w.heap.size + 2, 3, none⟩ k _ (by have := hG k hk; simp; omega)
  have cF := (cell_of_block (blk_put (blk_put (blk_put (blk_put (blk_set d2 (a := ⟨w.heap.size + 1 + 1, 3, none⟩) (by simp) (.slice A2 x.next.length k2)) 0 (.slice A1 x.code.length k1)) 1 (.int .i64 x.go)) 2 (.int .i64 x.test)) 3 (.slice A2 x.next.length k2))).1
  refine bodyPost_ret (v := .agg #[.slice A1 x.code.length k1, .int .i64 x.go, .int .i64 x.test, .slice A2 x.next.length k2]) (by simp [results, Try.results38, go_sem, cF]) rfl ⟨_, _, rfl, ?_, putRow_below (HB3.setCell (by simp; omega) _) (g := w.heap.size + 1) (by omega) [.slice A1 x.code.length k1, .int .i64 x.go, .int .i64 x.test, .slice A2 x.next.length k2] 0⟩
  have z1 : (putRow w1 (w.heap.size + 2) 0 [.slice A1 x.code.length k1, .int .i64 x.go, .int .i64 x.test]).heap.size = w1.heap.size := (putRow_same _ _ w1 0).1
  have z2 : (((w.alloc (.cells #[vc, .int .i64 x.go, .int .i64 x.test, vn] 60)).alloc (.cells #[.slice none 0 0, .int .i64 0, .int .i64 0, .slice none 0 0] 63)).alloc (.cells #[.slice none 0 0, .int .i64 0, .int .i64 0, .slice none 0 0] 63)).heap.size = w.heap.size + 3 := by simp only [World.size_alloc]
  rw [z1, z2] at HO3
  rw [z1] at HP
  refine blockA_mk (G1 := _) (G2 := _) ?_ ?_ ?_ (HO3.move (hsame _ ?_)) (HP.move (hsame _ ?_))
  all_goals
    intro k hk
    try intro hk2
    omega
def zBk : Bk := ⟨[], 0, 0, []⟩
theorem zBk_mk (w : World) : blockA.K w (fun _ => False) zBk [.slice none 0 0, .int .i64 0, .int .i64 0, .slice none 0 0] :=
  blockA_mk (G1 := fun _ => False) (G2 := fun _ => False) (fun _ h => h) (fun _ h => h) (fun _ h _ => h) (Ow.nil _ _ _ _ _) (Ow.nil _ _ _ _ _)
theorem Ow.block_at {e g n c : Nat} {w : World} {F : Nat → Prop} {l : List Bk} (h : Ow true e blockA w F (.slice (some ⟨g, 0, none⟩) n c) l) {k : Nat} (hk : k < l.length) :
    ∃ vc vn, At4 w g (k * 4) vc (.int .i64 l[k].go) (.int .i64 l[k].test) vn ∧ ∀ o, w.frozen? ⟨g, o, none⟩ = false := by
  obtain ⟨g', c', cs, he, _, _, hK, hc, hf⟩ := h.at_ (List.getElem?_eq_getElem hk)
  injection he with he _ _
  injection he with he
  injection he with he _
  subst he
  obtain ⟨_, _, _, _, _, vc, vn, rfl, _, _⟩ := blockA_open hK
  exact ⟨vc, vn, at4_of hc, hf⟩
def BkLim (x : Bk) : Prop := x.code.length ≤ 1048576 ∧ x.next.length ≤ 1048576
set_option maxHeartbeats 1000000 in
theorem toBlockS_calls {F : Nat → Prop} (v : Value) (l : List Bk) (w : World) (h : Rp.Rd block w F v l) (hl : l.length ≤ 1048576) (hx : ∀ x ∈ l, BkLim x) :
    Calls Try.prog 19 #[v] w fun e w' => ∃ v', e = .returned v' ∧ Ow true 63 blockA w' (fun k => w.heap.size ≤ k) v' l ∧ Below w.heap.size w w' := by
  obtain ⟨A, c, rfl, hlc, hcm, hrow⟩ := rd_block h
  have hmk := mk_all Try.underlying42 infoBlock l.length (by omega) (by omega)
  go_enter Try.func19, Try.ntmps19
  go_wp2
  have hstart : Ow true 63 blockA (w.alloc (.cells (madeCells #[.slice none 0 0, .int .i64 0, .int .i64 0, .slice none 0 0] (l.length * 4)) 63)) (fun k => w.heap.size ≤ k) (.slice (some ⟨w.heap.size, 0, none⟩) l.length l.length) (List.replicate l.length zBk) :=
    (ow_alloc (r := blockA) w (by omega) rfl (by decide) zBk_mk).mono (fun k hk => by omega)
  go_loopw [4] (fun i wr => ∃ k : Nat, k ≤ l.length ∧ i = .int .i64 k ∧ Ow true 63 blockA wr (fun k => w.heap.size ≤ k) (.slice (some ⟨w.heap.size, 0, none⟩) l.length l.length) (l.take k ++ List.replicate (l.length - k) zBk) ∧ Below w.heap.size w wr) (fun i _ => l.length - (intOf i).toNat)
  case atStart =>
    exact ⟨0, Nat.zero_le _, rfl, by simpa using hstart, below_new _⟩
  case round =>
    obtain ⟨k, hk, rfl, HO, HB⟩ := hrel
    by_cases hlt : k < l.length
    · rcases hrow with rfl | ⟨b, o, rfl, hb, hcell⟩
      · simp at hlt
      obtain ⟨vc, vn, c1, hc, hn⟩ := hcell k hlt
      replace c1 := c1.below HB
      replace hc := hc.below HB
      replace hn := hn.below HB
      clear hcell hstart
      obtain ⟨q0, q1, q2, q3⟩ := c1
      have ⟨A0, k0, hvc, _⟩ := hc
      have ⟨A3, k3, hvn, _⟩ := hn
      subst hvc hvn
      have hy := hx l[k] (List.getElem_mem hlt)
      go_wp2_with fail
      refine (toBlock_calls l[k] _ _ _ hc hn hy.1 hy.2).mono ?_
      rintro e w1 ⟨vc', vn', rfl, HK, hb1⟩
      unfold bkV
      have HO1 := HO.bound.below hb1
      obtain ⟨p0, p1, ⟨r0, r1, r2, r3⟩, f2⟩ := HO1.block_at (k := k) (by simp; omega)
      obtain ⟨_, _, _, _, _, _, _, he, hh1, hh2⟩ := blockA_open HK
      obtain ⟨A1, k1, rfl, _, _⟩ : ∃ A1 k1, vc' = .slice A1 l[k].code.length k1 ∧ True ∧ True := by
        simp only [List.cons.injEq, true_and, and_true] at he
        obtain ⟨rfl, rfl⟩ := he
        obtain ⟨A1, k1, rfl, _⟩ := hh1.form
        exact ⟨A1, k1, rfl, trivial, trivial⟩
      obtain ⟨A2, k2, rfl, _, _⟩ : ∃ A1 k1, vn' = .slice A1 l[k].next.length k1 ∧ True ∧ True := by
        simp only [List.cons.injEq, true_and, and_true] at he
        obtain ⟨_, rfl⟩ := he
        obtain ⟨A1, k1, rfl, _⟩ := hh2.form
        exact ⟨A1, k1, rfl, trivial, trivial⟩
      clear he hh1 hh2
      go_wp2_with fail
      go_roundw
      case rel =>
        refine ⟨k + 1, by omega, by go_num, ?_, putRow_below (g := w.heap.size) (below_then HB hb1) (Nat.le_refl _) [.slice A1 l[k].code.length k1, .int .i64 l[k].go, .int .i64 l[k].test, .slice A2 l[k].next.length k2] (k * 4)⟩
        rw [← set_take_rep _ hlt]
        exact (HO1.put rfl (by simp; omega) HK (fun q hq hq2 => by omega)).mono (fun q hq => by have := HB.size; omega)
      case measure => simp [intOf]; omega
    · obtain rfl : k = l.length := by omega
      clear hstart
      go_wp2
      go_ret
      exact ⟨_, rfl, by simpa using HO, HB⟩
end Go.Proofs.Yteiekdolbnkihaa.L
