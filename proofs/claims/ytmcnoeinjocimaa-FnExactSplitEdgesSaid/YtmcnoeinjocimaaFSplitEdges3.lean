/- Joined texts, each of which was built by itself: Sc2 Op0 Ap1 Is2. -/
import Derived.Test.YtmcnoeinjocimaaFSplitEdges2
import Derived.Test.YtmcnoeinjocimaaFSplitEdges1
import Derived.Test.YtmcnoeinjocimaaB7
import Derived.Deep.RegionHeld3
import Derived.Deep.CutRange
import Derived.Test.YtmcnoeinjocimaaB1
import Derived.Test.YtmcnoeinjocimaaB3
import Derived.Maps.AppendAt
set_option linter.unusedVariables false
set_option linter.unusedSimpArgs false
namespace Go.Proofs.Ytmcnoeinjocimaa.L
open Go.RowKit
theorem alloc_at {w : World} {o : Obj} {k : Nat} (h : k = w.heap.size) : (w.alloc o).heap[k]? = some o := by subst h; exact heap_alloc_new w o
theorem alloc_old {w : World} {o o' : Obj} {k : Nat} (h : w.heap[k]? = some o') : (w.alloc o).heap[k]? = some o' := blk_alloc h o
/-- The beginning of a copy: its variables, and the row of its parts. -/
structure CloneSt (w W : World) (o1 : Obj) (ob mb n : Nat) (V : Int) : Prop where
  bw : Below w.heap.size w W
  s0 : W.heap[w.heap.size]? = some o1
  r0 : W.heap[w.heap.size + 1]? = some (.cells #[.slice none 0 0, .int .i64 0] 29 (0, 0))
  o0 : W.heap[ob]? = some (.cells #[.slice (some ⟨mb, 0, none⟩) n n, .int .i64 V] 29 (0, 0))
  ow : Ow true 54 partA W (fun q => q = mb) (.slice (some ⟨mb, 0, none⟩) n n) (List.replicate n zPt)
  ne : ob ≠ mb ∧ w.heap.size + 2 ≤ ob ∧ w.heap.size + 2 ≤ mb
theorem cloneStA {w : World} {o1 : Obj} {n : Nat} {V : Int} (hn : n ≤ 1048576) : CloneSt w ((((w.alloc o1).alloc (.cells #[.slice none 0 0, .int .i64 0] 29)).alloc (.cells (madeCells #[.slice none 0 0, .slice none 0 0, .int .i64 0, .int .i64 0, .slice none 0 0, .slice none 0 0] (n * 6)) 54)).alloc (.cells #[.slice (some ⟨w.heap.size + 1 + 1, 0, none⟩) n n, .int .i64 V] 29)).drew o1 (w.heap.size + 1 + 1 + 1) (w.heap.size + 1 + 1) n V := by
  have hO := ow_alloc (e := 54) (r := partA) (n := n) ((w.alloc o1).alloc (.cells #[.slice none 0 0, .int .i64 0] 29)) (by omega) rfl (by decide) zPt_mk
  have e2 : ((w.alloc o1).alloc (.cells #[.slice none 0 0, .int .i64 0] 29)).heap.size = w.heap.size + 1 + 1 := by simp
  rw [e2] at hO
  refine ⟨below_drew (below_then (below_then (below_then (below_new _) (below_new _)) (below_new _)) (below_new _)), alloc_old (alloc_old (alloc_old (alloc_at rfl))), alloc_old (alloc_old (alloc_at (by simp))), alloc_at (by simp), (hO.below (below_new _)).move (w' := World.drew _) (fun _ _ _ => rfl), by omega, by omega, by omega⟩
theorem cloneStB {w : World} {o1 : Obj} {n : Nat} {V : Int} (hn : n ≤ 1048576) : CloneSt w ((((w.alloc o1).alloc (.cells #[.slice none 0 0, .int .i64 0] 29)).alloc (.cells #[.slice (some ⟨w.heap.size + 1 + 1 + 1, 0, none⟩) n n, .int .i64 V] 29)).alloc (.cells (madeCells #[.slice none 0 0, .slice none 0 0, .int .i64 0, .int .i64 0, .slice none 0 0, .slice none 0 0] (n * 6)) 54)).drew o1 (w.heap.size + 1 + 1) (w.heap.size + 1 + 1 + 1) n V := by
  have hO := ow_alloc (e := 54) (r := partA) (n := n) (((w.alloc o1).alloc (.cells #[.slice none 0 0, .int .i64 0] 29)).alloc (.cells #[.slice (some ⟨w.heap.size + 1 + 1 + 1, 0, none⟩) n n, .int .i64 V] 29)) (by omega) rfl (by decide) zPt_mk
  have e2 : (((w.alloc o1).alloc (.cells #[.slice none 0 0, .int .i64 0] 29)).alloc (.cells #[.slice (some ⟨w.heap.size + 1 + 1 + 1, 0, none⟩) n n, .int .i64 V] 29)).heap.size = w.heap.size + 1 + 1 + 1 := by simp
  rw [e2] at hO
  refine ⟨below_drew (below_then (below_then (below_then (below_new _) (below_new _)) (below_new _)) (below_new _)), alloc_old (alloc_old (alloc_old (alloc_at rfl))), alloc_old (alloc_old (alloc_at (by simp))), alloc_old (alloc_at (by simp)), hO.move (w' := World.drew _) (fun _ _ _ => rfl), by omega, by omega, by omega⟩
/-- A part's variable, with its lists copied but for its args. -/
structure ClonePt (wo wx : World) (p : Pt) (va : Value) : Prop where
  bw : Below wo.heap.size wo wx
  ex : ∃ (v0 v1 v4 : Value) (G0 G1 G2 : Nat → Prop), wx.heap[wo.heap.size]? = some (.cells #[v0, v1, .int .i64 p.go, .int .i64 p.test, v4, va] 54 (0, 0)) ∧ Ow true 3 Rp.int wx G0 v0 p.params ∧ Ow true 61 flat wx G1 v1 p.code ∧ Ow true 3 Rp.int wx G2 v4 p.next ∧
    (∀ q, G0 q → wo.heap.size < q ∧ q < wx.heap.size) ∧ (∀ q, G1 q → wo.heap.size < q ∧ q < wx.heap.size) ∧ (∀ q, G2 q → wo.heap.size < q ∧ q < wx.heap.size) ∧ (∀ q, G0 q → ¬ G1 q) ∧ (∀ q, G0 q → ¬ G2 q) ∧ (∀ q, G1 q → ¬ G2 q)
set_option maxRecDepth 100000 in
set_option maxHeartbeats 8000000 in
theorem cloneSsa_calls {F : Nat → Prop} (s : Sa) (v : Value) (w : World) (hs : Rp.Rd part w F v s.parts) (hx : SaLim s) :
    Calls Try.prog 65 #[saV s v] w fun e w' => ∃ v', e = .returned (saV s v') ∧ Ow true 54 partA w' (fun q => w.heap.size ≤ q) v' s.parts ∧ Below w.heap.size w w' := by
  obtain ⟨A, c, rfl, hlc, hcm, hrow⟩ := rd_part hs
  have hl := hx.1
  have HX := Lib.hid hx.2
  clear hx
  unfold saV
  have hmk := mk_all Try.underlying27 infoPart s.parts.length (by omega) (by omega)
  go_enter Try.func65, Try.ntmps65
  go_upto_region 1 with fail
  go_cut [3] from 9 to 15 (fun s3 wx => ∃ ob mb : Nat, s3 = .pointer (some ⟨ob, 0, none⟩) ∧ CloneSt w wx (.cells #[.slice A s.parts.length c, .int .i64 s.values] 29 (0, 0)) ob mb s.parts.length s.values)
  case first =>
    go_region
    all_goals (go_wp2_with fail; go_meet; exact ⟨_, _, rfl, by first | exact cloneStA hl | exact cloneStB hl⟩)
  case rest =>
    obtain ⟨ob, mb, rfl, HS⟩ := hcut
    clear hmk
    rename World => W
    obtain ⟨x1, _⟩ := cell_of_block HS.s0
    have x10 : W.cell? ⟨w.heap.size, 0, none⟩ = some (.slice A s.parts.length c) := (x1 0).trans rfl
    clear x1
    go_wp2_with fail
    clear x10
    go_loopw [19] (fun i wr => ∃ k : Nat, k ≤ s.parts.length ∧ i = .int .i64 k ∧ Below w.heap.size w wr ∧ wr.heap[w.heap.size + 1]? = some (.cells #[.slice none 0 0, .int .i64 0] 29 (0, 0)) ∧ wr.heap[ob]? = some (.cells #[.slice (some ⟨mb, 0, none⟩) s.parts.length s.parts.length, .int .i64 s.values] 29 (0, 0)) ∧ Ow true 54 partA wr (fun q => w.heap.size + 2 ≤ q ∧ q ≠ ob) (.slice (some ⟨mb, 0, none⟩) s.parts.length s.parts.length) (s.parts.take k ++ List.replicate (s.parts.length - k) zPt)) (fun i _ => s.parts.length - (intOf i).toNat)
    case atStart => exact ⟨0, Nat.zero_le _, rfl, HS.bw, HS.r0, HS.o0, by have h := HS.ow; have h2 := HS.ne; simpa using h.mono (G := fun q => w.heap.size + 2 ≤ q ∧ q ≠ ob) (fun q hq => by have hq : q = mb := hq; omega)⟩
    case round =>
      have hne := HS.ne
      clear HS
      obtain ⟨k, hk, rfl, HB, hr, ho, HO⟩ := hrel
      rename World => wo
      by_cases hkt : k < s.parts.length
      · rcases hrow with hnil | ⟨b, o, rfl, hb, hcell⟩
        · rw [hnil] at hkt; simp at hkt
        obtain ⟨vp, vc, vn, va, hp, h1, h2, h3, h4⟩ := hcell k hkt
        have hlim := HX.out _ (List.getElem_mem hkt)
        have hset : Hid ((s.parts.take k ++ List.replicate (s.parts.length - k) zPt).set k s.parts[k] = s.parts.take (k + 1) ++ List.replicate (s.parts.length - (k + 1)) zPt) := Lib.hid (set_take_rep _ hkt)
        have hlL : (s.parts.take k ++ List.replicate (s.parts.length - k) zPt).length = s.parts.length := by simp; omega
        have hp := partAt_below hp HB
        have h1 := h1.below HB
        have h2 := h2.below HB
        have h3 := h3.below HB
        have h4 := h4.below HB
        have m0 : (0 : Int) ≤ (k : Int) := Int.natCast_nonneg _
        have m1 : (k : Int) < (s.parts.length : Int) := by omega
        clear hcell
        generalize s.parts[k] = p at *
        generalize s.parts.take k ++ List.replicate (s.parts.length - k) zPt = LL at *
        replace hlL := Lib.hid hlL
        obtain ⟨l1, l2, l3, l4, l5⟩ := hlim
        obtain ⟨q0, q1, q2, q3, q4, q5⟩ := hp
        obtain ⟨A1, c1, rfl, _⟩ := id h1
        obtain ⟨A2, c2, rfl, _⟩ := id h2
        obtain ⟨A3, c3, rfl, _⟩ := id h3
        obtain ⟨A4, c4, rfl, _⟩ := id h4
        have hbx := below_new (w := wo) (.cells #[.slice A1 p.params.length c1, .slice A2 p.code.length c2, .int .i64 p.go, .int .i64 p.test, .slice A3 p.next.length c3, .slice A4 p.args.length c4] 54)
        have px := heap_alloc_new wo (.cells #[.slice A1 p.params.length c1, .slice A2 p.code.length c2, .int .i64 p.go, .int .i64 p.test, .slice A3 p.next.length c3, .slice A4 p.args.length c4] 54)
        have hxs : (wo.alloc (.cells #[.slice A1 p.params.length c1, .slice A2 p.code.length c2, .int .i64 p.go, .int .i64 p.test, .slice A3 p.next.length c3, .slice A4 p.args.length c4] 54)).heap.size = wo.heap.size + 1 := by simp
        go_upto_region 5 with fail
        clear q0 q1 q2 q3 q4 q5
        generalize wo.alloc (.cells #[.slice A1 p.params.length c1, .slice A2 p.code.length c2, .int .i64 p.go, .int .i64 p.test, .slice A3 p.next.length c3, .slice A4 p.args.length c4] 54) = W1 at *
        have C1 := Lib.hid (fun W (hW : Below W1.heap.size W1 W) => cloneI_calls _ p.params W ((h1.below hbx).below hW) l1)
        have C2 := Lib.hid (fun W (hW : Below W1.heap.size W1 W) => cloneF_calls _ p.code W ((h2.below hbx).below hW) l2)
        have C3 := Lib.hid (fun W (hW : Below W1.heap.size W1 W) => cloneI_calls _ p.next W ((h3.below hbx).below hW) l3)
        have h4x := Lib.hid (h4.below hbx)
        have hWd : Below W1.heap.size W1 W1.drew := below_drew (Below.refl _ _)
        obtain ⟨y1, y2⟩ := cell_of_block px
        have y10 : W1.cell? ⟨wo.heap.size, 0, none⟩ = some (.slice A1 p.params.length c1) := (y1 0).trans rfl
        have y11 : W1.cell? ⟨wo.heap.size, 1, none⟩ = some (.slice A2 p.code.length c2) := (y1 1).trans rfl
        have y14 : W1.cell? ⟨wo.heap.size, 4, none⟩ = some (.slice A3 p.next.length c3) := (y1 4).trans rfl
        clear y1 y2
        go_cut [] from 20 to 61 (fun wx => ClonePt wo wx p (.slice A4 p.args.length c4))
        case first =>
          refine anyT_region [(10, fun w' => w'.cell? ⟨wo.heap.size, 0, none⟩ = some (.slice A1 p.params.length c1) ∧ w'.cell? ⟨wo.heap.size, 1, none⟩ = some (.slice A2 p.code.length c2) ∧ w'.cell? ⟨wo.heap.size, 4, none⟩ = some (.slice A3 p.next.length c3))] (by kernel_rfl) ⟨fun _ => ⟨y10, y11, y14⟩, trivial⟩ (fun hC0 => ?_)
          refine anyT_pure (i := 0) (v := ?_) rfl (by kernel_rfl) (by kernel_rfl) (by kernel_rfl) (fun _ _ _ h => h) (Or.inl ⟨by rfl, ?_⟩) (by assumption) ?_
          rotate_left 1
          focus ((intro w hSw; (try dsimp only at hSw); go_simp); try with_reducible rfl)
          try simp only [Act.put, Array.getInternal_eq_getElem, List.getElem_toArray, List.getElem_cons_zero, List.getElem_cons_succ, List.setIfInBounds_toArray, List.set_cons_zero, List.set_cons_succ]
          refine anyT_pure (i := 3) (v := ?_) rfl (by kernel_rfl) (by kernel_rfl) (by kernel_rfl) (fun _ _ _ h => h) (Or.inl ⟨by rfl, ?_⟩) (by assumption) ?_
          rotate_left 1
          focus ((intro w hSw; (try dsimp only at hSw); go_simp); try with_reducible rfl)
          try simp only [Act.put, Array.getInternal_eq_getElem, List.getElem_toArray, List.getElem_cons_zero, List.getElem_cons_succ, List.setIfInBounds_toArray, List.set_cons_zero, List.set_cons_succ]
          refine anyT_pure (i := 6) (v := ?_) rfl (by kernel_rfl) (by kernel_rfl) (by kernel_rfl) (fun _ _ _ h => h) (Or.inl ⟨by rfl, ?_⟩) (by assumption) ?_
          rotate_left 1
          focus ((intro w hSw; (try dsimp only at hSw); go_simp); try with_reducible rfl)
          try simp only [Act.put, Array.getInternal_eq_getElem, List.getElem_toArray, List.getElem_cons_zero, List.getElem_cons_succ, List.setIfInBounds_toArray, List.set_cons_zero, List.set_cons_succ]
          refine anyT_take (k := 0) (i := 1) (v := ?_) rfl rfl (by kernel_rfl) (by kernel_rfl) (by kernel_rfl) (fun _ _ _ h => h) (Or.inl ⟨by rfl, ?_⟩) (by assumption) ?_
          rotate_left 1
          focus ((intro w hSw; (try dsimp only at hSw); go_simp); try with_reducible rfl)
          try simp only [Act.put, Array.getInternal_eq_getElem, List.getElem_toArray, List.getElem_cons_zero, List.getElem_cons_succ, List.setIfInBounds_toArray, List.set_cons_zero, List.set_cons_succ]
          refine anyT_take (k := 0) (i := 4) (v := ?_) rfl rfl (by kernel_rfl) (by kernel_rfl) (by kernel_rfl) (fun _ _ _ h => h) (Or.inl ⟨by rfl, ?_⟩) (by assumption) ?_
          rotate_left 1
          focus ((intro w hSw; (try dsimp only at hSw); go_simp); try with_reducible rfl)
          try simp only [Act.put, Array.getInternal_eq_getElem, List.getElem_toArray, List.getElem_cons_zero, List.getElem_cons_succ, List.setIfInBounds_toArray, List.set_cons_zero, List.set_cons_succ]
          refine anyT_take (k := 0) (i := 7) (v := ?_) rfl rfl (by kernel_rfl) (by kernel_rfl) (by kernel_rfl) (fun _ _ _ h => h) (Or.inl ⟨by rfl, ?_⟩) (by assumption) ?_
          rotate_left 1
          focus ((intro w hSw; (try dsimp only at hSw); go_simp); try with_reducible rfl)
          try simp only [Act.put, Array.getInternal_eq_getElem, List.getElem_toArray, List.getElem_cons_zero, List.getElem_cons_succ, List.setIfInBounds_toArray, List.set_cons_zero, List.set_cons_succ]
          clear y10 y11 y14
          refine anyT_ready (rs := [2]) (by kernel_rfl) (by simp) ?_
          refine AllT.cons rfl (fun K1 hK1 => ?_) AllT.nil
          try simp only [Array.getInternal_eq_getElem, List.getElem_toArray, List.getElem_cons_zero, List.getElem_cons_succ]
          go_simp
          go_at_call 104
          refine (C1.out _ hWd).mono ?_
          rintro e w1 ⟨v1, rfl, hO1, hb1⟩
          have hB1 := below_then hWd hb1
          obtain ⟨B1, d1, rfl, _, _⟩ := hO1.form
          have hO1 := hO1.bound
          go_wp2_with fail
          have px1 := blk_below px hB1
          obtain ⟨z0, _⟩ := cell_of_block px1
          refine hK1.out _ _ ⟨fun _ => ⟨(z0 0).trans rfl, (z0 1).trans rfl, (z0 4).trans rfl⟩, trivial⟩ (fun hT => ?_)
          clear hK1 K1 z0 C1
          try simp only [Act.put, List.setIfInBounds_toArray, List.set_cons_zero, List.set_cons_succ]
          refine anyT_pure (i := 9) (v := ?_) rfl (by kernel_rfl) (by kernel_rfl) (by kernel_rfl) (fun _ _ _ h => h) (Or.inl ⟨by rfl, ?_⟩) (by assumption) ?_
          rotate_left 1
          focus ((intro w hSw; (try dsimp only at hSw); go_simp); try with_reducible rfl)
          try simp only [Act.put, Array.getInternal_eq_getElem, List.getElem_toArray, List.getElem_cons_zero, List.getElem_cons_succ, List.setIfInBounds_toArray, List.set_cons_zero, List.set_cons_succ]
          refine anyT_ready (rs := [5]) (by kernel_rfl) (by simp) ?_
          refine AllT.cons rfl (fun K1 hK1 => ?_) AllT.nil
          try simp only [Array.getInternal_eq_getElem, List.getElem_toArray, List.getElem_cons_zero, List.getElem_cons_succ]
          go_simp
          go_at_call 105
          refine (C2.out _ hB1).mono ?_
          rintro e w2 ⟨v2, rfl, hO2, hb2⟩
          have hB2 := below_then hB1 hb2
          obtain ⟨B2, d2, rfl, _, _⟩ := hO2.form
          have hO2 := hO2.bound
          go_wp2_with fail
          have px2 := blk_below px1 hb2
          obtain ⟨z0, _⟩ := cell_of_block px2
          refine hK1.out _ _ ⟨fun _ => ⟨(z0 0).trans rfl, (z0 1).trans rfl, (z0 4).trans rfl⟩, trivial⟩ (fun hT => ?_)
          clear hK1 K1 z0 C2
          try simp only [Act.put, List.setIfInBounds_toArray, List.set_cons_zero, List.set_cons_succ]
          refine anyT_ready (rs := [8]) (by kernel_rfl) (by simp) ?_
          refine AllT.cons rfl (fun K1 hK1 => ?_) AllT.nil
          try simp only [Array.getInternal_eq_getElem, List.getElem_toArray, List.getElem_cons_zero, List.getElem_cons_succ]
          go_simp
          go_at_call 104
          refine (C3.out _ hB2).mono ?_
          rintro e w3 ⟨v3, rfl, hO3, hb3⟩
          have hB3 := below_then hB2 hb3
          obtain ⟨B3, d3, rfl, _, _⟩ := hO3.form
          have hO3 := hO3.bound
          go_wp2_with fail
          have px3 := blk_below px2 hb3
          obtain ⟨z0, z1⟩ := cell_of_block px3
          refine hK1.out _ _ ⟨fun _ => ⟨(z0 0).trans rfl, (z0 1).trans rfl, (z0 4).trans rfl⟩, trivial⟩ (fun hT => ?_)
          have z10 : w3.cell? ⟨wo.heap.size, 0, none⟩ = some (.slice A1 p.params.length c1) := (z0 0).trans rfl
          have z20 := z1 0
          clear hK1 K1 z0 z1 C3
          try simp only [Act.put, List.setIfInBounds_toArray, List.set_cons_zero, List.set_cons_succ]
          have p4 := blk_put px3 0 (.slice B1 p.params.length d1)
          have p5 := blk_put p4 1 (.slice B2 p.code.length d2)
          have p6 := Lib.hid (blk_put p5 4 (.slice B3 p.next.length d3))
          refine anyT_ready (rs := [10]) (by kernel_rfl) (by simp) ?_
          refine AllT.cons rfl (fun K1 hK1 => ?_) AllT.nil
          try simp only [Array.getInternal_eq_getElem, List.getElem_toArray, List.getElem_cons_zero, List.getElem_cons_succ]
          go_simp
          refine hK1.out _ _ ⟨fun h => absurd h (by simp), trivial⟩ (fun hT => ?_)
          clear hK1 K1
          try simp only [Act.put, List.setIfInBounds_toArray, List.set_cons_zero, List.set_cons_succ]
          obtain ⟨z0, z1⟩ := cell_of_block p4
          have z11 : (w3.setCell ⟨wo.heap.size, 0, none⟩ (.slice B1 p.params.length d1)).cell? ⟨wo.heap.size, 1, none⟩ = some (.slice A2 p.code.length c2) := (z0 1).trans rfl
          have z21 := z1 1
          clear z0 z1
          refine anyT_pure (i := 11) (v := ?_) rfl (by kernel_rfl) (by kernel_rfl) (by kernel_rfl) (fun _ _ _ h => h) (Or.inl ⟨by rfl, ?_⟩) (by assumption) ?_
          rotate_left 1
          focus ((intro w hSw; (try dsimp only at hSw); go_simp); try with_reducible rfl)
          try simp only [Act.put, Array.getInternal_eq_getElem, List.getElem_toArray, List.getElem_cons_zero, List.getElem_cons_succ, List.setIfInBounds_toArray, List.set_cons_zero, List.set_cons_succ]
          refine anyT_ready (rs := [12]) (by kernel_rfl) (by simp) ?_
          refine AllT.cons rfl (fun K1 hK1 => ?_) AllT.nil
          try simp only [Array.getInternal_eq_getElem, List.getElem_toArray, List.getElem_cons_zero, List.getElem_cons_succ]
          go_simp
          refine hK1.out _ _ ⟨fun h => absurd h (by simp), trivial⟩ (fun hT => ?_)
          clear hK1 K1
          try simp only [Act.put, List.setIfInBounds_toArray, List.set_cons_zero, List.set_cons_succ]
          obtain ⟨z0, z1⟩ := cell_of_block p5
          have z14 : ((w3.setCell ⟨wo.heap.size, 0, none⟩ (.slice B1 p.params.length d1)).setCell ⟨wo.heap.size, 1, none⟩ (.slice B2 p.code.length d2)).cell? ⟨wo.heap.size, 4, none⟩ = some (.slice A3 p.next.length c3) := (z0 4).trans rfl
          have z24 := z1 4
          clear z0 z1
          refine anyT_pure (i := 13) (v := ?_) rfl (by kernel_rfl) (by kernel_rfl) (by kernel_rfl) (fun _ _ _ h => h) (Or.inl ⟨by rfl, ?_⟩) (by assumption) ?_
          rotate_left 1
          focus ((intro w hSw; (try dsimp only at hSw); go_simp); try with_reducible rfl)
          try simp only [Act.put, Array.getInternal_eq_getElem, List.getElem_toArray, List.getElem_cons_zero, List.getElem_cons_succ, List.setIfInBounds_toArray, List.set_cons_zero, List.set_cons_succ]
          refine anyT_ready (rs := [14]) (by kernel_rfl) (by simp) ?_
          refine AllT.cons rfl (fun K1 hK1 => ?_) AllT.nil
          try simp only [Array.getInternal_eq_getElem, List.getElem_toArray, List.getElem_cons_zero, List.getElem_cons_succ]
          go_simp
          refine hK1.out _ _ ⟨fun h => absurd h (by simp), trivial⟩ (fun hT => ?_)
          clear hK1 K1
          try simp only [Act.put, List.setIfInBounds_toArray, List.set_cons_zero, List.set_cons_succ]
          refine anyT_done (by kernel_rfl) ?_ _
          clear p4 p5 z10 z11 z14 z20 z21 z24
          go_wp2_with fail
          go_meet
          have hz1 := hb1.size
          have hz2 := hb2.size
          have hz3 := hb3.size
          have hzd : W1.drew.heap.size = W1.heap.size := rfl
          have hC := (Chg.set (A := fun q => q = wo.heap.size) (w := w3) (b := wo.heap.size) (o := 0) (u := .slice B1 p.params.length d1) rfl).trans ((Chg.set (A := fun q => q = wo.heap.size) (b := wo.heap.size) (o := 1) (u := .slice B2 p.code.length d2) rfl).trans (Chg.set (A := fun q => q = wo.heap.size) (b := wo.heap.size) (o := 4) (u := .slice B3 p.next.length d3) rfl))
          have hzc := hC.size
          refine ⟨hC.to_below (below_then hbx hB3) (by omega) (fun q hq => by have hq : q = wo.heap.size := hq; omega), _, _, _, _, _, _, p6.out, ((hO1.below hb2).below hb3).move (hC.same (fun q hq h => by have h : q = wo.heap.size := h; have := hq.1; omega)), (hO2.below hb3).move (hC.same (fun q hq h => by have h : q = wo.heap.size := h; have := hq.1; omega)), hO3.move (hC.same (fun q hq h => by have h : q = wo.heap.size := h; have := hq.1; omega)), fun q hq => by have h1 := hq.1; have h2 := hq.2; omega, fun q hq => by have h1 := hq.1; have h2 := hq.2; omega, fun q hq => by have h1 := hq.1; have h2 := hq.2; omega, fun q hq hq2 => by have h1 := hq.2; have h2 := hq2.1; omega, fun q hq hq2 => by have h1 := hq.2; have h2 := hq2.1; omega, fun q hq hq2 => by have h1 := hq.2; have h2 := hq2.1; omega⟩
        case rest =>
          rename World => wc
          obtain ⟨hbw, v0, v1, v4, G0, G1, G2, px, k0, k1, k2, g0, g1, g2, d01, d02, d12⟩ := hcut
          have h4 := h4.below hbw
          have hlto := blk_lt ho
          have hltr := blk_lt hr
          have HBc := below_then HB hbw
          have hr := blk_below hr hbw
          have ho := blk_below ho hbw
          have HO := HO.bound.below hbw
          have hszc := hbw.size
          have hszo := HB.size
          have hpl := blk_lt px
          clear C1 C2 C3 h4x hWd y10 y11 y14 hbx h1 h2 h3 HB hbw
          obtain ⟨Aa, ca, he, _, _, hrA⟩ := rd_ints h4
          injection he with he1 _ he3
          subst he1
          subst he3
          have hmk := mk_all Try.underlying41 infoInts p.args.length (by omega) (by omega)
          have hOa := ow_alloc1 (e := 35) (n := p.args.length) (r := Rp.ow true 3 Rp.int) (z := .slice none 0 0) (x0 := []) wc (by omega) rfl (fun w => ⟨_, rfl, Ow.nil _ _ _ _ _⟩)
          have hBa := below_new (w := wc) (.cells (madeCells #[.slice none 0 0] p.args.length) 35)
          have hza : wc.heap.size < (wc.alloc (.cells (madeCells #[.slice none 0 0] p.args.length) 35)).heap.size := by simp
          obtain ⟨y1, _⟩ := cell_of_block px
          have y15 : wc.cell? ⟨wo.heap.size, 5, none⟩ = some (.slice A4 p.args.length c4) := (y1 5).trans rfl
          have y16 := cell_below hBa y15
          clear y1
          have HCl := Lib.hid (fun u a W G (h : Rp.Rd Rp.int W G u a) hl => cloneI_calls u a W h hl)
          go_wp2_with fail
          clear y15 y16 hmk
          generalize wc.alloc (.cells (madeCells #[.slice none 0 0] p.args.length) 35) = W2 at *
          have hO0 : Ow true 35 (Rp.ow true 3 Rp.int) W2 (fun q => wc.heap.size ≤ q) (.slice (some ⟨wc.heap.size, 0, none⟩) p.args.length p.args.length) (p.args.take 0 ++ List.replicate (p.args.length - 0) []) := by simpa using hOa
          go_loopw [43] (fun i wr => ∃ j : Nat, j ≤ p.args.length ∧ i = .int .i64 j ∧ Ow true 35 (Rp.ow true 3 Rp.int) wr (fun q => wc.heap.size ≤ q) (.slice (some ⟨wc.heap.size, 0, none⟩) p.args.length p.args.length) (p.args.take j ++ List.replicate (p.args.length - j) []) ∧ Below wc.heap.size wc wr ∧ wc.heap.size < wr.heap.size) (fun i _ => p.args.length - (intOf i).toNat)
          case atStart => exact ⟨0, Nat.zero_le _, rfl, hO0, hBa, hza⟩
          case round =>
            clear hOa hO0 hBa hza
            obtain ⟨j, hj, rfl, HOa, HB, hz⟩ := hrel
            rename World => wi
            by_cases hjt : j < p.args.length
            · rcases hrA with hnil | ⟨ba, oa, rfl, hba, hca⟩
              · rw [hnil] at hjt; simp at hjt
              obtain ⟨u, cu, hu⟩ := hca j hjt
              have cu := cell_below HB cu
              have hu := hu.below HB
              have hSl := l5 _ (List.getElem_mem hjt)
              have hLl : (p.args.take j ++ List.replicate (p.args.length - j) ([] : List Int)).length = p.args.length := by simp; omega
              have hset : Hid ((p.args.take j ++ List.replicate (p.args.length - j) []).set j p.args[j] = p.args.take (j + 1) ++ List.replicate (p.args.length - (j + 1)) []) := Lib.hid (set_take_rep _ hjt)
              clear hca
              generalize p.args[j] = S at *
              obtain ⟨Au, ku, rfl, _⟩ := id hu
              have i0 : (0 : Int) ≤ (j : Int) := Int.natCast_nonneg _
              have i1 : (j : Int) < (p.args.length : Int) := by omega
              have HL1 := Lib.hid (HCl.out _ S wi _ hu (by omega))
              go_wp2_with fail
              refine HL1.out.mono ?_
              rintro e w3 ⟨v3, rfl, hO3, hb3⟩
              have hs3 := hb3.size
              have HO3 := HOa.bound.below hb3
              have hjL : j < (p.args.take j ++ List.replicate (p.args.length - j) ([] : List Int)).length := by omega
              obtain ⟨_, u0, cu0, fu0, -⟩ := HO3.focus hjL
              obtain ⟨A3', c3', rfl, _, _⟩ := hO3.form
              have HO4 := (HO3.put1 rfl hjL (y := S) (u := .slice A3' S.length c3') ⟨_, rfl, hO3⟩ (fun q hq h => by have := h.2; omega)).mono (G := fun q => wc.heap.size ≤ q) (fun q hq => by rcases hq with hq | hq; exact hq.1; omega)
              rw [hset.out] at HO4
              have hB2' := below_then HB hb3
              have hC := Chg.set (w := w3) (b := wc.heap.size) (o := j) (u := .slice A3' S.length c3') (A := fun q => q = wc.heap.size) rfl
              have HB3 := hC.to_below hB2' hB2'.size (fun q hq => by have hq : q = wc.heap.size := hq; omega)
              have hz3 : wc.heap.size < (w3.setCell ⟨wc.heap.size, j, none⟩ (.slice A3' S.length c3')).heap.size := by simp; omega
              clear HL1 HOa HO3 HB hb3 cu hset hO3 hu hC hB2'
              replace hLl := Lib.hid hLl
              clear hjL
              go_wp2_with fail
              go_roundw
              case rel => exact ⟨j + 1, by omega, by go_num, HO4, HB3, hz3⟩
              case measure => simp [intOf]; omega
            · obtain rfl : j = p.args.length := by omega
              rw [List.take_length, Nat.sub_self, List.replicate_zero, List.append_nil] at HOa
              have px2 := blk_below px HB
              have ho2 := blk_below ho HB
              have hr2 := blk_below hr HB
              have HO2 := HO.below HB
              have k0 := k0.below HB
              have k1 := k1.below HB
              have k2 := k2.below HB
              have HBi := below_then HBc HB
              obtain ⟨B0, e0, rfl, _, _⟩ := k0.form
              obtain ⟨B1, e1, rfl, _, _⟩ := k1.form
              obtain ⟨B2, e2, rfl, _, _⟩ := k2.form
              clear px ho hr HO HBc HB h4 hrA
              obtain ⟨y1, y2⟩ := cell_of_block px2
              have y15 : wi.cell? ⟨wo.heap.size, 5, none⟩ = some (.slice A4 p.args.length c4) := (y1 5).trans rfl
              have y25 := y2 5
              clear y1 y2
              have p3 := blk_put px2 5 (.slice (some ⟨wc.heap.size, 0, none⟩) p.args.length p.args.length)
              have ho3 := blk_set ho2 (a := ⟨wo.heap.size, 5, none⟩) (by dsimp only; omega) (.slice (some ⟨wc.heap.size, 0, none⟩) p.args.length p.args.length)
              have hr3 := blk_set hr2 (a := ⟨wo.heap.size, 5, none⟩) (by dsimp only; omega) (.slice (some ⟨wc.heap.size, 0, none⟩) p.args.length p.args.length)
              have hC := Chg.set (A := fun q => q = wo.heap.size) (w := wi) (b := wo.heap.size) (o := 5) (u := .slice (some ⟨wc.heap.size, 0, none⟩) p.args.length p.args.length) rfl
              have HO3 := HO2.move (hC.same (fun q hq h => by have h : q = wo.heap.size := h; have := hq.2; omega))
              have k0 := k0.move (hC.same (fun q hq h => by have h : q = wo.heap.size := h; have := g0 q hq; omega))
              have k1 := k1.move (hC.same (fun q hq h => by have h : q = wo.heap.size := h; have := g1 q hq; omega))
              have k2 := k2.move (hC.same (fun q hq h => by have h : q = wo.heap.size := h; have := g2 q hq; omega))
              have k3 := HOa.move (hC.same (fun q hq h => by have h : q = wo.heap.size := h; omega))
              have HB3 := hC.to_below HBi HBi.size (fun q hq => by have hq : q = wo.heap.size := hq; omega)
              have hs3 := hC.size
              have HK := partA_mk (F := fun q => wo.heap.size < q) (x := p) (fun q hq => (g0 q hq).1) (fun q hq => (g1 q hq).1) (fun q hq => (g2 q hq).1) (fun q hq => by omega) d01 d02 (fun q hq h => by have := (g0 q hq).2; omega) d12 (fun q hq h => by have := (g1 q hq).2; omega) (fun q hq h => by have := (g2 q hq).2; omega) k0 k1 k2 k3
              have hkL : k < LL.length := by have := hlL.out; omega
              have HP := (HO3.put rfl hkL HK (fun q hq h => by have := h.2; omega)).mono (G := fun q => w.heap.size + 2 ≤ q ∧ q ≠ ob) (fun q hq => by rcases hq with hq | hq; exact hq.1; omega)
              rw [hset.out] at HP
              obtain ⟨_, _, _, _, r5, f5⟩ := HO3.part_at hkL
              obtain ⟨r0, r1, r2, r3, r4, r5⟩ := r5
              obtain ⟨y1, _⟩ := cell_of_block ho3
              have yo : (wi.setCell ⟨wo.heap.size, 5, none⟩ (.slice (some ⟨wc.heap.size, 0, none⟩) p.args.length p.args.length)).cell? ⟨ob, 0, none⟩ = some (.slice (some ⟨mb, 0, none⟩) s.parts.length s.parts.length) := (y1 0).trans rfl
              clear y1
              obtain ⟨y1, _⟩ := cell_of_block p3
              have z0 : (wi.setCell ⟨wo.heap.size, 5, none⟩ (.slice (some ⟨wc.heap.size, 0, none⟩) p.args.length p.args.length)).cell? ⟨wo.heap.size, 0, none⟩ = some (.slice B0 p.params.length e0) := (y1 0).trans rfl
              have z1 : (wi.setCell ⟨wo.heap.size, 5, none⟩ (.slice (some ⟨wc.heap.size, 0, none⟩) p.args.length p.args.length)).cell? ⟨wo.heap.size, 1, none⟩ = some (.slice B1 p.code.length e1) := (y1 1).trans rfl
              have z2 : (wi.setCell ⟨wo.heap.size, 5, none⟩ (.slice (some ⟨wc.heap.size, 0, none⟩) p.args.length p.args.length)).cell? ⟨wo.heap.size, 2, none⟩ = some (.int .i64 p.go) := (y1 2).trans rfl
              have z3 : (wi.setCell ⟨wo.heap.size, 5, none⟩ (.slice (some ⟨wc.heap.size, 0, none⟩) p.args.length p.args.length)).cell? ⟨wo.heap.size, 3, none⟩ = some (.int .i64 p.test) := (y1 3).trans rfl
              have z4 : (wi.setCell ⟨wo.heap.size, 5, none⟩ (.slice (some ⟨wc.heap.size, 0, none⟩) p.args.length p.args.length)).cell? ⟨wo.heap.size, 4, none⟩ = some (.slice B2 p.next.length e2) := (y1 4).trans rfl
              have z5 : (wi.setCell ⟨wo.heap.size, 5, none⟩ (.slice (some ⟨wc.heap.size, 0, none⟩) p.args.length p.args.length)).cell? ⟨wo.heap.size, 5, none⟩ = some (.slice (some ⟨wc.heap.size, 0, none⟩) p.args.length p.args.length) := (y1 5).trans rfl
              clear y1
              have hmb := (HO3.lt_size (k := mb) rfl).1.1
              have hBf := putRow_below (g := mb) HB3 (by omega) [.slice B0 p.params.length e0, .slice B1 p.code.length e1, .int .i64 p.go, .int .i64 p.test, .slice B2 p.next.length e2, .slice (some ⟨wc.heap.size, 0, none⟩) p.args.length p.args.length] (k * 6)
              have hpr := putRow_same [.slice B0 p.params.length e0, .slice B1 p.code.length e1, .int .i64 p.go, .int .i64 p.test, .slice B2 p.next.length e2, .slice (some ⟨wc.heap.size, 0, none⟩) p.args.length p.args.length] mb (wi.setCell ⟨wo.heap.size, 5, none⟩ (.slice (some ⟨wc.heap.size, 0, none⟩) p.args.length p.args.length)) (k * 6)
              have hrF := (hpr.2 _ (by omega)).trans hr3
              have hoF := (hpr.2 _ hne.1).trans ho3
              clear hpr p3 ho3 hr3 HO3 hC k0 k1 k2 k3 HK HO2 px2 ho2 hr2 HOa HBi HB3
              go_wp2_with fail
              go_roundw
              case rel => exact ⟨k + 1, by omega, by go_num, hBf, hrF, hoF, HP⟩
              case measure => simp [intOf]; omega
      · obtain rfl : k = s.parts.length := by omega
        rw [List.take_length, Nat.sub_self, List.replicate_zero, List.append_nil] at HO
        obtain ⟨y1, _⟩ := cell_of_block ho
        have y10 : wo.cell? ⟨ob, 0, none⟩ = some (.slice (some ⟨mb, 0, none⟩) s.parts.length s.parts.length) := (y1 0).trans rfl
        have y11 : wo.cell? ⟨ob, 1, none⟩ = some (.int .i64 s.values) := (y1 1).trans rfl
        clear y1
        obtain ⟨y1, y2⟩ := cell_of_block hr
        have z10 : wo.cell? ⟨w.heap.size + 1, 0, none⟩ = some (.slice none 0 0) := (y1 0).trans rfl
        have z11 : wo.cell? ⟨w.heap.size + 1, 1, none⟩ = some (.int .i64 0) := (y1 1).trans rfl
        have z20 := y2 0
        have z21 := y2 1
        clear y1 y2
        have hBf := putRow_below (g := w.heap.size + 1) HB (by omega) [.slice (some ⟨mb, 0, none⟩) s.parts.length s.parts.length, .int .i64 s.values] 0
        have hpr := putRow_same [.slice (some ⟨mb, 0, none⟩) s.parts.length s.parts.length, .int .i64 s.values] (w.heap.size + 1) wo 0
        have HOf := (HO.move (w' := putRow wo (w.heap.size + 1) 0 [.slice (some ⟨mb, 0, none⟩) s.parts.length s.parts.length, .int .i64 s.values]) (fun q hq _ => hpr.2 q (by have := hq.1; omega))).mono (G := fun q => w.heap.size ≤ q) (fun q hq => by have := hq.1; omega)
        have cF := (cell_of_block (blk_put (blk_put hr 0 (.slice (some ⟨mb, 0, none⟩) s.parts.length s.parts.length)) 1 (.int .i64 s.values))).1
        replace cF := Lib.hid cF
        clear hpr HO HB hr ho
        go_wp2_with fail
        have cF := cF.out
        refine bodyPost_ret (v := saV s (.slice (some ⟨mb, 0, none⟩) s.parts.length s.parts.length)) (by simp [results, Try.results65, go_sem, saV, cF]) rfl ?_
        exact ⟨_, rfl, HOf, hBf⟩
end Go.Proofs.Ytmcnoeinjocimaa.L

set_option linter.unusedVariables false
set_option linter.unusedSimpArgs false
namespace Go.Proofs.Ytmcnoeinjocimaa.L
open Go.RowKit
theorem oper_append {P : Program} {o : Oper} {a : Act} {W W' : World} {K : Act → World → Prop} {Q : Exit → Act → World → Prop} (s x : Operand) (t : TypeId) (v vx v' : Value)
    (ho : o.op = .call { callee := .builtin .append, args := #[s, x], argTypes := #[t, t] }) (hs : a.eval s = v) (hx : a.eval x = vx) (hr : (Builtin.append_ #[t, t] o.type #[v, vx]).run P W = .ok v' W') (h : K (a.put o.dst v') W') : Oper.wp P o a W K Q := by
  unfold Oper.wp execOp
  simp only [ho, resolve, invoke, builtin, Sem.run_bind, Sem.run_pure, Result.andThen_ok, List.map_toArray, List.map_cons, List.map_nil, hs, hx, hr]
  exact h
end Go.Proofs.Ytmcnoeinjocimaa.L

set_option linter.unusedVariables false
set_option linter.unusedSimpArgs false
namespace Go.Proofs.Ytmcnoeinjocimaa.L
open Go.RowKit
theorem run_ap1 {P : Program} {α : Type} {ap : Bool} {e : Nat} {r : Rp α} {W : World} {F G : Nat → Prop} (t ty : TypeId) (z : Value) (bytes : Nat) (ht : P.underlying t = some (.slice e)) (hinfo : (P.info? e).map (fun i => (i.zero, i.size, i.bytes)) = some (some z, r.sz, bytes)) (hz : z.cells.size = r.sz) (hsz : 0 < r.sz) (hb0 : 0 < bytes)
    (v : Value) (l : List α) (y : α) (us : List Value) (bx : Nat) (hbx : W.heap[bx]? = some (.cells us.toArray e (0, 0))) (HO : Ow ap e r W F v l) (hy : r.K W G y us) (hG : ∀ k, G k → ¬ F k) (hl : (l.length + 1) * bytes ≤ 140737488355328) :
    ∃ v' W', (Builtin.append_ #[t, t] ty #[v, .slice (some ⟨bx, 0, none⟩) 1 1]).run P W = .ok v' W' ∧ Ow ap e r W' (fun k => F k ∨ G k ∨ W.heap.size ≤ k) v' (l ++ [y]) ∧ W.grownBy W' v.ownBlock := by
  obtain ⟨i0, hi, hzz⟩ := Option.map_eq_some_iff.1 hinfo
  simp only [Prod.mk.injEq] at hzz
  obtain ⟨hz0, hz1, hz2⟩ := hzz
  obtain ⟨xs, hown⟩ := HO.owns
  have hlen : l.length + 1 ≤ 140737488355328 := Nat.le_trans (Nat.le_mul_of_pos_right _ hb0) hl
  have hus : us.length = r.sz := r.len hy
  obtain ⟨v1, w1, hr, hown1, hg, hnl, hat⟩ := run_append_own_at (P := P) W 0 t ty e i0 z r.sz bytes ht hi hz0 hz1 hz2 hz hsz v l.length xs hown ⟨bx, 0, none⟩ 1 1 us (by rw [hus, Nat.one_mul])
    (fun j u hu => World.news_of_block (cs := us.toArray) (t := e) (fr := (0, 0)) hbx j u (by simpa using hu)) (r.one hy) (by unfold maxLen; omega) hl (Nat.zero_le _)
  have hat' : v1.ownBlock = v.ownBlock ∨ ∃ b, v1.ownBlock = some b ∧ W.heap.size ≤ b := by
    rcases hat with hat | hat
    · exact .inl hat
    · exact .inr ⟨_, hat, Nat.le_refl _⟩
  refine ⟨v1, w1, hr, ?_, hg⟩
  refine Ow.snoc (w := W) (m := 1) (ys := [y]) (news := us) HO rfl (fun zs hzs => by rw [owns_unique hzs hown]; exact hown1) hg hat' (fun i k => i = 0 ∧ G k) (fun i y' hy' => ?_) (fun i k hk => ⟨hG k hk.2, .inr (.inl hk.2)⟩) (fun _ i j k hi hj => by omega) (fun k hk => .inl hk) (fun k hk => .inr (.inr hk))
  match i, hy' with
  | 0, hy' =>
    simp only [List.getElem?_cons_zero, Option.some.injEq] at hy'
    subst hy'
    rw [Nat.zero_mul, List.drop_zero, List.take_of_length_le (by omega)]
    exact r.mono (fun k hk => ⟨rfl, hk⟩) hy
  | i + 1, hy' => simp at hy'
end Go.Proofs.Ytmcnoeinjocimaa.L

set_option linter.unusedVariables false
set_option linter.unusedSimpArgs false
namespace Go.Proofs.Ytmcnoeinjocimaa.L
open Go.RowKit
set_option maxRecDepth 100000 in
set_option maxHeartbeats 4000000 in
theorem edgesS_calls {F : Nat → Prop} (s : Sa) (K : Int) (vparts : Value) (w : World) (hs : Rp.Rd part w F vparts s.parts) (hn : s.parts.length ≤ 1048576) (hl : ∀ p ∈ s.parts, p.next.length ≤ 1048576) :
    Calls Try.prog 86 #[saV s vparts, .int .i64 K] w fun e w' => e = .returned (.int .i64 (edgesN s.parts K : Nat)) ∧ Below w.heap.size w w' := by
  obtain ⟨A, c, rfl, hlc, hcm, hrow⟩ := rd_part hs
  unfold saV
  have hB0 : Below w.heap.size w (w.alloc (.cells #[.slice A s.parts.length c, .int .i64 s.values] 29)) := below_new _
  go_enter Try.func86, Try.ntmps86
  go_wp2
  generalize w.alloc (.cells #[.slice A s.parts.length c, .int .i64 s.values] 29) = W0 at *
  go_loopw [5, 13] (fun z j wr => ∃ m : Nat, m ≤ s.parts.length ∧ j = .int .i64 m ∧ z = .int .i64 (edgesN (s.parts.take m) K : Nat) ∧ Below w.heap.size w wr) (fun _ j _ => s.parts.length - (intOf j).toNat)
  case atStart => exact ⟨0, Nat.zero_le _, rfl, rfl, hB0⟩
  case round =>
    clear hB0
    obtain ⟨m, hm, rfl, rfl, HB⟩ := hrel
    rename World => wo
    by_cases hlt : m < s.parts.length
    · rcases hrow with hnil | ⟨b, o, rfl, hb, hcell⟩
      · rw [hnil] at hlt; simp at hlt
      obtain ⟨_, _, _, _, hp, ⟨B1, d1, rfl, h1⟩, ⟨B2, d2, rfl, h2⟩, hxn, ⟨B4, d4, rfl, h4⟩⟩ := hcell m hlt
      obtain ⟨q0, q1, q2, q3, q4, q5⟩ := partAt_below hp HB
      have hxn := hxn.below HB
      have hE := edgesN_take hlt K
      have hL := hl _ (List.getElem_mem hlt)
      have hE0 := edgesN_le (k := K) (l := s.parts.take m) (fun q hq => hl q (List.mem_of_mem_take hq))
      rw [List.length_take] at hE0
      have hE1 : edgesN (s.parts.take m) K ≤ 1048576 * 1048576 := Nat.le_trans hE0 (Nat.mul_le_mul (by omega) (Nat.le_refl _))
      clear hp hE0 hcell
      have hE := Lib.hid hE
      generalize edgesN (s.parts.take m) K = z at *
      generalize s.parts[m] = q at *
      obtain ⟨A5, c5, rfl, _, _, hrn⟩ := rd_int hxn
      have j0 : (0 : Int) ≤ (m : Int) := Int.natCast_nonneg _
      have j1 : (m : Int) < (s.parts.length : Int) := by omega
      have hB1 := HB.alloc HB.size (.cells #[.slice B1 q.params.length d1, .slice B2 q.code.length d2, .int .i64 q.go, .int .i64 q.test, .slice A5 q.next.length c5, .slice B4 q.args.length d4] 54)
      go_wp2
      have hbn := below_new (w := wo) (.cells #[.slice B1 q.params.length d1, .slice B2 q.code.length d2, .int .i64 q.go, .int .i64 q.test, .slice A5 q.next.length c5, .slice B4 q.args.length d4] 54)
      generalize wo.alloc (.cells #[.slice B1 q.params.length d1, .slice B2 q.code.length d2, .int .i64 q.go, .int .i64 q.test, .slice A5 q.next.length c5, .slice B4 q.args.length d4] 54) = W1 at *
      clear q0 q1 q2 q3 q4 q5 HB
      go_loop [5, 20] (fun z2 j => ∃ n : Nat, n ≤ q.next.length ∧ j = .int .i64 n ∧ z2 = .int .i64 (z + (q.next.take n).count K : Nat)) (fun _ j => q.next.length - (intOf j).toNat)
      case atStart => exact ⟨0, Nat.zero_le _, rfl, rfl⟩
      case round =>
        obtain ⟨n, hn2, rfl, rfl⟩ := hrel
        by_cases hnt : n < q.next.length
        · rcases hrn with hnil | ⟨b3, o3, rfl, hb3, hc3⟩
          · rw [hnil] at hnt; simp at hnt
          have q3 := cell_below hbn (hc3 n hnt)
          have hcl := List.count_le_length (a := K) (l := q.next.take n)
          rw [List.length_take] at hcl
          have hct := Lib.hid (count_take hnt K)
          clear hc3
          generalize (q.next.take n).count K = y at *
          generalize q.next[n] = x at *
          have n0 : (0 : Int) ≤ (n : Int) := Int.natCast_nonneg _
          have n1 : (n : Int) < (q.next.length : Int) := by omega
          by_cases hxK : x = K
          · have hct2 : Hid ((q.next.take (n + 1)).count K = y + 1) := Lib.hid (by rw [hct.out, if_pos hxK])
            have hd : (x == K) = true := by simpa using hxK
            clear hct hxK
            go_wp2
            go_round
            case rel => exact ⟨n + 1, by omega, by go_num, by rw [hct2.out]; go_num⟩
            case measure => simp [intOf]; omega
          · have hct2 : Hid ((q.next.take (n + 1)).count K = y) := Lib.hid (by rw [hct.out, if_neg hxK]; rfl)
            have hd : (x == K) = false := by simpa using hxK
            clear hct hxK
            go_wp2
            go_round
            case rel => exact ⟨n + 1, by omega, by go_num, by rw [hct2.out]⟩
            case measure => simp [intOf]; omega
        · obtain rfl : n = q.next.length := by omega
          rw [List.take_length]
          go_wp2
          go_roundw
          case rel => exact ⟨m + 1, by omega, by go_num, by rw [hE.out], hB1⟩
          case measure => simp [intOf]; omega
    · obtain rfl : m = s.parts.length := by omega
      rw [List.take_length]
      go_wp2
      go_ret
      exact ⟨rfl, HB⟩
set_option maxRecDepth 100000 in
set_option maxHeartbeats 8000000 in
theorem critS_calls {F F2 : Nat → Prop} (s : Sa) (p : Pt) (i : Nat) (vparts v1 v2 v3 v4 : Value) (w : World) (hs : Rp.Rd part w F vparts s.parts) (hn : s.parts.length ≤ 1048576) (hl : ∀ p ∈ s.parts, p.next.length ≤ 1048576)
    (h1 : ∃ A c, v1 = .slice A p.params.length c) (h2 : ∃ A c, v2 = .slice A p.code.length c) (h3 : Rp.Rd Rp.int w F2 v3 p.next) (h4 : Rp.Rd (Rp.sl Rp.int) w F2 v4 p.args) (hi : i < p.next.length) (ha : i < p.args.length) :
    Calls Try.prog 54 #[saV s vparts, ptV p v1 v2 v3 v4, .int .i64 i] w fun e w' => e = .returned (.bool (critB s.parts p i)) ∧ Below w.heap.size w w' := by
  obtain ⟨A, c, rfl, _, _, _⟩ := rd_part hs
  obtain ⟨A1, c1, rfl⟩ := h1
  obtain ⟨A2, c2, rfl⟩ := h2
  obtain ⟨A3, c3, rfl, _, _, hr3⟩ := rd_int h3
  obtain ⟨A4, c4, rfl, _, _, hr4⟩ := rd_ints h4
  have HN : Hid (p.next.getD i 0 = p.next[i]) := Lib.hid (by rw [List.getD_eq_getElem?_getD, List.getElem?_eq_getElem hi]; rfl)
  have HA : Hid (p.args.getD i [] = p.args[i]) := Lib.hid (by rw [List.getD_eq_getElem?_getD, List.getElem?_eq_getElem ha]; rfl)
  have HX : Hid (critB s.parts p i = (decide (1 < p.next.length) && decide (1 < edgesN s.parts p.next[i]) && decide (0 < p.args[i].length))) := Lib.hid (by unfold critB; rw [HN.out, HA.out])
  clear HN HA
  rcases hr3 with hnil | ⟨bn, on, rfl, hbn, hcn⟩
  · rw [hnil] at hi; simp at hi
  rcases hr4 with hnil | ⟨ba, oa, rfl, hba, hca⟩
  · rw [hnil] at ha; simp at ha
  have y0 := hcn i hi
  obtain ⟨u, z0, hu⟩ := hca i ha
  obtain ⟨Au, ku, rfl, _⟩ := hu
  clear hcn hca
  have i2 : (0 : Int) ≤ (i : Int) := Int.natCast_nonneg _
  have i3 : (i : Int) < (p.next.length : Int) := by omega
  have i4 : (i : Int) < (p.args.length : Int) := by omega
  have HC := Lib.hid (fun K W (hW : Below w.heap.size w W) => edgesS_calls s K _ W (hs.below hW) hn hl)
  clear h3 h4
  generalize p.next[i] = K at *
  generalize p.args[i] = a at *
  clear hi ha hs hl
  have HC := Lib.hid (HC.out K)
  unfold saV at HC
  unfold saV ptV
  generalize edgesN s.parts K = z at *
  have hB1 : Below w.heap.size w (w.alloc (.cells #[.slice A s.parts.length c, .int .i64 s.values] 29)) := below_new _
  have b1 := heap_alloc_new w (.cells #[.slice A s.parts.length c, .int .i64 s.values] 29)
  obtain ⟨W1, hW1⟩ : ∃ W1, W1 = w.alloc (.cells #[.slice A s.parts.length c, .int .i64 s.values] 29) := ⟨_, rfl⟩
  rw [← hW1] at hB1 b1
  have hz1 : W1.heap.size = w.heap.size + 1 := by rw [hW1]; simp
  have hB2 := hB1.alloc hB1.size (.cells #[.slice A1 p.params.length c1, .slice A2 p.code.length c2, .int .i64 p.go, .int .i64 p.test, .slice (some ⟨bn, on, none⟩) p.next.length c3, .slice (some ⟨ba, oa, none⟩) p.args.length c4] 54)
  have b2 := heap_alloc_new W1 (.cells #[.slice A1 p.params.length c1, .slice A2 p.code.length c2, .int .i64 p.go, .int .i64 p.test, .slice (some ⟨bn, on, none⟩) p.next.length c3, .slice (some ⟨ba, oa, none⟩) p.args.length c4] 54)
  have b1' := blk_alloc b1 (.cells #[.slice A1 p.params.length c1, .slice A2 p.code.length c2, .int .i64 p.go, .int .i64 p.test, .slice (some ⟨bn, on, none⟩) p.next.length c3, .slice (some ⟨ba, oa, none⟩) p.args.length c4] 54)
  obtain ⟨x1, _⟩ := cell_of_block b1'
  obtain ⟨x2, _⟩ := cell_of_block b2
  have Y0 := cell_below hB2 y0
  have Z0 := cell_below hB2 z0
  obtain ⟨W2, hW2⟩ : ∃ W2, W2 = W1.alloc (.cells #[.slice A1 p.params.length c1, .slice A2 p.code.length c2, .int .i64 p.go, .int .i64 p.test, .slice (some ⟨bn, on, none⟩) p.next.length c3, .slice (some ⟨ba, oa, none⟩) p.args.length c4] 54) := ⟨_, rfl⟩
  rw [← hW2] at hB2 x1 x2 Y0 Z0
  have e10 : W2.cell? ⟨w.heap.size, 0, none⟩ = some (.slice A s.parts.length c) := (x1 0).trans rfl
  have e11 : W2.cell? ⟨w.heap.size, 1, none⟩ = some (.int .i64 s.values) := (x1 1).trans rfl
  have e24 : W2.cell? ⟨W1.heap.size, 4, none⟩ = some (.slice (some ⟨bn, on, none⟩) p.next.length c3) := (x2 4).trans rfl
  have e25 : W2.cell? ⟨W1.heap.size, 5, none⟩ = some (.slice (some ⟨ba, oa, none⟩) p.args.length c4) := (x2 5).trans rfl
  rw [hz1] at e24 e25
  clear x1 x2 b1 b2 b1' hB1 y0 z0
  replace hW1 := Lib.hid hW1
  replace hW2 := Lib.hid hW2
  generalize hL1 : p.next.length = L1 at *
  generalize hL2 : a.length = L2 at *
  by_cases d1 : 1 < L1
  · have g1 : decide ((1 : Int) < (L1 : Int)) = true := decide_eq_true (by omega)
    by_cases d3 : 0 < L2
    · have g3 : decide ((0 : Int) < (L2 : Int)) = true := decide_eq_true (by omega)
      have HY : Hid (decide ((1 : Int) < (z : Int)) = critB s.parts p i) := Lib.hid (by rw [HX.out, decide_eq_true d1, decide_eq_true d3, Bool.and_true, Bool.true_and, decide_eq_decide]; omega)
      clear HX
      go_enter Try.func54, Try.ntmps54
      go_wp2_with fail
      rw [← hW1.out, ← hW2.out]
      go_region_held3 (fun w' => w'.cell? ⟨w.heap.size, 0, none⟩ = some (.slice A s.parts.length c) ∧ w'.cell? ⟨w.heap.size, 1, none⟩ = some (.int .i64 s.values) ∧ w'.cell? ⟨w.heap.size + 1, 4, none⟩ = some (.slice (some ⟨bn, on, none⟩) L1 c3) ∧ w'.cell? ⟨w.heap.size + 1, 5, none⟩ = some (.slice (some ⟨ba, oa, none⟩) p.args.length c4) ∧ w'.cell? ⟨bn, on + i, none⟩ = some (.int .i64 K) ∧ w'.cell? ⟨ba, oa + i, none⟩ = some (.slice Au L2 ku))
        (first | go_keep | (go_split_ands; refine ⟨?_, ?_, ?_, ?_, ?_, ?_⟩ <;> exact cell_below hb9 (by assumption)))
        ((go_at_call 86; refine (HC.out _ (below_drew hB2)).mono ?_; rintro e w9 ⟨rfl, hb9⟩))
      have hB9 := below_then hB2 (below_then (below_drew (Below.refl _ _)) hb9)
      go_wp2
      go_ret
      exact ⟨ret_bool HY.out, hB9⟩
    · have g3 : decide ((0 : Int) < (L2 : Int)) = false := decide_eq_false (by omega)
      have HY : Hid (critB s.parts p i = false) := Lib.hid (by rw [HX.out, decide_eq_false d3, Bool.and_false])
      clear HX HC
      go_enter Try.func54, Try.ntmps54
      go_wp2_with fail
      rw [← hW1.out, ← hW2.out]
      go_region
      go_wp2
      go_ret
      exact ⟨ret_bool HY.out.symm, by first | exact hB2 | exact below_drew hB2⟩
  · have g1 : decide ((1 : Int) < (L1 : Int)) = false := decide_eq_false (by omega)
    have HY : Hid (critB s.parts p i = false) := Lib.hid (by rw [HX.out, decide_eq_false d1, Bool.false_and, Bool.false_and])
    clear HX HC
    go_enter Try.func54, Try.ntmps54
    go_wp2_with fail
    rw [← hW1.out, ← hW2.out]
    go_region
    go_wp2
    go_ret
    exact ⟨ret_bool HY.out.symm, by first | exact hB2 | exact below_drew hB2⟩
end Go.Proofs.Ytmcnoeinjocimaa.L
