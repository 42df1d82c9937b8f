/- Joined texts, each of which was built by itself: Lv10 Lv11. -/
import Derived.Test.YtnfaibenekninaaFColour5
set_option linter.unusedVariables false
set_option linter.unusedSimpArgs false
namespace Go.Proofs.Ytnfaibenekninaa.L
open Go.RowKit
/-- A list of lists that a block holds. -/
structure AllSt (B0 bx : Nat) (FM : Nat → Prop) (M : List (List Int)) (W : World) : Prop where
  ex : ∃ mv, W.heap[bx]? = some (.cells #[mv] 67 (0, 0)) ∧ Ow false 25 (Rp.sl Rp.int) W FM mv M
  bd : ∀ q, FM q → B0 ≤ q ∧ q < W.heap.size ∧ q ≠ bx
theorem AllSt.below {B0 bx : Nat} {FM : Nat → Prop} {M : List (List Int)} {W W' : World} (h : AllSt B0 bx FM M W) (hb : Below W.heap.size W W') : AllSt B0 bx FM M W' := by
  obtain ⟨⟨mv, h1, h2⟩, h3⟩ := h
  exact ⟨⟨mv, blk_below h1 hb, h2.below hb⟩, fun q hq => by have := h3 q hq; have := hb.size; omega⟩
theorem AllSt.chg {B0 bx : Nat} {FM X : Nat → Prop} {M : List (List Int)} {W W' : World} (h : AllSt B0 bx FM M W) (hc : Chg X W W') (hx : ¬ X bx) (hF : ∀ q, FM q → ¬ X q) : AllSt B0 bx FM M W' := by
  obtain ⟨⟨mv, h1, h2⟩, h3⟩ := h
  exact ⟨⟨mv, hc.blk h1 hx, h2.move (hc.same hF)⟩, fun q hq => by have := h3 q hq; have := hc.size; omega⟩
theorem run_push {W : World} {FM G : Nat → Prop} {mv u : Value} {M : List (List Int)} {l : List Int} {bA : Nat} (hO : Ow false 25 (Rp.sl Rp.int) W FM mv M) (hb : W.heap[bA]? = some (.cells #[u] 25 (0, 0))) (hu : Rp.Rd Rp.int W G u l) (hG : ∀ q, G q → ¬ FM q) (hl : M.length ≤ 1000000000) :
    ∃ A' c' w', (Builtin.append_ #[67, 67] 67 #[mv, .slice (some ⟨bA, 0, none⟩) 1 1]).run Try.prog W = .ok (.slice A' (M.length + 1) c') w' ∧ Ow false 25 (Rp.sl Rp.int) w' (fun q => FM q ∨ G q ∨ W.heap.size ≤ q) (.slice A' (M.length + 1) c') (M ++ [l]) ∧ W.grownBy w' mv.ownBlock := by
  obtain ⟨i0, hi, hzz⟩ := Option.map_eq_some_iff.1 infoIntS
  simp only [Prod.mk.injEq] at hzz
  obtain ⟨hz0, hz1, hz2⟩ := hzz
  obtain ⟨xs, hown⟩ := hO.owns
  obtain ⟨v1, w1, hr, hown1, hg, hnl, hat⟩ := run_append_own_at (P := Try.prog) W 0 67 67 25 i0 (.slice none 0 0) 1 24 Try.underlying67 hi hz0 hz1 hz2 rfl (by decide) mv M.length xs hown ⟨bA, 0, none⟩ 1 1 [u] rfl
    (fun j v hv => World.news_of_block (cs := #[u]) (t := 25) (fr := (0, 0)) hb j v (by simpa using hv)) (by intro v hv; rw [List.mem_singleton.1 hv]; obtain ⟨A, c, rfl, _⟩ := hu; rfl) (by unfold maxLen; omega) (by omega) (Nat.zero_le _)
  have hat' : v1.ownBlock = mv.ownBlock ∨ ∃ b, v1.ownBlock = some b ∧ W.heap.size ≤ b := by
    rcases hat with hat | hat
    · exact .inl hat
    · exact .inr ⟨_, hat, Nat.le_refl _⟩
  have hO1 := Ow.snoc (w := W) (m := 1) (ys := [l]) (news := [u]) (G := fun q => FM q ∨ G q ∨ W.heap.size ≤ q) hO rfl (fun zs hzs => by rw [owns_unique hzs hown]; exact hown1) hg hat' (fun i q => i = 0 ∧ G q) (fun i y hy => by
      match i, hy with
      | 0, hy =>
        simp only [List.getElem?_cons_zero, Option.some.injEq] at hy
        subst hy
        exact ⟨_, rfl, hu.mono (fun q hq => ⟨rfl, hq⟩)⟩
      | i + 1, hy => simp at hy) (fun i q hq => ⟨hG q hq.2, .inr (.inl hq.2)⟩) (fun h => by cases h) (fun q hq => .inl hq) (fun q hq => .inr (.inr hq))
  obtain ⟨A', c', rfl, _, _⟩ := hO1.form1
  exact ⟨A', c', w1, hr, hO1, hg⟩
def nowB (x : Fl) (S : List Bool) : List Bool := if setsS x then S.set x.dst.toNat true else S
set_option maxRecDepth 100000 in
set_option maxHeartbeats 8000000 in
theorem see_calls {F Fn : Nat → Prop} (p : Pt) (N b o pb bx B0 i : Nat) (v1 v2 v3 v4 vS : Value) (S : List Bool) (FM : Nat → Prop) (M : List (List Int)) (W : World) (hpb : W.heap[pb]? = some (.cells #[.pointer (some ⟨b, o, none⟩)] 171 (0, 0))) (hp : partAt W b o p v1 v2 v3 v4)
    (h2 : Rp.Rd flat W F v2 p.code) (hB0W : B0 ≤ W.heap.size) (hA : AllSt B0 bx FM M W) (hS : Rp.Rd Rp.bool W Fn vS S) (hl : S.length = N) (hN0 : 0 < N) (hN : N ≤ 1000) (hi : i < p.code.length) (hin : PtIn p N) (hM : M.length ≤ 1000000000) :
    Calls Try.prog 175 #[.int .i64 i, vS, .pointer (some ⟨pb, 0, none⟩), .pointer (some ⟨bx, 0, none⟩)] W fun e w' => e = .returned (.tuple #[]) ∧ ∃ FM', AllSt B0 bx FM' (M ++ [listB (nowB p.code[i] S)]) w' ∧ (∀ q, FM' q → FM q ∨ W.heap.size ≤ q) ∧ Chg (fun q => q = bx ∨ FM q) W w' := by
  subst hl
  have hcl := Lib.hid (cloneB_calls _ S W hS (by omega))
  obtain ⟨AS, cS, rfl, _⟩ := id hS
  obtain ⟨A2, c2, rfl, _, _, hr2⟩ := rd_flat h2
  rcases hr2 with hnil | ⟨b2, o2, rfl, hb2, hca⟩
  · rw [hnil] at hi; simp at hi
  have hxx := hca i hi
  obtain ⟨hxd, _⟩ := hin.cd _ (List.getElem_mem hi)
  have q1 := hp.2.1
  have HDs := Lib.hid (fun x W => hasDst_calls x W)
  unfold flV at HDs
  have i1 : (i : Int) < (p.code.length : Int) := by omega
  clear hca h2 hp hin
  generalize p.code[i] = x at *
  have hfd : Hid (fD x.op = setsS x) := Lib.hid (fD_sets x)
  have HNw : Hid (nowB x S = if setsS x then S.set x.dst.toNat true else S) := Lib.hid rfl
  have i0 : (0 : Int) ≤ (i : Int) := Int.natCast_nonneg _
  obtain ⟨zp, _⟩ := cell_of_block hpb
  have zp0 : W.cell? ⟨pb, 0, none⟩ = some (.pointer (some ⟨b, o, none⟩)) := (zp 0).trans rfl
  clear zp
  go_enter Try.func175, Try.ntmps175
  go_wp2_with fail
  refine hcl.out.mono ?_
  rintro e w1 ⟨vn, rfl, hO, hB⟩
  have hO0 := hO
  obtain ⟨g, cn, rfl, hFg, hgl⟩ := hO.some_form hN0
  have hO := hO.bool_own
  have zp1 := cell_below hB zp0
  have q11 := cell_below hB q1
  obtain ⟨e0, e1, e2, e3, e4, e5⟩ := hxx.below hB
  have hb0 := below_new (w := w1) (.cells #[.int .i64 x.op, .int .i64 x.dO, .int .i64 x.dst, .int .i64 x.a, .int .i64 x.b, .int .i64 x.n] 108)
  have fb := heap_alloc_new w1 (.cells #[.int .i64 x.op, .int .i64 x.dO, .int .i64 x.dst, .int .i64 x.a, .int .i64 x.b, .int .i64 x.n] 108)
  obtain ⟨y1, _⟩ := cell_of_block fb
  obtain ⟨w2, hw2⟩ : ∃ w2, w2 = w1.alloc (.cells #[.int .i64 x.op, .int .i64 x.dO, .int .i64 x.dst, .int .i64 x.a, .int .i64 x.b, .int .i64 x.n] 108) := ⟨_, rfl⟩
  have y10 : (w1.alloc (.cells #[.int .i64 x.op, .int .i64 x.dO, .int .i64 x.dst, .int .i64 x.a, .int .i64 x.b, .int .i64 x.n] 108)).cell? ⟨w1.heap.size, 0, none⟩ = some (.int .i64 x.op) := (y1 0).trans rfl
  have y11 : (w1.alloc (.cells #[.int .i64 x.op, .int .i64 x.dO, .int .i64 x.dst, .int .i64 x.a, .int .i64 x.b, .int .i64 x.n] 108)).cell? ⟨w1.heap.size, 1, none⟩ = some (.int .i64 x.dO) := (y1 1).trans rfl
  have y12 : (w1.alloc (.cells #[.int .i64 x.op, .int .i64 x.dO, .int .i64 x.dst, .int .i64 x.a, .int .i64 x.b, .int .i64 x.n] 108)).cell? ⟨w1.heap.size, 2, none⟩ = some (.int .i64 x.dst) := (y1 2).trans rfl
  have y13 : (w1.alloc (.cells #[.int .i64 x.op, .int .i64 x.dO, .int .i64 x.dst, .int .i64 x.a, .int .i64 x.b, .int .i64 x.n] 108)).cell? ⟨w1.heap.size, 3, none⟩ = some (.int .i64 x.a) := (y1 3).trans rfl
  have y14 : (w1.alloc (.cells #[.int .i64 x.op, .int .i64 x.dO, .int .i64 x.dst, .int .i64 x.a, .int .i64 x.b, .int .i64 x.n] 108)).cell? ⟨w1.heap.size, 4, none⟩ = some (.int .i64 x.b) := (y1 4).trans rfl
  have y15 : (w1.alloc (.cells #[.int .i64 x.op, .int .i64 x.dO, .int .i64 x.dst, .int .i64 x.a, .int .i64 x.b, .int .i64 x.n] 108)).cell? ⟨w1.heap.size, 5, none⟩ = some (.int .i64 x.n) := (y1 5).trans rfl
  clear y1
  have HD1 := Lib.hid (HDs.out x (w1.alloc (.cells #[.int .i64 x.op, .int .i64 x.dO, .int .i64 x.dst, .int .i64 x.a, .int .i64 x.b, .int .i64 x.n] 108)))
  go_wp2_with fail
  refine HD1.out.mono ?_
  rintro e w3 ⟨rfl, hb3⟩
  rw [hfd.out]
  obtain ⟨_, hbxW⟩ : True ∧ bx < W.heap.size := ⟨trivial, by obtain ⟨⟨mv, h1, _⟩, _⟩ := hA; exact blk_lt h1⟩
  have HB3 := below_then hB (below_then hb0 hb3)
  have hO3 := hO.below (below_then hb0 hb3)
  have fb3 := blk_below fb hb3
  clear y10 y11 y12 y13 y14 y15 HD1 zp0 zp1 q1 q11 e0 e1 e2 e3 e4 e5 hxx hb0 hb3 fb hcl hO0 hB hpb hS hO hw2
  cases hst : setsS x
  · have HS1 : Hid (nowB x S = S) := Lib.hid (by rw [HNw.out, hst]; rfl)
    clear hst HNw fb3
    have HB4 := HB3
    have hO4 := hO3
    have hA4 := hA.below HB4
    obtain ⟨⟨mv, hbx0, hOm⟩, hFb⟩ := id hA4
    obtain ⟨Am, cm, rfl, _, _⟩ := hOm.form
    obtain ⟨zb, _⟩ := cell_of_block hbx0
    have hm0 : w3.cell? ⟨bx, 0, none⟩ = some (.slice Am M.length cm) := (zb 0).trans rfl
    have hbxl := blk_lt hbx0
    have hbx9 : bx < W.heap.size := hbxW
    have hs4 := HB4.size
    have hB0q : B0 ≤ W.heap.size := hB0W
    clear zb
    have hRd := hO4.rd.below (below_drew (Below.refl w3.heap.size w3))
    go_wp2_with fail
    refine wp_region_held_drew (S := (fun _ => True)) (by kernel_rfl) trivial (fun hH0 => ?_)
    refine wpAnyH_take (i := 1) (v := ?_) rfl (by kernel_rfl) (by kernel_rfl) (by kernel_rfl) (fun _ _ _ h => h) (Or.inl ⟨by rfl, ?_⟩) (by assumption) ?_
    rotate_left 1
    focus ((intro w hSw; (try dsimp only at hSw); go_simp); try with_reducible rfl)
    try simp only [Act.put, Array.getInternal_eq_getElem, List.getElem_toArray, List.getElem_cons_zero, List.getElem_cons_succ, List.setIfInBounds_toArray, List.set_cons_zero, List.set_cons_succ]
    refine wpAnyH_ready (rs := [0, 2]) (by kernel_rfl) (by simp) ?_
    refine AllReadyH.cons rfl (fun K1 hK1 => ?_) (AllReadyH.cons rfl (fun K1 hK1 => ?_) AllReadyH.nil)
    · go_simp
      refine hK1.out _ _ trivial (fun _ => ?_)
      clear hK1 K1
      try simp only [Act.put, List.setIfInBounds_toArray, List.set_cons_zero, List.set_cons_succ]
      refine wpAnyH_ready (rs := [2]) (by kernel_rfl) (by simp) ?_
      refine AllReadyH.cons rfl (fun K1 hK1 => ?_) AllReadyH.nil
      · go_simp
        go_at_call 53
        refine (listOf_calls _ S _ hRd (by omega)).mono ?_
        rintro e w5 ⟨v5, rfl, hv5, hb5⟩
        replace hb5 := below_then (below_drew (Below.refl w3.heap.size w3)) hb5
        obtain ⟨A5, c5, rfl, _, _⟩ := hv5.form
        have hm5 := cell_below hb5 hm0
        have hcc5 := blk_below hbx0 hb5
        have hOm5 := hOm.below hb5
        go_wp2_with fail
        refine hK1.out _ _ trivial (fun _ => ?_)
        clear hK1 K1
        try simp only [Act.put, List.setIfInBounds_toArray, List.set_cons_zero, List.set_cons_succ]
        refine wpAnyH_ready (rs := [3]) (by kernel_rfl) (by simp) ?_
        refine AllReadyH.cons rfl (fun K1 hK1 => ?_) AllReadyH.nil
        · have hb6 := below_new (w := w5) (.cells #[.slice A5 (listB S).length c5] 25)
          have hb6x := hb6
          have fb6 := heap_alloc_new w5 (.cells #[.slice A5 (listB S).length c5] 25)
          have hm6 := cell_below hb6 hm5
          have hcc6 := blk_below hcc5 hb6
          have hOm6 := hOm5.below hb6
          have hv6 := (hv5.rd.bound).below hb6
          have hs6 : (w5.alloc (.cells #[.slice A5 (listB S).length c5] 25)).heap.size = w5.heap.size + 1 := by simp
          have hBW6 := below_then HB4 (below_then hb5 hb6x)
          go_simp
          refine hK1.out _ _ trivial (fun _ => ?_)
          clear hK1 K1
          generalize w5.alloc (.cells #[.slice A5 (listB S).length c5] 25) = w6 at *
          try simp only [Act.put, List.setIfInBounds_toArray, List.set_cons_zero, List.set_cons_succ]
          refine wpAnyH_ready (rs := [4]) (by kernel_rfl) (by simp) ?_
          refine AllReadyH.cons rfl (fun K1 hK1 => ?_) AllReadyH.nil
          have hsW6 := hBW6.size
          obtain ⟨A7, c7, w7, hrn, hO7, hg7⟩ := run_push hOm6 fb6 hv6 (fun q hq h => by have h1 := hq.1; have h2 := hFb q h; simp only [Lib_hsd] at h1; omega) (by omega)
          rw [if_pos (by first | kernel_rfl | rfl | decide)]
          refine oper_append _ _ _ _ _ _ rfl (by rfl) (by rfl) hrn ?_
          try simp only [Act.put, Array.getInternal_eq_getElem, List.getElem_toArray, List.getElem_cons_zero, List.getElem_cons_succ, List.setIfInBounds_toArray, List.set_cons_zero, List.set_cons_succ]
          refine hK1.out _ _ trivial (fun _ => ?_)
          clear hK1 K1
          have hown : ∀ q, some q = (Value.slice Am M.length cm).ownBlock → FM q := fun q hq => own_in hOm6 (.inr hq.symm)
          have hbx7 := grown_blk hg7 hcc6 (fun he => (hA4.bd _ (hown _ he)).2.2 rfl)
          obtain ⟨zz, zf⟩ := cell_of_block hbx7
          have hm7 : w7.cell? ⟨bx, 0, none⟩ = some (.slice Am M.length cm) := (zz 0).trans rfl
          have hf7 := zf 0
          have hs7 := hg7.size
          have hbl := Go.one_setCell (u := .slice A7 (M.length + 1) c7) hbx7
          have hO8 := (hO7.bound).set_other (b := bx) (o := 0) (u := .slice A7 (M.length + 1) c7) (fun h => by
            obtain ⟨h1, h2⟩ := h
            rcases h1 with h1 | h1 | h1
            · exact (hA4.bd _ h1).2.2 rfl
            · have h3 := h1.1; simp only [Lib_hsd] at h3; omega
            · omega)
          have hC8 : Chg (fun q => q = bx ∨ FM q) W (w7.setCell ⟨bx, 0, none⟩ (.slice A7 (M.length + 1) c7)) := by
            have c1 : Chg (fun q => q = bx ∨ FM q) W w6 := Chg.of_below hBW6
            have c2 : Chg (fun q => q = bx ∨ FM q) w6 w7 := ⟨hg7.os, hg7.tape, hg7.output, hg7.size, fun q hq hn => hg7.block q hq (fun e => hn (.inr (hown q e)))⟩
            exact (c1.trans c2).trans (Chg.set (.inl rfl))
          have hs8 : (w7.setCell ⟨bx, 0, none⟩ (.slice A7 (M.length + 1) c7)).heap.size = w7.heap.size := by simp
          clear zz zf hrn hg7 hown
          refine wpAnyH_ready (rs := [5]) (by kernel_rfl) (by simp) ?_
          refine AllReadyH.cons rfl (fun K1 hK1 => ?_) AllReadyH.nil
          go_simp
          refine hK1.out _ _ trivial (fun _ => ?_)
          clear hK1 K1
          try simp only [Act.put, List.setIfInBounds_toArray, List.set_cons_zero, List.set_cons_succ]
          refine wpAnyH_done (by kernel_rfl) ?_ _
          go_wp2
          refine bodyPost_end (results_none (by first | rfl | exact Try.results175 | kernel_rfl) _ _ _) rfl ?_
          refine ⟨rfl, _, ⟨⟨_, hbl, by rw [HS1.out]; exact hO8⟩, fun q hq => ?_⟩, fun q hq => ?_, hC8⟩
          · obtain ⟨h1, h2⟩ := hq
            rw [hs8]
            rcases h1 with h1 | h1 | h1
            · have := hA4.bd _ h1; exact ⟨this.1, h2, this.2.2⟩
            · have h3 := h1.1; simp only [Lib_hsd] at h3; exact ⟨by omega, h2, by omega⟩
            · exact ⟨by omega, h2, by omega⟩
          · obtain ⟨h1, h2⟩ := hq
            rcases h1 with h1 | h1 | h1
            · exact .inl h1
            · have h3 := h1.1; simp only [Lib_hsd] at h3; exact .inr (by omega)
            · exact .inr (by omega)
    · go_simp
      go_at_call 53
      refine (listOf_calls _ S _ hRd (by omega)).mono ?_
      rintro e w5 ⟨v5, rfl, hv5, hb5⟩
      replace hb5 := below_then (below_drew (Below.refl w3.heap.size w3)) hb5
      obtain ⟨A5, c5, rfl, _, _⟩ := hv5.form
      have hm5 := cell_below hb5 hm0
      have hcc5 := blk_below hbx0 hb5
      have hOm5 := hOm.below hb5
      go_wp2_with fail
      refine hK1.out _ _ trivial (fun _ => ?_)
      clear hK1 K1
      try simp only [Act.put, List.setIfInBounds_toArray, List.set_cons_zero, List.set_cons_succ]
      refine wpAnyH_ready (rs := [0, 3]) (by kernel_rfl) (by simp) ?_
      refine AllReadyH.cons rfl (fun K1 hK1 => ?_) (AllReadyH.cons rfl (fun K1 hK1 => ?_) AllReadyH.nil)
      · go_simp
        refine hK1.out _ _ trivial (fun _ => ?_)
        clear hK1 K1
        try simp only [Act.put, List.setIfInBounds_toArray, List.set_cons_zero, List.set_cons_succ]
        refine wpAnyH_ready (rs := [3]) (by kernel_rfl) (by simp) ?_
        refine AllReadyH.cons rfl (fun K1 hK1 => ?_) AllReadyH.nil
        · have hb6 := below_new (w := w5) (.cells #[.slice A5 (listB S).length c5] 25)
          have hb6x := hb6
          have fb6 := heap_alloc_new w5 (.cells #[.slice A5 (listB S).length c5] 25)
          have hm6 := cell_below hb6 hm5
          have hcc6 := blk_below hcc5 hb6
          have hOm6 := hOm5.below hb6
          have hv6 := (hv5.rd.bound).below hb6
          have hs6 : (w5.alloc (.cells #[.slice A5 (listB S).length c5] 25)).heap.size = w5.heap.size + 1 := by simp
          have hBW6 := below_then HB4 (below_then hb5 hb6x)
          go_simp
          refine hK1.out _ _ trivial (fun _ => ?_)
          clear hK1 K1
          generalize w5.alloc (.cells #[.slice A5 (listB S).length c5] 25) = w6 at *
          try simp only [Act.put, List.setIfInBounds_toArray, List.set_cons_zero, List.set_cons_succ]
          refine wpAnyH_ready (rs := [4]) (by kernel_rfl) (by simp) ?_
          refine AllReadyH.cons rfl (fun K1 hK1 => ?_) AllReadyH.nil
          have hsW6 := hBW6.size
          obtain ⟨A7, c7, w7, hrn, hO7, hg7⟩ := run_push hOm6 fb6 hv6 (fun q hq h => by have h1 := hq.1; have h2 := hFb q h; simp only [Lib_hsd] at h1; omega) (by omega)
          rw [if_pos (by first | kernel_rfl | rfl | decide)]
          refine oper_append _ _ _ _ _ _ rfl (by rfl) (by rfl) hrn ?_
          try simp only [Act.put, Array.getInternal_eq_getElem, List.getElem_toArray, List.getElem_cons_zero, List.getElem_cons_succ, List.setIfInBounds_toArray, List.set_cons_zero, List.set_cons_succ]
          refine hK1.out _ _ trivial (fun _ => ?_)
          clear hK1 K1
          have hown : ∀ q, some q = (Value.slice Am M.length cm).ownBlock → FM q := fun q hq => own_in hOm6 (.inr hq.symm)
          have hbx7 := grown_blk hg7 hcc6 (fun he => (hA4.bd _ (hown _ he)).2.2 rfl)
          obtain ⟨zz, zf⟩ := cell_of_block hbx7
          have hm7 : w7.cell? ⟨bx, 0, none⟩ = some (.slice Am M.length cm) := (zz 0).trans rfl
          have hf7 := zf 0
          have hs7 := hg7.size
          have hbl := Go.one_setCell (u := .slice A7 (M.length + 1) c7) hbx7
          have hO8 := (hO7.bound).set_other (b := bx) (o := 0) (u := .slice A7 (M.length + 1) c7) (fun h => by
            obtain ⟨h1, h2⟩ := h
            rcases h1 with h1 | h1 | h1
            · exact (hA4.bd _ h1).2.2 rfl
            · have h3 := h1.1; simp only [Lib_hsd] at h3; omega
            · omega)
          have hC8 : Chg (fun q => q = bx ∨ FM q) W (w7.setCell ⟨bx, 0, none⟩ (.slice A7 (M.length + 1) c7)) := by
            have c1 : Chg (fun q => q = bx ∨ FM q) W w6 := Chg.of_below hBW6
            have c2 : Chg (fun q => q = bx ∨ FM q) w6 w7 := ⟨hg7.os, hg7.tape, hg7.output, hg7.size, fun q hq hn => hg7.block q hq (fun e => hn (.inr (hown q e)))⟩
            exact (c1.trans c2).trans (Chg.set (.inl rfl))
          have hs8 : (w7.setCell ⟨bx, 0, none⟩ (.slice A7 (M.length + 1) c7)).heap.size = w7.heap.size := by simp
          clear zz zf hrn hg7 hown
          refine wpAnyH_ready (rs := [5]) (by kernel_rfl) (by simp) ?_
          refine AllReadyH.cons rfl (fun K1 hK1 => ?_) AllReadyH.nil
          go_simp
          refine hK1.out _ _ trivial (fun _ => ?_)
          clear hK1 K1
          try simp only [Act.put, List.setIfInBounds_toArray, List.set_cons_zero, List.set_cons_succ]
          refine wpAnyH_done (by kernel_rfl) ?_ _
          go_wp2
          refine bodyPost_end (results_none (by first | rfl | exact Try.results175 | kernel_rfl) _ _ _) rfl ?_
          refine ⟨rfl, _, ⟨⟨_, hbl, by rw [HS1.out]; exact hO8⟩, fun q hq => ?_⟩, fun q hq => ?_, hC8⟩
          · obtain ⟨h1, h2⟩ := hq
            rw [hs8]
            rcases h1 with h1 | h1 | h1
            · have := hA4.bd _ h1; exact ⟨this.1, h2, this.2.2⟩
            · have h3 := h1.1; simp only [Lib_hsd] at h3; exact ⟨by omega, h2, by omega⟩
            · exact ⟨by omega, h2, by omega⟩
          · obtain ⟨h1, h2⟩ := hq
            rcases h1 with h1 | h1 | h1
            · exact .inl h1
            · have h3 := h1.1; simp only [Lib_hsd] at h3; exact .inr (by omega)
            · exact .inr (by omega)
      · have hb6 := below_new (w := w5) (.cells #[.slice A5 (listB S).length c5] 25)
        have hb6x := hb6
        have fb6 := heap_alloc_new w5 (.cells #[.slice A5 (listB S).length c5] 25)
        have hm6 := cell_below hb6 hm5
        have hcc6 := blk_below hcc5 hb6
        have hOm6 := hOm5.below hb6
        have hv6 := (hv5.rd.bound).below hb6
        have hs6 : (w5.alloc (.cells #[.slice A5 (listB S).length c5] 25)).heap.size = w5.heap.size + 1 := by simp
        have hBW6 := below_then HB4 (below_then hb5 hb6x)
        go_simp
        refine hK1.out _ _ trivial (fun _ => ?_)
        clear hK1 K1
        generalize w5.alloc (.cells #[.slice A5 (listB S).length c5] 25) = w6 at *
        try simp only [Act.put, List.setIfInBounds_toArray, List.set_cons_zero, List.set_cons_succ]
        refine wpAnyH_ready (rs := [0]) (by kernel_rfl) (by simp) ?_
        refine AllReadyH.cons rfl (fun K1 hK1 => ?_) AllReadyH.nil
        · go_simp
          refine hK1.out _ _ trivial (fun _ => ?_)
          clear hK1 K1
          try simp only [Act.put, List.setIfInBounds_toArray, List.set_cons_zero, List.set_cons_succ]
          refine wpAnyH_ready (rs := [4]) (by kernel_rfl) (by simp) ?_
          refine AllReadyH.cons rfl (fun K1 hK1 => ?_) AllReadyH.nil
          have hsW6 := hBW6.size
          obtain ⟨A7, c7, w7, hrn, hO7, hg7⟩ := run_push hOm6 fb6 hv6 (fun q hq h => by have h1 := hq.1; have h2 := hFb q h; simp only [Lib_hsd] at h1; omega) (by omega)
          rw [if_pos (by first | kernel_rfl | rfl | decide)]
          refine oper_append _ _ _ _ _ _ rfl (by rfl) (by rfl) hrn ?_
          try simp only [Act.put, Array.getInternal_eq_getElem, List.getElem_toArray, List.getElem_cons_zero, List.getElem_cons_succ, List.setIfInBounds_toArray, List.set_cons_zero, List.set_cons_succ]
          refine hK1.out _ _ trivial (fun _ => ?_)
          clear hK1 K1
          have hown : ∀ q, some q = (Value.slice Am M.length cm).ownBlock → FM q := fun q hq => own_in hOm6 (.inr hq.symm)
          have hbx7 := grown_blk hg7 hcc6 (fun he => (hA4.bd _ (hown _ he)).2.2 rfl)
          obtain ⟨zz, zf⟩ := cell_of_block hbx7
          have hm7 : w7.cell? ⟨bx, 0, none⟩ = some (.slice Am M.length cm) := (zz 0).trans rfl
          have hf7 := zf 0
          have hs7 := hg7.size
          have hbl := Go.one_setCell (u := .slice A7 (M.length + 1) c7) hbx7
          have hO8 := (hO7.bound).set_other (b := bx) (o := 0) (u := .slice A7 (M.length + 1) c7) (fun h => by
            obtain ⟨h1, h2⟩ := h
            rcases h1 with h1 | h1 | h1
            · exact (hA4.bd _ h1).2.2 rfl
            · have h3 := h1.1; simp only [Lib_hsd] at h3; omega
            · omega)
          have hC8 : Chg (fun q => q = bx ∨ FM q) W (w7.setCell ⟨bx, 0, none⟩ (.slice A7 (M.length + 1) c7)) := by
            have c1 : Chg (fun q => q = bx ∨ FM q) W w6 := Chg.of_below hBW6
            have c2 : Chg (fun q => q = bx ∨ FM q) w6 w7 := ⟨hg7.os, hg7.tape, hg7.output, hg7.size, fun q hq hn => hg7.block q hq (fun e => hn (.inr (hown q e)))⟩
            exact (c1.trans c2).trans (Chg.set (.inl rfl))
          have hs8 : (w7.setCell ⟨bx, 0, none⟩ (.slice A7 (M.length + 1) c7)).heap.size = w7.heap.size := by simp
          clear zz zf hrn hg7 hown
          refine wpAnyH_ready (rs := [5]) (by kernel_rfl) (by simp) ?_
          refine AllReadyH.cons rfl (fun K1 hK1 => ?_) AllReadyH.nil
          go_simp
          refine hK1.out _ _ trivial (fun _ => ?_)
          clear hK1 K1
          try simp only [Act.put, List.setIfInBounds_toArray, List.set_cons_zero, List.set_cons_succ]
          refine wpAnyH_done (by kernel_rfl) ?_ _
          go_wp2
          refine bodyPost_end (results_none (by first | rfl | exact Try.results175 | kernel_rfl) _ _ _) rfl ?_
          refine ⟨rfl, _, ⟨⟨_, hbl, by rw [HS1.out]; exact hO8⟩, fun q hq => ?_⟩, fun q hq => ?_, hC8⟩
          · obtain ⟨h1, h2⟩ := hq
            rw [hs8]
            rcases h1 with h1 | h1 | h1
            · have := hA4.bd _ h1; exact ⟨this.1, h2, this.2.2⟩
            · have h3 := h1.1; simp only [Lib_hsd] at h3; exact ⟨by omega, h2, by omega⟩
            · exact ⟨by omega, h2, by omega⟩
          · obtain ⟨h1, h2⟩ := hq
            rcases h1 with h1 | h1 | h1
            · exact .inl h1
            · have h3 := h1.1; simp only [Lib_hsd] at h3; exact .inr (by omega)
            · exact .inr (by omega)
  · have HS1 : Hid (nowB x S = S.set x.dst.toNat true) := Lib.hid (by rw [HNw.out, hst]; rfl)
    obtain ⟨hd0, hd1⟩ := hxd hst
    clear hst HNw
    obtain ⟨z1, _⟩ := cell_of_block fb3
    have z12 : w3.cell? ⟨w1.heap.size, 2, none⟩ = some (.int .i64 x.dst) := (z1 2).trans rfl
    clear z1
    have hbd := below_new (w := w3) (.cells #[.int .i64 x.dst] 3)
    have HAd := Lib.hid (setAddN_calls g cn S.length S _ [x.dst] (fun q => q = g) _ rfl (hO3.below hbd) (rd_new1 w3 x.dst) (fun q hq h => by have h : q = g := h; have := (hO3.lt_size (k := g) rfl).2; omega) (fun v hv => by rw [List.mem_singleton.1 hv]; exact ⟨hd0, hd1⟩))
    go_wp2_with fail
    refine HAd.out.mono ?_
    rintro e w4 ⟨rfl, hO4, hC4⟩
    have HB4 := hC4.to_below (below_then HB3 hbd) (below_then HB3 hbd).size (fun q hq => by have hq : q = g := hq; omega)
    have hAdd : addB S [x.dst] = S.set x.dst.toNat true := rfl
    rw [hAdd] at hO4
    clear HAd hbd hC4 z12 fb3 hO3 HB3 hAdd
    obtain ⟨S1, hS1⟩ : ∃ S1, S1 = S.set x.dst.toNat true := ⟨_, rfl⟩
    have hS1l : S1.length = S.length := by rw [hS1, List.length_set]
    rw [← hS1] at HS1 hO4
    clear hS1
    have hA4 := hA.below HB4
    obtain ⟨⟨mv, hbx0, hOm⟩, hFb⟩ := id hA4
    obtain ⟨Am, cm, rfl, _, _⟩ := hOm.form
    obtain ⟨zb, _⟩ := cell_of_block hbx0
    have hm0 : w4.cell? ⟨bx, 0, none⟩ = some (.slice Am M.length cm) := (zb 0).trans rfl
    have hbxl := blk_lt hbx0
    have hbx9 : bx < W.heap.size := hbxW
    have hs4 := HB4.size
    have hB0q : B0 ≤ W.heap.size := hB0W
    clear zb
    have hRd := hO4.rd.below (below_drew (Below.refl w4.heap.size w4))
    go_wp2_with fail
    refine wp_region_held_drew (S := (fun _ => True)) (by kernel_rfl) trivial (fun hH0 => ?_)
    refine wpAnyH_take (i := 1) (v := ?_) rfl (by kernel_rfl) (by kernel_rfl) (by kernel_rfl) (fun _ _ _ h => h) (Or.inl ⟨by rfl, ?_⟩) (by assumption) ?_
    rotate_left 1
    focus ((intro w hSw; (try dsimp only at hSw); go_simp); try with_reducible rfl)
    try simp only [Act.put, Array.getInternal_eq_getElem, List.getElem_toArray, List.getElem_cons_zero, List.getElem_cons_succ, List.setIfInBounds_toArray, List.set_cons_zero, List.set_cons_succ]
    refine wpAnyH_ready (rs := [0, 2]) (by kernel_rfl) (by simp) ?_
    refine AllReadyH.cons rfl (fun K1 hK1 => ?_) (AllReadyH.cons rfl (fun K1 hK1 => ?_) AllReadyH.nil)
    · go_simp
      refine hK1.out _ _ trivial (fun _ => ?_)
      clear hK1 K1
      try simp only [Act.put, List.setIfInBounds_toArray, List.set_cons_zero, List.set_cons_succ]
      refine wpAnyH_ready (rs := [2]) (by kernel_rfl) (by simp) ?_
      refine AllReadyH.cons rfl (fun K1 hK1 => ?_) AllReadyH.nil
      · go_simp
        go_at_call 53
        refine (listOf_calls _ S1 _ hRd (by omega)).mono ?_
        rintro e w5 ⟨v5, rfl, hv5, hb5⟩
        replace hb5 := below_then (below_drew (Below.refl w4.heap.size w4)) hb5
        obtain ⟨A5, c5, rfl, _, _⟩ := hv5.form
        have hm5 := cell_below hb5 hm0
        have hcc5 := blk_below hbx0 hb5
        have hOm5 := hOm.below hb5
        go_wp2_with fail
        refine hK1.out _ _ trivial (fun _ => ?_)
        clear hK1 K1
        try simp only [Act.put, List.setIfInBounds_toArray, List.set_cons_zero, List.set_cons_succ]
        refine wpAnyH_ready (rs := [3]) (by kernel_rfl) (by simp) ?_
        refine AllReadyH.cons rfl (fun K1 hK1 => ?_) AllReadyH.nil
        · have hb6 := below_new (w := w5) (.cells #[.slice A5 (listB S1).length c5] 25)
          have hb6x := hb6
          have fb6 := heap_alloc_new w5 (.cells #[.slice A5 (listB S1).length c5] 25)
          have hm6 := cell_below hb6 hm5
          have hcc6 := blk_below hcc5 hb6
          have hOm6 := hOm5.below hb6
          have hv6 := (hv5.rd.bound).below hb6
          have hs6 : (w5.alloc (.cells #[.slice A5 (listB S1).length c5] 25)).heap.size = w5.heap.size + 1 := by simp
          have hBW6 := below_then HB4 (below_then hb5 hb6x)
          go_simp
          refine hK1.out _ _ trivial (fun _ => ?_)
          clear hK1 K1
          generalize w5.alloc (.cells #[.slice A5 (listB S1).length c5] 25) = w6 at *
          try simp only [Act.put, List.setIfInBounds_toArray, List.set_cons_zero, List.set_cons_succ]
          refine wpAnyH_ready (rs := [4]) (by kernel_rfl) (by simp) ?_
          refine AllReadyH.cons rfl (fun K1 hK1 => ?_) AllReadyH.nil
          have hsW6 := hBW6.size
          obtain ⟨A7, c7, w7, hrn, hO7, hg7⟩ := run_push hOm6 fb6 hv6 (fun q hq h => by have h1 := hq.1; have h2 := hFb q h; simp only [Lib_hsd] at h1; omega) (by omega)
          rw [if_pos (by first | kernel_rfl | rfl | decide)]
          refine oper_append _ _ _ _ _ _ rfl (by rfl) (by rfl) hrn ?_
          try simp only [Act.put, Array.getInternal_eq_getElem, List.getElem_toArray, List.getElem_cons_zero, List.getElem_cons_succ, List.setIfInBounds_toArray, List.set_cons_zero, List.set_cons_succ]
          refine hK1.out _ _ trivial (fun _ => ?_)
          clear hK1 K1
          have hown : ∀ q, some q = (Value.slice Am M.length cm).ownBlock → FM q := fun q hq => own_in hOm6 (.inr hq.symm)
          have hbx7 := grown_blk hg7 hcc6 (fun he => (hA4.bd _ (hown _ he)).2.2 rfl)
          obtain ⟨zz, zf⟩ := cell_of_block hbx7
          have hm7 : w7.cell? ⟨bx, 0, none⟩ = some (.slice Am M.length cm) := (zz 0).trans rfl
          have hf7 := zf 0
          have hs7 := hg7.size
          have hbl := Go.one_setCell (u := .slice A7 (M.length + 1) c7) hbx7
          have hO8 := (hO7.bound).set_other (b := bx) (o := 0) (u := .slice A7 (M.length + 1) c7) (fun h => by
            obtain ⟨h1, h2⟩ := h
            rcases h1 with h1 | h1 | h1
            · exact (hA4.bd _ h1).2.2 rfl
            · have h3 := h1.1; simp only [Lib_hsd] at h3; omega
            · omega)
          have hC8 : Chg (fun q => q = bx ∨ FM q) W (w7.setCell ⟨bx, 0, none⟩ (.slice A7 (M.length + 1) c7)) := by
            have c1 : Chg (fun q => q = bx ∨ FM q) W w6 := Chg.of_below hBW6
            have c2 : Chg (fun q => q = bx ∨ FM q) w6 w7 := ⟨hg7.os, hg7.tape, hg7.output, hg7.size, fun q hq hn => hg7.block q hq (fun e => hn (.inr (hown q e)))⟩
            exact (c1.trans c2).trans (Chg.set (.inl rfl))
          have hs8 : (w7.setCell ⟨bx, 0, none⟩ (.slice A7 (M.length + 1) c7)).heap.size = w7.heap.size := by simp
          clear zz zf hrn hg7 hown
          refine wpAnyH_ready (rs := [5]) (by kernel_rfl) (by simp) ?_
          refine AllReadyH.cons rfl (fun K1 hK1 => ?_) AllReadyH.nil
          go_simp
          refine hK1.out _ _ trivial (fun _ => ?_)
          clear hK1 K1
          try simp only [Act.put, List.setIfInBounds_toArray, List.set_cons_zero, List.set_cons_succ]
          refine wpAnyH_done (by kernel_rfl) ?_ _
          go_wp2
          refine bodyPost_end (results_none (by first | rfl | exact Try.results175 | kernel_rfl) _ _ _) rfl ?_
          refine ⟨rfl, _, ⟨⟨_, hbl, by rw [HS1.out]; exact hO8⟩, fun q hq => ?_⟩, fun q hq => ?_, hC8⟩
          · obtain ⟨h1, h2⟩ := hq
            rw [hs8]
            rcases h1 with h1 | h1 | h1
            · have := hA4.bd _ h1; exact ⟨this.1, h2, this.2.2⟩
            · have h3 := h1.1; simp only [Lib_hsd] at h3; exact ⟨by omega, h2, by omega⟩
            · exact ⟨by omega, h2, by omega⟩
          · obtain ⟨h1, h2⟩ := hq
            rcases h1 with h1 | h1 | h1
            · exact .inl h1
            · have h3 := h1.1; simp only [Lib_hsd] at h3; exact .inr (by omega)
            · exact .inr (by omega)
    · go_simp
      go_at_call 53
      refine (listOf_calls _ S1 _ hRd (by omega)).mono ?_
      rintro e w5 ⟨v5, rfl, hv5, hb5⟩
      replace hb5 := below_then (below_drew (Below.refl w4.heap.size w4)) hb5
      obtain ⟨A5, c5, rfl, _, _⟩ := hv5.form
      have hm5 := cell_below hb5 hm0
      have hcc5 := blk_below hbx0 hb5
      have hOm5 := hOm.below hb5
      go_wp2_with fail
      refine hK1.out _ _ trivial (fun _ => ?_)
      clear hK1 K1
      try simp only [Act.put, List.setIfInBounds_toArray, List.set_cons_zero, List.set_cons_succ]
      refine wpAnyH_ready (rs := [0, 3]) (by kernel_rfl) (by simp) ?_
      refine AllReadyH.cons rfl (fun K1 hK1 => ?_) (AllReadyH.cons rfl (fun K1 hK1 => ?_) AllReadyH.nil)
      · go_simp
        refine hK1.out _ _ trivial (fun _ => ?_)
        clear hK1 K1
        try simp only [Act.put, List.setIfInBounds_toArray, List.set_cons_zero, List.set_cons_succ]
        refine wpAnyH_ready (rs := [3]) (by kernel_rfl) (by simp) ?_
        refine AllReadyH.cons rfl (fun K1 hK1 => ?_) AllReadyH.nil
        · have hb6 := below_new (w := w5) (.cells #[.slice A5 (listB S1).length c5] 25)
          have hb6x := hb6
          have fb6 := heap_alloc_new w5 (.cells #[.slice A5 (listB S1).length c5] 25)
          have hm6 := cell_below hb6 hm5
          have hcc6 := blk_below hcc5 hb6
          have hOm6 := hOm5.below hb6
          have hv6 := (hv5.rd.bound).below hb6
          have hs6 : (w5.alloc (.cells #[.slice A5 (listB S1).length c5] 25)).heap.size = w5.heap.size + 1 := by simp
          have hBW6 := below_then HB4 (below_then hb5 hb6x)
          go_simp
          refine hK1.out _ _ trivial (fun _ => ?_)
          clear hK1 K1
          generalize w5.alloc (.cells #[.slice A5 (listB S1).length c5] 25) = w6 at *
          try simp only [Act.put, List.setIfInBounds_toArray, List.set_cons_zero, List.set_cons_succ]
          refine wpAnyH_ready (rs := [4]) (by kernel_rfl) (by simp) ?_
          refine AllReadyH.cons rfl (fun K1 hK1 => ?_) AllReadyH.nil
          have hsW6 := hBW6.size
          obtain ⟨A7, c7, w7, hrn, hO7, hg7⟩ := run_push hOm6 fb6 hv6 (fun q hq h => by have h1 := hq.1; have h2 := hFb q h; simp only [Lib_hsd] at h1; omega) (by omega)
          rw [if_pos (by first | kernel_rfl | rfl | decide)]
          refine oper_append _ _ _ _ _ _ rfl (by rfl) (by rfl) hrn ?_
          try simp only [Act.put, Array.getInternal_eq_getElem, List.getElem_toArray, List.getElem_cons_zero, List.getElem_cons_succ, List.setIfInBounds_toArray, List.set_cons_zero, List.set_cons_succ]
          refine hK1.out _ _ trivial (fun _ => ?_)
          clear hK1 K1
          have hown : ∀ q, some q = (Value.slice Am M.length cm).ownBlock → FM q := fun q hq => own_in hOm6 (.inr hq.symm)
          have hbx7 := grown_blk hg7 hcc6 (fun he => (hA4.bd _ (hown _ he)).2.2 rfl)
          obtain ⟨zz, zf⟩ := cell_of_block hbx7
          have hm7 : w7.cell? ⟨bx, 0, none⟩ = some (.slice Am M.length cm) := (zz 0).trans rfl
          have hf7 := zf 0
          have hs7 := hg7.size
          have hbl := Go.one_setCell (u := .slice A7 (M.length + 1) c7) hbx7
          have hO8 := (hO7.bound).set_other (b := bx) (o := 0) (u := .slice A7 (M.length + 1) c7) (fun h => by
            obtain ⟨h1, h2⟩ := h
            rcases h1 with h1 | h1 | h1
            · exact (hA4.bd _ h1).2.2 rfl
            · have h3 := h1.1; simp only [Lib_hsd] at h3; omega
            · omega)
          have hC8 : Chg (fun q => q = bx ∨ FM q) W (w7.setCell ⟨bx, 0, none⟩ (.slice A7 (M.length + 1) c7)) := by
            have c1 : Chg (fun q => q = bx ∨ FM q) W w6 := Chg.of_below hBW6
            have c2 : Chg (fun q => q = bx ∨ FM q) w6 w7 := ⟨hg7.os, hg7.tape, hg7.output, hg7.size, fun q hq hn => hg7.block q hq (fun e => hn (.inr (hown q e)))⟩
            exact (c1.trans c2).trans (Chg.set (.inl rfl))
          have hs8 : (w7.setCell ⟨bx, 0, none⟩ (.slice A7 (M.length + 1) c7)).heap.size = w7.heap.size := by simp
          clear zz zf hrn hg7 hown
          refine wpAnyH_ready (rs := [5]) (by kernel_rfl) (by simp) ?_
          refine AllReadyH.cons rfl (fun K1 hK1 => ?_) AllReadyH.nil
          go_simp
          refine hK1.out _ _ trivial (fun _ => ?_)
          clear hK1 K1
          try simp only [Act.put, List.setIfInBounds_toArray, List.set_cons_zero, List.set_cons_succ]
          refine wpAnyH_done (by kernel_rfl) ?_ _
          go_wp2
          refine bodyPost_end (results_none (by first | rfl | exact Try.results175 | kernel_rfl) _ _ _) rfl ?_
          refine ⟨rfl, _, ⟨⟨_, hbl, by rw [HS1.out]; exact hO8⟩, fun q hq => ?_⟩, fun q hq => ?_, hC8⟩
          · obtain ⟨h1, h2⟩ := hq
            rw [hs8]
            rcases h1 with h1 | h1 | h1
            · have := hA4.bd _ h1; exact ⟨this.1, h2, this.2.2⟩
            · have h3 := h1.1; simp only [Lib_hsd] at h3; exact ⟨by omega, h2, by omega⟩
            · exact ⟨by omega, h2, by omega⟩
          · obtain ⟨h1, h2⟩ := hq
            rcases h1 with h1 | h1 | h1
            · exact .inl h1
            · have h3 := h1.1; simp only [Lib_hsd] at h3; exact .inr (by omega)
            · exact .inr (by omega)
      · have hb6 := below_new (w := w5) (.cells #[.slice A5 (listB S1).length c5] 25)
        have hb6x := hb6
        have fb6 := heap_alloc_new w5 (.cells #[.slice A5 (listB S1).length c5] 25)
        have hm6 := cell_below hb6 hm5
        have hcc6 := blk_below hcc5 hb6
        have hOm6 := hOm5.below hb6
        have hv6 := (hv5.rd.bound).below hb6
        have hs6 : (w5.alloc (.cells #[.slice A5 (listB S1).length c5] 25)).heap.size = w5.heap.size + 1 := by simp
        have hBW6 := below_then HB4 (below_then hb5 hb6x)
        go_simp
        refine hK1.out _ _ trivial (fun _ => ?_)
        clear hK1 K1
        generalize w5.alloc (.cells #[.slice A5 (listB S1).length c5] 25) = w6 at *
        try simp only [Act.put, List.setIfInBounds_toArray, List.set_cons_zero, List.set_cons_succ]
        refine wpAnyH_ready (rs := [0]) (by kernel_rfl) (by simp) ?_
        refine AllReadyH.cons rfl (fun K1 hK1 => ?_) AllReadyH.nil
        · go_simp
          refine hK1.out _ _ trivial (fun _ => ?_)
          clear hK1 K1
          try simp only [Act.put, List.setIfInBounds_toArray, List.set_cons_zero, List.set_cons_succ]
          refine wpAnyH_ready (rs := [4]) (by kernel_rfl) (by simp) ?_
          refine AllReadyH.cons rfl (fun K1 hK1 => ?_) AllReadyH.nil
          have hsW6 := hBW6.size
          obtain ⟨A7, c7, w7, hrn, hO7, hg7⟩ := run_push hOm6 fb6 hv6 (fun q hq h => by have h1 := hq.1; have h2 := hFb q h; simp only [Lib_hsd] at h1; omega) (by omega)
          rw [if_pos (by first | kernel_rfl | rfl | decide)]
          refine oper_append _ _ _ _ _ _ rfl (by rfl) (by rfl) hrn ?_
          try simp only [Act.put, Array.getInternal_eq_getElem, List.getElem_toArray, List.getElem_cons_zero, List.getElem_cons_succ, List.setIfInBounds_toArray, List.set_cons_zero, List.set_cons_succ]
          refine hK1.out _ _ trivial (fun _ => ?_)
          clear hK1 K1
          have hown : ∀ q, some q = (Value.slice Am M.length cm).ownBlock → FM q := fun q hq => own_in hOm6 (.inr hq.symm)
          have hbx7 := grown_blk hg7 hcc6 (fun he => (hA4.bd _ (hown _ he)).2.2 rfl)
          obtain ⟨zz, zf⟩ := cell_of_block hbx7
          have hm7 : w7.cell? ⟨bx, 0, none⟩ = some (.slice Am M.length cm) := (zz 0).trans rfl
          have hf7 := zf 0
          have hs7 := hg7.size
          have hbl := Go.one_setCell (u := .slice A7 (M.length + 1) c7) hbx7
          have hO8 := (hO7.bound).set_other (b := bx) (o := 0) (u := .slice A7 (M.length + 1) c7) (fun h => by
            obtain ⟨h1, h2⟩ := h
            rcases h1 with h1 | h1 | h1
            · exact (hA4.bd _ h1).2.2 rfl
            · have h3 := h1.1; simp only [Lib_hsd] at h3; omega
            · omega)
          have hC8 : Chg (fun q => q = bx ∨ FM q) W (w7.setCell ⟨bx, 0, none⟩ (.slice A7 (M.length + 1) c7)) := by
            have c1 : Chg (fun q => q = bx ∨ FM q) W w6 := Chg.of_below hBW6
            have c2 : Chg (fun q => q = bx ∨ FM q) w6 w7 := ⟨hg7.os, hg7.tape, hg7.output, hg7.size, fun q hq hn => hg7.block q hq (fun e => hn (.inr (hown q e)))⟩
            exact (c1.trans c2).trans (Chg.set (.inl rfl))
          have hs8 : (w7.setCell ⟨bx, 0, none⟩ (.slice A7 (M.length + 1) c7)).heap.size = w7.heap.size := by simp
          clear zz zf hrn hg7 hown
          refine wpAnyH_ready (rs := [5]) (by kernel_rfl) (by simp) ?_
          refine AllReadyH.cons rfl (fun K1 hK1 => ?_) AllReadyH.nil
          go_simp
          refine hK1.out _ _ trivial (fun _ => ?_)
          clear hK1 K1
          try simp only [Act.put, List.setIfInBounds_toArray, List.set_cons_zero, List.set_cons_succ]
          refine wpAnyH_done (by kernel_rfl) ?_ _
          go_wp2
          refine bodyPost_end (results_none (by first | rfl | exact Try.results175 | kernel_rfl) _ _ _) rfl ?_
          refine ⟨rfl, _, ⟨⟨_, hbl, by rw [HS1.out]; exact hO8⟩, fun q hq => ?_⟩, fun q hq => ?_, hC8⟩
          · obtain ⟨h1, h2⟩ := hq
            rw [hs8]
            rcases h1 with h1 | h1 | h1
            · have := hA4.bd _ h1; exact ⟨this.1, h2, this.2.2⟩
            · have h3 := h1.1; simp only [Lib_hsd] at h3; exact ⟨by omega, h2, by omega⟩
            · exact ⟨by omega, h2, by omega⟩
          · obtain ⟨h1, h2⟩ := hq
            rcases h1 with h1 | h1 | h1
            · exact .inl h1
            · have h3 := h1.1; simp only [Lib_hsd] at h3; exact .inr (by omega)
            · exact .inr (by omega)
end Go.Proofs.Ytnfaibenekninaa.L

set_option linter.unusedVariables false
set_option linter.unusedSimpArgs false
namespace Go.Proofs.Ytnfaibenekninaa.L
open Go.RowKit
theorem entersSee : Enters Try.prog 175 := enters Try.func175 (by kernel_rfl) (by kernel_rfl)
def momB : List Fl → List Bool → List (List Int)
  | [], _ => []
  | x :: t, S => momB t S ++ [listB (nowB x (liveC t S))]
theorem momB_drop {l : List Fl} {S : List Bool} {j : Nat} (hj : j < l.length) : momB (l.drop j) S = momB (l.drop (j + 1)) S ++ [listB (nowB l[j] (liveC (l.drop (j + 1)) S))] := by
  rw [List.drop_eq_getElem_cons hj]; rfl
theorem momB_len (l : List Fl) (S : List Bool) : (momB l S).length = l.length := by
  induction l with
  | nil => rfl
  | cons x t ih => simp [momB, ih]
set_option maxRecDepth 100000 in
set_option maxHeartbeats 8000000 in
theorem live1_calls {F G : Nat → Prop} (p : Pt) (N b o pb bx : Nat) (v1 v2 v3 v4 vS : Value) (S : List Bool) (FM0 : Nat → Prop) (M : List (List Int)) (w0 w : World) (hp : partAt w0 b o p v1 v2 v3 v4) (h1 : Rp.Rd Rp.int w0 F v1 p.params) (h2 : Rp.Rd flat w0 F v2 p.code)
    (hS : Rp.Rd Rp.bool w G vS S) (hl : S.length = N) (hN0 : 0 < N) (hN : N ≤ 1000) (hin : PtIn p N) (hBw : Below w0.heap.size w0 w) (hA0 : AllSt w0.heap.size bx FM0 M w) (hbx : w0.heap.size ≤ bx) (hpb0 : w.heap[pb]? = some (.cells #[.pointer (some ⟨b, o, none⟩)] 171 (0, 0)))
    (hpn : pb ≠ bx ∧ ¬ FM0 pb) (hM : M.length + p.code.length ≤ 1000000000) :
    Calls Try.prog 174 #[.pointer (some ⟨b, o, none⟩), vS, .func (.func 175) #[] #[.pointer (some ⟨pb, 0, none⟩), .pointer (some ⟨bx, 0, none⟩)]] w fun e w' => ∃ v' FM', e = .returned v' ∧ Below w0.heap.size w0 w' ∧ AllSt w0.heap.size bx FM' (M ++ momB p.code S) w' ∧ Chg (fun q => q = bx ∨ FM0 q) w w' ∧ (∀ q, FM' q → FM0 q ∨ w.heap.size ≤ q) := by
  subst hl
  have hen := entersSee
  unfold Enters at hen
  obtain ⟨AS, cS, rfl, _⟩ := id hS
  obtain ⟨A1, c1, rfl, _, _, hr1⟩ := rd_int h1
  obtain ⟨A2, c2, rfl, _, _, hr2⟩ := rd_flat h2
  have HSee := Lib.hid (fun FM MM W i Sx vx Fn hpb hA hSx hlx hi hMM (hW : Below w0.heap.size w0 W) => see_calls (Fn := Fn) p S.length b o pb bx w0.heap.size i _ _ _ _ vx Sx FM MM W hpb (partAt_below hp hW) (h2.below hW) hW.size hA hSx hlx hN0 hN hi hin hMM)
  have HDs := Lib.hid (fun x W => hasDst_calls x W)
  have HUs := Lib.hid (fun x W => usesI_calls x W)
  unfold flV at HDs HUs
  have hcl := Lib.hid (cloneB_calls _ S w hS (by omega))
  have hbxw : bx < w.heap.size := by obtain ⟨⟨mv, h, _⟩, _⟩ := hA0; exact blk_lt h
  have hpbw := blk_lt hpb0
  obtain ⟨q0, q1, q2, q3, q4, q5⟩ := hp
  have hln := hin.ln
  have hlp := hin.lp
  have q1w := cell_below hBw q1
  go_enter Try.func174, Try.ntmps174
  go_wp2_with fail
  refine hcl.out.mono ?_
  rintro e w1 ⟨vn, rfl, hO, hB⟩
  clear hcl q1w
  have hB1 := below_then hBw hB
  have q1' := cell_below hB1 q1
  obtain ⟨g, cn, rfl, hFg, hgl⟩ := hO.some_form hN0
  have hO := hO.bool_own
  have hA1 := hA0.below hB
  have hpb1 := blk_below hpb0 hB
  have hww := hBw.size
  have hFb0 := hA0.bd
  have hC1 : Chg (fun q => q = bx ∨ FM0 q) w w1 := Chg.of_below hB
  have hFM1 : Hid (∀ q, FM0 q → FM0 q ∨ w.heap.size ≤ q) := Lib.hid (fun q h => .inl h)
  have hw0 : IntKind.i64.wrap ((p.code.length : Int) - 1) = (p.code.length : Int) - 1 := IntWalk.i64_in _ (by omega)
  have hFn1 : Hid (¬ FM0 pb ∧ ¬ FM0 g) := Lib.hid ⟨hpn.2, fun h => by have := (hFb0 _ h).2.1; omega⟩
  have hA2 : AllSt w0.heap.size bx FM0 (M ++ momB (p.code.drop p.code.length) S) w1 := by rw [List.drop_length]; show AllSt _ _ _ (M ++ []) _; rw [List.append_nil]; exact hA1
  replace hFb0 := Lib.hid hFb0
  go_wp2_with fail
  clear q1' hA1 hA0 hpb0 hB
  go_loopw [8] (fun i wr => ∃ (j : Nat) (FM : Nat → Prop), j ≤ p.code.length ∧ i = .int .i64 ((j : Int) - 1) ∧ g < wr.heap.size ∧ Ow true 4 Rp.bool wr (fun q => q = g) (.slice (some ⟨g, 0, none⟩) S.length cn) (liveC (p.code.drop j) S) ∧ Below w0.heap.size w0 wr ∧ AllSt w0.heap.size bx FM (M ++ momB (p.code.drop j) S) wr ∧ wr.heap[pb]? = some (.cells #[.pointer (some ⟨b, o, none⟩)] 171 (0, 0)) ∧ Chg (fun q => q = bx ∨ FM0 q) w wr ∧ Hid (∀ q, FM q → FM0 q ∨ w.heap.size ≤ q) ∧ Hid (¬ FM pb ∧ ¬ FM g)) (fun i _ => (intOf i + 1).toNat)
  case atStart => exact ⟨p.code.length, FM0, Nat.le_refl _, rfl, hgl, by rw [List.drop_length]; exact hO, hB1, hA2, hpb1, hC1, hFM1, hFn1⟩
  case round =>
    clear hO hB1 hgl hA2 hpb1 hC1 hFM1 hFn1
    obtain ⟨j, FM, hj, rfl, hgl, HO, HB, hA, hpb, hC, hFM, hFn⟩ := hrel
    rename World => wo
    by_cases hj0 : 0 < j
    · obtain ⟨n, rfl⟩ : ∃ n, j = n + 1 := ⟨j - 1, by omega⟩
      have hnt : n < p.code.length := by omega
      have he : ((n + 1 : Nat) : Int) - 1 = (n : Int) := by omega
      rw [he]
      rcases hr2 with hnil | ⟨b2, o2, rfl, hb2, hca⟩
      · rw [hnil] at hnt; simp at hnt
      obtain ⟨e0, e1, e2, e3, e4, e5⟩ := (hca n hnt).below HB
      have hdr := Lib.hid (liveC_drop (S := S) hnt)
      have hmd := Lib.hid (momB_drop (S := S) hnt)
      obtain ⟨hxd, hxu⟩ := hin.cd _ (List.getElem_mem hnt)
      have hSl : (liveC (p.code.drop (n + 1)) S).length = S.length := by rw [liveC_len]
      have hml : (M ++ momB (p.code.drop (n + 1)) S).length ≤ 1000000000 := by rw [List.length_append, momB_len, List.length_drop]; omega
      have q1' := cell_below HB q1
      have hws := hC.size
      have hbx2 := below_new (w := wo) (.cells #[.int .i64 p.code[n].op, .int .i64 p.code[n].dO, .int .i64 p.code[n].dst, .int .i64 p.code[n].a, .int .i64 p.code[n].b, .int .i64 p.code[n].n] 108)
      have HB1 := below_then HB hbx2
      have HO1 := HO.below hbx2
      have hA1 := hA.below hbx2
      have hpb1 := blk_below hpb hbx2
      have HSe1 := Lib.hid (HSee.out FM _ (wo.alloc (.cells #[.int .i64 p.code[n].op, .int .i64 p.code[n].dO, .int .i64 p.code[n].dst, .int .i64 p.code[n].a, .int .i64 p.code[n].b, .int .i64 p.code[n].n] 108)) n (liveC (p.code.drop (n + 1)) S) (.slice (some ⟨g, 0, none⟩) S.length cn) _ hpb1 hA1 HO1.rd hSl hnt hml HB1)
      have hFbd := Lib.hid hA.bd
      clear hca
      generalize hgx : p.code[n] = x at *
      generalize liveC (p.code.drop (n + 1)) S = S1 at *
      generalize momB (p.code.drop (n + 1)) S = MB at *
      have HSt : Hid (stepB S1 x = addB (if setsS x then S1.set x.dst.toNat false else S1) (usesI x)) := Lib.hid rfl
      have hfd : Hid (fD x.op = setsS x) := Lib.hid (fD_sets x)
      have n0 : (0 : Int) ≤ (n : Int) := Int.natCast_nonneg _
      have n1 : (n : Int) < (p.code.length : Int) := by omega
      have hwn : IntKind.i64.wrap ((n : Int) - 1) = (n : Int) - 1 := IntWalk.i64_in _ (by omega)
      have hx0 := heap_alloc_new wo (.cells #[.int .i64 x.op, .int .i64 x.dO, .int .i64 x.dst, .int .i64 x.a, .int .i64 x.b, .int .i64 x.n] 108)
      have hsw : (wo.alloc (.cells #[.int .i64 x.op, .int .i64 x.dO, .int .i64 x.dst, .int .i64 x.a, .int .i64 x.b, .int .i64 x.n] 108)).heap.size = wo.heap.size + 1 := by simp
      clear hgx
      go_wp2_with fail
      refine HSe1.out.mono ?_
      rintro e w2 ⟨rfl, FM2, hA2, hF2, hC2⟩
      rw [hsw] at hF2
      have hnX : ∀ q, wo.heap.size ≤ q → ¬ (q = bx ∨ FM q) := fun q hq h => by
        rcases h with h | h
        · omega
        · have := (hFbd.out q h).2.1; omega
      have hO2 := HO1.move (hC2.same (fun q hq h => by have hq : q = g := hq; rcases h with h | h; omega; exact hFn.out.2 (hq ▸ h)))
      have x2 := hC2.blk hx0 (hnX _ (Nat.le_refl _))
      have HB2 := hC2.to_below HB1 HB1.size (fun q hq => by rcases hq with hq | hq; omega; exact (hFbd.out q hq).1)
      have hpb2 := hC2.blk hpb1 (fun h => by rcases h with h | h; exact hpn.1 h; exact hFn.out.1 h)
      have hs2 := hC2.size
      have hs2w : wo.heap.size < w2.heap.size := by omega
      have hCw2 : Chg (fun q => q = bx ∨ FM0 q) w w2 := ⟨hC2.os.trans ((Chg.of_below (A := fun q => q = bx ∨ FM0 q) hbx2).os.trans hC.os), hC2.tape.trans ((Chg.of_below (A := fun q => q = bx ∨ FM0 q) hbx2).tape.trans hC.tape), hC2.output.trans ((Chg.of_below (A := fun q => q = bx ∨ FM0 q) hbx2).output.trans hC.output), by omega, fun q hq hn => by
        have a1 := hC.block q hq hn
        have a2 := hbx2.block q (by omega)
        have a3 := hC2.block q (by omega) (fun h => by
          rcases h with h | h
          · exact hn (.inl h)
          · rcases hFM.out q h with h | h
            · exact hn (.inr h)
            · omega)
        rw [a3, a2, a1]⟩
      have hFM2 : Hid (∀ q, FM2 q → FM0 q ∨ w.heap.size ≤ q) := Lib.hid (fun q h => by
        rcases hF2 q h with h | h
        · exact hFM.out q h
        · right; omega)
      have hFn2 : Hid (¬ FM2 pb ∧ ¬ FM2 g) := Lib.hid ⟨fun h => by rcases hF2 _ h with h | h; exact hFn.out.1 h; omega, fun h => by rcases hF2 _ h with h | h; exact hFn.out.2 h; omega⟩
      have hFb2 := Lib.hid hA2.bd
      clear HSe1 hC2 hF2 hA1 hA hpb1 hpb HO1 HO HB1 HB hC hFM hFn hx0 hnX hFbd e0 e1 e2 e3 e4 e5 q1' hsw
      obtain ⟨y1, _⟩ := cell_of_block x2
      have y10 : w2.cell? ⟨wo.heap.size, 0, none⟩ = some (.int .i64 x.op) := (y1 0).trans rfl
      have y11 : w2.cell? ⟨wo.heap.size, 1, none⟩ = some (.int .i64 x.dO) := (y1 1).trans rfl
      have y12 : w2.cell? ⟨wo.heap.size, 2, none⟩ = some (.int .i64 x.dst) := (y1 2).trans rfl
      have y13 : w2.cell? ⟨wo.heap.size, 3, none⟩ = some (.int .i64 x.a) := (y1 3).trans rfl
      have y14 : w2.cell? ⟨wo.heap.size, 4, none⟩ = some (.int .i64 x.b) := (y1 4).trans rfl
      have y15 : w2.cell? ⟨wo.heap.size, 5, none⟩ = some (.int .i64 x.n) := (y1 5).trans rfl
      clear y1
      have HD1 := Lib.hid (HDs.out x w2)
      go_wp2_with fail
      refine HD1.out.mono ?_
      rintro e w3 ⟨rfl, hb3⟩
      rw [hfd.out]
      have HB3 := below_then HB2 hb3
      have HO3 := hO2.below hb3
      have hA3 := hA2.below hb3
      have hpb3 := blk_below hpb2 hb3
      have hC3 := hCw2.trans (Chg.of_below hb3)
      have x3 := blk_below x2 hb3
      have hgo := hb3.size
      clear HD1 y10 y11 y12 y13 y14 y15 hb3 HB2 hO2 hA2 hpb2 hCw2 x2 hfd
      obtain ⟨y1, _⟩ := cell_of_block x3
      have y10 : w3.cell? ⟨wo.heap.size, 0, none⟩ = some (.int .i64 x.op) := (y1 0).trans rfl
      have y11 : w3.cell? ⟨wo.heap.size, 1, none⟩ = some (.int .i64 x.dO) := (y1 1).trans rfl
      have y12 : w3.cell? ⟨wo.heap.size, 2, none⟩ = some (.int .i64 x.dst) := (y1 2).trans rfl
      have y13 : w3.cell? ⟨wo.heap.size, 3, none⟩ = some (.int .i64 x.a) := (y1 3).trans rfl
      have y14 : w3.cell? ⟨wo.heap.size, 4, none⟩ = some (.int .i64 x.b) := (y1 4).trans rfl
      have y15 : w3.cell? ⟨wo.heap.size, 5, none⟩ = some (.int .i64 x.n) := (y1 5).trans rfl
      clear y1
      have hgx2 : ∀ q, q = g → ¬ FM2 q := fun q hq h => hFn2.out.2 (hq ▸ h)
      have hgw : ∀ q, q = g → ¬ (q = bx ∨ FM0 q) := fun q hq h => by
        rcases h with h | h
        · omega
        · have := (hFb0.out q h).2.1; omega
      cases hst : setsS x
      · have HX : Hid (stepB S1 x = addB S1 (usesI x)) := Lib.hid (by rw [HSt.out, hst]; rfl)
        clear hst HSt hxd
        have HU1 := Lib.hid (HUs.out x w3)
        have HB5 := HB3
        have HO5 := HO3
        have hA5 := hA3
        have hpb5 := hpb3
        have hC5 := hC3
        have hS2 := hSl
        have hxu2 := Lib.hid hxu
        clear hxu HB3 HO3 hA3 hpb3 hC3
        go_wp2_with fail
        refine HU1.out.mono ?_
        rintro e w4 ⟨v4, rfl, hv4, hb4⟩
        have HB4 := below_then HB5 hb4
        have HO4 := HO5.below hb4
        have hA4 := hA5.below hb4
        have hpb4 := blk_below hpb5 hb4
        have hC6 := hC5.trans (Chg.of_below hb4)
        have hs4 := hb4.size
        replace hv4 := hv4.rd
        obtain ⟨A4, c4, hve, _, _⟩ := id hv4
        subst hve
        have HA1 := Lib.hid (setAddN_calls g cn S.length S1 (.slice A4 (usesI x).length c4) (usesI x) (fun q => q = g) w4 hS2 HO4 hv4 (fun r hr h => by have h : r = g := h; omega) hxu2.out)
        have HX3 := Lib.hid HX.out
        clear HX hxu2
        generalize usesI x = us at *
        go_wp2_with fail
        refine HA1.out.mono ?_
        rintro e w5 ⟨rfl, HO6, hC7⟩
        have HB6 := hC7.to_below HB4 HB4.size (fun r hr => by have hr : r = g := hr; omega)
        have hA6 := hA4.chg hC7 (fun h => by have h : bx = g := h; omega) (fun r hr h => hgx2 r h hr)
        have hpb6 := hC7.blk hpb4 (fun h => by have h : pb = g := h; omega)
        have hs6 := hC7.size
        have hC8 : Chg (fun q => q = bx ∨ FM0 q) w w5 := ⟨hC7.os.trans hC6.os, hC7.tape.trans hC6.tape, hC7.output.trans hC6.output, by have := hC6.size; omega, fun r hr hn => by
          rw [hC7.block r (by have := hC6.size; omega) (fun h => by have h : r = g := h; omega), hC6.block r hr hn]⟩
        go_wp2
        go_roundw
        case rel => exact ⟨n, FM2, by omega, by go_num, by omega, by rw [hdr.out, HX3.out]; exact HO6, HB6, by rw [hmd.out, ← List.append_assoc]; exact hA6, hpb6, hC8, hFM2, hFn2⟩
        case measure => first | (simp [intOf]; done) | (simp [intOf]; omega)
      · obtain ⟨hd0, hd1⟩ := hxd hst
        have HX : Hid (stepB S1 x = addB (S1.set x.dst.toNat false) (usesI x)) := Lib.hid (by rw [HSt.out, hst]; rfl)
        clear hst HSt
        obtain ⟨q, hq⟩ := Int.eq_ofNat_of_zero_le hd0
        rw [hq] at y12 hd1
        have HX2 : Hid (stepB S1 x = addB (S1.set q false) (usesI x)) := Lib.hid (by rw [HX.out, hq, Int.toNat_natCast])
        have hq1 := Lib.hid hq
        clear HX hd0 hxd hq
        have HX := HX2
        have hql : q < S1.length := by omega
        have HO5 := HO3.set1 rfl hql (y := false) (u := .bool false) rfl
        obtain ⟨d1, d2⟩ := bool_at HO3 hql
        have hC4 := Chg.set (w := w3) (o := q) (u := .bool false) (A := fun r => r = g) (b := g) rfl
        have HB5 := hC4.to_below HB3 HB3.size (fun r hr => by have hr : r = g := hr; omega)
        have hA5 := hA3.chg hC4 (fun h => by have h : bx = g := h; omega) (fun r hr h => hgx2 r h hr)
        have hpb5 := hC4.blk hpb3 (fun h => by have h : pb = g := h; omega)
        have hC5 : Chg (fun q => q = bx ∨ FM0 q) w (w3.setCell ⟨g, q, none⟩ (.bool false)) := ⟨hC4.os.trans hC3.os, hC4.tape.trans hC3.tape, hC4.output.trans hC3.output, by have := hC3.size; have := hC4.size; omega, fun r hr hn => by
          rw [hC4.block r (by have := hC3.size; omega) (fun h => by have h : r = g := h; omega), hC3.block r hr hn]⟩
        generalize S1[q] = yb at *
        have m0 : (0 : Int) ≤ (q : Int) := Int.natCast_nonneg _
        have m1 : (q : Int) < (S.length : Int) := by omega
        have hS2 : (S1.set q false).length = S.length := by rw [List.length_set]; exact hSl
        have hne : ¬ (wo.heap.size = g) := by omega
        have hs5 := hC4.size
        have z10 := hC4.cell y10 hne
        have z11 := hC4.cell y11 hne
        have z12 := hC4.cell y12 hne
        have z13 := hC4.cell y13 hne
        have z14 := hC4.cell y14 hne
        have z15 := hC4.cell y15 hne
        have HU1 := Lib.hid (HUs.out x (w3.setCell ⟨g, q, none⟩ (.bool false)))
        rw [hq1.out] at HU1
        have hxu2 := Lib.hid hxu
        clear hC4 hxu HB3 HO3 hA3 hpb3 hC3
        go_wp2_with fail
        refine HU1.out.mono ?_
        rintro e w4 ⟨v4, rfl, hv4, hb4⟩
        have HB4 := below_then HB5 hb4
        have HO4 := HO5.below hb4
        have hA4 := hA5.below hb4
        have hpb4 := blk_below hpb5 hb4
        have hC6 := hC5.trans (Chg.of_below hb4)
        have hs4 := hb4.size
        replace hv4 := hv4.rd
        obtain ⟨A4, c4, hve, _, _⟩ := id hv4
        subst hve
        have HA1 := Lib.hid (setAddN_calls g cn S.length (S1.set q false) (.slice A4 (usesI x).length c4) (usesI x) (fun q => q = g) w4 hS2 HO4 hv4 (fun r hr h => by have h : r = g := h; omega) hxu2.out)
        have HX3 := Lib.hid HX.out
        clear HX hxu2
        generalize usesI x = us at *
        go_wp2_with fail
        refine HA1.out.mono ?_
        rintro e w5 ⟨rfl, HO6, hC7⟩
        have HB6 := hC7.to_below HB4 HB4.size (fun r hr => by have hr : r = g := hr; omega)
        have hA6 := hA4.chg hC7 (fun h => by have h : bx = g := h; omega) (fun r hr h => hgx2 r h hr)
        have hpb6 := hC7.blk hpb4 (fun h => by have h : pb = g := h; omega)
        have hs6 := hC7.size
        have hC8 : Chg (fun q => q = bx ∨ FM0 q) w w5 := ⟨hC7.os.trans hC6.os, hC7.tape.trans hC6.tape, hC7.output.trans hC6.output, by have := hC6.size; omega, fun r hr hn => by
          rw [hC7.block r (by have := hC6.size; omega) (fun h => by have h : r = g := h; omega), hC6.block r hr hn]⟩
        go_wp2
        go_roundw
        case rel => exact ⟨n, FM2, by omega, by go_num, by omega, by rw [hdr.out, HX3.out]; exact HO6, HB6, by rw [hmd.out, ← List.append_assoc]; exact hA6, hpb6, hC8, hFM2, hFn2⟩
        case measure => first | (simp [intOf]; done) | (simp [intOf]; omega)
    · obtain rfl : j = 0 := by omega
      have he : ((0 : Nat) : Int) - 1 = -1 := by omega
      rw [he]
      have q0' := cell_below HB q0
      have hSl : (liveC (p.code.drop 0) S).length = S.length := by rw [liveC_len]
      have HA : AllSt w0.heap.size bx FM (M ++ momB p.code S) wo := hA
      clear hA
      generalize liveC (p.code.drop 0) S = S1 at *
      go_wp2_with fail
      go_loopw [50] (fun i wr => ∃ (m : Nat) (S2 : List Bool), m ≤ p.params.length ∧ i = .int .i64 m ∧ S2.length = S.length ∧ g < wr.heap.size ∧ Ow true 4 Rp.bool wr (fun q => q = g) (.slice (some ⟨g, 0, none⟩) S.length cn) S2 ∧ Below w0.heap.size w0 wr ∧ AllSt w0.heap.size bx FM (M ++ momB p.code S) wr ∧ Chg (fun q => q = bx ∨ FM0 q) w wr) (fun i _ => p.params.length - (intOf i).toNat)
      case atStart => exact ⟨0, S1, Nat.zero_le _, rfl, hSl, hgl, HO, HB, HA, hC⟩
      case round =>
        clear HO HB hgl q0' HA hC hpb
        obtain ⟨m, S2, hm, rfl, hS3, hgl, HO, HB, HA, hC⟩ := hrel
        rename World => wi
        by_cases hmt : m < p.params.length
        · rcases hr1 with hnil | ⟨b1, o1, rfl, hb1, hc1⟩
          · rw [hnil] at hmt; simp at hmt
          have cv := cell_below HB (hc1 m hmt)
          have hv := hin.pr _ (List.getElem_mem hmt)
          clear hc1
          generalize p.params[m] = x at *
          obtain ⟨q, rfl⟩ := Int.eq_ofNat_of_zero_le hv.1
          have hql : q < S2.length := by omega
          have HO5 := HO.set1 rfl hql (y := false) (u := .bool false) rfl
          obtain ⟨d1, d2⟩ := bool_at HO hql
          have hC4 := Chg.set (w := wi) (o := q) (u := .bool false) (A := fun r => r = g) (b := g) rfl
          have HB5 := hC4.to_below HB HB.size (fun r hr => by have hr : r = g := hr; omega)
          have hA5 := HA.chg hC4 (fun h => by have h : bx = g := h; omega) (fun r hr h => hFn.out.2 (by have h : r = g := h; exact h ▸ hr))
          have hC5 : Chg (fun q => q = bx ∨ FM0 q) w (wi.setCell ⟨g, q, none⟩ (.bool false)) := ⟨hC4.os.trans hC.os, hC4.tape.trans hC.tape, hC4.output.trans hC.output, by have := hC.size; have := hC4.size; omega, fun r hr hn => by
            rw [hC4.block r (by have := hC.size; omega) (fun h => by have h : r = g := h; omega), hC.block r hr hn]⟩
          have hS4 : (S2.set q false).length = S.length := by rw [List.length_set]; exact hS3
          have hg5 : g < (wi.setCell ⟨g, q, none⟩ (.bool false)).heap.size := by have := hC4.size; omega
          generalize S2[q] = yb at *
          have i0 : (0 : Int) ≤ (m : Int) := Int.natCast_nonneg _
          have i1 : (m : Int) < (p.params.length : Int) := by omega
          have m0 : (0 : Int) ≤ (q : Int) := Int.natCast_nonneg _
          have m1 : (q : Int) < (S.length : Int) := by omega
          clear HO HB hv hql hC4 HA hC
          go_wp2
          go_roundw
          case rel => exact ⟨m + 1, _, by omega, by go_num, hS4, hg5, HO5, HB5, hA5, hC5⟩
          case measure => simp [intOf]; omega
        · obtain rfl : m = p.params.length := by omega
          go_wp2
          go_ret
          exact ⟨_, FM, rfl, HB, HA, hC, hFM.out⟩
end Go.Proofs.Ytnfaibenekninaa.L
