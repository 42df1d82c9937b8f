/- Joined texts, each of which was built by itself: Lv12 Px8 Px9 Lv8. -/
import Derived.Test.YtnfaibenekninaaFColour6
import Derived.Test.YtnfaibenekninaaFColour5
import Derived.Test.YtnfaibenekninaaFColour4
set_option linter.unusedVariables false
set_option linter.unusedSimpArgs false
namespace Go.Proofs.Ytnfaibenekninaa.L
open Go.RowKit
def momPB (p : Pt) (i o : List Bool) : List (List Int) := listB (addB i p.params) :: momB p.code o
def momToB (s : Sa) (I O : List (List Bool)) (k : Nat) : List (List Int) := (List.range k).flatMap (fun q => match s.parts[q]? with | some p => momPB p (I.getD q []) (O.getD q []) | none => [])
theorem momToB_succ {s : Sa} {I O : List (List Bool)} {k : Nat} {p : Pt} (hk : s.parts[k]? = some p) : momToB s I O (k + 1) = momToB s I O k ++ momPB p (I.getD k []) (O.getD k []) := by
  unfold momToB
  rw [List.range_succ, List.flatMap_append]
  congr 1
  simp [hk]
theorem LSt.dataI {n N S0 go co gi ci : Nat} {I O : List (List Bool)} {w : World} (h : LSt n N S0 go co gi ci I O w) (hN : 0 < N) : ∀ k, k < n → ∃ g c, (w.cell? ⟨gi, k, none⟩ = some (.slice (some ⟨g, 0, none⟩) N c) ∧ S0 ≤ gi ∧ gi < w.heap.size) ∧ (I.getD k []).length = N ∧ Rp.Rd Rp.bool w (fun q => S0 ≤ q ∧ q < w.heap.size) (.slice (some ⟨g, 0, none⟩) N c) (I.getD k []) := by
  intro k hk
  have hlt := h.lt
  obtain ⟨a, b, c, d, FO, FI, e1, e2, e3, e4⟩ := h
  have hkl : k < I.length := by omega
  obtain ⟨G, u, cu, -, hGF, hOu, -⟩ := e4.focus hkl
  have hg : I.getD k [] = I[k] := by rw [List.getD_eq_getElem?_getD, List.getElem?_eq_getElem hkl]; rfl
  have hl : I[k].length = N := c _ (List.getElem_mem hkl)
  obtain ⟨g, c', rfl, _, _⟩ := hOu.some_form (by omega)
  rw [hl] at cu hOu
  rw [hg]
  exact ⟨g, c', ⟨cu, hlt.2.1, hlt.2.2.2.1⟩, hl, hOu.rd.bound.mono (fun q hq => ⟨e2 q (hGF q hq.1).1, hq.2⟩)⟩
theorem LSt.dataO {n N S0 go co gi ci : Nat} {I O : List (List Bool)} {w : World} (h : LSt n N S0 go co gi ci I O w) (hN : 0 < N) : ∀ k, k < n → ∃ g c, (w.cell? ⟨go, k, none⟩ = some (.slice (some ⟨g, 0, none⟩) N c) ∧ S0 ≤ go ∧ go < w.heap.size) ∧ (O.getD k []).length = N ∧ Rp.Rd Rp.bool w (fun q => S0 ≤ q ∧ q < w.heap.size) (.slice (some ⟨g, 0, none⟩) N c) (O.getD k []) := by
  intro k hk
  have hlt := h.lt
  obtain ⟨a, b, c, d, FO, FI, e1, e2, e3, e4⟩ := h
  have hkl : k < O.length := by omega
  obtain ⟨G, u, cu, -, hGF, hOu, -⟩ := e3.focus hkl
  have hg : O.getD k [] = O[k] := by rw [List.getD_eq_getElem?_getD, List.getElem?_eq_getElem hkl]; rfl
  have hl : O[k].length = N := d _ (List.getElem_mem hkl)
  obtain ⟨g, c', rfl, _, _⟩ := hOu.some_form (by omega)
  rw [hl] at cu hOu
  rw [hg]
  exact ⟨g, c', ⟨cu, hlt.1, hlt.2.2.1⟩, hl, hOu.rd.bound.mono (fun q hq => ⟨(e1 q (hGF q hq.1).1).1, hq.2⟩)⟩
set_option maxRecDepth 100000 in
set_option maxHeartbeats 16000000 in
theorem momentsI_calls {F : Nat → Prop} (s : Sa) (N vb : Nat) (vparts vn vd vD vT : Value) (w : World) (hv : w.heap[vb]? = some (viewC vparts s.values vn vd vD vT)) (hs : Rp.Rd part w F vparts s.parts) (hg : GoodP s) (hx2 : ∀ p ∈ s.parts, PtLim p) (hNV : (N : Int) = s.values) :
    Calls Try.prog 113 #[.pointer (some ⟨vb, 0, none⟩)] w fun e w' => ∃ v' I O, e = .returned v' ∧ Rp.Rd (Rp.sl Rp.int) w' (fun q => w.heap.size ≤ q) v' (momToB s I O s.parts.length) ∧ Hid ((∀ k v, InR2 I k v ↔ LvI s k v) ∧ (∀ k v, InR2 O k v ↔ LvO s k v) ∧ (∀ k, k < s.parts.length → (I.getD k []).length = N ∧ (O.getD k []).length = N)) ∧ Below w.heap.size w w' := by
  replace hs := hs.bound
  have hv1 := hg.v1
  have hv2 := hg.v2
  have hn1 := hg.n1
  have hn2 := hg.n2
  have hN0 : 0 < N := by omega
  have hN1 : N ≤ 250 := by omega
  have HGP := Lib.hid hg
  have hvl := blk_lt hv
  have HLv := Lib.hid (fun W (hW : Below w.heap.size w W) => lives_calls s N vb vparts vn vd vD vT W (blk_below hv hW) (hs.below hW) hg hx2 hNV)
  replace hNV := Lib.hid hNV
  clear hv1 hv2
  obtain ⟨A, cA, rfl, _, _, hrow⟩ := rd_part hs
  rcases hrow with hnil | ⟨b, o, rfl, hbl, hcell⟩
  · rw [hnil] at hn1; simp at hn1
  have hen := entersSee
  have hB1 := below_new (w := w) (.cells #[] 25)
  have b1 := heap_alloc_new w (.cells #[] 25)
  have hs1 : (w.alloc (.cells #[] 25)).heap.size = w.heap.size + 1 := by simp
  have hB2 := hB1.alloc hB1.size (.cells #[.slice (some ⟨w.heap.size, 0, none⟩) 0 0] 67)
  have b2 := heap_alloc_new (w.alloc (.cells #[] 25)) (.cells #[.slice (some ⟨w.heap.size, 0, none⟩) 0 0] 67)
  have b12 := blk_alloc b1 (.cells #[.slice (some ⟨w.heap.size, 0, none⟩) 0 0] 67)
  rw [hs1] at b2
  have hO2 := ow_empty (ap := false) (r := Rp.sl Rp.int) b12
  have hsz2 : ((w.alloc (.cells #[] 25)).alloc (.cells #[.slice (some ⟨w.heap.size, 0, none⟩) 0 0] 67)).heap.size = w.heap.size + 2 := by simp
  have HL1 := Lib.hid (HLv.out _ hB2)
  go_enter Try.func113, Try.ntmps113
  go_wp2_with fail
  refine HL1.out.mono ?_
  rintro e w2 ⟨go, co, gi, ci, I, O, rfl, hL, hH, hb2⟩
  rw [hsz2] at hL
  have hB := below_then hB2 hb2
  have hbx2 := blk_below b2 hb2
  have hO3 := hO2.below hb2
  have hLI := Lib.hid (hL.dataI hN0)
  have hLO := Lib.hid (hL.dataO hN0)
  have hs2 := hb2.size
  rw [hsz2] at hs2
  have hA2 : AllSt w.heap.size (w.heap.size + 1) (fun q => q = w.heap.size) (momToB s I O 0) w2 := ⟨⟨_, hbx2, hO3⟩, fun q hq => by have hq : q = w.heap.size := hq; omega⟩
  have hv2 := blk_below hv hB
  obtain ⟨v0, v1, v2, v3, v4, v5⟩ := view_cells hv2
  have hF2 : Hid (∀ q, (fun q => q = w.heap.size) q → q < w.heap.size + 2 ∨ w2.heap.size ≤ q) := Lib.hid (fun q hq => by have hq : q = w.heap.size := hq; left; omega)
  clear HLv HL1 hB1 hB2 b1 b2 b12 hO2 hsz2 hs1 hb2 hbx2 hO3 hL hv2
  go_wp2_with fail
  clear v0 v1 v2 v3 v4 v5
  go_loopw [21] (fun i wr => ∃ (k : Nat) (FM : Nat → Prop), k ≤ s.parts.length ∧ i = .int .i64 k ∧ AllSt w.heap.size (w.heap.size + 1) FM (momToB s I O k) wr ∧ (momToB s I O k).length ≤ k * 1048577 ∧ Below w.heap.size w wr ∧ Chg (fun q => q < w.heap.size + 2 ∨ w2.heap.size ≤ q) w2 wr ∧ Hid (∀ q, FM q → q < w.heap.size + 2 ∨ w2.heap.size ≤ q)) (fun i _ => s.parts.length - (intOf i).toNat)
  case atStart => exact ⟨0, _, Nat.zero_le _, rfl, hA2, by simp [momToB], hB, Chg.refl _ _, hF2⟩
  case round =>
    clear hA2 hB hF2
    obtain ⟨k, FM, hk, rfl, hA, hml, HB, hCw, hFk⟩ := hrel
    rename World => wo
    by_cases hkt : k < s.parts.length
    · have hpk := hcell k hkt
      obtain ⟨_, _, _, _, hp, h1, h2, ⟨B3, d3, rfl, _⟩, ⟨B4, d4, rfl, _⟩⟩ := hpk
      obtain ⟨B1, d1, rfl, _, _, hr1⟩ := rd_int h1
      obtain ⟨B2, d2, rfl, _⟩ := id h2
      have hsp : s.parts[k]? = some s.parts[k] := List.getElem?_eq_getElem hkt
      have hlp := hx2 _ (List.getElem_mem hkt)
      have HPin : PtIn s.parts[k] N := ⟨fun x hx => ⟨fun hs => by have := (HGP.out.steps_in hsp hx).1 hs; have := hNV.out; omega, fun m hm => by have := (HGP.out.steps_in hsp hx).2 m hm; have := hNV.out; omega⟩, fun m hm => by have := HGP.out.own_def hsp (v := m) (List.mem_append.2 (.inl hm)); have := hNV.out; omega, hlp.2.1, hlp.1⟩
      have HMk := Lib.hid (momToB_succ (I := I) (O := O) hsp)
      have hlc := hlp.2.1
      have q0 := (partAt_below hp HB).1
      obtain ⟨gI, cgI, cuI, hIl, hRI⟩ := hLI.out k hkt
      obtain ⟨gO, cgO, ⟨cuO, hblO⟩, hOl, hRO⟩ := hLO.out k hkt
      have cuI1 := hCw.cell cuI.1 (fun h => by have h : gi < w.heap.size + 2 ∨ w2.heap.size ≤ gi := h; have := cuI.2; omega)
      have hRI1 := hRI.move (hCw.same (fun q hq h => by have hq : w.heap.size + 2 ≤ q ∧ q < w2.heap.size := hq; rcases h with h | h <;> omega))
      clear hsp hlp
      generalize s.parts[k] = p at *
      replace hp := Lib.hid hp
      replace h1 := Lib.hid h1
      replace h2 := Lib.hid h2
      have hin := Lib.hid HPin
      clear HPin
      obtain ⟨MT, hMT⟩ : ∃ MT, MT = momToB s I O k := ⟨_, rfl⟩
      rw [← hMT] at hA hml HMk
      clear hMT
      have hv1 := blk_below hv HB
      obtain ⟨v0, v1, v2, v3, v4, v5⟩ := view_cells hv1
      have m0 : (0 : Int) ≤ (k : Int) := Int.natCast_nonneg _
      have m1 : (k : Int) < (s.parts.length : Int) := by omega
      have hb0 := below_new (w := wo) (.cells #[.pointer (some ⟨b, o + k * 6, none⟩)] 171)
      have p0 := heap_alloc_new wo (.cells #[.pointer (some ⟨b, o + k * 6, none⟩)] 171)
      have hsz : (wo.alloc (.cells #[.pointer (some ⟨b, o + k * 6, none⟩)] 171)).heap.size = wo.heap.size + 1 := by simp
      have cuI2 := cell_below hb0 cuI1
      have hcl := Lib.hid (cloneB_calls _ (I.getD k []) _ (hRI1.below hb0) (by omega))
      go_wp2_with fail
      refine hcl.out.mono ?_
      rintro e w3 ⟨vn, rfl, hOn, hb3⟩
      rw [hsz] at hOn
      obtain ⟨g, cn, hge, hFg, hgl⟩ := hOn.some_form (by omega)
      subst hge
      rw [hIl] at hOn ⊢
      have hOn := hOn.bool_own
      have hb03 := below_then hb0 hb3
      have HB3 := below_then HB hb03
      have p3 := blk_below p0 hb3
      have hA3w := hA.below hb03
      have hCw3 := hCw.trans (Chg.of_below hb03)
      obtain ⟨zq, _⟩ := cell_of_block p3
      have zq0 : w3.cell? ⟨wo.heap.size, 0, none⟩ = some (.pointer (some ⟨b, o + k * 6, none⟩)) := (zq 0).trans rfl
      have q03 := cell_below hb03 q0
      have hsw3 := hb03.size
      have hs3 := hb3.size
      rw [hsz] at hs3
      have hRpar := h1.out.below HB3
      have HAd := Lib.hid (setAddN_calls g cn N (I.getD k []) _ p.params (fun q => q = g) w3 hIl hOn hRpar (fun q hq h => by have h : q = g := h; have h2 : q < w.heap.size := hq.2; have := HB.size; omega) hin.out.pr)
      clear hcl cuI1 cuI2 hRI1 hRI cuI zq v0 v1 v2 v3 v4 v5 hv1 q0 p0 hb0 hsz hRpar
      go_wp2_with fail
      refine HAd.out.mono ?_
      rintro e w4 ⟨rfl, hO4, hC34⟩
      have HB4 := hC34.to_below HB3 HB3.size (fun q hq => by have hq : q = g := hq; have := HB.size; omega)
      have hFb3 := hA3w.bd
      have hA3 := hA3w.chg hC34 (fun h => by have h : w.heap.size + 1 = g := h; have := HB.size; have := hCw.size; omega) (fun q hq h => by have h : q = g := h; have := (hA.bd q hq).2.1; omega)
      have hC4 : Chg (fun q => q < w.heap.size + 2 ∨ w2.heap.size ≤ q) w2 w4 := hCw3.trans (hC34.mono (fun q hq => by have hq : q = g := hq; have := hCw.size; right; omega))
      have hpb4 := hC34.blk p3 (fun h => by have h : wo.heap.size = g := h; omega)
      have hFp4 : Hid (¬ FM wo.heap.size ∧ wo.heap.size < w4.heap.size) := Lib.hid ⟨fun h => by have := (hA.bd _ h).2.1; omega, by have := hC34.size; omega⟩
      have hS1l : (addB (I.getD k []) p.params).length = N := by rw [addB_len]; exact hIl
      obtain ⟨S1, hS1⟩ : ∃ S1, S1 = addB (I.getD k []) p.params := ⟨_, rfl⟩
      rw [← hS1] at hO4 hS1l
      replace hS1 := Lib.hid hS1
      have hml2 : MT.length ≤ 100000000 := by
        have : k * 1048577 ≤ 11 * 1048577 := Nat.mul_le_mul_right _ (by omega)
        omega
      have hswo := HB.size
      have hsc := hCw.size
      clear HAd zq0 q03 hOn HB3 hA3w hFb3 hC34 hCw3 hCw p3 hb3 hb03
      have hA4 := hA3
      obtain ⟨⟨mv, hbx0, hOm⟩, hFb⟩ := id hA4
      obtain ⟨Am, cm, rfl, _, _⟩ := hOm.form
      obtain ⟨zb, _⟩ := cell_of_block hbx0
      have hm0 : w4.cell? ⟨w.heap.size + 1, 0, none⟩ = some (.slice Am MT.length cm) := (zb 0).trans rfl
      have hbxl := blk_lt hbx0
      have hs4 := HB4.size
      clear zb
      have hRd := hO4.rd.below (below_drew (Below.refl w4.heap.size w4))
      go_wp2_with fail
      refine wp_region_held_drew (S := (fun _ => True)) (by kernel_rfl) trivial (fun hH0 => ?_)
      refine wpAnyH_take (i := 1) (v := ?_) rfl (by kernel_rfl) (by kernel_rfl) (by kernel_rfl) (fun _ _ _ h => h) (Or.inl ⟨by rfl, ?_⟩) (by assumption) ?_
      rotate_left 1
      focus ((intro w hSw; (try dsimp only at hSw); go_simp); try with_reducible rfl)
      try simp only [Act.put, Array.getInternal_eq_getElem, List.getElem_toArray, List.getElem_cons_zero, List.getElem_cons_succ, List.setIfInBounds_toArray, List.set_cons_zero, List.set_cons_succ]
      refine wpAnyH_ready (rs := [0, 2]) (by kernel_rfl) (by simp) ?_
      refine AllReadyH.cons rfl (fun K1 hK1 => ?_) (AllReadyH.cons rfl (fun K1 hK1 => ?_) AllReadyH.nil)
      · go_simp
        refine hK1.out _ _ trivial (fun _ => ?_)
        clear hK1 K1
        try simp only [Act.put, List.setIfInBounds_toArray, List.set_cons_zero, List.set_cons_succ]
        refine wpAnyH_ready (rs := [2]) (by kernel_rfl) (by simp) ?_
        refine AllReadyH.cons rfl (fun K1 hK1 => ?_) AllReadyH.nil
        · go_simp
          go_at_call 53
          refine (listOf_calls _ S1 _ hRd (by omega)).mono ?_
          rintro e w5 ⟨v5, rfl, hv5, hb5⟩
          replace hb5 := below_then (below_drew (Below.refl w4.heap.size w4)) hb5
          obtain ⟨A5, c5, rfl, _, _⟩ := hv5.form
          have hm5 := cell_below hb5 hm0
          have hcc5 := blk_below hbx0 hb5
          have hOm5 := hOm.below hb5
          go_wp2_with fail
          refine hK1.out _ _ trivial (fun _ => ?_)
          clear hK1 K1
          try simp only [Act.put, List.setIfInBounds_toArray, List.set_cons_zero, List.set_cons_succ]
          refine wpAnyH_ready (rs := [3]) (by kernel_rfl) (by simp) ?_
          refine AllReadyH.cons rfl (fun K1 hK1 => ?_) AllReadyH.nil
          · have hb6 := below_new (w := w5) (.cells #[.slice A5 (listB S1).length c5] 25)
            have fb6 := heap_alloc_new w5 (.cells #[.slice A5 (listB S1).length c5] 25)
            have hm6 := cell_below hb6 hm5
            have hcc6 := blk_below hcc5 hb6
            have hOm6 := hOm5.below hb6
            have hv6 := (hv5.rd.bound).below hb6
            have hs6 : (w5.alloc (.cells #[.slice A5 (listB S1).length c5] 25)).heap.size = w5.heap.size + 1 := by simp
            have hb46 := below_then hb5 hb6
            go_simp
            refine hK1.out _ _ trivial (fun _ => ?_)
            clear hK1 K1
            generalize w5.alloc (.cells #[.slice A5 (listB S1).length c5] 25) = w6 at *
            try simp only [Act.put, List.setIfInBounds_toArray, List.set_cons_zero, List.set_cons_succ]
            refine wpAnyH_ready (rs := [4]) (by kernel_rfl) (by simp) ?_
            refine AllReadyH.cons rfl (fun K1 hK1 => ?_) AllReadyH.nil
            have hs46 := hb46.size
            obtain ⟨A7, c7, w7, hrn, hO7, hg7⟩ := run_push hOm6 fb6 hv6 (fun q hq h => by have h1 := hq.1; have h2 := hFb q h; simp only [Lib_hsd] at h1; omega) (by omega)
            rw [if_pos (by first | kernel_rfl | rfl | decide)]
            refine oper_append _ _ _ _ _ _ rfl (by rfl) (by rfl) hrn ?_
            try simp only [Act.put, Array.getInternal_eq_getElem, List.getElem_toArray, List.getElem_cons_zero, List.getElem_cons_succ, List.setIfInBounds_toArray, List.set_cons_zero, List.set_cons_succ]
            refine hK1.out _ _ trivial (fun _ => ?_)
            clear hK1 K1
            have hown : ∀ q, some q = (Value.slice Am MT.length cm).ownBlock → FM q := fun q hq => own_in hOm6 (.inr hq.symm)
            have hbx7 := grown_blk hg7 hcc6 (fun he => (hFb _ (hown _ he)).2.2 rfl)
            obtain ⟨zz, zf⟩ := cell_of_block hbx7
            have hm7 : w7.cell? ⟨w.heap.size + 1, 0, none⟩ = some (.slice Am MT.length cm) := (zz 0).trans rfl
            have hf7 := zf 0
            have hs7 := hg7.size
            have hbl := Go.one_setCell (u := .slice A7 (MT.length + 1) c7) hbx7
            have hO8 := (hO7.bound).set_other (b := w.heap.size + 1) (o := 0) (u := .slice A7 (MT.length + 1) c7) (fun h => by
              obtain ⟨h1, h2⟩ := h
              rcases h1 with h1 | h1 | h1
              · exact (hFb _ h1).2.2 rfl
              · have h3 := h1.1; simp only [Lib_hsd] at h3; omega
              · omega)
            have hC8 : Chg (fun q => q = w.heap.size + 1 ∨ FM q) w4 (w7.setCell ⟨w.heap.size + 1, 0, none⟩ (.slice A7 (MT.length + 1) c7)) := by
              have c1 : Chg (fun q => q = w.heap.size + 1 ∨ FM q) w4 w6 := Chg.of_below hb46
              have c2 : Chg (fun q => q = w.heap.size + 1 ∨ FM q) w6 w7 := ⟨hg7.os, hg7.tape, hg7.output, hg7.size, fun q hq hn => hg7.block q hq (fun e => hn (.inr (hown q e)))⟩
              exact (c1.trans c2).trans (Chg.set (.inl rfl))
            have hs8 : (w7.setCell ⟨w.heap.size + 1, 0, none⟩ (.slice A7 (MT.length + 1) c7)).heap.size = w7.heap.size := by simp
            obtain ⟨FM8, hFM8⟩ : ∃ FM8 : Nat → Prop, FM8 = fun q => (FM q ∨ (w4.drew.heap.size ≤ q ∧ q < w5.heap.size) ∨ w6.heap.size ≤ q) ∧ q < w7.heap.size := ⟨_, rfl⟩
            have hA8 : AllSt w.heap.size (w.heap.size + 1) FM8 (MT ++ [listB S1]) (w7.setCell ⟨w.heap.size + 1, 0, none⟩ (.slice A7 (MT.length + 1) c7)) := by
              subst hFM8
              exact ⟨⟨_, hbl, hO8⟩, fun q hq => by
                obtain ⟨h1, h2⟩ := hq
                rw [hs8]
                rcases h1 with h1 | h1 | h1
                · have := hFb _ h1; exact ⟨this.1, h2, this.2.2⟩
                · have h3 := h1.1; simp only [Lib_hsd] at h3; exact ⟨by omega, h2, by omega⟩
                · exact ⟨by omega, h2, by omega⟩⟩
            have hF8 : Hid (∀ q, FM8 q → FM q ∨ w4.heap.size ≤ q) := by
              subst hFM8
              exact Lib.hid (fun q hq => by
                obtain ⟨h1, h2⟩ := hq
                rcases h1 with h1 | h1 | h1
                · exact .inl h1
                · have h3 := h1.1; simp only [Lib_hsd] at h3; exact .inr (by omega)
                · exact .inr (by omega))
            clear hFM8
            clear zz zf hrn hg7 hown hO8 hbl hb46 hO7
            refine wpAnyH_ready (rs := [5]) (by kernel_rfl) (by simp) ?_
            refine AllReadyH.cons rfl (fun K1 hK1 => ?_) AllReadyH.nil
            go_simp
            refine hK1.out _ _ trivial (fun _ => ?_)
            clear hK1 K1
            try simp only [Act.put, List.setIfInBounds_toArray, List.set_cons_zero, List.set_cons_succ]
            refine wpAnyH_done (by kernel_rfl) ?_ _
            clear hm7 hf7 hbx7 hm6 hcc6 hOm6 hv6 fb6
            generalize w7.setCell ⟨w.heap.size + 1, 0, none⟩ (.slice A7 (MT.length + 1) c7) = w8 at *
            have hCw8 := hC4.trans (hC8.mono (fun q hq => by rcases hq with hq | hq; exact .inl (by omega); exact hFk.out q hq))
            have HB8 := hC8.to_below HB4 HB4.size (fun q hq => by rcases hq with hq | hq; omega; exact (hFb q hq).1)
            have hpb8 := hC8.blk hpb4 (fun h => by rcases h with h | h; omega; exact hFp4.out.1 h)
            have hRO8 := hRO.move (hCw8.same (fun q hq h => by have hq : w.heap.size + 2 ≤ q ∧ q < w2.heap.size := hq; rcases h with h | h <;> omega))
            have cuO8 := hCw8.cell cuO (fun h => by have h : go < w.heap.size + 2 ∨ w2.heap.size ≤ go := h; omega)
            have hs48 := hC8.size
            have hFn8 : Hid (wo.heap.size ≠ w.heap.size + 1 ∧ ¬ FM8 wo.heap.size) := Lib.hid ⟨by omega, fun h => by rcases hF8.out _ h with h | h; exact hFp4.out.1 h; have := hFp4.out.2; omega⟩
            have hHL := Lib.hid (live1_calls p N b (o + k * 6) wo.heap.size (w.heap.size + 1) _ _ _ _ _ (O.getD k []) FM8 (MT ++ [listB S1]) w w8.drew hp.out h1.out h2.out (hRO8.below (below_drew (Below.refl w8.heap.size w8))) hOl hN0 (by omega) hin.out (below_drew HB8) (hA8.below (below_drew (Below.refl w8.heap.size w8))) (by omega) hpb8 hFn8.out (by simp; omega))
            obtain ⟨zpb, _⟩ := cell_of_block hpb8
            have zp8 : w8.cell? ⟨wo.heap.size, 0, none⟩ = some (.pointer (some ⟨b, o + k * 6, none⟩)) := (zpb 0).trans rfl
            clear zpb
            have hsd8 : w8.drew.heap.size = w8.heap.size := rfl
            go_wp2_with fail
            refine wp_region_held_drew (S := (fun w' => w'.cell? ⟨wo.heap.size, 0, none⟩ = some (.pointer (some ⟨b, o + k * 6, none⟩)) ∧ w'.cell? ⟨go, k, none⟩ = some (.slice (some ⟨gO, 0, none⟩) N cgO))) (by kernel_rfl) ⟨zp8, cuO8⟩ (fun hH0 => ?_)
            refine wpAnyH_take (i := 0) (v := ?_) rfl (by kernel_rfl) (by kernel_rfl) (by kernel_rfl) (fun _ _ _ h => h) (Or.inl ⟨by rfl, ?_⟩) (by assumption) ?_
            rotate_left 1
            focus ((intro w hSw; (try dsimp only at hSw); go_simp); try with_reducible rfl)
            try simp only [Act.put, Array.getInternal_eq_getElem, List.getElem_toArray, List.getElem_cons_zero, List.getElem_cons_succ, List.setIfInBounds_toArray, List.set_cons_zero, List.set_cons_succ]
            refine wpAnyH_take (i := 1) (v := ?_) rfl (by kernel_rfl) (by kernel_rfl) (by kernel_rfl) (fun _ _ _ h => h) (Or.inl ⟨by rfl, ?_⟩) (by assumption) ?_
            rotate_left 1
            focus ((intro w hSw; (try dsimp only at hSw); go_simp); try with_reducible rfl)
            try simp only [Act.put, Array.getInternal_eq_getElem, List.getElem_toArray, List.getElem_cons_zero, List.getElem_cons_succ, List.setIfInBounds_toArray, List.set_cons_zero, List.set_cons_succ]
            refine wpAnyH_take (i := 2) (v := ?_) rfl (by kernel_rfl) (by kernel_rfl) (by kernel_rfl) (fun _ _ _ h => h) (Or.inl ⟨by rfl, ?_⟩) (by assumption) ?_
            rotate_left 1
            focus ((intro w hSw; (try dsimp only at hSw); go_simp); try with_reducible rfl)
            try simp only [Act.put, Array.getInternal_eq_getElem, List.getElem_toArray, List.getElem_cons_zero, List.getElem_cons_succ, List.setIfInBounds_toArray, List.set_cons_zero, List.set_cons_succ]
            refine wpAnyH_take (i := 3) (v := ?_) rfl (by kernel_rfl) (by kernel_rfl) (by kernel_rfl) (fun _ _ _ h => h) (Or.inl ⟨by rfl, ?_⟩) (by assumption) ?_
            rotate_left 1
            focus ((intro w hSw; (try dsimp only at hSw); go_simp); try with_reducible rfl)
            try simp only [Act.put, Array.getInternal_eq_getElem, List.getElem_toArray, List.getElem_cons_zero, List.getElem_cons_succ, List.setIfInBounds_toArray, List.set_cons_zero, List.set_cons_succ]
            refine wpAnyH_take (i := 4) (v := ?_) rfl (by kernel_rfl) (by kernel_rfl) (by kernel_rfl) (fun _ _ _ h => h) (Or.inl ⟨by rfl, ?_⟩) (by assumption) ?_
            rotate_left 1
            focus ((intro w hSw; (try dsimp only at hSw); go_simp); try with_reducible rfl)
            try simp only [Act.put, Array.getInternal_eq_getElem, List.getElem_toArray, List.getElem_cons_zero, List.getElem_cons_succ, List.setIfInBounds_toArray, List.set_cons_zero, List.set_cons_succ]
            refine wpAnyH_take (i := 5) (v := ?_) rfl (by kernel_rfl) (by kernel_rfl) (by kernel_rfl) (fun _ _ _ h => h) (Or.inl ⟨by rfl, ?_⟩) (by assumption) ?_
            rotate_left 1
            focus ((intro w hSw; (try dsimp only at hSw); go_simp); try with_reducible rfl)
            try simp only [Act.put, Array.getInternal_eq_getElem, List.getElem_toArray, List.getElem_cons_zero, List.getElem_cons_succ, List.setIfInBounds_toArray, List.set_cons_zero, List.set_cons_succ]
            refine wpAnyH_ready (rs := [6]) (by kernel_rfl) (by simp) ?_
            refine AllReadyH.cons rfl (fun K2 hK2 => ?_) AllReadyH.nil
            try simp only [Array.getInternal_eq_getElem, List.getElem_toArray, List.getElem_cons_zero, List.getElem_cons_succ]
            go_simp
            go_at_call 174
            refine (hHL.out).mono ?_
            rintro e w9 ⟨v9, FM9, rfl, HB9, hA9, hC9, hF9⟩
            have hC9' := hCw8.trans ((Chg.of_below (A := fun q => q < w.heap.size + 2 ∨ w2.heap.size ≤ q) (below_drew (Below.refl w8.heap.size w8))).trans (hC9.mono (fun q hq => by rcases hq with hq | hq; exact .inl (by omega); (rcases hF8.out q hq with h | h; exact hFk.out q h; right; have := hFp4.out.2; omega))))
            have hF9' : Hid (∀ q, FM9 q → q < w.heap.size + 2 ∨ w2.heap.size ≤ q) := Lib.hid (fun q hq => by
              rcases hF9 q hq with h | h
              · rcases hF8.out q h with h | h
                · exact hFk.out q h
                · right; have := hFp4.out.2; omega
              · right; rw [hsd8] at h; have := hFp4.out.2; omega)
            have hA9' : AllSt w.heap.size (w.heap.size + 1) FM9 (momToB s I O (k + 1)) w9 := by rw [HMk.out]; unfold momPB; rw [← hS1.out]; simpa only [List.append_assoc, List.cons_append, List.nil_append] using hA9
            have hml9 : (momToB s I O (k + 1)).length ≤ (k + 1) * 1048577 := by rw [HMk.out]; unfold momPB; rw [List.length_append, List.length_cons, momB_len]; rw [Nat.add_mul]; omega
            have zp9 := hC9.cell zp8 (fun h => by have h : wo.heap.size = w.heap.size + 1 ∨ FM8 wo.heap.size := h; rcases h with h | h; omega; exact hFn8.out.2 h)
            have cu9 := hC9.cell cuO8 (fun h => by have h : go = w.heap.size + 1 ∨ FM8 go := h; rcases h with h | h; omega; (rcases hF8.out _ h with h | h; (have := hFk.out _ h; omega); (have h := h; have := hFp4.out.2; omega)))
            refine hK2.out _ _ ⟨zp9, cu9⟩ (fun _ => ?_)
            clear hK2 K2
            try simp only [Act.put, List.setIfInBounds_toArray, List.set_cons_zero, List.set_cons_succ]
            refine wpAnyH_done (by kernel_rfl) ?_ _
            clear hA9 hF9 hC9 hHL
            go_wp2
            go_roundw
            case rel => exact ⟨k + 1, FM9, by omega, by go_num, hA9', hml9, HB9, hC9', hF9'⟩
            case measure => simp [intOf]; omega
      · go_simp
        go_at_call 53
        refine (listOf_calls _ S1 _ hRd (by omega)).mono ?_
        rintro e w5 ⟨v5, rfl, hv5, hb5⟩
        replace hb5 := below_then (below_drew (Below.refl w4.heap.size w4)) hb5
        obtain ⟨A5, c5, rfl, _, _⟩ := hv5.form
        have hm5 := cell_below hb5 hm0
        have hcc5 := blk_below hbx0 hb5
        have hOm5 := hOm.below hb5
        go_wp2_with fail
        refine hK1.out _ _ trivial (fun _ => ?_)
        clear hK1 K1
        try simp only [Act.put, List.setIfInBounds_toArray, List.set_cons_zero, List.set_cons_succ]
        refine wpAnyH_ready (rs := [0, 3]) (by kernel_rfl) (by simp) ?_
        refine AllReadyH.cons rfl (fun K1 hK1 => ?_) (AllReadyH.cons rfl (fun K1 hK1 => ?_) AllReadyH.nil)
        · go_simp
          refine hK1.out _ _ trivial (fun _ => ?_)
          clear hK1 K1
          try simp only [Act.put, List.setIfInBounds_toArray, List.set_cons_zero, List.set_cons_succ]
          refine wpAnyH_ready (rs := [3]) (by kernel_rfl) (by simp) ?_
          refine AllReadyH.cons rfl (fun K1 hK1 => ?_) AllReadyH.nil
          · have hb6 := below_new (w := w5) (.cells #[.slice A5 (listB S1).length c5] 25)
            have fb6 := heap_alloc_new w5 (.cells #[.slice A5 (listB S1).length c5] 25)
            have hm6 := cell_below hb6 hm5
            have hcc6 := blk_below hcc5 hb6
            have hOm6 := hOm5.below hb6
            have hv6 := (hv5.rd.bound).below hb6
            have hs6 : (w5.alloc (.cells #[.slice A5 (listB S1).length c5] 25)).heap.size = w5.heap.size + 1 := by simp
            have hb46 := below_then hb5 hb6
            go_simp
            refine hK1.out _ _ trivial (fun _ => ?_)
            clear hK1 K1
            generalize w5.alloc (.cells #[.slice A5 (listB S1).length c5] 25) = w6 at *
            try simp only [Act.put, List.setIfInBounds_toArray, List.set_cons_zero, List.set_cons_succ]
            refine wpAnyH_ready (rs := [4]) (by kernel_rfl) (by simp) ?_
            refine AllReadyH.cons rfl (fun K1 hK1 => ?_) AllReadyH.nil
            have hs46 := hb46.size
            obtain ⟨A7, c7, w7, hrn, hO7, hg7⟩ := run_push hOm6 fb6 hv6 (fun q hq h => by have h1 := hq.1; have h2 := hFb q h; simp only [Lib_hsd] at h1; omega) (by omega)
            rw [if_pos (by first | kernel_rfl | rfl | decide)]
            refine oper_append _ _ _ _ _ _ rfl (by rfl) (by rfl) hrn ?_
            try simp only [Act.put, Array.getInternal_eq_getElem, List.getElem_toArray, List.getElem_cons_zero, List.getElem_cons_succ, List.setIfInBounds_toArray, List.set_cons_zero, List.set_cons_succ]
            refine hK1.out _ _ trivial (fun _ => ?_)
            clear hK1 K1
            have hown : ∀ q, some q = (Value.slice Am MT.length cm).ownBlock → FM q := fun q hq => own_in hOm6 (.inr hq.symm)
            have hbx7 := grown_blk hg7 hcc6 (fun he => (hFb _ (hown _ he)).2.2 rfl)
            obtain ⟨zz, zf⟩ := cell_of_block hbx7
            have hm7 : w7.cell? ⟨w.heap.size + 1, 0, none⟩ = some (.slice Am MT.length cm) := (zz 0).trans rfl
            have hf7 := zf 0
            have hs7 := hg7.size
            have hbl := Go.one_setCell (u := .slice A7 (MT.length + 1) c7) hbx7
            have hO8 := (hO7.bound).set_other (b := w.heap.size + 1) (o := 0) (u := .slice A7 (MT.length + 1) c7) (fun h => by
              obtain ⟨h1, h2⟩ := h
              rcases h1 with h1 | h1 | h1
              · exact (hFb _ h1).2.2 rfl
              · have h3 := h1.1; simp only [Lib_hsd] at h3; omega
              · omega)
            have hC8 : Chg (fun q => q = w.heap.size + 1 ∨ FM q) w4 (w7.setCell ⟨w.heap.size + 1, 0, none⟩ (.slice A7 (MT.length + 1) c7)) := by
              have c1 : Chg (fun q => q = w.heap.size + 1 ∨ FM q) w4 w6 := Chg.of_below hb46
              have c2 : Chg (fun q => q = w.heap.size + 1 ∨ FM q) w6 w7 := ⟨hg7.os, hg7.tape, hg7.output, hg7.size, fun q hq hn => hg7.block q hq (fun e => hn (.inr (hown q e)))⟩
              exact (c1.trans c2).trans (Chg.set (.inl rfl))
            have hs8 : (w7.setCell ⟨w.heap.size + 1, 0, none⟩ (.slice A7 (MT.length + 1) c7)).heap.size = w7.heap.size := by simp
            obtain ⟨FM8, hFM8⟩ : ∃ FM8 : Nat → Prop, FM8 = fun q => (FM q ∨ (w4.drew.heap.size ≤ q ∧ q < w5.heap.size) ∨ w6.heap.size ≤ q) ∧ q < w7.heap.size := ⟨_, rfl⟩
            have hA8 : AllSt w.heap.size (w.heap.size + 1) FM8 (MT ++ [listB S1]) (w7.setCell ⟨w.heap.size + 1, 0, none⟩ (.slice A7 (MT.length + 1) c7)) := by
              subst hFM8
              exact ⟨⟨_, hbl, hO8⟩, fun q hq => by
                obtain ⟨h1, h2⟩ := hq
                rw [hs8]
                rcases h1 with h1 | h1 | h1
                · have := hFb _ h1; exact ⟨this.1, h2, this.2.2⟩
                · have h3 := h1.1; simp only [Lib_hsd] at h3; exact ⟨by omega, h2, by omega⟩
                · exact ⟨by omega, h2, by omega⟩⟩
            have hF8 : Hid (∀ q, FM8 q → FM q ∨ w4.heap.size ≤ q) := by
              subst hFM8
              exact Lib.hid (fun q hq => by
                obtain ⟨h1, h2⟩ := hq
                rcases h1 with h1 | h1 | h1
                · exact .inl h1
                · have h3 := h1.1; simp only [Lib_hsd] at h3; exact .inr (by omega)
                · exact .inr (by omega))
            clear hFM8
            clear zz zf hrn hg7 hown hO8 hbl hb46 hO7
            refine wpAnyH_ready (rs := [5]) (by kernel_rfl) (by simp) ?_
            refine AllReadyH.cons rfl (fun K1 hK1 => ?_) AllReadyH.nil
            go_simp
            refine hK1.out _ _ trivial (fun _ => ?_)
            clear hK1 K1
            try simp only [Act.put, List.setIfInBounds_toArray, List.set_cons_zero, List.set_cons_succ]
            refine wpAnyH_done (by kernel_rfl) ?_ _
            clear hm7 hf7 hbx7 hm6 hcc6 hOm6 hv6 fb6
            generalize w7.setCell ⟨w.heap.size + 1, 0, none⟩ (.slice A7 (MT.length + 1) c7) = w8 at *
            have hCw8 := hC4.trans (hC8.mono (fun q hq => by rcases hq with hq | hq; exact .inl (by omega); exact hFk.out q hq))
            have HB8 := hC8.to_below HB4 HB4.size (fun q hq => by rcases hq with hq | hq; omega; exact (hFb q hq).1)
            have hpb8 := hC8.blk hpb4 (fun h => by rcases h with h | h; omega; exact hFp4.out.1 h)
            have hRO8 := hRO.move (hCw8.same (fun q hq h => by have hq : w.heap.size + 2 ≤ q ∧ q < w2.heap.size := hq; rcases h with h | h <;> omega))
            have cuO8 := hCw8.cell cuO (fun h => by have h : go < w.heap.size + 2 ∨ w2.heap.size ≤ go := h; omega)
            have hs48 := hC8.size
            have hFn8 : Hid (wo.heap.size ≠ w.heap.size + 1 ∧ ¬ FM8 wo.heap.size) := Lib.hid ⟨by omega, fun h => by rcases hF8.out _ h with h | h; exact hFp4.out.1 h; have := hFp4.out.2; omega⟩
            have hHL := Lib.hid (live1_calls p N b (o + k * 6) wo.heap.size (w.heap.size + 1) _ _ _ _ _ (O.getD k []) FM8 (MT ++ [listB S1]) w w8.drew hp.out h1.out h2.out (hRO8.below (below_drew (Below.refl w8.heap.size w8))) hOl hN0 (by omega) hin.out (below_drew HB8) (hA8.below (below_drew (Below.refl w8.heap.size w8))) (by omega) hpb8 hFn8.out (by simp; omega))
            obtain ⟨zpb, _⟩ := cell_of_block hpb8
            have zp8 : w8.cell? ⟨wo.heap.size, 0, none⟩ = some (.pointer (some ⟨b, o + k * 6, none⟩)) := (zpb 0).trans rfl
            clear zpb
            have hsd8 : w8.drew.heap.size = w8.heap.size := rfl
            go_wp2_with fail
            refine wp_region_held_drew (S := (fun w' => w'.cell? ⟨wo.heap.size, 0, none⟩ = some (.pointer (some ⟨b, o + k * 6, none⟩)) ∧ w'.cell? ⟨go, k, none⟩ = some (.slice (some ⟨gO, 0, none⟩) N cgO))) (by kernel_rfl) ⟨zp8, cuO8⟩ (fun hH0 => ?_)
            refine wpAnyH_take (i := 0) (v := ?_) rfl (by kernel_rfl) (by kernel_rfl) (by kernel_rfl) (fun _ _ _ h => h) (Or.inl ⟨by rfl, ?_⟩) (by assumption) ?_
            rotate_left 1
            focus ((intro w hSw; (try dsimp only at hSw); go_simp); try with_reducible rfl)
            try simp only [Act.put, Array.getInternal_eq_getElem, List.getElem_toArray, List.getElem_cons_zero, List.getElem_cons_succ, List.setIfInBounds_toArray, List.set_cons_zero, List.set_cons_succ]
            refine wpAnyH_take (i := 1) (v := ?_) rfl (by kernel_rfl) (by kernel_rfl) (by kernel_rfl) (fun _ _ _ h => h) (Or.inl ⟨by rfl, ?_⟩) (by assumption) ?_
            rotate_left 1
            focus ((intro w hSw; (try dsimp only at hSw); go_simp); try with_reducible rfl)
            try simp only [Act.put, Array.getInternal_eq_getElem, List.getElem_toArray, List.getElem_cons_zero, List.getElem_cons_succ, List.setIfInBounds_toArray, List.set_cons_zero, List.set_cons_succ]
            refine wpAnyH_take (i := 2) (v := ?_) rfl (by kernel_rfl) (by kernel_rfl) (by kernel_rfl) (fun _ _ _ h => h) (Or.inl ⟨by rfl, ?_⟩) (by assumption) ?_
            rotate_left 1
            focus ((intro w hSw; (try dsimp only at hSw); go_simp); try with_reducible rfl)
            try simp only [Act.put, Array.getInternal_eq_getElem, List.getElem_toArray, List.getElem_cons_zero, List.getElem_cons_succ, List.setIfInBounds_toArray, List.set_cons_zero, List.set_cons_succ]
            refine wpAnyH_take (i := 3) (v := ?_) rfl (by kernel_rfl) (by kernel_rfl) (by kernel_rfl) (fun _ _ _ h => h) (Or.inl ⟨by rfl, ?_⟩) (by assumption) ?_
            rotate_left 1
            focus ((intro w hSw; (try dsimp only at hSw); go_simp); try with_reducible rfl)
            try simp only [Act.put, Array.getInternal_eq_getElem, List.getElem_toArray, List.getElem_cons_zero, List.getElem_cons_succ, List.setIfInBounds_toArray, List.set_cons_zero, List.set_cons_succ]
            refine wpAnyH_take (i := 4) (v := ?_) rfl (by kernel_rfl) (by kernel_rfl) (by kernel_rfl) (fun _ _ _ h => h) (Or.inl ⟨by rfl, ?_⟩) (by assumption) ?_
            rotate_left 1
            focus ((intro w hSw; (try dsimp only at hSw); go_simp); try with_reducible rfl)
            try simp only [Act.put, Array.getInternal_eq_getElem, List.getElem_toArray, List.getElem_cons_zero, List.getElem_cons_succ, List.setIfInBounds_toArray, List.set_cons_zero, List.set_cons_succ]
            refine wpAnyH_take (i := 5) (v := ?_) rfl (by kernel_rfl) (by kernel_rfl) (by kernel_rfl) (fun _ _ _ h => h) (Or.inl ⟨by rfl, ?_⟩) (by assumption) ?_
            rotate_left 1
            focus ((intro w hSw; (try dsimp only at hSw); go_simp); try with_reducible rfl)
            try simp only [Act.put, Array.getInternal_eq_getElem, List.getElem_toArray, List.getElem_cons_zero, List.getElem_cons_succ, List.setIfInBounds_toArray, List.set_cons_zero, List.set_cons_succ]
            refine wpAnyH_ready (rs := [6]) (by kernel_rfl) (by simp) ?_
            refine AllReadyH.cons rfl (fun K2 hK2 => ?_) AllReadyH.nil
            try simp only [Array.getInternal_eq_getElem, List.getElem_toArray, List.getElem_cons_zero, List.getElem_cons_succ]
            go_simp
            go_at_call 174
            refine (hHL.out).mono ?_
            rintro e w9 ⟨v9, FM9, rfl, HB9, hA9, hC9, hF9⟩
            have hC9' := hCw8.trans ((Chg.of_below (A := fun q => q < w.heap.size + 2 ∨ w2.heap.size ≤ q) (below_drew (Below.refl w8.heap.size w8))).trans (hC9.mono (fun q hq => by rcases hq with hq | hq; exact .inl (by omega); (rcases hF8.out q hq with h | h; exact hFk.out q h; right; have := hFp4.out.2; omega))))
            have hF9' : Hid (∀ q, FM9 q → q < w.heap.size + 2 ∨ w2.heap.size ≤ q) := Lib.hid (fun q hq => by
              rcases hF9 q hq with h | h
              · rcases hF8.out q h with h | h
                · exact hFk.out q h
                · right; have := hFp4.out.2; omega
              · right; rw [hsd8] at h; have := hFp4.out.2; omega)
            have hA9' : AllSt w.heap.size (w.heap.size + 1) FM9 (momToB s I O (k + 1)) w9 := by rw [HMk.out]; unfold momPB; rw [← hS1.out]; simpa only [List.append_assoc, List.cons_append, List.nil_append] using hA9
            have hml9 : (momToB s I O (k + 1)).length ≤ (k + 1) * 1048577 := by rw [HMk.out]; unfold momPB; rw [List.length_append, List.length_cons, momB_len]; rw [Nat.add_mul]; omega
            have zp9 := hC9.cell zp8 (fun h => by have h : wo.heap.size = w.heap.size + 1 ∨ FM8 wo.heap.size := h; rcases h with h | h; omega; exact hFn8.out.2 h)
            have cu9 := hC9.cell cuO8 (fun h => by have h : go = w.heap.size + 1 ∨ FM8 go := h; rcases h with h | h; omega; (rcases hF8.out _ h with h | h; (have := hFk.out _ h; omega); (have h := h; have := hFp4.out.2; omega)))
            refine hK2.out _ _ ⟨zp9, cu9⟩ (fun _ => ?_)
            clear hK2 K2
            try simp only [Act.put, List.setIfInBounds_toArray, List.set_cons_zero, List.set_cons_succ]
            refine wpAnyH_done (by kernel_rfl) ?_ _
            clear hA9 hF9 hC9 hHL
            go_wp2
            go_roundw
            case rel => exact ⟨k + 1, FM9, by omega, by go_num, hA9', hml9, HB9, hC9', hF9'⟩
            case measure => simp [intOf]; omega
        · have hb6 := below_new (w := w5) (.cells #[.slice A5 (listB S1).length c5] 25)
          have fb6 := heap_alloc_new w5 (.cells #[.slice A5 (listB S1).length c5] 25)
          have hm6 := cell_below hb6 hm5
          have hcc6 := blk_below hcc5 hb6
          have hOm6 := hOm5.below hb6
          have hv6 := (hv5.rd.bound).below hb6
          have hs6 : (w5.alloc (.cells #[.slice A5 (listB S1).length c5] 25)).heap.size = w5.heap.size + 1 := by simp
          have hb46 := below_then hb5 hb6
          go_simp
          refine hK1.out _ _ trivial (fun _ => ?_)
          clear hK1 K1
          generalize w5.alloc (.cells #[.slice A5 (listB S1).length c5] 25) = w6 at *
          try simp only [Act.put, List.setIfInBounds_toArray, List.set_cons_zero, List.set_cons_succ]
          refine wpAnyH_ready (rs := [0]) (by kernel_rfl) (by simp) ?_
          refine AllReadyH.cons rfl (fun K1 hK1 => ?_) AllReadyH.nil
          · go_simp
            refine hK1.out _ _ trivial (fun _ => ?_)
            clear hK1 K1
            try simp only [Act.put, List.setIfInBounds_toArray, List.set_cons_zero, List.set_cons_succ]
            refine wpAnyH_ready (rs := [4]) (by kernel_rfl) (by simp) ?_
            refine AllReadyH.cons rfl (fun K1 hK1 => ?_) AllReadyH.nil
            have hs46 := hb46.size
            obtain ⟨A7, c7, w7, hrn, hO7, hg7⟩ := run_push hOm6 fb6 hv6 (fun q hq h => by have h1 := hq.1; have h2 := hFb q h; simp only [Lib_hsd] at h1; omega) (by omega)
            rw [if_pos (by first | kernel_rfl | rfl | decide)]
            refine oper_append _ _ _ _ _ _ rfl (by rfl) (by rfl) hrn ?_
            try simp only [Act.put, Array.getInternal_eq_getElem, List.getElem_toArray, List.getElem_cons_zero, List.getElem_cons_succ, List.setIfInBounds_toArray, List.set_cons_zero, List.set_cons_succ]
            refine hK1.out _ _ trivial (fun _ => ?_)
            clear hK1 K1
            have hown : ∀ q, some q = (Value.slice Am MT.length cm).ownBlock → FM q := fun q hq => own_in hOm6 (.inr hq.symm)
            have hbx7 := grown_blk hg7 hcc6 (fun he => (hFb _ (hown _ he)).2.2 rfl)
            obtain ⟨zz, zf⟩ := cell_of_block hbx7
            have hm7 : w7.cell? ⟨w.heap.size + 1, 0, none⟩ = some (.slice Am MT.length cm) := (zz 0).trans rfl
            have hf7 := zf 0
            have hs7 := hg7.size
            have hbl := Go.one_setCell (u := .slice A7 (MT.length + 1) c7) hbx7
            have hO8 := (hO7.bound).set_other (b := w.heap.size + 1) (o := 0) (u := .slice A7 (MT.length + 1) c7) (fun h => by
              obtain ⟨h1, h2⟩ := h
              rcases h1 with h1 | h1 | h1
              · exact (hFb _ h1).2.2 rfl
              · have h3 := h1.1; simp only [Lib_hsd] at h3; omega
              · omega)
            have hC8 : Chg (fun q => q = w.heap.size + 1 ∨ FM q) w4 (w7.setCell ⟨w.heap.size + 1, 0, none⟩ (.slice A7 (MT.length + 1) c7)) := by
              have c1 : Chg (fun q => q = w.heap.size + 1 ∨ FM q) w4 w6 := Chg.of_below hb46
              have c2 : Chg (fun q => q = w.heap.size + 1 ∨ FM q) w6 w7 := ⟨hg7.os, hg7.tape, hg7.output, hg7.size, fun q hq hn => hg7.block q hq (fun e => hn (.inr (hown q e)))⟩
              exact (c1.trans c2).trans (Chg.set (.inl rfl))
            have hs8 : (w7.setCell ⟨w.heap.size + 1, 0, none⟩ (.slice A7 (MT.length + 1) c7)).heap.size = w7.heap.size := by simp
            obtain ⟨FM8, hFM8⟩ : ∃ FM8 : Nat → Prop, FM8 = fun q => (FM q ∨ (w4.drew.heap.size ≤ q ∧ q < w5.heap.size) ∨ w6.heap.size ≤ q) ∧ q < w7.heap.size := ⟨_, rfl⟩
            have hA8 : AllSt w.heap.size (w.heap.size + 1) FM8 (MT ++ [listB S1]) (w7.setCell ⟨w.heap.size + 1, 0, none⟩ (.slice A7 (MT.length + 1) c7)) := by
              subst hFM8
              exact ⟨⟨_, hbl, hO8⟩, fun q hq => by
                obtain ⟨h1, h2⟩ := hq
                rw [hs8]
                rcases h1 with h1 | h1 | h1
                · have := hFb _ h1; exact ⟨this.1, h2, this.2.2⟩
                · have h3 := h1.1; simp only [Lib_hsd] at h3; exact ⟨by omega, h2, by omega⟩
                · exact ⟨by omega, h2, by omega⟩⟩
            have hF8 : Hid (∀ q, FM8 q → FM q ∨ w4.heap.size ≤ q) := by
              subst hFM8
              exact Lib.hid (fun q hq => by
                obtain ⟨h1, h2⟩ := hq
                rcases h1 with h1 | h1 | h1
                · exact .inl h1
                · have h3 := h1.1; simp only [Lib_hsd] at h3; exact .inr (by omega)
                · exact .inr (by omega))
            clear hFM8
            clear zz zf hrn hg7 hown hO8 hbl hb46 hO7
            refine wpAnyH_ready (rs := [5]) (by kernel_rfl) (by simp) ?_
            refine AllReadyH.cons rfl (fun K1 hK1 => ?_) AllReadyH.nil
            go_simp
            refine hK1.out _ _ trivial (fun _ => ?_)
            clear hK1 K1
            try simp only [Act.put, List.setIfInBounds_toArray, List.set_cons_zero, List.set_cons_succ]
            refine wpAnyH_done (by kernel_rfl) ?_ _
            clear hm7 hf7 hbx7 hm6 hcc6 hOm6 hv6 fb6
            generalize w7.setCell ⟨w.heap.size + 1, 0, none⟩ (.slice A7 (MT.length + 1) c7) = w8 at *
            have hCw8 := hC4.trans (hC8.mono (fun q hq => by rcases hq with hq | hq; exact .inl (by omega); exact hFk.out q hq))
            have HB8 := hC8.to_below HB4 HB4.size (fun q hq => by rcases hq with hq | hq; omega; exact (hFb q hq).1)
            have hpb8 := hC8.blk hpb4 (fun h => by rcases h with h | h; omega; exact hFp4.out.1 h)
            have hRO8 := hRO.move (hCw8.same (fun q hq h => by have hq : w.heap.size + 2 ≤ q ∧ q < w2.heap.size := hq; rcases h with h | h <;> omega))
            have cuO8 := hCw8.cell cuO (fun h => by have h : go < w.heap.size + 2 ∨ w2.heap.size ≤ go := h; omega)
            have hs48 := hC8.size
            have hFn8 : Hid (wo.heap.size ≠ w.heap.size + 1 ∧ ¬ FM8 wo.heap.size) := Lib.hid ⟨by omega, fun h => by rcases hF8.out _ h with h | h; exact hFp4.out.1 h; have := hFp4.out.2; omega⟩
            have hHL := Lib.hid (live1_calls p N b (o + k * 6) wo.heap.size (w.heap.size + 1) _ _ _ _ _ (O.getD k []) FM8 (MT ++ [listB S1]) w w8.drew hp.out h1.out h2.out (hRO8.below (below_drew (Below.refl w8.heap.size w8))) hOl hN0 (by omega) hin.out (below_drew HB8) (hA8.below (below_drew (Below.refl w8.heap.size w8))) (by omega) hpb8 hFn8.out (by simp; omega))
            obtain ⟨zpb, _⟩ := cell_of_block hpb8
            have zp8 : w8.cell? ⟨wo.heap.size, 0, none⟩ = some (.pointer (some ⟨b, o + k * 6, none⟩)) := (zpb 0).trans rfl
            clear zpb
            have hsd8 : w8.drew.heap.size = w8.heap.size := rfl
            go_wp2_with fail
            refine wp_region_held_drew (S := (fun w' => w'.cell? ⟨wo.heap.size, 0, none⟩ = some (.pointer (some ⟨b, o + k * 6, none⟩)) ∧ w'.cell? ⟨go, k, none⟩ = some (.slice (some ⟨gO, 0, none⟩) N cgO))) (by kernel_rfl) ⟨zp8, cuO8⟩ (fun hH0 => ?_)
            refine wpAnyH_take (i := 0) (v := ?_) rfl (by kernel_rfl) (by kernel_rfl) (by kernel_rfl) (fun _ _ _ h => h) (Or.inl ⟨by rfl, ?_⟩) (by assumption) ?_
            rotate_left 1
            focus ((intro w hSw; (try dsimp only at hSw); go_simp); try with_reducible rfl)
            try simp only [Act.put, Array.getInternal_eq_getElem, List.getElem_toArray, List.getElem_cons_zero, List.getElem_cons_succ, List.setIfInBounds_toArray, List.set_cons_zero, List.set_cons_succ]
            refine wpAnyH_take (i := 1) (v := ?_) rfl (by kernel_rfl) (by kernel_rfl) (by kernel_rfl) (fun _ _ _ h => h) (Or.inl ⟨by rfl, ?_⟩) (by assumption) ?_
            rotate_left 1
            focus ((intro w hSw; (try dsimp only at hSw); go_simp); try with_reducible rfl)
            try simp only [Act.put, Array.getInternal_eq_getElem, List.getElem_toArray, List.getElem_cons_zero, List.getElem_cons_succ, List.setIfInBounds_toArray, List.set_cons_zero, List.set_cons_succ]
            refine wpAnyH_take (i := 2) (v := ?_) rfl (by kernel_rfl) (by kernel_rfl) (by kernel_rfl) (fun _ _ _ h => h) (Or.inl ⟨by rfl, ?_⟩) (by assumption) ?_
            rotate_left 1
            focus ((intro w hSw; (try dsimp only at hSw); go_simp); try with_reducible rfl)
            try simp only [Act.put, Array.getInternal_eq_getElem, List.getElem_toArray, List.getElem_cons_zero, List.getElem_cons_succ, List.setIfInBounds_toArray, List.set_cons_zero, List.set_cons_succ]
            refine wpAnyH_take (i := 3) (v := ?_) rfl (by kernel_rfl) (by kernel_rfl) (by kernel_rfl) (fun _ _ _ h => h) (Or.inl ⟨by rfl, ?_⟩) (by assumption) ?_
            rotate_left 1
            focus ((intro w hSw; (try dsimp only at hSw); go_simp); try with_reducible rfl)
            try simp only [Act.put, Array.getInternal_eq_getElem, List.getElem_toArray, List.getElem_cons_zero, List.getElem_cons_succ, List.setIfInBounds_toArray, List.set_cons_zero, List.set_cons_succ]
            refine wpAnyH_take (i := 4) (v := ?_) rfl (by kernel_rfl) (by kernel_rfl) (by kernel_rfl) (fun _ _ _ h => h) (Or.inl ⟨by rfl, ?_⟩) (by assumption) ?_
            rotate_left 1
            focus ((intro w hSw; (try dsimp only at hSw); go_simp); try with_reducible rfl)
            try simp only [Act.put, Array.getInternal_eq_getElem, List.getElem_toArray, List.getElem_cons_zero, List.getElem_cons_succ, List.setIfInBounds_toArray, List.set_cons_zero, List.set_cons_succ]
            refine wpAnyH_take (i := 5) (v := ?_) rfl (by kernel_rfl) (by kernel_rfl) (by kernel_rfl) (fun _ _ _ h => h) (Or.inl ⟨by rfl, ?_⟩) (by assumption) ?_
            rotate_left 1
            focus ((intro w hSw; (try dsimp only at hSw); go_simp); try with_reducible rfl)
            try simp only [Act.put, Array.getInternal_eq_getElem, List.getElem_toArray, List.getElem_cons_zero, List.getElem_cons_succ, List.setIfInBounds_toArray, List.set_cons_zero, List.set_cons_succ]
            refine wpAnyH_ready (rs := [6]) (by kernel_rfl) (by simp) ?_
            refine AllReadyH.cons rfl (fun K2 hK2 => ?_) AllReadyH.nil
            try simp only [Array.getInternal_eq_getElem, List.getElem_toArray, List.getElem_cons_zero, List.getElem_cons_succ]
            go_simp
            go_at_call 174
            refine (hHL.out).mono ?_
            rintro e w9 ⟨v9, FM9, rfl, HB9, hA9, hC9, hF9⟩
            have hC9' := hCw8.trans ((Chg.of_below (A := fun q => q < w.heap.size + 2 ∨ w2.heap.size ≤ q) (below_drew (Below.refl w8.heap.size w8))).trans (hC9.mono (fun q hq => by rcases hq with hq | hq; exact .inl (by omega); (rcases hF8.out q hq with h | h; exact hFk.out q h; right; have := hFp4.out.2; omega))))
            have hF9' : Hid (∀ q, FM9 q → q < w.heap.size + 2 ∨ w2.heap.size ≤ q) := Lib.hid (fun q hq => by
              rcases hF9 q hq with h | h
              · rcases hF8.out q h with h | h
                · exact hFk.out q h
                · right; have := hFp4.out.2; omega
              · right; rw [hsd8] at h; have := hFp4.out.2; omega)
            have hA9' : AllSt w.heap.size (w.heap.size + 1) FM9 (momToB s I O (k + 1)) w9 := by rw [HMk.out]; unfold momPB; rw [← hS1.out]; simpa only [List.append_assoc, List.cons_append, List.nil_append] using hA9
            have hml9 : (momToB s I O (k + 1)).length ≤ (k + 1) * 1048577 := by rw [HMk.out]; unfold momPB; rw [List.length_append, List.length_cons, momB_len]; rw [Nat.add_mul]; omega
            have zp9 := hC9.cell zp8 (fun h => by have h : wo.heap.size = w.heap.size + 1 ∨ FM8 wo.heap.size := h; rcases h with h | h; omega; exact hFn8.out.2 h)
            have cu9 := hC9.cell cuO8 (fun h => by have h : go = w.heap.size + 1 ∨ FM8 go := h; rcases h with h | h; omega; (rcases hF8.out _ h with h | h; (have := hFk.out _ h; omega); (have h := h; have := hFp4.out.2; omega)))
            refine hK2.out _ _ ⟨zp9, cu9⟩ (fun _ => ?_)
            clear hK2 K2
            try simp only [Act.put, List.setIfInBounds_toArray, List.set_cons_zero, List.set_cons_succ]
            refine wpAnyH_done (by kernel_rfl) ?_ _
            clear hA9 hF9 hC9 hHL
            go_wp2
            go_roundw
            case rel => exact ⟨k + 1, FM9, by omega, by go_num, hA9', hml9, HB9, hC9', hF9'⟩
            case measure => simp [intOf]; omega
    · obtain rfl : k = s.parts.length := by omega
      obtain ⟨⟨mv, hbx, hO⟩, hFb⟩ := hA
      obtain ⟨Am, cm, rfl, _, _⟩ := hO.form
      obtain ⟨zb, _⟩ := cell_of_block hbx
      have hm0 : wo.cell? ⟨w.heap.size + 1, 0, none⟩ = some (.slice Am (momToB s I O s.parts.length).length cm) := (zb 0).trans rfl
      clear zb
      go_wp2
      go_ret
      exact ⟨_, I, O, rfl, hO.rd.mono (fun q hq => (hFb q hq).1), Lib.hid ⟨hH.out.1, hH.out.2, fun k hk => by obtain ⟨_, _, _, h1, _⟩ := hLI.out k hk; obtain ⟨_, _, _, h2, _⟩ := hLO.out k hk; exact ⟨h1, h2⟩⟩, HB⟩
end Go.Proofs.Ytnfaibenekninaa.L

set_option linter.unusedVariables false
set_option linter.unusedSimpArgs false
namespace Go.Proofs.Ytnfaibenekninaa.L
open Go.RowKit
def SetIs (S : List Bool) (l : List Int) : Prop := Inc l ∧ ∀ v, v ∈ l ↔ InB S v
theorem SetIs.eq {S : List Bool} {l : List Int} (h : SetIs S l) : listB S = l :=
  (listB_inc S).ext h.1 (fun v => by rw [mem_listB, h.2 v])
theorem SetIs.add {S : List Bool} {l m : List Int} (h : SetIs S l) (hm : ∀ v ∈ m, 0 ≤ v ∧ v < S.length) : SetIs (addB S m) (m.foldl putL l) :=
  ⟨Inc.foldl h.1, fun v => by rw [mem_foldl_putL, InB_add hm, h.2 v]⟩
theorem mem_putL1 {l : List Int} {n v : Int} : v ∈ putL l n ↔ v = n ∨ v ∈ l := by
  have := @mem_foldl_putL [n] l v
  simpa using this
theorem SetIs.now {S : List Bool} {l : List Int} {x : Fl} (h : SetIs S l) (hd : setsS x = true → 0 ≤ x.dst ∧ x.dst < S.length) : SetIs (nowB x S) (nowL x l) := by
  unfold nowB nowL
  by_cases hs : setsS x = true
  · rw [if_pos hs, if_pos hs]
    refine ⟨h.1.putL _, fun v => ?_⟩
    have h0 := hd hs
    rw [mem_putL1, InB_set h0.1 (by omega), h.2 v]
    by_cases e : v = x.dst <;> simp [e]
  · rw [if_neg hs, if_neg hs]; exact h
theorem mem_dropL {l : List Int} {n v : Int} : v ∈ dropL l n ↔ v ≠ n ∧ v ∈ l := by
  unfold dropL
  rw [List.mem_filter]
  simp [and_comm]
theorem SetIs.next {S : List Bool} {l : List Int} {x : Fl} (h : SetIs S l) (hu : usesI x = usesS x) (hd : setsS x = true → 0 ≤ x.dst ∧ x.dst < S.length) (hm : ∀ m ∈ usesI x, 0 ≤ m ∧ m < S.length) : SetIs (stepB S x) (nextL x l) := by
  unfold nextL baseL
  refine ⟨Inc.foldl ?_, fun v => ?_⟩
  · split
    · exact h.1.filter _
    · exact h.1
  · rw [mem_foldl_putL, InB_step hd hm, hu, ← h.2 v]
    by_cases hs : setsS x = true
    · rw [if_pos hs, mem_dropL]
      simp [hs]
    · rw [if_neg hs]; simp [hs]
theorem momB_eq {l : List Fl} {S : List Bool} {nd : List Int} (h : SetIs S nd) (hx : ∀ x ∈ l, usesI x = usesS x ∧ (setsS x = true → 0 ≤ x.dst ∧ x.dst < S.length) ∧ ∀ m ∈ usesI x, 0 ≤ m ∧ m < S.length) : momB l S = (momC l nd).1 ∧ SetIs (liveC l S) (momC l nd).2 := by
  induction l with
  | nil => exact ⟨rfl, h⟩
  | cons x t ih =>
    obtain ⟨i1, i2⟩ := ih (fun y hy => hx y (List.mem_cons_of_mem _ hy))
    obtain ⟨a1, a2, a3⟩ := hx x List.mem_cons_self
    have hl : (liveC t S).length = S.length := liveC_len _ _
    refine ⟨?_, ?_⟩
    · show momB t S ++ [listB (nowB x (liveC t S))] = (momC t nd).1 ++ [nowL x (momC t nd).2]
      rw [i1, (i2.now (by rw [hl]; exact a2)).eq]
    · exact i2.next a1 (by rw [hl]; exact a2) (by rw [hl]; exact a3)
theorem momPB_eq {s : Sa} (h : GoodP s) {k : Nat} {p : Pt} (hk : s.parts[k]? = some p) {i o : List Bool} {il ol : List Int} (hi : SetIs i il) (ho : SetIs o ol) (hli : (i.length : Int) = s.values) (hlo : (o.length : Int) = s.values) : momPB p i o = momP p il ol := by
  unfold momPB momP
  rw [(hi.add (fun v hv => by have := h.own_def hk (v := v) (List.mem_append.2 (.inl hv)); omega)).eq]
  rw [(momB_eq ho (fun x hx => ⟨h.uses_eq (List.mem_of_getElem? hk) hx, fun hs => by have := (h.steps_in hk hx).1 hs; omega, fun m hm => by have := (h.steps_in hk hx).2 m hm; omega⟩)).1]
theorem momToB_eq {s : Sa} (h : GoodP s) {I O : List (List Bool)} (hI : ∀ k v, InR2 I k v ↔ LvI s k v) (hO : ∀ k v, InR2 O k v ↔ LvO s k v) (hl : ∀ k, k < s.parts.length → ((I.getD k []).length : Int) = s.values ∧ ((O.getD k []).length : Int) = s.values) : momToB s I O s.parts.length = momS s := by
  have main : ∀ n, n ≤ s.parts.length → momToB s I O n = momTo s (liveIL s) (liveOL s) n := by
    intro n
    induction n with
    | zero => intro _; rfl
    | succ k ih =>
      intro hn
      have hkt : k < s.parts.length := by omega
      have hk : s.parts[k]? = some s.parts[k] := List.getElem?_eq_getElem hkt
      rw [momToB_succ hk, momTo_succ hk, ih (by omega)]
      congr 1
      refine momPB_eq h hk ⟨(liveIL_get h k).1, fun v => ?_⟩ ⟨(liveOL_get h k).1, fun v => ?_⟩ (hl k hkt).1 (hl k hkt).2
      · rw [show InB (I.getD k []) v ↔ InR2 I k v from Iff.rfl, hI k v]
        unfold liveIL
        rw [List.getD_eq_getElem?_getD, List.getElem?_map, List.getElem?_range hkt]
        show v ∈ listP (LvI s k) s.values.toNat ↔ _
        rw [mem_listP]
        exact ⟨fun q => q.2, fun q => ⟨by have := LvI.range h q; omega, q⟩⟩
      · rw [show InB (O.getD k []) v ↔ InR2 O k v from Iff.rfl, hO k v]
        unfold liveOL
        rw [List.getD_eq_getElem?_getD, List.getElem?_map, List.getElem?_range hkt]
        show v ∈ listP (LvO s k) s.values.toNat ↔ _
        rw [mem_listP]
        exact ⟨fun q => q.2, fun q => ⟨by have := LvO.range h q; omega, q⟩⟩
  exact main _ (Nat.le_refl _)
end Go.Proofs.Ytnfaibenekninaa.L

set_option linter.unusedVariables false
set_option linter.unusedSimpArgs false
namespace Go.Proofs.Ytnfaibenekninaa.L
open Go.RowKit
/-- Values that are in one moment. -/
def ClP (M : List (List Int)) (k : Nat) (v : Int) : Prop := (k : Int) ≠ v ∧ ∃ m ∈ M, (k : Int) ∈ m ∧ v ∈ m
noncomputable def clashL (s : Sa) : List (List Int) := (List.range s.values.toNat).map (fun k => listP (ClP (momS s) k) s.values.toNat)
theorem momC_sets {V : Int} : ∀ {l : List Fl} {nd : List Int}, SetV V nd → (∀ x ∈ l, (setsS x = true → 0 ≤ x.dst ∧ x.dst < V) ∧ ∀ v ∈ usesS x, 0 ≤ v ∧ v < V) → ∀ m ∈ (momC l nd).1, SetV V m
  | [], _, _, _, m, hm => by cases hm
  | x :: t, nd, h, hu, m, hm => by
    have hm : m ∈ (momC t nd).1 ++ [nowL x (momC t nd).2] := hm
    rcases List.mem_append.1 hm with hm | hm
    · exact momC_sets h (fun y hy => hu y (List.mem_cons_of_mem _ hy)) m hm
    · obtain rfl := List.mem_singleton.1 hm
      have hn := momC_set h (fun y hy => (hu y (List.mem_cons_of_mem _ hy)).2)
      unfold nowL
      split
      · rename_i hs
        exact ⟨hn.1.putL _, fun v hv => by rcases mem_putL1.1 hv with rfl | hv; exact (hu x List.mem_cons_self).1 hs; exact hn.2 v hv⟩
      · exact hn
theorem momP_sets {s : Sa} (h : GoodP s) {k : Nat} {p : Pt} (hk : s.parts[k]? = some p) {i o : List Int} (hi : SetV s.values i) (ho : SetV s.values o) : ∀ m ∈ momP p i o, SetV s.values m := by
  intro m hm
  rcases List.mem_cons.1 hm with rfl | hm
  · exact hi.foldl (fun v hv => by have := h.own_def hk (v := v) (List.mem_append.2 (.inl hv)); omega)
  · refine momC_sets ho (fun x hx => ⟨fun hs => by have := (h.steps_in hk hx).1 hs; omega, fun v hv => ?_⟩) m hm
    rw [← h.uses_eq (List.mem_of_getElem? hk) hx] at hv
    exact (h.steps_in hk hx).2 v hv
theorem momS_sets {s : Sa} (h : GoodP s) : ∀ m ∈ momS s, SetV s.values m := by
  intro m hm
  unfold momS momTo at hm
  obtain ⟨q, hq, hm⟩ := List.mem_flatMap.1 hm
  have hq := List.mem_range.1 hq
  rw [List.getElem?_eq_getElem hq] at hm
  exact momP_sets h (List.getElem?_eq_getElem hq) (liveIL_get h q) (liveOL_get h q) m hm
/-- Rows of numbers that are a relation. -/
structure Rep (V : Nat) (C : List (List Int)) (P : Nat → Int → Prop) : Prop where
  ln : C.length = V
  ic : ∀ k, Inc (C.getD k [])
  rg : ∀ k v, v ∈ C.getD k [] → 0 ≤ v ∧ v < V
  iff : ∀ k v, v ∈ C.getD k [] ↔ P k v
theorem Rep.congr {V : Nat} {C : List (List Int)} {P Q : Nat → Int → Prop} (h : Rep V C P) (e : ∀ k v, P k v ↔ Q k v) : Rep V C Q := ⟨h.ln, h.ic, h.rg, fun k v => (h.iff k v).trans (e k v)⟩
theorem Rep.nil (V : Nat) : Rep V (List.replicate V []) (fun _ _ => False) := by
  have hg : ∀ k, (List.replicate V ([] : List Int)).getD k [] = [] := fun k => by
    rw [List.getD_eq_getElem?_getD, List.getElem?_replicate]; split <;> rfl
  exact ⟨by simp, fun k => by rw [hg]; exact Inc.nil, fun k v hv => (by rw [hg] at hv; cases hv), fun k v => by rw [hg]; simp⟩
theorem Rep.put {V : Nat} {C : List (List Int)} {P Q : Nat → Int → Prop} (h : Rep V C P) {a : Nat} {b : Int} (ha : a < V) (hb : 0 ≤ b ∧ b < V) (e : ∀ k v, Q k v ↔ (P k v ∨ (k = a ∧ v = b))) : Rep V (C.set a (putL (C.getD a []) b)) Q := by
  have ha' : a < C.length := by rw [h.ln]; exact ha
  have hg : ∀ k, (C.set a (putL (C.getD a []) b)).getD k [] = if k = a then putL (C.getD a []) b else C.getD k [] := fun k => getD_set2 _ _ _ _ _ ha'
  refine ⟨by rw [List.length_set]; exact h.ln, fun k => ?_, fun k v hv => ?_, fun k v => ?_⟩
  · rw [hg]; split
    · exact (h.ic a).putL b
    · exact h.ic k
  · rw [hg] at hv; split at hv
    · rcases mem_putL1.1 hv with rfl | hv
      · exact hb
      · exact h.rg a v hv
    · exact h.rg k v hv
  · rw [hg, e]
    by_cases hk : k = a
    · subst hk
      rw [if_pos rfl, mem_putL1, h.iff]
      constructor
      · rintro (rfl | h)
        · exact .inr ⟨rfl, rfl⟩
        · exact .inl h
      · rintro (h | ⟨_, rfl⟩)
        · exact .inr h
        · exact .inl rfl
    · rw [if_neg hk, h.iff]
      constructor
      · exact .inl
      · rintro (h | ⟨h, _⟩)
        · exact h
        · exact absurd h hk
theorem Rep.len {V : Nat} {C : List (List Int)} {P : Nat → Int → Prop} (h : Rep V C P) (k : Nat) : (C.getD k []).length ≤ V := by
  have := (h.ic k).length_le (V := (V : Int)) (by omega) (h.rg k); omega
theorem Rep.eq {V : Nat} {C : List (List Int)} {P : Nat → Int → Prop} (h : Rep V C P) : C = (List.range V).map (fun k => listP (P k) V) := by
  refine rows_eq h.ln h.ic h.iff (fun k v hv => ?_)
  exact h.rg k v ((h.iff k v).2 hv)
theorem mem_take1 {m : List Int} {i : Nat} (hi : i < m.length) {v : Int} : v ∈ m.take (i + 1) ↔ v ∈ m.take i ∨ v = m[i] := by
  rw [List.take_succ_eq_append_getElem hi, List.mem_append, List.mem_singleton]
theorem ex_take1 {M : List (List Int)} {k : Nat} (hk : k < M.length) {P : List Int → Prop} : (∃ m ∈ M.take (k + 1), P m) ↔ (∃ m ∈ M.take k, P m) ∨ P M[k] := by
  rw [List.take_succ_eq_append_getElem hk]
  constructor
  · rintro ⟨m, hm, h⟩
    rcases List.mem_append.1 hm with hm | hm
    · exact .inl ⟨m, hm, h⟩
    · rw [List.mem_singleton] at hm; exact .inr (hm ▸ h)
  · rintro (⟨m, hm, h⟩ | h)
    · exact ⟨m, List.mem_append.2 (.inl hm), h⟩
    · exact ⟨_, List.mem_append.2 (.inr (List.mem_singleton.2 rfl)), h⟩
/-- The reference's relation as it grows. -/
def CS1 (M0 : List (List Int)) (m : List Int) (j : Nat) (k : Nat) (v : Int) : Prop := ClP M0 k v ∨ ((k : Int) ≠ v ∧ (k : Int) ∈ m.take j ∧ v ∈ m)
def CS2 (M0 : List (List Int)) (m : List Int) (j : Nat) (u : Int) (i : Nat) (k : Nat) (v : Int) : Prop := CS1 M0 m j k v ∨ ((k : Int) = u ∧ (k : Int) ≠ v ∧ v ∈ m.take i)
theorem CS1_zero {M0 : List (List Int)} {m : List Int} {k : Nat} {v : Int} : CS1 M0 m 0 k v ↔ ClP M0 k v := by simp [CS1]
theorem CS1_all {M : List (List Int)} {q : Nat} (hq : q < M.length) {k : Nat} {v : Int} : CS1 (M.take q) M[q] M[q].length k v ↔ ClP (M.take (q + 1)) k v := by
  unfold CS1 ClP
  rw [ex_take1 hq, List.take_length]
  constructor
  · rintro (⟨h1, h2⟩ | ⟨h1, h2⟩)
    · exact ⟨h1, .inl h2⟩
    · exact ⟨h1, .inr h2⟩
  · rintro ⟨h1, h2 | h2⟩
    · exact .inl ⟨h1, h2⟩
    · exact .inr ⟨h1, h2⟩
theorem CS2_zero {M0 : List (List Int)} {m : List Int} {j : Nat} {u : Int} {k : Nat} {v : Int} : CS2 M0 m j u 0 k v ↔ CS1 M0 m j k v := by simp [CS2]
theorem CS2_all {M0 : List (List Int)} {m : List Int} {j : Nat} (hj : j < m.length) {k : Nat} {v : Int} : CS2 M0 m j m[j] m.length k v ↔ CS1 M0 m (j + 1) k v := by
  unfold CS2 CS1
  rw [List.take_length, mem_take1 hj]
  constructor
  · rintro ((h | ⟨h1, h2, h3⟩) | ⟨h1, h2, h3⟩)
    · exact .inl h
    · exact .inr ⟨h1, .inl h2, h3⟩
    · exact .inr ⟨h2, .inr h1, h3⟩
  · rintro (h | ⟨h1, h2 | h2, h3⟩)
    · exact .inl (.inl h)
    · exact .inl (.inr ⟨h1, h2, h3⟩)
    · exact .inr ⟨h2, h1, h3⟩
theorem CS2_skip {M0 : List (List Int)} {m : List Int} {j : Nat} {u : Int} {i : Nat} (hi : i < m.length) (h : u = m[i] ∨ ∃ a : Nat, (a : Int) = u ∧ CS2 M0 m j u i a m[i]) {k : Nat} {v : Int} : CS2 M0 m j u i k v ↔ CS2 M0 m j u (i + 1) k v := by
  constructor
  · rintro (h | ⟨h1, h2, h3⟩)
    · exact .inl h
    · exact .inr ⟨h1, h2, (mem_take1 hi).2 (.inl h3)⟩
  · rintro (h' | ⟨h1, h2, h3⟩)
    · exact .inl h'
    · rcases (mem_take1 hi).1 h3 with h3 | h3
      · exact .inr ⟨h1, h2, h3⟩
      · rcases h with h | ⟨a, ha, h⟩
        · exact absurd (h1.trans (h.trans h3.symm)) h2
        · have : a = k := by omega
          subst this; rw [h3]; exact h
theorem CS2_put {M0 : List (List Int)} {m : List Int} {j : Nat} {u : Int} {i : Nat} (hi : i < m.length) (hne : u ≠ m[i]) {a : Nat} (ha : (a : Int) = u) {k : Nat} {v : Int} : CS2 M0 m j u (i + 1) k v ↔ (CS2 M0 m j u i k v ∨ (k = a ∧ v = m[i])) := by
  constructor
  · rintro (h' | ⟨h1, h2, h3⟩)
    · exact .inl (.inl h')
    · rcases (mem_take1 hi).1 h3 with h3 | h3
      · exact .inl (.inr ⟨h1, h2, h3⟩)
      · exact .inr ⟨by omega, h3⟩
  · rintro ((h | ⟨h1, h2, h3⟩) | ⟨rfl, rfl⟩)
    · exact .inl h
    · exact .inr ⟨h1, h2, (mem_take1 hi).2 (.inl h3)⟩
    · exact .inr ⟨ha, by rw [ha]; exact hne, (mem_take1 hi).2 (.inr rfl)⟩
/-- The program's relation as it grows: each with itself too. -/
def CB1 (M0 : List (List Int)) (m : List Int) (j : Nat) (k : Nat) (v : Int) : Prop := (∃ q ∈ M0, (k : Int) ∈ q ∧ v ∈ q) ∨ ((k : Int) ∈ m.take j ∧ v ∈ m)
def CB0 (M0 : List (List Int)) (k : Nat) (v : Int) : Prop := ∃ q ∈ M0, (k : Int) ∈ q ∧ v ∈ q
theorem CB1_zero {M0 : List (List Int)} {m : List Int} {k : Nat} {v : Int} : CB0 M0 k v ↔ CB1 M0 m 0 k v := by simp [CB1, CB0]
theorem CB1_all {M : List (List Int)} {q : Nat} (hq : q < M.length) {k : Nat} {v : Int} : CB1 (M.take q) M[q] M[q].length k v ↔ CB0 (M.take (q + 1)) k v := by
  unfold CB1 CB0
  rw [ex_take1 hq, List.take_length]
theorem CB1_add {M0 : List (List Int)} {m : List Int} {j : Nat} (hj : j < m.length) {a : Nat} (ha : (a : Int) = m[j]) {k : Nat} {v : Int} : CB1 M0 m (j + 1) k v ↔ (if k = a then v ∈ m ∨ CB1 M0 m j k v else CB1 M0 m j k v) := by
  unfold CB1
  rw [mem_take1 hj]
  by_cases hk : k = a
  · subst hk
    rw [if_pos rfl]
    constructor
    · rintro (h | ⟨h1 | h1, h2⟩)
      · exact .inr (.inl h)
      · exact .inr (.inr ⟨h1, h2⟩)
      · exact .inl h2
    · rintro (h | h | ⟨h1, h2⟩)
      · exact .inr ⟨.inr ha, h⟩
      · exact .inl h
      · exact .inr ⟨.inl h1, h2⟩
  · rw [if_neg hk]
    constructor
    · rintro (h | ⟨h1 | h1, h2⟩)
      · exact .inl h
      · exact .inr ⟨h1, h2⟩
      · exact absurd (by omega) hk
    · rintro (h | ⟨h1, h2⟩)
      · exact .inl h
      · exact .inr ⟨.inl h1, h2⟩
/-- Rows of bools that are a relation. -/
structure RepB (N : Nat) (C : List (List Bool)) (P : Nat → Int → Prop) : Prop where
  ln : C.length = N
  rw_ : ∀ S ∈ C, S.length = N
  iff : ∀ k v, InR2 C k v ↔ P k v
theorem RepB.congr {N : Nat} {C : List (List Bool)} {P Q : Nat → Int → Prop} (h : RepB N C P) (e : ∀ k v, P k v ↔ Q k v) : RepB N C Q := ⟨h.ln, h.rw_, fun k v => (h.iff k v).trans (e k v)⟩
theorem RepB.row {N : Nat} {C : List (List Bool)} {P : Nat → Int → Prop} (h : RepB N C P) {k : Nat} (hk : k < N) : (C.getD k []).length = N := by
  have hk' : k < C.length := by rw [h.ln]; exact hk
  rw [List.getD_eq_getElem?_getD, List.getElem?_eq_getElem hk']
  exact h.rw_ _ (List.getElem_mem hk')
theorem RepB.set {N : Nat} {C : List (List Bool)} {P Q : Nat → Int → Prop} (h : RepB N C P) {a : Nat} (ha : a < N) {R : List Bool} (hR : R.length = N) (e : ∀ k v, Q k v ↔ (if k = a then InB R v else P k v)) : RepB N (C.set a R) Q := by
  have ha' : a < C.length := by rw [h.ln]; exact ha
  refine ⟨by rw [List.length_set]; exact h.ln, fun S hS => ?_, fun k v => ?_⟩
  · rcases List.mem_or_eq_of_mem_set hS with hS | rfl
    · exact h.rw_ S hS
    · exact hR
  · rw [InR2_set ha', e, h.iff]
theorem InB_rep {n : Nat} {v : Int} : ¬ InB (List.replicate n false) v := by
  intro h
  unfold InB at h
  have h2 := h.2
  rw [List.getD_eq_getElem?_getD, List.getElem?_replicate] at h2
  split at h2 <;> cases h2
theorem RepB.nil (N : Nat) : RepB N (List.replicate N (List.replicate N false)) (fun _ _ => False) := by
  refine ⟨by simp, fun S hS => by rw [List.eq_of_mem_replicate hS]; simp, fun k v => ⟨fun h => ?_, fun h => h.elim⟩⟩
  unfold InR2 at h
  rw [List.getD_eq_getElem?_getD, List.getElem?_replicate] at h
  split at h
  · exact InB_rep h
  · unfold InB at h; have := h.2; simp at this
/-- The diagonal goes. -/
def CD (M : List (List Int)) (n : Nat) (k : Nat) (v : Int) : Prop := CB0 M k v ∧ ¬ ((k : Int) = v ∧ k < n)
theorem CD_zero {M : List (List Int)} {k : Nat} {v : Int} : CB0 M k v ↔ CD M 0 k v := by simp [CD]
theorem CD_all {M : List (List Int)} {N : Nat} (hM : ∀ m ∈ M, ∀ v ∈ m, 0 ≤ v ∧ v < (N : Int)) {k : Nat} {v : Int} : CD M N k v ↔ ClP M k v := by
  unfold CD CB0 ClP
  constructor
  · rintro ⟨⟨q, h1, h2, h3⟩, h4⟩
    exact ⟨fun e => h4 ⟨e, by have := hM q h1 _ h2; omega⟩, q, h1, h2, h3⟩
  · rintro ⟨h1, q, h2, h3, h4⟩
    exact ⟨⟨q, h2, h3, h4⟩, fun h => h1 h.1⟩
theorem RepB.diag {N : Nat} {C : List (List Bool)} {M : List (List Int)} {n : Nat} (h : RepB N C (CD M n)) (hn : n < N) : RepB N (C.set n ((C.getD n []).set n false)) (CD M (n + 1)) := by
  have hl := h.row hn
  refine h.set hn (by rw [List.length_set]; exact hl) (fun k v => ?_)
  by_cases hk : k = n
  · subst hk
    rw [if_pos rfl]
    have hs := InB_set (S := C.getD k []) (m := (k : Int)) (v := v) (b := false) (by omega) (by omega)
    rw [show ((k : Int)).toNat = k by omega] at hs
    rw [hs]
    by_cases hv : v = (k : Int)
    · subst hv; simp [CD]
    · rw [if_neg hv, show InB (C.getD k []) v ↔ InR2 C k v from Iff.rfl, h.iff]
      unfold CD
      constructor
      · rintro ⟨h1, _⟩; exact ⟨h1, fun h => hv h.1.symm⟩
      · rintro ⟨h1, _⟩; exact ⟨h1, fun h => hv h.1.symm⟩
  · rw [if_neg hk]
    unfold CD
    constructor
    · rintro ⟨h1, h2⟩; exact ⟨h1, fun h => h2 ⟨h.1, by omega⟩⟩
    · rintro ⟨h1, h2⟩; exact ⟨h1, fun h => h2 ⟨h.1, by omega⟩⟩
theorem RepB.add {N : Nat} {C : List (List Bool)} {M0 : List (List Int)} {m : List Int} {j : Nat} (h : RepB N C (CB1 M0 m j)) (hj : j < m.length) (hm : ∀ v ∈ m, 0 ≤ v ∧ v < (N : Int)) {a : Nat} (ha : (a : Int) = m[j]) : RepB N (C.set a (addB (C.getD a []) m)) (CB1 M0 m (j + 1)) := by
  have haN : a < N := by have := hm _ (List.getElem_mem hj); omega
  have hl := h.row haN
  refine h.set haN (by rw [addB_len]; exact hl) (fun k v => ?_)
  rw [CB1_add hj ha, InB_add (by rw [hl]; exact hm)]
  by_cases hk : k = a
  · subst hk; rw [if_pos rfl, if_pos rfl, ← h.iff]; exact Iff.rfl
  · rw [if_neg hk, if_neg hk]
/-- The values that are in some moment. -/
def SomeP (M : List (List Int)) (v : Int) : Prop := ∃ m ∈ M, v ∈ m
theorem some_add {M : List (List Int)} {q : Nat} (hq : q < M.length) {S : List Bool} (h : ∀ v, InB S v ↔ SomeP (M.take q) v) (hm : ∀ v ∈ M[q], 0 ≤ v ∧ v < (S.length : Int)) : ∀ v, InB (addB S M[q]) v ↔ SomeP (M.take (q + 1)) v := by
  intro v
  rw [InB_add hm, h v]
  unfold SomeP
  rw [ex_take1 hq (P := fun m => v ∈ m)]
  exact Or.comm
theorem clashB_eq {s : Sa} (h : GoodP s) {N : Nat} (hN : (N : Int) = s.values) {C : List (List Bool)} (hC : RepB N C (ClP (momS s))) : C.map listB = clashL s := by
  rw [listsB_eq hC.ln hC.rw_ hC.iff]
  unfold clashL
  rw [← hN]; rfl
theorem clashS_eq {s : Sa} {C : List (List Int)} {N : Nat} (hN : (N : Int) = s.values) (hC : Rep N C (ClP (momS s))) : C = clashL s := by
  rw [hC.eq]; unfold clashL; rw [← hN]; rfl
end Go.Proofs.Ytnfaibenekninaa.L

set_option linter.unusedVariables false
set_option linter.unusedSimpArgs false
namespace Go.Proofs.Ytnfaibenekninaa.L
open Go.RowKit
set_option maxRecDepth 100000 in
set_option maxHeartbeats 4000000 in
theorem l6Drop_calls {F : Nat → Prop} (v : Value) (l : List Int) (n : Int) (w : World) (h : Rp.Rd Rp.int w F v l) (hl : l.length ≤ 1048576) :
    Calls Try.prog 160 #[v, .int .i64 n] w fun e w' => ∃ v', e = .returned v' ∧ Ow true 3 Rp.int w' (fun q => w.heap.size ≤ q) v' (dropL l n) ∧ Below w.heap.size w w' := by
  obtain ⟨A, c, rfl, _, _, hrow⟩ := rd_int h
  go_enter Try.func160, Try.ntmps160
  go_wp2
  go_loopw [5, 10] (fun sv i wr => ∃ (m : Nat) (mv : Value), mv = sv ∧ m ≤ l.length ∧ i = .int .i64 m ∧ Ow true 3 Rp.int wr (fun q => w.heap.size ≤ q) mv (dropL (l.take m) n) ∧ Below w.heap.size w wr) (fun _ i _ => l.length - (intOf i).toNat)
  case atStart => exact ⟨0, _, rfl, Nat.zero_le _, rfl, Ow.nil _ _ _ _ _, Below.refl _ _⟩
  case round =>
    obtain ⟨m, mv, rfl, hm, rfl, HO, HB⟩ := hrel
    rename World => wo
    by_cases hlt : m < l.length
    · rcases hrow with hnil | ⟨b, o, rfl, hb, hcell⟩
      · rw [hnil] at hlt; simp at hlt
      have cv := cell_below HB (hcell m hlt)
      have hT : Hid (dropL (l.take (m + 1)) n = dropL (l.take m) n ++ (if (l[m] != n) = true then [l[m]] else [])) := Lib.hid (by
        unfold dropL
        rw [List.take_succ_eq_append_getElem hlt, List.filter_append, List.filter_cons, List.filter_nil])
      have hle : (dropL (l.take m) n).length ≤ 1048576 := by
        have h1 := List.length_filter_le (fun u => u != n) (l.take m)
        rw [List.length_take] at h1
        unfold dropL; omega
      clear hcell
      generalize dropL (l.take m) n = l1 at *
      generalize l[m] = x at *
      obtain ⟨Av, kv, rfl, _, _⟩ := HO.form
      have i0 : (0 : Int) ≤ (m : Int) := Int.natCast_nonneg _
      have i1 : (m : Int) < (l.length : Int) := by omega
      by_cases hx : x = n
      · have hd : (x != n) = false := by rw [hx]; simp
        have hT2 : Hid (dropL (l.take (m + 1)) n = l1) := Lib.hid (by rw [hT.out, hd]; simp)
        clear hT hx
        go_wp2
        go_roundw
        case rel => exact ⟨m + 1, _, rfl, by omega, by go_num, by rw [hT2.out]; exact HO, HB⟩
        case measure => simp [intOf]; omega
      · have hd : (x != n) = true := by rw [bne_iff_ne]; exact hx
        have hT2 : Hid (dropL (l.take (m + 1)) n = l1 ++ [x]) := Lib.hid (by rw [hT.out, hd]; rfl)
        clear hT hx
        go_wp2_with (at_builtin; (refine app_int (by rfl) _ _ (by rfl) (.slice Av l1.length kv) l1 x wo.heap.size rfl (by rfl) (by rfl) HO (by omega) ?_; intro A' c' w3 HO3 hg; have HB3 := below_grown HB hg (fun q hq => own_in HO (.inr hq)) HB.size; have HO4 := HO3.mono (G := fun q => w.heap.size ≤ q) (fun q hq => by have := HB.size; rcases hq with hq | hq; exact hq; omega)))
        go_roundw
        case rel => exact ⟨m + 1, _, rfl, by omega, by go_num, by rw [hT2.out]; exact HO4, HB3⟩
        case measure => simp [intOf]; omega
    · obtain rfl : m = l.length := by omega
      rw [List.take_length] at HO
      go_wp2
      go_ret
      exact ⟨_, rfl, HO, HB⟩
end Go.Proofs.Ytnfaibenekninaa.L
