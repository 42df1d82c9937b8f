/- Joined texts, each of which was built by itself: Lv9 Ic1 Cl0 Mo1 Cl2. -/
import Derived.Test.YtnfaibenekninaaFColour7
import Derived.Test.YtnfaibenekninaaB1
import Derived.Test.YtnfaibenekninaaFColour5
set_option linter.unusedVariables false
set_option linter.unusedSimpArgs false
namespace Go.Proofs.Ytnfaibenekninaa.L
open Go.RowKit
theorem fold_putL_snoc (l : List Int) (m : List Int) (x : Int) : (l ++ [x]).foldl putL m = putL (l.foldl putL m) x := by rw [List.foldl_append]; rfl
/-- append([]int{}, l...): the copy. -/
theorem app_copy {ops : Array Oper} {rest : List Oper} {oo : Oper} {a : Act} {Q : Exit → Act → World → Prop} {W : World} {G : Nat → Prop} {B : Nat} {w0 : World} (hgd : oo.guard = none) (so xo : Operand) (ho : oo.op = .call { callee := .builtin .append, args := #[so, xo], argTypes := #[25, 25] }) (vx : Value) (l : List Int) (g : Nat) (hg0 : g = W.heap.size) (hs : a.eval so = .slice (some ⟨g, 0, none⟩) 0 0) (hx : a.eval xo = vx)
    (HX : Rp.Rd Rp.int W G vx l) (hl : l.length ≤ 1048576) (HB : Below B w0 W) (hB : B ≤ W.heap.size)
    (h : ∀ A c w1, Ow true 3 Rp.int w1 (fun k => W.heap.size ≤ k) (.slice A l.length c) l → Below B w0 w1 → Below W.heap.size W w1 → wpList Try.prog ops Q rest (a.put oo.dst (.slice A l.length c)) w1) :
    wpList Try.prog ops Q (oo :: rest) a (W.alloc (.cells #[] 3)) := by
  subst hg0
  have hb := below_new (w := W) (.cells #[] 3)
  have HE := (ow_empty (ap := true) (r := Rp.int) (heap_alloc_new W (.cells #[] 3))).mono (G := fun q => W.heap.size ≤ q) (fun q hq => by have hq : q = W.heap.size := hq; omega)
  refine app_ints hgd so xo ho _ vx [] l hs hx HE (HX.below hb) (by simp; omega) ?_
  intro A c w1 HO hg
  have hsz : (W.alloc (.cells #[] 3)).heap.size = W.heap.size + 1 := by simp
  have hw1 := below_grown hb hg (fun q hq => own_in HE (.inr hq)) (by omega)
  rw [List.length_nil, Nat.zero_add]
  have e : ([] : List Int).length + l.length = l.length := by simp
  rw [e, List.nil_append] at HO
  exact h A c w1 (HO.mono (fun q hq => by rcases hq with hq | hq; exact hq; omega)) (HB.trans (hw1.mono hB)) hw1
set_option maxRecDepth 100000 in
set_option maxHeartbeats 16000000 in
theorem l10Moments_calls {F : Nat → Prop} (s : Sa) (vparts : Value) (w : World) (hs : Rp.Rd part w F vparts s.parts) (hg : GoodP s) (hx2 : ∀ p ∈ s.parts, PtLim p) :
    Calls Try.prog 103 #[saV s vparts] w fun e w' => ∃ v', e = .returned v' ∧ Rp.Rd (Rp.sl Rp.int) w' (fun q => w.heap.size ≤ q) v' (momS s) ∧ Below w.heap.size w w' := by
  replace hs := hs.bound
  have HGP := Lib.hid hg
  have hv1 := hg.v1
  have hv2 := hg.v2
  have hn1 := hg.n1
  have hn2 := hg.n2
  obtain ⟨A, c, rfl, _, _, hrow⟩ := rd_part hs
  rcases hrow with hnil | ⟨b, o, rfl, hbl, hcell⟩
  · rw [hnil] at hn1; simp at hn1
  have HU := Lib.hid (fun x W => l9Uses_calls x W)
  have HLv := Lib.hid (fun W (hW : Below w.heap.size w W) => l10Live_calls s _ W (hs.below hW) hg hx2)
  have HSt := Lib.hid (fun o W => l9Sets_calls o W)
  unfold saV flV at *
  have HC := Lib.hid hcell
  clear hcell hs
  have hB0 : Below w.heap.size w (w.alloc (.cells #[.slice (some ⟨b, o, none⟩) s.parts.length c, .int .i64 s.values] 31)) := below_new _
  have b0 := heap_alloc_new w (.cells #[.slice (some ⟨b, o, none⟩) s.parts.length c, .int .i64 s.values] 31)
  obtain ⟨x1, _⟩ := cell_of_block b0
  have x10 : (w.alloc (.cells #[.slice (some ⟨b, o, none⟩) s.parts.length c, .int .i64 s.values] 31)).cell? ⟨w.heap.size, 0, none⟩ = some (.slice (some ⟨b, o, none⟩) s.parts.length c) := (x1 0).trans rfl
  have x11 : (w.alloc (.cells #[.slice (some ⟨b, o, none⟩) s.parts.length c, .int .i64 s.values] 31)).cell? ⟨w.heap.size, 1, none⟩ = some (.int .i64 s.values) := (x1 1).trans rfl
  clear x1
  go_enter Try.func103, Try.ntmps103
  go_wp2_with fail
  refine (HLv.out _ hB0).mono ?_
  rintro e w1 ⟨vI, vO, rfl, hvI, hvO, hb1⟩
  have hB1 := below_then hB0 hb1
  have b1 := blk_below b0 hb1
  have hlI : (liveIL s).length = s.parts.length := by unfold liveIL; simp
  have hlO : (liveOL s).length = s.parts.length := by unfold liveOL; simp
  have HSI := Lib.hid (liveIL_get hg)
  have HSO := Lib.hid (liveOL_get hg)
  have HMS : Hid (momS s = momTo s (liveIL s) (liveOL s) s.parts.length) := Lib.hid rfl
  generalize liveIL s = IL at *
  generalize liveOL s = OL at *
  obtain ⟨AI, cI, rfl, _, _, hrI⟩ := rd_ints hvI
  obtain ⟨AO, cO, rfl, _, _, hrO⟩ := rd_ints hvO
  rw [hlI, hlO]
  obtain ⟨x1, _⟩ := cell_of_block b1
  have x10 : w1.cell? ⟨w.heap.size, 0, none⟩ = some (.slice (some ⟨b, o, none⟩) s.parts.length c) := (x1 0).trans rfl
  clear x1 hB0 b0 hb1
  go_wp2_with fail
  clear x10
  have hM0 : Ow false 25 (Rp.sl Rp.int) w1 (fun q => w1.heap.size ≤ q) (.slice none 0 0) (momTo s IL OL 0) := Ow.nil _ _ _ _ _
  go_loopw [5, 25] (fun av i wr => ∃ (k : Nat) (mv : Value), mv = av ∧ k ≤ s.parts.length ∧ i = .int .i64 k ∧ Ow false 25 (Rp.sl Rp.int) wr (fun q => w1.heap.size ≤ q) mv (momTo s IL OL k) ∧ (momTo s IL OL k).length ≤ k * 1048577 ∧ Below w1.heap.size w1 wr) (fun _ i _ => s.parts.length - (intOf i).toNat)
  case atStart => exact ⟨0, _, rfl, Nat.zero_le _, rfl, hM0, by simp [momTo], Below.refl _ _⟩
  case round =>
    clear hM0
    obtain ⟨k, mv, rfl, hk, rfl, hM, hml, HB⟩ := hrel
    rename World => wo
    by_cases hkt : k < s.parts.length
    · obtain ⟨_, _, _, _, hp, h1, h2, ⟨A3, c3, rfl, _⟩, ⟨A4, c4, rfl, _⟩⟩ := HC.out k hkt
      obtain ⟨A1, c1, rfl, _, _, hr1⟩ := rd_int h1
      obtain ⟨A2, c2, rfl, _, _, hr2⟩ := rd_flat h2
      have hsp : s.parts[k]? = some s.parts[k] := List.getElem?_eq_getElem hkt
      have hlp := hx2 _ (List.getElem_mem hkt)
      have hl1 := hlp.1
      have hl2 := hlp.2.1
      have HUin : Hid (∀ x ∈ s.parts[k].code, ∀ v ∈ usesS x, 0 ≤ v ∧ v < s.values) := Lib.hid (fun x hx v hv => HGP.out.use_in hsp (.inr (List.mem_flatMap.2 ⟨x, hx, hv⟩)))
      have HPr : Hid (∀ v ∈ s.parts[k].params, 0 ≤ v ∧ v < s.values) := Lib.hid (fun v hv => by have := HGP.out.own_def hsp (v := v) (List.mem_append.2 (.inl hv)); omega)
      have HMk := Lib.hid (momTo_succ (I := IL) (O := OL) hsp)
      have HBw := below_then hB1 HB
      obtain ⟨q0, q1, q2, q3, q4, q5⟩ := partAt_below hp HBw
      clear hsp hlp hp
      generalize s.parts[k] = p at *
      have hSI := HSI.out k
      have hSO := HSO.out k
      have hSIl := hSI.len (by omega) hv2
      have hSOl := hSO.len (by omega) hv2
      have HPl : Hid (∀ m, ((p.params.take m).foldl putL (IL.getD k [])).length ≤ 250) := Lib.hid (fun m => (hSI.foldl (fun v hv => HPr.out v (List.mem_of_mem_take hv))).len (by omega) hv2)
      have HNd : Hid (∀ j, SetV s.values (momC (p.code.drop j) (OL.getD k [])).2) := Lib.hid (fun j => momC_set hSO (fun x hx => HUin.out x (List.mem_of_mem_drop hx)))
      rcases hrI with hnI | ⟨bI, oI, rfl, hbI, hcI⟩
      · rw [hnI] at hlI; simp at hlI; omega
      rcases hrO with hnO | ⟨bO, oO, rfl, hbO, hcO⟩
      · rw [hnO] at hlO; simp at hlO; omega
      obtain ⟨uI, cuI, hRI⟩ := hcI k (by omega)
      obtain ⟨uO, cuO, hRO⟩ := hcO k (by omega)
      have eI : IL[k]'(by omega) = IL.getD k [] := by rw [List.getD_eq_getElem?_getD, List.getElem?_eq_getElem (by omega)]; rfl
      have eO : OL[k]'(by omega) = OL.getD k [] := by rw [List.getD_eq_getElem?_getD, List.getElem?_eq_getElem (by omega)]; rfl
      rw [eI] at hRI
      rw [eO] at hRO
      have hMP : Hid (momP p (IL.getD k []) (OL.getD k []) = p.params.foldl putL (IL.getD k []) :: (momC p.code (OL.getD k [])).1) := Lib.hid rfl
      obtain ⟨lI, hlI0⟩ : ∃ lI, lI = IL.getD k [] := ⟨_, rfl⟩
      obtain ⟨lO, hlO0⟩ : ∃ lO, lO = OL.getD k [] := ⟨_, rfl⟩
      rw [← hlI0] at hRI hSIl HPl HMk hMP
      rw [← hlO0] at hRO hSOl HNd HMk hMP
      clear hlI0 hlO0 eI eO hcI hcO hSI hSO
      obtain ⟨AuI, kuI, rfl, _⟩ := id hRI
      obtain ⟨AuO, kuO, rfl, _⟩ := id hRO
      have hb0 := below_new (w := wo) (.cells #[.slice A1 p.params.length c1, .slice A2 p.code.length c2, .int .i64 p.go, .int .i64 p.test, .slice A3 p.next.length c3, .slice A4 p.args.length c4] 145)
      have p0 := heap_alloc_new wo (.cells #[.slice A1 p.params.length c1, .slice A2 p.code.length c2, .int .i64 p.go, .int .i64 p.test, .slice A3 p.next.length c3, .slice A4 p.args.length c4] 145)
      have hsz : (wo.alloc (.cells #[.slice A1 p.params.length c1, .slice A2 p.code.length c2, .int .i64 p.go, .int .i64 p.test, .slice A3 p.next.length c3, .slice A4 p.args.length c4] 145)).heap.size = wo.heap.size + 1 := by simp
      have cuI1 := cell_below (below_then HB hb0) cuI
      have hRI1 := hRI.below (below_then HB hb0)
      have cuI2 := cell_below (below_new (w := wo.alloc (.cells #[.slice A1 p.params.length c1, .slice A2 p.code.length c2, .int .i64 p.go, .int .i64 p.test, .slice A3 p.next.length c3, .slice A4 p.args.length c4] 145)) (.cells #[] 3)) cuI1
      have m0 : (0 : Int) ≤ (k : Int) := Int.natCast_nonneg _
      have m1 : (k : Int) < (s.parts.length : Int) := by omega
      obtain ⟨MT, hMT⟩ : ∃ MT, MT = momTo s IL OL k := ⟨_, rfl⟩
      rw [← hMT] at hM hml HMk
      clear hMT
      obtain ⟨Am, cm, rfl, _, _⟩ := hM.form
      go_wp2_with (at_builtin; refine app_copy (B := wo.heap.size) (w0 := wo) (by rfl) _ _ (by rfl) (.slice AuI lI.length kuI) lI (wo.heap.size + 1) (by simp) (by rfl) (by rfl) hRI1 (by omega) hb0 (by omega) ?_; intro Af cf w3 hOf hbf hbf2; have p3 := blk_below p0 hbf2; obtain ⟨y1, _⟩ := cell_of_block p3; have y10 : w3.cell? ⟨wo.heap.size, 0, none⟩ = some (.slice A1 p.params.length c1) := (y1 0).trans rfl)
      rw [hsz] at hOf
      clear q0 q1 q2 q3 q4 q5 hb0 p0 cuI1 cuI2 hRI1 hRI cuI
      clear y1
      have hR0 : Rp.Rd Rp.int w3 (fun q => wo.heap.size + 1 ≤ q) (.slice Af lI.length cf) ((p.params.take 0).foldl putL lI) := hOf.rd
      have hs3 := hbf.size
      have hp3 := blk_lt p3
      clear y10 hOf
      go_loopw [8, 39] (fun fv i wr => ∃ (j : Nat) (fx : Value), fx = fv ∧ j ≤ p.params.length ∧ i = .int .i64 j ∧ Rp.Rd Rp.int wr (fun q => wo.heap.size + 1 ≤ q) fx ((p.params.take j).foldl putL lI) ∧ Below w3.heap.size w3 wr) (fun _ i _ => p.params.length - (intOf i).toNat)
      case atStart => exact ⟨0, _, rfl, Nat.zero_le _, rfl, hR0, Below.refl _ _⟩
      case round =>
        clear hR0
        obtain ⟨j, fx, rfl, hj, rfl, hRf, hbx⟩ := hrel
        rename World => wx
        by_cases hjt : j < p.params.length
        · rcases hr1 with hn0 | ⟨bp, op, rfl, hbp, hcp⟩
          · rw [hn0] at hjt; simp at hjt
          have cv := cell_below (below_then HBw (below_then hbf hbx)) (hcp j hjt)
          have HTk : Hid ((p.params.take (j + 1)).foldl putL lI = putL ((p.params.take j).foldl putL lI) p.params[j]) := Lib.hid (by rw [List.take_succ_eq_append_getElem hjt, fold_putL_snoc])
          clear hcp
          generalize p.params[j] = v at *
          have hle := HPl.out j
          have j0 : (0 : Int) ≤ (j : Int) := Int.natCast_nonneg _
          have j1 : (j : Int) < (p.params.length : Int) := by omega
          have HP := Lib.hid (l1Put_calls fx _ v wx hRf (by omega))
          clear hRf hle
          go_wp2_with fail
          refine HP.out.mono ?_
          rintro e w9 ⟨v9, rfl, hR9, hb9⟩
          have hR10 := hR9.mono (G := fun q => wo.heap.size + 1 ≤ q) (fun q hq => by have := hbx.size; rcases hq with hq | hq; exact hq; omega)
          have hbx2 := below_then hbx hb9
          clear HP hR9 hb9 cv hbx
          go_wp2
          go_roundw
          case rel => exact ⟨j + 1, v9, rfl, by omega, by go_num, by rw [HTk.out]; exact hR10, hbx2⟩
          case measure => simp [intOf]; omega
        · obtain rfl : j = p.params.length := by omega
          rw [List.take_length] at hRf
          have hfl := HPl.out p.params.length
          rw [List.take_length] at hfl
          obtain ⟨ff, hff⟩ : ∃ ff, ff = p.params.foldl putL lI := ⟨_, rfl⟩
          rw [← hff] at hRf hfl hMP
          clear hff HPl hjt hj
          obtain ⟨Ax, cx, rfl, _⟩ := id hRf
          have hwx := below_then hbf hbx
          have p4 := blk_below p3 hbx
          have hMx := (hM.bound).below hwx
          have hsx := hwx.size
          have hp4 := blk_lt p4
          have cuO1 := cell_below (below_then HB hwx) cuO
          have hMl0 : MT.length + 1 ≤ 100000000 := by
            have : k * 1048577 ≤ 11 * 1048577 := Nat.mul_le_mul_right _ (by omega)
            omega
          obtain ⟨y1, _⟩ := cell_of_block p4
          have y11 : wx.cell? ⟨wo.heap.size, 1, none⟩ = some (.slice A2 p.code.length c2) := (y1 1).trans rfl
          clear y1 hbf hbx p3
          have hfl2 : Rp.Rd Rp.int wx (fun q => wo.heap.size + 1 ≤ q) (.slice Ax ff.length cx) ff := hRf
          have hsBw := HB.size
          go_wp2_with (first | (at_builtin; have _t := hfl2; refine ow_append1 (r := Rp.sl Rp.int) (e := 25) (by rfl) _ _ 67 (.slice none 0 0) 24 (by rfl) Try.underlying67 infoInts rfl (by decide) (by omega) _ MT ff [.slice Ax ff.length cx] (by rfl) (by rfl) hMx ⟨_, rfl, hfl2⟩ (fun q hq h => by have h2 := h.2; have hq : wo.heap.size + 1 ≤ q := hq; omega) (by omega) ?_; intro v5 w5 HO3 hg1; obtain ⟨Bv, dv, rfl, _, _⟩ := HO3.form1; have p5 := grown_blk hg1 p4 (own_ne hMx (fun h => by have := h.2; omega)); have HB5 := below_grown (below_then HB hwx) hg1 (fun q hq => (own_in hMx (.inr hq)).1) (below_then HB hwx).size; have HO4 := HO3.bound; have hs5 := hg1.size; have cuO5 := cell_below HB5 cuO; have hRO5 := hRO.below HB5; have cuO6 := cell_below (below_new (w := w5) (.cells #[] 3)) cuO5; clear hfl2) | (at_builtin; refine app_copy (B := w1.heap.size) (w0 := w1) (by rfl) _ _ (by rfl) (.slice AuO lO.length kuO) lO w5.heap.size rfl (by rfl) (by rfl) hRO5 (by omega) HB5 HB5.size ?_; intro Ac cc w6 hOc hB6 hb56; have p6 := blk_below p5 hb56; obtain ⟨y6, _⟩ := cell_of_block p6; have y61 : w6.cell? ⟨wo.heap.size, 1, none⟩ = some (.slice A2 p.code.length c2) := (y6 1).trans rfl; have hwn : IntKind.i64.wrap ((p.code.length : Int) - 1) = (p.code.length : Int) - 1 := IntWalk.i64_in _ (by omega)))
          have hM6 := HO4.below hb56
          have hs56 := hb56.size
          have hMJ0 : (MT ++ [ff]).length ≤ MT.length + 1 + (p.code.length - p.code.length) := by simp
          have HMJ0 : MT ++ [ff] = (MT ++ [ff]) ++ (momC (p.code.drop p.code.length) lO).1 := by rw [List.drop_length]; simp [momC]
          have hN6 : Rp.Rd Rp.int w6 (fun q => w5.heap.size ≤ q ∧ q < w6.heap.size) (.slice Ac lO.length cc) (momC (p.code.drop p.code.length) lO).2 := by rw [List.drop_length]; exact hOc.rd.bound
          have hlt56 : wo.heap.size < w5.heap.size := blk_lt p5
          clear hMx HO3 p4 p5 HB5 cuO5 hRO5 cuO6 y61 y6 hOc hb56 hRf cuO1 y11 hwx
          go_loopw [5, 11, 12] (fun av nv i wr => ∃ (j : Nat) (mv nx : Value) (MJ : List (List Int)) (FM FN : Nat → Prop), mv = av ∧ nx = nv ∧ j ≤ p.code.length ∧ i = .int .i64 ((j : Int) - 1) ∧ MJ = (MT ++ [ff]) ++ (momC (p.code.drop j) lO).1 ∧ MJ.length ≤ MT.length + 1 + (p.code.length - j) ∧ wr.heap[wo.heap.size]? = some (.cells #[.slice A1 p.params.length c1, .slice A2 p.code.length c2, .int .i64 p.go, .int .i64 p.test, .slice A3 p.next.length c3, .slice A4 p.args.length c4] 145 (0, 0)) ∧ Below w1.heap.size w1 wr ∧ Hid (∀ q, FM q → w1.heap.size ≤ q ∧ q < wr.heap.size ∧ q ≠ wo.heap.size) ∧ Hid (∀ q, FN q → q < wr.heap.size ∧ ¬ FM q) ∧ Ow false 25 (Rp.sl Rp.int) wr FM mv MJ ∧ Rp.Rd Rp.int wr FN nx (momC (p.code.drop j) lO).2) (fun _ _ i _ => (intOf i + 1).toNat)
          case atStart => exact ⟨p.code.length, _, _, MT ++ [ff], _, _, rfl, rfl, Nat.le_refl _, rfl, HMJ0, hMJ0, p6, hB6, Lib.hid (fun q hq => by obtain ⟨h1, h2⟩ := hq; rcases h1 with h1 | h1 | h1 <;> (refine ⟨?_, ?_, ?_⟩ <;> omega)), Lib.hid (fun q hq => ⟨hq.2, fun hf => by have := hq.1; have := hf.2; omega⟩), hM6, hN6⟩
          case round =>
            clear hM6 hN6 p6 hB6 HMJ0 hMJ0 HO4
            obtain ⟨j, mv, nx, MJ, FM, FN, rfl, rfl, hj, rfl, hMJe, hMJ, p5, HB5, hFM, hFN, hMy, hRn⟩ := hrel
            rename World => wy
            have HMJ := Lib.hid hMJe
            clear hMJe
            by_cases hj0 : 0 < j
            · obtain ⟨n, rfl⟩ : ∃ n, j = n + 1 := ⟨j - 1, by omega⟩
              have hnt : n < p.code.length := by omega
              have he : ((n + 1 : Nat) : Int) - 1 = (n : Int) := by omega
              rw [he]
              rcases hr2 with hn0 | ⟨b2, o2, rfl, hb2, hc2⟩
              · rw [hn0] at hnt; simp at hnt
              obtain ⟨e0, e1, e2, e3, e4, e5⟩ := (hc2 n hnt).below (below_then hB1 HB5)
              have HMD := Lib.hid (momC_drop (nd := lO) hnt)
              have hndl := (HNd.out (n + 1)).len (by omega) hv2
              have hpn := HUin.out _ (List.getElem_mem hnt)
              clear hc2 hpn
              generalize p.code[n] = x at *
              generalize (momC (p.code.drop (n + 1)) lO).2 = nd at *
              have n0 : (0 : Int) ≤ (n : Int) := Int.natCast_nonneg _
              have n1 : (n : Int) < (p.code.length : Int) := by omega
              have hwn1 : IntKind.i64.wrap ((n : Int) - 1) = (n : Int) - 1 := IntWalk.i64_in _ (by omega)
              have hpy := blk_lt p5
              have hB1y := HB5.size
              obtain ⟨Am2, cm2, hmve, _, _⟩ := hMy.form
              subst hmve
              obtain ⟨An, kn, hnxe, _⟩ := id hRn
              subst hnxe
              obtain ⟨y1, _⟩ := cell_of_block p5
              have y11 : wy.cell? ⟨wo.heap.size, 1, none⟩ = some (.slice (some ⟨b2, o2, none⟩) p.code.length c2) := (y1 1).trans rfl
              clear y1
              have hbx := below_new (w := wy) (.cells #[.int .i64 x.op, .int .i64 x.dO, .int .i64 x.dst, .int .i64 x.a, .int .i64 x.b, .int .i64 x.n] 108)
              have hbx1 := below_then HB5 hbx
              have fb0 := heap_alloc_new wy (.cells #[.int .i64 x.op, .int .i64 x.dO, .int .i64 x.dst, .int .i64 x.a, .int .i64 x.b, .int .i64 x.n] 108)
              have hRnx := hRn.below hbx
              have hfsz : (wy.alloc (.cells #[.int .i64 x.op, .int .i64 x.dO, .int .i64 x.dst, .int .i64 x.a, .int .i64 x.b, .int .i64 x.n] 108)).heap.size = wy.heap.size + 1 := by simp
              go_wp2_with (at_builtin; refine app_copy (B := w1.heap.size) (w0 := w1) (by rfl) _ _ (by rfl) (.slice An nd.length kn) nd (wy.heap.size + 1) (by simp) (by rfl) (by rfl) hRnx (by omega) hbx1 (by omega) ?_; intro Ac cc w7 hOc hbf1 hbf3; have fb := blk_below fb0 hbf3; obtain ⟨z1, _⟩ := cell_of_block fb; have z10 : w7.cell? ⟨wy.heap.size, 0, none⟩ = some (.int .i64 x.op) := (z1 0).trans rfl)
              rw [hfsz] at hOc
              have hbf2 := below_then hbx hbf3
              clear z1 hbx hbx1 fb0 hRnx hfsz hbf3 e0 e1 e2 e3 e4 e5 y11
              have HS1 := HSt.out x.op w7
              have hse : Hid (inB x.op 1 4 = setsS x) := Lib.hid rfl
              rw [hse.out] at HS1
              refine HS1.mono ?_
              rintro e w8 ⟨rfl, rfl⟩
              clear z10 HS1 hse
              cases hst : setsS x
              · have HB0 : Hid (baseL x nd = nd ∧ nowL x nd = nd) := Lib.hid (by unfold baseL nowL; rw [hst]; exact ⟨rfl, rfl⟩)
                clear hst
                have hNd : Rp.Rd Rp.int w7 (fun q => FN q ∨ w7.heap.size ≤ q) (.slice An nd.length kn) (baseL x nd) := by rw [HB0.out.1]; exact (hRn.below hbf2).mono (fun q hq => .inl hq)
                have hNow : Rp.Rd Rp.int w7 (fun q => wy.heap.size ≤ q ∧ q < w7.heap.size) (.slice Ac nd.length cc) (nowL x nd) := by rw [HB0.out.2]; exact hOc.rd.bound.mono (fun q hq => by have := hq.1; have := hq.2; omega)
                have hbl0 : (baseL x nd).length ≤ 250 := by rw [HB0.out.1]; exact hndl
                have hMw := hMy.below hbf2
                have p6 := blk_below p5 hbf2
                have hB6 := hbf1
                have hsW := hbf2.size
                clear hOc hRn hbf2 hMy p5 hbf1
                obtain ⟨z1, _⟩ := cell_of_block fb
                have z10 : w7.cell? ⟨wy.heap.size, 0, none⟩ = some (.int .i64 x.op) := (z1 0).trans rfl
                have z11 : w7.cell? ⟨wy.heap.size, 1, none⟩ = some (.int .i64 x.dO) := (z1 1).trans rfl
                have z12 : w7.cell? ⟨wy.heap.size, 2, none⟩ = some (.int .i64 x.dst) := (z1 2).trans rfl
                have z13 : w7.cell? ⟨wy.heap.size, 3, none⟩ = some (.int .i64 x.a) := (z1 3).trans rfl
                have z14 : w7.cell? ⟨wy.heap.size, 4, none⟩ = some (.int .i64 x.b) := (z1 4).trans rfl
                have z15 : w7.cell? ⟨wy.heap.size, 5, none⟩ = some (.int .i64 x.n) := (z1 5).trans rfl
                clear z1
                have HU1 := Lib.hid (HU.out x w7)
                obtain ⟨bs, hbs⟩ : ∃ bs, bs = baseL x nd := ⟨_, rfl⟩
                obtain ⟨nw, hnw⟩ : ∃ nw, nw = nowL x nd := ⟨_, rfl⟩
                have HNx : Hid (nextL x nd = (usesS x).foldl putL bs) := Lib.hid (by rw [hbs]; rfl)
                rw [← hbs] at hNd hbl0
                rw [← hnw] at HMD hNow
                clear hbs hnw
                obtain ⟨Aw, cw, hnwe, _⟩ := id hNow
                rw [hnwe] at hNow ⊢
                obtain ⟨Ab, cb, hnbe, _⟩ := id hNd
                rw [hnbe] at hNd ⊢
                clear hnwe hnbe
                go_wp2_with fail
                refine HU1.out.mono ?_
                rintro e w10 ⟨v10, rfl, hv10, hb10⟩
                have hv10 := hv10.rd
                have hul : (usesS x).length ≤ 2 := by
                  unfold usesS
                  split
                  · simp
                  · split <;> simp
                have hNd10 := hNd.below hb10
                have hNow10 := hNow.below hb10
                have hM10 := hMw.below hb10
                have p10 := blk_below p6 hb10
                have hB10 := below_then hB6 hb10
                have hs10 := hb10.size
                clear HU1 z10 z11 z12 z13 z14 z15 fb hb10 hMw hNow p6 hNd
                generalize usesS x = us at *
                obtain ⟨A10, c10, rfl, _, _, hr10⟩ := rd_int hv10
                go_wp2_with fail
                go_loopw [11, 87] (fun av i wr => ∃ (m : Nat) (nx : Value), nx = av ∧ m ≤ us.length ∧ i = .int .i64 m ∧ Rp.Rd Rp.int wr (fun q => FN q ∨ w7.heap.size ≤ q) nx ((us.take m).foldl putL bs) ∧ Below w10.heap.size w10 wr) (fun _ i _ => us.length - (intOf i).toNat)
                case atStart => exact ⟨0, _, rfl, Nat.zero_le _, rfl, hNd10, Below.refl _ _⟩
                case round =>
                  clear hNd10
                  obtain ⟨m, nx, rfl, hm, rfl, hRn, hbz⟩ := hrel
                  rename World => wz
                  by_cases hmt : m < us.length
                  · rcases hr10 with hn0 | ⟨b10, o10, rfl, hb10, hc10⟩
                    · rw [hn0] at hmt; simp at hmt
                    have cv := cell_below hbz (hc10 m hmt)
                    have HTk : Hid ((us.take (m + 1)).foldl putL bs = putL ((us.take m).foldl putL bs) us[m]) := Lib.hid (by rw [List.take_succ_eq_append_getElem hmt, fold_putL_snoc])
                    have hle := putL_fold_len (us.take m) bs
                    rw [List.length_take] at hle
                    clear hc10
                    generalize us[m] = v at *
                    have e0 : (0 : Int) ≤ (m : Int) := Int.natCast_nonneg _
                    have e1 : (m : Int) < (us.length : Int) := by omega
                    have HP := Lib.hid (l1Put_calls nx _ v wz hRn (by omega))
                    clear hRn hle
                    go_wp2_with fail
                    refine HP.out.mono ?_
                    rintro e w9 ⟨v9, rfl, hR9, hb9⟩
                    have hR10 := hR9.mono (G := fun q => FN q ∨ w7.heap.size ≤ q) (fun q hq => by have := hbz.size; rcases hq with hq | hq; exact hq; right; omega)
                    have hbz2 := below_then hbz hb9
                    clear HP hR9 hb9 cv hbz
                    go_wp2
                    go_roundw
                    case rel => exact ⟨m + 1, v9, rfl, by omega, by go_num, by rw [HTk.out]; exact hR10, hbz2⟩
                    case measure => simp [intOf]; omega
                  · obtain rfl : m = us.length := by omega
                    rw [List.take_length, ← HNx.out] at hRn
                    have hMz := hM10.below hbz
                    have hNwz := hNow10.below hbz
                    have pz := blk_below p10 hbz
                    have hBz := below_then hB10 hbz
                    have hsz9 := hbz.size
                    have hRnb := hRn.bound
                    obtain ⟨Az, cz, hnxe, _⟩ := id hRn
                    subst hnxe
                    have HFN2 : Hid (∀ q, ((FN q ∨ w7.heap.size ≤ q) ∧ q < wz.heap.size) → ¬ ((FM q ∨ (wy.heap.size ≤ q ∧ q < w7.heap.size)) ∨ wz.heap.size ≤ q)) := Lib.hid (fun q hq hf => by
                      obtain ⟨h1, h2⟩ := hq
                      rcases h1 with h1 | h1
                      · have := hFN.out q h1
                        rcases hf with (hf | hf) | hf
                        · exact this.2 hf
                        · omega
                        · omega
                      · rcases hf with (hf | hf) | hf
                        · have := hFM.out q hf; omega
                        · omega
                        · omega)
                    have HFM2 : Hid (∀ q, ((FM q ∨ (wy.heap.size ≤ q ∧ q < w7.heap.size)) ∨ wz.heap.size ≤ q) → w1.heap.size ≤ q ∧ q ≠ wo.heap.size) := Lib.hid (fun q hf => by
                      rcases hf with (hf | hf) | hf
                      · have := hFM.out q hf; exact ⟨this.1, this.2.2⟩
                      · constructor <;> omega
                      · constructor <;> omega)
                    clear hRn hbz hM10 hNow10 p10 hB10
                    go_wp2_with (at_builtin; (refine ow_append1 (r := Rp.sl Rp.int) (e := 25) (by rfl) _ _ 67 (.slice none 0 0) 24 (by rfl) Try.underlying67 infoInts rfl (by decide) (by omega) _ MJ nw [.slice Aw nw.length cw] (by rfl) (by rfl) hMz ⟨_, rfl, hNwz⟩ (fun q hq h => by have h := hFM.out _ h; have hq : wy.heap.size ≤ q ∧ q < w7.heap.size := hq; omega) (by omega) ?_; intro v11 w11 HO3 hg1; obtain ⟨Bv, dv, rfl, _, _⟩ := HO3.form1; have p11 := grown_blk hg1 pz (own_ne hMz (fun h => (hFM.out _ h).2.2 rfl)); have hRn11 := hRnb.move (w' := w11) (fun q hq hlt => hg1.block q hlt (fun e => HFN2.out q hq (.inl (.inl (hMz.lt_size e.symm).1)))); have HB11 := below_grown hBz hg1 (fun q hq => (hFM.out _ (own_in hMz (.inr hq))).1) hBz.size; have HO4 := HO3.bound; have hs11 := hg1.size))
                    have HO5 := HO4.mono (G := fun q => ((FM q ∨ (wy.heap.size ≤ q ∧ q < w7.heap.size)) ∨ wz.heap.size ≤ q) ∧ q < w11.heap.size) (fun q hq => by
                      obtain ⟨hq, h2⟩ := hq
                      refine ⟨?_, h2⟩
                      rcases hq with hq | hq | hq
                      · exact .inl (.inl hq)
                      · exact .inl (.inr hq)
                      · exact .inr hq)
                    have hMJ2 : (MJ ++ [nw]).length ≤ MT.length + 1 + (p.code.length - n) := by rw [List.length_append, List.length_singleton]; omega
                    clear HO3 HO4
                    go_roundw
                    case rel => exact ⟨n, _, _, MJ ++ [nw], _, _, rfl, rfl, by omega, by go_num, by rw [HMD.out.1, HMJ.out]; simp only [List.append_assoc], hMJ2, p11, HB11, Lib.hid (fun q hq => ⟨(HFM2.out q hq.1).1, hq.2, (HFM2.out q hq.1).2⟩), Lib.hid (fun q hq => ⟨by have := hq.2; omega, fun hf => HFN2.out q hq hf.1⟩), HO5, by rw [HMD.out.2]; exact hRn11⟩
                    case measure => first | (simp [intOf]; done) | (simp [intOf]; omega)
              · have HB0 : Hid (baseL x nd = dropL nd x.dst ∧ nowL x nd = putL nd x.dst) := Lib.hid (by unfold baseL nowL; rw [hst]; exact ⟨rfl, rfl⟩)
                clear hst
                obtain ⟨z1, _⟩ := cell_of_block fb
                have z12 : w7.cell? ⟨wy.heap.size, 2, none⟩ = some (.int .i64 x.dst) := (z1 2).trans rfl
                clear z1
                have HP := Lib.hid (l1Put_calls _ nd x.dst w7 hOc.rd (by omega))
                have hRn7 := hRn.below hbf2
                go_wp2_with fail
                refine HP.out.mono ?_
                rintro e w8 ⟨v8, rfl, hR8, hb8⟩
                have hRn8 := hRn7.below hb8
                have HD := Lib.hid (l6Drop_calls _ nd x.dst w8 hRn8 (by omega))
                have z12 := cell_below hb8 z12
                go_wp2_with fail
                refine HD.out.mono ?_
                rintro e w9 ⟨v9, rfl, hR9, hb9⟩
                have hs7 := hbf2.size
                have hs8 := hb8.size
                have hs9 := hb9.size
                have hNow : Rp.Rd Rp.int w9 (fun q => wy.heap.size ≤ q ∧ q < w8.heap.size) v8 (nowL x nd) := by rw [HB0.out.2]; exact (hR8.bound.mono (fun q hq => by have h1 := hq.1; have h2 := hq.2; constructor; (rcases h1 with h1 | h1 <;> omega); exact h2)).below hb9
                have hNd : Rp.Rd Rp.int w9 (fun q => FN q ∨ w8.heap.size ≤ q) v9 (baseL x nd) := by rw [HB0.out.1]; exact hR9.rd.mono (fun q hq => .inr hq)
                have hbl0 : (baseL x nd).length ≤ 250 := by rw [HB0.out.1]; unfold dropL; exact Nat.le_trans (List.length_filter_le _ _) hndl
                have hbb := below_then hbf2 (below_then hb8 hb9)
                have hMw := hMy.below hbb
                have p6 := blk_below p5 hbb
                have hB6 := below_then hbf1 (below_then hb8 hb9)
                have fb := blk_below fb (below_then hb8 hb9)
                clear HP HD z12 hRn7 hRn8 hR8 hR9 hb8 hb9 hOc hRn hbf2 hMy p5 hbf1 hbb
                obtain ⟨z1, _⟩ := cell_of_block fb
                have z10 : w9.cell? ⟨wy.heap.size, 0, none⟩ = some (.int .i64 x.op) := (z1 0).trans rfl
                have z11 : w9.cell? ⟨wy.heap.size, 1, none⟩ = some (.int .i64 x.dO) := (z1 1).trans rfl
                have z12 : w9.cell? ⟨wy.heap.size, 2, none⟩ = some (.int .i64 x.dst) := (z1 2).trans rfl
                have z13 : w9.cell? ⟨wy.heap.size, 3, none⟩ = some (.int .i64 x.a) := (z1 3).trans rfl
                have z14 : w9.cell? ⟨wy.heap.size, 4, none⟩ = some (.int .i64 x.b) := (z1 4).trans rfl
                have z15 : w9.cell? ⟨wy.heap.size, 5, none⟩ = some (.int .i64 x.n) := (z1 5).trans rfl
                clear z1
                have HU1 := Lib.hid (HU.out x w9)
                obtain ⟨bs, hbs⟩ : ∃ bs, bs = baseL x nd := ⟨_, rfl⟩
                obtain ⟨nw, hnw⟩ : ∃ nw, nw = nowL x nd := ⟨_, rfl⟩
                have HNx : Hid (nextL x nd = (usesS x).foldl putL bs) := Lib.hid (by rw [hbs]; rfl)
                rw [← hbs] at hNd hbl0
                rw [← hnw] at HMD hNow
                clear hbs hnw
                obtain ⟨Aw, cw, hnwe, _⟩ := id hNow
                rw [hnwe] at hNow ⊢
                obtain ⟨Ab, cb, hnbe, _⟩ := id hNd
                rw [hnbe] at hNd ⊢
                clear hnwe hnbe
                go_wp2_with fail
                refine HU1.out.mono ?_
                rintro e w10 ⟨v10, rfl, hv10, hb10⟩
                have hv10 := hv10.rd
                have hul : (usesS x).length ≤ 2 := by
                  unfold usesS
                  split
                  · simp
                  · split <;> simp
                have hNd10 := hNd.below hb10
                have hNow10 := hNow.below hb10
                have hM10 := hMw.below hb10
                have p10 := blk_below p6 hb10
                have hB10 := below_then hB6 hb10
                have hs10 := hb10.size
                clear HU1 z10 z11 z12 z13 z14 z15 fb hb10 hMw hNow p6 hNd
                generalize usesS x = us at *
                obtain ⟨A10, c10, rfl, _, _, hr10⟩ := rd_int hv10
                go_wp2_with fail
                go_loopw [11, 87] (fun av i wr => ∃ (m : Nat) (nx : Value), nx = av ∧ m ≤ us.length ∧ i = .int .i64 m ∧ Rp.Rd Rp.int wr (fun q => FN q ∨ w8.heap.size ≤ q) nx ((us.take m).foldl putL bs) ∧ Below w10.heap.size w10 wr) (fun _ i _ => us.length - (intOf i).toNat)
                case atStart => exact ⟨0, _, rfl, Nat.zero_le _, rfl, hNd10, Below.refl _ _⟩
                case round =>
                  clear hNd10
                  obtain ⟨m, nx, rfl, hm, rfl, hRn, hbz⟩ := hrel
                  rename World => wz
                  by_cases hmt : m < us.length
                  · rcases hr10 with hn0 | ⟨b10, o10, rfl, hb10, hc10⟩
                    · rw [hn0] at hmt; simp at hmt
                    have cv := cell_below hbz (hc10 m hmt)
                    have HTk : Hid ((us.take (m + 1)).foldl putL bs = putL ((us.take m).foldl putL bs) us[m]) := Lib.hid (by rw [List.take_succ_eq_append_getElem hmt, fold_putL_snoc])
                    have hle := putL_fold_len (us.take m) bs
                    rw [List.length_take] at hle
                    clear hc10
                    generalize us[m] = v at *
                    have e0 : (0 : Int) ≤ (m : Int) := Int.natCast_nonneg _
                    have e1 : (m : Int) < (us.length : Int) := by omega
                    have HP := Lib.hid (l1Put_calls nx _ v wz hRn (by omega))
                    clear hRn hle
                    go_wp2_with fail
                    refine HP.out.mono ?_
                    rintro e w9 ⟨v9, rfl, hR9, hb9⟩
                    have hR10 := hR9.mono (G := fun q => FN q ∨ w8.heap.size ≤ q) (fun q hq => by have := hbz.size; rcases hq with hq | hq; exact hq; right; omega)
                    have hbz2 := below_then hbz hb9
                    clear HP hR9 hb9 cv hbz
                    go_wp2
                    go_roundw
                    case rel => exact ⟨m + 1, v9, rfl, by omega, by go_num, by rw [HTk.out]; exact hR10, hbz2⟩
                    case measure => simp [intOf]; omega
                  · obtain rfl : m = us.length := by omega
                    rw [List.take_length, ← HNx.out] at hRn
                    have hMz := hM10.below hbz
                    have hNwz := hNow10.below hbz
                    have pz := blk_below p10 hbz
                    have hBz := below_then hB10 hbz
                    have hsz9 := hbz.size
                    have hRnb := hRn.bound
                    obtain ⟨Az, cz, hnxe, _⟩ := id hRn
                    subst hnxe
                    have HFN2 : Hid (∀ q, ((FN q ∨ w8.heap.size ≤ q) ∧ q < wz.heap.size) → ¬ ((FM q ∨ (wy.heap.size ≤ q ∧ q < w8.heap.size)) ∨ wz.heap.size ≤ q)) := Lib.hid (fun q hq hf => by
                      obtain ⟨h1, h2⟩ := hq
                      rcases h1 with h1 | h1
                      · have := hFN.out q h1
                        rcases hf with (hf | hf) | hf
                        · exact this.2 hf
                        · omega
                        · omega
                      · rcases hf with (hf | hf) | hf
                        · have := hFM.out q hf; omega
                        · omega
                        · omega)
                    have HFM2 : Hid (∀ q, ((FM q ∨ (wy.heap.size ≤ q ∧ q < w8.heap.size)) ∨ wz.heap.size ≤ q) → w1.heap.size ≤ q ∧ q ≠ wo.heap.size) := Lib.hid (fun q hf => by
                      rcases hf with (hf | hf) | hf
                      · have := hFM.out q hf; exact ⟨this.1, this.2.2⟩
                      · constructor <;> omega
                      · constructor <;> omega)
                    clear hRn hbz hM10 hNow10 p10 hB10
                    go_wp2_with (at_builtin; (refine ow_append1 (r := Rp.sl Rp.int) (e := 25) (by rfl) _ _ 67 (.slice none 0 0) 24 (by rfl) Try.underlying67 infoInts rfl (by decide) (by omega) _ MJ nw [.slice Aw nw.length cw] (by rfl) (by rfl) hMz ⟨_, rfl, hNwz⟩ (fun q hq h => by have h := hFM.out _ h; have hq : wy.heap.size ≤ q ∧ q < w8.heap.size := hq; omega) (by omega) ?_; intro v11 w11 HO3 hg1; obtain ⟨Bv, dv, rfl, _, _⟩ := HO3.form1; have p11 := grown_blk hg1 pz (own_ne hMz (fun h => (hFM.out _ h).2.2 rfl)); have hRn11 := hRnb.move (w' := w11) (fun q hq hlt => hg1.block q hlt (fun e => HFN2.out q hq (.inl (.inl (hMz.lt_size e.symm).1)))); have HB11 := below_grown hBz hg1 (fun q hq => (hFM.out _ (own_in hMz (.inr hq))).1) hBz.size; have HO4 := HO3.bound; have hs11 := hg1.size))
                    have HO5 := HO4.mono (G := fun q => ((FM q ∨ (wy.heap.size ≤ q ∧ q < w8.heap.size)) ∨ wz.heap.size ≤ q) ∧ q < w11.heap.size) (fun q hq => by
                      obtain ⟨hq, h2⟩ := hq
                      refine ⟨?_, h2⟩
                      rcases hq with hq | hq | hq
                      · exact .inl (.inl hq)
                      · exact .inl (.inr hq)
                      · exact .inr hq)
                    have hMJ2 : (MJ ++ [nw]).length ≤ MT.length + 1 + (p.code.length - n) := by rw [List.length_append, List.length_singleton]; omega
                    clear HO3 HO4
                    go_roundw
                    case rel => exact ⟨n, _, _, MJ ++ [nw], _, _, rfl, rfl, by omega, by go_num, by rw [HMD.out.1, HMJ.out]; simp only [List.append_assoc], hMJ2, p11, HB11, Lib.hid (fun q hq => ⟨(HFM2.out q hq.1).1, hq.2, (HFM2.out q hq.1).2⟩), Lib.hid (fun q hq => ⟨by have := hq.2; omega, fun hf => HFN2.out q hq hf.1⟩), HO5, by rw [HMD.out.2]; exact hRn11⟩
                    case measure => first | (simp [intOf]; done) | (simp [intOf]; omega)
            · obtain rfl : j = 0 := by omega
              have he : ((0 : Nat) : Int) - 1 = -1 := by omega
              rw [he]
              have hfin : momTo s IL OL (k + 1) = MJ := by rw [HMk.out, HMJ.out, hMP.out]; simp
              have hfl3 : (momTo s IL OL (k + 1)).length ≤ (k + 1) * 1048577 := by rw [hfin]; omega
              go_wp2
              go_roundw
              case rel => exact ⟨k + 1, _, rfl, by omega, by go_num, by rw [hfin]; exact hMy.mono (fun q hq => (hFM.out q hq).1), hfl3, HB5⟩
              case measure => simp [intOf]; omega
    · obtain rfl : k = s.parts.length := by omega
      rw [← HMS.out] at hM
      obtain ⟨Am, cm, rfl, _, _⟩ := hM.form
      go_wp2
      go_ret
      exact ⟨_, rfl, hM.rd.mono (fun q hq => by have := hB1.size; have hq : w1.heap.size ≤ q := hq; omega), below_then hB1 HB⟩
end Go.Proofs.Ytnfaibenekninaa.L

set_option linter.unusedVariables false
set_option linter.unusedSimpArgs false
namespace Go.Proofs.Ytnfaibenekninaa.L
open Go.RowKit
/-- The colour of a value. -/
def cO (g : List Int) (v : Nat) : Int := g.getD v 0
theorem cO_get {G : List Int} {k : Nat} (hk : k < G.length) : cO G k = G[k] := by
  unfold cO
  rw [List.getD_eq_getElem?_getD, List.getElem?_eq_getElem hk]
  rfl
/-- A colouring: what is alive has a colour, and what clashes has two. -/
def ColP (M : List (List Int)) (g : List Int) : Prop := (∀ v, SomeP M v → 0 ≤ cO g v.toNat) ∧ ∀ (k : Nat) (v : Int), ClP M k v → cO g k ≠ cO g v.toNat
/-- The same, value by value. -/
def ColI1 (M : List (List Int)) (g : List Int) (k : Nat) : Prop := SomeP M (k : Int) → 0 ≤ cO g k ∧ ∀ v, ClP M k v → cO g v.toNat ≠ cO g k
theorem col_iff {M : List (List Int)} {g : List Int} {N : Nat} (hM : ∀ m ∈ M, ∀ v ∈ m, 0 ≤ v ∧ v < (N : Int)) : ColP M g ↔ ∀ k, k < N → ColI1 M g k := by
  constructor
  · intro h k _ hs
    exact ⟨h.1 (k : Int) hs, fun v hv => (h.2 k v hv).symm⟩
  · intro h
    refine ⟨fun v hs => ?_, fun k v hc => ?_⟩
    · obtain ⟨m, hm, hv⟩ := hs
      have hr := hM m hm v hv
      obtain ⟨n, rfl⟩ := Int.eq_ofNat_of_zero_le hr.1
      exact (h n (by omega) ⟨m, hm, hv⟩).1
    · obtain ⟨hne, m, hm, hk, hv⟩ := id hc
      have hr := hM m hm _ hk
      exact ((h k (by omega) ⟨m, hm, hk⟩).2 v hc).symm
theorem SetV.put {V : Int} {l : List Int} (h : SetV V l) {v : Int} (hv : 0 ≤ v ∧ v < V) : SetV V (putL l v) := SetV.foldl h (us := [v]) (fun u hu => by rw [List.mem_singleton.1 hu]; exact hv)
theorem SetV.none {V : Int} : SetV V [] := ⟨List.Pairwise.nil, fun v hv => (by cases hv)⟩
theorem some_nil {v : Int} : ¬ SomeP [] v := fun ⟨m, hm, _⟩ => (by cases hm)
theorem some_take {M : List (List Int)} {q : Nat} (hq : q < M.length) {v : Int} : SomeP (M.take (q + 1)) v ↔ SomeP (M.take q) v ∨ v ∈ M[q] := by
  unfold SomeP
  rw [List.take_succ_eq_append_getElem hq]
  constructor
  · rintro ⟨m, hm, hv⟩
    rcases List.mem_append.1 hm with hm | hm
    · exact .inl ⟨m, hm, hv⟩
    · rw [List.mem_singleton.1 hm] at hv; exact .inr hv
  · rintro (⟨m, hm, hv⟩ | hv)
    · exact ⟨m, List.mem_append_left _ hm, hv⟩
    · exact ⟨_, List.mem_append_right _ (List.mem_singleton.2 rfl), hv⟩
theorem mem_takeJ {m : List Int} {j : Nat} (hj : j < m.length) {v : Int} : v ∈ m.take (j + 1) ↔ v ∈ m.take j ∨ v = m[j] := by
  rw [List.take_succ_eq_append_getElem hj, List.mem_append, List.mem_singleton]
set_option maxRecDepth 100000 in
set_option maxHeartbeats 8000000 in
theorem l10Alive_calls {F : Nat → Prop} (s : Sa) (vparts : Value) (w : World) (hs : Rp.Rd part w F vparts s.parts) (hg : GoodP s) (hx2 : ∀ p ∈ s.parts, PtLim p) :
    Calls Try.prog 47 #[saV s vparts] w fun e w' => ∃ v' L, e = .returned v' ∧ Rp.Rd Rp.int w' (fun q => w.heap.size ≤ q) v' L ∧ Hid (SetV s.values L ∧ ∀ v, v ∈ L ↔ SomeP (momS s) v) ∧ Below w.heap.size w w' := by
  obtain ⟨A, c, rfl, _, _, _⟩ := rd_part hs
  have HM := Lib.hid (fun W (hW : Below w.heap.size w W) => l10Moments_calls s _ W (hs.below hW) hg hx2)
  have hMs := Lib.hid (momS_sets hg)
  have hv1 := hg.v1
  have hv2 := hg.v2
  unfold saV at HM ⊢
  have hB0 : Below w.heap.size w (w.alloc (.cells #[.slice A s.parts.length c, .int .i64 s.values] 31)) := below_new _
  have b0 := heap_alloc_new w (.cells #[.slice A s.parts.length c, .int .i64 s.values] 31)
  obtain ⟨M, hM⟩ : ∃ M, M = momS s := ⟨_, rfl⟩
  rw [← hM] at HM hMs ⊢
  obtain ⟨V, hV⟩ : ∃ V, V = s.values := ⟨_, rfl⟩
  rw [← hV] at HM hMs hB0 b0 hv1 hv2 ⊢
  clear hM hV hg hx2 hs
  go_enter Try.func47, Try.ntmps47
  obtain ⟨x0, _⟩ := cell_of_block b0
  go_wp2_with fail
  refine (HM.out _ hB0).mono ?_
  rintro e w1 ⟨vM, rfl, hvM, hb1⟩
  have hB1 := below_then hB0 hb1
  obtain ⟨AM, cM, rfl, _, _, hrM⟩ := rd_ints hvM
  have h0 : Rp.Rd Rp.int w1 (fun q => w.heap.size ≤ q) (.slice none 0 0) [] := Rp.Rd.nil _ _ _
  clear HM hB0 b0 x0 hb1 hvM
  go_wp2_with fail
  go_loopw [3, 11] (fun rv i wr => ∃ (q : Nat) (R : List Int) (bx : Value), bx = rv ∧ q ≤ M.length ∧ i = .int .i64 q ∧ Rp.Rd Rp.int wr (fun q => w.heap.size ≤ q) bx R ∧ Hid (SetV V R ∧ ∀ v, v ∈ R ↔ SomeP (M.take q) v) ∧ Below w1.heap.size w1 wr) (fun _ i _ => M.length - (intOf i).toNat)
  case atStart => exact ⟨0, [], _, rfl, Nat.zero_le _, rfl, h0, Lib.hid ⟨SetV.none, fun v => ⟨fun h => (by cases h), fun h => absurd h some_nil⟩⟩, Below.refl _ _⟩
  case round =>
    clear h0
    obtain ⟨q, R, bx, rfl, hq, rfl, HR, HS, HB⟩ := hrel
    rename World => wo
    by_cases hqt : q < M.length
    · rcases hrM with hn | ⟨bM, oM, rfl, hbM, hcM⟩
      · rw [hn] at hqt; simp at hqt
      obtain ⟨u, cu, hu⟩ := hcM q hqt
      have cu := cell_below HB cu
      have hu := hu.below HB
      have hml := (hMs.out M[q] (List.getElem_mem hqt))
      have hq0 : (0 : Int) ≤ (q : Int) := Int.natCast_nonneg _
      have hq1 : (q : Int) < (M.length : Int) := by omega
      have hST := Lib.hid (fun v => some_take (M := M) hqt (v := v))
      obtain ⟨m, hm⟩ : ∃ m, m = M[q] := ⟨_, rfl⟩
      rw [← hm] at hu hml hST
      clear hm hcM
      obtain ⟨Am, cm, rfl, _, _, hrm⟩ := rd_int hu
      have hml := Lib.hid hml
      have HS0 : Hid (SetV V R ∧ ∀ v, v ∈ R ↔ SomeP (M.take q) v ∨ v ∈ m.take 0) := Lib.hid ⟨HS.out.1, fun v => by rw [HS.out.2]; simp⟩
      clear HS
      go_wp2_with fail
      go_loopw [3, 17] (fun rv i wr => ∃ (j : Nat) (R : List Int) (bx : Value), bx = rv ∧ j ≤ m.length ∧ i = .int .i64 j ∧ Rp.Rd Rp.int wr (fun q => w.heap.size ≤ q) bx R ∧ Hid (SetV V R ∧ ∀ v, v ∈ R ↔ SomeP (M.take q) v ∨ v ∈ m.take j) ∧ Below wo.heap.size wo wr) (fun _ i _ => m.length - (intOf i).toNat)
      case atStart => exact ⟨0, R, _, rfl, Nat.zero_le _, rfl, HR, HS0, Below.refl _ _⟩
      case round =>
        clear HS0 HR
        obtain ⟨j, R, bx, rfl, hj, rfl, HR, HS, HBx⟩ := hrel
        rename World => wx
        by_cases hjt : j < m.length
        · rcases hrm with hn | ⟨bm, om, rfl, hbm, hcm⟩
          · rw [hn] at hjt; simp at hjt
          have cv := cell_below HBx (hcm j hjt)
          have hmv := hml.out.2 m[j] (List.getElem_mem hjt)
          have hMT := Lib.hid (fun v => mem_takeJ (m := m) hjt (v := v))
          have j0 : (0 : Int) ≤ (j : Int) := Int.natCast_nonneg _
          have j1 : (j : Int) < (m.length : Int) := by omega
          obtain ⟨y, hy⟩ : ∃ y, y = m[j] := ⟨_, rfl⟩
          rw [← hy] at cv hmv hMT
          clear hy hcm
          have hRl := HS.out.1.len (by omega) hv2
          have HP := Lib.hid (l1Put_calls bx R y wx HR (by omega))
          have hmv := Lib.hid hmv
          go_wp2_with fail
          refine HP.out.mono ?_
          rintro e w9 ⟨v9, rfl, hR9, hb9⟩
          have hsz : w.heap.size ≤ wx.heap.size := by have h1 := hB1.size; have h2 := HB.size; have h3 := HBx.size; omega
          have HR9 := hR9.mono (G := fun q => w.heap.size ≤ q) (fun q hq => by rcases hq with hq | hq; exact hq; omega)
          have HB9 := below_then HBx hb9
          have HS9 : Hid (SetV V (putL R y) ∧ ∀ v, v ∈ putL R y ↔ SomeP (M.take q) v ∨ v ∈ m.take (j + 1)) := Lib.hid ⟨HS.out.1.put hmv.out, fun v => by
            rw [mem_putL, HS.out.2, hMT.out]
            constructor
            · rintro (h | h | h)
              · exact .inr (.inr h)
              · exact .inl h
              · exact .inr (.inl h)
            · rintro (h | h | h)
              · exact .inr (.inl h)
              · exact .inr (.inr h)
              · exact .inl h⟩
          clear HP hR9 hb9 cv HBx HS HR hMT
          go_wp2
          go_roundw
          case rel => exact ⟨j + 1, _, v9, rfl, by omega, by go_num, HR9, HS9, HB9⟩
          case measure => simp [intOf]; omega
        · obtain rfl : j = m.length := by omega
          have HS9 : Hid (SetV V R ∧ ∀ v, v ∈ R ↔ SomeP (M.take (q + 1)) v) := Lib.hid ⟨HS.out.1, fun v => by rw [HS.out.2, hST.out, List.take_length]⟩
          have HB9 := below_then HB HBx
          clear HS hST HBx
          go_wp2
          go_roundw
          case rel => exact ⟨q + 1, R, bx, rfl, by omega, by go_num, HR, HS9, HB9⟩
          case measure => simp [intOf]; omega
    · obtain rfl : q = M.length := by omega
      rw [List.take_length] at HS
      have hBr := below_then hB1 HB
      go_wp2
      go_ret
      exact ⟨_, R, rfl, HR, HS, hBr⟩
end Go.Proofs.Ytnfaibenekninaa.L

set_option linter.unusedVariables false
set_option linter.unusedSimpArgs false
namespace Go.Proofs.Ytnfaibenekninaa.L
open Go.RowKit
theorem ow_allocE {α : Type} {e n : Nat} {r : Rp α} (W : World) {z : Value} {x0 : α} (hn : n ≤ 9223372036854775807) (h1 : r.sz = 1) (hx : ∀ w, r.K w (fun _ => False) x0 [z]) :
    Ow true e r (W.alloc (.cells (madeCells #[z] n) e)) (fun k => k = W.heap.size) (.slice (some ⟨W.heap.size, 0, none⟩) n n) (List.replicate n x0) := by
  have h := ow_alloc (e := e) (n := n) (r := r) W (z := #[z]) (x0 := x0) hn h1.symm (by omega) hx
  rw [h1, Nat.mul_one] at h
  exact h
theorem putRow_one (w : World) (g o : Nat) (u : Value) : putRow w g o [u] = w.setCell ⟨g, o, none⟩ u := rfl
/-- A row stored that may lead to what the others lead to. -/
theorem Ow.put_loose {α : Type} {e : Nat} {r : Rp α} {w : World} {F G : Nat → Prop} {l : List α} {g n c : Nat} (h : Ow false e r w F (.slice (some ⟨g, 0, none⟩) n c) l) (h1 : r.sz = 1) {i : Nat} (hi : i < l.length) {y : α} {u : Value} (hy : r.K w G y [u]) (hG : ∀ k, G k → k ≠ g) :
    Ow false e r (w.setCell ⟨g, i, none⟩ u) (fun k => F k ∨ G k) (.slice (some ⟨g, 0, none⟩) n c) (l.set i y) := by
  obtain rfl := h.len_eq
  obtain ⟨φ, xs, k1, h2, h3, h4, h5⟩ := h
  have hg : F g := h2 g (by simp [Value.ownBlock])
  have hp := putRow_owns [u] w xs (i * r.sz) k1
  have hus : [u].length = r.sz := h1.symm
  rw [show w.setCell ⟨g, i, none⟩ u = putRow w g (i * r.sz) [u] by rw [h1, Nat.mul_one]; rfl]
  refine ⟨fun j k => if j = i then G k else φ j k, seg xs (i * r.sz) [u], by rw [List.length_set]; exact hp.1, fun k hk => .inl (h2 k hk), ?_, (fun h => by cases h), ?_⟩
  · intro j k hk
    split at hk
    · exact ⟨.inr hk, fun he => hG k hk (by simpa [Value.ownBlock, eq_comm] using he)⟩
    · exact ⟨.inl (h3 j k hk).1, (h3 j k hk).2⟩
  · intro j x hx
    rw [List.getElem?_set] at hx
    have hjl : j < l.length := by
      rcases Nat.lt_or_ge j l.length with hh | hh
      · exact hh
      · split at hx
        · omega
        · rw [List.getElem?_eq_none hh] at hx; cases hx
    rw [seg_drop k1.1 hi hus j hjl]
    by_cases hji : j = i
    · subst hji
      rw [if_pos rfl, if_pos hi] at hx
      cases hx
      simp only [if_true]
      refine r.move (fun k hk hlt => hp.2.block k hlt (fun he => by cases he; exact hG _ hk rfl)) hy
    · rw [if_neg (fun h => hji h.symm)] at hx
      simp only [if_neg hji]
      refine r.move (fun k hk hlt => hp.2.block k hlt (fun he => by cases he; exact (h3 j _ hk).2 (by simp [Value.ownBlock]))) (h5 j x hx)
end Go.Proofs.Ytnfaibenekninaa.L

set_option linter.unusedVariables false
set_option linter.unusedSimpArgs false
namespace Go.Proofs.Ytnfaibenekninaa.L
open Go.RowKit
/-- A number, nought where there is none. -/
def numV (g : Bool) (n : Nat) : Int := if g = true then (n : Int) else 0
/-- A number of an ssa, and whether it is good. -/
inductive NumRes (G : Prop) (n : Nat) (w : World) (e : Ending) (w' : World) : Prop where
  | mk (g : Bool) (hg : Hid (g = true ↔ G)) (he : e = .returned (.tuple #[.int .i64 (numV g n), .bool g])) (hb : Below w.heap.size w w') : NumRes G n w e w'
theorem momentsM_calls {F : Nat → Prop} (s : Sa) (N vb : Nat) (vparts vn vd vD vT : Value) (w : World) (hv : w.heap[vb]? = some (viewC vparts s.values vn vd vD vT)) (hs : Rp.Rd part w F vparts s.parts) (hg : GoodP s) (hx2 : ∀ p ∈ s.parts, PtLim p) (hNV : (N : Int) = s.values) :
    Calls Try.prog 113 #[.pointer (some ⟨vb, 0, none⟩)] w fun e w' => ∃ v', e = .returned v' ∧ Rp.Rd (Rp.sl Rp.int) w' (fun q => w.heap.size ≤ q) v' (momS s) ∧ Below w.heap.size w w' := by
  refine (momentsI_calls s N vb vparts vn vd vD vT w hv hs hg hx2 hNV).mono ?_
  rintro e w' ⟨v', I, O, rfl, hr, hH, hb⟩
  rw [momToB_eq hg hH.out.1 hH.out.2.1 (fun k hk => by have := hH.out.2.2 k hk; omega)] at hr
  exact ⟨v', rfl, hr, hb⟩
theorem mostL_take {L : List (List Int)} {k : Nat} (hk : k < L.length) : mostL (L.take (k + 1)) = max (mostL (L.take k)) L[k].length := by
  rw [List.take_succ_eq_append_getElem hk, mostL_snoc]
end Go.Proofs.Ytnfaibenekninaa.L

set_option linter.unusedVariables false
set_option linter.unusedSimpArgs false
namespace Go.Proofs.Ytnfaibenekninaa.L
open Go.RowKit
/-- The rows of the reference's clashes as they lie. -/
structure RSt (N go B : Nat) (C : List (List Int)) (w : World) : Prop where
  lt : go < B
  le : B ≤ w.heap.size
  ex : Ow false 25 (Rp.sl Rp.int) w (fun q => q = go ∨ B ≤ q) (.slice (some ⟨go, 0, none⟩) N N) C
theorem RSt.row {N go B : Nat} {C : List (List Int)} {w : World} (h : RSt N go B C w) {k : Nat} (hk : k < C.length) :
    ∃ A c, w.cell? ⟨go, k, none⟩ = some (.slice A (C.getD k []).length c) ∧ w.frozen? ⟨go, k, none⟩ = false ∧ Rp.Rd Rp.int w (fun q => B ≤ q) (.slice A (C.getD k []).length c) (C.getD k []) := by
  obtain ⟨A, c, h1, h2, h3⟩ := rd_ints_row h.ex hk
  exact ⟨A, c, h1, h2, h3.mono (fun q hq => by rcases hq with ⟨hq | hq, hn⟩; exact absurd hq hn; exact hq)⟩
theorem RSt.below {N go B : Nat} {C : List (List Int)} {w w' : World} (h : RSt N go B C w) (hb : Below w.heap.size w w') : RSt N go B C w' := ⟨h.lt, Nat.le_trans h.le hb.size, h.ex.below hb⟩
theorem RSt.put {N go B : Nat} {C : List (List Int)} {w : World} (h : RSt N go B C w) {k : Nat} (hk : k < C.length) {y : List Int} {u : Value} (hy : Rp.Rd Rp.int w (fun q => B ≤ q) u y) : RSt N go B (C.set k y) (w.setCell ⟨go, k, none⟩ u) :=
  ⟨h.lt, by rw [show (w.setCell ⟨go, k, none⟩ u).heap.size = w.heap.size by simp]; exact h.le, (h.ex.put_loose (G := fun q => B ≤ q) rfl hk ⟨_, rfl, hy⟩ (fun q hq he => by have := h.lt; have hq : B ≤ q := hq; omega)).mono (fun q hq => by rcases hq with hq | hq; exact hq; exact .inr hq)⟩
set_option maxRecDepth 100000 in
set_option maxHeartbeats 8000000 in
theorem l10Clashes_calls {F : Nat → Prop} (s : Sa) (N : Nat) (vparts : Value) (w : World) (hs : Rp.Rd part w F vparts s.parts) (hg : GoodP s) (hx2 : ∀ p ∈ s.parts, PtLim p) (hNV : (N : Int) = s.values) :
    Calls Try.prog 48 #[saV s vparts] w fun e w' => ∃ v' C, e = .returned v' ∧ Rp.Rd (Rp.sl Rp.int) w' (fun q => w.heap.size ≤ q) v' C ∧ Rep N C (ClP (momS s)) ∧ Below w.heap.size w w' := by
  obtain ⟨A, c, rfl, hlc, hcm, hrow⟩ := rd_part hs
  have hv1 := hg.v1
  have hv2 := hg.v2
  have hN0 : 0 < N := by omega
  have hN1 : N ≤ 250 := by omega
  have HD := Lib.hid (fun W (hW : Below w.heap.size w W) => l10Moments_calls s _ W (hs.below hW) hg hx2)
  have HMs : Hid (∀ m ∈ momS s, ∀ v ∈ m, 0 ≤ v ∧ v < (N : Int)) := Lib.hid (fun m hm v hv => by have := (momS_sets hg m hm).2 v hv; omega)
  unfold saV at HD ⊢
  rw [← hNV] at HD ⊢
  have hB0 : Below w.heap.size w (w.alloc (.cells #[.slice A s.parts.length c, .int .i64 (N : Int)] 31)) := below_new _
  have b0 := heap_alloc_new w (.cells #[.slice A s.parts.length c, .int .i64 (N : Int)] 31)
  have hz0 : (w.alloc (.cells #[.slice A s.parts.length c, .int .i64 (N : Int)] 31)).heap.size = w.heap.size + 1 := by simp
  obtain ⟨M, hM⟩ : ∃ M, M = momS s := ⟨_, rfl⟩
  rw [← hM] at HD HMs ⊢
  have hmk := mk_all Try.underlying67 infoInts N (by omega) (by omega)
  clear hM hv1 hv2 hrow hs
  replace hNV := Lib.hid hNV
  go_enter Try.func48, Try.ntmps48
  go_wp2_with fail
  obtain ⟨W0, hW0⟩ : ∃ W0, W0 = w.alloc (.cells #[.slice A s.parts.length c, .int .i64 (N : Int)] 31) := ⟨_, rfl⟩
  rw [← hW0] at hB0 b0 hz0 ⊢
  clear hW0
  have hb1 := below_new (w := W0) (.cells (madeCells #[.slice none 0 0] N) 25)
  have hO1 := ow_allocE (e := 25) (n := N) (r := Rp.sl Rp.int) (z := .slice none 0 0) (x0 := []) W0 (by omega) rfl (fun w => ⟨_, rfl, Rp.Rd.nil _ _ _⟩)
  have hsz1 : (W0.alloc (.cells (madeCells #[.slice none 0 0] N) 25)).heap.size = W0.heap.size + 1 := by simp
  obtain ⟨W1, hW1⟩ : ∃ W1, W1 = W0.alloc (.cells (madeCells #[.slice none 0 0] N) 25) := ⟨_, rfl⟩
  rw [← hW1] at hb1 hO1 hsz1 ⊢
  clear hW1
  obtain ⟨go, hgo⟩ : ∃ go, go = W0.heap.size := ⟨_, rfl⟩
  rw [← hgo] at hO1 hsz1
  have hB1 := below_then hB0 hb1
  have hsB := hB0.size
  rw [← hgo] at hsB
  have hgw : go = w.heap.size + 1 := by omega
  rw [← hgw]
  have hgl : w.heap.size ≤ go := by omega
  clear hgw
  clear hgo b0 hb1 hB0
  refine (HD.out _ hB1).mono ?_
  rintro e w2 ⟨vL, rfl, hvL, hb2⟩
  have hB2 := below_then hB1 hb2
  have hs2 := hb2.size
  have HR0 : RSt N go w2.heap.size (List.replicate N []) w2 := ⟨by omega, Nat.le_refl _, (hO1.loose.below hb2).mono (fun q hq => .inl hq)⟩
  have hvL := hvL.bound
  obtain ⟨AL, cL, rfl, hl1, hl2, -⟩ := rd_ints hvL
  have HN0 := Rep.nil N
  clear HD hb2 hB1 hO1 hz0
  go_wp2_with fail
  go_loopw [16] (fun i wr => ∃ (q : Nat) (C : List (List Int)), q ≤ M.length ∧ i = .int .i64 q ∧ RSt N go w2.heap.size C wr ∧ Rep N C (ClP (M.take q)) ∧ Chg (fun r => r = go) w2 wr) (fun i _ => M.length - (intOf i).toNat)
  case atStart => exact ⟨0, _, Nat.zero_le _, rfl, HR0, HN0.congr (fun a b => by simp [ClP]), Chg.refl _ _⟩
  case round =>
    clear HR0 HN0
    obtain ⟨q, C, hq, rfl, HCS, HR, HCh⟩ := hrel
    rename World => wx
    by_cases hqt : q < M.length
    · have hvx := hvL.move (HCh.same (fun r hr h => by have hr2 := hr.1; have h : r = go := h; omega))
      obtain ⟨A', c', he, -, -, hrow⟩ := rd_ints hvx
      injection he with he1 _ he3
      subst he1
      subst he3
      rcases hrow with hnil | ⟨b, o, rfl, hbx, hcell⟩
      · rw [hnil] at hqt; simp at hqt
      obtain ⟨u, cu, hu⟩ := hcell q hqt
      obtain ⟨Au, ku, rfl, hu1, hu2, -⟩ := rd_int hu
      have hmv := Lib.hid (HMs.out _ (List.getElem_mem hqt))
      have q0 : (0 : Int) ≤ (q : Int) := Int.natCast_nonneg _
      have q1 : (q : Int) < (M.length : Int) := by omega
      clear hcell hvx
      obtain ⟨m, hm⟩ : ∃ m, m = M[q] := ⟨_, rfl⟩
      obtain ⟨M0, hM0⟩ : ∃ M0, M0 = M.take q := ⟨_, rfl⟩
      have hCB : Hid (∀ (k : Nat) (v : Int), CS1 M0 m m.length k v ↔ ClP (M.take (q + 1)) k v) := Lib.hid (by rw [hm, hM0]; exact fun k v => CS1_all hqt)
      have HR : Rep N C (CS1 M0 m 0) := by rw [hM0]; exact HR.congr (fun k v => CS1_zero.symm)
      rw [← hm] at hu cu hu1 hmv
      clear hm hM0
      go_wp2_with fail
      go_loopw [22] (fun i wr => ∃ (j : Nat) (C : List (List Int)), j ≤ m.length ∧ i = .int .i64 j ∧ RSt N go w2.heap.size C wr ∧ Rep N C (CS1 M0 m j) ∧ Chg (fun r => r = go) w2 wr ∧ Chg (fun r => r = go) wx wr) (fun i _ => m.length - (intOf i).toNat)
      case atStart => exact ⟨0, C, Nat.zero_le _, rfl, HCS, HR, HCh, Chg.refl _ _⟩
      case round =>
        clear HCS HR HCh
        obtain ⟨j, C, hj, rfl, HCS, HR, HCh, HCx⟩ := hrel
        rename World => wy
        by_cases hjt : j < m.length
        · have huy := hu.move (HCx.same (fun r hr h => by have hr2 := hr.1; have h : r = go := h; omega))
          obtain ⟨A3, c3, he, -, -, hrow3⟩ := rd_int huy
          injection he with he1 _ he3
          subst he1
          subst he3
          rcases hrow3 with hnil | ⟨b3, o3, rfl, hb3, hc3⟩
          · rw [hnil] at hjt; simp at hjt
          have cx := hc3 j hjt
          have hmj := hmv.out _ (List.getElem_mem hjt)
          have HR : Rep N C (CS2 M0 m j m[j] 0) := HR.congr (fun k v => CS2_zero.symm)
          have hCA : Hid (∀ (k : Nat) (v : Int), CS2 M0 m j m[j] m.length k v ↔ CS1 M0 m (j + 1) k v) := Lib.hid (fun k v => CS2_all hjt)
          have hSk : Hid (∀ (i : Nat) (hi : i < m.length), (m[j] = m[i] ∨ ∃ a : Nat, (a : Int) = m[j] ∧ CS2 M0 m j m[j] i a m[i]) → ∀ (k : Nat) (v : Int), CS2 M0 m j m[j] i k v ↔ CS2 M0 m j m[j] (i + 1) k v) := Lib.hid (fun i hi h k v => CS2_skip hi h)
          have hPt : Hid (∀ (i : Nat) (hi : i < m.length), m[j] ≠ m[i] → ∀ a : Nat, (a : Int) = m[j] → ∀ (k : Nat) (v : Int), CS2 M0 m j m[j] (i + 1) k v ↔ (CS2 M0 m j m[j] i k v ∨ (k = a ∧ v = m[i]))) := Lib.hid (fun i hi h a ha k v => CS2_put hi h ha)
          obtain ⟨x, hx⟩ : ∃ x, x = m[j] := ⟨_, rfl⟩
          rw [← hx] at cx hmj HR hCA hSk hPt
          clear hx
          obtain ⟨a, rfl⟩ := Int.eq_ofNat_of_zero_le hmj.1
          have haN : a < N := by omega
          have j0 : (0 : Int) ≤ (j : Int) := Int.natCast_nonneg _
          have j1 : (j : Int) < (m.length : Int) := by omega
          clear hc3
          go_wp2_with fail
          clear cx
          go_loopw [28] (fun i wr => ∃ (n : Nat) (C : List (List Int)), n ≤ m.length ∧ i = .int .i64 n ∧ RSt N go w2.heap.size C wr ∧ Rep N C (CS2 M0 m j a n) ∧ Chg (fun r => r = go) w2 wr ∧ Chg (fun r => r = go) wy wr) (fun i _ => m.length - (intOf i).toNat)
          case atStart => exact ⟨0, C, Nat.zero_le _, rfl, HCS, HR, HCh, Chg.refl _ _⟩
          case round =>
            clear HCS HR HCh
            obtain ⟨n, C, hn, rfl, HCS, HR, HCh, HCy⟩ := hrel
            rename World => wz
            by_cases hnt : n < m.length
            · have huz := huy.move (HCy.same (fun r hr h => by have hr2 := hr.1; have h : r = go := h; omega))
              obtain ⟨A4, c4, he, -, -, hrow4⟩ := rd_int huz
              injection he with he1 _ he3
              subst he1
              subst he3
              rcases hrow4 with hnil | ⟨b4, o4, he4, hb4, hc4⟩
              · rw [hnil] at hnt; simp at hnt
              injection he4 with he4
              injection he4 with he5 he6 _
              subst he5
              subst he6
              have cy := hc4 n hnt
              have hmn := hmv.out _ (List.getElem_mem hnt)
              have hSk1 := Lib.hid (hSk.out n hnt)
              have hPt1 := Lib.hid (fun h => hPt.out n hnt h a rfl)
              have n0 : (0 : Int) ≤ (n : Int) := Int.natCast_nonneg _
              have n1 : (n : Int) < (m.length : Int) := by omega
              have a0 : (0 : Int) ≤ (a : Int) := Int.natCast_nonneg _
              have a1 : (a : Int) < (N : Int) := by omega
              have haC : a < C.length := by rw [HR.ln]; exact haN
              obtain ⟨Ar, cr, cur, fur, hRd⟩ := HCS.row haC
              have hlr := HR.len a
              have HHas : Hid (∀ v, v ∈ C.getD a [] ↔ CS2 M0 m j a n a v) := Lib.hid (HR.iff a)
              have HPutR : Hid (∀ (b : Int) (Q : Nat → Int → Prop), 0 ≤ b ∧ b < (N : Int) → (∀ k v, Q k v ↔ (CS2 M0 m j a n k v ∨ (k = a ∧ v = b))) → Rep N (C.set a (putL (C.getD a []) b)) Q) := Lib.hid (fun b Q hb e => HR.put haN hb e)
              obtain ⟨Ra, hRa⟩ : ∃ Ra, Ra = C.getD a [] := ⟨_, rfl⟩
              rw [← hRa] at cur hRd hlr HHas HPutR
              clear hRa
              clear hc4 huz
              generalize m[n] = y at *
              by_cases hay : (a : Int) = y
              · have HR2 := HR.congr (hSk1.out (.inl hay))
                clear hSk1 hPt1 cur fur hRd
                subst hay
                go_wp2_with fail
                go_roundw
                case rel => exact ⟨n + 1, C, by omega, by go_num, HCS, HR2, HCh, HCy⟩
                case measure => simp [intOf]; omega
              · have hHas := Lib.hid (l1Has_calls _ Ra y wz hRd)
                go_wp2_with fail
                refine hHas.out.mono ?_
                rintro e w5 ⟨rfl, hb5⟩
                have HCS5 := HCS.below hb5
                have HCh5 := HCh.trans (Chg.of_below hb5)
                have HCy5 := HCy.trans (Chg.of_below hb5)
                have cur := cell_below hb5 cur
                have hRd := hRd.below hb5
                have hle5 := HCS5.le
                clear HCS HCh HCy hHas
                cases hcon : Ra.contains y
                · have HR2 := Lib.hid (HPutR.out y _ hmn (fun k v => hPt1.out hay k v))
                  have fur5 := (HCS5.row haC)
                  obtain ⟨_, _, _, fur5, _⟩ := fur5
                  have hPut := Lib.hid (l1Put_calls _ Ra y w5 hRd (by omega))
                  clear hSk1 hPt1 hcon
                  go_wp2_with fail
                  refine hPut.out.mono ?_
                  rintro e w6 ⟨v6, rfl, hv6, hb6⟩
                  have HCS6 := HCS5.below hb6
                  have hv6 := hv6.mono (G := fun q => w2.heap.size ≤ q) (fun q hq => by rcases hq with hq | hq; exact hq; omega)
                  obtain ⟨A6, c6, hv6e, _⟩ := id hv6
                  subst hv6e
                  have HCS7 := HCS6.put haC hv6
                  obtain ⟨_, _, cur6, fur6, _⟩ := HCS6.row haC
                  have HCX := (Chg.of_below (A := fun r => r = go) hb6).trans (Chg.set (o := a) (u := .slice A6 (putL Ra y).length c6) rfl)
                  have HCh6 := HCh5.trans HCX
                  have HCy6 := HCy5.trans HCX
                  clear hPut HCS5 HCS6 HCh5 HCy5 HCX cur fur5 hv6 hRd
                  go_wp2
                  go_roundw
                  case rel => exact ⟨n + 1, _, by omega, by go_num, HCS7, HR2.out, HCh6, HCy6⟩
                  case measure => simp [intOf]; omega
                · have hin : CS2 M0 m j a n a y := (HHas.out y).1 (by simpa using hcon)
                  have HR2 := HR.congr (hSk1.out (.inr ⟨a, rfl, hin⟩))
                  clear hSk1 hPt1 hin hcon cur fur hRd
                  go_wp2
                  go_roundw
                  case rel => exact ⟨n + 1, C, by omega, by go_num, HCS5, HR2, HCh5, HCy5⟩
                  case measure => simp [intOf]; omega
            · obtain rfl : n = m.length := by omega
              have HR2 := HR.congr hCA.out
              have HCx2 := HCx.trans HCy
              go_wp2
              go_roundw
              case rel => exact ⟨j + 1, C, by omega, by go_num, HCS, HR2, HCh, HCx2⟩
              case measure => simp [intOf]; omega
        · obtain rfl : j = m.length := by omega
          have HR2 := HR.congr hCB.out
          go_wp2
          go_roundw
          case rel => exact ⟨q + 1, C, by omega, by go_num, HCS, HR2, HCh⟩
          case measure => simp [intOf]; omega
    · obtain rfl : q = M.length := by omega
      rw [List.take_length] at HR
      have HBe := HCh.to_below hB2 hB2.size (fun r hr => by have hr : r = go := hr; omega)
      go_wp2
      go_ret
      have hs2b := hB2.size
      have hfin := HCS.ex.mono (G := fun q => w.heap.size ≤ q) (fun q hq => by rcases hq with hq | hq <;> omega)
      exact ⟨_, C, rfl, hfin.rd, HR, HBe⟩
end Go.Proofs.Ytnfaibenekninaa.L
