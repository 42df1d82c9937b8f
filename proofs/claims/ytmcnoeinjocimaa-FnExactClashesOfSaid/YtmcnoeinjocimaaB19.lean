/- Joined texts, each of which was built by itself: Lv9 Mo1. -/
import Derived.Test.YtmcnoeinjocimaaB18
import Derived.Test.YtmcnoeinjocimaaB16
set_option linter.unusedVariables false
set_option linter.unusedSimpArgs false
namespace Go.Proofs.Ytmcnoeinjocimaa.L
open Go.RowKit
theorem fold_putL_snoc (l : List Int) (m : List Int) (x : Int) : (l ++ [x]).foldl putL m = putL (l.foldl putL m) x := by rw [List.foldl_append]; rfl
/-- append([]int{}, l...): the copy. -/
theorem app_copy {ops : Array Oper} {rest : List Oper} {oo : Oper} {a : Act} {Q : Exit → Act → World → Prop} {W : World} {G : Nat → Prop} {B : Nat} {w0 : World} (hgd : oo.guard = none) (so xo : Operand) (ho : oo.op = .call { callee := .builtin .append, args := #[so, xo], argTypes := #[35, 35] }) (vx : Value) (l : List Int) (g : Nat) (hg0 : g = W.heap.size) (hs : a.eval so = .slice (some ⟨g, 0, none⟩) 0 0) (hx : a.eval xo = vx)
    (HX : Rp.Rd Rp.int W G vx l) (hl : l.length ≤ 1048576) (HB : Below B w0 W) (hB : B ≤ W.heap.size)
    (h : ∀ A c w1, Ow true 3 Rp.int w1 (fun k => W.heap.size ≤ k) (.slice A l.length c) l → Below B w0 w1 → Below W.heap.size W w1 → wpList Try.prog ops Q rest (a.put oo.dst (.slice A l.length c)) w1) :
    wpList Try.prog ops Q (oo :: rest) a (W.alloc (.cells #[] 3)) := by
  subst hg0
  have hb := below_new (w := W) (.cells #[] 3)
  have HE := (ow_empty (ap := true) (r := Rp.int) (heap_alloc_new W (.cells #[] 3))).mono (G := fun q => W.heap.size ≤ q) (fun q hq => by have hq : q = W.heap.size := hq; omega)
  refine app_ints hgd so xo ho _ vx [] l hs hx HE (HX.below hb) (by simp; omega) ?_
  intro A c w1 HO hg
  have hsz : (W.alloc (.cells #[] 3)).heap.size = W.heap.size + 1 := by simp
  have hw1 := below_grown hb hg (fun q hq => own_in HE (.inr hq)) (by omega)
  rw [List.length_nil, Nat.zero_add]
  have e : ([] : List Int).length + l.length = l.length := by simp
  rw [e, List.nil_append] at HO
  exact h A c w1 (HO.mono (fun q hq => by rcases hq with hq | hq; exact hq; omega)) (HB.trans (hw1.mono hB)) hw1
set_option maxRecDepth 100000 in
set_option maxHeartbeats 16000000 in
theorem l10Moments_calls {F : Nat → Prop} (s : Sa) (vparts : Value) (w : World) (hs : Rp.Rd part w F vparts s.parts) (hg : GoodP s) (hx2 : ∀ p ∈ s.parts, PtLim p) :
    Calls Try.prog 62 #[saV s vparts] w fun e w' => ∃ v', e = .returned v' ∧ Rp.Rd (Rp.sl Rp.int) w' (fun q => w.heap.size ≤ q) v' (momS s) ∧ Below w.heap.size w w' := by
  replace hs := hs.bound
  have HGP := Lib.hid hg
  have hv1 := hg.v1
  have hv2 := hg.v2
  have hn1 := hg.n1
  have hn2 := hg.n2
  obtain ⟨A, c, rfl, _, _, hrow⟩ := rd_part hs
  rcases hrow with hnil | ⟨b, o, rfl, hbl, hcell⟩
  · rw [hnil] at hn1; simp at hn1
  have HU := Lib.hid (fun x W => l9Uses_calls x W)
  have HLv := Lib.hid (fun W (hW : Below w.heap.size w W) => l10Live_calls s _ W (hs.below hW) hg hx2)
  have HSt := Lib.hid (fun o W => l9Sets_calls o W)
  unfold saV flV at *
  have HC := Lib.hid hcell
  clear hcell hs
  have hB0 : Below w.heap.size w (w.alloc (.cells #[.slice (some ⟨b, o, none⟩) s.parts.length c, .int .i64 s.values] 29)) := below_new _
  have b0 := heap_alloc_new w (.cells #[.slice (some ⟨b, o, none⟩) s.parts.length c, .int .i64 s.values] 29)
  obtain ⟨x1, _⟩ := cell_of_block b0
  have x10 : (w.alloc (.cells #[.slice (some ⟨b, o, none⟩) s.parts.length c, .int .i64 s.values] 29)).cell? ⟨w.heap.size, 0, none⟩ = some (.slice (some ⟨b, o, none⟩) s.parts.length c) := (x1 0).trans rfl
  have x11 : (w.alloc (.cells #[.slice (some ⟨b, o, none⟩) s.parts.length c, .int .i64 s.values] 29)).cell? ⟨w.heap.size, 1, none⟩ = some (.int .i64 s.values) := (x1 1).trans rfl
  clear x1
  go_enter Try.func62, Try.ntmps62
  go_wp2_with fail
  refine (HLv.out _ hB0).mono ?_
  rintro e w1 ⟨vI, vO, rfl, hvI, hvO, hb1⟩
  have hB1 := below_then hB0 hb1
  have b1 := blk_below b0 hb1
  have hlI : (liveIL s).length = s.parts.length := by unfold liveIL; simp
  have hlO : (liveOL s).length = s.parts.length := by unfold liveOL; simp
  have HSI := Lib.hid (liveIL_get hg)
  have HSO := Lib.hid (liveOL_get hg)
  have HMS : Hid (momS s = momTo s (liveIL s) (liveOL s) s.parts.length) := Lib.hid rfl
  generalize liveIL s = IL at *
  generalize liveOL s = OL at *
  obtain ⟨AI, cI, rfl, _, _, hrI⟩ := rd_ints hvI
  obtain ⟨AO, cO, rfl, _, _, hrO⟩ := rd_ints hvO
  rw [hlI, hlO]
  obtain ⟨x1, _⟩ := cell_of_block b1
  have x10 : w1.cell? ⟨w.heap.size, 0, none⟩ = some (.slice (some ⟨b, o, none⟩) s.parts.length c) := (x1 0).trans rfl
  clear x1 hB0 b0 hb1
  go_wp2_with fail
  clear x10
  have hM0 : Ow false 35 (Rp.sl Rp.int) w1 (fun q => w1.heap.size ≤ q) (.slice none 0 0) (momTo s IL OL 0) := Ow.nil _ _ _ _ _
  go_loopw [5, 25] (fun av i wr => ∃ (k : Nat) (mv : Value), mv = av ∧ k ≤ s.parts.length ∧ i = .int .i64 k ∧ Ow false 35 (Rp.sl Rp.int) wr (fun q => w1.heap.size ≤ q) mv (momTo s IL OL k) ∧ (momTo s IL OL k).length ≤ k * 1048577 ∧ Below w1.heap.size w1 wr) (fun _ i _ => s.parts.length - (intOf i).toNat)
  case atStart => exact ⟨0, _, rfl, Nat.zero_le _, rfl, hM0, by simp [momTo], Below.refl _ _⟩
  case round =>
    clear hM0
    obtain ⟨k, mv, rfl, hk, rfl, hM, hml, HB⟩ := hrel
    rename World => wo
    by_cases hkt : k < s.parts.length
    · obtain ⟨_, _, _, _, hp, h1, h2, ⟨A3, c3, rfl, _⟩, ⟨A4, c4, rfl, _⟩⟩ := HC.out k hkt
      obtain ⟨A1, c1, rfl, _, _, hr1⟩ := rd_int h1
      obtain ⟨A2, c2, rfl, _, _, hr2⟩ := rd_flat h2
      have hsp : s.parts[k]? = some s.parts[k] := List.getElem?_eq_getElem hkt
      have hlp := hx2 _ (List.getElem_mem hkt)
      have hl1 := hlp.1
      have hl2 := hlp.2.1
      have HUin : Hid (∀ x ∈ s.parts[k].code, ∀ v ∈ usesS x, 0 ≤ v ∧ v < s.values) := Lib.hid (fun x hx v hv => HGP.out.use_in hsp (.inr (List.mem_flatMap.2 ⟨x, hx, hv⟩)))
      have HPr : Hid (∀ v ∈ s.parts[k].params, 0 ≤ v ∧ v < s.values) := Lib.hid (fun v hv => by have := HGP.out.own_def hsp (v := v) (List.mem_append.2 (.inl hv)); omega)
      have HMk := Lib.hid (momTo_succ (I := IL) (O := OL) hsp)
      have HBw := below_then hB1 HB
      obtain ⟨q0, q1, q2, q3, q4, q5⟩ := partAt_below hp HBw
      clear hsp hlp hp
      generalize s.parts[k] = p at *
      have hSI := HSI.out k
      have hSO := HSO.out k
      have hSIl := hSI.len (by omega) hv2
      have hSOl := hSO.len (by omega) hv2
      have HPl : Hid (∀ m, ((p.params.take m).foldl putL (IL.getD k [])).length ≤ 250) := Lib.hid (fun m => (hSI.foldl (fun v hv => HPr.out v (List.mem_of_mem_take hv))).len (by omega) hv2)
      have HNd : Hid (∀ j, SetV s.values (momC (p.code.drop j) (OL.getD k [])).2) := Lib.hid (fun j => momC_set hSO (fun x hx => HUin.out x (List.mem_of_mem_drop hx)))
      rcases hrI with hnI | ⟨bI, oI, rfl, hbI, hcI⟩
      · rw [hnI] at hlI; simp at hlI; omega
      rcases hrO with hnO | ⟨bO, oO, rfl, hbO, hcO⟩
      · rw [hnO] at hlO; simp at hlO; omega
      obtain ⟨uI, cuI, hRI⟩ := hcI k (by omega)
      obtain ⟨uO, cuO, hRO⟩ := hcO k (by omega)
      have eI : IL[k]'(by omega) = IL.getD k [] := by rw [List.getD_eq_getElem?_getD, List.getElem?_eq_getElem (by omega)]; rfl
      have eO : OL[k]'(by omega) = OL.getD k [] := by rw [List.getD_eq_getElem?_getD, List.getElem?_eq_getElem (by omega)]; rfl
      rw [eI] at hRI
      rw [eO] at hRO
      have hMP : Hid (momP p (IL.getD k []) (OL.getD k []) = p.params.foldl putL (IL.getD k []) :: (momC p.code (OL.getD k [])).1) := Lib.hid rfl
      obtain ⟨lI, hlI0⟩ : ∃ lI, lI = IL.getD k [] := ⟨_, rfl⟩
      obtain ⟨lO, hlO0⟩ : ∃ lO, lO = OL.getD k [] := ⟨_, rfl⟩
      rw [← hlI0] at hRI hSIl HPl HMk hMP
      rw [← hlO0] at hRO hSOl HNd HMk hMP
      clear hlI0 hlO0 eI eO hcI hcO hSI hSO
      obtain ⟨AuI, kuI, rfl, _⟩ := id hRI
      obtain ⟨AuO, kuO, rfl, _⟩ := id hRO
      have hb0 := below_new (w := wo) (.cells #[.slice A1 p.params.length c1, .slice A2 p.code.length c2, .int .i64 p.go, .int .i64 p.test, .slice A3 p.next.length c3, .slice A4 p.args.length c4] 54)
      have p0 := heap_alloc_new wo (.cells #[.slice A1 p.params.length c1, .slice A2 p.code.length c2, .int .i64 p.go, .int .i64 p.test, .slice A3 p.next.length c3, .slice A4 p.args.length c4] 54)
      have hsz : (wo.alloc (.cells #[.slice A1 p.params.length c1, .slice A2 p.code.length c2, .int .i64 p.go, .int .i64 p.test, .slice A3 p.next.length c3, .slice A4 p.args.length c4] 54)).heap.size = wo.heap.size + 1 := by simp
      have cuI1 := cell_below (below_then HB hb0) cuI
      have hRI1 := hRI.below (below_then HB hb0)
      have cuI2 := cell_below (below_new (w := wo.alloc (.cells #[.slice A1 p.params.length c1, .slice A2 p.code.length c2, .int .i64 p.go, .int .i64 p.test, .slice A3 p.next.length c3, .slice A4 p.args.length c4] 54)) (.cells #[] 3)) cuI1
      have m0 : (0 : Int) ≤ (k : Int) := Int.natCast_nonneg _
      have m1 : (k : Int) < (s.parts.length : Int) := by omega
      obtain ⟨MT, hMT⟩ : ∃ MT, MT = momTo s IL OL k := ⟨_, rfl⟩
      rw [← hMT] at hM hml HMk
      clear hMT
      obtain ⟨Am, cm, rfl, _, _⟩ := hM.form
      go_wp2_with (at_builtin; refine app_copy (B := wo.heap.size) (w0 := wo) (by rfl) _ _ (by rfl) (.slice AuI lI.length kuI) lI (wo.heap.size + 1) (by simp) (by rfl) (by rfl) hRI1 (by omega) hb0 (by omega) ?_; intro Af cf w3 hOf hbf hbf2; have p3 := blk_below p0 hbf2; obtain ⟨y1, _⟩ := cell_of_block p3; have y10 : w3.cell? ⟨wo.heap.size, 0, none⟩ = some (.slice A1 p.params.length c1) := (y1 0).trans rfl)
      rw [hsz] at hOf
      clear q0 q1 q2 q3 q4 q5 hb0 p0 cuI1 cuI2 hRI1 hRI cuI
      clear y1
      have hR0 : Rp.Rd Rp.int w3 (fun q => wo.heap.size + 1 ≤ q) (.slice Af lI.length cf) ((p.params.take 0).foldl putL lI) := hOf.rd
      have hs3 := hbf.size
      have hp3 := blk_lt p3
      clear y10 hOf
      go_loopw [8, 39] (fun fv i wr => ∃ (j : Nat) (fx : Value), fx = fv ∧ j ≤ p.params.length ∧ i = .int .i64 j ∧ Rp.Rd Rp.int wr (fun q => wo.heap.size + 1 ≤ q) fx ((p.params.take j).foldl putL lI) ∧ Below w3.heap.size w3 wr) (fun _ i _ => p.params.length - (intOf i).toNat)
      case atStart => exact ⟨0, _, rfl, Nat.zero_le _, rfl, hR0, Below.refl _ _⟩
      case round =>
        clear hR0
        obtain ⟨j, fx, rfl, hj, rfl, hRf, hbx⟩ := hrel
        rename World => wx
        by_cases hjt : j < p.params.length
        · rcases hr1 with hn0 | ⟨bp, op, rfl, hbp, hcp⟩
          · rw [hn0] at hjt; simp at hjt
          have cv := cell_below (below_then HBw (below_then hbf hbx)) (hcp j hjt)
          have HTk : Hid ((p.params.take (j + 1)).foldl putL lI = putL ((p.params.take j).foldl putL lI) p.params[j]) := Lib.hid (by rw [List.take_succ_eq_append_getElem hjt, fold_putL_snoc])
          clear hcp
          generalize p.params[j] = v at *
          have hle := HPl.out j
          have j0 : (0 : Int) ≤ (j : Int) := Int.natCast_nonneg _
          have j1 : (j : Int) < (p.params.length : Int) := by omega
          have HP := Lib.hid (l1Put_calls fx _ v wx hRf (by omega))
          clear hRf hle
          go_wp2_with fail
          refine HP.out.mono ?_
          rintro e w9 ⟨v9, rfl, hR9, hb9⟩
          have hR10 := hR9.mono (G := fun q => wo.heap.size + 1 ≤ q) (fun q hq => by have := hbx.size; rcases hq with hq | hq; exact hq; omega)
          have hbx2 := below_then hbx hb9
          clear HP hR9 hb9 cv hbx
          go_wp2
          go_roundw
          case rel => exact ⟨j + 1, v9, rfl, by omega, by go_num, by rw [HTk.out]; exact hR10, hbx2⟩
          case measure => simp [intOf]; omega
        · obtain rfl : j = p.params.length := by omega
          rw [List.take_length] at hRf
          have hfl := HPl.out p.params.length
          rw [List.take_length] at hfl
          obtain ⟨ff, hff⟩ : ∃ ff, ff = p.params.foldl putL lI := ⟨_, rfl⟩
          rw [← hff] at hRf hfl hMP
          clear hff HPl hjt hj
          obtain ⟨Ax, cx, rfl, _⟩ := id hRf
          have hwx := below_then hbf hbx
          have p4 := blk_below p3 hbx
          have hMx := (hM.bound).below hwx
          have hsx := hwx.size
          have hp4 := blk_lt p4
          have cuO1 := cell_below (below_then HB hwx) cuO
          have hMl0 : MT.length + 1 ≤ 100000000 := by
            have : k * 1048577 ≤ 11 * 1048577 := Nat.mul_le_mul_right _ (by omega)
            omega
          obtain ⟨y1, _⟩ := cell_of_block p4
          have y11 : wx.cell? ⟨wo.heap.size, 1, none⟩ = some (.slice A2 p.code.length c2) := (y1 1).trans rfl
          clear y1 hbf hbx p3
          have hfl2 : Rp.Rd Rp.int wx (fun q => wo.heap.size + 1 ≤ q) (.slice Ax ff.length cx) ff := hRf
          have hsBw := HB.size
          go_wp2_with (first | (at_builtin; have _t := hfl2; refine ow_append1 (r := Rp.sl Rp.int) (e := 35) (by rfl) _ _ 41 (.slice none 0 0) 24 (by rfl) Try.underlying41 infoInts rfl (by decide) (by omega) _ MT ff [.slice Ax ff.length cx] (by rfl) (by rfl) hMx ⟨_, rfl, hfl2⟩ (fun q hq h => by have h2 := h.2; have hq : wo.heap.size + 1 ≤ q := hq; omega) (by omega) ?_; intro v5 w5 HO3 hg1; obtain ⟨Bv, dv, rfl, _, _⟩ := HO3.form1; have p5 := grown_blk hg1 p4 (own_ne hMx (fun h => by have := h.2; omega)); have HB5 := below_grown (below_then HB hwx) hg1 (fun q hq => (own_in hMx (.inr hq)).1) (below_then HB hwx).size; have HO4 := HO3.bound; have hs5 := hg1.size; have cuO5 := cell_below HB5 cuO; have hRO5 := hRO.below HB5; have cuO6 := cell_below (below_new (w := w5) (.cells #[] 3)) cuO5; clear hfl2) | (at_builtin; refine app_copy (B := w1.heap.size) (w0 := w1) (by rfl) _ _ (by rfl) (.slice AuO lO.length kuO) lO w5.heap.size rfl (by rfl) (by rfl) hRO5 (by omega) HB5 HB5.size ?_; intro Ac cc w6 hOc hB6 hb56; have p6 := blk_below p5 hb56; obtain ⟨y6, _⟩ := cell_of_block p6; have y61 : w6.cell? ⟨wo.heap.size, 1, none⟩ = some (.slice A2 p.code.length c2) := (y6 1).trans rfl; have hwn : IntKind.i64.wrap ((p.code.length : Int) - 1) = (p.code.length : Int) - 1 := IntWalk.i64_in _ (by omega)))
          have hM6 := HO4.below hb56
          have hs56 := hb56.size
          have hMJ0 : (MT ++ [ff]).length ≤ MT.length + 1 + (p.code.length - p.code.length) := by simp
          have HMJ0 : MT ++ [ff] = (MT ++ [ff]) ++ (momC (p.code.drop p.code.length) lO).1 := by rw [List.drop_length]; simp [momC]
          have hN6 : Rp.Rd Rp.int w6 (fun q => w5.heap.size ≤ q ∧ q < w6.heap.size) (.slice Ac lO.length cc) (momC (p.code.drop p.code.length) lO).2 := by rw [List.drop_length]; exact hOc.rd.bound
          have hlt56 : wo.heap.size < w5.heap.size := blk_lt p5
          clear hMx HO3 p4 p5 HB5 cuO5 hRO5 cuO6 y61 y6 hOc hb56 hRf cuO1 y11 hwx
          go_loopw [5, 11, 12] (fun av nv i wr => ∃ (j : Nat) (mv nx : Value) (MJ : List (List Int)) (FM FN : Nat → Prop), mv = av ∧ nx = nv ∧ j ≤ p.code.length ∧ i = .int .i64 ((j : Int) - 1) ∧ MJ = (MT ++ [ff]) ++ (momC (p.code.drop j) lO).1 ∧ MJ.length ≤ MT.length + 1 + (p.code.length - j) ∧ wr.heap[wo.heap.size]? = some (.cells #[.slice A1 p.params.length c1, .slice A2 p.code.length c2, .int .i64 p.go, .int .i64 p.test, .slice A3 p.next.length c3, .slice A4 p.args.length c4] 54 (0, 0)) ∧ Below w1.heap.size w1 wr ∧ Hid (∀ q, FM q → w1.heap.size ≤ q ∧ q < wr.heap.size ∧ q ≠ wo.heap.size) ∧ Hid (∀ q, FN q → q < wr.heap.size ∧ ¬ FM q) ∧ Ow false 35 (Rp.sl Rp.int) wr FM mv MJ ∧ Rp.Rd Rp.int wr FN nx (momC (p.code.drop j) lO).2) (fun _ _ i _ => (intOf i + 1).toNat)
          case atStart => exact ⟨p.code.length, _, _, MT ++ [ff], _, _, rfl, rfl, Nat.le_refl _, rfl, HMJ0, hMJ0, p6, hB6, Lib.hid (fun q hq => by obtain ⟨h1, h2⟩ := hq; rcases h1 with h1 | h1 | h1 <;> (refine ⟨?_, ?_, ?_⟩ <;> omega)), Lib.hid (fun q hq => ⟨hq.2, fun hf => by have := hq.1; have := hf.2; omega⟩), hM6, hN6⟩
          case round =>
            clear hM6 hN6 p6 hB6 HMJ0 hMJ0 HO4
            obtain ⟨j, mv, nx, MJ, FM, FN, rfl, rfl, hj, rfl, hMJe, hMJ, p5, HB5, hFM, hFN, hMy, hRn⟩ := hrel
            rename World => wy
            have HMJ := Lib.hid hMJe
            clear hMJe
            by_cases hj0 : 0 < j
            · obtain ⟨n, rfl⟩ : ∃ n, j = n + 1 := ⟨j - 1, by omega⟩
              have hnt : n < p.code.length := by omega
              have he : ((n + 1 : Nat) : Int) - 1 = (n : Int) := by omega
              rw [he]
              rcases hr2 with hn0 | ⟨b2, o2, rfl, hb2, hc2⟩
              · rw [hn0] at hnt; simp at hnt
              obtain ⟨e0, e1, e2, e3, e4, e5⟩ := (hc2 n hnt).below (below_then hB1 HB5)
              have HMD := Lib.hid (momC_drop (nd := lO) hnt)
              have hndl := (HNd.out (n + 1)).len (by omega) hv2
              have hpn := HUin.out _ (List.getElem_mem hnt)
              clear hc2 hpn
              generalize p.code[n] = x at *
              generalize (momC (p.code.drop (n + 1)) lO).2 = nd at *
              have n0 : (0 : Int) ≤ (n : Int) := Int.natCast_nonneg _
              have n1 : (n : Int) < (p.code.length : Int) := by omega
              have hwn1 : IntKind.i64.wrap ((n : Int) - 1) = (n : Int) - 1 := IntWalk.i64_in _ (by omega)
              have hpy := blk_lt p5
              have hB1y := HB5.size
              obtain ⟨Am2, cm2, hmve, _, _⟩ := hMy.form
              subst hmve
              obtain ⟨An, kn, hnxe, _⟩ := id hRn
              subst hnxe
              obtain ⟨y1, _⟩ := cell_of_block p5
              have y11 : wy.cell? ⟨wo.heap.size, 1, none⟩ = some (.slice (some ⟨b2, o2, none⟩) p.code.length c2) := (y1 1).trans rfl
              clear y1
              have hbx := below_new (w := wy) (.cells #[.int .i64 x.op, .int .i64 x.dO, .int .i64 x.dst, .int .i64 x.a, .int .i64 x.b, .int .i64 x.n] 61)
              have hbx1 := below_then HB5 hbx
              have fb0 := heap_alloc_new wy (.cells #[.int .i64 x.op, .int .i64 x.dO, .int .i64 x.dst, .int .i64 x.a, .int .i64 x.b, .int .i64 x.n] 61)
              have hRnx := hRn.below hbx
              have hfsz : (wy.alloc (.cells #[.int .i64 x.op, .int .i64 x.dO, .int .i64 x.dst, .int .i64 x.a, .int .i64 x.b, .int .i64 x.n] 61)).heap.size = wy.heap.size + 1 := by simp
              go_wp2_with (at_builtin; refine app_copy (B := w1.heap.size) (w0 := w1) (by rfl) _ _ (by rfl) (.slice An nd.length kn) nd (wy.heap.size + 1) (by simp) (by rfl) (by rfl) hRnx (by omega) hbx1 (by omega) ?_; intro Ac cc w7 hOc hbf1 hbf3; have fb := blk_below fb0 hbf3; obtain ⟨z1, _⟩ := cell_of_block fb; have z10 : w7.cell? ⟨wy.heap.size, 0, none⟩ = some (.int .i64 x.op) := (z1 0).trans rfl)
              rw [hfsz] at hOc
              have hbf2 := below_then hbx hbf3
              clear z1 hbx hbx1 fb0 hRnx hfsz hbf3 e0 e1 e2 e3 e4 e5 y11
              have HS1 := HSt.out x.op w7
              have hse : Hid (inB x.op 1 4 = setsS x) := Lib.hid rfl
              rw [hse.out] at HS1
              refine HS1.mono ?_
              rintro e w8 ⟨rfl, rfl⟩
              clear z10 HS1 hse
              cases hst : setsS x
              · have HB0 : Hid (baseL x nd = nd ∧ nowL x nd = nd) := Lib.hid (by unfold baseL nowL; rw [hst]; exact ⟨rfl, rfl⟩)
                clear hst
                have hNd : Rp.Rd Rp.int w7 (fun q => FN q ∨ w7.heap.size ≤ q) (.slice An nd.length kn) (baseL x nd) := by rw [HB0.out.1]; exact (hRn.below hbf2).mono (fun q hq => .inl hq)
                have hNow : Rp.Rd Rp.int w7 (fun q => wy.heap.size ≤ q ∧ q < w7.heap.size) (.slice Ac nd.length cc) (nowL x nd) := by rw [HB0.out.2]; exact hOc.rd.bound.mono (fun q hq => by have := hq.1; have := hq.2; omega)
                have hbl0 : (baseL x nd).length ≤ 250 := by rw [HB0.out.1]; exact hndl
                have hMw := hMy.below hbf2
                have p6 := blk_below p5 hbf2
                have hB6 := hbf1
                have hsW := hbf2.size
                clear hOc hRn hbf2 hMy p5 hbf1
                obtain ⟨z1, _⟩ := cell_of_block fb
                have z10 : w7.cell? ⟨wy.heap.size, 0, none⟩ = some (.int .i64 x.op) := (z1 0).trans rfl
                have z11 : w7.cell? ⟨wy.heap.size, 1, none⟩ = some (.int .i64 x.dO) := (z1 1).trans rfl
                have z12 : w7.cell? ⟨wy.heap.size, 2, none⟩ = some (.int .i64 x.dst) := (z1 2).trans rfl
                have z13 : w7.cell? ⟨wy.heap.size, 3, none⟩ = some (.int .i64 x.a) := (z1 3).trans rfl
                have z14 : w7.cell? ⟨wy.heap.size, 4, none⟩ = some (.int .i64 x.b) := (z1 4).trans rfl
                have z15 : w7.cell? ⟨wy.heap.size, 5, none⟩ = some (.int .i64 x.n) := (z1 5).trans rfl
                clear z1
                have HU1 := Lib.hid (HU.out x w7)
                obtain ⟨bs, hbs⟩ : ∃ bs, bs = baseL x nd := ⟨_, rfl⟩
                obtain ⟨nw, hnw⟩ : ∃ nw, nw = nowL x nd := ⟨_, rfl⟩
                have HNx : Hid (nextL x nd = (usesS x).foldl putL bs) := Lib.hid (by rw [hbs]; rfl)
                rw [← hbs] at hNd hbl0
                rw [← hnw] at HMD hNow
                clear hbs hnw
                obtain ⟨Aw, cw, hnwe, _⟩ := id hNow
                rw [hnwe] at hNow ⊢
                obtain ⟨Ab, cb, hnbe, _⟩ := id hNd
                rw [hnbe] at hNd ⊢
                clear hnwe hnbe
                go_wp2_with fail
                refine HU1.out.mono ?_
                rintro e w10 ⟨v10, rfl, hv10, hb10⟩
                have hv10 := hv10.rd
                have hul : (usesS x).length ≤ 2 := by
                  unfold usesS
                  split
                  · simp
                  · split <;> simp
                have hNd10 := hNd.below hb10
                have hNow10 := hNow.below hb10
                have hM10 := hMw.below hb10
                have p10 := blk_below p6 hb10
                have hB10 := below_then hB6 hb10
                have hs10 := hb10.size
                clear HU1 z10 z11 z12 z13 z14 z15 fb hb10 hMw hNow p6 hNd
                generalize usesS x = us at *
                obtain ⟨A10, c10, rfl, _, _, hr10⟩ := rd_int hv10
                go_wp2_with fail
                go_loopw [11, 87] (fun av i wr => ∃ (m : Nat) (nx : Value), nx = av ∧ m ≤ us.length ∧ i = .int .i64 m ∧ Rp.Rd Rp.int wr (fun q => FN q ∨ w7.heap.size ≤ q) nx ((us.take m).foldl putL bs) ∧ Below w10.heap.size w10 wr) (fun _ i _ => us.length - (intOf i).toNat)
                case atStart => exact ⟨0, _, rfl, Nat.zero_le _, rfl, hNd10, Below.refl _ _⟩
                case round =>
                  clear hNd10
                  obtain ⟨m, nx, rfl, hm, rfl, hRn, hbz⟩ := hrel
                  rename World => wz
                  by_cases hmt : m < us.length
                  · rcases hr10 with hn0 | ⟨b10, o10, rfl, hb10, hc10⟩
                    · rw [hn0] at hmt; simp at hmt
                    have cv := cell_below hbz (hc10 m hmt)
                    have HTk : Hid ((us.take (m + 1)).foldl putL bs = putL ((us.take m).foldl putL bs) us[m]) := Lib.hid (by rw [List.take_succ_eq_append_getElem hmt, fold_putL_snoc])
                    have hle := putL_fold_len (us.take m) bs
                    rw [List.length_take] at hle
                    clear hc10
                    generalize us[m] = v at *
                    have e0 : (0 : Int) ≤ (m : Int) := Int.natCast_nonneg _
                    have e1 : (m : Int) < (us.length : Int) := by omega
                    have HP := Lib.hid (l1Put_calls nx _ v wz hRn (by omega))
                    clear hRn hle
                    go_wp2_with fail
                    refine HP.out.mono ?_
                    rintro e w9 ⟨v9, rfl, hR9, hb9⟩
                    have hR10 := hR9.mono (G := fun q => FN q ∨ w7.heap.size ≤ q) (fun q hq => by have := hbz.size; rcases hq with hq | hq; exact hq; right; omega)
                    have hbz2 := below_then hbz hb9
                    clear HP hR9 hb9 cv hbz
                    go_wp2
                    go_roundw
                    case rel => exact ⟨m + 1, v9, rfl, by omega, by go_num, by rw [HTk.out]; exact hR10, hbz2⟩
                    case measure => simp [intOf]; omega
                  · obtain rfl : m = us.length := by omega
                    rw [List.take_length, ← HNx.out] at hRn
                    have hMz := hM10.below hbz
                    have hNwz := hNow10.below hbz
                    have pz := blk_below p10 hbz
                    have hBz := below_then hB10 hbz
                    have hsz9 := hbz.size
                    have hRnb := hRn.bound
                    obtain ⟨Az, cz, hnxe, _⟩ := id hRn
                    subst hnxe
                    have HFN2 : Hid (∀ q, ((FN q ∨ w7.heap.size ≤ q) ∧ q < wz.heap.size) → ¬ ((FM q ∨ (wy.heap.size ≤ q ∧ q < w7.heap.size)) ∨ wz.heap.size ≤ q)) := Lib.hid (fun q hq hf => by
                      obtain ⟨h1, h2⟩ := hq
                      rcases h1 with h1 | h1
                      · have := hFN.out q h1
                        rcases hf with (hf | hf) | hf
                        · exact this.2 hf
                        · omega
                        · omega
                      · rcases hf with (hf | hf) | hf
                        · have := hFM.out q hf; omega
                        · omega
                        · omega)
                    have HFM2 : Hid (∀ q, ((FM q ∨ (wy.heap.size ≤ q ∧ q < w7.heap.size)) ∨ wz.heap.size ≤ q) → w1.heap.size ≤ q ∧ q ≠ wo.heap.size) := Lib.hid (fun q hf => by
                      rcases hf with (hf | hf) | hf
                      · have := hFM.out q hf; exact ⟨this.1, this.2.2⟩
                      · constructor <;> omega
                      · constructor <;> omega)
                    clear hRn hbz hM10 hNow10 p10 hB10
                    go_wp2_with (at_builtin; (refine ow_append1 (r := Rp.sl Rp.int) (e := 35) (by rfl) _ _ 41 (.slice none 0 0) 24 (by rfl) Try.underlying41 infoInts rfl (by decide) (by omega) _ MJ nw [.slice Aw nw.length cw] (by rfl) (by rfl) hMz ⟨_, rfl, hNwz⟩ (fun q hq h => by have h := hFM.out _ h; have hq : wy.heap.size ≤ q ∧ q < w7.heap.size := hq; omega) (by omega) ?_; intro v11 w11 HO3 hg1; obtain ⟨Bv, dv, rfl, _, _⟩ := HO3.form1; have p11 := grown_blk hg1 pz (own_ne hMz (fun h => (hFM.out _ h).2.2 rfl)); have hRn11 := hRnb.move (w' := w11) (fun q hq hlt => hg1.block q hlt (fun e => HFN2.out q hq (.inl (.inl (hMz.lt_size e.symm).1)))); have HB11 := below_grown hBz hg1 (fun q hq => (hFM.out _ (own_in hMz (.inr hq))).1) hBz.size; have HO4 := HO3.bound; have hs11 := hg1.size))
                    have HO5 := HO4.mono (G := fun q => ((FM q ∨ (wy.heap.size ≤ q ∧ q < w7.heap.size)) ∨ wz.heap.size ≤ q) ∧ q < w11.heap.size) (fun q hq => by
                      obtain ⟨hq, h2⟩ := hq
                      refine ⟨?_, h2⟩
                      rcases hq with hq | hq | hq
                      · exact .inl (.inl hq)
                      · exact .inl (.inr hq)
                      · exact .inr hq)
                    have hMJ2 : (MJ ++ [nw]).length ≤ MT.length + 1 + (p.code.length - n) := by rw [List.length_append, List.length_singleton]; omega
                    clear HO3 HO4
                    go_roundw
                    case rel => exact ⟨n, _, _, MJ ++ [nw], _, _, rfl, rfl, by omega, by go_num, by rw [HMD.out.1, HMJ.out]; simp only [List.append_assoc], hMJ2, p11, HB11, Lib.hid (fun q hq => ⟨(HFM2.out q hq.1).1, hq.2, (HFM2.out q hq.1).2⟩), Lib.hid (fun q hq => ⟨by have := hq.2; omega, fun hf => HFN2.out q hq hf.1⟩), HO5, by rw [HMD.out.2]; exact hRn11⟩
                    case measure => first | (simp [intOf]; done) | (simp [intOf]; omega)
              · have HB0 : Hid (baseL x nd = dropL nd x.dst ∧ nowL x nd = putL nd x.dst) := Lib.hid (by unfold baseL nowL; rw [hst]; exact ⟨rfl, rfl⟩)
                clear hst
                obtain ⟨z1, _⟩ := cell_of_block fb
                have z12 : w7.cell? ⟨wy.heap.size, 2, none⟩ = some (.int .i64 x.dst) := (z1 2).trans rfl
                clear z1
                have HP := Lib.hid (l1Put_calls _ nd x.dst w7 hOc.rd (by omega))
                have hRn7 := hRn.below hbf2
                go_wp2_with fail
                refine HP.out.mono ?_
                rintro e w8 ⟨v8, rfl, hR8, hb8⟩
                have hRn8 := hRn7.below hb8
                have HD := Lib.hid (l6Drop_calls _ nd x.dst w8 hRn8 (by omega))
                have z12 := cell_below hb8 z12
                go_wp2_with fail
                refine HD.out.mono ?_
                rintro e w9 ⟨v9, rfl, hR9, hb9⟩
                have hs7 := hbf2.size
                have hs8 := hb8.size
                have hs9 := hb9.size
                have hNow : Rp.Rd Rp.int w9 (fun q => wy.heap.size ≤ q ∧ q < w8.heap.size) v8 (nowL x nd) := by rw [HB0.out.2]; exact (hR8.bound.mono (fun q hq => by have h1 := hq.1; have h2 := hq.2; constructor; (rcases h1 with h1 | h1 <;> omega); exact h2)).below hb9
                have hNd : Rp.Rd Rp.int w9 (fun q => FN q ∨ w8.heap.size ≤ q) v9 (baseL x nd) := by rw [HB0.out.1]; exact hR9.rd.mono (fun q hq => .inr hq)
                have hbl0 : (baseL x nd).length ≤ 250 := by rw [HB0.out.1]; unfold dropL; exact Nat.le_trans (List.length_filter_le _ _) hndl
                have hbb := below_then hbf2 (below_then hb8 hb9)
                have hMw := hMy.below hbb
                have p6 := blk_below p5 hbb
                have hB6 := below_then hbf1 (below_then hb8 hb9)
                have fb := blk_below fb (below_then hb8 hb9)
                clear HP HD z12 hRn7 hRn8 hR8 hR9 hb8 hb9 hOc hRn hbf2 hMy p5 hbf1 hbb
                obtain ⟨z1, _⟩ := cell_of_block fb
                have z10 : w9.cell? ⟨wy.heap.size, 0, none⟩ = some (.int .i64 x.op) := (z1 0).trans rfl
                have z11 : w9.cell? ⟨wy.heap.size, 1, none⟩ = some (.int .i64 x.dO) := (z1 1).trans rfl
                have z12 : w9.cell? ⟨wy.heap.size, 2, none⟩ = some (.int .i64 x.dst) := (z1 2).trans rfl
                have z13 : w9.cell? ⟨wy.heap.size, 3, none⟩ = some (.int .i64 x.a) := (z1 3).trans rfl
                have z14 : w9.cell? ⟨wy.heap.size, 4, none⟩ = some (.int .i64 x.b) := (z1 4).trans rfl
                have z15 : w9.cell? ⟨wy.heap.size, 5, none⟩ = some (.int .i64 x.n) := (z1 5).trans rfl
                clear z1
                have HU1 := Lib.hid (HU.out x w9)
                obtain ⟨bs, hbs⟩ : ∃ bs, bs = baseL x nd := ⟨_, rfl⟩
                obtain ⟨nw, hnw⟩ : ∃ nw, nw = nowL x nd := ⟨_, rfl⟩
                have HNx : Hid (nextL x nd = (usesS x).foldl putL bs) := Lib.hid (by rw [hbs]; rfl)
                rw [← hbs] at hNd hbl0
                rw [← hnw] at HMD hNow
                clear hbs hnw
                obtain ⟨Aw, cw, hnwe, _⟩ := id hNow
                rw [hnwe] at hNow ⊢
                obtain ⟨Ab, cb, hnbe, _⟩ := id hNd
                rw [hnbe] at hNd ⊢
                clear hnwe hnbe
                go_wp2_with fail
                refine HU1.out.mono ?_
                rintro e w10 ⟨v10, rfl, hv10, hb10⟩
                have hv10 := hv10.rd
                have hul : (usesS x).length ≤ 2 := by
                  unfold usesS
                  split
                  · simp
                  · split <;> simp
                have hNd10 := hNd.below hb10
                have hNow10 := hNow.below hb10
                have hM10 := hMw.below hb10
                have p10 := blk_below p6 hb10
                have hB10 := below_then hB6 hb10
                have hs10 := hb10.size
                clear HU1 z10 z11 z12 z13 z14 z15 fb hb10 hMw hNow p6 hNd
                generalize usesS x = us at *
                obtain ⟨A10, c10, rfl, _, _, hr10⟩ := rd_int hv10
                go_wp2_with fail
                go_loopw [11, 87] (fun av i wr => ∃ (m : Nat) (nx : Value), nx = av ∧ m ≤ us.length ∧ i = .int .i64 m ∧ Rp.Rd Rp.int wr (fun q => FN q ∨ w8.heap.size ≤ q) nx ((us.take m).foldl putL bs) ∧ Below w10.heap.size w10 wr) (fun _ i _ => us.length - (intOf i).toNat)
                case atStart => exact ⟨0, _, rfl, Nat.zero_le _, rfl, hNd10, Below.refl _ _⟩
                case round =>
                  clear hNd10
                  obtain ⟨m, nx, rfl, hm, rfl, hRn, hbz⟩ := hrel
                  rename World => wz
                  by_cases hmt : m < us.length
                  · rcases hr10 with hn0 | ⟨b10, o10, rfl, hb10, hc10⟩
                    · rw [hn0] at hmt; simp at hmt
                    have cv := cell_below hbz (hc10 m hmt)
                    have HTk : Hid ((us.take (m + 1)).foldl putL bs = putL ((us.take m).foldl putL bs) us[m]) := Lib.hid (by rw [List.take_succ_eq_append_getElem hmt, fold_putL_snoc])
                    have hle := putL_fold_len (us.take m) bs
                    rw [List.length_take] at hle
                    clear hc10
                    generalize us[m] = v at *
                    have e0 : (0 : Int) ≤ (m : Int) := Int.natCast_nonneg _
                    have e1 : (m : Int) < (us.length : Int) := by omega
                    have HP := Lib.hid (l1Put_calls nx _ v wz hRn (by omega))
                    clear hRn hle
                    go_wp2_with fail
                    refine HP.out.mono ?_
                    rintro e w9 ⟨v9, rfl, hR9, hb9⟩
                    have hR10 := hR9.mono (G := fun q => FN q ∨ w8.heap.size ≤ q) (fun q hq => by have := hbz.size; rcases hq with hq | hq; exact hq; right; omega)
                    have hbz2 := below_then hbz hb9
                    clear HP hR9 hb9 cv hbz
                    go_wp2
                    go_roundw
                    case rel => exact ⟨m + 1, v9, rfl, by omega, by go_num, by rw [HTk.out]; exact hR10, hbz2⟩
                    case measure => simp [intOf]; omega
                  · obtain rfl : m = us.length := by omega
                    rw [List.take_length, ← HNx.out] at hRn
                    have hMz := hM10.below hbz
                    have hNwz := hNow10.below hbz
                    have pz := blk_below p10 hbz
                    have hBz := below_then hB10 hbz
                    have hsz9 := hbz.size
                    have hRnb := hRn.bound
                    obtain ⟨Az, cz, hnxe, _⟩ := id hRn
                    subst hnxe
                    have HFN2 : Hid (∀ q, ((FN q ∨ w8.heap.size ≤ q) ∧ q < wz.heap.size) → ¬ ((FM q ∨ (wy.heap.size ≤ q ∧ q < w8.heap.size)) ∨ wz.heap.size ≤ q)) := Lib.hid (fun q hq hf => by
                      obtain ⟨h1, h2⟩ := hq
                      rcases h1 with h1 | h1
                      · have := hFN.out q h1
                        rcases hf with (hf | hf) | hf
                        · exact this.2 hf
                        · omega
                        · omega
                      · rcases hf with (hf | hf) | hf
                        · have := hFM.out q hf; omega
                        · omega
                        · omega)
                    have HFM2 : Hid (∀ q, ((FM q ∨ (wy.heap.size ≤ q ∧ q < w8.heap.size)) ∨ wz.heap.size ≤ q) → w1.heap.size ≤ q ∧ q ≠ wo.heap.size) := Lib.hid (fun q hf => by
                      rcases hf with (hf | hf) | hf
                      · have := hFM.out q hf; exact ⟨this.1, this.2.2⟩
                      · constructor <;> omega
                      · constructor <;> omega)
                    clear hRn hbz hM10 hNow10 p10 hB10
                    go_wp2_with (at_builtin; (refine ow_append1 (r := Rp.sl Rp.int) (e := 35) (by rfl) _ _ 41 (.slice none 0 0) 24 (by rfl) Try.underlying41 infoInts rfl (by decide) (by omega) _ MJ nw [.slice Aw nw.length cw] (by rfl) (by rfl) hMz ⟨_, rfl, hNwz⟩ (fun q hq h => by have h := hFM.out _ h; have hq : wy.heap.size ≤ q ∧ q < w8.heap.size := hq; omega) (by omega) ?_; intro v11 w11 HO3 hg1; obtain ⟨Bv, dv, rfl, _, _⟩ := HO3.form1; have p11 := grown_blk hg1 pz (own_ne hMz (fun h => (hFM.out _ h).2.2 rfl)); have hRn11 := hRnb.move (w' := w11) (fun q hq hlt => hg1.block q hlt (fun e => HFN2.out q hq (.inl (.inl (hMz.lt_size e.symm).1)))); have HB11 := below_grown hBz hg1 (fun q hq => (hFM.out _ (own_in hMz (.inr hq))).1) hBz.size; have HO4 := HO3.bound; have hs11 := hg1.size))
                    have HO5 := HO4.mono (G := fun q => ((FM q ∨ (wy.heap.size ≤ q ∧ q < w8.heap.size)) ∨ wz.heap.size ≤ q) ∧ q < w11.heap.size) (fun q hq => by
                      obtain ⟨hq, h2⟩ := hq
                      refine ⟨?_, h2⟩
                      rcases hq with hq | hq | hq
                      · exact .inl (.inl hq)
                      · exact .inl (.inr hq)
                      · exact .inr hq)
                    have hMJ2 : (MJ ++ [nw]).length ≤ MT.length + 1 + (p.code.length - n) := by rw [List.length_append, List.length_singleton]; omega
                    clear HO3 HO4
                    go_roundw
                    case rel => exact ⟨n, _, _, MJ ++ [nw], _, _, rfl, rfl, by omega, by go_num, by rw [HMD.out.1, HMJ.out]; simp only [List.append_assoc], hMJ2, p11, HB11, Lib.hid (fun q hq => ⟨(HFM2.out q hq.1).1, hq.2, (HFM2.out q hq.1).2⟩), Lib.hid (fun q hq => ⟨by have := hq.2; omega, fun hf => HFN2.out q hq hf.1⟩), HO5, by rw [HMD.out.2]; exact hRn11⟩
                    case measure => first | (simp [intOf]; done) | (simp [intOf]; omega)
            · obtain rfl : j = 0 := by omega
              have he : ((0 : Nat) : Int) - 1 = -1 := by omega
              rw [he]
              have hfin : momTo s IL OL (k + 1) = MJ := by rw [HMk.out, HMJ.out, hMP.out]; simp
              have hfl3 : (momTo s IL OL (k + 1)).length ≤ (k + 1) * 1048577 := by rw [hfin]; omega
              go_wp2
              go_roundw
              case rel => exact ⟨k + 1, _, rfl, by omega, by go_num, by rw [hfin]; exact hMy.mono (fun q hq => (hFM.out q hq).1), hfl3, HB5⟩
              case measure => simp [intOf]; omega
    · obtain rfl : k = s.parts.length := by omega
      rw [← HMS.out] at hM
      obtain ⟨Am, cm, rfl, _, _⟩ := hM.form
      go_wp2
      go_ret
      exact ⟨_, rfl, hM.rd.mono (fun q hq => by have := hB1.size; have hq : w1.heap.size ≤ q := hq; omega), below_then hB1 HB⟩
end Go.Proofs.Ytmcnoeinjocimaa.L

set_option linter.unusedVariables false
set_option linter.unusedSimpArgs false
namespace Go.Proofs.Ytmcnoeinjocimaa.L
open Go.RowKit
/-- A number, nought where there is none. -/
def numV (g : Bool) (n : Nat) : Int := if g = true then (n : Int) else 0
/-- A number of an ssa, and whether it is good. -/
inductive NumRes (G : Prop) (n : Nat) (w : World) (e : Ending) (w' : World) : Prop where
  | mk (g : Bool) (hg : Hid (g = true ↔ G)) (he : e = .returned (.tuple #[.int .i64 (numV g n), .bool g])) (hb : Below w.heap.size w w') : NumRes G n w e w'
theorem momentsM_calls {F : Nat → Prop} (s : Sa) (N vb : Nat) (vparts vn vd vD vT : Value) (w : World) (hv : w.heap[vb]? = some (viewC vparts s.values vn vd vD vT)) (hs : Rp.Rd part w F vparts s.parts) (hg : GoodP s) (hx2 : ∀ p ∈ s.parts, PtLim p) (hNV : (N : Int) = s.values) :
    Calls Try.prog 63 #[.pointer (some ⟨vb, 0, none⟩)] w fun e w' => ∃ v', e = .returned v' ∧ Rp.Rd (Rp.sl Rp.int) w' (fun q => w.heap.size ≤ q) v' (momS s) ∧ Below w.heap.size w w' := by
  refine (momentsI_calls s N vb vparts vn vd vD vT w hv hs hg hx2 hNV).mono ?_
  rintro e w' ⟨v', I, O, rfl, hr, hH, hb⟩
  rw [momToB_eq hg hH.out.1 hH.out.2.1 (fun k hk => by have := hH.out.2.2 k hk; omega)] at hr
  exact ⟨v', rfl, hr, hb⟩
theorem mostL_take {L : List (List Int)} {k : Nat} (hk : k < L.length) : mostL (L.take (k + 1)) = max (mostL (L.take k)) L[k].length := by
  rw [List.take_succ_eq_append_getElem hk, mostL_snoc]
set_option maxRecDepth 100000 in
set_option maxHeartbeats 4000000 in
theorem mostS_calls {F : Nat → Prop} (s : Sa) (vparts : Value) (w : World) (hs : Rp.Rd part w F vparts s.parts) (hx1 : s.parts.length ≤ 1048576) (hx2 : ∀ p ∈ s.parts, PtLim p) :
    Calls Try.prog 34 #[saV s vparts] w (NumRes (GoodP s) (mostL (momS s)) w) := by
  obtain ⟨A, c, rfl, hlc, hcm, hrow⟩ := rd_part hs
  have HG := Lib.hid (fun W (hW : Below w.heap.size w W) => goodS_calls s _ W (hs.below hW) hx1 hx2)
  have HD := Lib.hid (fun W (hW : Below w.heap.size w W) (h : GoodP s) => l10Moments_calls s _ W (hs.below hW) h hx2)
  unfold saV at HG HD ⊢
  have hB0 : Below w.heap.size w (w.alloc (.cells #[.slice A s.parts.length c, .int .i64 s.values] 29)) := below_new _
  have b0 := heap_alloc_new w (.cells #[.slice A s.parts.length c, .int .i64 s.values] 29)
  generalize momS s = L at *
  go_enter Try.func34, Try.ntmps34
  go_wp2_with fail
  refine (HG.out _ hB0).mono ?_
  rintro e w1 ⟨g, rfl, hg, hb1⟩
  have hB1 := below_then hB0 hb1
  have b1 := blk_below b0 hb1
  clear hb1 b0 hB0 HG
  cases g
  · go_wp2
    refine bodyPost_ret (v := .tuple #[.int .i64 0, .bool false]) (by simp [results, Try.results34, go_sem]) rfl ?_
    exact .mk false hg rfl hB1
  have hgp := Lib.hid (hg.out.1 rfl)
  obtain ⟨v0, _⟩ := cell_of_block b1
  have x0 : w1.cell? ⟨w.heap.size, 0, none⟩ = some (.slice A s.parts.length c) := (v0 0).trans rfl
  have x1 : w1.cell? ⟨w.heap.size, 1, none⟩ = some (.int .i64 s.values) := (v0 1).trans rfl
  clear v0
  go_wp2_with fail
  refine (HD.out _ hB1 hgp.out).mono ?_
  rintro e w2 ⟨vL, rfl, hvL, hb2⟩
  have hB2 := below_then hB1 hb2
  obtain ⟨AL, cL, rfl, hl1, hl2, hrL⟩ := rd_ints hvL
  clear x0 x1 hb2 b1 hB1 HD
  go_wp2_with fail
  go_loopw [13, 4] (fun j m wr => wr = w2 ∧ ∃ k : Nat, k ≤ L.length ∧ j = .int .i64 k ∧ m = .int .i64 (mostL (L.take k) : Nat)) (fun j _ _ => L.length - (intOf j).toNat)
  case atStart => exact ⟨rfl, 0, Nat.zero_le _, rfl, by simp [mostL]⟩
  case round =>
    obtain ⟨rfl, k, hk, rfl, rfl⟩ := hrel
    by_cases hlt : k < L.length
    · rcases hrL with hnil | ⟨b, o, rfl, hb, hcell⟩
      · rw [hnil] at hlt; simp at hlt
      obtain ⟨u, cu, hu⟩ := hcell k hlt
      obtain ⟨Au, ku, rfl, hu1, hu2, -⟩ := rd_int hu
      have hm := mostL_take hlt
      have k0 : (0 : Int) ≤ (k : Int) := Int.natCast_nonneg _
      have k1 : (k : Int) < (L.length : Int) := by omega
      clear hcell hu
      generalize L[k].length = a at *
      generalize mostL (L.take k) = b1 at *
      have hm := Lib.hid hm
      by_cases hab : (b1 : Int) < (a : Int)
      · go_wp2
        go_roundw
        case rel => exact ⟨trivial, k + 1, by omega, by go_num, by rw [hm.out]; congr 1; omega⟩
        case measure => simp [intOf]; omega
      · go_wp2
        go_roundw
        case rel => exact ⟨trivial, k + 1, by omega, by go_num, by rw [hm.out]; congr 1; omega⟩
        case measure => simp [intOf]; omega
    · obtain rfl : k = L.length := by omega
      rw [List.take_length]
      go_wp2
      refine bodyPost_ret (v := .tuple #[.int .i64 (mostL L : Nat), .bool true]) (by simp [results, Try.results34, go_sem]) rfl ?_
      exact .mk true (Lib.hid ⟨fun _ => hgp.out, fun _ => rfl⟩) rfl hB2
set_option maxRecDepth 100000 in
set_option maxHeartbeats 4000000 in
theorem mostI_calls {F : Nat → Prop} (s : Sa) (vparts : Value) (w : World) (hs : Rp.Rd part w F vparts s.parts) (hx1 : s.parts.length ≤ 1048576) (hx2 : ∀ p ∈ s.parts, PtLim p) :
    Calls Try.prog 35 #[saV s vparts] w (NumRes (∃ D T M, GoodV s D T M) (mostL (momS s)) w) := by
  obtain ⟨A, c, rfl, _, _, _⟩ := rd_part hs
  have HC := Lib.hid (fun W (hW : Below w.heap.size w W) => viewOf_calls s _ W (hs.below hW) hx1 hx2)
  have HLv := Lib.hid (fun W (hW : Below w.heap.size w W) (hg : GoodP s) N vb vn vd vD vT hv hN => momentsM_calls s N vb (.slice A s.parts.length c) vn vd vD vT W hv (hs.below hW) hg hx2 hN)
  unfold saV at HC ⊢
  have hB0 : Below w.heap.size w (w.alloc (.cells #[.slice A s.parts.length c, .int .i64 s.values] 29)) := below_new _
  generalize momS s = L at *
  go_enter Try.func35, Try.ntmps35
  go_wp2_with fail
  refine (HC.out _ hB0).mono ?_
  rintro e w1 (⟨rfl, hn, hb⟩ | ⟨vb, D, T, M, vn, vd, vD, vT, rfl, hv, hz, hD, hT, hM, hN, hg, hb⟩)
  · have HN : Hid (false = true ↔ ∃ D T M, GoodV s D T M) := Lib.hid ⟨fun h => Bool.noConfusion h, fun h => absurd h hn.out⟩
    have hb2 := below_then hB0 hb
    clear hn
    go_wp2
    refine bodyPost_ret (v := .tuple #[.int .i64 0, .bool false]) (by simp [results, Try.results35, go_sem]) rfl ?_
    exact .mk false HN rfl hb2
  · have HN : Hid (true = true ↔ ∃ D T M, GoodV s D T M) := Lib.hid ⟨fun _ => ⟨D, T, M, hg.out⟩, fun _ => rfl⟩
    have hb2 := below_then hB0 hb
    have hgp := Lib.hid ((good_iff s).1 ⟨D, T, M, hg.out⟩)
    have hv1 := hg.out.v1
    have hNN : (s.values.toNat : Int) = s.values := by omega
    have HL1 := Lib.hid (HLv.out _ hb2 hgp.out s.values.toNat vb vn vd vD vT hv hNN)
    clear hg hT hM hN hD HLv HC
    go_wp2_with fail
    refine HL1.out.mono ?_
    rintro e w2 ⟨vL, rfl, hvL, hb3⟩
    have hB3 := below_then hb2 hb3
    obtain ⟨AL, cL, rfl, hl1, hl2, hrL⟩ := rd_ints hvL
    clear HL1 hb3 hv
    go_wp2_with fail
    go_loopw [15, 5] (fun j m wr => wr = w2 ∧ ∃ k : Nat, k ≤ L.length ∧ j = .int .i64 k ∧ m = .int .i64 (mostL (L.take k) : Nat)) (fun j _ _ => L.length - (intOf j).toNat)
    case atStart => exact ⟨rfl, 0, Nat.zero_le _, rfl, by simp [mostL]⟩
    case round =>
      obtain ⟨rfl, k, hk, rfl, rfl⟩ := hrel
      by_cases hlt : k < L.length
      · rcases hrL with hnil | ⟨b, o, rfl, hb, hcell⟩
        · rw [hnil] at hlt; simp at hlt
        obtain ⟨u, cu, hu⟩ := hcell k hlt
        obtain ⟨Au, ku, rfl, hu1, hu2, -⟩ := rd_int hu
        have hm := mostL_take hlt
        have k0 : (0 : Int) ≤ (k : Int) := Int.natCast_nonneg _
        have k1 : (k : Int) < (L.length : Int) := by omega
        clear hcell hu
        generalize L[k].length = a at *
        generalize mostL (L.take k) = b1 at *
        have hm := Lib.hid hm
        by_cases hab : (b1 : Int) < (a : Int)
        · go_wp2
          go_roundw
          case rel => exact ⟨trivial, k + 1, by omega, by go_num, by rw [hm.out]; congr 1; omega⟩
          case measure => simp [intOf]; omega
        · go_wp2
          go_roundw
          case rel => exact ⟨trivial, k + 1, by omega, by go_num, by rw [hm.out]; congr 1; omega⟩
          case measure => simp [intOf]; omega
      · obtain rfl : k = L.length := by omega
        rw [List.take_length]
        go_wp2
        refine bodyPost_ret (v := .tuple #[.int .i64 (mostL L : Nat), .bool true]) (by simp [results, Try.results35, go_sem]) rfl ?_
        exact .mk true (Lib.hid ⟨fun _ => HN.out.1 trivial, fun _ => rfl⟩) rfl hB3
set_option maxRecDepth 100000 in
set_option maxHeartbeats 4000000 in
theorem mostLaw_calls {F : Nat → Prop} (x : Sa) (vparts : Value) (w : World) (h : Rp.Rd part w F vparts x.parts) :
    Calls Try.prog 9 #[saV x vparts] w fun e w' => e = .returned (.bool true) ∧ Below w.heap.size w w' := by
  have HC := fun W (hW : Below w.heap.size w W) => szSsa_calls x vparts 1048576 W (h.below hW) (by omega) (by omega)
  have hb0 := szSa_bd (x := x) (left := 1048576) (by omega)
  generalize szSa x 1048576 = r at *
  have hlim : 0 ≤ r → SaLim x := fun h0 => (hb0.2.2 h0).1
  clear hb0
  unfold saV at HC ⊢
  have HC := Lib.hid HC
  have hB0 : Below w.heap.size w (w.alloc (.cells #[vparts, .int .i64 x.values] 24)) := below_new _
  have b0 := heap_alloc_new w (.cells #[vparts, .int .i64 x.values] 24)
  have hlim := Lib.hid hlim
  obtain ⟨A, c, rfl, _, _, _⟩ := id h
  go_enter Try.func9, Try.ntmps9
  go_wp2_with fail
  refine (HC.out _ hB0).mono ?_
  rintro e w1 ⟨rfl, hb1⟩
  by_cases hneg : r < 0
  · have hB := below_then hB0 hb1
    go_wp2
    go_ret
    exact ⟨rfl, hB⟩
  have hx := hlim.out (by omega)
  have HT := Lib.hid (fun W (hW : Below w.heap.size w W) => toSsa_rd x _ W (h.below hW) hx)
  have HG1 := Lib.hid (fun v W G (hv : Rp.Rd part W G v x.parts) => mostS_calls x v W hv hx.1 hx.2)
  have HG2 := Lib.hid (fun v W G (hv : Rp.Rd part W G v x.parts) => mostI_calls x v W hv hx.1 hx.2)
  have HQ := Lib.hid (good_iff x)
  have hB1 := below_then hB0 hb1
  have b1 := blk_below b0 hb1
  obtain ⟨y1, _⟩ := cell_of_block b1
  have y10 : w1.cell? ⟨w.heap.size, 0, none⟩ = some (.slice A x.parts.length c) := (y1 0).trans rfl
  have y11 : w1.cell? ⟨w.heap.size, 1, none⟩ = some (.int .i64 x.values) := (y1 1).trans rfl
  clear y1 HC b0 hb1 hB0 hlim
  unfold saV at HT HG1 HG2
  generalize mostL (momS x) = sb at *
  go_wp2_with fail
  refine (HT.out _ hB1).mono ?_
  rintro e w2 ⟨v2, rfl, hv2, hb2⟩
  obtain ⟨A2, c2, rfl, _, _, _⟩ := id hv2
  have hB2 := below_then hB1 hb2
  have b2 := blk_below b1 hb2
  clear y10 y11 hb2 b1
  go_wp2_with fail
  refine (HG1.out _ _ _ hv2).mono ?_
  rintro e w3 ⟨g1, hg1, rfl, hb3⟩
  have hB3 := below_then hB2 hb3
  have b3 := blk_below b2 hb3
  obtain ⟨y1, _⟩ := cell_of_block b3
  have y10 : w3.cell? ⟨w.heap.size, 0, none⟩ = some (.slice A x.parts.length c) := (y1 0).trans rfl
  have y11 : w3.cell? ⟨w.heap.size, 1, none⟩ = some (.int .i64 x.values) := (y1 1).trans rfl
  clear y1 hb3 b2 hv2
  go_wp2_with fail
  refine (HT.out _ hB3).mono ?_
  rintro e w4 ⟨v4, rfl, hv4, hb4⟩
  obtain ⟨A4, c4, rfl, _, _, _⟩ := id hv4
  have hB4 := below_then hB3 hb4
  have b4 := blk_below b3 hb4
  clear y10 y11 hb4 b3
  obtain ⟨W5, hW5⟩ : ∃ W5, W5 = w4.alloc (.cells #[.slice A4 x.parts.length c4, .int .i64 x.values] 29) := ⟨_, rfl⟩
  have hb5 : Below w4.heap.size w4 W5 := by rw [hW5]; exact below_new _
  have e5 : W5.heap[w4.heap.size]? = some (.cells #[.slice A4 x.parts.length c4, .int .i64 x.values] 29 (0, 0)) := by rw [hW5]; exact heap_alloc_new w4 _
  have hv5 := hv4.below hb5
  have b5 := blk_below b4 hb5
  have hB5 := below_then hB4 hb5
  replace hW5 := Lib.hid hW5
  go_wp2_with fail
  rw [← hW5.out]
  refine (HG2.out _ _ _ hv5).mono ?_
  rintro e w6 ⟨g2, hg2, rfl, hb6⟩
  have hB6 := below_then hB5 hb6
  have b6 := blk_below b5 hb6
  have e6 := blk_below e5 hb6
  have hv6 := (hv5.mono (G := fun _ => True) (fun _ _ => trivial)).below hb6
  have hgg : g1 = g2 := by
    have := hg1.out.trans (HQ.out.symm.trans hg2.out.symm)
    cases g1 <;> cases g2 <;> simp_all
  subst hgg
  have hgn : (g1 != g1) = false := by cases g1 <;> rfl
  generalize numV g1 sb = gs at *
  have hgn2 : (gs != gs) = false := by simp
  obtain ⟨y1, _⟩ := cell_of_block b6
  have y10 : w6.cell? ⟨w.heap.size, 0, none⟩ = some (.slice A x.parts.length c) := (y1 0).trans rfl
  have y11 : w6.cell? ⟨w.heap.size, 1, none⟩ = some (.int .i64 x.values) := (y1 1).trans rfl
  obtain ⟨z1, _⟩ := cell_of_block e6
  have z10 : w6.cell? ⟨w4.heap.size, 0, none⟩ = some (.slice A4 x.parts.length c4) := (z1 0).trans rfl
  have z11 : w6.cell? ⟨w4.heap.size, 1, none⟩ = some (.int .i64 x.values) := (z1 1).trans rfl
  clear y1 z1 b4 b5 e5 hv4 hv5 hW5 hg1 hg2 HQ HG1 HG2
  go_wp2_with fail
  have HE := Lib.hid (fun u W (hu : Rp.Rd part W (fun q => w6.heap.size ≤ q) u x.parts) (hW : Below w6.heap.size w6 W) => eqSsa_calls x x _ u W (hv6.below hW) hu)
  have HEQ : Hid (eqSa x x = true) := Lib.hid (by unfold eqSa; simp)
  unfold saV at HE
  rw [HEQ.out] at HE
  go_region_held3 (fun w' => w'.cell? ⟨w.heap.size, 0, none⟩ = some (.slice A x.parts.length c) ∧ w'.cell? ⟨w.heap.size, 1, none⟩ = some (.int .i64 x.values) ∧ w'.cell? ⟨w4.heap.size, 0, none⟩ = some (.slice A4 x.parts.length c4) ∧ w'.cell? ⟨w4.heap.size, 1, none⟩ = some (.int .i64 x.values))
    (first | go_keep | (go_split_ands; refine ⟨?_, ?_, ?_, ?_⟩ <;> first | exact cell_below hB9 (by assumption) | exact cell_below hB8 (by assumption) | assumption))
    ((first | (go_at_call 14; refine (HT.out _ (below_drew hB6)).mono ?_; rintro e w8 ⟨v8, rfl, hv8, hb8⟩; have hB8 := below_then (below_drew (Below.refl _ _)) hb8; obtain ⟨A8, c8, rfl, _, _, _⟩ := id hv8) | (go_at_call 16; refine (HE.out _ _ hv8 hB8).mono ?_; rintro e w9 ⟨rfl, hb9⟩; have hB9 := below_then hB8 hb9)))
  go_wp2
  go_ret
  exact ⟨rfl, below_then hB6 hB9⟩
end Go.Proofs.Ytmcnoeinjocimaa.L
