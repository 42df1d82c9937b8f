/- Joined texts, each of which was built by itself: Uf4. -/
import Derived.Test.YtnfaibenekninaaGreatFUseFirst7
import Derived.Test.YtnfaibenekninaaGreatB10
import Derived.Test.YtnfaibenekninaaGreatB12
set_option linter.unusedVariables false
set_option linter.unusedSimpArgs false
namespace Go.Proofs.YtnfaibenekninaaGreat.L
open Go.RowKit
theorem int_getD (l : List Int) (k : Nat) (hk : k < l.length) : l.getD k 0 = l[k] := by rw [List.getD_eq_getElem?_getD, List.getElem?_eq_getElem hk]; rfl
theorem thereI_thU {s : Sa} {D T : List Int} {M : List (List Bool)} (hg : GoodP s) (hv : GoodV s D T M) {k : Nat} {p : Pt} (hk : s.parts[k]? = some p) (i : Nat) (v : Int) : thereI s.values D T M k i v = thU s k p i v := by
  obtain ⟨D', T', S, hS, hR, hP⟩ := hg.rel
  have hps := hv.ps
  rw [hP] at hps
  cases hps
  have h := there_iff hg.v1 hR hP hv.mt hk i v
  have h2 := thU_iff (s := s) (k := k) (p := p) (j := i) (v := v)
  rw [hS, Option.getD_some] at h2
  exact Bool.eq_iff_iff.2 (h.trans h2.symm)
section
variable {W4 wr : World} {FO : Nat → Prop} {g n c mb cnt : Nat} {L : List Pt}
theorem USt.stepQ (h : USt W4 wr FO g n c mb cnt L) (hmb : ¬ FO mb) {k j : Nat} {q : Pt} {x : Fl} (hk : L[k]? = some q) (hj : q.code[j]? = some x) :
    ∃ gc cc, wr.cell? ⟨g, k * 6 + 1, none⟩ = some (.slice (some ⟨gc, 0, none⟩) q.code.length cc) ∧ FlAt wr gc (j * 6) x ∧ (∀ o, wr.frozen? ⟨gc, o, none⟩ = false) ∧ gc ≠ mb ∧ FO gc ∧
      (∀ (f : Int) (e : Ending) (w' : World), BetRes ⟨gc, j * 6 + 3, none⟩ mb cnt x.a f wr e w' → e = .returned (.tuple #[]) ∧ USt W4 w' FO g n c mb (cnt + (if f = x.a then 0 else 1)) (L.set k { q with code := q.code.set j { x with a := f } }) ∧ Chg (fun q => q = gc ∨ q = mb) wr w') ∧
      (∀ (f : Int) (e : Ending) (w' : World), BetRes ⟨gc, j * 6 + 4, none⟩ mb cnt x.b f wr e w' → e = .returned (.tuple #[]) ∧ USt W4 w' FO g n c mb (cnt + (if f = x.b then 0 else 1)) (L.set k { q with code := q.code.set j { x with b := f } }) ∧ Chg (fun q => q = gc ∨ q = mb) wr w') := by
  obtain ⟨hk', rfl⟩ := List.getElem?_eq_some_iff.1 hk
  obtain ⟨hj', rfl⟩ := List.getElem?_eq_some_iff.1 hj
  exact h.step hmb hk' hj'
theorem USt.testQ (h : USt W4 wr FO g n c mb cnt L) (hmb : ¬ FO mb) {k : Nat} {q : Pt} (hk : L[k]? = some q) :
    wr.cell? ⟨g, k * 6 + 3, none⟩ = some (.int .i64 q.test) ∧ (∀ o, wr.frozen? ⟨g, o, none⟩ = false) ∧ g ≠ mb ∧
      (∀ (f : Int) (e : Ending) (w' : World), BetRes ⟨g, k * 6 + 3, none⟩ mb cnt q.test f wr e w' → e = .returned (.tuple #[]) ∧ USt W4 w' FO g n c mb (cnt + (if f = q.test then 0 else 1)) (L.set k { q with test := f }) ∧ Chg (fun q => q = g ∨ q = mb) wr w') := by
  obtain ⟨hk', rfl⟩ := List.getElem?_eq_some_iff.1 hk
  exact h.test hmb hk'
theorem USt.argQ (h : USt W4 wr FO g n c mb cnt L) (hmb : ¬ FO mb) {k i : Nat} {q : Pt} {l : List Int} (hk : L[k]? = some q) (hi : q.args[i]? = some l) :
    ∃ ga ca u, wr.cell? ⟨g, k * 6 + 5, none⟩ = some (.slice (some ⟨ga, 0, none⟩) q.args.length ca) ∧ wr.cell? ⟨ga, i, none⟩ = some u ∧ (∃ A cu, u = .slice A l.length cu) ∧ FO g ∧ FO ga ∧ ga ≠ g ∧
      ∀ (j : Nat) (hj : j < l.length), ∃ gu cu, u = .slice (some ⟨gu, 0, none⟩) l.length cu ∧ wr.cell? ⟨gu, j, none⟩ = some (.int .i64 l[j]) ∧ (∀ o, wr.frozen? ⟨gu, o, none⟩ = false) ∧ gu ≠ mb ∧ gu ≠ g ∧ gu ≠ ga ∧
        (∀ (f : Int) (e : Ending) (w' : World), BetRes ⟨gu, j, none⟩ mb cnt l[j] f wr e w' → e = .returned (.tuple #[]) ∧ USt W4 w' FO g n c mb (cnt + (if f = l[j] then 0 else 1)) (L.set k { q with args := q.args.set i (l.set j f) }) ∧ Chg (fun q => q = gu ∨ q = mb) wr w') := by
  obtain ⟨hk', rfl⟩ := List.getElem?_eq_some_iff.1 hk
  obtain ⟨hi', rfl⟩ := List.getElem?_eq_some_iff.1 hi
  exact h.arg hmb hk' hi'
theorem USt.readQ (h : USt W4 wr FO g n c mb cnt L) {k : Nat} {q : Pt} (hk : L[k]? = some q) :
    ∃ vp vc vn va, partAt wr g (k * 6) q vp vc vn va ∧ Rp.Rd Rp.int wr FO vp q.params ∧ Rp.Rd flat wr FO vc q.code ∧ Rp.Rd Rp.int wr FO vn q.next ∧ Rp.Rd (Rp.sl Rp.int) wr FO va q.args := by
  obtain ⟨hk', rfl⟩ := List.getElem?_eq_some_iff.1 hk
  exact ow_read h.ow hk'
end
theorem code_next {f : Nat → Int → Int} {l : List Fl} {j : Nat} {x : Fl} (hx : l[j]? = some x) {ra rb : Bool} (hra : fA x.op = ra) (hrb : fB x.op = rb) :
    uCode f l (j + 1) = (uCode f l j).set j { x with a := cond ra (f j x.a) x.a, b := cond rb (f j x.b) x.b } ∧ uCodeN f l (j + 1) = uCodeN f l j + (cond ra (cntV (f j) x.a) 0 + cond rb (cntV (f j) x.b) 0) := by
  have h : l.getD j fl0 = x := by rw [List.getD_eq_getElem?_getD, hx]; rfl
  have e1 : uCode f l (j + 1) = (uCode f l j).set j (useX (f j) (l.getD j fl0)) := rfl
  have e2 : uCodeN f l (j + 1) = uCodeN f l j + cntX (f j) (l.getD j fl0) := rfl
  rw [e1, e2, h]
  unfold useX cntX
  rw [hra, hrb]
  cases ra <;> cases rb <;> exact ⟨rfl, rfl⟩
theorem set_same {α : Type} {l : List α} {j : Nat} {x : α} (h : l[j]? = some x) : l.set j x = l := by
  obtain ⟨hj, rfl⟩ := List.getElem?_eq_some_iff.1 h
  exact List.set_getElem_self hj
theorem get_set {α : Type} {l : List α} {j : Nat} {x : α} (h : j < l.length) : (l.set j x)[j]? = some x := List.getElem?_set_self h
set_option maxRecDepth 100000 in
set_option maxHeartbeats 16000000 in
theorem useFirst_calls {F : Nat → Prop} {FO : Nat → Prop} (s : Sa) (vb ob B0 : Nat) (vparts vn vd vD vT vp : Value) (D T : List Int) (M : List (List Bool)) (w : World)
    (hv : w.heap[vb]? = some (viewC vparts s.values vn vd vD vT)) (hvB : vb < B0) (hs : Rp.Rd part w F vparts s.parts) (hD : Rp.Rd Rp.int w (fun q => q < B0) vD D) (hT : Rp.Rd Rp.int w (fun q => q < B0) vT T) (hM : Rp.Rd (Rp.sl Rp.bool) w (fun q => q < B0) vd M)
    (hg : GoodP s) (hgv : GoodV s D T M) (hx2 : ∀ p ∈ s.parts, PtLim p) (ho : w.heap[ob]? = some (.cells #[vp, .int .i64 s.values] 28 (0, 0))) (hO : Ow true 67 partA w FO vp s.parts) (hFO : ∀ q, FO q → B0 ≤ q ∧ q ≠ ob ∧ q < w.heap.size) (hob : B0 ≤ ob) :
    Calls Tryz.prog 27 #[.pointer (some ⟨vb, 0, none⟩), .pointer (some ⟨ob, 0, none⟩)] w fun e w' => e = .returned (.int .i64 (useN s : Nat)) ∧ Ow true 67 partA w' FO vp (useS s).parts ∧ Chg FO w w' := by
  have hen := entersBetter
  unfold Enters at hen
  obtain ⟨g, c, rfl, _, _⟩ := Ow.some_form hO (by have := hg.n1; omega)
  have hn2 := hg.n2
  have hv1 := hg.v1
  have hv2 := hg.v2
  have hNV : (s.values.toNat : Int) = s.values := by omega
  have HGr := Lib.hid (fun W (hW : Below w.heap.size w W) => groupsR_calls s s.values.toNat vb vparts vn vd vD vT W (blk_below hv hW) (hs.below hW) hg hx2 hNV)
  have HTs := Lib.hid (fun k W => tests_calls k W)
  have HFo := Lib.hid (fun o W => fieldsOf_calls o W)
  have hDl : (D.length : Int) = s.values ∧ (T.length : Int) = s.values ∧ ∀ (q : Nat) (hq : q < D.length), 0 ≤ D[q] → D[q].toNat < s.parts.length := by
    have h0 : ((List.replicate s.values.toNat (-1 : Int)).length : Int) = s.values := by rw [List.length_replicate]; omega
    have h1 : ((List.replicate s.values.toNat (0 : Int)).length : Int) = s.values := by rw [List.length_replicate]; omega
    obtain ⟨⟨a1, a2⟩, _, _, a4⟩ := partsI_spec s.parts 0 _ _ D T (Int.le_refl _) h0 h1 hgv.ps
    refine ⟨by omega, by omega, fun q hq hp => ?_⟩
    rcases a4 q with ⟨h, _⟩ | ⟨q', p, hq', h, _⟩
    · rw [int_getD D q hq, List.getD_eq_getElem?_getD, List.getElem?_replicate, if_pos (by rw [a1, List.length_replicate] at hq; exact hq)] at h
      have h : D[q] = -1 := h
      omega
    · rw [int_getD D q hq] at h
      have := (List.getElem?_eq_some_iff.1 hq').1
      omega
  have hML := hgv.len
  have hMR : ∀ (k : Nat) (hk : k < M.length) (q : Nat) (hq : q < D.length), 0 ≤ D[q] → D[q].toNat < M[k].length := fun k hk q hq hp => by rw [hgv.row k hk]; exact hDl.2.2 q hq hp
  have HTT := Lib.hid (fun (k : Nat) (p : Pt) (hk : s.parts[k]? = some p) (i : Nat) (v : Int) => thereI_thU hg hgv hk i v)
  have HXs := Lib.hid (fun (q : Nat) (p : Pt) (hq : s.parts[q]? = some p) (x : Fl) (hx : x ∈ p.code) => (hg.steps_in hq hx).2)
  have HEn := Lib.hid (fun (q : Nat) (p : Pt) (hq : s.parts[q]? = some p) (v : Int) (hv : v ∈ endsS p) => hg.use_in hq (.inl hv))
  have HPk := Lib.hid (fun (p : Pt) (hp : p ∈ s.parts) => hg.ptOk hp)
  have HAc : Hid (∀ k, k ≤ s.parts.length → uAllN (fU s) s.parts k ≤ 40000) := Lib.hid (fun k hk => by
    have := uAllN_le (fU s) (l := s.parts) (fun p hp => hg.ptOk hp) hk
    have h2 : k * 3300 ≤ 11 * 3300 := Nat.mul_le_mul_right _ (by omega)
    omega)
  have hsz0 := blk_lt hv
  have hobs := blk_lt ho
  have hB1 := below_new (w := w) (.cells #[.pointer (some ⟨vb, 0, none⟩)] 49)
  have c1 := heap_alloc_new w (.cells #[.pointer (some ⟨vb, 0, none⟩)] 49)
  have hs1 : (w.alloc (.cells #[.pointer (some ⟨vb, 0, none⟩)] 49)).heap.size = w.heap.size + 1 := by simp
  obtain ⟨y1, _⟩ := cell_of_block c1
  have x10 := (y1 0).trans (show (#[Value.pointer (some ⟨vb, 0, none⟩)] : Array Value)[0]? = some (Value.pointer (some ⟨vb, 0, none⟩)) from rfl)
  clear y1
  go_enter Tryz.func27, Tryz.ntmps27
  go_wp2_with fail
  generalize w.alloc (.cells #[.pointer (some ⟨vb, 0, none⟩)] 49) = W1 at *
  refine (HGr.out _ hB1).mono ?_
  rintro e w2 ⟨v', rfl, hG, hb2⟩
  have hB2 := below_then hB1 hb2
  obtain ⟨gl, hgl⟩ : ∃ gl, gl = intsN (grpL s s.values.toNat) := ⟨_, rfl⟩
  rw [← hgl] at hG
  have hGL : gl.length = s.values.toNat := by rw [hgl]; unfold intsN; rw [List.length_map, grpL_len]
  have hFU : Hid (∀ (k : Nat) (p : Pt) (j : Nat), fU s k p j = firstV gl (thU s k p j)) := Lib.hid (fun k p j => by unfold fU; rw [hgl])
  clear hgl HGr
  replace hGL := Lib.hid hGL
  replace hNV := Lib.hid hNV
  obtain ⟨Ag, cg, rfl, _, _, hrG⟩ := rd_int_in hG.bound.rd
  rcases hrG with hn0 | ⟨gg, go_, rfl, hgg, hcG⟩
  · exfalso; have h := hGL.out; rw [hn0] at h; simp at h; omega
  have c2 := blk_below c1 hb2
  have hW3b := below_new (w := w2) (.cells #[.slice (some ⟨gg, go_, none⟩) gl.length cg] 59)
  have g3 := heap_alloc_new w2 (.cells #[.slice (some ⟨gg, go_, none⟩) gl.length cg] 59)
  have hW4b := below_new (w := w2.alloc (.cells #[.slice (some ⟨gg, go_, none⟩) gl.length cg] 59)) (.cells #[.int .i64 0] 3)
  have m4 := heap_alloc_new (w2.alloc (.cells #[.slice (some ⟨gg, go_, none⟩) gl.length cg] 59)) (.cells #[.int .i64 0] 3)
  have hs3 : (w2.alloc (.cells #[.slice (some ⟨gg, go_, none⟩) gl.length cg] 59)).heap.size = w2.heap.size + 1 := by simp
  rw [hs3] at m4
  have hb4 := below_then hW3b hW4b
  have hB4 := below_then hB2 hb4
  have g4 := blk_below g3 hW4b
  have c4 := blk_below c2 hb4
  have o4 := blk_below ho hB4
  have hG4 : Hid (∀ k, k < gl.length → ((w2.alloc (.cells #[.slice (some ⟨gg, go_, none⟩) gl.length cg] 59)).alloc (.cells #[.int .i64 0] 3)).cell? ⟨gg, go_ + k, none⟩ = some (.int .i64 (gl.getD k 0))) := Lib.hid (fun k hk => by rw [int_getD gl k hk]; exact cell_below hb4 (hcG k hk))
  have hO4 := hO.below hB4
  have v4 := blk_below hv hB4
  have hD4 := hD.below hB4
  have hT4 := hT.below hB4
  have hM4 := hM.below hB4
  obtain ⟨y1, _⟩ := cell_of_block o4
  have xo : ((w2.alloc (.cells #[.slice (some ⟨gg, go_, none⟩) gl.length cg] 59)).alloc (.cells #[.int .i64 0] 3)).cell? ⟨ob, 0, none⟩ = some (.slice (some ⟨g, 0, none⟩) s.parts.length c) := (y1 0).trans rfl
  have hz4 : w2.heap.size + 1 < ((w2.alloc (.cells #[.slice (some ⟨gg, go_, none⟩) gl.length cg] 59)).alloc (.cells #[.int .i64 0] 3)).heap.size := blk_lt m4
  have hz2 := hB2.size
  clear y1 g3 c1 c2 hW3b hW4b hb4 x10 hcG hG
  go_wp2_with fail
  generalize (w2.alloc (.cells #[.slice (some ⟨gg, go_, none⟩) gl.length cg] 59)).alloc (.cells #[.int .i64 0] 3) = W4 at *
  obtain ⟨mb, hmbe⟩ : ∃ mb, mb = w2.heap.size + 1 := ⟨_, rfl⟩
  obtain ⟨gb, hgbe⟩ : ∃ gb, gb = w2.heap.size := ⟨_, rfl⟩
  rw [← hmbe] at m4 ⊢
  rw [← hgbe] at g4 ⊢
  have hmb : ¬ FO mb := fun h => by have := (hFO _ h).2.2; omega
  have hggr : Hid (W1.heap.size ≤ gg ∧ gg < gb) := Lib.hid (by rw [hgbe]; exact hgg)
  have hst : USt W4 W4 FO g s.parts.length c mb 0 s.parts := ⟨hO4, Chg.refl _ _, m4⟩
  have hAne : Hid (∀ q, (FO q ∨ q = mb) → q ≠ w.heap.size ∧ q ≠ gb ∧ ¬ (W1.heap.size ≤ q ∧ q < gb) ∧ B0 ≤ q ∧ q ≠ ob) := Lib.hid (fun q hq => by
    have hs1 := hB1.size
    rcases hq with hq | hq
    · have := hFO q hq; refine ⟨by omega, by omega, by omega, this.1, this.2.1⟩
    · subst hq; exact ⟨by omega, by omega, by omega, by omega, by omega⟩)
  have HBet : Hid (∀ (k j : Nat) (p : Pt) (hk : s.parts[k]? = some p) (wr : World) (cnt : Nat) (L : List Pt) (HS : USt W4 wr FO g s.parts.length c mb cnt L) (pb po : Nat) (v : Int), wr.cell? ⟨pb, po, none⟩ = some (.int .i64 v) → wr.frozen? ⟨pb, po, none⟩ = false → mb ≠ pb → cnt ≤ 1000000 → (0 ≤ v ∧ v < s.values) →
      Calls Tryz.prog 69 #[.pointer (some ⟨pb, po, none⟩), .int .i64 k, .int .i64 j, .pointer (some ⟨gb, 0, none⟩), .pointer (some ⟨w.heap.size, 0, none⟩), .pointer (some ⟨mb, 0, none⟩)] wr (BetRes ⟨pb, po, none⟩ mb cnt v (fU s k p j v) wr)) := Lib.hid (fun k j p hk wr cnt L HS pb po v h1 h2 h3 h4 h5 => by
    have hne : ∀ q, (FO q ∨ q = mb) → q ≠ w.heap.size ∧ q ≠ gb ∧ ¬ (W1.heap.size ≤ q ∧ q < gb) ∧ B0 ≤ q ∧ q ≠ ob := hAne.out
    obtain ⟨y1, _⟩ := cell_of_block (HS.ch.blk g4 (fun h => (hne _ h).2.1 rfl))
    obtain ⟨y2, _⟩ := cell_of_block (HS.ch.blk c4 (fun h => (hne _ h).1 rfl))
    obtain ⟨m1, m2⟩ := HS.mcell
    have hkM : k < M.length := by rw [hML]; exact (List.getElem?_eq_some_iff.1 hk).1
    have hvr := HS.ch.blk v4 (fun h => by have := (hne _ h).2.2.2.1; omega)
    have hDr := hD4.move (HS.ch.same (fun q hq h => by have := (hne _ h).2.2.2.1; omega))
    have hTr := hT4.move (HS.ch.same (fun q hq h => by have := (hne _ h).2.2.2.1; omega))
    have hMr := hM4.move (HS.ch.same (fun q hq h => by have := (hne _ h).2.2.2.1; omega))
    have hgr : ∀ i, i < gl.length → wr.cell? ⟨gg, go_ + i, none⟩ = some (.int .i64 (gl.getD i 0)) := fun i hi => HS.ch.cell (hG4.out i hi) (fun h => (hne _ h).2.2.1 hggr.out)
    have hth : thU s k p j = thereI s.values D T M k j := funext (fun x => (HTT.out k p hk j x).symm)
    have hNVo := hNV.out
    have hGLo := hGL.out
    rw [hFU.out, hth]
    exact better_calls gl (thereI s.values D T M k j) v k j pb po gb gg go_ cg w.heap.size vb mb cnt wr h1 h2 ((y1 0).trans rfl) hgr ((y2 0).trans rfl) m1 m2 h3 h4 (by omega) (by omega) (fun x N =>
      there_calls vb _ _ _ _ _ s.values D T M x j k (wr.drewN N) hvr (hDr.below (below_drewN (Below.refl _ _) N)) (hTr.below (below_drewN (Below.refl _ _) N)) (hMr.below (below_drewN (Below.refl _ _) N)) hDl.1 hDl.2.1 hv2 hkM (hMR k hkM)))
  have HOb : Hid (∀ (wr : World) (cnt : Nat) (L : List Pt), USt W4 wr FO g s.parts.length c mb cnt L → wr.cell? ⟨ob, 0, none⟩ = some (.slice (some ⟨g, 0, none⟩) s.parts.length c)) := Lib.hid (fun wr cnt L HS => by
    obtain ⟨y1, _⟩ := cell_of_block (HS.ch.blk o4 (fun h => (hAne.out _ h).2.2.2.2 rfl))
    exact (y1 0).trans rfl)
  have hBf := Lib.hid hB4
  have hmbs : Hid (w.heap.size ≤ mb) := Lib.hid (by omega)
  have hFOl : Hid (∀ q, FO q → q < w.heap.size) := Lib.hid (fun q hq => (hFO q hq).2.2)
  clear hG4 hAne hD4 hT4 hM4 v4 c4 g4 o4 hDl hMR hML HTT hFU hGL hNV hD hT hM hv hs ho hO hO4 hB1 hB2 hb2 hB4 hgg hggr hg hgv hx2 xo m4 hs1 hs3 hz4 hz2 hsz0 hobs hmbe hgbe hFO hob hvB
  go_loopw [28] (fun x wr => ∃ k : Nat, k ≤ s.parts.length ∧ x = .int .i64 k ∧ USt W4 wr FO g s.parts.length c mb (uAllN (fU s) s.parts k) (uAll (fU s) s.parts k)) (fun x _ => s.parts.length - (intOf x).toNat)
  case atStart => exact ⟨0, Nat.zero_le _, rfl, hst⟩
  case round =>
    clear hst
    obtain ⟨k, hk, rfl, HS⟩ := hrel
    rename World => wo
    by_cases hkt : k < s.parts.length
    · obtain ⟨p, hpe⟩ : ∃ p, p = s.parts[k] := ⟨_, rfl⟩
      have hpk : s.parts[k]? = some p := by rw [hpe, List.getElem?_eq_getElem hkt]
      have hLk : (uAll (fU s) s.parts k)[k]? = some p := (uAll_get _ _ (Nat.le_refl k)).trans hpk
      have hgd : s.parts.getD k zPt = p := by rw [List.getD_eq_getElem?_getD, hpk]; rfl
      have HNx : Hid (uAll (fU s) s.parts (k + 1) = (uAll (fU s) s.parts k).set k (partUf (fU s k p) p) ∧ uAllN (fU s) s.parts (k + 1) = uAllN (fU s) s.parts k + partUc (fU s k p) p) := Lib.hid (by
        have e1 : uAll (fU s) s.parts (k + 1) = (uAll (fU s) s.parts k).set k (partUf (fU s k (s.parts.getD k zPt)) (s.parts.getD k zPt)) := rfl
        have e2 : uAllN (fU s) s.parts (k + 1) = uAllN (fU s) s.parts k + partUc (fU s k (s.parts.getD k zPt)) (s.parts.getD k zPt) := rfl
        rw [e1, e2, hgd]; exact ⟨rfl, rfl⟩)
      have hpm : p ∈ s.parts := List.mem_of_getElem? hpk
      have hpok := HPk.out p hpm
      have hAcK := HAc.out k hk
      have hUc := Lib.hid (partUc_le (fU s k p) hpok)
      have HXk := Lib.hid (HXs.out k p hpk)
      have HEk := Lib.hid (HEn.out k p hpk)
      have HBk := Lib.hid (fun j => HBet.out k j p hpk)
      obtain ⟨L, hL⟩ : ∃ L, L = uAll (fU s) s.parts k := ⟨_, rfl⟩
      obtain ⟨cnt0, hc0⟩ : ∃ cnt0, cnt0 = uAllN (fU s) s.parts k := ⟨_, rfl⟩
      have hkL : k < L.length := by rw [hL, uAll_len]; exact hkt
      rw [← hL] at HS hLk HNx
      rw [← hc0] at HS hAcK HNx
      obtain ⟨f, hf⟩ : ∃ f, f = fU s k p := ⟨_, rfl⟩
      rw [← hf] at HNx HBk hUc
      have hpl := hpok.2.1
      have hal := hpok.2.2.2.1
      have hal2 := Lib.hid hpok.2.2.2.2
      clear hpe hgd hpm hL hc0 hf hpok hpk
      have hob := HOb.out _ _ _ HS
      obtain ⟨_, vc, _, _, hpt, _, h2, _, _⟩ := HS.readQ hLk
      obtain ⟨A2, c2, rfl, _⟩ := h2
      have x1 := hpt.2.1
      have k0 : (0 : Int) ≤ (k : Int) := Int.natCast_nonneg _
      have k1 : (k : Int) < (s.parts.length : Int) := by omega
      clear hpt
      have hS0 : USt W4 wo FO g s.parts.length c mb (cnt0 + uCodeN f p.code 0) (L.set k { p with code := uCode f p.code 0 }) := by
        have e : ({ p with code := uCode f p.code 0 } : Pt) = p := rfl
        rw [e, set_same hLk]; exact HS
      go_wp2_with fail
      clear hob x1 HS
      go_loopw [42] (fun x wr => ∃ j : Nat, j ≤ p.code.length ∧ x = .int .i64 j ∧ USt W4 wr FO g s.parts.length c mb (cnt0 + uCodeN f p.code j) (L.set k { p with code := uCode f p.code j })) (fun x _ => p.code.length - (intOf x).toNat)
      case atStart => exact ⟨0, Nat.zero_le _, rfl, hS0⟩
      case round =>
        clear hS0
        obtain ⟨j, hj, rfl, HS⟩ := hrel
        rename World => wi
        by_cases hjt : j < p.code.length
        · obtain ⟨x, hxe⟩ : ∃ x, x = p.code[j] := ⟨_, rfl⟩
          have hx : p.code[j]? = some x := by rw [hxe, List.getElem?_eq_getElem hjt]
          have hxm : x ∈ p.code := List.mem_of_getElem? hx
          have HXx := Lib.hid (HXk.out x hxm)
          have hcj := (hUc.out).2 j hj
          have HC := Lib.hid (fun ra rb h1 h2 => code_next (f := f) hx (ra := ra) (rb := rb) h1 h2)
          obtain ⟨cd, hcd⟩ : ∃ cd, cd = uCode f p.code j := ⟨_, rfl⟩
          obtain ⟨cn, hcn⟩ : ∃ cn, cn = cnt0 + uCodeN f p.code j := ⟨_, rfl⟩
          have hcdx : cd[j]? = some x := by rw [hcd]; exact (uCode_get f p.code (Nat.le_refl j)).trans hx
          have hcdl : cd.length = p.code.length := by rw [hcd]; exact uCode_len f p.code j
          have HC2 : Hid (∀ ra rb, fA x.op = ra → fB x.op = rb → uCode f p.code (j + 1) = cd.set j { x with a := cond ra (f j x.a) x.a, b := cond rb (f j x.b) x.b } ∧ cnt0 + uCodeN f p.code (j + 1) = cn + (cond ra (cntV (f j) x.a) 0 + cond rb (cntV (f j) x.b) 0)) := Lib.hid (fun ra rb h1 h2 => by
            obtain ⟨e1, e2⟩ := HC.out ra rb h1 h2
            rw [e1, e2, hcd, hcn]; exact ⟨rfl, by omega⟩)
          rw [← hcd, ← hcn] at HS
          have hcn2 : cn ≤ 50000 := by omega
          clear hxe hxm HC hcd hcn hcj
          have hq : (L.set k { p with code := cd })[k]? = some { p with code := cd } := get_set hkL
          obtain ⟨gc, cc, y1, fl, _, _, _, _, _⟩ := HS.stepQ hmb hq hcdx
          replace y1 : wi.cell? ⟨g, k * 6 + 1, none⟩ = some (.slice (some ⟨gc, 0, none⟩) p.code.length cc) := by rw [← hcdl]; exact y1
          obtain ⟨e0, _⟩ := fl
          have hob := HOb.out _ _ _ HS
          have HF1 := Lib.hid (HFo.out x.op wi)
          unfold fieldsV at HF1
          have hUA : Hid (∀ ra rb, fA x.op = ra → fB x.op = rb → (ra = true → 0 ≤ x.a ∧ x.a < s.values) ∧ (rb = true → 0 ≤ x.b ∧ x.b < s.values)) := Lib.hid (fun ra rb h1 h2 => ⟨fun h => HXx.out _ (by unfold usesI; rw [h1, h]; simp), fun h => HXx.out _ (by unfold usesI; rw [h2, h]; simp)⟩)
          obtain ⟨ra, hra⟩ : ∃ ra, ra = fA x.op := ⟨_, rfl⟩
          obtain ⟨rb, hrb⟩ : ∃ rb, rb = fB x.op := ⟨_, rfl⟩
          have HC3 := Lib.hid (HC2.out ra rb hra.symm hrb.symm)
          have hUA3 := Lib.hid (hUA.out ra rb hra.symm hrb.symm)
          rw [← hra, ← hrb] at HF1
          clear hra hrb hUA HC2 HXx
          generalize fD x.op = rd at *
          generalize fN x.op = rn at *
          generalize fT x.op = rt at *
          generalize fK x.op = rk at *
          have j0 : (0 : Int) ≤ (j : Int) := Int.natCast_nonneg _
          have j1 : (j : Int) < (p.code.length : Int) := by omega
          replace hcdl := Lib.hid hcdl
          go_wp2_with fail
          refine HF1.out.mono ?_
          rintro e w1 ⟨rfl, hbf⟩
          clear HF1 e0 y1 hob
          cases ra
          · cases rb
            · have hbn := below_new (w := w1) (.cells #[.bool rd, .bool false, .bool false, .bool rn, .bool rt] 118)
              have hbN := below_then hbf hbn
              have bf := heap_alloc_new w1 (.cells #[.bool rd, .bool false, .bool false, .bool rn, .bool rt] 118)
              obtain ⟨zf, _⟩ := cell_of_block bf
              have f1 : (w1.alloc (.cells #[.bool rd, .bool false, .bool false, .bool rn, .bool rt] 118)).cell? ⟨w1.heap.size, 1, none⟩ = some (.bool false) := (zf 1).trans rfl
              have f2 : (w1.alloc (.cells #[.bool rd, .bool false, .bool false, .bool rn, .bool rt] 118)).cell? ⟨w1.heap.size, 2, none⟩ = some (.bool false) := (zf 2).trans rfl
              have HS1 := HS.below hbN
              have hmw : mb < wi.heap.size := blk_lt HS.m
              have hszf := hbf.size
              clear zf hbn hbN hbf HS
              have hE : USt W4 (w1.alloc (.cells #[.bool rd, .bool false, .bool false, .bool rn, .bool rt] 118)) FO g s.parts.length c mb (cnt0 + uCodeN f p.code (j + 1)) (L.set k { p with code := uCode f p.code (j + 1) }) := by
                rw [HC3.out.1, HC3.out.2]
                have e : cd.set j { x with a := cond false (f j x.a) x.a, b := cond false (f j x.b) x.b } = cd := set_same hcdx
                rw [e]; exact HS1
              go_wp2_with fail
              go_roundw
              case rel => exact ⟨j + 1, by omega, by go_num, hE⟩
              case measure => simp [intOf]; omega
            · have hbn := below_new (w := w1) (.cells #[.bool rd, .bool false, .bool true, .bool rn, .bool rt] 118)
              have hbN := below_then hbf hbn
              have bf := heap_alloc_new w1 (.cells #[.bool rd, .bool false, .bool true, .bool rn, .bool rt] 118)
              obtain ⟨zf, _⟩ := cell_of_block bf
              have f1 : (w1.alloc (.cells #[.bool rd, .bool false, .bool true, .bool rn, .bool rt] 118)).cell? ⟨w1.heap.size, 1, none⟩ = some (.bool false) := (zf 1).trans rfl
              have f2 : (w1.alloc (.cells #[.bool rd, .bool false, .bool true, .bool rn, .bool rt] 118)).cell? ⟨w1.heap.size, 2, none⟩ = some (.bool true) := (zf 2).trans rfl
              have HS1 := HS.below hbN
              have hmw : mb < wi.heap.size := blk_lt HS.m
              have hszf := hbf.size
              clear zf hbn hbN hbf HS
              obtain ⟨gc1, cc1, y1, fl1, fr1, ne1, fo1, hA1, hB1⟩ := HS1.stepQ hmb (q := { p with code := cd }) (x := x) (get_set hkL) hcdx
              replace y1 : (w1.alloc (.cells #[.bool rd, .bool false, .bool true, .bool rn, .bool rt] 118)).cell? ⟨g, k * 6 + 1, none⟩ = some (.slice (some ⟨gc1, 0, none⟩) p.code.length cc1) := by rw [← hcdl.out]; have h := y1; simp only [List.length_set] at h; exact h
              have z1 := fl1.2.2.2.2.1
              have fz1 := fr1 (j * 6 + 4)
              have HB1 := Lib.hid (HBk.out j _ _ _ HS1 gc1 (j * 6 + 4) _ z1 fz1 (Ne.symm ne1) (by have := hcn2; omega) (hUA3.out.2 (by first | rfl | trivial)))
              have HR1 := Lib.hid hB1
              clear hA1 hB1 fr1 fl1 z1 fz1 
              go_wp2_with fail
              refine HB1.out.mono ?_
              rintro e wc1 hb1
              obtain ⟨rfl, S1, hC1⟩ := HR1.out _ _ _ hb1
              clear HB1 HR1 hb1 y1
              have hE : USt W4 wc1 FO g s.parts.length c mb (cnt0 + uCodeN f p.code (j + 1)) (L.set k { p with code := uCode f p.code (j + 1) }) := by
                rw [HC3.out.1, HC3.out.2]
                have h := S1
                rw [List.set_set] at h
                have e : (0 : Nat) + (if f j x.b = x.b then 0 else 1) = (if f j x.b = x.b then 0 else 1) := Nat.zero_add _
                show USt W4 wc1 FO g s.parts.length c mb (cn + (0 + (if f j x.b = x.b then 0 else 1))) _
                rw [e]
                exact h
              go_wp2_with fail
              go_roundw
              case rel => exact ⟨j + 1, by omega, by go_num, hE⟩
              case measure => simp [intOf]; omega
          · cases rb
            · have hbn := below_new (w := w1) (.cells #[.bool rd, .bool true, .bool false, .bool rn, .bool rt] 118)
              have hbN := below_then hbf hbn
              have bf := heap_alloc_new w1 (.cells #[.bool rd, .bool true, .bool false, .bool rn, .bool rt] 118)
              obtain ⟨zf, _⟩ := cell_of_block bf
              have f1 : (w1.alloc (.cells #[.bool rd, .bool true, .bool false, .bool rn, .bool rt] 118)).cell? ⟨w1.heap.size, 1, none⟩ = some (.bool true) := (zf 1).trans rfl
              have f2 : (w1.alloc (.cells #[.bool rd, .bool true, .bool false, .bool rn, .bool rt] 118)).cell? ⟨w1.heap.size, 2, none⟩ = some (.bool false) := (zf 2).trans rfl
              have HS1 := HS.below hbN
              have hmw : mb < wi.heap.size := blk_lt HS.m
              have hszf := hbf.size
              clear zf hbn hbN hbf HS
              obtain ⟨gc1, cc1, y1, fl1, fr1, ne1, fo1, hA1, hB1⟩ := HS1.stepQ hmb (q := { p with code := cd }) (x := x) (get_set hkL) hcdx
              replace y1 : (w1.alloc (.cells #[.bool rd, .bool true, .bool false, .bool rn, .bool rt] 118)).cell? ⟨g, k * 6 + 1, none⟩ = some (.slice (some ⟨gc1, 0, none⟩) p.code.length cc1) := by rw [← hcdl.out]; have h := y1; simp only [List.length_set] at h; exact h
              have z1 := fl1.2.2.2.1
              have fz1 := fr1 (j * 6 + 3)
              have HB1 := Lib.hid (HBk.out j _ _ _ HS1 gc1 (j * 6 + 3) _ z1 fz1 (Ne.symm ne1) (by have := hcn2; omega) (hUA3.out.1 (by first | rfl | trivial)))
              have HR1 := Lib.hid hA1
              clear hA1 hB1 fr1 fl1 z1 fz1 
              go_wp2_with fail
              refine HB1.out.mono ?_
              rintro e wc1 hb1
              obtain ⟨rfl, S1, hC1⟩ := HR1.out _ _ _ hb1
              clear HB1 HR1 hb1 y1
              have f2 := hC1.cell f2 (fun h => by rcases h with h | h; (have h : w1.heap.size = gc1 := h; have h2 := hFOl.out _ fo1; have h3 := hmbs.out; omega); (have h : w1.heap.size = mb := h; omega))
              have hE : USt W4 wc1 FO g s.parts.length c mb (cnt0 + uCodeN f p.code (j + 1)) (L.set k { p with code := uCode f p.code (j + 1) }) := by
                rw [HC3.out.1, HC3.out.2]
                have h := S1
                rw [List.set_set] at h
                exact h
              go_wp2_with fail
              go_roundw
              case rel => exact ⟨j + 1, by omega, by go_num, hE⟩
              case measure => simp [intOf]; omega
            · have hbn := below_new (w := w1) (.cells #[.bool rd, .bool true, .bool true, .bool rn, .bool rt] 118)
              have hbN := below_then hbf hbn
              have bf := heap_alloc_new w1 (.cells #[.bool rd, .bool true, .bool true, .bool rn, .bool rt] 118)
              obtain ⟨zf, _⟩ := cell_of_block bf
              have f1 : (w1.alloc (.cells #[.bool rd, .bool true, .bool true, .bool rn, .bool rt] 118)).cell? ⟨w1.heap.size, 1, none⟩ = some (.bool true) := (zf 1).trans rfl
              have f2 : (w1.alloc (.cells #[.bool rd, .bool true, .bool true, .bool rn, .bool rt] 118)).cell? ⟨w1.heap.size, 2, none⟩ = some (.bool true) := (zf 2).trans rfl
              have HS1 := HS.below hbN
              have hmw : mb < wi.heap.size := blk_lt HS.m
              have hszf := hbf.size
              clear zf hbn hbN hbf HS
              obtain ⟨gc1, cc1, y1, fl1, fr1, ne1, fo1, hA1, hB1⟩ := HS1.stepQ hmb (q := { p with code := cd }) (x := x) (get_set hkL) hcdx
              replace y1 : (w1.alloc (.cells #[.bool rd, .bool true, .bool true, .bool rn, .bool rt] 118)).cell? ⟨g, k * 6 + 1, none⟩ = some (.slice (some ⟨gc1, 0, none⟩) p.code.length cc1) := by rw [← hcdl.out]; have h := y1; simp only [List.length_set] at h; exact h
              have z1 := fl1.2.2.2.1
              have fz1 := fr1 (j * 6 + 3)
              have HB1 := Lib.hid (HBk.out j _ _ _ HS1 gc1 (j * 6 + 3) _ z1 fz1 (Ne.symm ne1) (by have := hcn2; omega) (hUA3.out.1 (by first | rfl | trivial)))
              have HR1 := Lib.hid hA1
              clear hA1 hB1 fr1 fl1 z1 fz1 
              go_wp2_with fail
              refine HB1.out.mono ?_
              rintro e wc1 hb1
              obtain ⟨rfl, S1, hC1⟩ := HR1.out _ _ _ hb1
              clear HB1 HR1 hb1 y1
              have f2 := hC1.cell f2 (fun h => by rcases h with h | h; (have h : w1.heap.size = gc1 := h; have h2 := hFOl.out _ fo1; have h3 := hmbs.out; omega); (have h : w1.heap.size = mb := h; omega))
              have S1 : USt W4 wc1 FO g s.parts.length c mb (cn + (if f j x.a = x.a then 0 else 1)) (L.set k { p with code := cd.set j { x with a := f j x.a } }) := by
                have h := S1
                rw [List.set_set] at h
                exact h
              have hcdx2 : (cd.set j { x with a := f j x.a })[j]? = some { x with a := f j x.a } := get_set (by rw [hcdl.out]; omega)
              have hc1b : (if f j x.a = x.a then 0 else 1) ≤ 1 := by split <;> omega
              clear f1
              obtain ⟨gc2, cc2, y2, fl2, fr2, ne2, fo2, hA2, hB2⟩ := S1.stepQ hmb (q := { p with code := cd.set j { x with a := f j x.a } }) (x := { x with a := f j x.a }) (get_set hkL) hcdx2
              replace y2 : (wc1).cell? ⟨g, k * 6 + 1, none⟩ = some (.slice (some ⟨gc2, 0, none⟩) p.code.length cc2) := by rw [← hcdl.out]; have h := y2; simp only [List.length_set] at h; exact h
              have z2 := fl2.2.2.2.2.1
              have fz2 := fr2 (j * 6 + 4)
              have HB2 := Lib.hid (HBk.out j _ _ _ S1 gc2 (j * 6 + 4) _ z2 fz2 (Ne.symm ne2) (by have := hc1b; omega) (hUA3.out.2 (by first | rfl | trivial)))
              have HR2 := Lib.hid hB2
              clear hA2 hB2 fr2 fl2 z2 fz2 
              go_wp2_with fail
              refine HB2.out.mono ?_
              rintro e wc2 hb2
              obtain ⟨rfl, S2, hC2⟩ := HR2.out _ _ _ hb2
              clear HB2 HR2 hb2 y2
              have hE : USt W4 wc2 FO g s.parts.length c mb (cnt0 + uCodeN f p.code (j + 1)) (L.set k { p with code := uCode f p.code (j + 1) }) := by
                rw [HC3.out.1, HC3.out.2]
                have h := S2
                rw [List.set_set] at h
                simp only [List.set_set] at h
                have e : cn + (cond true (cntV (f j) x.a) 0 + cond true (cntV (f j) x.b) 0) = cn + (if f j x.a = x.a then 0 else 1) + (if f j x.b = x.b then 0 else 1) := by show cn + (cntV (f j) x.a + cntV (f j) x.b) = _; unfold cntV; omega
                rw [e]
                exact h
              go_wp2_with fail
              go_roundw
              case rel => exact ⟨j + 1, by omega, by go_num, hE⟩
              case measure => simp [intOf]; omega
        · obtain rfl : j = p.code.length := by omega
          obtain ⟨cd, hcd⟩ : ∃ cd, cd = uCode f p.code p.code.length := ⟨_, rfl⟩
          obtain ⟨cn, hcn⟩ : ∃ cn, cn = cnt0 + uCodeN f p.code p.code.length := ⟨_, rfl⟩
          obtain ⟨f', hf'⟩ : ∃ f', f' = f p.code.length := ⟨_, rfl⟩
          have hcj := (hUc.out).2 p.code.length (Nat.le_refl _)
          have hcdl : Hid (cd.length = p.code.length) := Lib.hid (by rw [hcd]; exact uCode_len f p.code _)
          have HBt := Lib.hid (HBk.out p.code.length)
          have HEt : Hid (testB p.go = true → 0 ≤ p.test ∧ p.test < s.values) := Lib.hid (fun h => HEk.out _ (by unfold endsS; have h2 : (p.go == 2 || p.go == 5) = true := h; rw [h2]; simp))
          have HEa : Hid (∀ l ∈ p.args, ∀ v ∈ l, 0 ≤ v ∧ v < s.values) := Lib.hid (fun l hl v hv => HEk.out _ (by unfold endsS; exact List.mem_append.2 (.inr (List.mem_flatten.2 ⟨l, hl, hv⟩))))
          have HN2 : Hid (uAll (fU s) s.parts (k + 1) = L.set k { p with code := cd, test := cond (testB p.go) (f' p.test) p.test, args := uArgs f' p.args p.args.length } ∧ uAllN (fU s) s.parts (k + 1) = cn + cond (testB p.go) (if f' p.test = p.test then 0 else 1) 0 + uArgsN f' p.args p.args.length) := Lib.hid (by
            obtain ⟨e1, e2⟩ := HNx.out
            rw [e1, e2]
            unfold partUf partUc uTestB
            rw [hcd, hcn, hf']
            unfold cntV
            cases testB p.go
            · exact ⟨rfl, by show cnt0 + (uCodeN f p.code p.code.length + 0 + uArgsN _ _ _) = cnt0 + uCodeN f p.code p.code.length + 0 + uArgsN _ _ _; omega⟩
            · exact ⟨rfl, by show cnt0 + (uCodeN f p.code p.code.length + (if f p.code.length p.test = p.test then 0 else 1) + uArgsN _ _ _) = cnt0 + uCodeN f p.code p.code.length + (if f p.code.length p.test = p.test then 0 else 1) + uArgsN _ _ _; omega⟩)
          rw [← hcd, ← hcn] at HS
          rw [← hf'] at HBt
          have hcn2 : cn ≤ 50000 := by omega
          clear HNx HBk hcd hcn hf' hcj HEk
          obtain ⟨_, _, _, _, hpt, _, h2, _, _⟩ := HS.readQ (get_set hkL)
          obtain ⟨A2, c2, rfl, _⟩ := h2
          have x1 : wi.cell? ⟨g, k * 6 + 1, none⟩ = some (.slice A2 p.code.length c2) := by rw [← hcdl.out]; exact hpt.2.1
          have x2 := hpt.2.2.1
          have HTe : Hid ((p.go == 2 || p.go == 5) = testB p.go) := Lib.hid rfl
          have HT1 := Lib.hid (HTs.out p.go wi)
          rw [HTe.out] at HT1
          obtain ⟨rt, hrt⟩ : ∃ rt, rt = testB p.go := ⟨_, rfl⟩
          rw [← hrt] at HT1 HN2 HEt
          clear hpt hrt HTe
          go_wp2_with fail
          refine HT1.out.mono ?_
          rintro e w1 ⟨rfl, rfl⟩
          clear HT1 x2
          cases rt
          · clear x1
            obtain ⟨_, _, _, _, hpt, _, _, _, h4⟩ := HS.readQ (get_set hkL)
            obtain ⟨A4, c4, rfl, _⟩ := h4
            have x5 := hpt.2.2.2.2.2
            have hS3 : USt W4 wi FO g s.parts.length c mb (cn + uArgsN f' p.args 0) (L.set k { p with code := cd, args := uArgs f' p.args 0 }) := by
              rw [(uArgs_zero f' p.args).1, (uArgs_zero f' p.args).2]; exact HS
            have hX5 := Lib.hid x5
            clear hpt HS
            go_wp2_with fail
            clear x5
            go_loopw [105] (fun x wr => ∃ i : Nat, i ≤ p.args.length ∧ x = .int .i64 i ∧ USt W4 wr FO g s.parts.length c mb (cn + uArgsN f' p.args i) (L.set k { p with code := cd, args := uArgs f' p.args i }) ∧ Hid (wr.cell? ⟨g, k * 6 + 5, none⟩ = some (.slice A4 p.args.length c4))) (fun x _ => p.args.length - (intOf x).toNat)
            case atStart => exact ⟨0, Nat.zero_le _, rfl, hS3, hX5⟩
            case round =>
              clear hS3 hX5
              obtain ⟨i, hi, rfl, HS, HX5⟩ := hrel
              rename World => wa
              by_cases hit : i < p.args.length
              · obtain ⟨l, hle⟩ : ∃ l, l = p.args[i] := ⟨_, rfl⟩
                have hl : p.args[i]? = some l := by rw [hle, List.getElem?_eq_getElem hit]
                have hlm : l ∈ p.args := List.mem_of_getElem? hl
                have hl3 := hal2.out l hlm
                have HEl := Lib.hid (fun v (hv : v ∈ l) => HEa.out l hlm v hv)
                obtain ⟨st1, st2⟩ := uArgs_step f' p.args hit
                rw [← hle] at st1 st2
                have hcA : uArgsN f' p.args i ≤ 3000 := Nat.le_trans (uArgsN_le f' i hal2.out) (by have := Nat.mul_le_mul_right 300 hal; omega)
                obtain ⟨ag, hag⟩ : ∃ ag, ag = uArgs f' p.args i := ⟨_, rfl⟩
                obtain ⟨cn3, hcn3⟩ : ∃ cn3, cn3 = cn + uArgsN f' p.args i := ⟨_, rfl⟩
                have hagl : ag[i]? = some l := by rw [hag, uArgs_get f' p.args hit, hle]
                have hagn : Hid (ag.length = p.args.length) := Lib.hid (by rw [hag]; exact uArgs_len f' p.args (by omega))
                have hnx : Hid (uArgs f' p.args (i + 1) = ag.set i (l.map f') ∧ cn + uArgsN f' p.args (i + 1) = cn3 + uRowN f' l l.length) := Lib.hid (by rw [st1, st2, hag, hcn3]; exact ⟨rfl, by omega⟩)
                rw [← hag, ← hcn3] at HS
                have hcn4 : cn3 ≤ 60000 := by omega
                clear st1 st2 hag hcn3 hle hlm hl
                obtain ⟨ga, ca, u, xa, xu, ⟨Au, cu, hue⟩, hFg, hFga, hgag, _⟩ := HS.argQ hmb (get_set hkL) hagl
                have hA4 := Option.some.inj (xa.symm.trans (by rw [show ({ p with code := cd, args := ag } : Pt).args.length = p.args.length from hagn.out]; exact HX5.out : wa.cell? ⟨g, k * 6 + 5, none⟩ = some (.slice A4 ({ p with code := cd, args := ag } : Pt).args.length c4)))
                injection hA4 with hA4 hlen hc4
                clear hlen
                subst hA4
                subst hc4
                subst hue
                have i0 : (0 : Int) ≤ (i : Int) := Int.natCast_nonneg _
                have i1 : (i : Int) < (p.args.length : Int) := by omega
                have HXu := Lib.hid xu
                have hS4 : USt W4 wa FO g s.parts.length c mb (cn3 + uRowN f' l 0) (L.set k { p with code := cd, args := ag.set i (uRow f' l 0) }) := by
                  rw [(uRow_zero f' l).1, (uRow_zero f' l).2, set_same hagl]; exact HS
                clear xa HS
                go_wp2_with fail
                clear xu
                go_loopw [111] (fun x wr => ∃ j : Nat, j ≤ l.length ∧ x = .int .i64 j ∧ USt W4 wr FO g s.parts.length c mb (cn3 + uRowN f' l j) (L.set k { p with code := cd, args := ag.set i (uRow f' l j) }) ∧ Hid (wr.cell? ⟨g, k * 6 + 5, none⟩ = some (.slice (some ⟨ga, 0, none⟩) p.args.length ca)) ∧ Hid (wr.cell? ⟨ga, i, none⟩ = some (.slice Au l.length cu))) (fun x _ => l.length - (intOf x).toNat)
                case atStart => exact ⟨0, Nat.zero_le _, rfl, hS4, HX5, HXu⟩
                case round =>
                  clear hS4 HX5 HXu
                  obtain ⟨j, hj, rfl, HS, HX5, HXu⟩ := hrel
                  rename World => wb
                  by_cases hjt : j < l.length
                  · have hvr := HEl.out l[j] (List.getElem_mem hjt)
                    obtain ⟨st1, st2⟩ := uRow_step f' l hjt
                    have hrl := uRow_len f' l (Nat.le_of_lt hjt)
                    have hrg := uRow_get f' l hjt
                    have hcR := uRowN_le f' l j
                    obtain ⟨rw_, hrw⟩ : ∃ rw_, rw_ = uRow f' l j := ⟨_, rfl⟩
                    obtain ⟨v, hve⟩ : ∃ v, v = l[j] := ⟨_, rfl⟩
                    rw [← hrw] at hrl hrg st1
                    rw [← hve] at hvr hrg st1 st2
                    have hnx2 : Hid (uRow f' l (j + 1) = rw_.set j (f' v) ∧ cn3 + uRowN f' l (j + 1) = cn3 + uRowN f' l j + (if f' v = v then 0 else 1)) := Lib.hid ⟨st1, by rw [st2]; unfold cntV; omega⟩
                    obtain ⟨cn5, hcn5⟩ : ∃ cn5, cn5 = cn3 + uRowN f' l j := ⟨_, rfl⟩
                    rw [← hcn5] at hnx2
                    rw [← hrw, ← hcn5] at HS
                    have hcn6 : cn5 ≤ 70000 := by omega
                    clear st1 st2 hrw hcn5 hcR hve
                    have HSd := HS.below (below_drew (Below.refl _ _))
                    have hil : i < ag.length := by rw [hagn.out]; exact hit
                    obtain ⟨ga', ca', u', xa, xu, _, _, _, _, hJ⟩ := HSd.argQ hmb (get_set hkL) (get_set hil)
                    have hga' := Option.some.inj (xa.symm.trans (by rw [show ({ p with code := cd, args := ag.set i rw_ } : Pt).args.length = p.args.length from by show (ag.set i rw_).length = _; rw [List.length_set]; exact hagn.out]; exact HX5.out : wb.drew.cell? ⟨g, k * 6 + 5, none⟩ = some (.slice (some ⟨ga, 0, none⟩) ({ p with code := cd, args := ag.set i rw_ } : Pt).args.length ca)))
                    injection hga' with hga' hlen hca'
                    clear hlen hca'
                    injection hga' with hga'
                    injection hga' with hga'
                    subst hga'
                    have hu' := Option.some.inj (xu.symm.trans HXu.out)
                    subst hu'
                    obtain ⟨gu, cu', hue, cj, fju, neu, neg_, nega, hR⟩ := hJ j (by rw [hrl]; exact hjt)
                    injection hue with hAu hlen hcu
                    clear hlen
                    subst hAu
                    subst hcu
                    have hrj : rw_[j]'(by rw [hrl]; exact hjt) = v := by
                      rw [List.getElem?_eq_getElem (by rw [hrl]; exact hjt)] at hrg
                      exact Option.some.inj hrg
                    rw [hrj] at cj hR
                    obtain ⟨_, _, _, _, hpt, _, h2, _, _⟩ := HS.readQ (get_set hkL)
                    obtain ⟨A2, c2, rfl, _⟩ := h2
                    have x1 : wb.cell? ⟨g, k * 6 + 1, none⟩ = some (.slice A2 p.code.length c2) := by rw [← hcdl.out]; exact hpt.2.1
                    have HBd := Lib.hid (HBt.out _ _ _ HSd gu j v cj (fju j) (Ne.symm neu) (by omega) hvr)
                    have HRr := Lib.hid hR
                    have j0 : (0 : Int) ≤ (j : Int) := Int.natCast_nonneg _
                    have j1 : (j : Int) < (l.length : Int) := by omega
                    have hX5' := Lib.hid xa
                    have hXu' := Lib.hid xu
                    replace hrl := Lib.hid hrl
                    clear hpt hR cj fju xa xu hrg hrj hJ HSd HS
                    go_upto_region 25 with fail
                    refine anyT_region [(9, fun w' => w'.cell? ⟨g, k * 6 + 1, none⟩ = some (.slice A2 p.code.length c2))] (by kernel_rfl) ⟨fun _ => x1, trivial⟩ (fun hT => ?_)
                    refine anyT_pure (i := 0) (v := ?_) rfl (by kernel_rfl) (by kernel_rfl) (by kernel_rfl) (fun _ _ _ h => h) (Or.inl ⟨by rfl, ?_⟩) (by assumption) ?_
                    rotate_left 1
                    focus ((intro w hSw; (try dsimp only at hSw); go_simp); try with_reducible rfl)
                    try simp only [Act.put, Array.getInternal_eq_getElem, List.getElem_toArray, List.getElem_cons_zero, List.getElem_cons_succ, List.setIfInBounds_toArray, List.set_cons_zero, List.set_cons_succ]
                    refine anyT_pure (i := 1) (v := ?_) rfl (by kernel_rfl) (by kernel_rfl) (by kernel_rfl) (fun _ _ _ h => h) (Or.inl ⟨by rfl, ?_⟩) (by assumption) ?_
                    rotate_left 1
                    focus ((intro w hSw; (try dsimp only at hSw); go_simp); try with_reducible rfl)
                    try simp only [Act.put, Array.getInternal_eq_getElem, List.getElem_toArray, List.getElem_cons_zero, List.getElem_cons_succ, List.setIfInBounds_toArray, List.set_cons_zero, List.set_cons_succ]
                    refine anyT_pure (i := 2) (v := ?_) rfl (by kernel_rfl) (by kernel_rfl) (by kernel_rfl) (fun _ _ _ h => h) (Or.inl ⟨by rfl, ?_⟩) (by assumption) ?_
                    rotate_left 1
                    focus ((intro w hSw; (try dsimp only at hSw); go_simp); try with_reducible rfl)
                    try simp only [Act.put, Array.getInternal_eq_getElem, List.getElem_toArray, List.getElem_cons_zero, List.getElem_cons_succ, List.setIfInBounds_toArray, List.set_cons_zero, List.set_cons_succ]
                    refine anyT_pure (i := 4) (v := ?_) rfl (by kernel_rfl) (by kernel_rfl) (by kernel_rfl) (fun _ _ _ h => h) (Or.inl ⟨by rfl, ?_⟩) (by assumption) ?_
                    rotate_left 1
                    focus ((intro w hSw; (try dsimp only at hSw); go_simp); try with_reducible rfl)
                    try simp only [Act.put, Array.getInternal_eq_getElem, List.getElem_toArray, List.getElem_cons_zero, List.getElem_cons_succ, List.setIfInBounds_toArray, List.set_cons_zero, List.set_cons_succ]
                    refine anyT_pure (i := 5) (v := ?_) rfl (by kernel_rfl) (by kernel_rfl) (by kernel_rfl) (fun _ _ _ h => h) (Or.inl ⟨by rfl, ?_⟩) (by assumption) ?_
                    rotate_left 1
                    focus ((intro w hSw; (try dsimp only at hSw); go_simp); try with_reducible rfl)
                    try simp only [Act.put, Array.getInternal_eq_getElem, List.getElem_toArray, List.getElem_cons_zero, List.getElem_cons_succ, List.setIfInBounds_toArray, List.set_cons_zero, List.set_cons_succ]
                    refine anyT_pure (i := 3) (v := ?_) rfl (by kernel_rfl) (by kernel_rfl) (by kernel_rfl) (fun _ _ _ h => h) (Or.inl ⟨by rfl, ?_⟩) (by assumption) ?_
                    rotate_left 1
                    focus ((intro w hSw; (try dsimp only at hSw); go_simp); try with_reducible rfl)
                    try simp only [Act.put, Array.getInternal_eq_getElem, List.getElem_toArray, List.getElem_cons_zero, List.getElem_cons_succ, List.setIfInBounds_toArray, List.set_cons_zero, List.set_cons_succ]
                    refine anyT_pure (i := 6) (v := ?_) rfl (by kernel_rfl) (by kernel_rfl) (by kernel_rfl) (fun _ _ _ h => h) (Or.inl ⟨by rfl, ?_⟩) (by assumption) ?_
                    rotate_left 1
                    focus ((intro w hSw; (try dsimp only at hSw); go_simp); try with_reducible rfl)
                    try simp only [Act.put, Array.getInternal_eq_getElem, List.getElem_toArray, List.getElem_cons_zero, List.getElem_cons_succ, List.setIfInBounds_toArray, List.set_cons_zero, List.set_cons_succ]
                    refine anyT_pure (i := 7) (v := ?_) rfl (by kernel_rfl) (by kernel_rfl) (by kernel_rfl) (fun _ _ _ h => h) (Or.inl ⟨by rfl, ?_⟩) (by assumption) ?_
                    rotate_left 1
                    focus ((intro w hSw; (try dsimp only at hSw); go_simp); try with_reducible rfl)
                    try simp only [Act.put, Array.getInternal_eq_getElem, List.getElem_toArray, List.getElem_cons_zero, List.getElem_cons_succ, List.setIfInBounds_toArray, List.set_cons_zero, List.set_cons_succ]
                    refine anyT_take (k := 0) (i := 8) (v := ?_) rfl rfl (by kernel_rfl) (by kernel_rfl) (by kernel_rfl) (fun _ _ _ h => h) (Or.inl ⟨by rfl, ?_⟩) (by assumption) ?_
                    rotate_left 1
                    focus ((intro w hSw; (try dsimp only at hSw); go_simp); try with_reducible rfl)
                    try simp only [Act.put, Array.getInternal_eq_getElem, List.getElem_toArray, List.getElem_cons_zero, List.getElem_cons_succ, List.setIfInBounds_toArray, List.set_cons_zero, List.set_cons_succ]
                    refine anyT_ready (rs := [9]) (by kernel_rfl) (by simp) ?_
                    refine AllT.cons rfl (fun K1 hK1 => ?_) AllT.nil
                    try simp only [Array.getInternal_eq_getElem, List.getElem_toArray, List.getElem_cons_zero, List.getElem_cons_succ]
                    go_simp
                    refine hK1.out _ _ ⟨fun h => absurd h (by simp), trivial⟩ (fun hT => ?_)
                    clear hK1 K1
                    try simp only [Act.put, Array.getInternal_eq_getElem, List.getElem_toArray, List.getElem_cons_zero, List.getElem_cons_succ, List.setIfInBounds_toArray, List.set_cons_zero, List.set_cons_succ]
                    refine anyT_ready (rs := [10]) (by kernel_rfl) (by simp) ?_
                    refine AllT.cons rfl (fun K1 hK1 => ?_) AllT.nil
                    try simp only [Array.getInternal_eq_getElem, List.getElem_toArray, List.getElem_cons_zero, List.getElem_cons_succ]
                    go_simp
                    refine HBd.out.mono ?_
                    rintro e wc hb
                    obtain ⟨rfl, S6, hC6⟩ := HRr.out _ _ _ hb
                    have HX5n : Hid (wc.cell? ⟨g, k * 6 + 5, none⟩ = some (.slice (some ⟨ga', 0, none⟩) p.args.length ca)) := Lib.hid (hC6.cell (show wb.drew.cell? _ = _ from HX5.out) (fun h => by rcases h with h | h; exact neg_ (by have h : g = gu := h; exact h.symm); (have h : g = mb := h; exact hmb (h ▸ hFg))))
                    have HXun : Hid (wc.cell? ⟨ga', i, none⟩ = some (.slice (some ⟨gu, 0, none⟩) l.length cu)) := Lib.hid (hC6.cell (show wb.drew.cell? _ = _ from HXu.out) (fun h => by rcases h with h | h; exact nega (by have h : ga' = gu := h; exact h.symm); (have h : ga' = mb := h; exact hmb (h ▸ hFga))))
                    have hE : USt W4 wc FO g s.parts.length c mb (cn3 + uRowN f' l (j + 1)) (L.set k { p with code := cd, args := ag.set i (uRow f' l (j + 1)) }) := by
                      rw [hnx2.out.1, hnx2.out.2]
                      have h := S6
                      rw [List.set_set] at h
                      simp only [List.set_set] at h
                      exact h
                    refine hK1.out _ _ ⟨fun h => absurd h (by simp), trivial⟩ (fun hT => ?_)
                    clear hK1 K1 HBd HRr hb S6 hC6
                    try simp only [Act.put, Array.getInternal_eq_getElem, List.getElem_toArray, List.getElem_cons_zero, List.getElem_cons_succ, List.setIfInBounds_toArray, List.set_cons_zero, List.set_cons_succ]
                    refine anyT_done (by kernel_rfl) ?_ _
                    go_wp2_with fail
                    go_roundw
                    case rel => exact ⟨j + 1, by omega, by go_num, hE, HX5n, HXun⟩
                    case measure => simp [intOf]; omega
                  · obtain rfl : j = l.length := by omega
                    have hE : USt W4 wb FO g s.parts.length c mb (cn + uArgsN f' p.args (i + 1)) (L.set k { p with code := cd, args := uArgs f' p.args (i + 1) }) := by
                      rw [hnx.out.1, hnx.out.2, ← uRow_all]; exact HS
                    go_wp2_with fail
                    go_roundw
                    case rel => exact ⟨i + 1, by omega, by go_num, hE, HX5⟩
                    case measure => simp [intOf]; omega
              · obtain rfl : i = p.args.length := by omega
                have hE : USt W4 wa FO g s.parts.length c mb (uAllN (fU s) s.parts (k + 1)) (uAll (fU s) s.parts (k + 1)) := by
                  rw [HN2.out.1, HN2.out.2]; exact HS
                go_wp2_with fail
                go_roundw
                case rel => exact ⟨k + 1, by omega, by go_num, hE⟩
                case measure => simp [intOf]; omega
          · have HSd := HS.below (below_drew (Below.refl _ _))
            obtain ⟨xt, frt, net, hR⟩ := HSd.testQ hmb (get_set hkL)
            have HBd := Lib.hid (HBt.out _ _ _ HSd g (k * 6 + 3) p.test xt (frt _) (Ne.symm net) (by omega) (HEt.out (by first | rfl | trivial)))
            have HRr := Lib.hid hR
            have hcb : (if f' p.test = p.test then 0 else 1) ≤ 1 := by split <;> omega
            clear hR xt frt HSd HS
            go_upto_region 18 with fail
            refine anyT_region [(9, fun w' => w'.cell? ⟨g, k * 6 + 1, none⟩ = some (.slice A2 p.code.length c2))] (by kernel_rfl) ⟨fun _ => x1, trivial⟩ (fun hT => ?_)
            refine anyT_pure (i := 0) (v := ?_) rfl (by kernel_rfl) (by kernel_rfl) (by kernel_rfl) (fun _ _ _ h => h) (Or.inl ⟨by rfl, ?_⟩) (by assumption) ?_
            rotate_left 1
            focus ((intro w hSw; (try dsimp only at hSw); go_simp); try with_reducible rfl)
            try simp only [Act.put, Array.getInternal_eq_getElem, List.getElem_toArray, List.getElem_cons_zero, List.getElem_cons_succ, List.setIfInBounds_toArray, List.set_cons_zero, List.set_cons_succ]
            refine anyT_pure (i := 1) (v := ?_) rfl (by kernel_rfl) (by kernel_rfl) (by kernel_rfl) (fun _ _ _ h => h) (Or.inl ⟨by rfl, ?_⟩) (by assumption) ?_
            rotate_left 1
            focus ((intro w hSw; (try dsimp only at hSw); go_simp); try with_reducible rfl)
            try simp only [Act.put, Array.getInternal_eq_getElem, List.getElem_toArray, List.getElem_cons_zero, List.getElem_cons_succ, List.setIfInBounds_toArray, List.set_cons_zero, List.set_cons_succ]
            refine anyT_pure (i := 4) (v := ?_) rfl (by kernel_rfl) (by kernel_rfl) (by kernel_rfl) (fun _ _ _ h => h) (Or.inl ⟨by rfl, ?_⟩) (by assumption) ?_
            rotate_left 1
            focus ((intro w hSw; (try dsimp only at hSw); go_simp); try with_reducible rfl)
            try simp only [Act.put, Array.getInternal_eq_getElem, List.getElem_toArray, List.getElem_cons_zero, List.getElem_cons_succ, List.setIfInBounds_toArray, List.set_cons_zero, List.set_cons_succ]
            refine anyT_pure (i := 5) (v := ?_) rfl (by kernel_rfl) (by kernel_rfl) (by kernel_rfl) (fun _ _ _ h => h) (Or.inl ⟨by rfl, ?_⟩) (by assumption) ?_
            rotate_left 1
            focus ((intro w hSw; (try dsimp only at hSw); go_simp); try with_reducible rfl)
            try simp only [Act.put, Array.getInternal_eq_getElem, List.getElem_toArray, List.getElem_cons_zero, List.getElem_cons_succ, List.setIfInBounds_toArray, List.set_cons_zero, List.set_cons_succ]
            refine anyT_pure (i := 2) (v := ?_) rfl (by kernel_rfl) (by kernel_rfl) (by kernel_rfl) (fun _ _ _ h => h) (Or.inl ⟨by rfl, ?_⟩) (by assumption) ?_
            rotate_left 1
            focus ((intro w hSw; (try dsimp only at hSw); go_simp); try with_reducible rfl)
            try simp only [Act.put, Array.getInternal_eq_getElem, List.getElem_toArray, List.getElem_cons_zero, List.getElem_cons_succ, List.setIfInBounds_toArray, List.set_cons_zero, List.set_cons_succ]
            refine anyT_pure (i := 3) (v := ?_) rfl (by kernel_rfl) (by kernel_rfl) (by kernel_rfl) (fun _ _ _ h => h) (Or.inl ⟨by rfl, ?_⟩) (by assumption) ?_
            rotate_left 1
            focus ((intro w hSw; (try dsimp only at hSw); go_simp); try with_reducible rfl)
            try simp only [Act.put, Array.getInternal_eq_getElem, List.getElem_toArray, List.getElem_cons_zero, List.getElem_cons_succ, List.setIfInBounds_toArray, List.set_cons_zero, List.set_cons_succ]
            refine anyT_pure (i := 6) (v := ?_) rfl (by kernel_rfl) (by kernel_rfl) (by kernel_rfl) (fun _ _ _ h => h) (Or.inl ⟨by rfl, ?_⟩) (by assumption) ?_
            rotate_left 1
            focus ((intro w hSw; (try dsimp only at hSw); go_simp); try with_reducible rfl)
            try simp only [Act.put, Array.getInternal_eq_getElem, List.getElem_toArray, List.getElem_cons_zero, List.getElem_cons_succ, List.setIfInBounds_toArray, List.set_cons_zero, List.set_cons_succ]
            refine anyT_pure (i := 7) (v := ?_) rfl (by kernel_rfl) (by kernel_rfl) (by kernel_rfl) (fun _ _ _ h => h) (Or.inl ⟨by rfl, ?_⟩) (by assumption) ?_
            rotate_left 1
            focus ((intro w hSw; (try dsimp only at hSw); go_simp); try with_reducible rfl)
            try simp only [Act.put, Array.getInternal_eq_getElem, List.getElem_toArray, List.getElem_cons_zero, List.getElem_cons_succ, List.setIfInBounds_toArray, List.set_cons_zero, List.set_cons_succ]
            refine anyT_take (k := 0) (i := 8) (v := ?_) rfl rfl (by kernel_rfl) (by kernel_rfl) (by kernel_rfl) (fun _ _ _ h => h) (Or.inl ⟨by rfl, ?_⟩) (by assumption) ?_
            rotate_left 1
            focus ((intro w hSw; (try dsimp only at hSw); go_simp); try with_reducible rfl)
            try simp only [Act.put, Array.getInternal_eq_getElem, List.getElem_toArray, List.getElem_cons_zero, List.getElem_cons_succ, List.setIfInBounds_toArray, List.set_cons_zero, List.set_cons_succ]
            refine anyT_ready (rs := [9]) (by kernel_rfl) (by simp) ?_
            refine AllT.cons rfl (fun K1 hK1 => ?_) AllT.nil
            try simp only [Array.getInternal_eq_getElem, List.getElem_toArray, List.getElem_cons_zero, List.getElem_cons_succ]
            go_simp
            refine hK1.out _ _ ⟨fun h => absurd h (by simp), trivial⟩ (fun hT => ?_)
            clear hK1 K1
            try simp only [Act.put, Array.getInternal_eq_getElem, List.getElem_toArray, List.getElem_cons_zero, List.getElem_cons_succ, List.setIfInBounds_toArray, List.set_cons_zero, List.set_cons_succ]
            refine anyT_ready (rs := [10]) (by kernel_rfl) (by simp) ?_
            refine AllT.cons rfl (fun K1 hK1 => ?_) AllT.nil
            try simp only [Array.getInternal_eq_getElem, List.getElem_toArray, List.getElem_cons_zero, List.getElem_cons_succ]
            go_simp
            refine HBd.out.mono ?_
            rintro e wt hb
            obtain ⟨rfl, S5, hC5⟩ := HRr.out _ _ _ hb
            refine hK1.out _ _ ⟨fun h => absurd h (by simp), trivial⟩ (fun hT => ?_)
            clear hK1 K1 HBd HRr hb hC5 x1
            try simp only [Act.put, Array.getInternal_eq_getElem, List.getElem_toArray, List.getElem_cons_zero, List.getElem_cons_succ, List.setIfInBounds_toArray, List.set_cons_zero, List.set_cons_succ]
            refine anyT_done (by kernel_rfl) ?_ _
            have S5 : USt W4 wt FO g s.parts.length c mb (cn + (if f' p.test = p.test then 0 else 1)) (L.set k { p with code := cd, test := f' p.test }) := by
              have h := S5
              rw [List.set_set] at h
              exact h
            obtain ⟨_, _, _, _, hpt, _, _, _, h4⟩ := S5.readQ (get_set hkL)
            obtain ⟨A4, c4, rfl, _⟩ := h4
            have x5 := hpt.2.2.2.2.2
            have hS3 : USt W4 wt FO g s.parts.length c mb (cn + (if f' p.test = p.test then 0 else 1) + uArgsN f' p.args 0) (L.set k { p with code := cd, test := f' p.test, args := uArgs f' p.args 0 }) := by
              rw [(uArgs_zero f' p.args).1, (uArgs_zero f' p.args).2]; exact S5
            have hX5 := Lib.hid x5
            clear hpt S5
            go_wp2_with fail
            clear x5
            go_loopw [105] (fun x wr => ∃ i : Nat, i ≤ p.args.length ∧ x = .int .i64 i ∧ USt W4 wr FO g s.parts.length c mb (cn + (if f' p.test = p.test then 0 else 1) + uArgsN f' p.args i) (L.set k { p with code := cd, test := f' p.test, args := uArgs f' p.args i }) ∧ Hid (wr.cell? ⟨g, k * 6 + 5, none⟩ = some (.slice A4 p.args.length c4))) (fun x _ => p.args.length - (intOf x).toNat)
            case atStart => exact ⟨0, Nat.zero_le _, rfl, hS3, hX5⟩
            case round =>
              clear hS3 hX5
              obtain ⟨i, hi, rfl, HS, HX5⟩ := hrel
              rename World => wa
              by_cases hit : i < p.args.length
              · obtain ⟨l, hle⟩ : ∃ l, l = p.args[i] := ⟨_, rfl⟩
                have hl : p.args[i]? = some l := by rw [hle, List.getElem?_eq_getElem hit]
                have hlm : l ∈ p.args := List.mem_of_getElem? hl
                have hl3 := hal2.out l hlm
                have HEl := Lib.hid (fun v (hv : v ∈ l) => HEa.out l hlm v hv)
                obtain ⟨st1, st2⟩ := uArgs_step f' p.args hit
                rw [← hle] at st1 st2
                have hcA : uArgsN f' p.args i ≤ 3000 := Nat.le_trans (uArgsN_le f' i hal2.out) (by have := Nat.mul_le_mul_right 300 hal; omega)
                obtain ⟨ag, hag⟩ : ∃ ag, ag = uArgs f' p.args i := ⟨_, rfl⟩
                obtain ⟨cn3, hcn3⟩ : ∃ cn3, cn3 = cn + (if f' p.test = p.test then 0 else 1) + uArgsN f' p.args i := ⟨_, rfl⟩
                have hagl : ag[i]? = some l := by rw [hag, uArgs_get f' p.args hit, hle]
                have hagn : Hid (ag.length = p.args.length) := Lib.hid (by rw [hag]; exact uArgs_len f' p.args (by omega))
                have hnx : Hid (uArgs f' p.args (i + 1) = ag.set i (l.map f') ∧ cn + (if f' p.test = p.test then 0 else 1) + uArgsN f' p.args (i + 1) = cn3 + uRowN f' l l.length) := Lib.hid (by rw [st1, st2, hag, hcn3]; exact ⟨rfl, by omega⟩)
                rw [← hag, ← hcn3] at HS
                have hcn4 : cn3 ≤ 60000 := by omega
                clear st1 st2 hag hcn3 hle hlm hl
                obtain ⟨ga, ca, u, xa, xu, ⟨Au, cu, hue⟩, hFg, hFga, hgag, _⟩ := HS.argQ hmb (get_set hkL) hagl
                have hA4 := Option.some.inj (xa.symm.trans (by rw [show ({ p with code := cd, test := f' p.test, args := ag } : Pt).args.length = p.args.length from hagn.out]; exact HX5.out : wa.cell? ⟨g, k * 6 + 5, none⟩ = some (.slice A4 ({ p with code := cd, test := f' p.test, args := ag } : Pt).args.length c4)))
                injection hA4 with hA4 hlen hc4
                clear hlen
                subst hA4
                subst hc4
                subst hue
                have i0 : (0 : Int) ≤ (i : Int) := Int.natCast_nonneg _
                have i1 : (i : Int) < (p.args.length : Int) := by omega
                have HXu := Lib.hid xu
                have hS4 : USt W4 wa FO g s.parts.length c mb (cn3 + uRowN f' l 0) (L.set k { p with code := cd, test := f' p.test, args := ag.set i (uRow f' l 0) }) := by
                  rw [(uRow_zero f' l).1, (uRow_zero f' l).2, set_same hagl]; exact HS
                clear xa HS
                go_wp2_with fail
                clear xu
                go_loopw [111] (fun x wr => ∃ j : Nat, j ≤ l.length ∧ x = .int .i64 j ∧ USt W4 wr FO g s.parts.length c mb (cn3 + uRowN f' l j) (L.set k { p with code := cd, test := f' p.test, args := ag.set i (uRow f' l j) }) ∧ Hid (wr.cell? ⟨g, k * 6 + 5, none⟩ = some (.slice (some ⟨ga, 0, none⟩) p.args.length ca)) ∧ Hid (wr.cell? ⟨ga, i, none⟩ = some (.slice Au l.length cu))) (fun x _ => l.length - (intOf x).toNat)
                case atStart => exact ⟨0, Nat.zero_le _, rfl, hS4, HX5, HXu⟩
                case round =>
                  clear hS4 HX5 HXu
                  obtain ⟨j, hj, rfl, HS, HX5, HXu⟩ := hrel
                  rename World => wb
                  by_cases hjt : j < l.length
                  · have hvr := HEl.out l[j] (List.getElem_mem hjt)
                    obtain ⟨st1, st2⟩ := uRow_step f' l hjt
                    have hrl := uRow_len f' l (Nat.le_of_lt hjt)
                    have hrg := uRow_get f' l hjt
                    have hcR := uRowN_le f' l j
                    obtain ⟨rw_, hrw⟩ : ∃ rw_, rw_ = uRow f' l j := ⟨_, rfl⟩
                    obtain ⟨v, hve⟩ : ∃ v, v = l[j] := ⟨_, rfl⟩
                    rw [← hrw] at hrl hrg st1
                    rw [← hve] at hvr hrg st1 st2
                    have hnx2 : Hid (uRow f' l (j + 1) = rw_.set j (f' v) ∧ cn3 + uRowN f' l (j + 1) = cn3 + uRowN f' l j + (if f' v = v then 0 else 1)) := Lib.hid ⟨st1, by rw [st2]; unfold cntV; omega⟩
                    obtain ⟨cn5, hcn5⟩ : ∃ cn5, cn5 = cn3 + uRowN f' l j := ⟨_, rfl⟩
                    rw [← hcn5] at hnx2
                    rw [← hrw, ← hcn5] at HS
                    have hcn6 : cn5 ≤ 70000 := by omega
                    clear st1 st2 hrw hcn5 hcR hve
                    have HSd := HS.below (below_drew (Below.refl _ _))
                    have hil : i < ag.length := by rw [hagn.out]; exact hit
                    obtain ⟨ga', ca', u', xa, xu, _, _, _, _, hJ⟩ := HSd.argQ hmb (get_set hkL) (get_set hil)
                    have hga' := Option.some.inj (xa.symm.trans (by rw [show ({ p with code := cd, test := f' p.test, args := ag.set i rw_ } : Pt).args.length = p.args.length from by show (ag.set i rw_).length = _; rw [List.length_set]; exact hagn.out]; exact HX5.out : wb.drew.cell? ⟨g, k * 6 + 5, none⟩ = some (.slice (some ⟨ga, 0, none⟩) ({ p with code := cd, test := f' p.test, args := ag.set i rw_ } : Pt).args.length ca)))
                    injection hga' with hga' hlen hca'
                    clear hlen hca'
                    injection hga' with hga'
                    injection hga' with hga'
                    subst hga'
                    have hu' := Option.some.inj (xu.symm.trans HXu.out)
                    subst hu'
                    obtain ⟨gu, cu', hue, cj, fju, neu, neg_, nega, hR⟩ := hJ j (by rw [hrl]; exact hjt)
                    injection hue with hAu hlen hcu
                    clear hlen
                    subst hAu
                    subst hcu
                    have hrj : rw_[j]'(by rw [hrl]; exact hjt) = v := by
                      rw [List.getElem?_eq_getElem (by rw [hrl]; exact hjt)] at hrg
                      exact Option.some.inj hrg
                    rw [hrj] at cj hR
                    obtain ⟨_, _, _, _, hpt, _, h2, _, _⟩ := HS.readQ (get_set hkL)
                    obtain ⟨A2, c2, rfl, _⟩ := h2
                    have x1 : wb.cell? ⟨g, k * 6 + 1, none⟩ = some (.slice A2 p.code.length c2) := by rw [← hcdl.out]; exact hpt.2.1
                    have HBd := Lib.hid (HBt.out _ _ _ HSd gu j v cj (fju j) (Ne.symm neu) (by omega) hvr)
                    have HRr := Lib.hid hR
                    have j0 : (0 : Int) ≤ (j : Int) := Int.natCast_nonneg _
                    have j1 : (j : Int) < (l.length : Int) := by omega
                    have hX5' := Lib.hid xa
                    have hXu' := Lib.hid xu
                    replace hrl := Lib.hid hrl
                    clear hpt hR cj fju xa xu hrg hrj hJ HSd HS
                    go_upto_region 25 with fail
                    refine anyT_region [(9, fun w' => w'.cell? ⟨g, k * 6 + 1, none⟩ = some (.slice A2 p.code.length c2))] (by kernel_rfl) ⟨fun _ => x1, trivial⟩ (fun hT => ?_)
                    refine anyT_pure (i := 0) (v := ?_) rfl (by kernel_rfl) (by kernel_rfl) (by kernel_rfl) (fun _ _ _ h => h) (Or.inl ⟨by rfl, ?_⟩) (by assumption) ?_
                    rotate_left 1
                    focus ((intro w hSw; (try dsimp only at hSw); go_simp); try with_reducible rfl)
                    try simp only [Act.put, Array.getInternal_eq_getElem, List.getElem_toArray, List.getElem_cons_zero, List.getElem_cons_succ, List.setIfInBounds_toArray, List.set_cons_zero, List.set_cons_succ]
                    refine anyT_pure (i := 1) (v := ?_) rfl (by kernel_rfl) (by kernel_rfl) (by kernel_rfl) (fun _ _ _ h => h) (Or.inl ⟨by rfl, ?_⟩) (by assumption) ?_
                    rotate_left 1
                    focus ((intro w hSw; (try dsimp only at hSw); go_simp); try with_reducible rfl)
                    try simp only [Act.put, Array.getInternal_eq_getElem, List.getElem_toArray, List.getElem_cons_zero, List.getElem_cons_succ, List.setIfInBounds_toArray, List.set_cons_zero, List.set_cons_succ]
                    refine anyT_pure (i := 2) (v := ?_) rfl (by kernel_rfl) (by kernel_rfl) (by kernel_rfl) (fun _ _ _ h => h) (Or.inl ⟨by rfl, ?_⟩) (by assumption) ?_
                    rotate_left 1
                    focus ((intro w hSw; (try dsimp only at hSw); go_simp); try with_reducible rfl)
                    try simp only [Act.put, Array.getInternal_eq_getElem, List.getElem_toArray, List.getElem_cons_zero, List.getElem_cons_succ, List.setIfInBounds_toArray, List.set_cons_zero, List.set_cons_succ]
                    refine anyT_pure (i := 4) (v := ?_) rfl (by kernel_rfl) (by kernel_rfl) (by kernel_rfl) (fun _ _ _ h => h) (Or.inl ⟨by rfl, ?_⟩) (by assumption) ?_
                    rotate_left 1
                    focus ((intro w hSw; (try dsimp only at hSw); go_simp); try with_reducible rfl)
                    try simp only [Act.put, Array.getInternal_eq_getElem, List.getElem_toArray, List.getElem_cons_zero, List.getElem_cons_succ, List.setIfInBounds_toArray, List.set_cons_zero, List.set_cons_succ]
                    refine anyT_pure (i := 5) (v := ?_) rfl (by kernel_rfl) (by kernel_rfl) (by kernel_rfl) (fun _ _ _ h => h) (Or.inl ⟨by rfl, ?_⟩) (by assumption) ?_
                    rotate_left 1
                    focus ((intro w hSw; (try dsimp only at hSw); go_simp); try with_reducible rfl)
                    try simp only [Act.put, Array.getInternal_eq_getElem, List.getElem_toArray, List.getElem_cons_zero, List.getElem_cons_succ, List.setIfInBounds_toArray, List.set_cons_zero, List.set_cons_succ]
                    refine anyT_pure (i := 3) (v := ?_) rfl (by kernel_rfl) (by kernel_rfl) (by kernel_rfl) (fun _ _ _ h => h) (Or.inl ⟨by rfl, ?_⟩) (by assumption) ?_
                    rotate_left 1
                    focus ((intro w hSw; (try dsimp only at hSw); go_simp); try with_reducible rfl)
                    try simp only [Act.put, Array.getInternal_eq_getElem, List.getElem_toArray, List.getElem_cons_zero, List.getElem_cons_succ, List.setIfInBounds_toArray, List.set_cons_zero, List.set_cons_succ]
                    refine anyT_pure (i := 6) (v := ?_) rfl (by kernel_rfl) (by kernel_rfl) (by kernel_rfl) (fun _ _ _ h => h) (Or.inl ⟨by rfl, ?_⟩) (by assumption) ?_
                    rotate_left 1
                    focus ((intro w hSw; (try dsimp only at hSw); go_simp); try with_reducible rfl)
                    try simp only [Act.put, Array.getInternal_eq_getElem, List.getElem_toArray, List.getElem_cons_zero, List.getElem_cons_succ, List.setIfInBounds_toArray, List.set_cons_zero, List.set_cons_succ]
                    refine anyT_pure (i := 7) (v := ?_) rfl (by kernel_rfl) (by kernel_rfl) (by kernel_rfl) (fun _ _ _ h => h) (Or.inl ⟨by rfl, ?_⟩) (by assumption) ?_
                    rotate_left 1
                    focus ((intro w hSw; (try dsimp only at hSw); go_simp); try with_reducible rfl)
                    try simp only [Act.put, Array.getInternal_eq_getElem, List.getElem_toArray, List.getElem_cons_zero, List.getElem_cons_succ, List.setIfInBounds_toArray, List.set_cons_zero, List.set_cons_succ]
                    refine anyT_take (k := 0) (i := 8) (v := ?_) rfl rfl (by kernel_rfl) (by kernel_rfl) (by kernel_rfl) (fun _ _ _ h => h) (Or.inl ⟨by rfl, ?_⟩) (by assumption) ?_
                    rotate_left 1
                    focus ((intro w hSw; (try dsimp only at hSw); go_simp); try with_reducible rfl)
                    try simp only [Act.put, Array.getInternal_eq_getElem, List.getElem_toArray, List.getElem_cons_zero, List.getElem_cons_succ, List.setIfInBounds_toArray, List.set_cons_zero, List.set_cons_succ]
                    refine anyT_ready (rs := [9]) (by kernel_rfl) (by simp) ?_
                    refine AllT.cons rfl (fun K1 hK1 => ?_) AllT.nil
                    try simp only [Array.getInternal_eq_getElem, List.getElem_toArray, List.getElem_cons_zero, List.getElem_cons_succ]
                    go_simp
                    refine hK1.out _ _ ⟨fun h => absurd h (by simp), trivial⟩ (fun hT => ?_)
                    clear hK1 K1
                    try simp only [Act.put, Array.getInternal_eq_getElem, List.getElem_toArray, List.getElem_cons_zero, List.getElem_cons_succ, List.setIfInBounds_toArray, List.set_cons_zero, List.set_cons_succ]
                    refine anyT_ready (rs := [10]) (by kernel_rfl) (by simp) ?_
                    refine AllT.cons rfl (fun K1 hK1 => ?_) AllT.nil
                    try simp only [Array.getInternal_eq_getElem, List.getElem_toArray, List.getElem_cons_zero, List.getElem_cons_succ]
                    go_simp
                    refine HBd.out.mono ?_
                    rintro e wc hb
                    obtain ⟨rfl, S6, hC6⟩ := HRr.out _ _ _ hb
                    have HX5n : Hid (wc.cell? ⟨g, k * 6 + 5, none⟩ = some (.slice (some ⟨ga', 0, none⟩) p.args.length ca)) := Lib.hid (hC6.cell (show wb.drew.cell? _ = _ from HX5.out) (fun h => by rcases h with h | h; exact neg_ (by have h : g = gu := h; exact h.symm); (have h : g = mb := h; exact hmb (h ▸ hFg))))
                    have HXun : Hid (wc.cell? ⟨ga', i, none⟩ = some (.slice (some ⟨gu, 0, none⟩) l.length cu)) := Lib.hid (hC6.cell (show wb.drew.cell? _ = _ from HXu.out) (fun h => by rcases h with h | h; exact nega (by have h : ga' = gu := h; exact h.symm); (have h : ga' = mb := h; exact hmb (h ▸ hFga))))
                    have hE : USt W4 wc FO g s.parts.length c mb (cn3 + uRowN f' l (j + 1)) (L.set k { p with code := cd, test := f' p.test, args := ag.set i (uRow f' l (j + 1)) }) := by
                      rw [hnx2.out.1, hnx2.out.2]
                      have h := S6
                      rw [List.set_set] at h
                      simp only [List.set_set] at h
                      exact h
                    refine hK1.out _ _ ⟨fun h => absurd h (by simp), trivial⟩ (fun hT => ?_)
                    clear hK1 K1 HBd HRr hb S6 hC6
                    try simp only [Act.put, Array.getInternal_eq_getElem, List.getElem_toArray, List.getElem_cons_zero, List.getElem_cons_succ, List.setIfInBounds_toArray, List.set_cons_zero, List.set_cons_succ]
                    refine anyT_done (by kernel_rfl) ?_ _
                    go_wp2_with fail
                    go_roundw
                    case rel => exact ⟨j + 1, by omega, by go_num, hE, HX5n, HXun⟩
                    case measure => simp [intOf]; omega
                  · obtain rfl : j = l.length := by omega
                    have hE : USt W4 wb FO g s.parts.length c mb (cn + (if f' p.test = p.test then 0 else 1) + uArgsN f' p.args (i + 1)) (L.set k { p with code := cd, test := f' p.test, args := uArgs f' p.args (i + 1) }) := by
                      rw [hnx.out.1, hnx.out.2, ← uRow_all]; exact HS
                    go_wp2_with fail
                    go_roundw
                    case rel => exact ⟨i + 1, by omega, by go_num, hE, HX5⟩
                    case measure => simp [intOf]; omega
              · obtain rfl : i = p.args.length := by omega
                have hE : USt W4 wa FO g s.parts.length c mb (uAllN (fU s) s.parts (k + 1)) (uAll (fU s) s.parts (k + 1)) := by
                  rw [HN2.out.1, HN2.out.2]; exact HS
                go_wp2_with fail
                go_roundw
                case rel => exact ⟨k + 1, by omega, by go_num, hE⟩
                case measure => simp [intOf]; omega
    · obtain rfl : k = s.parts.length := by omega
      have HS : USt W4 wo FO g s.parts.length c mb (useN s) (useS s).parts := HS
      obtain ⟨m1, _⟩ := HS.mcell
      have hfin : Chg FO w wo := (Chg.of_below (A := FO) hBf.out).trans2 HS.ch (fun q hq => hq.elim .inl (fun h => .inr (by rw [h]; exact hmbs.out)))
      go_wp2_with fail
      go_ret
      exact ⟨rfl, HS.ow, hfin⟩
end Go.Proofs.YtnfaibenekninaaGreat.L
