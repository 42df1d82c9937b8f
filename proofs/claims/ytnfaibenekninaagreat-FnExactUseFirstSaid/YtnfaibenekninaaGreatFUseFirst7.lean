/- Joined texts, each of which was built by itself: Pa2 Uf3 Gq0 Sr0. -/
import Derived.Test.YtnfaibenekninaaGreatFUseFirst6
import Derived.Test.YtnfaibenekninaaGreatB3
import Derived.Test.YtnfaibenekninaaGreatB2
set_option linter.unusedVariables false
set_option linter.unusedSimpArgs false
namespace Go.Proofs.YtnfaibenekninaaGreat.L
open Go.RowKit
section
variable {F : Nat → Prop} {g n c : Nat} {L : List Pt} {w : World} {k : Nat}
theorem ow_codeIn (HO : Ow true 67 partA w F (.slice (some ⟨g, 0, none⟩) n c) L) (hk : k < L.length) :
    ∃ (vc : Value) (G : Nat → Prop), w.cell? ⟨g, k * 6 + 1, none⟩ = some vc ∧ Ow true 71 flat w G vc L[k].code ∧ (∀ q, G q → F q ∧ q ≠ g ∧ q < w.heap.size) ∧
    ∀ (w' : World) (l' : List Fl), Chg G w w' → Ow true 71 flat w' G vc l' → Ow true 67 partA w' F (.slice (some ⟨g, 0, none⟩) n c) (L.set k { L[k] with code := l' }) := by
  obtain ⟨Fr, Gk, us, hFr, hGk, hK, H⟩ := HO.bound.hole hk
  obtain ⟨G0, G1, G2, G3, e0, e1, e2, e3, d01, d02, d03, d12, d13, d23, vp, vc, vn, va, rfl, k0, k1, k2, k3⟩ := partA_open hK
  refine ⟨vc, G1, H.cellj 1 partA_sz rfl, k1, fun q hq => ⟨(hGk q (e1 q hq)).1.1, (hGk q (e1 q hq)).2.2, (hGk q (e1 q hq)).1.2⟩, fun w' l' hC hO' => ?_⟩
  have m0 := k0.move (hC.same (fun q hq h => d01 q hq h))
  have m2 := k2.move (hC.same (fun q hq h => d12 q h hq))
  have m3 := k3.move (hC.same (fun q hq h => d13 q h hq))
  have H1 := H.chg hC (fun q hq h => (hGk q (e1 q hq)).2.1 h)
  have hK' := partA_mk (F := Gk) (x := { L[k] with code := l' }) e0 e1 e2 e3 d01 d02 d03 d12 d13 d23 m0 hO' m2 m3
  exact (H1.close hK' (fun q hq h => (hGk q hq).2.1 h)).mono (fun q hq => hq.elim (fun h => (hFr q h).1) (fun h => (hGk q h).1.1))
theorem ow_argIn {i : Nat} (HO : Ow true 67 partA w F (.slice (some ⟨g, 0, none⟩) n c) L) (hk : k < L.length) (hi : i < L[k].args.length) :
    ∃ (ga ca : Nat) (u : Value) (G : Nat → Prop), w.cell? ⟨g, k * 6 + 5, none⟩ = some (.slice (some ⟨ga, 0, none⟩) L[k].args.length ca) ∧ w.cell? ⟨ga, i, none⟩ = some u ∧ Ow true 3 Rp.int w G u L[k].args[i] ∧ (∀ q, G q → F q ∧ q ≠ ga ∧ q ≠ g ∧ q < w.heap.size) ∧ (F ga ∧ ga < w.heap.size ∧ ga ≠ g) ∧
    ∀ (w' : World) (l' : List Int), Chg G w w' → Ow true 3 Rp.int w' G u l' → Ow true 67 partA w' F (.slice (some ⟨g, 0, none⟩) n c) (L.set k { L[k] with args := L[k].args.set i l' }) := by
  obtain ⟨Fr, Gk, us, hFr, hGk, hK, H⟩ := HO.bound.hole hk
  obtain ⟨G0, G1, G2, G3, e0, e1, e2, e3, d01, d02, d03, d12, d13, d23, vp, vc, vn, va, rfl, k0, k1, k2, k3⟩ := partA_open hK
  obtain ⟨ga, ca, rfl, _, _⟩ := Ow.some_form k3 (by omega)
  obtain ⟨Fr4, Gk4, us4, hFr4, hGk4, hK4, H4⟩ := k3.hole hi
  obtain ⟨u, rfl, hOu⟩ := hK4
  have ne : ∀ q, Gk q → q ≠ g := fun q hq => (hGk q hq).2.2
  have lt : ∀ q, Gk q → q < w.heap.size := fun q hq => (hGk q hq).1.2
  have hga3 : G3 ga := hFr4 ga H4.lt.1
  have hga := e3 ga hga3
  have G4k : ∀ q, Gk4 q → Gk q := fun q hq => e3 q (hGk4 q hq).1
  refine ⟨ga, ca, u, Gk4, H.cellj 5 partA_sz rfl, H4.cell1 rfl rfl, hOu, fun q hq => ⟨(hGk q (G4k q hq)).1.1, (hGk4 q hq).2.2, ne q (G4k q hq), lt q (G4k q hq)⟩, ⟨(hGk ga hga).1.1, lt ga hga, ne ga hga⟩, fun w' l' hC hO' => ?_⟩
  have m0 := k0.move (hC.same (fun q hq h => d03 q hq (hGk4 q h).1))
  have m1 := k1.move (hC.same (fun q hq h => d13 q hq (hGk4 q h).1))
  have m2 := k2.move (hC.same (fun q hq h => d23 q hq (hGk4 q h).1))
  have H4' := H4.chg hC (fun q hq h => (hGk4 q hq).2.1 h)
  have H2 := H.chg hC (fun q hq h => (hGk q (G4k q hq)).2.1 h)
  have hK4' : (Rp.ow true 3 Rp.int).K w' Gk4 l' [u] := ⟨u, rfl, hO'⟩
  have m3 := (H4'.close hK4' (fun q hq h => (hGk4 q hq).2.1 h)).mono (G := G3) (fun q hq => hq.elim (hFr4 q) (fun h => (hGk4 q h).1))
  have hK' := partA_mk (F := Gk) (x := { L[k] with args := L[k].args.set i l' }) e0 e1 e2 e3 d01 d02 d03 d12 d13 d23 m0 m1 m2 m3
  exact (H2.close hK' (fun q hq h => (hGk q hq).2.1 h)).mono (fun q hq => hq.elim (fun h => (hFr q h).1) (fun h => (hGk q h).1.1))
theorem ow_test (HO : Ow true 67 partA w F (.slice (some ⟨g, 0, none⟩) n c) L) (hk : k < L.length) :
    w.cell? ⟨g, k * 6 + 3, none⟩ = some (.int .i64 L[k].test) ∧ (∀ o, w.frozen? ⟨g, o, none⟩ = false) ∧ (F g ∧ g < w.heap.size) ∧
    ∀ t : Int, Ow true 67 partA (w.setCell ⟨g, k * 6 + 3, none⟩ (.int .i64 t)) F (.slice (some ⟨g, 0, none⟩) n c) (L.set k { L[k] with test := t }) := by
  obtain ⟨Fr, Gk, us, hFr, hGk, hK, H⟩ := HO.bound.hole hk
  obtain ⟨G0, G1, G2, G3, e0, e1, e2, e3, d01, d02, d03, d12, d13, d23, vp, vc, vn, va, rfl, k0, k1, k2, k3⟩ := partA_open hK
  refine ⟨H.cellj 3 partA_sz rfl, H.free, hFr g H.lt.1, fun t => ?_⟩
  have ne : ∀ q, Gk q → q ≠ g := fun q hq => (hGk q hq).2.2
  have hS := Chg.set (A := fun q => q = g) (w := w) (b := g) (o := k * 6 + 3) (u := .int .i64 t) rfl
  have m0 := k0.move (hS.same (fun q hq h => ne q (e0 q hq) h))
  have m1 := k1.move (hS.same (fun q hq h => ne q (e1 q hq) h))
  have m2 := k2.move (hS.same (fun q hq h => ne q (e2 q hq) h))
  have m3 := k3.move (hS.same (fun q hq h => ne q (e3 q hq) h))
  have H2 := H.setj partA_sz (j := 3) (by decide) (.int .i64 t)
  have hK' := partA_mk (F := Gk) (x := { L[k] with test := t }) e0 e1 e2 e3 d01 d02 d03 d12 d13 d23 m0 m1 m2 m3
  exact (H2.close hK' (fun q hq h => (hGk q hq).2.1 h)).mono (fun q hq => hq.elim (fun h => (hFr q h).1) (fun h => (hGk q h).1.1))
end
/-- A step's a or b changed where it lies. -/
theorem ow_flSet {w : World} {F : Nat → Prop} {g n c j : Nat} {l : List Fl} (HO : Ow true 71 flat w F (.slice (some ⟨g, 0, none⟩) n c) l) (hj : j < l.length) :
    FlAt w g (j * 6) l[j] ∧ (∀ o, w.frozen? ⟨g, o, none⟩ = false) ∧ (∀ t : Int, Ow true 71 flat (w.setCell ⟨g, j * 6 + 3, none⟩ (.int .i64 t)) F (.slice (some ⟨g, 0, none⟩) n c) (l.set j { l[j] with a := t })) ∧
      (∀ t : Int, Ow true 71 flat (w.setCell ⟨g, j * 6 + 4, none⟩ (.int .i64 t)) F (.slice (some ⟨g, 0, none⟩) n c) (l.set j { l[j] with b := t })) := by
  obtain ⟨Fr, Gk, us, hFr, hGk, hK, H⟩ := HO.hole hj
  obtain rfl := flat_open hK
  refine ⟨⟨H.cell0 flat_sz rfl, H.cellj 1 flat_sz rfl, H.cellj 2 flat_sz rfl, H.cellj 3 flat_sz rfl, H.cellj 4 flat_sz rfl, H.cellj 5 flat_sz rfl⟩, H.free, fun t => ?_, fun t => ?_⟩
  · have H2 := H.setj flat_sz (j := 3) (by decide) (.int .i64 t)
    exact (H2.close (flat_mk _ (fun _ => False) { l[j] with a := t }) (fun q hq => hq.elim)).mono (fun q hq => hq.elim (hFr q) (fun h => h.elim))
  · have H2 := H.setj flat_sz (j := 4) (by decide) (.int .i64 t)
    exact (H2.close (flat_mk _ (fun _ => False) { l[j] with b := t }) (fun q hq => hq.elim)).mono (fun q hq => hq.elim (hFr q) (fun h => h.elim))
end Go.Proofs.YtnfaibenekninaaGreat.L

set_option linter.unusedVariables false
set_option linter.unusedSimpArgs false
namespace Go.Proofs.YtnfaibenekninaaGreat.L
open Go.RowKit
structure USt (W4 wr : World) (FO : Nat → Prop) (g n c mb cnt : Nat) (L : List Pt) : Prop where
  ow : Ow true 67 partA wr FO (.slice (some ⟨g, 0, none⟩) n c) L
  ch : Chg (fun q => FO q ∨ q = mb) W4 wr
  m : wr.heap[mb]? = some (.cells #[.int .i64 (cnt : Nat)] 3 (0, 0))
section
variable {W4 wr : World} {FO : Nat → Prop} {g n c mb cnt : Nat} {L : List Pt}
theorem USt.below {w' : World} (h : USt W4 wr FO g n c mb cnt L) (hb : Below wr.heap.size wr w') : USt W4 w' FO g n c mb cnt L :=
  ⟨h.ow.below hb, h.ch.trans (Chg.of_below hb), blk_below h.m hb⟩
theorem USt.mcell (h : USt W4 wr FO g n c mb cnt L) : wr.cell? ⟨mb, 0, none⟩ = some (.int .i64 (cnt : Nat)) ∧ wr.frozen? ⟨mb, 0, none⟩ = false := by
  obtain ⟨y1, y2⟩ := cell_of_block h.m
  exact ⟨(y1 0).trans rfl, y2 0⟩
theorem cnt_if {f v : Int} (h : f ≠ v) (cnt : Nat) : cnt + (if f = v then 0 else 1) = cnt + 1 := by rw [if_neg h]
theorem cnt_if0 {f v : Int} (h : f = v) (cnt : Nat) : cnt + (if f = v then 0 else 1) = cnt := by rw [if_pos h]; rfl
/-- What follows from one call, for any place of the ssa. -/
theorem USt.bet {G : Nat → Prop} (h : USt W4 wr FO g n c mb cnt L) (hmb : ¬ FO mb) {a : Addr} {v f : Int} {L' : List Pt} {e : Ending} {w' : World} (ha : FO a.block) (hL : f = v → L' = L)
    (hset : ∀ N : Nat, Ow true 67 partA ((wr.drewN N).setCell a (.int .i64 f)) FO (.slice (some ⟨g, 0, none⟩) n c) L') (hb : BetRes a mb cnt v f wr e w') :
    e = .returned (.tuple #[]) ∧ USt W4 w' FO g n c mb (cnt + (if f = v then 0 else 1)) L' ∧ Chg (fun q => q = a.block ∨ q = mb) wr w' := by
  rcases hb with ⟨N, hf, he, rfl⟩ | ⟨N, hf, he, rfl⟩
  · have hbw : Below wr.heap.size wr (wr.drewN N) := below_drewN (Below.refl _ _) N
    refine ⟨he, ?_, Chg.of_below hbw⟩
    rw [cnt_if0 hf.out, hL hf.out]
    exact h.below hbw
  · have hbw : Below wr.heap.size wr (wr.drewN N) := below_drewN (Below.refl _ _) N
    have hm1 : mb ≠ a.block := fun he => hmb (he ▸ ha)
    have hS1 := Chg.set (A := fun q => q = a.block) (w := wr.drewN N) (b := a.block) (o := a.off) (u := .int .i64 f) rfl
    have hC1 : Chg (fun q => q = a.block) (wr.drewN N) ((wr.drewN N).setCell a (.int .i64 f)) := ⟨rfl, rfl, rfl, by simp, fun q hq hA => heap_setCell_other _ a q _ hA⟩
    have hC2 := Chg.set (A := fun q => q = mb) (w := (wr.drewN N).setCell a (.int .i64 f)) (b := mb) (o := 0) (u := .int .i64 ((cnt + 1 : Nat) : Int)) rfl
    have hall : Chg (fun q => q = a.block ∨ q = mb) wr (((wr.drewN N).setCell a (.int .i64 f)).setCell ⟨mb, 0, none⟩ (.int .i64 ((cnt + 1 : Nat) : Int))) :=
      ((Chg.of_below hbw).trans (hC1.mono (fun q hq => .inl hq))).trans (hC2.mono (fun q hq => .inr hq))
    refine ⟨he, ⟨(hset N).move (hC2.same (fun q hq hA => by have hA : q = mb := hA; subst hA; exact hmb hq)), h.ch.trans (hall.mono (fun q hq => hq.elim (fun h => .inl (by rw [h]; exact ha)) .inr)), ?_⟩, hall⟩
    rw [cnt_if hf.out]
    have hm2 : ((wr.drewN N).setCell a (.int .i64 f)).heap[mb]? = some (.cells #[.int .i64 (cnt : Nat)] 3 (0, 0)) := hC1.blk (blk_below h.m hbw) hm1
    exact blk_put hm2 0 _
theorem USt.step (h : USt W4 wr FO g n c mb cnt L) (hmb : ¬ FO mb) {k j : Nat} (hk : k < L.length) (hj : j < L[k].code.length) :
    ∃ gc cc, wr.cell? ⟨g, k * 6 + 1, none⟩ = some (.slice (some ⟨gc, 0, none⟩) L[k].code.length cc) ∧ FlAt wr gc (j * 6) L[k].code[j] ∧ (∀ o, wr.frozen? ⟨gc, o, none⟩ = false) ∧ gc ≠ mb ∧ FO gc ∧
      (∀ (f : Int) (e : Ending) (w' : World), BetRes ⟨gc, j * 6 + 3, none⟩ mb cnt L[k].code[j].a f wr e w' → e = .returned (.tuple #[]) ∧ USt W4 w' FO g n c mb (cnt + (if f = L[k].code[j].a then 0 else 1)) (L.set k { L[k] with code := L[k].code.set j { L[k].code[j] with a := f } }) ∧ Chg (fun q => q = gc ∨ q = mb) wr w') ∧
      (∀ (f : Int) (e : Ending) (w' : World), BetRes ⟨gc, j * 6 + 4, none⟩ mb cnt L[k].code[j].b f wr e w' → e = .returned (.tuple #[]) ∧ USt W4 w' FO g n c mb (cnt + (if f = L[k].code[j].b then 0 else 1)) (L.set k { L[k] with code := L[k].code.set j { L[k].code[j] with b := f } }) ∧ Chg (fun q => q = gc ∨ q = mb) wr w') := by
  obtain ⟨vc, G, xc, hOc, hG, hCl⟩ := ow_codeIn h.ow hk
  obtain ⟨gc, cc, rfl, _, _⟩ := Ow.some_form hOc (by omega)
  have hgc := own_in hOc (k := gc) (.inl rfl)
  have hgcF := (hG gc hgc).1
  obtain ⟨hfl, hfr, _, _⟩ := ow_flSet hOc hj
  have hdr : ∀ N, Below wr.heap.size wr (wr.drewN N) := fun N => below_drewN (Below.refl _ _) N
  refine ⟨gc, cc, xc, hfl, hfr, fun he => hmb (he ▸ hgcF), hgcF, fun f e w' hb => ?_, fun f e w' hb => ?_⟩
  · refine h.bet hmb (a := ⟨gc, j * 6 + 3, none⟩) hgcF (fun hf => ?_) (fun N => ?_) hb (G := G)
    · subst hf
      have : { L[k].code[j] with a := L[k].code[j].a } = L[k].code[j] := rfl
      rw [this, List.set_getElem_self]
      exact List.set_getElem_self hk
    · exact hCl _ _ ((Chg.of_below (hdr N)).trans (Chg.set hgc)) ((ow_flSet (hOc.below (hdr N)) hj).2.2.1 f)
  · refine h.bet hmb (a := ⟨gc, j * 6 + 4, none⟩) hgcF (fun hf => ?_) (fun N => ?_) hb (G := G)
    · subst hf
      have : { L[k].code[j] with b := L[k].code[j].b } = L[k].code[j] := rfl
      rw [this, List.set_getElem_self]
      exact List.set_getElem_self hk
    · exact hCl _ _ ((Chg.of_below (hdr N)).trans (Chg.set hgc)) ((ow_flSet (hOc.below (hdr N)) hj).2.2.2 f)
theorem USt.test (h : USt W4 wr FO g n c mb cnt L) (hmb : ¬ FO mb) {k : Nat} (hk : k < L.length) :
    wr.cell? ⟨g, k * 6 + 3, none⟩ = some (.int .i64 L[k].test) ∧ (∀ o, wr.frozen? ⟨g, o, none⟩ = false) ∧ g ≠ mb ∧
      (∀ (f : Int) (e : Ending) (w' : World), BetRes ⟨g, k * 6 + 3, none⟩ mb cnt L[k].test f wr e w' → e = .returned (.tuple #[]) ∧ USt W4 w' FO g n c mb (cnt + (if f = L[k].test then 0 else 1)) (L.set k { L[k] with test := f }) ∧ Chg (fun q => q = g ∨ q = mb) wr w') := by
  obtain ⟨xc, hfr, hgF, _⟩ := ow_test h.ow hk
  refine ⟨xc, hfr, fun he => hmb (he ▸ hgF.1), fun f e w' hb => ?_⟩
  refine h.bet hmb (a := ⟨g, k * 6 + 3, none⟩) hgF.1 (fun hf => ?_) (fun N => ?_) hb (G := FO)
  · subst hf
    exact List.set_getElem_self hk
  · exact (ow_test (h.ow.below (below_drewN (Below.refl _ _) N)) hk).2.2.2 f
theorem USt.arg (h : USt W4 wr FO g n c mb cnt L) (hmb : ¬ FO mb) {k i : Nat} (hk : k < L.length) (hi : i < L[k].args.length) :
    ∃ ga ca u, wr.cell? ⟨g, k * 6 + 5, none⟩ = some (.slice (some ⟨ga, 0, none⟩) L[k].args.length ca) ∧ wr.cell? ⟨ga, i, none⟩ = some u ∧ (∃ A cu, u = .slice A L[k].args[i].length cu) ∧ FO g ∧ FO ga ∧ ga ≠ g ∧
      ∀ (j : Nat) (hj : j < L[k].args[i].length), ∃ gu cu, u = .slice (some ⟨gu, 0, none⟩) L[k].args[i].length cu ∧ wr.cell? ⟨gu, j, none⟩ = some (.int .i64 L[k].args[i][j]) ∧ (∀ o, wr.frozen? ⟨gu, o, none⟩ = false) ∧ gu ≠ mb ∧ gu ≠ g ∧ gu ≠ ga ∧
        (∀ (f : Int) (e : Ending) (w' : World), BetRes ⟨gu, j, none⟩ mb cnt L[k].args[i][j] f wr e w' → e = .returned (.tuple #[]) ∧ USt W4 w' FO g n c mb (cnt + (if f = L[k].args[i][j] then 0 else 1)) (L.set k { L[k] with args := L[k].args.set i (L[k].args[i].set j f) }) ∧ Chg (fun q => q = gu ∨ q = mb) wr w') := by
  obtain ⟨ga, ca, u, G, xa, xu, hOu, hG, hga, hCl⟩ := ow_argIn h.ow hk hi
  obtain ⟨A, cu, hu, _, _⟩ := hOu.form
  have hFg : FO g := own_in h.ow (k := g) (.inl rfl)
  refine ⟨ga, ca, u, xa, xu, ⟨A, cu, hu⟩, hFg, hga.1, hga.2.2, fun j hj => ?_⟩
  obtain ⟨gu, cu', rfl, _, _⟩ := Ow.some_form hOu (by omega)
  have hgu := own_in hOu (k := gu) (.inl rfl)
  have hguF := hG gu hgu
  obtain ⟨xj, _⟩ := hOu.int_at hj
  obtain ⟨_, _, _, _, hOuF⟩ := hOu.at_ (List.getElem?_eq_getElem hj)
  have hfr : ∀ o, wr.frozen? ⟨gu, o, none⟩ = false := by
    obtain ⟨g', c', cs, he, _, _, _, _, hf⟩ := hOu.at_ (List.getElem?_eq_getElem hj)
    injection he with he
    injection he with he
    injection he with he
    subst he
    exact hf
  refine ⟨gu, cu', rfl, xj, hfr, fun he => hmb (he ▸ hguF.1), hguF.2.2.1, hguF.2.1, fun f e w' hb => ?_⟩
  refine h.bet hmb (a := ⟨gu, j, none⟩) hguF.1 (fun hf => ?_) (fun N => ?_) hb (G := G)
  · subst hf
    rw [List.set_getElem_self, List.set_getElem_self]
    exact List.set_getElem_self hk
  · have hdr : Below wr.heap.size wr (wr.drewN N) := below_drewN (Below.refl _ _) N
    exact hCl _ _ ((Chg.of_below hdr).trans (Chg.set hgu)) ((hOu.below hdr).set1 rfl hj (y := f) (u := .int .i64 f) rfl)
end
end Go.Proofs.YtnfaibenekninaaGreat.L

set_option linter.unusedVariables false
set_option linter.unusedSimpArgs false
namespace Go.Proofs.YtnfaibenekninaaGreat.L
open Go.RowKit
theorem groupsR_calls {F : Nat → Prop} (s : Sa) (N vb : Nat) (vparts vn vd vD vT : Value) (w : World) (hv : w.heap[vb]? = some (viewC vparts s.values vn vd vD vT)) (hs : Rp.Rd part w F vparts s.parts) (hg : GoodP s) (hx2 : ∀ p ∈ s.parts, PtLim p) (hNV : (N : Int) = s.values) :
    Calls Tryz.prog 68 #[.pointer (some ⟨vb, 0, none⟩)] w fun e w' => ∃ v' : Value, e = .returned (.tuple #[v', .int .i64 (roundsN s N : Nat)]) ∧ Ow true 3 Rp.int w' (fun q => w.heap.size ≤ q) v' (intsN (grpL s N)) ∧ Below w.heap.size w w' := by
  refine (groups_calls s N vb vparts vn vd vD vT w hv hs hg hx2 hNV).mono ?_
  rintro e w' ⟨v', t, rfl, hr, hF, hb⟩
  have ht := rounds_I hg hNV hF
  subst ht
  exact ⟨v', rfl, hr, hb⟩
end Go.Proofs.YtnfaibenekninaaGreat.L

set_option linter.unusedVariables false
set_option linter.unusedSimpArgs false
namespace Go.Proofs.YtnfaibenekninaaGreat.L
open Go.RowKit
theorem Chg.trans2 {A B : Nat → Prop} {w w1 w2 : World} (h : Chg A w w1) (k : Chg B w1 w2) (hB : ∀ q, B q → A q ∨ w.heap.size ≤ q) : Chg A w w2 :=
  ⟨k.os.trans h.os, k.tape.trans h.tape, k.output.trans h.output, Nat.le_trans h.size k.size, fun q hq hA => (k.block q (Nat.lt_of_lt_of_le hq h.size) (fun hb => by rcases hB q hb with h1 | h1; exact hA h1; omega)).trans (h.block q hq hA)⟩
theorem Chg.of_grown {w w1 : World} {row : Option Nat} (h : w.grownBy w1 row) : Chg (fun q => some q = row) w w1 := ⟨h.os, h.tape, h.output, h.size, fun q hq hn => h.block q hq hn⟩
theorem rd_int_in {w : World} {F : Nat → Prop} {v : Value} {l : List Int} (h : Rp.Rd Rp.int w F v l) : ∃ A c, v = .slice A l.length c ∧ l.length ≤ c ∧ c ≤ 9223372036854775807 ∧
    (l = [] ∨ ∃ b o, A = some ⟨b, o, none⟩ ∧ F b ∧ ∀ (k : Nat) (hk : k < l.length), w.cell? ⟨b, o + k, none⟩ = some (.int .i64 l[k])) := by
  have h2 := rd_int h
  obtain ⟨A, c, rfl, h3, h4, h5⟩ := h2
  refine ⟨A, c, rfl, h3, h4, ?_⟩
  obtain ⟨_, _, hae, _, _, h6⟩ := h
  cases hae
  rcases h5 with h5 | ⟨b, o, rfl, _, h5⟩
  · exact .inl h5
  · rcases h6 with h6 | ⟨_, _, he, hF, _⟩
    · exact .inl h6
    · cases he; exact .inr ⟨b, o, rfl, hF, h5⟩
/-- An ssa of its own, a number, and whether it is good. -/
inductive SsaRes (G : Prop) (S : Sa) (n : Nat) (w : World) (e : Ending) (w' : World) : Prop where
  | mk (g : Bool) (S' : Sa) (n' : Nat) (v : Value) (hg : Hid (g = true ↔ G)) (hS : Hid (S' = (if g = true then S else ⟨[], 0⟩) ∧ n' = (if g = true then n else 0))) (he : e = .returned (.tuple #[saV S' v, .int .i64 (n' : Nat), .bool g])) (hv : Ow true 67 partA w' (fun q => w.heap.size ≤ q) v S'.parts) (hb : Below w.heap.size w w') : SsaRes G S n w e w'
/-- The result's variable, when it is written at the end. -/
theorem res_end {w w1 : World} {x0 y0 : Value} (x y : Value) (hr : w1.heap[w.heap.size + 1]? = some (.cells #[x0, y0] 28 (0, 0))) (hB : Below w.heap.size w w1) :
    ((w1.setCell ⟨w.heap.size + 1, 0, none⟩ x).setCell ⟨w.heap.size + 1, 1, none⟩ y).heap[w.heap.size + 1]? = some (.cells #[x, y] 28 (0, 0)) ∧ Below w.heap.size w ((w1.setCell ⟨w.heap.size + 1, 0, none⟩ x).setCell ⟨w.heap.size + 1, 1, none⟩ y) ∧
      Chg (fun q => q = w.heap.size + 1) w1 ((w1.setCell ⟨w.heap.size + 1, 0, none⟩ x).setCell ⟨w.heap.size + 1, 1, none⟩ y) := by
  have hC := (Chg.set (A := fun q => q = w.heap.size + 1) (w := w1) (b := w.heap.size + 1) (o := 0) (u := x) rfl).trans (Chg.set (b := w.heap.size + 1) (o := 1) (u := y) rfl)
  exact ⟨blk_put (blk_put hr 0 x) 1 y, hC.to_below hB hB.size (fun q hq => by have hq : q = w.heap.size + 1 := hq; omega), hC⟩
end Go.Proofs.YtnfaibenekninaaGreat.L
