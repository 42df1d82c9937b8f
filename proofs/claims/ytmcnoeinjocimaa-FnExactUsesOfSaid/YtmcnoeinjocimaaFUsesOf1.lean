/- Joined texts, each of which was built by itself: Mr1 Mr2 Mr3 Px2 Df2 Px1 Px3 Px4 Px5. -/
import Derived.Test.YtmcnoeinjocimaaB11
import Derived.Test.YtmcnoeinjocimaaB3
import Derived.Test.YtmcnoeinjocimaaB2
import Derived.Test.YtmcnoeinjocimaaB10
import Derived.Deep.RegionHeld3
import Derived.Lib.SliceRun
set_option linter.unusedVariables false
set_option linter.unusedSimpArgs false
namespace Go.Proofs.Ytmcnoeinjocimaa.L
open Go.RowKit
/-- Nothing is otherwise, but for whole numbers in blocks of F. -/
structure Marked (F : Nat → Prop) (w w' : World) : Prop where
  chg : Chg F w w'
  keep : ∀ (a : Addr) (v : Value), w.cell? a = some v → (∀ x, v ≠ .int .i64 x) → w'.cell? a = some v
  ints : ∀ (a : Addr) (x : Int), w.cell? a = some (.int .i64 x) → ∃ y, w'.cell? a = some (.int .i64 y)
  free : ∀ a, w.frozen? a = false → w'.frozen? a = false
namespace Marked
variable {F : Nat → Prop} {w w1 w2 : World}
theorem refl (F : Nat → Prop) (w : World) : Marked F w w := ⟨Chg.refl _ _, fun _ _ h _ => h, fun _ x h => ⟨x, h⟩, fun _ h => h⟩
theorem trans (h : Marked F w w1) (k : Marked F w1 w2) : Marked F w w2 :=
  ⟨h.chg.trans k.chg, fun a v h1 h2 => k.keep a v (h.keep a v h1 h2) h2, fun a x h1 => let ⟨y, h2⟩ := h.ints a x h1; k.ints a y h2, fun a h1 => k.free a (h.free a h1)⟩
theorem drew (h : Marked F w w1) : Marked F w w1.drew := h.trans ⟨Chg.drewN 1, fun _ _ h _ => h, fun _ x h => ⟨x, h⟩, fun _ h => h⟩
theorem set {b o : Nat} {x : Int} (y : Int) (hb : F b) (hc : w.cell? ⟨b, o, none⟩ = some (.int .i64 x)) : Marked F w (w.setCell ⟨b, o, none⟩ (.int .i64 y)) := by
  refine ⟨Chg.set hb, fun a v h1 h2 => ?_, fun a z h1 => ?_, fun a h1 => (World.frozen?_setCell ..).trans h1⟩
  · by_cases e : (⟨b, o, none⟩ : Addr) = a
    · subst e; rw [hc] at h1; exact absurd (Option.some.inj h1).symm (h2 x)
    · exact (World.cell?_setCell_other w _ _ _ e).trans h1
  · by_cases e : (⟨b, o, none⟩ : Addr) = a
    · subst e; exact ⟨y, World.cell?_setCell_same w _ _ hc⟩
    · exact ⟨z, (World.cell?_setCell_other w _ _ _ e).trans h1⟩
end Marked
/-- A row of n things at a block's head. -/
def RowP (w : World) (F : Nat → Prop) (v : Value) (n : Nat) (P : Nat → Nat → Prop) : Prop :=
  ∃ A c, v = .slice A n c ∧ n ≤ c ∧ c ≤ maxLen ∧ (n = 0 ∨ ∃ b, A = some ⟨b, 0, none⟩ ∧ F b ∧ (∀ o, w.frozen? ⟨b, o, none⟩ = false) ∧ ∀ k, k < n → P b k)
theorem RowP.imp {w w' : World} {F : Nat → Prop} {v : Value} {n : Nat} {P Q : Nat → Nat → Prop} (h : RowP w F v n P) (hf : ∀ b, F b → ∀ o, w.frozen? ⟨b, o, none⟩ = false → w'.frozen? ⟨b, o, none⟩ = false) (hp : ∀ b, F b → ∀ k, P b k → Q b k) : RowP w' F v n Q := by
  obtain ⟨A, c, h1, h2, h3, h4⟩ := h
  refine ⟨A, c, h1, h2, h3, ?_⟩
  rcases h4 with h4 | ⟨b, e1, e2, e3, e4⟩
  · exact .inl h4
  · exact .inr ⟨b, e1, e2, fun o => hf _ e2 o (e3 o), fun k hk => hp _ e2 _ (e4 k hk)⟩
def AnyI (w : World) (b o : Nat) : Prop := ∃ x, w.cell? ⟨b, o, none⟩ = some (.int .i64 x)
theorem AnyI.marked {F : Nat → Prop} {w w' : World} {b o : Nat} (h : AnyI w b o) (m : Marked F w w') : AnyI w' b o := let ⟨x, h⟩ := h; m.ints _ x h
def MI (w : World) (F : Nat → Prop) (v : Value) (n : Nat) : Prop := RowP w F v n (fun b k => AnyI w b k)
theorem MI.marked {F : Nat → Prop} {w w' : World} {v : Value} {n : Nat} (h : MI w F v n) (m : Marked F w w') : MI w' F v n := h.imp (fun _ _ _ h => m.free _ h) (fun _ _ _ h => h.marked m)
def MF (w : World) (F : Nat → Prop) (v : Value) (n : Nat) : Prop := RowP w F v n (fun b k => AnyI w b (k * 6) ∧ AnyI w b (k * 6 + 1) ∧ AnyI w b (k * 6 + 2) ∧ AnyI w b (k * 6 + 3) ∧ AnyI w b (k * 6 + 4) ∧ AnyI w b (k * 6 + 5))
theorem MF.marked {F : Nat → Prop} {w w' : World} {v : Value} {n : Nat} (h : MF w F v n) (m : Marked F w w') : MF w' F v n :=
  h.imp (fun _ _ _ h => m.free _ h) (fun _ _ _ ⟨h0, h1, h2, h3, h4, h5⟩ => ⟨h0.marked m, h1.marked m, h2.marked m, h3.marked m, h4.marked m, h5.marked m⟩)
def MII (w : World) (F : Nat → Prop) (v : Value) (n : Nat) : Prop := RowP w F v n (fun b k => ∃ u a, a ≤ 1048576 ∧ w.cell? ⟨b, k, none⟩ = some u ∧ MI w F u a)
theorem MI.not_int {F : Nat → Prop} {w : World} {v : Value} {n : Nat} (h : MI w F v n) : ∀ x, v ≠ .int .i64 x := by
  obtain ⟨A, c, rfl, _⟩ := h
  intro x hx; cases hx
theorem MF.not_int {F : Nat → Prop} {w : World} {v : Value} {n : Nat} (h : MF w F v n) : ∀ x, v ≠ .int .i64 x := by
  obtain ⟨A, c, rfl, _⟩ := h
  intro x hx; cases hx
theorem MII.not_int {F : Nat → Prop} {w : World} {v : Value} {n : Nat} (h : MII w F v n) : ∀ x, v ≠ .int .i64 x := by
  obtain ⟨A, c, rfl, _⟩ := h
  intro x hx; cases hx
theorem MII.marked {F : Nat → Prop} {w w' : World} {v : Value} {n : Nat} (h : MII w F v n) (m : Marked F w w') : MII w' F v n :=
  h.imp (fun _ _ _ h => m.free _ h) (fun _ _ _ ⟨u, a, h0, h1, h2⟩ => ⟨u, a, h0, m.keep _ _ h1 h2.not_int, h2.marked m⟩)
def MP (w : World) (F : Nat → Prop) (v : Value) (n : Nat) : Prop := RowP w F v n (fun b k => ∃ vp vc vn va a1 a2 a3 a4, (a1 ≤ 1048576 ∧ a2 ≤ 1048576 ∧ a3 ≤ 1048576 ∧ a4 ≤ 1048576) ∧
  w.cell? ⟨b, k * 6, none⟩ = some vp ∧ w.cell? ⟨b, k * 6 + 1, none⟩ = some vc ∧ AnyI w b (k * 6 + 2) ∧ AnyI w b (k * 6 + 3) ∧ w.cell? ⟨b, k * 6 + 4, none⟩ = some vn ∧ w.cell? ⟨b, k * 6 + 5, none⟩ = some va ∧
  MI w F vp a1 ∧ MF w F vc a2 ∧ MI w F vn a3 ∧ MII w F va a4)
theorem MP.marked {F : Nat → Prop} {w w' : World} {v : Value} {n : Nat} (h : MP w F v n) (m : Marked F w w') : MP w' F v n :=
  h.imp (fun _ _ _ h => m.free _ h) (fun _ _ _ ⟨vp, vc, vn, va, a1, a2, a3, a4, hl, h0, h1, h2, h3, h4, h5, k1, k2, k3, k4⟩ => ⟨vp, vc, vn, va, a1, a2, a3, a4, hl, m.keep _ _ h0 k1.not_int, m.keep _ _ h1 k2.not_int, h2.marked m, h3.marked m, m.keep _ _ h4 k3.not_int, m.keep _ _ h5 k4.not_int, k1.marked m, k2.marked m, k3.marked m, k4.marked m⟩)
/-- The blocks of F are as they were. -/
def Stay (F : Nat → Prop) (w w' : World) : Prop := ∀ b, F b → w'.heap[b]? = w.heap[b]?
theorem Stay.below {F : Nat → Prop} {w w' : World} (hF : ∀ b, F b → b < w.heap.size) (h : Below w.heap.size w w') : Stay F w w' := fun b hb => h.block b (hF b hb)
theorem Stay.cell {F : Nat → Prop} {w w' : World} (h : Stay F w w') {b o : Nat} (hb : F b) : w'.cell? ⟨b, o, none⟩ = w.cell? ⟨b, o, none⟩ := Rp.cell_move (h b hb) o
theorem Stay.free {F : Nat → Prop} {w w' : World} (h : Stay F w w') {b o : Nat} (hb : F b) (hf : w.frozen? ⟨b, o, none⟩ = false) : w'.frozen? ⟨b, o, none⟩ = false := (World.frozen?_of_block (w := w) (w' := w') (a := ⟨b, o, none⟩) (h b hb)).trans hf
theorem AnyI.stay {F : Nat → Prop} {w w' : World} {b o : Nat} (h : AnyI w b o) (m : Stay F w w') (hb : F b) : AnyI w' b o := let ⟨x, h⟩ := h; ⟨x, (m.cell hb).trans h⟩
theorem MI.stay {F : Nat → Prop} {w w' : World} {v : Value} {n : Nat} (h : MI w F v n) (m : Stay F w w') : MI w' F v n := h.imp (fun _ hb _ h => m.free hb h) (fun _ hb _ h => h.stay m hb)
theorem MF.stay {F : Nat → Prop} {w w' : World} {v : Value} {n : Nat} (h : MF w F v n) (m : Stay F w w') : MF w' F v n :=
  h.imp (fun _ hb _ h => m.free hb h) (fun _ hb _ ⟨h0, h1, h2, h3, h4, h5⟩ => ⟨h0.stay m hb, h1.stay m hb, h2.stay m hb, h3.stay m hb, h4.stay m hb, h5.stay m hb⟩)
theorem MII.stay {F : Nat → Prop} {w w' : World} {v : Value} {n : Nat} (h : MII w F v n) (m : Stay F w w') : MII w' F v n :=
  h.imp (fun _ hb _ h => m.free hb h) (fun _ hb _ ⟨u, a, h0, h1, h2⟩ => ⟨u, a, h0, (m.cell hb).trans h1, h2.stay m⟩)
theorem MP.stay {F : Nat → Prop} {w w' : World} {v : Value} {n : Nat} (h : MP w F v n) (m : Stay F w w') : MP w' F v n :=
  h.imp (fun _ hb _ h => m.free hb h) (fun _ hb _ ⟨vp, vc, vn, va, a1, a2, a3, a4, hl, h0, h1, h2, h3, h4, h5, k1, k2, k3, k4⟩ => ⟨vp, vc, vn, va, a1, a2, a3, a4, hl, (m.cell hb).trans h0, (m.cell hb).trans h1, h2.stay m hb, h3.stay m hb, (m.cell hb).trans h4, (m.cell hb).trans h5, k1.stay m, k2.stay m, k3.stay m, k4.stay m⟩)
/-- A row of one's own is such a row. -/
theorem Ow.rowP {α : Type} {ap : Bool} {e : Nat} {r : Rp α} {w : World} {F : Nat → Prop} {v : Value} {l : List α} (h : Ow ap e r w F v l) {P : Nat → Nat → Prop}
    (hp : ∀ (b k : Nat) (x : α) (cs : List Value), l[k]? = some x → r.K w F x cs → (∀ j u, cs[j]? = some u → w.cell? ⟨b, k * r.sz + j, none⟩ = some u) → P b k) : RowP w F v l.length P := by
  obtain ⟨A, c, rfl, h1, h2⟩ := h.form
  refine ⟨A, c, rfl, h1, h2, ?_⟩
  by_cases hn : l.length = 0
  · exact .inl hn
  obtain ⟨g, c0, cs0, he0, hF0, _, _, _, hz0⟩ := h.at_ (List.getElem?_eq_getElem (show 0 < l.length by omega))
  cases he0
  refine .inr ⟨g, rfl, hF0, hz0, fun k hk => ?_⟩
  obtain ⟨g1, c1, cs1, he1, _, _, hK, hc, _⟩ := h.at_ (List.getElem?_eq_getElem hk)
  cases he1
  exact hp g k _ cs1 (List.getElem?_eq_getElem hk) (r.mono (fun q hq => hq.1) hK) hc
theorem Ow.mi {ap : Bool} {e : Nat} {w : World} {F : Nat → Prop} {v : Value} {l : List Int} (h : Ow ap e Rp.int w F v l) : MI w F v l.length :=
  h.rowP (fun b k x cs _ hK hc => by
    obtain rfl := hK
    exact ⟨x, by have := hc 0 _ rfl; rwa [show k * Rp.int.sz + 0 = k from by show k * 1 + 0 = k; omega] at this⟩)
theorem Ow.mf {ap : Bool} {e : Nat} {w : World} {F : Nat → Prop} {v : Value} {l : List Fl} (h : Ow ap e flat w F v l) : MF w F v l.length :=
  h.rowP (fun b k x cs _ hK hc => by
    have hcs := flat_open hK
    subst hcs
    have hs : ∀ j, k * flat.sz + j = k * 6 + j := fun j => rfl
    exact ⟨⟨_, (hc 0 _ rfl)⟩, ⟨_, (hc 1 _ rfl)⟩, ⟨_, (hc 2 _ rfl)⟩, ⟨_, (hc 3 _ rfl)⟩, ⟨_, (hc 4 _ rfl)⟩, ⟨_, (hc 5 _ rfl)⟩⟩)
theorem Ow.mii {w : World} {F : Nat → Prop} {v : Value} {l : List (List Int)} (h : Ow true 35 (Rp.ow true 3 Rp.int) w F v l) (hl : ∀ a ∈ l, a.length ≤ 1048576) : MII w F v l.length :=
  h.rowP (fun b k x cs hx hK hc => by
    obtain ⟨u, rfl, hu⟩ := hK
    exact ⟨u, x.length, hl x (List.mem_of_getElem? hx), by have := hc 0 _ rfl; rwa [show k * (Rp.ow true 3 Rp.int).sz + 0 = k from by show k * 1 + 0 = k; omega] at this, hu.mi⟩)
end Go.Proofs.Ytmcnoeinjocimaa.L

set_option linter.unusedVariables false
set_option linter.unusedSimpArgs false
namespace Go.Proofs.Ytmcnoeinjocimaa.L
open Go.RowKit
set_option maxRecDepth 100000 in
set_option maxHeartbeats 4000000 in
theorem markI_calls {F : Nat → Prop} (v : Value) (n : Nat) (k : Int) (w : World) (h : MI w F v n) (hk : 0 ≤ k) (hk2 : k + n ≤ 4611686018427387904) :
    Calls Try.prog 23 #[v, .int .i64 k] w fun e w' => e = .returned (.int .i64 (k + n)) ∧ Marked F w w' := by
  obtain ⟨A, c, rfl, hc1, hc2, hrow⟩ := id h
  go_enter Try.func23, Try.ntmps23
  go_wp2
  go_loopw [1, 5] (fun z i wr => ∃ m : Nat, m ≤ n ∧ i = .int .i64 m ∧ z = .int .i64 (k + m) ∧ Marked F w wr) (fun _ i _ => n - (intOf i).toNat)
  case atStart => exact ⟨0, Nat.zero_le _, rfl, by go_num, Marked.refl _ _⟩
  case round =>
    obtain ⟨m, hm, rfl, rfl, HM⟩ := hrel
    rename World => wo
    by_cases hlt : m < n
    · rcases hrow with hnil | ⟨b, rfl, hF, hfz, hcell⟩
      · omega
      obtain ⟨x, hx⟩ := (hcell m hlt).marked HM
      have hz := HM.free _ (hfz m)
      have hS := HM.trans (Marked.set (k + m) hF hx)
      clear hcell hfz h
      have i0 : (0 : Int) ≤ (m : Int) := Int.natCast_nonneg _
      have i1 : (m : Int) < (n : Int) := by omega
      have t1 : IntKind.i64.wrap (k + m + 1) = k + m + 1 := IntWalk.i64_in _ (by omega)
      go_wp2
      go_roundw
      case rel => exact ⟨m + 1, by omega, by go_num, by go_num, hS⟩
      case measure => simp [intOf]; omega
    · obtain rfl : m = n := by omega
      go_wp2
      go_ret
      exact ⟨rfl, HM⟩
set_option maxRecDepth 100000 in
set_option maxHeartbeats 4000000 in
theorem markF_calls {F : Nat → Prop} (v : Value) (n : Nat) (k : Int) (w : World) (h : MF w F v n) (hk : 0 ≤ k) (hk2 : k + 6 * n ≤ 4611686018427387904) :
    Calls Try.prog 88 #[v, .int .i64 k] w fun e w' => e = .returned (.int .i64 (k + 6 * n)) ∧ Marked F w w' := by
  obtain ⟨A, c, rfl, hc1, hc2, hrow⟩ := id h
  go_enter Try.func88, Try.ntmps88
  go_wp2
  go_loopw [1, 5] (fun z i wr => ∃ m : Nat, m ≤ n ∧ i = .int .i64 m ∧ z = .int .i64 (k + 6 * m) ∧ Marked F w wr) (fun _ i _ => n - (intOf i).toNat)
  case atStart => exact ⟨0, Nat.zero_le _, rfl, by go_num, Marked.refl _ _⟩
  case round =>
    obtain ⟨m, hm, rfl, rfl, HM⟩ := hrel
    rename World => wo
    by_cases hlt : m < n
    · rcases hrow with hnil | ⟨b, rfl, hF, hfz, hcell⟩
      · omega
      obtain ⟨a0, a1, a2, a3, a4, a5⟩ := hcell m hlt
      have hz0 := HM.free _ (hfz (m * 6))
      have hz1 := HM.free _ (hfz (m * 6 + 1))
      have hz2 := HM.free _ (hfz (m * 6 + 2))
      have hz3 := HM.free _ (hfz (m * 6 + 3))
      have hz4 := HM.free _ (hfz (m * 6 + 4))
      have hz5 := HM.free _ (hfz (m * 6 + 5))
      obtain ⟨z, hz⟩ : ∃ z : Int, z = k + 6 * m := ⟨_, rfl⟩
      have m0 : 0 ≤ z := by omega
      have m1 : z + 6 ≤ 4611686018427387904 := by omega
      obtain ⟨x0, hx0⟩ := a0.marked HM
      have M1 := HM.trans (Marked.set z hF hx0)
      obtain ⟨x1, hx1⟩ := a1.marked M1
      have M2 := M1.trans (Marked.set (z + 1) hF hx1)
      obtain ⟨x2, hx2⟩ := a2.marked M2
      have M3 := M2.trans (Marked.set (z + 1 + 1) hF hx2)
      obtain ⟨x3, hx3⟩ := a3.marked M3
      have M4 := M3.trans (Marked.set (z + 1 + 1 + 1) hF hx3)
      obtain ⟨x4, hx4⟩ := a4.marked M4
      have M5 := M4.trans (Marked.set (z + 1 + 1 + 1 + 1) hF hx4)
      obtain ⟨x5, hx5⟩ := a5.marked M5
      have M6 := M5.trans (Marked.set (z + 1 + 1 + 1 + 1 + 1) hF hx5)
      clear hcell hfz h a0 a1 a2 a3 a4 a5 HM M1 M2 M3 M4 M5
      have HZ := Lib.hid hz
      rw [← hz]
      clear hz
      have i0 : (0 : Int) ≤ (m : Int) := Int.natCast_nonneg _
      have i1 : (m : Int) < (n : Int) := by omega
      have t1 : IntKind.i64.wrap (z + 1) = z + 1 := IntWalk.i64_in _ (by omega)
      have t2 : IntKind.i64.wrap (z + 1 + 1) = z + 1 + 1 := IntWalk.i64_in _ (by omega)
      have t3 : IntKind.i64.wrap (z + 1 + 1 + 1) = z + 1 + 1 + 1 := IntWalk.i64_in _ (by omega)
      have t4 : IntKind.i64.wrap (z + 1 + 1 + 1 + 1) = z + 1 + 1 + 1 + 1 := IntWalk.i64_in _ (by omega)
      have t5 : IntKind.i64.wrap (z + 1 + 1 + 1 + 1 + 1) = z + 1 + 1 + 1 + 1 + 1 := IntWalk.i64_in _ (by omega)
      have t6 : IntKind.i64.wrap (z + 1 + 1 + 1 + 1 + 1 + 1) = z + 1 + 1 + 1 + 1 + 1 + 1 := IntWalk.i64_in _ (by omega)
      go_wp2
      go_roundw
      case rel => exact ⟨m + 1, by omega, by go_num, by have := HZ.out; congr 1; push_cast; omega, M6⟩
      case measure => simp [intOf]; omega
    · obtain rfl : m = n := by omega
      go_wp2
      go_ret
      exact ⟨rfl, HM⟩
/-- The end of a marking: how far it counted. -/
inductive MarkRes (F : Nat → Prop) (w : World) (k b : Int) (e : Ending) (w' : World) : Prop where
  | mk (z : Int) (he : e = .returned (.int .i64 z)) (h1 : k ≤ z) (h2 : z ≤ b) (hM : Marked F w w') : MarkRes F w k b e w'
set_option maxRecDepth 100000 in
set_option maxHeartbeats 4000000 in
theorem markII_calls {F : Nat → Prop} (v : Value) (n : Nat) (k : Int) (w : World) (h : MII w F v n) (hk : 0 ≤ k) (hk2 : k + 1048576 * n ≤ 4611686018427387904) :
    Calls Try.prog 30 #[v, .int .i64 k] w (MarkRes F w k (k + 1048576 * n)) := by
  obtain ⟨A, c, rfl, hc1, hc2, hrow⟩ := id h
  go_enter Try.func30, Try.ntmps30
  go_wp2
  go_loopw [1, 5] (fun z i wr => ∃ (m : Nat) (y : Int), m ≤ n ∧ i = .int .i64 m ∧ z = .int .i64 y ∧ k ≤ y ∧ y ≤ k + 1048576 * m ∧ Marked F w wr) (fun _ i _ => n - (intOf i).toNat)
  case atStart => exact ⟨0, k, Nat.zero_le _, rfl, rfl, Int.le_refl _, by omega, Marked.refl _ _⟩
  case round =>
    obtain ⟨m, y, hm, rfl, rfl, hy1, hy2, HM⟩ := hrel
    rename World => wo
    by_cases hlt : m < n
    · rcases hrow with hnil | ⟨b, rfl, hF, hfz, hcell⟩
      · omega
      obtain ⟨u, a, ha, hu, hI⟩ := hcell m hlt
      have cu := HM.keep _ _ hu hI.not_int
      have HC := Lib.hid (markI_calls u a y wo (hI.marked HM) (by omega) (by omega))
      obtain ⟨Au, ku, rfl, _⟩ := id hI
      clear hcell hfz h hI hu
      have i0 : (0 : Int) ≤ (m : Int) := Int.natCast_nonneg _
      have i1 : (m : Int) < (n : Int) := by omega
      go_wp2_with fail
      refine HC.out.mono ?_
      rintro e w1 ⟨rfl, M1⟩
      have HM1 := HM.trans M1
      clear HC M1 cu HM
      go_wp2
      go_roundw
      case rel => exact ⟨m + 1, y + a, by omega, by go_num, rfl, by omega, by push_cast; omega, HM1⟩
      case measure => simp [intOf]; omega
    · obtain rfl : m = n := by omega
      go_wp2
      go_ret
      exact .mk _ rfl hy1 hy2 HM
set_option maxRecDepth 100000 in
set_option maxHeartbeats 4000000 in
theorem markP_calls {F : Nat → Prop} (v : Value) (n : Nat) (k : Int) (w : World) (h : MP w F v n) (hk : 0 ≤ k) (hk2 : k + 1099520017000 * n ≤ 4611686018427387904) :
    Calls Try.prog 56 #[v, .int .i64 k] w (MarkRes F w k (k + 1099520017000 * n)) := by
  obtain ⟨A, c, rfl, hc1, hc2, hrow⟩ := id h
  go_enter Try.func56, Try.ntmps56
  go_wp2
  go_loopw [1, 5] (fun z i wr => ∃ (m : Nat) (y : Int), m ≤ n ∧ i = .int .i64 m ∧ z = .int .i64 y ∧ k ≤ y ∧ y ≤ k + 1099520017000 * m ∧ Marked F w wr) (fun _ i _ => n - (intOf i).toNat)
  case atStart => exact ⟨0, k, Nat.zero_le _, rfl, rfl, Int.le_refl _, by omega, Marked.refl _ _⟩
  case round =>
    obtain ⟨m, y, hm, rfl, rfl, hy1, hy2, HM⟩ := hrel
    rename World => wo
    by_cases hlt : m < n
    · rcases hrow with hnil | ⟨b, rfl, hF, hfz, hcell⟩
      · omega
      obtain ⟨vp, vc, vn, va, a1, a2, a3, a4, ⟨l1, l2, l3, l4⟩, h0, h1, g2, g3, h4, h5, k1, k2, k3, k4⟩ := hcell m hlt
      have hz2 := hfz (m * 6 + 2)
      have hz3 := hfz (m * 6 + 3)
      have e0 := k1.not_int
      have e1 := k2.not_int
      have e4 := k3.not_int
      have e5 := k4.not_int
      clear hcell hfz h
      have i0 : (0 : Int) ≤ (m : Int) := Int.natCast_nonneg _
      have i1 : (m : Int) < (n : Int) := by omega
      have HC1 := Lib.hid (markI_calls vp a1 y wo (k1.marked HM) (by omega) (by omega))
      have x0 := HM.keep _ _ h0 e0
      have x1 := HM.keep _ _ h1 e1
      obtain ⟨Ap, cp, hvp, _⟩ := id k1
      obtain ⟨Ac, cc, hvc, _⟩ := id k2
      obtain ⟨An, cn, hvn, _⟩ := id k3
      obtain ⟨Aa, ca, hva, _⟩ := id k4
      rw [hvp] at HC1 x0
      go_wp2_with fail
      refine HC1.out.mono ?_
      rintro e w1 ⟨rfl, M1⟩
      have HM1 := HM.trans M1
      clear HC1 x0 x1 M1 HM
      have HC2 := Lib.hid (markF_calls vc a2 (y + a1) w1 (k2.marked HM1) (by omega) (by omega))
      have x1 := HM1.keep _ _ h1 e1
      rw [hvc] at HC2 x1
      go_wp2_with fail
      refine HC2.out.mono ?_
      rintro e w2 ⟨rfl, M2⟩
      have HM2 := HM1.trans M2
      clear HC2 x1 M2 HM1
      obtain ⟨z, hz⟩ : ∃ z : Int, z = y + a1 + 6 * a2 := ⟨_, rfl⟩
      have HZ := Lib.hid hz
      have z0 : 0 ≤ z := by omega
      have z1 : z ≤ y + 7340032 := by omega
      have z2 : y ≤ z := by omega
      rw [← hz]
      clear hz
      obtain ⟨u2, hu2⟩ := g2.marked HM2
      have hZ2 := HM2.free _ hz2
      have HM3 := HM2.trans (Marked.set z hF hu2)
      obtain ⟨u3, hu3⟩ := g3.marked HM3
      have hZ3 := HM2.free _ hz3
      have HM4 := HM3.trans (Marked.set (z + 1) hF hu3)
      have x4 := HM4.keep _ _ h4 e4
      have x5 := HM4.keep _ _ h5 e5
      have HC3 := Lib.hid (markI_calls vn a3 (z + 1 + 1) _ (k3.marked HM4) (by omega) (by omega))
      rw [hvn] at x4 HC3
      have t1 : IntKind.i64.wrap (z + 1) = z + 1 := IntWalk.i64_in _ (by omega)
      have t2 : IntKind.i64.wrap (z + 1 + 1) = z + 1 + 1 := IntWalk.i64_in _ (by omega)
      clear HM2 HM3
      go_wp2_with fail
      refine HC3.out.mono ?_
      rintro e w5 ⟨rfl, M5⟩
      have HM5 := HM4.trans M5
      clear HC3 x4 x5 HM4 M5
      have HC4 := Lib.hid (markII_calls va a4 (z + 1 + 1 + a3) _ (k4.marked HM5) (by omega) (by omega))
      have x5 := HM5.keep _ _ h5 e5
      rw [hva] at x5 HC4
      go_wp2_with fail
      refine HC4.out.mono ?_
      rintro e w6 ⟨y6, rfl, hy3, hy4, M6⟩
      have HM6 := HM5.trans M6
      clear HC4 x5 HM5 M6
      go_wp2
      go_roundw
      case rel => exact ⟨m + 1, y6, by omega, by go_num, rfl, by omega, by push_cast; omega, HM6⟩
      case measure => simp [intOf]; omega
    · obtain rfl : m = n := by omega
      go_wp2
      go_ret
      exact .mk _ rfl hy1 hy2 HM
set_option maxRecDepth 100000 in
set_option maxHeartbeats 4000000 in
theorem markSa_calls {F : Nat → Prop} (vparts V : Value) (n : Nat) (k : Int) (w : World) (h : MP w F vparts n) (hF : ∀ q, F q → q < w.heap.size) (hk : 0 ≤ k) (hk2 : k + 1099520017000 * n ≤ 4611686018427387904) :
    Calls Try.prog 22 #[.agg #[vparts, V], .int .i64 k] w fun e w' => ∃ z, e = .returned (.int .i64 z) ∧ 0 ≤ z ∧ Chg F w w' := by
  obtain ⟨A, c, rfl, hc1, hc2, hrow⟩ := id h
  have b0 := heap_alloc_new w (.cells #[.slice A n c, V] 29)
  have hB := below_new (w := w) (.cells #[.slice A n c, V] 29)
  have hC : Chg F w (w.alloc (.cells #[.slice A n c, V] 29)) := Chg.of_below hB
  have h1 : MP (w.alloc (.cells #[.slice A n c, V] 29)) F (.slice A n c) n := by
    exact h.stay (Stay.below hF hB)
  have HC := Lib.hid (markP_calls (.slice A n c) n k _ h1 hk hk2)
  obtain ⟨x, _⟩ := cell_of_block b0
  have x0 : (w.alloc (.cells #[.slice A n c, V] 29)).cell? ⟨w.heap.size, 0, none⟩ = some (.slice A n c) := (x 0).trans rfl
  clear x
  go_enter Try.func22, Try.ntmps22
  go_wp2_with fail
  refine HC.out.mono ?_
  rintro e w1 ⟨z, rfl, h1, h2, hM⟩
  have hC1 := hC.trans hM.chg
  clear HC x0 hM
  go_wp2
  go_ret
  exact ⟨_, rfl, by omega, hC1⟩
end Go.Proofs.Ytmcnoeinjocimaa.L

set_option linter.unusedVariables false
set_option linter.unusedSimpArgs false
namespace Go.Proofs.Ytmcnoeinjocimaa.L
open Go.RowKit
theorem Ow.mp {w : World} {F : Nat → Prop} {v : Value} {l : List Pt} (h : Ow true 54 partA w F v l) (hl : ∀ p ∈ l, PtLim p) : MP w F v l.length :=
  h.rowP (fun b k x cs hx hK hc => by
    obtain ⟨G0, G1, G2, G3, i0, i1, i2, i3, -, -, -, -, -, -, vp, vc, vn, va, rfl, h0, h1, h2, h3⟩ := partA_open hK
    obtain ⟨l0, l1, l2, l3, l4⟩ := hl x (List.mem_of_getElem? hx)
    exact ⟨vp, vc, vn, va, _, _, _, _, ⟨l0, l1, l2, l3⟩, hc 0 _ rfl, hc 1 _ rfl, ⟨_, hc 2 _ rfl⟩, ⟨_, hc 3 _ rfl⟩, hc 4 _ rfl, hc 5 _ rfl, (h0.mono i0).mi, (h1.mono i1).mf, (h2.mono i2).mi, (h3.mono i3).mii l4⟩)
/-- The marks. -/
def upL (k : Int) (n : Nat) : List Int := (List.range n).map (fun i : Nat => k + i)
theorem upL_len (k : Int) (n : Nat) : (upL k n).length = n := by unfold upL; simp
theorem upL_succ (k : Int) (n : Nat) : upL k (n + 1) = upL k n ++ [k + n] := by unfold upL; rw [List.range_succ, List.map_append]; rfl
theorem upL_get {k : Int} {n i : Nat} (hi : i < (upL k n).length) : (upL k n)[i] = k + i := by simp [upL]
theorem up_set {k : Int} {m : Nat} {l : List Int} (hm : m < l.length) : (upL k m ++ l.drop m).set m (k + m) = upL k (m + 1) ++ l.drop (m + 1) := by
  rw [upL_succ, List.append_assoc, List.drop_eq_getElem_cons hm, List.set_append_right _ _ (by rw [upL_len]; exact Nat.le_refl _), upL_len, Nat.sub_self, List.set_cons_zero]
  rfl
set_option maxRecDepth 100000 in
set_option maxHeartbeats 4000000 in
theorem markI_own {ap : Bool} {e0 : Nat} {F : Nat → Prop} (v : Value) (l : List Int) (k : Int) (w : World) (h : Ow ap e0 Rp.int w F v l) (hk : 0 ≤ k) (hk2 : k + l.length ≤ 4611686018427387904) :
    Calls Try.prog 23 #[v, .int .i64 k] w fun e w' => e = .returned (.int .i64 (k + l.length)) ∧ Ow ap e0 Rp.int w' F v (upL k l.length) ∧ Chg F w w' := by
  obtain ⟨A, c, rfl, hc1, hc2⟩ := h.form
  have hA : l.length = 0 ∨ ∃ g, A = some ⟨g, 0, none⟩ ∧ F g := by
    by_cases hn : l.length = 0
    · exact .inl hn
    obtain ⟨g, c0, cs0, he0, hF0, _, _, _, hz0⟩ := h.at_ (List.getElem?_eq_getElem (show 0 < l.length by omega))
    cases he0
    exact .inr ⟨g, rfl, hF0⟩
  generalize hN : l.length = N at *
  go_enter Try.func23, Try.ntmps23
  go_wp2
  go_loopw [1, 5] (fun z i wr => ∃ m : Nat, m ≤ N ∧ i = .int .i64 m ∧ z = .int .i64 (k + m) ∧ Ow ap e0 Rp.int wr F (.slice A N c) (upL k m ++ l.drop m) ∧ Chg F w wr) (fun _ i _ => N - (intOf i).toNat)
  case atStart => exact ⟨0, Nat.zero_le _, rfl, by go_num, h, Chg.refl _ _⟩
  case round =>
    obtain ⟨m, hm, rfl, rfl, HO, HM⟩ := hrel
    rename World => wo
    by_cases hlt : m < N
    · rcases hA with hA | ⟨g, rfl, hF0⟩
      · omega
      have hml : m < (upL k m ++ l.drop m).length := by rw [List.length_append, upL_len, List.length_drop]; omega
      have HS := HO.set1 rfl hml (y := k + m) (u := .int .i64 (k + m)) rfl
      rw [up_set (by omega)] at HS
      have hC := HM.trans (Chg.set (w := wo) (o := m) (u := .int .i64 (k + m)) hF0)
      obtain ⟨hx, hz⟩ := HO.int_at hml
      clear HO HM h
      generalize (upL k m ++ l.drop m)[m] = x at *
      have i0 : (0 : Int) ≤ (m : Int) := Int.natCast_nonneg _
      have i1 : (m : Int) < (N : Int) := by omega
      have t1 : IntKind.i64.wrap (k + m + 1) = k + m + 1 := IntWalk.i64_in _ (by omega)
      go_wp2
      go_roundw
      case rel => exact ⟨m + 1, by omega, by go_num, by go_num, HS, hC⟩
      case measure => simp [intOf]; omega
    · obtain rfl : m = N := by omega
      rw [← hN, List.drop_length, List.append_nil, hN] at HO
      go_wp2
      go_ret
      exact ⟨rfl, HO, HM⟩
set_option maxRecDepth 100000 in
set_option maxHeartbeats 4000000 in
theorem heldI_calls {F : Nat → Prop} (v : Value) (n : Nat) (k : Int) (w : World) (h : Rp.Rd Rp.int w F v (upL k n)) (hk : 0 ≤ k) (hk2 : k + n ≤ 4611686018427387904) :
    Calls Try.prog 24 #[v, .int .i64 k] w fun e w' => e = .returned (.int .i64 (k + n)) ∧ w = w' := by
  obtain ⟨A, c, rfl, hc1, hc2, hrow⟩ := rd_int h
  have hl : (upL k n).length = n := upL_len k n
  have hrow : n = 0 ∨ ∃ b o, A = some ⟨b, o, none⟩ ∧ b < w.heap.size ∧ ∀ m : Nat, m < n → w.cell? ⟨b, o + m, none⟩ = some (.int .i64 (k + m)) := by
    rcases hrow with hnil | ⟨b, o, e, hb, hc⟩
    · left; rw [hnil] at hl; simpa using hl.symm
    · exact .inr ⟨b, o, e, hb, fun m hm => by have := hc m (by omega); rwa [upL_get] at this⟩
  rw [hl]
  rw [hl] at hc1
  go_enter Try.func24, Try.ntmps24
  go_wp2
  go_loop [1, 5] (fun z i => ∃ m : Nat, m ≤ n ∧ i = .int .i64 m ∧ z = .int .i64 (k + m)) (fun _ i => n - (intOf i).toNat)
  case atStart => exact ⟨0, Nat.zero_le _, rfl, by go_num⟩
  case round =>
    obtain ⟨m, hm, rfl, rfl⟩ := hrel
    by_cases hlt : m < n
    · rcases hrow with hnil | ⟨b, o, rfl, hb, hcell⟩
      · omega
      have hx := hcell m hlt
      clear hcell h hl
      have i0 : (0 : Int) ≤ (m : Int) := Int.natCast_nonneg _
      have i1 : (m : Int) < (n : Int) := by omega
      have t1 : IntKind.i64.wrap (k + m + 1) = k + m + 1 := IntWalk.i64_in _ (by omega)
      have hne : ((k + (m : Int)) != (k + (m : Int))) = false := by simp
      go_wp2
      go_round
      case rel => exact ⟨m + 1, by omega, by go_num, by go_num⟩
      case measure => simp [intOf]; omega
    · obtain rfl : m = n := by omega
      go_wp2
      go_ret
      exact ⟨rfl, rfl⟩
theorem toSsa_rd2 {F : Nat → Prop} (x : Sa) (vparts : Value) (w : World) (hparts : Rp.Rd part w F vparts x.parts) (hx : SaLim x) :
    Calls Try.prog 14 #[saV x vparts] w fun e w' => ∃ vparts', e = .returned (saV x vparts') ∧ Ow true 54 partA w' (fun k => w.heap.size ≤ k) vparts' x.parts ∧ Below w.heap.size w w' := by
  refine (toSsa_calls x vparts w hparts hx).mono ?_
  rintro e w' ⟨v', rfl, hK, hb⟩
  obtain ⟨G0, h0, v2, h1, h2⟩ := ssaA_open hK
  simp only [List.cons.injEq, and_true] at h1
  obtain rfl := h1
  exact ⟨v', rfl, h2.mono h0, hb⟩
end Go.Proofs.Ytmcnoeinjocimaa.L

set_option linter.unusedVariables false
set_option linter.unusedSimpArgs false
namespace Go.Proofs.Ytmcnoeinjocimaa.L
open Go.RowKit
theorem defs_eq {s : Sa} {D T : List Int} {M : List (List Bool)} (h : GoodV s D T M) : (defsS s).getD [] = List.replicate 12 0 ++ D.drop 12 ∧ (D.length : Int) = s.values := by
  obtain ⟨h1, h2, S, h3, h4⟩ := (sim_parts h.v1 s.parts 0 _ _ (List.replicate s.values.toNat 0) (by omega) (rel0 h.v1)).1 D T h.ps
  have hd : defsS s = some S := h3
  have hv := h.v1
  have hl1 := h4.l1
  have hl2 := h4.l2
  rw [hd]
  refine ⟨?_, hl2⟩
  show S = _
  apply List.ext_getElem
  · rw [List.length_append, List.length_replicate, List.length_drop]; omega
  intro i a b
  have e : S[i] = S.getD i 0 := by rw [List.getD_eq_getElem?_getD, List.getElem?_eq_getElem a]; rfl
  rw [e]
  by_cases hi : i < 12
  · rw [h4.lo i hi, List.getElem_append_left (by rw [List.length_replicate]; exact hi), List.getElem_replicate]
  · rw [h4.hi i (by omega), List.getElem_append_right (by rw [List.length_replicate]; omega), List.getElem_drop, List.getD_eq_getElem?_getD]
    simp only [List.length_replicate]
    have hi2 : 12 + (i - 12) = i := by omega
    rw [List.getElem?_eq_getElem (show i < D.length by omega)]
    simp only [hi2, Option.getD_some]
end Go.Proofs.Ytmcnoeinjocimaa.L

set_option linter.unusedVariables false
set_option linter.unusedSimpArgs false
namespace Go.Proofs.Ytmcnoeinjocimaa.L
open Go.RowKit
/-- A list of an ssa, and whether it is good. -/
inductive ListRes (G : Prop) (L : List Int) (w : World) (e : Ending) (w' : World) : Prop where
  | mk (g : Bool) (v : Value) (hg : Hid (g = true ↔ G)) (he : e = .returned (.tuple #[v, .bool g])) (hv : Ow true 3 Rp.int w' (fun q => w.heap.size ≤ q) v (if g = true then L else [])) (hb : Below w.heap.size w w') : ListRes G L w e w'
set_option maxRecDepth 100000 in
set_option maxHeartbeats 4000000 in
theorem defsOfS_calls {F : Nat → Prop} (s : Sa) (vparts : Value) (w : World) (hs : Rp.Rd part w F vparts s.parts) (hx1 : s.parts.length ≤ 1048576) (hx2 : ∀ p ∈ s.parts, PtLim p) :
    Calls Try.prog 19 #[saV s vparts] w (ListRes (GoodP s) ((defsS s).getD []) w) := by
  obtain ⟨A, c, rfl, hlc, hcm, hrow⟩ := rd_part hs
  have HG := Lib.hid (fun W (hW : Below w.heap.size w W) => goodS_calls s _ W (hs.below hW) hx1 hx2)
  have HD := Lib.hid (fun W (hW : Below w.heap.size w W) (h : GoodP s) => l9Defs_calls s _ W (hs.below hW) hx1 hx2 h.v1 h.v2)
  unfold saV at HG HD ⊢
  have hB0 : Below w.heap.size w (w.alloc (.cells #[.slice A s.parts.length c, .int .i64 s.values] 29)) := below_new _
  have b0 := heap_alloc_new w (.cells #[.slice A s.parts.length c, .int .i64 s.values] 29)
  go_enter Try.func19, Try.ntmps19
  go_wp2_with fail
  refine (HG.out _ hB0).mono ?_
  rintro e w1 ⟨g, rfl, hg, hb1⟩
  have hB1 := below_then hB0 hb1
  have b1 := blk_below b0 hb1
  clear hb1 b0 hB0 HG
  cases g
  · go_wp2
    refine bodyPost_ret (v := .tuple #[.slice none 0 0, .bool false]) (by simp [results, Try.results19, go_sem]) rfl ?_
    exact .mk false _ hg rfl (Ow.nil _ _ _ _ _) hB1
  have hgp := Lib.hid (hg.out.1 rfl)
  obtain ⟨v0, _⟩ := cell_of_block b1
  have x0 : w1.cell? ⟨w.heap.size, 0, none⟩ = some (.slice A s.parts.length c) := (v0 0).trans rfl
  have x1 : w1.cell? ⟨w.heap.size, 1, none⟩ = some (.int .i64 s.values) := (v0 1).trans rfl
  clear v0
  go_wp2_with fail
  refine (HD.out _ hB1 hgp.out).mono ?_
  rintro e w2 ⟨v, rfl, hv, hb2⟩
  have hB2 := below_then hB1 hb2
  have hS := hB1.size
  go_wp2
  refine bodyPost_ret (v := .tuple #[v, .bool true]) (by simp [results, Try.results19, go_sem]) rfl ?_
  exact .mk true _ (Lib.hid ⟨fun _ => hgp.out, fun _ => rfl⟩) rfl (by rw [if_pos rfl]; exact hv.mono (fun q hq => Nat.le_trans hS hq)) hB2
theorem zeroInt (w : World) : (zeroValue 3).run Try.prog w = .ok (.int .i64 0) w := by
  obtain ⟨i, hi, hzz⟩ := Option.map_eq_some_iff.1 infoInt
  simp only [Prod.mk.injEq] at hzz
  simp [zeroValue, typeInfo, hi, hzz.1]
theorem setCells_chg (g : Nat) : ∀ (vs : List Value) (o : Nat) (w : World), Chg (fun q => q = g) w (w.setCells g o vs)
  | [], _, w => Chg.refl _ _
  | v :: r, o, w => (Chg.set (A := fun q => q = g) rfl).trans (setCells_chg g r (o + 1) (w.setCell ⟨g, o, none⟩ v))
theorem setInts_ow {ap : Bool} {e g n k : Nat} {F : Nat → Prop} {c : List Int} : ∀ {b a : List Int} {w : World}, Ow ap e Rp.int w F (.slice (some ⟨g, 0, none⟩) n k) (a ++ b ++ c) → True →
    Ow ap e Rp.int (w.setCells g a.length (List.replicate b.length (.int .i64 0))) F (.slice (some ⟨g, 0, none⟩) n k) (a ++ List.replicate b.length 0 ++ c)
  | [], a, w, h, _ => h
  | x :: b, a, w, h, _ => by
    have hs := h.set1 rfl (i := a.length) (by simp) (y := 0) (u := .int .i64 0) rfl
    have he : (a ++ (x :: b) ++ c).set a.length 0 = (a ++ [0]) ++ b ++ c := by simp
    rw [he] at hs
    have := setInts_ow hs trivial
    rw [List.length_append, List.length_singleton] at this
    show Ow ap e Rp.int ((w.setCell ⟨g, a.length, none⟩ (.int .i64 0)).setCells g (a.length + 1) (List.replicate b.length (.int .i64 0))) F _ _
    have e2 : a ++ List.replicate (x :: b).length 0 ++ c = a ++ [0] ++ List.replicate b.length 0 ++ c := by simp [List.replicate_succ]
    rw [e2]
    exact this
set_option maxRecDepth 100000 in
set_option maxHeartbeats 4000000 in
theorem defsOfI_calls {F : Nat → Prop} (s : Sa) (vparts : Value) (w : World) (hs : Rp.Rd part w F vparts s.parts) (hx1 : s.parts.length ≤ 1048576) (hx2 : ∀ p ∈ s.parts, PtLim p) :
    Calls Try.prog 20 #[saV s vparts] w (ListRes (∃ D T M, GoodV s D T M) ((defsS s).getD []) w) := by
  obtain ⟨A, c, rfl, _, _, _⟩ := rd_part hs
  have HC := Lib.hid (fun W (hW : Below w.heap.size w W) => viewOf_calls s _ W (hs.below hW) hx1 hx2)
  unfold saV at HC ⊢
  have hB0 : Below w.heap.size w (w.alloc (.cells #[.slice A s.parts.length c, .int .i64 s.values] 29)) := below_new _
  have hz0 : (w.alloc (.cells #[.slice A s.parts.length c, .int .i64 s.values] 29)).heap.size = w.heap.size + 1 := by simp
  go_enter Try.func20, Try.ntmps20
  go_wp2_with fail
  refine (HC.out _ hB0).mono ?_
  rintro e w1 (⟨rfl, hn, hb⟩ | ⟨vb, D, T, M, vn, vd, vD, vT, rfl, hv, hz, hD, hT, hM, hN, hg, hb⟩)
  · have HN : Hid (false = true ↔ ∃ D T M, GoodV s D T M) := Lib.hid ⟨fun h => Bool.noConfusion h, fun h => absurd h hn.out⟩
    have hb2 := below_then hB0 hb
    clear hn
    go_wp2
    refine bodyPost_ret (v := .tuple #[.slice none 0 0, .bool false]) (by simp [results, Try.results20, go_sem]) rfl ?_
    exact .mk false _ HN rfl (Ow.nil _ _ _ _ _) hb2
  · have HN : Hid (true = true ↔ ∃ D T M, GoodV s D T M) := Lib.hid ⟨fun _ => ⟨D, T, M, hg.out⟩, fun _ => rfl⟩
    have hb2 := below_then hB0 hb
    have HE := Lib.hid (defs_eq hg.out).1
    have hl := (defs_eq hg.out).2
    have hv1 := hg.out.v1
    have hv2 := hg.out.v2
    clear hg hT hM hN
    obtain ⟨gd, cd, rfl, hF, _⟩ := hD.some_form (by omega)
    obtain ⟨c0, c1, c2, c3, c4, c5⟩ := view_cells hv
    have j0 : (12 : Int) ≤ (D.length : Int) := by omega
    obtain ⟨_, _, hfe, hcd, hcm⟩ := hD.form
    cases hfe
    have j1 : (12 : Int) ≤ (cd : Int) := by omega
    have hgd : w.heap.size ≤ gd ∧ gd ≠ vb := by have := hF.1; have := hF.2; rw [hz0] at *; omega
    have hD1 := hD.int_own
    have hget : ∀ j, j < 12 → ∃ y, w1.cell? ⟨gd, 0 + j, none⟩ = some (.int .i64 y) ∧ w1.frozen? ⟨gd, 0 + j, none⟩ = false := fun j hj => by
      obtain ⟨d1, d2⟩ := hD.int_at (show j < D.length by omega)
      rw [Nat.zero_add]
      exact ⟨_, d1, d2⟩
    have hcl := Lib.run_clear_slice (P := Try.prog) w1 35 3 0 (.int .i64 0) Try.underlying35 zeroInt rfl rfl gd 0 12 cd (by omega) (fun q hq => by obtain ⟨y, h, _⟩ := hget q hq; rw [h]; rfl) (fun q hq => (hget q hq).choose_spec.2)
    have hCh := setCells_chg gd (List.replicate 12 (.int .i64 0)) 0 w1
    have hOw := setInts_ow (a := []) (b := D.take 12) (c := D.drop 12) (w := w1) (by rw [List.nil_append, List.take_append_drop]; exact hD1) trivial
    have htl : (D.take 12).length = 12 := by rw [List.length_take]; omega
    rw [htl, List.nil_append] at hOw
    simp only [List.length_nil] at hOw
    have hv2 := hCh.blk hv (fun h => hgd.2 h.symm)
    have hB3 := hCh.to_below hb2 hb2.size (fun q hq => by have hq : q = gd := hq; omega)
    clear hget
    generalize w1.setCells gd 0 (List.replicate 12 (.int .i64 0)) = w2 at *
    obtain ⟨e0, e1, e2, e3, e4, e5⟩ := view_cells hv2
    replace hcl := hcl
    go_wp2
    refine bodyPost_ret (v := .tuple #[.slice (some ⟨gd, 0, none⟩) D.length cd, .bool true]) (by simp [results, Try.results20, go_sem]) rfl ?_
    exact .mk true _ (Lib.hid ⟨fun _ => HN.out.1 trivial, fun _ => rfl⟩) rfl (by rw [if_pos rfl, HE.out]; exact hOw.mono (fun q hq => by have hq : q = gd := hq; omega)) hB3
end Go.Proofs.Ytmcnoeinjocimaa.L

set_option linter.unusedVariables false
set_option linter.unusedSimpArgs false
namespace Go.Proofs.Ytmcnoeinjocimaa.L
open Go.RowKit
theorem GoodP.static {s : Sa} (h : GoodP s) {p : Pt} (hp : p ∈ s.parts) : staticI s p = true := (static_iff h.v1).2 ⟨h.nx p hp, h.pt p hp⟩
theorem static_args {s : Sa} {p : Pt} (h : staticI s p = true) : p.next.length ≤ p.args.length := by
  unfold staticI at h
  simp only [Bool.and_eq_true] at h
  obtain ⟨⟨⟨hc, hg⟩, h0⟩, ha⟩ := h
  unfold argsS at ha
  split at ha
  · rename_i h3
    unfold goB at hg
    simp only [Bool.and_eq_true] at hg
    have hg := hg.2
    rw [beq_iff_eq] at h3
    rw [h3] at hg
    have h0 : p.next.length = 0 := by simpa using hg
    omega
  · rw [fitS_len _ _ _ ha]; exact Nat.le_refl _
def edgesN (l : List Pt) (k : Int) : Nat := (l.map (fun p : Pt => p.next.count k)).sum
theorem edgesN_take {l : List Pt} {j : Nat} (hj : j < l.length) (k : Int) : edgesN (l.take (j + 1)) k = edgesN (l.take j) k + l[j].next.count k := by
  unfold edgesN
  rw [List.take_succ_eq_append_getElem hj, List.map_append, List.sum_append]; simp
theorem count_take {l : List Int} {j : Nat} (hj : j < l.length) (k : Int) : (l.take (j + 1)).count k = (l.take j).count k + (if l[j] = k then 1 else 0) := by
  rw [List.take_succ_eq_append_getElem hj, List.count_append, List.count_singleton]
  by_cases h : l[j] = k <;> simp [h]
theorem edgesN_le {l : List Pt} {k : Int} (h : ∀ p ∈ l, p.next.length ≤ 1048576) : edgesN l k ≤ l.length * 1048576 := by
  induction l with
  | nil => simp [edgesN]
  | cons p t ih =>
    have h1 := ih (fun q hq => h q (List.mem_cons_of_mem _ hq))
    have h2 := h p List.mem_cons_self
    have h3 := List.count_le_length (a := k) (l := p.next)
    unfold edgesN at h1 ⊢
    simp only [List.map_cons, List.sum_cons, List.length_cons, Nat.succ_mul]
    omega
/-- An edge is critical and has Args. -/
def critB (l : List Pt) (p : Pt) (i : Nat) : Bool := decide (1 < p.next.length) && decide (1 < edgesN l (p.next.getD i 0)) && decide (0 < (p.args.getD i []).length)
def splitB (s : Sa) : Bool := s.parts.all (fun p => (List.range p.next.length).all (fun i => !critB s.parts p i))
end Go.Proofs.Ytmcnoeinjocimaa.L

set_option linter.unusedVariables false
set_option linter.unusedSimpArgs false
namespace Go.Proofs.Ytmcnoeinjocimaa.L
open Go.RowKit
/-- A value is needed ahead of a part. -/
inductive LvI (s : Sa) : Nat → Int → Prop
  | own {k : Nat} {p : Pt} {v : Int} (hp : s.parts[k]? = some p) (h : v ∈ endsS p ∨ v ∈ p.code.flatMap usesS) (hn : v ∉ ownS p) : LvI s k v
  | flow {k : Nat} {p : Pt} {x v : Int} (hp : s.parts[k]? = some p) (hx : x ∈ p.next) (h : LvI s x.toNat v) (hn : v ∉ ownS p) : LvI s k v
/-- A value is needed behind a part, given what is needed ahead of each. -/
def BhP (I : Nat → Int → Prop) (p : Pt) (v : Int) : Prop := v ∈ endsS p ∨ ∃ x ∈ p.next, I x.toNat v
def LvO (s : Sa) (k : Nat) (v : Int) : Prop := ∃ p, s.parts[k]? = some p ∧ BhP (LvI s) p v
/-- .. and ahead of it. -/
def AhP (I : Nat → Int → Prop) (p : Pt) (v : Int) : Prop := (BhP I p v ∨ v ∈ p.code.flatMap usesS) ∧ v ∉ ownS p
theorem LvI.ah {s : Sa} {k : Nat} {v : Int} (h : LvI s k v) : ∃ p, s.parts[k]? = some p ∧ AhP (LvI s) p v := by
  cases h with
  | own hp h hn => exact ⟨_, hp, by rcases h with h | h; exact .inl (.inl h); exact .inr h, hn⟩
  | flow hp hx h hn => exact ⟨_, hp, .inl (.inr ⟨_, hx, h⟩), hn⟩
theorem LvI.of_ah {s : Sa} {k : Nat} {p : Pt} {v : Int} (hp : s.parts[k]? = some p) (h : AhP (LvI s) p v) : LvI s k v := by
  obtain ⟨(h | ⟨x, hx, h⟩) | h, hn⟩ := h
  · exact .own hp (.inl h) hn
  · exact .flow hp hx h hn
  · exact .own hp (.inr h) hn
theorem BhP.mono {I J : Nat → Int → Prop} {p : Pt} {v : Int} (h : BhP I p v) (hIJ : ∀ k v, I k v → J k v) : BhP J p v := by
  rcases h with h | ⟨x, hx, h⟩
  · exact .inl h
  · exact .inr ⟨x, hx, hIJ _ _ h⟩
theorem AhP.mono {I J : Nat → Int → Prop} {p : Pt} {v : Int} (h : AhP I p v) (hIJ : ∀ k v, I k v → J k v) : AhP J p v :=
  ⟨h.1.imp (fun h => h.mono hIJ) id, h.2⟩
/-- What holds no more than is needed, and all that its own rules ask, is what is needed. -/
theorem LvI.least {s : Sa} {I : Nat → Int → Prop} (hc : ∀ (k : Nat) (p : Pt), s.parts[k]? = some p → ∀ v, AhP I p v → I k v) : ∀ {k v}, LvI s k v → I k v := by
  intro k v h
  induction h with
  | own hp h hn => exact hc _ _ hp _ ⟨by rcases h with h | h; exact .inl (.inl h); exact .inr h, hn⟩
  | flow hp hx h hn ih => exact hc _ _ hp _ ⟨.inl (.inr ⟨_, hx, ih⟩), hn⟩
/-- Lists that grow. -/
def Inc (l : List Int) : Prop := l.Pairwise (· < ·)
theorem Inc.nil : Inc [] := List.Pairwise.nil
theorem Inc.putL {l : List Int} (h : Inc l) (n : Int) : Inc (putL l n) := by
  induction l with
  | nil => exact List.pairwise_singleton _ _
  | cons x t ih =>
    obtain ⟨h1, h2⟩ := List.pairwise_cons.1 h
    simp only [L.putL]
    split
    · refine List.pairwise_cons.2 ⟨fun y hy => ?_, ih h2⟩
      rcases (mem_putL t n y).1 hy with rfl | hy
      · assumption
      · exact h1 y hy
    · split
      · exact h
      · refine List.pairwise_cons.2 ⟨fun y hy => ?_, h⟩
        rcases List.mem_cons.1 hy with rfl | hy
        · omega
        · have := h1 y hy; omega
theorem Inc.foldl {l : List Int} : ∀ {m : List Int}, Inc m → Inc (l.foldl L.putL m) := by
  induction l with
  | nil => intro m h; exact h
  | cons x t ih => intro m h; exact ih (h.putL x)
theorem mem_foldl_putL {l : List Int} : ∀ {m : List Int} {v : Int}, v ∈ l.foldl putL m ↔ v ∈ l ∨ v ∈ m := by
  induction l with
  | nil => intro m v; simp
  | cons x t ih =>
    intro m v
    rw [List.foldl_cons, ih, mem_putL, List.mem_cons]
    constructor
    · rintro (h | h | h); exact .inl (.inr h); exact .inl (.inl h); exact .inr h
    · rintro ((h | h) | h); exact .inr (.inl h); exact .inl h; exact .inr (.inr h)
theorem Inc.filter {l : List Int} (h : Inc l) (f : Int → Bool) : Inc (l.filter f) := List.Pairwise.filter f h
theorem Inc.ext {l m : List Int} (hl : Inc l) (hm : Inc m) (h : ∀ v, v ∈ l ↔ v ∈ m) : l = m := by
  induction l generalizing m with
  | nil => cases m with
    | nil => rfl
    | cons y t => exact absurd ((h y).2 List.mem_cons_self) (by simp)
  | cons x t ih =>
    cases m with
    | nil => exact absurd ((h x).1 List.mem_cons_self) (by simp)
    | cons y u =>
      obtain ⟨a1, a2⟩ := List.pairwise_cons.1 hl
      obtain ⟨b1, b2⟩ := List.pairwise_cons.1 hm
      have hxy : x = y := by
        rcases List.mem_cons.1 ((h x).1 List.mem_cons_self) with e | e
        · exact e
        · rcases List.mem_cons.1 ((h y).2 List.mem_cons_self) with e2 | e2
          · exact e2.symm
          · have := b1 x e; have := a1 y e2; omega
      subst hxy
      congr 1
      refine ih a2 b2 fun v => ⟨fun hv => ?_, fun hv => ?_⟩
      · rcases List.mem_cons.1 ((h v).1 (List.mem_cons_of_mem _ hv)) with e | e
        · subst e; exact absurd (a1 v hv) (by omega)
        · exact e
      · rcases List.mem_cons.1 ((h v).2 (List.mem_cons_of_mem _ hv)) with e | e
        · subst e; exact absurd (b1 v hv) (by omega)
        · exact e
/-- A list that grows, of values below a bound. -/
theorem Inc.length_le {l : List Int} (h : Inc l) {V : Int} (hV : 0 ≤ V) (h0 : ∀ v ∈ l, 0 ≤ v ∧ v < V) : (l.length : Int) ≤ V := by
  have key : ∀ (l : List Int) (a : Int), Inc l → (∀ v ∈ l, a ≤ v ∧ v < V) → a ≤ V → a + l.length ≤ V := by
    intro l
    induction l with
    | nil => intro a _ _ h; simpa using h
    | cons x t ih =>
      intro a hi hr ha
      obtain ⟨h1, h2⟩ := List.pairwise_cons.1 hi
      have hx := hr x List.mem_cons_self
      have := ih (x + 1) h2 (fun v hv => ⟨by have := h1 v hv; omega, (hr v (List.mem_cons_of_mem _ hv)).2⟩) (by omega)
      rw [List.length_cons]; omega
  have := key l 0 h (fun v hv => h0 v hv) hV
  omega
theorem Inc.sub_eq {l m : List Int} (hl : Inc l) (hm : Inc m) (h : ∀ v ∈ l, v ∈ m) (hn : m.length ≤ l.length) : l = m := by
  induction l generalizing m with
  | nil => cases m with
    | nil => rfl
    | cons y t => simp at hn
  | cons x t ih =>
    cases m with
    | nil => exact absurd (h x List.mem_cons_self) (by simp)
    | cons y u =>
      obtain ⟨a1, a2⟩ := List.pairwise_cons.1 hl
      obtain ⟨b1, b2⟩ := List.pairwise_cons.1 hm
      simp only [List.length_cons] at hn
      have ht : ∀ v ∈ t, v ∈ u := fun v hv => by
        rcases List.mem_cons.1 (h v (List.mem_cons_of_mem _ hv)) with e | e
        · rcases List.mem_cons.1 (h x List.mem_cons_self) with e2 | e2
          · have := a1 v hv; omega
          · have := a1 v hv; have := b1 x e2; omega
        · exact e
      have htu := ih a2 b2 ht (by omega)
      subst htu
      rcases List.mem_cons.1 (h x List.mem_cons_self) with e | e
      · rw [e]
      · exact absurd (a1 x e) (by omega)
open Classical in
/-- A set as a list. -/
noncomputable def listP (P : Int → Prop) (V : Nat) : List Int := ((List.range V).map (fun n : Nat => (n : Int))).filter (fun v => decide (P v))
theorem listP_inc (P : Int → Prop) (V : Nat) : Inc (listP P V) := by
  unfold listP
  refine Inc.filter ?_ _
  unfold Inc
  rw [List.pairwise_map]
  exact List.pairwise_lt_range.imp (fun h => by omega)
theorem mem_listP {P : Int → Prop} {V : Nat} {v : Int} : v ∈ listP P V ↔ (0 ≤ v ∧ v < V) ∧ P v := by
  unfold listP
  rw [List.mem_filter, List.mem_map]
  constructor
  · rintro ⟨⟨n, hn, rfl⟩, h2⟩
    exact ⟨⟨by omega, by have := List.mem_range.1 hn; omega⟩, by simpa using h2⟩
  · rintro ⟨⟨h1, h2⟩, h3⟩
    exact ⟨⟨v.toNat, List.mem_range.2 (by omega), by omega⟩, by simpa using h3⟩
end Go.Proofs.Ytmcnoeinjocimaa.L

set_option linter.unusedVariables false
set_option linter.unusedSimpArgs false
namespace Go.Proofs.Ytmcnoeinjocimaa.L
open Go.RowKit
theorem GoodP.rel {s : Sa} (h : GoodP s) : ∃ D T S, defsS s = some S ∧ Rel s.values S D ∧ partsI s 0 s.parts (List.replicate s.values.toNat (-1)) (List.replicate s.values.toNat 0) = some (D, T) := by
  obtain ⟨D, T, M, hg⟩ := (good_iff s).2 h
  obtain ⟨h1, h2, S, h3, h4⟩ := (sim_parts hg.v1 s.parts 0 _ _ (List.replicate s.values.toNat 0) (by omega) (rel0 hg.v1)).1 D T hg.ps
  exact ⟨D, T, S, h3, h4, hg.ps⟩
theorem GoodP.own_def {s : Sa} (h : GoodP s) {q : Nat} {p : Pt} (hq : s.parts[q]? = some p) {v : Int} (hv : v ∈ ownS p) : 12 ≤ v ∧ v < s.values ∧ ((defsS s).getD [])[v.toNat]! = q := by
  obtain ⟨D, T, S, h1, h2, h3⟩ := h.rel
  have hV := h.v1
  have hl1 : ((List.replicate s.values.toNat (-1 : Int)).length : Int) = s.values := by rw [List.length_replicate]; omega
  have hl2 : ((List.replicate s.values.toNat (0 : Int)).length : Int) = s.values := by rw [List.length_replicate]; omega
  obtain ⟨-, -, a3, -⟩ := partsI_spec s.parts 0 _ _ D T (by omega) hl1 hl2 h3
  rw [← items_fst] at hv
  obtain ⟨x, hx, rfl⟩ := List.mem_map.1 hv
  obtain ⟨b1, b2, b3, _⟩ := a3 q p hq x hx
  refine ⟨b1, b2, ?_⟩
  have hS := h2.l1
  rw [h1]
  show S[x.1.toNat]! = _
  rw [getD_bang S _ (by omega), h2.hi _ (by omega), b3]
  omega
theorem GoodP.defs_len {s : Sa} (h : GoodP s) : (((defsS s).getD []).length : Int) = s.values := by
  obtain ⟨D, T, S, h1, h2, h3⟩ := h.rel
  rw [h1]; exact h2.l1
theorem GoodP.use_far {s : Sa} (h : GoodP s) {q : Nat} {p : Pt} (hq : s.parts[q]? = some p) {j : Nat} {x : Fl} (hx : p.code[j]? = some x) {v : Int} (hv : v ∈ usesS x) (ho : v ∈ ownS p) : v ∈ p.params ++ dstsS (p.code.take j) := by
  obtain ⟨h1, h2, h3⟩ := h.own_def hq ho
  obtain ⟨_, _, ht⟩ := (h.us q p hq).code j x hx v hv
  rcases ht with ht | ht | ⟨_, ht, _⟩
  · omega
  · exact ht
  · exact absurd h3 ht
theorem GoodP.use_in {s : Sa} (h : GoodP s) {q : Nat} {p : Pt} (hq : s.parts[q]? = some p) {v : Int} (hv : v ∈ endsS p ∨ v ∈ p.code.flatMap usesS) : 0 ≤ v ∧ v < s.values := by
  have hl := h.defs_len
  rcases hv with hv | hv
  · obtain ⟨a, b, _⟩ := (h.us q p hq).ends v hv
    exact ⟨a, by omega⟩
  · obtain ⟨x, hx, hv⟩ := List.mem_flatMap.1 hv
    obtain ⟨j, hj⟩ := List.getElem?_of_mem hx
    obtain ⟨a, b, _⟩ := (h.us q p hq).code j x hj v hv
    exact ⟨a, by omega⟩
theorem LvI.range {s : Sa} (h : GoodP s) {k : Nat} {v : Int} (hv : LvI s k v) : 0 ≤ v ∧ v < s.values := by
  induction hv with
  | own hp h1 hn => exact h.use_in hp h1
  | flow hp hx _ hn ih => exact ih
theorem GoodP.uses_eq {s : Sa} (h : GoodP s) {p : Pt} (hp : p ∈ s.parts) {x : Fl} (hx : x ∈ p.code) : usesI x = usesS x :=
  L.uses_eq (flat_op (static_flat (h.static hp) x hx))
/-- A value is needed ahead of steps, of those needed behind them. -/
def LC (O : Int → Prop) : List Fl → Int → Prop
  | [], v => O v
  | x :: t, v => v ∈ usesI x ∨ (¬ (setsS x = true ∧ v = x.dst) ∧ LC O t v)
theorem LC.of_not {O : Int → Prop} {v : Int} : ∀ {l : List Fl}, v ∉ dstsS l → (O v ∨ ∃ x ∈ l, v ∈ usesI x) → LC O l v
  | [], _, h => by rcases h with h | ⟨x, hx, _⟩; exact h; simp at hx
  | x :: t, hn, h => by
    have hn1 : ¬ (setsS x = true ∧ v = x.dst) := fun ⟨a, b⟩ => hn (by unfold dstsS; rw [List.filter_cons, if_pos a, List.map_cons, b]; exact List.mem_cons_self)
    have hn2 : v ∉ dstsS t := fun a => hn (by unfold dstsS at a ⊢; rw [List.filter_cons]; split; exact List.mem_cons_of_mem _ a; exact a)
    by_cases hx : v ∈ usesI x
    · exact .inl hx
    · refine .inr ⟨hn1, LC.of_not hn2 ?_⟩
      rcases h with h | ⟨y, hy, h⟩
      · exact .inl h
      · rcases List.mem_cons.1 hy with rfl | hy
        · exact absurd h hx
        · exact .inr ⟨y, hy, h⟩
theorem LC.to {s : Sa} (h : GoodP s) {q : Nat} {p : Pt} (hq : s.parts[q]? = some p) {O : Int → Prop} {v : Int} : ∀ (n i : Nat), n = p.code.length - i → i ≤ p.code.length → v ∉ p.params ++ dstsS (p.code.take i) → LC O (p.code.drop i) v →
    (O v ∨ v ∈ p.code.flatMap usesS) ∧ v ∉ ownS p
  | 0, i, hn, hi, h1, h2 => by
    obtain rfl : i = p.code.length := by omega
    rw [List.take_length] at h1
    rw [List.drop_length] at h2
    exact ⟨.inl h2, h1⟩
  | n + 1, i, hn, hi, h1, h2 => by
    have hlt : i < p.code.length := by omega
    rw [List.drop_eq_getElem_cons hlt] at h2
    have hmem := List.getElem_mem hlt
    rcases h2 with h2 | ⟨h3, h2⟩
    · rw [h.uses_eq (List.mem_of_getElem? hq) hmem] at h2
      exact ⟨.inr (List.mem_flatMap.2 ⟨_, hmem, h2⟩), fun ho => h1 (h.use_far hq (List.getElem?_eq_getElem hlt) h2 ho)⟩
    · refine LC.to h hq n (i + 1) (by omega) (by omega) (fun hm => ?_) h2
      rw [dstsS_take hlt] at hm
      split at hm
      · rename_i hs
        rcases List.mem_append.1 hm with hm | hm
        · exact h1 (List.mem_append.2 (.inl hm))
        · rcases List.mem_append.1 hm with hm | hm
          · exact h1 (List.mem_append.2 (.inr hm))
          · exact h3 ⟨hs, List.mem_singleton.1 hm⟩
      · exact h1 hm
theorem LC_iff {s : Sa} (h : GoodP s) {q : Nat} {p : Pt} (hq : s.parts[q]? = some p) {O : Int → Prop} {v : Int} : (LC O p.code v ∧ v ∉ p.params) ↔ ((O v ∨ v ∈ p.code.flatMap usesS) ∧ v ∉ ownS p) := by
  constructor
  · rintro ⟨h1, h2⟩
    exact LC.to h hq (p.code.length - 0) 0 rfl (Nat.zero_le _) (by rw [List.take_zero]; show v ∉ p.params ++ []; rw [List.append_nil]; exact h2) h1
  · rintro ⟨h1, h2⟩
    have hn : ¬ (v ∈ p.params ∨ v ∈ dstsS p.code) := fun h => h2 (List.mem_append.2 h)
    refine ⟨LC.of_not (fun hv => hn (.inr hv)) (h1.imp id fun hv => ?_), fun hv => hn (.inl hv)⟩
    obtain ⟨x, hx, hv⟩ := List.mem_flatMap.1 hv
    exact ⟨x, hx, by rw [h.uses_eq (List.mem_of_getElem? hq) hx]; exact hv⟩
/-- A set as the program keeps it. -/
def addB (S : List Bool) (l : List Int) : List Bool := l.foldl (fun S v => S.set v.toNat true) S
def delB (S : List Bool) (l : List Int) : List Bool := l.foldl (fun S v => S.set v.toNat false) S
def stepB (S : List Bool) (x : Fl) : List Bool := addB (if setsS x then S.set x.dst.toNat false else S) (usesI x)
def liveC (l : List Fl) (S : List Bool) : List Bool := l.foldr (fun x S => stepB S x) S
def liveB (p : Pt) (S : List Bool) : List Bool := delB (liveC p.code S) p.params
def InB (S : List Bool) (v : Int) : Prop := 0 ≤ v ∧ S.getD v.toNat false = true
theorem addB_len (S : List Bool) (l : List Int) : (addB S l).length = S.length := by
  unfold addB
  induction l generalizing S with
  | nil => rfl
  | cons x t ih => rw [List.foldl_cons, ih, List.length_set]
theorem delB_len (S : List Bool) (l : List Int) : (delB S l).length = S.length := by
  unfold delB
  induction l generalizing S with
  | nil => rfl
  | cons x t ih => rw [List.foldl_cons, ih, List.length_set]
theorem stepB_len (S : List Bool) (x : Fl) : (stepB S x).length = S.length := by
  unfold stepB; rw [addB_len]; split <;> simp
theorem liveC_len (l : List Fl) (S : List Bool) : (liveC l S).length = S.length := by
  induction l with
  | nil => rfl
  | cons x t ih => show (stepB (liveC t S) x).length = _; rw [stepB_len, ih]
theorem liveB_len (p : Pt) (S : List Bool) : (liveB p S).length = S.length := by unfold liveB; rw [delB_len, liveC_len]
theorem getD_setB (S : List Bool) (m n : Nat) (b : Bool) (hm : m < S.length) : (S.set m b).getD n false = if n = m then b else S.getD n false := by
  rw [List.getD_eq_getElem?_getD, List.getD_eq_getElem?_getD, List.getElem?_set]
  by_cases h : m = n
  · subst h; simp [hm]
  · rw [if_neg h, if_neg (fun e => h e.symm)]
theorem InB_set {S : List Bool} {m v : Int} {b : Bool} (h0 : 0 ≤ m) (hm : m < S.length) : InB (S.set m.toNat b) v ↔ (if v = m then b = true else InB S v) := by
  unfold InB
  rw [getD_setB _ _ _ _ (by omega)]
  by_cases h : v = m
  · subst h; simp [h0]
  · rw [if_neg h]
    by_cases hv : 0 ≤ v
    · rw [if_neg (by omega)]
    · simp [hv]
theorem InB_add {l : List Int} : ∀ {S : List Bool} {v : Int}, (∀ m ∈ l, 0 ≤ m ∧ m < S.length) → (InB (addB S l) v ↔ v ∈ l ∨ InB S v) := by
  induction l with
  | nil => intro S v _; simp [addB]
  | cons m t ih =>
    intro S v h
    have hm := h m List.mem_cons_self
    show InB (addB (S.set m.toNat true) t) v ↔ _
    rw [ih (fun q hq => by rw [List.length_set]; exact h q (List.mem_cons_of_mem _ hq)), InB_set hm.1 hm.2, List.mem_cons]
    by_cases e : v = m
    · subst e; simp
    · simp [e]
theorem InB_del {l : List Int} : ∀ {S : List Bool} {v : Int}, (∀ m ∈ l, 0 ≤ m ∧ m < S.length) → (InB (delB S l) v ↔ v ∉ l ∧ InB S v) := by
  induction l with
  | nil => intro S v _; simp [delB]
  | cons m t ih =>
    intro S v h
    have hm := h m List.mem_cons_self
    show InB (delB (S.set m.toNat false) t) v ↔ _
    rw [ih (fun q hq => by rw [List.length_set]; exact h q (List.mem_cons_of_mem _ hq)), InB_set hm.1 hm.2, List.mem_cons]
    by_cases e : v = m
    · subst e; simp
    · simp [e]
theorem InB_step {S : List Bool} {x : Fl} {v : Int} (hd : setsS x = true → 0 ≤ x.dst ∧ x.dst < S.length) (hu : ∀ m ∈ usesI x, 0 ≤ m ∧ m < S.length) : InB (stepB S x) v ↔ v ∈ usesI x ∨ (¬ (setsS x = true ∧ v = x.dst) ∧ InB S v) := by
  unfold stepB
  by_cases hs : setsS x = true
  · rw [if_pos hs, InB_add (by rw [List.length_set]; exact hu), InB_set (hd hs).1 (hd hs).2]
    by_cases e : v = x.dst <;> simp [e, hs]
  · rw [if_neg hs, InB_add hu]
    simp [hs]
theorem InB_code {S : List Bool} {v : Int} : ∀ {l : List Fl}, (∀ x ∈ l, (setsS x = true → 0 ≤ x.dst ∧ x.dst < S.length) ∧ ∀ m ∈ usesI x, 0 ≤ m ∧ m < S.length) → (InB (liveC l S) v ↔ LC (InB S) l v)
  | [], _ => Iff.rfl
  | x :: t, h => by
    have hx := h x List.mem_cons_self
    show InB (stepB (liveC t S) x) v ↔ _
    rw [InB_step (by rw [liveC_len]; exact hx.1) (by rw [liveC_len]; exact hx.2), InB_code (fun y hy => h y (List.mem_cons_of_mem _ hy))]
    exact Iff.rfl
theorem GoodP.steps_in {s : Sa} (h : GoodP s) {q : Nat} {p : Pt} (hq : s.parts[q]? = some p) {x : Fl} (hx : x ∈ p.code) : (setsS x = true → 12 ≤ x.dst ∧ x.dst < s.values) ∧ ∀ m ∈ usesI x, 0 ≤ m ∧ m < s.values := by
  refine ⟨fun hs => ?_, fun m hm => ?_⟩
  · obtain ⟨h1, h2, _⟩ := h.own_def hq (v := x.dst) (List.mem_append.2 (.inr (by unfold dstsS; exact List.mem_map.2 ⟨x, List.mem_filter.2 ⟨hx, hs⟩, rfl⟩)))
    exact ⟨h1, h2⟩
  · rw [h.uses_eq (List.mem_of_getElem? hq) hx] at hm
    exact h.use_in hq (.inr (List.mem_flatMap.2 ⟨x, hx, hm⟩))
theorem InB_live {s : Sa} (h : GoodP s) {q : Nat} {p : Pt} (hq : s.parts[q]? = some p) {S : List Bool} (hS : (S.length : Int) = s.values) {v : Int} : InB (liveB p S) v ↔ ((InB S v ∨ v ∈ p.code.flatMap usesS) ∧ v ∉ ownS p) := by
  unfold liveB
  rw [InB_del (fun m hm => by
      have := h.own_def hq (v := m) (List.mem_append.2 (.inl hm))
      rw [liveC_len]; omega), InB_code (fun x hx => by
      have := h.steps_in hq hx
      refine ⟨fun hs => ?_, fun m hm => ?_⟩
      · have := this.1 hs; omega
      · have := this.2 m hm; omega), and_comm]
  exact LC_iff h hq
end Go.Proofs.Ytmcnoeinjocimaa.L

set_option linter.unusedVariables false
set_option linter.unusedSimpArgs false
namespace Go.Proofs.Ytmcnoeinjocimaa.L
open Go.RowKit
/-- The numbers that are so, rising. -/
def listB (S : List Bool) : List Int := ((List.range S.length).map (fun n : Nat => (n : Int))).filter (fun v => S.getD v.toNat false)
theorem listB_inc (S : List Bool) : Inc (listB S) := by
  unfold listB
  refine Inc.filter ?_ _
  unfold Inc
  rw [List.pairwise_map]
  exact List.pairwise_lt_range.imp (fun h => by omega)
theorem mem_listB {S : List Bool} {v : Int} : v ∈ listB S ↔ InB S v := by
  unfold listB InB
  rw [List.mem_filter, List.mem_map]
  constructor
  · rintro ⟨⟨n, hn, rfl⟩, h2⟩
    exact ⟨by omega, h2⟩
  · rintro ⟨h1, h2⟩
    refine ⟨⟨v.toNat, List.mem_range.2 ?_, by omega⟩, h2⟩
    rcases Nat.lt_or_ge v.toNat S.length with h | h
    · exact h
    · rw [List.getD_eq_getElem?_getD, List.getElem?_eq_none h] at h2; cases h2
theorem listB_eq {S : List Bool} {P : Int → Prop} {V : Nat} (hl : S.length = V) (h : ∀ v, InB S v ↔ P v) : listB S = listP P V := by
  refine (listB_inc S).ext (listP_inc P V) fun v => ?_
  rw [mem_listB, mem_listP, ← h v]
  constructor
  · intro hv
    have hm := mem_listB.2 hv
    unfold listB at hm
    obtain ⟨n, hn, rfl⟩ := List.mem_map.1 (List.mem_filter.1 hm).1
    exact ⟨⟨by omega, by have := List.mem_range.1 hn; omega⟩, hv⟩
  · exact fun hv => hv.2
theorem InB_len {S : List Bool} {v : Int} (h : InB S v) : 0 ≤ v ∧ v < S.length := by
  have hm := mem_listB.2 h
  unfold listB at hm
  obtain ⟨n, hn, rfl⟩ := List.mem_map.1 (List.mem_filter.1 hm).1
  exact ⟨by omega, by have := List.mem_range.1 hn; omega⟩
/-- Sets of parts as sets. -/
def InR2 (I : List (List Bool)) (k : Nat) (v : Int) : Prop := InB (I.getD k []) v
def bhB (I : List (List Bool)) (p : Pt) (S : List Bool) : List Bool := addB S (endsS p ++ p.next.flatMap (fun x => listB (I.getD x.toNat [])))
theorem getD_set2 {α : Type} (S : List α) (m n : Nat) (b d : α) (hm : m < S.length) : (S.set m b).getD n d = if n = m then b else S.getD n d := by
  rw [List.getD_eq_getElem?_getD, List.getD_eq_getElem?_getD, List.getElem?_set]
  by_cases h : m = n
  · subst h; simp [hm]
  · rw [if_neg h, if_neg (fun e => h e.symm)]
/-- What holds between the rounds. -/
structure LInv (s : Sa) (I O : List (List Bool)) : Prop where
  li : I.length = s.parts.length
  lo : O.length = s.parts.length
  ri : ∀ S ∈ I, (S.length : Int) = s.values
  ro : ∀ S ∈ O, (S.length : Int) = s.values
  si : ∀ k v, InR2 I k v → LvI s k v
  so : ∀ k v, InR2 O k v → LvO s k v
  up : ∀ (k : Nat) (p : Pt), s.parts[k]? = some p → ∀ v, InR2 I k v → InB (liveB p (O.getD k [])) v
theorem LInv.rowI {s : Sa} {I O : List (List Bool)} (h : LInv s I O) {k : Nat} (hk : k < s.parts.length) : ((I.getD k []).length : Int) = s.values := by
  have hk' : k < I.length := by rw [h.li]; exact hk
  rw [List.getD_eq_getElem?_getD, List.getElem?_eq_getElem hk']
  exact h.ri _ (List.getElem_mem hk')
theorem LInv.rowO {s : Sa} {I O : List (List Bool)} (h : LInv s I O) {k : Nat} (hk : k < s.parts.length) : ((O.getD k []).length : Int) = s.values := by
  have hk' : k < O.length := by rw [h.lo]; exact hk
  rw [List.getD_eq_getElem?_getD, List.getElem?_eq_getElem hk']
  exact h.ro _ (List.getElem_mem hk')
theorem bhB_iff {s : Sa} (h : GoodP s) {I : List (List Bool)} (hI : ∀ S ∈ I, (S.length : Int) = s.values) {k : Nat} {p : Pt} (hk : s.parts[k]? = some p) {S : List Bool} (hS : (S.length : Int) = s.values) {v : Int} :
    InB (bhB I p S) v ↔ BhP (InR2 I) p v ∨ InB S v := by
  unfold bhB
  have hrow : ∀ x : Int, ∀ m, InB (I.getD x.toNat []) m → 0 ≤ m ∧ m < s.values := fun x m hm => by
    have := InB_len hm
    rw [List.getD_eq_getElem?_getD] at this
    cases hx : I[x.toNat]? with
    | none => rw [hx] at this; simp at this; omega
    | some R =>
      rw [hx] at this
      have := hI R (List.mem_of_getElem? hx)
      simp at *; omega
  rw [InB_add (fun m hm => by
    rcases List.mem_append.1 hm with hm | hm
    · have := h.use_in hk (.inl hm); omega
    · obtain ⟨x, hx, hm⟩ := List.mem_flatMap.1 hm
      have := hrow x m (mem_listB.1 hm); omega)]
  refine or_congr ?_ Iff.rfl
  unfold BhP InR2
  rw [List.mem_append, List.mem_flatMap]
  exact or_congr Iff.rfl ⟨fun ⟨x, hx, hm⟩ => ⟨x, hx, mem_listB.1 hm⟩, fun ⟨x, hx, hm⟩ => ⟨x, hx, mem_listB.2 hm⟩⟩
theorem InR2_set {I : List (List Bool)} {k : Nat} {S : List Bool} (hk : k < I.length) {q : Nat} {v : Int} : InR2 (I.set k S) q v ↔ if q = k then InB S v else InR2 I q v := by
  unfold InR2
  rw [getD_set2 _ _ _ _ _ hk]
  split <;> rfl
theorem bhB_len (I : List (List Bool)) (p : Pt) (S : List Bool) : (bhB I p S).length = S.length := addB_len _ _
/-- One part's turn. -/
theorem LInv.turn {s : Sa} (h : GoodP s) {I O : List (List Bool)} (hi : LInv s I O) {k : Nat} {p : Pt} (hk : s.parts[k]? = some p) :
    LInv s (I.set k (liveB p (bhB I p (O.getD k [])))) (O.set k (bhB I p (O.getD k []))) ∧ ∀ v, InR2 I k v → InB (liveB p (bhB I p (O.getD k []))) v := by
  obtain ⟨hkl, hke⟩ := List.getElem?_eq_some_iff.1 hk
  have hkI : k < I.length := by rw [hi.li]; exact hkl
  have hkO : k < O.length := by rw [hi.lo]; exact hkl
  have hOl := hi.rowO hkl
  have hB : ∀ v, InB (bhB I p (O.getD k [])) v ↔ BhP (InR2 I) p v ∨ InB (O.getD k []) v := fun v => bhB_iff h hi.ri hk hOl
  have hBl : ((bhB I p (O.getD k [])).length : Int) = s.values := by rw [bhB_len]; exact hOl
  have hL : ∀ v, InB (liveB p (bhB I p (O.getD k []))) v ↔ ((InB (bhB I p (O.getD k [])) v ∨ v ∈ p.code.flatMap usesS) ∧ v ∉ ownS p) := fun v => InB_live h hk hBl
  have hL0 : ∀ v, InB (liveB p (O.getD k [])) v ↔ ((InB (O.getD k []) v ∨ v ∈ p.code.flatMap usesS) ∧ v ∉ ownS p) := fun v => InB_live h hk hOl
  have hup : ∀ v, InR2 I k v → InB (liveB p (bhB I p (O.getD k []))) v := fun v hv => by
    have h1 := (hL0 v).1 (hi.up k p hk v hv)
    exact (hL v).2 ⟨h1.1.imp (fun h => (hB v).2 (.inr h)) id, h1.2⟩
  have hso : ∀ v, InB (bhB I p (O.getD k [])) v → LvO s k v := fun v hv => by
    rcases (hB v).1 hv with hv | hv
    · exact ⟨p, hk, hv.mono hi.si⟩
    · exact hi.so k v hv
  refine ⟨⟨by rw [List.length_set]; exact hi.li, by rw [List.length_set]; exact hi.lo, fun S hS => ?_, fun S hS => ?_, fun q v hv => ?_, fun q v hv => ?_, fun q p' hq v hv => ?_⟩, hup⟩
  · rcases List.mem_or_eq_of_mem_set hS with hS | rfl
    · exact hi.ri S hS
    · rw [liveB_len]; exact hBl
  · rcases List.mem_or_eq_of_mem_set hS with hS | rfl
    · exact hi.ro S hS
    · exact hBl
  · rw [InR2_set hkI] at hv
    split at hv
    · rename_i e
      subst e
      have h1 := (hL v).1 hv
      refine LvI.of_ah hk ⟨?_, h1.2⟩
      rcases h1.1 with h1 | h1
      · obtain ⟨p', hp', h2⟩ := hso v h1
        rw [hk] at hp'; cases hp'
        exact .inl h2
      · exact .inr h1
    · exact hi.si q v hv
  · rw [InR2_set hkO] at hv
    split at hv
    · rename_i e
      subst e
      exact hso v hv
    · exact hi.so q v hv
  · rw [getD_set2 _ _ _ _ _ hkO]
    rw [InR2_set hkI] at hv
    split
    · rename_i e
      subst e
      rw [if_pos rfl] at hv
      rw [hk] at hq; cases hq
      exact hv
    · rename_i e
      rw [if_neg e] at hv
      exact hi.up q p' hq v hv
/-- A part asks for no more. -/
def Still (s : Sa) (I O : List (List Bool)) (q : Nat) : Prop := ∀ p, s.parts[q]? = some p → (∀ v, BhP (InR2 I) p v → InR2 O q v) ∧ ∀ v, ((InR2 O q v ∨ v ∈ p.code.flatMap usesS) ∧ v ∉ ownS p) → InR2 I q v
theorem still_turn {s : Sa} (h : GoodP s) {I O : List (List Bool)} (hi : LInv s I O) {k : Nat} {p : Pt} (hk : s.parts[k]? = some p) (he : liveB p (bhB I p (O.getD k [])) = I.getD k []) (hs : ∀ q, q < k → Still s I O q) :
    I.set k (liveB p (bhB I p (O.getD k []))) = I ∧ ∀ q, q < k + 1 → Still s I (O.set k (bhB I p (O.getD k []))) q := by
  obtain ⟨hkl, hke⟩ := List.getElem?_eq_some_iff.1 hk
  have hkI : k < I.length := by rw [hi.li]; exact hkl
  have hkO : k < O.length := by rw [hi.lo]; exact hkl
  have hOl := hi.rowO hkl
  have hBl : ((bhB I p (O.getD k [])).length : Int) = s.values := by rw [bhB_len]; exact hOl
  refine ⟨?_, fun q hq p' hp' => ?_⟩
  · rw [he, List.getD_eq_getElem?_getD, List.getElem?_eq_getElem hkI]
    exact List.set_getElem_self hkI
  · rcases Nat.lt_or_eq_of_le (Nat.le_of_lt_succ hq) with hq | rfl
    · obtain ⟨h1, h2⟩ := hs q hq p' hp'
      have e : ∀ v, InR2 (O.set k (bhB I p (O.getD k []))) q v ↔ InR2 O q v := fun v => by rw [InR2_set hkO, if_neg (by omega)]
      exact ⟨fun v hv => (e v).2 (h1 v hv), fun v hv => h2 v (by rw [e v] at hv; exact hv)⟩
    · rw [hk] at hp'; cases hp'
      have e : ∀ v, InR2 (O.set q (bhB I p (O.getD q []))) q v ↔ InB (bhB I p (O.getD q [])) v := fun v => by rw [InR2_set hkO, if_pos rfl]
      refine ⟨fun v hv => (e v).2 ((bhB_iff h hi.ri hk hOl).2 (.inl hv)), fun v hv => ?_⟩
      rw [e v] at hv
      show InB (I.getD q []) v
      rw [← he]
      exact (InB_live h hk hBl).2 hv
/-- Where no part asks for more, it is what is needed. -/
theorem still_all {s : Sa} (h : GoodP s) {I O : List (List Bool)} (hi : LInv s I O) (hs : ∀ q, q < s.parts.length → Still s I O q) : (∀ k v, InR2 I k v ↔ LvI s k v) ∧ ∀ k v, InR2 O k v ↔ LvO s k v := by
  have h1 : ∀ k v, LvI s k v → InR2 I k v := fun k v hv => by
    refine LvI.least (I := InR2 I) (fun q p hq u hu => ?_) hv
    obtain ⟨a, b⟩ := hs q (List.getElem?_eq_some_iff.1 hq).1 p hq
    exact b u ⟨hu.1.imp (a u) id, hu.2⟩
  refine ⟨fun k v => ⟨hi.si k v, h1 k v⟩, fun k v => ⟨hi.so k v, fun ⟨p, hp, hv⟩ => ?_⟩⟩
  exact (hs k (List.getElem?_eq_some_iff.1 hp).1 p hp).1 v (hv.mono h1)
/-- How much is in. -/
def cntB (I : List (List Bool)) : Nat := (I.map (fun S : List Bool => S.count true)).sum
theorem count_lt {S R : List Bool} (hl : S.length = R.length) (h : ∀ v, InB S v → InB R v) : S.count true ≤ R.count true ∧ (S ≠ R → S.count true < R.count true) := by
  induction S generalizing R with
  | nil => cases R with
    | nil => exact ⟨Nat.le_refl _, fun h => absurd rfl h⟩
    | cons y u => simp at hl
  | cons x t ih =>
    cases R with
    | nil => simp at hl
    | cons y u =>
      have ht : ∀ v, InB t v → InB u v := fun v hv => by
        have := h (v + 1) ⟨by have := hv.1; omega, by
          rw [show (v + 1).toNat = v.toNat + 1 by have := hv.1; omega, List.getD_cons_succ]; exact hv.2⟩
        have h2 := this.2
        rw [show (v + 1).toNat = v.toNat + 1 by have := hv.1; omega, List.getD_cons_succ] at h2
        exact ⟨hv.1, h2⟩
      have hx : x = true → y = true := fun e => by
        have := h 0 ⟨Int.le_refl _, by subst e; rfl⟩
        exact this.2
      obtain ⟨i1, i2⟩ := ih (by simpa using hl) ht
      simp only [List.count_cons]
      cases x <;> cases y <;> simp at hx ⊢
      · exact ⟨i1, i2⟩
      · omega
      · exact ⟨i1, i2⟩
theorem cntB_set {I : List (List Bool)} {k : Nat} {S : List Bool} (hk : k < I.length) : cntB (I.set k S) + (I.getD k []).count true = cntB I + S.count true := by
  unfold cntB
  induction I generalizing k with
  | nil => simp at hk
  | cons x t ih =>
    cases k with
    | zero => simp; omega
    | succ k =>
      simp only [List.set_cons_succ, List.map_cons, List.sum_cons, List.getD_cons_succ]
      have := ih (k := k) (by simpa using hk)
      omega
theorem cntB_le {I : List (List Bool)} {V : Nat} (h : ∀ S ∈ I, S.length = V) : cntB I ≤ I.length * V := by
  unfold cntB
  induction I with
  | nil => simp
  | cons x t ih =>
    have h1 := ih (fun S hS => h S (List.mem_cons_of_mem _ hS))
    have h2 := h x List.mem_cons_self
    have h3 := List.count_le_length (a := true) (l := x)
    simp only [List.map_cons, List.sum_cons, List.length_cons, Nat.succ_mul]
    omega
theorem cnt_turn {s : Sa} (h : GoodP s) {I O : List (List Bool)} (hi : LInv s I O) {k : Nat} {p : Pt} (hk : s.parts[k]? = some p) :
    cntB I ≤ cntB (I.set k (liveB p (bhB I p (O.getD k [])))) ∧ (liveB p (bhB I p (O.getD k [])) ≠ I.getD k [] → cntB I < cntB (I.set k (liveB p (bhB I p (O.getD k []))))) := by
  obtain ⟨hkl, hke⟩ := List.getElem?_eq_some_iff.1 hk
  have hkI : k < I.length := by rw [hi.li]; exact hkl
  have h1 := cntB_set (S := liveB p (bhB I p (O.getD k []))) hkI
  have hlen : (I.getD k []).length = (liveB p (bhB I p (O.getD k []))).length := by
    have a := hi.rowI hkl
    have b := hi.rowO hkl
    rw [liveB_len, bhB_len]; omega
  obtain ⟨c1, c2⟩ := count_lt hlen (hi.turn h hk).2
  refine ⟨by omega, fun hne => ?_⟩
  have := c2 (fun e => hne e.symm)
  omega
theorem linv0 {s : Sa} (hV : 0 ≤ s.values) : LInv s (List.replicate s.parts.length (List.replicate s.values.toNat false)) (List.replicate s.parts.length (List.replicate s.values.toNat false)) := by
  have hno : ∀ k v, ¬ InR2 (List.replicate s.parts.length (List.replicate s.values.toNat false)) k v := fun k v hv => by
    have h2 := hv.2
    rw [List.getD_eq_getElem?_getD, List.getD_eq_getElem?_getD, List.getElem?_replicate] at h2
    split at h2
    · simp only [Option.getD_some, List.getElem?_replicate] at h2
      split at h2 <;> cases h2
    · simp at h2
  have hr : ∀ S ∈ List.replicate s.parts.length (List.replicate s.values.toNat false), (S.length : Int) = s.values := fun S hS => by
    rw [(List.mem_replicate.1 hS).2, List.length_replicate]; omega
  exact ⟨List.length_replicate, List.length_replicate, hr, hr, fun k v hv => absurd hv (hno k v), fun k v hv => absurd hv (hno k v), fun k p _ v hv => absurd hv (hno k v)⟩
end Go.Proofs.Ytmcnoeinjocimaa.L
