/- Joined texts, each of which was built by itself: Mr1 Mr2 Mr3 Mr4 Cl0 Ho1 Mr5. -/
import Derived.Test.YtnfaibenekninaaGreatB10
import Derived.Test.YtnfaibenekninaaGreatB3
import Derived.Test.YtnfaibenekninaaGreatB2
import Derived.Test.YtnfaibenekninaaGreatB7
import Derived.Test.YtnfaibenekninaaGreatB1
set_option linter.unusedVariables false
set_option linter.unusedSimpArgs false
namespace Go.Proofs.YtnfaibenekninaaGreat.L
open Go.RowKit
/-- Nothing is otherwise, but for whole numbers in blocks of F. -/
structure Marked (F : Nat → Prop) (w w' : World) : Prop where
  chg : Chg F w w'
  keep : ∀ (a : Addr) (v : Value), w.cell? a = some v → (∀ x, v ≠ .int .i64 x) → w'.cell? a = some v
  ints : ∀ (a : Addr) (x : Int), w.cell? a = some (.int .i64 x) → ∃ y, w'.cell? a = some (.int .i64 y)
  free : ∀ a, w.frozen? a = false → w'.frozen? a = false
namespace Marked
variable {F : Nat → Prop} {w w1 w2 : World}
theorem refl (F : Nat → Prop) (w : World) : Marked F w w := ⟨Chg.refl _ _, fun _ _ h _ => h, fun _ x h => ⟨x, h⟩, fun _ h => h⟩
theorem trans (h : Marked F w w1) (k : Marked F w1 w2) : Marked F w w2 :=
  ⟨h.chg.trans k.chg, fun a v h1 h2 => k.keep a v (h.keep a v h1 h2) h2, fun a x h1 => let ⟨y, h2⟩ := h.ints a x h1; k.ints a y h2, fun a h1 => k.free a (h.free a h1)⟩
theorem drew (h : Marked F w w1) : Marked F w w1.drew := h.trans ⟨Chg.drewN 1, fun _ _ h _ => h, fun _ x h => ⟨x, h⟩, fun _ h => h⟩
theorem set {b o : Nat} {x : Int} (y : Int) (hb : F b) (hc : w.cell? ⟨b, o, none⟩ = some (.int .i64 x)) : Marked F w (w.setCell ⟨b, o, none⟩ (.int .i64 y)) := by
  refine ⟨Chg.set hb, fun a v h1 h2 => ?_, fun a z h1 => ?_, fun a h1 => (World.frozen?_setCell ..).trans h1⟩
  · by_cases e : (⟨b, o, none⟩ : Addr) = a
    · subst e; rw [hc] at h1; exact absurd (Option.some.inj h1).symm (h2 x)
    · exact (World.cell?_setCell_other w _ _ _ e).trans h1
  · by_cases e : (⟨b, o, none⟩ : Addr) = a
    · subst e; exact ⟨y, World.cell?_setCell_same w _ _ hc⟩
    · exact ⟨z, (World.cell?_setCell_other w _ _ _ e).trans h1⟩
end Marked
/-- A row of n things at a block's head. -/
def RowP (w : World) (F : Nat → Prop) (v : Value) (n : Nat) (P : Nat → Nat → Prop) : Prop :=
  ∃ A c, v = .slice A n c ∧ n ≤ c ∧ c ≤ maxLen ∧ (n = 0 ∨ ∃ b, A = some ⟨b, 0, none⟩ ∧ F b ∧ (∀ o, w.frozen? ⟨b, o, none⟩ = false) ∧ ∀ k, k < n → P b k)
theorem RowP.imp {w w' : World} {F : Nat → Prop} {v : Value} {n : Nat} {P Q : Nat → Nat → Prop} (h : RowP w F v n P) (hf : ∀ b, F b → ∀ o, w.frozen? ⟨b, o, none⟩ = false → w'.frozen? ⟨b, o, none⟩ = false) (hp : ∀ b, F b → ∀ k, P b k → Q b k) : RowP w' F v n Q := by
  obtain ⟨A, c, h1, h2, h3, h4⟩ := h
  refine ⟨A, c, h1, h2, h3, ?_⟩
  rcases h4 with h4 | ⟨b, e1, e2, e3, e4⟩
  · exact .inl h4
  · exact .inr ⟨b, e1, e2, fun o => hf _ e2 o (e3 o), fun k hk => hp _ e2 _ (e4 k hk)⟩
def AnyI (w : World) (b o : Nat) : Prop := ∃ x, w.cell? ⟨b, o, none⟩ = some (.int .i64 x)
theorem AnyI.marked {F : Nat → Prop} {w w' : World} {b o : Nat} (h : AnyI w b o) (m : Marked F w w') : AnyI w' b o := let ⟨x, h⟩ := h; m.ints _ x h
def MI (w : World) (F : Nat → Prop) (v : Value) (n : Nat) : Prop := RowP w F v n (fun b k => AnyI w b k)
theorem MI.marked {F : Nat → Prop} {w w' : World} {v : Value} {n : Nat} (h : MI w F v n) (m : Marked F w w') : MI w' F v n := h.imp (fun _ _ _ h => m.free _ h) (fun _ _ _ h => h.marked m)
def MF (w : World) (F : Nat → Prop) (v : Value) (n : Nat) : Prop := RowP w F v n (fun b k => AnyI w b (k * 6) ∧ AnyI w b (k * 6 + 1) ∧ AnyI w b (k * 6 + 2) ∧ AnyI w b (k * 6 + 3) ∧ AnyI w b (k * 6 + 4) ∧ AnyI w b (k * 6 + 5))
theorem MF.marked {F : Nat → Prop} {w w' : World} {v : Value} {n : Nat} (h : MF w F v n) (m : Marked F w w') : MF w' F v n :=
  h.imp (fun _ _ _ h => m.free _ h) (fun _ _ _ ⟨h0, h1, h2, h3, h4, h5⟩ => ⟨h0.marked m, h1.marked m, h2.marked m, h3.marked m, h4.marked m, h5.marked m⟩)
def MII (w : World) (F : Nat → Prop) (v : Value) (n : Nat) : Prop := RowP w F v n (fun b k => ∃ u a, a ≤ 1048576 ∧ w.cell? ⟨b, k, none⟩ = some u ∧ MI w F u a)
theorem MI.not_int {F : Nat → Prop} {w : World} {v : Value} {n : Nat} (h : MI w F v n) : ∀ x, v ≠ .int .i64 x := by
  obtain ⟨A, c, rfl, _⟩ := h
  intro x hx; cases hx
theorem MF.not_int {F : Nat → Prop} {w : World} {v : Value} {n : Nat} (h : MF w F v n) : ∀ x, v ≠ .int .i64 x := by
  obtain ⟨A, c, rfl, _⟩ := h
  intro x hx; cases hx
theorem MII.not_int {F : Nat → Prop} {w : World} {v : Value} {n : Nat} (h : MII w F v n) : ∀ x, v ≠ .int .i64 x := by
  obtain ⟨A, c, rfl, _⟩ := h
  intro x hx; cases hx
theorem MII.marked {F : Nat → Prop} {w w' : World} {v : Value} {n : Nat} (h : MII w F v n) (m : Marked F w w') : MII w' F v n :=
  h.imp (fun _ _ _ h => m.free _ h) (fun _ _ _ ⟨u, a, h0, h1, h2⟩ => ⟨u, a, h0, m.keep _ _ h1 h2.not_int, h2.marked m⟩)
def MP (w : World) (F : Nat → Prop) (v : Value) (n : Nat) : Prop := RowP w F v n (fun b k => ∃ vp vc vn va a1 a2 a3 a4, (a1 ≤ 1048576 ∧ a2 ≤ 1048576 ∧ a3 ≤ 1048576 ∧ a4 ≤ 1048576) ∧
  w.cell? ⟨b, k * 6, none⟩ = some vp ∧ w.cell? ⟨b, k * 6 + 1, none⟩ = some vc ∧ AnyI w b (k * 6 + 2) ∧ AnyI w b (k * 6 + 3) ∧ w.cell? ⟨b, k * 6 + 4, none⟩ = some vn ∧ w.cell? ⟨b, k * 6 + 5, none⟩ = some va ∧
  MI w F vp a1 ∧ MF w F vc a2 ∧ MI w F vn a3 ∧ MII w F va a4)
theorem MP.marked {F : Nat → Prop} {w w' : World} {v : Value} {n : Nat} (h : MP w F v n) (m : Marked F w w') : MP w' F v n :=
  h.imp (fun _ _ _ h => m.free _ h) (fun _ _ _ ⟨vp, vc, vn, va, a1, a2, a3, a4, hl, h0, h1, h2, h3, h4, h5, k1, k2, k3, k4⟩ => ⟨vp, vc, vn, va, a1, a2, a3, a4, hl, m.keep _ _ h0 k1.not_int, m.keep _ _ h1 k2.not_int, h2.marked m, h3.marked m, m.keep _ _ h4 k3.not_int, m.keep _ _ h5 k4.not_int, k1.marked m, k2.marked m, k3.marked m, k4.marked m⟩)
/-- The blocks of F are as they were. -/
def Stay (F : Nat → Prop) (w w' : World) : Prop := ∀ b, F b → w'.heap[b]? = w.heap[b]?
theorem Stay.below {F : Nat → Prop} {w w' : World} (hF : ∀ b, F b → b < w.heap.size) (h : Below w.heap.size w w') : Stay F w w' := fun b hb => h.block b (hF b hb)
theorem Stay.cell {F : Nat → Prop} {w w' : World} (h : Stay F w w') {b o : Nat} (hb : F b) : w'.cell? ⟨b, o, none⟩ = w.cell? ⟨b, o, none⟩ := Rp.cell_move (h b hb) o
theorem Stay.free {F : Nat → Prop} {w w' : World} (h : Stay F w w') {b o : Nat} (hb : F b) (hf : w.frozen? ⟨b, o, none⟩ = false) : w'.frozen? ⟨b, o, none⟩ = false := (World.frozen?_of_block (w := w) (w' := w') (a := ⟨b, o, none⟩) (h b hb)).trans hf
theorem AnyI.stay {F : Nat → Prop} {w w' : World} {b o : Nat} (h : AnyI w b o) (m : Stay F w w') (hb : F b) : AnyI w' b o := let ⟨x, h⟩ := h; ⟨x, (m.cell hb).trans h⟩
theorem MI.stay {F : Nat → Prop} {w w' : World} {v : Value} {n : Nat} (h : MI w F v n) (m : Stay F w w') : MI w' F v n := h.imp (fun _ hb _ h => m.free hb h) (fun _ hb _ h => h.stay m hb)
theorem MF.stay {F : Nat → Prop} {w w' : World} {v : Value} {n : Nat} (h : MF w F v n) (m : Stay F w w') : MF w' F v n :=
  h.imp (fun _ hb _ h => m.free hb h) (fun _ hb _ ⟨h0, h1, h2, h3, h4, h5⟩ => ⟨h0.stay m hb, h1.stay m hb, h2.stay m hb, h3.stay m hb, h4.stay m hb, h5.stay m hb⟩)
theorem MII.stay {F : Nat → Prop} {w w' : World} {v : Value} {n : Nat} (h : MII w F v n) (m : Stay F w w') : MII w' F v n :=
  h.imp (fun _ hb _ h => m.free hb h) (fun _ hb _ ⟨u, a, h0, h1, h2⟩ => ⟨u, a, h0, (m.cell hb).trans h1, h2.stay m⟩)
theorem MP.stay {F : Nat → Prop} {w w' : World} {v : Value} {n : Nat} (h : MP w F v n) (m : Stay F w w') : MP w' F v n :=
  h.imp (fun _ hb _ h => m.free hb h) (fun _ hb _ ⟨vp, vc, vn, va, a1, a2, a3, a4, hl, h0, h1, h2, h3, h4, h5, k1, k2, k3, k4⟩ => ⟨vp, vc, vn, va, a1, a2, a3, a4, hl, (m.cell hb).trans h0, (m.cell hb).trans h1, h2.stay m hb, h3.stay m hb, (m.cell hb).trans h4, (m.cell hb).trans h5, k1.stay m, k2.stay m, k3.stay m, k4.stay m⟩)
/-- A row of one's own is such a row. -/
theorem Ow.rowP {α : Type} {ap : Bool} {e : Nat} {r : Rp α} {w : World} {F : Nat → Prop} {v : Value} {l : List α} (h : Ow ap e r w F v l) {P : Nat → Nat → Prop}
    (hp : ∀ (b k : Nat) (x : α) (cs : List Value), l[k]? = some x → r.K w F x cs → (∀ j u, cs[j]? = some u → w.cell? ⟨b, k * r.sz + j, none⟩ = some u) → P b k) : RowP w F v l.length P := by
  obtain ⟨A, c, rfl, h1, h2⟩ := h.form
  refine ⟨A, c, rfl, h1, h2, ?_⟩
  by_cases hn : l.length = 0
  · exact .inl hn
  obtain ⟨g, c0, cs0, he0, hF0, _, _, _, hz0⟩ := h.at_ (List.getElem?_eq_getElem (show 0 < l.length by omega))
  cases he0
  refine .inr ⟨g, rfl, hF0, hz0, fun k hk => ?_⟩
  obtain ⟨g1, c1, cs1, he1, _, _, hK, hc, _⟩ := h.at_ (List.getElem?_eq_getElem hk)
  cases he1
  exact hp g k _ cs1 (List.getElem?_eq_getElem hk) (r.mono (fun q hq => hq.1) hK) hc
theorem Ow.mi {ap : Bool} {e : Nat} {w : World} {F : Nat → Prop} {v : Value} {l : List Int} (h : Ow ap e Rp.int w F v l) : MI w F v l.length :=
  h.rowP (fun b k x cs _ hK hc => by
    obtain rfl := hK
    exact ⟨x, by have := hc 0 _ rfl; rwa [show k * Rp.int.sz + 0 = k from by show k * 1 + 0 = k; omega] at this⟩)
theorem Ow.mf {ap : Bool} {e : Nat} {w : World} {F : Nat → Prop} {v : Value} {l : List Fl} (h : Ow ap e flat w F v l) : MF w F v l.length :=
  h.rowP (fun b k x cs _ hK hc => by
    have hcs := flat_open hK
    subst hcs
    have hs : ∀ j, k * flat.sz + j = k * 6 + j := fun j => rfl
    exact ⟨⟨_, (hc 0 _ rfl)⟩, ⟨_, (hc 1 _ rfl)⟩, ⟨_, (hc 2 _ rfl)⟩, ⟨_, (hc 3 _ rfl)⟩, ⟨_, (hc 4 _ rfl)⟩, ⟨_, (hc 5 _ rfl)⟩⟩)
theorem Ow.mii {w : World} {F : Nat → Prop} {v : Value} {l : List (List Int)} (h : Ow true 59 (Rp.ow true 3 Rp.int) w F v l) (hl : ∀ a ∈ l, a.length ≤ 1048576) : MII w F v l.length :=
  h.rowP (fun b k x cs hx hK hc => by
    obtain ⟨u, rfl, hu⟩ := hK
    exact ⟨u, x.length, hl x (List.mem_of_getElem? hx), by have := hc 0 _ rfl; rwa [show k * (Rp.ow true 3 Rp.int).sz + 0 = k from by show k * 1 + 0 = k; omega] at this, hu.mi⟩)
end Go.Proofs.YtnfaibenekninaaGreat.L

set_option linter.unusedVariables false
set_option linter.unusedSimpArgs false
namespace Go.Proofs.YtnfaibenekninaaGreat.L
open Go.RowKit
set_option maxRecDepth 100000 in
set_option maxHeartbeats 4000000 in
theorem markI_calls {F : Nat → Prop} (v : Value) (n : Nat) (k : Int) (w : World) (h : MI w F v n) (hk : 0 ≤ k) (hk2 : k + n ≤ 4611686018427387904) :
    Calls Tryz.prog 45 #[v, .int .i64 k] w fun e w' => e = .returned (.int .i64 (k + n)) ∧ Marked F w w' := by
  obtain ⟨A, c, rfl, hc1, hc2, hrow⟩ := id h
  go_enter Tryz.func45, Tryz.ntmps45
  go_wp2
  go_loopw [1, 5] (fun z i wr => ∃ m : Nat, m ≤ n ∧ i = .int .i64 m ∧ z = .int .i64 (k + m) ∧ Marked F w wr) (fun _ i _ => n - (intOf i).toNat)
  case atStart => exact ⟨0, Nat.zero_le _, rfl, by go_num, Marked.refl _ _⟩
  case round =>
    obtain ⟨m, hm, rfl, rfl, HM⟩ := hrel
    rename World => wo
    by_cases hlt : m < n
    · rcases hrow with hnil | ⟨b, rfl, hF, hfz, hcell⟩
      · omega
      obtain ⟨x, hx⟩ := (hcell m hlt).marked HM
      have hz := HM.free _ (hfz m)
      have hS := HM.trans (Marked.set (k + m) hF hx)
      clear hcell hfz h
      have i0 : (0 : Int) ≤ (m : Int) := Int.natCast_nonneg _
      have i1 : (m : Int) < (n : Int) := by omega
      have t1 : IntKind.i64.wrap (k + m + 1) = k + m + 1 := IntWalk.i64_in _ (by omega)
      go_wp2
      go_roundw
      case rel => exact ⟨m + 1, by omega, by go_num, by go_num, hS⟩
      case measure => simp [intOf]; omega
    · obtain rfl : m = n := by omega
      go_wp2
      go_ret
      exact ⟨rfl, HM⟩
set_option maxRecDepth 100000 in
set_option maxHeartbeats 4000000 in
theorem markF_calls {F : Nat → Prop} (v : Value) (n : Nat) (k : Int) (w : World) (h : MF w F v n) (hk : 0 ≤ k) (hk2 : k + 6 * n ≤ 4611686018427387904) :
    Calls Tryz.prog 44 #[v, .int .i64 k] w fun e w' => e = .returned (.int .i64 (k + 6 * n)) ∧ Marked F w w' := by
  obtain ⟨A, c, rfl, hc1, hc2, hrow⟩ := id h
  go_enter Tryz.func44, Tryz.ntmps44
  go_wp2
  go_loopw [1, 5] (fun z i wr => ∃ m : Nat, m ≤ n ∧ i = .int .i64 m ∧ z = .int .i64 (k + 6 * m) ∧ Marked F w wr) (fun _ i _ => n - (intOf i).toNat)
  case atStart => exact ⟨0, Nat.zero_le _, rfl, by go_num, Marked.refl _ _⟩
  case round =>
    obtain ⟨m, hm, rfl, rfl, HM⟩ := hrel
    rename World => wo
    by_cases hlt : m < n
    · rcases hrow with hnil | ⟨b, rfl, hF, hfz, hcell⟩
      · omega
      obtain ⟨a0, a1, a2, a3, a4, a5⟩ := hcell m hlt
      have hz0 := HM.free _ (hfz (m * 6))
      have hz1 := HM.free _ (hfz (m * 6 + 1))
      have hz2 := HM.free _ (hfz (m * 6 + 2))
      have hz3 := HM.free _ (hfz (m * 6 + 3))
      have hz4 := HM.free _ (hfz (m * 6 + 4))
      have hz5 := HM.free _ (hfz (m * 6 + 5))
      obtain ⟨z, hz⟩ : ∃ z : Int, z = k + 6 * m := ⟨_, rfl⟩
      have m0 : 0 ≤ z := by omega
      have m1 : z + 6 ≤ 4611686018427387904 := by omega
      obtain ⟨x0, hx0⟩ := a0.marked HM
      have M1 := HM.trans (Marked.set z hF hx0)
      obtain ⟨x1, hx1⟩ := a1.marked M1
      have M2 := M1.trans (Marked.set (z + 1) hF hx1)
      obtain ⟨x2, hx2⟩ := a2.marked M2
      have M3 := M2.trans (Marked.set (z + 1 + 1) hF hx2)
      obtain ⟨x3, hx3⟩ := a3.marked M3
      have M4 := M3.trans (Marked.set (z + 1 + 1 + 1) hF hx3)
      obtain ⟨x4, hx4⟩ := a4.marked M4
      have M5 := M4.trans (Marked.set (z + 1 + 1 + 1 + 1) hF hx4)
      obtain ⟨x5, hx5⟩ := a5.marked M5
      have M6 := M5.trans (Marked.set (z + 1 + 1 + 1 + 1 + 1) hF hx5)
      clear hcell hfz h a0 a1 a2 a3 a4 a5 HM M1 M2 M3 M4 M5
      have HZ := Lib.hid hz
      rw [← hz]
      clear hz
      have i0 : (0 : Int) ≤ (m : Int) := Int.natCast_nonneg _
      have i1 : (m : Int) < (n : Int) := by omega
      have t1 : IntKind.i64.wrap (z + 1) = z + 1 := IntWalk.i64_in _ (by omega)
      have t2 : IntKind.i64.wrap (z + 1 + 1) = z + 1 + 1 := IntWalk.i64_in _ (by omega)
      have t3 : IntKind.i64.wrap (z + 1 + 1 + 1) = z + 1 + 1 + 1 := IntWalk.i64_in _ (by omega)
      have t4 : IntKind.i64.wrap (z + 1 + 1 + 1 + 1) = z + 1 + 1 + 1 + 1 := IntWalk.i64_in _ (by omega)
      have t5 : IntKind.i64.wrap (z + 1 + 1 + 1 + 1 + 1) = z + 1 + 1 + 1 + 1 + 1 := IntWalk.i64_in _ (by omega)
      have t6 : IntKind.i64.wrap (z + 1 + 1 + 1 + 1 + 1 + 1) = z + 1 + 1 + 1 + 1 + 1 + 1 := IntWalk.i64_in _ (by omega)
      go_wp2
      go_roundw
      case rel => exact ⟨m + 1, by omega, by go_num, by have := HZ.out; congr 1; push_cast; omega, M6⟩
      case measure => simp [intOf]; omega
    · obtain rfl : m = n := by omega
      go_wp2
      go_ret
      exact ⟨rfl, HM⟩
/-- The end of a marking: how far it counted. -/
inductive MarkRes (F : Nat → Prop) (w : World) (k b : Int) (e : Ending) (w' : World) : Prop where
  | mk (z : Int) (he : e = .returned (.int .i64 z)) (h1 : k ≤ z) (h2 : z ≤ b) (hM : Marked F w w') : MarkRes F w k b e w'
set_option maxRecDepth 100000 in
set_option maxHeartbeats 4000000 in
theorem markII_calls {F : Nat → Prop} (v : Value) (n : Nat) (k : Int) (w : World) (h : MII w F v n) (hk : 0 ≤ k) (hk2 : k + 1048576 * n ≤ 4611686018427387904) :
    Calls Tryz.prog 74 #[v, .int .i64 k] w (MarkRes F w k (k + 1048576 * n)) := by
  obtain ⟨A, c, rfl, hc1, hc2, hrow⟩ := id h
  go_enter Tryz.func74, Tryz.ntmps74
  go_wp2
  go_loopw [1, 5] (fun z i wr => ∃ (m : Nat) (y : Int), m ≤ n ∧ i = .int .i64 m ∧ z = .int .i64 y ∧ k ≤ y ∧ y ≤ k + 1048576 * m ∧ Marked F w wr) (fun _ i _ => n - (intOf i).toNat)
  case atStart => exact ⟨0, k, Nat.zero_le _, rfl, rfl, Int.le_refl _, by omega, Marked.refl _ _⟩
  case round =>
    obtain ⟨m, y, hm, rfl, rfl, hy1, hy2, HM⟩ := hrel
    rename World => wo
    by_cases hlt : m < n
    · rcases hrow with hnil | ⟨b, rfl, hF, hfz, hcell⟩
      · omega
      obtain ⟨u, a, ha, hu, hI⟩ := hcell m hlt
      have cu := HM.keep _ _ hu hI.not_int
      have HC := Lib.hid (markI_calls u a y wo (hI.marked HM) (by omega) (by omega))
      obtain ⟨Au, ku, rfl, _⟩ := id hI
      clear hcell hfz h hI hu
      have i0 : (0 : Int) ≤ (m : Int) := Int.natCast_nonneg _
      have i1 : (m : Int) < (n : Int) := by omega
      go_wp2_with fail
      refine HC.out.mono ?_
      rintro e w1 ⟨rfl, M1⟩
      have HM1 := HM.trans M1
      clear HC M1 cu HM
      go_wp2
      go_roundw
      case rel => exact ⟨m + 1, y + a, by omega, by go_num, rfl, by omega, by push_cast; omega, HM1⟩
      case measure => simp [intOf]; omega
    · obtain rfl : m = n := by omega
      go_wp2
      go_ret
      exact .mk _ rfl hy1 hy2 HM
set_option maxRecDepth 100000 in
set_option maxHeartbeats 4000000 in
theorem markP_calls {F : Nat → Prop} (v : Value) (n : Nat) (k : Int) (w : World) (h : MP w F v n) (hk : 0 ≤ k) (hk2 : k + 1099520017000 * n ≤ 4611686018427387904) :
    Calls Tryz.prog 29 #[v, .int .i64 k] w (MarkRes F w k (k + 1099520017000 * n)) := by
  obtain ⟨A, c, rfl, hc1, hc2, hrow⟩ := id h
  go_enter Tryz.func29, Tryz.ntmps29
  go_wp2
  go_loopw [1, 5] (fun z i wr => ∃ (m : Nat) (y : Int), m ≤ n ∧ i = .int .i64 m ∧ z = .int .i64 y ∧ k ≤ y ∧ y ≤ k + 1099520017000 * m ∧ Marked F w wr) (fun _ i _ => n - (intOf i).toNat)
  case atStart => exact ⟨0, k, Nat.zero_le _, rfl, rfl, Int.le_refl _, by omega, Marked.refl _ _⟩
  case round =>
    obtain ⟨m, y, hm, rfl, rfl, hy1, hy2, HM⟩ := hrel
    rename World => wo
    by_cases hlt : m < n
    · rcases hrow with hnil | ⟨b, rfl, hF, hfz, hcell⟩
      · omega
      obtain ⟨vp, vc, vn, va, a1, a2, a3, a4, ⟨l1, l2, l3, l4⟩, h0, h1, g2, g3, h4, h5, k1, k2, k3, k4⟩ := hcell m hlt
      have hz2 := hfz (m * 6 + 2)
      have hz3 := hfz (m * 6 + 3)
      have e0 := k1.not_int
      have e1 := k2.not_int
      have e4 := k3.not_int
      have e5 := k4.not_int
      clear hcell hfz h
      have i0 : (0 : Int) ≤ (m : Int) := Int.natCast_nonneg _
      have i1 : (m : Int) < (n : Int) := by omega
      have HC1 := Lib.hid (markI_calls vp a1 y wo (k1.marked HM) (by omega) (by omega))
      have x0 := HM.keep _ _ h0 e0
      have x1 := HM.keep _ _ h1 e1
      obtain ⟨Ap, cp, hvp, _⟩ := id k1
      obtain ⟨Ac, cc, hvc, _⟩ := id k2
      obtain ⟨An, cn, hvn, _⟩ := id k3
      obtain ⟨Aa, ca, hva, _⟩ := id k4
      rw [hvp] at HC1 x0
      go_wp2_with fail
      refine HC1.out.mono ?_
      rintro e w1 ⟨rfl, M1⟩
      have HM1 := HM.trans M1
      clear HC1 x0 x1 M1 HM
      have HC2 := Lib.hid (markF_calls vc a2 (y + a1) w1 (k2.marked HM1) (by omega) (by omega))
      have x1 := HM1.keep _ _ h1 e1
      rw [hvc] at HC2 x1
      go_wp2_with fail
      refine HC2.out.mono ?_
      rintro e w2 ⟨rfl, M2⟩
      have HM2 := HM1.trans M2
      clear HC2 x1 M2 HM1
      obtain ⟨z, hz⟩ : ∃ z : Int, z = y + a1 + 6 * a2 := ⟨_, rfl⟩
      have HZ := Lib.hid hz
      have z0 : 0 ≤ z := by omega
      have z1 : z ≤ y + 7340032 := by omega
      have z2 : y ≤ z := by omega
      rw [← hz]
      clear hz
      obtain ⟨u2, hu2⟩ := g2.marked HM2
      have hZ2 := HM2.free _ hz2
      have HM3 := HM2.trans (Marked.set z hF hu2)
      obtain ⟨u3, hu3⟩ := g3.marked HM3
      have hZ3 := HM2.free _ hz3
      have HM4 := HM3.trans (Marked.set (z + 1) hF hu3)
      have x4 := HM4.keep _ _ h4 e4
      have x5 := HM4.keep _ _ h5 e5
      have HC3 := Lib.hid (markI_calls vn a3 (z + 1 + 1) _ (k3.marked HM4) (by omega) (by omega))
      rw [hvn] at x4 HC3
      have t1 : IntKind.i64.wrap (z + 1) = z + 1 := IntWalk.i64_in _ (by omega)
      have t2 : IntKind.i64.wrap (z + 1 + 1) = z + 1 + 1 := IntWalk.i64_in _ (by omega)
      clear HM2 HM3
      go_wp2_with fail
      refine HC3.out.mono ?_
      rintro e w5 ⟨rfl, M5⟩
      have HM5 := HM4.trans M5
      clear HC3 x4 x5 HM4 M5
      have HC4 := Lib.hid (markII_calls va a4 (z + 1 + 1 + a3) _ (k4.marked HM5) (by omega) (by omega))
      have x5 := HM5.keep _ _ h5 e5
      rw [hva] at x5 HC4
      go_wp2_with fail
      refine HC4.out.mono ?_
      rintro e w6 ⟨y6, rfl, hy3, hy4, M6⟩
      have HM6 := HM5.trans M6
      clear HC4 x5 HM5 M6
      go_wp2
      go_roundw
      case rel => exact ⟨m + 1, y6, by omega, by go_num, rfl, by omega, by push_cast; omega, HM6⟩
      case measure => simp [intOf]; omega
    · obtain rfl : m = n := by omega
      go_wp2
      go_ret
      exact .mk _ rfl hy1 hy2 HM
set_option maxRecDepth 100000 in
set_option maxHeartbeats 4000000 in
theorem markSa_calls {F : Nat → Prop} (vparts V : Value) (n : Nat) (k : Int) (w : World) (h : MP w F vparts n) (hF : ∀ q, F q → q < w.heap.size) (hk : 0 ≤ k) (hk2 : k + 1099520017000 * n ≤ 4611686018427387904) :
    Calls Tryz.prog 11 #[.agg #[vparts, V], .int .i64 k] w fun e w' => ∃ z, e = .returned (.int .i64 z) ∧ 0 ≤ z ∧ Chg F w w' := by
  obtain ⟨A, c, rfl, hc1, hc2, hrow⟩ := id h
  have b0 := heap_alloc_new w (.cells #[.slice A n c, V] 28)
  have hB := below_new (w := w) (.cells #[.slice A n c, V] 28)
  have hC : Chg F w (w.alloc (.cells #[.slice A n c, V] 28)) := Chg.of_below hB
  have h1 : MP (w.alloc (.cells #[.slice A n c, V] 28)) F (.slice A n c) n := by
    exact h.stay (Stay.below hF hB)
  have HC := Lib.hid (markP_calls (.slice A n c) n k _ h1 hk hk2)
  obtain ⟨x, _⟩ := cell_of_block b0
  have x0 : (w.alloc (.cells #[.slice A n c, V] 28)).cell? ⟨w.heap.size, 0, none⟩ = some (.slice A n c) := (x 0).trans rfl
  clear x
  go_enter Tryz.func11, Tryz.ntmps11
  go_wp2_with fail
  refine HC.out.mono ?_
  rintro e w1 ⟨z, rfl, h1, h2, hM⟩
  have hC1 := hC.trans hM.chg
  clear HC x0 hM
  go_wp2
  go_ret
  exact ⟨_, rfl, by omega, hC1⟩
end Go.Proofs.YtnfaibenekninaaGreat.L

set_option linter.unusedVariables false
set_option linter.unusedSimpArgs false
namespace Go.Proofs.YtnfaibenekninaaGreat.L
open Go.RowKit
theorem Ow.mp {w : World} {F : Nat → Prop} {v : Value} {l : List Pt} (h : Ow true 67 partA w F v l) (hl : ∀ p ∈ l, PtLim p) : MP w F v l.length :=
  h.rowP (fun b k x cs hx hK hc => by
    obtain ⟨G0, G1, G2, G3, i0, i1, i2, i3, -, -, -, -, -, -, vp, vc, vn, va, rfl, h0, h1, h2, h3⟩ := partA_open hK
    obtain ⟨l0, l1, l2, l3, l4⟩ := hl x (List.mem_of_getElem? hx)
    exact ⟨vp, vc, vn, va, _, _, _, _, ⟨l0, l1, l2, l3⟩, hc 0 _ rfl, hc 1 _ rfl, ⟨_, hc 2 _ rfl⟩, ⟨_, hc 3 _ rfl⟩, hc 4 _ rfl, hc 5 _ rfl, (h0.mono i0).mi, (h1.mono i1).mf, (h2.mono i2).mi, (h3.mono i3).mii l4⟩)
/-- The marks. -/
def upL (k : Int) (n : Nat) : List Int := (List.range n).map (fun i : Nat => k + i)
theorem upL_len (k : Int) (n : Nat) : (upL k n).length = n := by unfold upL; simp
theorem upL_succ (k : Int) (n : Nat) : upL k (n + 1) = upL k n ++ [k + n] := by unfold upL; rw [List.range_succ, List.map_append]; rfl
theorem upL_get {k : Int} {n i : Nat} (hi : i < (upL k n).length) : (upL k n)[i] = k + i := by simp [upL]
theorem up_set {k : Int} {m : Nat} {l : List Int} (hm : m < l.length) : (upL k m ++ l.drop m).set m (k + m) = upL k (m + 1) ++ l.drop (m + 1) := by
  rw [upL_succ, List.append_assoc, List.drop_eq_getElem_cons hm, List.set_append_right _ _ (by rw [upL_len]; exact Nat.le_refl _), upL_len, Nat.sub_self, List.set_cons_zero]
  rfl
set_option maxRecDepth 100000 in
set_option maxHeartbeats 4000000 in
theorem markI_own {ap : Bool} {e0 : Nat} {F : Nat → Prop} (v : Value) (l : List Int) (k : Int) (w : World) (h : Ow ap e0 Rp.int w F v l) (hk : 0 ≤ k) (hk2 : k + l.length ≤ 4611686018427387904) :
    Calls Tryz.prog 45 #[v, .int .i64 k] w fun e w' => e = .returned (.int .i64 (k + l.length)) ∧ Ow ap e0 Rp.int w' F v (upL k l.length) ∧ Chg F w w' := by
  obtain ⟨A, c, rfl, hc1, hc2⟩ := h.form
  have hA : l.length = 0 ∨ ∃ g, A = some ⟨g, 0, none⟩ ∧ F g := by
    by_cases hn : l.length = 0
    · exact .inl hn
    obtain ⟨g, c0, cs0, he0, hF0, _, _, _, hz0⟩ := h.at_ (List.getElem?_eq_getElem (show 0 < l.length by omega))
    cases he0
    exact .inr ⟨g, rfl, hF0⟩
  generalize hN : l.length = N at *
  go_enter Tryz.func45, Tryz.ntmps45
  go_wp2
  go_loopw [1, 5] (fun z i wr => ∃ m : Nat, m ≤ N ∧ i = .int .i64 m ∧ z = .int .i64 (k + m) ∧ Ow ap e0 Rp.int wr F (.slice A N c) (upL k m ++ l.drop m) ∧ Chg F w wr) (fun _ i _ => N - (intOf i).toNat)
  case atStart => exact ⟨0, Nat.zero_le _, rfl, by go_num, h, Chg.refl _ _⟩
  case round =>
    obtain ⟨m, hm, rfl, rfl, HO, HM⟩ := hrel
    rename World => wo
    by_cases hlt : m < N
    · rcases hA with hA | ⟨g, rfl, hF0⟩
      · omega
      have hml : m < (upL k m ++ l.drop m).length := by rw [List.length_append, upL_len, List.length_drop]; omega
      have HS := HO.set1 rfl hml (y := k + m) (u := .int .i64 (k + m)) rfl
      rw [up_set (by omega)] at HS
      have hC := HM.trans (Chg.set (w := wo) (o := m) (u := .int .i64 (k + m)) hF0)
      obtain ⟨hx, hz⟩ := HO.int_at hml
      clear HO HM h
      generalize (upL k m ++ l.drop m)[m] = x at *
      have i0 : (0 : Int) ≤ (m : Int) := Int.natCast_nonneg _
      have i1 : (m : Int) < (N : Int) := by omega
      have t1 : IntKind.i64.wrap (k + m + 1) = k + m + 1 := IntWalk.i64_in _ (by omega)
      go_wp2
      go_roundw
      case rel => exact ⟨m + 1, by omega, by go_num, by go_num, HS, hC⟩
      case measure => simp [intOf]; omega
    · obtain rfl : m = N := by omega
      rw [← hN, List.drop_length, List.append_nil, hN] at HO
      go_wp2
      go_ret
      exact ⟨rfl, HO, HM⟩
set_option maxRecDepth 100000 in
set_option maxHeartbeats 4000000 in
theorem heldI_calls {F : Nat → Prop} (v : Value) (n : Nat) (k : Int) (w : World) (h : Rp.Rd Rp.int w F v (upL k n)) (hk : 0 ≤ k) (hk2 : k + n ≤ 4611686018427387904) :
    Calls Tryz.prog 75 #[v, .int .i64 k] w fun e w' => e = .returned (.int .i64 (k + n)) ∧ w = w' := by
  obtain ⟨A, c, rfl, hc1, hc2, hrow⟩ := rd_int h
  have hl : (upL k n).length = n := upL_len k n
  have hrow : n = 0 ∨ ∃ b o, A = some ⟨b, o, none⟩ ∧ b < w.heap.size ∧ ∀ m : Nat, m < n → w.cell? ⟨b, o + m, none⟩ = some (.int .i64 (k + m)) := by
    rcases hrow with hnil | ⟨b, o, e, hb, hc⟩
    · left; rw [hnil] at hl; simpa using hl.symm
    · exact .inr ⟨b, o, e, hb, fun m hm => by have := hc m (by omega); rwa [upL_get] at this⟩
  rw [hl]
  rw [hl] at hc1
  go_enter Tryz.func75, Tryz.ntmps75
  go_wp2
  go_loop [1, 5] (fun z i => ∃ m : Nat, m ≤ n ∧ i = .int .i64 m ∧ z = .int .i64 (k + m)) (fun _ i => n - (intOf i).toNat)
  case atStart => exact ⟨0, Nat.zero_le _, rfl, by go_num⟩
  case round =>
    obtain ⟨m, hm, rfl, rfl⟩ := hrel
    by_cases hlt : m < n
    · rcases hrow with hnil | ⟨b, o, rfl, hb, hcell⟩
      · omega
      have hx := hcell m hlt
      clear hcell h hl
      have i0 : (0 : Int) ≤ (m : Int) := Int.natCast_nonneg _
      have i1 : (m : Int) < (n : Int) := by omega
      have t1 : IntKind.i64.wrap (k + m + 1) = k + m + 1 := IntWalk.i64_in _ (by omega)
      have hne : ((k + (m : Int)) != (k + (m : Int))) = false := by simp
      go_wp2
      go_round
      case rel => exact ⟨m + 1, by omega, by go_num, by go_num⟩
      case measure => simp [intOf]; omega
    · obtain rfl : m = n := by omega
      go_wp2
      go_ret
      exact ⟨rfl, rfl⟩
theorem toSsa_rd2 {F : Nat → Prop} (x : Sa) (vparts : Value) (w : World) (hparts : Rp.Rd part w F vparts x.parts) (hx : SaLim x) :
    Calls Tryz.prog 8 #[saV x vparts] w fun e w' => ∃ vparts', e = .returned (saV x vparts') ∧ Ow true 67 partA w' (fun k => w.heap.size ≤ k) vparts' x.parts ∧ Below w.heap.size w w' := by
  refine (toSsa_calls x vparts w hparts hx).mono ?_
  rintro e w' ⟨v', rfl, hK, hb⟩
  obtain ⟨G0, h0, v2, h1, h2⟩ := ssaA_open hK
  simp only [List.cons.injEq, and_true] at h1
  obtain rfl := h1
  exact ⟨v', rfl, h2.mono h0, hb⟩
end Go.Proofs.YtnfaibenekninaaGreat.L

set_option linter.unusedVariables false
set_option linter.unusedSimpArgs false
namespace Go.Proofs.YtnfaibenekninaaGreat.L
open Go.RowKit
/-- Few lists, and short ones. -/
def LenOk (L : List (List Int)) : Prop := L.length ≤ 1000 ∧ ∀ a ∈ L, a.length ≤ 1000
def marksLL (k : Int) : List (List Int) → List (List Int)
  | [] => []
  | a :: t => upL k a.length :: marksLL (k + a.length) t
def totLL (L : List (List Int)) : Nat := (L.map List.length).sum
theorem marksLL_len (L : List (List Int)) : ∀ k, (marksLL k L).length = L.length := by
  induction L with
  | nil => intro k; rfl
  | cons a t ih => intro k; simp [marksLL, ih]
theorem totLL_snoc (L : List (List Int)) (a : List Int) : totLL (L ++ [a]) = totLL L + a.length := by simp [totLL]
theorem marksLL_snoc (L : List (List Int)) (a : List Int) : ∀ k, marksLL k (L ++ [a]) = marksLL k L ++ [upL (k + totLL L) a.length] := by
  induction L with
  | nil => intro k; simp [marksLL, totLL]
  | cons b t ih =>
    intro k
    have e : k + (b.length : Int) + (totLL t : Int) = k + (totLL (b :: t) : Int) := by
      have : totLL (b :: t) = b.length + totLL t := by simp [totLL]
      rw [this]; push_cast; omega
    rw [List.cons_append]
    simp only [marksLL, ih, List.cons_append, e]
theorem totLL_le {L : List (List Int)} (h : ∀ a ∈ L, a.length ≤ 1000) : totLL L ≤ L.length * 1000 := by
  induction L with
  | nil => simp [totLL]
  | cons a t ih =>
    have h1 := ih (fun x hx => h x (List.mem_cons_of_mem _ hx))
    have h2 := h a List.mem_cons_self
    have : totLL (a :: t) = a.length + totLL t := by simp [totLL]
    rw [this, List.length_cons, Nat.succ_mul]; omega
theorem totLL_take {L : List (List Int)} {m : Nat} (hm : m < L.length) : totLL (L.take (m + 1)) = totLL (L.take m) + L[m].length ∧ ∀ k, marksLL k (L.take (m + 1)) = marksLL k (L.take m) ++ [upL (k + totLL (L.take m)) L[m].length] := by
  rw [List.take_succ_eq_append_getElem hm]
  exact ⟨totLL_snoc _ _, fun k => marksLL_snoc _ _ k⟩
set_option maxRecDepth 100000 in
set_option maxHeartbeats 4000000 in
theorem markII_own {F : Nat → Prop} (v : Value) (L : List (List Int)) (k : Int) (w : World) (h : Ow true 59 (Rp.ow true 3 Rp.int) w F v L) (hl : L.length ≤ 1000) (hr : ∀ a ∈ L, a.length ≤ 1000) (hk : 0 ≤ k) (hk2 : k ≤ 1000000) :
    Calls Tryz.prog 74 #[v, .int .i64 k] w fun e w' => e = .returned (.int .i64 (k + totLL L)) ∧ Ow true 59 (Rp.ow true 3 Rp.int) w' F v (marksLL k L) ∧ Chg F w w' := by
  obtain ⟨A, c, rfl, hc1, hc2⟩ := h.form
  have hA : L.length = 0 ∨ ∃ g, A = some ⟨g, 0, none⟩ := by
    by_cases hn : L.length = 0
    · exact .inl hn
    · obtain ⟨g, c0, he, _⟩ := Ow.some_form h (by omega)
      injection he with he _ _
      exact .inr ⟨g, he⟩
  go_enter Tryz.func74, Tryz.ntmps74
  go_wp2
  go_loopw [1, 5] (fun z i wr => ∃ m : Nat, m ≤ L.length ∧ i = .int .i64 m ∧ z = .int .i64 (k + totLL (L.take m)) ∧ Ow true 59 (Rp.ow true 3 Rp.int) wr F (.slice A L.length c) (marksLL k (L.take m) ++ L.drop m) ∧ Chg F w wr) (fun _ i _ => L.length - (intOf i).toNat)
  case atStart => exact ⟨0, Nat.zero_le _, rfl, by simp [totLL], by simpa [marksLL] using h, Chg.refl _ _⟩
  case round =>
    obtain ⟨m, hm, rfl, rfl, HO, HC⟩ := hrel
    rename World => wo
    by_cases hlt : m < L.length
    · rcases hA with hA | ⟨g, rfl⟩
      · omega
      have hml : m < (marksLL k (L.take m) ++ L.drop m).length := by rw [List.length_append, marksLL_len, List.length_take, List.length_drop]; omega
      have hgt : (marksLL k (L.take m) ++ L.drop m)[m] = L[m] := by
        have e1 : (marksLL k (L.take m)).length = m := by rw [marksLL_len, List.length_take]; omega
        rw [List.getElem_append_right (by omega), List.getElem_drop]
        congr 1; omega
      obtain ⟨G, u, cu, fu, hGF, hOu, hback⟩ := HO.focus hml
      rw [hgt] at hOu
      obtain ⟨ht1, ht2⟩ := totLL_take hlt
      have hset : Hid ((marksLL k (L.take m) ++ L.drop m).set m (upL (k + totLL (L.take m)) L[m].length) = marksLL k (L.take (m + 1)) ++ L.drop (m + 1)) := Lib.hid (by
        have e1 : (marksLL k (L.take m)).length = m := by rw [marksLL_len, List.length_take]; omega
        rw [ht2 k, List.drop_eq_getElem_cons hlt, List.set_append_right _ _ (by omega), e1, Nat.sub_self, List.set_cons_zero, List.append_assoc]
        rfl)
      have htb := totLL_le (L := L.take m) (fun a ha => hr a (List.mem_of_mem_take ha))
      rw [List.length_take] at htb
      have hlm := hr _ (List.getElem_mem hlt)
      have HT := Lib.hid ht1
      obtain ⟨Au, ku, rfl, _, _⟩ := hOu.form
      have hback := Lib.hid hback
      clear ht1 ht2 hgt h
      generalize L[m] = a at *
      generalize totLL (L.take m) = tt at *
      have i0 : (0 : Int) ≤ (m : Int) := Int.natCast_nonneg _
      have i1 : (m : Int) < (L.length : Int) := by omega
      have HMk := Lib.hid (markI_own _ a (k + tt) wo hOu (by omega) (by omega))
      have hGF := Lib.hid hGF
      go_wp2_with fail
      refine HMk.out.mono ?_
      rintro e w1 ⟨rfl, hO1, hC1⟩
      have HO2 := hback.out w1 _ (fun q hq hn => hC1.block q hq hn) hO1
      rw [hset.out] at HO2
      have HC2 := HC.trans (hC1.mono (fun q hq => (hGF.out q hq).1))
      clear HMk hO1 hC1 hback HO HC hOu cu fu hset
      go_wp2
      go_roundw
      case rel => exact ⟨m + 1, by omega, by go_num, by rw [HT.out]; congr 1; push_cast; omega, HO2, HC2⟩
      case measure => simp [intOf]; omega
    · obtain rfl : m = L.length := by omega
      rw [List.take_length, List.drop_length, List.append_nil] at HO
      rw [List.take_length]
      go_wp2
      go_ret
      exact ⟨rfl, HO, HC⟩
theorem marksLL_get {k : Int} {L : List (List Int)} {m : Nat} (hm : m < L.length) (hm2 : m < (marksLL k L).length) : (marksLL k L)[m] = upL (k + totLL (L.take m)) L[m].length := by
  have h := (totLL_take hm).2 k
  have e : L = L.take (m + 1) ++ L.drop (m + 1) := (List.take_append_drop _ _).symm
  have key : ∀ (A B : List (List Int)) (k : Int), marksLL k (A ++ B) = marksLL k A ++ marksLL (k + totLL A) B := by
    intro A
    induction A with
    | nil => intro B k; simp [marksLL, totLL]
    | cons a t ih =>
      intro B k
      have e : k + (a.length : Int) + (totLL t : Int) = k + (totLL (a :: t) : Int) := by
        have : totLL (a :: t) = a.length + totLL t := by simp [totLL]
        rw [this]; push_cast; omega
      simp only [List.cons_append, marksLL, ih, e]
  have h2 := key (L.take (m + 1)) (L.drop (m + 1)) k
  rw [List.take_append_drop, h] at h2
  have e1 : (marksLL k (L.take m)).length = m := by rw [marksLL_len, List.length_take]; omega
  have : (marksLL k L)[m]? = some (upL (k + totLL (L.take m)) L[m].length) := by
    rw [h2, List.append_assoc, List.getElem?_append_right (by omega), e1, Nat.sub_self]; rfl
  rw [List.getElem?_eq_getElem hm2] at this
  exact Option.some.inj this
set_option maxRecDepth 100000 in
set_option maxHeartbeats 4000000 in
theorem heldII_calls {F : Nat → Prop} (v : Value) (L : List (List Int)) (k : Int) (w : World) (h : Rp.Rd (Rp.sl Rp.int) w F v (marksLL k L)) (hl : L.length ≤ 1000) (hr : ∀ a ∈ L, a.length ≤ 1000) (hk : 0 ≤ k) (hk2 : k ≤ 1000000) :
    Calls Tryz.prog 77 #[v, .int .i64 k] w fun e w' => e = .returned (.int .i64 (k + totLL L)) ∧ w = w' := by
  obtain ⟨A, c, rfl, hc1, hc2, hrow⟩ := rd_ints h
  have hll : (marksLL k L).length = L.length := marksLL_len L k
  have hrow : L.length = 0 ∨ ∃ b o, A = some ⟨b, o, none⟩ ∧ ∀ m (hm : m < L.length), ∃ u, w.cell? ⟨b, o + m, none⟩ = some u ∧ Rp.Rd Rp.int w F u (upL (k + totLL (L.take m)) L[m].length) := by
    rcases hrow with hnil | ⟨b, o, e, hb, hc⟩
    · left; rw [hnil] at hll; simpa using hll.symm
    · refine .inr ⟨b, o, e, fun m hm => ?_⟩
      obtain ⟨u, h1, h2⟩ := hc m (by omega)
      rw [marksLL_get hm] at h2
      exact ⟨u, h1, h2⟩
  rw [hll]
  rw [hll] at hc1
  go_enter Tryz.func77, Tryz.ntmps77
  go_wp2
  go_loop [1, 5] (fun z i => ∃ m : Nat, m ≤ L.length ∧ i = .int .i64 m ∧ z = .int .i64 (k + totLL (L.take m))) (fun _ i => L.length - (intOf i).toNat)
  case atStart => exact ⟨0, Nat.zero_le _, rfl, by simp [totLL]⟩
  case round =>
    obtain ⟨m, hm, rfl, rfl⟩ := hrel
    by_cases hlt : m < L.length
    · rcases hrow with hnil | ⟨b, o, rfl, hcell⟩
      · omega
      obtain ⟨u, cu, hu⟩ := hcell m hlt
      obtain ⟨ht1, -⟩ := totLL_take hlt
      have htb := totLL_le (L := L.take m) (fun a ha => hr a (List.mem_of_mem_take ha))
      rw [List.length_take] at htb
      have hlm := hr _ (List.getElem_mem hlt)
      have HT := Lib.hid ht1
      clear hcell ht1 h
      generalize L[m] = a at *
      generalize totLL (L.take m) = tt at *
      obtain ⟨Au, ku, rfl, _⟩ := id hu
      have HH := Lib.hid (heldI_calls _ a.length (k + tt) w hu (by omega) (by omega))
      have i0 : (0 : Int) ≤ (m : Int) := Int.natCast_nonneg _
      have i1 : (m : Int) < (L.length : Int) := by omega
      have hn0 : ¬ (k + (tt : Int) + (a.length : Int) < 0) := by omega
      clear hu
      rw [upL_len] at *
      go_wp2_with fail
      refine HH.out.mono ?_
      rintro e w1 ⟨rfl, rfl⟩
      go_wp2
      go_round
      case rel => exact ⟨m + 1, by omega, by go_num, by rw [HT.out]; congr 1; push_cast; omega⟩
      case measure => simp [intOf]; omega
    · obtain rfl : m = L.length := by omega
      rw [List.take_length]
      go_wp2
      go_ret
      exact ⟨rfl, rfl⟩
end Go.Proofs.YtnfaibenekninaaGreat.L

set_option linter.unusedVariables false
set_option linter.unusedSimpArgs false
namespace Go.Proofs.YtnfaibenekninaaGreat.L
open Go.RowKit
theorem ow_allocE {α : Type} {e n : Nat} {r : Rp α} (W : World) {z : Value} {x0 : α} (hn : n ≤ 9223372036854775807) (h1 : r.sz = 1) (hx : ∀ w, r.K w (fun _ => False) x0 [z]) :
    Ow true e r (W.alloc (.cells (madeCells #[z] n) e)) (fun k => k = W.heap.size) (.slice (some ⟨W.heap.size, 0, none⟩) n n) (List.replicate n x0) := by
  have h := ow_alloc (e := e) (n := n) (r := r) W (z := #[z]) (x0 := x0) hn h1.symm (by omega) hx
  rw [h1, Nat.mul_one] at h
  exact h
theorem putRow_one (w : World) (g o : Nat) (u : Value) : putRow w g o [u] = w.setCell ⟨g, o, none⟩ u := rfl
/-- A row stored that may lead to what the others lead to. -/
theorem Ow.put_loose {α : Type} {e : Nat} {r : Rp α} {w : World} {F G : Nat → Prop} {l : List α} {g n c : Nat} (h : Ow false e r w F (.slice (some ⟨g, 0, none⟩) n c) l) (h1 : r.sz = 1) {i : Nat} (hi : i < l.length) {y : α} {u : Value} (hy : r.K w G y [u]) (hG : ∀ k, G k → k ≠ g) :
    Ow false e r (w.setCell ⟨g, i, none⟩ u) (fun k => F k ∨ G k) (.slice (some ⟨g, 0, none⟩) n c) (l.set i y) := by
  obtain rfl := h.len_eq
  obtain ⟨φ, xs, k1, h2, h3, h4, h5⟩ := h
  have hg : F g := h2 g (by simp [Value.ownBlock])
  have hp := putRow_owns [u] w xs (i * r.sz) k1
  have hus : [u].length = r.sz := h1.symm
  rw [show w.setCell ⟨g, i, none⟩ u = putRow w g (i * r.sz) [u] by rw [h1, Nat.mul_one]; rfl]
  refine ⟨fun j k => if j = i then G k else φ j k, seg xs (i * r.sz) [u], by rw [List.length_set]; exact hp.1, fun k hk => .inl (h2 k hk), ?_, (fun h => by cases h), ?_⟩
  · intro j k hk
    split at hk
    · exact ⟨.inr hk, fun he => hG k hk (by simpa [Value.ownBlock, eq_comm] using he)⟩
    · exact ⟨.inl (h3 j k hk).1, (h3 j k hk).2⟩
  · intro j x hx
    rw [List.getElem?_set] at hx
    have hjl : j < l.length := by
      rcases Nat.lt_or_ge j l.length with hh | hh
      · exact hh
      · split at hx
        · omega
        · rw [List.getElem?_eq_none hh] at hx; cases hx
    rw [seg_drop k1.1 hi hus j hjl]
    by_cases hji : j = i
    · subst hji
      rw [if_pos rfl, if_pos hi] at hx
      cases hx
      simp only [if_true]
      refine r.move (fun k hk hlt => hp.2.block k hlt (fun he => by cases he; exact hG _ hk rfl)) hy
    · rw [if_neg (fun h => hji h.symm)] at hx
      simp only [if_neg hji]
      refine r.move (fun k hk hlt => hp.2.block k hlt (fun he => by cases he; exact (h3 j _ hk).2 (by simp [Value.ownBlock]))) (h5 j x hx)
end Go.Proofs.YtnfaibenekninaaGreat.L

set_option linter.unusedVariables false
set_option linter.unusedSimpArgs false
namespace Go.Proofs.YtnfaibenekninaaGreat.L
open Go.RowKit
/-- The row but for element k, whose cells are us; what the others lead to lies in F, and so does the row's block. -/
def Hole {α : Type} (e : Nat) (r : Rp α) (w : World) (F : Nat → Prop) (g n c : Nat) (l : List α) (k : Nat) (us : List Value) : Prop :=
  ∃ (φ : Nat → Nat → Prop) (xs : List Value), w.ownsRow 0 e r.sz (.slice (some ⟨g, 0, none⟩) n c) n xs ∧ n = l.length ∧ k < n ∧ us.length = r.sz ∧ (xs.drop (k * r.sz)).take r.sz = us ∧ F g ∧ (∀ i q, φ i q → F q ∧ q ≠ g) ∧
    (∀ i j q, φ i q → φ j q → i = j) ∧ ∀ i x, i ≠ k → l[i]? = some x → r.K w (φ i) x ((xs.drop (i * r.sz)).take r.sz)
section
variable {α : Type} {e : Nat} {r : Rp α} {w w' : World} {F G : Nat → Prop} {g n c k : Nat} {l : List α} {us : List Value}
theorem Ow.hole (h : Ow true e r w F (.slice (some ⟨g, 0, none⟩) n c) l) (hk : k < l.length) :
    ∃ Fr Gk us, (∀ q, Fr q → F q) ∧ (∀ q, Gk q → F q ∧ ¬ Fr q ∧ q ≠ g) ∧ r.K w Gk l[k] us ∧ Hole e r w Fr g n c l k us := by
  obtain rfl := h.len_eq
  obtain ⟨φ, xs, h1, h2, h3, h4, h5⟩ := h
  have hg : F g := h2 g (by simp [Value.ownBlock])
  have h3' : ∀ i q, φ i q → F q ∧ q ≠ g := fun i q hq => ⟨(h3 i q hq).1, fun he => (h3 i q hq).2 (by simp [Value.ownBlock, he])⟩
  refine ⟨fun q => q = g ∨ ∃ i, i ≠ k ∧ φ i q, φ k, _, fun q hq => ?_, fun q hq => ⟨(h3' k q hq).1, fun hr => ?_, (h3' k q hq).2⟩, h5 k _ (List.getElem?_eq_getElem hk), ?_⟩
  · rcases hq with rfl | ⟨i, _, hq⟩
    · exact hg
    · exact (h3' i q hq).1
  · rcases hr with rfl | ⟨i, hi, hr⟩
    · exact (h3' k _ hq).2 rfl
    · exact hi (h4 rfl i k q hr hq)
  · refine ⟨fun i q => i ≠ k ∧ φ i q, xs, h1, rfl, hk, r.len (h5 k _ (List.getElem?_eq_getElem hk)), rfl, .inl rfl, fun i q hq => ⟨.inr ⟨i, hq.1, hq.2⟩, (h3' i q hq.2).2⟩, fun i j q hi hj => h4 rfl i j q hi.2 hj.2, fun i x hi hx => r.mono (fun q hq => ⟨hi, hq⟩) (h5 i x hx)⟩
namespace Hole
theorem mono (hF : ∀ q, F q → G q) (h : Hole e r w F g n c l k us) : Hole e r w G g n c l k us := by
  obtain ⟨φ, xs, h1, h2, h3, h4, h5, h6, h7, h8, h9⟩ := h
  exact ⟨φ, xs, h1, h2, h3, h4, h5, hF _ h6, fun i q hq => ⟨hF _ (h7 i q hq).1, (h7 i q hq).2⟩, h8, h9⟩
theorem move (hF : Same F w w') (h : Hole e r w F g n c l k us) : Hole e r w' F g n c l k us := by
  obtain ⟨φ, xs, h1, h2, h3, h4, h5, h6, h7, h8, h9⟩ := h
  exact ⟨φ, xs, owns_move h1 (fun q hq => by have hq : g = q := by simpa [Value.ownBlock] using hq
                                             subst hq; exact hF _ h6 (owns_lt h1 (by simp [Value.ownBlock]))), h2, h3, h4, h5, h6, h7, h8, fun i x hi hx => r.move (fun q hq hlt => hF q (h7 i q hq).1 hlt) (h9 i x hi hx)⟩
theorem below (hb : Below w.heap.size w w') (h : Hole e r w F g n c l k us) : Hole e r w' F g n c l k us := h.move (Same.of_below hb F)
theorem chg {A : Nat → Prop} (hb : Chg A w w') (hA : ∀ q, A q → ¬ F q) (h : Hole e r w F g n c l k us) : Hole e r w' F g n c l k us := h.move (hb.same (fun q hq ha => hA q ha hq))
theorem lt (h : Hole e r w F g n c l k us) : F g ∧ g < w.heap.size := by
  obtain ⟨φ, xs, h1, h2, h3, h4, h5, h6, h7, h8, h9⟩ := h
  exact ⟨h6, owns_lt h1 (by simp [Value.ownBlock])⟩
theorem len (h : Hole e r w F g n c l k us) : n = l.length ∧ k < n ∧ us.length = r.sz := by
  obtain ⟨φ, xs, h1, h2, h3, h4, h5, h6, h7, h8, h9⟩ := h
  exact ⟨h2, h3, h4⟩
theorem cell (h : Hole e r w F g n c l k us) : (∀ j u, us[j]? = some u → w.cell? ⟨g, k * r.sz + j, none⟩ = some u) ∧ ∀ o, w.frozen? ⟨g, o, none⟩ = false := by
  obtain ⟨φ, xs, h1, h2, h3, h4, h5, h6, h7, h8, h9⟩ := h
  refine ⟨fun j u hu => ?_, fun o => h1.frozenAt o⟩
  have hj : j < r.sz := by rw [← h4]; exact (List.getElem?_eq_some_iff.1 hu).1
  rw [← h5, List.getElem?_take, if_pos hj, List.getElem?_drop] at hu
  have hlt : k * r.sz + j < n * r.sz := by
    calc k * r.sz + j < k * r.sz + r.sz := by omega
      _ = (k + 1) * r.sz := by rw [Nat.succ_mul]
      _ ≤ n * r.sz := Nat.mul_le_mul_right _ h3
  rw [h1.cellAt _ hlt]
  exact hu
/-- A cell of the element is stored anew. -/
theorem set (h : Hole e r w F g n c l k us) {j : Nat} (hj : j < r.sz) (u : Value) : Hole e r (w.setCell ⟨g, k * r.sz + j, none⟩ u) F g n c l k (us.set j u) := by
  obtain ⟨φ, xs, h1, h2, h3, h4, h5, h6, h7, h8, h9⟩ := h
  have hp := h1.stored (k * r.sz + j) u
  have hx := h1.1
  have hle : k * r.sz + r.sz ≤ n * r.sz := by
    calc k * r.sz + r.sz = (k + 1) * r.sz := by rw [Nat.succ_mul]
      _ ≤ n * r.sz := Nat.mul_le_mul_right _ h3
  refine ⟨φ, xs.set (k * r.sz + j) u, hp.1, h2, h3, by rw [List.length_set]; exact h4, ?_, h6, h7, h8, fun i x hi hx' => ?_⟩
  · rw [← h5]
    apply List.ext_getElem?
    intro q
    rw [List.getElem?_take]
    by_cases hq : q < r.sz
    · rw [if_pos hq, List.getElem?_drop, List.getElem?_set, List.getElem?_set, List.getElem?_take, if_pos hq, List.getElem?_drop, List.length_take, List.length_drop]
      by_cases hjq : j = q
      · subst hjq
        rw [if_pos rfl, if_pos rfl, if_pos (by omega), if_pos (by omega)]
      · rw [if_neg (by omega), if_neg hjq]
    · rw [if_neg hq, List.getElem?_eq_none]
      rw [List.length_set, List.length_take]; omega
  · have hil : i < n := by rw [h2]; exact (List.getElem?_eq_some_iff.1 hx').1
    have he : ((xs.set (k * r.sz + j) u).drop (i * r.sz)).take r.sz = (xs.drop (i * r.sz)).take r.sz := by
      apply List.ext_getElem?
      intro q
      rw [List.getElem?_take, List.getElem?_take]
      by_cases hq : q < r.sz
      · rw [if_pos hq, if_pos hq, List.getElem?_drop, List.getElem?_drop, List.getElem?_set, if_neg]
        rcases Nat.lt_or_gt_of_ne hi with h | h
        · have : (i + 1) * r.sz ≤ k * r.sz := Nat.mul_le_mul_right _ h
          rw [Nat.succ_mul] at this; omega
        · have : (k + 1) * r.sz ≤ i * r.sz := Nat.mul_le_mul_right _ h
          rw [Nat.succ_mul] at this; omega
      · rw [if_neg hq, if_neg hq]
    rw [he]
    exact r.move (fun q hq hlt => heap_setCell_other w ⟨g, k * r.sz + j, none⟩ q u (fun he => (h7 i q hq).2 he)) (h9 i x hi hx')
/-- The element is put back, or another one in its place. -/
theorem close (h : Hole e r w F g n c l k us) {y : α} (hy : r.K w G y us) (hG : ∀ q, G q → ¬ F q) : Ow true e r w (fun q => F q ∨ G q) (.slice (some ⟨g, 0, none⟩) n c) (l.set k y) := by
  obtain ⟨φ, xs, h1, h2, h3, h4, h5, h6, h7, h8, h9⟩ := h
  subst h2
  refine ⟨fun i q => if i = k then G q else φ i q, xs, by rw [List.length_set]; exact h1, fun q hq => ?_, fun i q hq => ?_, fun _ i j q hi hj => ?_, fun i x hx => ?_⟩
  · have hq : g = q := by simpa [Value.ownBlock] using hq
    subst hq; exact .inl h6
  · have hn : q ≠ g → (Value.slice (some ⟨g, 0, none⟩) l.length c).ownBlock ≠ some q := fun h he => h (by simpa [Value.ownBlock, eq_comm] using he)
    dsimp only at hq
    split at hq
    · exact ⟨.inr hq, hn (fun he => by subst he; exact hG _ hq h6)⟩
    · exact ⟨.inl (h7 i q hq).1, hn (h7 i q hq).2⟩
  · dsimp only at hi hj
    split at hi <;> split at hj
    · omega
    · exact absurd (h7 j q hj).1 (hG q hi)
    · exact absurd (h7 i q hi).1 (hG q hj)
    · exact h8 i j q hi hj
  · rw [List.getElem?_set] at hx
    by_cases hi : i = k
    · subst hi
      rw [if_pos rfl, if_pos h3] at hx
      cases hx
      simp only [if_true]
      rw [h5]; exact hy
    · rw [if_neg (fun h => hi h.symm)] at hx
      simp only [if_neg hi]
      exact h9 i x hi hx
theorem set0 {s : Nat} (h : Hole e r w F g n c l k us) (hs : r.sz = s) (h0 : 0 < s) (u : Value) : Hole e r (w.setCell ⟨g, k * s, none⟩ u) F g n c l k (us.set 0 u) := by
  subst hs; exact h.set h0 u
theorem setj {s j : Nat} (h : Hole e r w F g n c l k us) (hs : r.sz = s) (hj : j < s) (u : Value) : Hole e r (w.setCell ⟨g, k * s + j, none⟩ u) F g n c l k (us.set j u) := by
  subst hs; exact h.set hj u
theorem cell0 {s : Nat} {u : Value} (h : Hole e r w F g n c l k us) (hs : r.sz = s) (hu : us[0]? = some u) : w.cell? ⟨g, k * s, none⟩ = some u := by
  subst hs; exact h.cell.1 0 u hu
theorem cellj {s : Nat} (j : Nat) {u : Value} (h : Hole e r w F g n c l k us) (hs : r.sz = s) (hu : us[j]? = some u) : w.cell? ⟨g, k * s + j, none⟩ = some u := by
  subst hs; exact h.cell.1 j u hu
theorem set1 (h : Hole e r w F g n c l k us) (hs : r.sz = 1) (u : Value) : Hole e r (w.setCell ⟨g, k, none⟩ u) F g n c l k (us.set 0 u) := by
  have := h.set0 hs (by omega) u
  rwa [Nat.mul_one] at this
theorem cell1 {u : Value} (h : Hole e r w F g n c l k us) (hs : r.sz = 1) (hu : us[0]? = some u) : w.cell? ⟨g, k, none⟩ = some u := by
  have := h.cell0 hs hu
  rwa [Nat.mul_one] at this
theorem free (h : Hole e r w F g n c l k us) (o : Nat) : w.frozen? ⟨g, o, none⟩ = false := h.cell.2 o
end Hole
/-- A row of one element, from its block. -/
theorem ow_lit1 {y : α} {u : Value} {b : Nat} (h : w.heap[b]? = some (.cells #[u] e (0, 0))) (hs : r.sz = 1) (hy : r.K w G y [u]) (hG : ∀ q, G q → q ≠ b) : Ow true e r w (fun q => q = b ∨ G q) (.slice (some ⟨b, 0, none⟩) 1 1) [y] := by
  refine ⟨fun i q => i = 0 ∧ G q, [u], ?_, fun q hq => by simp [Value.ownBlock] at hq; exact .inl hq.symm, fun i q hq => ⟨.inr hq.2, fun he => by simp [Value.ownBlock] at he; exact hG q hq.2 he.symm⟩, fun _ i j q hi hj => by rw [hi.1, hj.1], fun i x hx => ?_⟩
  · rw [hs]
    exact ⟨by simp, .inr ⟨b, 1, #[u], rfl, Nat.zero_le _, h, Nat.le_refl _, by unfold maxLen; omega, by simp, rfl⟩⟩
  · match i, hx with
    | 0, hx =>
      simp at hx; subst hx
      rw [hs]; exact r.mono (fun q hq => ⟨rfl, hq⟩) hy
    | i + 1, hx => simp at hx
end
end Go.Proofs.YtnfaibenekninaaGreat.L

set_option linter.unusedVariables false
set_option linter.unusedSimpArgs false
namespace Go.Proofs.YtnfaibenekninaaGreat.L
open Go.RowKit
def mkFl (z : Int) : Fl := ⟨z, z + 1, z + 1 + 1, z + 1 + 1 + 1, z + 1 + 1 + 1 + 1, z + 1 + 1 + 1 + 1 + 1⟩
def upF (k : Int) (n : Nat) : List Fl := (List.range n).map (fun i : Nat => mkFl (k + 6 * i))
theorem upF_len (k : Int) (n : Nat) : (upF k n).length = n := by unfold upF; simp
theorem upF_succ (k : Int) (n : Nat) : upF k (n + 1) = upF k n ++ [mkFl (k + 6 * n)] := by unfold upF; rw [List.range_succ, List.map_append]; rfl
theorem upF_get {k : Int} {n i : Nat} (hi : i < (upF k n).length) : (upF k n)[i] = mkFl (k + 6 * i) := by simp [upF]
theorem upF_set {k : Int} {m : Nat} {l : List Fl} (hm : m < l.length) : (upF k m ++ l.drop m).set m (mkFl (k + 6 * m)) = upF k (m + 1) ++ l.drop (m + 1) := by
  rw [List.drop_eq_getElem_cons hm, List.set_append_right _ _ (by rw [upF_len]; exact Nat.le_refl _), upF_len, Nat.sub_self, List.set_cons_zero, upF_succ, List.append_assoc]
  rfl
theorem flat_sz : flat.sz = 6 := rfl
set_option maxRecDepth 100000 in
set_option maxHeartbeats 4000000 in
theorem markF_own {F : Nat → Prop} (v : Value) (l : List Fl) (k : Int) (w : World) (h : Ow true 71 flat w F v l) (hk : 0 ≤ k) (hk2 : k + 6 * l.length ≤ 4611686018427387904) :
    Calls Tryz.prog 44 #[v, .int .i64 k] w fun e w' => e = .returned (.int .i64 (k + 6 * l.length)) ∧ Ow true 71 flat w' F v (upF k l.length) ∧ Chg F w w' := by
  obtain ⟨A, c, rfl, hc1, hc2⟩ := h.form
  have hA : l.length = 0 ∨ ∃ g, A = some ⟨g, 0, none⟩ ∧ F g := by
    by_cases hn : l.length = 0
    · exact .inl hn
    obtain ⟨g, c0, cs0, he0, hF0, _, _, _, hz0⟩ := h.at_ (List.getElem?_eq_getElem (show 0 < l.length by omega))
    cases he0
    exact .inr ⟨g, rfl, hF0⟩
  generalize hN : l.length = N at *
  go_enter Tryz.func44, Tryz.ntmps44
  go_wp2
  go_loopw [1, 5] (fun z i wr => ∃ m : Nat, m ≤ N ∧ i = .int .i64 m ∧ z = .int .i64 (k + 6 * m) ∧ Ow true 71 flat wr F (.slice A N c) (upF k m ++ l.drop m) ∧ Chg F w wr) (fun _ i _ => N - (intOf i).toNat)
  case atStart => exact ⟨0, Nat.zero_le _, rfl, by go_num, h, Chg.refl _ _⟩
  case round =>
    obtain ⟨m, hm, rfl, rfl, HO, HM⟩ := hrel
    rename World => wo
    by_cases hlt : m < N
    · rcases hA with hA | ⟨g, rfl, hF0⟩
      · omega
      have hml : m < (upF k m ++ l.drop m).length := by rw [List.length_append, upF_len, List.length_drop]; omega
      obtain ⟨Fr, Gk, us, hFr, hGk, hK, H0⟩ := HO.hole hml
      obtain rfl := flat_open hK
      have hU := Lib.hid (upF_set (k := k) (show m < l.length by omega))
      generalize (upF k m ++ l.drop m)[m] = x at *
      obtain ⟨z, hz⟩ : ∃ z : Int, z = k + 6 * m := ⟨_, rfl⟩
      rw [← hz] at hU
      have H1 := H0.set0 flat_sz (by omega) (.int .i64 z)
      have H2 := H1.setj (j := 1) flat_sz (by omega) (.int .i64 (z + 1))
      have H3 := H2.setj (j := 2) flat_sz (by omega) (.int .i64 (z + 1 + 1))
      have H4 := H3.setj (j := 3) flat_sz (by omega) (.int .i64 (z + 1 + 1 + 1))
      have H5 := H4.setj (j := 4) flat_sz (by omega) (.int .i64 (z + 1 + 1 + 1 + 1))
      have H6 := H5.setj (j := 5) flat_sz (by omega) (.int .i64 (z + 1 + 1 + 1 + 1 + 1))
      have hx0 := H0.cell0 flat_sz rfl
      have hx1 := H1.cellj 1 flat_sz rfl
      have hx2 := H2.cellj 2 flat_sz rfl
      have hx3 := H3.cellj 3 flat_sz rfl
      have hx4 := H4.cellj 4 flat_sz rfl
      have hx5 := H5.cellj 5 flat_sz rfl
      have hz0 := H0.free (m * 6)
      have hz1 := H0.free (m * 6 + 1)
      have hz2 := H0.free (m * 6 + 2)
      have hz3 := H0.free (m * 6 + 3)
      have hz4 := H0.free (m * 6 + 4)
      have hz5 := H0.free (m * 6 + 5)
      have HS := (H6.close (y := mkFl z) (flat_mk _ (fun _ => False) (mkFl z)) (fun _ h => h.elim)).mono (G := F) (fun q hq => by rcases hq with hq | hq; exact hFr q hq; exact hq.elim)
      rw [hU.out] at HS
      have hC := HM.trans ((((((Chg.set (w := wo) (o := m * 6) (u := .int .i64 z) hF0).trans (Chg.set (o := m * 6 + 1) (u := .int .i64 (z + 1)) hF0)).trans (Chg.set (o := m * 6 + 2) (u := .int .i64 (z + 1 + 1)) hF0)).trans (Chg.set (o := m * 6 + 3) (u := .int .i64 (z + 1 + 1 + 1)) hF0)).trans (Chg.set (o := m * 6 + 4) (u := .int .i64 (z + 1 + 1 + 1 + 1)) hF0)).trans (Chg.set (o := m * 6 + 5) (u := .int .i64 (z + 1 + 1 + 1 + 1 + 1)) hF0))
      clear HO HM h H0 H1 H2 H3 H4 H5 H6 hU hK
      have m0 : 0 ≤ z := by omega
      have m1 : z + 6 ≤ 4611686018427387904 := by omega
      have HZ := Lib.hid hz
      rw [← hz]
      clear hz
      have i0 : (0 : Int) ≤ (m : Int) := Int.natCast_nonneg _
      have i1 : (m : Int) < (N : Int) := by omega
      have t1 : IntKind.i64.wrap (z + 1) = z + 1 := IntWalk.i64_in _ (by omega)
      have t2 : IntKind.i64.wrap (z + 1 + 1) = z + 1 + 1 := IntWalk.i64_in _ (by omega)
      have t3 : IntKind.i64.wrap (z + 1 + 1 + 1) = z + 1 + 1 + 1 := IntWalk.i64_in _ (by omega)
      have t4 : IntKind.i64.wrap (z + 1 + 1 + 1 + 1) = z + 1 + 1 + 1 + 1 := IntWalk.i64_in _ (by omega)
      have t5 : IntKind.i64.wrap (z + 1 + 1 + 1 + 1 + 1) = z + 1 + 1 + 1 + 1 + 1 := IntWalk.i64_in _ (by omega)
      have t6 : IntKind.i64.wrap (z + 1 + 1 + 1 + 1 + 1 + 1) = z + 1 + 1 + 1 + 1 + 1 + 1 := IntWalk.i64_in _ (by omega)
      go_wp2_with fail
      go_roundw
      case rel => exact ⟨m + 1, by omega, by go_num, by have := HZ.out; congr 1; push_cast; omega, HS, hC⟩
      case measure => simp [intOf]; omega
    · obtain rfl : m = N := by omega
      rw [← hN, List.drop_length, List.append_nil, hN] at HO
      go_wp2
      go_ret
      exact ⟨rfl, HO, HM⟩
set_option maxRecDepth 100000 in
set_option maxHeartbeats 4000000 in
theorem heldF_calls {F : Nat → Prop} (v : Value) (n : Nat) (k : Int) (w : World) (h : Rp.Rd flat w F v (upF k n)) (hk : 0 ≤ k) (hk2 : k + 6 * n ≤ 4611686018427387904) :
    Calls Tryz.prog 76 #[v, .int .i64 k] w fun e w' => e = .returned (.int .i64 (k + 6 * n)) ∧ w = w' := by
  obtain ⟨A, c, rfl, hc1, hc2, hrow⟩ := rd_flat h
  have hl : (upF k n).length = n := upF_len k n
  have hrow : n = 0 ∨ ∃ b o, A = some ⟨b, o, none⟩ ∧ b < w.heap.size ∧ ∀ m : Nat, m < n → FlAt w b (o + m * 6) (mkFl (k + 6 * m)) := by
    rcases hrow with hnil | ⟨b, o, e, hb, hc⟩
    · left; rw [hnil] at hl; simpa using hl.symm
    · exact .inr ⟨b, o, e, hb, fun m hm => by have := hc m (by omega); rwa [upF_get] at this⟩
  rw [hl]
  rw [hl] at hc1
  go_enter Tryz.func76, Tryz.ntmps76
  go_wp2
  go_loop [1, 5] (fun z i => ∃ m : Nat, m ≤ n ∧ i = .int .i64 m ∧ z = .int .i64 (k + 6 * m)) (fun _ i => n - (intOf i).toNat)
  case atStart => exact ⟨0, Nat.zero_le _, rfl, by go_num⟩
  case round =>
    obtain ⟨m, hm, rfl, rfl⟩ := hrel
    by_cases hlt : m < n
    · rcases hrow with hnil | ⟨b, o, rfl, hb, hcell⟩
      · omega
      obtain ⟨z, hz⟩ : ∃ z : Int, z = k + 6 * m := ⟨_, rfl⟩
      have hx := hcell m hlt
      rw [← hz] at hx ⊢
      obtain ⟨x0, x1, x2, x3, x4, x5⟩ : w.cell? ⟨b, o + m * 6, none⟩ = some (.int .i64 z) ∧ w.cell? ⟨b, o + m * 6 + 1, none⟩ = some (.int .i64 (z + 1)) ∧ w.cell? ⟨b, o + m * 6 + 2, none⟩ = some (.int .i64 (z + 1 + 1)) ∧ w.cell? ⟨b, o + m * 6 + 3, none⟩ = some (.int .i64 (z + 1 + 1 + 1)) ∧ w.cell? ⟨b, o + m * 6 + 4, none⟩ = some (.int .i64 (z + 1 + 1 + 1 + 1)) ∧ w.cell? ⟨b, o + m * 6 + 5, none⟩ = some (.int .i64 (z + 1 + 1 + 1 + 1 + 1)) := hx
      clear hcell h hl
      have HZ := Lib.hid hz
      have m0 : 0 ≤ z := by omega
      have m1 : z + 6 ≤ 4611686018427387904 := by omega
      clear hz
      have i0 : (0 : Int) ≤ (m : Int) := Int.natCast_nonneg _
      have i1 : (m : Int) < (n : Int) := by omega
      have t1 : IntKind.i64.wrap (z + 1) = z + 1 := IntWalk.i64_in _ (by omega)
      have t2 : IntKind.i64.wrap (z + 1 + 1) = z + 1 + 1 := IntWalk.i64_in _ (by omega)
      have t3 : IntKind.i64.wrap (z + 1 + 1 + 1) = z + 1 + 1 + 1 := IntWalk.i64_in _ (by omega)
      have t4 : IntKind.i64.wrap (z + 1 + 1 + 1 + 1) = z + 1 + 1 + 1 + 1 := IntWalk.i64_in _ (by omega)
      have t5 : IntKind.i64.wrap (z + 1 + 1 + 1 + 1 + 1) = z + 1 + 1 + 1 + 1 + 1 := IntWalk.i64_in _ (by omega)
      have t6 : IntKind.i64.wrap (z + 1 + 1 + 1 + 1 + 1 + 1) = z + 1 + 1 + 1 + 1 + 1 + 1 := IntWalk.i64_in _ (by omega)
      have n0 : (z != z) = false := by simp
      have n1 : (z + 1 != z + 1) = false := by simp
      have n2 : (z + 1 + 1 != z + 1 + 1) = false := by simp
      have n3 : (z + 1 + 1 + 1 != z + 1 + 1 + 1) = false := by simp
      have n4 : (z + 1 + 1 + 1 + 1 != z + 1 + 1 + 1 + 1) = false := by simp
      have n5 : (z + 1 + 1 + 1 + 1 + 1 != z + 1 + 1 + 1 + 1 + 1) = false := by simp
      go_wp2_with fail
      go_round
      case rel => exact ⟨m + 1, by omega, by go_num, by have := HZ.out; congr 1; push_cast; omega⟩
      case measure => simp [intOf]; omega
    · obtain rfl : m = n := by omega
      go_wp2
      go_ret
      exact ⟨rfl, rfl⟩
end Go.Proofs.YtnfaibenekninaaGreat.L
