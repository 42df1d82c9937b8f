/- The kind of a flat step. -/
import Derived.Test.YtmcnoeinjocimaaW1
set_option linter.unusedVariables false
namespace Go.Proofs.Ytmcnoeinjocimaa.L
open Go.RowKit
structure Fl where
  op : Int
  dO : Int
  dst : Int
  a : Int
  b : Int
  n : Int
deriving DecidableEq
def flV (x : Fl) : Value := .agg #[.int .i64 x.op, .int .i64 x.dO, .int .i64 x.dst, .int .i64 x.a, .int .i64 x.b, .int .i64 x.n]
def Fl.t (x : Fl) : Int × Int × Int × Int × Int × Int := (x.op, x.dO, x.dst, x.a, x.b, x.n)
def flat : Rp Fl := (Rp.int.pair (Rp.int.pair (Rp.int.pair (Rp.int.pair (Rp.int.pair Rp.int))))).iso Fl.t
theorem flat_flat : flat.Flat := Rp.Flat.iso (Rp.Flat.pair (Rp.Flat.lit _ _) (Rp.Flat.pair (Rp.Flat.lit _ _) (Rp.Flat.pair (Rp.Flat.lit _ _) (Rp.Flat.pair (Rp.Flat.lit _ _) (Rp.Flat.pair (Rp.Flat.lit _ _) (Rp.Flat.lit _ _)))))) _
theorem flat_open {w : World} {F : Nat → Prop} {x : Fl} {cs : List Value} (h : flat.K w F x cs) : cs = [.int .i64 x.op, .int .i64 x.dO, .int .i64 x.dst, .int .i64 x.a, .int .i64 x.b, .int .i64 x.n] := by
  obtain ⟨_, _, rfl, rfl, _, _, rfl, rfl, _, _, rfl, rfl, _, _, rfl, rfl, _, _, rfl, rfl, rfl⟩ := h
  rfl
theorem flat_mk (w : World) (F : Nat → Prop) (x : Fl) : flat.K w F x [.int .i64 x.op, .int .i64 x.dO, .int .i64 x.dst, .int .i64 x.a, .int .i64 x.b, .int .i64 x.n] :=
  ⟨[_], _, rfl, rfl, [_], _, rfl, rfl, [_], _, rfl, rfl, [_], _, rfl, rfl, [_], _, rfl, rfl, rfl⟩
/-- A flat step in six cells. -/
def FlAt (w : World) (b o : Nat) (x : Fl) : Prop :=
  w.cell? ⟨b, o, none⟩ = some (.int .i64 x.op) ∧ w.cell? ⟨b, o + 1, none⟩ = some (.int .i64 x.dO) ∧ w.cell? ⟨b, o + 2, none⟩ = some (.int .i64 x.dst) ∧ w.cell? ⟨b, o + 3, none⟩ = some (.int .i64 x.a) ∧ w.cell? ⟨b, o + 4, none⟩ = some (.int .i64 x.b) ∧ w.cell? ⟨b, o + 5, none⟩ = some (.int .i64 x.n)
theorem FlAt.below {w w1 : World} {b o : Nat} {x : Fl} (h : FlAt w b o x) (hb : Below w.heap.size w w1) : FlAt w1 b o x :=
  ⟨cell_below hb h.1, cell_below hb h.2.1, cell_below hb h.2.2.1, cell_below hb h.2.2.2.1, cell_below hb h.2.2.2.2.1, cell_below hb h.2.2.2.2.2⟩
theorem flAt_of {w : World} {b o : Nat} {x : Fl} (h : ∀ j u, ([.int .i64 x.op, .int .i64 x.dO, .int .i64 x.dst, .int .i64 x.a, .int .i64 x.b, .int .i64 x.n] : List Value)[j]? = some u → w.cell? ⟨b, o + j, none⟩ = some u) : FlAt w b o x :=
  ⟨h 0 _ rfl, h 1 _ rfl, h 2 _ rfl, h 3 _ rfl, h 4 _ rfl, h 5 _ rfl⟩
theorem rd_flat {w : World} {F : Nat → Prop} {v : Value} {l : List Fl} (h : Rp.Rd flat w F v l) : ∃ A c, v = .slice A l.length c ∧ l.length ≤ c ∧ c ≤ 9223372036854775807 ∧
    (l = [] ∨ ∃ b o, A = some ⟨b, o, none⟩ ∧ b < w.heap.size ∧ ∀ (k : Nat) (hk : k < l.length), FlAt w b (o + k * 6) l[k]) := by
  obtain ⟨A, c, rfl, hl, hm, h⟩ := h
  refine ⟨A, c, rfl, hl, hm, ?_⟩
  rcases h with h | ⟨b, o, rfl, _, hb, h⟩
  · exact .inl h
  · refine .inr ⟨b, o, rfl, hb, fun k hk => ?_⟩
    obtain ⟨cs, hK, hc⟩ := h k l[k] (List.getElem?_eq_getElem hk)
    obtain rfl := flat_open hK
    refine flAt_of fun j u hu => ?_
    rw [Nat.add_assoc]
    exact hc j u hu
theorem Ow.flat_at {ap : Bool} {e g n c : Nat} {w : World} {F : Nat → Prop} {l : List Fl} (h : Ow ap e flat w F (.slice (some ⟨g, 0, none⟩) n c) l) {k : Nat} (hk : k < l.length) :
    FlAt w g (k * 6) l[k] ∧ ∀ o, w.frozen? ⟨g, o, none⟩ = false := by
  obtain ⟨g', c', cs, he, _, _, hK, hc, hf⟩ := h.at_ (List.getElem?_eq_getElem hk)
  injection he with he _ _
  injection he with he
  injection he with he _
  subst he
  obtain rfl := flat_open hK
  exact ⟨flAt_of hc, hf⟩
end Go.Proofs.Ytmcnoeinjocimaa.L
