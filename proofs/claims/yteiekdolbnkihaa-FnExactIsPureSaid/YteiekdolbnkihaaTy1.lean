/- The kind of a flat step. -/
import Derived.Test.YteiekdolbnkihaaLib5
set_option linter.unusedVariables false
namespace Go.Proofs.Yteiekdolbnkihaa.L
open Go.RowKit
structure Fl where
  op : Int
  dO : Int
  dst : Int
  a : Int
  b : Int
  n : Int
deriving DecidableEq
def flV (x : Fl) : Value := .agg #[.int .i64 x.op, .int .i64 x.dO, .int .i64 x.dst, .int .i64 x.a, .int .i64 x.b, .int .i64 x.n]
def Fl.t (x : Fl) : Int × Int × Int × Int × Int × Int := (x.op, x.dO, x.dst, x.a, x.b, x.n)
def flat : Rp Fl := (Rp.int.pair (Rp.int.pair (Rp.int.pair (Rp.int.pair (Rp.int.pair Rp.int))))).iso Fl.t
theorem flat_flat : flat.Flat := Rp.Flat.iso (Rp.Flat.pair (Rp.Flat.lit _ _) (Rp.Flat.pair (Rp.Flat.lit _ _) (Rp.Flat.pair (Rp.Flat.lit _ _) (Rp.Flat.pair (Rp.Flat.lit _ _) (Rp.Flat.pair (Rp.Flat.lit _ _) (Rp.Flat.lit _ _)))))) _
theorem flat_open {w : World} {F : Nat → Prop} {x : Fl} {cs : List Value} (h : flat.K w F x cs) : cs = [.int .i64 x.op, .int .i64 x.dO, .int .i64 x.dst, .int .i64 x.a, .int .i64 x.b, .int .i64 x.n] := by
  obtain ⟨_, _, rfl, rfl, _, _, rfl, rfl, _, _, rfl, rfl, _, _, rfl, rfl, _, _, rfl, rfl, rfl⟩ := h
  rfl
theorem flat_mk (w : World) (F : Nat → Prop) (x : Fl) : flat.K w F x [.int .i64 x.op, .int .i64 x.dO, .int .i64 x.dst, .int .i64 x.a, .int .i64 x.b, .int .i64 x.n] :=
  ⟨[_], _, rfl, rfl, [_], _, rfl, rfl, [_], _, rfl, rfl, [_], _, rfl, rfl, [_], _, rfl, rfl, rfl⟩
end Go.Proofs.Yteiekdolbnkihaa.L
