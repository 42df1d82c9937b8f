/- append of numbers, for the walk. -/
import Derived.Test.YtmcnoeinjocimaaLib7
import Derived.Test.YtmcnoeinjocimaaCv1
set_option linter.unusedVariables false
namespace Go.Proofs.Ytmcnoeinjocimaa.L
open Go.RowKit
section
variable {ops : Array Oper} {rest : List Oper} {o : Oper} {a : Act} {Q : Exit → Act → World → Prop} {ap : Bool} {W : World} {F G : Nat → Prop}
/-- append(s, y) of a number. -/
theorem app_int (hgd : o.guard = none) (s x : Operand) (ho : o.op = .call { callee := .builtin .append, args := #[s, x], argTypes := #[35, 35] }) (v : Value) (l : List Int) (y : Int) (g : Nat) (hg0 : g = W.heap.size) (hs : a.eval s = v) (hx : a.eval x = .slice (some ⟨g, 0, none⟩) 1 1)
    (HO : Ow ap 3 Rp.int W F v l) (hl : l.length + 1 ≤ 1000000000)
    (h : ∀ A c w1, Ow ap 3 Rp.int w1 (fun k => F k ∨ W.heap.size ≤ k) (.slice A (l.length + 1) c) (l ++ [y]) → W.grownBy w1 v.ownBlock → wpList Try.prog ops Q rest (a.put o.dst (.slice A (l.length + 1) c)) w1) :
    wpList Try.prog ops Q (o :: rest) a (W.alloc (.cells #[.int .i64 y] 3)) := by
  subst hg0
  refine ow_append1 (r := Rp.int) (G := fun _ => False) (us := [.int .i64 y]) hgd s x 35 (.int .i64 0) 8 ho Try.underlying35 infoInt rfl (by decide) (by omega) v l y hs hx HO rfl (fun _ h => h.elim) (by omega) ?_
  intro v1 w1 HO1 hg1
  obtain ⟨A, c, rfl, _⟩ := HO1.form1
  exact h A c w1 (HO1.mono (fun q hq => by rcases hq with hq | hq | hq; exact .inl hq; exact hq.elim; exact .inr hq)) hg1
/-- append(s, xs...) of numbers. -/
theorem app_ints (hgd : o.guard = none) (s x : Operand) (ho : o.op = .call { callee := .builtin .append, args := #[s, x], argTypes := #[35, 35] }) (v vx : Value) (l ys : List Int) (hs : a.eval s = v) (hx : a.eval x = vx)
    (HO : Ow ap 3 Rp.int W F v l) (HX : Rp.Rd Rp.int W G vx ys) (hl : l.length + ys.length ≤ 1000000000)
    (h : ∀ A c w1, Ow ap 3 Rp.int w1 (fun k => F k ∨ W.heap.size ≤ k) (.slice A (l.length + ys.length) c) (l ++ ys) → W.grownBy w1 v.ownBlock → wpList Try.prog ops Q rest (a.put o.dst (.slice A (l.length + ys.length) c)) w1) :
    wpList Try.prog ops Q (o :: rest) a W := by
  refine ow_appendf (r := Rp.int) int_flat hgd s x 35 (.int .i64 0) 8 ho Try.underlying35 infoInt rfl (by decide) (by omega) v vx l ys hs hx ap HO HX (by omega) ?_
  intro v1 w1 HO1 hg1
  obtain ⟨A, c, hv, _⟩ := HO1.form
  rw [List.length_append] at hv
  subst hv
  exact h A c w1 HO1 hg1
end
end Go.Proofs.Ytmcnoeinjocimaa.L
