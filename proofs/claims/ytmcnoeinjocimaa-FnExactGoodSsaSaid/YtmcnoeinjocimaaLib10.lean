/- What a call has changed: some blocks. -/
import Derived.Test.YtmcnoeinjocimaaLib8
set_option linter.unusedVariables false
namespace Go.Proofs.Ytmcnoeinjocimaa.L
open Go.RowKit
/-- Of the old blocks only those of A may have changed. -/
structure Chg (A : Nat → Prop) (w w' : World) : Prop where
  os : w'.os = w.os
  tape : w'.tape = w.tape
  output : w'.output = w.output
  size : w.heap.size ≤ w'.heap.size
  block : ∀ k, k < w.heap.size → ¬ A k → w'.heap[k]? = w.heap[k]?
namespace Chg
variable {A : Nat → Prop} {w w1 w2 : World}
theorem refl (A : Nat → Prop) (w : World) : Chg A w w := ⟨rfl, rfl, rfl, Nat.le_refl _, fun _ _ _ => rfl⟩
theorem trans (h : Chg A w w1) (k : Chg A w1 w2) : Chg A w w2 := ⟨k.os.trans h.os, k.tape.trans h.tape, k.output.trans h.output, Nat.le_trans h.size k.size, fun q hq hA => (k.block q (Nat.lt_of_lt_of_le hq h.size) hA).trans (h.block q hq hA)⟩
theorem of_below (h : Below w.heap.size w w1) : Chg A w w1 := ⟨h.os, h.tape, h.output, h.size, fun q hq _ => h.block q hq⟩
theorem drewN (n : Nat) : Chg A w (w.drewN n) := ⟨rfl, rfl, rfl, Nat.le_refl _, fun _ _ _ => rfl⟩
theorem set {b o : Nat} {u : Value} (hb : A b) : Chg A w (w.setCell ⟨b, o, none⟩ u) := ⟨rfl, rfl, rfl, by simp, fun q _ hA => heap_setCell_other w ⟨b, o, none⟩ q u (fun he => hA (by have he : q = b := he; rw [he]; exact hb))⟩
theorem to_below {B : Nat} {w0 : World} (h : Chg A w w1) (h0 : Below B w0 w) (hB : B ≤ w.heap.size) (hA : ∀ q, A q → B ≤ q) : Below B w0 w1 :=
  ⟨h.os.trans h0.os, h.tape.trans h0.tape, h.output.trans h0.output, Nat.le_trans h0.size h.size, fun q hq => (h.block q (by omega) (fun h => by have := hA q h; omega)).trans (h0.block q hq)⟩
theorem same {F : Nat → Prop} (h : Chg A w w1) (hF : ∀ q, F q → ¬ A q) : Same F w w1 := fun q hq hlt => h.block q hlt (hF q hq)
theorem blk {k : Nat} {o : Obj} (h : Chg A w w1) (hk : w.heap[k]? = some o) (hA : ¬ A k) : w1.heap[k]? = some o := (h.block k (blk_lt hk) hA).trans hk
theorem mono {A' : Nat → Prop} (h : Chg A w w1) (hA : ∀ q, A q → A' q) : Chg A' w w1 := ⟨h.os, h.tape, h.output, h.size, fun q hq hn => h.block q hq (fun h => hn (hA q h))⟩
end Chg
end Go.Proofs.Ytmcnoeinjocimaa.L
