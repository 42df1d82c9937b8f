/- What the laws' own conversions of structs have in memory: the argument's box, the result's, and the variable that is filled. -/
import Derived.Test.YtmcnoeinjocimaaW1
set_option linter.unusedVariables false
namespace Go.Proofs.Ytmcnoeinjocimaa.L
open Go.RowKit
structure Mk (w : World) (o1 o2 : Obj) (T : Nat) (wi : World) (cs : Array Value) : Prop where
  b1 : wi.heap[w.heap.size]? = some o1
  b2 : wi.heap[w.heap.size + 1]? = some o2
  b3 : wi.heap[w.heap.size + 2]? = some (.cells cs T (0, 0))
  below : Below w.heap.size w wi
namespace Mk
variable {w wi w' : World} {o1 o2 : Obj} {T : Nat} {cs : Array Value}
theorem start {c3 : Array Value} : Mk w o1 o2 T (((w.alloc o1).alloc o2).alloc (.cells c3 T)) c3 where
  b1 := blk_alloc (heap_alloc2_old w o1 o2) _
  b2 := blk_alloc (heap_alloc2_new w o1 o2) _
  b3 := by
    have := heap_alloc2_new (w.alloc o1) o2 (.cells c3 T)
    rwa [World.size_alloc] at this
  below := (((Below.refl _ _).alloc (Nat.le_refl _) _).alloc (by simp) _).alloc (by simp; omega) _
theorem set (h : Mk w o1 o2 T wi cs) (i : Nat) (u : Value) : Mk w o1 o2 T (wi.setCell ⟨w.heap.size + 2, i, none⟩ u) (cs.setIfInBounds i u) where
  b1 := blk_set h.b1 (by simp) u
  b2 := blk_set h.b2 (by simp) u
  b3 := blk_put h.b3 i u
  below := h.below.setCell (by simp) u
theorem call (h : Mk w o1 o2 T wi cs) (hb : Below wi.heap.size wi w') : Mk w o1 o2 T w' cs where
  b1 := blk_below h.b1 hb
  b2 := blk_below h.b2 hb
  b3 := blk_below h.b3 hb
  below := below_then h.below hb
theorem size (h : Mk w o1 o2 T wi cs) : w.heap.size + 2 < wi.heap.size := blk_lt h.b3
end Mk
theorem ow_set3 {α : Type} {ap : Bool} {e : Nat} {r : Rp α} {w wi : World} {F : Nat → Prop} {v : Value} {l : List α} (h : Ow ap e r wi F v l) (hF : ∀ k, F k → w.heap.size + 3 ≤ k) (i : Nat) (u : Value) : Ow ap e r (wi.setCell ⟨w.heap.size + 2, i, none⟩ u) F v l :=
  h.move (fun k hk _ => heap_setCell_other wi ⟨w.heap.size + 2, i, none⟩ k u (by have := hF k hk; simp; omega))
theorem ow_row3 {α : Type} {ap : Bool} {e : Nat} {r : Rp α} {w wi : World} {F : Nat → Prop} {v : Value} {l : List α} (h : Ow ap e r wi F v l) (hF : ∀ k, F k → w.heap.size + 3 ≤ k) (us : List Value) : Ow ap e r (putRow wi (w.heap.size + 1) 0 us) F v l :=
  h.move (fun k hk _ => (putRow_same _ _ wi 0).2 k (by have := hF k hk; omega))
end Go.Proofs.Ytmcnoeinjocimaa.L
