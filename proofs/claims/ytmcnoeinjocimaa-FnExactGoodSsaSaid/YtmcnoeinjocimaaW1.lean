/- Small words of the walks: what stays of a world behind a call, blocks and their cells. -/
import Derived.Test.YtmcnoeinjocimaaLib4
import Derived.Deep.QuietTactic
import Derived.BigQuiet
import Derived.IntWalk
import Derived.Outline
import Derived.Handy
set_option linter.unusedVariables false
namespace Go.Proofs.Ytmcnoeinjocimaa.L
open Go.RowKit
def inB (a b c : Int) : Bool := decide (b ≤ a) && decide (a ≤ c)
theorem ret_bool {a b : Bool} (h : a = b) : Ending.returned (.bool a) = .returned (.bool b) := by rw [h]
theorem ret_int {a b : Int} (h : a = b) : Ending.returned (.int .i64 a) = .returned (.int .i64 b) := by rw [h]
theorem boxed1 {w w1 : World} {o1 : Obj} (hb : Below (w.alloc o1).heap.size (w.alloc o1) w1) :
   w1.heap[w.heap.size]? = some o1 ∧ w.heap.size < w1.heap.size := by
  have hz : w.heap.size + 1 ≤ w1.heap.size := by simpa using hb.size
  refine ⟨?_, by omega⟩
  rw [hb.block _ (by rw [World.size_alloc]; omega)]; exact heap_alloc_new w o1
theorem boxed2 {w w1 : World} {o1 o2 : Obj} (hb : Below ((w.alloc o1).alloc o2).heap.size ((w.alloc o1).alloc o2) w1) :
   w1.heap[w.heap.size]? = some o1 ∧ w1.heap[w.heap.size + 1]? = some o2 ∧ w.heap.size < w1.heap.size ∧ w.heap.size + 1 < w1.heap.size := by
  have hz : w.heap.size + 1 + 1 ≤ w1.heap.size := by simpa using hb.size
  refine ⟨?_, ?_, by omega, by omega⟩
  · rw [hb.block _ (by rw [World.size_alloc, World.size_alloc]; omega)]; exact heap_alloc2_old w o1 o2
  · rw [hb.block _ (by rw [World.size_alloc, World.size_alloc]; omega)]; exact heap_alloc2_new w o1 o2
theorem cell_of_block {w : World} {b : Nat} {c : Array Value} {t : TypeId} (h : w.heap[b]? = some (.cells c t (0, 0))) : (∀ o, w.cell? ⟨b, o, none⟩ = c[o]?) ∧ ∀ o, w.frozen? ⟨b, o, none⟩ = false := by
  constructor
  · intro o; simp [World.cell?, h]
  · intro o; simp [World.frozen?, h]
theorem blk_below {w w1 : World} {g : Nat} {o : Obj} (h : w.heap[g]? = some o) (hb : Below w.heap.size w w1) : w1.heap[g]? = some o := (hb.block g ((Array.getElem?_eq_some_iff.1 h).1)).trans h
theorem blk_lt {w : World} {g : Nat} {o : Obj} (h : w.heap[g]? = some o) : g < w.heap.size := (Array.getElem?_eq_some_iff.1 h).1
theorem blk_alloc {w : World} {g : Nat} {o : Obj} (h : w.heap[g]? = some o) (o' : Obj) : (w.alloc o').heap[g]? = some o := (Below.heap_alloc w o' g (blk_lt h)).trans h
theorem blk_set {w : World} {g : Nat} {o : Obj} (h : w.heap[g]? = some o) {a : Addr} (ha : g ≠ a.block) (v : Value) : (w.setCell a v).heap[g]? = some o := (Below.heap_setCell w a v g ha).trans h
theorem blk_put {w : World} {g : Nat} {c : Array Value} {t : TypeId} (h : w.heap[g]? = some (.cells c t (0, 0))) (i : Nat) (u : Value) : (w.setCell ⟨g, i, none⟩ u).heap[g]? = some (.cells (c.setIfInBounds i u) t (0, 0)) := heap_setCell_same w g i c t u h
theorem below1 {w w1 : World} {o : Obj} (hb : Below (w.alloc o).heap.size (w.alloc o) w1) : Below w.heap.size w w1 :=
  (((Below.refl _ _).alloc (Nat.le_refl _) _)).trans (hb.mono (by simp))
theorem below2 {w w1 : World} {o1 o2 : Obj} (hb : Below ((w.alloc o1).alloc o2).heap.size ((w.alloc o1).alloc o2) w1) : Below w.heap.size w w1 :=
  (((Below.refl _ _).alloc (Nat.le_refl _) _).alloc (by simp) _).trans (hb.mono (by simp; omega))
theorem below_then {w w1 w2 : World} (h : Below w.heap.size w w1) (k : Below w1.heap.size w1 w2) : Below w.heap.size w w2 := h.trans (k.mono h.size)
theorem below_new {w : World} (o : Obj) : Below w.heap.size w (w.alloc o) := (Below.refl _ _).alloc (Nat.le_refl _) _
theorem below_drew {B : Nat} {w W : World} (h : Below B w W) : Below B w W.drew := ⟨h.os, h.tape, h.output, h.size, h.block⟩
theorem below_drewN {B : Nat} {w W : World} (h : Below B w W) (n : Nat) : Below B w (W.drewN n) := ⟨h.os, h.tape, h.output, h.size, h.block⟩
theorem cell_below {w w1 : World} (h : Below w.heap.size w w1) {a : Addr} {v : Value} (hc : w.cell? a = some v) : w1.cell? a = some v := (h.cell (World.block_lt_of_cell? w a hc)).trans hc
/-- make([]T, n). -/
theorem mk_all {P : Program} {t e : TypeId} {z : Value} {size bytes : Nat} (ht : P.underlying t = some (.slice e)) (hinfo : (P.info? e).map (fun i => (i.zero, i.size, i.bytes)) = some (some z, size, bytes)) (n : Nat) (hn : bytes * n ≤ 281474976710656) (hm : n ≤ 9223372036854775807) :
    ∀ W : World, (Instr.makeSlice t (.int .i64 (n : Int)) (.int .i64 (n : Int))).run P W = .ok (.slice (some ⟨W.heap.size, 0, none⟩) n n) (W.alloc (.cells (madeCells z.cells (n * size)) e)) := by
  intro W
  obtain ⟨i, hi, hzz⟩ := Option.map_eq_some_iff.1 hinfo
  simp only [Prod.mk.injEq] at hzz
  obtain ⟨hz, hs, hb⟩ := hzz
  have hb' : (i.bytes : Int) * (n : Int) ≤ 281474976710656 := by
    have h : ((i.bytes * n : Nat) : Int) ≤ 281474976710656 := by rw [hb]; omega
    rwa [Int.natCast_mul] at h
  have hr := run_make (P := P) W t e i z ht hi hz .i64 .i64 n n (by omega) (Int.le_refl _) hb' (by omega)
  simp only [Int.toNat_natCast, hs] at hr
  exact hr
theorem ow_alloc {α : Type} {e n : Nat} {r : Rp α} (W : World) {z : Array Value} {x0 : α} (hn : n ≤ 9223372036854775807) (hsz : z.size = r.sz) (h0 : 0 < r.sz) (hx : ∀ w, r.K w (fun _ => False) x0 z.toList) :
    Ow true e r (W.alloc (.cells (madeCells z (n * r.sz)) e)) (fun k => k = W.heap.size) (.slice (some ⟨W.heap.size, 0, none⟩) n n) (List.replicate n x0) :=
  ow_made hsz h0 hx (World.ownsRow_lit W _ n (Nat.zero_le _) (by unfold maxLen; omega) (size_madeCells _ _))
theorem ow_alloc1 {α : Type} {e n : Nat} {r : Rp α} (W : World) {z : Value} {x0 : α} (hn : n ≤ 9223372036854775807) (h1 : r.sz = 1) (hx : ∀ w, r.K w (fun _ => False) x0 [z]) :
    Ow true e r (W.alloc (.cells (madeCells #[z] n) e)) (fun k => W.heap.size ≤ k) (.slice (some ⟨W.heap.size, 0, none⟩) n n) (List.replicate n x0) := by
  have h := ow_alloc (e := e) (n := n) (r := r) W (z := #[z]) (x0 := x0) hn h1.symm (by omega) hx
  rw [h1, Nat.mul_one] at h
  exact h.mono (fun k hk => by omega)
/-- A number of a slice that is read. -/
theorem rd_int {w : World} {F : Nat → Prop} {v : Value} {l : List Int} (h : Rp.Rd Rp.int w F v l) : ∃ A c, v = .slice A l.length c ∧ l.length ≤ c ∧ c ≤ 9223372036854775807 ∧
    (l = [] ∨ ∃ b o, A = some ⟨b, o, none⟩ ∧ b < w.heap.size ∧ ∀ (k : Nat) (hk : k < l.length), w.cell? ⟨b, o + k, none⟩ = some (.int .i64 l[k])) := by
  obtain ⟨A, c, rfl, hl, hm, h⟩ := h
  refine ⟨A, c, rfl, hl, hm, ?_⟩
  rcases h with h | ⟨b, o, rfl, _, hb, h⟩
  · exact .inl h
  · refine .inr ⟨b, o, rfl, hb, fun k hk => ?_⟩
    obtain ⟨cs, hK, hc⟩ := h k l[k] (List.getElem?_eq_getElem hk)
    obtain rfl : cs = [.int .i64 l[k]] := hK
    have := hc 0 _ rfl
    rw [show k * Rp.int.sz + 0 = k from by show k * 1 + 0 = k; omega] at this
    exact this
namespace Ow
section
variable {α : Type} {ap : Bool} {e : Nat} {r : Rp α} {w : World} {F G : Nat → Prop} {l : List α} {g n c : Nat}
theorem put1 (h : Ow ap e r w F (.slice (some ⟨g, 0, none⟩) n c) l) (h1 : r.sz = 1) {i : Nat} (hi : i < l.length) {y : α} {u : Value} (hy : r.K w G y [u]) (hG : ∀ k, G k → ¬ F k) :
    Ow ap e r (w.setCell ⟨g, i, none⟩ u) (fun k => F k ∨ G k) (.slice (some ⟨g, 0, none⟩) n c) (l.set i y) := by
  have hp := h.put rfl hi hy hG
  rw [h1, Nat.mul_one] at hp
  exact hp
/-- A scalar stored. -/
theorem set1 (h : Ow ap e r w F (.slice (some ⟨g, 0, none⟩) n c) l) (h1 : r.sz = 1) {i : Nat} (hi : i < l.length) {y : α} {u : Value} (hy : r.K w (fun _ => False) y [u]) :
    Ow ap e r (w.setCell ⟨g, i, none⟩ u) F (.slice (some ⟨g, 0, none⟩) n c) (l.set i y) :=
  (h.put1 h1 hi hy (fun _ h => h.elim)).mono (fun k hk => hk.elim id (fun h => h.elim))
theorem len_eq (h : Ow ap e r w F (.slice (some ⟨g, 0, none⟩) n c) l) : n = l.length := by
  obtain ⟨A, c', he, _⟩ := h.form
  injection he
end
/-- The cell of a number, a bool, a text: kinds of one cell that is told by the value. -/
theorem lit_at {α : Type} {ap : Bool} {e g n c : Nat} {enc : α → Value} {h1 : ∀ x, (enc x).oneCell' = true} {w : World} {F : Nat → Prop} {l : List α} (h : Ow ap e (Rp.lit enc h1) w F (.slice (some ⟨g, 0, none⟩) n c) l) {k : Nat} {x : α} (hk : l[k]? = some x) :
    w.cell? ⟨g, k, none⟩ = some (enc x) ∧ w.frozen? ⟨g, k, none⟩ = false := by
  obtain ⟨g', c', cs, he, _, _, hK, hc, hf⟩ := h.at_ hk
  injection he with he _ _
  injection he with he
  injection he with he _
  subst he
  obtain rfl : cs = [enc x] := hK
  have := hc 0 _ rfl
  rw [show k * (Rp.lit enc h1).sz + 0 = k from by show k * 1 + 0 = k; omega] at this
  exact ⟨this, hf k⟩
theorem int_at {ap : Bool} {e g n c : Nat} {w : World} {F : Nat → Prop} {l : List Int} (h : Ow ap e Rp.int w F (.slice (some ⟨g, 0, none⟩) n c) l) {k : Nat} (hk : k < l.length) :
    w.cell? ⟨g, k, none⟩ = some (.int .i64 l[k]) ∧ w.frozen? ⟨g, k, none⟩ = false := h.lit_at (List.getElem?_eq_getElem hk)
end Ow
end Go.Proofs.Ytmcnoeinjocimaa.L
