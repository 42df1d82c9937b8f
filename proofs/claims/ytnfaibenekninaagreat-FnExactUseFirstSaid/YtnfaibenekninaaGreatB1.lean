/- Joined texts, each of which was built by itself: Lib1 Lib2 Lib3 Lib4 W1 Ty1 Cv1 Cv2 Cv4 Ty3 Mk1. -/
import Derived.Deep.Slices
import Derived.Maps.AppendAt
import Derived.Laws.OwnMore
import Derived.OwnWalk
import Derived.WalkKit
import Derived.Laws.Rows
import Derived.Laws.NewBlocks
import Derived.Laws.Alloc2
import Derived.Lib.Hide
import Derived.Deep.AppendLies
import Derived.Deep.QuietTactic
import Derived.BigQuiet
import Derived.IntWalk
import Derived.Outline
import Derived.Handy
import Derived.Test.YtnfaibenekninaaGreatProg
set_option linter.unusedVariables false
namespace Go.Proofs.YtnfaibenekninaaGreat.L
open Go.RowKit
/-- A kind: its cells' number, and what the cells say of a value, reading no block but those of F. -/
structure Rp (α : Type) where
  sz : Nat
  K : World → (Nat → Prop) → α → List Value → Prop
  len : ∀ {w F x cs}, K w F x cs → cs.length = sz
  one : ∀ {w F x cs}, K w F x cs → ∀ u ∈ cs, u.oneCell' = true
  mono : ∀ {w F G x cs}, (∀ k, F k → G k) → K w F x cs → K w G x cs
  move : ∀ {w w' F x cs}, (∀ k, F k → k < w.heap.size → w'.heap[k]? = w.heap[k]?) → K w F x cs → K w' F x cs
  bound : ∀ {w F x cs}, K w F x cs → K w (fun k => F k ∧ k < w.heap.size) x cs

def Same (F : Nat → Prop) (w w' : World) : Prop := ∀ k, F k → k < w.heap.size → w'.heap[k]? = w.heap[k]?
theorem Same.of_below {w w' : World} (h : Below w.heap.size w w') (F : Nat → Prop) : Same F w w' := fun k _ hk => h.block k hk

namespace Rp
def lit {α : Type} (enc : α → Value) (h1 : ∀ x, (enc x).oneCell' = true) : Rp α where
  sz := 1
  K := fun _ _ x cs => cs = [enc x]
  len := fun h => by rw [h]; rfl
  one := fun h u hu => by
    rw [h] at hu
    rw [List.mem_singleton.1 hu]
    exact h1 _
  mono := fun _ h => h
  move := fun _ h => h
  bound := fun h => h
def int : Rp Int := lit (Value.int .i64) (fun _ => rfl)
def byte : Rp Int := lit (Value.int .u8) (fun _ => rfl)
def bool : Rp Bool := lit Value.bool (fun _ => rfl)
def str : Rp ByteArray := lit Value.string (fun _ => rfl)
/-- Two in line; what they lead to may be the same. -/
def pair {α β : Type} (a : Rp α) (b : Rp β) : Rp (α × β) where
  sz := a.sz + b.sz
  K := fun w F x cs => ∃ c d, cs = c ++ d ∧ a.K w F x.1 c ∧ b.K w F x.2 d
  len := by
    rintro w F x cs ⟨c, d, rfl, h, k⟩
    rw [List.length_append, a.len h, b.len k]
  one := by
    rintro w F x cs ⟨c, d, rfl, h, k⟩ u hu
    rcases List.mem_append.1 hu with hu | hu
    · exact a.one h u hu
    · exact b.one k u hu
  mono := by
    rintro w F G x cs hF ⟨c, d, rfl, h, k⟩
    exact ⟨c, d, rfl, a.mono hF h, b.mono hF k⟩
  move := by
    rintro w w' F x cs hF ⟨c, d, rfl, h, k⟩
    exact ⟨c, d, rfl, a.move hF h, b.move hF k⟩
  bound := by
    rintro w F x cs ⟨c, d, rfl, h, k⟩
    exact ⟨c, d, rfl, a.bound h, b.bound k⟩
/-- Two in line that lead to nothing that is the same. -/
def pairA {α β : Type} (a : Rp α) (b : Rp β) : Rp (α × β) where
  sz := a.sz + b.sz
  K := fun w F x cs => ∃ G1 G2 : Nat → Prop, (∀ k, G1 k → F k) ∧ (∀ k, G2 k → F k) ∧ (∀ k, G1 k → ¬ G2 k) ∧ ∃ c d, cs = c ++ d ∧ a.K w G1 x.1 c ∧ b.K w G2 x.2 d
  len := by
    rintro w F x cs ⟨_, _, _, _, _, c, d, rfl, h, k⟩
    rw [List.length_append, a.len h, b.len k]
  one := by
    rintro w F x cs ⟨_, _, _, _, _, c, d, rfl, h, k⟩ u hu
    rcases List.mem_append.1 hu with hu | hu
    · exact a.one h u hu
    · exact b.one k u hu
  mono := by
    rintro w F G x cs hF ⟨G1, G2, h1, h2, h3, c, d, rfl, h, k⟩
    exact ⟨G1, G2, fun q hq => hF q (h1 q hq), fun q hq => hF q (h2 q hq), h3, c, d, rfl, h, k⟩
  move := by
    rintro w w' F x cs hF ⟨G1, G2, h1, h2, h3, c, d, rfl, h, k⟩
    exact ⟨G1, G2, h1, h2, h3, c, d, rfl, a.move (fun q hq => hF q (h1 q hq)) h, b.move (fun q hq => hF q (h2 q hq)) k⟩
  bound := by
    rintro w F x cs ⟨G1, G2, h1, h2, h3, c, d, rfl, h, k⟩
    exact ⟨fun k => G1 k ∧ k < w.heap.size, fun k => G2 k ∧ k < w.heap.size, fun q hq => ⟨h1 q hq.1, hq.2⟩, fun q hq => ⟨h2 q hq.1, hq.2⟩, fun q hq hq' => h3 q hq.1 hq'.1, c, d, rfl, a.bound h, b.bound k⟩
/-- A Lean structure by its parts. -/
def iso {α β : Type} (d : Rp α) (f : β → α) : Rp β where
  sz := d.sz
  K := fun w F x cs => d.K w F (f x) cs
  len := d.len
  one := d.one
  mono := d.mono
  move := d.move
  bound := d.bound

/-- The cells of a row's elements, one after the other, from an address on. -/
def Row {α : Type} (r : Rp α) (w : World) (F : Nat → Prop) (b o : Nat) (l : List α) : Prop :=
  ∀ (i : Nat) (x : α), l[i]? = some x → ∃ cs, r.K w F x cs ∧ ∀ j u, cs[j]? = some u → w.cell? ⟨b, o + (i * r.sz + j), none⟩ = some u
/-- A slice that is read. -/
def Rd {α : Type} (r : Rp α) (w : World) (F : Nat → Prop) (v : Value) (l : List α) : Prop :=
  ∃ A c, v = .slice A l.length c ∧ l.length ≤ c ∧ c ≤ maxLen ∧ (l = [] ∨ ∃ b o, A = some ⟨b, o, none⟩ ∧ F b ∧ b < w.heap.size ∧ Row r w F b o l)
theorem cell_move {w w' : World} {b : Nat} (h : w'.heap[b]? = w.heap[b]?) (o : Nat) : w'.cell? ⟨b, o, none⟩ = w.cell? ⟨b, o, none⟩ := by simp [World.cell?, h]
section
variable {α : Type} {r : Rp α} {w w' : World} {F G : Nat → Prop} {v : Value} {l : List α}
theorem Row.mono {b o : Nat} (hF : ∀ k, F k → G k) (h : Row r w F b o l) : Row r w G b o l := fun i x hx =>
  let ⟨cs, h1, h2⟩ := h i x hx
  ⟨cs, r.mono hF h1, h2⟩
theorem Row.move {b o : Nat} (hF : Same F w w') (hb : w'.heap[b]? = w.heap[b]?) (h : Row r w F b o l) : Row r w' F b o l := fun i x hx =>
  let ⟨cs, h1, h2⟩ := h i x hx
  ⟨cs, r.move hF h1, fun j u hu => (cell_move hb _).trans (h2 j u hu)⟩
theorem Rd.mono (hF : ∀ k, F k → G k) (h : Rd r w F v l) : Rd r w G v l := by
  obtain ⟨A, c, rfl, hl, hc, h⟩ := h
  refine ⟨A, c, rfl, hl, hc, ?_⟩
  rcases h with h | ⟨b, o, rfl, hb, hlt, h⟩
  · exact .inl h
  · exact .inr ⟨b, o, rfl, hF b hb, hlt, h.mono hF⟩
theorem lt_of_same {b : Nat} (h : w'.heap[b]? = w.heap[b]?) (hlt : b < w.heap.size) : b < w'.heap.size := by
  rcases Nat.lt_or_ge b w'.heap.size with h' | h'
  · exact h'
  · rw [Array.getElem?_eq_none h', Array.getElem?_eq_getElem hlt] at h
    cases h
theorem Rd.move (hF : Same F w w') (h : Rd r w F v l) : Rd r w' F v l := by
  obtain ⟨A, c, rfl, hl, hc, h⟩ := h
  refine ⟨A, c, rfl, hl, hc, ?_⟩
  rcases h with h | ⟨b, o, rfl, hb, hlt, h⟩
  · exact .inl h
  · exact .inr ⟨b, o, rfl, hb, lt_of_same (hF b hb hlt) hlt, h.move hF (hF b hb hlt)⟩
theorem Rd.bound (h : Rd r w F v l) : Rd r w (fun k => F k ∧ k < w.heap.size) v l := by
  obtain ⟨A, c, rfl, hl, hc, h⟩ := h
  refine ⟨A, c, rfl, hl, hc, ?_⟩
  rcases h with h | ⟨b, o, rfl, hb, hlt, h⟩
  · exact .inl h
  · refine .inr ⟨b, o, rfl, ⟨hb, hlt⟩, hlt, fun i x hx => ?_⟩
    obtain ⟨cs, h1, h2⟩ := h i x hx
    exact ⟨cs, r.bound h1, h2⟩
theorem Rd.below (h : Rd r w F v l) (hb : Below w.heap.size w w') : Rd r w' F v l := h.move (Same.of_below hb F)
theorem Rd.nil (r : Rp α) (w : World) (F : Nat → Prop) : Rd r w F (.slice none 0 0) [] := ⟨none, 0, rfl, Nat.le_refl _, by unfold maxLen; omega, .inl rfl⟩
end
/-- A slice that is read, as a kind. -/
def sl {α : Type} (r : Rp α) : Rp (List α) where
  sz := 1
  K := fun w F x cs => ∃ v, cs = [v] ∧ Rd r w F v x
  len := by
    rintro w F x cs ⟨v, rfl, _⟩
    rfl
  one := by
    rintro w F x cs ⟨v, rfl, A, c, rfl, _⟩ u hu
    rw [List.mem_singleton.1 hu]
    rfl
  mono := by
    rintro w F G x cs hF ⟨v, rfl, h⟩
    exact ⟨v, rfl, h.mono hF⟩
  move := by
    rintro w w' F x cs hF ⟨v, rfl, h⟩
    exact ⟨v, rfl, h.move hF⟩
  bound := by
    rintro w F x cs ⟨v, rfl, h⟩
    exact ⟨v, rfl, h.bound⟩
end Rp
end Go.Proofs.YtnfaibenekninaaGreat.L

set_option linter.unusedVariables false
namespace Go.Proofs.YtnfaibenekninaaGreat.L
open Go.RowKit
/-- A slice (elements of type e) of one's own: nil, or at a block's head. What element i leads to lies in φ i; ap: no two elements lead to one block. -/
def Ow {α : Type} (ap : Bool) (e : Nat) (r : Rp α) (w : World) (F : Nat → Prop) (v : Value) (l : List α) : Prop :=
  ∃ (φ : Nat → Nat → Prop) (xs : List Value), w.ownsRow 0 e r.sz v l.length xs ∧ (∀ k, v.ownBlock = some k → F k) ∧ (∀ i k, φ i k → F k ∧ v.ownBlock ≠ some k) ∧
    (ap = true → ∀ i j k, φ i k → φ j k → i = j) ∧ ∀ i x, l[i]? = some x → r.K w (φ i) x ((xs.drop (i * r.sz)).take r.sz)
theorem owns_move {w w' : World} {e : TypeId} {size n : Nat} {v : Value} {xs : List Value} (h : w.ownsRow 0 e size v n xs) (hm : ∀ k, v.ownBlock = some k → w'.heap[k]? = w.heap[k]?) : w'.ownsRow 0 e size v n xs := by
  obtain ⟨h1, h2⟩ := h
  refine ⟨h1, ?_⟩
  rcases h2 with h2 | ⟨g, cap, cur, rfl, hg, hh, q⟩
  · exact .inl h2
  · exact .inr ⟨g, cap, cur, rfl, hg, (hm g (by simp [Value.ownBlock])).trans hh, q⟩
theorem owns_lt {w : World} {e : TypeId} {size n : Nat} {v : Value} {xs : List Value} (h : w.ownsRow 0 e size v n xs) {k : Nat} (hk : v.ownBlock = some k) : k < w.heap.size := (h.lt k hk).2
namespace Ow
section
variable {α : Type} {ap : Bool} {e : Nat} {r : Rp α} {w w' : World} {F G : Nat → Prop} {v : Value} {l : List α}
theorem mono (hF : ∀ k, F k → G k) (h : Ow ap e r w F v l) : Ow ap e r w G v l := by
  obtain ⟨φ, xs, h1, h2, h3, h4, h5⟩ := h
  exact ⟨φ, xs, h1, fun k hk => hF k (h2 k hk), fun i k hk => ⟨hF k (h3 i k hk).1, (h3 i k hk).2⟩, h4, h5⟩
theorem move (hF : Same F w w') (h : Ow ap e r w F v l) : Ow ap e r w' F v l := by
  obtain ⟨φ, xs, h1, h2, h3, h4, h5⟩ := h
  exact ⟨φ, xs, owns_move h1 (fun k hk => hF k (h2 k hk) (owns_lt h1 hk)), h2, h3, h4, fun i x hx => r.move (fun k hk hlt => hF k (h3 i k hk).1 hlt) (h5 i x hx)⟩
theorem below (hb : Below w.heap.size w w') (h : Ow ap e r w F v l) : Ow ap e r w' F v l := h.move (Same.of_below hb F)
theorem bound (h : Ow ap e r w F v l) : Ow ap e r w (fun k => F k ∧ k < w.heap.size) v l := by
  obtain ⟨φ, xs, h1, h2, h3, h4, h5⟩ := h
  exact ⟨fun i k => φ i k ∧ k < w.heap.size, xs, h1, fun k hk => ⟨h2 k hk, owns_lt h1 hk⟩, fun i k hk => ⟨⟨(h3 i k hk.1).1, hk.2⟩, (h3 i k hk.1).2⟩, fun ha i j k hi hj => h4 ha i j k hi.1 hj.1, fun i x hx => r.bound (h5 i x hx)⟩
theorem loose (h : Ow ap e r w F v l) : Ow false e r w F v l := by
  obtain ⟨φ, xs, h1, h2, h3, _, h5⟩ := h
  exact ⟨φ, xs, h1, h2, h3, (fun h => by cases h), h5⟩
theorem owns (h : Ow ap e r w F v l) : ∃ xs, w.ownsRow 0 e r.sz v l.length xs := by
  obtain ⟨φ, xs, h1, _⟩ := h
  exact ⟨xs, h1⟩
theorem form (h : Ow ap e r w F v l) : ∃ A c, v = .slice A l.length c ∧ l.length ≤ c ∧ c ≤ maxLen := by
  obtain ⟨φ, xs, ⟨_, h1⟩, _⟩ := h
  rcases h1 with ⟨rfl, hn⟩ | ⟨g, cap, cur, rfl, _, _, hc, hm, _⟩
  · exact ⟨none, 0, by rw [hn], by omega, by unfold maxLen; omega⟩
  · exact ⟨some ⟨g, 0, none⟩, cap, rfl, hc, hm⟩
theorem nil (ap : Bool) (e : Nat) (r : Rp α) (w : World) (F : Nat → Prop) : Ow ap e r w F (.slice none 0 0) [] :=
  ⟨fun _ _ => False, [], World.ownsRow_nil w 0 e r.sz, fun k hk => by simp [Value.ownBlock] at hk, fun _ _ h => h.elim, fun _ _ _ _ h => h.elim, fun i x hx => by simp at hx⟩
theorem lt_size (h : Ow ap e r w F v l) {k : Nat} (hk : v.ownBlock = some k) : F k ∧ k < w.heap.size := by
  obtain ⟨φ, xs, h1, h2, _⟩ := h
  exact ⟨h2 k hk, owns_lt h1 hk⟩
/-- Element i as it lies: the block, its cells, that none is frozen. -/
theorem at_ (h : Ow ap e r w F v l) {i : Nat} {x : α} (hx : l[i]? = some x) :
    ∃ g c cs, v = .slice (some ⟨g, 0, none⟩) l.length c ∧ F g ∧ g < w.heap.size ∧ r.K w (fun k => F k ∧ k ≠ g) x cs ∧ (∀ j u, cs[j]? = some u → w.cell? ⟨g, i * r.sz + j, none⟩ = some u) ∧ ∀ o, w.frozen? ⟨g, o, none⟩ = false := by
  obtain ⟨φ, xs, h1, h2, h3, h4, h5⟩ := h
  have hil : i < l.length := (List.getElem?_eq_some_iff.1 hx).1
  have hk := h5 i x hx
  rcases h1.2 with ⟨rfl, hn⟩ | ⟨g, cap, cur, rfl, _, hh, hc, hm, hs, hxs⟩
  · omega
  · refine ⟨g, cap, _, rfl, h2 g (by simp [Value.ownBlock]), owns_lt h1 (by simp [Value.ownBlock]), r.mono (fun k hk => ⟨(h3 i k hk).1, fun hkg => (h3 i k hk).2 (by simp [Value.ownBlock, hkg])⟩) hk, fun j u hu => ?_, fun o => h1.frozenAt o⟩
    rw [List.getElem?_take] at hu
    by_cases hj : j < r.sz
    · rw [if_pos hj, List.getElem?_drop] at hu
      have hlt : i * r.sz + j < l.length * r.sz := by
        calc i * r.sz + j < i * r.sz + r.sz := by omega
          _ = (i + 1) * r.sz := by rw [Nat.succ_mul]
          _ ≤ l.length * r.sz := Nat.mul_le_mul_right _ hil
      rw [h1.cellAt _ hlt]
      exact hu
    · rw [if_neg hj] at hu
      cases hu
theorem rd (h : Ow ap e r w F v l) : Rp.Rd r w F v l := by
  obtain ⟨A, c, he, hl, hm⟩ := h.form
  refine ⟨A, c, he, hl, hm, ?_⟩
  cases hq : l with
  | nil => exact .inl rfl
  | cons x t =>
    right
    have h0 : l[0]? = some x := by rw [hq]; rfl
    obtain ⟨g, c', cs, he', hF, hg, _⟩ := h.at_ h0
    rw [he] at he'
    injection he' with hA _ _
    refine ⟨g, 0, hA, hF, hg, fun i y hy => ?_⟩
    rw [← hq] at hy
    obtain ⟨g', c'', cs', he'', _, _, hK, hcell, _⟩ := h.at_ hy
    rw [he] at he''
    injection he'' with hA' _ _
    rw [hA] at hA'
    injection hA' with hA'
    injection hA' with hg' _
    subst hg'
    exact ⟨cs', r.mono (fun k hk => hk.1) hK, fun j u hu => by rw [Nat.zero_add]; exact hcell j u hu⟩
end
end Ow
/-- A row of one's own, as a kind. -/
def Rp.ow {α : Type} (ap : Bool) (e : Nat) (r : Rp α) : Rp (List α) where
  sz := 1
  K := fun w F x cs => ∃ v, cs = [v] ∧ Ow ap e r w F v x
  len := by
    rintro w F x cs ⟨v, rfl, _⟩
    rfl
  one := by
    rintro w F x cs ⟨v, rfl, h⟩ u hu
    obtain ⟨A, c, rfl, _⟩ := h.form
    rw [List.mem_singleton.1 hu]
    rfl
  mono := by
    rintro w F G x cs hF ⟨v, rfl, h⟩
    exact ⟨v, rfl, h.mono hF⟩
  move := by
    rintro w w' F x cs hF ⟨v, rfl, h⟩
    exact ⟨v, rfl, h.move hF⟩
  bound := by
    rintro w F x cs ⟨v, rfl, h⟩
    exact ⟨v, rfl, h.bound⟩
/-- What kind a tells, kind b tells, too. -/
def Rp.Le {α : Type} (a b : Rp α) : Prop := a.sz = b.sz ∧ ∀ {w F x cs}, a.K w F x cs → b.K w F x cs
namespace Rp.Le
variable {α β : Type} {a b : Rp α} {c d : Rp β}
theorem refl (a : Rp α) : Le a a := ⟨rfl, fun h => h⟩
theorem pair (h : Le a b) (k : Le c d) : Le (a.pair c) (b.pair d) := ⟨by show a.sz + c.sz = b.sz + d.sz; rw [h.1, k.1], by
  rintro w F x cs ⟨p, q, rfl, hp, hq⟩
  exact ⟨p, q, rfl, h.2 hp, k.2 hq⟩⟩
theorem pairA (h : Le a b) (k : Le c d) : Le (a.pairA c) (b.pair d) := ⟨by show a.sz + c.sz = b.sz + d.sz; rw [h.1, k.1], by
  rintro w F x cs ⟨G1, G2, h1, h2, _, p, q, rfl, hp, hq⟩
  exact ⟨p, q, rfl, b.mono h1 (h.2 hp), d.mono h2 (k.2 hq)⟩⟩
theorem iso (h : Le a b) (f : β → α) : Le (a.iso f) (b.iso f) := ⟨h.1, h.2⟩
theorem row (h : Le a b) {w : World} {F : Nat → Prop} {g o : Nat} {l : List α} (hr : Rp.Row a w F g o l) : Rp.Row b w F g o l := fun i x hx => by
  obtain ⟨cs, h1, h2⟩ := hr i x hx
  rw [h.1] at h2
  exact ⟨cs, h.2 h1, h2⟩
theorem rd (h : Le a b) {w : World} {F : Nat → Prop} {v : Value} {l : List α} (hr : Rp.Rd a w F v l) : Rp.Rd b w F v l := by
  obtain ⟨A, c, rfl, hl, hm, h0⟩ := hr
  refine ⟨A, c, rfl, hl, hm, ?_⟩
  rcases h0 with h0 | ⟨g, o, rfl, hF, hg, h0⟩
  · exact .inl h0
  · exact .inr ⟨g, o, rfl, hF, hg, row h h0⟩
theorem sl (h : Le a b) : Le (Rp.sl a) (Rp.sl b) := ⟨rfl, by
  rintro w F x cs ⟨v, rfl, hv⟩
  exact ⟨v, rfl, rd h hv⟩⟩
theorem ow {ap : Bool} {e : Nat} (h : Le a b) : Le (Rp.ow ap e a) (Rp.sl b) := ⟨rfl, by
  rintro w F x cs ⟨v, rfl, hv⟩
  exact ⟨v, rfl, rd h hv.rd⟩⟩
end Rp.Le
end Go.Proofs.YtnfaibenekninaaGreat.L

set_option linter.unusedVariables false
namespace Go.Proofs.YtnfaibenekninaaGreat.L
open Go.RowKit
/-- Cells stored one after the other, as a store of a whole value does. -/
def putRow (w : World) (g : Nat) : Nat → List Value → World
  | _, [] => w
  | o, u :: us => putRow (w.setCell ⟨g, o, none⟩ u) g (o + 1) us
def seg (xs : List Value) : Nat → List Value → List Value
  | _, [] => xs
  | o, u :: us => seg (xs.set o u) (o + 1) us
theorem seg_length (us : List Value) : ∀ (xs : List Value) (o : Nat), (seg xs o us).length = xs.length := by
  induction us with
  | nil => intro xs o; rfl
  | cons u us ih => intro xs o; rw [seg, ih, List.length_set]
theorem seg_get (us : List Value) : ∀ (xs : List Value) (o k : Nat), o + us.length ≤ xs.length → (seg xs o us)[k]? = if o ≤ k ∧ k < o + us.length then us[k - o]? else xs[k]? := by
  induction us with
  | nil =>
    intro xs o k _
    rw [seg, if_neg (by simp only [List.length_nil]; omega)]
  | cons u us ih =>
    intro xs o k h
    simp only [List.length_cons] at h ⊢
    rw [seg, ih _ _ _ (by rw [List.length_set]; omega), List.getElem?_set]
    by_cases h1 : o + 1 ≤ k ∧ k < o + 1 + us.length
    · rw [if_pos h1, if_pos (by omega)]
      obtain ⟨d, rfl⟩ : ∃ d, k = o + 1 + d := ⟨k - (o + 1), by omega⟩
      rw [show o + 1 + d - (o + 1) = d by omega, show o + 1 + d - o = d + 1 by omega, List.getElem?_cons_succ]
    · rw [if_neg h1]
      by_cases h2 : o = k
      · subst h2
        rw [if_pos rfl, if_pos (by omega), if_pos (by omega), Nat.sub_self, List.getElem?_cons_zero]
      · rw [if_neg h2, if_neg (by omega)]
theorem putRow_owns {e : TypeId} {size n c g : Nat} (us : List Value) : ∀ (w : World) (xs : List Value) (o : Nat), w.ownsRow 0 e size (.slice (some ⟨g, 0, none⟩) n c) n xs →
    (putRow w g o us).ownsRow 0 e size (.slice (some ⟨g, 0, none⟩) n c) n (seg xs o us) ∧ w.grownBy (putRow w g o us) (some g) := by
  induction us with
  | nil => intro w xs o h; exact ⟨h, World.grownBy.refl w _⟩
  | cons u us ih =>
    intro w xs o h
    have h1 := h.stored o u
    have h2 := ih _ _ (o + 1) h1.1
    refine ⟨h2.1, ⟨h2.2.os.trans h1.2.os, h2.2.tape.trans h1.2.tape, h2.2.output.trans h1.2.output, Nat.le_trans h1.2.size h2.2.size, fun k hk hne => ?_⟩⟩
    exact (h2.2.block k (Nat.lt_of_lt_of_le hk h1.2.size) hne).trans (h1.2.block k hk hne)
theorem seg_drop {xs us : List Value} {sz n : Nat} (hx : xs.length = n * sz) {i : Nat} (hi : i < n) (hu : us.length = sz) (j : Nat) (hj : j < n) :
    ((seg xs (i * sz) us).drop (j * sz)).take sz = if j = i then us else (xs.drop (j * sz)).take sz := by
  have hb : i * sz + us.length ≤ xs.length := by
    rw [hx, hu]
    calc i * sz + sz = (i + 1) * sz := by rw [Nat.succ_mul]
      _ ≤ n * sz := Nat.mul_le_mul_right _ hi
  have hjb : j * sz + sz ≤ n * sz := by
    calc j * sz + sz = (j + 1) * sz := by rw [Nat.succ_mul]
      _ ≤ n * sz := Nat.mul_le_mul_right _ hj
  apply List.ext_getElem?
  intro q
  rw [List.getElem?_take]
  by_cases hq : q < sz
  · rw [if_pos hq, List.getElem?_drop, seg_get _ _ _ _ hb]
    by_cases hji : j = i
    · subst hji
      rw [if_pos rfl, if_pos (by omega), show j * sz + q - j * sz = q by omega]
    · rw [if_neg hji, List.getElem?_take, if_pos hq, List.getElem?_drop, if_neg ?_]
      rintro ⟨h1, h2⟩
      rw [hu] at h2
      rcases Nat.lt_or_gt_of_ne hji with h | h
      · have : (j + 1) * sz ≤ i * sz := Nat.mul_le_mul_right _ h
        rw [Nat.succ_mul] at this
        omega
      · have : (i + 1) * sz ≤ j * sz := Nat.mul_le_mul_right _ h
        rw [Nat.succ_mul] at this
        omega
  · rw [if_neg hq]
    by_cases hji : j = i
    · subst hji
      rw [if_pos rfl, List.getElem?_eq_none (by omega)]
    · rw [if_neg hji, List.getElem?_take, if_neg hq]
theorem grown_same {w w' : World} {g : Nat} (h : w.grownBy w' (some g)) {F : Nat → Prop} (hF : ¬ F g) : Same F w w' := fun k hk hlt => h.block k hlt (fun e => by cases e; exact hF hk)
theorem putRow_same (us : List Value) (g : Nat) : ∀ (w : World) (o : Nat), (putRow w g o us).heap.size = w.heap.size ∧ ∀ k, k ≠ g → (putRow w g o us).heap[k]? = w.heap[k]? := by
  induction us with
  | nil => intro w o; exact ⟨rfl, fun _ _ => rfl⟩
  | cons u us ih =>
    intro w o
    obtain ⟨h1, h2⟩ := ih (w.setCell ⟨g, o, none⟩ u) (o + 1)
    exact ⟨by rw [putRow, h1]; simp, fun k hk => by rw [putRow, h2 k hk]; exact heap_setCell_other w ⟨g, o, none⟩ k u hk⟩
theorem putRow_below {B : Nat} {w0 w : World} (h : Below B w0 w) {g : Nat} (hg : B ≤ g) (us : List Value) : ∀ (o : Nat), Below B w0 (putRow w g o us) := by
  induction us generalizing w with
  | nil => intro o; exact h
  | cons u us ih => intro o; exact ih (h.setCell (by simpa using hg) u) (o + 1)
namespace Ow
section
variable {α : Type} {ap : Bool} {e : Nat} {r : Rp α} {w w' : World} {F G : Nat → Prop} {v : Value} {l : List α}
/-- Element i is stored anew; what it leads to is none of the row's. -/
theorem put (h : Ow ap e r w F v l) {g n c : Nat} (hv : v = .slice (some ⟨g, 0, none⟩) n c) {i : Nat} (hi : i < l.length) {y : α} {us : List Value} (hy : r.K w G y us) (hG : ∀ k, G k → ¬ F k) :
    Ow ap e r (putRow w g (i * r.sz) us) (fun k => F k ∨ G k) v (l.set i y) := by
  obtain ⟨φ, xs, h1, h2, h3, h4, h5⟩ := h
  subst hv
  obtain rfl : n = l.length := by
    rcases h1.2 with ⟨hh, _⟩ | ⟨g', cap', cur', hh, _⟩
    · cases hh
    · injection hh
  have hg : F g := h2 g (by simp [Value.ownBlock])
  have hp := putRow_owns us w xs (i * r.sz) h1
  have hus : us.length = r.sz := r.len hy
  refine ⟨fun j k => if j = i then G k else φ j k, seg xs (i * r.sz) us, by rw [List.length_set]; exact hp.1, fun k hk => .inl (h2 k hk), ?_, ?_, ?_⟩
  · intro j k hk
    split at hk
    · exact ⟨.inr hk, fun he => hG k hk (h2 k he)⟩
    · exact ⟨.inl (h3 j k hk).1, (h3 j k hk).2⟩
  · intro ha p q k hp hq
    split at hp <;> split at hq
    · omega
    · exact absurd (h3 q k hq).1 (hG k hp)
    · exact absurd (h3 p k hp).1 (hG k hq)
    · exact h4 ha p q k hp hq
  · intro j x hx
    rw [List.getElem?_set] at hx
    have hjl : j < l.length := by
      rcases Nat.lt_or_ge j l.length with hh | hh
      · exact hh
      · split at hx
        · omega
        · rw [List.getElem?_eq_none hh] at hx; cases hx
    rw [seg_drop h1.1 hi hus j hjl]
    by_cases hji : j = i
    · subst hji
      rw [if_pos rfl, if_pos hi] at hx
      cases hx
      simp only [if_true]
      refine r.move (fun k hk hlt => hp.2.block k hlt (fun he => by cases he; exact hG _ hk hg)) hy
    · rw [if_neg (fun h => hji h.symm)] at hx
      simp only [if_neg hji]
      refine r.move (fun k hk hlt => hp.2.block k hlt (fun he => by cases he; exact (h3 j _ hk).2 (by simp [Value.ownBlock]))) (h5 j x hx)
theorem of_grown (h : Ow ap e r w F v l) {row : Option Nat} (hg : w.grownBy w' row) (hr : ∀ k, row = some k → ¬ F k) : Ow ap e r w' F v l :=
  h.move (fun k hk hlt => hg.block k hlt (fun he => hr k he.symm hk))
/-- Elements put behind: what they lead to is none of the row's. ψ: where each leads. -/
theorem snoc (h : Ow ap e r w F v l) {v1 : Value} {w1 : World} {ys : List α} {news : List Value} {m : Nat} (hm : m = ys.length) (hown : ∀ xs, w.ownsRow 0 e r.sz v l.length xs → w1.ownsRow 0 e r.sz v1 (l.length + m) (xs ++ news))
    (hg : w.grownBy w1 v.ownBlock) (hat : v1.ownBlock = v.ownBlock ∨ ∃ b, v1.ownBlock = some b ∧ w.heap.size ≤ b) (ψ : Nat → Nat → Prop)
    (hy : ∀ i y, ys[i]? = some y → r.K w (ψ i) y ((news.drop (i * r.sz)).take r.sz)) (hψ : ∀ i k, ψ i k → ¬ F k ∧ G k) (hap : ap = true → ∀ i j k, ψ i k → ψ j k → i = j) (hGF : ∀ k, F k → G k) (hnew : ∀ k, w.heap.size ≤ k → G k) :
    Ow ap e r w1 G v1 (l ++ ys) := by
  subst hm
  obtain ⟨φ, xs, h1, h2, h3, h4, h5⟩ := h
  have hx := h1.1
  refine ⟨fun i k => k < w.heap.size ∧ if i < l.length then φ i k else ψ (i - l.length) k, xs ++ news, by rw [List.length_append]; exact hown xs h1, ?_, ?_, ?_, ?_⟩
  · intro k hk
    rcases hat with hat | ⟨b, hb, hbl⟩
    · rw [hat] at hk; exact hGF k (h2 k hk)
    · rw [hb] at hk; cases hk; exact hnew _ hbl
  · intro i k hk
    obtain ⟨hlt, hk⟩ := hk
    split at hk
    · refine ⟨hGF k (h3 i k hk).1, fun he => ?_⟩
      rcases hat with hat | ⟨b, hb, hbl⟩
      · rw [hat] at he; exact (h3 i k hk).2 he
      · rw [hb] at he; cases he; omega
    · refine ⟨(hψ _ k hk).2, fun he => ?_⟩
      rcases hat with hat | ⟨b, hb, hbl⟩
      · rw [hat] at he; exact (hψ _ k hk).1 (h2 k he)
      · rw [hb] at he; cases he; omega
  · intro ha p q k hp hq
    obtain ⟨_, hp⟩ := hp
    obtain ⟨_, hq⟩ := hq
    split at hp <;> split at hq
    · exact h4 ha p q k hp hq
    · exact absurd (h3 p k hp).1 (hψ _ k hq).1
    · exact absurd (h3 q k hq).1 (hψ _ k hp).1
    · have := hap ha _ _ k hp hq; omega
  · intro i x hx'
    by_cases hi : i < l.length
    · rw [List.getElem?_append_left hi] at hx'
      have hle : i * r.sz + r.sz ≤ xs.length := by
        rw [hx]
        calc i * r.sz + r.sz = (i + 1) * r.sz := by rw [Nat.succ_mul]
          _ ≤ l.length * r.sz := Nat.mul_le_mul_right _ hi
      rw [List.drop_append_of_le_length (by omega), List.take_append_of_le_length (by rw [List.length_drop]; omega)]
      have hk := r.bound (h5 i x hx')
      refine r.mono (fun k hk => ⟨hk.2, by rw [if_pos hi]; exact hk.1⟩) (r.move (fun k hk hlt => hg.block k hlt (fun he => (h3 i k hk.1).2 he.symm)) hk)
    · rw [List.getElem?_append_right (by omega)] at hx'
      have hd : (xs ++ news).drop (i * r.sz) = news.drop ((i - l.length) * r.sz) := by
        have : i * r.sz = xs.length + (i - l.length) * r.sz := by rw [hx, ← Nat.add_mul]; congr 1; omega
        rw [this, List.drop_append]
        simp
      rw [hd]
      have hk := r.bound (hy _ x hx')
      refine r.mono (fun k hk => ⟨hk.2, by rw [if_neg hi]; exact hk.1⟩) (r.move (fun k hk hlt => hg.block k hlt (fun he => (hψ _ k hk.1).1 (h2 k he.symm))) hk)
end
end Ow
end Go.Proofs.YtnfaibenekninaaGreat.L

set_option linter.unusedVariables false
namespace Go.Proofs.YtnfaibenekninaaGreat.L
open Go.RowKit
/-- A kind whose values lead nowhere. -/
def Rp.Flat {α : Type} (r : Rp α) : Prop := ∀ {w F x cs}, r.K w F x cs → ∀ w' G, r.K w' G x cs
theorem Rp.Flat.lit {α : Type} (enc : α → Value) (h1 : ∀ x, (enc x).oneCell' = true) : (Rp.lit enc h1).Flat := fun h _ _ => h
theorem Rp.Flat.pair {α β : Type} {a : Rp α} {b : Rp β} (ha : a.Flat) (hb : b.Flat) : (a.pair b).Flat := by
  rintro w F x cs ⟨c, d, rfl, h, k⟩ w' G
  exact ⟨c, d, rfl, ha h w' G, hb k w' G⟩
theorem Rp.Flat.iso {α β : Type} {a : Rp α} (ha : a.Flat) (f : β → α) : (a.iso f).Flat := fun h w' G => ha h w' G
theorem below_grown {B : Nat} {w0 w w1 : World} (h : Below B w0 w) {row : Option Nat} (hg : w.grownBy w1 row) (hr : ∀ k, row = some k → B ≤ k) (hB : B ≤ w.heap.size) : Below B w0 w1 :=
  ⟨hg.os.trans h.os, hg.tape.trans h.tape, hg.output.trans h.output, Nat.le_trans h.size hg.size, fun k hk => (hg.block k (by omega) (fun e => by have := hr k e.symm; omega)).trans (h.block k hk)⟩
section
variable {P : Program} {ops : Array Oper} {rest : List Oper} {o : Oper} {a : Act} {Q : Exit → Act → World → Prop} {α : Type} {ap : Bool} {e : Nat} {r : Rp α} {W : World} {F G : Nat → Prop}
/-- append(s, y): one element, laid by the statement itself into a block of its own. -/
theorem ow_append1 (hgd : o.guard = none) (s x : Operand) (t : TypeId) (z : Value) (bytes : Nat)
    (ho : o.op = .call { callee := .builtin .append, args := #[s, x], argTypes := #[t, t] })
    (ht : P.underlying t = some (.slice e)) (hinfo : (P.info? e).map (fun i => (i.zero, i.size, i.bytes)) = some (some z, r.sz, bytes)) (hz : z.cells.size = r.sz) (hsz : 0 < r.sz) (hb0 : 0 < bytes)
    (v : Value) (l : List α) (y : α) (us : List Value) (hs : a.eval s = v) (hx : a.eval x = .slice (some ⟨W.heap.size, 0, none⟩) 1 1)
    (HO : Ow ap e r W F v l) (hy : r.K W G y us) (hG : ∀ k, G k → ¬ F k) (hl : (l.length + 1) * bytes ≤ 140737488355328)
    (h : ∀ v1 w1, Ow ap e r w1 (fun k => F k ∨ G k ∨ W.heap.size ≤ k) v1 (l ++ [y]) → W.grownBy w1 v.ownBlock → wpList P ops Q rest (a.put o.dst v1) w1) :
    wpList P ops Q (o :: rest) a (W.alloc (.cells us.toArray e)) := by
  obtain ⟨i0, hi, hzz⟩ := Option.map_eq_some_iff.1 hinfo
  simp only [Prod.mk.injEq] at hzz
  obtain ⟨hz0, hz1, hz2⟩ := hzz
  have hlen : l.length + 1 ≤ 140737488355328 := Nat.le_trans (Nat.le_mul_of_pos_right _ hb0) hl
  obtain ⟨xs, hown⟩ := HO.owns
  have hus : us.length = r.sz := r.len hy
  refine wpList_append_own_at (W.alloc (.cells us.toArray e)) hgd s x t ho 0 e i0 z r.sz bytes ht hi hz0 hz1 hz2 hz hsz v l.length xs hs (hown.alloc _) ⟨W.heap.size, 0, none⟩ 1 1 us hx (by rw [hus, Nat.one_mul])
    (fun j u hu => World.news_of_block (cs := us.toArray) (t := e) (fr := (0, 0)) (heap_alloc_new W _) j u (by simpa using hu)) (r.one hy) (by simp only [maxLen]; omega) hl (Nat.zero_le _) ?_
  intro v1 w1 hown1 hg _ hat
  have hg' : W.grownBy w1 v.ownBlock := World.grownBy.trans (World.grownBy_alloc W _ _) hg
  refine h v1 w1 ?_ hg'
  obtain ⟨φ, xs', h1, h2, h3, h4, h5⟩ := HO
  have hxs : xs' = xs := by
    rcases h1.2 with ⟨rfl, hn⟩ | ⟨g, cap, cur, rfl, _, hh, _, _, _, htk⟩
    · have e1 := h1.1; have e2 := hown.1; rw [hn, Nat.zero_mul] at e1 e2; rw [List.eq_nil_of_length_eq_zero e1, List.eq_nil_of_length_eq_zero e2]
    · rcases hown.2 with ⟨hh', _⟩ | ⟨g', cap', cur', he, _, hh', _, _, _, htk'⟩
      · cases hh'
      · injection he with he _ _
        injection he with he
        injection he with he _
        subst he
        rw [hh] at hh'
        injection hh' with hh'
        injection hh' with hh' _
        subst hh'
        exact htk.symm.trans htk'
  subst hxs
  refine Ow.snoc (w := W) (m := 1) (ys := [y]) (news := us) ⟨φ, xs', h1, h2, h3, h4, h5⟩ rfl (fun zs hzs => ?_) hg' ?_ (fun i k => i = 0 ∧ G k) (fun i y' hy' => ?_) (fun i k hk => ⟨hG k hk.2, .inr (.inl hk.2)⟩) (fun _ i j k hi hj => by omega) (fun k hk => .inl hk) (fun k hk => .inr (.inr hk))
  · have : zs = xs' := by
      rcases h1.2 with ⟨rfl, hn⟩ | ⟨g, cap, cur, rfl, _, hh, _, _, _, htk⟩
      · have e1 := h1.1; have e2 := hzs.1; rw [hn, Nat.zero_mul] at e1 e2; rw [List.eq_nil_of_length_eq_zero e1, List.eq_nil_of_length_eq_zero e2]
      · rcases hzs.2 with ⟨hh', _⟩ | ⟨g', cap', cur', he, _, hh', _, _, _, htk'⟩
        · cases hh'
        · injection he with he _ _
          injection he with he
          injection he with he _
          subst he
          rw [hh] at hh'
          injection hh' with hh'
          injection hh' with hh' _
          subst hh'
          exact htk'.symm.trans htk
    rw [this]; exact hown1
  · rcases hat with hat | hat
    · exact .inl hat
    · exact .inr ⟨_, hat, by simp⟩
  · match i, hy' with
    | 0, hy' =>
      simp only [List.getElem?_cons_zero, Option.some.injEq] at hy'
      subst hy'
      rw [Nat.zero_mul, List.drop_zero, List.take_of_length_le (by omega)]
      exact r.mono (fun k hk => ⟨rfl, hk⟩) hy
    | i + 1, hy' => simp at hy'
end
/-- A row of n zero values, just made. -/
theorem madeCells_seg (z : Array Value) (n i : Nat) (hi : i < n) (hz : 0 < z.size) : (((madeCells z (n * z.size)).toList.drop (i * z.size)).take z.size) = z.toList := by
  apply List.ext_getElem?
  intro q
  rw [List.getElem?_take]
  by_cases hq : q < z.size
  · rw [if_pos hq, List.getElem?_drop, Array.getElem?_toList, Array.getElem?_toList]
    have hlt : i * z.size + q < n * z.size := by
      calc i * z.size + q < i * z.size + z.size := by omega
        _ = (i + 1) * z.size := by rw [Nat.succ_mul]
        _ ≤ n * z.size := Nat.mul_le_mul_right _ hi
    rw [Array.getElem?_eq_getElem (by rw [size_madeCells]; exact hlt), Array.getElem?_eq_getElem hq]
    simp only [madeCells, Array.getElem_map, Array.getElem_range, Option.some.injEq]
    rw [Nat.mul_comm i, Nat.mul_add_mod, Nat.mod_eq_of_lt hq]
    exact getElem!_pos z q hq
  · rw [if_neg hq, List.getElem?_eq_none (by simp; omega)]
theorem ow_made {α : Type} {e n : Nat} {r : Rp α} {w w1 : World} {z : Array Value} {x0 : α} (hsz : z.size = r.sz) (h0 : 0 < r.sz) (hx : ∀ w, r.K w (fun _ => False) x0 z.toList)
    (hown : w1.ownsRow 0 e r.sz (.slice (some ⟨w.heap.size, 0, none⟩) n n) n (madeCells z (n * r.sz)).toList) :
    Ow true e r w1 (fun k => k = w.heap.size) (.slice (some ⟨w.heap.size, 0, none⟩) n n) (List.replicate n x0) := by
  refine ⟨fun _ _ => False, _, by rw [List.length_replicate]; exact hown, fun k hk => by simpa [Value.ownBlock, eq_comm] using hk, fun _ _ h => h.elim, fun _ _ _ _ h => h.elim, fun i x hx' => ?_⟩
  rw [List.getElem?_replicate] at hx'
  split at hx'
  · cases hx'
    rw [← hsz, madeCells_seg z n i (by assumption) (by omega)]
    exact hx w1
  · cases hx'
end Go.Proofs.YtnfaibenekninaaGreat.L

set_option linter.unusedVariables false
namespace Go.Proofs.YtnfaibenekninaaGreat.L
open Go.RowKit
def inB (a b c : Int) : Bool := decide (b ≤ a) && decide (a ≤ c)
theorem ret_bool {a b : Bool} (h : a = b) : Ending.returned (.bool a) = .returned (.bool b) := by rw [h]
theorem ret_int {a b : Int} (h : a = b) : Ending.returned (.int .i64 a) = .returned (.int .i64 b) := by rw [h]
theorem boxed1 {w w1 : World} {o1 : Obj} (hb : Below (w.alloc o1).heap.size (w.alloc o1) w1) :
   w1.heap[w.heap.size]? = some o1 ∧ w.heap.size < w1.heap.size := by
  have hz : w.heap.size + 1 ≤ w1.heap.size := by simpa using hb.size
  refine ⟨?_, by omega⟩
  rw [hb.block _ (by rw [World.size_alloc]; omega)]; exact heap_alloc_new w o1
theorem boxed2 {w w1 : World} {o1 o2 : Obj} (hb : Below ((w.alloc o1).alloc o2).heap.size ((w.alloc o1).alloc o2) w1) :
   w1.heap[w.heap.size]? = some o1 ∧ w1.heap[w.heap.size + 1]? = some o2 ∧ w.heap.size < w1.heap.size ∧ w.heap.size + 1 < w1.heap.size := by
  have hz : w.heap.size + 1 + 1 ≤ w1.heap.size := by simpa using hb.size
  refine ⟨?_, ?_, by omega, by omega⟩
  · rw [hb.block _ (by rw [World.size_alloc, World.size_alloc]; omega)]; exact heap_alloc2_old w o1 o2
  · rw [hb.block _ (by rw [World.size_alloc, World.size_alloc]; omega)]; exact heap_alloc2_new w o1 o2
theorem cell_of_block {w : World} {b : Nat} {c : Array Value} {t : TypeId} (h : w.heap[b]? = some (.cells c t (0, 0))) : (∀ o, w.cell? ⟨b, o, none⟩ = c[o]?) ∧ ∀ o, w.frozen? ⟨b, o, none⟩ = false := by
  constructor
  · intro o; simp [World.cell?, h]
  · intro o; simp [World.frozen?, h]
theorem blk_below {w w1 : World} {g : Nat} {o : Obj} (h : w.heap[g]? = some o) (hb : Below w.heap.size w w1) : w1.heap[g]? = some o := (hb.block g ((Array.getElem?_eq_some_iff.1 h).1)).trans h
theorem blk_lt {w : World} {g : Nat} {o : Obj} (h : w.heap[g]? = some o) : g < w.heap.size := (Array.getElem?_eq_some_iff.1 h).1
theorem blk_alloc {w : World} {g : Nat} {o : Obj} (h : w.heap[g]? = some o) (o' : Obj) : (w.alloc o').heap[g]? = some o := (Below.heap_alloc w o' g (blk_lt h)).trans h
theorem blk_set {w : World} {g : Nat} {o : Obj} (h : w.heap[g]? = some o) {a : Addr} (ha : g ≠ a.block) (v : Value) : (w.setCell a v).heap[g]? = some o := (Below.heap_setCell w a v g ha).trans h
theorem blk_put {w : World} {g : Nat} {c : Array Value} {t : TypeId} (h : w.heap[g]? = some (.cells c t (0, 0))) (i : Nat) (u : Value) : (w.setCell ⟨g, i, none⟩ u).heap[g]? = some (.cells (c.setIfInBounds i u) t (0, 0)) := heap_setCell_same w g i c t u h
theorem below1 {w w1 : World} {o : Obj} (hb : Below (w.alloc o).heap.size (w.alloc o) w1) : Below w.heap.size w w1 :=
  (((Below.refl _ _).alloc (Nat.le_refl _) _)).trans (hb.mono (by simp))
theorem below2 {w w1 : World} {o1 o2 : Obj} (hb : Below ((w.alloc o1).alloc o2).heap.size ((w.alloc o1).alloc o2) w1) : Below w.heap.size w w1 :=
  (((Below.refl _ _).alloc (Nat.le_refl _) _).alloc (by simp) _).trans (hb.mono (by simp; omega))
theorem below_then {w w1 w2 : World} (h : Below w.heap.size w w1) (k : Below w1.heap.size w1 w2) : Below w.heap.size w w2 := h.trans (k.mono h.size)
theorem below_new {w : World} (o : Obj) : Below w.heap.size w (w.alloc o) := (Below.refl _ _).alloc (Nat.le_refl _) _
theorem below_drew {B : Nat} {w W : World} (h : Below B w W) : Below B w W.drew := ⟨h.os, h.tape, h.output, h.size, h.block⟩
theorem below_drewN {B : Nat} {w W : World} (h : Below B w W) (n : Nat) : Below B w (W.drewN n) := ⟨h.os, h.tape, h.output, h.size, h.block⟩
theorem cell_below {w w1 : World} (h : Below w.heap.size w w1) {a : Addr} {v : Value} (hc : w.cell? a = some v) : w1.cell? a = some v := (h.cell (World.block_lt_of_cell? w a hc)).trans hc
/-- make([]T, n). -/
theorem mk_all {P : Program} {t e : TypeId} {z : Value} {size bytes : Nat} (ht : P.underlying t = some (.slice e)) (hinfo : (P.info? e).map (fun i => (i.zero, i.size, i.bytes)) = some (some z, size, bytes)) (n : Nat) (hn : bytes * n ≤ 281474976710656) (hm : n ≤ 9223372036854775807) :
    ∀ W : World, (Instr.makeSlice t (.int .i64 (n : Int)) (.int .i64 (n : Int))).run P W = .ok (.slice (some ⟨W.heap.size, 0, none⟩) n n) (W.alloc (.cells (madeCells z.cells (n * size)) e)) := by
  intro W
  obtain ⟨i, hi, hzz⟩ := Option.map_eq_some_iff.1 hinfo
  simp only [Prod.mk.injEq] at hzz
  obtain ⟨hz, hs, hb⟩ := hzz
  have hb' : (i.bytes : Int) * (n : Int) ≤ 281474976710656 := by
    have h : ((i.bytes * n : Nat) : Int) ≤ 281474976710656 := by rw [hb]; omega
    rwa [Int.natCast_mul] at h
  have hr := run_make (P := P) W t e i z ht hi hz .i64 .i64 n n (by omega) (Int.le_refl _) hb' (by omega)
  simp only [Int.toNat_natCast, hs] at hr
  exact hr
theorem ow_alloc {α : Type} {e n : Nat} {r : Rp α} (W : World) {z : Array Value} {x0 : α} (hn : n ≤ 9223372036854775807) (hsz : z.size = r.sz) (h0 : 0 < r.sz) (hx : ∀ w, r.K w (fun _ => False) x0 z.toList) :
    Ow true e r (W.alloc (.cells (madeCells z (n * r.sz)) e)) (fun k => k = W.heap.size) (.slice (some ⟨W.heap.size, 0, none⟩) n n) (List.replicate n x0) :=
  ow_made hsz h0 hx (World.ownsRow_lit W _ n (Nat.zero_le _) (by unfold maxLen; omega) (size_madeCells _ _))
theorem ow_alloc1 {α : Type} {e n : Nat} {r : Rp α} (W : World) {z : Value} {x0 : α} (hn : n ≤ 9223372036854775807) (h1 : r.sz = 1) (hx : ∀ w, r.K w (fun _ => False) x0 [z]) :
    Ow true e r (W.alloc (.cells (madeCells #[z] n) e)) (fun k => W.heap.size ≤ k) (.slice (some ⟨W.heap.size, 0, none⟩) n n) (List.replicate n x0) := by
  have h := ow_alloc (e := e) (n := n) (r := r) W (z := #[z]) (x0 := x0) hn h1.symm (by omega) hx
  rw [h1, Nat.mul_one] at h
  exact h.mono (fun k hk => by omega)
/-- A number of a slice that is read. -/
theorem rd_int {w : World} {F : Nat → Prop} {v : Value} {l : List Int} (h : Rp.Rd Rp.int w F v l) : ∃ A c, v = .slice A l.length c ∧ l.length ≤ c ∧ c ≤ 9223372036854775807 ∧
    (l = [] ∨ ∃ b o, A = some ⟨b, o, none⟩ ∧ b < w.heap.size ∧ ∀ (k : Nat) (hk : k < l.length), w.cell? ⟨b, o + k, none⟩ = some (.int .i64 l[k])) := by
  obtain ⟨A, c, rfl, hl, hm, h⟩ := h
  refine ⟨A, c, rfl, hl, hm, ?_⟩
  rcases h with h | ⟨b, o, rfl, _, hb, h⟩
  · exact .inl h
  · refine .inr ⟨b, o, rfl, hb, fun k hk => ?_⟩
    obtain ⟨cs, hK, hc⟩ := h k l[k] (List.getElem?_eq_getElem hk)
    obtain rfl : cs = [.int .i64 l[k]] := hK
    have := hc 0 _ rfl
    rw [show k * Rp.int.sz + 0 = k from by show k * 1 + 0 = k; omega] at this
    exact this
namespace Ow
section
variable {α : Type} {ap : Bool} {e : Nat} {r : Rp α} {w : World} {F G : Nat → Prop} {l : List α} {g n c : Nat}
theorem put1 (h : Ow ap e r w F (.slice (some ⟨g, 0, none⟩) n c) l) (h1 : r.sz = 1) {i : Nat} (hi : i < l.length) {y : α} {u : Value} (hy : r.K w G y [u]) (hG : ∀ k, G k → ¬ F k) :
    Ow ap e r (w.setCell ⟨g, i, none⟩ u) (fun k => F k ∨ G k) (.slice (some ⟨g, 0, none⟩) n c) (l.set i y) := by
  have hp := h.put rfl hi hy hG
  rw [h1, Nat.mul_one] at hp
  exact hp
/-- A scalar stored. -/
theorem set1 (h : Ow ap e r w F (.slice (some ⟨g, 0, none⟩) n c) l) (h1 : r.sz = 1) {i : Nat} (hi : i < l.length) {y : α} {u : Value} (hy : r.K w (fun _ => False) y [u]) :
    Ow ap e r (w.setCell ⟨g, i, none⟩ u) F (.slice (some ⟨g, 0, none⟩) n c) (l.set i y) :=
  (h.put1 h1 hi hy (fun _ h => h.elim)).mono (fun k hk => hk.elim id (fun h => h.elim))
theorem len_eq (h : Ow ap e r w F (.slice (some ⟨g, 0, none⟩) n c) l) : n = l.length := by
  obtain ⟨A, c', he, _⟩ := h.form
  injection he
end
/-- The cell of a number, a bool, a text: kinds of one cell that is told by the value. -/
theorem lit_at {α : Type} {ap : Bool} {e g n c : Nat} {enc : α → Value} {h1 : ∀ x, (enc x).oneCell' = true} {w : World} {F : Nat → Prop} {l : List α} (h : Ow ap e (Rp.lit enc h1) w F (.slice (some ⟨g, 0, none⟩) n c) l) {k : Nat} {x : α} (hk : l[k]? = some x) :
    w.cell? ⟨g, k, none⟩ = some (enc x) ∧ w.frozen? ⟨g, k, none⟩ = false := by
  obtain ⟨g', c', cs, he, _, _, hK, hc, hf⟩ := h.at_ hk
  injection he with he _ _
  injection he with he
  injection he with he _
  subst he
  obtain rfl : cs = [enc x] := hK
  have := hc 0 _ rfl
  rw [show k * (Rp.lit enc h1).sz + 0 = k from by show k * 1 + 0 = k; omega] at this
  exact ⟨this, hf k⟩
theorem int_at {ap : Bool} {e g n c : Nat} {w : World} {F : Nat → Prop} {l : List Int} (h : Ow ap e Rp.int w F (.slice (some ⟨g, 0, none⟩) n c) l) {k : Nat} (hk : k < l.length) :
    w.cell? ⟨g, k, none⟩ = some (.int .i64 l[k]) ∧ w.frozen? ⟨g, k, none⟩ = false := h.lit_at (List.getElem?_eq_getElem hk)
end Ow
end Go.Proofs.YtnfaibenekninaaGreat.L

set_option linter.unusedVariables false
namespace Go.Proofs.YtnfaibenekninaaGreat.L
open Go.RowKit
structure Fl where
  op : Int
  dO : Int
  dst : Int
  a : Int
  b : Int
  n : Int
deriving DecidableEq
def flV (x : Fl) : Value := .agg #[.int .i64 x.op, .int .i64 x.dO, .int .i64 x.dst, .int .i64 x.a, .int .i64 x.b, .int .i64 x.n]
def Fl.t (x : Fl) : Int × Int × Int × Int × Int × Int := (x.op, x.dO, x.dst, x.a, x.b, x.n)
def flat : Rp Fl := (Rp.int.pair (Rp.int.pair (Rp.int.pair (Rp.int.pair (Rp.int.pair Rp.int))))).iso Fl.t
theorem flat_flat : flat.Flat := Rp.Flat.iso (Rp.Flat.pair (Rp.Flat.lit _ _) (Rp.Flat.pair (Rp.Flat.lit _ _) (Rp.Flat.pair (Rp.Flat.lit _ _) (Rp.Flat.pair (Rp.Flat.lit _ _) (Rp.Flat.pair (Rp.Flat.lit _ _) (Rp.Flat.lit _ _)))))) _
theorem flat_open {w : World} {F : Nat → Prop} {x : Fl} {cs : List Value} (h : flat.K w F x cs) : cs = [.int .i64 x.op, .int .i64 x.dO, .int .i64 x.dst, .int .i64 x.a, .int .i64 x.b, .int .i64 x.n] := by
  obtain ⟨_, _, rfl, rfl, _, _, rfl, rfl, _, _, rfl, rfl, _, _, rfl, rfl, _, _, rfl, rfl, rfl⟩ := h
  rfl
theorem flat_mk (w : World) (F : Nat → Prop) (x : Fl) : flat.K w F x [.int .i64 x.op, .int .i64 x.dO, .int .i64 x.dst, .int .i64 x.a, .int .i64 x.b, .int .i64 x.n] :=
  ⟨[_], _, rfl, rfl, [_], _, rfl, rfl, [_], _, rfl, rfl, [_], _, rfl, rfl, [_], _, rfl, rfl, rfl⟩
/-- A flat step in six cells. -/
def FlAt (w : World) (b o : Nat) (x : Fl) : Prop :=
  w.cell? ⟨b, o, none⟩ = some (.int .i64 x.op) ∧ w.cell? ⟨b, o + 1, none⟩ = some (.int .i64 x.dO) ∧ w.cell? ⟨b, o + 2, none⟩ = some (.int .i64 x.dst) ∧ w.cell? ⟨b, o + 3, none⟩ = some (.int .i64 x.a) ∧ w.cell? ⟨b, o + 4, none⟩ = some (.int .i64 x.b) ∧ w.cell? ⟨b, o + 5, none⟩ = some (.int .i64 x.n)
theorem FlAt.below {w w1 : World} {b o : Nat} {x : Fl} (h : FlAt w b o x) (hb : Below w.heap.size w w1) : FlAt w1 b o x :=
  ⟨cell_below hb h.1, cell_below hb h.2.1, cell_below hb h.2.2.1, cell_below hb h.2.2.2.1, cell_below hb h.2.2.2.2.1, cell_below hb h.2.2.2.2.2⟩
theorem flAt_of {w : World} {b o : Nat} {x : Fl} (h : ∀ j u, ([.int .i64 x.op, .int .i64 x.dO, .int .i64 x.dst, .int .i64 x.a, .int .i64 x.b, .int .i64 x.n] : List Value)[j]? = some u → w.cell? ⟨b, o + j, none⟩ = some u) : FlAt w b o x :=
  ⟨h 0 _ rfl, h 1 _ rfl, h 2 _ rfl, h 3 _ rfl, h 4 _ rfl, h 5 _ rfl⟩
theorem rd_flat {w : World} {F : Nat → Prop} {v : Value} {l : List Fl} (h : Rp.Rd flat w F v l) : ∃ A c, v = .slice A l.length c ∧ l.length ≤ c ∧ c ≤ 9223372036854775807 ∧
    (l = [] ∨ ∃ b o, A = some ⟨b, o, none⟩ ∧ b < w.heap.size ∧ ∀ (k : Nat) (hk : k < l.length), FlAt w b (o + k * 6) l[k]) := by
  obtain ⟨A, c, rfl, hl, hm, h⟩ := h
  refine ⟨A, c, rfl, hl, hm, ?_⟩
  rcases h with h | ⟨b, o, rfl, _, hb, h⟩
  · exact .inl h
  · refine .inr ⟨b, o, rfl, hb, fun k hk => ?_⟩
    obtain ⟨cs, hK, hc⟩ := h k l[k] (List.getElem?_eq_getElem hk)
    obtain rfl := flat_open hK
    refine flAt_of fun j u hu => ?_
    rw [Nat.add_assoc]
    exact hc j u hu
theorem Ow.flat_at {ap : Bool} {e g n c : Nat} {w : World} {F : Nat → Prop} {l : List Fl} (h : Ow ap e flat w F (.slice (some ⟨g, 0, none⟩) n c) l) {k : Nat} (hk : k < l.length) :
    FlAt w g (k * 6) l[k] ∧ ∀ o, w.frozen? ⟨g, o, none⟩ = false := by
  obtain ⟨g', c', cs, he, _, _, hK, hc, hf⟩ := h.at_ (List.getElem?_eq_getElem hk)
  injection he with he _ _
  injection he with he
  injection he with he _
  subst he
  obtain rfl := flat_open hK
  exact ⟨flAt_of hc, hf⟩
end Go.Proofs.YtnfaibenekninaaGreat.L

set_option linter.unusedVariables false
namespace Go.Proofs.YtnfaibenekninaaGreat.L
open Go.RowKit
theorem infoInt : (Tryz.prog.info? 3).map (fun i => (i.zero, i.size, i.bytes)) = some (some (.int .i64 0), 1, 8) := by kernel_rfl
theorem set_take_replicate {l : List Int} {k : Nat} (hk : k < l.length) : (l.take k ++ List.replicate (l.length - k) 0).set k l[k] = l.take (k + 1) ++ List.replicate (l.length - (k + 1)) 0 := by
  apply List.ext_getElem?
  intro i
  rw [List.getElem?_set]
  by_cases h : k = i
  · subst h
    rw [if_pos rfl, if_pos (by simp; omega), List.getElem?_append_left (by simp; omega), List.getElem?_take, if_pos (by omega), List.getElem?_eq_getElem hk]
  · rw [if_neg h]
    by_cases h2 : i < k
    · rw [List.getElem?_append_left (by simp; omega), List.getElem?_append_left (by simp; omega), List.getElem?_take, List.getElem?_take, if_pos h2, if_pos (by omega)]
    · rw [List.getElem?_append_right (by simp; omega), List.getElem?_append_right (by simp; omega), List.getElem?_replicate, List.getElem?_replicate]
      simp only [List.length_take]
      congr 1
      simp; omega
set_option maxHeartbeats 1000000 in
theorem toIntS_calls {F : Nat → Prop} (v : Value) (l : List Int) (w : World) (h : Rp.Rd Rp.int w F v l) (hl : l.length ≤ 1048576) :
    Calls Tryz.prog 86 #[v] w fun e w' => ∃ v', e = .returned v' ∧ Ow true 3 Rp.int w' (fun k => w.heap.size ≤ k) v' l ∧ Below w.heap.size w w' := by
  obtain ⟨A, c, rfl, hlc, hcm, hrow⟩ := rd_int h
  have hmk := mk_all Tryz.underlying59 infoInt l.length (by omega) (by omega)
  go_enter Tryz.func86, Tryz.ntmps86
  go_wp2
  go_loopw [4] (fun i wr => ∃ k : Nat, k ≤ l.length ∧ i = .int .i64 k ∧ Ow true 3 Rp.int wr (fun k => w.heap.size ≤ k) (.slice (some ⟨w.heap.size, 0, none⟩) l.length l.length) (l.take k ++ List.replicate (l.length - k) 0) ∧ Below w.heap.size w wr) (fun i _ => l.length - (intOf i).toNat)
  case atStart =>
    exact ⟨0, Nat.zero_le _, rfl, by simpa using ow_alloc1 (e := 3) (r := Rp.int) w (z := .int .i64 0) (x0 := 0) (n := l.length) (by omega) rfl (fun _ => rfl), below_new _⟩
  case round =>
    obtain ⟨k, hk, rfl, HO, HB⟩ := hrel
    by_cases hlt : k < l.length
    · rcases hrow with rfl | ⟨b, o, rfl, hb, hcell⟩
      · simp at hlt
      have c1 := cell_below HB (hcell k hlt)
      obtain ⟨c2, f2⟩ := HO.int_at (k := k) (by simp; omega)
      clear hcell
      go_wp2
      go_roundw
      case rel => exact ⟨k + 1, by omega, by go_num, by rw [← set_take_replicate hlt]; exact HO.set1 rfl (by simp; omega) rfl, HB.setCell (by simp) _⟩
      case measure => simp [intOf]; omega
    · obtain rfl : k = l.length := by omega
      go_wp2
      go_ret
      exact ⟨_, rfl, by simpa using HO, HB⟩
end Go.Proofs.YtnfaibenekninaaGreat.L

set_option linter.unusedVariables false
namespace Go.Proofs.YtnfaibenekninaaGreat.L
open Go.RowKit
theorem infoFlat : (Tryz.prog.info? 71).map (fun i => (i.zero, i.size, i.bytes)) = some (some (.agg #[.int .i64 0, .int .i64 0, .int .i64 0, .int .i64 0, .int .i64 0, .int .i64 0]), 6, 48) := by kernel_rfl
theorem toFlat_calls (x : Fl) (w : World) : Calls Tryz.prog 133 #[flV x] w fun e w' => e = .returned (flV x) ∧ Below w.heap.size w w' := by
  unfold flV
  go_enter Tryz.func133, Tryz.ntmps133
  go_wp2
  exact bodyPost_ret (v := flV x) (by simp [results, Tryz.results133, go_sem, flV]) rfl ⟨rfl, (((Below.refl _ _).alloc (Nat.le_refl _) _).alloc (by simp) _).alloc (by simp; omega) _⟩
def zFl : Fl := ⟨0, 0, 0, 0, 0, 0⟩
theorem set_take_rep {α : Type} (z : α) {l : List α} {k : Nat} (hk : k < l.length) : (l.take k ++ List.replicate (l.length - k) z).set k l[k] = l.take (k + 1) ++ List.replicate (l.length - (k + 1)) z := by
  apply List.ext_getElem?
  intro i
  rw [List.getElem?_set]
  by_cases h : k = i
  · subst h
    rw [if_pos rfl, if_pos (by simp; omega), List.getElem?_append_left (by simp; omega), List.getElem?_take, if_pos (by omega), List.getElem?_eq_getElem hk]
  · rw [if_neg h]
    by_cases h2 : i < k
    · rw [List.getElem?_append_left (by simp; omega), List.getElem?_append_left (by simp; omega), List.getElem?_take, List.getElem?_take, if_pos h2, if_pos (by omega)]
    · rw [List.getElem?_append_right (by simp; omega), List.getElem?_append_right (by simp; omega), List.getElem?_replicate, List.getElem?_replicate]
      simp only [List.length_take]
      congr 1
      simp; omega
set_option maxHeartbeats 1000000 in
theorem toFlatS_calls {F : Nat → Prop} (v : Value) (l : List Fl) (w : World) (h : Rp.Rd flat w F v l) (hl : l.length ≤ 1048576) :
    Calls Tryz.prog 85 #[v] w fun e w' => ∃ v', e = .returned v' ∧ Ow true 71 flat w' (fun k => w.heap.size ≤ k) v' l ∧ Below w.heap.size w w' := by
  obtain ⟨A, c, rfl, hlc, hcm, hrow⟩ := rd_flat h
  have hmk := mk_all Tryz.underlying65 infoFlat l.length (by omega) (by omega)
  go_enter Tryz.func85, Tryz.ntmps85
  go_wp2
  have hstart : Ow true 71 flat (w.alloc (.cells (madeCells #[.int .i64 0, .int .i64 0, .int .i64 0, .int .i64 0, .int .i64 0, .int .i64 0] (l.length * 6)) 71)) (fun k => w.heap.size ≤ k) (.slice (some ⟨w.heap.size, 0, none⟩) l.length l.length) (List.replicate l.length zFl) :=
    (ow_alloc (r := flat) w (by omega) rfl (by decide) (fun _ => flat_mk _ _ zFl)).mono (fun k hk => by omega)
  go_loopw [4] (fun i wr => ∃ k : Nat, k ≤ l.length ∧ i = .int .i64 k ∧ Ow true 71 flat wr (fun k => w.heap.size ≤ k) (.slice (some ⟨w.heap.size, 0, none⟩) l.length l.length) (l.take k ++ List.replicate (l.length - k) zFl) ∧ Below w.heap.size w wr) (fun i _ => l.length - (intOf i).toNat)
  case atStart =>
    exact ⟨0, Nat.zero_le _, rfl, by simpa using hstart, below_new _⟩
  case round =>
    obtain ⟨k, hk, rfl, HO, HB⟩ := hrel
    by_cases hlt : k < l.length
    · rcases hrow with rfl | ⟨b, o, rfl, hb, hcell⟩
      · simp at hlt
      have c1 := (hcell k hlt).below HB
      clear hcell hstart
      obtain ⟨q0, q1, q2, q3, q4, q5⟩ := c1
      go_wp2_with (go_at_call 133; refine (toFlat_calls l[k] _).mono ?_; rintro e w1 ⟨rfl, hb1⟩; unfold flV; have HO1 := HO.below hb1; obtain ⟨⟨r0, r1, r2, r3, r4, r5⟩, f2⟩ := HO1.flat_at (k := k) (by simp; omega))
      go_roundw
      case rel => exact ⟨k + 1, by omega, by go_num, by rw [← set_take_rep _ hlt]; exact (HO1.put (G := fun _ => False) rfl (by simp; omega) (flat_mk _ _ l[k]) (fun _ h => h.elim)).mono (fun k hk => hk.elim id (fun h => h.elim)), putRow_below (g := w.heap.size) (below_then HB hb1) (Nat.le_refl _) [.int .i64 l[k].op, .int .i64 l[k].dO, .int .i64 l[k].dst, .int .i64 l[k].a, .int .i64 l[k].b, .int .i64 l[k].n] (k * 6)⟩
      case measure => simp [intOf]; omega
    · obtain rfl : k = l.length := by omega
      clear hstart
      go_wp2
      go_ret
      exact ⟨_, rfl, by simpa using HO, HB⟩
end Go.Proofs.YtnfaibenekninaaGreat.L

set_option linter.unusedVariables false
namespace Go.Proofs.YtnfaibenekninaaGreat.L
open Go.RowKit
theorem rd_ints {w : World} {F : Nat → Prop} {v : Value} {l : List (List Int)} (h : Rp.Rd (Rp.sl Rp.int) w F v l) : ∃ A c, v = .slice A l.length c ∧ l.length ≤ c ∧ c ≤ 9223372036854775807 ∧
    (l = [] ∨ ∃ b o, A = some ⟨b, o, none⟩ ∧ b < w.heap.size ∧ ∀ (k : Nat) (hk : k < l.length), ∃ u, w.cell? ⟨b, o + k, none⟩ = some u ∧ Rp.Rd Rp.int w F u l[k]) := by
  obtain ⟨A, c, rfl, hl, hm, h⟩ := h
  refine ⟨A, c, rfl, hl, hm, ?_⟩
  rcases h with h | ⟨b, o, rfl, _, hb, h⟩
  · exact .inl h
  · refine .inr ⟨b, o, rfl, hb, fun k hk => ?_⟩
    obtain ⟨cs, ⟨u, rfl, hK⟩, hc⟩ := h k l[k] (List.getElem?_eq_getElem hk)
    have := hc 0 _ rfl
    rw [show k * (Rp.sl Rp.int).sz + 0 = k from by show k * 1 + 0 = k; omega] at this
    exact ⟨u, this, hK⟩
theorem infoInts : (Tryz.prog.info? 59).map (fun i => (i.zero, i.size, i.bytes)) = some (some (.slice none 0 0), 1, 24) := by kernel_rfl
theorem Ow.ints_at {ap bp : Bool} {e e2 g n c : Nat} {w : World} {F : Nat → Prop} {l : List (List Int)} (h : Ow ap e (Rp.ow bp e2 Rp.int) w F (.slice (some ⟨g, 0, none⟩) n c) l) {k : Nat} (hk : k < l.length) :
    ∃ u, w.cell? ⟨g, k, none⟩ = some u ∧ ∀ o, w.frozen? ⟨g, o, none⟩ = false := by
  obtain ⟨g', c', cs, he, _, _, ⟨u, rfl, _⟩, hc, hf⟩ := h.at_ (List.getElem?_eq_getElem hk)
  injection he with he _ _
  injection he with he
  injection he with he _
  subst he
  have := hc 0 _ rfl
  rw [show k * (Rp.ow bp e2 Rp.int).sz + 0 = k from by show k * 1 + 0 = k; omega] at this
  exact ⟨u, this, hf⟩
set_option maxHeartbeats 1000000 in
theorem toIntSS_calls {F : Nat → Prop} (v : Value) (l : List (List Int)) (w : World) (h : Rp.Rd (Rp.sl Rp.int) w F v l) (hl : l.length ≤ 1048576) (hx : ∀ x ∈ l, x.length ≤ 1048576) :
    Calls Tryz.prog 106 #[v] w fun e w' => ∃ v', e = .returned v' ∧ Ow true 59 (Rp.ow true 3 Rp.int) w' (fun k => w.heap.size ≤ k) v' l ∧ Below w.heap.size w w' := by
  obtain ⟨A, c, rfl, hlc, hcm, hrow⟩ := rd_ints h
  have hmk := mk_all Tryz.underlying64 infoInts l.length (by omega) (by omega)
  go_enter Tryz.func106, Tryz.ntmps106
  go_wp2
  have hstart : Ow true 59 (Rp.ow true 3 Rp.int) (w.alloc (.cells (madeCells #[.slice none 0 0] l.length) 59)) (fun k => w.heap.size ≤ k) (.slice (some ⟨w.heap.size, 0, none⟩) l.length l.length) (List.replicate l.length []) :=
    ow_alloc1 (r := Rp.ow true 3 Rp.int) w (z := .slice none 0 0) (by omega) rfl (fun _ => ⟨_, rfl, Ow.nil _ _ _ _ _⟩)
  go_loopw [4] (fun i wr => ∃ k : Nat, k ≤ l.length ∧ i = .int .i64 k ∧ Ow true 59 (Rp.ow true 3 Rp.int) wr (fun k => w.heap.size ≤ k) (.slice (some ⟨w.heap.size, 0, none⟩) l.length l.length) (l.take k ++ List.replicate (l.length - k) []) ∧ Below w.heap.size w wr) (fun i _ => l.length - (intOf i).toNat)
  case atStart =>
    exact ⟨0, Nat.zero_le _, rfl, by simpa using hstart, below_new _⟩
  case round =>
    obtain ⟨k, hk, rfl, HO, HB⟩ := hrel
    by_cases hlt : k < l.length
    · rcases hrow with rfl | ⟨b, o, rfl, hb, hcell⟩
      · simp at hlt
      obtain ⟨u, c1, hu⟩ := hcell k hlt
      replace c1 := cell_below HB c1
      replace hu := hu.below HB
      clear hcell hstart
      have ⟨A0, k0, hu0, _⟩ := hu
      subst hu0
      have hy := hx l[k] (List.getElem_mem hlt)
      go_wp2_with fail
      refine (toIntS_calls _ l[k] _ hu hy).mono ?_
      rintro e w1 ⟨v', rfl, HK, hb1⟩
      have HO1 := HO.bound.below hb1
      obtain ⟨p, r0, f2⟩ := HO1.ints_at (k := k) (by simp; omega)
      obtain ⟨A1, k1, rfl, _, _⟩ := HK.form
      go_wp2_with fail
      go_roundw
      case rel =>
        refine ⟨k + 1, by omega, by go_num, ?_, (below_then HB hb1).setCell (by simp) _⟩
        rw [← set_take_rep _ hlt]
        exact (HO1.put1 rfl (by simp; omega) ⟨_, rfl, HK⟩ (fun q hq hq2 => by omega)).mono (fun q hq => by have := HB.size; omega)
      case measure => simp [intOf]; omega
    · obtain rfl : k = l.length := by omega
      clear hstart
      go_wp2
      go_ret
      exact ⟨_, rfl, by simpa using HO, HB⟩
end Go.Proofs.YtnfaibenekninaaGreat.L

set_option linter.unusedVariables false
namespace Go.Proofs.YtnfaibenekninaaGreat.L
open Go.RowKit
structure Pt where
  params : List Int
  code : List Fl
  go : Int
  test : Int
  next : List Int
  args : List (List Int)
deriving DecidableEq
def Pt.t (x : Pt) : List Int × List Fl × Int × Int × List Int × List (List Int) := (x.params, x.code, x.go, x.test, x.next, x.args)
def ptV (x : Pt) (vparams vcode vnext vargs : Value) : Value := .agg #[vparams, vcode, .int .i64 x.go, .int .i64 x.test, vnext, vargs]
def part : Rp Pt := (((Rp.sl Rp.int).pair ((Rp.sl flat).pair (Rp.int.pair (Rp.int.pair ((Rp.sl Rp.int).pair (Rp.sl (Rp.sl Rp.int)))))))).iso Pt.t
theorem part_open {w : World} {F : Nat → Prop} {x : Pt} {cs : List Value} (h : part.K w F x cs) : ∃ vparams vcode vnext vargs, cs = [vparams, vcode, .int .i64 x.go, .int .i64 x.test, vnext, vargs] ∧ Rp.Rd Rp.int w F vparams x.params ∧ Rp.Rd flat w F vcode x.code ∧ Rp.Rd Rp.int w F vnext x.next ∧ Rp.Rd (Rp.sl Rp.int) w F vargs x.args := by
  obtain ⟨_, _, rfl, ⟨vparams, rfl, hparams⟩, _, _, rfl, ⟨vcode, rfl, hcode⟩, _, _, rfl, rfl, _, _, rfl, rfl, _, _, rfl, ⟨vnext, rfl, hnext⟩, ⟨vargs, rfl, hargs⟩⟩ := h
  exact ⟨vparams, vcode, vnext, vargs, rfl, hparams, hcode, hnext, hargs⟩
theorem part_mk {w : World} {F : Nat → Prop} {x : Pt} {vparams vcode vnext vargs : Value} (hparams : Rp.Rd Rp.int w F vparams x.params) (hcode : Rp.Rd flat w F vcode x.code) (hnext : Rp.Rd Rp.int w F vnext x.next) (hargs : Rp.Rd (Rp.sl Rp.int) w F vargs x.args) : part.K w F x [vparams, vcode, .int .i64 x.go, .int .i64 x.test, vnext, vargs] := ⟨[_], _, rfl, ⟨vparams, rfl, hparams⟩, ⟨[_], _, rfl, ⟨vcode, rfl, hcode⟩, ⟨[_], _, rfl, rfl, ⟨[_], _, rfl, rfl, ⟨[_], _, rfl, ⟨vnext, rfl, hnext⟩, ⟨vargs, rfl, hargs⟩⟩⟩⟩⟩⟩
def partA : Rp Pt := (((Rp.ow true 3 Rp.int).pairA ((Rp.ow true 71 flat).pairA (Rp.int.pair (Rp.int.pair ((Rp.ow true 3 Rp.int).pairA (Rp.ow true 59 (Rp.ow true 3 Rp.int)))))))).iso Pt.t
theorem partA_open {w : World} {F : Nat → Prop} {x : Pt} {cs : List Value} (h : partA.K w F x cs) : ∃ G0 G1 G2 G3 : Nat → Prop, (∀ k, G0 k → F k) ∧ (∀ k, G1 k → F k) ∧ (∀ k, G2 k → F k) ∧ (∀ k, G3 k → F k) ∧ (∀ k, G0 k → ¬ G1 k) ∧ (∀ k, G0 k → ¬ G2 k) ∧ (∀ k, G0 k → ¬ G3 k) ∧ (∀ k, G1 k → ¬ G2 k) ∧ (∀ k, G1 k → ¬ G3 k) ∧ (∀ k, G2 k → ¬ G3 k) ∧ ∃ vparams vcode vnext vargs, cs = [vparams, vcode, .int .i64 x.go, .int .i64 x.test, vnext, vargs] ∧ Ow true 3 Rp.int w G0 vparams x.params ∧ Ow true 71 flat w G1 vcode x.code ∧ Ow true 3 Rp.int w G2 vnext x.next ∧ Ow true 59 (Rp.ow true 3 Rp.int) w G3 vargs x.args := by
  obtain ⟨P0, R0, a0, b0, d0, _, _, rfl, ⟨vparams, rfl, hparams⟩, P1, R1, a1, b1, d1, _, _, rfl, ⟨vcode, rfl, hcode⟩, _, _, rfl, rfl, _, _, rfl, rfl, P2, R2, a2, b2, d2, _, _, rfl, ⟨vnext, rfl, hnext⟩, ⟨vargs, rfl, hargs⟩⟩ := h
  exact ⟨P0, P1, P2, R2, fun _ h => a0 _ h, fun _ h => b0 _ (a1 _ h), fun _ h => b0 _ (b1 _ (a2 _ h)), fun _ h => b0 _ (b1 _ (b2 _ h)), fun _ h h' => d0 _ h (a1 _ h'), fun _ h h' => d0 _ h (b1 _ (a2 _ h')), fun _ h h' => d0 _ h (b1 _ (b2 _ h')), fun _ h h' => d1 _ h (a2 _ h'), fun _ h h' => d1 _ h (b2 _ h'), fun _ h h' => d2 _ h h', vparams, vcode, vnext, vargs, rfl, hparams, hcode, hnext, hargs⟩
theorem partA_mk {w : World} {F G0 G1 G2 G3 : Nat → Prop} {x : Pt} {vparams vcode vnext vargs : Value} (iG0 : ∀ k, G0 k → F k) (iG1 : ∀ k, G1 k → F k) (iG2 : ∀ k, G2 k → F k) (iG3 : ∀ k, G3 k → F k) (sG0G1 : ∀ k, G0 k → ¬ G1 k) (sG0G2 : ∀ k, G0 k → ¬ G2 k) (sG0G3 : ∀ k, G0 k → ¬ G3 k) (sG1G2 : ∀ k, G1 k → ¬ G2 k) (sG1G3 : ∀ k, G1 k → ¬ G3 k) (sG2G3 : ∀ k, G2 k → ¬ G3 k) (hparams : Ow true 3 Rp.int w G0 vparams x.params) (hcode : Ow true 71 flat w G1 vcode x.code) (hnext : Ow true 3 Rp.int w G2 vnext x.next) (hargs : Ow true 59 (Rp.ow true 3 Rp.int) w G3 vargs x.args) : partA.K w F x [vparams, vcode, .int .i64 x.go, .int .i64 x.test, vnext, vargs] := by
  refine ⟨G0, (fun k => G1 k ∨ G2 k ∨ G3 k), iG0, (fun k h => by rcases h with h | h | h <;> first | exact iG1 k h | exact iG2 k h | exact iG3 k h), (fun k h h' => by rcases h' with h' | h' | h' <;> first | exact sG0G1 k h h' | exact sG0G2 k h h' | exact sG0G3 k h h'), [_], _, rfl, ⟨vparams, rfl, hparams⟩, ?_⟩
  replace iG1 : ∀ k, G1 k → (fun k => G1 k ∨ G2 k ∨ G3 k) k := fun k h => Or.inl h
  replace iG2 : ∀ k, G2 k → (fun k => G1 k ∨ G2 k ∨ G3 k) k := fun k h => Or.inr (Or.inl h)
  replace iG3 : ∀ k, G3 k → (fun k => G1 k ∨ G2 k ∨ G3 k) k := fun k h => Or.inr (Or.inr (h))
  refine ⟨G1, (fun k => G2 k ∨ G3 k), iG1, (fun k h => by rcases h with h | h <;> first | exact iG2 k h | exact iG3 k h), (fun k h h' => by rcases h' with h' | h' <;> first | exact sG1G2 k h h' | exact sG1G3 k h h'), [_], _, rfl, ⟨vcode, rfl, hcode⟩, ?_⟩
  replace iG2 : ∀ k, G2 k → (fun k => G2 k ∨ G3 k) k := fun k h => Or.inl h
  replace iG3 : ∀ k, G3 k → (fun k => G2 k ∨ G3 k) k := fun k h => Or.inr (h)
  refine ⟨[_], _, rfl, rfl, ?_⟩
  refine ⟨[_], _, rfl, rfl, ?_⟩
  refine ⟨G2, G3, iG2, iG3, sG2G3, [_], _, rfl, ⟨vnext, rfl, hnext⟩, ?_⟩
  exact ⟨vargs, rfl, hargs⟩
theorem partA_le : Rp.Le partA part := Rp.Le.iso (Rp.Le.pairA (Rp.Le.ow (Rp.Le.refl _)) (Rp.Le.pairA (Rp.Le.ow (Rp.Le.refl _)) (Rp.Le.pair (Rp.Le.refl _) (Rp.Le.pair (Rp.Le.refl _) (Rp.Le.pairA (Rp.Le.ow (Rp.Le.refl _)) (Rp.Le.ow (Rp.Le.ow (Rp.Le.refl _)))))))) _
def partAt (w : World) (b o : Nat) (x : Pt) (vparams vcode vnext vargs : Value) : Prop := w.cell? ⟨b, o, none⟩ = some (vparams) ∧ w.cell? ⟨b, o + 1, none⟩ = some (vcode) ∧ w.cell? ⟨b, o + 2, none⟩ = some (.int .i64 x.go) ∧ w.cell? ⟨b, o + 3, none⟩ = some (.int .i64 x.test) ∧ w.cell? ⟨b, o + 4, none⟩ = some (vnext) ∧ w.cell? ⟨b, o + 5, none⟩ = some (vargs)
theorem partAt_below {w w1 : World} {b o : Nat} {x : Pt} {vparams vcode vnext vargs : Value} (h : partAt w b o x vparams vcode vnext vargs) (hb : Below w.heap.size w w1) : partAt w1 b o x vparams vcode vnext vargs := ⟨cell_below hb h.1, cell_below hb h.2.1, cell_below hb h.2.2.1, cell_below hb h.2.2.2.1, cell_below hb h.2.2.2.2.1, cell_below hb h.2.2.2.2.2⟩
theorem partAt_of {w : World} {b o : Nat} {x : Pt} {vparams vcode vnext vargs : Value} (h : ∀ j u, ([vparams, vcode, .int .i64 x.go, .int .i64 x.test, vnext, vargs] : List Value)[j]? = some u → w.cell? ⟨b, o + j, none⟩ = some u) : partAt w b o x vparams vcode vnext vargs := ⟨h 0 _ rfl, h 1 _ rfl, h 2 _ rfl, h 3 _ rfl, h 4 _ rfl, h 5 _ rfl⟩
theorem rd_part {w : World} {F : Nat → Prop} {v : Value} {l : List Pt} (h : Rp.Rd part w F v l) : ∃ A c, v = .slice A l.length c ∧ l.length ≤ c ∧ c ≤ 9223372036854775807 ∧
    (l = [] ∨ ∃ b o, A = some ⟨b, o, none⟩ ∧ b < w.heap.size ∧ ∀ (k : Nat) (hk : k < l.length), ∃ vparams vcode vnext vargs, partAt w b (o + k * 6) l[k] vparams vcode vnext vargs ∧ Rp.Rd Rp.int w F vparams l[k].params ∧ Rp.Rd flat w F vcode l[k].code ∧ Rp.Rd Rp.int w F vnext l[k].next ∧ Rp.Rd (Rp.sl Rp.int) w F vargs l[k].args) := by
  obtain ⟨A, c, rfl, hl, hm, h⟩ := h
  refine ⟨A, c, rfl, hl, hm, ?_⟩
  rcases h with h | ⟨b, o, rfl, _, hb, h⟩
  · exact .inl h
  · refine .inr ⟨b, o, rfl, hb, fun k hk => ?_⟩
    obtain ⟨cs, hK, hc⟩ := h k l[k] (List.getElem?_eq_getElem hk)
    obtain ⟨vparams, vcode, vnext, vargs, rfl, hparams, hcode, hnext, hargs⟩ := part_open hK
    refine ⟨vparams, vcode, vnext, vargs, partAt_of fun j u hu => ?_, hparams, hcode, hnext, hargs⟩
    rw [Nat.add_assoc]
    exact hc j u hu
end Go.Proofs.YtnfaibenekninaaGreat.L

set_option linter.unusedVariables false
namespace Go.Proofs.YtnfaibenekninaaGreat.L
open Go.RowKit
structure Mk (w : World) (o1 o2 : Obj) (T : Nat) (wi : World) (cs : Array Value) : Prop where
  b1 : wi.heap[w.heap.size]? = some o1
  b2 : wi.heap[w.heap.size + 1]? = some o2
  b3 : wi.heap[w.heap.size + 2]? = some (.cells cs T (0, 0))
  below : Below w.heap.size w wi
namespace Mk
variable {w wi w' : World} {o1 o2 : Obj} {T : Nat} {cs : Array Value}
theorem start {c3 : Array Value} : Mk w o1 o2 T (((w.alloc o1).alloc o2).alloc (.cells c3 T)) c3 where
  b1 := blk_alloc (heap_alloc2_old w o1 o2) _
  b2 := blk_alloc (heap_alloc2_new w o1 o2) _
  b3 := by
    have := heap_alloc2_new (w.alloc o1) o2 (.cells c3 T)
    rwa [World.size_alloc] at this
  below := (((Below.refl _ _).alloc (Nat.le_refl _) _).alloc (by simp) _).alloc (by simp; omega) _
theorem set (h : Mk w o1 o2 T wi cs) (i : Nat) (u : Value) : Mk w o1 o2 T (wi.setCell ⟨w.heap.size + 2, i, none⟩ u) (cs.setIfInBounds i u) where
  b1 := blk_set h.b1 (by simp) u
  b2 := blk_set h.b2 (by simp) u
  b3 := blk_put h.b3 i u
  below := h.below.setCell (by simp) u
theorem call (h : Mk w o1 o2 T wi cs) (hb : Below wi.heap.size wi w') : Mk w o1 o2 T w' cs where
  b1 := blk_below h.b1 hb
  b2 := blk_below h.b2 hb
  b3 := blk_below h.b3 hb
  below := below_then h.below hb
theorem size (h : Mk w o1 o2 T wi cs) : w.heap.size + 2 < wi.heap.size := blk_lt h.b3
end Mk
theorem ow_set3 {α : Type} {ap : Bool} {e : Nat} {r : Rp α} {w wi : World} {F : Nat → Prop} {v : Value} {l : List α} (h : Ow ap e r wi F v l) (hF : ∀ k, F k → w.heap.size + 3 ≤ k) (i : Nat) (u : Value) : Ow ap e r (wi.setCell ⟨w.heap.size + 2, i, none⟩ u) F v l :=
  h.move (fun k hk _ => heap_setCell_other wi ⟨w.heap.size + 2, i, none⟩ k u (by have := hF k hk; simp; omega))
theorem ow_row3 {α : Type} {ap : Bool} {e : Nat} {r : Rp α} {w wi : World} {F : Nat → Prop} {v : Value} {l : List α} (h : Ow ap e r wi F v l) (hF : ∀ k, F k → w.heap.size + 3 ≤ k) (us : List Value) : Ow ap e r (putRow wi (w.heap.size + 1) 0 us) F v l :=
  h.move (fun k hk _ => (putRow_same _ _ wi 0).2 k (by have := hF k hk; omega))
end Go.Proofs.YtnfaibenekninaaGreat.L
