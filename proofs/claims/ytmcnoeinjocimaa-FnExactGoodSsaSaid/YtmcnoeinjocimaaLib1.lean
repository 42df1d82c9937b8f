/- How values of Go stand in memory, as plain Lean data: readings and rows of the call's own. -/
import Derived.Deep.Slices
import Derived.Maps.AppendAt
import Derived.Laws.OwnMore
import Derived.OwnWalk
import Derived.WalkKit
import Derived.Laws.Rows
import Derived.Laws.NewBlocks
import Derived.Laws.Alloc2
import Derived.Lib.Hide
set_option linter.unusedVariables false
namespace Go.Proofs.Ytmcnoeinjocimaa.L
open Go.RowKit
/-- A kind: its cells' number, and what the cells say of a value, reading no block but those of F. -/
structure Rp (α : Type) where
  sz : Nat
  K : World → (Nat → Prop) → α → List Value → Prop
  len : ∀ {w F x cs}, K w F x cs → cs.length = sz
  one : ∀ {w F x cs}, K w F x cs → ∀ u ∈ cs, u.oneCell' = true
  mono : ∀ {w F G x cs}, (∀ k, F k → G k) → K w F x cs → K w G x cs
  move : ∀ {w w' F x cs}, (∀ k, F k → k < w.heap.size → w'.heap[k]? = w.heap[k]?) → K w F x cs → K w' F x cs
  bound : ∀ {w F x cs}, K w F x cs → K w (fun k => F k ∧ k < w.heap.size) x cs

def Same (F : Nat → Prop) (w w' : World) : Prop := ∀ k, F k → k < w.heap.size → w'.heap[k]? = w.heap[k]?
theorem Same.of_below {w w' : World} (h : Below w.heap.size w w') (F : Nat → Prop) : Same F w w' := fun k _ hk => h.block k hk

namespace Rp
def lit {α : Type} (enc : α → Value) (h1 : ∀ x, (enc x).oneCell' = true) : Rp α where
  sz := 1
  K := fun _ _ x cs => cs = [enc x]
  len := fun h => by rw [h]; rfl
  one := fun h u hu => by
    rw [h] at hu
    rw [List.mem_singleton.1 hu]
    exact h1 _
  mono := fun _ h => h
  move := fun _ h => h
  bound := fun h => h
def int : Rp Int := lit (Value.int .i64) (fun _ => rfl)
def byte : Rp Int := lit (Value.int .u8) (fun _ => rfl)
def bool : Rp Bool := lit Value.bool (fun _ => rfl)
def str : Rp ByteArray := lit Value.string (fun _ => rfl)
/-- Two in line; what they lead to may be the same. -/
def pair {α β : Type} (a : Rp α) (b : Rp β) : Rp (α × β) where
  sz := a.sz + b.sz
  K := fun w F x cs => ∃ c d, cs = c ++ d ∧ a.K w F x.1 c ∧ b.K w F x.2 d
  len := by
    rintro w F x cs ⟨c, d, rfl, h, k⟩
    rw [List.length_append, a.len h, b.len k]
  one := by
    rintro w F x cs ⟨c, d, rfl, h, k⟩ u hu
    rcases List.mem_append.1 hu with hu | hu
    · exact a.one h u hu
    · exact b.one k u hu
  mono := by
    rintro w F G x cs hF ⟨c, d, rfl, h, k⟩
    exact ⟨c, d, rfl, a.mono hF h, b.mono hF k⟩
  move := by
    rintro w w' F x cs hF ⟨c, d, rfl, h, k⟩
    exact ⟨c, d, rfl, a.move hF h, b.move hF k⟩
  bound := by
    rintro w F x cs ⟨c, d, rfl, h, k⟩
    exact ⟨c, d, rfl, a.bound h, b.bound k⟩
/-- Two in line that lead to nothing that is the same. -/
def pairA {α β : Type} (a : Rp α) (b : Rp β) : Rp (α × β) where
  sz := a.sz + b.sz
  K := fun w F x cs => ∃ G1 G2 : Nat → Prop, (∀ k, G1 k → F k) ∧ (∀ k, G2 k → F k) ∧ (∀ k, G1 k → ¬ G2 k) ∧ ∃ c d, cs = c ++ d ∧ a.K w G1 x.1 c ∧ b.K w G2 x.2 d
  len := by
    rintro w F x cs ⟨_, _, _, _, _, c, d, rfl, h, k⟩
    rw [List.length_append, a.len h, b.len k]
  one := by
    rintro w F x cs ⟨_, _, _, _, _, c, d, rfl, h, k⟩ u hu
    rcases List.mem_append.1 hu with hu | hu
    · exact a.one h u hu
    · exact b.one k u hu
  mono := by
    rintro w F G x cs hF ⟨G1, G2, h1, h2, h3, c, d, rfl, h, k⟩
    exact ⟨G1, G2, fun q hq => hF q (h1 q hq), fun q hq => hF q (h2 q hq), h3, c, d, rfl, h, k⟩
  move := by
    rintro w w' F x cs hF ⟨G1, G2, h1, h2, h3, c, d, rfl, h, k⟩
    exact ⟨G1, G2, h1, h2, h3, c, d, rfl, a.move (fun q hq => hF q (h1 q hq)) h, b.move (fun q hq => hF q (h2 q hq)) k⟩
  bound := by
    rintro w F x cs ⟨G1, G2, h1, h2, h3, c, d, rfl, h, k⟩
    exact ⟨fun k => G1 k ∧ k < w.heap.size, fun k => G2 k ∧ k < w.heap.size, fun q hq => ⟨h1 q hq.1, hq.2⟩, fun q hq => ⟨h2 q hq.1, hq.2⟩, fun q hq hq' => h3 q hq.1 hq'.1, c, d, rfl, a.bound h, b.bound k⟩
/-- A Lean structure by its parts. -/
def iso {α β : Type} (d : Rp α) (f : β → α) : Rp β where
  sz := d.sz
  K := fun w F x cs => d.K w F (f x) cs
  len := d.len
  one := d.one
  mono := d.mono
  move := d.move
  bound := d.bound

/-- The cells of a row's elements, one after the other, from an address on. -/
def Row {α : Type} (r : Rp α) (w : World) (F : Nat → Prop) (b o : Nat) (l : List α) : Prop :=
  ∀ (i : Nat) (x : α), l[i]? = some x → ∃ cs, r.K w F x cs ∧ ∀ j u, cs[j]? = some u → w.cell? ⟨b, o + (i * r.sz + j), none⟩ = some u
/-- A slice that is read. -/
def Rd {α : Type} (r : Rp α) (w : World) (F : Nat → Prop) (v : Value) (l : List α) : Prop :=
  ∃ A c, v = .slice A l.length c ∧ l.length ≤ c ∧ c ≤ maxLen ∧ (l = [] ∨ ∃ b o, A = some ⟨b, o, none⟩ ∧ F b ∧ b < w.heap.size ∧ Row r w F b o l)
theorem cell_move {w w' : World} {b : Nat} (h : w'.heap[b]? = w.heap[b]?) (o : Nat) : w'.cell? ⟨b, o, none⟩ = w.cell? ⟨b, o, none⟩ := by simp [World.cell?, h]
section
variable {α : Type} {r : Rp α} {w w' : World} {F G : Nat → Prop} {v : Value} {l : List α}
theorem Row.mono {b o : Nat} (hF : ∀ k, F k → G k) (h : Row r w F b o l) : Row r w G b o l := fun i x hx =>
  let ⟨cs, h1, h2⟩ := h i x hx
  ⟨cs, r.mono hF h1, h2⟩
theorem Row.move {b o : Nat} (hF : Same F w w') (hb : w'.heap[b]? = w.heap[b]?) (h : Row r w F b o l) : Row r w' F b o l := fun i x hx =>
  let ⟨cs, h1, h2⟩ := h i x hx
  ⟨cs, r.move hF h1, fun j u hu => (cell_move hb _).trans (h2 j u hu)⟩
theorem Rd.mono (hF : ∀ k, F k → G k) (h : Rd r w F v l) : Rd r w G v l := by
  obtain ⟨A, c, rfl, hl, hc, h⟩ := h
  refine ⟨A, c, rfl, hl, hc, ?_⟩
  rcases h with h | ⟨b, o, rfl, hb, hlt, h⟩
  · exact .inl h
  · exact .inr ⟨b, o, rfl, hF b hb, hlt, h.mono hF⟩
theorem lt_of_same {b : Nat} (h : w'.heap[b]? = w.heap[b]?) (hlt : b < w.heap.size) : b < w'.heap.size := by
  rcases Nat.lt_or_ge b w'.heap.size with h' | h'
  · exact h'
  · rw [Array.getElem?_eq_none h', Array.getElem?_eq_getElem hlt] at h
    cases h
theorem Rd.move (hF : Same F w w') (h : Rd r w F v l) : Rd r w' F v l := by
  obtain ⟨A, c, rfl, hl, hc, h⟩ := h
  refine ⟨A, c, rfl, hl, hc, ?_⟩
  rcases h with h | ⟨b, o, rfl, hb, hlt, h⟩
  · exact .inl h
  · exact .inr ⟨b, o, rfl, hb, lt_of_same (hF b hb hlt) hlt, h.move hF (hF b hb hlt)⟩
theorem Rd.bound (h : Rd r w F v l) : Rd r w (fun k => F k ∧ k < w.heap.size) v l := by
  obtain ⟨A, c, rfl, hl, hc, h⟩ := h
  refine ⟨A, c, rfl, hl, hc, ?_⟩
  rcases h with h | ⟨b, o, rfl, hb, hlt, h⟩
  · exact .inl h
  · refine .inr ⟨b, o, rfl, ⟨hb, hlt⟩, hlt, fun i x hx => ?_⟩
    obtain ⟨cs, h1, h2⟩ := h i x hx
    exact ⟨cs, r.bound h1, h2⟩
theorem Rd.below (h : Rd r w F v l) (hb : Below w.heap.size w w') : Rd r w' F v l := h.move (Same.of_below hb F)
theorem Rd.nil (r : Rp α) (w : World) (F : Nat → Prop) : Rd r w F (.slice none 0 0) [] := ⟨none, 0, rfl, Nat.le_refl _, by unfold maxLen; omega, .inl rfl⟩
end
/-- A slice that is read, as a kind. -/
def sl {α : Type} (r : Rp α) : Rp (List α) where
  sz := 1
  K := fun w F x cs => ∃ v, cs = [v] ∧ Rd r w F v x
  len := by
    rintro w F x cs ⟨v, rfl, _⟩
    rfl
  one := by
    rintro w F x cs ⟨v, rfl, A, c, rfl, _⟩ u hu
    rw [List.mem_singleton.1 hu]
    rfl
  mono := by
    rintro w F G x cs hF ⟨v, rfl, h⟩
    exact ⟨v, rfl, h.mono hF⟩
  move := by
    rintro w w' F x cs hF ⟨v, rfl, h⟩
    exact ⟨v, rfl, h.move hF⟩
  bound := by
    rintro w F x cs ⟨v, rfl, h⟩
    exact ⟨v, rfl, h.bound⟩
end Rp
end Go.Proofs.Ytmcnoeinjocimaa.L
