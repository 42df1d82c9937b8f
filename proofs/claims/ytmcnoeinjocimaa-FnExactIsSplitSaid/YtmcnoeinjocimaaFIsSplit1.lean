/- Joined texts, each of which was built by itself: Lib1 Lib2 Lib3 Lib4 Lib6 W1 Lib7 Ty1 Cv1 Lib8 Lib10. -/
import Derived.Deep.Slices
import Derived.Maps.AppendAt
import Derived.Laws.OwnMore
import Derived.OwnWalk
import Derived.WalkKit
import Derived.Laws.Rows
import Derived.Laws.NewBlocks
import Derived.Laws.Alloc2
import Derived.Lib.Hide
import Derived.Deep.AppendLies
import Derived.Deep.QuietTactic
import Derived.BigQuiet
import Derived.IntWalk
import Derived.Outline
import Derived.Handy
import Derived.Test.YtmcnoeinjocimaaProg
set_option linter.unusedVariables false
namespace Go.Proofs.Ytmcnoeinjocimaa.L
open Go.RowKit
/-- A kind: its cells' number, and what the cells say of a value, reading no block but those of F. -/
structure Rp (α : Type) where
  sz : Nat
  K : World → (Nat → Prop) → α → List Value → Prop
  len : ∀ {w F x cs}, K w F x cs → cs.length = sz
  one : ∀ {w F x cs}, K w F x cs → ∀ u ∈ cs, u.oneCell' = true
  mono : ∀ {w F G x cs}, (∀ k, F k → G k) → K w F x cs → K w G x cs
  move : ∀ {w w' F x cs}, (∀ k, F k → k < w.heap.size → w'.heap[k]? = w.heap[k]?) → K w F x cs → K w' F x cs
  bound : ∀ {w F x cs}, K w F x cs → K w (fun k => F k ∧ k < w.heap.size) x cs

def Same (F : Nat → Prop) (w w' : World) : Prop := ∀ k, F k → k < w.heap.size → w'.heap[k]? = w.heap[k]?
theorem Same.of_below {w w' : World} (h : Below w.heap.size w w') (F : Nat → Prop) : Same F w w' := fun k _ hk => h.block k hk

namespace Rp
def lit {α : Type} (enc : α → Value) (h1 : ∀ x, (enc x).oneCell' = true) : Rp α where
  sz := 1
  K := fun _ _ x cs => cs = [enc x]
  len := fun h => by rw [h]; rfl
  one := fun h u hu => by
    rw [h] at hu
    rw [List.mem_singleton.1 hu]
    exact h1 _
  mono := fun _ h => h
  move := fun _ h => h
  bound := fun h => h
def int : Rp Int := lit (Value.int .i64) (fun _ => rfl)
def byte : Rp Int := lit (Value.int .u8) (fun _ => rfl)
def bool : Rp Bool := lit Value.bool (fun _ => rfl)
def str : Rp ByteArray := lit Value.string (fun _ => rfl)
/-- Two in line; what they lead to may be the same. -/
def pair {α β : Type} (a : Rp α) (b : Rp β) : Rp (α × β) where
  sz := a.sz + b.sz
  K := fun w F x cs => ∃ c d, cs = c ++ d ∧ a.K w F x.1 c ∧ b.K w F x.2 d
  len := by
    rintro w F x cs ⟨c, d, rfl, h, k⟩
    rw [List.length_append, a.len h, b.len k]
  one := by
    rintro w F x cs ⟨c, d, rfl, h, k⟩ u hu
    rcases List.mem_append.1 hu with hu | hu
    · exact a.one h u hu
    · exact b.one k u hu
  mono := by
    rintro w F G x cs hF ⟨c, d, rfl, h, k⟩
    exact ⟨c, d, rfl, a.mono hF h, b.mono hF k⟩
  move := by
    rintro w w' F x cs hF ⟨c, d, rfl, h, k⟩
    exact ⟨c, d, rfl, a.move hF h, b.move hF k⟩
  bound := by
    rintro w F x cs ⟨c, d, rfl, h, k⟩
    exact ⟨c, d, rfl, a.bound h, b.bound k⟩
/-- Two in line that lead to nothing that is the same. -/
def pairA {α β : Type} (a : Rp α) (b : Rp β) : Rp (α × β) where
  sz := a.sz + b.sz
  K := fun w F x cs => ∃ G1 G2 : Nat → Prop, (∀ k, G1 k → F k) ∧ (∀ k, G2 k → F k) ∧ (∀ k, G1 k → ¬ G2 k) ∧ ∃ c d, cs = c ++ d ∧ a.K w G1 x.1 c ∧ b.K w G2 x.2 d
  len := by
    rintro w F x cs ⟨_, _, _, _, _, c, d, rfl, h, k⟩
    rw [List.length_append, a.len h, b.len k]
  one := by
    rintro w F x cs ⟨_, _, _, _, _, c, d, rfl, h, k⟩ u hu
    rcases List.mem_append.1 hu with hu | hu
    · exact a.one h u hu
    · exact b.one k u hu
  mono := by
    rintro w F G x cs hF ⟨G1, G2, h1, h2, h3, c, d, rfl, h, k⟩
    exact ⟨G1, G2, fun q hq => hF q (h1 q hq), fun q hq => hF q (h2 q hq), h3, c, d, rfl, h, k⟩
  move := by
    rintro w w' F x cs hF ⟨G1, G2, h1, h2, h3, c, d, rfl, h, k⟩
    exact ⟨G1, G2, h1, h2, h3, c, d, rfl, a.move (fun q hq => hF q (h1 q hq)) h, b.move (fun q hq => hF q (h2 q hq)) k⟩
  bound := by
    rintro w F x cs ⟨G1, G2, h1, h2, h3, c, d, rfl, h, k⟩
    exact ⟨fun k => G1 k ∧ k < w.heap.size, fun k => G2 k ∧ k < w.heap.size, fun q hq => ⟨h1 q hq.1, hq.2⟩, fun q hq => ⟨h2 q hq.1, hq.2⟩, fun q hq hq' => h3 q hq.1 hq'.1, c, d, rfl, a.bound h, b.bound k⟩
/-- A Lean structure by its parts. -/
def iso {α β : Type} (d : Rp α) (f : β → α) : Rp β where
  sz := d.sz
  K := fun w F x cs => d.K w F (f x) cs
  len := d.len
  one := d.one
  mono := d.mono
  move := d.move
  bound := d.bound

/-- The cells of a row's elements, one after the other, from an address on. -/
def Row {α : Type} (r : Rp α) (w : World) (F : Nat → Prop) (b o : Nat) (l : List α) : Prop :=
  ∀ (i : Nat) (x : α), l[i]? = some x → ∃ cs, r.K w F x cs ∧ ∀ j u, cs[j]? = some u → w.cell? ⟨b, o + (i * r.sz + j), none⟩ = some u
/-- A slice that is read. -/
def Rd {α : Type} (r : Rp α) (w : World) (F : Nat → Prop) (v : Value) (l : List α) : Prop :=
  ∃ A c, v = .slice A l.length c ∧ l.length ≤ c ∧ c ≤ maxLen ∧ (l = [] ∨ ∃ b o, A = some ⟨b, o, none⟩ ∧ F b ∧ b < w.heap.size ∧ Row r w F b o l)
theorem cell_move {w w' : World} {b : Nat} (h : w'.heap[b]? = w.heap[b]?) (o : Nat) : w'.cell? ⟨b, o, none⟩ = w.cell? ⟨b, o, none⟩ := by simp [World.cell?, h]
section
variable {α : Type} {r : Rp α} {w w' : World} {F G : Nat → Prop} {v : Value} {l : List α}
theorem Row.mono {b o : Nat} (hF : ∀ k, F k → G k) (h : Row r w F b o l) : Row r w G b o l := fun i x hx =>
  let ⟨cs, h1, h2⟩ := h i x hx
  ⟨cs, r.mono hF h1, h2⟩
theorem Row.move {b o : Nat} (hF : Same F w w') (hb : w'.heap[b]? = w.heap[b]?) (h : Row r w F b o l) : Row r w' F b o l := fun i x hx =>
  let ⟨cs, h1, h2⟩ := h i x hx
  ⟨cs, r.move hF h1, fun j u hu => (cell_move hb _).trans (h2 j u hu)⟩
theorem Rd.mono (hF : ∀ k, F k → G k) (h : Rd r w F v l) : Rd r w G v l := by
  obtain ⟨A, c, rfl, hl, hc, h⟩ := h
  refine ⟨A, c, rfl, hl, hc, ?_⟩
  rcases h with h | ⟨b, o, rfl, hb, hlt, h⟩
  · exact .inl h
  · exact .inr ⟨b, o, rfl, hF b hb, hlt, h.mono hF⟩
theorem lt_of_same {b : Nat} (h : w'.heap[b]? = w.heap[b]?) (hlt : b < w.heap.size) : b < w'.heap.size := by
  rcases Nat.lt_or_ge b w'.heap.size with h' | h'
  · exact h'
  · rw [Array.getElem?_eq_none h', Array.getElem?_eq_getElem hlt] at h
    cases h
theorem Rd.move (hF : Same F w w') (h : Rd r w F v l) : Rd r w' F v l := by
  obtain ⟨A, c, rfl, hl, hc, h⟩ := h
  refine ⟨A, c, rfl, hl, hc, ?_⟩
  rcases h with h | ⟨b, o, rfl, hb, hlt, h⟩
  · exact .inl h
  · exact .inr ⟨b, o, rfl, hb, lt_of_same (hF b hb hlt) hlt, h.move hF (hF b hb hlt)⟩
theorem Rd.bound (h : Rd r w F v l) : Rd r w (fun k => F k ∧ k < w.heap.size) v l := by
  obtain ⟨A, c, rfl, hl, hc, h⟩ := h
  refine ⟨A, c, rfl, hl, hc, ?_⟩
  rcases h with h | ⟨b, o, rfl, hb, hlt, h⟩
  · exact .inl h
  · refine .inr ⟨b, o, rfl, ⟨hb, hlt⟩, hlt, fun i x hx => ?_⟩
    obtain ⟨cs, h1, h2⟩ := h i x hx
    exact ⟨cs, r.bound h1, h2⟩
theorem Rd.below (h : Rd r w F v l) (hb : Below w.heap.size w w') : Rd r w' F v l := h.move (Same.of_below hb F)
theorem Rd.nil (r : Rp α) (w : World) (F : Nat → Prop) : Rd r w F (.slice none 0 0) [] := ⟨none, 0, rfl, Nat.le_refl _, by unfold maxLen; omega, .inl rfl⟩
end
/-- A slice that is read, as a kind. -/
def sl {α : Type} (r : Rp α) : Rp (List α) where
  sz := 1
  K := fun w F x cs => ∃ v, cs = [v] ∧ Rd r w F v x
  len := by
    rintro w F x cs ⟨v, rfl, _⟩
    rfl
  one := by
    rintro w F x cs ⟨v, rfl, A, c, rfl, _⟩ u hu
    rw [List.mem_singleton.1 hu]
    rfl
  mono := by
    rintro w F G x cs hF ⟨v, rfl, h⟩
    exact ⟨v, rfl, h.mono hF⟩
  move := by
    rintro w w' F x cs hF ⟨v, rfl, h⟩
    exact ⟨v, rfl, h.move hF⟩
  bound := by
    rintro w F x cs ⟨v, rfl, h⟩
    exact ⟨v, rfl, h.bound⟩
end Rp
end Go.Proofs.Ytmcnoeinjocimaa.L

set_option linter.unusedVariables false
namespace Go.Proofs.Ytmcnoeinjocimaa.L
open Go.RowKit
/-- A slice (elements of type e) of one's own: nil, or at a block's head. What element i leads to lies in φ i; ap: no two elements lead to one block. -/
def Ow {α : Type} (ap : Bool) (e : Nat) (r : Rp α) (w : World) (F : Nat → Prop) (v : Value) (l : List α) : Prop :=
  ∃ (φ : Nat → Nat → Prop) (xs : List Value), w.ownsRow 0 e r.sz v l.length xs ∧ (∀ k, v.ownBlock = some k → F k) ∧ (∀ i k, φ i k → F k ∧ v.ownBlock ≠ some k) ∧
    (ap = true → ∀ i j k, φ i k → φ j k → i = j) ∧ ∀ i x, l[i]? = some x → r.K w (φ i) x ((xs.drop (i * r.sz)).take r.sz)
theorem owns_move {w w' : World} {e : TypeId} {size n : Nat} {v : Value} {xs : List Value} (h : w.ownsRow 0 e size v n xs) (hm : ∀ k, v.ownBlock = some k → w'.heap[k]? = w.heap[k]?) : w'.ownsRow 0 e size v n xs := by
  obtain ⟨h1, h2⟩ := h
  refine ⟨h1, ?_⟩
  rcases h2 with h2 | ⟨g, cap, cur, rfl, hg, hh, q⟩
  · exact .inl h2
  · exact .inr ⟨g, cap, cur, rfl, hg, (hm g (by simp [Value.ownBlock])).trans hh, q⟩
theorem owns_lt {w : World} {e : TypeId} {size n : Nat} {v : Value} {xs : List Value} (h : w.ownsRow 0 e size v n xs) {k : Nat} (hk : v.ownBlock = some k) : k < w.heap.size := (h.lt k hk).2
namespace Ow
section
variable {α : Type} {ap : Bool} {e : Nat} {r : Rp α} {w w' : World} {F G : Nat → Prop} {v : Value} {l : List α}
theorem mono (hF : ∀ k, F k → G k) (h : Ow ap e r w F v l) : Ow ap e r w G v l := by
  obtain ⟨φ, xs, h1, h2, h3, h4, h5⟩ := h
  exact ⟨φ, xs, h1, fun k hk => hF k (h2 k hk), fun i k hk => ⟨hF k (h3 i k hk).1, (h3 i k hk).2⟩, h4, h5⟩
theorem move (hF : Same F w w') (h : Ow ap e r w F v l) : Ow ap e r w' F v l := by
  obtain ⟨φ, xs, h1, h2, h3, h4, h5⟩ := h
  exact ⟨φ, xs, owns_move h1 (fun k hk => hF k (h2 k hk) (owns_lt h1 hk)), h2, h3, h4, fun i x hx => r.move (fun k hk hlt => hF k (h3 i k hk).1 hlt) (h5 i x hx)⟩
theorem below (hb : Below w.heap.size w w') (h : Ow ap e r w F v l) : Ow ap e r w' F v l := h.move (Same.of_below hb F)
theorem bound (h : Ow ap e r w F v l) : Ow ap e r w (fun k => F k ∧ k < w.heap.size) v l := by
  obtain ⟨φ, xs, h1, h2, h3, h4, h5⟩ := h
  exact ⟨fun i k => φ i k ∧ k < w.heap.size, xs, h1, fun k hk => ⟨h2 k hk, owns_lt h1 hk⟩, fun i k hk => ⟨⟨(h3 i k hk.1).1, hk.2⟩, (h3 i k hk.1).2⟩, fun ha i j k hi hj => h4 ha i j k hi.1 hj.1, fun i x hx => r.bound (h5 i x hx)⟩
theorem loose (h : Ow ap e r w F v l) : Ow false e r w F v l := by
  obtain ⟨φ, xs, h1, h2, h3, _, h5⟩ := h
  exact ⟨φ, xs, h1, h2, h3, (fun h => by cases h), h5⟩
theorem owns (h : Ow ap e r w F v l) : ∃ xs, w.ownsRow 0 e r.sz v l.length xs := by
  obtain ⟨φ, xs, h1, _⟩ := h
  exact ⟨xs, h1⟩
theorem form (h : Ow ap e r w F v l) : ∃ A c, v = .slice A l.length c ∧ l.length ≤ c ∧ c ≤ maxLen := by
  obtain ⟨φ, xs, ⟨_, h1⟩, _⟩ := h
  rcases h1 with ⟨rfl, hn⟩ | ⟨g, cap, cur, rfl, _, _, hc, hm, _⟩
  · exact ⟨none, 0, by rw [hn], by omega, by unfold maxLen; omega⟩
  · exact ⟨some ⟨g, 0, none⟩, cap, rfl, hc, hm⟩
theorem nil (ap : Bool) (e : Nat) (r : Rp α) (w : World) (F : Nat → Prop) : Ow ap e r w F (.slice none 0 0) [] :=
  ⟨fun _ _ => False, [], World.ownsRow_nil w 0 e r.sz, fun k hk => by simp [Value.ownBlock] at hk, fun _ _ h => h.elim, fun _ _ _ _ h => h.elim, fun i x hx => by simp at hx⟩
theorem lt_size (h : Ow ap e r w F v l) {k : Nat} (hk : v.ownBlock = some k) : F k ∧ k < w.heap.size := by
  obtain ⟨φ, xs, h1, h2, _⟩ := h
  exact ⟨h2 k hk, owns_lt h1 hk⟩
/-- Element i as it lies: the block, its cells, that none is frozen. -/
theorem at_ (h : Ow ap e r w F v l) {i : Nat} {x : α} (hx : l[i]? = some x) :
    ∃ g c cs, v = .slice (some ⟨g, 0, none⟩) l.length c ∧ F g ∧ g < w.heap.size ∧ r.K w (fun k => F k ∧ k ≠ g) x cs ∧ (∀ j u, cs[j]? = some u → w.cell? ⟨g, i * r.sz + j, none⟩ = some u) ∧ ∀ o, w.frozen? ⟨g, o, none⟩ = false := by
  obtain ⟨φ, xs, h1, h2, h3, h4, h5⟩ := h
  have hil : i < l.length := (List.getElem?_eq_some_iff.1 hx).1
  have hk := h5 i x hx
  rcases h1.2 with ⟨rfl, hn⟩ | ⟨g, cap, cur, rfl, _, hh, hc, hm, hs, hxs⟩
  · omega
  · refine ⟨g, cap, _, rfl, h2 g (by simp [Value.ownBlock]), owns_lt h1 (by simp [Value.ownBlock]), r.mono (fun k hk => ⟨(h3 i k hk).1, fun hkg => (h3 i k hk).2 (by simp [Value.ownBlock, hkg])⟩) hk, fun j u hu => ?_, fun o => h1.frozenAt o⟩
    rw [List.getElem?_take] at hu
    by_cases hj : j < r.sz
    · rw [if_pos hj, List.getElem?_drop] at hu
      have hlt : i * r.sz + j < l.length * r.sz := by
        calc i * r.sz + j < i * r.sz + r.sz := by omega
          _ = (i + 1) * r.sz := by rw [Nat.succ_mul]
          _ ≤ l.length * r.sz := Nat.mul_le_mul_right _ hil
      rw [h1.cellAt _ hlt]
      exact hu
    · rw [if_neg hj] at hu
      cases hu
theorem rd (h : Ow ap e r w F v l) : Rp.Rd r w F v l := by
  obtain ⟨A, c, he, hl, hm⟩ := h.form
  refine ⟨A, c, he, hl, hm, ?_⟩
  cases hq : l with
  | nil => exact .inl rfl
  | cons x t =>
    right
    have h0 : l[0]? = some x := by rw [hq]; rfl
    obtain ⟨g, c', cs, he', hF, hg, _⟩ := h.at_ h0
    rw [he] at he'
    injection he' with hA _ _
    refine ⟨g, 0, hA, hF, hg, fun i y hy => ?_⟩
    rw [← hq] at hy
    obtain ⟨g', c'', cs', he'', _, _, hK, hcell, _⟩ := h.at_ hy
    rw [he] at he''
    injection he'' with hA' _ _
    rw [hA] at hA'
    injection hA' with hA'
    injection hA' with hg' _
    subst hg'
    exact ⟨cs', r.mono (fun k hk => hk.1) hK, fun j u hu => by rw [Nat.zero_add]; exact hcell j u hu⟩
end
end Ow
/-- A row of one's own, as a kind. -/
def Rp.ow {α : Type} (ap : Bool) (e : Nat) (r : Rp α) : Rp (List α) where
  sz := 1
  K := fun w F x cs => ∃ v, cs = [v] ∧ Ow ap e r w F v x
  len := by
    rintro w F x cs ⟨v, rfl, _⟩
    rfl
  one := by
    rintro w F x cs ⟨v, rfl, h⟩ u hu
    obtain ⟨A, c, rfl, _⟩ := h.form
    rw [List.mem_singleton.1 hu]
    rfl
  mono := by
    rintro w F G x cs hF ⟨v, rfl, h⟩
    exact ⟨v, rfl, h.mono hF⟩
  move := by
    rintro w w' F x cs hF ⟨v, rfl, h⟩
    exact ⟨v, rfl, h.move hF⟩
  bound := by
    rintro w F x cs ⟨v, rfl, h⟩
    exact ⟨v, rfl, h.bound⟩
/-- What kind a tells, kind b tells, too. -/
def Rp.Le {α : Type} (a b : Rp α) : Prop := a.sz = b.sz ∧ ∀ {w F x cs}, a.K w F x cs → b.K w F x cs
namespace Rp.Le
variable {α β : Type} {a b : Rp α} {c d : Rp β}
theorem refl (a : Rp α) : Le a a := ⟨rfl, fun h => h⟩
theorem pair (h : Le a b) (k : Le c d) : Le (a.pair c) (b.pair d) := ⟨by show a.sz + c.sz = b.sz + d.sz; rw [h.1, k.1], by
  rintro w F x cs ⟨p, q, rfl, hp, hq⟩
  exact ⟨p, q, rfl, h.2 hp, k.2 hq⟩⟩
theorem pairA (h : Le a b) (k : Le c d) : Le (a.pairA c) (b.pair d) := ⟨by show a.sz + c.sz = b.sz + d.sz; rw [h.1, k.1], by
  rintro w F x cs ⟨G1, G2, h1, h2, _, p, q, rfl, hp, hq⟩
  exact ⟨p, q, rfl, b.mono h1 (h.2 hp), d.mono h2 (k.2 hq)⟩⟩
theorem iso (h : Le a b) (f : β → α) : Le (a.iso f) (b.iso f) := ⟨h.1, h.2⟩
theorem row (h : Le a b) {w : World} {F : Nat → Prop} {g o : Nat} {l : List α} (hr : Rp.Row a w F g o l) : Rp.Row b w F g o l := fun i x hx => by
  obtain ⟨cs, h1, h2⟩ := hr i x hx
  rw [h.1] at h2
  exact ⟨cs, h.2 h1, h2⟩
theorem rd (h : Le a b) {w : World} {F : Nat → Prop} {v : Value} {l : List α} (hr : Rp.Rd a w F v l) : Rp.Rd b w F v l := by
  obtain ⟨A, c, rfl, hl, hm, h0⟩ := hr
  refine ⟨A, c, rfl, hl, hm, ?_⟩
  rcases h0 with h0 | ⟨g, o, rfl, hF, hg, h0⟩
  · exact .inl h0
  · exact .inr ⟨g, o, rfl, hF, hg, row h h0⟩
theorem sl (h : Le a b) : Le (Rp.sl a) (Rp.sl b) := ⟨rfl, by
  rintro w F x cs ⟨v, rfl, hv⟩
  exact ⟨v, rfl, rd h hv⟩⟩
theorem ow {ap : Bool} {e : Nat} (h : Le a b) : Le (Rp.ow ap e a) (Rp.sl b) := ⟨rfl, by
  rintro w F x cs ⟨v, rfl, hv⟩
  exact ⟨v, rfl, rd h hv.rd⟩⟩
end Rp.Le
end Go.Proofs.Ytmcnoeinjocimaa.L

set_option linter.unusedVariables false
namespace Go.Proofs.Ytmcnoeinjocimaa.L
open Go.RowKit
/-- Cells stored one after the other, as a store of a whole value does. -/
def putRow (w : World) (g : Nat) : Nat → List Value → World
  | _, [] => w
  | o, u :: us => putRow (w.setCell ⟨g, o, none⟩ u) g (o + 1) us
def seg (xs : List Value) : Nat → List Value → List Value
  | _, [] => xs
  | o, u :: us => seg (xs.set o u) (o + 1) us
theorem seg_length (us : List Value) : ∀ (xs : List Value) (o : Nat), (seg xs o us).length = xs.length := by
  induction us with
  | nil => intro xs o; rfl
  | cons u us ih => intro xs o; rw [seg, ih, List.length_set]
theorem seg_get (us : List Value) : ∀ (xs : List Value) (o k : Nat), o + us.length ≤ xs.length → (seg xs o us)[k]? = if o ≤ k ∧ k < o + us.length then us[k - o]? else xs[k]? := by
  induction us with
  | nil =>
    intro xs o k _
    rw [seg, if_neg (by simp only [List.length_nil]; omega)]
  | cons u us ih =>
    intro xs o k h
    simp only [List.length_cons] at h ⊢
    rw [seg, ih _ _ _ (by rw [List.length_set]; omega), List.getElem?_set]
    by_cases h1 : o + 1 ≤ k ∧ k < o + 1 + us.length
    · rw [if_pos h1, if_pos (by omega)]
      obtain ⟨d, rfl⟩ : ∃ d, k = o + 1 + d := ⟨k - (o + 1), by omega⟩
      rw [show o + 1 + d - (o + 1) = d by omega, show o + 1 + d - o = d + 1 by omega, List.getElem?_cons_succ]
    · rw [if_neg h1]
      by_cases h2 : o = k
      · subst h2
        rw [if_pos rfl, if_pos (by omega), if_pos (by omega), Nat.sub_self, List.getElem?_cons_zero]
      · rw [if_neg h2, if_neg (by omega)]
theorem putRow_owns {e : TypeId} {size n c g : Nat} (us : List Value) : ∀ (w : World) (xs : List Value) (o : Nat), w.ownsRow 0 e size (.slice (some ⟨g, 0, none⟩) n c) n xs →
    (putRow w g o us).ownsRow 0 e size (.slice (some ⟨g, 0, none⟩) n c) n (seg xs o us) ∧ w.grownBy (putRow w g o us) (some g) := by
  induction us with
  | nil => intro w xs o h; exact ⟨h, World.grownBy.refl w _⟩
  | cons u us ih =>
    intro w xs o h
    have h1 := h.stored o u
    have h2 := ih _ _ (o + 1) h1.1
    refine ⟨h2.1, ⟨h2.2.os.trans h1.2.os, h2.2.tape.trans h1.2.tape, h2.2.output.trans h1.2.output, Nat.le_trans h1.2.size h2.2.size, fun k hk hne => ?_⟩⟩
    exact (h2.2.block k (Nat.lt_of_lt_of_le hk h1.2.size) hne).trans (h1.2.block k hk hne)
theorem seg_drop {xs us : List Value} {sz n : Nat} (hx : xs.length = n * sz) {i : Nat} (hi : i < n) (hu : us.length = sz) (j : Nat) (hj : j < n) :
    ((seg xs (i * sz) us).drop (j * sz)).take sz = if j = i then us else (xs.drop (j * sz)).take sz := by
  have hb : i * sz + us.length ≤ xs.length := by
    rw [hx, hu]
    calc i * sz + sz = (i + 1) * sz := by rw [Nat.succ_mul]
      _ ≤ n * sz := Nat.mul_le_mul_right _ hi
  have hjb : j * sz + sz ≤ n * sz := by
    calc j * sz + sz = (j + 1) * sz := by rw [Nat.succ_mul]
      _ ≤ n * sz := Nat.mul_le_mul_right _ hj
  apply List.ext_getElem?
  intro q
  rw [List.getElem?_take]
  by_cases hq : q < sz
  · rw [if_pos hq, List.getElem?_drop, seg_get _ _ _ _ hb]
    by_cases hji : j = i
    · subst hji
      rw [if_pos rfl, if_pos (by omega), show j * sz + q - j * sz = q by omega]
    · rw [if_neg hji, List.getElem?_take, if_pos hq, List.getElem?_drop, if_neg ?_]
      rintro ⟨h1, h2⟩
      rw [hu] at h2
      rcases Nat.lt_or_gt_of_ne hji with h | h
      · have : (j + 1) * sz ≤ i * sz := Nat.mul_le_mul_right _ h
        rw [Nat.succ_mul] at this
        omega
      · have : (i + 1) * sz ≤ j * sz := Nat.mul_le_mul_right _ h
        rw [Nat.succ_mul] at this
        omega
  · rw [if_neg hq]
    by_cases hji : j = i
    · subst hji
      rw [if_pos rfl, List.getElem?_eq_none (by omega)]
    · rw [if_neg hji, List.getElem?_take, if_neg hq]
theorem grown_same {w w' : World} {g : Nat} (h : w.grownBy w' (some g)) {F : Nat → Prop} (hF : ¬ F g) : Same F w w' := fun k hk hlt => h.block k hlt (fun e => by cases e; exact hF hk)
theorem putRow_same (us : List Value) (g : Nat) : ∀ (w : World) (o : Nat), (putRow w g o us).heap.size = w.heap.size ∧ ∀ k, k ≠ g → (putRow w g o us).heap[k]? = w.heap[k]? := by
  induction us with
  | nil => intro w o; exact ⟨rfl, fun _ _ => rfl⟩
  | cons u us ih =>
    intro w o
    obtain ⟨h1, h2⟩ := ih (w.setCell ⟨g, o, none⟩ u) (o + 1)
    exact ⟨by rw [putRow, h1]; simp, fun k hk => by rw [putRow, h2 k hk]; exact heap_setCell_other w ⟨g, o, none⟩ k u hk⟩
theorem putRow_below {B : Nat} {w0 w : World} (h : Below B w0 w) {g : Nat} (hg : B ≤ g) (us : List Value) : ∀ (o : Nat), Below B w0 (putRow w g o us) := by
  induction us generalizing w with
  | nil => intro o; exact h
  | cons u us ih => intro o; exact ih (h.setCell (by simpa using hg) u) (o + 1)
namespace Ow
section
variable {α : Type} {ap : Bool} {e : Nat} {r : Rp α} {w w' : World} {F G : Nat → Prop} {v : Value} {l : List α}
/-- Element i is stored anew; what it leads to is none of the row's. -/
theorem put (h : Ow ap e r w F v l) {g n c : Nat} (hv : v = .slice (some ⟨g, 0, none⟩) n c) {i : Nat} (hi : i < l.length) {y : α} {us : List Value} (hy : r.K w G y us) (hG : ∀ k, G k → ¬ F k) :
    Ow ap e r (putRow w g (i * r.sz) us) (fun k => F k ∨ G k) v (l.set i y) := by
  obtain ⟨φ, xs, h1, h2, h3, h4, h5⟩ := h
  subst hv
  obtain rfl : n = l.length := by
    rcases h1.2 with ⟨hh, _⟩ | ⟨g', cap', cur', hh, _⟩
    · cases hh
    · injection hh
  have hg : F g := h2 g (by simp [Value.ownBlock])
  have hp := putRow_owns us w xs (i * r.sz) h1
  have hus : us.length = r.sz := r.len hy
  refine ⟨fun j k => if j = i then G k else φ j k, seg xs (i * r.sz) us, by rw [List.length_set]; exact hp.1, fun k hk => .inl (h2 k hk), ?_, ?_, ?_⟩
  · intro j k hk
    split at hk
    · exact ⟨.inr hk, fun he => hG k hk (h2 k he)⟩
    · exact ⟨.inl (h3 j k hk).1, (h3 j k hk).2⟩
  · intro ha p q k hp hq
    split at hp <;> split at hq
    · omega
    · exact absurd (h3 q k hq).1 (hG k hp)
    · exact absurd (h3 p k hp).1 (hG k hq)
    · exact h4 ha p q k hp hq
  · intro j x hx
    rw [List.getElem?_set] at hx
    have hjl : j < l.length := by
      rcases Nat.lt_or_ge j l.length with hh | hh
      · exact hh
      · split at hx
        · omega
        · rw [List.getElem?_eq_none hh] at hx; cases hx
    rw [seg_drop h1.1 hi hus j hjl]
    by_cases hji : j = i
    · subst hji
      rw [if_pos rfl, if_pos hi] at hx
      cases hx
      simp only [if_true]
      refine r.move (fun k hk hlt => hp.2.block k hlt (fun he => by cases he; exact hG _ hk hg)) hy
    · rw [if_neg (fun h => hji h.symm)] at hx
      simp only [if_neg hji]
      refine r.move (fun k hk hlt => hp.2.block k hlt (fun he => by cases he; exact (h3 j _ hk).2 (by simp [Value.ownBlock]))) (h5 j x hx)
theorem of_grown (h : Ow ap e r w F v l) {row : Option Nat} (hg : w.grownBy w' row) (hr : ∀ k, row = some k → ¬ F k) : Ow ap e r w' F v l :=
  h.move (fun k hk hlt => hg.block k hlt (fun he => hr k he.symm hk))
/-- Elements put behind: what they lead to is none of the row's. ψ: where each leads. -/
theorem snoc (h : Ow ap e r w F v l) {v1 : Value} {w1 : World} {ys : List α} {news : List Value} {m : Nat} (hm : m = ys.length) (hown : ∀ xs, w.ownsRow 0 e r.sz v l.length xs → w1.ownsRow 0 e r.sz v1 (l.length + m) (xs ++ news))
    (hg : w.grownBy w1 v.ownBlock) (hat : v1.ownBlock = v.ownBlock ∨ ∃ b, v1.ownBlock = some b ∧ w.heap.size ≤ b) (ψ : Nat → Nat → Prop)
    (hy : ∀ i y, ys[i]? = some y → r.K w (ψ i) y ((news.drop (i * r.sz)).take r.sz)) (hψ : ∀ i k, ψ i k → ¬ F k ∧ G k) (hap : ap = true → ∀ i j k, ψ i k → ψ j k → i = j) (hGF : ∀ k, F k → G k) (hnew : ∀ k, w.heap.size ≤ k → G k) :
    Ow ap e r w1 G v1 (l ++ ys) := by
  subst hm
  obtain ⟨φ, xs, h1, h2, h3, h4, h5⟩ := h
  have hx := h1.1
  refine ⟨fun i k => k < w.heap.size ∧ if i < l.length then φ i k else ψ (i - l.length) k, xs ++ news, by rw [List.length_append]; exact hown xs h1, ?_, ?_, ?_, ?_⟩
  · intro k hk
    rcases hat with hat | ⟨b, hb, hbl⟩
    · rw [hat] at hk; exact hGF k (h2 k hk)
    · rw [hb] at hk; cases hk; exact hnew _ hbl
  · intro i k hk
    obtain ⟨hlt, hk⟩ := hk
    split at hk
    · refine ⟨hGF k (h3 i k hk).1, fun he => ?_⟩
      rcases hat with hat | ⟨b, hb, hbl⟩
      · rw [hat] at he; exact (h3 i k hk).2 he
      · rw [hb] at he; cases he; omega
    · refine ⟨(hψ _ k hk).2, fun he => ?_⟩
      rcases hat with hat | ⟨b, hb, hbl⟩
      · rw [hat] at he; exact (hψ _ k hk).1 (h2 k he)
      · rw [hb] at he; cases he; omega
  · intro ha p q k hp hq
    obtain ⟨_, hp⟩ := hp
    obtain ⟨_, hq⟩ := hq
    split at hp <;> split at hq
    · exact h4 ha p q k hp hq
    · exact absurd (h3 p k hp).1 (hψ _ k hq).1
    · exact absurd (h3 q k hq).1 (hψ _ k hp).1
    · have := hap ha _ _ k hp hq; omega
  · intro i x hx'
    by_cases hi : i < l.length
    · rw [List.getElem?_append_left hi] at hx'
      have hle : i * r.sz + r.sz ≤ xs.length := by
        rw [hx]
        calc i * r.sz + r.sz = (i + 1) * r.sz := by rw [Nat.succ_mul]
          _ ≤ l.length * r.sz := Nat.mul_le_mul_right _ hi
      rw [List.drop_append_of_le_length (by omega), List.take_append_of_le_length (by rw [List.length_drop]; omega)]
      have hk := r.bound (h5 i x hx')
      refine r.mono (fun k hk => ⟨hk.2, by rw [if_pos hi]; exact hk.1⟩) (r.move (fun k hk hlt => hg.block k hlt (fun he => (h3 i k hk.1).2 he.symm)) hk)
    · rw [List.getElem?_append_right (by omega)] at hx'
      have hd : (xs ++ news).drop (i * r.sz) = news.drop ((i - l.length) * r.sz) := by
        have : i * r.sz = xs.length + (i - l.length) * r.sz := by rw [hx, ← Nat.add_mul]; congr 1; omega
        rw [this, List.drop_append]
        simp
      rw [hd]
      have hk := r.bound (hy _ x hx')
      refine r.mono (fun k hk => ⟨hk.2, by rw [if_neg hi]; exact hk.1⟩) (r.move (fun k hk hlt => hg.block k hlt (fun he => (hψ _ k hk.1).1 (h2 k he.symm))) hk)
end
end Ow
end Go.Proofs.Ytmcnoeinjocimaa.L

set_option linter.unusedVariables false
namespace Go.Proofs.Ytmcnoeinjocimaa.L
open Go.RowKit
/-- A kind whose values lead nowhere. -/
def Rp.Flat {α : Type} (r : Rp α) : Prop := ∀ {w F x cs}, r.K w F x cs → ∀ w' G, r.K w' G x cs
theorem Rp.Flat.lit {α : Type} (enc : α → Value) (h1 : ∀ x, (enc x).oneCell' = true) : (Rp.lit enc h1).Flat := fun h _ _ => h
theorem Rp.Flat.pair {α β : Type} {a : Rp α} {b : Rp β} (ha : a.Flat) (hb : b.Flat) : (a.pair b).Flat := by
  rintro w F x cs ⟨c, d, rfl, h, k⟩ w' G
  exact ⟨c, d, rfl, ha h w' G, hb k w' G⟩
theorem Rp.Flat.iso {α β : Type} {a : Rp α} (ha : a.Flat) (f : β → α) : (a.iso f).Flat := fun h w' G => ha h w' G
theorem below_grown {B : Nat} {w0 w w1 : World} (h : Below B w0 w) {row : Option Nat} (hg : w.grownBy w1 row) (hr : ∀ k, row = some k → B ≤ k) (hB : B ≤ w.heap.size) : Below B w0 w1 :=
  ⟨hg.os.trans h.os, hg.tape.trans h.tape, hg.output.trans h.output, Nat.le_trans h.size hg.size, fun k hk => (hg.block k (by omega) (fun e => by have := hr k e.symm; omega)).trans (h.block k hk)⟩
section
variable {P : Program} {ops : Array Oper} {rest : List Oper} {o : Oper} {a : Act} {Q : Exit → Act → World → Prop} {α : Type} {ap : Bool} {e : Nat} {r : Rp α} {W : World} {F G : Nat → Prop}
/-- append(s, y): one element, laid by the statement itself into a block of its own. -/
theorem ow_append1 (hgd : o.guard = none) (s x : Operand) (t : TypeId) (z : Value) (bytes : Nat)
    (ho : o.op = .call { callee := .builtin .append, args := #[s, x], argTypes := #[t, t] })
    (ht : P.underlying t = some (.slice e)) (hinfo : (P.info? e).map (fun i => (i.zero, i.size, i.bytes)) = some (some z, r.sz, bytes)) (hz : z.cells.size = r.sz) (hsz : 0 < r.sz) (hb0 : 0 < bytes)
    (v : Value) (l : List α) (y : α) (us : List Value) (hs : a.eval s = v) (hx : a.eval x = .slice (some ⟨W.heap.size, 0, none⟩) 1 1)
    (HO : Ow ap e r W F v l) (hy : r.K W G y us) (hG : ∀ k, G k → ¬ F k) (hl : (l.length + 1) * bytes ≤ 140737488355328)
    (h : ∀ v1 w1, Ow ap e r w1 (fun k => F k ∨ G k ∨ W.heap.size ≤ k) v1 (l ++ [y]) → W.grownBy w1 v.ownBlock → wpList P ops Q rest (a.put o.dst v1) w1) :
    wpList P ops Q (o :: rest) a (W.alloc (.cells us.toArray e)) := by
  obtain ⟨i0, hi, hzz⟩ := Option.map_eq_some_iff.1 hinfo
  simp only [Prod.mk.injEq] at hzz
  obtain ⟨hz0, hz1, hz2⟩ := hzz
  have hlen : l.length + 1 ≤ 140737488355328 := Nat.le_trans (Nat.le_mul_of_pos_right _ hb0) hl
  obtain ⟨xs, hown⟩ := HO.owns
  have hus : us.length = r.sz := r.len hy
  refine wpList_append_own_at (W.alloc (.cells us.toArray e)) hgd s x t ho 0 e i0 z r.sz bytes ht hi hz0 hz1 hz2 hz hsz v l.length xs hs (hown.alloc _) ⟨W.heap.size, 0, none⟩ 1 1 us hx (by rw [hus, Nat.one_mul])
    (fun j u hu => World.news_of_block (cs := us.toArray) (t := e) (fr := (0, 0)) (heap_alloc_new W _) j u (by simpa using hu)) (r.one hy) (by simp only [maxLen]; omega) hl (Nat.zero_le _) ?_
  intro v1 w1 hown1 hg _ hat
  have hg' : W.grownBy w1 v.ownBlock := World.grownBy.trans (World.grownBy_alloc W _ _) hg
  refine h v1 w1 ?_ hg'
  obtain ⟨φ, xs', h1, h2, h3, h4, h5⟩ := HO
  have hxs : xs' = xs := by
    rcases h1.2 with ⟨rfl, hn⟩ | ⟨g, cap, cur, rfl, _, hh, _, _, _, htk⟩
    · have e1 := h1.1; have e2 := hown.1; rw [hn, Nat.zero_mul] at e1 e2; rw [List.eq_nil_of_length_eq_zero e1, List.eq_nil_of_length_eq_zero e2]
    · rcases hown.2 with ⟨hh', _⟩ | ⟨g', cap', cur', he, _, hh', _, _, _, htk'⟩
      · cases hh'
      · injection he with he _ _
        injection he with he
        injection he with he _
        subst he
        rw [hh] at hh'
        injection hh' with hh'
        injection hh' with hh' _
        subst hh'
        exact htk.symm.trans htk'
  subst hxs
  refine Ow.snoc (w := W) (m := 1) (ys := [y]) (news := us) ⟨φ, xs', h1, h2, h3, h4, h5⟩ rfl (fun zs hzs => ?_) hg' ?_ (fun i k => i = 0 ∧ G k) (fun i y' hy' => ?_) (fun i k hk => ⟨hG k hk.2, .inr (.inl hk.2)⟩) (fun _ i j k hi hj => by omega) (fun k hk => .inl hk) (fun k hk => .inr (.inr hk))
  · have : zs = xs' := by
      rcases h1.2 with ⟨rfl, hn⟩ | ⟨g, cap, cur, rfl, _, hh, _, _, _, htk⟩
      · have e1 := h1.1; have e2 := hzs.1; rw [hn, Nat.zero_mul] at e1 e2; rw [List.eq_nil_of_length_eq_zero e1, List.eq_nil_of_length_eq_zero e2]
      · rcases hzs.2 with ⟨hh', _⟩ | ⟨g', cap', cur', he, _, hh', _, _, _, htk'⟩
        · cases hh'
        · injection he with he _ _
          injection he with he
          injection he with he _
          subst he
          rw [hh] at hh'
          injection hh' with hh'
          injection hh' with hh' _
          subst hh'
          exact htk'.symm.trans htk
    rw [this]; exact hown1
  · rcases hat with hat | hat
    · exact .inl hat
    · exact .inr ⟨_, hat, by simp⟩
  · match i, hy' with
    | 0, hy' =>
      simp only [List.getElem?_cons_zero, Option.some.injEq] at hy'
      subst hy'
      rw [Nat.zero_mul, List.drop_zero, List.take_of_length_le (by omega)]
      exact r.mono (fun k hk => ⟨rfl, hk⟩) hy
    | i + 1, hy' => simp at hy'
end
/-- A row of n zero values, just made. -/
theorem madeCells_seg (z : Array Value) (n i : Nat) (hi : i < n) (hz : 0 < z.size) : (((madeCells z (n * z.size)).toList.drop (i * z.size)).take z.size) = z.toList := by
  apply List.ext_getElem?
  intro q
  rw [List.getElem?_take]
  by_cases hq : q < z.size
  · rw [if_pos hq, List.getElem?_drop, Array.getElem?_toList, Array.getElem?_toList]
    have hlt : i * z.size + q < n * z.size := by
      calc i * z.size + q < i * z.size + z.size := by omega
        _ = (i + 1) * z.size := by rw [Nat.succ_mul]
        _ ≤ n * z.size := Nat.mul_le_mul_right _ hi
    rw [Array.getElem?_eq_getElem (by rw [size_madeCells]; exact hlt), Array.getElem?_eq_getElem hq]
    simp only [madeCells, Array.getElem_map, Array.getElem_range, Option.some.injEq]
    rw [Nat.mul_comm i, Nat.mul_add_mod, Nat.mod_eq_of_lt hq]
    exact getElem!_pos z q hq
  · rw [if_neg hq, List.getElem?_eq_none (by simp; omega)]
theorem ow_made {α : Type} {e n : Nat} {r : Rp α} {w w1 : World} {z : Array Value} {x0 : α} (hsz : z.size = r.sz) (h0 : 0 < r.sz) (hx : ∀ w, r.K w (fun _ => False) x0 z.toList)
    (hown : w1.ownsRow 0 e r.sz (.slice (some ⟨w.heap.size, 0, none⟩) n n) n (madeCells z (n * r.sz)).toList) :
    Ow true e r w1 (fun k => k = w.heap.size) (.slice (some ⟨w.heap.size, 0, none⟩) n n) (List.replicate n x0) := by
  refine ⟨fun _ _ => False, _, by rw [List.length_replicate]; exact hown, fun k hk => by simpa [Value.ownBlock, eq_comm] using hk, fun _ _ h => h.elim, fun _ _ _ _ h => h.elim, fun i x hx' => ?_⟩
  rw [List.getElem?_replicate] at hx'
  split at hx'
  · cases hx'
    rw [← hsz, madeCells_seg z n i (by assumption) (by omega)]
    exact hx w1
  · cases hx'
end Go.Proofs.Ytmcnoeinjocimaa.L

set_option linter.unusedVariables false
namespace Go.Proofs.Ytmcnoeinjocimaa.L
open Go.RowKit
/-- A literal of numbers, just made. -/
theorem ow_ints {e : Nat} (W : World) (l : List Int) (cs : Array Value) (hcs : cs.toList = l.map (Value.int .i64)) (hl : l.length ≤ 9223372036854775807) :
    Ow true e Rp.int (W.alloc (.cells cs e)) (fun k => k = W.heap.size) (.slice (some ⟨W.heap.size, 0, none⟩) l.length l.length) l := by
  have hsz : cs.size = l.length * 1 := by rw [← Array.length_toList, hcs]; simp
  refine ⟨fun _ _ => False, cs.toList, World.ownsRow_lit W cs l.length (Nat.zero_le _) (by unfold maxLen; omega) hsz, fun k hk => by simpa [Value.ownBlock, eq_comm] using hk, fun _ _ h => h.elim, fun _ _ _ _ h => h.elim, fun i x hx => ?_⟩
  have hi := (List.getElem?_eq_some_iff.1 hx).1
  rw [List.getElem?_eq_getElem hi] at hx
  cases hx
  show (cs.toList.drop (i * 1)).take 1 = [Value.int .i64 l[i]]
  rw [hcs, Nat.mul_one, ← List.map_drop, List.drop_eq_getElem_cons hi]
  rfl
theorem ow_intsG {e g B : Nat} {W : World} (hg : g = W.heap.size) (hB : B ≤ g) (l : List Int) (cs : Array Value) (hcs : cs.toList = l.map (Value.int .i64)) (hl : l.length ≤ 9223372036854775807) :
    Ow true e Rp.int (W.alloc (.cells cs e)) (fun k => B ≤ k) (.slice (some ⟨g, 0, none⟩) l.length l.length) l := by
  subst hg
  exact (ow_ints W l cs hcs hl).mono (fun k hk => by have h : k = _ := hk; omega)
theorem grown_below {w w1 : World} {row : Option Nat} (hg : w.grownBy w1 row) (hr : ∀ k, row = some k → w.heap.size ≤ k) : Below w.heap.size w w1 := below_grown (Below.refl _ _) hg hr (Nat.le_refl _)
theorem int_flat : Rp.Flat Rp.int := Rp.Flat.lit _ _
theorem row_news {α : Type} {r : Rp α} {w : World} {G : Nat → Prop} {b o : Nat} (ys : List α) (h : Rp.Row r w G b o ys) :
    ∃ news : List Value, news.length = ys.length * r.sz ∧ (∀ j u, news[j]? = some u → w.cell? ⟨b, o + j, none⟩ = some u) ∧ (∀ i y, ys[i]? = some y → r.K w G y ((news.drop (i * r.sz)).take r.sz)) ∧ ∀ u ∈ news, u.oneCell' = true := by
  have key : ∀ n, n ≤ ys.length → ∃ news : List Value, news.length = n * r.sz ∧ (∀ j u, news[j]? = some u → w.cell? ⟨b, o + j, none⟩ = some u) ∧ (∀ i y, i < n → ys[i]? = some y → r.K w G y ((news.drop (i * r.sz)).take r.sz)) ∧ ∀ u ∈ news, u.oneCell' = true := by
    intro n
    induction n with
    | zero => intro _; exact ⟨[], by simp, fun j u hu => by simp at hu, fun i y hi _ => by omega, fun u hu => by simp at hu⟩
    | succ n ih =>
      intro hn
      obtain ⟨news, h1, h2, h3, h4⟩ := ih (by omega)
      obtain ⟨cs, hK, hc⟩ := h n ys[n] (List.getElem?_eq_getElem (by omega))
      have hcs := r.len hK
      refine ⟨news ++ cs, by rw [List.length_append, h1, hcs, Nat.succ_mul], fun j u hu => ?_, fun i y hi hy => ?_, fun u hu => ?_⟩
      · by_cases hj : j < news.length
        · rw [List.getElem?_append_left hj] at hu; exact h2 j u hu
        · rw [List.getElem?_append_right (by omega)] at hu
          have := hc _ u hu
          rw [h1] at this hj
          rwa [show n * r.sz + (j - n * r.sz) = j by omega] at this
      · by_cases hin : i < n
        · have hle : i * r.sz + r.sz ≤ news.length := by
            rw [h1]
            calc i * r.sz + r.sz = (i + 1) * r.sz := by rw [Nat.succ_mul]
              _ ≤ n * r.sz := Nat.mul_le_mul_right _ hin
          rw [List.drop_append_of_le_length (by omega), List.take_append_of_le_length (by rw [List.length_drop]; omega)]
          exact h3 i y hin hy
        · obtain rfl : i = n := by omega
          rw [List.getElem?_eq_getElem (by omega)] at hy
          cases hy
          rw [← h1, List.drop_left, List.take_of_length_le (by omega)]
          exact hK
      · rcases List.mem_append.1 hu with hu | hu
        · exact h4 u hu
        · exact r.one hK u hu
  obtain ⟨news, h1, h2, h3, h4⟩ := key ys.length (Nat.le_refl _)
  exact ⟨news, h1, h2, fun i y hy => h3 i y (List.getElem?_eq_some_iff.1 hy).1 hy, h4⟩
theorem owns_unique {w : World} {e : TypeId} {size n : Nat} {v : Value} {xs ys : List Value} (h : w.ownsRow 0 e size v n xs) (k : w.ownsRow 0 e size v n ys) : xs = ys := by
  rcases h.2 with ⟨rfl, hn⟩ | ⟨g, cap, cur, rfl, _, hh, _, _, _, htk⟩
  · have e1 := h.1; have e2 := k.1; rw [hn, Nat.zero_mul] at e1 e2; rw [List.eq_nil_of_length_eq_zero e1, List.eq_nil_of_length_eq_zero e2]
  · rcases k.2 with ⟨hh', _⟩ | ⟨g', cap', cur', he, _, hh', _, _, _, htk'⟩
    · cases hh'
    · injection he with he _ _
      injection he with he
      injection he with he _
      subst he
      rw [hh] at hh'
      injection hh' with hh'
      injection hh' with hh' _
      subst hh'
      exact htk.symm.trans htk'
theorem run_append_none (P : Program) {w : World} (t ty e : TypeId) (i : TypeInfo) (size : Nat) (ht : P.underlying t = some (.slice e)) (hi : P.info? e = some i)
    (v : Value) (n c : Nat) (xs : List Value) (hown : w.ownsRow 0 e size v n xs) :
    (Builtin.append_ #[t, t] ty #[v, .slice none 0 c]).run P w = .ok v w := by
  rcases hown.2 with ⟨rfl, rfl⟩ | ⟨g, cap, cur, rfl, _, _, hnc, _⟩
  · simp [Builtin.append_, run_underlying ht, sizeOf, typeInfo, hi, Builtin.lenOf, Builtin.firstCells]
  · simp [Builtin.append_, run_underlying ht, sizeOf, typeInfo, hi, Builtin.lenOf, Builtin.firstCells, hnc, storeCells]
section
variable {P : Program} {ops : Array Oper} {rest : List Oper} {o : Oper} {a : Act} {Q : Exit → Act → World → Prop} {α : Type} {e : Nat} {r : Rp α} {W : World} {F G : Nat → Prop}
/-- append(s, xs...), xs a slice that is read; what its elements lead to need not be new: the row is loose. -/
theorem ow_appendv (hgd : o.guard = none) (s x : Operand) (t : TypeId) (z : Value) (bytes : Nat)
    (ho : o.op = .call { callee := .builtin .append, args := #[s, x], argTypes := #[t, t] })
    (ht : P.underlying t = some (.slice e)) (hinfo : (P.info? e).map (fun i => (i.zero, i.size, i.bytes)) = some (some z, r.sz, bytes)) (hz : z.cells.size = r.sz) (hsz : 0 < r.sz) (hb0 : 0 < bytes)
    (v vx : Value) (l ys : List α) (hs : a.eval s = v) (hx : a.eval x = vx) (ap : Bool)
    (HO : Ow ap e r W F v l) (HX : Rp.Rd r W G vx ys) (hap : ap = true → Rp.Flat r) (hG : r.Flat ∨ ∀ k, G k → ¬ F k) (hl : (l.length + ys.length) * bytes ≤ 140737488355328)
    (h : ∀ v1 w1, Ow ap e r w1 (fun k => F k ∨ (¬ r.Flat ∧ G k) ∨ W.heap.size ≤ k) v1 (l ++ ys) → W.grownBy w1 v.ownBlock → wpList P ops Q rest (a.put o.dst v1) w1) :
    wpList P ops Q (o :: rest) a W := by
  obtain ⟨i0, hi, hzz⟩ := Option.map_eq_some_iff.1 hinfo
  simp only [Prod.mk.injEq] at hzz
  obtain ⟨hz0, hz1, hz2⟩ := hzz
  have hlen : l.length + ys.length ≤ 140737488355328 := Nat.le_trans (Nat.le_mul_of_pos_right _ hb0) hl
  obtain ⟨xs, hown⟩ := HO.owns
  obtain ⟨A, c, rfl, hlc, hcm, hrow⟩ := HX
  cases A with
  | none =>
    have hnil : ys = [] := by
      rcases hrow with h | ⟨b, o', hh, _⟩
      · exact h
      · cases hh
    subst hnil
    refine wpList_plain hgd fun K hK' => ?_
    have hrun := run_append_none P t o.type e i0 r.sz ht hi v l.length c xs hown
    have hfin := hK' (a.put o.dst v) W (h v W (by rw [List.append_nil]; exact HO.mono (fun k hk => .inl hk)) (World.grownBy.refl _ _))
    unfold Oper.wp
    simp only [execOp, ho, resolve, invoke, builtin, hs, hx, hrun, Result.andThen, List.length_nil, Sem.run_bind, Sem.run_pure, List.map_toArray, List.map_cons, List.map_nil]
    exact hfin
  | some ad =>
    have hrow' : ∃ news : List Value, news.length = ys.length * r.sz ∧ (∀ j u, news[j]? = some u → W.cell? (ad.add j) = some u) ∧ (∀ i y, ys[i]? = some y → r.K W G y ((news.drop (i * r.sz)).take r.sz)) ∧ ∀ u ∈ news, u.oneCell' = true := by
      rcases hrow with rfl | ⟨b, o', hh, _, _, hr⟩
      · exact ⟨[], by simp, fun j u hu => by simp at hu, fun i y hy => by simp at hy, fun u hu => by simp at hu⟩
      · cases hh
        obtain ⟨news, h1, h2, h3, h4⟩ := row_news ys hr
        exact ⟨news, h1, fun j u hu => by rw [Addr.add_lit]; exact h2 j u hu, h3, h4⟩
    obtain ⟨news, n1, n2, n3, n4⟩ := hrow'
    refine wpList_append_own_at W hgd s x t ho 0 e i0 z r.sz bytes ht hi hz0 hz1 hz2 hz hsz v l.length xs hs hown ad ys.length c news hx n1 n2 n4 (by simp only [maxLen]; omega) hl (Nat.zero_le _) ?_
    intro v1 w1 hown1 hg _ hat
    refine h v1 w1 ?_ hg
    have hat' : v1.ownBlock = v.ownBlock ∨ ∃ b, v1.ownBlock = some b ∧ W.heap.size ≤ b := by
      rcases hat with hat | hat
      · exact .inl hat
      · exact .inr ⟨_, hat, Nat.le_refl _⟩
    have hxs : ∀ zs, W.ownsRow 0 e r.sz v l.length zs → w1.ownsRow 0 e r.sz v1 (l.length + ys.length) (zs ++ news) := fun zs hzs => by rw [owns_unique hzs hown]; exact hown1
    by_cases hF : r.Flat
    · exact Ow.snoc (w := W) HO rfl hxs hg hat' (fun _ _ => False) (fun i y hy => hF (n3 i y hy) _ _) (fun _ _ hk => hk.elim) (fun _ _ _ _ hk => hk.elim) (fun k hk => .inl hk) (fun k hk => .inr (.inr hk))
    · have hG' : ∀ k, G k → ¬ F k := hG.resolve_left hF
      exact Ow.snoc (w := W) HO rfl hxs hg hat' (fun _ k => G k) (fun i y hy => n3 i y hy) (fun _ k hk => ⟨hG' k hk, .inr (.inl ⟨hF, hk⟩)⟩) (fun ha => (hF (hap ha)).elim) (fun k hk => .inl hk) (fun k hk => .inr (.inr hk))
end
/-- append(s, xs...) where the elements lead nowhere. -/
theorem ow_appendf {P : Program} {ops : Array Oper} {rest : List Oper} {o : Oper} {a : Act} {Q : Exit → Act → World → Prop} {α : Type} {e : Nat} {r : Rp α} {W : World} {F G : Nat → Prop} (hr : r.Flat) (hgd : o.guard = none) (s x : Operand) (t : TypeId) (z : Value) (bytes : Nat)
    (ho : o.op = .call { callee := .builtin .append, args := #[s, x], argTypes := #[t, t] })
    (ht : P.underlying t = some (.slice e)) (hinfo : (P.info? e).map (fun i => (i.zero, i.size, i.bytes)) = some (some z, r.sz, bytes)) (hz : z.cells.size = r.sz) (hsz : 0 < r.sz) (hb0 : 0 < bytes)
    (v vx : Value) (l ys : List α) (hs : a.eval s = v) (hx : a.eval x = vx) (ap : Bool)
    (HO : Ow ap e r W F v l) (HX : Rp.Rd r W G vx ys) (hl : (l.length + ys.length) * bytes ≤ 140737488355328)
    (h : ∀ v1 w1, Ow ap e r w1 (fun k => F k ∨ W.heap.size ≤ k) v1 (l ++ ys) → W.grownBy w1 v.ownBlock → wpList P ops Q rest (a.put o.dst v1) w1) :
    wpList P ops Q (o :: rest) a W :=
  ow_appendv hgd s x t z bytes ho ht hinfo hz hsz hb0 v vx l ys hs hx ap HO HX (fun _ => hr) (.inl hr) hl
    fun v1 w1 h1 h2 => h v1 w1 (h1.mono (fun k hk => hk.elim .inl (fun hk => hk.elim (fun h => (h.1 hr).elim) .inr))) h2
/-- The same, for a row that began in this call: from block B on. -/
theorem acc_appendf {P : Program} {ops : Array Oper} {rest : List Oper} {o : Oper} {a : Act} {Q : Exit → Act → World → Prop} {α : Type} {e B : Nat} {r : Rp α} {w0 W : World} {G : Nat → Prop} (hr : r.Flat) (hgd : o.guard = none) (s x : Operand) (t : TypeId) (z : Value) (bytes : Nat)
    (ho : o.op = .call { callee := .builtin .append, args := #[s, x], argTypes := #[t, t] })
    (ht : P.underlying t = some (.slice e)) (hinfo : (P.info? e).map (fun i => (i.zero, i.size, i.bytes)) = some (some z, r.sz, bytes)) (hz : z.cells.size = r.sz) (hsz : 0 < r.sz) (hb0 : 0 < bytes)
    (v vx : Value) (l ys : List α) (hs : a.eval s = v) (hx : a.eval x = vx) (ap : Bool)
    (HO : Ow ap e r W (fun k => B ≤ k) v l) (HX : Rp.Rd r W G vx ys) (HB : Below B w0 W) (hB : B ≤ W.heap.size) (hl : (l.length + ys.length) * bytes ≤ 140737488355328)
    (h : ∀ v1 w1, Ow ap e r w1 (fun k => B ≤ k) v1 (l ++ ys) → Below B w0 w1 → B ≤ w1.heap.size → wpList P ops Q rest (a.put o.dst v1) w1) :
    wpList P ops Q (o :: rest) a W :=
  ow_appendf hr hgd s x t z bytes ho ht hinfo hz hsz hb0 v vx l ys hs hx ap HO HX hl
    fun v1 w1 h1 h2 => h v1 w1 (h1.mono (fun k hk => hk.elim id (fun hk => Nat.le_trans hB hk))) (below_grown HB h2 (fun k hk => (HO.lt_size hk).1) hB) (Nat.le_trans hB h2.size)
theorem acc_append1 {P : Program} {ops : Array Oper} {rest : List Oper} {o : Oper} {a : Act} {Q : Exit → Act → World → Prop} {α : Type} {e B : Nat} {r : Rp α} {w0 W : World} (hr : r.Flat) (hgd : o.guard = none) (s x : Operand) (t : TypeId) (z : Value) (bytes : Nat)
    (ho : o.op = .call { callee := .builtin .append, args := #[s, x], argTypes := #[t, t] })
    (ht : P.underlying t = some (.slice e)) (hinfo : (P.info? e).map (fun i => (i.zero, i.size, i.bytes)) = some (some z, r.sz, bytes)) (hz : z.cells.size = r.sz) (hsz : 0 < r.sz) (hb0 : 0 < bytes)
    (v : Value) (l : List α) (y : α) (us : List Value) (hs : a.eval s = v) (hx : a.eval x = .slice (some ⟨W.heap.size, 0, none⟩) 1 1) (ap : Bool)
    (HO : Ow ap e r W (fun k => B ≤ k) v l) (hy : r.K W (fun _ => False) y us) (HB : Below B w0 W) (hB : B ≤ W.heap.size) (hl : (l.length + 1) * bytes ≤ 140737488355328)
    (h : ∀ v1 w1, Ow ap e r w1 (fun k => B ≤ k) v1 (l ++ [y]) → Below B w0 w1 → B ≤ w1.heap.size → wpList P ops Q rest (a.put o.dst v1) w1) :
    wpList P ops Q (o :: rest) a (W.alloc (.cells us.toArray e)) :=
  ow_append1 hgd s x t z bytes ho ht hinfo hz hsz hb0 v l y us hs hx HO hy (fun _ h => h.elim) hl
    fun v1 w1 h1 h2 => h v1 w1 (h1.mono (fun k hk => hk.elim id (fun hk => hk.elim (fun h => h.elim) (fun hk => Nat.le_trans hB hk)))) (below_grown HB h2 (fun k hk => (HO.lt_size hk).1) hB) (Nat.le_trans hB h2.size)
namespace Rp.Rd
variable {α : Type} {r : Rp α} {w : World} {F : Nat → Prop} {l : List α} {A : Option Addr} {n c : Nat}
theorem take (h : Rp.Rd r w F (.slice A n c) l) (k : Nat) (hk : k ≤ n) : Rp.Rd r w F (.slice A k c) (l.take k) := by
  obtain ⟨A', c', he, hl, hm, h⟩ := h
  injection he with h1 h2 h3
  subst h1 h2 h3
  refine ⟨_, _, by rw [List.length_take, Nat.min_eq_left hk], by rw [List.length_take]; omega, hm, ?_⟩
  rcases h with rfl | ⟨b, o, rfl, hb, hlt, h⟩
  · left; simp
  · exact .inr ⟨b, o, rfl, hb, hlt, fun i x hx => h i x (by rw [List.getElem?_take] at hx; split at hx; exact hx; cases hx)⟩
theorem drop (h : Rp.Rd r w F (.slice A n c) l) (hsz : r.sz = 1) (k : Nat) (hk : k ≤ n) : Rp.Rd r w F (.slice (if c = k then A else A.map (·.add k)) (n - k) (c - k)) (l.drop k) := by
  obtain ⟨A', c', he, hl, hm, h⟩ := h
  injection he with h1 h2 h3
  subst h1 h2 h3
  refine ⟨_, _, by rw [List.length_drop], by rw [List.length_drop]; omega, by omega, ?_⟩
  by_cases hck : c = k
  · left; rw [List.drop_eq_nil_of_le (by omega)]
  · rcases h with rfl | ⟨b, o, rfl, hb, hlt, h⟩
    · left; simp
    · refine .inr ⟨b, o + k, by rw [if_neg hck, Option.map_some, Addr.add_lit], hb, hlt, fun i x hx => ?_⟩
      rw [List.getElem?_drop] at hx
      obtain ⟨cs, hK, hc⟩ := h (k + i) x hx
      refine ⟨cs, hK, fun j u hu => ?_⟩
      have := hc j u hu
      rw [hsz, Nat.mul_one] at this ⊢
      rwa [show o + k + (i + j) = o + (k + i + j) by omega]
theorem drop_lt {b o : Nat} (h : Rp.Rd r w F (.slice (some ⟨b, o, none⟩) n c) l) (hsz : r.sz = 1) (k : Nat) (hk : k ≤ n) (hc : k < c) : Rp.Rd r w F (.slice (some ⟨b, o + k, none⟩) (n - k) (c - k)) (l.drop k) := by
  have := h.drop hsz k hk
  rwa [if_neg (by omega), Option.map_some, Addr.add_lit] at this
theorem drop_eq {b o : Nat} (h : Rp.Rd r w F (.slice (some ⟨b, o, none⟩) n c) l) (hsz : r.sz = 1) (k : Nat) (hk : k ≤ n) (hc : c = k) : Rp.Rd r w F (.slice (some ⟨b, o, none⟩) (n - k) (c - k)) (l.drop k) := by
  have := h.drop hsz k hk
  rwa [if_pos hc] at this
end Rp.Rd
end Go.Proofs.Ytmcnoeinjocimaa.L

set_option linter.unusedVariables false
namespace Go.Proofs.Ytmcnoeinjocimaa.L
open Go.RowKit
def inB (a b c : Int) : Bool := decide (b ≤ a) && decide (a ≤ c)
theorem ret_bool {a b : Bool} (h : a = b) : Ending.returned (.bool a) = .returned (.bool b) := by rw [h]
theorem ret_int {a b : Int} (h : a = b) : Ending.returned (.int .i64 a) = .returned (.int .i64 b) := by rw [h]
theorem boxed1 {w w1 : World} {o1 : Obj} (hb : Below (w.alloc o1).heap.size (w.alloc o1) w1) :
   w1.heap[w.heap.size]? = some o1 ∧ w.heap.size < w1.heap.size := by
  have hz : w.heap.size + 1 ≤ w1.heap.size := by simpa using hb.size
  refine ⟨?_, by omega⟩
  rw [hb.block _ (by rw [World.size_alloc]; omega)]; exact heap_alloc_new w o1
theorem boxed2 {w w1 : World} {o1 o2 : Obj} (hb : Below ((w.alloc o1).alloc o2).heap.size ((w.alloc o1).alloc o2) w1) :
   w1.heap[w.heap.size]? = some o1 ∧ w1.heap[w.heap.size + 1]? = some o2 ∧ w.heap.size < w1.heap.size ∧ w.heap.size + 1 < w1.heap.size := by
  have hz : w.heap.size + 1 + 1 ≤ w1.heap.size := by simpa using hb.size
  refine ⟨?_, ?_, by omega, by omega⟩
  · rw [hb.block _ (by rw [World.size_alloc, World.size_alloc]; omega)]; exact heap_alloc2_old w o1 o2
  · rw [hb.block _ (by rw [World.size_alloc, World.size_alloc]; omega)]; exact heap_alloc2_new w o1 o2
theorem cell_of_block {w : World} {b : Nat} {c : Array Value} {t : TypeId} (h : w.heap[b]? = some (.cells c t (0, 0))) : (∀ o, w.cell? ⟨b, o, none⟩ = c[o]?) ∧ ∀ o, w.frozen? ⟨b, o, none⟩ = false := by
  constructor
  · intro o; simp [World.cell?, h]
  · intro o; simp [World.frozen?, h]
theorem blk_below {w w1 : World} {g : Nat} {o : Obj} (h : w.heap[g]? = some o) (hb : Below w.heap.size w w1) : w1.heap[g]? = some o := (hb.block g ((Array.getElem?_eq_some_iff.1 h).1)).trans h
theorem blk_lt {w : World} {g : Nat} {o : Obj} (h : w.heap[g]? = some o) : g < w.heap.size := (Array.getElem?_eq_some_iff.1 h).1
theorem blk_alloc {w : World} {g : Nat} {o : Obj} (h : w.heap[g]? = some o) (o' : Obj) : (w.alloc o').heap[g]? = some o := (Below.heap_alloc w o' g (blk_lt h)).trans h
theorem blk_set {w : World} {g : Nat} {o : Obj} (h : w.heap[g]? = some o) {a : Addr} (ha : g ≠ a.block) (v : Value) : (w.setCell a v).heap[g]? = some o := (Below.heap_setCell w a v g ha).trans h
theorem blk_put {w : World} {g : Nat} {c : Array Value} {t : TypeId} (h : w.heap[g]? = some (.cells c t (0, 0))) (i : Nat) (u : Value) : (w.setCell ⟨g, i, none⟩ u).heap[g]? = some (.cells (c.setIfInBounds i u) t (0, 0)) := heap_setCell_same w g i c t u h
theorem below1 {w w1 : World} {o : Obj} (hb : Below (w.alloc o).heap.size (w.alloc o) w1) : Below w.heap.size w w1 :=
  (((Below.refl _ _).alloc (Nat.le_refl _) _)).trans (hb.mono (by simp))
theorem below2 {w w1 : World} {o1 o2 : Obj} (hb : Below ((w.alloc o1).alloc o2).heap.size ((w.alloc o1).alloc o2) w1) : Below w.heap.size w w1 :=
  (((Below.refl _ _).alloc (Nat.le_refl _) _).alloc (by simp) _).trans (hb.mono (by simp; omega))
theorem below_then {w w1 w2 : World} (h : Below w.heap.size w w1) (k : Below w1.heap.size w1 w2) : Below w.heap.size w w2 := h.trans (k.mono h.size)
theorem below_new {w : World} (o : Obj) : Below w.heap.size w (w.alloc o) := (Below.refl _ _).alloc (Nat.le_refl _) _
theorem below_drew {B : Nat} {w W : World} (h : Below B w W) : Below B w W.drew := ⟨h.os, h.tape, h.output, h.size, h.block⟩
theorem below_drewN {B : Nat} {w W : World} (h : Below B w W) (n : Nat) : Below B w (W.drewN n) := ⟨h.os, h.tape, h.output, h.size, h.block⟩
theorem cell_below {w w1 : World} (h : Below w.heap.size w w1) {a : Addr} {v : Value} (hc : w.cell? a = some v) : w1.cell? a = some v := (h.cell (World.block_lt_of_cell? w a hc)).trans hc
/-- make([]T, n). -/
theorem mk_all {P : Program} {t e : TypeId} {z : Value} {size bytes : Nat} (ht : P.underlying t = some (.slice e)) (hinfo : (P.info? e).map (fun i => (i.zero, i.size, i.bytes)) = some (some z, size, bytes)) (n : Nat) (hn : bytes * n ≤ 281474976710656) (hm : n ≤ 9223372036854775807) :
    ∀ W : World, (Instr.makeSlice t (.int .i64 (n : Int)) (.int .i64 (n : Int))).run P W = .ok (.slice (some ⟨W.heap.size, 0, none⟩) n n) (W.alloc (.cells (madeCells z.cells (n * size)) e)) := by
  intro W
  obtain ⟨i, hi, hzz⟩ := Option.map_eq_some_iff.1 hinfo
  simp only [Prod.mk.injEq] at hzz
  obtain ⟨hz, hs, hb⟩ := hzz
  have hb' : (i.bytes : Int) * (n : Int) ≤ 281474976710656 := by
    have h : ((i.bytes * n : Nat) : Int) ≤ 281474976710656 := by rw [hb]; omega
    rwa [Int.natCast_mul] at h
  have hr := run_make (P := P) W t e i z ht hi hz .i64 .i64 n n (by omega) (Int.le_refl _) hb' (by omega)
  simp only [Int.toNat_natCast, hs] at hr
  exact hr
theorem ow_alloc {α : Type} {e n : Nat} {r : Rp α} (W : World) {z : Array Value} {x0 : α} (hn : n ≤ 9223372036854775807) (hsz : z.size = r.sz) (h0 : 0 < r.sz) (hx : ∀ w, r.K w (fun _ => False) x0 z.toList) :
    Ow true e r (W.alloc (.cells (madeCells z (n * r.sz)) e)) (fun k => k = W.heap.size) (.slice (some ⟨W.heap.size, 0, none⟩) n n) (List.replicate n x0) :=
  ow_made hsz h0 hx (World.ownsRow_lit W _ n (Nat.zero_le _) (by unfold maxLen; omega) (size_madeCells _ _))
theorem ow_alloc1 {α : Type} {e n : Nat} {r : Rp α} (W : World) {z : Value} {x0 : α} (hn : n ≤ 9223372036854775807) (h1 : r.sz = 1) (hx : ∀ w, r.K w (fun _ => False) x0 [z]) :
    Ow true e r (W.alloc (.cells (madeCells #[z] n) e)) (fun k => W.heap.size ≤ k) (.slice (some ⟨W.heap.size, 0, none⟩) n n) (List.replicate n x0) := by
  have h := ow_alloc (e := e) (n := n) (r := r) W (z := #[z]) (x0 := x0) hn h1.symm (by omega) hx
  rw [h1, Nat.mul_one] at h
  exact h.mono (fun k hk => by omega)
/-- A number of a slice that is read. -/
theorem rd_int {w : World} {F : Nat → Prop} {v : Value} {l : List Int} (h : Rp.Rd Rp.int w F v l) : ∃ A c, v = .slice A l.length c ∧ l.length ≤ c ∧ c ≤ 9223372036854775807 ∧
    (l = [] ∨ ∃ b o, A = some ⟨b, o, none⟩ ∧ b < w.heap.size ∧ ∀ (k : Nat) (hk : k < l.length), w.cell? ⟨b, o + k, none⟩ = some (.int .i64 l[k])) := by
  obtain ⟨A, c, rfl, hl, hm, h⟩ := h
  refine ⟨A, c, rfl, hl, hm, ?_⟩
  rcases h with h | ⟨b, o, rfl, _, hb, h⟩
  · exact .inl h
  · refine .inr ⟨b, o, rfl, hb, fun k hk => ?_⟩
    obtain ⟨cs, hK, hc⟩ := h k l[k] (List.getElem?_eq_getElem hk)
    obtain rfl : cs = [.int .i64 l[k]] := hK
    have := hc 0 _ rfl
    rw [show k * Rp.int.sz + 0 = k from by show k * 1 + 0 = k; omega] at this
    exact this
namespace Ow
section
variable {α : Type} {ap : Bool} {e : Nat} {r : Rp α} {w : World} {F G : Nat → Prop} {l : List α} {g n c : Nat}
theorem put1 (h : Ow ap e r w F (.slice (some ⟨g, 0, none⟩) n c) l) (h1 : r.sz = 1) {i : Nat} (hi : i < l.length) {y : α} {u : Value} (hy : r.K w G y [u]) (hG : ∀ k, G k → ¬ F k) :
    Ow ap e r (w.setCell ⟨g, i, none⟩ u) (fun k => F k ∨ G k) (.slice (some ⟨g, 0, none⟩) n c) (l.set i y) := by
  have hp := h.put rfl hi hy hG
  rw [h1, Nat.mul_one] at hp
  exact hp
/-- A scalar stored. -/
theorem set1 (h : Ow ap e r w F (.slice (some ⟨g, 0, none⟩) n c) l) (h1 : r.sz = 1) {i : Nat} (hi : i < l.length) {y : α} {u : Value} (hy : r.K w (fun _ => False) y [u]) :
    Ow ap e r (w.setCell ⟨g, i, none⟩ u) F (.slice (some ⟨g, 0, none⟩) n c) (l.set i y) :=
  (h.put1 h1 hi hy (fun _ h => h.elim)).mono (fun k hk => hk.elim id (fun h => h.elim))
theorem len_eq (h : Ow ap e r w F (.slice (some ⟨g, 0, none⟩) n c) l) : n = l.length := by
  obtain ⟨A, c', he, _⟩ := h.form
  injection he
end
/-- The cell of a number, a bool, a text: kinds of one cell that is told by the value. -/
theorem lit_at {α : Type} {ap : Bool} {e g n c : Nat} {enc : α → Value} {h1 : ∀ x, (enc x).oneCell' = true} {w : World} {F : Nat → Prop} {l : List α} (h : Ow ap e (Rp.lit enc h1) w F (.slice (some ⟨g, 0, none⟩) n c) l) {k : Nat} {x : α} (hk : l[k]? = some x) :
    w.cell? ⟨g, k, none⟩ = some (enc x) ∧ w.frozen? ⟨g, k, none⟩ = false := by
  obtain ⟨g', c', cs, he, _, _, hK, hc, hf⟩ := h.at_ hk
  injection he with he _ _
  injection he with he
  injection he with he _
  subst he
  obtain rfl : cs = [enc x] := hK
  have := hc 0 _ rfl
  rw [show k * (Rp.lit enc h1).sz + 0 = k from by show k * 1 + 0 = k; omega] at this
  exact ⟨this, hf k⟩
theorem int_at {ap : Bool} {e g n c : Nat} {w : World} {F : Nat → Prop} {l : List Int} (h : Ow ap e Rp.int w F (.slice (some ⟨g, 0, none⟩) n c) l) {k : Nat} (hk : k < l.length) :
    w.cell? ⟨g, k, none⟩ = some (.int .i64 l[k]) ∧ w.frozen? ⟨g, k, none⟩ = false := h.lit_at (List.getElem?_eq_getElem hk)
end Ow
end Go.Proofs.Ytmcnoeinjocimaa.L

set_option linter.unusedVariables false
namespace Go.Proofs.Ytmcnoeinjocimaa.L
open Go.RowKit
section
variable {α : Type} {ap : Bool} {e : Nat} {r : Rp α} {w w1 : World} {F : Nat → Prop} {v : Value} {l : List α} {k : Nat}
theorem own_in (h : Ow ap e r w F v l) (hk : some k = v.ownBlock ∨ v.ownBlock = some k) : F k := (h.lt_size (hk.elim Eq.symm id)).1
theorem own_ne (h : Ow ap e r w F v l) (hk : ¬ F k) : some k ≠ v.ownBlock := fun he => hk (h.lt_size he.symm).1
theorem grown_blk {row : Option Nat} (h : w.grownBy w1 row) {o : Obj} (hk : w.heap[k]? = some o) (hne : some k ≠ row) : w1.heap[k]? = some o := (h.block k (blk_lt hk) hne).trans hk
theorem Ow.form1 {x : α} (h : Ow ap e r w F v (l ++ [x])) : ∃ A c, v = .slice A (l.length + 1) c ∧ l.length + 1 ≤ c ∧ c ≤ maxLen := by
  have := h.form
  rwa [List.length_append] at this
theorem Ow.set_other (h : Ow ap e r w F v l) {b o : Nat} {u : Value} (hb : ¬ F b) : Ow ap e r (w.setCell ⟨b, o, none⟩ u) F v l := h.move (fun q hq _ => heap_setCell_other w ⟨b, o, none⟩ q u (fun he => hb (by have he : q = b := he; rw [← he]; exact hq)))
theorem Rp.Rd.set_other (h : Rp.Rd r w F v l) {b o : Nat} {u : Value} (hb : ¬ F b) : Rp.Rd r (w.setCell ⟨b, o, none⟩ u) F v l := h.move (fun q hq _ => heap_setCell_other w ⟨b, o, none⟩ q u (fun he => hb (by have he : q = b := he; rw [← he]; exact hq)))
end
/-- An element of a row whose elements may share: it is stored anew. -/
theorem Ow.putS {α : Type} {e : Nat} {r : Rp α} {w : World} {F G : Nat → Prop} {v : Value} {l : List α} (h : Ow false e r w F v l) {g n c : Nat} (hv : v = .slice (some ⟨g, 0, none⟩) n c) {i : Nat} (hi : i < l.length) {y : α} {us : List Value} (hy : r.K w G y us) (hG : ∀ k, G k → k ≠ g) :
    Ow false e r (putRow w g (i * r.sz) us) (fun k => F k ∨ G k) v (l.set i y) := by
  obtain ⟨φ, xs, h1, h2, h3, h4, h5⟩ := h
  subst hv
  obtain rfl : n = l.length := by
    rcases h1.2 with ⟨hh, _⟩ | ⟨g', cap', cur', hh, _⟩
    · cases hh
    · injection hh
  have hg : F g := h2 g (by simp [Value.ownBlock])
  have hp := putRow_owns us w xs (i * r.sz) h1
  have hus : us.length = r.sz := r.len hy
  refine ⟨fun j k => if j = i then G k else φ j k, seg xs (i * r.sz) us, by rw [List.length_set]; exact hp.1, fun k hk => .inl (h2 k hk), ?_, (fun h => by cases h), ?_⟩
  · intro j k hk
    split at hk
    · exact ⟨.inr hk, fun he => hG k hk (by simpa [Value.ownBlock] using he.symm)⟩
    · exact ⟨.inl (h3 j k hk).1, (h3 j k hk).2⟩
  · intro j x hx
    rw [List.getElem?_set] at hx
    have hjl : j < l.length := by
      rcases Nat.lt_or_ge j l.length with hh | hh
      · exact hh
      · split at hx
        · omega
        · rw [List.getElem?_eq_none hh] at hx; cases hx
    rw [seg_drop h1.1 hi hus j hjl]
    by_cases hji : j = i
    · subst hji
      rw [if_pos rfl, if_pos hi] at hx
      cases hx
      simp only [if_true]
      refine r.move (fun k hk hlt => hp.2.block k hlt (fun he => by cases he; exact hG _ hk rfl)) hy
    · rw [if_neg (fun h => hji h.symm)] at hx
      simp only [if_neg hji]
      refine r.move (fun k hk hlt => hp.2.block k hlt (fun he => by cases he; exact (h3 j _ hk).2 (by simp [Value.ownBlock]))) (h5 j x hx)
/-- The same for elements of one cell. -/
theorem Ow.putS1 {α : Type} {e : Nat} {r : Rp α} {w : World} {F G : Nat → Prop} {l : List α} {g n c : Nat} (h : Ow false e r w F (.slice (some ⟨g, 0, none⟩) n c) l) (h1 : r.sz = 1) {i : Nat} (hi : i < l.length) {y : α} {u : Value} (hy : r.K w G y [u]) (hG : ∀ k, G k → k ≠ g) :
    Ow false e r (w.setCell ⟨g, i, none⟩ u) (fun k => F k ∨ G k) (.slice (some ⟨g, 0, none⟩) n c) (l.set i y) := by
  have hp := h.putS rfl hi hy hG
  rw [h1, Nat.mul_one] at hp
  exact hp
/-- An element of a row of slices. -/
theorem Ow.sl_at {α : Type} {ap : Bool} {e : Nat} {r : Rp α} {w : World} {F : Nat → Prop} {l : List (List α)} {g n c : Nat} (h : Ow ap e (Rp.sl r) w F (.slice (some ⟨g, 0, none⟩) n c) l) {k : Nat} (hk : k < l.length) :
    ∃ u, w.cell? ⟨g, k, none⟩ = some u ∧ w.frozen? ⟨g, k, none⟩ = false ∧ Rp.Rd r w (fun q => F q ∧ q ≠ g) u l[k] := by
  obtain ⟨g', c', cs, he, _, _, hK, hc, hf⟩ := h.at_ (List.getElem?_eq_getElem hk)
  injection he with he _ _
  injection he with he
  injection he with he _
  subst he
  obtain ⟨u, rfl, hu⟩ := hK
  have := hc 0 _ rfl
  rw [show k * (Rp.sl r).sz + 0 = k from by show k * 1 + 0 = k; omega] at this
  exact ⟨u, this, hf k, hu⟩
theorem ow_empty {α : Type} {ap : Bool} {e : Nat} {r : Rp α} {w : World} {b : Nat} (h : w.heap[b]? = some (.cells #[] e (0, 0))) : Ow ap e r w (fun k => k = b) (.slice (some ⟨b, 0, none⟩) 0 0) [] :=
  ⟨fun _ _ => False, [], ⟨by simp, .inr ⟨b, 0, #[], rfl, Nat.zero_le _, h, Nat.le_refl _, by unfold maxLen; omega, by simp, by simp⟩⟩, fun k hk => by simp [Value.ownBlock] at hk; omega, fun _ _ h => h.elim, fun _ _ _ _ h => h.elim, fun i x hx => by simp at hx⟩
end Go.Proofs.Ytmcnoeinjocimaa.L

set_option linter.unusedVariables false
namespace Go.Proofs.Ytmcnoeinjocimaa.L
open Go.RowKit
structure Fl where
  op : Int
  dO : Int
  dst : Int
  a : Int
  b : Int
  n : Int
deriving DecidableEq
def flV (x : Fl) : Value := .agg #[.int .i64 x.op, .int .i64 x.dO, .int .i64 x.dst, .int .i64 x.a, .int .i64 x.b, .int .i64 x.n]
def Fl.t (x : Fl) : Int × Int × Int × Int × Int × Int := (x.op, x.dO, x.dst, x.a, x.b, x.n)
def flat : Rp Fl := (Rp.int.pair (Rp.int.pair (Rp.int.pair (Rp.int.pair (Rp.int.pair Rp.int))))).iso Fl.t
theorem flat_flat : flat.Flat := Rp.Flat.iso (Rp.Flat.pair (Rp.Flat.lit _ _) (Rp.Flat.pair (Rp.Flat.lit _ _) (Rp.Flat.pair (Rp.Flat.lit _ _) (Rp.Flat.pair (Rp.Flat.lit _ _) (Rp.Flat.pair (Rp.Flat.lit _ _) (Rp.Flat.lit _ _)))))) _
theorem flat_open {w : World} {F : Nat → Prop} {x : Fl} {cs : List Value} (h : flat.K w F x cs) : cs = [.int .i64 x.op, .int .i64 x.dO, .int .i64 x.dst, .int .i64 x.a, .int .i64 x.b, .int .i64 x.n] := by
  obtain ⟨_, _, rfl, rfl, _, _, rfl, rfl, _, _, rfl, rfl, _, _, rfl, rfl, _, _, rfl, rfl, rfl⟩ := h
  rfl
theorem flat_mk (w : World) (F : Nat → Prop) (x : Fl) : flat.K w F x [.int .i64 x.op, .int .i64 x.dO, .int .i64 x.dst, .int .i64 x.a, .int .i64 x.b, .int .i64 x.n] :=
  ⟨[_], _, rfl, rfl, [_], _, rfl, rfl, [_], _, rfl, rfl, [_], _, rfl, rfl, [_], _, rfl, rfl, rfl⟩
/-- A flat step in six cells. -/
def FlAt (w : World) (b o : Nat) (x : Fl) : Prop :=
  w.cell? ⟨b, o, none⟩ = some (.int .i64 x.op) ∧ w.cell? ⟨b, o + 1, none⟩ = some (.int .i64 x.dO) ∧ w.cell? ⟨b, o + 2, none⟩ = some (.int .i64 x.dst) ∧ w.cell? ⟨b, o + 3, none⟩ = some (.int .i64 x.a) ∧ w.cell? ⟨b, o + 4, none⟩ = some (.int .i64 x.b) ∧ w.cell? ⟨b, o + 5, none⟩ = some (.int .i64 x.n)
theorem FlAt.below {w w1 : World} {b o : Nat} {x : Fl} (h : FlAt w b o x) (hb : Below w.heap.size w w1) : FlAt w1 b o x :=
  ⟨cell_below hb h.1, cell_below hb h.2.1, cell_below hb h.2.2.1, cell_below hb h.2.2.2.1, cell_below hb h.2.2.2.2.1, cell_below hb h.2.2.2.2.2⟩
theorem flAt_of {w : World} {b o : Nat} {x : Fl} (h : ∀ j u, ([.int .i64 x.op, .int .i64 x.dO, .int .i64 x.dst, .int .i64 x.a, .int .i64 x.b, .int .i64 x.n] : List Value)[j]? = some u → w.cell? ⟨b, o + j, none⟩ = some u) : FlAt w b o x :=
  ⟨h 0 _ rfl, h 1 _ rfl, h 2 _ rfl, h 3 _ rfl, h 4 _ rfl, h 5 _ rfl⟩
theorem rd_flat {w : World} {F : Nat → Prop} {v : Value} {l : List Fl} (h : Rp.Rd flat w F v l) : ∃ A c, v = .slice A l.length c ∧ l.length ≤ c ∧ c ≤ 9223372036854775807 ∧
    (l = [] ∨ ∃ b o, A = some ⟨b, o, none⟩ ∧ b < w.heap.size ∧ ∀ (k : Nat) (hk : k < l.length), FlAt w b (o + k * 6) l[k]) := by
  obtain ⟨A, c, rfl, hl, hm, h⟩ := h
  refine ⟨A, c, rfl, hl, hm, ?_⟩
  rcases h with h | ⟨b, o, rfl, _, hb, h⟩
  · exact .inl h
  · refine .inr ⟨b, o, rfl, hb, fun k hk => ?_⟩
    obtain ⟨cs, hK, hc⟩ := h k l[k] (List.getElem?_eq_getElem hk)
    obtain rfl := flat_open hK
    refine flAt_of fun j u hu => ?_
    rw [Nat.add_assoc]
    exact hc j u hu
theorem Ow.flat_at {ap : Bool} {e g n c : Nat} {w : World} {F : Nat → Prop} {l : List Fl} (h : Ow ap e flat w F (.slice (some ⟨g, 0, none⟩) n c) l) {k : Nat} (hk : k < l.length) :
    FlAt w g (k * 6) l[k] ∧ ∀ o, w.frozen? ⟨g, o, none⟩ = false := by
  obtain ⟨g', c', cs, he, _, _, hK, hc, hf⟩ := h.at_ (List.getElem?_eq_getElem hk)
  injection he with he _ _
  injection he with he
  injection he with he _
  subst he
  obtain rfl := flat_open hK
  exact ⟨flAt_of hc, hf⟩
end Go.Proofs.Ytmcnoeinjocimaa.L

set_option linter.unusedVariables false
namespace Go.Proofs.Ytmcnoeinjocimaa.L
open Go.RowKit
theorem infoInt : (Try.prog.info? 3).map (fun i => (i.zero, i.size, i.bytes)) = some (some (.int .i64 0), 1, 8) := by kernel_rfl
theorem set_take_replicate {l : List Int} {k : Nat} (hk : k < l.length) : (l.take k ++ List.replicate (l.length - k) 0).set k l[k] = l.take (k + 1) ++ List.replicate (l.length - (k + 1)) 0 := by
  apply List.ext_getElem?
  intro i
  rw [List.getElem?_set]
  by_cases h : k = i
  · subst h
    rw [if_pos rfl, if_pos (by simp; omega), List.getElem?_append_left (by simp; omega), List.getElem?_take, if_pos (by omega), List.getElem?_eq_getElem hk]
  · rw [if_neg h]
    by_cases h2 : i < k
    · rw [List.getElem?_append_left (by simp; omega), List.getElem?_append_left (by simp; omega), List.getElem?_take, List.getElem?_take, if_pos h2, if_pos (by omega)]
    · rw [List.getElem?_append_right (by simp; omega), List.getElem?_append_right (by simp; omega), List.getElem?_replicate, List.getElem?_replicate]
      simp only [List.length_take]
      congr 1
      simp; omega
set_option maxHeartbeats 1000000 in
theorem toIntS_calls {F : Nat → Prop} (v : Value) (l : List Int) (w : World) (h : Rp.Rd Rp.int w F v l) (hl : l.length ≤ 1048576) :
    Calls Try.prog 111 #[v] w fun e w' => ∃ v', e = .returned v' ∧ Ow true 3 Rp.int w' (fun k => w.heap.size ≤ k) v' l ∧ Below w.heap.size w w' := by
  obtain ⟨A, c, rfl, hlc, hcm, hrow⟩ := rd_int h
  have hmk := mk_all Try.underlying35 infoInt l.length (by omega) (by omega)
  go_enter Try.func111, Try.ntmps111
  go_wp2
  go_loopw [4] (fun i wr => ∃ k : Nat, k ≤ l.length ∧ i = .int .i64 k ∧ Ow true 3 Rp.int wr (fun k => w.heap.size ≤ k) (.slice (some ⟨w.heap.size, 0, none⟩) l.length l.length) (l.take k ++ List.replicate (l.length - k) 0) ∧ Below w.heap.size w wr) (fun i _ => l.length - (intOf i).toNat)
  case atStart =>
    exact ⟨0, Nat.zero_le _, rfl, by simpa using ow_alloc1 (e := 3) (r := Rp.int) w (z := .int .i64 0) (x0 := 0) (n := l.length) (by omega) rfl (fun _ => rfl), below_new _⟩
  case round =>
    obtain ⟨k, hk, rfl, HO, HB⟩ := hrel
    by_cases hlt : k < l.length
    · rcases hrow with rfl | ⟨b, o, rfl, hb, hcell⟩
      · simp at hlt
      have c1 := cell_below HB (hcell k hlt)
      obtain ⟨c2, f2⟩ := HO.int_at (k := k) (by simp; omega)
      clear hcell
      go_wp2
      go_roundw
      case rel => exact ⟨k + 1, by omega, by go_num, by rw [← set_take_replicate hlt]; exact HO.set1 rfl (by simp; omega) rfl, HB.setCell (by simp) _⟩
      case measure => simp [intOf]; omega
    · obtain rfl : k = l.length := by omega
      go_wp2
      go_ret
      exact ⟨_, rfl, by simpa using HO, HB⟩
end Go.Proofs.Ytmcnoeinjocimaa.L

set_option linter.unusedVariables false
namespace Go.Proofs.Ytmcnoeinjocimaa.L
open Go.RowKit
section
variable {ops : Array Oper} {rest : List Oper} {o : Oper} {a : Act} {Q : Exit → Act → World → Prop} {ap : Bool} {W : World} {F G : Nat → Prop}
/-- append(s, y) of a number. -/
theorem app_int (hgd : o.guard = none) (s x : Operand) (ho : o.op = .call { callee := .builtin .append, args := #[s, x], argTypes := #[35, 35] }) (v : Value) (l : List Int) (y : Int) (g : Nat) (hg0 : g = W.heap.size) (hs : a.eval s = v) (hx : a.eval x = .slice (some ⟨g, 0, none⟩) 1 1)
    (HO : Ow ap 3 Rp.int W F v l) (hl : l.length + 1 ≤ 1000000000)
    (h : ∀ A c w1, Ow ap 3 Rp.int w1 (fun k => F k ∨ W.heap.size ≤ k) (.slice A (l.length + 1) c) (l ++ [y]) → W.grownBy w1 v.ownBlock → wpList Try.prog ops Q rest (a.put o.dst (.slice A (l.length + 1) c)) w1) :
    wpList Try.prog ops Q (o :: rest) a (W.alloc (.cells #[.int .i64 y] 3)) := by
  subst hg0
  refine ow_append1 (r := Rp.int) (G := fun _ => False) (us := [.int .i64 y]) hgd s x 35 (.int .i64 0) 8 ho Try.underlying35 infoInt rfl (by decide) (by omega) v l y hs hx HO rfl (fun _ h => h.elim) (by omega) ?_
  intro v1 w1 HO1 hg1
  obtain ⟨A, c, rfl, _⟩ := HO1.form1
  exact h A c w1 (HO1.mono (fun q hq => by rcases hq with hq | hq | hq; exact .inl hq; exact hq.elim; exact .inr hq)) hg1
/-- append(s, xs...) of numbers. -/
theorem app_ints (hgd : o.guard = none) (s x : Operand) (ho : o.op = .call { callee := .builtin .append, args := #[s, x], argTypes := #[35, 35] }) (v vx : Value) (l ys : List Int) (hs : a.eval s = v) (hx : a.eval x = vx)
    (HO : Ow ap 3 Rp.int W F v l) (HX : Rp.Rd Rp.int W G vx ys) (hl : l.length + ys.length ≤ 1000000000)
    (h : ∀ A c w1, Ow ap 3 Rp.int w1 (fun k => F k ∨ W.heap.size ≤ k) (.slice A (l.length + ys.length) c) (l ++ ys) → W.grownBy w1 v.ownBlock → wpList Try.prog ops Q rest (a.put o.dst (.slice A (l.length + ys.length) c)) w1) :
    wpList Try.prog ops Q (o :: rest) a W := by
  refine ow_appendf (r := Rp.int) int_flat hgd s x 35 (.int .i64 0) 8 ho Try.underlying35 infoInt rfl (by decide) (by omega) v vx l ys hs hx ap HO HX (by omega) ?_
  intro v1 w1 HO1 hg1
  obtain ⟨A, c, hv, _⟩ := HO1.form
  rw [List.length_append] at hv
  subst hv
  exact h A c w1 HO1 hg1
end
end Go.Proofs.Ytmcnoeinjocimaa.L

set_option linter.unusedVariables false
namespace Go.Proofs.Ytmcnoeinjocimaa.L
open Go.RowKit
/-- Of the old blocks only those of A may have changed. -/
structure Chg (A : Nat → Prop) (w w' : World) : Prop where
  os : w'.os = w.os
  tape : w'.tape = w.tape
  output : w'.output = w.output
  size : w.heap.size ≤ w'.heap.size
  block : ∀ k, k < w.heap.size → ¬ A k → w'.heap[k]? = w.heap[k]?
namespace Chg
variable {A : Nat → Prop} {w w1 w2 : World}
theorem refl (A : Nat → Prop) (w : World) : Chg A w w := ⟨rfl, rfl, rfl, Nat.le_refl _, fun _ _ _ => rfl⟩
theorem trans (h : Chg A w w1) (k : Chg A w1 w2) : Chg A w w2 := ⟨k.os.trans h.os, k.tape.trans h.tape, k.output.trans h.output, Nat.le_trans h.size k.size, fun q hq hA => (k.block q (Nat.lt_of_lt_of_le hq h.size) hA).trans (h.block q hq hA)⟩
theorem of_below (h : Below w.heap.size w w1) : Chg A w w1 := ⟨h.os, h.tape, h.output, h.size, fun q hq _ => h.block q hq⟩
theorem drewN (n : Nat) : Chg A w (w.drewN n) := ⟨rfl, rfl, rfl, Nat.le_refl _, fun _ _ _ => rfl⟩
theorem set {b o : Nat} {u : Value} (hb : A b) : Chg A w (w.setCell ⟨b, o, none⟩ u) := ⟨rfl, rfl, rfl, by simp, fun q _ hA => heap_setCell_other w ⟨b, o, none⟩ q u (fun he => hA (by have he : q = b := he; rw [he]; exact hb))⟩
theorem to_below {B : Nat} {w0 : World} (h : Chg A w w1) (h0 : Below B w0 w) (hB : B ≤ w.heap.size) (hA : ∀ q, A q → B ≤ q) : Below B w0 w1 :=
  ⟨h.os.trans h0.os, h.tape.trans h0.tape, h.output.trans h0.output, Nat.le_trans h0.size h.size, fun q hq => (h.block q (by omega) (fun h => by have := hA q h; omega)).trans (h0.block q hq)⟩
theorem same {F : Nat → Prop} (h : Chg A w w1) (hF : ∀ q, F q → ¬ A q) : Same F w w1 := fun q hq hlt => h.block q hlt (hF q hq)
theorem blk {k : Nat} {o : Obj} (h : Chg A w w1) (hk : w.heap[k]? = some o) (hA : ¬ A k) : w1.heap[k]? = some o := (h.block k (blk_lt hk) hA).trans hk
theorem mono {A' : Nat → Prop} (h : Chg A w w1) (hA : ∀ q, A q → A' q) : Chg A' w w1 := ⟨h.os, h.tape, h.output, h.size, fun q hq hn => h.block q hq (fun h => hn (hA q h))⟩
end Chg
end Go.Proofs.Ytmcnoeinjocimaa.L
