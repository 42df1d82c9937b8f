/- Rows of the call's own: slices that begin at a block's head, what is stored into them, put behind them, and made. -/
import Derived.Test.YtmcnoeinjocimaaLib1
set_option linter.unusedVariables false
namespace Go.Proofs.Ytmcnoeinjocimaa.L
open Go.RowKit
/-- A slice (elements of type e) of one's own: nil, or at a block's head. What element i leads to lies in φ i; ap: no two elements lead to one block. -/
def Ow {α : Type} (ap : Bool) (e : Nat) (r : Rp α) (w : World) (F : Nat → Prop) (v : Value) (l : List α) : Prop :=
  ∃ (φ : Nat → Nat → Prop) (xs : List Value), w.ownsRow 0 e r.sz v l.length xs ∧ (∀ k, v.ownBlock = some k → F k) ∧ (∀ i k, φ i k → F k ∧ v.ownBlock ≠ some k) ∧
    (ap = true → ∀ i j k, φ i k → φ j k → i = j) ∧ ∀ i x, l[i]? = some x → r.K w (φ i) x ((xs.drop (i * r.sz)).take r.sz)
theorem owns_move {w w' : World} {e : TypeId} {size n : Nat} {v : Value} {xs : List Value} (h : w.ownsRow 0 e size v n xs) (hm : ∀ k, v.ownBlock = some k → w'.heap[k]? = w.heap[k]?) : w'.ownsRow 0 e size v n xs := by
  obtain ⟨h1, h2⟩ := h
  refine ⟨h1, ?_⟩
  rcases h2 with h2 | ⟨g, cap, cur, rfl, hg, hh, q⟩
  · exact .inl h2
  · exact .inr ⟨g, cap, cur, rfl, hg, (hm g (by simp [Value.ownBlock])).trans hh, q⟩
theorem owns_lt {w : World} {e : TypeId} {size n : Nat} {v : Value} {xs : List Value} (h : w.ownsRow 0 e size v n xs) {k : Nat} (hk : v.ownBlock = some k) : k < w.heap.size := (h.lt k hk).2
namespace Ow
section
variable {α : Type} {ap : Bool} {e : Nat} {r : Rp α} {w w' : World} {F G : Nat → Prop} {v : Value} {l : List α}
theorem mono (hF : ∀ k, F k → G k) (h : Ow ap e r w F v l) : Ow ap e r w G v l := by
  obtain ⟨φ, xs, h1, h2, h3, h4, h5⟩ := h
  exact ⟨φ, xs, h1, fun k hk => hF k (h2 k hk), fun i k hk => ⟨hF k (h3 i k hk).1, (h3 i k hk).2⟩, h4, h5⟩
theorem move (hF : Same F w w') (h : Ow ap e r w F v l) : Ow ap e r w' F v l := by
  obtain ⟨φ, xs, h1, h2, h3, h4, h5⟩ := h
  exact ⟨φ, xs, owns_move h1 (fun k hk => hF k (h2 k hk) (owns_lt h1 hk)), h2, h3, h4, fun i x hx => r.move (fun k hk hlt => hF k (h3 i k hk).1 hlt) (h5 i x hx)⟩
theorem below (hb : Below w.heap.size w w') (h : Ow ap e r w F v l) : Ow ap e r w' F v l := h.move (Same.of_below hb F)
theorem bound (h : Ow ap e r w F v l) : Ow ap e r w (fun k => F k ∧ k < w.heap.size) v l := by
  obtain ⟨φ, xs, h1, h2, h3, h4, h5⟩ := h
  exact ⟨fun i k => φ i k ∧ k < w.heap.size, xs, h1, fun k hk => ⟨h2 k hk, owns_lt h1 hk⟩, fun i k hk => ⟨⟨(h3 i k hk.1).1, hk.2⟩, (h3 i k hk.1).2⟩, fun ha i j k hi hj => h4 ha i j k hi.1 hj.1, fun i x hx => r.bound (h5 i x hx)⟩
theorem loose (h : Ow ap e r w F v l) : Ow false e r w F v l := by
  obtain ⟨φ, xs, h1, h2, h3, _, h5⟩ := h
  exact ⟨φ, xs, h1, h2, h3, (fun h => by cases h), h5⟩
theorem owns (h : Ow ap e r w F v l) : ∃ xs, w.ownsRow 0 e r.sz v l.length xs := by
  obtain ⟨φ, xs, h1, _⟩ := h
  exact ⟨xs, h1⟩
theorem form (h : Ow ap e r w F v l) : ∃ A c, v = .slice A l.length c ∧ l.length ≤ c ∧ c ≤ maxLen := by
  obtain ⟨φ, xs, ⟨_, h1⟩, _⟩ := h
  rcases h1 with ⟨rfl, hn⟩ | ⟨g, cap, cur, rfl, _, _, hc, hm, _⟩
  · exact ⟨none, 0, by rw [hn], by omega, by unfold maxLen; omega⟩
  · exact ⟨some ⟨g, 0, none⟩, cap, rfl, hc, hm⟩
theorem nil (ap : Bool) (e : Nat) (r : Rp α) (w : World) (F : Nat → Prop) : Ow ap e r w F (.slice none 0 0) [] :=
  ⟨fun _ _ => False, [], World.ownsRow_nil w 0 e r.sz, fun k hk => by simp [Value.ownBlock] at hk, fun _ _ h => h.elim, fun _ _ _ _ h => h.elim, fun i x hx => by simp at hx⟩
theorem lt_size (h : Ow ap e r w F v l) {k : Nat} (hk : v.ownBlock = some k) : F k ∧ k < w.heap.size := by
  obtain ⟨φ, xs, h1, h2, _⟩ := h
  exact ⟨h2 k hk, owns_lt h1 hk⟩
/-- Element i as it lies: the block, its cells, that none is frozen. -/
theorem at_ (h : Ow ap e r w F v l) {i : Nat} {x : α} (hx : l[i]? = some x) :
    ∃ g c cs, v = .slice (some ⟨g, 0, none⟩) l.length c ∧ F g ∧ g < w.heap.size ∧ r.K w (fun k => F k ∧ k ≠ g) x cs ∧ (∀ j u, cs[j]? = some u → w.cell? ⟨g, i * r.sz + j, none⟩ = some u) ∧ ∀ o, w.frozen? ⟨g, o, none⟩ = false := by
  obtain ⟨φ, xs, h1, h2, h3, h4, h5⟩ := h
  have hil : i < l.length := (List.getElem?_eq_some_iff.1 hx).1
  have hk := h5 i x hx
  rcases h1.2 with ⟨rfl, hn⟩ | ⟨g, cap, cur, rfl, _, hh, hc, hm, hs, hxs⟩
  · omega
  · refine ⟨g, cap, _, rfl, h2 g (by simp [Value.ownBlock]), owns_lt h1 (by simp [Value.ownBlock]), r.mono (fun k hk => ⟨(h3 i k hk).1, fun hkg => (h3 i k hk).2 (by simp [Value.ownBlock, hkg])⟩) hk, fun j u hu => ?_, fun o => h1.frozenAt o⟩
    rw [List.getElem?_take] at hu
    by_cases hj : j < r.sz
    · rw [if_pos hj, List.getElem?_drop] at hu
      have hlt : i * r.sz + j < l.length * r.sz := by
        calc i * r.sz + j < i * r.sz + r.sz := by omega
          _ = (i + 1) * r.sz := by rw [Nat.succ_mul]
          _ ≤ l.length * r.sz := Nat.mul_le_mul_right _ hil
      rw [h1.cellAt _ hlt]
      exact hu
    · rw [if_neg hj] at hu
      cases hu
theorem rd (h : Ow ap e r w F v l) : Rp.Rd r w F v l := by
  obtain ⟨A, c, he, hl, hm⟩ := h.form
  refine ⟨A, c, he, hl, hm, ?_⟩
  cases hq : l with
  | nil => exact .inl rfl
  | cons x t =>
    right
    have h0 : l[0]? = some x := by rw [hq]; rfl
    obtain ⟨g, c', cs, he', hF, hg, _⟩ := h.at_ h0
    rw [he] at he'
    injection he' with hA _ _
    refine ⟨g, 0, hA, hF, hg, fun i y hy => ?_⟩
    rw [← hq] at hy
    obtain ⟨g', c'', cs', he'', _, _, hK, hcell, _⟩ := h.at_ hy
    rw [he] at he''
    injection he'' with hA' _ _
    rw [hA] at hA'
    injection hA' with hA'
    injection hA' with hg' _
    subst hg'
    exact ⟨cs', r.mono (fun k hk => hk.1) hK, fun j u hu => by rw [Nat.zero_add]; exact hcell j u hu⟩
end
end Ow
/-- A row of one's own, as a kind. -/
def Rp.ow {α : Type} (ap : Bool) (e : Nat) (r : Rp α) : Rp (List α) where
  sz := 1
  K := fun w F x cs => ∃ v, cs = [v] ∧ Ow ap e r w F v x
  len := by
    rintro w F x cs ⟨v, rfl, _⟩
    rfl
  one := by
    rintro w F x cs ⟨v, rfl, h⟩ u hu
    obtain ⟨A, c, rfl, _⟩ := h.form
    rw [List.mem_singleton.1 hu]
    rfl
  mono := by
    rintro w F G x cs hF ⟨v, rfl, h⟩
    exact ⟨v, rfl, h.mono hF⟩
  move := by
    rintro w w' F x cs hF ⟨v, rfl, h⟩
    exact ⟨v, rfl, h.move hF⟩
  bound := by
    rintro w F x cs ⟨v, rfl, h⟩
    exact ⟨v, rfl, h.bound⟩
/-- What kind a tells, kind b tells, too. -/
def Rp.Le {α : Type} (a b : Rp α) : Prop := a.sz = b.sz ∧ ∀ {w F x cs}, a.K w F x cs → b.K w F x cs
namespace Rp.Le
variable {α β : Type} {a b : Rp α} {c d : Rp β}
theorem refl (a : Rp α) : Le a a := ⟨rfl, fun h => h⟩
theorem pair (h : Le a b) (k : Le c d) : Le (a.pair c) (b.pair d) := ⟨by show a.sz + c.sz = b.sz + d.sz; rw [h.1, k.1], by
  rintro w F x cs ⟨p, q, rfl, hp, hq⟩
  exact ⟨p, q, rfl, h.2 hp, k.2 hq⟩⟩
theorem pairA (h : Le a b) (k : Le c d) : Le (a.pairA c) (b.pair d) := ⟨by show a.sz + c.sz = b.sz + d.sz; rw [h.1, k.1], by
  rintro w F x cs ⟨G1, G2, h1, h2, _, p, q, rfl, hp, hq⟩
  exact ⟨p, q, rfl, b.mono h1 (h.2 hp), d.mono h2 (k.2 hq)⟩⟩
theorem iso (h : Le a b) (f : β → α) : Le (a.iso f) (b.iso f) := ⟨h.1, h.2⟩
theorem row (h : Le a b) {w : World} {F : Nat → Prop} {g o : Nat} {l : List α} (hr : Rp.Row a w F g o l) : Rp.Row b w F g o l := fun i x hx => by
  obtain ⟨cs, h1, h2⟩ := hr i x hx
  rw [h.1] at h2
  exact ⟨cs, h.2 h1, h2⟩
theorem rd (h : Le a b) {w : World} {F : Nat → Prop} {v : Value} {l : List α} (hr : Rp.Rd a w F v l) : Rp.Rd b w F v l := by
  obtain ⟨A, c, rfl, hl, hm, h0⟩ := hr
  refine ⟨A, c, rfl, hl, hm, ?_⟩
  rcases h0 with h0 | ⟨g, o, rfl, hF, hg, h0⟩
  · exact .inl h0
  · exact .inr ⟨g, o, rfl, hF, hg, row h h0⟩
theorem sl (h : Le a b) : Le (Rp.sl a) (Rp.sl b) := ⟨rfl, by
  rintro w F x cs ⟨v, rfl, hv⟩
  exact ⟨v, rfl, rd h hv⟩⟩
theorem ow {ap : Bool} {e : Nat} (h : Le a b) : Le (Rp.ow ap e a) (Rp.sl b) := ⟨rfl, by
  rintro w F x cs ⟨v, rfl, hv⟩
  exact ⟨v, rfl, rd h hv.rd⟩⟩
end Rp.Le
end Go.Proofs.Ytmcnoeinjocimaa.L
