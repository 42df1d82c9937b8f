/- A row of rows of one's own: one inner row is changed. -/
import Derived.Test.YtmcnoeinjocimaaLib7
set_option linter.unusedVariables false
namespace Go.Proofs.Ytmcnoeinjocimaa.L
open Go.RowKit
theorem Ow.focus {α : Type} {e e2 : Nat} {r : Rp α} {w : World} {F : Nat → Prop} {L : List (List α)} {g n c : Nat} (h : Ow true e (Rp.ow true e2 r) w F (.slice (some ⟨g, 0, none⟩) n c) L) {b : Nat} (hb : b < L.length) :
    ∃ (G : Nat → Prop) (u : Value), w.cell? ⟨g, b, none⟩ = some u ∧ w.frozen? ⟨g, b, none⟩ = false ∧ (∀ k, G k → F k ∧ k ≠ g) ∧ Ow true e2 r w G u L[b] ∧
      ∀ (w' : World) (y : List α), (∀ k, k < w.heap.size → ¬ G k → w'.heap[k]? = w.heap[k]?) → Ow true e2 r w' G u y → Ow true e (Rp.ow true e2 r) w' F (.slice (some ⟨g, 0, none⟩) n c) (L.set b y) := by
  obtain rfl := h.len_eq
  obtain ⟨g', c', cs, he, hg, hgl, hK, hc, hf⟩ := h.at_ (List.getElem?_eq_getElem hb)
  injection he with he _ _
  injection he with he
  injection he with he _
  subst he
  obtain ⟨u, rfl, _⟩ := hK
  have hcu := hc 0 u rfl
  rw [show b * (Rp.ow true e2 r).sz + 0 = b from by show b * 1 + 0 = b; omega] at hcu
  obtain ⟨φ, xs, h1, h2, h3, h4, h5⟩ := h
  obtain ⟨u', hu', hO⟩ := h5 b _ (List.getElem?_eq_getElem hb)
  have hsz : (Rp.ow true e2 r).sz = 1 := rfl
  have hlen := h1.1
  rw [hsz, Nat.mul_one] at hlen hu'
  have hxb : xs[b]? = some u' := by
    have : (xs.drop b).take 1 = [u'] := hu'
    have h0 : ((xs.drop b).take 1)[0]? = some u' := by rw [this]; rfl
    rw [List.getElem?_take, if_pos (by omega), List.getElem?_drop] at h0
    exact h0
  have hcell := h1.cellAt b (by rw [hsz, Nat.mul_one]; exact hb)
  have huu : u' = u := by
    have : w.cell? ⟨g, b, none⟩ = xs[b]? := by simpa using hcell
    rw [hcu, hxb] at this
    exact (Option.some.inj this).symm
  subst huu
  refine ⟨φ b, u', hcu, hf b, fun k hk => ⟨(h3 b k hk).1, fun hkg => (h3 b k hk).2 (by simp [Value.ownBlock, hkg])⟩, hO, fun w' y hS hy => ?_⟩
  refine ⟨φ, xs, by rw [List.length_set]; exact owns_move h1 (fun k hk => hS k (owns_lt h1 hk) (fun hG => (h3 b k hG).2 hk)), h2, h3, h4, fun i x hx => ?_⟩
  rw [List.getElem?_set] at hx
  by_cases hi : b = i
  · subst hi
    rw [if_pos rfl, if_pos hb] at hx
    cases hx
    rw [hsz, Nat.mul_one]
    exact ⟨u', hu', hy⟩
  · rw [if_neg hi] at hx
    exact (Rp.ow true e2 r).move (fun k hk hlt => hS k hlt (fun hG => hi (h4 rfl _ _ k hG hk))) (h5 i x hx)
end Go.Proofs.Ytmcnoeinjocimaa.L
