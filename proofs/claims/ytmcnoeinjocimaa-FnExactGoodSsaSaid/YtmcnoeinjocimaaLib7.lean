/- Small words: what a store or an append leaves as it was. -/
import Derived.Test.YtmcnoeinjocimaaLib6
import Derived.Test.YtmcnoeinjocimaaW1
set_option linter.unusedVariables false
namespace Go.Proofs.Ytmcnoeinjocimaa.L
open Go.RowKit
section
variable {α : Type} {ap : Bool} {e : Nat} {r : Rp α} {w w1 : World} {F : Nat → Prop} {v : Value} {l : List α} {k : Nat}
theorem own_in (h : Ow ap e r w F v l) (hk : some k = v.ownBlock ∨ v.ownBlock = some k) : F k := (h.lt_size (hk.elim Eq.symm id)).1
theorem own_ne (h : Ow ap e r w F v l) (hk : ¬ F k) : some k ≠ v.ownBlock := fun he => hk (h.lt_size he.symm).1
theorem grown_blk {row : Option Nat} (h : w.grownBy w1 row) {o : Obj} (hk : w.heap[k]? = some o) (hne : some k ≠ row) : w1.heap[k]? = some o := (h.block k (blk_lt hk) hne).trans hk
theorem Ow.form1 {x : α} (h : Ow ap e r w F v (l ++ [x])) : ∃ A c, v = .slice A (l.length + 1) c ∧ l.length + 1 ≤ c ∧ c ≤ maxLen := by
  have := h.form
  rwa [List.length_append] at this
theorem Ow.set_other (h : Ow ap e r w F v l) {b o : Nat} {u : Value} (hb : ¬ F b) : Ow ap e r (w.setCell ⟨b, o, none⟩ u) F v l := h.move (fun q hq _ => heap_setCell_other w ⟨b, o, none⟩ q u (fun he => hb (by have he : q = b := he; rw [← he]; exact hq)))
theorem Rp.Rd.set_other (h : Rp.Rd r w F v l) {b o : Nat} {u : Value} (hb : ¬ F b) : Rp.Rd r (w.setCell ⟨b, o, none⟩ u) F v l := h.move (fun q hq _ => heap_setCell_other w ⟨b, o, none⟩ q u (fun he => hb (by have he : q = b := he; rw [← he]; exact hq)))
end
/-- An element of a row whose elements may share: it is stored anew. -/
theorem Ow.putS {α : Type} {e : Nat} {r : Rp α} {w : World} {F G : Nat → Prop} {v : Value} {l : List α} (h : Ow false e r w F v l) {g n c : Nat} (hv : v = .slice (some ⟨g, 0, none⟩) n c) {i : Nat} (hi : i < l.length) {y : α} {us : List Value} (hy : r.K w G y us) (hG : ∀ k, G k → k ≠ g) :
    Ow false e r (putRow w g (i * r.sz) us) (fun k => F k ∨ G k) v (l.set i y) := by
  obtain ⟨φ, xs, h1, h2, h3, h4, h5⟩ := h
  subst hv
  obtain rfl : n = l.length := by
    rcases h1.2 with ⟨hh, _⟩ | ⟨g', cap', cur', hh, _⟩
    · cases hh
    · injection hh
  have hg : F g := h2 g (by simp [Value.ownBlock])
  have hp := putRow_owns us w xs (i * r.sz) h1
  have hus : us.length = r.sz := r.len hy
  refine ⟨fun j k => if j = i then G k else φ j k, seg xs (i * r.sz) us, by rw [List.length_set]; exact hp.1, fun k hk => .inl (h2 k hk), ?_, (fun h => by cases h), ?_⟩
  · intro j k hk
    split at hk
    · exact ⟨.inr hk, fun he => hG k hk (by simpa [Value.ownBlock] using he.symm)⟩
    · exact ⟨.inl (h3 j k hk).1, (h3 j k hk).2⟩
  · intro j x hx
    rw [List.getElem?_set] at hx
    have hjl : j < l.length := by
      rcases Nat.lt_or_ge j l.length with hh | hh
      · exact hh
      · split at hx
        · omega
        · rw [List.getElem?_eq_none hh] at hx; cases hx
    rw [seg_drop h1.1 hi hus j hjl]
    by_cases hji : j = i
    · subst hji
      rw [if_pos rfl, if_pos hi] at hx
      cases hx
      simp only [if_true]
      refine r.move (fun k hk hlt => hp.2.block k hlt (fun he => by cases he; exact hG _ hk rfl)) hy
    · rw [if_neg (fun h => hji h.symm)] at hx
      simp only [if_neg hji]
      refine r.move (fun k hk hlt => hp.2.block k hlt (fun he => by cases he; exact (h3 j _ hk).2 (by simp [Value.ownBlock]))) (h5 j x hx)
/-- The same for elements of one cell. -/
theorem Ow.putS1 {α : Type} {e : Nat} {r : Rp α} {w : World} {F G : Nat → Prop} {l : List α} {g n c : Nat} (h : Ow false e r w F (.slice (some ⟨g, 0, none⟩) n c) l) (h1 : r.sz = 1) {i : Nat} (hi : i < l.length) {y : α} {u : Value} (hy : r.K w G y [u]) (hG : ∀ k, G k → k ≠ g) :
    Ow false e r (w.setCell ⟨g, i, none⟩ u) (fun k => F k ∨ G k) (.slice (some ⟨g, 0, none⟩) n c) (l.set i y) := by
  have hp := h.putS rfl hi hy hG
  rw [h1, Nat.mul_one] at hp
  exact hp
/-- An element of a row of slices. -/
theorem Ow.sl_at {α : Type} {ap : Bool} {e : Nat} {r : Rp α} {w : World} {F : Nat → Prop} {l : List (List α)} {g n c : Nat} (h : Ow ap e (Rp.sl r) w F (.slice (some ⟨g, 0, none⟩) n c) l) {k : Nat} (hk : k < l.length) :
    ∃ u, w.cell? ⟨g, k, none⟩ = some u ∧ w.frozen? ⟨g, k, none⟩ = false ∧ Rp.Rd r w (fun q => F q ∧ q ≠ g) u l[k] := by
  obtain ⟨g', c', cs, he, _, _, hK, hc, hf⟩ := h.at_ (List.getElem?_eq_getElem hk)
  injection he with he _ _
  injection he with he
  injection he with he _
  subst he
  obtain ⟨u, rfl, hu⟩ := hK
  have := hc 0 _ rfl
  rw [show k * (Rp.sl r).sz + 0 = k from by show k * 1 + 0 = k; omega] at this
  exact ⟨u, this, hf k, hu⟩
theorem ow_empty {α : Type} {ap : Bool} {e : Nat} {r : Rp α} {w : World} {b : Nat} (h : w.heap[b]? = some (.cells #[] e (0, 0))) : Ow ap e r w (fun k => k = b) (.slice (some ⟨b, 0, none⟩) 0 0) [] :=
  ⟨fun _ _ => False, [], ⟨by simp, .inr ⟨b, 0, #[], rfl, Nat.zero_le _, h, Nat.le_refl _, by unfold maxLen; omega, by simp, by simp⟩⟩, fun k hk => by simp [Value.ownBlock] at hk; omega, fun _ _ h => h.elim, fun _ _ _ _ h => h.elim, fun i x hx => by simp at hx⟩
end Go.Proofs.Ytmcnoeinjocimaa.L
