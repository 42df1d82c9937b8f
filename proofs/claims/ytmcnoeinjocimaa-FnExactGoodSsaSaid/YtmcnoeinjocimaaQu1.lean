/- A queue: a slice of numbers that is cut at its head and put to at its end. -/
import Derived.Test.YtmcnoeinjocimaaLib8
import Derived.ArgAppend
set_option linter.unusedVariables false
namespace Go.Proofs.Ytmcnoeinjocimaa.L
open Go.RowKit
/-- A slice of one's own, beginning anywhere in its block. -/
def Qu (w : World) (F : Nat → Prop) (v : Value) (l : List Int) : Prop :=
  ∃ g o c cur, v = .slice (some ⟨g, o, none⟩) l.length c ∧ F g ∧ w.heap[g]? = some (.cells cur 3 (0, 0)) ∧ l.length ≤ c ∧ c ≤ maxLen ∧ o + c ≤ cur.size ∧ ∀ (k : Nat) (hk : k < l.length), cur[o + k]? = some (.int .i64 l[k])
namespace Qu
variable {w w1 : World} {F G : Nat → Prop} {v : Value} {l : List Int}
theorem mono (hF : ∀ k, F k → G k) (h : Qu w F v l) : Qu w G v l := by
  obtain ⟨g, o, c, cur, h1, h2, h3⟩ := h
  exact ⟨g, o, c, cur, h1, hF g h2, h3⟩
theorem move (hF : Same F w w1) (h : Qu w F v l) : Qu w1 F v l := by
  obtain ⟨g, o, c, cur, h1, h2, h3, h4⟩ := h
  exact ⟨g, o, c, cur, h1, h2, (hF g h2 (blk_lt h3)).trans h3, h4⟩
theorem below (hb : Below w.heap.size w w1) (h : Qu w F v l) : Qu w1 F v l := h.move (Same.of_below hb F)
theorem set_other (h : Qu w F v l) {b o : Nat} {u : Value} (hb : ¬ F b) : Qu (w.setCell ⟨b, o, none⟩ u) F v l := h.move (fun q hq _ => heap_setCell_other w ⟨b, o, none⟩ q u (fun he => hb (by have he : q = b := he; rw [← he]; exact hq)))
theorem form (h : Qu w F v l) : ∃ g o c, v = .slice (some ⟨g, o, none⟩) l.length c ∧ F g ∧ g < w.heap.size ∧ l.length ≤ c ∧ c ≤ 9223372036854775807 ∧ ∀ (k : Nat) (hk : k < l.length), w.cell? ⟨g, o + k, none⟩ = some (.int .i64 l[k]) := by
  obtain ⟨g, o, c, cur, h1, h2, h3, h4, h5, h6, h7⟩ := h
  exact ⟨g, o, c, h1, h2, blk_lt h3, h4, h5, fun k hk => ((cell_of_block h3).1 _).trans (h7 k hk)⟩
theorem pop {g o c : Nat} {x : Int} {t : List Int} (h : Qu w F (.slice (some ⟨g, o, none⟩) (t.length + 1) c) (x :: t)) : Qu w F (.slice (some (if c = 1 then ⟨g, o, none⟩ else ⟨g, o + 1, none⟩)) t.length (c - 1)) t := by
  obtain ⟨g', o', c', cur, h1, h2, h3, h4, h5, h6, h7⟩ := h
  injection h1 with ha hb hc
  injection ha with ha
  injection ha with hg ho
  subst hg ho hc
  simp only [List.length_cons] at h4 h7
  by_cases hc1 : c = 1
  · rw [if_pos hc1]
    exact ⟨g, o, c - 1, cur, rfl, h2, h3, by omega, by omega, by omega, fun k hk => by omega⟩
  · rw [if_neg hc1]
    refine ⟨g, o + 1, c - 1, cur, rfl, h2, h3, by omega, by omega, by omega, fun k hk => ?_⟩
    have := h7 (k + 1) (by omega)
    rw [show o + 1 + k = o + (k + 1) by omega, this]; rfl
end Qu
theorem qu_lit (W : World) (y : Int) : Qu (W.alloc (.cells #[.int .i64 y] 3)) (fun q => W.heap.size ≤ q) (.slice (some ⟨W.heap.size, 0, none⟩) 1 1) [y] :=
  ⟨W.heap.size, 0, 1, _, rfl, Nat.le_refl _, heap_alloc_new W _, Nat.le_refl _, by unfold maxLen; omega, Nat.le_refl _, fun k hk => by
    obtain rfl : k = 0 := by simpa using hk
    rfl⟩
theorem grown_any {w w1 : World} (h : w.grownBy w1 none) (row : Option Nat) : w.grownBy w1 row := ⟨h.os, h.tape, h.output, h.size, fun k hk _ => h.block k hk (by simp)⟩
section
variable {ops : Array Oper} {rest : List Oper} {o : Oper} {a : Act} {Q : Exit → Act → World → Prop} {W : World} {F : Nat → Prop}
/-- append(todo, y). -/
theorem app_qu (hgd : o.guard = none) (s x : Operand) (ho : o.op = .call { callee := .builtin .append, args := #[s, x], argTypes := #[35, 35] }) (v : Value) (l : List Int) (y : Int) (g0 : Nat) (hg0 : g0 = W.heap.size) (hs : a.eval s = v) (hx : a.eval x = .slice (some ⟨g0, 0, none⟩) 1 1)
    (HO : Qu W F v l) (hl : l.length + 1 ≤ 1000000000)
    (h : ∀ A c w1, Qu w1 (fun k => F k ∨ W.heap.size ≤ k) (.slice A (l.length + 1) c) (l ++ [y]) → W.grownBy w1 v.ownBlock → wpList Try.prog ops Q rest (a.put o.dst (.slice A (l.length + 1) c)) w1) :
    wpList Try.prog ops Q (o :: rest) a (W.alloc (.cells #[.int .i64 y] 3)) := by
  subst hg0
  obtain ⟨g, o', c, cur, rfl, h2, h3, h4, h5, h6, h7⟩ := HO
  obtain ⟨i0, hi, hzz⟩ := Option.map_eq_some_iff.1 infoInt
  simp only [Prod.mk.injEq] at hzz
  obtain ⟨hz0, hz1, hz2⟩ := hzz
  have h3' := blk_alloc h3 (.cells #[.int .i64 y] 3)
  have hcell := cell_of_block h3'
  have hg : g < W.heap.size := blk_lt h3
  have hnews : ∀ j u, ([.int .i64 y] : List Value)[j]? = some u → (W.alloc (.cells #[.int .i64 y] 3)).cell? ((⟨W.heap.size, 0, none⟩ : Addr).add j) = some u := World.news_of_block (cs := #[.int .i64 y]) (t := 3) (fr := (0, 0)) (heap_alloc_new W _)
  have holds : ∀ j u, (l.map (Value.int .i64))[j]? = some u → (W.alloc (.cells #[.int .i64 y] 3)).cell? ⟨g, o' + j, none⟩ = some u := fun j u hu => by
    rw [List.getElem?_map] at hu
    obtain ⟨z, hz, rfl⟩ := Option.map_eq_some_iff.1 hu
    obtain ⟨hj, rfl⟩ := List.getElem?_eq_some_iff.1 hz
    rw [hcell.1, h7 j hj]
  refine wpList_append_arg _ hgd s x 35 ho 3 i0 (.int .i64 0) 1 8 Try.underlying35 hi hz0 hz1 hz2 rfl (by decide) g o' l.length c (l.map (Value.int .i64)) hs (by rw [List.length_map, Nat.mul_one]) holds ⟨W.heap.size, 0, none⟩ 1 1 [.int .i64 y] hx rfl hnews (fun u hu => by rw [List.mem_singleton.1 hu]; rfl) (fun hr j hj => ?_) (by unfold maxLen; omega) (by omega) (fun hr => ?_) (fun hr v' w' hown hgr => ?_)
  · have hj0 : j = 0 := by simpa using hj
    subst hj0
    rw [hcell.1, hcell.2]
    refine ⟨?_, rfl⟩
    rw [Nat.mul_one, Nat.add_zero, Array.getElem?_eq_getElem (by omega)]
    rfl
  · rw [Nat.mul_one]
    have hset := blk_put h3' (o' + l.length) (.int .i64 y)
    refine h (some ⟨g, o', none⟩) c _ ⟨g, o', c, _, by rw [List.length_append]; rfl, .inl h2, hset, by rw [List.length_append]; exact hr, h5, by simpa using h6, fun k hk => ?_⟩ ?_
    · rw [List.length_append] at hk
      rw [Array.getElem?_setIfInBounds]
      by_cases hkl : k < l.length
      · rw [if_neg (by omega), h7 k hkl, List.getElem_append_left hkl]
      · have : k = l.length := by simp at hk; omega
        subst this
        rw [if_pos rfl, if_pos (by omega), List.getElem_append_right (by omega)]
        simp
    · have h1 := World.grownBy_alloc W (.cells #[.int .i64 y] 3) (some g)
      refine ⟨h1.os, h1.tape, h1.output, ?_, fun q hq hne => ?_⟩
      · show W.heap.size ≤ ((W.alloc _).setCell _ _).heap.size
        simp
      · show ((W.alloc _).setCell _ _).heap[q]? = _
        rw [heap_setCell_other _ _ _ _ (fun he => hne (by rw [he]; rfl)), h1.block q hq hne]
  · have hOw : Ow true 3 Rp.int w' (fun q => W.heap.size ≤ q) v' (l ++ [y]) := by
      refine ⟨fun _ _ => False, _, by rw [List.length_append]; exact (by obtain ⟨p1, p2⟩ := hown; exact ⟨p1, p2.imp id (fun ⟨g', cap, cur', q1, q2, q3⟩ => ⟨g', cap, cur', q1, Nat.zero_le _, q3⟩)⟩), fun k hk => by have := (hown.lt k hk).1; simp at this; omega, fun _ _ h => h.elim, fun _ _ _ _ h => h.elim, fun i x hx => ?_⟩
      show _ = [Value.int .i64 x]
      have hsz : Rp.int.sz = 1 := rfl
      rw [hsz, Nat.mul_one, show (l.map (Value.int .i64)) ++ [.int .i64 y] = (l ++ [y]).map (Value.int .i64) by simp]
      obtain ⟨hi', rfl⟩ := List.getElem?_eq_some_iff.1 hx
      rw [← List.map_drop, List.drop_eq_getElem_cons hi']; rfl
    obtain ⟨A, cA, rfl, hcl, hcm⟩ := hOw.form1
    obtain ⟨p1, p2⟩ := hown
    rcases p2 with ⟨e1, e2⟩ | ⟨g', cap, cur', e1, e2, e3, e4, e5, e6, e7⟩
    · cases e1
    · injection e1 with ea eb ec
      subst ea ec
      refine h _ _ _ ⟨g', 0, cA, cur', by rw [List.length_append]; rfl, .inr (by simp at e2; omega), e3, by rw [List.length_append]; exact e4, hcm, by rw [e6]; omega, fun k hk => ?_⟩ ?_
      · have hk' : (l.map (Value.int .i64) ++ [.int .i64 y])[k]? = some (.int .i64 (l ++ [y])[k]) := by
          rw [show (l.map (Value.int .i64)) ++ [.int .i64 y] = (l ++ [y]).map (Value.int .i64) by simp, List.getElem?_map, List.getElem?_eq_getElem hk]; rfl
        rw [← e7, List.getElem?_take] at hk'
        split at hk'
        · rw [Nat.zero_add, ← Array.getElem?_toList]; exact hk'
        · cases hk'
      · have h1 := World.grownBy_alloc W (.cells #[.int .i64 y] 3) (some g)
        have h2' := h1.trans (grown_any hgr (some g))
        exact h2'
end
end Go.Proofs.Ytmcnoeinjocimaa.L
