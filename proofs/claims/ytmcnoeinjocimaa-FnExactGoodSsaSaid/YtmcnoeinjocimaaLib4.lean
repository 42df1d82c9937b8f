/- The laws of append and make, for the walk, over rows of one's own. -/
import Derived.Test.YtmcnoeinjocimaaLib3
import Derived.Deep.AppendLies
set_option linter.unusedVariables false
namespace Go.Proofs.Ytmcnoeinjocimaa.L
open Go.RowKit
/-- A kind whose values lead nowhere. -/
def Rp.Flat {α : Type} (r : Rp α) : Prop := ∀ {w F x cs}, r.K w F x cs → ∀ w' G, r.K w' G x cs
theorem Rp.Flat.lit {α : Type} (enc : α → Value) (h1 : ∀ x, (enc x).oneCell' = true) : (Rp.lit enc h1).Flat := fun h _ _ => h
theorem Rp.Flat.pair {α β : Type} {a : Rp α} {b : Rp β} (ha : a.Flat) (hb : b.Flat) : (a.pair b).Flat := by
  rintro w F x cs ⟨c, d, rfl, h, k⟩ w' G
  exact ⟨c, d, rfl, ha h w' G, hb k w' G⟩
theorem Rp.Flat.iso {α β : Type} {a : Rp α} (ha : a.Flat) (f : β → α) : (a.iso f).Flat := fun h w' G => ha h w' G
theorem below_grown {B : Nat} {w0 w w1 : World} (h : Below B w0 w) {row : Option Nat} (hg : w.grownBy w1 row) (hr : ∀ k, row = some k → B ≤ k) (hB : B ≤ w.heap.size) : Below B w0 w1 :=
  ⟨hg.os.trans h.os, hg.tape.trans h.tape, hg.output.trans h.output, Nat.le_trans h.size hg.size, fun k hk => (hg.block k (by omega) (fun e => by have := hr k e.symm; omega)).trans (h.block k hk)⟩
section
variable {P : Program} {ops : Array Oper} {rest : List Oper} {o : Oper} {a : Act} {Q : Exit → Act → World → Prop} {α : Type} {ap : Bool} {e : Nat} {r : Rp α} {W : World} {F G : Nat → Prop}
/-- append(s, y): one element, laid by the statement itself into a block of its own. -/
theorem ow_append1 (hgd : o.guard = none) (s x : Operand) (t : TypeId) (z : Value) (bytes : Nat)
    (ho : o.op = .call { callee := .builtin .append, args := #[s, x], argTypes := #[t, t] })
    (ht : P.underlying t = some (.slice e)) (hinfo : (P.info? e).map (fun i => (i.zero, i.size, i.bytes)) = some (some z, r.sz, bytes)) (hz : z.cells.size = r.sz) (hsz : 0 < r.sz) (hb0 : 0 < bytes)
    (v : Value) (l : List α) (y : α) (us : List Value) (hs : a.eval s = v) (hx : a.eval x = .slice (some ⟨W.heap.size, 0, none⟩) 1 1)
    (HO : Ow ap e r W F v l) (hy : r.K W G y us) (hG : ∀ k, G k → ¬ F k) (hl : (l.length + 1) * bytes ≤ 140737488355328)
    (h : ∀ v1 w1, Ow ap e r w1 (fun k => F k ∨ G k ∨ W.heap.size ≤ k) v1 (l ++ [y]) → W.grownBy w1 v.ownBlock → wpList P ops Q rest (a.put o.dst v1) w1) :
    wpList P ops Q (o :: rest) a (W.alloc (.cells us.toArray e)) := by
  obtain ⟨i0, hi, hzz⟩ := Option.map_eq_some_iff.1 hinfo
  simp only [Prod.mk.injEq] at hzz
  obtain ⟨hz0, hz1, hz2⟩ := hzz
  have hlen : l.length + 1 ≤ 140737488355328 := Nat.le_trans (Nat.le_mul_of_pos_right _ hb0) hl
  obtain ⟨xs, hown⟩ := HO.owns
  have hus : us.length = r.sz := r.len hy
  refine wpList_append_own_at (W.alloc (.cells us.toArray e)) hgd s x t ho 0 e i0 z r.sz bytes ht hi hz0 hz1 hz2 hz hsz v l.length xs hs (hown.alloc _) ⟨W.heap.size, 0, none⟩ 1 1 us hx (by rw [hus, Nat.one_mul])
    (fun j u hu => World.news_of_block (cs := us.toArray) (t := e) (fr := (0, 0)) (heap_alloc_new W _) j u (by simpa using hu)) (r.one hy) (by simp only [maxLen]; omega) hl (Nat.zero_le _) ?_
  intro v1 w1 hown1 hg _ hat
  have hg' : W.grownBy w1 v.ownBlock := World.grownBy.trans (World.grownBy_alloc W _ _) hg
  refine h v1 w1 ?_ hg'
  obtain ⟨φ, xs', h1, h2, h3, h4, h5⟩ := HO
  have hxs : xs' = xs := by
    rcases h1.2 with ⟨rfl, hn⟩ | ⟨g, cap, cur, rfl, _, hh, _, _, _, htk⟩
    · have e1 := h1.1; have e2 := hown.1; rw [hn, Nat.zero_mul] at e1 e2; rw [List.eq_nil_of_length_eq_zero e1, List.eq_nil_of_length_eq_zero e2]
    · rcases hown.2 with ⟨hh', _⟩ | ⟨g', cap', cur', he, _, hh', _, _, _, htk'⟩
      · cases hh'
      · injection he with he _ _
        injection he with he
        injection he with he _
        subst he
        rw [hh] at hh'
        injection hh' with hh'
        injection hh' with hh' _
        subst hh'
        exact htk.symm.trans htk'
  subst hxs
  refine Ow.snoc (w := W) (m := 1) (ys := [y]) (news := us) ⟨φ, xs', h1, h2, h3, h4, h5⟩ rfl (fun zs hzs => ?_) hg' ?_ (fun i k => i = 0 ∧ G k) (fun i y' hy' => ?_) (fun i k hk => ⟨hG k hk.2, .inr (.inl hk.2)⟩) (fun _ i j k hi hj => by omega) (fun k hk => .inl hk) (fun k hk => .inr (.inr hk))
  · have : zs = xs' := by
      rcases h1.2 with ⟨rfl, hn⟩ | ⟨g, cap, cur, rfl, _, hh, _, _, _, htk⟩
      · have e1 := h1.1; have e2 := hzs.1; rw [hn, Nat.zero_mul] at e1 e2; rw [List.eq_nil_of_length_eq_zero e1, List.eq_nil_of_length_eq_zero e2]
      · rcases hzs.2 with ⟨hh', _⟩ | ⟨g', cap', cur', he, _, hh', _, _, _, htk'⟩
        · cases hh'
        · injection he with he _ _
          injection he with he
          injection he with he _
          subst he
          rw [hh] at hh'
          injection hh' with hh'
          injection hh' with hh' _
          subst hh'
          exact htk'.symm.trans htk
    rw [this]; exact hown1
  · rcases hat with hat | hat
    · exact .inl hat
    · exact .inr ⟨_, hat, by simp⟩
  · match i, hy' with
    | 0, hy' =>
      simp only [List.getElem?_cons_zero, Option.some.injEq] at hy'
      subst hy'
      rw [Nat.zero_mul, List.drop_zero, List.take_of_length_le (by omega)]
      exact r.mono (fun k hk => ⟨rfl, hk⟩) hy
    | i + 1, hy' => simp at hy'
end
/-- A row of n zero values, just made. -/
theorem madeCells_seg (z : Array Value) (n i : Nat) (hi : i < n) (hz : 0 < z.size) : (((madeCells z (n * z.size)).toList.drop (i * z.size)).take z.size) = z.toList := by
  apply List.ext_getElem?
  intro q
  rw [List.getElem?_take]
  by_cases hq : q < z.size
  · rw [if_pos hq, List.getElem?_drop, Array.getElem?_toList, Array.getElem?_toList]
    have hlt : i * z.size + q < n * z.size := by
      calc i * z.size + q < i * z.size + z.size := by omega
        _ = (i + 1) * z.size := by rw [Nat.succ_mul]
        _ ≤ n * z.size := Nat.mul_le_mul_right _ hi
    rw [Array.getElem?_eq_getElem (by rw [size_madeCells]; exact hlt), Array.getElem?_eq_getElem hq]
    simp only [madeCells, Array.getElem_map, Array.getElem_range, Option.some.injEq]
    rw [Nat.mul_comm i, Nat.mul_add_mod, Nat.mod_eq_of_lt hq]
    exact getElem!_pos z q hq
  · rw [if_neg hq, List.getElem?_eq_none (by simp; omega)]
theorem ow_made {α : Type} {e n : Nat} {r : Rp α} {w w1 : World} {z : Array Value} {x0 : α} (hsz : z.size = r.sz) (h0 : 0 < r.sz) (hx : ∀ w, r.K w (fun _ => False) x0 z.toList)
    (hown : w1.ownsRow 0 e r.sz (.slice (some ⟨w.heap.size, 0, none⟩) n n) n (madeCells z (n * r.sz)).toList) :
    Ow true e r w1 (fun k => k = w.heap.size) (.slice (some ⟨w.heap.size, 0, none⟩) n n) (List.replicate n x0) := by
  refine ⟨fun _ _ => False, _, by rw [List.length_replicate]; exact hown, fun k hk => by simpa [Value.ownBlock, eq_comm] using hk, fun _ _ h => h.elim, fun _ _ _ _ h => h.elim, fun i x hx' => ?_⟩
  rw [List.getElem?_replicate] at hx'
  split at hx'
  · cases hx'
    rw [← hsz, madeCells_seg z n i (by assumption) (by omega)]
    exact hx w1
  · cases hx'
end Go.Proofs.Ytmcnoeinjocimaa.L
