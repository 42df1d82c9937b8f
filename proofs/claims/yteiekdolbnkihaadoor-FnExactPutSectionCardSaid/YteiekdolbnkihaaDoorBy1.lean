/- Bytes of one's own: append of a byte, of a text. -/
import Derived.Test.YteiekdolbnkihaaDoorProg
import Derived.Test.YteiekdolbnkihaaDoorTyS
import Derived.Test.YteiekdolbnkihaaDoorLib6
import Derived.Lib.AppendStr
import Derived.Deep.AppendLies
import Derived.Laws.IdiomStrings
set_option linter.unusedVariables false
set_option linter.unusedSimpArgs false
namespace Go.Proofs.YteiekdolbnkihaaDoor.L
open Go.RowKit
def bcells (l : List UInt8) : List Value := l.map fun b => Value.int .u8 b.toNat
/-- A row of bytes that began in this call: from block B on. -/
structure BO (B : Nat) (w0 W : World) (v : Value) (l : List UInt8) : Prop where
  own : W.ownsRow B 5 1 v l.length (bcells l)
  below : Below B w0 W
  size : B ≤ W.heap.size
theorem infoByte : (Tryd.prog.info? 5).map (fun i => (i.zero, i.size, i.bytes)) = some (some (.int .u8 0), 1, 1) := by kernel_rfl
theorem own_row_ge {w : World} {B e size n : Nat} {v : Value} {xs : List Value} (h : w.ownsRow B e size v n xs) : ∀ k, v.ownBlock = some k → B ≤ k := by
  intro k hk
  rcases h.2 with ⟨rfl, _⟩ | ⟨g, cap, cur, rfl, hg, _⟩
  · simp [Value.ownBlock] at hk
  · simp [Value.ownBlock] at hk; omega
namespace BO
variable {B : Nat} {w0 W W' : World} {v : Value} {l : List UInt8}
theorem call (h : BO B w0 W v l) (hb : Below W.heap.size W W') : BO B w0 W' v l := by
  obtain ⟨⟨h1, h2⟩, h3, h4⟩ := h
  refine ⟨⟨h1, ?_⟩, h3.trans (hb.mono h4), Nat.le_trans h4 hb.size⟩
  rcases h2 with h2 | ⟨g, cap, cur, rfl, hg, hh, q⟩
  · exact .inl h2
  · exact .inr ⟨g, cap, cur, rfl, hg, (hb.block g (Array.getElem?_eq_some_iff.1 hh).1).trans hh, q⟩
theorem grown {v1 : Value} {w1 : World} {l1 : List UInt8} (h : BO B w0 W v l) (ho : w1.ownsRow B 5 1 v1 l1.length (bcells l1)) (hg : W.grownBy w1 v.ownBlock) : BO B w0 w1 v1 l1 :=
  ⟨ho, below_grown h.below hg (own_row_ge h.own) h.size, Nat.le_trans h.size hg.size⟩
end BO
/-- From W to w1 nothing changed but the row of v and what is new; v1's row is v's or new. -/
structure GB (W w1 : World) (v v1 : Value) : Prop where
  frame : ∀ k, k < W.heap.size → v.ownBlock ≠ some k → w1.heap[k]? = W.heap[k]?
  size : W.heap.size ≤ w1.heap.size
  row : ∀ k, v1.ownBlock = some k → v.ownBlock = some k ∨ W.heap.size ≤ k
namespace GB
variable {W w1 w2 : World} {v v1 v2 : Value}
theorem refl (W : World) (v : Value) : GB W W v v := ⟨fun _ _ _ => rfl, Nat.le_refl _, fun _ h => .inl h⟩
theorem trans (h : GB W w1 v v1) (k : GB w1 w2 v1 v2) : GB W w2 v v2 where
  frame := fun b hb hne => (k.frame b (Nat.lt_of_lt_of_le hb h.size) (fun he => (h.row b he).elim hne (fun hge => by omega))).trans (h.frame b hb hne)
  size := Nat.le_trans h.size k.size
  row := fun b hb => (k.row b hb).elim (fun he => h.row b he) (fun hge => .inr (Nat.le_trans h.size hge))
theorem alloc (h : GB W w1 v v1) (o : Obj) : GB W (w1.alloc o) v v1 := ⟨fun b hb hne => (Below.heap_alloc w1 o b (Nat.lt_of_lt_of_le hb h.size)).trans (h.frame b hb hne), Nat.le_trans h.size (by simp), h.row⟩
theorem of_below (h : Below W.heap.size W w1) (v : Value) : GB W w1 v v := ⟨fun b hb _ => h.block b hb, h.size, fun _ h => .inl h⟩
theorem of_grown {o : Obj} (hg : (W.alloc o).grownBy w1 v.ownBlock) (hr : ∀ k, v1.ownBlock = some k → v.ownBlock = some k ∨ W.heap.size ≤ k) : GB W w1 v v1 where
  frame := fun b hb hne => (hg.block b (by simp; omega) (fun he => hne he.symm)).trans (Below.heap_alloc W o b hb)
  size := Nat.le_trans (by simp) hg.size
  row := hr
theorem of_grown' (hg : W.grownBy w1 v.ownBlock) (hr : ∀ k, v1.ownBlock = some k → v.ownBlock = some k ∨ W.heap.size ≤ k) : GB W w1 v v1 where
  frame := fun b hb hne => hg.block b hb (fun he => hne he.symm)
  size := hg.size
  row := hr
theorem cell (h : GB W w1 v v1) {a : Addr} {u : Value} (hc : W.cell? a = some u) (hne : v.ownBlock ≠ some a.block) : w1.cell? a = some u := by
  have hf := h.frame a.block (World.block_lt_of_cell? W a hc) hne
  unfold World.cell? at hc ⊢
  rw [hf]
  exact hc
end GB
section
variable {ops : Array Oper} {rest : List Oper} {o : Oper} {a : Act} {Q : Exit → Act → World → Prop} {B : Nat} {w0 W : World} {v : Value} {l : List UInt8}
theorem bapp1 (hgd : o.guard = none) (s x : Operand) (ho : o.op = .call { callee := .builtin .append, args := #[s, x], argTypes := #[46, 46] })
    (b : UInt8) (z : Int) (hz : z = (b.toNat : Int)) (hs : a.eval s = v) (hx : a.eval x = .slice (some ⟨W.heap.size, 0, none⟩) 1 1) (HO : BO B w0 W v l) (hl : l.length + 1 ≤ 1000000)
    (h : ∀ v1 w1, BO B w0 w1 v1 (l ++ [b]) → GB W w1 v v1 → wpList Tryd.prog ops Q rest (a.put o.dst v1) w1) :
    wpList Tryd.prog ops Q (o :: rest) a (W.alloc (.cells #[.int .u8 z] 5)) := by
  obtain ⟨i0, hi, hzz⟩ := Option.map_eq_some_iff.1 infoByte
  simp only [Prod.mk.injEq] at hzz
  obtain ⟨hz0, hz1, hz2⟩ := hzz
  subst hz
  have HO1 := HO.call (below_new (w := W) (.cells #[.int .u8 b.toNat] 5))
  refine wpList_append_own_at (W.alloc (.cells #[.int .u8 b.toNat] 5)) hgd s x 46 ho B 5 i0 (.int .u8 0) 1 1 Tryd.underlying46 hi hz0 hz1 hz2 rfl (by omega) v l.length (bcells l) hs HO1.own ⟨W.heap.size, 0, none⟩ 1 1 [.int .u8 b.toNat] hx (by rfl)
    (fun j u hu => World.news_of_block (cs := #[.int .u8 b.toNat]) (t := 5) (fr := (0, 0)) (heap_alloc_new W _) j u (by simpa using hu)) (by intro u hu; rw [List.mem_singleton.1 hu]; rfl) (by simp only [maxLen]; omega) (by omega) HO1.size ?_
  intro v1 w1 hown1 hg _ hat
  refine h v1 w1 (HO1.grown (by simpa [bcells] using hown1) hg) (GB.of_grown hg (fun k hk => ?_))
  rcases hat with hat | hat
  · rw [hat] at hk; exact .inl hk
  · rw [hat] at hk; cases hk; exact .inr (by simp)
theorem bstep1 {K : Act → World → Prop} {E : Prop} (hgd : o.guard = none) (s x : Operand) (ho : o.op = .call { callee := .builtin .append, args := #[s, x], argTypes := #[46, 46] })
    (b : UInt8) (g : Nat) (hs : a.eval s = v) (hx : a.eval x = .slice (some ⟨g, 0, none⟩) 1 1) (HO : BO B w0 W v l) (hc : W.cell? ⟨g, 0, none⟩ = some (.int .u8 b.toNat)) (hl : l.length + 1 ≤ 1000000)
    (h : ∀ v1 w1, BO B w0 w1 v1 (l ++ [b]) → GB W w1 v v1 → K (a.put o.dst v1) w1) :
    if Region.wanted o (yielded ops a.tmps) = true then Oper.wp Tryd.prog o a W K Q else E := by
  obtain ⟨i0, hi, hzz⟩ := Option.map_eq_some_iff.1 infoByte
  simp only [Prod.mk.injEq] at hzz
  obtain ⟨hz0, hz1, hz2⟩ := hzz
  refine step_append_lies W hgd s x 46 ho B 5 i0 (.int .u8 0) 1 1 Tryd.underlying46 hi hz0 hz1 hz2 rfl (by omega) v l.length (bcells l) hs HO.own ⟨g, 0, none⟩ 1 1 [.int .u8 b.toNat] hx (by rfl)
    (fun j u hu => by
      cases j with
      | zero => simp only [List.getElem?_cons_zero, Option.some.injEq] at hu; subst hu; simpa [Addr.add] using hc
      | succ j => simp at hu) (by intro u hu; rw [List.mem_singleton.1 hu]; rfl) (by omega) (by simp only [maxLen]; omega) (by omega) HO.size _ rfl ?_
  intro g' cap w1 hown1 hg hat hlt
  refine h _ w1 (HO.grown (by simpa [bcells] using hown1) hg) (GB.of_grown' hg (fun k hk => ?_))
  simp only [Value.ownBlock, Option.some.injEq] at hk
  subst hk
  rcases hat with hat | hat
  · exact .inl hat
  · exact .inr (by omega)
theorem bappS (hgd : o.guard = none) (sl x : Operand) (ho : o.op = .call { callee := .builtin .append, args := #[sl, x], argTypes := #[46, 9] })
    (s : ByteArray) (hs : a.eval sl = v) (hx : a.eval x = .string s) (HO : BO B w0 W v l) (hl : l.length + s.size ≤ 1000000)
    (h : ∀ v1 w1, BO B w0 w1 v1 (l ++ s.data.toList) → wpList Tryd.prog ops Q rest (a.put o.dst v1) w1) :
    wpList Tryd.prog ops Q (o :: rest) a W := by
  obtain ⟨i0, hi, hzz⟩ := Option.map_eq_some_iff.1 infoByte
  simp only [Prod.mk.injEq] at hzz
  obtain ⟨hz0, hz1, hz2⟩ := hzz
  have hsz : s.data.toList.length = s.size := Array.length_toList
  refine Lib.wpList_append_own_string W hgd sl x 46 9 ho B 5 i0 Tryd.underlying46 Tryd.underlying9 hi hz0 hz1 hz2 v l.length (bcells l) hs HO.own s hx (by simp only [maxLen]; omega) (by omega) HO.size ?_
  intro v1 w1 hown1 hg _
  refine h v1 w1 (HO.grown ?_ hg)
  rw [List.length_append, hsz]
  simpa [bcells, Lib.strCells] using hown1
end
/-- 'string(b)' of a row of one's own that is not empty. -/
theorem bconv {B : Nat} {w0 W : World} {v : Value} {l : List UInt8} (h : BO B w0 W v l) (hne : l ≠ []) : (convert 46 9 v).run Tryd.prog W = .ok (.string ⟨l.toArray⟩) W := by
  obtain ⟨⟨h1, h2⟩, _, _⟩ := h
  rcases h2 with ⟨rfl, hn⟩ | ⟨g, cap, cur, rfl, _, hh, hc, hm, hsz, htk⟩
  · exact (hne (List.eq_nil_of_length_eq_zero hn)).elim
  · refine run_convert_bytes_back W 46 9 5 ⟨g, 0, none⟩ cap l Tryd.underlying46 Tryd.underlying5 Tryd.underlying9 (fun j hj => ?_)
    have hcell := (cell_of_block hh).1 (0 + j)
    have hg : (bcells l)[j]? = some (Value.int .u8 l[j].toNat) := by simp [bcells, hj]
    rw [← htk, List.getElem?_take, if_pos (by omega), Array.getElem?_toList] at hg
    rw [Addr.add_lit, hcell, Nat.zero_add]
    exact hg
end Go.Proofs.YteiekdolbnkihaaDoor.L
