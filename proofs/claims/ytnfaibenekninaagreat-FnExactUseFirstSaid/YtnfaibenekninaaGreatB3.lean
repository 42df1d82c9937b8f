/- Joined texts, each of which was built by itself: Lib6 Lib7 Lib8 Lib10 Sf1 Sp1 Sp2 Rc1 Sp5 Fl1 Ix1 Ix2. -/
import Derived.Test.YtnfaibenekninaaGreatB2
import Derived.Test.YtnfaibenekninaaGreatB1
import Derived.Laws.OwnMore
import Derived.Test.YtnfaibenekninaaGreatProg
set_option linter.unusedVariables false
namespace Go.Proofs.YtnfaibenekninaaGreat.L
open Go.RowKit
/-- A literal of numbers, just made. -/
theorem ow_ints {e : Nat} (W : World) (l : List Int) (cs : Array Value) (hcs : cs.toList = l.map (Value.int .i64)) (hl : l.length ≤ 9223372036854775807) :
    Ow true e Rp.int (W.alloc (.cells cs e)) (fun k => k = W.heap.size) (.slice (some ⟨W.heap.size, 0, none⟩) l.length l.length) l := by
  have hsz : cs.size = l.length * 1 := by rw [← Array.length_toList, hcs]; simp
  refine ⟨fun _ _ => False, cs.toList, World.ownsRow_lit W cs l.length (Nat.zero_le _) (by unfold maxLen; omega) hsz, fun k hk => by simpa [Value.ownBlock, eq_comm] using hk, fun _ _ h => h.elim, fun _ _ _ _ h => h.elim, fun i x hx => ?_⟩
  have hi := (List.getElem?_eq_some_iff.1 hx).1
  rw [List.getElem?_eq_getElem hi] at hx
  cases hx
  show (cs.toList.drop (i * 1)).take 1 = [Value.int .i64 l[i]]
  rw [hcs, Nat.mul_one, ← List.map_drop, List.drop_eq_getElem_cons hi]
  rfl
theorem ow_intsG {e g B : Nat} {W : World} (hg : g = W.heap.size) (hB : B ≤ g) (l : List Int) (cs : Array Value) (hcs : cs.toList = l.map (Value.int .i64)) (hl : l.length ≤ 9223372036854775807) :
    Ow true e Rp.int (W.alloc (.cells cs e)) (fun k => B ≤ k) (.slice (some ⟨g, 0, none⟩) l.length l.length) l := by
  subst hg
  exact (ow_ints W l cs hcs hl).mono (fun k hk => by have h : k = _ := hk; omega)
theorem grown_below {w w1 : World} {row : Option Nat} (hg : w.grownBy w1 row) (hr : ∀ k, row = some k → w.heap.size ≤ k) : Below w.heap.size w w1 := below_grown (Below.refl _ _) hg hr (Nat.le_refl _)
theorem int_flat : Rp.Flat Rp.int := Rp.Flat.lit _ _
theorem row_news {α : Type} {r : Rp α} {w : World} {G : Nat → Prop} {b o : Nat} (ys : List α) (h : Rp.Row r w G b o ys) :
    ∃ news : List Value, news.length = ys.length * r.sz ∧ (∀ j u, news[j]? = some u → w.cell? ⟨b, o + j, none⟩ = some u) ∧ (∀ i y, ys[i]? = some y → r.K w G y ((news.drop (i * r.sz)).take r.sz)) ∧ ∀ u ∈ news, u.oneCell' = true := by
  have key : ∀ n, n ≤ ys.length → ∃ news : List Value, news.length = n * r.sz ∧ (∀ j u, news[j]? = some u → w.cell? ⟨b, o + j, none⟩ = some u) ∧ (∀ i y, i < n → ys[i]? = some y → r.K w G y ((news.drop (i * r.sz)).take r.sz)) ∧ ∀ u ∈ news, u.oneCell' = true := by
    intro n
    induction n with
    | zero => intro _; exact ⟨[], by simp, fun j u hu => by simp at hu, fun i y hi _ => by omega, fun u hu => by simp at hu⟩
    | succ n ih =>
      intro hn
      obtain ⟨news, h1, h2, h3, h4⟩ := ih (by omega)
      obtain ⟨cs, hK, hc⟩ := h n ys[n] (List.getElem?_eq_getElem (by omega))
      have hcs := r.len hK
      refine ⟨news ++ cs, by rw [List.length_append, h1, hcs, Nat.succ_mul], fun j u hu => ?_, fun i y hi hy => ?_, fun u hu => ?_⟩
      · by_cases hj : j < news.length
        · rw [List.getElem?_append_left hj] at hu; exact h2 j u hu
        · rw [List.getElem?_append_right (by omega)] at hu
          have := hc _ u hu
          rw [h1] at this hj
          rwa [show n * r.sz + (j - n * r.sz) = j by omega] at this
      · by_cases hin : i < n
        · have hle : i * r.sz + r.sz ≤ news.length := by
            rw [h1]
            calc i * r.sz + r.sz = (i + 1) * r.sz := by rw [Nat.succ_mul]
              _ ≤ n * r.sz := Nat.mul_le_mul_right _ hin
          rw [List.drop_append_of_le_length (by omega), List.take_append_of_le_length (by rw [List.length_drop]; omega)]
          exact h3 i y hin hy
        · obtain rfl : i = n := by omega
          rw [List.getElem?_eq_getElem (by omega)] at hy
          cases hy
          rw [← h1, List.drop_left, List.take_of_length_le (by omega)]
          exact hK
      · rcases List.mem_append.1 hu with hu | hu
        · exact h4 u hu
        · exact r.one hK u hu
  obtain ⟨news, h1, h2, h3, h4⟩ := key ys.length (Nat.le_refl _)
  exact ⟨news, h1, h2, fun i y hy => h3 i y (List.getElem?_eq_some_iff.1 hy).1 hy, h4⟩
theorem owns_unique {w : World} {e : TypeId} {size n : Nat} {v : Value} {xs ys : List Value} (h : w.ownsRow 0 e size v n xs) (k : w.ownsRow 0 e size v n ys) : xs = ys := by
  rcases h.2 with ⟨rfl, hn⟩ | ⟨g, cap, cur, rfl, _, hh, _, _, _, htk⟩
  · have e1 := h.1; have e2 := k.1; rw [hn, Nat.zero_mul] at e1 e2; rw [List.eq_nil_of_length_eq_zero e1, List.eq_nil_of_length_eq_zero e2]
  · rcases k.2 with ⟨hh', _⟩ | ⟨g', cap', cur', he, _, hh', _, _, _, htk'⟩
    · cases hh'
    · injection he with he _ _
      injection he with he
      injection he with he _
      subst he
      rw [hh] at hh'
      injection hh' with hh'
      injection hh' with hh' _
      subst hh'
      exact htk.symm.trans htk'
theorem run_append_none (P : Program) {w : World} (t ty e : TypeId) (i : TypeInfo) (size : Nat) (ht : P.underlying t = some (.slice e)) (hi : P.info? e = some i)
    (v : Value) (n c : Nat) (xs : List Value) (hown : w.ownsRow 0 e size v n xs) :
    (Builtin.append_ #[t, t] ty #[v, .slice none 0 c]).run P w = .ok v w := by
  rcases hown.2 with ⟨rfl, rfl⟩ | ⟨g, cap, cur, rfl, _, _, hnc, _⟩
  · simp [Builtin.append_, run_underlying ht, sizeOf, typeInfo, hi, Builtin.lenOf, Builtin.firstCells]
  · simp [Builtin.append_, run_underlying ht, sizeOf, typeInfo, hi, Builtin.lenOf, Builtin.firstCells, hnc, storeCells]
section
variable {P : Program} {ops : Array Oper} {rest : List Oper} {o : Oper} {a : Act} {Q : Exit → Act → World → Prop} {α : Type} {e : Nat} {r : Rp α} {W : World} {F G : Nat → Prop}
/-- append(s, xs...), xs a slice that is read; what its elements lead to need not be new: the row is loose. -/
theorem ow_appendv (hgd : o.guard = none) (s x : Operand) (t : TypeId) (z : Value) (bytes : Nat)
    (ho : o.op = .call { callee := .builtin .append, args := #[s, x], argTypes := #[t, t] })
    (ht : P.underlying t = some (.slice e)) (hinfo : (P.info? e).map (fun i => (i.zero, i.size, i.bytes)) = some (some z, r.sz, bytes)) (hz : z.cells.size = r.sz) (hsz : 0 < r.sz) (hb0 : 0 < bytes)
    (v vx : Value) (l ys : List α) (hs : a.eval s = v) (hx : a.eval x = vx) (ap : Bool)
    (HO : Ow ap e r W F v l) (HX : Rp.Rd r W G vx ys) (hap : ap = true → Rp.Flat r) (hG : r.Flat ∨ ∀ k, G k → ¬ F k) (hl : (l.length + ys.length) * bytes ≤ 140737488355328)
    (h : ∀ v1 w1, Ow ap e r w1 (fun k => F k ∨ (¬ r.Flat ∧ G k) ∨ W.heap.size ≤ k) v1 (l ++ ys) → W.grownBy w1 v.ownBlock → wpList P ops Q rest (a.put o.dst v1) w1) :
    wpList P ops Q (o :: rest) a W := by
  obtain ⟨i0, hi, hzz⟩ := Option.map_eq_some_iff.1 hinfo
  simp only [Prod.mk.injEq] at hzz
  obtain ⟨hz0, hz1, hz2⟩ := hzz
  have hlen : l.length + ys.length ≤ 140737488355328 := Nat.le_trans (Nat.le_mul_of_pos_right _ hb0) hl
  obtain ⟨xs, hown⟩ := HO.owns
  obtain ⟨A, c, rfl, hlc, hcm, hrow⟩ := HX
  cases A with
  | none =>
    have hnil : ys = [] := by
      rcases hrow with h | ⟨b, o', hh, _⟩
      · exact h
      · cases hh
    subst hnil
    refine wpList_plain hgd fun K hK' => ?_
    have hrun := run_append_none P t o.type e i0 r.sz ht hi v l.length c xs hown
    have hfin := hK' (a.put o.dst v) W (h v W (by rw [List.append_nil]; exact HO.mono (fun k hk => .inl hk)) (World.grownBy.refl _ _))
    unfold Oper.wp
    simp only [execOp, ho, resolve, invoke, builtin, hs, hx, hrun, Result.andThen, List.length_nil, Sem.run_bind, Sem.run_pure, List.map_toArray, List.map_cons, List.map_nil]
    exact hfin
  | some ad =>
    have hrow' : ∃ news : List Value, news.length = ys.length * r.sz ∧ (∀ j u, news[j]? = some u → W.cell? (ad.add j) = some u) ∧ (∀ i y, ys[i]? = some y → r.K W G y ((news.drop (i * r.sz)).take r.sz)) ∧ ∀ u ∈ news, u.oneCell' = true := by
      rcases hrow with rfl | ⟨b, o', hh, _, _, hr⟩
      · exact ⟨[], by simp, fun j u hu => by simp at hu, fun i y hy => by simp at hy, fun u hu => by simp at hu⟩
      · cases hh
        obtain ⟨news, h1, h2, h3, h4⟩ := row_news ys hr
        exact ⟨news, h1, fun j u hu => by rw [Addr.add_lit]; exact h2 j u hu, h3, h4⟩
    obtain ⟨news, n1, n2, n3, n4⟩ := hrow'
    refine wpList_append_own_at W hgd s x t ho 0 e i0 z r.sz bytes ht hi hz0 hz1 hz2 hz hsz v l.length xs hs hown ad ys.length c news hx n1 n2 n4 (by simp only [maxLen]; omega) hl (Nat.zero_le _) ?_
    intro v1 w1 hown1 hg _ hat
    refine h v1 w1 ?_ hg
    have hat' : v1.ownBlock = v.ownBlock ∨ ∃ b, v1.ownBlock = some b ∧ W.heap.size ≤ b := by
      rcases hat with hat | hat
      · exact .inl hat
      · exact .inr ⟨_, hat, Nat.le_refl _⟩
    have hxs : ∀ zs, W.ownsRow 0 e r.sz v l.length zs → w1.ownsRow 0 e r.sz v1 (l.length + ys.length) (zs ++ news) := fun zs hzs => by rw [owns_unique hzs hown]; exact hown1
    by_cases hF : r.Flat
    · exact Ow.snoc (w := W) HO rfl hxs hg hat' (fun _ _ => False) (fun i y hy => hF (n3 i y hy) _ _) (fun _ _ hk => hk.elim) (fun _ _ _ _ hk => hk.elim) (fun k hk => .inl hk) (fun k hk => .inr (.inr hk))
    · have hG' : ∀ k, G k → ¬ F k := hG.resolve_left hF
      exact Ow.snoc (w := W) HO rfl hxs hg hat' (fun _ k => G k) (fun i y hy => n3 i y hy) (fun _ k hk => ⟨hG' k hk, .inr (.inl ⟨hF, hk⟩)⟩) (fun ha => (hF (hap ha)).elim) (fun k hk => .inl hk) (fun k hk => .inr (.inr hk))
end
/-- append(s, xs...) where the elements lead nowhere. -/
theorem ow_appendf {P : Program} {ops : Array Oper} {rest : List Oper} {o : Oper} {a : Act} {Q : Exit → Act → World → Prop} {α : Type} {e : Nat} {r : Rp α} {W : World} {F G : Nat → Prop} (hr : r.Flat) (hgd : o.guard = none) (s x : Operand) (t : TypeId) (z : Value) (bytes : Nat)
    (ho : o.op = .call { callee := .builtin .append, args := #[s, x], argTypes := #[t, t] })
    (ht : P.underlying t = some (.slice e)) (hinfo : (P.info? e).map (fun i => (i.zero, i.size, i.bytes)) = some (some z, r.sz, bytes)) (hz : z.cells.size = r.sz) (hsz : 0 < r.sz) (hb0 : 0 < bytes)
    (v vx : Value) (l ys : List α) (hs : a.eval s = v) (hx : a.eval x = vx) (ap : Bool)
    (HO : Ow ap e r W F v l) (HX : Rp.Rd r W G vx ys) (hl : (l.length + ys.length) * bytes ≤ 140737488355328)
    (h : ∀ v1 w1, Ow ap e r w1 (fun k => F k ∨ W.heap.size ≤ k) v1 (l ++ ys) → W.grownBy w1 v.ownBlock → wpList P ops Q rest (a.put o.dst v1) w1) :
    wpList P ops Q (o :: rest) a W :=
  ow_appendv hgd s x t z bytes ho ht hinfo hz hsz hb0 v vx l ys hs hx ap HO HX (fun _ => hr) (.inl hr) hl
    fun v1 w1 h1 h2 => h v1 w1 (h1.mono (fun k hk => hk.elim .inl (fun hk => hk.elim (fun h => (h.1 hr).elim) .inr))) h2
/-- The same, for a row that began in this call: from block B on. -/
theorem acc_appendf {P : Program} {ops : Array Oper} {rest : List Oper} {o : Oper} {a : Act} {Q : Exit → Act → World → Prop} {α : Type} {e B : Nat} {r : Rp α} {w0 W : World} {G : Nat → Prop} (hr : r.Flat) (hgd : o.guard = none) (s x : Operand) (t : TypeId) (z : Value) (bytes : Nat)
    (ho : o.op = .call { callee := .builtin .append, args := #[s, x], argTypes := #[t, t] })
    (ht : P.underlying t = some (.slice e)) (hinfo : (P.info? e).map (fun i => (i.zero, i.size, i.bytes)) = some (some z, r.sz, bytes)) (hz : z.cells.size = r.sz) (hsz : 0 < r.sz) (hb0 : 0 < bytes)
    (v vx : Value) (l ys : List α) (hs : a.eval s = v) (hx : a.eval x = vx) (ap : Bool)
    (HO : Ow ap e r W (fun k => B ≤ k) v l) (HX : Rp.Rd r W G vx ys) (HB : Below B w0 W) (hB : B ≤ W.heap.size) (hl : (l.length + ys.length) * bytes ≤ 140737488355328)
    (h : ∀ v1 w1, Ow ap e r w1 (fun k => B ≤ k) v1 (l ++ ys) → Below B w0 w1 → B ≤ w1.heap.size → wpList P ops Q rest (a.put o.dst v1) w1) :
    wpList P ops Q (o :: rest) a W :=
  ow_appendf hr hgd s x t z bytes ho ht hinfo hz hsz hb0 v vx l ys hs hx ap HO HX hl
    fun v1 w1 h1 h2 => h v1 w1 (h1.mono (fun k hk => hk.elim id (fun hk => Nat.le_trans hB hk))) (below_grown HB h2 (fun k hk => (HO.lt_size hk).1) hB) (Nat.le_trans hB h2.size)
theorem acc_append1 {P : Program} {ops : Array Oper} {rest : List Oper} {o : Oper} {a : Act} {Q : Exit → Act → World → Prop} {α : Type} {e B : Nat} {r : Rp α} {w0 W : World} (hr : r.Flat) (hgd : o.guard = none) (s x : Operand) (t : TypeId) (z : Value) (bytes : Nat)
    (ho : o.op = .call { callee := .builtin .append, args := #[s, x], argTypes := #[t, t] })
    (ht : P.underlying t = some (.slice e)) (hinfo : (P.info? e).map (fun i => (i.zero, i.size, i.bytes)) = some (some z, r.sz, bytes)) (hz : z.cells.size = r.sz) (hsz : 0 < r.sz) (hb0 : 0 < bytes)
    (v : Value) (l : List α) (y : α) (us : List Value) (hs : a.eval s = v) (hx : a.eval x = .slice (some ⟨W.heap.size, 0, none⟩) 1 1) (ap : Bool)
    (HO : Ow ap e r W (fun k => B ≤ k) v l) (hy : r.K W (fun _ => False) y us) (HB : Below B w0 W) (hB : B ≤ W.heap.size) (hl : (l.length + 1) * bytes ≤ 140737488355328)
    (h : ∀ v1 w1, Ow ap e r w1 (fun k => B ≤ k) v1 (l ++ [y]) → Below B w0 w1 → B ≤ w1.heap.size → wpList P ops Q rest (a.put o.dst v1) w1) :
    wpList P ops Q (o :: rest) a (W.alloc (.cells us.toArray e)) :=
  ow_append1 hgd s x t z bytes ho ht hinfo hz hsz hb0 v l y us hs hx HO hy (fun _ h => h.elim) hl
    fun v1 w1 h1 h2 => h v1 w1 (h1.mono (fun k hk => hk.elim id (fun hk => hk.elim (fun h => h.elim) (fun hk => Nat.le_trans hB hk)))) (below_grown HB h2 (fun k hk => (HO.lt_size hk).1) hB) (Nat.le_trans hB h2.size)
namespace Rp.Rd
variable {α : Type} {r : Rp α} {w : World} {F : Nat → Prop} {l : List α} {A : Option Addr} {n c : Nat}
theorem take (h : Rp.Rd r w F (.slice A n c) l) (k : Nat) (hk : k ≤ n) : Rp.Rd r w F (.slice A k c) (l.take k) := by
  obtain ⟨A', c', he, hl, hm, h⟩ := h
  injection he with h1 h2 h3
  subst h1 h2 h3
  refine ⟨_, _, by rw [List.length_take, Nat.min_eq_left hk], by rw [List.length_take]; omega, hm, ?_⟩
  rcases h with rfl | ⟨b, o, rfl, hb, hlt, h⟩
  · left; simp
  · exact .inr ⟨b, o, rfl, hb, hlt, fun i x hx => h i x (by rw [List.getElem?_take] at hx; split at hx; exact hx; cases hx)⟩
theorem drop (h : Rp.Rd r w F (.slice A n c) l) (hsz : r.sz = 1) (k : Nat) (hk : k ≤ n) : Rp.Rd r w F (.slice (if c = k then A else A.map (·.add k)) (n - k) (c - k)) (l.drop k) := by
  obtain ⟨A', c', he, hl, hm, h⟩ := h
  injection he with h1 h2 h3
  subst h1 h2 h3
  refine ⟨_, _, by rw [List.length_drop], by rw [List.length_drop]; omega, by omega, ?_⟩
  by_cases hck : c = k
  · left; rw [List.drop_eq_nil_of_le (by omega)]
  · rcases h with rfl | ⟨b, o, rfl, hb, hlt, h⟩
    · left; simp
    · refine .inr ⟨b, o + k, by rw [if_neg hck, Option.map_some, Addr.add_lit], hb, hlt, fun i x hx => ?_⟩
      rw [List.getElem?_drop] at hx
      obtain ⟨cs, hK, hc⟩ := h (k + i) x hx
      refine ⟨cs, hK, fun j u hu => ?_⟩
      have := hc j u hu
      rw [hsz, Nat.mul_one] at this ⊢
      rwa [show o + k + (i + j) = o + (k + i + j) by omega]
theorem drop_lt {b o : Nat} (h : Rp.Rd r w F (.slice (some ⟨b, o, none⟩) n c) l) (hsz : r.sz = 1) (k : Nat) (hk : k ≤ n) (hc : k < c) : Rp.Rd r w F (.slice (some ⟨b, o + k, none⟩) (n - k) (c - k)) (l.drop k) := by
  have := h.drop hsz k hk
  rwa [if_neg (by omega), Option.map_some, Addr.add_lit] at this
theorem drop_eq {b o : Nat} (h : Rp.Rd r w F (.slice (some ⟨b, o, none⟩) n c) l) (hsz : r.sz = 1) (k : Nat) (hk : k ≤ n) (hc : c = k) : Rp.Rd r w F (.slice (some ⟨b, o, none⟩) (n - k) (c - k)) (l.drop k) := by
  have := h.drop hsz k hk
  rwa [if_pos hc] at this
end Rp.Rd
end Go.Proofs.YtnfaibenekninaaGreat.L

set_option linter.unusedVariables false
namespace Go.Proofs.YtnfaibenekninaaGreat.L
open Go.RowKit
section
variable {α : Type} {ap : Bool} {e : Nat} {r : Rp α} {w w1 : World} {F : Nat → Prop} {v : Value} {l : List α} {k : Nat}
theorem own_in (h : Ow ap e r w F v l) (hk : some k = v.ownBlock ∨ v.ownBlock = some k) : F k := (h.lt_size (hk.elim Eq.symm id)).1
theorem own_ne (h : Ow ap e r w F v l) (hk : ¬ F k) : some k ≠ v.ownBlock := fun he => hk (h.lt_size he.symm).1
theorem grown_blk {row : Option Nat} (h : w.grownBy w1 row) {o : Obj} (hk : w.heap[k]? = some o) (hne : some k ≠ row) : w1.heap[k]? = some o := (h.block k (blk_lt hk) hne).trans hk
theorem Ow.form1 {x : α} (h : Ow ap e r w F v (l ++ [x])) : ∃ A c, v = .slice A (l.length + 1) c ∧ l.length + 1 ≤ c ∧ c ≤ maxLen := by
  have := h.form
  rwa [List.length_append] at this
theorem Ow.set_other (h : Ow ap e r w F v l) {b o : Nat} {u : Value} (hb : ¬ F b) : Ow ap e r (w.setCell ⟨b, o, none⟩ u) F v l := h.move (fun q hq _ => heap_setCell_other w ⟨b, o, none⟩ q u (fun he => hb (by have he : q = b := he; rw [← he]; exact hq)))
theorem Rp.Rd.set_other (h : Rp.Rd r w F v l) {b o : Nat} {u : Value} (hb : ¬ F b) : Rp.Rd r (w.setCell ⟨b, o, none⟩ u) F v l := h.move (fun q hq _ => heap_setCell_other w ⟨b, o, none⟩ q u (fun he => hb (by have he : q = b := he; rw [← he]; exact hq)))
end
/-- An element of a row whose elements may share: it is stored anew. -/
theorem Ow.putS {α : Type} {e : Nat} {r : Rp α} {w : World} {F G : Nat → Prop} {v : Value} {l : List α} (h : Ow false e r w F v l) {g n c : Nat} (hv : v = .slice (some ⟨g, 0, none⟩) n c) {i : Nat} (hi : i < l.length) {y : α} {us : List Value} (hy : r.K w G y us) (hG : ∀ k, G k → k ≠ g) :
    Ow false e r (putRow w g (i * r.sz) us) (fun k => F k ∨ G k) v (l.set i y) := by
  obtain ⟨φ, xs, h1, h2, h3, h4, h5⟩ := h
  subst hv
  obtain rfl : n = l.length := by
    rcases h1.2 with ⟨hh, _⟩ | ⟨g', cap', cur', hh, _⟩
    · cases hh
    · injection hh
  have hg : F g := h2 g (by simp [Value.ownBlock])
  have hp := putRow_owns us w xs (i * r.sz) h1
  have hus : us.length = r.sz := r.len hy
  refine ⟨fun j k => if j = i then G k else φ j k, seg xs (i * r.sz) us, by rw [List.length_set]; exact hp.1, fun k hk => .inl (h2 k hk), ?_, (fun h => by cases h), ?_⟩
  · intro j k hk
    split at hk
    · exact ⟨.inr hk, fun he => hG k hk (by simpa [Value.ownBlock] using he.symm)⟩
    · exact ⟨.inl (h3 j k hk).1, (h3 j k hk).2⟩
  · intro j x hx
    rw [List.getElem?_set] at hx
    have hjl : j < l.length := by
      rcases Nat.lt_or_ge j l.length with hh | hh
      · exact hh
      · split at hx
        · omega
        · rw [List.getElem?_eq_none hh] at hx; cases hx
    rw [seg_drop h1.1 hi hus j hjl]
    by_cases hji : j = i
    · subst hji
      rw [if_pos rfl, if_pos hi] at hx
      cases hx
      simp only [if_true]
      refine r.move (fun k hk hlt => hp.2.block k hlt (fun he => by cases he; exact hG _ hk rfl)) hy
    · rw [if_neg (fun h => hji h.symm)] at hx
      simp only [if_neg hji]
      refine r.move (fun k hk hlt => hp.2.block k hlt (fun he => by cases he; exact (h3 j _ hk).2 (by simp [Value.ownBlock]))) (h5 j x hx)
/-- The same for elements of one cell. -/
theorem Ow.putS1 {α : Type} {e : Nat} {r : Rp α} {w : World} {F G : Nat → Prop} {l : List α} {g n c : Nat} (h : Ow false e r w F (.slice (some ⟨g, 0, none⟩) n c) l) (h1 : r.sz = 1) {i : Nat} (hi : i < l.length) {y : α} {u : Value} (hy : r.K w G y [u]) (hG : ∀ k, G k → k ≠ g) :
    Ow false e r (w.setCell ⟨g, i, none⟩ u) (fun k => F k ∨ G k) (.slice (some ⟨g, 0, none⟩) n c) (l.set i y) := by
  have hp := h.putS rfl hi hy hG
  rw [h1, Nat.mul_one] at hp
  exact hp
/-- An element of a row of slices. -/
theorem Ow.sl_at {α : Type} {ap : Bool} {e : Nat} {r : Rp α} {w : World} {F : Nat → Prop} {l : List (List α)} {g n c : Nat} (h : Ow ap e (Rp.sl r) w F (.slice (some ⟨g, 0, none⟩) n c) l) {k : Nat} (hk : k < l.length) :
    ∃ u, w.cell? ⟨g, k, none⟩ = some u ∧ w.frozen? ⟨g, k, none⟩ = false ∧ Rp.Rd r w (fun q => F q ∧ q ≠ g) u l[k] := by
  obtain ⟨g', c', cs, he, _, _, hK, hc, hf⟩ := h.at_ (List.getElem?_eq_getElem hk)
  injection he with he _ _
  injection he with he
  injection he with he _
  subst he
  obtain ⟨u, rfl, hu⟩ := hK
  have := hc 0 _ rfl
  rw [show k * (Rp.sl r).sz + 0 = k from by show k * 1 + 0 = k; omega] at this
  exact ⟨u, this, hf k, hu⟩
theorem ow_empty {α : Type} {ap : Bool} {e : Nat} {r : Rp α} {w : World} {b : Nat} (h : w.heap[b]? = some (.cells #[] e (0, 0))) : Ow ap e r w (fun k => k = b) (.slice (some ⟨b, 0, none⟩) 0 0) [] :=
  ⟨fun _ _ => False, [], ⟨by simp, .inr ⟨b, 0, #[], rfl, Nat.zero_le _, h, Nat.le_refl _, by unfold maxLen; omega, by simp, by simp⟩⟩, fun k hk => by simp [Value.ownBlock] at hk; omega, fun _ _ h => h.elim, fun _ _ _ _ h => h.elim, fun i x hx => by simp at hx⟩
end Go.Proofs.YtnfaibenekninaaGreat.L

set_option linter.unusedVariables false
namespace Go.Proofs.YtnfaibenekninaaGreat.L
open Go.RowKit
section
variable {ops : Array Oper} {rest : List Oper} {o : Oper} {a : Act} {Q : Exit → Act → World → Prop} {ap : Bool} {W : World} {F G : Nat → Prop}
/-- append(s, y) of a number. -/
theorem app_int (hgd : o.guard = none) (s x : Operand) (ho : o.op = .call { callee := .builtin .append, args := #[s, x], argTypes := #[59, 59] }) (v : Value) (l : List Int) (y : Int) (g : Nat) (hg0 : g = W.heap.size) (hs : a.eval s = v) (hx : a.eval x = .slice (some ⟨g, 0, none⟩) 1 1)
    (HO : Ow ap 3 Rp.int W F v l) (hl : l.length + 1 ≤ 1000000000)
    (h : ∀ A c w1, Ow ap 3 Rp.int w1 (fun k => F k ∨ W.heap.size ≤ k) (.slice A (l.length + 1) c) (l ++ [y]) → W.grownBy w1 v.ownBlock → wpList Tryz.prog ops Q rest (a.put o.dst (.slice A (l.length + 1) c)) w1) :
    wpList Tryz.prog ops Q (o :: rest) a (W.alloc (.cells #[.int .i64 y] 3)) := by
  subst hg0
  refine ow_append1 (r := Rp.int) (G := fun _ => False) (us := [.int .i64 y]) hgd s x 59 (.int .i64 0) 8 ho Tryz.underlying59 infoInt rfl (by decide) (by omega) v l y hs hx HO rfl (fun _ h => h.elim) (by omega) ?_
  intro v1 w1 HO1 hg1
  obtain ⟨A, c, rfl, _⟩ := HO1.form1
  exact h A c w1 (HO1.mono (fun q hq => by rcases hq with hq | hq | hq; exact .inl hq; exact hq.elim; exact .inr hq)) hg1
/-- append(s, xs...) of numbers. -/
theorem app_ints (hgd : o.guard = none) (s x : Operand) (ho : o.op = .call { callee := .builtin .append, args := #[s, x], argTypes := #[59, 59] }) (v vx : Value) (l ys : List Int) (hs : a.eval s = v) (hx : a.eval x = vx)
    (HO : Ow ap 3 Rp.int W F v l) (HX : Rp.Rd Rp.int W G vx ys) (hl : l.length + ys.length ≤ 1000000000)
    (h : ∀ A c w1, Ow ap 3 Rp.int w1 (fun k => F k ∨ W.heap.size ≤ k) (.slice A (l.length + ys.length) c) (l ++ ys) → W.grownBy w1 v.ownBlock → wpList Tryz.prog ops Q rest (a.put o.dst (.slice A (l.length + ys.length) c)) w1) :
    wpList Tryz.prog ops Q (o :: rest) a W := by
  refine ow_appendf (r := Rp.int) int_flat hgd s x 59 (.int .i64 0) 8 ho Tryz.underlying59 infoInt rfl (by decide) (by omega) v vx l ys hs hx ap HO HX (by omega) ?_
  intro v1 w1 HO1 hg1
  obtain ⟨A, c, hv, _⟩ := HO1.form
  rw [List.length_append] at hv
  subst hv
  exact h A c w1 HO1 hg1
end
end Go.Proofs.YtnfaibenekninaaGreat.L

set_option linter.unusedVariables false
namespace Go.Proofs.YtnfaibenekninaaGreat.L
open Go.RowKit
/-- Of the old blocks only those of A may have changed. -/
structure Chg (A : Nat → Prop) (w w' : World) : Prop where
  os : w'.os = w.os
  tape : w'.tape = w.tape
  output : w'.output = w.output
  size : w.heap.size ≤ w'.heap.size
  block : ∀ k, k < w.heap.size → ¬ A k → w'.heap[k]? = w.heap[k]?
namespace Chg
variable {A : Nat → Prop} {w w1 w2 : World}
theorem refl (A : Nat → Prop) (w : World) : Chg A w w := ⟨rfl, rfl, rfl, Nat.le_refl _, fun _ _ _ => rfl⟩
theorem trans (h : Chg A w w1) (k : Chg A w1 w2) : Chg A w w2 := ⟨k.os.trans h.os, k.tape.trans h.tape, k.output.trans h.output, Nat.le_trans h.size k.size, fun q hq hA => (k.block q (Nat.lt_of_lt_of_le hq h.size) hA).trans (h.block q hq hA)⟩
theorem of_below (h : Below w.heap.size w w1) : Chg A w w1 := ⟨h.os, h.tape, h.output, h.size, fun q hq _ => h.block q hq⟩
theorem drewN (n : Nat) : Chg A w (w.drewN n) := ⟨rfl, rfl, rfl, Nat.le_refl _, fun _ _ _ => rfl⟩
theorem set {b o : Nat} {u : Value} (hb : A b) : Chg A w (w.setCell ⟨b, o, none⟩ u) := ⟨rfl, rfl, rfl, by simp, fun q _ hA => heap_setCell_other w ⟨b, o, none⟩ q u (fun he => hA (by have he : q = b := he; rw [he]; exact hb))⟩
theorem to_below {B : Nat} {w0 : World} (h : Chg A w w1) (h0 : Below B w0 w) (hB : B ≤ w.heap.size) (hA : ∀ q, A q → B ≤ q) : Below B w0 w1 :=
  ⟨h.os.trans h0.os, h.tape.trans h0.tape, h.output.trans h0.output, Nat.le_trans h0.size h.size, fun q hq => (h.block q (by omega) (fun h => by have := hA q h; omega)).trans (h0.block q hq)⟩
theorem same {F : Nat → Prop} (h : Chg A w w1) (hF : ∀ q, F q → ¬ A q) : Same F w w1 := fun q hq hlt => h.block q hlt (hF q hq)
theorem blk {k : Nat} {o : Obj} (h : Chg A w w1) (hk : w.heap[k]? = some o) (hA : ¬ A k) : w1.heap[k]? = some o := (h.block k (blk_lt hk) hA).trans hk
theorem mono {A' : Nat → Prop} (h : Chg A w w1) (hA : ∀ q, A q → A' q) : Chg A' w w1 := ⟨h.os, h.tape, h.output, h.size, fun q hq hn => h.block q hq (fun h => hn (hA q h))⟩
end Chg
end Go.Proofs.YtnfaibenekninaaGreat.L

set_option linter.unusedVariables false
set_option linter.unusedSimpArgs false
namespace Go.Proofs.YtnfaibenekninaaGreat.L
open Go.RowKit
theorem l1In_calls (a b c : Int) (w : World) : Calls Tryz.prog 47 #[.int .i64 a, .int .i64 b, .int .i64 c] w fun e w' => e = .returned (.bool (inB a b c)) ∧ w = w' := by
  go_enter Tryz.func47, Tryz.ntmps47
  go_wp2
  all_goals
    go_ret
    simp [inB, *]
    try omega
theorem l6Name_calls (a : Int) (w : World) : Calls Tryz.prog 141 #[.int .i64 a] w fun e w' => e = .returned (.bool (inB a 0 11)) ∧ w = w' := by
  go_enter Tryz.func141, Tryz.ntmps141
  go_wp2_with (go_at_call 47; refine (l1In_calls _ _ _ _).mono ?_; rintro e w' ⟨rfl, rfl⟩)
  go_ret
  exact ⟨rfl, rfl⟩
def sFlatB (x : Fl) : Bool :=
  !(x.op != 3 && x.dO != 0 || x.op != 1 && x.n != 0) &&
  (if x.op == 1 then inB x.dst 0 11 && x.a == 0 && x.b == 0 && inB x.n 0 65535
   else if x.op == 2 || x.op == 4 then inB x.dst 0 11 && inB x.a 0 11 && x.b == 0
   else if x.op == 3 then inB x.dst 0 11 && inB x.a 0 11 && inB x.b 0 11 && inB x.dO 4 9
   else if x.op == 5 then x.dst == 0 && inB x.a 0 11 && inB x.b 0 11
   else x.op == 6 && x.dst == 0 && inB x.a 0 11 && x.b == 0)
set_option maxHeartbeats 1000000 in
theorem l6Flat_calls (x : Fl) (w : World) : Calls Tryz.prog 97 #[flV x] w fun e w' => e = .returned (.bool (sFlatB x)) ∧ Below w.heap.size w w' := by
  unfold flV
  go_enter Tryz.func97, Tryz.ntmps97
  go_wp2_with (first | (go_at_call 141; refine (l6Name_calls _ _).mono ?_; rintro e w' ⟨rfl, rfl⟩) | (go_at_call 47; refine (l1In_calls _ _ _ _).mono ?_; rintro e w' ⟨rfl, rfl⟩))
  all_goals
    go_ret
    refine ⟨ret_bool ?_, (Below.refl _ _).alloc (Nat.le_refl _) _⟩
    simp_all [sFlatB]
end Go.Proofs.YtnfaibenekninaaGreat.L

set_option linter.unusedVariables false
set_option linter.unusedSimpArgs false
namespace Go.Proofs.YtnfaibenekninaaGreat.L
open Go.RowKit
theorem l9Sets_calls (o : Int) (w : World) : Calls Tryz.prog 37 #[.int .i64 o] w fun e w' => e = .returned (.bool (inB o 1 4)) ∧ w = w' := by
  go_enter Tryz.func37, Tryz.ntmps37
  go_wp2_with (go_at_call 47; refine (l1In_calls _ _ _ _).mono ?_; rintro e w' ⟨rfl, rfl⟩)
  go_ret
  exact ⟨rfl, rfl⟩
set_option maxHeartbeats 1000000 in
theorem l1Has_calls {F : Nat → Prop} (v : Value) (l : List Int) (n : Int) (w : World) (h : Rp.Rd Rp.int w F v l) :
    Calls Tryz.prog 101 #[v, .int .i64 n] w fun e w' => e = .returned (.bool (l.contains n)) ∧ Below w.heap.size w w' := by
  obtain ⟨A, c, rfl, hlc, hcm, hrow⟩ := rd_int h
  go_enter Tryz.func101, Tryz.ntmps101
  go_wp2
  go_loopw [9] (fun i wr => ∃ k : Nat, k ≤ l.length ∧ i = .int .i64 k ∧ Hid (∀ (j : Nat) (hj : j < l.length), j < k → l[j] ≠ n) ∧ Below w.heap.size w wr) (fun i _ => l.length - (intOf i).toNat)
  case atStart => exact ⟨0, Nat.zero_le _, rfl, Lib.hid (fun j _ hj => by omega), Below.refl _ _⟩
  case round =>
    obtain ⟨k, hk, rfl, HN, HB⟩ := hrel
    by_cases hlt : k < l.length
    · rcases hrow with rfl | ⟨b, o, rfl, hb, hcell⟩
      · simp at hlt
      have c1 := cell_below HB (hcell k hlt)
      clear hcell
      by_cases he : l[k] = n
      · have ht : (l[k] == n) = true := by simpa using he
        have HE := Lib.hid he
        clear he
        go_wp2
        go_ret
        exact ⟨ret_bool (by symm; rw [List.contains_iff_mem]; exact HE.out ▸ List.getElem_mem hlt), HB⟩
      · have ht : (l[k] == n) = false := by simpa using he
        have HE := Lib.hid he
        clear he
        go_wp2
        go_roundw
        case rel => exact ⟨k + 1, by omega, by go_num, Lib.hid (fun j hj hjk => (Nat.lt_or_eq_of_le (Nat.le_of_lt_succ hjk)).elim (fun h => HN.out j hj h) (fun h => by subst h; exact HE.out)), HB⟩
        case measure => simp [intOf]; omega
    · obtain rfl : k = l.length := by omega
      go_wp2
      go_ret
      refine ⟨ret_bool ?_, HB⟩
      symm
      rw [Bool.eq_false_iff]
      intro hc
      rw [List.contains_iff_mem] at hc
      obtain ⟨j, hj, hjn⟩ := List.getElem_of_mem hc
      exact HN.out j hj hj hjn
def usesS (x : Fl) : List Int := if x.op == 1 then [] else if x.op == 3 || x.op == 5 then [x.a, x.b] else [x.a]
set_option maxHeartbeats 1000000 in
theorem l9Uses_calls (x : Fl) (w : World) : Calls Tryz.prog 53 #[flV x] w fun e w' => ∃ v', e = .returned v' ∧ Ow true 3 Rp.int w' (fun k => w.heap.size ≤ k) v' (usesS x) ∧ Below w.heap.size w w' := by
  have key : x.op = 1 ∨ ((x.op == 1) = false ∧ (x.op == 3) = true) ∨ ((x.op == 1) = false ∧ (x.op == 3) = false ∧ (x.op == 5) = true) ∨ ((x.op == 1) = false ∧ (x.op == 3) = false ∧ (x.op == 5) = false) := by
    simp; omega
  unfold flV
  rcases key with h | ⟨h1, h2⟩ | ⟨h1, h2, h3⟩ | ⟨h1, h2, h3⟩
  · have HU : Hid (usesS x = []) := Lib.hid (by unfold usesS; simp [h])
    have ht : (x.op == 1) = true := by simpa using h
    clear h
    go_enter Tryz.func53, Tryz.ntmps53
    go_wp2
    go_ret
    exact ⟨_, rfl, by rw [HU.out]; exact Ow.nil _ _ _ _ _, below_new _⟩
  · have HU : Hid (usesS x = [x.a, x.b]) := Lib.hid (by unfold usesS; simp [h1, h2])
    go_enter Tryz.func53, Tryz.ntmps53
    go_wp2
    go_ret
    exact ⟨_, rfl, by rw [HU.out]; exact ow_intsG (by simp) (by omega) [x.a, x.b] _ rfl (by simp), (below_new _).alloc (by simp) _⟩
  · have HU : Hid (usesS x = [x.a, x.b]) := Lib.hid (by unfold usesS; simp [h1, h2, h3])
    go_enter Tryz.func53, Tryz.ntmps53
    go_wp2
    go_ret
    exact ⟨_, rfl, by rw [HU.out]; exact ow_intsG (by simp) (by omega) [x.a, x.b] _ rfl (by simp), (below_new _).alloc (by simp) _⟩
  · have HU : Hid (usesS x = [x.a]) := Lib.hid (by unfold usesS; simp [h1, h2, h3])
    go_enter Tryz.func53, Tryz.ntmps53
    go_wp2
    go_ret
    exact ⟨_, rfl, by rw [HU.out]; exact ow_intsG (by simp) (by omega) [x.a] _ rfl (by simp), (below_new _).alloc (by simp) _⟩
def putL : List Int → Int → List Int
  | [], n => [n]
  | x :: t, n => if x < n then x :: putL t n else if x = n then x :: t else n :: x :: t
theorem putL_take (l : List Int) (n : Int) (k : Nat) (h : ∀ (j : Nat) (hj : j < l.length), j < k → l[j] < n) : putL l n = l.take k ++ putL (l.drop k) n := by
  induction k generalizing l with
  | zero => simp
  | succ k ih =>
    cases l with
    | nil => simp
    | cons x t =>
      have hx : x < n := h 0 (by simp) (by omega)
      simp only [putL, List.take_succ_cons, List.drop_succ_cons, List.cons_append]
      rw [if_pos hx, ih t (fun j hj hjk => h (j + 1) (by simp; omega) (by omega))]
theorem putL_length (l : List Int) (n : Int) : (putL l n).length ≤ l.length + 1 := by
  induction l with
  | nil => simp [putL]
  | cons x t ih => simp only [putL]; split; simp; omega; split <;> simp
theorem mem_putL (l : List Int) (n x : Int) : x ∈ putL l n ↔ x = n ∨ x ∈ l := by
  induction l with
  | nil => simp [putL]
  | cons y t ih =>
    simp only [putL]
    split
    · simp only [List.mem_cons, ih]
      constructor
      · rintro (h | h | h) <;> simp [h]
      · rintro (h | h | h) <;> simp [h]
    · split
      · rename_i h1 h2; subst h2; simp
      · simp
set_option maxRecDepth 100000 in
set_option maxHeartbeats 2000000 in
theorem l1Put_calls {F : Nat → Prop} (v : Value) (l : List Int) (n : Int) (w : World) (h : Rp.Rd Rp.int w F v l) (hl : l.length ≤ 1048576) :
    Calls Tryz.prog 99 #[v, .int .i64 n] w fun e w' => ∃ v', e = .returned v' ∧ Rp.Rd Rp.int w' (fun k => F k ∨ w.heap.size ≤ k) v' (putL l n) ∧ Below w.heap.size w w' := by
  have hR := h
  obtain ⟨A, c, rfl, hlc, hcm, hrow⟩ := rd_int h
  go_enter Tryz.func99, Tryz.ntmps99
  go_wp2
  go_loopw [5] (fun i wr => ∃ k : Nat, k ≤ l.length ∧ i = .int .i64 k ∧ Hid (∀ (j : Nat) (hj : j < l.length), j < k → l[j] < n) ∧ Below w.heap.size w wr) (fun i _ => l.length - (intOf i).toNat)
  case atStart => exact ⟨0, Nat.zero_le _, rfl, Lib.hid (fun j _ hj => by omega), Below.refl _ _⟩
  case round =>
    obtain ⟨k, hk, rfl, HN, HB⟩ := hrel
    have HP : Hid (putL l n = l.take k ++ putL (l.drop k) n) := Lib.hid (putL_take l n k HN.out)
    have HR := hR.below HB
    by_cases hlt : k < l.length
    · rcases hrow with rfl | ⟨b, o, rfl, hb, hcell⟩
      · simp at hlt
      have c1 := cell_below HB (hcell k hlt)
      clear hcell
      have i0 : (0 : Int) ≤ (k : Int) := Int.natCast_nonneg _
      have i1 : (k : Int) < (l.length : Int) := by omega
      by_cases he : l[k] < n
      · have ht : decide (l[k] < n) = true := decide_eq_true he
        have HE := Lib.hid he
        clear he
        go_wp2
        go_roundw
        case rel => exact ⟨k + 1, by omega, by go_num, Lib.hid (fun j hj hjk => (Nat.lt_or_eq_of_le (Nat.le_of_lt_succ hjk)).elim (fun h => HN.out j hj h) (fun h => by subst h; exact HE.out)), HB⟩
        case measure => simp [intOf]; omega
      · have ht : decide (l[k] < n) = false := decide_eq_false he
        by_cases he2 : l[k] = n
        · have ht2 : (l[k] == n) = true := by simpa using he2
          have HF : Hid (putL l n = l) := Lib.hid (by rw [HP.out, List.drop_eq_getElem_cons hlt, putL, if_neg he, if_pos he2, ← List.drop_eq_getElem_cons hlt, List.take_append_drop])
          clear he he2
          go_wp2
          go_ret
          exact ⟨_, rfl, by rw [HF.out]; exact HR.mono (fun _ h => .inl h), HB⟩
        · have ht2 : (l[k] == n) = false := by simpa using he2
          have HF : Hid (putL l n = l.take k ++ [n] ++ l.drop k) := Lib.hid (by rw [HP.out, List.drop_eq_getElem_cons hlt, putL, if_neg he, if_neg he2]; simp)
          clear he he2
          have HT := HR.take k (by omega)
          have HD := hR.drop_lt rfl k (by omega) (by omega)
          have hB0 := HB.size
          have tok1 : True := trivial
          go_wp2_with (first | (at_builtin; have _t := tok1; refine acc_appendf (r := Rp.int) (e := 3) int_flat (by rfl) _ _ 59 (.int .i64 0) 8 (by rfl) Tryz.underlying59 infoInt rfl (by decide) (by omega) (.slice none 0 0) _ [] (l.take k) (by rfl) (by rfl) true (Ow.nil _ _ _ _ (fun k => w.heap.size ≤ k)) HT HB hB0 (by simp; omega) ?_; intro v1 w1 HO1 HB1 hB1; clear tok1) | (at_builtin; have _t := HO1; refine acc_append1 (r := Rp.int) (e := 3) int_flat (by rfl) _ _ 59 (.int .i64 0) 8 (by rfl) Tryz.underlying59 infoInt rfl (by decide) (by omega) v1 (l.take k) n [.int .i64 n] (by rfl) (by rfl) true HO1 rfl HB1 hB1 (by simp; omega) ?_; intro v2 w2 HO2 HB2 hB2; clear HO1; have HD2 := HD.below HB2) | (at_builtin; have _t := HO2; refine acc_appendf (r := Rp.int) (e := 3) int_flat (by rfl) _ _ 59 (.int .i64 0) 8 (by rfl) Tryz.underlying59 infoInt rfl (by decide) (by omega) v2 _ (l.take k ++ [n]) (l.drop k) (by rfl) (by rfl) true HO2 HD2 HB2 hB2 (by simp; omega) ?_; intro v3 w3 HO3 HB3 hB3; clear HO2))
          go_ret
          exact ⟨_, rfl, by rw [HF.out]; exact HO3.rd.mono (fun _ h => .inr h), HB3⟩
    · obtain rfl : k = l.length := by omega
      have HF : Hid (putL l n = l ++ [n] ++ []) := Lib.hid (by rw [HP.out, List.drop_length]; simp [putL])
      have HE : ∀ (A' : Option Addr) (c' : Nat) (W : World), c' ≤ 9223372036854775807 → Rp.Rd Rp.int W F (.slice A' 0 c') [] := fun A' c' W hc' => ⟨A', c', rfl, Nat.zero_le _, hc', .inl rfl⟩
      clear hlt hk hrow h hR
      have hB0 := HB.size
      have tok1 : True := trivial
      by_cases hc0 : c = l.length
      · subst hc0
        go_wp2_with (first | (at_builtin; have _t := tok1; refine acc_appendf (r := Rp.int) (e := 3) int_flat (by rfl) _ _ 59 (.int .i64 0) 8 (by rfl) Tryz.underlying59 infoInt rfl (by decide) (by omega) (.slice none 0 0) (.slice A l.length l.length) [] l (by rfl) (by rfl) true (Ow.nil _ _ _ _ (fun k => w.heap.size ≤ k)) HR HB hB0 (by first | omega | (simp; omega)) ?_; intro v1 w1 HO1 HB1 hB1; clear tok1) | (at_builtin; have _t := HO1; refine acc_append1 (r := Rp.int) (e := 3) int_flat (by rfl) _ _ 59 (.int .i64 0) 8 (by rfl) Tryz.underlying59 infoInt rfl (by decide) (by omega) v1 l n [.int .i64 n] (by rfl) (by rfl) true HO1 rfl HB1 hB1 (by first | omega | (simp; omega)) ?_; intro v2 w2 HO2 HB2 hB2; clear HO1) | (at_builtin; have _t := HO2; refine acc_appendf (r := Rp.int) (e := 3) int_flat (by rfl) _ _ 59 (.int .i64 0) 8 (by rfl) Tryz.underlying59 infoInt rfl (by decide) (by omega) v2 (.slice A 0 0) (l ++ [n]) [] (by rfl) (by rfl) true HO2 (HE _ _ _ (by omega)) HB2 hB2 (by first | omega | (simp; omega)) ?_; intro v3 w3 HO3 HB3 hB3; clear HO2))
        go_ret
        exact ⟨_, rfl, by rw [HF.out]; exact HO3.rd.mono (fun _ h => .inr h), HB3⟩
      · have hc1 : l.length < c := by omega
        cases A with
        | none =>
          go_wp2_with (first | (at_builtin; have _t := tok1; refine acc_appendf (r := Rp.int) (e := 3) int_flat (by rfl) _ _ 59 (.int .i64 0) 8 (by rfl) Tryz.underlying59 infoInt rfl (by decide) (by omega) (.slice none 0 0) (.slice none l.length c) [] l (by rfl) (by rfl) true (Ow.nil _ _ _ _ (fun k => w.heap.size ≤ k)) HR HB hB0 (by first | omega | (simp; omega)) ?_; intro v1 w1 HO1 HB1 hB1; clear tok1) | (at_builtin; have _t := HO1; refine acc_append1 (r := Rp.int) (e := 3) int_flat (by rfl) _ _ 59 (.int .i64 0) 8 (by rfl) Tryz.underlying59 infoInt rfl (by decide) (by omega) v1 l n [.int .i64 n] (by rfl) (by rfl) true HO1 rfl HB1 hB1 (by first | omega | (simp; omega)) ?_; intro v2 w2 HO2 HB2 hB2; clear HO1) | (at_builtin; have _t := HO2; refine acc_appendf (r := Rp.int) (e := 3) int_flat (by rfl) _ _ 59 (.int .i64 0) 8 (by rfl) Tryz.underlying59 infoInt rfl (by decide) (by omega) v2 (.slice none 0 (c - l.length)) (l ++ [n]) [] (by rfl) (by rfl) true HO2 (HE _ _ _ (by omega)) HB2 hB2 (by first | omega | (simp; omega)) ?_; intro v3 w3 HO3 HB3 hB3; clear HO2))
          go_ret
          exact ⟨_, rfl, by rw [HF.out]; exact HO3.rd.mono (fun _ h => .inr h), HB3⟩
        | some ad =>
          go_wp2_with (first | (at_builtin; have _t := tok1; refine acc_appendf (r := Rp.int) (e := 3) int_flat (by rfl) _ _ 59 (.int .i64 0) 8 (by rfl) Tryz.underlying59 infoInt rfl (by decide) (by omega) (.slice none 0 0) (.slice (some ad) l.length c) [] l (by rfl) (by rfl) true (Ow.nil _ _ _ _ (fun k => w.heap.size ≤ k)) HR HB hB0 (by first | omega | (simp; omega)) ?_; intro v1 w1 HO1 HB1 hB1; clear tok1) | (at_builtin; have _t := HO1; refine acc_append1 (r := Rp.int) (e := 3) int_flat (by rfl) _ _ 59 (.int .i64 0) 8 (by rfl) Tryz.underlying59 infoInt rfl (by decide) (by omega) v1 l n [.int .i64 n] (by rfl) (by rfl) true HO1 rfl HB1 hB1 (by first | omega | (simp; omega)) ?_; intro v2 w2 HO2 HB2 hB2; clear HO1) | (at_builtin; have _t := HO2; refine acc_appendf (r := Rp.int) (e := 3) int_flat (by rfl) _ _ 59 (.int .i64 0) 8 (by rfl) Tryz.underlying59 infoInt rfl (by decide) (by omega) v2 (.slice (some (ad.add l.length)) 0 (c - l.length)) (l ++ [n]) [] (by rfl) (by rfl) true HO2 (HE _ _ _ (by omega)) HB2 hB2 (by first | omega | (simp; omega)) ?_; intro v3 w3 HO3 HB3 hB3; clear HO2))
          go_ret
          exact ⟨_, rfl, by rw [HF.out]; exact HO3.rd.mono (fun _ h => .inr h), HB3⟩
end Go.Proofs.YtnfaibenekninaaGreat.L

set_option linter.unusedVariables false
set_option linter.unusedSimpArgs false
namespace Go.Proofs.YtnfaibenekninaaGreat.L
open Go.RowKit
def thereB (defs dom far : List Int) (part v : Int) : Bool :=
  decide (0 ≤ v) && decide (v < defs.length) && (decide (v < 12) || far.contains v || (decide (0 ≤ defs[v.toNat]!) && defs[v.toNat]! != part && dom.contains defs[v.toNat]!))
def thereS (l defs dom far : List Int) (part : Int) : Bool := l.all (thereB defs dom far part)
theorem l_all_take_succ {α : Type} {p : α → Bool} {l : List α} {k : Nat} (hk : k < l.length) (h : (l.take k).all p = true) (hp : p l[k] = true) : (l.take (k + 1)).all p = true := by
  rw [List.take_succ_eq_append_getElem hk, List.all_append, h]; simp [hp]
theorem l_all_false {α : Type} {p : α → Bool} {l : List α} {k : Nat} (hk : k < l.length) (hp : p l[k] = false) : l.all p = false := by
  rw [List.all_eq_false]; exact ⟨_, List.getElem_mem hk, by simp [hp]⟩
set_option maxHeartbeats 2000000 in
theorem l9There_calls {F1 F2 F3 F4 : Nat → Prop} (v1 v2 v3 v4 : Value) (l defs dom far : List Int) (part : Int) (w : World) (h1 : Rp.Rd Rp.int w F1 v1 l) (h2 : Rp.Rd Rp.int w F2 v2 defs) (h3 : Rp.Rd Rp.int w F3 v3 dom) (h4 : Rp.Rd Rp.int w F4 v4 far) :
    Calls Tryz.prog 52 #[v1, v2, v3, v4, .int .i64 part] w fun e w' => e = .returned (.bool (thereS l defs dom far part)) ∧ Below w.heap.size w w' := by
  have HX : Hid (thereS l defs dom far part = l.all (thereB defs dom far part)) := Lib.hid rfl
  obtain ⟨A, c, rfl, hlc, hcm, hra⟩ := rd_int h1
  obtain ⟨B, d, rfl, hld, hdm, hrb⟩ := rd_int h2
  obtain ⟨C, cc, rfl, _, _, _⟩ := rd_int h3
  obtain ⟨D, cd, rfl, _, _, _⟩ := rd_int h4
  go_enter Tryz.func52, Tryz.ntmps52
  go_wp2
  go_loopw [16] (fun i wr => ∃ k : Nat, k ≤ l.length ∧ i = .int .i64 k ∧ Hid ((l.take k).all (thereB defs dom far part) = true) ∧ Below w.heap.size w wr) (fun i _ => l.length - (intOf i).toNat)
  case atStart => exact ⟨0, Nat.zero_le _, rfl, Lib.hid rfl, Below.refl _ _⟩
  case round =>
    obtain ⟨k, hk, rfl, HT, HB⟩ := hrel
    by_cases hlt : k < l.length
    · rcases hra with rfl | ⟨b, o, rfl, hb, hcell⟩
      · simp at hlt
      have c1 := cell_below HB (hcell k hlt)
      clear hcell
      have HP : Hid (∀ r, thereB defs dom far part l[k] = r → thereB defs dom far part l[k] = r) := Lib.hid (fun _ h => h)
      have HF : Hid (thereB defs dom far part l[k] = false → thereS l defs dom far part = false) := Lib.hid (fun h => l_all_false hlt h)
      have HS : Hid (thereB defs dom far part l[k] = true → (l.take (k + 1)).all (thereB defs dom far part) = true) := Lib.hid (fun h => l_all_take_succ hlt HT.out h)
      have HV : Hid (thereB defs dom far part l[k] = (decide (0 ≤ l[k]) && decide (l[k] < defs.length) && (decide (l[k] < 12) || far.contains l[k] || (decide (0 ≤ defs[l[k].toNat]!) && defs[l[k].toNat]! != part && dom.contains defs[l[k].toNat]!)))) := Lib.hid rfl
      clear HP
      generalize thereB defs dom far part l[k] = r at *
      generalize l[k] = x at *
      by_cases hx0 : x < 0
      · have t0 : decide (x < 0) = true := decide_eq_true hx0
        have HR : Hid (r = false) := Lib.hid (by rw [HV.out]; simp; omega)
        go_wp2
        go_ret
        exact ⟨ret_bool (HF.out HR.out).symm, HB⟩
      have t0 : decide (x < 0) = false := decide_eq_false hx0
      by_cases hx1 : (defs.length : Int) ≤ x
      · have t1 : decide ((defs.length : Int) ≤ x) = true := decide_eq_true hx1
        have HR : Hid (r = false) := Lib.hid (by rw [HV.out]; simp; omega)
        go_wp2
        go_ret
        exact ⟨ret_bool (HF.out HR.out).symm, HB⟩
      have t1 : decide ((defs.length : Int) ≤ x) = false := decide_eq_false hx1
      obtain ⟨n, rfl⟩ := Int.eq_ofNat_of_zero_le (by omega : 0 ≤ x)
      have hn : n < defs.length := by omega
      rcases hrb with rfl | ⟨b2, o2, rfl, hb2, hcell2⟩
      · simp at hn
      have c2 := cell_below HB (hcell2 n hn)
      clear hcell2 hx0 hx1
      replace HV : Hid (r = (decide ((n : Int) < 12) || far.contains (n : Int) || (decide (0 ≤ defs[n]) && defs[n] != part && dom.contains defs[n]))) := Lib.hid (by
        rw [HV.out, Int.toNat_natCast, getElem!_pos defs n hn]; simp only [Int.natCast_nonneg, decide_true, Bool.true_and, show ((n : Int) < defs.length) = True from by simp; omega])
      have HC1 := fun W (hW : Below wr.heap.size wr W) => l1Has_calls _ far (n : Int) W ((h4.below HB).below hW)
      have HC2 := fun W (hW : Below wr.heap.size wr W) => l1Has_calls _ dom defs[n] W ((h3.below HB).below hW)
      generalize defs[n] = y at *
      generalize far.contains (n : Int) = r1 at *
      generalize dom.contains y = r2 at *
      replace HC1 := Lib.hid HC1
      replace HC2 := Lib.hid HC2
      have i0 : (0 : Int) ≤ (n : Int) := Int.natCast_nonneg _
      have i1 : (n : Int) < (defs.length : Int) := by omega
      have HB1 := HB
      have tok1 : True := trivial
      go_wp2_with (first | (go_at_call 101; have _t := tok1; refine (HC1.out _ (Below.refl _ _)).mono ?_; rintro e w1 ⟨rfl, hb1⟩; clear tok1; replace HB1 := below_then HB hb1) | (go_at_call 101; refine (HC2.out _ hb1).mono ?_; rintro e w2 ⟨rfl, hb2⟩; replace HB1 := below_then HB1 hb2))
      all_goals
        first
        | (go_ret
           exact ⟨ret_bool (HF.out (by have h := HV.out; clear HX HT HF HS HC1 HC2 HB HB1 HV; first | (simp_all; done) | (cases r2 <;> simp_all; done) | (simp_all; omega))).symm, HB1⟩)
        | (have HR : Hid (r = true) := Lib.hid (by have h := HV.out; clear HX HT HF HS HC1 HC2 HB HB1 HV; first | (simp_all; done) | (cases r2 <;> simp_all; done) | (simp_all; omega))
           go_roundw
           case rel => exact ⟨k + 1, by omega, by go_num, Lib.hid (HS.out HR.out), HB1⟩
           case measure => simp [intOf]; omega)
    · obtain rfl : k = l.length := by omega
      go_wp2
      go_ret
      refine ⟨ret_bool ?_, HB⟩
      rw [HX.out]; have := HT.out; rw [List.take_length] at this; exact this.symm
end Go.Proofs.YtnfaibenekninaaGreat.L

set_option linter.unusedVariables false
namespace Go.Proofs.YtnfaibenekninaaGreat.L
open Go.RowKit
/-- Nodes that are come to from one, each step's node being allowed. -/
inductive Rch (next : List (List Int)) (ok : Int → Prop) (frm : Int) : Int → Prop where
  | start : ok frm → Rch next ok frm frm
  | step {k x : Int} {l : List Int} : Rch next ok frm k → 0 ≤ k → next[k.toNat]? = some l → x ∈ l → ok x → Rch next ok frm x
theorem Rch.ok_of {next : List (List Int)} {ok : Int → Prop} {frm k : Int} (h : Rch next ok frm k) : ok k := by
  cases h <;> assumption
def InR (next : List (List Int)) : Prop := ∀ l ∈ next, ∀ x ∈ l, 0 ≤ x ∧ x < next.length
theorem Rch.range {next : List (List Int)} {ok : Int → Prop} {frm k : Int} (h : Rch next ok frm k) (hf : 0 ≤ frm ∧ frm < next.length) (hr : InR next) : 0 ≤ k ∧ k < next.length := by
  induction h with
  | start _ => exact hf
  | step _ _ hl hx _ _ => exact hr _ (List.mem_of_getElem? hl) _ hx
/-- What is closed under steps and holds the start holds all. -/
theorem Rch.sub {next : List (List Int)} {ok S : Int → Prop} {frm : Int} (h0 : ok frm → S frm) (hs : ∀ k, S k → 0 ≤ k → ∀ l, next[k.toNat]? = some l → ∀ x ∈ l, ok x → S x) {k : Int} (h : Rch next ok frm k) : S k := by
  induction h with
  | start h => exact h0 h
  | step _ h1 h2 h3 h4 ih => exact hs _ ih h1 _ h2 _ h3 h4
theorem Rch.mono {next : List (List Int)} {ok ok' : Int → Prop} {frm k : Int} (hm : ∀ x, ok x → ok' x) (h : Rch next ok frm k) : Rch next ok' frm k := by
  induction h with
  | start h => exact .start (hm _ h)
  | step _ h1 h2 h3 h4 ih => exact .step ih h1 h2 h3 (hm _ h4)
theorem len_nodup_range {l : List Int} {n : Nat} (hd : l.Nodup) (hr : ∀ x ∈ l, 0 ≤ x ∧ x < n) : l.length ≤ n := by
  have h : ∀ (n : Nat) (l : List Int), l.Nodup → (∀ x ∈ l, 0 ≤ x ∧ x < n) → l.length ≤ n := by
    intro n
    induction n with
    | zero => intro l _ h; cases l with
      | nil => simp
      | cons x t => have := h x (by simp); omega
    | succ n ih =>
      intro l hd hr
      have h1 := ih (l.erase (n : Int)) (hd.erase _) (fun x hx => by
        have hm := (List.Nodup.mem_erase_iff hd).1 hx
        have := hr x hm.2
        have hne := hm.1
        omega)
      have h2 : l.length ≤ (l.erase (n : Int)).length + 1 := by
        rw [List.length_erase]; split <;> omega
      omega
  exact h n l hd hr
end Go.Proofs.YtnfaibenekninaaGreat.L

set_option linter.unusedVariables false
set_option linter.unusedSimpArgs false
namespace Go.Proofs.YtnfaibenekninaaGreat.L
open Go.RowKit
def nxS (l : List Int) : List Int := l.foldl putL []
def graphS (l : List Pt) : List (List Int) := l.map (fun p => nxS p.next)
theorem putL_len_le (l : List Int) (m : List Int) : (l.foldl putL m).length ≤ m.length + l.length := by
  induction l generalizing m with
  | nil => simp
  | cons x t ih => simp only [List.foldl_cons, List.length_cons]; have := ih (putL m x); have := putL_length m x; omega
theorem foldl_take_putL {l : List Int} {k : Nat} (hk : k < l.length) : (l.take (k + 1)).foldl putL [] = putL ((l.take k).foldl putL []) l[k] := by
  rw [List.take_succ_eq_append_getElem hk, List.foldl_append]; rfl
set_option maxHeartbeats 2000000 in
theorem l9Graph_calls {F : Nat → Prop} (s : Sa) (vparts : Value) (w : World) (hs : Rp.Rd part w F vparts s.parts) (hn : s.parts.length ≤ 1048576) (hl : ∀ p ∈ s.parts, p.next.length ≤ 1048576) :
    Calls Tryz.prog 50 #[saV s vparts] w fun e w' => ∃ v', e = .returned (.agg #[v']) ∧ Ow false 59 (Rp.sl Rp.int) w' (fun k => w.heap.size ≤ k) v' (graphS s.parts) ∧ Below w.heap.size w w' := by
  obtain ⟨A, c, rfl, hlc, hcm, hrow⟩ := rd_part hs
  unfold saV
  have H0 := hs
  go_enter Tryz.func50, Tryz.ntmps50
  go_wp2
  obtain ⟨W0, hW0⟩ : ∃ W0, W0 = ((w.alloc (Obj.cells #[Value.slice A s.parts.length c, Value.int IntKind.i64 s.values] 28)).alloc (Obj.cells #[Value.slice none 0 0] 92)).alloc (Obj.cells #[Value.slice none 0 0] 92) := ⟨_, rfl⟩
  have hB0 : Below w.heap.size w W0 := by rw [hW0]; exact ((below_new _).alloc (by simp) _).alloc (by simp; omega) _
  have k1 : W0.heap[w.heap.size + 1]? = some (.cells #[.slice none 0 0] 92 (0, 0)) := by rw [hW0]; exact blk_alloc (heap_alloc2_new w _ _) _
  have k2 : W0.heap[w.heap.size + 1 + 1]? = some (.cells #[.slice none 0 0] 92 (0, 0)) := by
    rw [hW0]
    have := heap_alloc_new ((w.alloc (Obj.cells #[Value.slice A s.parts.length c, Value.int IntKind.i64 s.values] 28)).alloc (Obj.cells #[Value.slice none 0 0] 92)) (Obj.cells #[Value.slice none 0 0] 92)
    simpa using this
  rw [← hW0]
  clear hW0
  go_loopw [12] (fun i wr => ∃ (k : Nat) (v : Value), k ≤ s.parts.length ∧ i = .int .i64 k ∧ wr.heap[w.heap.size + 1]? = some (.cells #[.slice none 0 0] 92 (0, 0)) ∧ wr.heap[w.heap.size + 1 + 1]? = some (.cells #[v] 92 (0, 0)) ∧ Ow false 59 (Rp.sl Rp.int) wr (fun q => w.heap.size + 1 + 1 < q) v (graphS (s.parts.take k)) ∧ Below w.heap.size w wr) (fun i _ => s.parts.length - (intOf i).toNat)
  case atStart => exact ⟨0, _, Nat.zero_le _, rfl, k1, k2, Ow.nil _ _ _ _ _, hB0⟩
  case round =>
    obtain ⟨k, v, hk, rfl, k1, k2, HO, HB⟩ := hrel
    rename World => wo
    by_cases hlt : k < s.parts.length
    · rcases hrow with hnil | ⟨b, o, rfl, hb, hcell⟩
      · rw [hnil] at hlt; simp at hlt
      obtain ⟨_, _, _, _, hp, ⟨A1, c1, rfl, _⟩, ⟨A2, c2, rfl, _⟩, hx, ⟨A3, c3, rfl, _⟩⟩ := hcell k hlt
      have hp := partAt_below hp HB
      have hx := hx.below HB
      have hnl := hl _ (List.getElem_mem hlt)
      have HG : Hid (graphS (s.parts.take (k + 1)) = graphS (s.parts.take k) ++ [nxS s.parts[k].next]) := Lib.hid (by unfold graphS; rw [List.take_succ_eq_append_getElem hlt, List.map_append]; rfl)
      have hgl : (graphS (s.parts.take k)).length ≤ k := by unfold graphS; rw [List.length_map, List.length_take]; omega
      clear hcell
      generalize s.parts[k] = p at *
      obtain ⟨A4, c4, rfl, _, _, hrn⟩ := rd_int hx
      obtain ⟨q0, q1, q2, q3, q4, q5⟩ := hp
      have i0 : (0 : Int) ≤ (k : Int) := Int.natCast_nonneg _
      have i1 : (k : Int) < (s.parts.length : Int) := by omega
      go_wp2
      obtain ⟨W1, hW1⟩ : ∃ W1, W1 = wo.alloc (Obj.cells #[Value.slice A1 p.params.length c1, Value.slice A2 p.code.length c2, Value.int .i64 p.go, Value.int .i64 p.test, Value.slice A4 p.next.length c4, Value.slice A3 p.args.length c3] 67) := ⟨_, rfl⟩
      have hb1 : Below wo.heap.size wo W1 := by rw [hW1]; exact below_new _
      have hs1 : wo.heap.size < W1.heap.size := by rw [hW1]; simp
      rw [← hW1]
      have k1' := blk_below k1 hb1
      have k2' := blk_below k2 hb1
      have HO1 := HO.bound.below hb1
      have HB1 := below_then HB hb1
      clear hW1 q0 q1 q2 q3 q4 q5
      replace hx := hx.below hb1
      go_loopw [6, 19] (fun v6 i wi => ∃ j : Nat, j ≤ p.next.length ∧ i = .int .i64 j ∧ Rp.Rd Rp.int wi (fun q => wo.heap.size < q) v6 ((p.next.take j).foldl putL []) ∧ Below W1.heap.size W1 wi) (fun _ i _ => p.next.length - (intOf i).toNat)
      case atStart => exact ⟨0, Nat.zero_le _, rfl, Rp.Rd.nil _ _ _, Below.refl _ _⟩
      case round =>
        obtain ⟨j, hj, rfl, HR, HBi⟩ := hrel
        by_cases hjt : j < p.next.length
        · rcases rd_int hx with ⟨_, _, hq, _, _, hnil | ⟨b2, o2, rfl, hb2, hcell2⟩⟩
          · rw [hnil] at hjt; simp at hjt
          cases hq
          have c1 := cell_below HBi (hcell2 j hjt)
          have HL := Lib.hid (foldl_take_putL hjt)
          have hlen := putL_len_le (p.next.take j) []
          rw [List.length_take, Nat.min_eq_left hj, List.length_nil, Nat.zero_add] at hlen
          have HC := Lib.hid (l1Put_calls _ _ p.next[j] wr HR (by omega))
          have hz1 := HBi.size
          clear hcell2
          generalize (p.next.take j).foldl putL [] = l6 at *
          generalize p.next[j] = x at *
          obtain ⟨A6, c6, rfl, _⟩ := HR
          go_wp2_with (go_at_call 99; refine HC.out.mono ?_; rintro e w2 ⟨v2, rfl, HR2, hb2'⟩)
          go_roundw
          case rel => exact ⟨j + 1, by omega, by go_num, by rw [HL.out]; exact HR2.mono (fun q hq => hq.elim id (fun h => by omega)), below_then HBi hb2'⟩
          case measure => simp [intOf]; omega
        · obtain rfl : j = p.next.length := by omega
          rw [List.take_length] at HR
          have g1 := blk_below k1' HBi
          have g2 := blk_below k2' HBi
          have HO2 := HO1.below HBi
          have HB2 := below_then HB1 HBi
          obtain ⟨x2, f2⟩ := cell_of_block g2
          have x20 := x2 0
          have f20 := f2 0
          simp at x20
          obtain ⟨Av, cv, rfl, hcv, hcv2⟩ := HO2.form
          obtain ⟨m6, hm6⟩ : ∃ m6, m6 = nxS p.next := ⟨_, rfl⟩
          replace HG := HG.out
          rw [← hm6] at HG
          replace HG := Lib.hid HG
          change Rp.Rd _ _ _ _ (nxS p.next) at HR
          rw [← hm6] at HR
          clear hm6
          have hHR := HR
          obtain ⟨A6, c6, rfl, _⟩ := HR
          have z2 := blk_lt k2
          have z3 := blk_lt g2
          go_wp2_with (at_builtin; (refine ow_append1 (r := Rp.sl Rp.int) (e := 59) (by rfl) _ _ 64 (.slice none 0 0) 24 (by rfl) Tryz.underlying64 infoInts rfl (by decide) (by omega) _ (graphS (s.parts.take k)) m6 [.slice A6 m6.length c6] (by rfl) (by rfl) HO2 ⟨_, rfl, hHR⟩ (fun q hq h => by have := h.2; omega) (by omega) ?_; intro v1 w1 HO3 hg1; obtain ⟨Bv, dv, rfl, _, _⟩ := HO3.form1; have g1' := grown_blk hg1 g1 (own_ne HO2 (fun h => by have := h.1; omega)); have g2' := grown_blk hg1 g2 (own_ne HO2 (fun h => by have := h.1; omega)); have HB3 := below_grown HB2 hg1 (fun q hq => by have := (own_in HO2 (.inr hq)).1; omega) HB2.size; obtain ⟨x3, f3⟩ := cell_of_block g2'; have f30 := f3 0; have HO4 := HO3.mono (G := fun q => w.heap.size + 1 + 1 < q) (fun q hq => by rcases hq with hq | hq | hq <;> omega)))
          go_roundw
          case rel => exact ⟨k + 1, _, by omega, by go_num, blk_set g1' (by simp) _, by have := blk_put g2' 0 (.slice Bv ((graphS (s.parts.take k)).length + 1) dv); simpa using this, by rw [HG.out]; exact HO4.set_other (by omega), HB3.setCell (by simp; omega) _⟩
          case measure => simp [intOf]; omega
    · obtain rfl : k = s.parts.length := by omega
      rw [List.take_length] at HO
      obtain ⟨x2, f2⟩ := cell_of_block k2
      obtain ⟨x3, f3⟩ := cell_of_block k1
      have x20 := x2 0
      have x30 := x3 0
      have f30 := f3 0
      simp at x20 x30
      obtain ⟨Av, cv, rfl, hcv, hcv2⟩ := HO.form
      clear hrow
      have z2 := blk_lt k2
      have hpp := blk_put k1 0 (.slice Av (graphS s.parts).length cv)
      simp at hpp
      go_wp2
      obtain ⟨x4, f4⟩ := cell_of_block hpp
      have x40 := x4 0
      simp at x40
      exact bodyPost_ret (v := .agg #[.slice Av (graphS s.parts).length cv]) (by simp [results, Tryz.results50, go_sem, x40]) rfl ⟨_, rfl, (HO.set_other (by omega)).mono (fun q hq => by omega), HB.setCell (by simp) _⟩
end Go.Proofs.YtnfaibenekninaaGreat.L

set_option linter.unusedVariables false
set_option linter.unusedSimpArgs false
namespace Go.Proofs.YtnfaibenekninaaGreat.L
open Go.RowKit
theorem within_calls (a b c : Int) (w : World) : Calls Tryz.prog 58 #[.int .i64 a, .int .i64 b, .int .i64 c] w fun e w' => e = .returned (.bool (inB a b c)) ∧ w = w' := by
  go_enter Tryz.func58, Tryz.ntmps58
  go_wp2
  all_goals
    go_ret
    simp [inB, *]
    try omega
def nameB (has : Bool) (n many : Int) : Bool := !has && n == 0 || has && inB n 0 (many - 1)
theorem name_calls (has : Bool) (n many : Int) (ad : Addr) (w : World) (hc : w.cell? ad = some (.int .i64 many)) (h0 : 0 ≤ many) (h1 : many ≤ 1000) :
   Calls Tryz.prog 151 #[.bool has, .int .i64 n, .pointer (some ad)] w fun e w' => e = .returned (.bool (nameB has n many)) ∧ w = w' := by
  by_cases h : has = true
  · subst h
    go_enter Tryz.func151, Tryz.ntmps151
    go_wp2
    all_goals
      go_ret
      refine ⟨ret_bool ?_, rfl⟩
      simp [nameB, inB, *]
      try omega
  · replace h : has = false := by simpa using h
    subst h
    go_enter Tryz.func151, Tryz.ntmps151
    go_wp2
    all_goals
      go_ret
      refine ⟨ret_bool ?_, rfl⟩
      simp [nameB, inB, *]
      try omega
def fD (o : Int) : Bool := o == 1 || o == 2 || o == 3 || o == 4
def fA (o : Int) : Bool := o == 2 || o == 3 || o == 4 || o == 5 || o == 6
def fB (o : Int) : Bool := o == 3 || o == 5
def fN (o : Int) : Bool := o == 1
def fT (o : Int) : Bool := o == 3
def fK (o : Int) : Bool := o == 1 || o == 2 || o == 3 || o == 4 || o == 5 || o == 6
def fieldsV (o : Int) : Value := .tuple #[.agg #[.bool (fD o), .bool (fA o), .bool (fB o), .bool (fN o), .bool (fT o)], .bool (fK o)]
theorem fieldsOf_calls (o : Int) (w : World) : Calls Tryz.prog 71 #[.int .i64 o] w fun e w' => e = .returned (fieldsV o) ∧ Below w.heap.size w w' := by
  have key : ∀ o : Int, o = 1 ∨ o = 2 ∨ o = 3 ∨ o = 4 ∨ o = 5 ∨ o = 6 ∨ ((o == 1) = false ∧ (o == 2) = false ∧ (o == 3) = false ∧ (o == 4) = false ∧ (o == 5) = false ∧ (o == 6) = false) := by
    intro o; simp; omega
  rcases key o with rfl | rfl | rfl | rfl | rfl | rfl | ⟨h1, h2, h3, h4, h5, h6⟩
  case inr.inr.inr.inr.inr.inr =>
    have hv : fieldsV o = .tuple #[.agg #[.bool false, .bool false, .bool false, .bool false, .bool false], .bool false] := by simp [fieldsV, fD, fA, fB, fN, fT, fK, *]
    have HV := Lib.hid hv
    clear hv
    go_enter Tryz.func71, Tryz.ntmps71
    go_wp2
    exact bodyPost_ret (v := .tuple #[.agg #[.bool false, .bool false, .bool false, .bool false, .bool false], .bool false]) (by simp [results, Tryz.results71, go_sem]) rfl ⟨by rw [HV.out], (Below.refl _ _).alloc (Nat.le_refl _) _⟩
  all_goals
    go_enter Tryz.func71, Tryz.ntmps71
    go_wp2
    exact bodyPost_ret (v := fieldsV _) (by simp [results, Tryz.results71, go_sem, fieldsV, fD, fA, fB, fN, fT, fK]) rfl ⟨rfl, (Below.refl _ _).alloc (Nat.le_refl _) _⟩
def flatB (x : Fl) (many : Int) : Bool :=
  fK x.op && nameB (fD x.op) x.dst many && nameB (fA x.op) x.a many && nameB (fB x.op) x.b many &&
  (fN x.op && inB x.n 0 65535 || !fN x.op && x.n == 0) && (fT x.op && inB x.dO 4 9 || !fT x.op && x.dO == 0)
theorem isWord_calls (a : Int) (w : World) : Calls Tryz.prog 152 #[.int .i64 a] w fun e w' => e = .returned (.bool (inB a 0 65535)) ∧ w = w' := by
  go_enter Tryz.func152, Tryz.ntmps152
  go_wp2_with (go_at_call 58; refine (within_calls _ _ _ _).mono ?_; rintro e w' ⟨rfl, rfl⟩)
  go_ret
  exact ⟨rfl, rfl⟩
theorem isTwo_calls (a : Int) (w : World) : Calls Tryz.prog 153 #[.int .i64 a] w fun e w' => e = .returned (.bool (inB a 4 9)) ∧ w = w' := by
  go_enter Tryz.func153, Tryz.ntmps153
  go_wp2_with (go_at_call 58; refine (within_calls _ _ _ _).mono ?_; rintro e w' ⟨rfl, rfl⟩)
  go_ret
  exact ⟨rfl, rfl⟩
set_option maxHeartbeats 1000000 in
theorem flatOK_calls (x : Fl) (many : Int) (w : World) (h0 : 0 ≤ many) (h1 : many ≤ 1000) :
   Calls Tryz.prog 137 #[flV x, .int .i64 many] w fun e w' => e = .returned (.bool (flatB x many)) ∧ Below w.heap.size w w' := by
  unfold flV
  go_enter Tryz.func137, Tryz.ntmps137
  go_wp2_with (first | (go_at_call 71; refine (fieldsOf_calls _ _).mono ?_; rintro e w1 ⟨rfl, hb⟩; unfold fieldsV; obtain ⟨b1, b2, hz1, hz⟩ := boxed2 hb; obtain ⟨c1, f1⟩ := cell_of_block b1; obtain ⟨c2, f2⟩ := cell_of_block b2; clear b1 b2; replace hb := below2 hb) | (go_at_call 151; refine (name_calls _ _ many _ _ (by go_simp) h0 h1).mono ?_; rintro e w' ⟨rfl, rfl⟩) | (go_at_call 152; refine (isWord_calls _ _).mono ?_; rintro e w' ⟨rfl, rfl⟩) | (go_at_call 153; refine (isTwo_calls _ _).mono ?_; rintro e w' ⟨rfl, rfl⟩))
  all_goals
    go_ret
    refine ⟨ret_bool ?_, hb.alloc hb.size _⟩
    clear c1 f1 c2 f2 hb hz hz1
    simp_all [flatB]
end Go.Proofs.YtnfaibenekninaaGreat.L

set_option linter.unusedVariables false
namespace Go.Proofs.YtnfaibenekninaaGreat.L
open Go.RowKit
/-- The place of the first element that is so, -1 without one. -/
def ixOf {α : Type} (p : α → Bool) (l : List α) : Int := match l.findIdx? p with | some i => i | none => -1
theorem ixOf_hit {α : Type} {p : α → Bool} {l : List α} {k : Nat} (hk : k < l.length) (h : ∀ (j : Nat) (hj : j < l.length), j < k → p l[j] = false) (hp : p l[k] = true) : ixOf p l = k := by
  have : l.findIdx? p = some k := by
    rw [List.findIdx?_eq_some_iff_getElem]
    exact ⟨hk, hp, fun j hj => by simpa using h j (by omega) hj⟩
  rw [ixOf, this]
theorem ixOf_none {α : Type} {p : α → Bool} {l : List α} (h : ∀ (j : Nat) (hj : j < l.length), p l[j] = false) : ixOf p l = -1 := by
  have : l.findIdx? p = none := by
    rw [List.findIdx?_eq_none_iff]
    intro x hx
    obtain ⟨j, hj, rfl⟩ := List.getElem_of_mem hx
    exact h j hj
  rw [ixOf, this]
theorem ixOf_any {α : Type} (p : α → Bool) (l : List α) : decide (0 ≤ ixOf p l) = l.any p := by
  unfold ixOf
  cases h : l.findIdx? p with
  | none =>
    rw [List.findIdx?_eq_none_iff] at h
    symm
    rw [show decide ((0 : Int) ≤ -1) = false by decide, List.any_eq_false]
    intro x hx; simp [h x hx]
  | some i =>
    rw [List.findIdx?_eq_some_iff_getElem] at h
    obtain ⟨h1, h2, _⟩ := h
    symm
    simp only [Int.natCast_nonneg, decide_true]
    exact List.any_eq_true.2 ⟨_, List.getElem_mem h1, h2⟩
/-- A function that is no extern one is entered. -/
def Enters (P : Program) (f : Nat) : Prop := ∀ (args : Array Value) (W : World), (callFunc f args).run P W = .ok (.enter f args) W
theorem enters {P : Program} {f : Nat} {fn : Func} (h : P.funcs[f]? = some fn) (hn : (fn.name == "runtime.NumGoroutine") = false) (hb : fn.body.isNone = false) : Enters P f := by
  intro args W
  have hn' : ¬ fn.name = "runtime.NumGoroutine" := by simpa using hn
  have hb' : ¬ fn.body = none := by intro h; rw [h] at hb; cases hb
  simp [callFunc, h, hn', hb']
set_option maxHeartbeats 1000000 in
theorem ixFlat_calls {F : Nat → Prop} (v : Value) (l : List Fl) (fn : Nat) (caps : Array Value) (p : Fl → Bool) (w : World) (h : Rp.Rd flat w F v l) (hen : Enters Tryz.prog fn)
    (hf : ∀ x ∈ l, ∀ W, Below w.heap.size w W → Calls Tryz.prog fn (#[flV x] ++ caps) W fun e w' => e = .returned (.bool (p x)) ∧ Below W.heap.size W w') :
    Calls Tryz.prog 124 #[v, .func (.func fn) #[] caps] w fun e w' => e = .returned (.int .i64 (ixOf p l)) ∧ Below w.heap.size w w' := by
  obtain ⟨A, c, rfl, hlc, hcm, hrow⟩ := rd_flat h
  unfold Enters at hen
  go_enter Tryz.func124, Tryz.ntmps124
  go_wp2_with fail
  go_loopw [8] (fun i wr => ∃ k : Nat, k ≤ l.length ∧ i = .int .i64 k ∧ Hid (∀ (j : Nat) (hj : j < l.length), j < k → p l[j] = false) ∧ Below w.heap.size w wr) (fun i _ => l.length - (intOf i).toNat)
  case atStart => exact ⟨0, Nat.zero_le _, rfl, Lib.hid (fun j _ hj => by omega), Below.refl _ _⟩
  case round =>
    obtain ⟨k, hk, rfl, HN, HB⟩ := hrel
    by_cases hlt : k < l.length
    · rcases hrow with rfl | ⟨b, o, rfl, hb, hcell⟩
      · simp at hlt
      have c1 := (hcell k hlt).below HB
      clear hcell
      obtain ⟨q0, q1, q2, q3, q4, q5⟩ := c1
      have HC := hf l[k] (List.getElem_mem hlt) wr HB
      have HP : Hid (p l[k] = p l[k]) := Lib.hid rfl
      generalize hr : p l[k] = r at HC
      have HR := Lib.hid hr
      clear hr HP hf
      have HC := Lib.hid HC
      go_wp2_with fail
      refine HC.out.mono ?_
      rintro e w1 ⟨rfl, hb1⟩
      have HB1 := below_then HB hb1
      clear HC hb1
      cases r
      · go_wp2
        go_roundw
        case rel => exact ⟨k + 1, by omega, by go_num, Lib.hid (fun j hj hjk => (Nat.lt_or_eq_of_le (Nat.le_of_lt_succ hjk)).elim (fun h => HN.out j hj h) (fun h => by subst h; exact HR.out)), HB1⟩
        case measure => simp [intOf]; omega
      · go_wp2
        go_ret
        exact ⟨ret_int (ixOf_hit hlt HN.out HR.out).symm, HB1⟩
    · obtain rfl : k = l.length := by omega
      go_wp2
      go_ret
      exact ⟨ret_int (ixOf_none (fun j hj => HN.out j hj hj)).symm, HB⟩
theorem hasFlat_calls {F : Nat → Prop} (v : Value) (l : List Fl) (fn : Nat) (caps : Array Value) (p : Fl → Bool) (w : World) (h : Rp.Rd flat w F v l) (hen : Enters Tryz.prog fn)
    (hf : ∀ x ∈ l, ∀ W, Below w.heap.size w W → Calls Tryz.prog fn (#[flV x] ++ caps) W fun e w' => e = .returned (.bool (p x)) ∧ Below W.heap.size W w') :
    Calls Tryz.prog 135 #[v, .func (.func fn) #[] caps] w fun e w' => e = .returned (.bool (l.any p)) ∧ Below w.heap.size w w' := by
  have HC := ixFlat_calls v l fn caps p w h hen hf
  have HX := Lib.hid (ixOf_any p l)
  generalize l.any p = r at *
  generalize ixOf p l = n at *
  have HC := Lib.hid HC
  clear hf hen
  go_enter Tryz.func135, Tryz.ntmps135
  go_wp2_with (go_at_call 124; refine HC.out.mono ?_; rintro e w1 ⟨rfl, hb⟩)
  go_ret
  exact ⟨ret_bool HX.out, hb⟩
end Go.Proofs.YtnfaibenekninaaGreat.L

set_option linter.unusedVariables false
namespace Go.Proofs.YtnfaibenekninaaGreat.L
open Go.RowKit
set_option maxHeartbeats 1000000 in
theorem ixInt_calls {F : Nat → Prop} (v : Value) (l : List Int) (fn : Nat) (caps : Array Value) (p : Int → Bool) (w : World) (h : Rp.Rd Rp.int w F v l) (hen : Enters Tryz.prog fn)
    (hf : ∀ x ∈ l, ∀ W, Below w.heap.size w W → Calls Tryz.prog fn (#[Value.int .i64 x] ++ caps) W fun e w' => e = .returned (.bool (p x)) ∧ Below W.heap.size W w') :
    Calls Tryz.prog 154 #[v, .func (.func fn) #[] caps] w fun e w' => e = .returned (.int .i64 (ixOf p l)) ∧ Below w.heap.size w w' := by
  obtain ⟨A, c, rfl, hlc, hcm, hrow⟩ := rd_int h
  unfold Enters at hen
  go_enter Tryz.func154, Tryz.ntmps154
  go_wp2_with fail
  go_loopw [8] (fun i wr => ∃ k : Nat, k ≤ l.length ∧ i = .int .i64 k ∧ Hid (∀ (j : Nat) (hj : j < l.length), j < k → p l[j] = false) ∧ Below w.heap.size w wr) (fun i _ => l.length - (intOf i).toNat)
  case atStart => exact ⟨0, Nat.zero_le _, rfl, Lib.hid (fun j _ hj => by omega), Below.refl _ _⟩
  case round =>
    obtain ⟨k, hk, rfl, HN, HB⟩ := hrel
    by_cases hlt : k < l.length
    · rcases hrow with rfl | ⟨b, o, rfl, hb, hcell⟩
      · simp at hlt
      have c1 := cell_below HB (hcell k hlt)
      clear hcell
      have HC := hf l[k] (List.getElem_mem hlt) wr HB
      have HP : Hid (p l[k] = p l[k]) := Lib.hid rfl
      generalize hr : p l[k] = r at HC
      have HR := Lib.hid hr
      clear hr HP hf
      have HC := Lib.hid HC
      go_wp2_with fail
      refine HC.out.mono ?_
      rintro e w1 ⟨rfl, hb1⟩
      have HB1 := below_then HB hb1
      clear HC hb1
      cases r
      · go_wp2
        go_roundw
        case rel => exact ⟨k + 1, by omega, by go_num, Lib.hid (fun j hj hjk => (Nat.lt_or_eq_of_le (Nat.le_of_lt_succ hjk)).elim (fun h => HN.out j hj h) (fun h => by subst h; exact HR.out)), HB1⟩
        case measure => simp [intOf]; omega
      · go_wp2
        go_ret
        exact ⟨ret_int (ixOf_hit hlt HN.out HR.out).symm, HB1⟩
    · obtain rfl : k = l.length := by omega
      go_wp2
      go_ret
      exact ⟨ret_int (ixOf_none (fun j hj => HN.out j hj hj)).symm, HB⟩
theorem hasInt_calls {F : Nat → Prop} (v : Value) (l : List Int) (fn : Nat) (caps : Array Value) (p : Int → Bool) (w : World) (h : Rp.Rd Rp.int w F v l) (hen : Enters Tryz.prog fn)
    (hf : ∀ x ∈ l, ∀ W, Below w.heap.size w W → Calls Tryz.prog fn (#[Value.int .i64 x] ++ caps) W fun e w' => e = .returned (.bool (p x)) ∧ Below W.heap.size W w') :
    Calls Tryz.prog 138 #[v, .func (.func fn) #[] caps] w fun e w' => e = .returned (.bool (l.any p)) ∧ Below w.heap.size w w' := by
  have HC := ixInt_calls v l fn caps p w h hen hf
  have HX := Lib.hid (ixOf_any p l)
  generalize l.any p = r at *
  generalize ixOf p l = n at *
  have HC := Lib.hid HC
  clear hf hen
  go_enter Tryz.func138, Tryz.ntmps138
  go_wp2_with (go_at_call 154; refine HC.out.mono ?_; rintro e w1 ⟨rfl, hb⟩)
  go_ret
  exact ⟨ret_bool HX.out, hb⟩
end Go.Proofs.YtnfaibenekninaaGreat.L
