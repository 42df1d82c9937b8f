/- append(s, xs...): a whole slice put behind a row of one's own; cuts of slices that are read. -/
import Derived.Test.YtmcnoeinjocimaaLib4
import Derived.Laws.OwnMore
set_option linter.unusedVariables false
namespace Go.Proofs.Ytmcnoeinjocimaa.L
open Go.RowKit
/-- A literal of numbers, just made. -/
theorem ow_ints {e : Nat} (W : World) (l : List Int) (cs : Array Value) (hcs : cs.toList = l.map (Value.int .i64)) (hl : l.length ≤ 9223372036854775807) :
    Ow true e Rp.int (W.alloc (.cells cs e)) (fun k => k = W.heap.size) (.slice (some ⟨W.heap.size, 0, none⟩) l.length l.length) l := by
  have hsz : cs.size = l.length * 1 := by rw [← Array.length_toList, hcs]; simp
  refine ⟨fun _ _ => False, cs.toList, World.ownsRow_lit W cs l.length (Nat.zero_le _) (by unfold maxLen; omega) hsz, fun k hk => by simpa [Value.ownBlock, eq_comm] using hk, fun _ _ h => h.elim, fun _ _ _ _ h => h.elim, fun i x hx => ?_⟩
  have hi := (List.getElem?_eq_some_iff.1 hx).1
  rw [List.getElem?_eq_getElem hi] at hx
  cases hx
  show (cs.toList.drop (i * 1)).take 1 = [Value.int .i64 l[i]]
  rw [hcs, Nat.mul_one, ← List.map_drop, List.drop_eq_getElem_cons hi]
  rfl
theorem ow_intsG {e g B : Nat} {W : World} (hg : g = W.heap.size) (hB : B ≤ g) (l : List Int) (cs : Array Value) (hcs : cs.toList = l.map (Value.int .i64)) (hl : l.length ≤ 9223372036854775807) :
    Ow true e Rp.int (W.alloc (.cells cs e)) (fun k => B ≤ k) (.slice (some ⟨g, 0, none⟩) l.length l.length) l := by
  subst hg
  exact (ow_ints W l cs hcs hl).mono (fun k hk => by have h : k = _ := hk; omega)
theorem grown_below {w w1 : World} {row : Option Nat} (hg : w.grownBy w1 row) (hr : ∀ k, row = some k → w.heap.size ≤ k) : Below w.heap.size w w1 := below_grown (Below.refl _ _) hg hr (Nat.le_refl _)
theorem int_flat : Rp.Flat Rp.int := Rp.Flat.lit _ _
theorem row_news {α : Type} {r : Rp α} {w : World} {G : Nat → Prop} {b o : Nat} (ys : List α) (h : Rp.Row r w G b o ys) :
    ∃ news : List Value, news.length = ys.length * r.sz ∧ (∀ j u, news[j]? = some u → w.cell? ⟨b, o + j, none⟩ = some u) ∧ (∀ i y, ys[i]? = some y → r.K w G y ((news.drop (i * r.sz)).take r.sz)) ∧ ∀ u ∈ news, u.oneCell' = true := by
  have key : ∀ n, n ≤ ys.length → ∃ news : List Value, news.length = n * r.sz ∧ (∀ j u, news[j]? = some u → w.cell? ⟨b, o + j, none⟩ = some u) ∧ (∀ i y, i < n → ys[i]? = some y → r.K w G y ((news.drop (i * r.sz)).take r.sz)) ∧ ∀ u ∈ news, u.oneCell' = true := by
    intro n
    induction n with
    | zero => intro _; exact ⟨[], by simp, fun j u hu => by simp at hu, fun i y hi _ => by omega, fun u hu => by simp at hu⟩
    | succ n ih =>
      intro hn
      obtain ⟨news, h1, h2, h3, h4⟩ := ih (by omega)
      obtain ⟨cs, hK, hc⟩ := h n ys[n] (List.getElem?_eq_getElem (by omega))
      have hcs := r.len hK
      refine ⟨news ++ cs, by rw [List.length_append, h1, hcs, Nat.succ_mul], fun j u hu => ?_, fun i y hi hy => ?_, fun u hu => ?_⟩
      · by_cases hj : j < news.length
        · rw [List.getElem?_append_left hj] at hu; exact h2 j u hu
        · rw [List.getElem?_append_right (by omega)] at hu
          have := hc _ u hu
          rw [h1] at this hj
          rwa [show n * r.sz + (j - n * r.sz) = j by omega] at this
      · by_cases hin : i < n
        · have hle : i * r.sz + r.sz ≤ news.length := by
            rw [h1]
            calc i * r.sz + r.sz = (i + 1) * r.sz := by rw [Nat.succ_mul]
              _ ≤ n * r.sz := Nat.mul_le_mul_right _ hin
          rw [List.drop_append_of_le_length (by omega), List.take_append_of_le_length (by rw [List.length_drop]; omega)]
          exact h3 i y hin hy
        · obtain rfl : i = n := by omega
          rw [List.getElem?_eq_getElem (by omega)] at hy
          cases hy
          rw [← h1, List.drop_left, List.take_of_length_le (by omega)]
          exact hK
      · rcases List.mem_append.1 hu with hu | hu
        · exact h4 u hu
        · exact r.one hK u hu
  obtain ⟨news, h1, h2, h3, h4⟩ := key ys.length (Nat.le_refl _)
  exact ⟨news, h1, h2, fun i y hy => h3 i y (List.getElem?_eq_some_iff.1 hy).1 hy, h4⟩
theorem owns_unique {w : World} {e : TypeId} {size n : Nat} {v : Value} {xs ys : List Value} (h : w.ownsRow 0 e size v n xs) (k : w.ownsRow 0 e size v n ys) : xs = ys := by
  rcases h.2 with ⟨rfl, hn⟩ | ⟨g, cap, cur, rfl, _, hh, _, _, _, htk⟩
  · have e1 := h.1; have e2 := k.1; rw [hn, Nat.zero_mul] at e1 e2; rw [List.eq_nil_of_length_eq_zero e1, List.eq_nil_of_length_eq_zero e2]
  · rcases k.2 with ⟨hh', _⟩ | ⟨g', cap', cur', he, _, hh', _, _, _, htk'⟩
    · cases hh'
    · injection he with he _ _
      injection he with he
      injection he with he _
      subst he
      rw [hh] at hh'
      injection hh' with hh'
      injection hh' with hh' _
      subst hh'
      exact htk.symm.trans htk'
theorem run_append_none (P : Program) {w : World} (t ty e : TypeId) (i : TypeInfo) (size : Nat) (ht : P.underlying t = some (.slice e)) (hi : P.info? e = some i)
    (v : Value) (n c : Nat) (xs : List Value) (hown : w.ownsRow 0 e size v n xs) :
    (Builtin.append_ #[t, t] ty #[v, .slice none 0 c]).run P w = .ok v w := by
  rcases hown.2 with ⟨rfl, rfl⟩ | ⟨g, cap, cur, rfl, _, _, hnc, _⟩
  · simp [Builtin.append_, run_underlying ht, sizeOf, typeInfo, hi, Builtin.lenOf, Builtin.firstCells]
  · simp [Builtin.append_, run_underlying ht, sizeOf, typeInfo, hi, Builtin.lenOf, Builtin.firstCells, hnc, storeCells]
section
variable {P : Program} {ops : Array Oper} {rest : List Oper} {o : Oper} {a : Act} {Q : Exit → Act → World → Prop} {α : Type} {e : Nat} {r : Rp α} {W : World} {F G : Nat → Prop}
/-- append(s, xs...), xs a slice that is read; what its elements lead to need not be new: the row is loose. -/
theorem ow_appendv (hgd : o.guard = none) (s x : Operand) (t : TypeId) (z : Value) (bytes : Nat)
    (ho : o.op = .call { callee := .builtin .append, args := #[s, x], argTypes := #[t, t] })
    (ht : P.underlying t = some (.slice e)) (hinfo : (P.info? e).map (fun i => (i.zero, i.size, i.bytes)) = some (some z, r.sz, bytes)) (hz : z.cells.size = r.sz) (hsz : 0 < r.sz) (hb0 : 0 < bytes)
    (v vx : Value) (l ys : List α) (hs : a.eval s = v) (hx : a.eval x = vx) (ap : Bool)
    (HO : Ow ap e r W F v l) (HX : Rp.Rd r W G vx ys) (hap : ap = true → Rp.Flat r) (hG : r.Flat ∨ ∀ k, G k → ¬ F k) (hl : (l.length + ys.length) * bytes ≤ 140737488355328)
    (h : ∀ v1 w1, Ow ap e r w1 (fun k => F k ∨ (¬ r.Flat ∧ G k) ∨ W.heap.size ≤ k) v1 (l ++ ys) → W.grownBy w1 v.ownBlock → wpList P ops Q rest (a.put o.dst v1) w1) :
    wpList P ops Q (o :: rest) a W := by
  obtain ⟨i0, hi, hzz⟩ := Option.map_eq_some_iff.1 hinfo
  simp only [Prod.mk.injEq] at hzz
  obtain ⟨hz0, hz1, hz2⟩ := hzz
  have hlen : l.length + ys.length ≤ 140737488355328 := Nat.le_trans (Nat.le_mul_of_pos_right _ hb0) hl
  obtain ⟨xs, hown⟩ := HO.owns
  obtain ⟨A, c, rfl, hlc, hcm, hrow⟩ := HX
  cases A with
  | none =>
    have hnil : ys = [] := by
      rcases hrow with h | ⟨b, o', hh, _⟩
      · exact h
      · cases hh
    subst hnil
    refine wpList_plain hgd fun K hK' => ?_
    have hrun := run_append_none P t o.type e i0 r.sz ht hi v l.length c xs hown
    have hfin := hK' (a.put o.dst v) W (h v W (by rw [List.append_nil]; exact HO.mono (fun k hk => .inl hk)) (World.grownBy.refl _ _))
    unfold Oper.wp
    simp only [execOp, ho, resolve, invoke, builtin, hs, hx, hrun, Result.andThen, List.length_nil, Sem.run_bind, Sem.run_pure, List.map_toArray, List.map_cons, List.map_nil]
    exact hfin
  | some ad =>
    have hrow' : ∃ news : List Value, news.length = ys.length * r.sz ∧ (∀ j u, news[j]? = some u → W.cell? (ad.add j) = some u) ∧ (∀ i y, ys[i]? = some y → r.K W G y ((news.drop (i * r.sz)).take r.sz)) ∧ ∀ u ∈ news, u.oneCell' = true := by
      rcases hrow with rfl | ⟨b, o', hh, _, _, hr⟩
      · exact ⟨[], by simp, fun j u hu => by simp at hu, fun i y hy => by simp at hy, fun u hu => by simp at hu⟩
      · cases hh
        obtain ⟨news, h1, h2, h3, h4⟩ := row_news ys hr
        exact ⟨news, h1, fun j u hu => by rw [Addr.add_lit]; exact h2 j u hu, h3, h4⟩
    obtain ⟨news, n1, n2, n3, n4⟩ := hrow'
    refine wpList_append_own_at W hgd s x t ho 0 e i0 z r.sz bytes ht hi hz0 hz1 hz2 hz hsz v l.length xs hs hown ad ys.length c news hx n1 n2 n4 (by simp only [maxLen]; omega) hl (Nat.zero_le _) ?_
    intro v1 w1 hown1 hg _ hat
    refine h v1 w1 ?_ hg
    have hat' : v1.ownBlock = v.ownBlock ∨ ∃ b, v1.ownBlock = some b ∧ W.heap.size ≤ b := by
      rcases hat with hat | hat
      · exact .inl hat
      · exact .inr ⟨_, hat, Nat.le_refl _⟩
    have hxs : ∀ zs, W.ownsRow 0 e r.sz v l.length zs → w1.ownsRow 0 e r.sz v1 (l.length + ys.length) (zs ++ news) := fun zs hzs => by rw [owns_unique hzs hown]; exact hown1
    by_cases hF : r.Flat
    · exact Ow.snoc (w := W) HO rfl hxs hg hat' (fun _ _ => False) (fun i y hy => hF (n3 i y hy) _ _) (fun _ _ hk => hk.elim) (fun _ _ _ _ hk => hk.elim) (fun k hk => .inl hk) (fun k hk => .inr (.inr hk))
    · have hG' : ∀ k, G k → ¬ F k := hG.resolve_left hF
      exact Ow.snoc (w := W) HO rfl hxs hg hat' (fun _ k => G k) (fun i y hy => n3 i y hy) (fun _ k hk => ⟨hG' k hk, .inr (.inl ⟨hF, hk⟩)⟩) (fun ha => (hF (hap ha)).elim) (fun k hk => .inl hk) (fun k hk => .inr (.inr hk))
end
/-- append(s, xs...) where the elements lead nowhere. -/
theorem ow_appendf {P : Program} {ops : Array Oper} {rest : List Oper} {o : Oper} {a : Act} {Q : Exit → Act → World → Prop} {α : Type} {e : Nat} {r : Rp α} {W : World} {F G : Nat → Prop} (hr : r.Flat) (hgd : o.guard = none) (s x : Operand) (t : TypeId) (z : Value) (bytes : Nat)
    (ho : o.op = .call { callee := .builtin .append, args := #[s, x], argTypes := #[t, t] })
    (ht : P.underlying t = some (.slice e)) (hinfo : (P.info? e).map (fun i => (i.zero, i.size, i.bytes)) = some (some z, r.sz, bytes)) (hz : z.cells.size = r.sz) (hsz : 0 < r.sz) (hb0 : 0 < bytes)
    (v vx : Value) (l ys : List α) (hs : a.eval s = v) (hx : a.eval x = vx) (ap : Bool)
    (HO : Ow ap e r W F v l) (HX : Rp.Rd r W G vx ys) (hl : (l.length + ys.length) * bytes ≤ 140737488355328)
    (h : ∀ v1 w1, Ow ap e r w1 (fun k => F k ∨ W.heap.size ≤ k) v1 (l ++ ys) → W.grownBy w1 v.ownBlock → wpList P ops Q rest (a.put o.dst v1) w1) :
    wpList P ops Q (o :: rest) a W :=
  ow_appendv hgd s x t z bytes ho ht hinfo hz hsz hb0 v vx l ys hs hx ap HO HX (fun _ => hr) (.inl hr) hl
    fun v1 w1 h1 h2 => h v1 w1 (h1.mono (fun k hk => hk.elim .inl (fun hk => hk.elim (fun h => (h.1 hr).elim) .inr))) h2
/-- The same, for a row that began in this call: from block B on. -/
theorem acc_appendf {P : Program} {ops : Array Oper} {rest : List Oper} {o : Oper} {a : Act} {Q : Exit → Act → World → Prop} {α : Type} {e B : Nat} {r : Rp α} {w0 W : World} {G : Nat → Prop} (hr : r.Flat) (hgd : o.guard = none) (s x : Operand) (t : TypeId) (z : Value) (bytes : Nat)
    (ho : o.op = .call { callee := .builtin .append, args := #[s, x], argTypes := #[t, t] })
    (ht : P.underlying t = some (.slice e)) (hinfo : (P.info? e).map (fun i => (i.zero, i.size, i.bytes)) = some (some z, r.sz, bytes)) (hz : z.cells.size = r.sz) (hsz : 0 < r.sz) (hb0 : 0 < bytes)
    (v vx : Value) (l ys : List α) (hs : a.eval s = v) (hx : a.eval x = vx) (ap : Bool)
    (HO : Ow ap e r W (fun k => B ≤ k) v l) (HX : Rp.Rd r W G vx ys) (HB : Below B w0 W) (hB : B ≤ W.heap.size) (hl : (l.length + ys.length) * bytes ≤ 140737488355328)
    (h : ∀ v1 w1, Ow ap e r w1 (fun k => B ≤ k) v1 (l ++ ys) → Below B w0 w1 → B ≤ w1.heap.size → wpList P ops Q rest (a.put o.dst v1) w1) :
    wpList P ops Q (o :: rest) a W :=
  ow_appendf hr hgd s x t z bytes ho ht hinfo hz hsz hb0 v vx l ys hs hx ap HO HX hl
    fun v1 w1 h1 h2 => h v1 w1 (h1.mono (fun k hk => hk.elim id (fun hk => Nat.le_trans hB hk))) (below_grown HB h2 (fun k hk => (HO.lt_size hk).1) hB) (Nat.le_trans hB h2.size)
theorem acc_append1 {P : Program} {ops : Array Oper} {rest : List Oper} {o : Oper} {a : Act} {Q : Exit → Act → World → Prop} {α : Type} {e B : Nat} {r : Rp α} {w0 W : World} (hr : r.Flat) (hgd : o.guard = none) (s x : Operand) (t : TypeId) (z : Value) (bytes : Nat)
    (ho : o.op = .call { callee := .builtin .append, args := #[s, x], argTypes := #[t, t] })
    (ht : P.underlying t = some (.slice e)) (hinfo : (P.info? e).map (fun i => (i.zero, i.size, i.bytes)) = some (some z, r.sz, bytes)) (hz : z.cells.size = r.sz) (hsz : 0 < r.sz) (hb0 : 0 < bytes)
    (v : Value) (l : List α) (y : α) (us : List Value) (hs : a.eval s = v) (hx : a.eval x = .slice (some ⟨W.heap.size, 0, none⟩) 1 1) (ap : Bool)
    (HO : Ow ap e r W (fun k => B ≤ k) v l) (hy : r.K W (fun _ => False) y us) (HB : Below B w0 W) (hB : B ≤ W.heap.size) (hl : (l.length + 1) * bytes ≤ 140737488355328)
    (h : ∀ v1 w1, Ow ap e r w1 (fun k => B ≤ k) v1 (l ++ [y]) → Below B w0 w1 → B ≤ w1.heap.size → wpList P ops Q rest (a.put o.dst v1) w1) :
    wpList P ops Q (o :: rest) a (W.alloc (.cells us.toArray e)) :=
  ow_append1 hgd s x t z bytes ho ht hinfo hz hsz hb0 v l y us hs hx HO hy (fun _ h => h.elim) hl
    fun v1 w1 h1 h2 => h v1 w1 (h1.mono (fun k hk => hk.elim id (fun hk => hk.elim (fun h => h.elim) (fun hk => Nat.le_trans hB hk)))) (below_grown HB h2 (fun k hk => (HO.lt_size hk).1) hB) (Nat.le_trans hB h2.size)
namespace Rp.Rd
variable {α : Type} {r : Rp α} {w : World} {F : Nat → Prop} {l : List α} {A : Option Addr} {n c : Nat}
theorem take (h : Rp.Rd r w F (.slice A n c) l) (k : Nat) (hk : k ≤ n) : Rp.Rd r w F (.slice A k c) (l.take k) := by
  obtain ⟨A', c', he, hl, hm, h⟩ := h
  injection he with h1 h2 h3
  subst h1 h2 h3
  refine ⟨_, _, by rw [List.length_take, Nat.min_eq_left hk], by rw [List.length_take]; omega, hm, ?_⟩
  rcases h with rfl | ⟨b, o, rfl, hb, hlt, h⟩
  · left; simp
  · exact .inr ⟨b, o, rfl, hb, hlt, fun i x hx => h i x (by rw [List.getElem?_take] at hx; split at hx; exact hx; cases hx)⟩
theorem drop (h : Rp.Rd r w F (.slice A n c) l) (hsz : r.sz = 1) (k : Nat) (hk : k ≤ n) : Rp.Rd r w F (.slice (if c = k then A else A.map (·.add k)) (n - k) (c - k)) (l.drop k) := by
  obtain ⟨A', c', he, hl, hm, h⟩ := h
  injection he with h1 h2 h3
  subst h1 h2 h3
  refine ⟨_, _, by rw [List.length_drop], by rw [List.length_drop]; omega, by omega, ?_⟩
  by_cases hck : c = k
  · left; rw [List.drop_eq_nil_of_le (by omega)]
  · rcases h with rfl | ⟨b, o, rfl, hb, hlt, h⟩
    · left; simp
    · refine .inr ⟨b, o + k, by rw [if_neg hck, Option.map_some, Addr.add_lit], hb, hlt, fun i x hx => ?_⟩
      rw [List.getElem?_drop] at hx
      obtain ⟨cs, hK, hc⟩ := h (k + i) x hx
      refine ⟨cs, hK, fun j u hu => ?_⟩
      have := hc j u hu
      rw [hsz, Nat.mul_one] at this ⊢
      rwa [show o + k + (i + j) = o + (k + i + j) by omega]
theorem drop_lt {b o : Nat} (h : Rp.Rd r w F (.slice (some ⟨b, o, none⟩) n c) l) (hsz : r.sz = 1) (k : Nat) (hk : k ≤ n) (hc : k < c) : Rp.Rd r w F (.slice (some ⟨b, o + k, none⟩) (n - k) (c - k)) (l.drop k) := by
  have := h.drop hsz k hk
  rwa [if_neg (by omega), Option.map_some, Addr.add_lit] at this
theorem drop_eq {b o : Nat} (h : Rp.Rd r w F (.slice (some ⟨b, o, none⟩) n c) l) (hsz : r.sz = 1) (k : Nat) (hk : k ≤ n) (hc : c = k) : Rp.Rd r w F (.slice (some ⟨b, o, none⟩) (n - k) (c - k)) (l.drop k) := by
  have := h.drop hsz k hk
  rwa [if_pos hc] at this
end Rp.Rd
end Go.Proofs.Ytmcnoeinjocimaa.L
