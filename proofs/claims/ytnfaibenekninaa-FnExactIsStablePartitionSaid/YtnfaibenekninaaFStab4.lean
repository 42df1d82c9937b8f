/- Joined texts, each of which was built by itself: Rg1 Ap1 Ds3 Ep1 Ds4 Ds1. -/
import Derived.Test.YtnfaibenekninaaFStab3
import Derived.Deep.RegionHeld3
import Derived.StillTail
import Derived.Lib.Hide
import Derived.WalkKit
import Derived.RowKit
import Derived.Test.YtnfaibenekninaaB3
import Derived.Maps.AppendAt
import Derived.Test.YtnfaibenekninaaB1
import Derived.Test.YtnfaibenekninaaB7
import Derived.ChangeKeysEq
import Derived.Laws.StructEq
import Derived.BigQuiet
set_option linter.unusedVariables false
namespace Go.Proofs.Ytnfaibenekninaa.L
open Go.RowKit
section
variable {P : Program} {ops : Array Oper} {Q : Exit → Act → World → Prop} {md : Region.Mode} {C : World → Prop} {T : List (Nat × (World → Prop))}
/-- What each store leaves true until it comes up. -/
def Till : List (Nat × (World → Prop)) → Array Bool → World → Prop
  | [], _, _ => True
  | c :: r, L, w => (L.getD c.1 false = false → c.2 w) ∧ Till r L w
theorem getD_other {L : Array Bool} {i t : Nat} (h : i ≠ t) : (L.setIfInBounds i true).getD t false = L.getD t false := by
  simp [Array.getD_eq_getD_getElem?, Array.getElem?_setIfInBounds_ne h]
theorem Till.other {L : Array Bool} {i : Nat} {w : World} : ∀ {T : List (Nat × (World → Prop))}, (T.map Prod.fst).all (fun t => t != i) = true → (Till T (L.setIfInBounds i true) w ↔ Till T L w)
  | [], _ => Iff.rfl
  | c :: r, h => by
    simp only [List.map_cons, List.all_cons, Bool.and_eq_true, bne_iff_ne, ne_eq] at h
    unfold Till
    rw [getD_other (fun e => h.1 e.symm), Till.other (T := r) h.2]
theorem Till.get {L : Array Bool} {w : World} {t : Nat} : ∀ {T : List (Nat × (World → Prop))} {k : Nat}, T[k]? = some (t, C) → Till T L w → L.getD t false = false → C w
  | [], _, h, _, _ => by simp at h
  | c :: r, 0, h, hT, hL => by simp at h; subst h; exact hT.1 hL
  | c :: r, k + 1, h, hT, hL => Till.get (T := r) (k := k) (by simpa using h) hT.2 hL
/-- Any order; behind each operation what the stores that have not come up leave true holds. -/
def AnyT (P : Program) (md : Region.Mode) (ops : Array Oper) (Q : Exit → Act → World → Prop) (T : List (Nat × (World → Prop))) : Nat → Array Bool → Act → World → Prop
  | 0, L, a, w => Region.ready md ops L = [] ∧ Q .normal a w
  | n + 1, L, a, w => (Region.ready md ops L = [] → Q .normal a w) ∧
      ∀ i ∈ Region.ready md ops L, wpOp P ops Q i (fun a' w' => Till T (L.setIfInBounds i true) w' ∧ AnyT P md ops Q T n (L.setIfInBounds i true) a' w') a w
theorem anyT_any : ∀ (n : Nat) (L : Array Bool) (a : Act) (w : World), AnyT P md ops Q T n L a w → wpAny P md ops Q n L a w
  | 0, _, _, _, h => h
  | n + 1, _, _, _, h => ⟨h.1, fun i hi => wpOp_mono (fun a' w' k => anyT_any n _ a' w' k.2) (h.2 i hi)⟩
theorem not_ready {L : Array Bool} {i j : Nat} (hw : Region.waitsFor md ops j i = true) (hi : i ∈ Region.ready md ops L) : j ∉ Region.ready md ops L := by
  intro hj
  obtain ⟨oj, hoj, e, he, hb, hon⟩ := Region.waitsFor_spec hw
  obtain ⟨_, oj', hoj', hall⟩ := mem_ready.1 hj
  have he' := hall e (by rw [hoj] at hoj'; cases hoj'; exact he) hb
  have h0 := (mem_ready.1 hi).1
  rw [hon] at he'
  rcases Nat.lt_or_ge i L.size with h | h
  · simp [h] at h0 he'; rw [h0] at he'; cases he'
  · simp [Array.getElem?_eq_none h] at h0
theorem anyT_first {i : Nat} {oi : Oper} {v : Value} (I : Array Bool → Prop) (hI : ∀ L j, I L → i ∈ Region.ready md ops L → j ∈ Region.ready md ops L → j ≠ i → I (L.setIfInBounds j true)) (hIC : ∀ L w, I L → Till T L w → C w)
    (hi : ops[i]? = some oi) (hsel : ∀ (j : Nat) (o : Oper) cs b, ops[j]? = some o → o.op ≠ .select cs b)
    (hQ : ∀ c a w, Q (.panic c) (a.put oi.dst v) w → Q (.panic c) a w) (hT : (T.map Prod.fst).all (fun t => t != i) = true) :
    ∀ (n : Nat) (L : Array Bool) (a : Act) (w : World),
      (∀ j oj, ops[j]? = some oj → j ≠ i → L.getD j true = false → (∀ e ∈ oj.after, Region.binds md e = true → e.on ≠ i) → oi.apart ops oj = true) →
      i ∈ Region.ready md ops L → I L → YieldsIf P ops C oi v a → Till T L w → AnyT P md ops Q T n (L.setIfInBounds i true) (a.put oi.dst v) w → AnyT P md ops Q T (n + 1) L a w := by
  have one : ∀ (L : Array Bool) (a : Act) (w : World) (n : Nat), I L → YieldsIf P ops C oi v a → Till T L w → AnyT P md ops Q T n (L.setIfInBounds i true) (a.put oi.dst v) w →
      wpOp P ops Q i (fun a' w' => Till T (L.setIfInBounds i true) w' ∧ AnyT P md ops Q T n (L.setIfInBounds i true) a' w') a w := fun L a w n hL hy hC H => hy.wpOp hi (hIC L w hL hC) ⟨(Till.other hT).2 hC, H⟩
  intro n
  induction n with
  | zero =>
    intro L a w _ hr hL hy hC H
    refine ⟨fun h => (by rw [h] at hr; cases hr), fun j hj => ?_⟩
    by_cases hji : j = i
    · rw [hji]; exact one L a w 0 hL hy hC H
    · have := ready_mono hj hji
      rw [H.1] at this; cases this
  | succ n ih =>
    intro L a w hfree hr hL hy hC H
    refine ⟨fun h => (by rw [h] at hr; cases hr), fun j hj => ?_⟩
    by_cases hji : j = i
    · rw [hji]; exact one L a w _ hL hy hC H
    · have h1 := H.2 j (ready_mono hj hji)
      obtain ⟨hjun, oj, hoj, hall⟩ := mem_ready.1 hj
      have hnot : ∀ e ∈ oj.after, Region.binds md e = true → e.on ≠ i := fun e he hb heq => by
        have hwj : Region.waitsFor md ops j i = true := by
          unfold Region.waitsFor
          rw [hoj]
          exact Array.any_eq_true'.2 ⟨e, he, by simp [hb, heq]⟩
        exact not_ready hwj hr hj
      have h2 := wpOp_putIf hoj (hfree j oj hoj hji hjun hnot) (fun cs b => hsel i oi cs b hi) (fun cs b => hsel j oj cs b hoj) hQ hy h1
      have hfree2 : ∀ k ok, ops[k]? = some ok → k ≠ i → (L.setIfInBounds j true).getD k true = false → (∀ e ∈ ok.after, Region.binds md e = true → e.on ≠ i) → oi.apart ops ok = true := fun k ok hk hki hun hno => by
        refine hfree k ok hk hki ?_ hno
        by_cases hjk : j = k
        · rw [← hjk]; exact hjun
        · rwa [getD_set_ne true hjk] at hun
      refine wpOp_mono (fun a' w' h3 => ?_) h2
      have hC3 : Till T (L.setIfInBounds j true) w' := (Till.other hT).1 (by rw [Array.setIfInBounds_comm _ _ hji]; exact h3.2.1)
      refine ⟨hC3, ih (L.setIfInBounds j true) a' w' hfree2 (ready_mono hr (Ne.symm hji)) (hI L j hL hr hj hji) h3.1 hC3 ?_⟩
      rw [Array.setIfInBounds_comm _ _ hji]
      exact h3.2.2
/-- Number i is taken first: nothing but store t, which waits for it, changes what it reads. -/
theorem anyT_take {i k t : Nat} {oi : Oper} {v : Value} {n : Nat} {L : Array Bool} {a : Act} {w : World} (hk : T[k]? = some (t, C)) (hi : ops[i]? = some oi)
    (hs : Region.noSelect ops = true) (hf : Region.free md ops L i = true) (hr : ((Region.ready md ops L).contains i && (Region.waitsFor md ops t i && (!L.getD t false && (T.map Prod.fst).all (fun t => t != i)))) = true)
    (hQ : ∀ c a w, Q (.panic c) (a.put oi.dst v) w → Q (.panic c) a w) (hy : YieldsIf P ops C oi v a) (hC : Till T L w)
    (h : AnyT P md ops Q T n (L.setIfInBounds i true) (a.put oi.dst v) w) : AnyT P md ops Q T (n + 1) L a w := by
  simp only [Bool.and_eq_true, Bool.not_eq_true'] at hr
  exact anyT_first (fun L => L.getD t false = false) (fun L j hL hri hrj _ => (getD_other (fun e => not_ready hr.2.1 hri (by rw [← e]; exact hrj))).trans hL) (fun L w hL hT => hT.get hk hL) hi (Region.noSelect_spec hs) hQ hr.2.2.2 n L a w (Region.free_spec hi hf) (by simpa using hr.1) hr.2.2.1 hy hC h
/-- Number i, whose value no world changes, is taken first. -/
theorem anyT_pure {i : Nat} {oi : Oper} {v : Value} {n : Nat} {L : Array Bool} {a : Act} {w : World} (hi : ops[i]? = some oi)
    (hs : Region.noSelect ops = true) (hf : Region.free md ops L i = true) (hr : ((Region.ready md ops L).contains i && (T.map Prod.fst).all (fun t => t != i)) = true)
    (hQ : ∀ c a w, Q (.panic c) (a.put oi.dst v) w → Q (.panic c) a w) (hy : YieldsIf P ops (fun _ => True) oi v a) (hC : Till T L w)
    (h : AnyT P md ops Q T n (L.setIfInBounds i true) (a.put oi.dst v) w) : AnyT P md ops Q T (n + 1) L a w := by
  simp only [Bool.and_eq_true] at hr
  exact anyT_first (fun _ => True) (fun _ _ _ _ _ _ => trivial) (fun _ _ _ _ => trivial) hi (Region.noSelect_spec hs) hQ hr.2 n L a w (Region.free_spec hi hf) (by simpa using hr.1) trivial hy hC h
/-- The operations of rs may come up next. -/
def AllT (P : Program) (md : Region.Mode) (ops : Array Oper) (Q : Exit → Act → World → Prop) (T : List (Nat × (World → Prop))) (n : Nat) (L : Array Bool) (a : Act) (w : World) (rs : List Nat) : Prop :=
  ∀ i ∈ rs, wpOp P ops Q i (fun a' w' => Till T (L.setIfInBounds i true) w' ∧ AnyT P md ops Q T n (L.setIfInBounds i true) a' w') a w
theorem AllT.nil {n : Nat} {L : Array Bool} {a : Act} {w : World} : AllT P md ops Q T n L a w [] := fun _ h => by cases h
theorem AllT.cons {n : Nat} {L : Array Bool} {a : Act} {w : World} {i : Nat} {o : Oper} {rs : List Nat} (ho : ops[i]? = some o)
    (h : ∀ K : Act → World → Prop, Hid (∀ a w, Till T (L.setIfInBounds i true) w → (Till T (L.setIfInBounds i true) w → AnyT P md ops Q T n (L.setIfInBounds i true) a w) → K a w) → if Region.wanted o (yielded ops a.tmps) = true then Oper.wp P o a w K Q else K (a.put o.dst undef) w)
    (hs : AllT P md ops Q T n L a w rs) : AllT P md ops Q T n L a w (i :: rs) := fun j hj => by
  rcases List.mem_cons.1 hj with rfl | hj
  · exact wpOp_step ho (fun K hK => h K (Lib.hid (fun a w hC hW => hK a w ⟨hC, hW hC⟩)))
  · exact hs j hj
theorem anyT_ready {rs : List Nat} {n : Nat} {L : Array Bool} {a : Act} {w : World} (hr : Region.ready md ops L = rs) (hne : rs ≠ [])
    (h : AllT P md ops Q T n L a w rs) : AnyT P md ops Q T (n + 1) L a w := ⟨fun h0 => absurd (hr ▸ h0) hne, hr ▸ h⟩
theorem anyT_done {L : Array Bool} {a : Act} {w : World} (hr : Region.ready md ops L = []) (h : Q .normal a w) : ∀ n, AnyT P md ops Q T n L a w
  | 0 => ⟨hr, h⟩
  | _ + 1 => ⟨fun _ => h, by rw [hr]; simp⟩
theorem anyT_region (T : List (Nat × (World → Prop))) {id : Nat} {a : Act} {w : World} (hm : P.follows .mixedOrders = true) (hC : Till T (Array.replicate ops.size false) w.drew)
    (h : Till T (Array.replicate ops.size false) w.drew → AnyT P .any ops Q T ops.size (Array.replicate ops.size false) a w.drew) : (Code.region id ops true).wp P Q a w :=
  wp_region_any hm (anyT_any _ _ _ _ (h hC))
end
end Go.Proofs.Ytnfaibenekninaa.L

set_option linter.unusedVariables false
set_option linter.unusedSimpArgs false
namespace Go.Proofs.Ytnfaibenekninaa.L
open Go.RowKit
theorem run_ap1 {P : Program} {α : Type} {ap : Bool} {e : Nat} {r : Rp α} {W : World} {F G : Nat → Prop} (t ty : TypeId) (z : Value) (bytes : Nat) (ht : P.underlying t = some (.slice e)) (hinfo : (P.info? e).map (fun i => (i.zero, i.size, i.bytes)) = some (some z, r.sz, bytes)) (hz : z.cells.size = r.sz) (hsz : 0 < r.sz) (hb0 : 0 < bytes)
    (v : Value) (l : List α) (y : α) (us : List Value) (bx : Nat) (hbx : W.heap[bx]? = some (.cells us.toArray e (0, 0))) (HO : Ow ap e r W F v l) (hy : r.K W G y us) (hG : ∀ k, G k → ¬ F k) (hl : (l.length + 1) * bytes ≤ 140737488355328) :
    ∃ v' W', (Builtin.append_ #[t, t] ty #[v, .slice (some ⟨bx, 0, none⟩) 1 1]).run P W = .ok v' W' ∧ Ow ap e r W' (fun k => F k ∨ G k ∨ W.heap.size ≤ k) v' (l ++ [y]) ∧ W.grownBy W' v.ownBlock := by
  obtain ⟨i0, hi, hzz⟩ := Option.map_eq_some_iff.1 hinfo
  simp only [Prod.mk.injEq] at hzz
  obtain ⟨hz0, hz1, hz2⟩ := hzz
  obtain ⟨xs, hown⟩ := HO.owns
  have hlen : l.length + 1 ≤ 140737488355328 := Nat.le_trans (Nat.le_mul_of_pos_right _ hb0) hl
  have hus : us.length = r.sz := r.len hy
  obtain ⟨v1, w1, hr, hown1, hg, hnl, hat⟩ := run_append_own_at (P := P) W 0 t ty e i0 z r.sz bytes ht hi hz0 hz1 hz2 hz hsz v l.length xs hown ⟨bx, 0, none⟩ 1 1 us (by rw [hus, Nat.one_mul])
    (fun j u hu => World.news_of_block (cs := us.toArray) (t := e) (fr := (0, 0)) hbx j u (by simpa using hu)) (r.one hy) (by unfold maxLen; omega) hl (Nat.zero_le _)
  have hat' : v1.ownBlock = v.ownBlock ∨ ∃ b, v1.ownBlock = some b ∧ W.heap.size ≤ b := by
    rcases hat with hat | hat
    · exact .inl hat
    · exact .inr ⟨_, hat, Nat.le_refl _⟩
  refine ⟨v1, w1, hr, ?_, hg⟩
  refine Ow.snoc (w := W) (m := 1) (ys := [y]) (news := us) HO rfl (fun zs hzs => by rw [owns_unique hzs hown]; exact hown1) hg hat' (fun i k => i = 0 ∧ G k) (fun i y' hy' => ?_) (fun i k hk => ⟨hG k hk.2, .inr (.inl hk.2)⟩) (fun _ i j k hi hj => by omega) (fun k hk => .inl hk) (fun k hk => .inr (.inr hk))
  match i, hy' with
  | 0, hy' =>
    simp only [List.getElem?_cons_zero, Option.some.injEq] at hy'
    subst hy'
    rw [Nat.zero_mul, List.drop_zero, List.take_of_length_le (by omega)]
    exact r.mono (fun k hk => ⟨rfl, hk⟩) hy
  | i + 1, hy' => simp at hy'
end Go.Proofs.Ytnfaibenekninaa.L

set_option linter.unusedVariables false
set_option linter.unusedSimpArgs false
namespace Go.Proofs.Ytnfaibenekninaa.L
open Go.RowKit
theorem partsD_get {s : Sa} {D : List Df} {v : Nat} (hv : v < D.length) : partsD s D v = if D[v].step.op = 3 then [D[v].step.a, D[v].step.b] else if D[v].part < 0 then [] else handS s.parts D[v].part D[v].at_ := by unfold partsD; rw [getD_df hv]
set_option maxRecDepth 100000 in
set_option maxHeartbeats 8000000 in
theorem l11Parts_calls {F G : Nat → Prop} (s : Sa) (vparts : Value) (D : List Df) (vD : Value) (v : Nat) (w : World) (hs : Rp.Rd part w F vparts s.parts) (h : Rp.Rd dfK w G vD D) (hv : v < D.length) (hN1 : D.length ≤ 250)
    (hlen : s.parts.length ≤ 11 ∧ ∀ p ∈ s.parts, p.next.length ≤ 6) (hed : 0 ≤ (D.getD v df0).part → 0 ≤ (D.getD v df0).at_ ∧ ∀ p ∈ s.parts, ∀ m, m < p.next.length → m < p.args.length ∧ (p.next.getD m 0 = (D.getD v df0).part → (D.getD v df0).at_.toNat < (p.args.getD m []).length)) :
    Calls Try.prog 118 #[saV s vparts, vD, .int .i64 v] w fun e w' => ∃ v', e = .returned v' ∧ Rp.Rd Rp.int w' (fun k => w.heap.size ≤ k) v' (partsD s D v) ∧ Below w.heap.size w w' := by
  obtain ⟨A0, c0, rfl, hlc, hcm, hrow⟩ := rd_part hs
  obtain ⟨A, c, rfl, _, _, hrd⟩ := rd_df h
  rcases hrd with hnil | ⟨b, o, rfl, hb, hcell⟩
  · rw [hnil] at hv; simp at hv
  obtain ⟨q0, q1, q2, q3, q4, q5, q6, q7⟩ := hcell v hv
  have hP := Lib.hid (partsD_get (s := s) hv)
  rw [getD_df hv] at hed
  have u0 : (0 : Int) ≤ (v : Int) := Int.natCast_nonneg _
  have u1 : (v : Int) < (D.length : Int) := by omega
  clear hcell
  generalize partsD s D v = R at *
  generalize D[v] = d at *
  obtain ⟨⟨xo, xd, xdst, xa, xb, xn⟩, pt, at_⟩ := d
  dsimp only at *
  have HE := Lib.hid hed
  have HNl := Lib.hid hlen.2
  have hlp := hlen.1
  have HSl : Hid (∀ k, k ≤ s.parts.length → (handS (s.parts.take k) pt at_).length ≤ 66) := Lib.hid (fun k hk => Nat.le_trans (handS_len (B := 6) (fun p hp => hlen.2 p (List.mem_of_mem_take hp))) (by rw [List.length_take]; omega))
  clear hed hlen
  unfold saV
  have hB0 : Below w.heap.size w (w.alloc (.cells #[.slice A0 s.parts.length c0, .int .i64 s.values] 31)) := below_new _
  have b0 := heap_alloc_new w (.cells #[.slice A0 s.parts.length c0, .int .i64 s.values] 31)
  have hz0 : (w.alloc (.cells #[.slice A0 s.parts.length c0, .int .i64 s.values] 31)).heap.size = w.heap.size + 1 := by simp
  have q0 := cell_below hB0 q0
  have q1 := cell_below hB0 q1
  have q2 := cell_below hB0 q2
  have q3 := cell_below hB0 q3
  have q4 := cell_below hB0 q4
  have q5 := cell_below hB0 q5
  have q6 := cell_below hB0 q6
  have q7 := cell_below hB0 q7
  have hb1 := below_new (w := w.alloc (.cells #[.slice A0 s.parts.length c0, .int .i64 s.values] 31)) (.cells #[.int .i64 xo, .int .i64 xd, .int .i64 xdst, .int .i64 xa, .int .i64 xb, .int .i64 xn, .int .i64 pt, .int .i64 at_] 167)
  by_cases h3 : xo = 3
  · have e : R = [xa, xb] := by rw [hP.out, if_pos h3]
    subst e
    subst h3
    clear hP HE
    go_enter Try.func118, Try.ntmps118
    go_wp2
    go_ret
    have hb2 := below_then hB0 hb1
    refine ⟨_, rfl, Ow.rd (ap := true) (e := 3) (ow_intsG (B := w.heap.size) (by simp) (by omega) [xa, xb] #[.int .i64 xa, .int .i64 xb] rfl (by simp)), below_then hb2 (below_new _)⟩
  have t3 : (xo == 3) = false := by simpa using h3
  by_cases h4 : pt < 0
  · have e : R = [] := by rw [hP.out, if_neg h3, if_pos h4]
    subst e
    clear hP HE h3
    go_enter Try.func118, Try.ntmps118
    go_wp2
    go_ret
    exact ⟨_, rfl, Rp.Rd.nil _ _ _, below_then hB0 hb1⟩
  have hRe : Hid (R = handS s.parts pt at_) := Lib.hid (by rw [hP.out, if_neg h3, if_neg h4])
  have HE := Lib.hid (HE.out (by omega))
  have d1 := heap_alloc_new (w.alloc (.cells #[.slice A0 s.parts.length c0, .int .i64 s.values] 31)) (.cells #[.int .i64 xo, .int .i64 xd, .int .i64 xdst, .int .i64 xa, .int .i64 xb, .int .i64 xn, .int .i64 pt, .int .i64 at_] 167)
  have b1 := blk_below b0 hb1
  have hz1 : ((w.alloc (.cells #[.slice A0 s.parts.length c0, .int .i64 s.values] 31)).alloc (.cells #[.int .i64 xo, .int .i64 xd, .int .i64 xdst, .int .i64 xa, .int .i64 xb, .int .i64 xn, .int .i64 pt, .int .i64 at_] 167)).heap.size = w.heap.size + 1 + 1 := by simp
  rw [hz0] at d1
  have hB1 := below_then hB0 hb1
  obtain ⟨x1, _⟩ := cell_of_block b1
  have x10 : ((w.alloc (.cells #[.slice A0 s.parts.length c0, .int .i64 s.values] 31)).alloc (.cells #[.int .i64 xo, .int .i64 xd, .int .i64 xdst, .int .i64 xa, .int .i64 xb, .int .i64 xn, .int .i64 pt, .int .i64 at_] 167)).cell? ⟨w.heap.size, 0, none⟩ = some (.slice A0 s.parts.length c0) := (x1 0).trans rfl
  clear x1 hP h3 b0 hb1 hB0 hz0
  go_enter Try.func118, Try.ntmps118
  go_wp2_with fail
  obtain ⟨W1, hW1⟩ : ∃ W1, W1 = (w.alloc (.cells #[.slice A0 s.parts.length c0, .int .i64 s.values] 31)).alloc (.cells #[.int .i64 xo, .int .i64 xd, .int .i64 xdst, .int .i64 xa, .int .i64 xb, .int .i64 xn, .int .i64 pt, .int .i64 at_] 167) := ⟨_, rfl⟩
  rw [← hW1] at hB1 d1 hz1 ⊢
  clear hW1 x10 q0 q1 q2 q3 q4 q5 q6 q7
  go_loopw [8, 34] (fun av x wr => ∃ (m : Nat) (sv : Value), sv = av ∧ m ≤ s.parts.length ∧ x = .int .i64 m ∧ Ow true 3 Rp.int wr (fun k => w.heap.size + 2 ≤ k) sv (handS (s.parts.take m) pt at_) ∧ Below W1.heap.size W1 wr) (fun _ x _ => s.parts.length - (intOf x).toNat)
  case atStart => exact ⟨0, _, rfl, Nat.zero_le _, rfl, by simpa [handS] using Ow.nil _ _ _ _ _, Below.refl _ _⟩
  case round =>
    obtain ⟨m, sv, rfl, hm, rfl, HO, HB1⟩ := hrel
    rename World => wo
    have HB := below_then hB1 HB1
    by_cases hlt : m < s.parts.length
    · rcases hrow with hnil | ⟨b2, o2, rfl, hb2, hcell⟩
      · rw [hnil] at hlt; simp at hlt
      obtain ⟨_, _, _, _, hp, ⟨A1, c1, rfl, _⟩, ⟨A2, c2, rfl, _⟩, h3, h4⟩ := hcell m hlt
      obtain ⟨A3, c3, rfl, _, _, hr3⟩ := rd_int h3
      obtain ⟨A4, c4, rfl, _, _, hr4⟩ := rd_ints h4
      have hpm := List.getElem_mem hlt
      have hed := Lib.hid (HE.out.2 _ hpm)
      have ha0 := HE.out.1
      have hnl := HNl.out _ hpm
      have hsl := HSl.out m hm
      have hTk := Lib.hid (handS_take hlt pt at_)
      obtain ⟨q0, q1, q2, q3, q4, q5⟩ := partAt_below hp HB
      clear hcell hpm hp
      obtain ⟨p, hpe⟩ : ∃ p, p = s.parts[m] := ⟨_, rfl⟩
      rw [← hpe] at h3 h4 hr3 hr4 hed hnl hTk q0 q1 q2 q3 q4 q5
      clear hpe
      obtain ⟨H0, hH0⟩ : ∃ H0, H0 = handS (s.parts.take m) pt at_ := ⟨_, rfl⟩
      rw [← hH0] at HO hsl hTk
      clear hH0
      have i0 : (0 : Int) ≤ (m : Int) := Int.natCast_nonneg _
      have i1 : (m : Int) < (s.parts.length : Int) := by omega
      have hbp := below_new (w := wo) (.cells #[.slice A1 p.params.length c1, .slice A2 p.code.length c2, .int .i64 p.go, .int .i64 p.test, .slice A3 p.next.length c3, .slice A4 p.args.length c4] 145)
      have ep := heap_alloc_new wo (.cells #[.slice A1 p.params.length c1, .slice A2 p.code.length c2, .int .i64 p.go, .int .i64 p.test, .slice A3 p.next.length c3, .slice A4 p.args.length c4] 145)
      have hzp : (wo.alloc (.cells #[.slice A1 p.params.length c1, .slice A2 p.code.length c2, .int .i64 p.go, .int .i64 p.test, .slice A3 p.next.length c3, .slice A4 p.args.length c4] 145)).heap.size = wo.heap.size + 1 := by simp
      have hsB := HB1.size
      have HO0 : Ow true 3 Rp.int (wo.alloc (.cells #[.slice A1 p.params.length c1, .slice A2 p.code.length c2, .int .i64 p.go, .int .i64 p.test, .slice A3 p.next.length c3, .slice A4 p.args.length c4] 145)) (fun k => w.heap.size + 2 ≤ k ∧ k ≠ wo.heap.size) sv (H0 ++ handP p pt at_ 0) := by
        have h1 := (HO.bound.mono (G := fun k => w.heap.size + 2 ≤ k ∧ k ≠ wo.heap.size) (fun k hk => by have := hk.1; have := hk.2; omega)).below hbp
        simpa [handP] using h1
      obtain ⟨y1, _⟩ := cell_of_block ep
      have y14 : (wo.alloc (.cells #[.slice A1 p.params.length c1, .slice A2 p.code.length c2, .int .i64 p.go, .int .i64 p.test, .slice A3 p.next.length c3, .slice A4 p.args.length c4] 145)).cell? ⟨wo.heap.size, 4, none⟩ = some (.slice A3 p.next.length c3) := (y1 4).trans rfl
      clear HO y1
      go_wp2_with fail
      obtain ⟨W2, hW2⟩ : ∃ W2, W2 = wo.alloc (.cells #[.slice A1 p.params.length c1, .slice A2 p.code.length c2, .int .i64 p.go, .int .i64 p.test, .slice A3 p.next.length c3, .slice A4 p.args.length c4] 145) := ⟨_, rfl⟩
      rw [← hW2] at HO0 hbp ep hzp ⊢
      clear q0 q1 q2 q3 q4 q5 y14 hW2
      obtain ⟨pb, hpb⟩ : ∃ pb, pb = wo.heap.size := ⟨_, rfl⟩
      rw [← hpb] at HO0 ep ⊢
      have hpb1 : w.heap.size + 2 ≤ pb := by omega
      have hBW2 := below_then HB1 hbp
      clear hbp HB1 HB
      go_loopw [8, 41] (fun av x wr => ∃ (n : Nat) (sv : Value), sv = av ∧ n ≤ p.next.length ∧ x = .int .i64 n ∧ Ow true 3 Rp.int wr (fun k => w.heap.size + 2 ≤ k ∧ k ≠ pb) sv (H0 ++ handP p pt at_ n) ∧ Below W1.heap.size W1 wr ∧ wr.heap[pb]? = some (.cells #[.slice A1 p.params.length c1, .slice A2 p.code.length c2, .int .i64 p.go, .int .i64 p.test, .slice A3 p.next.length c3, .slice A4 p.args.length c4] 145 (0, 0))) (fun _ x _ => p.next.length - (intOf x).toNat)
      case atStart => exact ⟨0, _, rfl, Nat.zero_le _, rfl, HO0, hBW2, ep⟩
      case round =>
        clear HO0 hBW2 ep hpb
        obtain ⟨n, sv, rfl, hn, rfl, HO, HB1, ep⟩ := hrel
        rename World => wx
        have HB := below_then hB1 HB1
        by_cases hnt : n < p.next.length
        · rcases hr3 with hn0 | ⟨b3, o3, rfl, hb3, hc3⟩
          · rw [hn0] at hnt; simp at hnt
          have cv := cell_below HB (hc3 n hnt)
          have hed1 := Lib.hid (hed.out n hnt)
          have e : p.next.getD n 0 = p.next[n] := by rw [List.getD_eq_getElem?_getD, List.getElem?_eq_getElem hnt]; rfl
          have hSt := Lib.hid (handP_succ p pt at_ n)
          rw [e] at hSt hed1
          have hLn := handP_len p pt at_ n
          clear hc3 e
          obtain ⟨y, hy⟩ : ∃ y, y = p.next[n] := ⟨_, rfl⟩
          rw [← hy] at cv hSt hed1
          clear hy
          have n0 : (0 : Int) ≤ (n : Int) := Int.natCast_nonneg _
          have n1 : (n : Int) < (p.next.length : Int) := by omega
          have d2 := blk_below d1 HB1
          obtain ⟨z1, _⟩ := cell_of_block d2
          have z16 : wx.cell? ⟨w.heap.size + 1, 6, none⟩ = some (.int .i64 pt) := (z1 6).trans rfl
          have z17 : wx.cell? ⟨w.heap.size + 1, 7, none⟩ = some (.int .i64 at_) := (z1 7).trans rfl
          clear z1
          by_cases hyq : y = pt
          · have hal := (hed1.out).1
            have hai := (hed1.out).2 hyq
            have hSt2 : Hid (H0 ++ handP p pt at_ (n + 1) = (H0 ++ handP p pt at_ n) ++ [(p.args.getD n []).getD at_.toNat 0]) := Lib.hid (by rw [hSt.out, if_pos hyq, List.append_assoc])
            rcases hr4 with hn0 | ⟨b4, o4, rfl, hb4, hc4⟩
            · rw [hn0] at hal; simp at hal
            obtain ⟨u4, cu4, hu4⟩ := hc4 n hal
            have e4 : p.args.getD n [] = p.args[n] := by rw [List.getD_eq_getElem?_getD, List.getElem?_eq_getElem hal]; rfl
            rw [e4] at hai hSt2
            obtain ⟨A5, c5, rfl, _, _, hr5⟩ := rd_int hu4
            rcases hr5 with hn0 | ⟨b5, o5, rfl, hb5, hc5⟩
            · rw [hn0] at hai; simp at hai
            obtain ⟨i, hi⟩ := Int.eq_ofNat_of_zero_le ha0
            have hit : at_.toNat = i := by omega
            rw [hit] at hai hSt2
            have cu5 := cell_below HB (hc5 i hai)
            have cu4 := cell_below HB cu4
            have e5 : p.args[n].getD i 0 = p.args[n][i] := by rw [List.getD_eq_getElem?_getD, List.getElem?_eq_getElem hai]; rfl
            rw [e5] at hSt2
            obtain ⟨z, hz⟩ : ∃ z, z = p.args[n][i] := ⟨_, rfl⟩
            rw [← hz] at hSt2 cu5
            clear hz e4 e5 hc5 hc4 hit
            obtain ⟨La, hLa⟩ : ∃ La, La = p.args[n].length := ⟨_, rfl⟩
            rw [← hLa] at cu4 hai
            clear hLa hu4
            obtain ⟨y1, _⟩ := cell_of_block ep
            have y15 : wx.cell? ⟨pb, 5, none⟩ = some (.slice (some ⟨b4, o4, none⟩) p.args.length c4) := (y1 5).trans rfl
            clear y1
            obtain ⟨l1, hl1⟩ : ∃ l1, l1 = H0 ++ handP p pt at_ n := ⟨_, rfl⟩
            have hl1n : l1.length ≤ 200 := by rw [hl1, List.length_append]; omega
            rw [← hl1] at HO hSt2
            clear hl1 hSt hed1
            obtain ⟨Av, kv, rfl, _, _⟩ := HO.form
            have a0 : (0 : Int) ≤ (i : Int) := Int.natCast_nonneg _
            have a1 : (i : Int) < (La : Int) := by omega
            have a2 : (n : Int) < (p.args.length : Int) := by omega
            rw [hi] at z17
            rw [hyq] at cv
            replace hi := Lib.hid hi
            replace hyq := Lib.hid hyq
            have hbl4 : b4 < w.heap.size := hb4
            have hbl5 : b5 < w.heap.size := hb5
            go_wp2_with fail
            refine wp_region_held_drew (S := (fun w' => w'.cell? ⟨pb, 5, none⟩ = some (.slice (some ⟨b4, o4, none⟩) p.args.length c4) ∧ w'.cell? ⟨w.heap.size + 1, 7, none⟩ = some (.int .i64 (i : Int)) ∧ w'.cell? ⟨b4, o4 + n, none⟩ = some (.slice (some ⟨b5, o5, none⟩) La c5) ∧ w'.cell? ⟨b5, o5 + i, none⟩ = some (.int .i64 z))) (by kernel_rfl) ⟨y15, z17, cu4, cu5⟩ (fun hH0 => ?_)
            refine wpAnyH_take (i := 0) (v := ?_) rfl (by kernel_rfl) (by kernel_rfl) (by kernel_rfl) (fun _ _ _ h => h) (Or.inl ⟨by rfl, ?_⟩) (by assumption) ?_
            rotate_left 1
            focus ((intro w hSw; (try dsimp only at hSw); go_simp); try with_reducible rfl)
            try simp only [Act.put, Array.getInternal_eq_getElem, List.getElem_toArray, List.getElem_cons_zero, List.getElem_cons_succ, List.setIfInBounds_toArray, List.set_cons_zero, List.set_cons_succ]
            refine wpAnyH_take (i := 1) (v := ?_) rfl (by kernel_rfl) (by kernel_rfl) (by kernel_rfl) (fun _ _ _ h => h) (Or.inl ⟨by rfl, ?_⟩) (by assumption) ?_
            rotate_left 1
            focus ((intro w hSw; (try dsimp only at hSw); go_simp); try with_reducible rfl)
            try simp only [Act.put, Array.getInternal_eq_getElem, List.getElem_toArray, List.getElem_cons_zero, List.getElem_cons_succ, List.setIfInBounds_toArray, List.set_cons_zero, List.set_cons_succ]
            refine wpAnyH_take (i := 2) (v := ?_) rfl (by kernel_rfl) (by kernel_rfl) (by kernel_rfl) (fun _ _ _ h => h) (Or.inl ⟨by rfl, ?_⟩) (by assumption) ?_
            rotate_left 1
            focus ((intro w hSw; (try dsimp only at hSw); go_simp); try with_reducible rfl)
            try simp only [Act.put, Array.getInternal_eq_getElem, List.getElem_toArray, List.getElem_cons_zero, List.getElem_cons_succ, List.setIfInBounds_toArray, List.set_cons_zero, List.set_cons_succ]
            refine wpAnyH_take (i := 3) (v := ?_) rfl (by kernel_rfl) (by kernel_rfl) (by kernel_rfl) (fun _ _ _ h => h) (Or.inl ⟨by rfl, ?_⟩) (by assumption) ?_
            rotate_left 1
            focus ((intro w hSw; (try dsimp only at hSw); go_simp); try with_reducible rfl)
            try simp only [Act.put, Array.getInternal_eq_getElem, List.getElem_toArray, List.getElem_cons_zero, List.getElem_cons_succ, List.setIfInBounds_toArray, List.set_cons_zero, List.set_cons_succ]
            refine wpAnyH_take (i := 4) (v := ?_) rfl (by kernel_rfl) (by kernel_rfl) (by kernel_rfl) (fun _ _ _ h => h) (Or.inl ⟨by rfl, ?_⟩) (by assumption) ?_
            rotate_left 1
            focus ((intro w hSw; (try dsimp only at hSw); go_simp); try with_reducible rfl)
            try simp only [Act.put, Array.getInternal_eq_getElem, List.getElem_toArray, List.getElem_cons_zero, List.getElem_cons_succ, List.setIfInBounds_toArray, List.set_cons_zero, List.set_cons_succ]
            refine wpAnyH_take (i := 5) (v := ?_) rfl (by kernel_rfl) (by kernel_rfl) (by kernel_rfl) (fun _ _ _ h => h) (Or.inl ⟨by rfl, ?_⟩) (by assumption) ?_
            rotate_left 1
            focus ((intro w hSw; (try dsimp only at hSw); go_simp); try with_reducible rfl)
            try simp only [Act.put, Array.getInternal_eq_getElem, List.getElem_toArray, List.getElem_cons_zero, List.getElem_cons_succ, List.setIfInBounds_toArray, List.set_cons_zero, List.set_cons_succ]
            refine wpAnyH_take (i := 6) (v := ?_) rfl (by kernel_rfl) (by kernel_rfl) (by kernel_rfl) (fun _ _ _ h => h) (Or.inl ⟨by rfl, ?_⟩) (by assumption) ?_
            rotate_left 1
            focus ((intro w hSw; (try dsimp only at hSw); go_simp); try with_reducible rfl)
            try simp only [Act.put, Array.getInternal_eq_getElem, List.getElem_toArray, List.getElem_cons_zero, List.getElem_cons_succ, List.setIfInBounds_toArray, List.set_cons_zero, List.set_cons_succ]
            refine wpAnyH_take (i := 7) (v := ?_) rfl (by kernel_rfl) (by kernel_rfl) (by kernel_rfl) (fun _ _ _ h => h) (Or.inl ⟨by rfl, ?_⟩) (by assumption) ?_
            rotate_left 1
            focus ((intro w hSw; (try dsimp only at hSw); go_simp); try with_reducible rfl)
            try simp only [Act.put, Array.getInternal_eq_getElem, List.getElem_toArray, List.getElem_cons_zero, List.getElem_cons_succ, List.setIfInBounds_toArray, List.set_cons_zero, List.set_cons_succ]
            refine wpAnyH_take (i := 8) (v := ?_) rfl (by kernel_rfl) (by kernel_rfl) (by kernel_rfl) (fun _ _ _ h => h) (Or.inl ⟨by rfl, ?_⟩) (by assumption) ?_
            rotate_left 1
            focus ((intro w hSw; (try dsimp only at hSw); go_simp); try with_reducible rfl)
            try simp only [Act.put, Array.getInternal_eq_getElem, List.getElem_toArray, List.getElem_cons_zero, List.getElem_cons_succ, List.setIfInBounds_toArray, List.set_cons_zero, List.set_cons_succ]
            refine wpAnyH_take (i := 9) (v := ?_) rfl (by kernel_rfl) (by kernel_rfl) (by kernel_rfl) (fun _ _ _ h => h) (Or.inl ⟨by rfl, ?_⟩) (by assumption) ?_
            rotate_left 1
            focus ((intro w hSw; (try dsimp only at hSw); go_simp); try with_reducible rfl)
            try simp only [Act.put, Array.getInternal_eq_getElem, List.getElem_toArray, List.getElem_cons_zero, List.getElem_cons_succ, List.setIfInBounds_toArray, List.set_cons_zero, List.set_cons_succ]
            have y15 : wx.drew.cell? ⟨pb, 5, none⟩ = some (.slice (some ⟨b4, o4, none⟩) p.args.length c4) := y15
            have z17 : wx.drew.cell? ⟨w.heap.size + 1, 7, none⟩ = some (.int .i64 (i : Int)) := z17
            have cu4 : wx.drew.cell? ⟨b4, o4 + n, none⟩ = some (.slice (some ⟨b5, o5, none⟩) La c5) := cu4
            have cu5 : wx.drew.cell? ⟨b5, o5 + i, none⟩ = some (.int .i64 z) := cu5
            have HO : Ow true 3 Rp.int wx.drew (fun k => w.heap.size + 2 ≤ k ∧ k ≠ pb) (.slice Av l1.length kv) l1 := HO.move (fun _ _ _ => rfl)
            have HB1 : Below W1.heap.size W1 wx.drew := below_drew HB1
            replace ep := (id ep : wx.drew.heap[pb]? = some _)
            have hpbl := blk_lt ep
            generalize wx.drew = wd at *
            refine wpAnyH_ready (rs := [10]) (by kernel_rfl) (by simp) ?_
            refine AllReadyH.cons rfl (fun K1 hK1 => ?_) AllReadyH.nil
            try simp only [Array.getInternal_eq_getElem, List.getElem_toArray, List.getElem_cons_zero, List.getElem_cons_succ]
            go_simp
            have hbn := below_new (w := wd) (.cells #[.int .i64 z] 3)
            have en := heap_alloc_new wd (.cells #[.int .i64 z] 3)
            have y15 := cell_below hbn y15
            have z17 := cell_below hbn z17
            have cu4 := cell_below hbn cu4
            have cu5 := cell_below hbn cu5
            have HO2 := HO.bound.below hbn
            have HB2 := below_then HB1 hbn
            have ep2 := blk_below ep hbn
            have hzd : (wd.alloc (.cells #[.int .i64 z] 3)).heap.size = wd.heap.size + 1 := by simp
            refine hK1.out _ _ ⟨y15, z17, cu4, cu5⟩ (fun _ => ?_)
            clear hK1 K1
            generalize wd.alloc (.cells #[.int .i64 z] 3) = w2 at *
            try simp only [Act.put, List.setIfInBounds_toArray, List.set_cons_zero, List.set_cons_succ]
            obtain ⟨v7, w7, hrn, hO7, hg7⟩ := run_ap1 (P := Try.prog) (r := Rp.int) (G := fun _ => False) (us := [.int .i64 z]) 25 25 (.int .i64 0) 8 Try.underlying25 infoInt rfl (by decide) (by omega) _ l1 z wd.heap.size en HO2 rfl (fun _ h => h.elim) (by omega)
            have hown : ∀ k, some k = Value.ownBlock (.slice Av l1.length kv) → (w.heap.size + 2 ≤ k ∧ k ≠ pb) ∧ k < wd.heap.size := fun k hk => own_in HO2 (.inl hk)
            have hkeep : ∀ (bq oq : Nat) (u : Value), bq < wd.heap.size → ¬ (w.heap.size + 2 ≤ bq ∧ bq ≠ pb) → w2.cell? ⟨bq, oq, none⟩ = some u → w7.cell? ⟨bq, oq, none⟩ = some u := fun bq oq u h1 h2 h3 => (Rp.cell_move (hg7.block bq (by omega) (fun he => h2 (hown bq he).1)) oq).trans h3
            have hwd := HB1.size
            have y15 := hkeep _ _ _ hpbl (fun h => h.2 rfl) y15
            have z17 := hkeep _ _ _ (by omega) (by omega) z17
            have cu4 := hkeep _ _ _ (by omega) (by omega) cu4
            have cu5 := hkeep _ _ _ (by omega) (by omega) cu5
            refine wpAnyH_ready (rs := [11]) (by kernel_rfl) (by simp) ?_
            refine AllReadyH.cons rfl (fun K1 hK1 => ?_) AllReadyH.nil
            try simp only [Array.getInternal_eq_getElem, List.getElem_toArray, List.getElem_cons_zero, List.getElem_cons_succ]
            rw [if_pos (by first | kernel_rfl | rfl | decide)]
            refine oper_append _ _ _ _ _ _ rfl (by rfl) (by rfl) hrn ?_
            try simp only [Act.put, Array.getInternal_eq_getElem, List.getElem_toArray, List.getElem_cons_zero, List.getElem_cons_succ, List.setIfInBounds_toArray, List.set_cons_zero, List.set_cons_succ]
            refine hK1.out _ _ ⟨y15, z17, cu4, cu5⟩ (fun _ => ?_)
            clear hK1 K1
            try simp only [Act.put, List.setIfInBounds_toArray, List.set_cons_zero, List.set_cons_succ]
            refine wpAnyH_take (i := 12) (v := ?_) rfl (by kernel_rfl) (by kernel_rfl) (by kernel_rfl) (fun _ _ _ h => h) (Or.inl ⟨by rfl, ?_⟩) (by assumption) ?_
            rotate_left 1
            focus ((intro w hSw; (try dsimp only at hSw); go_simp); try with_reducible rfl)
            try simp only [Act.put, Array.getInternal_eq_getElem, List.getElem_toArray, List.getElem_cons_zero, List.getElem_cons_succ, List.setIfInBounds_toArray, List.set_cons_zero, List.set_cons_succ]
            refine wpAnyH_done (by kernel_rfl) ?_ _
            have HO8 := hO7.mono (G := fun k => w.heap.size + 2 ≤ k ∧ k ≠ pb) (fun q hq => by rcases hq with hq | hq | hq; exact hq.1; exact hq.elim; omega)
            have HB7 : Below W1.heap.size W1 w7 := below_grown HB2 hg7 (fun q hq => by have := (hown q hq.symm).1.1; omega) (by omega)
            have ep7 := grown_blk hg7 ep2 (fun he => (hown pb he).1.2 rfl)
            clear hrn hO7 hg7 HO HO2 hkeep hown y15 z17 cu4 cu5 ep ep2 en hbn HB1 HB2 hH0
            rw [← hSt2.out] at HO8
            go_wp2
            go_roundw
            case rel => exact ⟨n + 1, _, rfl, by omega, by go_num, HO8, HB7, ep7⟩
            case measure => simp [intOf]; omega
          · have hSt2 : Hid (H0 ++ handP p pt at_ (n + 1) = H0 ++ handP p pt at_ n) := Lib.hid (by rw [hSt.out, if_neg hyq, List.append_nil])
            have hne : (y == pt) = false := by simpa using hyq
            clear hyq hSt hed1
            go_wp2
            go_roundw
            case rel => exact ⟨n + 1, _, rfl, by omega, by go_num, by rw [hSt2.out]; exact HO, HB1, ep⟩
            case measure => simp [intOf]; omega
        · obtain rfl : n = p.next.length := by omega
          rw [← hTk.out] at HO
          have HO1 := HO.mono (G := fun k => w.heap.size + 2 ≤ k) (fun k hk => hk.1)
          clear HO ep
          go_wp2
          go_roundw
          case rel => exact ⟨m + 1, _, rfl, by omega, by go_num, HO1, HB1⟩
          case measure => simp [intOf]; omega
    · obtain rfl : m = s.parts.length := by omega
      rw [List.take_length, ← hRe.out] at HO
      go_wp2
      go_ret
      exact ⟨_, rfl, (HO.mono (fun q hq => by have hq : w.heap.size + 2 ≤ q := hq; omega)).rd, HB⟩
end Go.Proofs.Ytnfaibenekninaa.L

set_option linter.unusedVariables false
namespace Go.Proofs.Ytnfaibenekninaa.L
open Go.RowKit
theorem isAggI (w : World) : (isAgg 3).run Try.prog w = .ok false w := by kernel_rfl
theorem sizeI (w : World) : (sizeOf 3).run Try.prog w = .ok 1 w := by kernel_rfl
theorem eq_pairA (a b c d : Int) (w : World) : (Op.equalIn 10000 168 (.agg #[.int .i64 a, .int .i64 b]) (.agg #[.int .i64 c, .int .i64 d])).run Try.prog w = .ok ((a == c) && (b == d)) w := by
  obtain ⟨i, hi, _⟩ := Option.map_eq_some_iff.1 infoInt
  have hc : Try.prog.cellsOf 3 = 1 := by kernel_rfl
  rw [show (10000 : Nat) = 9998 + 1 + 1 from rfl, run_equalIn_array w (9998 + 1) _ _ Try.underlying168 hi, hc]
  have e : List.range 2 = [0, 1] := rfl
  rw [e]
  have h1 := fun (x y : Int) => run_equalIn_int (P := Try.prog) w 9998 3 .i64 .i64 x y Try.underlying3
  simp [Op.eqItems, part, isAggI, sizeI, h1, go_sem]
  by_cases e1 : a = c <;> by_cases e2 : b = d <;> simp [e1, e2]
set_option maxRecDepth 100000 in
theorem eq_pairS (a b c d : Int) (w : World) : (Op.equalIn 10000 89 (.agg #[.int .i64 a, .int .i64 b]) (.agg #[.int .i64 c, .int .i64 d])).run Try.prog w = .ok ((a == c) && (b == d)) w := by
  have h2 : Try.prog.stoodInHeld 89 = false := by kernel_rfl
  obtain ⟨fs, hfs⟩ : ∃ fs, Try.prog.underlying 89 = some (.struct fs) := ⟨_, Try.underlying89⟩
  have hf : Try.prog.fieldsOf 89 = fs := by unfold Program.fieldsOf; rw [hfs]
  have hfv := hfs.symm.trans Try.underlying89
  injection hfv with hfv
  injection hfv with hfv
  rw [show (10000 : Nat) = 9998 + 1 + 1 from rfl, run_equalIn_struct w (9998 + 1) 89 _ _ (by rw [hf]; exact hfs) h2, hf, hfv]
  have h1 := fun (x y : Int) => run_equalIn_int (P := Try.prog) w 9998 3 .i64 .i64 x y Try.underlying3
  simp [Op.eqFields, part, isAggI, sizeI, h1, go_sem]
  by_cases e1 : a = c <;> by_cases e2 : b = d <;> simp [e1, e2]
end Go.Proofs.Ytnfaibenekninaa.L

set_option linter.unusedVariables false
set_option linter.unusedSimpArgs false
namespace Go.Proofs.Ytnfaibenekninaa.L
open Go.RowKit
/-- What the walks ask of the table of ways to be. -/
structure DCtx (s : Sa) (N : Nat) (D : List Df) (rank : Nat → Nat) : Prop where
  rk : Ranked N D rank
  ln : D.length = N
  n2 : N ≤ 250
  hl : s.parts.length ≤ 11 ∧ ∀ p ∈ s.parts, p.next.length ≤ 6
  ed : ∀ v, v < N → 0 ≤ (D.getD v df0).part → 0 ≤ (D.getD v df0).at_ ∧ ∀ p ∈ s.parts, ∀ m, m < p.next.length → m < p.args.length ∧ (p.next.getD m 0 = (D.getD v df0).part → (D.getD v df0).at_.toNat < (p.args.getD m []).length)
  pin : ∀ v, v < N → ∀ m ∈ partsD s D v, 0 ≤ m ∧ m < (N : Int)
  sl : ∀ v w, v < N → w < N → sortD D v = sortD D w → (partsD s D v).length = (partsD s D w).length
  pl : ∀ v, v < N → (partsD s D v).length ≤ 66
theorem GoodP.hlen {s : Sa} (h : GoodP s) : s.parts.length ≤ 11 ∧ ∀ p ∈ s.parts, p.next.length ≤ 6 := ⟨h.n2, fun p hp => h.next_len hp⟩
theorem GoodP.hed {s : Sa} (h : GoodP s) {q : Nat} {p : Pt} (hq : s.parts[q]? = some p) {i : Nat} (hi : i < p.params.length) : ∀ r ∈ s.parts, ∀ m, m < r.next.length → m < r.args.length ∧ (r.next.getD m 0 = (q : Int) → i < (r.args.getD m []).length) := fun r hr m hm => by
  obtain ⟨h1, t, ht, hl⟩ := h.edge hr hm
  refine ⟨h1, fun he => ?_⟩
  rw [he, show ((q : Int)).toNat = q by omega, hq] at ht
  cases ht
  omega
theorem dctx {s : Sa} (h : GoodP s) {N : Nat} (hN : (N : Int) = s.values) : ∃ rank, DCtx s N (dfAll s) rank := by
  have hNt : s.values.toNat = N := by omega
  obtain ⟨rank, hR⟩ := rank_ex h
  rw [hNt] at hR
  have hv2 := h.v2
  refine ⟨rank, hR, by have := (dfOk_to h s.parts.length (Nat.le_refl _)).1; unfold dfAll; omega, by omega, h.hlen, fun v hv h0 => ?_, fun v hv m hm => ?_, fun v w hv hw he => sort_len h (by omega) (by omega) he, fun v hv => ?_⟩
  · rcases df_cases h (v := v) (by omega) with hd | ⟨h12, q, p, i, hq, hi, hd⟩ | ⟨h12, x, q, p, hq, hx, ho, hd⟩
    · rw [hd] at h0; simp [df0] at h0
    · rw [hd]
      refine ⟨by dsimp only; omega, fun r hr m hm => ?_⟩
      obtain ⟨a, b⟩ := h.hed hq hi r hr m hm
      exact ⟨a, fun he => by simpa using b he⟩
    · rw [hd] at h0; simp at h0
  · have := parts_in h (v := v) (by omega) m hm
    omega
  · unfold partsD
    split
    · simp
    · split
      · simp
      · have h1 := handS_len (l := s.parts) (q := ((dfAll s).getD v df0).part) (i := ((dfAll s).getD v df0).at_) (B := 6) (fun p hp => h.next_len hp)
        have h2 := h.n2
        omega
def grR (D : List Df) (G : List Int) (u : Int) : Int := G.getD (rootD D u.toNat) 0
/-- Whether two values are of one sort, and use values of one group each. -/
def likeB (s : Sa) (D : List Df) (G : List Int) (a b : Nat) : Bool := decide (sortD D a = sortD D b ∧ (partsD s D a).map (grR D G) = (partsD s D b).map (grR D G))
theorem like_no {s : Sa} {D : List Df} {G : List Int} {a b i : Nat} {la lb : List Int} (ha : partsD s D a = la) (hb : partsD s D b = lb) (hi : i < la.length) (hl : la.length = lb.length) (h : grR D G la[i] ≠ grR D G (lb[i]'(by omega))) : likeB s D G a b = false := by
  unfold likeB
  rw [ha, hb]
  refine decide_eq_false fun hh => h ?_
  have := congrArg (fun l => l[i]?) hh.2
  simpa [hi, (by omega : i < lb.length)] using this
set_option maxRecDepth 100000 in
set_option maxHeartbeats 8000000 in
theorem l11Like_calls {F F1 F2 : Nat → Prop} (s : Sa) (N : Nat) (D : List Df) (rank : Nat → Nat) (X : DCtx s N D rank) (vparts vD vG : Value) (G : List Int) (a b : Nat) (w : World) (hs : Rp.Rd part w F vparts s.parts) (hD : Rp.Rd dfK w F1 vD D) (hG : Rp.Rd Rp.int w F2 vG G) (hGl : G.length = N) (ha : a < N) (hb : b < N) :
    Calls Try.prog 58 #[saV s vparts, vD, vG, .int .i64 a, .int .i64 b] w fun e w' => e = .returned (.bool (likeB s D G a b)) ∧ Below w.heap.size w w' := by
  obtain ⟨A0, c0, rfl, _, _, _⟩ := id hs
  obtain ⟨AD, cD, rfl, _, _, _⟩ := id hD
  obtain ⟨AG, cG, rfl, _, _, hrG⟩ := rd_int hG
  have hln := X.ln
  have hn2 := X.n2
  have HS := Lib.hid (fun v W (hv : v < D.length) (hW : Below w.heap.size w W) => l11Sort_calls D _ v W (hD.below hW) hv (by omega))
  have HPt := Lib.hid (fun v W (hv : v < D.length) (hW : Below w.heap.size w W) => l11Parts_calls s _ D _ v W (hs.below hW) (hD.below hW) hv (by omega) X.hl (X.ed v (by omega)))
  have HRt := Lib.hid (fun v W (hv : v < N) (hW : Below w.heap.size w W) => (l11Root_calls D N rank X.rk hln (by omega) _ v W (hD.below hW) hv).mono (fun _ _ h => (⟨h.1, h.2.symm⟩ : _ ∧ _ = W)))
  have HX := Lib.hid X
  have hDN1 : D.length ≤ N := by omega
  have hDN2 : N ≤ D.length := by omega
  have hGN1 : G.length ≤ N := by omega
  have hGN2 : N ≤ G.length := by omega
  replace hln := Lib.hid hln
  replace hGl := Lib.hid hGl
  have hB0 : Below w.heap.size w (w.alloc (.cells #[.slice A0 s.parts.length c0, .int .i64 s.values] 31)) := below_new _
  have b0 := heap_alloc_new w (.cells #[.slice A0 s.parts.length c0, .int .i64 s.values] 31)
  unfold saV at HPt ⊢
  by_cases hse : sortD D a = sortD D b
  · have hP := HX.out.sl a b ha hb hse
    have hpa := HX.out.pl a ha
    have ina := Lib.hid (HX.out.pin a ha)
    have inb := Lib.hid (HX.out.pin b hb)
    have hL : Hid (likeB s D G a b = decide ((partsD s D a).map (grR D G) = (partsD s D b).map (grR D G))) := Lib.hid (by unfold likeB; simp [hse])
    have HSa := Lib.hid (fun W (hW : Below w.heap.size w W) => HS.out a W (by omega) hW)
    have HSb := Lib.hid (fun W (hW : Below w.heap.size w W) => HS.out b W (by omega) hW)
    rw [hse] at HSa
    have HPa := Lib.hid (fun W (hW : Below w.heap.size w W) => HPt.out a W (by omega) hW)
    have HPb := Lib.hid (fun W (hW : Below w.heap.size w W) => HPt.out b W (by omega) hW)
    have hP1 : (partsD s D a).length ≤ (partsD s D b).length := by omega
    have hP2 : (partsD s D b).length ≤ (partsD s D a).length := by omega
    have hNo := Lib.hid (fun i (hi : i < (partsD s D a).length) h => like_no (s := s) (D := D) (G := G) (a := a) (b := b) rfl rfl hi hP h)
    replace hP := Lib.hid hP
    generalize sortD D b = p at *
    generalize partsD s D a = la at *
    generalize partsD s D b = lb at *
    generalize likeB s D G a b = R at *
    obtain ⟨p1, p2⟩ := p
    unfold pairV at HSa HSb
    clear hse HS HPt
    go_enter Try.func58, Try.ntmps58
    go_wp2_with fail
    refine (HSa.out _ hB0).mono ?_
    rintro e w1 ⟨rfl, hb1⟩
    have hB1 := below_then hB0 hb1
    have b1 := blk_below b0 hb1
    clear hb1 b0 hB0 HSa
    go_wp2_with fail
    refine (HSb.out _ hB1).mono ?_
    rintro e w2 ⟨rfl, hb2⟩
    have hB2 := below_then hB1 hb2
    have b2 := blk_below b1 hb2
    clear hb2 b1 hB1 HSb
    obtain ⟨x1, _⟩ := cell_of_block b2
    have x10 : w2.cell? ⟨w.heap.size, 0, none⟩ = some (.slice A0 s.parts.length c0) := (x1 0).trans rfl
    have x11 : w2.cell? ⟨w.heap.size, 1, none⟩ = some (.int .i64 s.values) := (x1 1).trans rfl
    have HEq := fun a b c d W => eq_pairA a b c d W
    go_wp2_with fail
    refine (HPa.out _ hB2).mono ?_
    rintro e w3 ⟨va, rfl, hva, hb3⟩
    have hB3 := below_then hB2 hb3
    have b3 := blk_below b2 hb3
    have hva := hva.mono (G := fun _ => True) (fun _ _ => trivial)
    clear hb3 b2 hB2 HPa x1 x10 x11 HEq
    obtain ⟨x1, _⟩ := cell_of_block b3
    have x10 : w3.cell? ⟨w.heap.size, 0, none⟩ = some (.slice A0 s.parts.length c0) := (x1 0).trans rfl
    have x11 : w3.cell? ⟨w.heap.size, 1, none⟩ = some (.int .i64 s.values) := (x1 1).trans rfl
    obtain ⟨Aa, ca, rfl, _, _, _⟩ := id hva
    go_wp2_with fail
    refine (HPb.out _ hB3).mono ?_
    rintro e w4 ⟨vb, rfl, hvb, hb4⟩
    have hB4 := below_then hB3 hb4
    have hvb := hvb.mono (G := fun _ => True) (fun _ _ => trivial)
    have hva := hva.below hb4
    clear hb4 b3 hB3 HPb x1 x10 x11
    obtain ⟨Ab, cb, rfl, _, _, hrb⟩ := rd_int hvb
    obtain ⟨Aa', ca', he, _, _, hra⟩ := rd_int hva
    injection he with he1 _ he3
    subst he1
    subst he3
    go_wp2_with fail
    go_loopw [31] (fun x wr => ∃ k : Nat, k ≤ la.length ∧ x = .int .i64 k ∧ Hid ((la.take k).map (grR D G) = (lb.take k).map (grR D G)) ∧ Below w4.heap.size w4 wr) (fun x _ => la.length - (intOf x).toNat)
    case atStart => exact ⟨0, Nat.zero_le _, rfl, Lib.hid rfl, Below.refl _ _⟩
    case round =>
      obtain ⟨k, hk, rfl, HT, HB⟩ := hrel
      by_cases hkt : k < la.length
      · have hkb : k < lb.length := by omega
        rcases hra with hn | ⟨ba, oa, rfl, hba, hca⟩
        · rw [hn] at hkt; simp at hkt
        rcases hrb with hn | ⟨bb, ob, rfl, hbb, hcb⟩
        · rw [hn] at hkb; simp at hkb
        rcases hrG with hn | ⟨bG, oG, rfl, hbG, hcG⟩
        · rw [hn] at hGN2; simp at hGN2; omega
        have hBw := below_then hB4 HB
        have c1 := cell_below HB (hca k hkt)
        have c2 := cell_below HB (hcb k hkb)
        have i1 := ina.out _ (List.getElem_mem hkt)
        have i2 := inb.out _ (List.getElem_mem hkb)
        have hno := Lib.hid (hNo.out k hkt)
        have hTk : Hid (grR D G la[k] = grR D G lb[k] → (la.take (k + 1)).map (grR D G) = (lb.take (k + 1)).map (grR D G)) := Lib.hid (fun h => by rw [List.take_succ_eq_append_getElem hkt, List.take_succ_eq_append_getElem hkb, List.map_append, List.map_append, HT.out]; simp [h])
        have hkeep1 := Lib.hid hca
        have hkeep2 := Lib.hid hcb
        clear hca hcb HT
        generalize la[k] = x at *
        generalize lb[k] = y at *
        obtain ⟨x, rfl⟩ := Int.eq_ofNat_of_zero_le i1.1
        obtain ⟨y, rfl⟩ := Int.eq_ofNat_of_zero_le i2.1
        have hxN : x < N := by omega
        have hyN : y < N := by omega
        have hrx := (rootD_lt HX.out.rk hxN).1
        have hry := (rootD_lt HX.out.rk hyN).1
        have gx := cell_below hBw (hcG (rootD D x) (by omega))
        have gy := cell_below hBw (hcG (rootD D y) (by omega))
        have ex : grR D G (x : Int) = G[rootD D x]'(by omega) := by unfold grR; rw [Int.toNat_natCast, List.getD_eq_getElem?_getD, List.getElem?_eq_getElem (by omega)]; rfl
        have ey : grR D G (y : Int) = G[rootD D y]'(by omega) := by unfold grR; rw [Int.toNat_natCast, List.getD_eq_getElem?_getD, List.getElem?_eq_getElem (by omega)]; rfl
        rw [← ex] at gx
        rw [← ey] at gy
        have HRx := Lib.hid (fun u n (hu : u < N) => HRt.out u (wr.drewN n) hu (below_drewN hBw n))
        clear ex ey
        generalize grR D G (x : Int) = gvx at *
        generalize grR D G (y : Int) = gvy at *
        have k0 : (0 : Int) ≤ (k : Int) := Int.natCast_nonneg _
        have k1 : (k : Int) < (la.length : Int) := by omega
        have k2 : (k : Int) < (lb.length : Int) := by omega
        have r0 : (0 : Int) ≤ (rootD D x : Int) := Int.natCast_nonneg _
        have r1 : (rootD D x : Int) < (G.length : Int) := by omega
        have r2 : (0 : Int) ≤ (rootD D y : Int) := Int.natCast_nonneg _
        have r3 : (rootD D y : Int) < (G.length : Int) := by omega
        clear hcG
        by_cases hg : gvx = gvy
        · have hT2 := Lib.hid (hTk.out hg)
          subst hg
          clear hTk hno
          go_wp2_with fail
          go_quiet (first | (go_at_call 57; exact Calls.quiet_of_same (HRx.out _ _ (by assumption))))
          go_wp2
          go_roundw
          case rel => exact ⟨k + 1, by omega, by go_num, hT2, by first | exact HB | exact below_drewN HB _ | exact below_drew HB⟩
          case measure => simp [intOf]; omega
        · have hR : R = false := hno.out hg
          have hgn : (gvx != gvy) = true := by simpa using hg
          replace hR := Lib.hid hR
          clear hTk hno hg
          go_wp2_with fail
          go_quiet (first | (go_at_call 57; exact Calls.quiet_of_same (HRx.out _ _ (by assumption))))
          go_wp2
          go_ret
          exact ⟨ret_bool hR.out.symm, by first | exact hBw | exact below_drewN hBw _ | exact below_drew hBw⟩
      · obtain rfl : k = la.length := by omega
        have hR : Hid (R = true) := Lib.hid (by rw [hL.out]; refine decide_eq_true ?_; have := HT.out; rw [List.take_length, List.take_of_length_le (by omega)] at this; exact this)
        have hBw := below_then hB4 HB
        go_wp2
        go_ret
        exact ⟨ret_bool hR.out.symm, hBw⟩
  · have hR : Hid (likeB s D G a b = false) := Lib.hid (by unfold likeB; exact decide_eq_false (fun h => hse h.1))
    have HSa := Lib.hid (fun W (hW : Below w.heap.size w W) => HS.out a W (by omega) hW)
    have HSb := Lib.hid (fun W (hW : Below w.heap.size w W) => HS.out b W (by omega) hW)
    generalize likeB s D G a b = R at *
    generalize sortD D a = p at *
    generalize sortD D b = q at *
    obtain ⟨p1, p2⟩ := p
    obtain ⟨q1, q2⟩ := q
    have hne : ((p1 == q1) && (p2 == q2)) = false := by
      cases h1 : (p1 == q1)
      · rfl
      · cases h2 : (p2 == q2)
        · rfl
        · exact absurd (Prod.ext (by simpa using h1) (by simpa using h2)) hse
    unfold pairV at HSa HSb
    clear hse HS HPt HRt
    go_enter Try.func58, Try.ntmps58
    go_wp2_with fail
    refine (HSa.out _ hB0).mono ?_
    rintro e w1 ⟨rfl, hb1⟩
    have hB1 := below_then hB0 hb1
    clear hb1 b0 hB0 HSa
    go_wp2_with fail
    refine (HSb.out _ hB1).mono ?_
    rintro e w2 ⟨rfl, hb2⟩
    have hB2 := below_then hB1 hb2
    have HEq := fun W => (eq_pairA p1 p2 q1 q2 W).trans (by rw [hne])
    go_wp2
    go_ret
    exact ⟨ret_bool hR.out.symm, hB2⟩
end Go.Proofs.Ytnfaibenekninaa.L

set_option linter.unusedVariables false
set_option linter.unusedSimpArgs false
namespace Go.Proofs.Ytnfaibenekninaa.L
open Go.RowKit
def dfz : Df := ⟨fl0, 0, 0⟩
theorem rep_set {α : Type} (y z : α) {k n : Nat} (hk : k < n) : (List.replicate k y ++ List.replicate (n - k) z).set k y = List.replicate (k + 1) y ++ List.replicate (n - (k + 1)) z := by
  have e1 : n - k = (n - (k + 1)) + 1 := by omega
  rw [e1, List.replicate_succ, List.set_append_right _ _ (by simp), List.length_replicate, Nat.sub_self, List.set_cons_zero, List.replicate_succ', List.append_assoc]
  rfl
theorem rep_get {α : Type} (y z : α) {k n : Nat} (hk : k < n) (h : k < (List.replicate k y ++ List.replicate (n - k) z).length) : (List.replicate k y ++ List.replicate (n - k) z)[k] = z := by
  rw [List.getElem_append_right (by simp)]
  simp
/-- The row of the ways to be, as it lies. -/
structure DSt (N go : Nat) (D : List Df) (W0 w : World) : Prop where
  ln : D.length = N
  ow : Ow false 167 dfK w (fun q => q = go) (.slice (some ⟨go, 0, none⟩) N N) D
  ch : Chg (fun q => q = go) W0 w
theorem DSt.below {N go : Nat} {D : List Df} {W0 w w' : World} (h : DSt N go D W0 w) (hb : Below w.heap.size w w') : DSt N go D W0 w' := ⟨h.ln, h.ow.below hb, h.ch.trans (Chg.of_below hb)⟩
theorem DSt.cells {N go : Nat} {D : List Df} {W0 w : World} (h : DSt N go D W0 w) {a : Nat} (ha : a < N) : ∃ d, DfAt w go (a * 8) d ∧ ∀ o, w.frozen? ⟨go, o, none⟩ = false :=
  ⟨_, (h.ow.df_at (k := a) (by rw [h.ln]; exact ha)).1, (h.ow.df_at (k := a) (by rw [h.ln]; exact ha)).2⟩
theorem putRow_chg (g : Nat) : ∀ (us : List Value) (w : World) (o : Nat), Chg (fun q => q = g) w (putRow w g o us)
  | [], w, o => Chg.refl _ _
  | u :: us, w, o => (Chg.set (A := fun q => q = g) (w := w) (b := g) (o := o) (u := u) rfl).trans (putRow_chg g us _ (o + 1))
theorem DSt.put {N go : Nat} {D : List Df} {W0 w : World} (h : DSt N go D W0 w) {a : Nat} (ha : a < N) (d : Df) : DSt N go (D.set a d) W0 (putRow w go (a * 8) (dfCs d)) :=
  ⟨by rw [List.length_set]; exact h.ln, (h.ow.putS (G := fun _ => False) rfl (by rw [h.ln]; exact ha) (df_mk _ _ d) (fun _ h => h.elim)).mono (fun q hq => hq.elim id (fun h => h.elim)), h.ch.trans (putRow_chg _ _ _ _)⟩
theorem DSt.put_chg (w : World) (go a : Nat) (d : Df) : Chg (fun q => q = go) w (putRow w go (a * 8) (dfCs d)) := putRow_chg _ _ _ _
theorem DSt.part1 {N go : Nat} {D : List Df} {W0 w : World} (h : DSt N go D W0 w) {a : Nat} (ha : a < N) {d : Df} {u : Value} {y : Df} {j : Nat} (hj : j < 8) (hd : D[a]'(by rw [h.ln]; exact ha) = d) (hy : (dfCs d).set j u = dfCs y) : DSt N go (D.set a y) W0 (w.setCell ⟨go, a * 8 + j, none⟩ u) := by
  obtain ⟨us, hK, hH⟩ := h.ow.holeL (k := a) (by rw [h.ln]; exact ha)
  rw [hd] at hK
  obtain rfl := df_open hK
  have hH2 := hH.setj (s := 8) (j := j) rfl hj u
  rw [hy] at hH2
  exact ⟨by rw [List.length_set]; exact h.ln, (hH2.close (G := fun _ => False) (df_mk _ _ y) (fun _ h => h.elim)).mono (fun q hq => hq.elim id (fun h => h.elim)), h.ch.trans (Chg.set rfl)⟩
set_option maxRecDepth 100000 in
set_option maxHeartbeats 8000000 in
theorem l11Defs_calls {F : Nat → Prop} (s : Sa) (N : Nat) (vparts : Value) (w : World) (hs : Rp.Rd part w F vparts s.parts) (hg : GoodP s) (hx2 : ∀ p ∈ s.parts, PtLim p) (hNV : (N : Int) = s.values) :
    Calls Try.prog 56 #[saV s vparts] w fun e w' => ∃ v', e = .returned v' ∧ Rp.Rd dfK w' (fun q => w.heap.size ≤ q) v' (dfAll s) ∧ Below w.heap.size w w' := by
  obtain ⟨A, c, rfl, hlc, hcm, hrow⟩ := rd_part hs
  have hv1 := hg.v1
  have hv2 := hg.v2
  have hn1 := hg.n1
  have hN0 : 0 < N := by omega
  have hN1 : N ≤ 250 := by omega
  have hNt : s.values.toNat = N := by omega
  rcases hrow with hnil | ⟨b, o, rfl, hbl, hcell⟩
  · rw [hnil] at hn1; simp at hn1
  have HSt := Lib.hid (fun o W => l9Sets_calls o W)
  have HC := Lib.hid hcell
  have HGP := Lib.hid hg
  have HX := Lib.hid hx2
  have HE0 : Hid (dfTo s 0 = List.replicate N df0) := Lib.hid (by unfold dfTo; rw [hNt]; rfl)
  clear hcell hs hx2
  unfold saV
  rw [← hNV]
  have hB0 : Below w.heap.size w (w.alloc (.cells #[.slice (some ⟨b, o, none⟩) s.parts.length c, .int .i64 (N : Int)] 31)) := below_new _
  have b0 := heap_alloc_new w (.cells #[.slice (some ⟨b, o, none⟩) s.parts.length c, .int .i64 (N : Int)] 31)
  have hz0 : (w.alloc (.cells #[.slice (some ⟨b, o, none⟩) s.parts.length c, .int .i64 (N : Int)] 31)).heap.size = w.heap.size + 1 := by simp
  have hmk := mk_all Try.underlying81 infoDf N (by omega) (by omega)
  replace hNV := Lib.hid hNV
  clear hNt
  go_enter Try.func56, Try.ntmps56
  go_wp2_with fail
  obtain ⟨W0, hW0⟩ : ∃ W0, W0 = w.alloc (.cells #[.slice (some ⟨b, o, none⟩) s.parts.length c, .int .i64 (N : Int)] 31) := ⟨_, rfl⟩
  rw [← hW0] at hB0 b0 hz0 ⊢
  clear hW0
  have hb1 := below_new (w := W0) (.cells (madeCells #[.int .i64 0, .int .i64 0, .int .i64 0, .int .i64 0, .int .i64 0, .int .i64 0, .int .i64 0, .int .i64 0] (N * 8)) 167)
  have hO1 := ow_alloc (e := 167) (r := dfK) (n := N) (z := #[.int .i64 0, .int .i64 0, .int .i64 0, .int .i64 0, .int .i64 0, .int .i64 0, .int .i64 0, .int .i64 0]) (x0 := dfz) W0 (by omega) rfl (by decide) (fun _ => df_mk _ _ dfz)
  have hsz1 : (W0.alloc (.cells (madeCells #[.int .i64 0, .int .i64 0, .int .i64 0, .int .i64 0, .int .i64 0, .int .i64 0, .int .i64 0, .int .i64 0] (N * 8)) 167)).heap.size = W0.heap.size + 1 := by simp
  obtain ⟨W1, hW1⟩ : ∃ W1, W1 = W0.alloc (.cells (madeCells #[.int .i64 0, .int .i64 0, .int .i64 0, .int .i64 0, .int .i64 0, .int .i64 0, .int .i64 0, .int .i64 0] (N * 8)) 167) := ⟨_, rfl⟩
  have hO2 : Ow true 167 dfK W1 (fun k => k = W0.heap.size) (.slice (some ⟨W0.heap.size, 0, none⟩) N N) (List.replicate N dfz) := by rw [hW1]; exact hO1
  rw [← hW1] at hb1 hsz1 ⊢
  clear hW1 hO1
  obtain ⟨go, hgo⟩ : ∃ go, go = W0.heap.size := ⟨_, rfl⟩
  rw [← hgo] at hO2 hsz1
  have hB1 := below_then hB0 hb1
  have b1 := blk_below b0 hb1
  have hgw : go = w.heap.size + 1 := by omega
  rw [← hgw]
  have hgl : w.heap.size < go := by omega
  clear hgw hgo b0 hb1 hB0 hz0
  have hS0 : DSt N go (List.replicate 0 df0 ++ List.replicate (N - 0) dfz) W1 W1 := ⟨by simp, by simpa using hO2.loose, Chg.refl _ _⟩
  clear hO2
  go_loopw [16] (fun i wr => ∃ k : Nat, k ≤ N ∧ i = .int .i64 k ∧ DSt N go (List.replicate k df0 ++ List.replicate (N - k) dfz) W1 wr) (fun i _ => N - (intOf i).toNat)
  case atStart => exact ⟨0, Nat.zero_le _, rfl, hS0⟩
  case round =>
    clear hS0
    obtain ⟨k, hk, rfl, HS⟩ := hrel
    rename World => wx
    by_cases hkt : k < N
    · have k0 : (0 : Int) ≤ (k : Int) := Int.natCast_nonneg _
      have k1 : (k : Int) < (N : Int) := by omega
      obtain ⟨d0, ⟨z0, z1, z2, z3, z4, z5, z6, z7⟩, hfr⟩ := HS.cells hkt
      have hP := HS.part1 (a := k) hkt (d := dfz) (u := .int .i64 (-1)) (y := df0) (j := 6) (by omega) (rep_get _ _ hkt _) rfl
      rw [rep_set _ _ hkt] at hP
      clear HS
      go_wp2
      go_roundw
      case rel => exact ⟨k + 1, by omega, by go_num, hP⟩
      case measure => simp [intOf]; omega
    · obtain rfl : k = N := by omega
      have HS0 : DSt k go (dfTo s 0) W1 wx := by rw [HE0.out]; simpa using HS
      have hHB := HS.ch.to_below hB1 hB1.size (fun q hq => by have hq : q = go := hq; omega)
      have bx := HS.ch.blk b1 (by omega)
      obtain ⟨x1, _⟩ := cell_of_block bx
      have x10 : wx.cell? ⟨w.heap.size, 0, none⟩ = some (.slice (some ⟨b, o, none⟩) s.parts.length c) := (x1 0).trans rfl
      clear x1 HS HE0
      go_wp2_with fail
      clear x10
      go_loopw [27] (fun i wr => ∃ q : Nat, q ≤ s.parts.length ∧ i = .int .i64 q ∧ DSt k go (dfTo s q) W1 wr) (fun i _ => s.parts.length - (intOf i).toNat)
      case atStart => exact ⟨0, Nat.zero_le _, rfl, HS0⟩
      case round =>
        clear HS0 hHB bx
        obtain ⟨q, hq, rfl, HS⟩ := hrel
        rename World => wo
        by_cases hqt : q < s.parts.length
        · obtain ⟨_, _, _, _, hp, h1, h2, ⟨A3, c3, rfl, _⟩, ⟨A4, c4, rfl, _⟩⟩ := HC.out q hqt
          obtain ⟨A1, c1, rfl, _, _, hr1⟩ := rd_int h1
          obtain ⟨A2, c2, rfl, _, _, hr2⟩ := rd_flat h2
          have hsp : s.parts[q]? = some s.parts[q] := List.getElem?_eq_getElem hqt
          have hlp := HX.out _ (List.getElem_mem hqt)
          have hl1 := hlp.1
          have hl2 := hlp.2.1
          have HOw : Hid (∀ v ∈ ownS s.parts[q], 0 ≤ v ∧ v < (k : Int)) := Lib.hid (fun v hv => by have := HGP.out.own_def hsp hv; have := hNV.out; omega)
          have HSucc := Lib.hid (dfTo_succ hsp)
          have HBw := HS.ch.to_below hB1 hB1.size (fun q hq => by have hq : q = go := hq; omega)
          obtain ⟨q0, q1, q2, q3, q4, q5⟩ := partAt_below hp HBw
          clear hsp hlp hp h1 h2
          generalize s.parts[q] = p at *
          have hb2 := below_new (w := wo) (.cells #[.slice A1 p.params.length c1, .slice A2 p.code.length c2, .int .i64 p.go, .int .i64 p.test, .slice A3 p.next.length c3, .slice A4 p.args.length c4] 145)
          have p2 := heap_alloc_new wo (.cells #[.slice A1 p.params.length c1, .slice A2 p.code.length c2, .int .i64 p.go, .int .i64 p.test, .slice A3 p.next.length c3, .slice A4 p.args.length c4] 145)
          have hz2 : (wo.alloc (.cells #[.slice A1 p.params.length c1, .slice A2 p.code.length c2, .int .i64 p.go, .int .i64 p.test, .slice A3 p.next.length c3, .slice A4 p.args.length c4] 145)).heap.size = wo.heap.size + 1 := by simp
          obtain ⟨x1, _⟩ := cell_of_block p2
          have x10 : (wo.alloc (.cells #[.slice A1 p.params.length c1, .slice A2 p.code.length c2, .int .i64 p.go, .int .i64 p.test, .slice A3 p.next.length c3, .slice A4 p.args.length c4] 145)).cell? ⟨wo.heap.size, 0, none⟩ = some (.slice A1 p.params.length c1) := (x1 0).trans rfl
          clear x1
          have m0 : (0 : Int) ≤ (q : Int) := Int.natCast_nonneg _
          have m1 : (q : Int) < (s.parts.length : Int) := by omega
          go_wp2_with fail
          clear q0 q1 q2 q3 q4 q5 x10
          have HS2 := HS.below hb2
          have hgo2 : go < wo.heap.size := by have := HS.ch.size; omega
          obtain ⟨W2, hW2⟩ : ∃ W2, W2 = wo.alloc (.cells #[.slice A1 p.params.length c1, .slice A2 p.code.length c2, .int .i64 p.go, .int .i64 p.test, .slice A3 p.next.length c3, .slice A4 p.args.length c4] 145) := ⟨_, rfl⟩
          rw [← hW2] at hb2 p2 hz2 HS2 ⊢
          clear hW2
          obtain ⟨D0, hD0⟩ : ∃ D0, D0 = dfTo s q := ⟨_, rfl⟩
          rw [← hD0] at HS2 HSucc
          clear hD0 HS
          have hS3 : DSt k go (dfParam q D0 p.params 0) W1 W2 := HS2
          clear HS2
          go_loopw [35] (fun i wr => ∃ j : Nat, j ≤ p.params.length ∧ i = .int .i64 j ∧ DSt k go (dfParam q D0 p.params j) W1 wr ∧ Chg (fun q => q = go) W2 wr) (fun i _ => p.params.length - (intOf i).toNat)
          case atStart => exact ⟨0, Nat.zero_le _, rfl, hS3, Chg.refl _ _⟩
          case round =>
            clear hS3
            obtain ⟨j, hj, rfl, HS, HCh⟩ := hrel
            rename World => wy
            by_cases hjt : j < p.params.length
            · rcases hr1 with hn0 | ⟨bp, op, rfl, hbp, hcp⟩
              · rw [hn0] at hjt; simp at hjt
              have HBy := HS.ch.to_below hB1 hB1.size (fun q hq => by have hq : q = go := hq; omega)
              have cv := cell_below HBy (hcp j hjt)
              have hvr := HOw.out _ (List.mem_append.2 (.inl (List.getElem_mem hjt)))
              have e : p.params.getD j 0 = p.params[j] := by rw [List.getD_eq_getElem?_getD, List.getElem?_eq_getElem hjt]; rfl
              have HSu : Hid (dfParam q D0 p.params (j + 1) = (dfParam q D0 p.params j).set (p.params[j]).toNat ⟨fl0, q, j⟩) := Lib.hid (by rw [dfParam_succ, e])
              clear hcp e
              obtain ⟨v, hv⟩ : ∃ v, v = p.params[j] := ⟨_, rfl⟩
              rw [← hv] at cv hvr HSu
              clear hv
              obtain ⟨a, rfl⟩ := Int.eq_ofNat_of_zero_le hvr.1
              have hak : a < k := by omega
              have a0 : (0 : Int) ≤ (a : Int) := Int.natCast_nonneg _
              have a1 : (a : Int) < (k : Int) := by omega
              have j0 : (0 : Int) ≤ (j : Int) := Int.natCast_nonneg _
              have j1 : (j : Int) < (p.params.length : Int) := by omega
              obtain ⟨d0, ⟨z0, z1, z2, z3, z4, z5, z6, z7⟩, hfr⟩ := HS.cells hak
              have hP := HS.put hak ⟨fl0, q, j⟩
              rw [show (Int.toNat (a : Int)) = a from Int.toNat_natCast a] at HSu
              rw [← HSu.out] at hP
              have HCh2 : Chg (fun q => q = go) W2 (putRow wy go (a * 8) (dfCs ⟨fl0, q, j⟩)) := HCh.trans (DSt.put_chg _ _ _ _)
              clear HS HCh HSu
              go_wp2
              go_roundw
              case rel => exact ⟨j + 1, by omega, by go_num, hP, HCh2⟩
              case measure => simp [intOf]; omega
            · obtain rfl : j = p.params.length := by omega
              obtain ⟨D1, hD1⟩ : ∃ D1, D1 = dfParam q D0 p.params p.params.length := ⟨_, rfl⟩
              have HSucc2 : Hid (dfTo s (q + 1) = dfCode D1 p.code) := Lib.hid (by rw [HSucc.out, hD1]; rfl)
              rw [← hD1] at HS
              clear hD1 HSucc
              have p3 := HCh.blk p2 (by omega)
              obtain ⟨x1, _⟩ := cell_of_block p3
              have x11 : wy.cell? ⟨wo.heap.size, 1, none⟩ = some (.slice A2 p.code.length c2) := (x1 1).trans rfl
              clear x1 HCh
              go_wp2_with fail
              clear x11
              have hS4 : DSt k go (dfCode D1 (p.code.take 0)) W1 wy := HS
              clear HS
              go_loopw [50] (fun i wr => ∃ n : Nat, n ≤ p.code.length ∧ i = .int .i64 n ∧ DSt k go (dfCode D1 (p.code.take n)) W1 wr) (fun i _ => p.code.length - (intOf i).toNat)
              case atStart => exact ⟨0, Nat.zero_le _, rfl, hS4⟩
              case round =>
                clear hS4 p3
                obtain ⟨n, hn, rfl, HS⟩ := hrel
                rename World => wz
                by_cases hnt : n < p.code.length
                · rcases hr2 with hn0 | ⟨bc, oc, rfl, hbc, hcc⟩
                  · rw [hn0] at hnt; simp at hnt
                  have HBz := HS.ch.to_below hB1 hB1.size (fun q hq => by have hq : q = go := hq; omega)
                  obtain ⟨r0, r1, r2, r3, r4, r5⟩ := (hcc n hnt).below HBz
                  have HTk := Lib.hid (dfCode_take (D := D1) hnt)
                  have HDs : Hid (setsS p.code[n] = true → 0 ≤ p.code[n].dst ∧ p.code[n].dst < (k : Int)) := Lib.hid (fun h => HOw.out _ (List.mem_append.2 (.inr (List.mem_map.2 ⟨_, List.mem_filter.2 ⟨List.getElem_mem hnt, h⟩, rfl⟩))))
                  clear hcc
                  generalize p.code[n] = x at *
                  have n0 : (0 : Int) ≤ (n : Int) := Int.natCast_nonneg _
                  have n1 : (n : Int) < (p.code.length : Int) := by omega
                  have hb3 := below_new (w := wz) (.cells #[.int .i64 x.op, .int .i64 x.dO, .int .i64 x.dst, .int .i64 x.a, .int .i64 x.b, .int .i64 x.n] 108)
                  have x3 := heap_alloc_new wz (.cells #[.int .i64 x.op, .int .i64 x.dO, .int .i64 x.dst, .int .i64 x.a, .int .i64 x.b, .int .i64 x.n] 108)
                  have hz3 : (wz.alloc (.cells #[.int .i64 x.op, .int .i64 x.dO, .int .i64 x.dst, .int .i64 x.a, .int .i64 x.b, .int .i64 x.n] 108)).heap.size = wz.heap.size + 1 := by simp
                  have HS3 := HS.below hb3
                  obtain ⟨y1, _⟩ := cell_of_block x3
                  have y10 : (wz.alloc (.cells #[.int .i64 x.op, .int .i64 x.dO, .int .i64 x.dst, .int .i64 x.a, .int .i64 x.b, .int .i64 x.n] 108)).cell? ⟨wz.heap.size, 0, none⟩ = some (.int .i64 x.op) := (y1 0).trans rfl
                  have hst := Lib.hid (HSt.out x.op)
                  clear HS y1
                  go_wp2_with fail
                  refine (hst.out _).mono ?_
                  rintro e w4 ⟨rfl, rfl⟩
                  have HE : Hid (inB x.op 1 4 = setsS x) := Lib.hid rfl
                  rw [HE.out]
                  clear r0 r1 r2 r3 r4 r5 hst HE y10
                  cases hsx : setsS x
                  · have HT2 : Hid (dfCode D1 (p.code.take (n + 1)) = dfCode D1 (p.code.take n)) := Lib.hid (by rw [HTk.out]; unfold dfStep; rw [hsx]; rfl)
                    clear hsx HTk HDs
                    go_wp2
                    go_roundw
                    case rel => exact ⟨n + 1, by omega, by go_num, by rw [HT2.out]; exact HS3⟩
                    case measure => simp [intOf]; omega
                  · have hdr := HDs.out hsx
                    have HT2 : Hid (dfCode D1 (p.code.take (n + 1)) = (dfCode D1 (p.code.take n)).set x.dst.toNat ⟨x, -1, 0⟩) := Lib.hid (by rw [HTk.out]; unfold dfStep; rw [hsx]; rfl)
                    clear hsx HTk HDs
                    obtain ⟨y1, _⟩ := cell_of_block x3
                    have y10 : (wz.alloc (.cells #[.int .i64 x.op, .int .i64 x.dO, .int .i64 x.dst, .int .i64 x.a, .int .i64 x.b, .int .i64 x.n] 108)).cell? ⟨wz.heap.size, 0, none⟩ = some (.int .i64 x.op) := (y1 0).trans rfl
                    have y11 : (wz.alloc (.cells #[.int .i64 x.op, .int .i64 x.dO, .int .i64 x.dst, .int .i64 x.a, .int .i64 x.b, .int .i64 x.n] 108)).cell? ⟨wz.heap.size, 1, none⟩ = some (.int .i64 x.dO) := (y1 1).trans rfl
                    have y12 : (wz.alloc (.cells #[.int .i64 x.op, .int .i64 x.dO, .int .i64 x.dst, .int .i64 x.a, .int .i64 x.b, .int .i64 x.n] 108)).cell? ⟨wz.heap.size, 2, none⟩ = some (.int .i64 x.dst) := (y1 2).trans rfl
                    have y13 : (wz.alloc (.cells #[.int .i64 x.op, .int .i64 x.dO, .int .i64 x.dst, .int .i64 x.a, .int .i64 x.b, .int .i64 x.n] 108)).cell? ⟨wz.heap.size, 3, none⟩ = some (.int .i64 x.a) := (y1 3).trans rfl
                    have y14 : (wz.alloc (.cells #[.int .i64 x.op, .int .i64 x.dO, .int .i64 x.dst, .int .i64 x.a, .int .i64 x.b, .int .i64 x.n] 108)).cell? ⟨wz.heap.size, 4, none⟩ = some (.int .i64 x.b) := (y1 4).trans rfl
                    have y15 : (wz.alloc (.cells #[.int .i64 x.op, .int .i64 x.dO, .int .i64 x.dst, .int .i64 x.a, .int .i64 x.b, .int .i64 x.n] 108)).cell? ⟨wz.heap.size, 5, none⟩ = some (.int .i64 x.n) := (y1 5).trans rfl
                    clear y1
                    obtain ⟨a, ha⟩ := Int.eq_ofNat_of_zero_le hdr.1
                    have hak : a < k := by omega
                    have hat : x.dst.toNat = a := by omega
                    rw [hat] at HT2
                    have hP := HS3.put hak ⟨x, -1, 0⟩
                    rw [← HT2.out] at hP
                    obtain ⟨d0, ⟨z0, z1, z2, z3, z4, z5, z6, z7⟩, hfr⟩ := HS3.cells hak
                    have a0 : (0 : Int) ≤ (a : Int) := Int.natCast_nonneg _
                    have a1 : (a : Int) < (k : Int) := by omega
                    obtain ⟨xo, xd, xdst, xa, xb, xn⟩ := x
                    dsimp only at *
                    subst ha
                    clear HS3 HT2 hdr hat
                    go_wp2
                    go_roundw
                    case rel => exact ⟨n + 1, by omega, by go_num, hP⟩
                    case measure => simp [intOf]; omega
                · obtain rfl : n = p.code.length := by omega
                  rw [List.take_length] at HS
                  rw [← HSucc2.out] at HS
                  go_wp2
                  go_roundw
                  case rel => exact ⟨q + 1, by omega, by go_num, HS⟩
                  case measure => simp [intOf]; omega
        · obtain rfl : q = s.parts.length := by omega
          have HBw := HS.ch.to_below hB1 hB1.size (fun q hq => by have hq : q = go := hq; omega)
          have hO := (HS.ow.mono (G := fun q => w.heap.size ≤ q) (fun q hq => by have hq : q = go := hq; omega)).rd
          clear HS
          go_wp2
          go_ret
          exact ⟨_, rfl, hO, HBw⟩
end Go.Proofs.Ytnfaibenekninaa.L
