/- Rows of sections as cells; copy over elements of two cells. -/
import Derived.Test.YteiekdolbnkihaaDoorDl1
import Derived.Shelf.Spec.SlicesInsertGrow
set_option linter.unusedVariables false
set_option linter.unusedSimpArgs false
namespace Go.Proofs.YteiekdolbnkihaaDoor.L
open Go.RowKit
def cells2 : List Se → List Value
  | [] => []
  | x :: t => [.int .i64 x.id, .string x.body] ++ cells2 t
theorem cells2_len : ∀ l : List Se, (cells2 l).length = l.length * 2
  | [] => rfl
  | x :: t => by rw [cells2, List.length_append, cells2_len t]; simp; omega
theorem cells2_append : ∀ a b : List Se, cells2 (a ++ b) = cells2 a ++ cells2 b
  | [], b => rfl
  | x :: t, b => by rw [List.cons_append, cells2, cells2_append t b, cells2]; simp
theorem cells2_take : ∀ (l : List Se) (i : Nat), (cells2 l).take (i * 2) = cells2 (l.take i)
  | [], i => by simp [cells2]
  | x :: t, 0 => by simp [cells2]
  | x :: t, i + 1 => by rw [cells2, List.take_succ_cons, cells2, show (i + 1) * 2 = i * 2 + 2 by omega, ← cells2_take t i]; simp [List.take_append]
theorem cells2_drop : ∀ (l : List Se) (i : Nat), (cells2 l).drop (i * 2) = cells2 (l.drop i)
  | [], i => by simp [cells2]
  | x :: t, 0 => by simp [cells2]
  | x :: t, i + 1 => by rw [cells2, List.drop_succ_cons, show (i + 1) * 2 = i * 2 + 2 by omega, ← cells2_drop t i]; simp [List.drop_append]
theorem cells2_one {l : List Se} : ∀ u ∈ cells2 l, u.oneCell' = true := by
  induction l with
  | nil => intro u hu; cases hu
  | cons x t ih =>
    intro u hu
    rw [cells2] at hu
    rcases List.mem_append.1 hu with hu | hu
    · simp at hu; rcases hu with rfl | rfl <;> rfl
    · exact ih u hu
theorem cells2_get {l : List Se} {i : Nat} {x : Se} (h : l[i]? = some x) : ((cells2 l).drop (i * 2)).take 2 = [.int .i64 x.id, .string x.body] := by
  rw [cells2_drop]
  obtain ⟨hi, rfl⟩ := List.getElem?_eq_some_iff.1 h
  rw [List.drop_eq_getElem_cons hi, cells2]
  simp
/-- A row of one's own, told by its cells. -/
theorem ow_of_cells {w : World} {F : Nat → Prop} {g n c : Nat} {l : List Se} {cur : Array Value} (hh : w.heap[g]? = some (.cells cur 27 (0, 0))) (hn : n = l.length) (hc : n ≤ c) (hm : c ≤ 9223372036854775807) (hsz : cur.size = c * 2) (ht : cur.toList.take (n * 2) = cells2 l) (hF : F g) :
    Ow true 27 sect w F (.slice (some ⟨g, 0, none⟩) n c) l := by
  subst hn
  exact ⟨fun _ _ => False, cells2 l, ⟨cells2_len l, .inr ⟨g, c, cur, rfl, Nat.zero_le _, hh, hc, by unfold maxLen; omega, hsz, ht⟩⟩, fun k hk => by simp [Value.ownBlock] at hk; subst hk; exact hF, fun _ _ h => h.elim, fun _ _ _ _ h => h.elim, fun i x hx => by
    have := cells2_get hx
    show sect.K w _ x (((cells2 l).drop (i * 2)).take 2)
    rw [this]
    exact sect_mk _ _ x⟩
theorem ow_to_cells {w : World} {F : Nat → Prop} {g n c : Nat} {l : List Se} (h : Ow true 27 sect w F (.slice (some ⟨g, 0, none⟩) n c) l) :
    ∃ cur, w.heap[g]? = some (.cells cur 27 (0, 0)) ∧ n = l.length ∧ n ≤ c ∧ c ≤ 9223372036854775807 ∧ cur.size = c * 2 ∧ cur.toList.take (n * 2) = cells2 l := by
  have hat : ∀ i x, l[i]? = some x → SeAt w g (i * 2) x := fun i x hx => by
    obtain ⟨hi, rfl⟩ := List.getElem?_eq_some_iff.1 hx
    exact (h.sect_at hi).1
  obtain rfl := h.len_eq
  obtain ⟨φ, xs, ⟨h1, h2⟩, _⟩ := h
  rcases h2 with ⟨hh, _⟩ | ⟨g', cap, cur, he, _, hh, hc, hm, hsz, htk⟩
  · cases hh
  injection he with q1 q2 q3
  injection q1 with q1
  injection q1 with q1
  subst q1 q3
  have hsz2 : cur.size = c * 2 := hsz
  have hcl : cur.toList.length = c * 2 := by rw [← hsz2]; exact Array.length_toList
  refine ⟨cur, hh, rfl, hc, by unfold maxLen at hm; omega, hsz2, ?_⟩
  apply List.ext_getElem?
  intro j
  by_cases hj : j < l.length * 2
  · rw [List.getElem?_take, if_pos hj, Array.getElem?_toList, ← (cell_of_block hh).1 j]
    have hx : l[j / 2]? = some (l[j / 2]'(by omega)) := List.getElem?_eq_getElem (by omega)
    obtain ⟨c0, c1⟩ := hat _ _ hx
    have hg := cells2_get hx
    rcases Nat.mod_two_eq_zero_or_one j with hp | hp
    · have e : j = j / 2 * 2 := by omega
      have := congrArg (fun t => t[0]?) hg
      simp [List.getElem?_take, List.getElem?_drop] at this
      rw [← e] at c0 this
      rw [c0, this]
    · have e : j = j / 2 * 2 + 1 := by omega
      have := congrArg (fun t => t[1]?) hg
      simp [List.getElem?_take, List.getElem?_drop] at this
      rw [← e] at c1 this
      rw [c1, this]
  · rw [List.getElem?_eq_none (by rw [List.length_take, hcl]; omega), List.getElem?_eq_none (by rw [cells2_len]; omega)]
/-- ALL IS READ BEFORE ANYTHING IS WRITTEN, elements of two cells. -/
theorem run_copy2 {P : Program} (w : World) (dT sT ty elem : TypeId) (b o dLen dCap : Nat) (a : Addr) (sLen sCap m : Nat) (cs : List Value)
    (hu : P.underlying dT = some (.slice elem)) (hs : (P.info? elem).map (·.size) = some 2) (hm : m = Nat.min sLen dLen) (hn : cs.length = m * 2)
    (hsrc : ∀ j v, cs[j]? = some v → w.cell? (a.add j) = some v) (hc : ∀ j, j < cs.length → (w.cell? ⟨b, o + j, none⟩).isSome = true) (hf : ∀ j, j < cs.length → w.frozen? ⟨b, o + j, none⟩ = false) (h1 : ∀ v ∈ cs, v.oneCell' = true) :
    (Builtin.copy_ #[dT, sT] ty #[.slice (some ⟨b, o, none⟩) dLen dCap, .slice (some a) sLen sCap]).run P w = .ok (goInt m) (w.setCells b o cs) := by
  have hl := run_loadCells_list (P := P) w a cs hsrc
  have hst := run_storeCells_cells (P := P) b o cs 0 w (by simpa using hc) (by simpa using hf) h1
  cases hq : P.info? elem with
  | none => simp [hq] at hs
  | some i =>
    have hi : i.size = 2 := by simpa [hq] using hs
    rw [hn] at hl
    simp [Builtin.copy_, run_underlying hu, Builtin.lenOf, Builtin.firstCells, sizeOf, typeInfo, hq, hi, ← hm, hl, hst]
theorem setCells_heap (g : Nat) (T : Nat) : ∀ (vs : List Value) (o : Nat) (w : World) (cur : Array Value), w.heap[g]? = some (.cells cur T (0, 0)) → o + vs.length ≤ cur.size →
    ∃ cur', (w.setCells g o vs).heap[g]? = some (.cells cur' T (0, 0)) ∧ cur'.size = cur.size ∧ cur'.toList = cur.toList.take o ++ (vs ++ cur.toList.drop (o + vs.length)) ∧ ∀ k, k ≠ g → (w.setCells g o vs).heap[k]? = w.heap[k]?
  | [], o, w, cur, h, hl => ⟨cur, h, rfl, by simp, fun _ _ => rfl⟩
  | v :: r, o, w, cur, h, hl => by
    simp only [List.length_cons] at hl
    obtain ⟨cur', h1, h2, h3, h4⟩ := setCells_heap g T r (o + 1) (w.setCell ⟨g, o, none⟩ v) (cur.setIfInBounds o v) (heap_setCell_same w g o cur T v h) (by simp; omega)
    refine ⟨cur', h1, by rw [h2]; simp, ?_, fun k hk => (h4 k hk).trans (heap_setCell_other w ⟨g, o, none⟩ k v hk)⟩
    have hlen : cur.toList.length = cur.size := Array.length_toList
    rw [h3, Array.toList_setIfInBounds, List.take_add_one, List.getElem?_set, if_pos rfl, if_pos (by omega), List.take_set_of_le (Nat.le_refl o), List.drop_set_of_lt (by omega)]
    simp [show o + 1 + r.length = o + (r.length + 1) by omega]
theorem ins_cells (l : List Se) (i : Nat) (x : Se) : cells2 (l.take i ++ [x] ++ l.drop i) = (cells2 l).take (i * 2) ++ ([.int .i64 x.id, .string x.body] ++ (cells2 l).drop (i * 2)) := by
  rw [cells2_append, cells2_append, cells2_take, cells2_drop, List.append_assoc]
  simp [cells2]
theorem splice_ins {α : Type} (C D X : List α) (o : Nat) (hX : X.length = 2) (hC : o + 2 + D.length ≤ C.length) :
    ((C.take (o + 2) ++ (D ++ C.drop (o + 2 + D.length))).take o ++ (X ++ (C.take (o + 2) ++ (D ++ C.drop (o + 2 + D.length))).drop (o + 2))).take (o + 2 + D.length) = C.take o ++ (X ++ D) := by
  have hl : (C.take (o + 2)).length = o + 2 := by rw [List.length_take]; omega
  have e1 : (C.take (o + 2) ++ (D ++ C.drop (o + 2 + D.length))).take o = C.take o := by
    rw [List.take_append_of_le_length (by omega), List.take_take, Nat.min_eq_left (by omega)]
  have e2 : (C.take (o + 2) ++ (D ++ C.drop (o + 2 + D.length))).drop (o + 2) = D ++ C.drop (o + 2 + D.length) := List.drop_left' hl
  rw [e1, e2, ← List.append_assoc X, ← List.append_assoc]
  refine List.take_left' ?_
  rw [List.length_append, List.length_append, List.length_take, hX]
  omega
theorem setCells_below {B g : Nat} {w0 w : World} (h : Below B w0 w) (hg : B ≤ g) (vs : List Value) (o : Nat) : Below B w0 (w.setCells g o vs) := by
  rw [setCells_putRow]; exact putRow_below h hg vs o
set_option maxRecDepth 100000 in
set_option maxHeartbeats 8000000 in
/-- slices.Insert of one section: there is room, in the midst. -/
theorem insShift_calls (g n c i : Nat) (l : List Se) (x : Se) (w : World) (B : Nat) (w0 : World) (HO : Ow true 27 sect w (fun k => B ≤ k) (.slice (some ⟨g, 0, none⟩) n c) l) (hB : B ≤ g) (HB : Below B w0 w) (hi : i < n) (hroom : n + 1 ≤ c) (vb : Nat)
    (hvb : w.heap[vb]? = some (.cells #[.int .i64 x.id, .string x.body] 27 (0, 0))) (hne : vb ≠ g) :
    Calls Tryd.prog 69 #[.slice (some ⟨g, 0, none⟩) n c, .int .i64 i, .slice (some ⟨vb, 0, none⟩) 1 1] w fun e w' =>
      ∃ v', e = .returned v' ∧ Ow true 27 sect w' (fun k => B ≤ k) v' (l.take i ++ [x] ++ l.drop i) ∧ Below B w0 w' := by
  obtain ⟨cur, hh, rfl, hnc, hc63, hsz, htk⟩ := ow_to_cells HO
  have hfz := (cell_of_block hh).2
  have hcell := (cell_of_block hh).1
  have hlc := cells2_len l
  have hcs : ∀ j v, (cells2 l)[j]? = some v → w.cell? ⟨g, j, none⟩ = some v := fun j v hj => by
    rw [hcell, ← Array.getElem?_toList]
    rw [← htk, List.getElem?_take] at hj
    split at hj
    · exact hj
    · cases hj
  have hvc := (cell_of_block hvb).1
  have hvf := (cell_of_block hvb).2
  have hov : ∀ lb cb, (callFunc 77 #[.slice (some ⟨vb, 0, none⟩) 1 1, .slice (some ⟨g, (i + 1) * 2, none⟩) lb cb]).run Tryd.prog w = .ok (.value (.bool false)) w := fun lb cb => by
    rw [run_callFunc_extern Tryd.func77 (by kernel_rfl) (by kernel_rfl) (by kernel_rfl) (e := Extern.SlicesOverlaps.overlaps #[33, 33] #[4]) (by kernel_rfl),
      Lib.run_overlaps_apart w 33 4 27 Tryd.underlying33 2 (fun w => by
        obtain ⟨i0, hi0, hzz⟩ := Option.map_eq_some_iff.1 infoSect
        simp only [Prod.mk.injEq] at hzz
        simp [Go.sizeOf, typeInfo, hi0, hzz.2.1]) ⟨vb, 0, none⟩ ⟨g, (i + 1) * 2, none⟩ 1 1 lb cb hne 27 27 2 cur.size (by simp [World.shape?, hvb]) (by simp [World.shape?, hh]) (by omega) (hvf 0) (hvf 2)]
    rfl
  have hszT : (Tryd.prog.info? 27).map (·.size) = some 2 := by
    obtain ⟨i0, hi0, hzz⟩ := Option.map_eq_some_iff.1 infoSect
    simp only [Prod.mk.injEq] at hzz
    rw [hi0]; simp [hzz.2.1]
  have hsp : ∀ j, j < (l.length + 1) * 2 → (w.cell? ⟨g, j, none⟩).isSome = true := fun j hj => by
    rw [hcell, Array.getElem?_eq_getElem (by omega)]; rfl
  have hD : (cells2 (l.drop i)).length = (l.length - i) * 2 := by rw [cells2_len, List.length_drop]
  have hcp1 : ∀ ty dc sc, (Builtin.copy_ #[33, 33] ty #[.slice (some ⟨g, (i + 1) * 2, none⟩) (l.length + 1 - (i + 1)) dc, .slice (some ⟨g, i * 2, none⟩) (l.length + 1 - i) sc]).run Tryd.prog w.drew = .ok (goInt ((l.length - i : Nat) : Int)) (w.drew.setCells g ((i + 1) * 2) (cells2 (l.drop i))) := fun ty dc sc =>
    run_copy2 w.drew _ _ ty 27 g ((i + 1) * 2) (l.length + 1 - (i + 1)) dc ⟨g, i * 2, none⟩ (l.length + 1 - i) sc (l.length - i) (cells2 (l.drop i)) Tryd.underlying33 hszT (by simp only [Nat.min_def]; split <;> omega) hD
      (fun j v hj => by
        rw [Addr.add_lit]
        rw [← cells2_drop, List.getElem?_drop] at hj
        exact hcs _ _ hj)
      (fun j hj => hsp _ (by omega)) (fun j hj => hfz _) cells2_one
  obtain ⟨W1, hW1⟩ : ∃ W1, W1 = w.drew.setCells g ((i + 1) * 2) (cells2 (l.drop i)) := ⟨_, rfl⟩
  have hcurl : cur.toList.length = cur.size := Array.length_toList
  obtain ⟨cur1, k1, k2, k3, k4⟩ := setCells_heap g 27 (cells2 (l.drop i)) ((i + 1) * 2) w.drew cur hh (by omega)
  rw [← hW1] at k1 k4 hcp1
  have hHB1 : Below B w0 W1 := by rw [hW1]; exact setCells_below (below_drew HB) hB _ _
  have hcp2 : ∀ ty dc, (Builtin.copy_ #[33, 33] ty #[.slice (some ⟨g, i * 2, none⟩) (l.length + 1 - i) dc, .slice (some ⟨vb, 0, none⟩) 1 1]).run Tryd.prog W1 = .ok (goInt ((1 : Nat) : Int)) (W1.setCells g (i * 2) [.int .i64 x.id, .string x.body]) := fun ty dc =>
    run_copy2 W1 _ _ ty 27 g (i * 2) (l.length + 1 - i) dc ⟨vb, 0, none⟩ 1 1 1 [.int .i64 x.id, .string x.body] Tryd.underlying33 hszT (by simp only [Nat.min_def]; split <;> omega) rfl
      (fun j v hj => by
        rw [Addr.add_lit, Nat.zero_add]
        have h1 : W1.heap[vb]? = some (.cells #[.int .i64 x.id, .string x.body] 27 (0, 0)) := (k4 vb hne).trans hvb
        rw [(cell_of_block h1).1, ← Array.getElem?_toList]
        exact hj)
      (fun j hj => by simp only [List.length_cons, List.length_nil] at hj; rw [(cell_of_block k1).1, Array.getElem?_eq_getElem (by omega)]; rfl) (fun j hj => (cell_of_block k1).2 _) (by intro v hv; simp at hv; rcases hv with rfl | rfl <;> rfl)
  obtain ⟨cur2, m1, m2, m3, m4⟩ := setCells_heap g 27 [.int .i64 x.id, .string x.body] (i * 2) W1 cur1 k1 (by simp only [List.length_cons, List.length_nil]; omega)
  have HFIN : Ow true 27 sect (W1.setCells g (i * 2) [.int .i64 x.id, .string x.body]) (fun k => B ≤ k) (.slice (some ⟨g, 0, none⟩) (l.length + 1) c) (l.take i ++ [x] ++ l.drop i) := by
    refine ow_of_cells m1 (by simp; omega) hroom hc63 (by rw [m2, k2, hsz]) ?_ hB
    rw [m3, k3, ins_cells]
    have e1 : (cells2 l).take (i * 2) = cur.toList.take (i * 2) := by rw [← htk, List.take_take, Nat.min_eq_left (by omega)]
    rw [e1, cells2_drop]
    have h := splice_ins cur.toList (cells2 (l.drop i)) [.int .i64 x.id, .string x.body] (i * 2) rfl (by omega)
    rw [show (l.length + 1) * 2 = i * 2 + 2 + (cells2 (l.drop i)).length by omega]
    rw [show (i + 1) * 2 = i * 2 + 2 by omega]
    exact h
  have HFB : Below B w0 (W1.setCells g (i * 2) [.int .i64 x.id, .string x.body]) := setCells_below hHB1 hB _ _
  have hw1 : IntKind.i64.wrap ((i : Int) + 1) = (i : Int) + 1 := by rw [IntKind.wrap_i64]; omega
  have hb1 : (0 : Int) ≤ (i : Int) + 1 := by omega
  have hin : i ≤ l.length := by omega
  have htn : ((i : Int) + 1).toNat = i + 1 := by omega
  have hb2 : ¬ (c = i + 1) := by omega
  have hb3 : (i : Int) ≤ (l.length : Int) + 1 := by omega
  have hb4 : ¬ (c = i) := by omega
  clear hW1 hcs hcell hfz hsp hD k1 k2 k3 k4 m1 m2 m3 m4 hh htk hvc hvf hlc hcurl hHB1 HO
  go_enter Tryd.func69, Tryd.ntmps69
  have mixed : Tryd.prog.follows Departure.mixedOrders = true := by kernel_rfl
  go_wp2_with (simp only [hov])
  go_region_law_o (refine step_copy_runI rfl _ _ 33 33 rfl (.slice (some ⟨g, (i + 1) * 2, none⟩) (l.length + 1 - (i + 1)) (c - (i + 1))) (.slice (some ⟨g, i * 2, none⟩) (l.length + 1 - i) (c - i)) (by simp [Act.eval, Act.put]) (by simp [Act.eval, Act.put]) (hcp1 _ _ _) ?_)
  go_wp2_with (at_builtin; refine wpList_copy_runI _ rfl _ _ 33 33 rfl _ _ rfl rfl (hcp2 _ _) ?_)
  go_ret
  exact ⟨_, rfl, HFIN, HFB⟩
set_option maxRecDepth 100000 in
set_option maxHeartbeats 8000000 in
/-- slices.Insert of one section: at the end. -/
theorem insEnd_calls (g n c : Nat) (l : List Se) (x : Se) (w : World) (B : Nat) (w0 : World) (HO : Ow true 27 sect w (fun k => B ≤ k) (.slice (some ⟨g, 0, none⟩) n c) l) (HB : Below B w0 w) (hBw : B ≤ w.heap.size) (hl : l.length ≤ 1048576) (vb : Nat)
    (hvb : w.heap[vb]? = some (.cells #[.int .i64 x.id, .string x.body] 27 (0, 0))) :
    Calls Tryd.prog 69 #[.slice (some ⟨g, 0, none⟩) n c, .int .i64 n, .slice (some ⟨vb, 0, none⟩) 1 1] w fun e w' =>
      ∃ v', e = .returned v' ∧ Ow true 27 sect w' (fun k => B ≤ k) v' (l ++ [x]) ∧ Below B w0 w' := by
  obtain ⟨cur, hh, rfl, hnc, hc63, hsz, htk⟩ := ow_to_cells HO
  have HX : Rp.Rd sect w (fun _ => True) (.slice (some ⟨vb, 0, none⟩) 1 1) [x] := ⟨_, 1, rfl, Nat.le_refl _, by unfold maxLen; omega, .inr ⟨vb, 0, rfl, trivial, (Array.getElem?_eq_some_iff.1 hvb).1, fun i y hy => by
    cases i with
    | zero =>
      simp at hy
      subst hy
      refine ⟨_, sect_mk _ _ x, fun j u hu => ?_⟩
      rw [(cell_of_block hvb).1, ← Array.getElem?_toList]
      simpa using hu
    | succ i => simp at hy⟩⟩
  clear hh htk hsz hvb
  have hn0 : ((l.length : Int) == (l.length : Int)) = true := by simp
  have tok1 : True := trivial
  go_enter Tryd.func69, Tryd.ntmps69
  go_wp2_with (at_builtin; have _t := tok1; refine acc_appendf (r := sect) (e := 27) (B := B) (w0 := w0) sect_flat (by rfl) _ _ 33 (.agg #[.int .i64 0, .string ByteArray.empty]) 24 (by rfl) Tryd.underlying33 infoSect rfl (by decide) (by omega) (.slice (some ⟨g, 0, none⟩) l.length c) (.slice (some ⟨vb, 0, none⟩) 1 1) l [x] (by rfl) (by rfl) true HO HX HB hBw (by simp; omega) ?_; intro v1 w1 HO1 HB1 hB1; clear tok1)
  all_goals
    go_ret
    exact ⟨_, rfl, HO1, HB1⟩
theorem splice_ins2 {α : Type} (A Z D X : List α) (o : Nat) (hA : A.length = o) (hX : X.length = 2) (hZ : 2 + D.length ≤ Z.length) :
    (((A ++ Z).take o ++ (X ++ (A ++ Z).drop (o + 2))).take (o + 2) ++ (D ++ ((A ++ Z).take o ++ (X ++ (A ++ Z).drop (o + 2))).drop (o + 2 + D.length))).take (o + 2 + D.length) = A ++ (X ++ D) := by
  have e0 : (A ++ Z).take o = A := List.take_left' hA
  rw [e0]
  have e1 : (A ++ (X ++ (A ++ Z).drop (o + 2))).take (o + 2) = A ++ X := by rw [← List.append_assoc]; exact List.take_left' (by rw [List.length_append]; omega)
  rw [e1]
  generalize (A ++ (X ++ (A ++ Z).drop (o + 2))).drop (o + 2 + D.length) = R
  rw [show A ++ X ++ (D ++ R) = (A ++ (X ++ D)) ++ R by simp]
  exact List.take_left' (by rw [List.length_append, List.length_append]; omega)
set_option maxRecDepth 100000 in
set_option maxHeartbeats 8000000 in
/-- slices.Insert of one section: there is no room, in the midst. -/
theorem insGrow_calls (g n c i : Nat) (l : List Se) (x : Se) (w : World) (B : Nat) (w0 : World) (HO : Ow true 27 sect w (fun k => B ≤ k) (.slice (some ⟨g, 0, none⟩) n c) l) (HB : Below B w0 w) (hBw : B ≤ w.heap.size) (hl : l.length ≤ 1048576) (hi : i < n) (hroom : c < n + 1) (vb : Nat)
    (hvb : w.heap[vb]? = some (.cells #[.int .i64 x.id, .string x.body] 27 (0, 0))) :
    Calls Tryd.prog 69 #[.slice (some ⟨g, 0, none⟩) n c, .int .i64 i, .slice (some ⟨vb, 0, none⟩) 1 1] w fun e w' =>
      ∃ v', e = .returned v' ∧ Ow true 27 sect w' (fun k => B ≤ k) v' (l.take i ++ [x] ++ l.drop i) ∧ Below B w0 w' := by
  obtain ⟨cur, hh, rfl, hnc, hc63, hsz, htk⟩ := ow_to_cells HO
  have hgw := (Array.getElem?_eq_some_iff.1 hh).1
  have hvw := (Array.getElem?_eq_some_iff.1 hvb).1
  have hcell := (cell_of_block hh).1
  have hcs : ∀ j v, (cells2 l)[j]? = some v → w.cell? ⟨g, j, none⟩ = some v := fun j v hj => by
    rw [hcell, ← Array.getElem?_toList]
    rw [← htk, List.getElem?_take] at hj
    split at hj
    · exact hj
    · cases hj
  obtain ⟨i0, hi0, hzz⟩ := Option.map_eq_some_iff.1 infoSect
  simp only [Prod.mk.injEq] at hzz
  obtain ⟨hz0, hz1, hz2⟩ := hzz
  have hz1 : i0.size = 2 := hz1
  have hszT : (Tryd.prog.info? 27).map (·.size) = some 2 := by rw [hi0]; simp [hz1]
  have hold : (Builtin.firstCells i0.size i (.slice (some ⟨g, 0, none⟩) i c)).run Tryd.prog w.drew = .ok (cells2 (l.take i)).toArray w.drew := by
    rw [hz1]
    exact run_firstCells_some w.drew 2 i ⟨g, 0, none⟩ i c (cells2 (l.take i)) (by rw [cells2_len, List.length_take]; omega) (fun j v hj => by
      rw [Addr.add_lit, Nat.zero_add]
      rw [← cells2_take, List.getElem?_take] at hj
      split at hj
      · exact hcs j v hj
      · cases hj)
  have hkk : (l.length : Int) + 1 - (i : Int) = ((l.length + 1 - i : Nat) : Int) := by omega
  have hik : i + (l.length + 1 - i) = l.length + 1 := by omega
  obtain ⟨G, hG⟩ : ∃ G, G = grownCap w (l.length + 1) c 27 := ⟨_, rfl⟩
  obtain ⟨ROW, hROW⟩ : ∃ ROW : Array Value, ROW = (cells2 (l.take i)).toArray ++ Builtin.zeroCells (Value.agg #[.int .i64 0, .string ByteArray.empty]).cells (l.length + 1 - i) ++ Builtin.zeroCells (Value.agg #[.int .i64 0, .string ByteArray.empty]).cells (G - (l.length + 1)) := ⟨_, rfl⟩
  have hrz : ∀ ty, (Builtin.append_ #[33, 3] ty #[.slice (some ⟨g, 0, none⟩) i c, .int .i64 ((l.length : Int) + 1 - (i : Int))]).run Tryd.prog w = .ok (.slice (some ⟨w.heap.size, 0, none⟩) (l.length + 1) G) (w.drew.alloc (.cells ROW 27)) := fun ty => by
    have h := Lib.run_append_grow_zeros w 33 3 ty 27 i0 _ .i64 .i64 Tryd.underlying33 Tryd.underlying3 hi0 hz0 (some ⟨g, 0, none⟩) i c (cells2 (l.take i)) hold (l.length + 1 - i) (by omega) (by omega) (by omega) (by omega) (by rw [hz2]; omega) (by rw [hz2, hik]; exact growslice_fits hroom (by omega))
    rw [hik, ← hkk] at h
    rw [hROW, hG]
    exact h
  have hGn : l.length + 1 ≤ G := by rw [hG]; exact grownCap_ge w _ _ _
  have hG63 : G ≤ 9223372036854775807 := by
    have := grownCap_le_maxLen w (l.length + 1) c 27 (by unfold maxLen; omega)
    rw [← hG] at this
    unfold maxLen at this
    omega
  have hti : (cells2 (l.take i)).length = i * 2 := by rw [cells2_len, List.length_take]; omega
  obtain ⟨Z, hZ, hZl⟩ : ∃ Z, ROW.toList = cells2 (l.take i) ++ Z ∧ Z.length = (G - i) * 2 := by
    refine ⟨_, by rw [hROW, Array.toList_append, Array.toList_append, List.append_assoc], ?_⟩
    rw [List.length_append, Array.length_toList, Array.length_toList]
    simp [Builtin.zeroCells, Value.cells]
    omega
  have hRs : ROW.size = G * 2 := by
    rw [← Array.length_toList, hZ, List.length_append, hZl, hti]; omega
  obtain ⟨W1, hW1⟩ : ∃ W1, W1 = w.drew.alloc (.cells ROW 27) := ⟨_, rfl⟩
  rw [← hW1] at hrz
  have a1 : W1.heap[w.heap.size]? = some (.cells ROW 27 (0, 0)) := by rw [hW1]; exact heap_alloc_new w.drew _
  have a2 : ∀ k, k < w.heap.size → W1.heap[k]? = w.heap[k]? := fun k hk => by rw [hW1]; exact Below.heap_alloc w.drew _ k hk
  have a3 : Below B w0 W1 := by rw [hW1]; exact (below_drew HB).alloc hBw _
  have hD : (cells2 (l.drop i)).length = (l.length - i) * 2 := by rw [cells2_len, List.length_drop]
  have hcpA : ∀ ty dc, (Builtin.copy_ #[33, 33] ty #[.slice (some ⟨w.heap.size, i * 2, none⟩) (l.length + 1 - i) dc, .slice (some ⟨vb, 0, none⟩) 1 1]).run Tryd.prog W1 = .ok (goInt ((1 : Nat) : Int)) (W1.setCells w.heap.size (i * 2) [.int .i64 x.id, .string x.body]) := fun ty dc =>
    run_copy2 W1 _ _ ty 27 w.heap.size (i * 2) (l.length + 1 - i) dc ⟨vb, 0, none⟩ 1 1 1 [.int .i64 x.id, .string x.body] Tryd.underlying33 hszT (by simp only [Nat.min_def]; split <;> omega) rfl
      (fun j v hj => by
        rw [Addr.add_lit, Nat.zero_add]
        rw [(cell_of_block ((a2 vb hvw).trans hvb)).1, ← Array.getElem?_toList]
        exact hj)
      (fun j hj => by simp only [List.length_cons, List.length_nil] at hj; rw [(cell_of_block a1).1, Array.getElem?_eq_getElem (by omega)]; rfl) (fun j hj => (cell_of_block a1).2 _) (by intro v hv; simp at hv; rcases hv with rfl | rfl <;> rfl)
  obtain ⟨cur1, k1, k2, k3, k4⟩ := setCells_heap w.heap.size 27 [.int .i64 x.id, .string x.body] (i * 2) W1 ROW a1 (by simp only [List.length_cons, List.length_nil]; omega)
  have b3 : Below B w0 (W1.setCells w.heap.size (i * 2) [.int .i64 x.id, .string x.body]) := setCells_below a3 hBw _ _
  obtain ⟨W2, hW2⟩ : ∃ W2, W2 = W1.setCells w.heap.size (i * 2) [.int .i64 x.id, .string x.body] := ⟨_, rfl⟩
  rw [← hW2] at hcpA k1 k4 b3
  have hcpB : ∀ ty dc sc, (Builtin.copy_ #[33, 33] ty #[.slice (some ⟨w.heap.size, (i + 1) * 2, none⟩) (l.length + 1 - (i + 1)) dc, .slice (some ⟨g, i * 2, none⟩) (l.length - i) sc]).run Tryd.prog W2.drew = .ok (goInt ((l.length - i : Nat) : Int)) (W2.drew.setCells w.heap.size ((i + 1) * 2) (cells2 (l.drop i))) := fun ty dc sc =>
    run_copy2 W2.drew _ _ ty 27 w.heap.size ((i + 1) * 2) (l.length + 1 - (i + 1)) dc ⟨g, i * 2, none⟩ (l.length - i) sc (l.length - i) (cells2 (l.drop i)) Tryd.underlying33 hszT (by simp only [Nat.min_def]; split <;> omega) hD
      (fun j v hj => by
        rw [Addr.add_lit]
        rw [← cells2_drop, List.getElem?_drop] at hj
        have h1 : W2.drew.heap[g]? = some (.cells cur 27 (0, 0)) := (k4 g (by omega)).trans ((a2 g hgw).trans hh)
        rw [(cell_of_block h1).1, ← hcell]
        exact hcs _ _ hj)
      (fun j hj => by
        have h1 : W2.drew.heap[w.heap.size]? = some (.cells cur1 27 (0, 0)) := k1
        rw [(cell_of_block h1).1, Array.getElem?_eq_getElem (by omega)]; rfl) (fun j hj => by
        have h1 : W2.drew.heap[w.heap.size]? = some (.cells cur1 27 (0, 0)) := k1
        exact (cell_of_block h1).2 _) cells2_one
  have hcurl : cur1.toList.length = cur1.size := Array.length_toList
  obtain ⟨cur2, m1, m2, m3, m4⟩ := setCells_heap w.heap.size 27 (cells2 (l.drop i)) ((i + 1) * 2) W2.drew cur1 k1 (by omega)
  have HFIN : Ow true 27 sect (W2.drew.setCells w.heap.size ((i + 1) * 2) (cells2 (l.drop i))) (fun k => B ≤ k) (.slice (some ⟨w.heap.size, 0, none⟩) (l.length + 1) G) (l.take i ++ [x] ++ l.drop i) := by
    refine ow_of_cells m1 (by simp; omega) hGn hG63 (by rw [m2, k2, hRs]) ?_ hBw
    rw [m3, k3, ins_cells, cells2_take, cells2_drop, hZ]
    have h := splice_ins2 (cells2 (l.take i)) Z (cells2 (l.drop i)) [.int .i64 x.id, .string x.body] (i * 2) hti rfl (by omega)
    rw [show (l.length + 1) * 2 = i * 2 + 2 + (cells2 (l.drop i)).length by omega]
    rw [show (i + 1) * 2 = i * 2 + 2 by omega]
    exact h
  have HFB : Below B w0 (W2.drew.setCells w.heap.size ((i + 1) * 2) (cells2 (l.drop i))) := setCells_below (below_drew b3) hBw _ _
  have hw1 : IntKind.i64.wrap ((i : Int) + 1) = (i : Int) + 1 := by rw [IntKind.wrap_i64]; omega
  have hb1 : (0 : Int) ≤ (i : Int) + 1 := by omega
  have hin : i ≤ l.length := by omega
  have htn : ((i : Int) + 1).toNat = i + 1 := by omega
  have hb3 : (i : Int) ≤ (l.length : Int) := by omega
  have hGi : ¬ (G = i) := by omega
  have hGim : ¬ (G = i + 1) := by omega
  have hci : ¬ (c = i) := by omega
  have hz3 : (c : Int) < (l.length : Int) + 1 := by omega
  have mixed : Tryd.prog.follows Departure.mixedOrders = true := by kernel_rfl
  clear hW1 hW2 hcs hcell hD k1 k2 k3 k4 m1 m2 m3 m4 hh htk hcurl HO a1 a2 a3 b3 hZ hZl hRs hti hROW hG hold hkk hik
  go_enter Tryd.func69, Tryd.ntmps69
  go_wp2_with (first
    | (at_builtin; refine Lib.wpList_append_run _ rfl _ _ _ _ rfl _ _ rfl rfl _ _ (hrz _) ?_)
    | (at_builtin; refine wpList_copy_runI _ rfl _ _ 33 33 rfl _ _ rfl rfl (hcpA _ _) ?_))
  go_region_law_o (refine step_copy_runI rfl _ _ 33 33 rfl (.slice (some ⟨w.heap.size, (i + 1) * 2, none⟩) (l.length + 1 - (i + 1)) (G - (i + 1))) (.slice (some ⟨g, i * 2, none⟩) (l.length - i) (c - i)) (by simp [Act.eval, Act.put]) (by simp [Act.eval, Act.put]) (hcpB _ _ _) ?_)
  go_wp2
  go_ret
  exact ⟨_, rfl, HFIN, HFB⟩
end Go.Proofs.YteiekdolbnkihaaDoor.L
