/- Joined texts, each of which was built by itself: Sp8 JSg. -/
import Derived.Test.YtnfaibenekninaaGreatB8
import Derived.Test.YtnfaibenekninaaGreatB3
import Derived.Test.YtnfaibenekninaaGreatB4
import Derived.Deep.RegionHeld3
set_option linter.unusedVariables false
set_option linter.unusedSimpArgs false
namespace Go.Proofs.YtnfaibenekninaaGreat.L
open Go.RowKit
def setsS (x : Fl) : Bool := inB x.op 1 4
def dstsS (l : List Fl) : List Int := (l.filter setsS).map (fun x => x.dst)
def ownS (p : Pt) : List Int := p.params ++ dstsS p.code
def defStep (k : Int) : List Int → List Int → Option (List Int)
  | D, [] => some D
  | D, v :: t => if v < 0 ∨ (D.length : Int) ≤ v ∨ 0 ≤ D[v.toNat]! then none else defStep k (D.set v.toNat k) t
def defsFrom : Int → List Int → List Pt → Option (List Int)
  | _, D, [] => some D
  | k, D, p :: t => (defStep k D (ownS p)).bind (fun D' => defsFrom (k + 1) D' t)
def defs0 (n : Nat) : List Int := (List.range n).map (fun v => if v < 12 then 0 else -1)
def defsS (s : Sa) : Option (List Int) := defsFrom 0 (defs0 s.values.toNat) s.parts
theorem defs0_succ (n : Nat) : defs0 (n + 1) = defs0 n ++ [if n < 12 then 0 else -1] := by unfold defs0; rw [List.range_succ, List.map_append]; rfl
theorem defs0_len (n : Nat) : (defs0 n).length = n := by unfold defs0; simp
theorem dstsS_take {l : List Fl} {k : Nat} (hk : k < l.length) : dstsS (l.take (k + 1)) = if setsS l[k] then dstsS (l.take k) ++ [l[k].dst] else dstsS (l.take k) := by
  unfold dstsS
  rw [List.take_succ_eq_append_getElem hk, List.filter_append, List.map_append]
  cases h : setsS l[k] <;> simp [h]
theorem dstsS_len (l : List Fl) : (dstsS l).length ≤ l.length := by unfold dstsS; rw [List.length_map]; exact List.length_filter_le _ _
set_option maxHeartbeats 4000000 in
theorem l9Defs_calls {F : Nat → Prop} (s : Sa) (vparts : Value) (w : World) (hs : Rp.Rd part w F vparts s.parts) (hn : s.parts.length ≤ 1048576) (hl : ∀ p ∈ s.parts, PtLim p) (hv0 : 12 ≤ s.values) (hv1 : s.values ≤ 250) :
    Calls Tryz.prog 49 #[saV s vparts] w fun e w' => ∃ v', e = .returned (.tuple #[v', .bool (defsS s).isSome]) ∧ Ow true 3 Rp.int w' (fun k => w.heap.size ≤ k) v' ((defsS s).getD []) ∧ Below w.heap.size w w' := by
  replace hs := hs.bound
  obtain ⟨nv, hnv⟩ := Int.eq_ofNat_of_zero_le (by omega : 0 ≤ s.values)
  obtain ⟨A, c, rfl, hlc, hcm, hrow⟩ := rd_part hs
  have HT : Hid (defsFrom 0 (defs0 nv) s.parts = defsS s) := Lib.hid (by unfold defsS; rw [hnv]; rfl)
  have hn0 : 12 ≤ nv := by omega
  have hn1 : nv ≤ 250 := by omega
  unfold saV
  rw [hnv]
  clear hnv hv0 hv1
  go_enter Tryz.func49, Tryz.ntmps49
  go_wp2
  obtain ⟨W1, hW1⟩ : ∃ W1, W1 = w.alloc (Obj.cells #[Value.slice A s.parts.length c, Value.int .i64 nv] 28) := ⟨_, rfl⟩
  have hs1 : w.heap.size + 1 ≤ W1.heap.size := by rw [hW1]; simp
  have hB : Below w.heap.size w W1 := by rw [hW1]; exact below_new _
  have hb1 : W1.heap[w.heap.size]? = some (.cells #[Value.slice A s.parts.length c, Value.int .i64 nv] 28 (0, 0)) := by rw [hW1]; exact heap_alloc_new w _
  rw [← hW1]
  clear hW1
  go_loopw [4, 5] (fun dv i wr => ∃ k : Nat, k ≤ nv ∧ i = .int .i64 k ∧ Ow true 3 Rp.int wr (fun q => w.heap.size + 1 ≤ q) dv (defs0 k) ∧ Below w.heap.size w wr ∧ wr.heap[w.heap.size]? = some (.cells #[Value.slice A s.parts.length c, Value.int .i64 nv] 28 (0, 0)) ∧ w.heap.size + 1 ≤ wr.heap.size) (fun _ i _ => nv - (intOf i).toNat)
  case atStart => exact ⟨0, Nat.zero_le _, rfl, Ow.nil _ _ _ _ _, hB, hb1, hs1⟩
  case round =>
    clear hB hb1 hs1
    obtain ⟨k, hk, rfl, HO, HB, b1, hz⟩ := hrel
    obtain ⟨x1, f1⟩ := cell_of_block b1
    have x10 := x1 0
    have x11 := x1 1
    simp at x10 x11
    have hdl := defs0_len k
    obtain ⟨Av, kv, rfl, hkv, hkm⟩ := HO.form
    by_cases hlt : k < nv
    · have i1 : (k : Int) < (nv : Int) := by omega
      obtain ⟨y, hy, hc⟩ : ∃ y : Int, Hid (defs0 (k + 1) = defs0 k ++ [y]) ∧ ((k : Int) < 12 ∧ y = 0 ∨ ¬ ((k : Int) < 12) ∧ y = -1) := by
        refine ⟨if k < 12 then 0 else -1, Lib.hid (defs0_succ k), ?_⟩
        by_cases h : k < 12
        · left; rw [if_pos h]; exact ⟨by omega, rfl⟩
        · right; rw [if_neg h]; exact ⟨by omega, rfl⟩
      have hl2 : (defs0 k).length ≤ 250 := by omega
      clear hdl
      generalize defs0 k = D at *
      rcases hc with ⟨hc, rfl⟩ | ⟨hc, rfl⟩
      all_goals
        go_wp2_with (at_builtin; refine ow_append1 (r := Rp.int) (e := 3) (G := fun _ => False) (by rfl) _ _ 59 (.int .i64 0) 8 (by rfl) Tryz.underlying59 infoInt rfl (by decide) (by omega) (.slice Av D.length kv) D _ [.int .i64 _] (by rfl) (by rfl) HO rfl (fun _ h => h.elim) (by omega) ?_; intro v1 w1 HO3 hg1; have HB3 := below_grown HB hg1 (fun q hq => by have := own_in HO (.inr hq); omega) HB.size; have b3 := grown_blk hg1 b1 (own_ne HO (fun h => by omega)); have hz3 := hg1.size; obtain ⟨Bv, dv, rfl, _, _⟩ := HO3.form1)
        go_roundw
        case rel => exact ⟨k + 1, by omega, by go_num, by rw [hy.out]; exact HO3.mono (fun q hq => by rcases hq with hq | hq | hq; exact hq; exact hq.elim; omega), HB3, b3, by omega⟩
        case measure => simp [intOf]; omega
    · obtain rfl : k = nv := by omega
      clear hlt hk
      generalize defs0 k = D at *
      subst hdl
      go_wp2
      go_loopw [30] (fun i wr => ∃ (m : Nat) (D' : List Int), m ≤ s.parts.length ∧ i = .int .i64 m ∧ Hid (D'.length = D.length) ∧ Ow true 3 Rp.int wr (fun q => w.heap.size + 1 ≤ q) (.slice Av D.length kv) D' ∧ Below w.heap.size w wr ∧ wr.heap[w.heap.size]? = some (.cells #[Value.slice A s.parts.length c, Value.int .i64 D.length] 28 (0, 0)) ∧ w.heap.size + 1 ≤ wr.heap.size ∧ Hid (defsFrom m D' (s.parts.drop m) = defsS s)) (fun i _ => s.parts.length - (intOf i).toNat)
      case atStart => exact ⟨0, D, Nat.zero_le _, rfl, Lib.hid rfl, HO, HB, b1, hz, HT⟩
      case round =>
        clear x1 f1 x10 x11 HO HB b1 hz HT
        obtain ⟨m, D', hm, rfl, hdl', HO, HB, b1, hz, HT⟩ := hrel
        rename World => wo
        by_cases hlt : m < s.parts.length
        · rcases hrow with hnil | ⟨b, o, rfl, hb, hcell⟩
          · rw [hnil] at hlt; simp at hlt
          obtain ⟨_, _, _, _, hp, ⟨A1, c1, rfl, hc1⟩, ⟨A2, c2, rfl, hc2⟩, ⟨A3, c3, rfl, _⟩, ⟨A4, c4, rfl, _⟩⟩ := hcell m hlt
          have hx1 : Rp.Rd Rp.int w (fun q => F q ∧ q < w.heap.size) (.slice A1 s.parts[m].params.length c1) s.parts[m].params := ⟨_, _, rfl, hc1⟩
          have hx2 : Rp.Rd flat w (fun q => F q ∧ q < w.heap.size) (.slice A2 s.parts[m].code.length c2) s.parts[m].code := ⟨_, _, rfl, hc2⟩
          have hp := partAt_below hp HB
          have hx1 := hx1.below HB
          have hx2 := hx2.below HB
          obtain ⟨hl1, hl2, _⟩ := hl _ (List.getElem_mem hlt)
          have HG : Hid ((defStep m D' (ownS s.parts[m])).bind (fun D'' => defsFrom ((m + 1 : Nat) : Int) D'' (s.parts.drop (m + 1))) = defsS s) := Lib.hid (by have := HT.out; rw [List.drop_eq_getElem_cons hlt] at this; exact this)
          clear hcell HT hc1 hc2
          generalize s.parts[m] = p at *
          obtain ⟨q0, q1, q2, q3, q4, q5⟩ := hp
          have i0 : (0 : Int) ≤ (m : Int) := Int.natCast_nonneg _
          have i1 : (m : Int) < (s.parts.length : Int) := by omega
          obtain ⟨W2, hW2⟩ : ∃ W2, W2 = (wo.alloc (Obj.cells #[Value.slice A1 p.params.length c1, Value.slice A2 p.code.length c2, Value.int .i64 p.go, Value.int .i64 p.test, Value.slice A3 p.next.length c3, Value.slice A4 p.args.length c4] 67)).alloc (Obj.cells #[] 3) := ⟨_, rfl⟩
          have hb2 : Below wo.heap.size wo W2 := by rw [hW2]; exact (below_new _).alloc (by simp) _
          have p2 : W2.heap[wo.heap.size]? = some (.cells #[Value.slice A1 p.params.length c1, Value.slice A2 p.code.length c2, Value.int .i64 p.go, Value.int .i64 p.test, Value.slice A3 p.next.length c3, Value.slice A4 p.args.length c4] 67 (0, 0)) := by rw [hW2]; exact heap_alloc2_old wo _ _
          have e2 : W2.heap[wo.heap.size + 1]? = some (.cells #[] 3 (0, 0)) := by rw [hW2]; exact heap_alloc2_new wo _ _
          have HE := (ow_empty (ap := true) (r := Rp.int) e2).mono (G := fun q => wo.heap.size + 1 ≤ q) (fun q hq => by omega)
          have hx1' := hx1.below hb2
          have HW2 := Lib.hid hW2
          clear hW2 e2
          have HLE := dstsS_len p.code
          have hz2 := blk_lt p2
          go_wp2_with (at_builtin; (rw [← HW2.out]; refine ow_appendf (r := Rp.int) (e := 3) int_flat (by rfl) _ _ 59 (.int .i64 0) 8 (by rfl) Tryz.underlying59 infoInt rfl (by decide) (by omega) (.slice (some ⟨wo.heap.size + 1, 0, none⟩) 0 0) (.slice A1 p.params.length c1) [] p.params (by rfl) (by rfl) true HE hx1' (by simp; omega) ?_; intro v1 w1 HO3 hg1; have p3 := grown_blk hg1 p2 (own_ne HE (fun h => by omega)); have hb3 := below_grown hb2 hg1 (fun q hq => by have := own_in HE (.inr hq); omega) hb2.size; have hz3 := blk_lt p3; obtain ⟨x3, f3⟩ := cell_of_block p3; have x31 := x3 1; simp at x31))
          have HL3 : Ow true 3 Rp.int w1 (fun q => wo.heap.size + 1 ≤ q) v1 (p.params ++ dstsS (p.code.take 0)) := by
            have := HO3.mono (G := fun q => wo.heap.size + 1 ≤ q) (fun q hq => by rcases hq with hq | hq; exact hq; omega)
            simpa [dstsS] using this
          clear HO3 x3 f3 x31 p2 HE hx1' HW2
          go_loopw [8, 42] (fun lv i wr => ∃ j : Nat, j ≤ p.code.length ∧ i = .int .i64 j ∧ Ow true 3 Rp.int wr (fun q => wo.heap.size + 1 ≤ q) lv (p.params ++ dstsS (p.code.take j)) ∧ Below wo.heap.size wo wr ∧ wo.heap.size < wr.heap.size) (fun _ i _ => p.code.length - (intOf i).toNat)
          case atStart => exact ⟨0, Nat.zero_le _, rfl, HL3, hb3, hz3⟩
          case round =>
            clear HL3 hb3 p3 hz3 hz2
            obtain ⟨j, hj, rfl, HOl, hbw, hz3⟩ := hrel
            by_cases hjt : j < p.code.length
            · obtain ⟨_, _, hAe, _, _, hAr⟩ := rd_flat (hx2.below hbw)
              cases hAe
              rcases hAr with hAr | ⟨b2, o2, rfl, hbb2, hc2⟩
              · rw [hAr] at hjt; simp at hjt
              have q := hc2 j hjt
              clear hc2
              obtain ⟨r0, r1, r2, r3, r4, r5⟩ := q
              have HLT := dstsS_len (p.code.take j)
              rw [List.length_take] at HLT
              have hln : (p.params ++ dstsS (p.code.take j)).length ≤ 2097152 := by rw [List.length_append]; omega
              have HNX : Hid ((setsS p.code[j] = true → p.params ++ dstsS (p.code.take (j + 1)) = (p.params ++ dstsS (p.code.take j)) ++ [p.code[j].dst]) ∧ (setsS p.code[j] = false → p.params ++ dstsS (p.code.take (j + 1)) = p.params ++ dstsS (p.code.take j))) := Lib.hid (by
                rw [dstsS_take hjt]
                constructor
                · intro h; rw [if_pos h, List.append_assoc]
                · intro h; rw [if_neg (by rw [h]; decide)])
              clear HLT HLE
              generalize p.params ++ dstsS (p.code.take j) = l1 at *
              generalize p.code[j] = x at *
              have i2 : (0 : Int) ≤ (j : Int) := Int.natCast_nonneg _
              have i3 : (j : Int) < (p.code.length : Int) := by omega
              obtain ⟨Al, kl, rfl, hkl, hkml⟩ := HOl.form
              cases hset : inB x.op 1 4
              · have HC := fun W => l9Sets_calls x.op W
                rw [hset] at HC
                have HL2 := Lib.hid (HNX.out.2 hset)
                clear hset HNX
                go_wp2_with (go_at_call 37; refine (HC _).mono ?_; rintro e w' ⟨rfl, rfl⟩)
                go_roundw
                case rel => exact ⟨j + 1, by omega, by go_num, by rw [HL2.out]; exact HOl.below (below_new _), hbw.alloc hbw.size _, by simp; omega⟩
                case measure => simp [intOf]; omega
              · have HC := fun W => l9Sets_calls x.op W
                rw [hset] at HC
                have HL2 := Lib.hid (HNX.out.1 hset)
                clear hset HNX
                have HOl2 := HOl.below (below_new (Obj.cells #[Value.int .i64 x.op, Value.int .i64 x.dO, Value.int .i64 x.dst, Value.int .i64 x.a, Value.int .i64 x.b, Value.int .i64 x.n] 71))
                have hbw2 := hbw.alloc hbw.size (Obj.cells #[Value.int .i64 x.op, Value.int .i64 x.dO, Value.int .i64 x.dst, Value.int .i64 x.a, Value.int .i64 x.b, Value.int .i64 x.n] 71)
                go_wp2_with (first | (go_at_call 37; refine (HC _).mono ?_; rintro e w' ⟨rfl, rfl⟩) | (at_builtin; (refine app_int (by rfl) _ _ (by rfl) (.slice Al l1.length kl) l1 x.dst (wr.heap.size + 1) (by simp) (by rfl) (by rfl) HOl2 (by omega) ?_; intro A' c' w1 HO3 hg1; have hb3 := below_grown hbw2 hg1 (fun q hq => by have := own_in HOl2 (.inr hq); omega) hbw2.size; have hz4 := hg1.size; simp at hz4; have HO4 := HO3.mono (G := fun q => wo.heap.size + 1 ≤ q) (fun q hq => by rcases hq with hq | hq; exact hq; simp at hq; omega))))
                go_roundw
                case rel => exact ⟨j + 1, by omega, by go_num, by rw [HL2.out]; exact HO4, hb3, by omega⟩
                case measure => simp [intOf]; omega
            · obtain rfl : j = p.code.length := by omega
              rw [List.take_length] at HOl
              change Ow _ _ _ _ _ _ (ownS p) at HOl
              have HODw := HO.bound.below hbw
              have HB4 := below_then HB hbw
              have b4 := blk_below b1 hbw
              have hz5 := Nat.le_trans hz hbw.size
              clear hx1 hx2 HLE HB b1 hz HO hbw q0 q1 q2 q3 q4 q5
              generalize ownS p = l at *
              obtain ⟨Al, kl, rfl, hkl, hkml⟩ := HOl.form
              go_wp2
              go_loopw [57] (fun i wr => ∃ (j : Nat) (E : List Int), j ≤ l.length ∧ i = .int .i64 j ∧ Hid (E.length = D.length) ∧ Ow true 3 Rp.int wr (fun q => w.heap.size + 1 ≤ q ∧ q < wo.heap.size) (.slice Av D.length kv) E ∧ Ow true 3 Rp.int wr (fun q => wo.heap.size + 1 ≤ q) (.slice Al l.length kl) l ∧ Below w.heap.size w wr ∧ wr.heap[w.heap.size]? = some (.cells #[Value.slice (some ⟨b, o, none⟩) s.parts.length c, Value.int .i64 D.length] 28 (0, 0)) ∧ w.heap.size + 1 ≤ wr.heap.size ∧ Hid ((defStep m E (l.drop j)).bind (fun D'' => defsFrom ((m + 1 : Nat) : Int) D'' (s.parts.drop (m + 1))) = defsS s)) (fun i _ => l.length - (intOf i).toNat)
              case atStart => exact ⟨0, D', Nat.zero_le _, rfl, hdl', HODw, HOl, HB4, b4, hz5, HG⟩
              case round =>
                clear HODw HOl HB4 b4 hz5 HG
                obtain ⟨j, E, hj, rfl, hEl, HO, HOl, HB, b1, hz, HG⟩ := hrel
                obtain ⟨x1, f1⟩ := cell_of_block b1
                have x11 := x1 1
                simp at x11
                by_cases hjt : j < l.length
                · obtain ⟨_, _, hAe, _, _, hAr⟩ := rd_int HOl.rd
                  cases hAe
                  rcases hAr with hAr | ⟨b2, o2, rfl, hbb2, hc2⟩
                  · rw [hAr] at hjt; simp at hjt
                  have c2 := hc2 j hjt
                  clear hc2
                  have HGd : Hid ((defStep m E (l[j] :: l.drop (j + 1))).bind (fun D'' => defsFrom ((m + 1 : Nat) : Int) D'' (s.parts.drop (m + 1))) = defsS s) := Lib.hid (by rw [← List.drop_eq_getElem_cons hjt]; exact HG.out)
                  clear HG
                  generalize l[j] = x at *
                  have i2 : (0 : Int) ≤ (j : Int) := Int.natCast_nonneg _
                  have i3 : (j : Int) < (l.length : Int) := by omega
                  by_cases hx0 : x < 0
                  · have HN : Hid (defsS s = none) := Lib.hid (by rw [← HGd.out, defStep, if_pos (.inl hx0)]; rfl)
                    go_wp2
                    go_ret2
                    exact ⟨_, by rw [HN.out]; rfl, by rw [HN.out]; exact Ow.nil _ _ _ _ _, HB⟩
                  by_cases hx1 : (D.length : Int) ≤ x
                  · have HN : Hid (defsS s = none) := Lib.hid (by rw [← HGd.out, defStep, if_pos (.inr (.inl (by rw [hEl.out]; omega)))]; rfl)
                    go_wp2
                    go_ret2
                    exact ⟨_, by rw [HN.out]; rfl, by rw [HN.out]; exact Ow.nil _ _ _ _ _, HB⟩
                  obtain ⟨n, rfl⟩ := Int.eq_ofNat_of_zero_le (by omega : 0 ≤ x)
                  have hnl : n < E.length := by rw [hEl.out]; omega
                  obtain ⟨g, rfl⟩ : ∃ g, Av = some ⟨g, 0, none⟩ := by
                    obtain ⟨g, c', cs, he, _⟩ := HO.at_ (List.getElem?_eq_getElem hnl)
                    injection he with he _ _
                    exact ⟨g, he⟩
                  obtain ⟨cE, fE⟩ := HO.int_at hnl
                  have HSt := HO.set1 rfl (i := n) hnl (y := (m : Int)) (u := .int .i64 m) rfl
                  have HEq : Hid (¬ (0 ≤ E[n]) → (defStep m E ((n : Int) :: l.drop (j + 1))) = defStep m (E.set n m) (l.drop (j + 1))) := Lib.hid (fun h => by
                    rw [defStep, if_neg]
                    · rfl
                    · rw [Int.toNat_natCast, getElem!_pos E n hnl]; omega)
                  have HEn : Hid (0 ≤ E[n] → defsS s = none) := Lib.hid (fun h => by
                    rw [← HGd.out, defStep, if_pos]
                    · rfl
                    · rw [Int.toNat_natCast, getElem!_pos E n hnl]; exact .inr (.inr h))
                  have i4 : (n : Int) < (D.length : Int) := by omega
                  have i5 : (0 : Int) ≤ (n : Int) := Int.natCast_nonneg _
                  have hne : g ≠ w.heap.size := by have := own_in HO (k := g) (.inr rfl); omega
                  have hg2 := own_in HO (k := g) (.inr rfl)
                  by_cases hx2 : 0 ≤ E[n]
                  · have HN := Lib.hid (HEn.out hx2)
                    clear HEn HEq HSt
                    generalize E[n] = y at *
                    go_wp2
                    go_ret2
                    exact ⟨_, by rw [HN.out]; rfl, by rw [HN.out]; exact Ow.nil _ _ _ _ _, HB⟩
                  · have HN := Lib.hid (HEq.out hx2)
                    clear HEn HEq
                    generalize E[n] = y at *
                    go_wp2
                    go_roundw
                    case rel => exact ⟨j + 1, E.set n m, by omega, by go_num, Lib.hid (by rw [List.length_set]; exact hEl.out), HSt, HOl.set_other (by omega), HB.setCell (by simp; omega) _, blk_set b1 (by simp; omega) _, by simpa using hz, Lib.hid (by rw [← HGd.out, HN.out])⟩
                    case measure => simp [intOf]; omega
                · obtain rfl : j = l.length := by omega
                  have HN : Hid (defsFrom ((m + 1 : Nat) : Int) E (s.parts.drop (m + 1)) = defsS s) := Lib.hid (by rw [← HG.out, List.drop_length]; rfl)
                  clear HG
                  go_wp2
                  go_roundw
                  case rel => exact ⟨m + 1, E, by omega, by go_num, hEl, HO.mono (fun q hq => hq.1), HB, b1, hz, HN⟩
                  case measure => simp [intOf]; omega
        · obtain rfl : m = s.parts.length := by omega
          have HN : Hid (defsS s = some D') := Lib.hid (by rw [← HT.out, List.drop_length]; rfl)
          clear HT hrow
          have hDl : D.length = D'.length := hdl'.out.symm
          rw [hDl] at HO
          have HE : Ow true 3 Rp.int wo (fun q => w.heap.size ≤ q) (.slice Av D'.length kv) ((some D').getD []) := HO.mono (fun q hq => by omega)
          go_wp2
          go_ret2
          exact ⟨_, by rw [HN.out]; rfl, by rw [HN.out, hDl]; exact HE, HB⟩
end Go.Proofs.YtnfaibenekninaaGreat.L

set_option linter.unusedVariables false
set_option linter.unusedSimpArgs false
namespace Go.Proofs.YtnfaibenekninaaGreat.L
open Go.RowKit
def ThereP (next : List (List Int)) (defs far : List Int) (part v : Int) : Prop :=
  0 ≤ v ∧ v < defs.length ∧ (v < 12 ∨ v ∈ far ∨ (0 ≤ defs[v.toNat]! ∧ defs[v.toNat]! ≠ part ∧ Dom next part defs[v.toNat]!))
theorem thereB_iff {next : List (List Int)} {defs dom far : List Int} {part v : Int} (h : ∀ x, x ∈ dom ↔ Dom next part x) : thereB defs dom far part v = true ↔ ThereP next defs far part v := by
  unfold thereB ThereP
  simp only [Bool.and_eq_true, decide_eq_true_eq, Bool.or_eq_true, List.contains_iff_mem, bne_iff_ne, h, and_assoc, or_assoc, ne_eq]
theorem thereS_iff {next : List (List Int)} {l defs dom far : List Int} {part : Int} (h : ∀ x, x ∈ dom ↔ Dom next part x) : thereS l defs dom far part = true ↔ ∀ v ∈ l, ThereP next defs far part v := by
  unfold thereS
  rw [List.all_eq_true]
  exact forall_congr' fun v => forall_congr' fun _ => thereB_iff h
/-- What a part uses is there. -/
structure UsesP (next : List (List Int)) (defs : List Int) (k : Int) (p : Pt) : Prop where
  rch : Rch next (fun x => x ≠ -1) 0 k
  code : ∀ (i : Nat) (x : Fl), p.code[i]? = some x → ∀ v ∈ usesS x, ThereP next defs (p.params ++ dstsS (p.code.take i)) k v
  ends : ∀ v ∈ endsS p, ThereP next defs (ownS p) k v
structure GoodP (s : Sa) : Prop where
  n1 : 1 ≤ s.parts.length
  n2 : s.parts.length ≤ 11
  v1 : 12 ≤ s.values
  v2 : s.values ≤ 250
  nx : ∀ p ∈ s.parts, ∀ k ∈ p.next, 0 < k ∧ k < s.parts.length
  pt : ∀ p ∈ s.parts, partS s p = true
  defs : (defsS s).isSome = true
  par : ∀ p, s.parts[0]? = some p → p.params = []
  us : ∀ (k : Nat) (p : Pt), s.parts[k]? = some p → UsesP (graphS s.parts) ((defsS s).getD []) k p
theorem Dom.self {next : List (List Int)} {k : Int} : (∃ x, Dom next k x) ↔ Rch next (fun x => x ≠ -1) 0 k :=
  ⟨fun ⟨x, h⟩ => h.1, fun h => ⟨k, h, h, fun hk => hk.ok_of rfl⟩⟩
theorem nxS_mem {l : List Int} {x : Int} : x ∈ nxS l ↔ x ∈ l := by
  have h : ∀ (l m : List Int), x ∈ l.foldl putL m ↔ x ∈ l ∨ x ∈ m := by
    intro l
    induction l with
    | nil => intro m; simp
    | cons y t ih =>
      intro m
      rw [List.foldl_cons, ih, mem_putL, List.mem_cons]
      constructor
      · rintro (h | h | h); exact .inl (.inr h); exact .inl (.inl h); exact .inr h
      · rintro ((h | h) | h); exact .inr (.inl h); exact .inl h; exact .inr (.inr h)
  unfold nxS
  rw [h]; simp
theorem graphS_inR {s : Sa} (h : ∀ p ∈ s.parts, ∀ k ∈ p.next, 0 < k ∧ k < s.parts.length) : InR (graphS s.parts) := by
  intro l hl x hx
  unfold graphS at hl ⊢
  rw [List.length_map]
  obtain ⟨p, hp, rfl⟩ := List.mem_map.1 hl
  have := h p hp x (nxS_mem.1 hx)
  omega
theorem graphS_len (l : List Pt) : (graphS l).length = l.length := by unfold graphS; rw [List.length_map]
end Go.Proofs.YtnfaibenekninaaGreat.L

set_option linter.unusedVariables false
set_option linter.unusedSimpArgs false
namespace Go.Proofs.YtnfaibenekninaaGreat.L
open Go.RowKit
theorem notGood {s : Sa} (h : ¬ GoodP s) : Hid (false = true ↔ GoodP s) := Lib.hid ⟨fun h' => Bool.noConfusion h', fun h' => absurd h' h⟩
/-- A Bool that says whether an ssa is good. -/
inductive GoodRes (s : Sa) (w : World) (e : Ending) (w' : World) : Prop where
  | mk (b : Bool) (he : e = .returned (.bool b)) (hg : Hid (b = true ↔ GoodP s)) (hb : Below w.heap.size w w') : GoodRes s w e w'
theorem below_of {w w1 : World} (h : Below w.drew.heap.size w.drew w1) : Below w.heap.size w w1 := below_then (below_drew (Below.refl _ _)) h
theorem forall_take_succ {α : Type} {P : α → Prop} {l : List α} {k : Nat} (hk : k < l.length) (h : ∀ x ∈ l.take k, P x) (hp : P l[k]) : ∀ x ∈ l.take (k + 1), P x := by
  intro x hx
  rw [List.take_succ_eq_append_getElem hk] at hx
  rcases List.mem_append.1 hx with hx | hx
  · exact h x hx
  · rw [List.mem_singleton.1 hx]; exact hp
set_option maxRecDepth 100000 in
set_option maxHeartbeats 1500000 in
theorem goodS_calls {F : Nat → Prop} (s : Sa) (vparts : Value) (w : World) (hs : Rp.Rd part w F vparts s.parts) (hx1 : s.parts.length ≤ 1048576) (hx2 : ∀ p ∈ s.parts, PtLim p) :
    Calls Tryz.prog 22 #[saV s vparts] w (GoodRes s w) := by
  replace hs := hs.bound
  have HS := hs
  obtain ⟨A, c, rfl, hlc, hcm, hrow⟩ := rd_part hs
  unfold saV
  have HR1 : Hid (inB s.parts.length 1 11 = true ↔ 1 ≤ s.parts.length ∧ s.parts.length ≤ 11) := Lib.hid (by unfold inB; simp; omega)
  have HR2 : Hid (inB s.values 12 250 = true ↔ 12 ≤ s.values ∧ s.values ≤ 250) := Lib.hid (by unfold inB; simp)
  have HC1 := fun W => l1In_calls s.parts.length 1 11 W
  have HC2 := fun W => l1In_calls s.values 12 250 W
  generalize inB s.parts.length 1 11 = r1 at *
  generalize inB s.values 12 250 = r2 at *
  have hB0 : Below w.heap.size w (w.alloc (.cells #[.slice A s.parts.length c, .int .i64 s.values] 28)) := below_new _
  have b0 := heap_alloc_new w (.cells #[.slice A s.parts.length c, .int .i64 s.values] 28)
  cases r1
  · have HN := notGood (s := s) (fun h => by cases HR1.out.2 ⟨h.n1, h.n2⟩)
    replace HC1 := Lib.hid HC1
    go_enter Tryz.func22, Tryz.ntmps22
    go_wp2_with (go_at_call 47; refine (HC1.out _).mono ?_; rintro e w' ⟨rfl, rfl⟩)
    go_ret
    exact ⟨_, rfl, HN, hB0⟩
  cases r2
  · have HN := notGood (s := s) (fun h => by cases HR2.out.2 ⟨h.v1, h.v2⟩)
    replace HC1 := Lib.hid HC1
    replace HC2 := Lib.hid HC2
    go_enter Tryz.func22, Tryz.ntmps22
    have tok1 : True := trivial
    go_wp2_with (first | (go_at_call 47; have _t := tok1; refine (HC1.out _).mono ?_; rintro e w' ⟨rfl, rfl⟩; clear tok1) | (go_at_call 47; refine (HC2.out _).mono ?_; rintro e w' ⟨rfl, rfl⟩))
    go_ret
    exact ⟨_, rfl, HN, hB0⟩
  obtain ⟨hn1, hn2⟩ := HR1.out.1 rfl
  obtain ⟨hv1, hv2⟩ := HR2.out.1 rfl
  clear HR1 HR2
  replace HC1 := Lib.hid HC1
  replace HC2 := Lib.hid HC2
  go_enter Tryz.func22, Tryz.ntmps22
  have tok1 : True := trivial
  go_wp2_with (first | (go_at_call 47; have _t := tok1; refine (HC1.out _).mono ?_; rintro e w' ⟨rfl, rfl⟩; clear tok1) | (go_at_call 47; refine (HC2.out _).mono ?_; rintro e w' ⟨rfl, rfl⟩))
  clear HC1 HC2
  generalize w.alloc (.cells #[.slice A s.parts.length c, .int .i64 s.values] 28) = W0 at *
  go_loopw [32] (fun i wr => ∃ m : Nat, m ≤ s.parts.length ∧ i = .int .i64 m ∧ Below w.heap.size w wr ∧ wr.heap[w.heap.size]? = some (.cells #[.slice A s.parts.length c, .int .i64 s.values] 28 (0, 0)) ∧ Hid (∀ p ∈ s.parts.take m, ∀ k ∈ p.next, 0 < k ∧ k < s.parts.length)) (fun i _ => s.parts.length - (intOf i).toNat)
  case atStart => exact ⟨0, Nat.zero_le _, rfl, hB0, b0, Lib.hid (fun p hp => by simp at hp)⟩
  case round =>
    clear hB0 b0
    obtain ⟨m, hm, rfl, HB, b1, HI⟩ := hrel
    rename World => wo
    by_cases hlt : m < s.parts.length
    · rcases hrow with hnil | ⟨b, o, rfl, hb, hcell⟩
      · rw [hnil] at hlt; simp at hlt
      obtain ⟨_, _, _, _, hp, ⟨A1, c1, rfl, _⟩, ⟨A2, c2, rfl, _⟩, hxn, ⟨A4, c4, rfl, _⟩⟩ := hcell m hlt
      obtain ⟨q0, q1, q2, q3, q4, q5⟩ := partAt_below hp HB
      have hxn := hxn.below HB
      have HS1 := Lib.hid (fun h => forall_take_succ (P := fun p : Pt => ∀ k ∈ p.next, 0 < k ∧ k < s.parts.length) hlt HI.out h)
      have HBad : Hid (¬ (∀ k ∈ s.parts[m].next, 0 < k ∧ k < s.parts.length) → ¬ GoodP s) := Lib.hid (fun h h' => h (h'.nx _ (List.getElem_mem hlt)))
      clear hcell hp
      generalize s.parts[m] = p at *
      obtain ⟨A3, c3, rfl, _, _, hrn⟩ := rd_int hxn
      have i0 : (0 : Int) ≤ (m : Int) := Int.natCast_nonneg _
      have i1 : (m : Int) < (s.parts.length : Int) := by omega
      have hB1 := HB.alloc HB.size (.cells #[.slice A1 p.params.length c1, .slice A2 p.code.length c2, .int .i64 p.go, .int .i64 p.test, .slice A3 p.next.length c3, .slice A4 p.args.length c4] 67)
      have b2 := blk_alloc b1 (.cells #[.slice A1 p.params.length c1, .slice A2 p.code.length c2, .int .i64 p.go, .int .i64 p.test, .slice A3 p.next.length c3, .slice A4 p.args.length c4] 67)
      have hxn1 := hxn.below (below_new (.cells #[.slice A1 p.params.length c1, .slice A2 p.code.length c2, .int .i64 p.go, .int .i64 p.test, .slice A3 p.next.length c3, .slice A4 p.args.length c4] 67))
      go_wp2
      generalize wo.alloc (.cells #[.slice A1 p.params.length c1, .slice A2 p.code.length c2, .int .i64 p.go, .int .i64 p.test, .slice A3 p.next.length c3, .slice A4 p.args.length c4] 67) = W1 at *
      clear q0 q1 q2 q3 q4 q5 HB b1 hxn hrn
      obtain ⟨x1, f1⟩ := cell_of_block b2
      have x10 := x1 0
      simp at x10
      obtain ⟨_, _, hAe, _, _, hrn⟩ := rd_int hxn1
      cases hAe
      go_loopw [39] (fun i wr => ∃ j : Nat, j ≤ p.next.length ∧ i = .int .i64 j ∧ wr = W1 ∧ Hid (∀ k ∈ p.next.take j, 0 < k ∧ k < s.parts.length)) (fun i _ => p.next.length - (intOf i).toNat)
      case atStart => exact ⟨0, Nat.zero_le _, rfl, rfl, Lib.hid (fun p hp => by simp at hp)⟩
      case round =>
        obtain ⟨j, hj, rfl, rfl, HJ⟩ := hrel
        by_cases hjt : j < p.next.length
        · rcases hrn with hnil | ⟨b3, o3, rfl, hb3, hc3⟩
          · rw [hnil] at hjt; simp at hjt
          have q3 := hc3 j hjt
          have HS2 := Lib.hid (fun h => forall_take_succ (P := fun k : Int => 0 < k ∧ k < s.parts.length) hjt HJ.out h)
          have HB2 : Hid (¬ (0 < p.next[j] ∧ p.next[j] < s.parts.length) → ¬ GoodP s) := Lib.hid (fun h => HBad.out (fun h' => h (h' _ (List.getElem_mem hjt))))
          clear hc3
          generalize p.next[j] = x at *
          by_cases h1 : x ≤ 0
          · have HN := notGood (HB2.out (fun h => by omega))
            go_wp2
            go_ret
            exact ⟨_, rfl, HN, hB1⟩
          by_cases h2 : (s.parts.length : Int) ≤ x
          · have HN := notGood (HB2.out (fun h => by omega))
            go_wp2
            go_ret
            exact ⟨_, rfl, HN, hB1⟩
          have HN := Lib.hid (HS2.out ⟨by omega, by omega⟩)
          go_wp2
          go_roundw
          case rel => exact ⟨j + 1, by omega, by go_num, by first | rfl | trivial, HN⟩
          case measure => simp [intOf]; omega
        · obtain rfl : j = p.next.length := by omega
          have HN := Lib.hid (HS1.out (by have := HJ.out; rwa [List.take_length] at this))
          go_wp2
          go_roundw
          case rel => exact ⟨m + 1, by omega, by go_num, hB1, b2, HN⟩
          case measure => simp [intOf]; omega
    · obtain rfl : m = s.parts.length := by omega
      have HNX : Hid (∀ p ∈ s.parts, ∀ k ∈ p.next, 0 < k ∧ k < s.parts.length) := Lib.hid (by have := HI.out; rwa [List.take_length] at this)
      clear HI hlt hm
      obtain ⟨x1, f1⟩ := cell_of_block b1
      have x10 := x1 0
      simp at x10
      go_wp2
      go_loopw [57] (fun i wr => ∃ m : Nat, m ≤ s.parts.length ∧ i = .int .i64 m ∧ Below w.heap.size w wr ∧ wr.heap[w.heap.size]? = some (.cells #[.slice A s.parts.length c, .int .i64 s.values] 28 (0, 0)) ∧ Hid (∀ p ∈ s.parts.take m, partS s p = true)) (fun i _ => s.parts.length - (intOf i).toNat)
      case atStart => exact ⟨0, Nat.zero_le _, rfl, HB, b1, Lib.hid (fun p hp => by simp at hp)⟩
      case round =>
        clear HB b1 x1 f1 x10
        obtain ⟨m, hm, rfl, HB, b1, HI⟩ := hrel
        rename World => wo
        obtain ⟨x1, f1⟩ := cell_of_block b1
        have x10 := x1 0
        have x11 := x1 1
        simp at x10 x11
        by_cases hlt : m < s.parts.length
        · rcases hrow with hnil | ⟨b, o, rfl, hb, hcell⟩
          · rw [hnil] at hlt; simp at hlt
          obtain ⟨_, _, _, _, hp, ⟨A1, c1, rfl, h1⟩, ⟨A2, c2, rfl, h2⟩, ⟨A3, c3, rfl, h3⟩, ⟨A4, c4, rfl, h4⟩⟩ := hcell m hlt
          obtain ⟨q0, q1, q2, q3, q4, q5⟩ := partAt_below hp HB
          have HC := fun W (hb : Below w.heap.size w W) => l9Part_calls s s.parts[m] _ _ _ _ _ W (HS.below hb) (Rp.Rd.below ⟨A1, c1, rfl, h1⟩ hb) (Rp.Rd.below ⟨A2, c2, rfl, h2⟩ hb) (Rp.Rd.below ⟨A3, c3, rfl, h3⟩ hb) (Rp.Rd.below ⟨A4, c4, rfl, h4⟩ hb) (fun k hk => by have := HNX.out _ (List.getElem_mem hlt) k hk; omega) hv1 hv2
          have HS1 := Lib.hid (fun h => forall_take_succ (P := fun p : Pt => partS s p = true) hlt HI.out h)
          have HBad : Hid (partS s s.parts[m] = false → ¬ GoodP s) := Lib.hid (fun h h' => by have := h'.pt _ (List.getElem_mem hlt); rw [h] at this; cases this)
          clear hcell hp h1 h2 h3 h4
          unfold saV ptV at HC
          generalize partS s s.parts[m] = r at *
          generalize s.parts[m] = p at *
          have i0 : (0 : Int) ≤ (m : Int) := Int.natCast_nonneg _
          have i1 : (m : Int) < (s.parts.length : Int) := by omega
          have hB1 := HB.alloc HB.size (.cells #[.slice A1 p.params.length c1, .slice A2 p.code.length c2, .int .i64 p.go, .int .i64 p.test, .slice A3 p.next.length c3, .slice A4 p.args.length c4] 67)
          have b2 := blk_alloc b1 (.cells #[.slice A1 p.params.length c1, .slice A2 p.code.length c2, .int .i64 p.go, .int .i64 p.test, .slice A3 p.next.length c3, .slice A4 p.args.length c4] 67)
          replace HC := Lib.hid (HC _ hB1)
          obtain ⟨x2, f2⟩ := cell_of_block b2
          have x20 := x2 0
          have x21 := x2 1
          simp at x20 x21
          go_wp2_with fail
          refine HC.out.mono ?_
          rintro e w2 ⟨rfl, hb2⟩
          have hB2 := below_then hB1 hb2
          have b3 := blk_below b2 hb2
          clear HC hb2 hB1 b2 b1 HB x2 f2 x20 x21
          cases r
          · have HN := notGood (HBad.out rfl)
            go_wp2
            go_ret
            exact ⟨_, rfl, HN, hB2⟩
          · have HN := Lib.hid (HS1.out rfl)
            go_wp2
            go_roundw
            case rel => exact ⟨m + 1, by omega, by go_num, hB2, b3, HN⟩
            case measure => simp [intOf]; omega
        · obtain rfl : m = s.parts.length := by omega
          have HPT : Hid (∀ p ∈ s.parts, partS s p = true) := Lib.hid (by have := HI.out; rwa [List.take_length] at this)
          clear HI hlt hm
          have HC := l9Defs_calls s _ wo (HS.below HB) hx1 hx2 hv1 hv2
          unfold saV at HC
          replace HC := Lib.hid HC
          go_wp2_with fail
          refine HC.out.mono ?_
          rintro e w3 ⟨vd, rfl, HOD, hb3⟩
          clear HC
          have hB3 := below_then HB hb3
          have b3 := blk_below b1 hb3
          replace HOD := HOD.rd.mono (G := fun _ => True) (fun _ _ => trivial)
          clear HB b1 hb3 x1 f1 x10 x11
          obtain ⟨x1, f1⟩ := cell_of_block b3
          have x10 := x1 0
          have x11 := x1 1
          simp at x10 x11
          have HDf : Hid ((defsS s).isSome = true → GoodP s → True) := Lib.hid (fun _ _ => trivial)
          have HBd : Hid ((defsS s).isSome = false → ¬ GoodP s) := Lib.hid (fun h h' => by have := h'.defs; rw [h] at this; cases this)
          obtain ⟨dD, hdD⟩ : ∃ d, d = (defsS s).getD [] := ⟨_, rfl⟩
          obtain ⟨dB, hdB⟩ : ∃ d, d = (defsS s).isSome := ⟨_, rfl⟩
          rw [← hdB] at HBd ⊢
          rw [← hdD] at HOD
          replace hdB := Lib.hid hdB
          replace hdD := Lib.hid hdD
          have ⟨Ad, cd, hvd, _⟩ := HOD
          subst hvd
          have hn0 : 0 < s.parts.length := by omega
          rcases hrow with hnil | ⟨b, o, rfl, hb, hcell⟩
          · rw [hnil] at hn0; simp at hn0
          obtain ⟨_, _, _, _, hp0, ⟨A1, c1, rfl, _⟩, -, -, -⟩ := hcell 0 hn0
          have q0 := (partAt_below hp0 hB3).1
          rw [Nat.zero_mul, Nat.add_zero] at q0
          have HP0 : Hid (s.parts[0].params.length ≠ 0 → ¬ GoodP s) := Lib.hid (fun h h' => h (by rw [h'.par _ (List.getElem?_eq_getElem hn0)]; rfl))
          have HP1 : Hid (s.parts[0].params.length = 0 → ∀ p, s.parts[0]? = some p → p.params = []) := Lib.hid (fun h p hp => by rw [List.getElem?_eq_getElem hn0] at hp; cases hp; exact List.eq_nil_of_length_eq_zero h)
          have HLS := Lib.hid hcell
          clear hcell hp0
          generalize s.parts[0].params.length = n0 at *
          cases dB
          · have HN := notGood (HBd.out rfl)
            go_wp2
            go_ret
            exact ⟨_, rfl, HN, hB3⟩
          have i0 : (0 : Int) < (s.parts.length : Int) := by omega
          by_cases hn00 : n0 = 0
          rotate_left
          · have HN := notGood (HP0.out hn00)
            have ht : (0 : Int) < (n0 : Int) := by omega
            clear hn00
            go_wp2
            go_ret
            exact ⟨_, rfl, HN, hB3⟩
          have HPAR := Lib.hid (HP1.out hn00)
          have ht : ¬ ((0 : Int) < (n0 : Int)) := by omega
          clear hn00 HP0 HP1 HBd HDf
          go_wp2_with fail
          have hg := l9Graph_calls s _ w3 (HS.below hB3) hx1 (fun p hp => (hx2 p hp).2.2.1)
          refine hg.mono ?_
          clear hg
          rintro e w4 ⟨vg, rfl, HOG, hb4⟩
          have hB4 := below_then hB3 hb4
          have b4 := blk_below b3 hb4
          replace HOD := HOD.below hb4
          clear hB3 b3 x1 f1 x10 x11 hb4 q0
          have hB5 := hB4.alloc hB4.size (.cells #[vg] 92)
          have b5 := blk_alloc b4 (.cells #[vg] 92)
          replace HOD := HOD.below (below_new (.cells #[vg] 92))
          have HOG5 := HOG.rd.below (below_new (.cells #[vg] 92))
          have hgl := graphS_len s.parts
          have hgl0 : 0 < (graphS s.parts).length := by omega
          have hgl1 : (graphS s.parts).length ≤ 1048576 := by omega
          replace hgl := Lib.hid hgl
          have ⟨Ag, cg, hvg, _⟩ := HOG5
          subst hvg
          go_wp2_with fail
          have hd := l7Dominators_calls (graphS s.parts) _ _ HOG5 hgl0 hgl1 (graphS_inR HNX.out)
          refine hd.mono ?_
          clear hd HOG HOG5
          rintro e w6 ⟨vD, D, rfl, HOM, hb6, HQ⟩
          have hB6 := below_then hB5 hb6
          have b6 := blk_below b5 hb6
          replace HOD := HOD.below hb6
          have HOM := HOM.rd.mono (G := fun _ => True) (fun _ _ => trivial)
          have hDl : D.length = s.parts.length := by rw [HQ.out.1, hgl.out]
          replace hDl := Lib.hid hDl
          clear hB4 b4 hB5 b5 hb6 hgl hgl0 hgl1
          obtain ⟨Am, cm, rfl, _, _, hrm⟩ := rd_ints HOM
          obtain ⟨x1, f1⟩ := cell_of_block b6
          have x10 := x1 0
          simp at x10
          go_wp2
          go_loopw [89] (fun i wr => ∃ m : Nat, m ≤ s.parts.length ∧ i = .int .i64 m ∧ Below w6.heap.size w6 wr ∧ Hid (∀ (k : Nat) (p : Pt), k < m → s.parts[k]? = some p → UsesP (graphS s.parts) dD k p)) (fun i _ => s.parts.length - (intOf i).toNat)
          case atStart => exact ⟨0, Nat.zero_le _, rfl, Below.refl _ _, Lib.hid (fun k p h => by omega)⟩
          case round =>
            obtain ⟨m, hm, rfl, HB, HI⟩ := hrel
            rename World => wo
            have hBw := below_then hB6 HB
            have b7 := blk_below b6 HB
            clear x1 f1 x10
            obtain ⟨x1, f1⟩ := cell_of_block b7
            have x10 := x1 0
            simp at x10
            by_cases hlt : m < s.parts.length
            · obtain ⟨_, _, _, _, hp, ⟨A1, c1, rfl, h1⟩, ⟨A2, c2, rfl, h2⟩, ⟨A3, c3, rfl, h3⟩, ⟨A4, c4, rfl, h4⟩⟩ := HLS.out m hlt
              have hpl := hx2 _ (List.getElem_mem hlt)
              have hk1 : Rp.Rd Rp.int wo (fun q => F q ∧ q < w.heap.size) _ s.parts[m].params := Rp.Rd.below ⟨A1, c1, rfl, h1⟩ hBw
              have hk2 : Rp.Rd flat wo (fun q => F q ∧ q < w.heap.size) _ s.parts[m].code := Rp.Rd.below ⟨A2, c2, rfl, h2⟩ hBw
              have hk3 : Rp.Rd Rp.int wo (fun q => F q ∧ q < w.heap.size) _ s.parts[m].next := Rp.Rd.below ⟨A3, c3, rfl, h3⟩ hBw
              have hk4 : Rp.Rd (Rp.sl Rp.int) wo (fun q => F q ∧ q < w.heap.size) _ s.parts[m].args := Rp.Rd.below ⟨A4, c4, rfl, h4⟩ hBw
              obtain ⟨q0, q1, q2, q3, q4, q5⟩ := partAt_below hp hBw
              have hDm : m < D.length := by rw [hDl.out]; exact hlt
              rcases hrm with hnil | ⟨bm, om, rfl, hbm, hcm⟩
              · rw [hnil] at hDm; simp at hDm
              obtain ⟨u, cu, hu⟩ := hcm m hDm
              replace cu := cell_below HB cu
              replace hu := hu.below HB
              have HDm := Lib.hid (HQ.out.2 m hDm)
              have HBad : Hid (¬ UsesP (graphS s.parts) dD m s.parts[m] → ¬ GoodP s) := Lib.hid (fun h h' => h (by rw [hdD.out]; exact h'.us _ _ (List.getElem?_eq_getElem hlt)))
              have HOK : Hid (UsesP (graphS s.parts) dD m s.parts[m] → ∀ (k : Nat) (p : Pt), k < m + 1 → s.parts[k]? = some p → UsesP (graphS s.parts) dD k p) := Lib.hid (fun h k' p' hk' hp' => by
                rcases Nat.lt_or_eq_of_le (Nat.le_of_lt_succ hk') with hk' | hk'
                · exact HI.out k' p' hk' hp'
                · rw [hk', List.getElem?_eq_getElem hlt] at hp'; cases hp'; rw [hk']; exact h)
              clear hp h1 h2 h3 h4 hcm HI
              generalize s.parts[m] = p at *
              generalize D[m] = dm at *
              have i0 : (0 : Int) ≤ (m : Int) := Int.natCast_nonneg _
              have i1 : (m : Int) < (s.parts.length : Int) := by omega
              have i2 : (m : Int) < (D.length : Int) := by rw [hDl.out]; omega
              have ⟨Au, ku, huv, _⟩ := hu
              subst huv
              have cu1 := cell_below (below_new (.cells #[.slice A1 p.params.length c1, .slice A2 p.code.length c2, .int .i64 p.go, .int .i64 p.test, .slice A3 p.next.length c3, .slice A4 p.args.length c4] 67)) cu
              by_cases hd0 : dm.length = 0
              · have ht : ((dm.length : Int) == 0) = true := by rw [beq_iff_eq]; omega
                have HN := notGood (HBad.out (fun h => by
                  have := (HDm.out m).2 ⟨h.rch, h.rch, fun hk => hk.ok_of rfl⟩
                  rw [List.eq_nil_of_length_eq_zero hd0] at this
                  cases this))
                have hB8 := hBw.alloc hBw.size (.cells #[.slice A1 p.params.length c1, .slice A2 p.code.length c2, .int .i64 p.go, .int .i64 p.test, .slice A3 p.next.length c3, .slice A4 p.args.length c4] 67)
                clear hd0
                go_wp2
                go_ret
                exact ⟨_, rfl, HN, hB8⟩
              have HRch : Hid (Rch (graphS s.parts) (fun x => x ≠ -1) 0 m) := Lib.hid (by
                cases hdm : dm with
                | nil => rw [hdm] at hd0; simp at hd0
                | cons y t => exact ((HDm.out y).1 (by rw [hdm]; simp)).1)
              have ht : ((dm.length : Int) == 0) = false := by rw [beq_eq_false_iff_ne]; omega
              clear hd0
              obtain ⟨W2, hW2⟩ : ∃ W2, W2 = (wo.alloc (.cells #[.slice A1 p.params.length c1, .slice A2 p.code.length c2, .int .i64 p.go, .int .i64 p.test, .slice A3 p.next.length c3, .slice A4 p.args.length c4] 67)).alloc (Obj.cells #[] 3) := ⟨_, rfl⟩
              have hb2 : Below wo.heap.size wo W2 := by rw [hW2]; exact (below_new _).alloc (by simp) _
              have p2 : W2.heap[wo.heap.size]? = some (.cells #[.slice A1 p.params.length c1, .slice A2 p.code.length c2, .int .i64 p.go, .int .i64 p.test, .slice A3 p.next.length c3, .slice A4 p.args.length c4] 67 (0, 0)) := by rw [hW2]; exact heap_alloc2_old wo _ _
              have e2 : W2.heap[wo.heap.size + 1]? = some (.cells #[] 3 (0, 0)) := by rw [hW2]; exact heap_alloc2_new wo _ _
              have HE := (ow_empty (ap := true) (r := Rp.int) e2).mono (G := fun q => wo.heap.size + 1 ≤ q) (fun q hq => by omega)
              have hx1' := hk1.below hb2
              have HW2 := Lib.hid hW2
              clear hW2 e2
              have HLE := dstsS_len p.code
              have hz2 := blk_lt p2
              obtain ⟨hpl1, hpl2, -, -, -⟩ := id hpl
              go_wp2_with (at_builtin; (rw [← HW2.out]; refine app_ints (by rfl) _ _ (by rfl) (.slice (some ⟨wo.heap.size + 1, 0, none⟩) 0 0) (.slice A1 p.params.length c1) [] p.params (by rfl) (by rfl) HE hx1' (by simp; omega) ?_; intro Af cf w1 HO3 hg1; have p3 := grown_blk hg1 p2 (own_ne HE (fun h => by omega)); have hb3 := below_grown hb2 hg1 (fun q hq => by have := own_in HE (.inr hq); omega) hb2.size; have hz3 := blk_lt p3; obtain ⟨x3, f3⟩ := cell_of_block p3; have x31 := x3 1; simp at x31))
              have HL3 : Ow true 3 Rp.int w1 (fun q => wo.heap.size + 1 ≤ q) (.slice Af p.params.length cf) (p.params ++ dstsS (p.code.take 0)) := by
                have := HO3.mono (G := fun q => wo.heap.size + 1 ≤ q) (fun q hq => by rcases hq with hq | hq; exact hq; omega)
                simpa [dstsS] using this
              clear HO3 x3 f3 x31 p2 HE hx1' HW2
              go_loopw [15, 107] (fun fv i wr => ∃ j : Nat, j ≤ p.code.length ∧ i = .int .i64 j ∧ Ow true 3 Rp.int wr (fun q => wo.heap.size + 1 ≤ q) fv (p.params ++ dstsS (p.code.take j)) ∧ Below wo.heap.size wo wr ∧ wr.heap[wo.heap.size]? = some (.cells #[.slice A1 p.params.length c1, .slice A2 p.code.length c2, .int .i64 p.go, .int .i64 p.test, .slice A3 p.next.length c3, .slice A4 p.args.length c4] 67 (0, 0)) ∧ Hid (∀ (i : Nat) (x : Fl), i < j → p.code[i]? = some x → ∀ v ∈ usesS x, ThereP (graphS s.parts) dD (p.params ++ dstsS (p.code.take i)) m v)) (fun _ i _ => p.code.length - (intOf i).toNat)
              case atStart => exact ⟨0, Nat.zero_le _, rfl, HL3, hb3, p3, Lib.hid (fun i x h => by omega)⟩
              case round =>
                clear HL3 hb3 p3 hz3 hz2 hb2 cu1
                obtain ⟨j, hj, rfl, HOl, hbw, p3, HJ⟩ := hrel
                rename World => wi
                have hz3 := blk_lt p3
                have hBi := below_then hBw hbw
                have cu := cell_below hbw cu
                obtain ⟨x3, f3⟩ := cell_of_block p3
                have HLT := dstsS_len (p.code.take j)
                rw [List.length_take] at HLT
                have hln : (p.params ++ dstsS (p.code.take j)).length ≤ 2097152 := by rw [List.length_append]; omega
                by_cases hjt : j < p.code.length
                · obtain ⟨_, _, hAe, _, _, hAr⟩ := rd_flat (hk2.below hbw)
                  cases hAe
                  rcases hAr with hAr | ⟨b2, o2, rfl, hbb2, hc2⟩
                  · rw [hAr] at hjt; simp at hjt
                  have q := hc2 j hjt
                  clear hc2
                  obtain ⟨r0, r1, r2, r3, r4, r5⟩ := q
                  have HNX2 : Hid ((setsS p.code[j] = true → p.params ++ dstsS (p.code.take (j + 1)) = (p.params ++ dstsS (p.code.take j)) ++ [p.code[j].dst]) ∧ (setsS p.code[j] = false → p.params ++ dstsS (p.code.take (j + 1)) = p.params ++ dstsS (p.code.take j))) := Lib.hid (by
                    rw [dstsS_take hjt]
                    constructor
                    · intro h; rw [if_pos h, List.append_assoc]
                    · intro h; rw [if_neg (by rw [h]; decide)])
                  have HJ2 : Hid ((∀ v ∈ usesS p.code[j], ThereP (graphS s.parts) dD (p.params ++ dstsS (p.code.take j)) m v) → ∀ (i : Nat) (x : Fl), i < j + 1 → p.code[i]? = some x → ∀ v ∈ usesS x, ThereP (graphS s.parts) dD (p.params ++ dstsS (p.code.take i)) m v) := Lib.hid (fun h i x hi hxx => by
                    rcases Nat.lt_or_eq_of_le (Nat.le_of_lt_succ hi) with hi' | hi'
                    · exact HJ.out i x hi' hxx
                    · rw [hi', List.getElem?_eq_getElem hjt] at hxx; cases hxx; rw [hi']; exact h)
                  have HJ3 : Hid (¬ (∀ v ∈ usesS p.code[j], ThereP (graphS s.parts) dD (p.params ++ dstsS (p.code.take j)) m v) → ¬ GoodP s) := Lib.hid (fun h => HBad.out (fun h' => h (h'.code j _ (List.getElem?_eq_getElem hjt))))
                  have HIF := Lib.hid (fun l => thereS_iff (l := l) (defs := dD) (far := p.params ++ dstsS (p.code.take j)) HDm.out)
                  clear HLT HLE HJ
                  generalize p.params ++ dstsS (p.code.take j) = l1 at *
                  generalize p.code[j] = x at *
                  have i4 : (0 : Int) ≤ (j : Int) := Int.natCast_nonneg _
                  have i3 : (j : Int) < (p.code.length : Int) := by omega
                  obtain ⟨Al, kl, rfl, hkl, hkml⟩ := HOl.form
                  have hbx := below_new (w := wi) (.cells #[.int .i64 x.op, .int .i64 x.dO, .int .i64 x.dst, .int .i64 x.a, .int .i64 x.b, .int .i64 x.n] 71)
                  have hx0 := heap_alloc_new wi (.cells #[.int .i64 x.op, .int .i64 x.dO, .int .i64 x.dst, .int .i64 x.a, .int .i64 x.b, .int .i64 x.n] 71)
                  obtain ⟨y1, g1⟩ := cell_of_block hx0
                  have y10 : (wi.alloc (.cells #[.int .i64 x.op, .int .i64 x.dO, .int .i64 x.dst, .int .i64 x.a, .int .i64 x.b, .int .i64 x.n] 71)).cell? ⟨wi.heap.size, 0, none⟩ = some (.int .i64 x.op) := (y1 0).trans rfl
                  have y11 : (wi.alloc (.cells #[.int .i64 x.op, .int .i64 x.dO, .int .i64 x.dst, .int .i64 x.a, .int .i64 x.b, .int .i64 x.n] 71)).cell? ⟨wi.heap.size, 1, none⟩ = some (.int .i64 x.dO) := (y1 1).trans rfl
                  have y12 : (wi.alloc (.cells #[.int .i64 x.op, .int .i64 x.dO, .int .i64 x.dst, .int .i64 x.a, .int .i64 x.b, .int .i64 x.n] 71)).cell? ⟨wi.heap.size, 2, none⟩ = some (.int .i64 x.dst) := (y1 2).trans rfl
                  have y13 : (wi.alloc (.cells #[.int .i64 x.op, .int .i64 x.dO, .int .i64 x.dst, .int .i64 x.a, .int .i64 x.b, .int .i64 x.n] 71)).cell? ⟨wi.heap.size, 3, none⟩ = some (.int .i64 x.a) := (y1 3).trans rfl
                  have y14 : (wi.alloc (.cells #[.int .i64 x.op, .int .i64 x.dO, .int .i64 x.dst, .int .i64 x.a, .int .i64 x.b, .int .i64 x.n] 71)).cell? ⟨wi.heap.size, 4, none⟩ = some (.int .i64 x.b) := (y1 4).trans rfl
                  have y15 : (wi.alloc (.cells #[.int .i64 x.op, .int .i64 x.dO, .int .i64 x.dst, .int .i64 x.a, .int .i64 x.b, .int .i64 x.n] 71)).cell? ⟨wi.heap.size, 5, none⟩ = some (.int .i64 x.n) := (y1 5).trans rfl
                  have cu1 := cell_below hbx cu
                  have HOl1 := HOl.below hbx
                  have hbw1 := hbw.alloc hbw.size (.cells #[.int .i64 x.op, .int .i64 x.dO, .int .i64 x.dst, .int .i64 x.a, .int .i64 x.b, .int .i64 x.n] 71)
                  have p31 := blk_alloc p3 (.cells #[.int .i64 x.op, .int .i64 x.dO, .int .i64 x.dst, .int .i64 x.a, .int .i64 x.b, .int .i64 x.n] 71)
                  have HC2 := fun (W : World) (v1 : Value) (hv : Rp.Rd Rp.int W (fun _ => True) v1 (usesS x)) (hW : Below wo.heap.size wo W) (hW2 : Below (wi.alloc (.cells #[.int .i64 x.op, .int .i64 x.dO, .int .i64 x.dst, .int .i64 x.a, .int .i64 x.b, .int .i64 x.n] 71)).heap.size (wi.alloc (.cells #[.int .i64 x.op, .int .i64 x.dO, .int .i64 x.dst, .int .i64 x.a, .int .i64 x.b, .int .i64 x.n] 71)) W) => l9There_calls v1 _ _ _ (usesS x) dD dm l1 m W hv ((HOD.below HB).below hW) (hu.below hW) (HOl1.below hW2).rd
                  have HIF2 := HIF.out (usesS x)
                  generalize thereS (usesS x) dD dm l1 m = r at *
                  replace HIF2 := Lib.hid HIF2
                  replace HC2 := Lib.hid HC2
                  clear y1 g1 HIF
                  go_wp2_with fail
                  generalize wi.alloc (.cells #[.int .i64 x.op, .int .i64 x.dO, .int .i64 x.dst, .int .i64 x.a, .int .i64 x.b, .int .i64 x.n] 71) = W7 at *
                  have hz7 := hbx.size
                  clear r0 r1 r2 r3 r4 r5 q0 q1 q2 q3 q4 q5 hk1 hbb2 cu
                  have HU7 := Lib.hid (fun W => l9Uses_calls x W)
                  unfold flV at HU7
                  cases r
                  · have HN := notGood (HJ3.out (fun h => by cases HIF2.out.2 h))
                    clear HIF2 HJ2 HJ3
                    go_region_held3 (fun w' => w'.cell? ⟨wi.heap.size, 0, none⟩ = some (.int .i64 x.op) ∧ w'.cell? ⟨wi.heap.size, 1, none⟩ = some (.int .i64 x.dO) ∧ w'.cell? ⟨wi.heap.size, 2, none⟩ = some (.int .i64 x.dst) ∧ w'.cell? ⟨wi.heap.size, 3, none⟩ = some (.int .i64 x.a) ∧ w'.cell? ⟨wi.heap.size, 4, none⟩ = some (.int .i64 x.b) ∧ w'.cell? ⟨wi.heap.size, 5, none⟩ = some (.int .i64 x.n) ∧ w'.cell? ⟨bm, om + m, none⟩ = some (.slice Au dm.length ku))
                      (first | go_keep | (go_split_ands; refine ⟨?_, ?_, ?_, ?_, ?_, ?_, ?_⟩ <;> first | exact cell_below hb9 (by assumption) | exact cell_below hb8 (by assumption)))
                      ((first | (go_at_call 53; refine (HU7.out _).mono ?_; rintro e w8 ⟨v8, rfl, HU8, hb8⟩; obtain ⟨A8, k8, rfl, _⟩ := HU8.form; have hB8 := below_of hb8) | (go_at_call 52; refine (HC2.out _ _ (HU8.rd.mono (fun _ _ => trivial)) (hbw1.trans (hB8.mono hbw1.size)) hB8).mono ?_; rintro e w9 ⟨rfl, hb9⟩)))
                    have hB9 := below_then hB8 hb9
                    have hBR := below_then (below_then hBw hbw1) (hB9.mono (Nat.le_refl _))
                    go_wp2
                    go_ret
                    exact ⟨_, rfl, HN, hBR⟩
                  · have HJN := Lib.hid (HJ2.out (HIF2.out.1 rfl))
                    clear HIF2 HJ2 HJ3
                    go_region_held3 (fun w' => w'.cell? ⟨wi.heap.size, 0, none⟩ = some (.int .i64 x.op) ∧ w'.cell? ⟨wi.heap.size, 1, none⟩ = some (.int .i64 x.dO) ∧ w'.cell? ⟨wi.heap.size, 2, none⟩ = some (.int .i64 x.dst) ∧ w'.cell? ⟨wi.heap.size, 3, none⟩ = some (.int .i64 x.a) ∧ w'.cell? ⟨wi.heap.size, 4, none⟩ = some (.int .i64 x.b) ∧ w'.cell? ⟨wi.heap.size, 5, none⟩ = some (.int .i64 x.n) ∧ w'.cell? ⟨bm, om + m, none⟩ = some (.slice Au dm.length ku))
                      (first | go_keep | (go_split_ands; refine ⟨?_, ?_, ?_, ?_, ?_, ?_, ?_⟩ <;> first | exact cell_below hb9 (by assumption) | exact cell_below hb8 (by assumption)))
                      ((first | (go_at_call 53; refine (HU7.out _).mono ?_; rintro e w8 ⟨v8, rfl, HU8, hb8⟩; obtain ⟨A8, k8, rfl, _⟩ := HU8.form; have hB8 := below_of hb8) | (go_at_call 52; refine (HC2.out _ _ (HU8.rd.mono (fun _ _ => trivial)) (hbw1.trans (hB8.mono hbw1.size)) hB8).mono ?_; rintro e w9 ⟨rfl, hb9⟩)))
                    have hB9 := below_then hB8 hb9
                    have hbw9 := hbw1.trans (hB9.mono hbw1.size)
                    have p39 := blk_below p31 hB9
                    have HOl9 := HOl1.below hB9
                    have z10 := cell_below hB9 y10
                    have z12 := cell_below hB9 y12
                    clear HU8 hb8 hB8 hb9 y10 y11 y12 y13 y14 y15 HC2 HU7
                    cases hset : inB x.op 1 4
                    · have HC := fun W => l9Sets_calls x.op W
                      rw [hset] at HC
                      have HL2 := Lib.hid (HNX2.out.2 hset)
                      clear hset HNX2
                      go_wp2_with (go_at_call 37; refine (HC _).mono ?_; rintro e w' ⟨rfl, rfl⟩)
                      go_roundw
                      case rel => exact ⟨j + 1, by omega, by go_num, by rw [HL2.out]; exact HOl9, hbw9, p39, HJN⟩
                      case measure => simp [intOf]; omega
                    · have HC := fun W => l9Sets_calls x.op W
                      rw [hset] at HC
                      have HL2 := Lib.hid (HNX2.out.1 hset)
                      clear hset HNX2
                      go_wp2_with (first | (go_at_call 37; refine (HC _).mono ?_; rintro e w' ⟨rfl, rfl⟩) | (at_builtin; (refine app_int (by rfl) _ _ (by rfl) (.slice Al l1.length kl) l1 x.dst w9.heap.size rfl (by rfl) (by rfl) HOl9 (by omega) ?_; intro A' c' w10 HO3 hg1; have hb3 := below_grown hbw9 hg1 (fun q hq => by have := own_in HOl9 (.inr hq); omega) hbw9.size; have hz4 := hbw9.size; have hz5 := blk_lt p39; have HO4 := HO3.mono (G := fun q => wo.heap.size + 1 ≤ q) (fun q hq => by rcases hq with hq | hq; exact hq; omega); have p310 := grown_blk hg1 p39 (own_ne HOl9 (fun h => by omega)))))
                      go_roundw
                      case rel => exact ⟨j + 1, by omega, by go_num, by rw [HL2.out]; exact HO4, hb3, p310, HJN⟩
                      case measure => simp [intOf]; omega
                · obtain rfl : j = p.code.length := by omega
                  rw [List.take_length] at HOl
                  change Ow _ _ _ _ _ _ (ownS p) at HOl
                  have HCD : Hid (∀ (i : Nat) (x : Fl), p.code[i]? = some x → ∀ v ∈ usesS x, ThereP (graphS s.parts) dD (p.params ++ dstsS (p.code.take i)) m v) := Lib.hid (fun i x hxx => HJ.out i x (List.getElem?_eq_some_iff.1 hxx).1 hxx)
                  have HE2 : Hid ((∀ v ∈ endsS p, ThereP (graphS s.parts) dD (ownS p) m v) → UsesP (graphS s.parts) dD m p) := Lib.hid (fun h => ⟨HRch.out, HCD.out, h⟩)
                  have HE3 : Hid (¬ (∀ v ∈ endsS p, ThereP (graphS s.parts) dD (ownS p) m v) → ¬ GoodP s) := Lib.hid (fun h => HBad.out (fun h' => h h'.ends))
                  have HIF := Lib.hid (fun l => thereS_iff (l := l) (defs := dD) (far := ownS p) HDm.out)
                  clear HJ HLT HLE
                  generalize ownS p = l1 at *
                  obtain ⟨Al, kl, rfl, hkl, hkml⟩ := HOl.form
                  have HC2 := fun (W : World) (v1 : Value) (hv : Rp.Rd Rp.int W (fun _ => True) v1 (endsS p)) (hW : Below wi.heap.size wi W) => l9There_calls v1 _ _ _ (endsS p) dD dm l1 m W hv ((HOD.below HB).below (below_then hbw hW)) (hu.below (below_then hbw hW)) (HOl.below hW).rd
                  have HIF2 := HIF.out (endsS p)
                  generalize thereS (endsS p) dD dm l1 m = r at *
                  have HU7 := Lib.hid (fun (W : World) (hW : Below wi.heap.size wi W) => l9Ends_calls p _ _ _ _ W (hk1.below (below_then hbw hW)) (hk2.below (below_then hbw hW)) (hk3.below (below_then hbw hW)) (hk4.below (below_then hbw hW)) hpl)
                  unfold ptV at HU7
                  replace HIF2 := Lib.hid HIF2
                  replace HC2 := Lib.hid HC2
                  clear HIF
                  have z0 : wi.cell? ⟨wo.heap.size, 0, none⟩ = some (.slice A1 p.params.length c1) := (x3 0).trans rfl
                  have z1 : wi.cell? ⟨wo.heap.size, 1, none⟩ = some (.slice A2 p.code.length c2) := (x3 1).trans rfl
                  have z2 : wi.cell? ⟨wo.heap.size, 2, none⟩ = some (.int .i64 p.go) := (x3 2).trans rfl
                  have z3 : wi.cell? ⟨wo.heap.size, 3, none⟩ = some (.int .i64 p.test) := (x3 3).trans rfl
                  have z4 : wi.cell? ⟨wo.heap.size, 4, none⟩ = some (.slice A3 p.next.length c3) := (x3 4).trans rfl
                  have z5 : wi.cell? ⟨wo.heap.size, 5, none⟩ = some (.slice A4 p.args.length c4) := (x3 5).trans rfl
                  clear x3 f3 q0 q1 q2 q3 q4 q5
                  go_wp2_with fail
                  clear hk1 hk2 hk3 hk4
                  cases r
                  · have HN := notGood (HE3.out (fun h => by cases HIF2.out.2 h))
                    clear HIF2 HE2 HE3
                    go_region_held3 (fun w' => w'.cell? ⟨wo.heap.size, 0, none⟩ = some (.slice A1 p.params.length c1) ∧ w'.cell? ⟨wo.heap.size, 1, none⟩ = some (.slice A2 p.code.length c2) ∧ w'.cell? ⟨wo.heap.size, 2, none⟩ = some (.int .i64 p.go) ∧ w'.cell? ⟨wo.heap.size, 3, none⟩ = some (.int .i64 p.test) ∧ w'.cell? ⟨wo.heap.size, 4, none⟩ = some (.slice A3 p.next.length c3) ∧ w'.cell? ⟨wo.heap.size, 5, none⟩ = some (.slice A4 p.args.length c4) ∧ w'.cell? ⟨bm, om + m, none⟩ = some (.slice Au dm.length ku))
                      (first | go_keep | (go_split_ands; refine ⟨?_, ?_, ?_, ?_, ?_, ?_, ?_⟩ <;> first | exact cell_below hb9 (by assumption) | exact cell_below hb8 (by assumption)))
                      ((first | (go_at_call 54; refine (HU7.out _ (below_drew (Below.refl _ _))).mono ?_; rintro e w8 ⟨v8, rfl, HU8, hb8⟩; obtain ⟨A8, k8, rfl, _⟩ := HU8.form; have hB8 := below_of hb8) | (go_at_call 52; refine (HC2.out _ _ (HU8.rd.mono (fun _ _ => trivial)) hB8).mono ?_; rintro e w9 ⟨rfl, hb9⟩)))
                    have hBR := below_then (below_then hBw hbw) (below_then hB8 hb9)
                    go_wp2
                    go_ret
                    exact ⟨_, rfl, HN, hBR⟩
                  · have HUS := Lib.hid (HOK.out (HE2.out (HIF2.out.1 rfl)))
                    clear HIF2 HE2 HE3
                    go_region_held3 (fun w' => w'.cell? ⟨wo.heap.size, 0, none⟩ = some (.slice A1 p.params.length c1) ∧ w'.cell? ⟨wo.heap.size, 1, none⟩ = some (.slice A2 p.code.length c2) ∧ w'.cell? ⟨wo.heap.size, 2, none⟩ = some (.int .i64 p.go) ∧ w'.cell? ⟨wo.heap.size, 3, none⟩ = some (.int .i64 p.test) ∧ w'.cell? ⟨wo.heap.size, 4, none⟩ = some (.slice A3 p.next.length c3) ∧ w'.cell? ⟨wo.heap.size, 5, none⟩ = some (.slice A4 p.args.length c4) ∧ w'.cell? ⟨bm, om + m, none⟩ = some (.slice Au dm.length ku))
                      (first | go_keep | (go_split_ands; refine ⟨?_, ?_, ?_, ?_, ?_, ?_, ?_⟩ <;> first | exact cell_below hb9 (by assumption) | exact cell_below hb8 (by assumption)))
                      ((first | (go_at_call 54; refine (HU7.out _ (below_drew (Below.refl _ _))).mono ?_; rintro e w8 ⟨v8, rfl, HU8, hb8⟩; obtain ⟨A8, k8, rfl, _⟩ := HU8.form; have hB8 := below_of hb8) | (go_at_call 52; refine (HC2.out _ _ (HU8.rd.mono (fun _ _ => trivial)) hB8).mono ?_; rintro e w9 ⟨rfl, hb9⟩)))
                    have hBR := below_then HB (below_then hbw (below_then hB8 hb9))
                    go_wp2
                    go_roundw
                    case rel => exact ⟨m + 1, by omega, by go_num, hBR, HUS⟩
                    case measure => simp [intOf]; omega
            · obtain rfl : m = s.parts.length := by omega
              have HG : Hid (GoodP s) := Lib.hid ⟨hn1, hn2, hv1, hv2, HNX.out, HPT.out, hdB.out.symm, HPAR.out, fun k p hp => by rw [← hdD.out]; exact HI.out k p (List.getElem?_eq_some_iff.1 hp).1 hp⟩
              go_wp2
              go_ret
              exact ⟨_, rfl, Lib.hid ⟨fun _ => HG.out, fun _ => rfl⟩, hBw⟩
end Go.Proofs.YtnfaibenekninaaGreat.L
