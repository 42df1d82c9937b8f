/- The reference: in which parts values come to be. -/
import Derived.Test.YtmcnoeinjocimaaSp5
import Derived.Test.YtmcnoeinjocimaaSp3
set_option linter.unusedVariables false
set_option linter.unusedSimpArgs false
namespace Go.Proofs.Ytmcnoeinjocimaa.L
open Go.RowKit
def setsS (x : Fl) : Bool := inB x.op 1 4
def dstsS (l : List Fl) : List Int := (l.filter setsS).map (fun x => x.dst)
def ownS (p : Pt) : List Int := p.params ++ dstsS p.code
def defStep (k : Int) : List Int → List Int → Option (List Int)
  | D, [] => some D
  | D, v :: t => if v < 0 ∨ (D.length : Int) ≤ v ∨ 0 ≤ D[v.toNat]! then none else defStep k (D.set v.toNat k) t
def defsFrom : Int → List Int → List Pt → Option (List Int)
  | _, D, [] => some D
  | k, D, p :: t => (defStep k D (ownS p)).bind (fun D' => defsFrom (k + 1) D' t)
def defs0 (n : Nat) : List Int := (List.range n).map (fun v => if v < 12 then 0 else -1)
def defsS (s : Sa) : Option (List Int) := defsFrom 0 (defs0 s.values.toNat) s.parts
theorem defs0_succ (n : Nat) : defs0 (n + 1) = defs0 n ++ [if n < 12 then 0 else -1] := by unfold defs0; rw [List.range_succ, List.map_append]; rfl
theorem defs0_len (n : Nat) : (defs0 n).length = n := by unfold defs0; simp
theorem dstsS_take {l : List Fl} {k : Nat} (hk : k < l.length) : dstsS (l.take (k + 1)) = if setsS l[k] then dstsS (l.take k) ++ [l[k].dst] else dstsS (l.take k) := by
  unfold dstsS
  rw [List.take_succ_eq_append_getElem hk, List.filter_append, List.map_append]
  cases h : setsS l[k] <;> simp [h]
theorem dstsS_len (l : List Fl) : (dstsS l).length ≤ l.length := by unfold dstsS; rw [List.length_map]; exact List.length_filter_le _ _
set_option maxHeartbeats 4000000 in
theorem l9Defs_calls {F : Nat → Prop} (s : Sa) (vparts : Value) (w : World) (hs : Rp.Rd part w F vparts s.parts) (hn : s.parts.length ≤ 1048576) (hl : ∀ p ∈ s.parts, PtLim p) (hv0 : 12 ≤ s.values) (hv1 : s.values ≤ 250) :
    Calls Try.prog 44 #[saV s vparts] w fun e w' => ∃ v', e = .returned (.tuple #[v', .bool (defsS s).isSome]) ∧ Ow true 3 Rp.int w' (fun k => w.heap.size ≤ k) v' ((defsS s).getD []) ∧ Below w.heap.size w w' := by
  replace hs := hs.bound
  obtain ⟨nv, hnv⟩ := Int.eq_ofNat_of_zero_le (by omega : 0 ≤ s.values)
  obtain ⟨A, c, rfl, hlc, hcm, hrow⟩ := rd_part hs
  have HT : Hid (defsFrom 0 (defs0 nv) s.parts = defsS s) := Lib.hid (by unfold defsS; rw [hnv]; rfl)
  have hn0 : 12 ≤ nv := by omega
  have hn1 : nv ≤ 250 := by omega
  unfold saV
  rw [hnv]
  clear hnv hv0 hv1
  go_enter Try.func44, Try.ntmps44
  go_wp2
  obtain ⟨W1, hW1⟩ : ∃ W1, W1 = w.alloc (Obj.cells #[Value.slice A s.parts.length c, Value.int .i64 nv] 29) := ⟨_, rfl⟩
  have hs1 : w.heap.size + 1 ≤ W1.heap.size := by rw [hW1]; simp
  have hB : Below w.heap.size w W1 := by rw [hW1]; exact below_new _
  have hb1 : W1.heap[w.heap.size]? = some (.cells #[Value.slice A s.parts.length c, Value.int .i64 nv] 29 (0, 0)) := by rw [hW1]; exact heap_alloc_new w _
  rw [← hW1]
  clear hW1
  go_loopw [4, 5] (fun dv i wr => ∃ k : Nat, k ≤ nv ∧ i = .int .i64 k ∧ Ow true 3 Rp.int wr (fun q => w.heap.size + 1 ≤ q) dv (defs0 k) ∧ Below w.heap.size w wr ∧ wr.heap[w.heap.size]? = some (.cells #[Value.slice A s.parts.length c, Value.int .i64 nv] 29 (0, 0)) ∧ w.heap.size + 1 ≤ wr.heap.size) (fun _ i _ => nv - (intOf i).toNat)
  case atStart => exact ⟨0, Nat.zero_le _, rfl, Ow.nil _ _ _ _ _, hB, hb1, hs1⟩
  case round =>
    clear hB hb1 hs1
    obtain ⟨k, hk, rfl, HO, HB, b1, hz⟩ := hrel
    obtain ⟨x1, f1⟩ := cell_of_block b1
    have x10 := x1 0
    have x11 := x1 1
    simp at x10 x11
    have hdl := defs0_len k
    obtain ⟨Av, kv, rfl, hkv, hkm⟩ := HO.form
    by_cases hlt : k < nv
    · have i1 : (k : Int) < (nv : Int) := by omega
      obtain ⟨y, hy, hc⟩ : ∃ y : Int, Hid (defs0 (k + 1) = defs0 k ++ [y]) ∧ ((k : Int) < 12 ∧ y = 0 ∨ ¬ ((k : Int) < 12) ∧ y = -1) := by
        refine ⟨if k < 12 then 0 else -1, Lib.hid (defs0_succ k), ?_⟩
        by_cases h : k < 12
        · left; rw [if_pos h]; exact ⟨by omega, rfl⟩
        · right; rw [if_neg h]; exact ⟨by omega, rfl⟩
      have hl2 : (defs0 k).length ≤ 250 := by omega
      clear hdl
      generalize defs0 k = D at *
      rcases hc with ⟨hc, rfl⟩ | ⟨hc, rfl⟩
      all_goals
        go_wp2_with (at_builtin; refine ow_append1 (r := Rp.int) (e := 3) (G := fun _ => False) (by rfl) _ _ 35 (.int .i64 0) 8 (by rfl) Try.underlying35 infoInt rfl (by decide) (by omega) (.slice Av D.length kv) D _ [.int .i64 _] (by rfl) (by rfl) HO rfl (fun _ h => h.elim) (by omega) ?_; intro v1 w1 HO3 hg1; have HB3 := below_grown HB hg1 (fun q hq => by have := own_in HO (.inr hq); omega) HB.size; have b3 := grown_blk hg1 b1 (own_ne HO (fun h => by omega)); have hz3 := hg1.size; obtain ⟨Bv, dv, rfl, _, _⟩ := HO3.form1)
        go_roundw
        case rel => exact ⟨k + 1, by omega, by go_num, by rw [hy.out]; exact HO3.mono (fun q hq => by rcases hq with hq | hq | hq; exact hq; exact hq.elim; omega), HB3, b3, by omega⟩
        case measure => simp [intOf]; omega
    · obtain rfl : k = nv := by omega
      clear hlt hk
      generalize defs0 k = D at *
      subst hdl
      go_wp2
      go_loopw [30] (fun i wr => ∃ (m : Nat) (D' : List Int), m ≤ s.parts.length ∧ i = .int .i64 m ∧ Hid (D'.length = D.length) ∧ Ow true 3 Rp.int wr (fun q => w.heap.size + 1 ≤ q) (.slice Av D.length kv) D' ∧ Below w.heap.size w wr ∧ wr.heap[w.heap.size]? = some (.cells #[Value.slice A s.parts.length c, Value.int .i64 D.length] 29 (0, 0)) ∧ w.heap.size + 1 ≤ wr.heap.size ∧ Hid (defsFrom m D' (s.parts.drop m) = defsS s)) (fun i _ => s.parts.length - (intOf i).toNat)
      case atStart => exact ⟨0, D, Nat.zero_le _, rfl, Lib.hid rfl, HO, HB, b1, hz, HT⟩
      case round =>
        clear x1 f1 x10 x11 HO HB b1 hz HT
        obtain ⟨m, D', hm, rfl, hdl', HO, HB, b1, hz, HT⟩ := hrel
        rename World => wo
        by_cases hlt : m < s.parts.length
        · rcases hrow with hnil | ⟨b, o, rfl, hb, hcell⟩
          · rw [hnil] at hlt; simp at hlt
          obtain ⟨_, _, _, _, hp, ⟨A1, c1, rfl, hc1⟩, ⟨A2, c2, rfl, hc2⟩, ⟨A3, c3, rfl, _⟩, ⟨A4, c4, rfl, _⟩⟩ := hcell m hlt
          have hx1 : Rp.Rd Rp.int w (fun q => F q ∧ q < w.heap.size) (.slice A1 s.parts[m].params.length c1) s.parts[m].params := ⟨_, _, rfl, hc1⟩
          have hx2 : Rp.Rd flat w (fun q => F q ∧ q < w.heap.size) (.slice A2 s.parts[m].code.length c2) s.parts[m].code := ⟨_, _, rfl, hc2⟩
          have hp := partAt_below hp HB
          have hx1 := hx1.below HB
          have hx2 := hx2.below HB
          obtain ⟨hl1, hl2, _⟩ := hl _ (List.getElem_mem hlt)
          have HG : Hid ((defStep m D' (ownS s.parts[m])).bind (fun D'' => defsFrom ((m + 1 : Nat) : Int) D'' (s.parts.drop (m + 1))) = defsS s) := Lib.hid (by have := HT.out; rw [List.drop_eq_getElem_cons hlt] at this; exact this)
          clear hcell HT hc1 hc2
          generalize s.parts[m] = p at *
          obtain ⟨q0, q1, q2, q3, q4, q5⟩ := hp
          have i0 : (0 : Int) ≤ (m : Int) := Int.natCast_nonneg _
          have i1 : (m : Int) < (s.parts.length : Int) := by omega
          obtain ⟨W2, hW2⟩ : ∃ W2, W2 = (wo.alloc (Obj.cells #[Value.slice A1 p.params.length c1, Value.slice A2 p.code.length c2, Value.int .i64 p.go, Value.int .i64 p.test, Value.slice A3 p.next.length c3, Value.slice A4 p.args.length c4] 54)).alloc (Obj.cells #[] 3) := ⟨_, rfl⟩
          have hb2 : Below wo.heap.size wo W2 := by rw [hW2]; exact (below_new _).alloc (by simp) _
          have p2 : W2.heap[wo.heap.size]? = some (.cells #[Value.slice A1 p.params.length c1, Value.slice A2 p.code.length c2, Value.int .i64 p.go, Value.int .i64 p.test, Value.slice A3 p.next.length c3, Value.slice A4 p.args.length c4] 54 (0, 0)) := by rw [hW2]; exact heap_alloc2_old wo _ _
          have e2 : W2.heap[wo.heap.size + 1]? = some (.cells #[] 3 (0, 0)) := by rw [hW2]; exact heap_alloc2_new wo _ _
          have HE := (ow_empty (ap := true) (r := Rp.int) e2).mono (G := fun q => wo.heap.size + 1 ≤ q) (fun q hq => by omega)
          have hx1' := hx1.below hb2
          have HW2 := Lib.hid hW2
          clear hW2 e2
          have HLE := dstsS_len p.code
          have hz2 := blk_lt p2
          go_wp2_with (at_builtin; (rw [← HW2.out]; refine ow_appendf (r := Rp.int) (e := 3) int_flat (by rfl) _ _ 35 (.int .i64 0) 8 (by rfl) Try.underlying35 infoInt rfl (by decide) (by omega) (.slice (some ⟨wo.heap.size + 1, 0, none⟩) 0 0) (.slice A1 p.params.length c1) [] p.params (by rfl) (by rfl) true HE hx1' (by simp; omega) ?_; intro v1 w1 HO3 hg1; have p3 := grown_blk hg1 p2 (own_ne HE (fun h => by omega)); have hb3 := below_grown hb2 hg1 (fun q hq => by have := own_in HE (.inr hq); omega) hb2.size; have hz3 := blk_lt p3; obtain ⟨x3, f3⟩ := cell_of_block p3; have x31 := x3 1; simp at x31))
          have HL3 : Ow true 3 Rp.int w1 (fun q => wo.heap.size + 1 ≤ q) v1 (p.params ++ dstsS (p.code.take 0)) := by
            have := HO3.mono (G := fun q => wo.heap.size + 1 ≤ q) (fun q hq => by rcases hq with hq | hq; exact hq; omega)
            simpa [dstsS] using this
          clear HO3 x3 f3 x31 p2 HE hx1' HW2
          go_loopw [8, 42] (fun lv i wr => ∃ j : Nat, j ≤ p.code.length ∧ i = .int .i64 j ∧ Ow true 3 Rp.int wr (fun q => wo.heap.size + 1 ≤ q) lv (p.params ++ dstsS (p.code.take j)) ∧ Below wo.heap.size wo wr ∧ wo.heap.size < wr.heap.size) (fun _ i _ => p.code.length - (intOf i).toNat)
          case atStart => exact ⟨0, Nat.zero_le _, rfl, HL3, hb3, hz3⟩
          case round =>
            clear HL3 hb3 p3 hz3 hz2
            obtain ⟨j, hj, rfl, HOl, hbw, hz3⟩ := hrel
            by_cases hjt : j < p.code.length
            · obtain ⟨_, _, hAe, _, _, hAr⟩ := rd_flat (hx2.below hbw)
              cases hAe
              rcases hAr with hAr | ⟨b2, o2, rfl, hbb2, hc2⟩
              · rw [hAr] at hjt; simp at hjt
              have q := hc2 j hjt
              clear hc2
              obtain ⟨r0, r1, r2, r3, r4, r5⟩ := q
              have HLT := dstsS_len (p.code.take j)
              rw [List.length_take] at HLT
              have hln : (p.params ++ dstsS (p.code.take j)).length ≤ 2097152 := by rw [List.length_append]; omega
              have HNX : Hid ((setsS p.code[j] = true → p.params ++ dstsS (p.code.take (j + 1)) = (p.params ++ dstsS (p.code.take j)) ++ [p.code[j].dst]) ∧ (setsS p.code[j] = false → p.params ++ dstsS (p.code.take (j + 1)) = p.params ++ dstsS (p.code.take j))) := Lib.hid (by
                rw [dstsS_take hjt]
                constructor
                · intro h; rw [if_pos h, List.append_assoc]
                · intro h; rw [if_neg (by rw [h]; decide)])
              clear HLT HLE
              generalize p.params ++ dstsS (p.code.take j) = l1 at *
              generalize p.code[j] = x at *
              have i2 : (0 : Int) ≤ (j : Int) := Int.natCast_nonneg _
              have i3 : (j : Int) < (p.code.length : Int) := by omega
              obtain ⟨Al, kl, rfl, hkl, hkml⟩ := HOl.form
              cases hset : inB x.op 1 4
              · have HC := fun W => l9Sets_calls x.op W
                rw [hset] at HC
                have HL2 := Lib.hid (HNX.out.2 hset)
                clear hset HNX
                go_wp2_with (go_at_call 49; refine (HC _).mono ?_; rintro e w' ⟨rfl, rfl⟩)
                go_roundw
                case rel => exact ⟨j + 1, by omega, by go_num, by rw [HL2.out]; exact HOl.below (below_new _), hbw.alloc hbw.size _, by simp; omega⟩
                case measure => simp [intOf]; omega
              · have HC := fun W => l9Sets_calls x.op W
                rw [hset] at HC
                have HL2 := Lib.hid (HNX.out.1 hset)
                clear hset HNX
                have HOl2 := HOl.below (below_new (Obj.cells #[Value.int .i64 x.op, Value.int .i64 x.dO, Value.int .i64 x.dst, Value.int .i64 x.a, Value.int .i64 x.b, Value.int .i64 x.n] 61))
                have hbw2 := hbw.alloc hbw.size (Obj.cells #[Value.int .i64 x.op, Value.int .i64 x.dO, Value.int .i64 x.dst, Value.int .i64 x.a, Value.int .i64 x.b, Value.int .i64 x.n] 61)
                go_wp2_with (first | (go_at_call 49; refine (HC _).mono ?_; rintro e w' ⟨rfl, rfl⟩) | (at_builtin; (refine app_int (by rfl) _ _ (by rfl) (.slice Al l1.length kl) l1 x.dst (wr.heap.size + 1) (by simp) (by rfl) (by rfl) HOl2 (by omega) ?_; intro A' c' w1 HO3 hg1; have hb3 := below_grown hbw2 hg1 (fun q hq => by have := own_in HOl2 (.inr hq); omega) hbw2.size; have hz4 := hg1.size; simp at hz4; have HO4 := HO3.mono (G := fun q => wo.heap.size + 1 ≤ q) (fun q hq => by rcases hq with hq | hq; exact hq; simp at hq; omega))))
                go_roundw
                case rel => exact ⟨j + 1, by omega, by go_num, by rw [HL2.out]; exact HO4, hb3, by omega⟩
                case measure => simp [intOf]; omega
            · obtain rfl : j = p.code.length := by omega
              rw [List.take_length] at HOl
              change Ow _ _ _ _ _ _ (ownS p) at HOl
              have HODw := HO.bound.below hbw
              have HB4 := below_then HB hbw
              have b4 := blk_below b1 hbw
              have hz5 := Nat.le_trans hz hbw.size
              clear hx1 hx2 HLE HB b1 hz HO hbw q0 q1 q2 q3 q4 q5
              generalize ownS p = l at *
              obtain ⟨Al, kl, rfl, hkl, hkml⟩ := HOl.form
              go_wp2
              go_loopw [57] (fun i wr => ∃ (j : Nat) (E : List Int), j ≤ l.length ∧ i = .int .i64 j ∧ Hid (E.length = D.length) ∧ Ow true 3 Rp.int wr (fun q => w.heap.size + 1 ≤ q ∧ q < wo.heap.size) (.slice Av D.length kv) E ∧ Ow true 3 Rp.int wr (fun q => wo.heap.size + 1 ≤ q) (.slice Al l.length kl) l ∧ Below w.heap.size w wr ∧ wr.heap[w.heap.size]? = some (.cells #[Value.slice (some ⟨b, o, none⟩) s.parts.length c, Value.int .i64 D.length] 29 (0, 0)) ∧ w.heap.size + 1 ≤ wr.heap.size ∧ Hid ((defStep m E (l.drop j)).bind (fun D'' => defsFrom ((m + 1 : Nat) : Int) D'' (s.parts.drop (m + 1))) = defsS s)) (fun i _ => l.length - (intOf i).toNat)
              case atStart => exact ⟨0, D', Nat.zero_le _, rfl, hdl', HODw, HOl, HB4, b4, hz5, HG⟩
              case round =>
                clear HODw HOl HB4 b4 hz5 HG
                obtain ⟨j, E, hj, rfl, hEl, HO, HOl, HB, b1, hz, HG⟩ := hrel
                obtain ⟨x1, f1⟩ := cell_of_block b1
                have x11 := x1 1
                simp at x11
                by_cases hjt : j < l.length
                · obtain ⟨_, _, hAe, _, _, hAr⟩ := rd_int HOl.rd
                  cases hAe
                  rcases hAr with hAr | ⟨b2, o2, rfl, hbb2, hc2⟩
                  · rw [hAr] at hjt; simp at hjt
                  have c2 := hc2 j hjt
                  clear hc2
                  have HGd : Hid ((defStep m E (l[j] :: l.drop (j + 1))).bind (fun D'' => defsFrom ((m + 1 : Nat) : Int) D'' (s.parts.drop (m + 1))) = defsS s) := Lib.hid (by rw [← List.drop_eq_getElem_cons hjt]; exact HG.out)
                  clear HG
                  generalize l[j] = x at *
                  have i2 : (0 : Int) ≤ (j : Int) := Int.natCast_nonneg _
                  have i3 : (j : Int) < (l.length : Int) := by omega
                  by_cases hx0 : x < 0
                  · have HN : Hid (defsS s = none) := Lib.hid (by rw [← HGd.out, defStep, if_pos (.inl hx0)]; rfl)
                    go_wp2
                    go_ret2
                    exact ⟨_, by rw [HN.out]; rfl, by rw [HN.out]; exact Ow.nil _ _ _ _ _, HB⟩
                  by_cases hx1 : (D.length : Int) ≤ x
                  · have HN : Hid (defsS s = none) := Lib.hid (by rw [← HGd.out, defStep, if_pos (.inr (.inl (by rw [hEl.out]; omega)))]; rfl)
                    go_wp2
                    go_ret2
                    exact ⟨_, by rw [HN.out]; rfl, by rw [HN.out]; exact Ow.nil _ _ _ _ _, HB⟩
                  obtain ⟨n, rfl⟩ := Int.eq_ofNat_of_zero_le (by omega : 0 ≤ x)
                  have hnl : n < E.length := by rw [hEl.out]; omega
                  obtain ⟨g, rfl⟩ : ∃ g, Av = some ⟨g, 0, none⟩ := by
                    obtain ⟨g, c', cs, he, _⟩ := HO.at_ (List.getElem?_eq_getElem hnl)
                    injection he with he _ _
                    exact ⟨g, he⟩
                  obtain ⟨cE, fE⟩ := HO.int_at hnl
                  have HSt := HO.set1 rfl (i := n) hnl (y := (m : Int)) (u := .int .i64 m) rfl
                  have HEq : Hid (¬ (0 ≤ E[n]) → (defStep m E ((n : Int) :: l.drop (j + 1))) = defStep m (E.set n m) (l.drop (j + 1))) := Lib.hid (fun h => by
                    rw [defStep, if_neg]
                    · rfl
                    · rw [Int.toNat_natCast, getElem!_pos E n hnl]; omega)
                  have HEn : Hid (0 ≤ E[n] → defsS s = none) := Lib.hid (fun h => by
                    rw [← HGd.out, defStep, if_pos]
                    · rfl
                    · rw [Int.toNat_natCast, getElem!_pos E n hnl]; exact .inr (.inr h))
                  have i4 : (n : Int) < (D.length : Int) := by omega
                  have i5 : (0 : Int) ≤ (n : Int) := Int.natCast_nonneg _
                  have hne : g ≠ w.heap.size := by have := own_in HO (k := g) (.inr rfl); omega
                  have hg2 := own_in HO (k := g) (.inr rfl)
                  by_cases hx2 : 0 ≤ E[n]
                  · have HN := Lib.hid (HEn.out hx2)
                    clear HEn HEq HSt
                    generalize E[n] = y at *
                    go_wp2
                    go_ret2
                    exact ⟨_, by rw [HN.out]; rfl, by rw [HN.out]; exact Ow.nil _ _ _ _ _, HB⟩
                  · have HN := Lib.hid (HEq.out hx2)
                    clear HEn HEq
                    generalize E[n] = y at *
                    go_wp2
                    go_roundw
                    case rel => exact ⟨j + 1, E.set n m, by omega, by go_num, Lib.hid (by rw [List.length_set]; exact hEl.out), HSt, HOl.set_other (by omega), HB.setCell (by simp; omega) _, blk_set b1 (by simp; omega) _, by simpa using hz, Lib.hid (by rw [← HGd.out, HN.out])⟩
                    case measure => simp [intOf]; omega
                · obtain rfl : j = l.length := by omega
                  have HN : Hid (defsFrom ((m + 1 : Nat) : Int) E (s.parts.drop (m + 1)) = defsS s) := Lib.hid (by rw [← HG.out, List.drop_length]; rfl)
                  clear HG
                  go_wp2
                  go_roundw
                  case rel => exact ⟨m + 1, E, by omega, by go_num, hEl, HO.mono (fun q hq => hq.1), HB, b1, hz, HN⟩
                  case measure => simp [intOf]; omega
        · obtain rfl : m = s.parts.length := by omega
          have HN : Hid (defsS s = some D') := Lib.hid (by rw [← HT.out, List.drop_length]; rfl)
          clear HT hrow
          have hDl : D.length = D'.length := hdl'.out.symm
          rw [hDl] at HO
          have HE : Ow true 3 Rp.int wo (fun q => w.heap.size ≤ q) (.slice Av D'.length kv) ((some D').getD []) := HO.mono (fun q hq => by omega)
          go_wp2
          go_ret2
          exact ⟨_, by rw [HN.out]; rfl, by rw [HN.out, hDl]; exact HE, HB⟩
end Go.Proofs.Ytmcnoeinjocimaa.L
