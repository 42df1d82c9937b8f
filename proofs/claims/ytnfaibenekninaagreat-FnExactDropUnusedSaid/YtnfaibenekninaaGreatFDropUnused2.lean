/- Joined texts, each of which was built by itself: Us1 Us3 Gp1. -/
import Derived.Test.YtnfaibenekninaaGreatFDropUnused1
import Derived.Test.YtnfaibenekninaaGreatB2
set_option linter.unusedVariables false
set_option linter.unusedSimpArgs false
namespace Go.Proofs.YtnfaibenekninaaGreat.L
open Go.RowKit
def bumpL (L : List Int) (v : Int) : List Int := L.set v.toNat (L.getD v.toNat 0 + 1)
def cntL (V : Nat) (vals : List Int) : List Int := vals.foldl bumpL (List.replicate V 0)
theorem bumpL_len (L : List Int) (v : Int) : (bumpL L v).length = L.length := by unfold bumpL; rw [List.length_set]
theorem cntL_snoc (V : Nat) (a : List Int) (v : Int) : cntL V (a ++ [v]) = bumpL (cntL V a) v := by unfold cntL; rw [List.foldl_append]; rfl
theorem foldl_bump_len (l : List Int) : ∀ L : List Int, (l.foldl bumpL L).length = L.length := by
  induction l with
  | nil => intro L; rfl
  | cons x t ih => intro L; rw [List.foldl_cons, ih, bumpL_len]
theorem cntL_len (V : Nat) (a : List Int) : (cntL V a).length = V := by unfold cntL; rw [foldl_bump_len, List.length_replicate]
theorem foldl_bump_le (l : List Int) : ∀ (L : List Int) (m : Nat), (∀ n : Nat, 0 ≤ L.getD n 0 ∧ L.getD n 0 ≤ m) → ∀ n : Nat, 0 ≤ (l.foldl bumpL L).getD n 0 ∧ (l.foldl bumpL L).getD n 0 ≤ m + l.length := by
  induction l with
  | nil => intro L m h n; simpa using h n
  | cons x t ih =>
    intro L m h n
    rw [List.foldl_cons, List.length_cons]
    have := ih (bumpL L x) (m + 1) (fun q => by
      unfold bumpL
      by_cases hx : x.toNat < L.length
      · rw [getD_set2 _ _ _ _ _ hx]
        have h1 := h x.toNat
        have h2 := h q
        split <;> omega
      · rw [List.set_eq_of_length_le (by omega)]; have h2 := h q; omega) n
    omega
theorem cntL_le (V : Nat) (a : List Int) (n : Nat) : 0 ≤ (cntL V a).getD n 0 ∧ (cntL V a).getD n 0 ≤ a.length := by
  have := foldl_bump_le a (List.replicate V 0) 0 (fun q => by rw [List.getD_eq_getElem?_getD, List.getElem?_replicate]; split <;> simp) n
  unfold cntL; omega
def partU (p : Pt) : List Int := p.code.flatMap usesI ++ endsS p
def usesAll (s : Sa) : List Int := s.parts.flatMap partU
/-- What is known of all uses. -/
structure UOk (s : Sa) (N : Nat) : Prop where
  V : (N : Int) = s.values
  le : N ≤ 250
  rng : ∀ v ∈ usesAll s, 0 ≤ v ∧ v < N
  len : (usesAll s).length ≤ 2305843009213693952
theorem flatMap_len_le {α : Type} {f : α → List Int} {m : Nat} : ∀ {l : List α}, (∀ x ∈ l, (f x).length ≤ m) → (l.flatMap f).length ≤ l.length * m
  | [], _ => by simp
  | x :: t, h => by
    have h1 := flatMap_len_le (l := t) (fun y hy => h y (List.mem_cons_of_mem _ hy))
    have h2 := h x List.mem_cons_self
    rw [List.flatMap_cons, List.length_append, List.length_cons, Nat.succ_mul]; omega
theorem GoodP.uok {s : Sa} (h : GoodP s) (hl : ∀ p ∈ s.parts, PtLim p) : UOk s s.values.toNat := by
  have hv1 := h.v1
  have hv2 := h.v2
  have hn2 := h.n2
  refine ⟨by omega, by omega, fun v hv => ?_, ?_⟩
  · obtain ⟨p, hp, hv⟩ := List.mem_flatMap.1 hv
    obtain ⟨k, hk⟩ := List.getElem?_of_mem hp
    have : 0 ≤ v ∧ v < s.values := by
      rcases List.mem_append.1 hv with hv | hv
      · obtain ⟨x, hx, hv⟩ := List.mem_flatMap.1 hv
        exact (h.steps_in hk hx).2 v hv
      · exact h.use_in hk (.inl hv)
    omega
  · have : (usesAll s).length ≤ s.parts.length * 1099516000000 := flatMap_len_le (fun p hp => by
      obtain ⟨l0, l1, l2, l3, l4⟩ := hl p hp
      have e1 : (p.code.flatMap usesI).length ≤ p.code.length * 2 := flatMap_len_le (fun x _ => usesI_len x)
      have e2 := flatten_len l4
      unfold partU endsS
      rw [List.length_append, List.length_append]
      have e3 : (if p.go == 2 || p.go == 5 then [p.test] else []).length ≤ 1 := by split <;> simp
      have e4 : p.args.length * 1048576 ≤ 1048576 * 1048576 := Nat.mul_le_mul_right _ l3
      omega)
    have e5 : s.parts.length * 1099516000000 ≤ 11 * 1099516000000 := Nat.mul_le_mul_right _ hn2
    omega
theorem UOk.step {s : Sa} {N : Nat} (h : UOk s N) {vals R : List Int} {v : Int} (hU : vals ++ v :: R = usesAll s) : (0 ≤ v ∧ v < N) ∧ vals.length < 2305843009213693952 ∧ (vals ++ [v]) ++ R = usesAll s := by
  refine ⟨h.rng v (by rw [← hU]; simp), ?_, by rw [← hU]; simp⟩
  have := h.len
  rw [← hU, List.length_append, List.length_cons] at this
  omega
theorem entersUsed : Enters Tryz.prog 149 := enters Tryz.func149 (by kernel_rfl) (by kernel_rfl)
set_option maxRecDepth 100000 in
set_option maxHeartbeats 4000000 in
theorem used1_calls {s : Sa} {N : Nat} (hk : UOk s N) (g c bx pb po : Nat) (vals R : List Int) (v : Int) (W : World) (hU : vals ++ v :: R = usesAll s) (hp : W.cell? ⟨pb, po, none⟩ = some (.int .i64 v))
    (hb : W.heap[bx]? = some (.cells #[.slice (some ⟨g, 0, none⟩) N c] 59 (0, 0))) (hO : Ow true 3 Rp.int W (fun q => q = g) (.slice (some ⟨g, 0, none⟩) N c) (cntL N vals)) :
    Calls Tryz.prog 149 #[.pointer (some ⟨pb, po, none⟩), .pointer (some ⟨bx, 0, none⟩)] W fun e w' => e = .returned (.tuple #[]) ∧ Ow true 3 Rp.int w' (fun q => q = g) (.slice (some ⟨g, 0, none⟩) N c) (cntL N (vals ++ [v])) ∧ Chg (fun q => q = g) W w' := by
  obtain ⟨⟨h0, h1⟩, hl, _⟩ := hk.step hU
  obtain ⟨n, rfl⟩ := Int.eq_ofNat_of_zero_le h0
  have hcl := cntL_len N vals
  have hn : n < (cntL N vals).length := by omega
  have hle := cntL_le N vals n
  have hg : (cntL N vals).getD n 0 = (cntL N vals)[n] := by rw [List.getD_eq_getElem?_getD, List.getElem?_eq_getElem hn]; rfl
  rw [hg] at hle
  have HO2 := hO.set1 rfl hn (y := (cntL N vals)[n] + 1) (u := .int .i64 ((cntL N vals)[n] + 1)) rfl
  have he : (cntL N vals).set n ((cntL N vals)[n] + 1) = cntL N (vals ++ [(n : Int)]) := by rw [cntL_snoc]; unfold bumpL; rw [Int.toNat_natCast, hg]
  rw [he] at HO2
  obtain ⟨d1, d2⟩ := hO.int_at hn
  generalize (cntL N vals)[n] = y at *
  have HO2 := Lib.hid HO2
  have hC := Lib.hid (Chg.set (w := W) (A := fun q => q = g) (b := g) (o := n) (u := .int .i64 (y + 1)) rfl)
  obtain ⟨x0, _⟩ := cell_of_block hb
  have x0 : W.cell? ⟨bx, 0, none⟩ = some (.slice (some ⟨g, 0, none⟩) N c) := (x0 0).trans rfl
  have i0 : (0 : Int) ≤ (n : Int) := Int.natCast_nonneg _
  have i1 : (n : Int) < (N : Int) := by omega
  have t1 : IntKind.i64.wrap (y + 1) = y + 1 := IntWalk.i64_in _ (by omega)
  clear hO he hg hcl hn h0 h1 hU
  go_enter Tryz.func149, Tryz.ntmps149
  go_region
  go_wp2
  refine bodyPost_end (results_none (by first | rfl | exact Tryz.results149 | kernel_rfl) _ _ _) rfl ?_
  exact ⟨rfl, HO2.out, hC.out.trans (Chg.drewN 1)⟩
set_option maxRecDepth 100000 in
set_option maxHeartbeats 8000000 in
theorem uses_calls {F : Nat → Prop} {s : Sa} {N : Nat} (hk : UOk s N) (g c bx sb : Nat) (vparts : Value) (w : World) (hsb : w.heap[sb]? = some (.cells #[vparts, .int .i64 s.values] 28 (0, 0))) (hs : Rp.Rd part w F vparts s.parts)
    (hF : ∀ q, F q → q ≠ g) (hsg : sb ≠ g) (hbg : bx ≠ g) (hb : w.heap[bx]? = some (.cells #[.slice (some ⟨g, 0, none⟩) N c] 59 (0, 0)))
    (hO : Ow true 3 Rp.int w (fun q => q = g) (.slice (some ⟨g, 0, none⟩) N c) (cntL N [])) (hx1 : s.parts.length ≤ 1048576) (hx2 : ∀ p ∈ s.parts, PtLim p) :
    Calls Tryz.prog 148 #[.pointer (some ⟨sb, 0, none⟩), .func (.func 149) #[] #[.pointer (some ⟨bx, 0, none⟩)]] w fun e w' => e = .returned (.tuple #[]) ∧ Ow true 3 Rp.int w' (fun q => q = g) (.slice (some ⟨g, 0, none⟩) N c) (cntL N (usesAll s)) ∧ Chg (fun q => q = g) w w' := by
  have hen := entersUsed
  unfold Enters at hen
  obtain ⟨A, cA, rfl, _, _, _⟩ := rd_part hs
  have HT := Lib.hid (fun k W => tests_calls k W)
  have HFo := Lib.hid (fun o W => fieldsOf_calls o W)
  have HST := Lib.hid (fun (vals R : List Int) (v : Int) (hU : vals ++ v :: R = usesAll s) => (hk.step hU).2.2)
  have HU1 := Lib.hid (fun (pb po : Nat) (vals R : List Int) (v : Int) (W : World) (hU : vals ++ v :: R = usesAll s) h1 h2 h3 => used1_calls hk g c bx pb po vals R v W hU h1 h2 h3)
  obtain ⟨z0, _⟩ := cell_of_block hsb
  have y0 : w.cell? ⟨sb, 0, none⟩ = some (.slice A s.parts.length cA) := (z0 0).trans rfl
  clear z0
  go_enter Tryz.func148, Tryz.ntmps148
  go_wp2_with fail
  clear y0
  go_loopw [17] (fun i wr => ∃ (m : Nat) (vals : List Int), m ≤ s.parts.length ∧ i = .int .i64 m ∧ Hid (vals ++ (s.parts.drop m).flatMap partU = usesAll s) ∧ Ow true 3 Rp.int wr (fun q => q = g) (.slice (some ⟨g, 0, none⟩) N c) (cntL N vals) ∧ Chg (fun q => q = g) w wr) (fun i _ => s.parts.length - (intOf i).toNat)
  case atStart => exact ⟨0, [], Nat.zero_le _, rfl, Lib.hid rfl, hO, Chg.refl _ _⟩
  case round =>
    clear hO
    obtain ⟨m, vals, hm, rfl, HV, HO, hC⟩ := hrel
    rename World => wo
    by_cases hlt : m < s.parts.length
    · have hsr := hs.move (hC.same (fun q hq => hF q hq))
      have hsb1 := hC.blk hsb hsg
      have hb1 := hC.blk hb hbg
      obtain ⟨_, _, hAe, _, _, hrow⟩ := rd_part hsr
      cases hAe
      rcases hrow with hnil | ⟨b, o, rfl, hbl, hcell⟩
      · rw [hnil] at hlt; simp at hlt
      have hFb : b ≠ g := by
        obtain ⟨_, _, hAe, _, _, hh⟩ := hs
        rcases hh with hh | ⟨_, _, he, hFb, _⟩
        · rw [hh] at hlt; simp at hlt
        · cases hAe; cases he; exact hF b hFb
      obtain ⟨_, _, _, _, hp, ⟨B1, d1, rfl, h1⟩, hcode, ⟨B3, d3, rfl, h3⟩, hargs⟩ := hcell m hlt
      obtain ⟨B2, d2, rfl, _⟩ := id hcode
      obtain ⟨B4, d4, rfl, _⟩ := id hargs
      obtain ⟨l0, l1, l2, l3, l4⟩ := hx2 _ (List.getElem_mem hlt)
      have HV2 : Hid (vals ++ (s.parts[m].code.flatMap usesI ++ (endsS s.parts[m] ++ (s.parts.drop (m + 1)).flatMap partU)) = usesAll s) := Lib.hid (by
        have := HV.out
        rw [List.drop_eq_getElem_cons hlt, List.flatMap_cons] at this
        unfold partU at this ⊢
        rw [List.append_assoc] at this
        exact this)
      have HES : Hid (endsS s.parts[m] = (if s.parts[m].go == 2 || s.parts[m].go == 5 then [s.parts[m].test] else []) ++ s.parts[m].args.flatten) := Lib.hid rfl
      clear hcell h1 h3 HV hsr
      obtain ⟨R1, hR1⟩ : ∃ R1, R1 = (s.parts.drop (m + 1)).flatMap partU := ⟨_, rfl⟩
      rw [← hR1] at HV2
      have HR1 := Lib.hid hR1
      clear hR1
      generalize s.parts[m] = p at *
      obtain ⟨z0, _⟩ := cell_of_block hsb1
      have y0 : wo.cell? ⟨sb, 0, none⟩ = some (.slice (some ⟨b, o, none⟩) s.parts.length cA) := (z0 0).trans rfl
      clear z0
      have q1 := hp.2.1
      have i0 : (0 : Int) ≤ (m : Int) := Int.natCast_nonneg _
      have i1 : (m : Int) < (s.parts.length : Int) := by omega
      go_wp2_with fail
      clear y0 q1
      go_loopw [31] (fun i wr => ∃ (j : Nat) (vals : List Int), j ≤ p.code.length ∧ i = .int .i64 j ∧ Hid (vals ++ ((p.code.drop j).flatMap usesI ++ (endsS p ++ R1)) = usesAll s) ∧ Ow true 3 Rp.int wr (fun q => q = g) (.slice (some ⟨g, 0, none⟩) N c) (cntL N vals) ∧ Chg (fun q => q = g) wo wr) (fun i _ => p.code.length - (intOf i).toNat)
      case atStart => exact ⟨0, vals, Nat.zero_le _, rfl, HV2, HO, Chg.refl _ _⟩
      case round =>
        clear HO HV2
        obtain ⟨j, vals, hj, rfl, HV, HO, hC2⟩ := hrel
        rename World => wi
        have hpi := partAt_chg hp hC2 hFb
        have hb2 := hC2.blk hb1 hbg
        by_cases hjt : j < p.code.length
        · have hcr := hcode.move (hC2.same (fun q hq => hF q hq))
          obtain ⟨_, _, hce, _, _, hrc⟩ := rd_flat hcr
          cases hce
          rcases hrc with hnil | ⟨b5, o5, rfl, hb5, hcc⟩
          · rw [hnil] at hjt; simp at hjt
          obtain ⟨e0, e1, e2, e3, e4, e5⟩ := hcc j hjt
          have hFc : b5 ≠ g := by
            obtain ⟨_, _, hce, _, _, hh⟩ := hcode
            rcases hh with hh | ⟨_, _, he, hFb, _⟩
            · rw [hh] at hjt; simp at hjt
            · cases hce; cases he; exact hF b5 hFb
          have HVj : Hid (vals ++ (usesI p.code[j] ++ ((p.code.drop (j + 1)).flatMap usesI ++ (endsS p ++ R1))) = usesAll s) := Lib.hid (by
            have := HV.out
            rw [List.drop_eq_getElem_cons hjt, List.flatMap_cons, List.append_assoc] at this
            exact this)
          have HUX : Hid (usesI p.code[j] = (if fA p.code[j].op then [p.code[j].a] else []) ++ (if fB p.code[j].op then [p.code[j].b] else [])) := Lib.hid rfl
          have hgl : g < wi.heap.size := (HO.lt_size (k := g) rfl).2
          have q1 := hpi.2.1
          clear hcc hcr HV
          generalize p.code[j] = x at *
          have HF1 := Lib.hid (HFo.out x.op wi)
          unfold fieldsV at HF1
          generalize fD x.op = rd at *
          generalize fA x.op = ra at *
          generalize fB x.op = rb at *
          generalize fN x.op = rn at *
          generalize fT x.op = rt at *
          generalize fK x.op = rk at *
          have j0 : (0 : Int) ≤ (j : Int) := Int.natCast_nonneg _
          have j1 : (j : Int) < (p.code.length : Int) := by omega
          go_wp2_with fail
          refine HF1.out.mono ?_
          rintro e w1 ⟨rfl, hbf⟩
          clear HF1 e0 e1 e2 e5 hcode hargs
          cases ra
          · cases rb
            · have hbn := below_new (w := w1) (.cells #[.bool rd, .bool false, .bool false, .bool rn, .bool rt] 118)
              have hbN := below_then hbf hbn
              have bf := heap_alloc_new w1 (.cells #[.bool rd, .bool false, .bool false, .bool rn, .bool rt] 118)
              obtain ⟨zf, _⟩ := cell_of_block bf
              have f1 : (w1.alloc (.cells #[.bool rd, .bool false, .bool false, .bool rn, .bool rt] 118)).cell? ⟨w1.heap.size, 1, none⟩ = some (.bool false) := (zf 1).trans rfl
              have f2 : (w1.alloc (.cells #[.bool rd, .bool false, .bool false, .bool rn, .bool rt] 118)).cell? ⟨w1.heap.size, 2, none⟩ = some (.bool false) := (zf 2).trans rfl
              have q1' := cell_below hbN q1
              have e3' := cell_below hbN e3
              have e4' := cell_below hbN e4
              have hb3 := blk_below hb2 hbN
              have HO3 := HO.below hbN
              have hC3 := hC2.trans (Chg.of_below hbN)
              have hsz := hbf.size
              clear zf q1 e3 e4 hbn hbN hbf
              have HVx : Hid (vals ++ (((p.code.drop (j + 1)).flatMap usesI ++ (endsS p ++ R1))) = usesAll s) := Lib.hid (by have := HVj.out; rw [HUX.out] at this; simpa using this)
              go_wp2
              go_roundw
              case rel => exact ⟨j + 1, vals, by omega, by go_num, HVx, HO3, hC3⟩
              case measure => simp [intOf]; omega
            · have hbn := below_new (w := w1) (.cells #[.bool rd, .bool false, .bool true, .bool rn, .bool rt] 118)
              have hbN := below_then hbf hbn
              have bf := heap_alloc_new w1 (.cells #[.bool rd, .bool false, .bool true, .bool rn, .bool rt] 118)
              obtain ⟨zf, _⟩ := cell_of_block bf
              have f1 : (w1.alloc (.cells #[.bool rd, .bool false, .bool true, .bool rn, .bool rt] 118)).cell? ⟨w1.heap.size, 1, none⟩ = some (.bool false) := (zf 1).trans rfl
              have f2 : (w1.alloc (.cells #[.bool rd, .bool false, .bool true, .bool rn, .bool rt] 118)).cell? ⟨w1.heap.size, 2, none⟩ = some (.bool true) := (zf 2).trans rfl
              have q1' := cell_below hbN q1
              have e3' := cell_below hbN e3
              have e4' := cell_below hbN e4
              have hb3 := blk_below hb2 hbN
              have HO3 := HO.below hbN
              have hC3 := hC2.trans (Chg.of_below hbN)
              have hsz := hbf.size
              clear zf q1 e3 e4 hbn hbN hbf
              have HVx : Hid (vals ++ (x.b :: ((p.code.drop (j + 1)).flatMap usesI ++ (endsS p ++ R1))) = usesAll s) := Lib.hid (by have := HVj.out; rw [HUX.out] at this; simpa using this)
              go_wp2_with fail
              refine (HU1.out b5 (o5 + j * 6 + 4) vals (((p.code.drop (j + 1)).flatMap usesI ++ (endsS p ++ R1))) x.b _ HVx.out e4' hb3 HO3).mono ?_
              rintro e wc0 ⟨rfl, HO4, hCc0⟩
              have HV4 : Hid ((vals ++ [x.b]) ++ (((p.code.drop (j + 1)).flatMap usesI ++ (endsS p ++ R1))) = usesAll s) := Lib.hid (HST.out _ _ _ HVx.out)
              have hC4 := hC3.trans hCc0
              go_wp2
              go_roundw
              case rel => exact ⟨j + 1, (vals ++ [x.b]), by omega, by go_num, HV4, HO4, hC4⟩
              case measure => simp [intOf]; omega
          · cases rb
            · have hbn := below_new (w := w1) (.cells #[.bool rd, .bool true, .bool false, .bool rn, .bool rt] 118)
              have hbN := below_then hbf hbn
              have bf := heap_alloc_new w1 (.cells #[.bool rd, .bool true, .bool false, .bool rn, .bool rt] 118)
              obtain ⟨zf, _⟩ := cell_of_block bf
              have f1 : (w1.alloc (.cells #[.bool rd, .bool true, .bool false, .bool rn, .bool rt] 118)).cell? ⟨w1.heap.size, 1, none⟩ = some (.bool true) := (zf 1).trans rfl
              have f2 : (w1.alloc (.cells #[.bool rd, .bool true, .bool false, .bool rn, .bool rt] 118)).cell? ⟨w1.heap.size, 2, none⟩ = some (.bool false) := (zf 2).trans rfl
              have q1' := cell_below hbN q1
              have e3' := cell_below hbN e3
              have e4' := cell_below hbN e4
              have hb3 := blk_below hb2 hbN
              have HO3 := HO.below hbN
              have hC3 := hC2.trans (Chg.of_below hbN)
              have hsz := hbf.size
              clear zf q1 e3 e4 hbn hbN hbf
              have HVx : Hid (vals ++ (x.a :: ((p.code.drop (j + 1)).flatMap usesI ++ (endsS p ++ R1))) = usesAll s) := Lib.hid (by have := HVj.out; rw [HUX.out] at this; simpa using this)
              go_wp2_with fail
              refine (HU1.out b5 (o5 + j * 6 + 3) vals (((p.code.drop (j + 1)).flatMap usesI ++ (endsS p ++ R1))) x.a _ HVx.out e3' hb3 HO3).mono ?_
              rintro e wc0 ⟨rfl, HO4, hCc0⟩
              have HV4 : Hid ((vals ++ [x.a]) ++ (((p.code.drop (j + 1)).flatMap usesI ++ (endsS p ++ R1))) = usesAll s) := Lib.hid (HST.out _ _ _ HVx.out)
              have hC4 := hC3.trans hCc0
              have f2 := hCc0.cell f2 (fun h => by have h : w1.heap.size = g := h; omega)
              go_wp2
              go_roundw
              case rel => exact ⟨j + 1, (vals ++ [x.a]), by omega, by go_num, HV4, HO4, hC4⟩
              case measure => simp [intOf]; omega
            · have hbn := below_new (w := w1) (.cells #[.bool rd, .bool true, .bool true, .bool rn, .bool rt] 118)
              have hbN := below_then hbf hbn
              have bf := heap_alloc_new w1 (.cells #[.bool rd, .bool true, .bool true, .bool rn, .bool rt] 118)
              obtain ⟨zf, _⟩ := cell_of_block bf
              have f1 : (w1.alloc (.cells #[.bool rd, .bool true, .bool true, .bool rn, .bool rt] 118)).cell? ⟨w1.heap.size, 1, none⟩ = some (.bool true) := (zf 1).trans rfl
              have f2 : (w1.alloc (.cells #[.bool rd, .bool true, .bool true, .bool rn, .bool rt] 118)).cell? ⟨w1.heap.size, 2, none⟩ = some (.bool true) := (zf 2).trans rfl
              have q1' := cell_below hbN q1
              have e3' := cell_below hbN e3
              have e4' := cell_below hbN e4
              have hb3 := blk_below hb2 hbN
              have HO3 := HO.below hbN
              have hC3 := hC2.trans (Chg.of_below hbN)
              have hsz := hbf.size
              clear zf q1 e3 e4 hbn hbN hbf
              have HVx : Hid (vals ++ (x.a :: x.b :: ((p.code.drop (j + 1)).flatMap usesI ++ (endsS p ++ R1))) = usesAll s) := Lib.hid (by have := HVj.out; rw [HUX.out] at this; simpa using this)
              go_wp2_with fail
              refine (HU1.out b5 (o5 + j * 6 + 3) vals (x.b :: ((p.code.drop (j + 1)).flatMap usesI ++ (endsS p ++ R1))) x.a _ HVx.out e3' hb3 HO3).mono ?_
              rintro e wc0 ⟨rfl, HO4, hCc0⟩
              have HV4 : Hid ((vals ++ [x.a]) ++ (x.b :: ((p.code.drop (j + 1)).flatMap usesI ++ (endsS p ++ R1))) = usesAll s) := Lib.hid (HST.out _ _ _ HVx.out)
              have hC4 := hC3.trans hCc0
              have q1' := hCc0.cell q1' hFb
              have e4' := hCc0.cell e4' hFc
              have hb4 := hCc0.blk hb3 hbg
              have f2 := hCc0.cell f2 (fun h => by have h : w1.heap.size = g := h; omega)
              clear f1 e3'
              go_wp2_with fail
              refine (HU1.out b5 (o5 + j * 6 + 4) (vals ++ [x.a]) (((p.code.drop (j + 1)).flatMap usesI ++ (endsS p ++ R1))) x.b _ HV4.out e4' hb4 HO4).mono ?_
              rintro e wc1 ⟨rfl, HO5, hCc1⟩
              have HV5 : Hid (((vals ++ [x.a]) ++ [x.b]) ++ (((p.code.drop (j + 1)).flatMap usesI ++ (endsS p ++ R1))) = usesAll s) := Lib.hid (HST.out _ _ _ HV4.out)
              have hC5 := hC4.trans hCc1
              go_wp2
              go_roundw
              case rel => exact ⟨j + 1, ((vals ++ [x.a]) ++ [x.b]), by omega, by go_num, HV5, HO5, hC5⟩
              case measure => simp [intOf]; omega
        · obtain rfl : j = p.code.length := by omega
          have HVe : Hid (vals ++ (endsS p ++ R1) = usesAll s) := Lib.hid (by have := HV.out; rw [List.drop_length, List.flatMap_nil, List.nil_append] at this; exact this)
          clear HV
          have q2 := hpi.2.2.1
          have q3 := hpi.2.2.2.1
          have HTe : Hid ((p.go == 2 || p.go == 5) = testB p.go) := Lib.hid rfl
          have HT1 := Lib.hid (HT.out p.go wi)
          rw [HTe.out] at HT1
          rw [HTe.out] at HES
          generalize testB p.go = rt at *
          go_wp2_with fail
          refine HT1.out.mono ?_
          rintro e w1 ⟨rfl, rfl⟩
          clear HT1
          cases rt
          · have HVa : Hid (vals ++ (p.args.flatten ++ R1) = usesAll s) := Lib.hid (by have := HVe.out; rw [HES.out] at this; simpa using this)
            clear HVe HES q3
            have hpa := partAt_chg hp hC2 hFb
            have q5 := hpa.2.2.2.2.2
            clear hpi hpa
            go_wp2_with fail
            go_loopw [84] (fun i wr => ∃ (n : Nat) (vals : List Int), n ≤ p.args.length ∧ i = .int .i64 n ∧ Hid (vals ++ ((p.args.drop n).flatten ++ R1) = usesAll s) ∧ Ow true 3 Rp.int wr (fun q => q = g) (.slice (some ⟨g, 0, none⟩) N c) (cntL N vals) ∧ Chg (fun q => q = g) wo wr) (fun i _ => p.args.length - (intOf i).toNat)
            case atStart => exact ⟨0, vals, Nat.zero_le _, rfl, HVa, HO, hC2⟩
            case round =>
              clear HO HVa hC2
              obtain ⟨n, vals, hn, rfl, HV, HO, hC3⟩ := hrel
              rename World => wx
              by_cases hnt : n < p.args.length
              · have har := hargs.move (hC3.same (fun q hq => hF q hq))
                obtain ⟨_, _, hae, _, _, hra⟩ := rd_ints har
                cases hae
                rcases hra with hnil | ⟨b6, o6, rfl, hb6, hca⟩
                · rw [hnil] at hnt; simp at hnt
                obtain ⟨u, cu, hu⟩ := hca n hnt
                have hul := l4 _ (List.getElem_mem hnt)
                have HVn : Hid (vals ++ (p.args[n] ++ ((p.args.drop (n + 1)).flatten ++ R1)) = usesAll s) := Lib.hid (by
                  have := HV.out
                  rw [List.drop_eq_getElem_cons hnt, List.flatten_cons, List.append_assoc] at this
                  exact this)
                clear hca har HV
                generalize p.args[n] = a at *
                obtain ⟨Au, cu2, rfl, _⟩ := id hu
                have n0 : (0 : Int) ≤ (n : Int) := Int.natCast_nonneg _
                have n1 : (n : Int) < (p.args.length : Int) := by omega
                have hbx := hC3.blk hb1 hbg
                go_wp2_with fail
                clear cu
                go_loopw [90] (fun i wr => ∃ (j : Nat) (vals : List Int), j ≤ a.length ∧ i = .int .i64 j ∧ Hid (vals ++ (a.drop j ++ ((p.args.drop (n + 1)).flatten ++ R1)) = usesAll s) ∧ Ow true 3 Rp.int wr (fun q => q = g) (.slice (some ⟨g, 0, none⟩) N c) (cntL N vals) ∧ Chg (fun q => q = g) wx wr) (fun i _ => a.length - (intOf i).toNat)
                case atStart => exact ⟨0, vals, Nat.zero_le _, rfl, HVn, HO, Chg.refl _ _⟩
                case round =>
                  clear HO HVn
                  obtain ⟨j, vals, hj, rfl, HV, HO, hC4⟩ := hrel
                  rename World => wy
                  by_cases hjt : j < a.length
                  · have hur := hu.move (hC4.same (fun q hq => hF q hq))
                    obtain ⟨_, _, hue, _, _, hru⟩ := rd_int hur
                    cases hue
                    rcases hru with hnil | ⟨b7, o7, rfl, hb7, hcu⟩
                    · rw [hnil] at hjt; simp at hjt
                    have cv := hcu j hjt
                    have HVj : Hid (vals ++ (a[j] :: (a.drop (j + 1) ++ ((p.args.drop (n + 1)).flatten ++ R1))) = usesAll s) := Lib.hid (by
                      have := HV.out
                      rw [List.drop_eq_getElem_cons hjt, List.cons_append] at this
                      exact this)
                    clear hcu hur HV
                    generalize a[j] = v at *
                    have j0 : (0 : Int) ≤ (j : Int) := Int.natCast_nonneg _
                    have j1 : (j : Int) < (a.length : Int) := by omega
                    have hby := hC4.blk hbx hbg
                    go_wp2_with fail
                    refine (HU1.out b7 (o7 + j) vals _ v _ HVj.out cv hby HO).mono ?_
                    rintro e wz ⟨rfl, HO2, hCz⟩
                    have HV2 := Lib.hid (HST.out _ _ _ HVj.out)
                    have hC5 := hC4.trans hCz
                    clear HVj cv HO hCz hC4
                    go_wp2
                    go_roundw
                    case rel => exact ⟨j + 1, vals ++ [v], by omega, by go_num, HV2, HO2, hC5⟩
                    case measure => simp [intOf]; omega
                  · obtain rfl : j = a.length := by omega
                    have HV2 : Hid (vals ++ ((p.args.drop (n + 1)).flatten ++ R1) = usesAll s) := Lib.hid (by have := HV.out; rw [List.drop_length, List.nil_append] at this; exact this)
                    have hC5 := hC3.trans hC4
                    go_wp2
                    go_roundw
                    case rel => exact ⟨n + 1, vals, by omega, by go_num, HV2, HO, hC5⟩
                    case measure => simp [intOf]; omega
              · obtain rfl : n = p.args.length := by omega
                have HV2 : Hid (vals ++ R1 = usesAll s) := Lib.hid (by have := HV.out; rw [List.drop_length, List.flatten_nil, List.nil_append] at this; exact this)
                have hC5 := hC.trans hC3
                go_wp2
                go_roundw
                case rel => exact ⟨m + 1, vals, by omega, by go_num, by rw [← HR1.out]; exact HV2, HO, hC5⟩
                case measure => simp [intOf]; omega
          · have HVt : Hid (vals ++ (p.test :: (p.args.flatten ++ R1)) = usesAll s) := Lib.hid (by have := HVe.out; rw [HES.out] at this; simpa using this)
            clear HVe HES
            go_wp2_with fail
            refine (HU1.out b (o + m * 6 + 3) vals _ p.test _ HVt.out q3 hb2 HO).mono ?_
            rintro e wt ⟨rfl, HOt, hCt⟩
            have HVa := Lib.hid (HST.out _ _ _ HVt.out)
            have hCa := hC2.trans hCt
            clear HVt q3 q2 hb2 HO hCt hC2
            have hpa := partAt_chg hp hCa hFb
            have q5 := hpa.2.2.2.2.2
            clear hpi hpa
            go_wp2_with fail
            go_loopw [84] (fun i wr => ∃ (n : Nat) (vals : List Int), n ≤ p.args.length ∧ i = .int .i64 n ∧ Hid (vals ++ ((p.args.drop n).flatten ++ R1) = usesAll s) ∧ Ow true 3 Rp.int wr (fun q => q = g) (.slice (some ⟨g, 0, none⟩) N c) (cntL N vals) ∧ Chg (fun q => q = g) wo wr) (fun i _ => p.args.length - (intOf i).toNat)
            case atStart => exact ⟨0, (vals ++ [p.test]), Nat.zero_le _, rfl, HVa, HOt, hCa⟩
            case round =>
              clear HOt HVa hCa
              obtain ⟨n, vals, hn, rfl, HV, HO, hC3⟩ := hrel
              rename World => wx
              by_cases hnt : n < p.args.length
              · have har := hargs.move (hC3.same (fun q hq => hF q hq))
                obtain ⟨_, _, hae, _, _, hra⟩ := rd_ints har
                cases hae
                rcases hra with hnil | ⟨b6, o6, rfl, hb6, hca⟩
                · rw [hnil] at hnt; simp at hnt
                obtain ⟨u, cu, hu⟩ := hca n hnt
                have hul := l4 _ (List.getElem_mem hnt)
                have HVn : Hid (vals ++ (p.args[n] ++ ((p.args.drop (n + 1)).flatten ++ R1)) = usesAll s) := Lib.hid (by
                  have := HV.out
                  rw [List.drop_eq_getElem_cons hnt, List.flatten_cons, List.append_assoc] at this
                  exact this)
                clear hca har HV
                generalize p.args[n] = a at *
                obtain ⟨Au, cu2, rfl, _⟩ := id hu
                have n0 : (0 : Int) ≤ (n : Int) := Int.natCast_nonneg _
                have n1 : (n : Int) < (p.args.length : Int) := by omega
                have hbx := hC3.blk hb1 hbg
                go_wp2_with fail
                clear cu
                go_loopw [90] (fun i wr => ∃ (j : Nat) (vals : List Int), j ≤ a.length ∧ i = .int .i64 j ∧ Hid (vals ++ (a.drop j ++ ((p.args.drop (n + 1)).flatten ++ R1)) = usesAll s) ∧ Ow true 3 Rp.int wr (fun q => q = g) (.slice (some ⟨g, 0, none⟩) N c) (cntL N vals) ∧ Chg (fun q => q = g) wx wr) (fun i _ => a.length - (intOf i).toNat)
                case atStart => exact ⟨0, vals, Nat.zero_le _, rfl, HVn, HO, Chg.refl _ _⟩
                case round =>
                  clear HO HVn
                  obtain ⟨j, vals, hj, rfl, HV, HO, hC4⟩ := hrel
                  rename World => wy
                  by_cases hjt : j < a.length
                  · have hur := hu.move (hC4.same (fun q hq => hF q hq))
                    obtain ⟨_, _, hue, _, _, hru⟩ := rd_int hur
                    cases hue
                    rcases hru with hnil | ⟨b7, o7, rfl, hb7, hcu⟩
                    · rw [hnil] at hjt; simp at hjt
                    have cv := hcu j hjt
                    have HVj : Hid (vals ++ (a[j] :: (a.drop (j + 1) ++ ((p.args.drop (n + 1)).flatten ++ R1))) = usesAll s) := Lib.hid (by
                      have := HV.out
                      rw [List.drop_eq_getElem_cons hjt, List.cons_append] at this
                      exact this)
                    clear hcu hur HV
                    generalize a[j] = v at *
                    have j0 : (0 : Int) ≤ (j : Int) := Int.natCast_nonneg _
                    have j1 : (j : Int) < (a.length : Int) := by omega
                    have hby := hC4.blk hbx hbg
                    go_wp2_with fail
                    refine (HU1.out b7 (o7 + j) vals _ v _ HVj.out cv hby HO).mono ?_
                    rintro e wz ⟨rfl, HO2, hCz⟩
                    have HV2 := Lib.hid (HST.out _ _ _ HVj.out)
                    have hC5 := hC4.trans hCz
                    clear HVj cv HO hCz hC4
                    go_wp2
                    go_roundw
                    case rel => exact ⟨j + 1, vals ++ [v], by omega, by go_num, HV2, HO2, hC5⟩
                    case measure => simp [intOf]; omega
                  · obtain rfl : j = a.length := by omega
                    have HV2 : Hid (vals ++ ((p.args.drop (n + 1)).flatten ++ R1) = usesAll s) := Lib.hid (by have := HV.out; rw [List.drop_length, List.nil_append] at this; exact this)
                    have hC5 := hC3.trans hC4
                    go_wp2
                    go_roundw
                    case rel => exact ⟨n + 1, vals, by omega, by go_num, HV2, HO, hC5⟩
                    case measure => simp [intOf]; omega
              · obtain rfl : n = p.args.length := by omega
                have HV2 : Hid (vals ++ R1 = usesAll s) := Lib.hid (by have := HV.out; rw [List.drop_length, List.flatten_nil, List.nil_append] at this; exact this)
                have hC5 := hC.trans hC3
                go_wp2
                go_roundw
                case rel => exact ⟨m + 1, vals, by omega, by go_num, by rw [← HR1.out]; exact HV2, HO, hC5⟩
                case measure => simp [intOf]; omega
    · obtain rfl : m = s.parts.length := by omega
      have HU : Hid (vals = usesAll s) := Lib.hid (by have := HV.out; rw [List.drop_length, List.flatMap_nil, List.append_nil] at this; exact this)
      go_wp2
      refine bodyPost_end (results_none (by first | rfl | exact Tryz.results148 | kernel_rfl) _ _ _) rfl ?_
      exact ⟨rfl, by rw [← HU.out]; exact HO, hC⟩
end Go.Proofs.YtnfaibenekninaaGreat.L

set_option linter.unusedVariables false
set_option linter.unusedSimpArgs false
namespace Go.Proofs.YtnfaibenekninaaGreat.L
open Go.RowKit
theorem GoodP.usesAll_S {s : Sa} (h : GoodP s) : usesAll s = s.parts.flatMap (fun p => p.code.flatMap usesS ++ endsS p) := by
  unfold usesAll
  have key : ∀ l : List Pt, (∀ p ∈ l, p ∈ s.parts) → l.flatMap partU = l.flatMap (fun p => p.code.flatMap usesS ++ endsS p) := by
    intro l
    induction l with
    | nil => intro _; rfl
    | cons p t ih =>
      intro hl
      have hp := hl p List.mem_cons_self
      rw [List.flatMap_cons, List.flatMap_cons, ih (fun q hq => hl q (List.mem_cons_of_mem _ hq))]
      congr 1
      unfold partU
      congr 1
      have k2 : ∀ c : List Fl, (∀ x ∈ c, x ∈ p.code) → c.flatMap usesI = c.flatMap usesS := by
        intro c
        induction c with
        | nil => intro _; rfl
        | cons x u ih2 =>
          intro hc
          rw [List.flatMap_cons, List.flatMap_cons, ih2 (fun y hy => hc y (List.mem_cons_of_mem _ hy)), h.uses_eq hp (hc x List.mem_cons_self)]
      exact k2 _ (fun _ hx => hx)
  exact key _ (fun _ hp => hp)
theorem rd_int_in {w : World} {F : Nat → Prop} {v : Value} {l : List Int} (h : Rp.Rd Rp.int w F v l) : ∃ A c, v = .slice A l.length c ∧ l.length ≤ c ∧ c ≤ 9223372036854775807 ∧
    (l = [] ∨ ∃ b o, A = some ⟨b, o, none⟩ ∧ F b ∧ ∀ (k : Nat) (hk : k < l.length), w.cell? ⟨b, o + k, none⟩ = some (.int .i64 l[k])) := by
  have h2 := rd_int h
  obtain ⟨A, c, rfl, h3, h4, h5⟩ := h2
  refine ⟨A, c, rfl, h3, h4, ?_⟩
  obtain ⟨_, _, hae, _, _, h6⟩ := h
  cases hae
  rcases h5 with h5 | ⟨b, o, rfl, _, h5⟩
  · exact .inl h5
  · rcases h6 with h6 | ⟨_, _, he, hF, _⟩
    · exact .inl h6
    · cases he; exact .inr ⟨b, o, rfl, hF, h5⟩
theorem bump_own {s : Sa} {N : Nat} (hk : UOk s N) {g c : Nat} {vals R : List Int} {v : Int} {W : World} (hU : vals ++ v :: R = usesAll s) (hO : Ow true 3 Rp.int W (fun q => q = g) (.slice (some ⟨g, 0, none⟩) N c) (cntL N vals)) :
    ∃ (n : Nat) (y : Int), v = n ∧ n < N ∧ 0 ≤ y ∧ y < 2305843009213693952 ∧ W.cell? ⟨g, n, none⟩ = some (.int .i64 y) ∧ W.frozen? ⟨g, n, none⟩ = false ∧
      Ow true 3 Rp.int (W.setCell ⟨g, n, none⟩ (.int .i64 (y + 1))) (fun q => q = g) (.slice (some ⟨g, 0, none⟩) N c) (cntL N (vals ++ [v])) ∧ Chg (fun q => q = g) W (W.setCell ⟨g, n, none⟩ (.int .i64 (y + 1))) := by
  obtain ⟨⟨h0, h1⟩, hl, _⟩ := hk.step hU
  obtain ⟨n, rfl⟩ := Int.eq_ofNat_of_zero_le h0
  have hcl := cntL_len N vals
  have hn : n < (cntL N vals).length := by omega
  have hle := cntL_le N vals n
  have hg : (cntL N vals).getD n 0 = (cntL N vals)[n] := by rw [List.getD_eq_getElem?_getD, List.getElem?_eq_getElem hn]; rfl
  rw [hg] at hle
  have HO2 := hO.set1 rfl hn (y := (cntL N vals)[n] + 1) (u := .int .i64 ((cntL N vals)[n] + 1)) rfl
  have he : (cntL N vals).set n ((cntL N vals)[n] + 1) = cntL N (vals ++ [(n : Int)]) := by rw [cntL_snoc]; unfold bumpL; rw [Int.toNat_natCast, hg]
  rw [he] at HO2
  obtain ⟨d1, d2⟩ := hO.int_at hn
  exact ⟨n, _, rfl, by omega, hle.1, by omega, d1, d2, HO2, Chg.set rfl⟩
set_option maxRecDepth 100000 in
set_option maxHeartbeats 8000000 in
theorem countS_calls {F : Nat → Prop} {s : Sa} {N : Nat} (hk : UOk s N) (hUS : usesAll s = s.parts.flatMap (fun p => p.code.flatMap usesS ++ endsS p)) (vparts : Value) (w : World) (hs : Rp.Rd part w F vparts s.parts) (hx1 : s.parts.length ≤ 1048576) (hx2 : ∀ p ∈ s.parts, PtLim p) :
    Calls Tryz.prog 119 #[saV s vparts] w fun e w' => ∃ v', e = .returned v' ∧ Ow true 3 Rp.int w' (fun q => w.heap.size ≤ q) v' (cntL N (usesAll s)) ∧ Below w.heap.size w w' := by
  replace hs := hs.bound
  have hV := hk.V
  have hN := hk.le
  obtain ⟨A, c, rfl, _, _, hrow⟩ := rd_part hs
  have HE := Lib.hid (fun (p : Pt) v1 v2 v3 v4 W G (h1 : Rp.Rd Rp.int W G v1 p.params) (h2 : Rp.Rd flat W G v2 p.code) (h3 : Rp.Rd Rp.int W G v3 p.next) (h4 : Rp.Rd (Rp.sl Rp.int) W G v4 p.args) hl => l9Ends_calls p v1 v2 v3 v4 W h1 h2 h3 h4 hl)
  have HU7 := Lib.hid (fun x W => l9Uses_calls x W)
  unfold saV ptV flV at *
  rw [← hV]
  have hUS := Lib.hid hUS
  have HST := Lib.hid (fun (vals R : List Int) (v : Int) (hU : vals ++ v :: R = usesAll s) => (hk.step hU).2.2)
  have HBO := Lib.hid (fun (g c : Nat) (vals R : List Int) (v : Int) (W : World) (hU : vals ++ v :: R = usesAll s) hO => bump_own hk (g := g) (c := c) (W := W) hU hO)
  clear hV
  have hmk := mk_all Tryz.underlying59 infoInt N (by omega) (by omega)
  have j0 : (0 : Int) ≤ (N : Int) := Int.natCast_nonneg _
  have j1 : (N : Int) ≤ 250 := by omega
  have hB0 : Below w.heap.size w (w.alloc (.cells #[.slice A s.parts.length c, .int .i64 (N : Int)] 28)) := below_new _
  have b0 := heap_alloc_new w (.cells #[.slice A s.parts.length c, .int .i64 (N : Int)] 28)
  go_enter Tryz.func119, Tryz.ntmps119
  go_wp2_with fail
  have hsz : (w.alloc (.cells #[.slice A s.parts.length c, .int .i64 (N : Int)] 28)).heap.size = w.heap.size + 1 := by simp
  have hB2 := hB0.alloc hB0.size (.cells (madeCells #[.int .i64 0] N) 3)
  have b2 := heap_alloc_new (w.alloc (.cells #[.slice A s.parts.length c, .int .i64 (N : Int)] 28)) (.cells (madeCells #[.int .i64 0] N) 3)
  rw [hsz] at b2
  have hO := ow_zero b2 (by omega)
  clear b2 hsz b0 hB0 hmk
  go_loopw [18] (fun i wr => ∃ (m : Nat) (vals : List Int), m ≤ s.parts.length ∧ i = .int .i64 m ∧ Hid (vals ++ (s.parts.drop m).flatMap (fun p => p.code.flatMap usesS ++ endsS p) = usesAll s) ∧ Ow true 3 Rp.int wr (fun q => q = w.heap.size + 1) (.slice (some ⟨w.heap.size + 1, 0, none⟩) N N) (cntL N vals) ∧ Below w.heap.size w wr) (fun i _ => s.parts.length - (intOf i).toNat)
  case atStart => exact ⟨0, [], Nat.zero_le _, rfl, Lib.hid (by rw [hUS.out]; rfl), hO, hB2⟩
  case round =>
    clear hO hB2
    obtain ⟨m, vals, hm, rfl, HV, HO, HB⟩ := hrel
    rename World => wo
    by_cases hlt : m < s.parts.length
    · rcases hrow with hnil | ⟨b, o, rfl, hbl, hcell⟩
      · rw [hnil] at hlt; simp at hlt
      obtain ⟨_, _, _, _, hp, h1, h2, h3, h4⟩ := hcell m hlt
      obtain ⟨A1, c1, rfl, _⟩ := id h1
      obtain ⟨A2, c2, rfl, _, _, hr2⟩ := rd_flat h2
      obtain ⟨A3, c3, rfl, _⟩ := id h3
      obtain ⟨A4, c4, rfl, _⟩ := id h4
      obtain ⟨q0, q1, q2, q3, q4, q5⟩ := partAt_below hp HB
      have hlp := hx2 _ (List.getElem_mem hlt)
      have hl1 := hlp.2.1
      have HV2 : Hid (vals ++ (s.parts[m].code.flatMap usesS ++ (endsS s.parts[m] ++ (s.parts.drop (m + 1)).flatMap (fun p => p.code.flatMap usesS ++ endsS p))) = usesAll s) := Lib.hid (by
        have := HV.out
        rw [List.drop_eq_getElem_cons hlt, List.flatMap_cons, List.append_assoc] at this
        exact this)
      clear hcell hp HV
      obtain ⟨R1, hR1⟩ : ∃ R1, R1 = (s.parts.drop (m + 1)).flatMap (fun p => p.code.flatMap usesS ++ endsS p) := ⟨_, rfl⟩
      rw [← hR1] at HV2
      have HR1 := Lib.hid hR1
      clear hR1
      generalize s.parts[m] = p at *
      have HE1 := Lib.hid (fun W (hW : Below w.heap.size w W) => HE.out p _ _ _ _ W _ (h1.below hW) (h2.below hW) (h3.below hW) (h4.below hW) hlp)
      have hbp := below_new (w := wo) (.cells #[.slice A1 p.params.length c1, .slice A2 p.code.length c2, .int .i64 p.go, .int .i64 p.test, .slice A3 p.next.length c3, .slice A4 p.args.length c4] 67)
      have b3 := heap_alloc_new wo (.cells #[.slice A1 p.params.length c1, .slice A2 p.code.length c2, .int .i64 p.go, .int .i64 p.test, .slice A3 p.next.length c3, .slice A4 p.args.length c4] 67)
      have HB1 := HB.alloc HB.size (.cells #[.slice A1 p.params.length c1, .slice A2 p.code.length c2, .int .i64 p.go, .int .i64 p.test, .slice A3 p.next.length c3, .slice A4 p.args.length c4] 67)
      have HO1 := HO.below hbp
      have i0 : (0 : Int) ≤ (m : Int) := Int.natCast_nonneg _
      have i1 : (m : Int) < (s.parts.length : Int) := by omega
      have hgo : w.heap.size + 1 < wo.heap.size := (HO.lt_size (k := w.heap.size + 1) rfl).2
      go_wp2_with fail
      clear q0 q1 q2 q3 q4 q5 h1 h3 h4 hbp
      generalize wo.alloc (.cells #[.slice A1 p.params.length c1, .slice A2 p.code.length c2, .int .i64 p.go, .int .i64 p.test, .slice A3 p.next.length c3, .slice A4 p.args.length c4] 67) = W1 at *
      go_loopw [25] (fun i wr => ∃ (j : Nat) (vals : List Int), j ≤ p.code.length ∧ i = .int .i64 j ∧ Hid (vals ++ ((p.code.drop j).flatMap usesS ++ (endsS p ++ R1)) = usesAll s) ∧ Ow true 3 Rp.int wr (fun q => q = w.heap.size + 1) (.slice (some ⟨w.heap.size + 1, 0, none⟩) N N) (cntL N vals) ∧ Below w.heap.size w wr ∧ wr.heap[wo.heap.size]? = some (.cells #[.slice A1 p.params.length c1, .slice A2 p.code.length c2, .int .i64 p.go, .int .i64 p.test, .slice A3 p.next.length c3, .slice A4 p.args.length c4] 67 (0, 0))) (fun i _ => p.code.length - (intOf i).toNat)
      case atStart => exact ⟨0, vals, Nat.zero_le _, rfl, HV2, HO1, HB1, b3⟩
      case round =>
        clear HO HO1 HV2 HB1 b3
        obtain ⟨j, vals, hj, rfl, HV, HO, HB1, b3⟩ := hrel
        rename World => wi
        by_cases hjt : j < p.code.length
        · rcases hr2 with hnil | ⟨b5, o5, rfl, hb5, hcc⟩
          · rw [hnil] at hjt; simp at hjt
          obtain ⟨e0, e1, e2, e3, e4, e5⟩ := (hcc j hjt).below HB1
          have HVj : Hid (vals ++ (usesS p.code[j] ++ ((p.code.drop (j + 1)).flatMap usesS ++ (endsS p ++ R1))) = usesAll s) := Lib.hid (by
            have := HV.out
            rw [List.drop_eq_getElem_cons hjt, List.flatMap_cons, List.append_assoc] at this
            exact this)
          clear hcc HV
          generalize p.code[j] = x at *
          have hbx := below_new (w := wi) (.cells #[.int .i64 x.op, .int .i64 x.dO, .int .i64 x.dst, .int .i64 x.a, .int .i64 x.b, .int .i64 x.n] 71)
          have hgi : w.heap.size + 1 < wi.heap.size := (HO.lt_size (k := w.heap.size + 1) rfl).2
          have hsw : (wi.alloc (.cells #[.int .i64 x.op, .int .i64 x.dO, .int .i64 x.dst, .int .i64 x.a, .int .i64 x.b, .int .i64 x.n] 71)).heap.size = wi.heap.size + 1 := by simp
          have HB2 := HB1.alloc HB1.size (.cells #[.int .i64 x.op, .int .i64 x.dO, .int .i64 x.dst, .int .i64 x.a, .int .i64 x.b, .int .i64 x.n] 71)
          have HO2 := HO.below hbx
          have b4 := blk_below b3 hbx
          have hx0 := heap_alloc_new wi (.cells #[.int .i64 x.op, .int .i64 x.dO, .int .i64 x.dst, .int .i64 x.a, .int .i64 x.b, .int .i64 x.n] 71)
          obtain ⟨y1, _⟩ := cell_of_block hx0
          have y10 : (wi.alloc (.cells #[.int .i64 x.op, .int .i64 x.dO, .int .i64 x.dst, .int .i64 x.a, .int .i64 x.b, .int .i64 x.n] 71)).cell? ⟨wi.heap.size, 0, none⟩ = some (.int .i64 x.op) := (y1 0).trans rfl
          have y11 : (wi.alloc (.cells #[.int .i64 x.op, .int .i64 x.dO, .int .i64 x.dst, .int .i64 x.a, .int .i64 x.b, .int .i64 x.n] 71)).cell? ⟨wi.heap.size, 1, none⟩ = some (.int .i64 x.dO) := (y1 1).trans rfl
          have y12 : (wi.alloc (.cells #[.int .i64 x.op, .int .i64 x.dO, .int .i64 x.dst, .int .i64 x.a, .int .i64 x.b, .int .i64 x.n] 71)).cell? ⟨wi.heap.size, 2, none⟩ = some (.int .i64 x.dst) := (y1 2).trans rfl
          have y13 : (wi.alloc (.cells #[.int .i64 x.op, .int .i64 x.dO, .int .i64 x.dst, .int .i64 x.a, .int .i64 x.b, .int .i64 x.n] 71)).cell? ⟨wi.heap.size, 3, none⟩ = some (.int .i64 x.a) := (y1 3).trans rfl
          have y14 : (wi.alloc (.cells #[.int .i64 x.op, .int .i64 x.dO, .int .i64 x.dst, .int .i64 x.a, .int .i64 x.b, .int .i64 x.n] 71)).cell? ⟨wi.heap.size, 4, none⟩ = some (.int .i64 x.b) := (y1 4).trans rfl
          have y15 : (wi.alloc (.cells #[.int .i64 x.op, .int .i64 x.dO, .int .i64 x.dst, .int .i64 x.a, .int .i64 x.b, .int .i64 x.n] 71)).cell? ⟨wi.heap.size, 5, none⟩ = some (.int .i64 x.n) := (y1 5).trans rfl
          have n0 : (0 : Int) ≤ (j : Int) := Int.natCast_nonneg _
          have n1 : (j : Int) < (p.code.length : Int) := by omega
          have HU8 := Lib.hid (HU7.out x (wi.alloc (.cells #[.int .i64 x.op, .int .i64 x.dO, .int .i64 x.dst, .int .i64 x.a, .int .i64 x.b, .int .i64 x.n] 71)))
          clear y1 hx0 hbx
          go_wp2_with fail
          refine HU8.out.mono ?_
          rintro e w8 ⟨v8, rfl, hv8, hb8⟩
          have HB3 := below_then HB2 hb8
          have HO3 := HO2.below hb8
          have b5' := blk_below b4 hb8
          replace hv8 := hv8.rd
          rw [hsw] at hv8
          have hul : (usesS x).length ≤ 2 := by
            unfold usesS
            split
            · simp
            · split <;> simp
          clear HU8 y10 y11 y12 y13 y14 y15 e0 e1 e2 e3 e4 e5 HB1 HB2 HO HO2 b3 b4 hb8
          generalize usesS x = us at *
          obtain ⟨A8, c8, rfl, _, _, hr8⟩ := rd_int_in hv8
          go_wp2_with fail
          go_loopw [32] (fun i wr => ∃ (n : Nat) (vals : List Int), n ≤ us.length ∧ i = .int .i64 n ∧ Hid (vals ++ (us.drop n ++ ((p.code.drop (j + 1)).flatMap usesS ++ (endsS p ++ R1))) = usesAll s) ∧ Ow true 3 Rp.int wr (fun q => q = w.heap.size + 1) (.slice (some ⟨w.heap.size + 1, 0, none⟩) N N) (cntL N vals) ∧ Chg (fun q => q = w.heap.size + 1) w8 wr) (fun i _ => us.length - (intOf i).toNat)
          case atStart => exact ⟨0, vals, Nat.zero_le _, rfl, HVj, HO3, Chg.refl _ _⟩
          case round =>
            clear HO3 HVj
            obtain ⟨n, vals, hn, rfl, HV, HO, hC⟩ := hrel
            rename World => wx
            by_cases hnt : n < us.length
            · rcases hr8 with hnil | ⟨b8, o8, rfl, hb8, hc8⟩
              · rw [hnil] at hnt; simp at hnt
              have hb8g : b8 ≠ w.heap.size + 1 := by have hb8 := hb8; omega
              have cv := hC.cell (hc8 n hnt) hb8g
              have HVn : Hid (vals ++ (us[n] :: (us.drop (n + 1) ++ ((p.code.drop (j + 1)).flatMap usesS ++ (endsS p ++ R1)))) = usesAll s) := Lib.hid (by
                have := HV.out
                rw [List.drop_eq_getElem_cons hnt, List.cons_append] at this
                exact this)
              clear hc8 HV
              generalize us[n] = v at *
              obtain ⟨q, y, rfl, hqN, hy0, hy1, d1, d2, HO4, hC4⟩ := HBO.out _ _ _ _ _ _ HVn.out HO
              have HV2 := Lib.hid (HST.out _ _ _ HVn.out)
              have hC5 := hC.trans hC4
              have m0 : (0 : Int) ≤ (n : Int) := Int.natCast_nonneg _
              have m1 : (n : Int) < (us.length : Int) := by omega
              have m2 : (0 : Int) ≤ (q : Int) := Int.natCast_nonneg _
              have m3 : (q : Int) < (N : Int) := by omega
              have t1 : IntKind.i64.wrap (y + 1) = y + 1 := IntWalk.i64_in _ (by omega)
              clear HVn HO hC hC4
              go_wp2
              go_roundw
              case rel => exact ⟨n + 1, vals ++ [(q : Int)], by omega, by go_num, HV2, HO4, hC5⟩
              case measure => simp [intOf]; omega
            · obtain rfl : n = us.length := by omega
              have HV2 : Hid (vals ++ ((p.code.drop (j + 1)).flatMap usesS ++ (endsS p ++ R1)) = usesAll s) := Lib.hid (by have := HV.out; rw [List.drop_length, List.nil_append] at this; exact this)
              have HB4 := hC.to_below HB3 HB3.size (fun q hq => by have hq : q = w.heap.size + 1 := hq; omega)
              have b6 := hC.blk b5' (by omega)
              go_wp2
              go_roundw
              case rel => exact ⟨j + 1, vals, by omega, by go_num, HV2, HO, HB4, b6⟩
              case measure => simp [intOf]; omega
        · obtain rfl : j = p.code.length := by omega
          have HVe : Hid (vals ++ (endsS p ++ R1) = usesAll s) := Lib.hid (by have := HV.out; rw [List.drop_length, List.flatMap_nil, List.nil_append] at this; exact this)
          obtain ⟨x3, _⟩ := cell_of_block b3
          have z0 : wi.cell? ⟨wo.heap.size, 0, none⟩ = some (.slice A1 p.params.length c1) := (x3 0).trans rfl
          have z1 : wi.cell? ⟨wo.heap.size, 1, none⟩ = some (.slice A2 p.code.length c2) := (x3 1).trans rfl
          have z2 : wi.cell? ⟨wo.heap.size, 2, none⟩ = some (.int .i64 p.go) := (x3 2).trans rfl
          have z3 : wi.cell? ⟨wo.heap.size, 3, none⟩ = some (.int .i64 p.test) := (x3 3).trans rfl
          have z4 : wi.cell? ⟨wo.heap.size, 4, none⟩ = some (.slice A3 p.next.length c3) := (x3 4).trans rfl
          have z5 : wi.cell? ⟨wo.heap.size, 5, none⟩ = some (.slice A4 p.args.length c4) := (x3 5).trans rfl
          clear x3 HV
          go_wp2_with fail
          refine (HE1.out wi HB1).mono ?_
          rintro e w8 ⟨v8, rfl, hv8, hb8⟩
          have HB3 := below_then HB1 hb8
          have HO3 := HO.below hb8
          have hgi : w.heap.size + 1 < wi.heap.size := (HO.lt_size (k := w.heap.size + 1) rfl).2
          replace hv8 := hv8.rd
          clear z0 z1 z2 z3 z4 z5 HB1 HO b3 hb8
          obtain ⟨us, hus⟩ : ∃ us, us = endsS p := ⟨_, rfl⟩
          rw [← hus] at hv8 HVe
          clear hus
          have hv9 := hv8
          obtain ⟨A8, c8, rfl, hlc8, hcm8, hr8⟩ := rd_int_in hv8
          go_wp2_with fail
          go_loopw [47] (fun i wr => ∃ (n : Nat) (vals : List Int), n ≤ us.length ∧ i = .int .i64 n ∧ Hid (vals ++ (us.drop n ++ R1) = usesAll s) ∧ Ow true 3 Rp.int wr (fun q => q = w.heap.size + 1) (.slice (some ⟨w.heap.size + 1, 0, none⟩) N N) (cntL N vals) ∧ Chg (fun q => q = w.heap.size + 1) w8 wr) (fun i _ => us.length - (intOf i).toNat)
          case atStart => exact ⟨0, vals, Nat.zero_le _, rfl, HVe, HO3, Chg.refl _ _⟩
          case round =>
            clear HO3 HVe
            obtain ⟨n, vals, hn, rfl, HV, HO, hC⟩ := hrel
            rename World => wx
            by_cases hnt : n < us.length
            · rcases hr8 with hnil | ⟨b8, o8, rfl, hb8, hc8⟩
              · rw [hnil] at hnt; simp at hnt
              have hb8g : b8 ≠ w.heap.size + 1 := by have hb8 := hb8; omega
              have cv := hC.cell (hc8 n hnt) hb8g
              have HVn : Hid (vals ++ (us[n] :: (us.drop (n + 1) ++ R1)) = usesAll s) := Lib.hid (by
                have := HV.out
                rw [List.drop_eq_getElem_cons hnt, List.cons_append] at this
                exact this)
              clear hc8 HV
              generalize us[n] = v at *
              obtain ⟨q, y, rfl, hqN, hy0, hy1, d1, d2, HO4, hC4⟩ := HBO.out _ _ _ _ _ _ HVn.out HO
              have HV2 := Lib.hid (HST.out _ _ _ HVn.out)
              have hC5 := hC.trans hC4
              have m0 : (0 : Int) ≤ (n : Int) := Int.natCast_nonneg _
              have m1 : (n : Int) < (us.length : Int) := by omega
              have m2 : (0 : Int) ≤ (q : Int) := Int.natCast_nonneg _
              have m3 : (q : Int) < (N : Int) := by omega
              have m4 : (n : Int) < 9223372036854775807 := by omega
              have t1 : IntKind.i64.wrap (y + 1) = y + 1 := IntWalk.i64_in _ (by omega)
              clear HVn HO hC hC4
              go_wp2
              go_roundw
              case rel => exact ⟨n + 1, vals ++ [(q : Int)], by omega, by go_num, HV2, HO4, hC5⟩
              case measure => simp [intOf]; omega
            · obtain rfl : n = us.length := by omega
              have HV2 : Hid (vals ++ (s.parts.drop (m + 1)).flatMap (fun p => p.code.flatMap usesS ++ endsS p) = usesAll s) := Lib.hid (by have := HV.out; rw [List.drop_length, List.nil_append, HR1.out] at this; exact this)
              have HB4 := hC.to_below HB3 HB3.size (fun q hq => by have hq : q = w.heap.size + 1 := hq; omega)
              go_wp2
              go_roundw
              case rel => exact ⟨m + 1, vals, by omega, by go_num, HV2, HO, HB4⟩
              case measure => simp [intOf]; omega
    · obtain rfl : m = s.parts.length := by omega
      have HU : Hid (vals = usesAll s) := Lib.hid (by have := HV.out; rw [List.drop_length, List.flatMap_nil, List.append_nil] at this; exact this)
      go_wp2
      go_ret
      exact ⟨_, rfl, by rw [← HU.out]; exact HO.mono (fun q hq => by have hq : q = w.heap.size + 1 := hq; omega), HB⟩
end Go.Proofs.YtnfaibenekninaaGreat.L

set_option linter.unusedVariables false
namespace Go.Proofs.YtnfaibenekninaaGreat.L
section
variable {κ μ : Type} [DecidableEq κ] [DecidableEq μ]
/-- Distinct things of a list, in the order in which they first come. -/
def addF (s : List κ) (x : κ) : List κ := if x ∈ s then s else s ++ [x]
def firsts (l : List κ) : List κ := l.foldl addF []
def numL (l : List κ) : List Nat := l.map (fun x => (firsts l).idxOf x)
theorem firsts_snoc (l : List κ) (x : κ) : firsts (l ++ [x]) = addF (firsts l) x := by unfold firsts; rw [List.foldl_append]; rfl
theorem mem_addF {s : List κ} {x y : κ} : y ∈ addF s x ↔ y ∈ s ∨ y = x := by
  unfold addF
  split
  · rename_i h
    exact ⟨.inl, fun h' => h'.elim id (fun e => by rw [e]; exact h)⟩
  · simp
theorem mem_foldF (l : List κ) : ∀ (s : List κ) (y : κ), y ∈ l.foldl addF s ↔ y ∈ s ∨ y ∈ l := by
  induction l with
  | nil => intro s y; simp
  | cons x t ih => intro s y; rw [List.foldl_cons, ih, mem_addF, List.mem_cons, or_assoc]
theorem mem_firsts {l : List κ} {y : κ} : y ∈ firsts l ↔ y ∈ l := by unfold firsts; rw [mem_foldF]; simp
theorem foldF_pre (l : List κ) : ∀ s : List κ, s <+: l.foldl addF s := by
  induction l with
  | nil => intro s; exact List.prefix_refl _
  | cons x t ih =>
    intro s
    rw [List.foldl_cons]
    refine List.IsPrefix.trans ?_ (ih _)
    unfold addF
    split
    · exact List.prefix_refl _
    · exact List.prefix_append _ _
theorem firsts_pre (l m : List κ) : firsts l <+: firsts (l ++ m) := by
  unfold firsts
  rw [List.foldl_append]
  exact foldF_pre _ _
theorem idx_pre {s t : List κ} (h : s <+: t) {x : κ} (hx : x ∈ s) : t.idxOf x = s.idxOf x := by
  obtain ⟨u, rfl⟩ := h
  rw [List.idxOf_append, if_pos hx]
theorem idx_inj {s : List κ} {x y : κ} (hx : x ∈ s) (hy : y ∈ s) (h : s.idxOf x = s.idxOf y) : x = y := by
  have h1 := List.getElem_idxOf (List.idxOf_lt_length_of_mem hx)
  have h2 := List.getElem_idxOf (List.idxOf_lt_length_of_mem hy)
  rw [← h1, ← h2]
  simp only [h]
theorem take_snoc {l : List κ} {i : Nat} (hi : i < l.length) : firsts (l.take (i + 1)) = addF (firsts (l.take i)) l[i] := by
  rw [List.take_succ_eq_append_getElem hi, firsts_snoc]
theorem idx_take {l : List κ} {i : Nat} {x : κ} (hx : x ∈ l.take i) : (firsts l).idxOf x = (firsts (l.take i)).idxOf x := by
  have h := firsts_pre (l.take i) (l.drop i)
  rw [List.take_append_drop] at h
  exact idx_pre h (mem_firsts.2 hx)
theorem numL_len (l : List κ) : (numL l).length = l.length := by unfold numL; simp
theorem numL_get {l : List κ} {i : Nat} (hi : i < l.length) : (numL l).getD i 0 = (firsts l).idxOf l[i] := by
  unfold numL
  rw [List.getD_eq_getElem?_getD, List.getElem?_map, List.getElem?_eq_getElem hi]
  rfl
theorem numL_lt {l : List κ} {i : Nat} (hi : i < l.length) : (numL l).getD i 0 < (firsts l).length := by
  rw [numL_get hi]
  exact List.idxOf_lt_length_of_mem (mem_firsts.2 (List.getElem_mem hi))
theorem firsts_len (l : List κ) : (firsts l).length ≤ l.length := by
  have key : ∀ (l s : List κ), (l.foldl addF s).length ≤ s.length + l.length := by
    intro l
    induction l with
    | nil => intro s; simp
    | cons x t ih =>
      intro s
      rw [List.foldl_cons, List.length_cons]
      refine Nat.le_trans (ih _) ?_
      have : (addF s x).length ≤ s.length + 1 := by unfold addF; split <;> simp
      omega
  have := key l []
  simpa [firsts] using this
theorem numL_iff {l : List κ} {i j : Nat} (hi : i < l.length) (hj : j < l.length) : (numL l).getD i 0 = (numL l).getD j 0 ↔ l[i] = l[j] := by
  rw [numL_get hi, numL_get hj]
  exact ⟨fun h => idx_inj (mem_firsts.2 (List.getElem_mem hi)) (mem_firsts.2 (List.getElem_mem hj)) h, fun h => by rw [h]⟩
omit [DecidableEq κ] in
theorem mem_take_iff {l : List κ} {n : Nat} {x : κ} (hn : n ≤ l.length) : x ∈ l.take n ↔ ∃ (j : Nat) (hj : j < n), l[j]'(by omega) = x := by
  rw [List.mem_take_iff_getElem]
  constructor
  · rintro ⟨j, hj, h⟩; exact ⟨j, by omega, h⟩
  · rintro ⟨j, hj, h⟩; exact ⟨j, by omega, h⟩
/-- Two lists alike in what is alike are numbered alike. -/
theorem num_take {l : List κ} {m : List μ} (hl : l.length = m.length) (h : ∀ (i j : Nat) (hi : i < l.length) (hj : j < l.length), l[i] = l[j] ↔ m[i]'(by omega) = m[j]'(by omega)) : ∀ n, n ≤ l.length →
    (firsts (l.take n)).length = (firsts (m.take n)).length ∧ ∀ (i : Nat) (hi : i < n) (hn : i < l.length), (firsts (l.take n)).idxOf l[i] = (firsts (m.take n)).idxOf (m[i]'(by omega)) := by
  intro n
  induction n with
  | zero => intro _; exact ⟨by simp [firsts], fun i hi => by omega⟩
  | succ n ih =>
    intro hn
    obtain ⟨h1, h2⟩ := ih (by omega)
    have hnl : n < l.length := by omega
    have hnm : n < m.length := by omega
    rw [take_snoc hnl, take_snoc hnm]
    have hiff : l[n] ∈ firsts (l.take n) ↔ m[n] ∈ firsts (m.take n) := by
      rw [mem_firsts, mem_firsts, mem_take_iff (by omega), mem_take_iff (by omega)]
      exact exists_congr fun j => exists_congr fun hj => h j n (by omega) hnl
    unfold addF
    by_cases hin : l[n] ∈ firsts (l.take n)
    · rw [if_pos hin, if_pos (hiff.1 hin)]
      refine ⟨h1, fun i hi hil => ?_⟩
      rcases Nat.lt_or_eq_of_le (Nat.le_of_lt_succ hi) with hi | rfl
      · exact h2 i hi hil
      · obtain ⟨j, hj, hjx⟩ := (mem_take_iff (by omega)).1 (mem_firsts.1 hin)
        have hjy := (h j i (by omega) hil).1 hjx
        rw [← hjx, ← hjy]
        exact h2 j hj (by omega)
    · rw [if_neg hin, if_neg (fun hh => hin (hiff.2 hh))]
      refine ⟨by rw [List.length_append, List.length_append, h1]; rfl, fun i hi hil => ?_⟩
      rcases Nat.lt_or_eq_of_le (Nat.le_of_lt_succ hi) with hi | rfl
      · have a1 : l[i] ∈ firsts (l.take n) := mem_firsts.2 ((mem_take_iff (by omega)).2 ⟨i, hi, rfl⟩)
        have a2 : m[i]'(by omega) ∈ firsts (m.take n) := mem_firsts.2 ((mem_take_iff (by omega)).2 ⟨i, hi, rfl⟩)
        rw [List.idxOf_append, if_pos a1, List.idxOf_append, if_pos a2]
        exact h2 i hi hil
      · rw [List.idxOf_append, if_neg hin, List.idxOf_append, if_neg (fun hh => hin (hiff.2 hh)), h1]
        simp
theorem num_congr {l : List κ} {m : List μ} (hl : l.length = m.length) (h : ∀ (i j : Nat) (hi : i < l.length) (hj : j < l.length), l[i] = l[j] ↔ m[i]'(by omega) = m[j]'(by omega)) : numL l = numL m ∧ (firsts l).length = (firsts m).length := by
  obtain ⟨h1, h2⟩ := num_take hl h l.length (Nat.le_refl _)
  have ht : m.take l.length = m := by rw [hl, List.take_length]
  rw [List.take_length, ht] at h1 h2
  refine ⟨?_, h1⟩
  apply List.ext_getElem
  · rw [numL_len, numL_len, hl]
  · intro i hi hi'
    rw [numL_len] at hi hi'
    simp only [numL, List.getElem_map]
    exact h2 i (by omega) hi
/-- A finer list has no fewer different things, and as many only where it is no finer. -/
theorem num_fine {l : List κ} {m : List μ} (hl : l.length = m.length) (h : ∀ (i j : Nat) (hi : i < l.length) (hj : j < l.length), m[i]'(by omega) = m[j]'(by omega) → l[i] = l[j]) : ∀ n, n ≤ l.length →
    (firsts (l.take n)).length ≤ (firsts (m.take n)).length ∧ ((firsts (l.take n)).length = (firsts (m.take n)).length → ∀ (i j : Nat) (hi : i < n) (hj : j < n) (hil : i < l.length) (hjl : j < l.length), l[i] = l[j] → m[i]'(by omega) = m[j]'(by omega)) := by
  intro n
  induction n with
  | zero => intro _; exact ⟨by simp [firsts], fun _ i j hi => by omega⟩
  | succ n ih =>
    intro hn
    obtain ⟨h1, h2⟩ := ih (by omega)
    have hnl : n < l.length := by omega
    have hnm : n < m.length := by omega
    rw [take_snoc hnl, take_snoc hnm]
    have hL : l[n] ∈ firsts (l.take n) ↔ ∃ (j : Nat) (hj : j < n), l[j]'(by omega) = l[n] := by rw [mem_firsts, mem_take_iff (by omega)]
    have hM : m[n] ∈ firsts (m.take n) ↔ ∃ (j : Nat) (hj : j < n), m[j]'(by omega) = m[n] := by rw [mem_firsts, mem_take_iff (by omega)]
    unfold addF
    by_cases hm : m[n] ∈ firsts (m.take n)
    · obtain ⟨q, hq, hqm⟩ := hM.1 hm
      have hql := h q n (by omega) hnl hqm
      rw [if_pos (hL.2 ⟨q, hq, hql⟩), if_pos hm]
      refine ⟨h1, fun he i j hi hj hil hjl hij => ?_⟩
      have h3 := h2 he
      have hx : ∀ (i : Nat) (hi : i < n + 1) (hil : i < l.length), ∃ (a : Nat) (ha : a < n), l[a]'(by omega) = l[i] ∧ m[a]'(by omega) = m[i]'(by omega) := by
        intro i hi hil
        rcases Nat.lt_or_eq_of_le (Nat.le_of_lt_succ hi) with hi | rfl
        · exact ⟨i, hi, rfl, rfl⟩
        · exact ⟨q, hq, hql, hqm⟩
      obtain ⟨a, ha, ha1, ha2⟩ := hx i hi hil
      obtain ⟨b, hb, hb1, hb2⟩ := hx j hj hjl
      rw [← ha2, ← hb2]
      exact h3 a b ha hb (by omega) (by omega) (by rw [ha1, hb1, hij])
    · rw [if_neg hm]
      by_cases hlm : l[n] ∈ firsts (l.take n)
      · rw [if_pos hlm, List.length_append]
        exact ⟨by omega, fun he => by simp only [List.length_cons, List.length_nil] at he; omega⟩
      · rw [if_neg hlm, List.length_append, List.length_append]
        refine ⟨by simpa using h1, fun he i j hi hj hil hjl hij => ?_⟩
        have h3 := h2 (by simpa using he)
        rcases Nat.lt_or_eq_of_le (Nat.le_of_lt_succ hi) with hi | rfl
        · rcases Nat.lt_or_eq_of_le (Nat.le_of_lt_succ hj) with hj | rfl
          · exact h3 i j hi hj hil hjl hij
          · exact absurd (hL.2 ⟨i, hi, hij⟩) hlm
        · rcases Nat.lt_or_eq_of_le (Nat.le_of_lt_succ hj) with hj | rfl
          · exact absurd (hL.2 ⟨j, hj, hij.symm⟩) hlm
          · rfl
theorem firsts_le {l : List κ} {m : List μ} (hl : l.length = m.length) (h : ∀ (i j : Nat) (hi : i < l.length) (hj : j < l.length), m[i]'(by omega) = m[j]'(by omega) → l[i] = l[j]) : (firsts l).length ≤ (firsts m).length := by
  have := (num_fine hl h l.length (Nat.le_refl _)).1
  have ht : m.take l.length = m := by rw [hl, List.take_length]
  rwa [List.take_length, ht] at this
theorem firsts_eq_iff {l : List κ} {m : List μ} (hl : l.length = m.length) (h : ∀ (i j : Nat) (hi : i < l.length) (hj : j < l.length), m[i]'(by omega) = m[j]'(by omega) → l[i] = l[j]) :
    (firsts m).length = (firsts l).length ↔ ∀ (i j : Nat) (hi : i < l.length) (hj : j < l.length), l[i] = l[j] → m[i]'(by omega) = m[j]'(by omega) := by
  constructor
  · intro he i j hi hj
    have := (num_fine hl h l.length (Nat.le_refl _)).2
    have ht : m.take l.length = m := by rw [hl, List.take_length]
    rw [List.take_length, ht] at this
    exact this he.symm i j (by omega) (by omega) hi hj
  · intro h'
    exact (num_congr hl (fun i j hi hj => ⟨h' i j hi hj, h i j hi hj⟩)).2.symm
/-- The least place with the same key. -/
def leastS (f : Nat → κ) (v : Nat) : Nat := ((List.range v).find? (fun w => decide (f w = f v))).getD v
theorem leastS_spec (f : Nat → κ) (v : Nat) : leastS f v ≤ v ∧ f (leastS f v) = f v ∧ ∀ w, w < leastS f v → f w ≠ f v := by
  unfold leastS
  cases h : (List.range v).find? (fun w => decide (f w = f v)) with
  | none =>
    rw [List.find?_eq_none] at h
    exact ⟨Nat.le_refl _, rfl, fun w hw => by simpa using h w (List.mem_range.2 hw)⟩
  | some w =>
    rw [List.find?_range_eq_some] at h
    obtain ⟨h1, h2, h3⟩ := h
    exact ⟨by have := List.mem_range.1 h2; simp; omega, by simpa using h1, fun u hu => by simpa using h3 u hu⟩
theorem leastS_iff (f : Nat → κ) (v w : Nat) : leastS f v = leastS f w ↔ f v = f w := by
  obtain ⟨a1, a2, a3⟩ := leastS_spec f v
  obtain ⟨b1, b2, b3⟩ := leastS_spec f w
  constructor
  · intro h; rw [← a2, ← b2, h]
  · intro h
    rcases Nat.lt_trichotomy (leastS f v) (leastS f w) with hh | hh | hh
    · exact absurd (a2.trans h) (b3 _ hh)
    · exact hh
    · exact absurd (b2.trans h.symm) (a3 _ hh)
/-- leastS is determined by what is alike. -/
theorem leastS_congr {f : Nat → κ} {g : Nat → μ} {n : Nat} (h : ∀ v w, v < n → w < n → (f v = f w ↔ g v = g w)) {v : Nat} (hv : v < n) : leastS f v = leastS g v := by
  obtain ⟨a1, a2, a3⟩ := leastS_spec f v
  obtain ⟨b1, b2, b3⟩ := leastS_spec g v
  rcases Nat.lt_trichotomy (leastS f v) (leastS g v) with hh | hh | hh
  · exact absurd ((h _ _ (by omega) hv).1 a2) (b3 _ hh)
  · exact hh
  · exact absurd ((h _ _ (by omega) hv).2 b2) (a3 _ hh)
end
end Go.Proofs.YtnfaibenekninaaGreat.L
