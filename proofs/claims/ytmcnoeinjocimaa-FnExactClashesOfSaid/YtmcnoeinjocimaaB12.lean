/- Joined texts, each of which was built by itself: Us1 Us3 Lv1. -/
import Derived.Test.YtmcnoeinjocimaaB11
import Derived.Deep.QuietTactic
set_option linter.unusedVariables false
set_option linter.unusedSimpArgs false
namespace Go.Proofs.Ytmcnoeinjocimaa.L
open Go.RowKit
def bumpL (L : List Int) (v : Int) : List Int := L.set v.toNat (L.getD v.toNat 0 + 1)
def cntL (V : Nat) (vals : List Int) : List Int := vals.foldl bumpL (List.replicate V 0)
theorem bumpL_len (L : List Int) (v : Int) : (bumpL L v).length = L.length := by unfold bumpL; rw [List.length_set]
theorem cntL_snoc (V : Nat) (a : List Int) (v : Int) : cntL V (a ++ [v]) = bumpL (cntL V a) v := by unfold cntL; rw [List.foldl_append]; rfl
theorem foldl_bump_len (l : List Int) : ∀ L : List Int, (l.foldl bumpL L).length = L.length := by
  induction l with
  | nil => intro L; rfl
  | cons x t ih => intro L; rw [List.foldl_cons, ih, bumpL_len]
theorem cntL_len (V : Nat) (a : List Int) : (cntL V a).length = V := by unfold cntL; rw [foldl_bump_len, List.length_replicate]
theorem foldl_bump_le (l : List Int) : ∀ (L : List Int) (m : Nat), (∀ n : Nat, 0 ≤ L.getD n 0 ∧ L.getD n 0 ≤ m) → ∀ n : Nat, 0 ≤ (l.foldl bumpL L).getD n 0 ∧ (l.foldl bumpL L).getD n 0 ≤ m + l.length := by
  induction l with
  | nil => intro L m h n; simpa using h n
  | cons x t ih =>
    intro L m h n
    rw [List.foldl_cons, List.length_cons]
    have := ih (bumpL L x) (m + 1) (fun q => by
      unfold bumpL
      by_cases hx : x.toNat < L.length
      · rw [getD_set2 _ _ _ _ _ hx]
        have h1 := h x.toNat
        have h2 := h q
        split <;> omega
      · rw [List.set_eq_of_length_le (by omega)]; have h2 := h q; omega) n
    omega
theorem cntL_le (V : Nat) (a : List Int) (n : Nat) : 0 ≤ (cntL V a).getD n 0 ∧ (cntL V a).getD n 0 ≤ a.length := by
  have := foldl_bump_le a (List.replicate V 0) 0 (fun q => by rw [List.getD_eq_getElem?_getD, List.getElem?_replicate]; split <;> simp) n
  unfold cntL; omega
def partU (p : Pt) : List Int := p.code.flatMap usesI ++ endsS p
def usesAll (s : Sa) : List Int := s.parts.flatMap partU
/-- What is known of all uses. -/
structure UOk (s : Sa) (N : Nat) : Prop where
  V : (N : Int) = s.values
  le : N ≤ 250
  rng : ∀ v ∈ usesAll s, 0 ≤ v ∧ v < N
  len : (usesAll s).length ≤ 2305843009213693952
theorem flatMap_len_le {α : Type} {f : α → List Int} {m : Nat} : ∀ {l : List α}, (∀ x ∈ l, (f x).length ≤ m) → (l.flatMap f).length ≤ l.length * m
  | [], _ => by simp
  | x :: t, h => by
    have h1 := flatMap_len_le (l := t) (fun y hy => h y (List.mem_cons_of_mem _ hy))
    have h2 := h x List.mem_cons_self
    rw [List.flatMap_cons, List.length_append, List.length_cons, Nat.succ_mul]; omega
theorem GoodP.uok {s : Sa} (h : GoodP s) (hl : ∀ p ∈ s.parts, PtLim p) : UOk s s.values.toNat := by
  have hv1 := h.v1
  have hv2 := h.v2
  have hn2 := h.n2
  refine ⟨by omega, by omega, fun v hv => ?_, ?_⟩
  · obtain ⟨p, hp, hv⟩ := List.mem_flatMap.1 hv
    obtain ⟨k, hk⟩ := List.getElem?_of_mem hp
    have : 0 ≤ v ∧ v < s.values := by
      rcases List.mem_append.1 hv with hv | hv
      · obtain ⟨x, hx, hv⟩ := List.mem_flatMap.1 hv
        exact (h.steps_in hk hx).2 v hv
      · exact h.use_in hk (.inl hv)
    omega
  · have : (usesAll s).length ≤ s.parts.length * 1099516000000 := flatMap_len_le (fun p hp => by
      obtain ⟨l0, l1, l2, l3, l4⟩ := hl p hp
      have e1 : (p.code.flatMap usesI).length ≤ p.code.length * 2 := flatMap_len_le (fun x _ => usesI_len x)
      have e2 := flatten_len l4
      unfold partU endsS
      rw [List.length_append, List.length_append]
      have e3 : (if p.go == 2 || p.go == 5 then [p.test] else []).length ≤ 1 := by split <;> simp
      have e4 : p.args.length * 1048576 ≤ 1048576 * 1048576 := Nat.mul_le_mul_right _ l3
      omega)
    have e5 : s.parts.length * 1099516000000 ≤ 11 * 1099516000000 := Nat.mul_le_mul_right _ hn2
    omega
theorem UOk.step {s : Sa} {N : Nat} (h : UOk s N) {vals R : List Int} {v : Int} (hU : vals ++ v :: R = usesAll s) : (0 ≤ v ∧ v < N) ∧ vals.length < 2305843009213693952 ∧ (vals ++ [v]) ++ R = usesAll s := by
  refine ⟨h.rng v (by rw [← hU]; simp), ?_, by rw [← hU]; simp⟩
  have := h.len
  rw [← hU, List.length_append, List.length_cons] at this
  omega
theorem entersUsed : Enters Try.prog 90 := enters Try.func90 (by kernel_rfl) (by kernel_rfl)
set_option maxRecDepth 100000 in
set_option maxHeartbeats 4000000 in
theorem used1_calls {s : Sa} {N : Nat} (hk : UOk s N) (g c bx pb po : Nat) (vals R : List Int) (v : Int) (W : World) (hU : vals ++ v :: R = usesAll s) (hp : W.cell? ⟨pb, po, none⟩ = some (.int .i64 v))
    (hb : W.heap[bx]? = some (.cells #[.slice (some ⟨g, 0, none⟩) N c] 35 (0, 0))) (hO : Ow true 3 Rp.int W (fun q => q = g) (.slice (some ⟨g, 0, none⟩) N c) (cntL N vals)) :
    Calls Try.prog 90 #[.pointer (some ⟨pb, po, none⟩), .pointer (some ⟨bx, 0, none⟩)] W fun e w' => e = .returned (.tuple #[]) ∧ Ow true 3 Rp.int w' (fun q => q = g) (.slice (some ⟨g, 0, none⟩) N c) (cntL N (vals ++ [v])) ∧ Chg (fun q => q = g) W w' := by
  obtain ⟨⟨h0, h1⟩, hl, _⟩ := hk.step hU
  obtain ⟨n, rfl⟩ := Int.eq_ofNat_of_zero_le h0
  have hcl := cntL_len N vals
  have hn : n < (cntL N vals).length := by omega
  have hle := cntL_le N vals n
  have hg : (cntL N vals).getD n 0 = (cntL N vals)[n] := by rw [List.getD_eq_getElem?_getD, List.getElem?_eq_getElem hn]; rfl
  rw [hg] at hle
  have HO2 := hO.set1 rfl hn (y := (cntL N vals)[n] + 1) (u := .int .i64 ((cntL N vals)[n] + 1)) rfl
  have he : (cntL N vals).set n ((cntL N vals)[n] + 1) = cntL N (vals ++ [(n : Int)]) := by rw [cntL_snoc]; unfold bumpL; rw [Int.toNat_natCast, hg]
  rw [he] at HO2
  obtain ⟨d1, d2⟩ := hO.int_at hn
  generalize (cntL N vals)[n] = y at *
  have HO2 := Lib.hid HO2
  have hC := Lib.hid (Chg.set (w := W) (A := fun q => q = g) (b := g) (o := n) (u := .int .i64 (y + 1)) rfl)
  obtain ⟨x0, _⟩ := cell_of_block hb
  have x0 : W.cell? ⟨bx, 0, none⟩ = some (.slice (some ⟨g, 0, none⟩) N c) := (x0 0).trans rfl
  have i0 : (0 : Int) ≤ (n : Int) := Int.natCast_nonneg _
  have i1 : (n : Int) < (N : Int) := by omega
  have t1 : IntKind.i64.wrap (y + 1) = y + 1 := IntWalk.i64_in _ (by omega)
  clear hO he hg hcl hn h0 h1 hU
  go_enter Try.func90, Try.ntmps90
  go_region
  go_wp2
  refine bodyPost_end (results_none (by first | rfl | exact Try.results90 | kernel_rfl) _ _ _) rfl ?_
  exact ⟨rfl, HO2.out, hC.out.trans (Chg.drewN 1)⟩
set_option maxRecDepth 100000 in
set_option maxHeartbeats 8000000 in
theorem uses_calls {F : Nat → Prop} {s : Sa} {N : Nat} (hk : UOk s N) (g c bx sb : Nat) (vparts : Value) (w : World) (hsb : w.heap[sb]? = some (.cells #[vparts, .int .i64 s.values] 29 (0, 0))) (hs : Rp.Rd part w F vparts s.parts)
    (hF : ∀ q, F q → q ≠ g) (hsg : sb ≠ g) (hbg : bx ≠ g) (hb : w.heap[bx]? = some (.cells #[.slice (some ⟨g, 0, none⟩) N c] 35 (0, 0)))
    (hO : Ow true 3 Rp.int w (fun q => q = g) (.slice (some ⟨g, 0, none⟩) N c) (cntL N [])) (hx1 : s.parts.length ≤ 1048576) (hx2 : ∀ p ∈ s.parts, PtLim p) :
    Calls Try.prog 89 #[.pointer (some ⟨sb, 0, none⟩), .func (.func 90) #[] #[.pointer (some ⟨bx, 0, none⟩)]] w fun e w' => e = .returned (.tuple #[]) ∧ Ow true 3 Rp.int w' (fun q => q = g) (.slice (some ⟨g, 0, none⟩) N c) (cntL N (usesAll s)) ∧ Chg (fun q => q = g) w w' := by
  have hen := entersUsed
  unfold Enters at hen
  obtain ⟨A, cA, rfl, _, _, _⟩ := rd_part hs
  have HT := Lib.hid (fun k W => tests_calls k W)
  have HFo := Lib.hid (fun o W => fieldsOf_calls o W)
  have HST := Lib.hid (fun (vals R : List Int) (v : Int) (hU : vals ++ v :: R = usesAll s) => (hk.step hU).2.2)
  have HU1 := Lib.hid (fun (pb po : Nat) (vals R : List Int) (v : Int) (W : World) (hU : vals ++ v :: R = usesAll s) h1 h2 h3 => used1_calls hk g c bx pb po vals R v W hU h1 h2 h3)
  obtain ⟨z0, _⟩ := cell_of_block hsb
  have y0 : w.cell? ⟨sb, 0, none⟩ = some (.slice A s.parts.length cA) := (z0 0).trans rfl
  clear z0
  go_enter Try.func89, Try.ntmps89
  go_wp2_with fail
  clear y0
  go_loopw [17] (fun i wr => ∃ (m : Nat) (vals : List Int), m ≤ s.parts.length ∧ i = .int .i64 m ∧ Hid (vals ++ (s.parts.drop m).flatMap partU = usesAll s) ∧ Ow true 3 Rp.int wr (fun q => q = g) (.slice (some ⟨g, 0, none⟩) N c) (cntL N vals) ∧ Chg (fun q => q = g) w wr) (fun i _ => s.parts.length - (intOf i).toNat)
  case atStart => exact ⟨0, [], Nat.zero_le _, rfl, Lib.hid rfl, hO, Chg.refl _ _⟩
  case round =>
    clear hO
    obtain ⟨m, vals, hm, rfl, HV, HO, hC⟩ := hrel
    rename World => wo
    by_cases hlt : m < s.parts.length
    · have hsr := hs.move (hC.same (fun q hq => hF q hq))
      have hsb1 := hC.blk hsb hsg
      have hb1 := hC.blk hb hbg
      obtain ⟨_, _, hAe, _, _, hrow⟩ := rd_part hsr
      cases hAe
      rcases hrow with hnil | ⟨b, o, rfl, hbl, hcell⟩
      · rw [hnil] at hlt; simp at hlt
      have hFb : b ≠ g := by
        obtain ⟨_, _, hAe, _, _, hh⟩ := hs
        rcases hh with hh | ⟨_, _, he, hFb, _⟩
        · rw [hh] at hlt; simp at hlt
        · cases hAe; cases he; exact hF b hFb
      obtain ⟨_, _, _, _, hp, ⟨B1, d1, rfl, h1⟩, hcode, ⟨B3, d3, rfl, h3⟩, hargs⟩ := hcell m hlt
      obtain ⟨B2, d2, rfl, _⟩ := id hcode
      obtain ⟨B4, d4, rfl, _⟩ := id hargs
      obtain ⟨l0, l1, l2, l3, l4⟩ := hx2 _ (List.getElem_mem hlt)
      have HV2 : Hid (vals ++ (s.parts[m].code.flatMap usesI ++ (endsS s.parts[m] ++ (s.parts.drop (m + 1)).flatMap partU)) = usesAll s) := Lib.hid (by
        have := HV.out
        rw [List.drop_eq_getElem_cons hlt, List.flatMap_cons] at this
        unfold partU at this ⊢
        rw [List.append_assoc] at this
        exact this)
      have HES : Hid (endsS s.parts[m] = (if s.parts[m].go == 2 || s.parts[m].go == 5 then [s.parts[m].test] else []) ++ s.parts[m].args.flatten) := Lib.hid rfl
      clear hcell h1 h3 HV hsr
      obtain ⟨R1, hR1⟩ : ∃ R1, R1 = (s.parts.drop (m + 1)).flatMap partU := ⟨_, rfl⟩
      rw [← hR1] at HV2
      have HR1 := Lib.hid hR1
      clear hR1
      generalize s.parts[m] = p at *
      obtain ⟨z0, _⟩ := cell_of_block hsb1
      have y0 : wo.cell? ⟨sb, 0, none⟩ = some (.slice (some ⟨b, o, none⟩) s.parts.length cA) := (z0 0).trans rfl
      clear z0
      have q1 := hp.2.1
      have i0 : (0 : Int) ≤ (m : Int) := Int.natCast_nonneg _
      have i1 : (m : Int) < (s.parts.length : Int) := by omega
      go_wp2_with fail
      clear y0 q1
      go_loopw [31] (fun i wr => ∃ (j : Nat) (vals : List Int), j ≤ p.code.length ∧ i = .int .i64 j ∧ Hid (vals ++ ((p.code.drop j).flatMap usesI ++ (endsS p ++ R1)) = usesAll s) ∧ Ow true 3 Rp.int wr (fun q => q = g) (.slice (some ⟨g, 0, none⟩) N c) (cntL N vals) ∧ Chg (fun q => q = g) wo wr) (fun i _ => p.code.length - (intOf i).toNat)
      case atStart => exact ⟨0, vals, Nat.zero_le _, rfl, HV2, HO, Chg.refl _ _⟩
      case round =>
        clear HO HV2
        obtain ⟨j, vals, hj, rfl, HV, HO, hC2⟩ := hrel
        rename World => wi
        have hpi := partAt_chg hp hC2 hFb
        have hb2 := hC2.blk hb1 hbg
        by_cases hjt : j < p.code.length
        · have hcr := hcode.move (hC2.same (fun q hq => hF q hq))
          obtain ⟨_, _, hce, _, _, hrc⟩ := rd_flat hcr
          cases hce
          rcases hrc with hnil | ⟨b5, o5, rfl, hb5, hcc⟩
          · rw [hnil] at hjt; simp at hjt
          obtain ⟨e0, e1, e2, e3, e4, e5⟩ := hcc j hjt
          have hFc : b5 ≠ g := by
            obtain ⟨_, _, hce, _, _, hh⟩ := hcode
            rcases hh with hh | ⟨_, _, he, hFb, _⟩
            · rw [hh] at hjt; simp at hjt
            · cases hce; cases he; exact hF b5 hFb
          have HVj : Hid (vals ++ (usesI p.code[j] ++ ((p.code.drop (j + 1)).flatMap usesI ++ (endsS p ++ R1))) = usesAll s) := Lib.hid (by
            have := HV.out
            rw [List.drop_eq_getElem_cons hjt, List.flatMap_cons, List.append_assoc] at this
            exact this)
          have HUX : Hid (usesI p.code[j] = (if fA p.code[j].op then [p.code[j].a] else []) ++ (if fB p.code[j].op then [p.code[j].b] else [])) := Lib.hid rfl
          have hgl : g < wi.heap.size := (HO.lt_size (k := g) rfl).2
          have q1 := hpi.2.1
          clear hcc hcr HV
          generalize p.code[j] = x at *
          have HF1 := Lib.hid (HFo.out x.op wi)
          unfold fieldsV at HF1
          generalize fD x.op = rd at *
          generalize fA x.op = ra at *
          generalize fB x.op = rb at *
          generalize fN x.op = rn at *
          generalize fT x.op = rt at *
          generalize fK x.op = rk at *
          have j0 : (0 : Int) ≤ (j : Int) := Int.natCast_nonneg _
          have j1 : (j : Int) < (p.code.length : Int) := by omega
          go_wp2_with fail
          refine HF1.out.mono ?_
          rintro e w1 ⟨rfl, hbf⟩
          clear HF1 e0 e1 e2 e5 hcode hargs
          cases ra
          · cases rb
            · have hbn := below_new (w := w1) (.cells #[.bool rd, .bool false, .bool false, .bool rn, .bool rt] 139)
              have hbN := below_then hbf hbn
              have bf := heap_alloc_new w1 (.cells #[.bool rd, .bool false, .bool false, .bool rn, .bool rt] 139)
              obtain ⟨zf, _⟩ := cell_of_block bf
              have f1 : (w1.alloc (.cells #[.bool rd, .bool false, .bool false, .bool rn, .bool rt] 139)).cell? ⟨w1.heap.size, 1, none⟩ = some (.bool false) := (zf 1).trans rfl
              have f2 : (w1.alloc (.cells #[.bool rd, .bool false, .bool false, .bool rn, .bool rt] 139)).cell? ⟨w1.heap.size, 2, none⟩ = some (.bool false) := (zf 2).trans rfl
              have q1' := cell_below hbN q1
              have e3' := cell_below hbN e3
              have e4' := cell_below hbN e4
              have hb3 := blk_below hb2 hbN
              have HO3 := HO.below hbN
              have hC3 := hC2.trans (Chg.of_below hbN)
              have hsz := hbf.size
              clear zf q1 e3 e4 hbn hbN hbf
              have HVx : Hid (vals ++ (((p.code.drop (j + 1)).flatMap usesI ++ (endsS p ++ R1))) = usesAll s) := Lib.hid (by have := HVj.out; rw [HUX.out] at this; simpa using this)
              go_wp2
              go_roundw
              case rel => exact ⟨j + 1, vals, by omega, by go_num, HVx, HO3, hC3⟩
              case measure => simp [intOf]; omega
            · have hbn := below_new (w := w1) (.cells #[.bool rd, .bool false, .bool true, .bool rn, .bool rt] 139)
              have hbN := below_then hbf hbn
              have bf := heap_alloc_new w1 (.cells #[.bool rd, .bool false, .bool true, .bool rn, .bool rt] 139)
              obtain ⟨zf, _⟩ := cell_of_block bf
              have f1 : (w1.alloc (.cells #[.bool rd, .bool false, .bool true, .bool rn, .bool rt] 139)).cell? ⟨w1.heap.size, 1, none⟩ = some (.bool false) := (zf 1).trans rfl
              have f2 : (w1.alloc (.cells #[.bool rd, .bool false, .bool true, .bool rn, .bool rt] 139)).cell? ⟨w1.heap.size, 2, none⟩ = some (.bool true) := (zf 2).trans rfl
              have q1' := cell_below hbN q1
              have e3' := cell_below hbN e3
              have e4' := cell_below hbN e4
              have hb3 := blk_below hb2 hbN
              have HO3 := HO.below hbN
              have hC3 := hC2.trans (Chg.of_below hbN)
              have hsz := hbf.size
              clear zf q1 e3 e4 hbn hbN hbf
              have HVx : Hid (vals ++ (x.b :: ((p.code.drop (j + 1)).flatMap usesI ++ (endsS p ++ R1))) = usesAll s) := Lib.hid (by have := HVj.out; rw [HUX.out] at this; simpa using this)
              go_wp2_with fail
              refine (HU1.out b5 (o5 + j * 6 + 4) vals (((p.code.drop (j + 1)).flatMap usesI ++ (endsS p ++ R1))) x.b _ HVx.out e4' hb3 HO3).mono ?_
              rintro e wc0 ⟨rfl, HO4, hCc0⟩
              have HV4 : Hid ((vals ++ [x.b]) ++ (((p.code.drop (j + 1)).flatMap usesI ++ (endsS p ++ R1))) = usesAll s) := Lib.hid (HST.out _ _ _ HVx.out)
              have hC4 := hC3.trans hCc0
              go_wp2
              go_roundw
              case rel => exact ⟨j + 1, (vals ++ [x.b]), by omega, by go_num, HV4, HO4, hC4⟩
              case measure => simp [intOf]; omega
          · cases rb
            · have hbn := below_new (w := w1) (.cells #[.bool rd, .bool true, .bool false, .bool rn, .bool rt] 139)
              have hbN := below_then hbf hbn
              have bf := heap_alloc_new w1 (.cells #[.bool rd, .bool true, .bool false, .bool rn, .bool rt] 139)
              obtain ⟨zf, _⟩ := cell_of_block bf
              have f1 : (w1.alloc (.cells #[.bool rd, .bool true, .bool false, .bool rn, .bool rt] 139)).cell? ⟨w1.heap.size, 1, none⟩ = some (.bool true) := (zf 1).trans rfl
              have f2 : (w1.alloc (.cells #[.bool rd, .bool true, .bool false, .bool rn, .bool rt] 139)).cell? ⟨w1.heap.size, 2, none⟩ = some (.bool false) := (zf 2).trans rfl
              have q1' := cell_below hbN q1
              have e3' := cell_below hbN e3
              have e4' := cell_below hbN e4
              have hb3 := blk_below hb2 hbN
              have HO3 := HO.below hbN
              have hC3 := hC2.trans (Chg.of_below hbN)
              have hsz := hbf.size
              clear zf q1 e3 e4 hbn hbN hbf
              have HVx : Hid (vals ++ (x.a :: ((p.code.drop (j + 1)).flatMap usesI ++ (endsS p ++ R1))) = usesAll s) := Lib.hid (by have := HVj.out; rw [HUX.out] at this; simpa using this)
              go_wp2_with fail
              refine (HU1.out b5 (o5 + j * 6 + 3) vals (((p.code.drop (j + 1)).flatMap usesI ++ (endsS p ++ R1))) x.a _ HVx.out e3' hb3 HO3).mono ?_
              rintro e wc0 ⟨rfl, HO4, hCc0⟩
              have HV4 : Hid ((vals ++ [x.a]) ++ (((p.code.drop (j + 1)).flatMap usesI ++ (endsS p ++ R1))) = usesAll s) := Lib.hid (HST.out _ _ _ HVx.out)
              have hC4 := hC3.trans hCc0
              have f2 := hCc0.cell f2 (fun h => by have h : w1.heap.size = g := h; omega)
              go_wp2
              go_roundw
              case rel => exact ⟨j + 1, (vals ++ [x.a]), by omega, by go_num, HV4, HO4, hC4⟩
              case measure => simp [intOf]; omega
            · have hbn := below_new (w := w1) (.cells #[.bool rd, .bool true, .bool true, .bool rn, .bool rt] 139)
              have hbN := below_then hbf hbn
              have bf := heap_alloc_new w1 (.cells #[.bool rd, .bool true, .bool true, .bool rn, .bool rt] 139)
              obtain ⟨zf, _⟩ := cell_of_block bf
              have f1 : (w1.alloc (.cells #[.bool rd, .bool true, .bool true, .bool rn, .bool rt] 139)).cell? ⟨w1.heap.size, 1, none⟩ = some (.bool true) := (zf 1).trans rfl
              have f2 : (w1.alloc (.cells #[.bool rd, .bool true, .bool true, .bool rn, .bool rt] 139)).cell? ⟨w1.heap.size, 2, none⟩ = some (.bool true) := (zf 2).trans rfl
              have q1' := cell_below hbN q1
              have e3' := cell_below hbN e3
              have e4' := cell_below hbN e4
              have hb3 := blk_below hb2 hbN
              have HO3 := HO.below hbN
              have hC3 := hC2.trans (Chg.of_below hbN)
              have hsz := hbf.size
              clear zf q1 e3 e4 hbn hbN hbf
              have HVx : Hid (vals ++ (x.a :: x.b :: ((p.code.drop (j + 1)).flatMap usesI ++ (endsS p ++ R1))) = usesAll s) := Lib.hid (by have := HVj.out; rw [HUX.out] at this; simpa using this)
              go_wp2_with fail
              refine (HU1.out b5 (o5 + j * 6 + 3) vals (x.b :: ((p.code.drop (j + 1)).flatMap usesI ++ (endsS p ++ R1))) x.a _ HVx.out e3' hb3 HO3).mono ?_
              rintro e wc0 ⟨rfl, HO4, hCc0⟩
              have HV4 : Hid ((vals ++ [x.a]) ++ (x.b :: ((p.code.drop (j + 1)).flatMap usesI ++ (endsS p ++ R1))) = usesAll s) := Lib.hid (HST.out _ _ _ HVx.out)
              have hC4 := hC3.trans hCc0
              have q1' := hCc0.cell q1' hFb
              have e4' := hCc0.cell e4' hFc
              have hb4 := hCc0.blk hb3 hbg
              have f2 := hCc0.cell f2 (fun h => by have h : w1.heap.size = g := h; omega)
              clear f1 e3'
              go_wp2_with fail
              refine (HU1.out b5 (o5 + j * 6 + 4) (vals ++ [x.a]) (((p.code.drop (j + 1)).flatMap usesI ++ (endsS p ++ R1))) x.b _ HV4.out e4' hb4 HO4).mono ?_
              rintro e wc1 ⟨rfl, HO5, hCc1⟩
              have HV5 : Hid (((vals ++ [x.a]) ++ [x.b]) ++ (((p.code.drop (j + 1)).flatMap usesI ++ (endsS p ++ R1))) = usesAll s) := Lib.hid (HST.out _ _ _ HV4.out)
              have hC5 := hC4.trans hCc1
              go_wp2
              go_roundw
              case rel => exact ⟨j + 1, ((vals ++ [x.a]) ++ [x.b]), by omega, by go_num, HV5, HO5, hC5⟩
              case measure => simp [intOf]; omega
        · obtain rfl : j = p.code.length := by omega
          have HVe : Hid (vals ++ (endsS p ++ R1) = usesAll s) := Lib.hid (by have := HV.out; rw [List.drop_length, List.flatMap_nil, List.nil_append] at this; exact this)
          clear HV
          have q2 := hpi.2.2.1
          have q3 := hpi.2.2.2.1
          have HTe : Hid ((p.go == 2 || p.go == 5) = testB p.go) := Lib.hid rfl
          have HT1 := Lib.hid (HT.out p.go wi)
          rw [HTe.out] at HT1
          rw [HTe.out] at HES
          generalize testB p.go = rt at *
          go_wp2_with fail
          refine HT1.out.mono ?_
          rintro e w1 ⟨rfl, rfl⟩
          clear HT1
          cases rt
          · have HVa : Hid (vals ++ (p.args.flatten ++ R1) = usesAll s) := Lib.hid (by have := HVe.out; rw [HES.out] at this; simpa using this)
            clear HVe HES q3
            have hpa := partAt_chg hp hC2 hFb
            have q5 := hpa.2.2.2.2.2
            clear hpi hpa
            go_wp2_with fail
            go_loopw [84] (fun i wr => ∃ (n : Nat) (vals : List Int), n ≤ p.args.length ∧ i = .int .i64 n ∧ Hid (vals ++ ((p.args.drop n).flatten ++ R1) = usesAll s) ∧ Ow true 3 Rp.int wr (fun q => q = g) (.slice (some ⟨g, 0, none⟩) N c) (cntL N vals) ∧ Chg (fun q => q = g) wo wr) (fun i _ => p.args.length - (intOf i).toNat)
            case atStart => exact ⟨0, vals, Nat.zero_le _, rfl, HVa, HO, hC2⟩
            case round =>
              clear HO HVa hC2
              obtain ⟨n, vals, hn, rfl, HV, HO, hC3⟩ := hrel
              rename World => wx
              by_cases hnt : n < p.args.length
              · have har := hargs.move (hC3.same (fun q hq => hF q hq))
                obtain ⟨_, _, hae, _, _, hra⟩ := rd_ints har
                cases hae
                rcases hra with hnil | ⟨b6, o6, rfl, hb6, hca⟩
                · rw [hnil] at hnt; simp at hnt
                obtain ⟨u, cu, hu⟩ := hca n hnt
                have hul := l4 _ (List.getElem_mem hnt)
                have HVn : Hid (vals ++ (p.args[n] ++ ((p.args.drop (n + 1)).flatten ++ R1)) = usesAll s) := Lib.hid (by
                  have := HV.out
                  rw [List.drop_eq_getElem_cons hnt, List.flatten_cons, List.append_assoc] at this
                  exact this)
                clear hca har HV
                generalize p.args[n] = a at *
                obtain ⟨Au, cu2, rfl, _⟩ := id hu
                have n0 : (0 : Int) ≤ (n : Int) := Int.natCast_nonneg _
                have n1 : (n : Int) < (p.args.length : Int) := by omega
                have hbx := hC3.blk hb1 hbg
                go_wp2_with fail
                clear cu
                go_loopw [90] (fun i wr => ∃ (j : Nat) (vals : List Int), j ≤ a.length ∧ i = .int .i64 j ∧ Hid (vals ++ (a.drop j ++ ((p.args.drop (n + 1)).flatten ++ R1)) = usesAll s) ∧ Ow true 3 Rp.int wr (fun q => q = g) (.slice (some ⟨g, 0, none⟩) N c) (cntL N vals) ∧ Chg (fun q => q = g) wx wr) (fun i _ => a.length - (intOf i).toNat)
                case atStart => exact ⟨0, vals, Nat.zero_le _, rfl, HVn, HO, Chg.refl _ _⟩
                case round =>
                  clear HO HVn
                  obtain ⟨j, vals, hj, rfl, HV, HO, hC4⟩ := hrel
                  rename World => wy
                  by_cases hjt : j < a.length
                  · have hur := hu.move (hC4.same (fun q hq => hF q hq))
                    obtain ⟨_, _, hue, _, _, hru⟩ := rd_int hur
                    cases hue
                    rcases hru with hnil | ⟨b7, o7, rfl, hb7, hcu⟩
                    · rw [hnil] at hjt; simp at hjt
                    have cv := hcu j hjt
                    have HVj : Hid (vals ++ (a[j] :: (a.drop (j + 1) ++ ((p.args.drop (n + 1)).flatten ++ R1))) = usesAll s) := Lib.hid (by
                      have := HV.out
                      rw [List.drop_eq_getElem_cons hjt, List.cons_append] at this
                      exact this)
                    clear hcu hur HV
                    generalize a[j] = v at *
                    have j0 : (0 : Int) ≤ (j : Int) := Int.natCast_nonneg _
                    have j1 : (j : Int) < (a.length : Int) := by omega
                    have hby := hC4.blk hbx hbg
                    go_wp2_with fail
                    refine (HU1.out b7 (o7 + j) vals _ v _ HVj.out cv hby HO).mono ?_
                    rintro e wz ⟨rfl, HO2, hCz⟩
                    have HV2 := Lib.hid (HST.out _ _ _ HVj.out)
                    have hC5 := hC4.trans hCz
                    clear HVj cv HO hCz hC4
                    go_wp2
                    go_roundw
                    case rel => exact ⟨j + 1, vals ++ [v], by omega, by go_num, HV2, HO2, hC5⟩
                    case measure => simp [intOf]; omega
                  · obtain rfl : j = a.length := by omega
                    have HV2 : Hid (vals ++ ((p.args.drop (n + 1)).flatten ++ R1) = usesAll s) := Lib.hid (by have := HV.out; rw [List.drop_length, List.nil_append] at this; exact this)
                    have hC5 := hC3.trans hC4
                    go_wp2
                    go_roundw
                    case rel => exact ⟨n + 1, vals, by omega, by go_num, HV2, HO, hC5⟩
                    case measure => simp [intOf]; omega
              · obtain rfl : n = p.args.length := by omega
                have HV2 : Hid (vals ++ R1 = usesAll s) := Lib.hid (by have := HV.out; rw [List.drop_length, List.flatten_nil, List.nil_append] at this; exact this)
                have hC5 := hC.trans hC3
                go_wp2
                go_roundw
                case rel => exact ⟨m + 1, vals, by omega, by go_num, by rw [← HR1.out]; exact HV2, HO, hC5⟩
                case measure => simp [intOf]; omega
          · have HVt : Hid (vals ++ (p.test :: (p.args.flatten ++ R1)) = usesAll s) := Lib.hid (by have := HVe.out; rw [HES.out] at this; simpa using this)
            clear HVe HES
            go_wp2_with fail
            refine (HU1.out b (o + m * 6 + 3) vals _ p.test _ HVt.out q3 hb2 HO).mono ?_
            rintro e wt ⟨rfl, HOt, hCt⟩
            have HVa := Lib.hid (HST.out _ _ _ HVt.out)
            have hCa := hC2.trans hCt
            clear HVt q3 q2 hb2 HO hCt hC2
            have hpa := partAt_chg hp hCa hFb
            have q5 := hpa.2.2.2.2.2
            clear hpi hpa
            go_wp2_with fail
            go_loopw [84] (fun i wr => ∃ (n : Nat) (vals : List Int), n ≤ p.args.length ∧ i = .int .i64 n ∧ Hid (vals ++ ((p.args.drop n).flatten ++ R1) = usesAll s) ∧ Ow true 3 Rp.int wr (fun q => q = g) (.slice (some ⟨g, 0, none⟩) N c) (cntL N vals) ∧ Chg (fun q => q = g) wo wr) (fun i _ => p.args.length - (intOf i).toNat)
            case atStart => exact ⟨0, (vals ++ [p.test]), Nat.zero_le _, rfl, HVa, HOt, hCa⟩
            case round =>
              clear HOt HVa hCa
              obtain ⟨n, vals, hn, rfl, HV, HO, hC3⟩ := hrel
              rename World => wx
              by_cases hnt : n < p.args.length
              · have har := hargs.move (hC3.same (fun q hq => hF q hq))
                obtain ⟨_, _, hae, _, _, hra⟩ := rd_ints har
                cases hae
                rcases hra with hnil | ⟨b6, o6, rfl, hb6, hca⟩
                · rw [hnil] at hnt; simp at hnt
                obtain ⟨u, cu, hu⟩ := hca n hnt
                have hul := l4 _ (List.getElem_mem hnt)
                have HVn : Hid (vals ++ (p.args[n] ++ ((p.args.drop (n + 1)).flatten ++ R1)) = usesAll s) := Lib.hid (by
                  have := HV.out
                  rw [List.drop_eq_getElem_cons hnt, List.flatten_cons, List.append_assoc] at this
                  exact this)
                clear hca har HV
                generalize p.args[n] = a at *
                obtain ⟨Au, cu2, rfl, _⟩ := id hu
                have n0 : (0 : Int) ≤ (n : Int) := Int.natCast_nonneg _
                have n1 : (n : Int) < (p.args.length : Int) := by omega
                have hbx := hC3.blk hb1 hbg
                go_wp2_with fail
                clear cu
                go_loopw [90] (fun i wr => ∃ (j : Nat) (vals : List Int), j ≤ a.length ∧ i = .int .i64 j ∧ Hid (vals ++ (a.drop j ++ ((p.args.drop (n + 1)).flatten ++ R1)) = usesAll s) ∧ Ow true 3 Rp.int wr (fun q => q = g) (.slice (some ⟨g, 0, none⟩) N c) (cntL N vals) ∧ Chg (fun q => q = g) wx wr) (fun i _ => a.length - (intOf i).toNat)
                case atStart => exact ⟨0, vals, Nat.zero_le _, rfl, HVn, HO, Chg.refl _ _⟩
                case round =>
                  clear HO HVn
                  obtain ⟨j, vals, hj, rfl, HV, HO, hC4⟩ := hrel
                  rename World => wy
                  by_cases hjt : j < a.length
                  · have hur := hu.move (hC4.same (fun q hq => hF q hq))
                    obtain ⟨_, _, hue, _, _, hru⟩ := rd_int hur
                    cases hue
                    rcases hru with hnil | ⟨b7, o7, rfl, hb7, hcu⟩
                    · rw [hnil] at hjt; simp at hjt
                    have cv := hcu j hjt
                    have HVj : Hid (vals ++ (a[j] :: (a.drop (j + 1) ++ ((p.args.drop (n + 1)).flatten ++ R1))) = usesAll s) := Lib.hid (by
                      have := HV.out
                      rw [List.drop_eq_getElem_cons hjt, List.cons_append] at this
                      exact this)
                    clear hcu hur HV
                    generalize a[j] = v at *
                    have j0 : (0 : Int) ≤ (j : Int) := Int.natCast_nonneg _
                    have j1 : (j : Int) < (a.length : Int) := by omega
                    have hby := hC4.blk hbx hbg
                    go_wp2_with fail
                    refine (HU1.out b7 (o7 + j) vals _ v _ HVj.out cv hby HO).mono ?_
                    rintro e wz ⟨rfl, HO2, hCz⟩
                    have HV2 := Lib.hid (HST.out _ _ _ HVj.out)
                    have hC5 := hC4.trans hCz
                    clear HVj cv HO hCz hC4
                    go_wp2
                    go_roundw
                    case rel => exact ⟨j + 1, vals ++ [v], by omega, by go_num, HV2, HO2, hC5⟩
                    case measure => simp [intOf]; omega
                  · obtain rfl : j = a.length := by omega
                    have HV2 : Hid (vals ++ ((p.args.drop (n + 1)).flatten ++ R1) = usesAll s) := Lib.hid (by have := HV.out; rw [List.drop_length, List.nil_append] at this; exact this)
                    have hC5 := hC3.trans hC4
                    go_wp2
                    go_roundw
                    case rel => exact ⟨n + 1, vals, by omega, by go_num, HV2, HO, hC5⟩
                    case measure => simp [intOf]; omega
              · obtain rfl : n = p.args.length := by omega
                have HV2 : Hid (vals ++ R1 = usesAll s) := Lib.hid (by have := HV.out; rw [List.drop_length, List.flatten_nil, List.nil_append] at this; exact this)
                have hC5 := hC.trans hC3
                go_wp2
                go_roundw
                case rel => exact ⟨m + 1, vals, by omega, by go_num, by rw [← HR1.out]; exact HV2, HO, hC5⟩
                case measure => simp [intOf]; omega
    · obtain rfl : m = s.parts.length := by omega
      have HU : Hid (vals = usesAll s) := Lib.hid (by have := HV.out; rw [List.drop_length, List.flatMap_nil, List.append_nil] at this; exact this)
      go_wp2
      refine bodyPost_end (results_none (by first | rfl | exact Try.results89 | kernel_rfl) _ _ _) rfl ?_
      exact ⟨rfl, by rw [← HU.out]; exact HO, hC⟩
end Go.Proofs.Ytmcnoeinjocimaa.L

set_option linter.unusedVariables false
set_option linter.unusedSimpArgs false
namespace Go.Proofs.Ytmcnoeinjocimaa.L
open Go.RowKit
theorem GoodP.usesAll_S {s : Sa} (h : GoodP s) : usesAll s = s.parts.flatMap (fun p => p.code.flatMap usesS ++ endsS p) := by
  unfold usesAll
  have key : ∀ l : List Pt, (∀ p ∈ l, p ∈ s.parts) → l.flatMap partU = l.flatMap (fun p => p.code.flatMap usesS ++ endsS p) := by
    intro l
    induction l with
    | nil => intro _; rfl
    | cons p t ih =>
      intro hl
      have hp := hl p List.mem_cons_self
      rw [List.flatMap_cons, List.flatMap_cons, ih (fun q hq => hl q (List.mem_cons_of_mem _ hq))]
      congr 1
      unfold partU
      congr 1
      have k2 : ∀ c : List Fl, (∀ x ∈ c, x ∈ p.code) → c.flatMap usesI = c.flatMap usesS := by
        intro c
        induction c with
        | nil => intro _; rfl
        | cons x u ih2 =>
          intro hc
          rw [List.flatMap_cons, List.flatMap_cons, ih2 (fun y hy => hc y (List.mem_cons_of_mem _ hy)), h.uses_eq hp (hc x List.mem_cons_self)]
      exact k2 _ (fun _ hx => hx)
  exact key _ (fun _ hp => hp)
theorem rd_int_in {w : World} {F : Nat → Prop} {v : Value} {l : List Int} (h : Rp.Rd Rp.int w F v l) : ∃ A c, v = .slice A l.length c ∧ l.length ≤ c ∧ c ≤ 9223372036854775807 ∧
    (l = [] ∨ ∃ b o, A = some ⟨b, o, none⟩ ∧ F b ∧ ∀ (k : Nat) (hk : k < l.length), w.cell? ⟨b, o + k, none⟩ = some (.int .i64 l[k])) := by
  have h2 := rd_int h
  obtain ⟨A, c, rfl, h3, h4, h5⟩ := h2
  refine ⟨A, c, rfl, h3, h4, ?_⟩
  obtain ⟨_, _, hae, _, _, h6⟩ := h
  cases hae
  rcases h5 with h5 | ⟨b, o, rfl, _, h5⟩
  · exact .inl h5
  · rcases h6 with h6 | ⟨_, _, he, hF, _⟩
    · exact .inl h6
    · cases he; exact .inr ⟨b, o, rfl, hF, h5⟩
theorem bump_own {s : Sa} {N : Nat} (hk : UOk s N) {g c : Nat} {vals R : List Int} {v : Int} {W : World} (hU : vals ++ v :: R = usesAll s) (hO : Ow true 3 Rp.int W (fun q => q = g) (.slice (some ⟨g, 0, none⟩) N c) (cntL N vals)) :
    ∃ (n : Nat) (y : Int), v = n ∧ n < N ∧ 0 ≤ y ∧ y < 2305843009213693952 ∧ W.cell? ⟨g, n, none⟩ = some (.int .i64 y) ∧ W.frozen? ⟨g, n, none⟩ = false ∧
      Ow true 3 Rp.int (W.setCell ⟨g, n, none⟩ (.int .i64 (y + 1))) (fun q => q = g) (.slice (some ⟨g, 0, none⟩) N c) (cntL N (vals ++ [v])) ∧ Chg (fun q => q = g) W (W.setCell ⟨g, n, none⟩ (.int .i64 (y + 1))) := by
  obtain ⟨⟨h0, h1⟩, hl, _⟩ := hk.step hU
  obtain ⟨n, rfl⟩ := Int.eq_ofNat_of_zero_le h0
  have hcl := cntL_len N vals
  have hn : n < (cntL N vals).length := by omega
  have hle := cntL_le N vals n
  have hg : (cntL N vals).getD n 0 = (cntL N vals)[n] := by rw [List.getD_eq_getElem?_getD, List.getElem?_eq_getElem hn]; rfl
  rw [hg] at hle
  have HO2 := hO.set1 rfl hn (y := (cntL N vals)[n] + 1) (u := .int .i64 ((cntL N vals)[n] + 1)) rfl
  have he : (cntL N vals).set n ((cntL N vals)[n] + 1) = cntL N (vals ++ [(n : Int)]) := by rw [cntL_snoc]; unfold bumpL; rw [Int.toNat_natCast, hg]
  rw [he] at HO2
  obtain ⟨d1, d2⟩ := hO.int_at hn
  exact ⟨n, _, rfl, by omega, hle.1, by omega, d1, d2, HO2, Chg.set rfl⟩
set_option maxRecDepth 100000 in
set_option maxHeartbeats 8000000 in
theorem countS_calls {F : Nat → Prop} {s : Sa} {N : Nat} (hk : UOk s N) (hUS : usesAll s = s.parts.flatMap (fun p => p.code.flatMap usesS ++ endsS p)) (vparts : Value) (w : World) (hs : Rp.Rd part w F vparts s.parts) (hx1 : s.parts.length ≤ 1048576) (hx2 : ∀ p ∈ s.parts, PtLim p) :
    Calls Try.prog 57 #[saV s vparts] w fun e w' => ∃ v', e = .returned v' ∧ Ow true 3 Rp.int w' (fun q => w.heap.size ≤ q) v' (cntL N (usesAll s)) ∧ Below w.heap.size w w' := by
  replace hs := hs.bound
  have hV := hk.V
  have hN := hk.le
  obtain ⟨A, c, rfl, _, _, hrow⟩ := rd_part hs
  have HE := Lib.hid (fun (p : Pt) v1 v2 v3 v4 W G (h1 : Rp.Rd Rp.int W G v1 p.params) (h2 : Rp.Rd flat W G v2 p.code) (h3 : Rp.Rd Rp.int W G v3 p.next) (h4 : Rp.Rd (Rp.sl Rp.int) W G v4 p.args) hl => l9Ends_calls p v1 v2 v3 v4 W h1 h2 h3 h4 hl)
  have HU7 := Lib.hid (fun x W => l9Uses_calls x W)
  unfold saV ptV flV at *
  rw [← hV]
  have hUS := Lib.hid hUS
  have HST := Lib.hid (fun (vals R : List Int) (v : Int) (hU : vals ++ v :: R = usesAll s) => (hk.step hU).2.2)
  have HBO := Lib.hid (fun (g c : Nat) (vals R : List Int) (v : Int) (W : World) (hU : vals ++ v :: R = usesAll s) hO => bump_own hk (g := g) (c := c) (W := W) hU hO)
  clear hV
  have hmk := mk_all Try.underlying35 infoInt N (by omega) (by omega)
  have j0 : (0 : Int) ≤ (N : Int) := Int.natCast_nonneg _
  have j1 : (N : Int) ≤ 250 := by omega
  have hB0 : Below w.heap.size w (w.alloc (.cells #[.slice A s.parts.length c, .int .i64 (N : Int)] 29)) := below_new _
  have b0 := heap_alloc_new w (.cells #[.slice A s.parts.length c, .int .i64 (N : Int)] 29)
  go_enter Try.func57, Try.ntmps57
  go_wp2_with fail
  have hsz : (w.alloc (.cells #[.slice A s.parts.length c, .int .i64 (N : Int)] 29)).heap.size = w.heap.size + 1 := by simp
  have hB2 := hB0.alloc hB0.size (.cells (madeCells #[.int .i64 0] N) 3)
  have b2 := heap_alloc_new (w.alloc (.cells #[.slice A s.parts.length c, .int .i64 (N : Int)] 29)) (.cells (madeCells #[.int .i64 0] N) 3)
  rw [hsz] at b2
  have hO := ow_zero b2 (by omega)
  clear b2 hsz b0 hB0 hmk
  go_loopw [18] (fun i wr => ∃ (m : Nat) (vals : List Int), m ≤ s.parts.length ∧ i = .int .i64 m ∧ Hid (vals ++ (s.parts.drop m).flatMap (fun p => p.code.flatMap usesS ++ endsS p) = usesAll s) ∧ Ow true 3 Rp.int wr (fun q => q = w.heap.size + 1) (.slice (some ⟨w.heap.size + 1, 0, none⟩) N N) (cntL N vals) ∧ Below w.heap.size w wr) (fun i _ => s.parts.length - (intOf i).toNat)
  case atStart => exact ⟨0, [], Nat.zero_le _, rfl, Lib.hid (by rw [hUS.out]; rfl), hO, hB2⟩
  case round =>
    clear hO hB2
    obtain ⟨m, vals, hm, rfl, HV, HO, HB⟩ := hrel
    rename World => wo
    by_cases hlt : m < s.parts.length
    · rcases hrow with hnil | ⟨b, o, rfl, hbl, hcell⟩
      · rw [hnil] at hlt; simp at hlt
      obtain ⟨_, _, _, _, hp, h1, h2, h3, h4⟩ := hcell m hlt
      obtain ⟨A1, c1, rfl, _⟩ := id h1
      obtain ⟨A2, c2, rfl, _, _, hr2⟩ := rd_flat h2
      obtain ⟨A3, c3, rfl, _⟩ := id h3
      obtain ⟨A4, c4, rfl, _⟩ := id h4
      obtain ⟨q0, q1, q2, q3, q4, q5⟩ := partAt_below hp HB
      have hlp := hx2 _ (List.getElem_mem hlt)
      have hl1 := hlp.2.1
      have HV2 : Hid (vals ++ (s.parts[m].code.flatMap usesS ++ (endsS s.parts[m] ++ (s.parts.drop (m + 1)).flatMap (fun p => p.code.flatMap usesS ++ endsS p))) = usesAll s) := Lib.hid (by
        have := HV.out
        rw [List.drop_eq_getElem_cons hlt, List.flatMap_cons, List.append_assoc] at this
        exact this)
      clear hcell hp HV
      obtain ⟨R1, hR1⟩ : ∃ R1, R1 = (s.parts.drop (m + 1)).flatMap (fun p => p.code.flatMap usesS ++ endsS p) := ⟨_, rfl⟩
      rw [← hR1] at HV2
      have HR1 := Lib.hid hR1
      clear hR1
      generalize s.parts[m] = p at *
      have HE1 := Lib.hid (fun W (hW : Below w.heap.size w W) => HE.out p _ _ _ _ W _ (h1.below hW) (h2.below hW) (h3.below hW) (h4.below hW) hlp)
      have hbp := below_new (w := wo) (.cells #[.slice A1 p.params.length c1, .slice A2 p.code.length c2, .int .i64 p.go, .int .i64 p.test, .slice A3 p.next.length c3, .slice A4 p.args.length c4] 54)
      have b3 := heap_alloc_new wo (.cells #[.slice A1 p.params.length c1, .slice A2 p.code.length c2, .int .i64 p.go, .int .i64 p.test, .slice A3 p.next.length c3, .slice A4 p.args.length c4] 54)
      have HB1 := HB.alloc HB.size (.cells #[.slice A1 p.params.length c1, .slice A2 p.code.length c2, .int .i64 p.go, .int .i64 p.test, .slice A3 p.next.length c3, .slice A4 p.args.length c4] 54)
      have HO1 := HO.below hbp
      have i0 : (0 : Int) ≤ (m : Int) := Int.natCast_nonneg _
      have i1 : (m : Int) < (s.parts.length : Int) := by omega
      have hgo : w.heap.size + 1 < wo.heap.size := (HO.lt_size (k := w.heap.size + 1) rfl).2
      go_wp2_with fail
      clear q0 q1 q2 q3 q4 q5 h1 h3 h4 hbp
      generalize wo.alloc (.cells #[.slice A1 p.params.length c1, .slice A2 p.code.length c2, .int .i64 p.go, .int .i64 p.test, .slice A3 p.next.length c3, .slice A4 p.args.length c4] 54) = W1 at *
      go_loopw [25] (fun i wr => ∃ (j : Nat) (vals : List Int), j ≤ p.code.length ∧ i = .int .i64 j ∧ Hid (vals ++ ((p.code.drop j).flatMap usesS ++ (endsS p ++ R1)) = usesAll s) ∧ Ow true 3 Rp.int wr (fun q => q = w.heap.size + 1) (.slice (some ⟨w.heap.size + 1, 0, none⟩) N N) (cntL N vals) ∧ Below w.heap.size w wr ∧ wr.heap[wo.heap.size]? = some (.cells #[.slice A1 p.params.length c1, .slice A2 p.code.length c2, .int .i64 p.go, .int .i64 p.test, .slice A3 p.next.length c3, .slice A4 p.args.length c4] 54 (0, 0))) (fun i _ => p.code.length - (intOf i).toNat)
      case atStart => exact ⟨0, vals, Nat.zero_le _, rfl, HV2, HO1, HB1, b3⟩
      case round =>
        clear HO HO1 HV2 HB1 b3
        obtain ⟨j, vals, hj, rfl, HV, HO, HB1, b3⟩ := hrel
        rename World => wi
        by_cases hjt : j < p.code.length
        · rcases hr2 with hnil | ⟨b5, o5, rfl, hb5, hcc⟩
          · rw [hnil] at hjt; simp at hjt
          obtain ⟨e0, e1, e2, e3, e4, e5⟩ := (hcc j hjt).below HB1
          have HVj : Hid (vals ++ (usesS p.code[j] ++ ((p.code.drop (j + 1)).flatMap usesS ++ (endsS p ++ R1))) = usesAll s) := Lib.hid (by
            have := HV.out
            rw [List.drop_eq_getElem_cons hjt, List.flatMap_cons, List.append_assoc] at this
            exact this)
          clear hcc HV
          generalize p.code[j] = x at *
          have hbx := below_new (w := wi) (.cells #[.int .i64 x.op, .int .i64 x.dO, .int .i64 x.dst, .int .i64 x.a, .int .i64 x.b, .int .i64 x.n] 61)
          have hgi : w.heap.size + 1 < wi.heap.size := (HO.lt_size (k := w.heap.size + 1) rfl).2
          have hsw : (wi.alloc (.cells #[.int .i64 x.op, .int .i64 x.dO, .int .i64 x.dst, .int .i64 x.a, .int .i64 x.b, .int .i64 x.n] 61)).heap.size = wi.heap.size + 1 := by simp
          have HB2 := HB1.alloc HB1.size (.cells #[.int .i64 x.op, .int .i64 x.dO, .int .i64 x.dst, .int .i64 x.a, .int .i64 x.b, .int .i64 x.n] 61)
          have HO2 := HO.below hbx
          have b4 := blk_below b3 hbx
          have hx0 := heap_alloc_new wi (.cells #[.int .i64 x.op, .int .i64 x.dO, .int .i64 x.dst, .int .i64 x.a, .int .i64 x.b, .int .i64 x.n] 61)
          obtain ⟨y1, _⟩ := cell_of_block hx0
          have y10 : (wi.alloc (.cells #[.int .i64 x.op, .int .i64 x.dO, .int .i64 x.dst, .int .i64 x.a, .int .i64 x.b, .int .i64 x.n] 61)).cell? ⟨wi.heap.size, 0, none⟩ = some (.int .i64 x.op) := (y1 0).trans rfl
          have y11 : (wi.alloc (.cells #[.int .i64 x.op, .int .i64 x.dO, .int .i64 x.dst, .int .i64 x.a, .int .i64 x.b, .int .i64 x.n] 61)).cell? ⟨wi.heap.size, 1, none⟩ = some (.int .i64 x.dO) := (y1 1).trans rfl
          have y12 : (wi.alloc (.cells #[.int .i64 x.op, .int .i64 x.dO, .int .i64 x.dst, .int .i64 x.a, .int .i64 x.b, .int .i64 x.n] 61)).cell? ⟨wi.heap.size, 2, none⟩ = some (.int .i64 x.dst) := (y1 2).trans rfl
          have y13 : (wi.alloc (.cells #[.int .i64 x.op, .int .i64 x.dO, .int .i64 x.dst, .int .i64 x.a, .int .i64 x.b, .int .i64 x.n] 61)).cell? ⟨wi.heap.size, 3, none⟩ = some (.int .i64 x.a) := (y1 3).trans rfl
          have y14 : (wi.alloc (.cells #[.int .i64 x.op, .int .i64 x.dO, .int .i64 x.dst, .int .i64 x.a, .int .i64 x.b, .int .i64 x.n] 61)).cell? ⟨wi.heap.size, 4, none⟩ = some (.int .i64 x.b) := (y1 4).trans rfl
          have y15 : (wi.alloc (.cells #[.int .i64 x.op, .int .i64 x.dO, .int .i64 x.dst, .int .i64 x.a, .int .i64 x.b, .int .i64 x.n] 61)).cell? ⟨wi.heap.size, 5, none⟩ = some (.int .i64 x.n) := (y1 5).trans rfl
          have n0 : (0 : Int) ≤ (j : Int) := Int.natCast_nonneg _
          have n1 : (j : Int) < (p.code.length : Int) := by omega
          have HU8 := Lib.hid (HU7.out x (wi.alloc (.cells #[.int .i64 x.op, .int .i64 x.dO, .int .i64 x.dst, .int .i64 x.a, .int .i64 x.b, .int .i64 x.n] 61)))
          clear y1 hx0 hbx
          go_wp2_with fail
          refine HU8.out.mono ?_
          rintro e w8 ⟨v8, rfl, hv8, hb8⟩
          have HB3 := below_then HB2 hb8
          have HO3 := HO2.below hb8
          have b5' := blk_below b4 hb8
          replace hv8 := hv8.rd
          rw [hsw] at hv8
          have hul : (usesS x).length ≤ 2 := by
            unfold usesS
            split
            · simp
            · split <;> simp
          clear HU8 y10 y11 y12 y13 y14 y15 e0 e1 e2 e3 e4 e5 HB1 HB2 HO HO2 b3 b4 hb8
          generalize usesS x = us at *
          obtain ⟨A8, c8, rfl, _, _, hr8⟩ := rd_int_in hv8
          go_wp2_with fail
          go_loopw [32] (fun i wr => ∃ (n : Nat) (vals : List Int), n ≤ us.length ∧ i = .int .i64 n ∧ Hid (vals ++ (us.drop n ++ ((p.code.drop (j + 1)).flatMap usesS ++ (endsS p ++ R1))) = usesAll s) ∧ Ow true 3 Rp.int wr (fun q => q = w.heap.size + 1) (.slice (some ⟨w.heap.size + 1, 0, none⟩) N N) (cntL N vals) ∧ Chg (fun q => q = w.heap.size + 1) w8 wr) (fun i _ => us.length - (intOf i).toNat)
          case atStart => exact ⟨0, vals, Nat.zero_le _, rfl, HVj, HO3, Chg.refl _ _⟩
          case round =>
            clear HO3 HVj
            obtain ⟨n, vals, hn, rfl, HV, HO, hC⟩ := hrel
            rename World => wx
            by_cases hnt : n < us.length
            · rcases hr8 with hnil | ⟨b8, o8, rfl, hb8, hc8⟩
              · rw [hnil] at hnt; simp at hnt
              have hb8g : b8 ≠ w.heap.size + 1 := by have hb8 := hb8; omega
              have cv := hC.cell (hc8 n hnt) hb8g
              have HVn : Hid (vals ++ (us[n] :: (us.drop (n + 1) ++ ((p.code.drop (j + 1)).flatMap usesS ++ (endsS p ++ R1)))) = usesAll s) := Lib.hid (by
                have := HV.out
                rw [List.drop_eq_getElem_cons hnt, List.cons_append] at this
                exact this)
              clear hc8 HV
              generalize us[n] = v at *
              obtain ⟨q, y, rfl, hqN, hy0, hy1, d1, d2, HO4, hC4⟩ := HBO.out _ _ _ _ _ _ HVn.out HO
              have HV2 := Lib.hid (HST.out _ _ _ HVn.out)
              have hC5 := hC.trans hC4
              have m0 : (0 : Int) ≤ (n : Int) := Int.natCast_nonneg _
              have m1 : (n : Int) < (us.length : Int) := by omega
              have m2 : (0 : Int) ≤ (q : Int) := Int.natCast_nonneg _
              have m3 : (q : Int) < (N : Int) := by omega
              have t1 : IntKind.i64.wrap (y + 1) = y + 1 := IntWalk.i64_in _ (by omega)
              clear HVn HO hC hC4
              go_wp2
              go_roundw
              case rel => exact ⟨n + 1, vals ++ [(q : Int)], by omega, by go_num, HV2, HO4, hC5⟩
              case measure => simp [intOf]; omega
            · obtain rfl : n = us.length := by omega
              have HV2 : Hid (vals ++ ((p.code.drop (j + 1)).flatMap usesS ++ (endsS p ++ R1)) = usesAll s) := Lib.hid (by have := HV.out; rw [List.drop_length, List.nil_append] at this; exact this)
              have HB4 := hC.to_below HB3 HB3.size (fun q hq => by have hq : q = w.heap.size + 1 := hq; omega)
              have b6 := hC.blk b5' (by omega)
              go_wp2
              go_roundw
              case rel => exact ⟨j + 1, vals, by omega, by go_num, HV2, HO, HB4, b6⟩
              case measure => simp [intOf]; omega
        · obtain rfl : j = p.code.length := by omega
          have HVe : Hid (vals ++ (endsS p ++ R1) = usesAll s) := Lib.hid (by have := HV.out; rw [List.drop_length, List.flatMap_nil, List.nil_append] at this; exact this)
          obtain ⟨x3, _⟩ := cell_of_block b3
          have z0 : wi.cell? ⟨wo.heap.size, 0, none⟩ = some (.slice A1 p.params.length c1) := (x3 0).trans rfl
          have z1 : wi.cell? ⟨wo.heap.size, 1, none⟩ = some (.slice A2 p.code.length c2) := (x3 1).trans rfl
          have z2 : wi.cell? ⟨wo.heap.size, 2, none⟩ = some (.int .i64 p.go) := (x3 2).trans rfl
          have z3 : wi.cell? ⟨wo.heap.size, 3, none⟩ = some (.int .i64 p.test) := (x3 3).trans rfl
          have z4 : wi.cell? ⟨wo.heap.size, 4, none⟩ = some (.slice A3 p.next.length c3) := (x3 4).trans rfl
          have z5 : wi.cell? ⟨wo.heap.size, 5, none⟩ = some (.slice A4 p.args.length c4) := (x3 5).trans rfl
          clear x3 HV
          go_wp2_with fail
          refine (HE1.out wi HB1).mono ?_
          rintro e w8 ⟨v8, rfl, hv8, hb8⟩
          have HB3 := below_then HB1 hb8
          have HO3 := HO.below hb8
          have hgi : w.heap.size + 1 < wi.heap.size := (HO.lt_size (k := w.heap.size + 1) rfl).2
          replace hv8 := hv8.rd
          clear z0 z1 z2 z3 z4 z5 HB1 HO b3 hb8
          obtain ⟨us, hus⟩ : ∃ us, us = endsS p := ⟨_, rfl⟩
          rw [← hus] at hv8 HVe
          clear hus
          have hv9 := hv8
          obtain ⟨A8, c8, rfl, hlc8, hcm8, hr8⟩ := rd_int_in hv8
          go_wp2_with fail
          go_loopw [47] (fun i wr => ∃ (n : Nat) (vals : List Int), n ≤ us.length ∧ i = .int .i64 n ∧ Hid (vals ++ (us.drop n ++ R1) = usesAll s) ∧ Ow true 3 Rp.int wr (fun q => q = w.heap.size + 1) (.slice (some ⟨w.heap.size + 1, 0, none⟩) N N) (cntL N vals) ∧ Chg (fun q => q = w.heap.size + 1) w8 wr) (fun i _ => us.length - (intOf i).toNat)
          case atStart => exact ⟨0, vals, Nat.zero_le _, rfl, HVe, HO3, Chg.refl _ _⟩
          case round =>
            clear HO3 HVe
            obtain ⟨n, vals, hn, rfl, HV, HO, hC⟩ := hrel
            rename World => wx
            by_cases hnt : n < us.length
            · rcases hr8 with hnil | ⟨b8, o8, rfl, hb8, hc8⟩
              · rw [hnil] at hnt; simp at hnt
              have hb8g : b8 ≠ w.heap.size + 1 := by have hb8 := hb8; omega
              have cv := hC.cell (hc8 n hnt) hb8g
              have HVn : Hid (vals ++ (us[n] :: (us.drop (n + 1) ++ R1)) = usesAll s) := Lib.hid (by
                have := HV.out
                rw [List.drop_eq_getElem_cons hnt, List.cons_append] at this
                exact this)
              clear hc8 HV
              generalize us[n] = v at *
              obtain ⟨q, y, rfl, hqN, hy0, hy1, d1, d2, HO4, hC4⟩ := HBO.out _ _ _ _ _ _ HVn.out HO
              have HV2 := Lib.hid (HST.out _ _ _ HVn.out)
              have hC5 := hC.trans hC4
              have m0 : (0 : Int) ≤ (n : Int) := Int.natCast_nonneg _
              have m1 : (n : Int) < (us.length : Int) := by omega
              have m2 : (0 : Int) ≤ (q : Int) := Int.natCast_nonneg _
              have m3 : (q : Int) < (N : Int) := by omega
              have m4 : (n : Int) < 9223372036854775807 := by omega
              have t1 : IntKind.i64.wrap (y + 1) = y + 1 := IntWalk.i64_in _ (by omega)
              clear HVn HO hC hC4
              go_wp2
              go_roundw
              case rel => exact ⟨n + 1, vals ++ [(q : Int)], by omega, by go_num, HV2, HO4, hC5⟩
              case measure => simp [intOf]; omega
            · obtain rfl : n = us.length := by omega
              have HV2 : Hid (vals ++ (s.parts.drop (m + 1)).flatMap (fun p => p.code.flatMap usesS ++ endsS p) = usesAll s) := Lib.hid (by have := HV.out; rw [List.drop_length, List.nil_append, HR1.out] at this; exact this)
              have HB4 := hC.to_below HB3 HB3.size (fun q hq => by have hq : q = w.heap.size + 1 := hq; omega)
              go_wp2
              go_roundw
              case rel => exact ⟨m + 1, vals, by omega, by go_num, HV2, HO, HB4⟩
              case measure => simp [intOf]; omega
    · obtain rfl : m = s.parts.length := by omega
      have HU : Hid (vals = usesAll s) := Lib.hid (by have := HV.out; rw [List.drop_length, List.flatMap_nil, List.append_nil] at this; exact this)
      go_wp2
      go_ret
      exact ⟨_, rfl, by rw [← HU.out]; exact HO.mono (fun q hq => by have hq : q = w.heap.size + 1 := hq; omega), HB⟩
end Go.Proofs.Ytmcnoeinjocimaa.L

set_option linter.unusedVariables false
set_option linter.unusedSimpArgs false
namespace Go.Proofs.Ytmcnoeinjocimaa.L
open Go.RowKit
theorem bool_flat : Rp.Flat Rp.bool := Rp.Flat.lit _ _
theorem rd_boolL {w : World} {F : Nat → Prop} {v : Value} {l : List Bool} (h : Rp.Rd Rp.bool w F v l) : ∃ A c, v = .slice A l.length c ∧ l.length ≤ c ∧ c ≤ 9223372036854775807 ∧
    (l = [] ∨ ∃ b o, A = some ⟨b, o, none⟩ ∧ b < w.heap.size ∧ ∀ (k : Nat) (hk : k < l.length), w.cell? ⟨b, o + k, none⟩ = some (.bool l[k])) := by
  obtain ⟨A, c, rfl, hl, hm, h⟩ := h
  refine ⟨A, c, rfl, hl, hm, ?_⟩
  rcases h with h | ⟨b, o, rfl, _, hb, h⟩
  · exact .inl h
  · refine .inr ⟨b, o, rfl, hb, fun k hk => ?_⟩
    obtain ⟨cs, rfl, hc⟩ := h k l[k] (List.getElem?_eq_getElem hk)
    have := hc 0 _ rfl
    rw [show k * Rp.bool.sz + 0 = k from by show k * 1 + 0 = k; omega] at this
    exact this
set_option maxRecDepth 100000 in
set_option maxHeartbeats 4000000 in
theorem setAdd_calls {G : Nat → Prop} (g c : Nat) (S : List Bool) (vl : Value) (l : List Int) (F : Nat → Prop) (W : World) (hO : Ow true 4 Rp.bool W F (.slice (some ⟨g, 0, none⟩) S.length c) S) (hl : Rp.Rd Rp.int W G vl l)
    (hG : ∀ q, G q → ¬ F q) (hr : ∀ v ∈ l, 0 ≤ v ∧ v < S.length) :
    Calls Try.prog 93 #[.slice (some ⟨g, 0, none⟩) S.length c, vl] W fun e w' => e = .returned (.tuple #[]) ∧ Ow true 4 Rp.bool w' F (.slice (some ⟨g, 0, none⟩) S.length c) (addB S l) ∧ Chg F W w' := by
  obtain ⟨AL, cL, rfl, hlc, hcm, hrow⟩ := rd_int_in hl
  have hFg : F g := (hO.lt_size (k := g) rfl).1
  go_enter Try.func93, Try.ntmps93
  go_wp2
  go_loopw [8] (fun i wr => ∃ m : Nat, m ≤ l.length ∧ i = .int .i64 m ∧ Ow true 4 Rp.bool wr F (.slice (some ⟨g, 0, none⟩) S.length c) (addB S (l.take m)) ∧ Chg F W wr) (fun i _ => l.length - (intOf i).toNat)
  case atStart => exact ⟨0, Nat.zero_le _, rfl, hO, Chg.refl _ _⟩
  case round =>
    clear hO
    obtain ⟨m, hm, rfl, HO, hC⟩ := hrel
    rename World => wo
    by_cases hlt : m < l.length
    · rcases hrow with hnil | ⟨b, o, rfl, hGb, hcell⟩
      · rw [hnil] at hlt; simp at hlt
      have cv := hC.cell (hcell m hlt) (hG b hGb)
      have hv := hr _ (List.getElem_mem hlt)
      have hS : Hid (addB S (l.take (m + 1)) = (addB S (l.take m)).set l[m].toNat true) := Lib.hid (by rw [List.take_succ_eq_append_getElem hlt]; unfold addB; rw [List.foldl_append]; rfl)
      have hlen : (addB S (l.take m)).length = S.length := addB_len _ _
      clear hcell
      generalize l[m] = x at *
      generalize addB S (l.take m) = S1 at *
      obtain ⟨n, rfl⟩ := Int.eq_ofNat_of_zero_le hv.1
      rw [Int.toNat_natCast] at hS
      have hn : n < S1.length := by omega
      have HO2 := HO.set1 rfl hn (y := true) (u := .bool true) rfl
      obtain ⟨d1, d2⟩ := bool_at HO hn
      have hC2 := hC.trans (Chg.set (w := wo) (o := n) (u := .bool true) hFg)
      generalize S1[n] = y at *
      have i0 : (0 : Int) ≤ (m : Int) := Int.natCast_nonneg _
      have i1 : (m : Int) < (l.length : Int) := by omega
      have i2 : (0 : Int) ≤ (n : Int) := Int.natCast_nonneg _
      have i3 : (n : Int) < (S.length : Int) := by omega
      clear HO hC hv hn
      go_wp2
      go_roundw
      case rel => exact ⟨m + 1, by omega, by go_num, by rw [hS.out]; exact HO2, hC2⟩
      case measure => simp [intOf]; omega
    · obtain rfl : m = l.length := by omega
      rw [List.take_length] at HO
      go_wp2
      refine bodyPost_end (results_none (by first | rfl | exact Try.results93 | kernel_rfl) _ _ _) rfl ?_
      exact ⟨rfl, HO, hC⟩
theorem listB_take {S : List Bool} {k : Nat} (hk : k < S.length) : listB (S.take (k + 1)) = listB (S.take k) ++ (if S[k] then [(k : Int)] else []) := by
  have hf : ∀ m, m ≤ S.length → listB (S.take m) = ((List.range m).map (fun n : Nat => (n : Int))).filter (fun v => S.getD v.toNat false) := fun m hm => by
    unfold listB
    rw [List.length_take, Nat.min_eq_left hm]
    refine List.filter_congr fun v hv => ?_
    obtain ⟨n, hn, rfl⟩ := List.mem_map.1 hv
    have hn := List.mem_range.1 hn
    rw [Int.toNat_natCast, List.getD_eq_getElem?_getD, List.getD_eq_getElem?_getD, List.getElem?_take, if_pos hn]
  rw [hf _ (by omega), hf _ (by omega), List.range_succ, List.map_append, List.filter_append]
  congr 1
  have : S.getD k false = S[k] := by rw [List.getD_eq_getElem?_getD, List.getElem?_eq_getElem hk]; rfl
  cases h : S[k] <;> simp only [List.map_cons, List.map_nil, List.filter_cons, List.filter_nil, Int.toNat_natCast, this, h] <;> rfl
theorem listB_len (S : List Bool) : (listB S).length ≤ S.length := by
  unfold listB
  refine Nat.le_trans (List.length_filter_le _ _) ?_
  simp
set_option maxRecDepth 100000 in
set_option maxHeartbeats 4000000 in
theorem listOf_calls {F : Nat → Prop} (v : Value) (S : List Bool) (W : World) (h : Rp.Rd Rp.bool W F v S) (hl : S.length ≤ 1048576) :
    Calls Try.prog 95 #[v] W fun e w' => ∃ v', e = .returned v' ∧ Ow true 3 Rp.int w' (fun q => W.heap.size ≤ q) v' (listB S) ∧ Below W.heap.size W w' := by
  obtain ⟨A, c, rfl, hlc, hcm, hrow⟩ := rd_boolL h
  have hB := below_new (w := W) (.cells #[] 3)
  have hO := (ow_empty (r := Rp.int) (ap := true) (heap_alloc_new W (.cells #[] 3))).mono (G := fun q => W.heap.size ≤ q) (fun q hq => by have hq : q = W.heap.size := hq; omega)
  go_enter Try.func95, Try.ntmps95
  go_wp2
  generalize W.alloc (.cells #[] 3) = W1 at *
  go_loopw [3, 9] (fun sv i wr => ∃ m : Nat, m ≤ S.length ∧ i = .int .i64 m ∧ Ow true 3 Rp.int wr (fun q => W.heap.size ≤ q) sv (listB (S.take m)) ∧ Below W.heap.size W wr) (fun _ i _ => S.length - (intOf i).toNat)
  case atStart => exact ⟨0, Nat.zero_le _, rfl, hO, hB⟩
  case round =>
    clear hO hB
    obtain ⟨m, hm, rfl, HO, HB⟩ := hrel
    rename World => wo
    by_cases hlt : m < S.length
    · rcases hrow with hnil | ⟨b, o, rfl, hb, hcell⟩
      · rw [hnil] at hlt; simp at hlt
      have cv := cell_below HB (hcell m hlt)
      have hS := Lib.hid (listB_take hlt)
      have hle := listB_len (S.take m)
      rw [List.length_take] at hle
      clear hcell
      generalize listB (S.take m) = L1 at *
      obtain ⟨Av, kv, rfl, _, _⟩ := HO.form
      have i0 : (0 : Int) ≤ (m : Int) := Int.natCast_nonneg _
      have i1 : (m : Int) < (S.length : Int) := by omega
      cases hx : S[m]
      · have hS2 : Hid (listB (S.take (m + 1)) = L1) := Lib.hid (by rw [hS.out, hx]; simp)
        rw [hx] at cv
        clear hS hx
        go_wp2
        go_roundw
        case rel => exact ⟨m + 1, by omega, by go_num, by rw [hS2.out]; exact HO, HB⟩
        case measure => simp [intOf]; omega
      · have hS2 : Hid (listB (S.take (m + 1)) = L1 ++ [(m : Int)]) := Lib.hid (by rw [hS.out, hx]; simp)
        rw [hx] at cv
        clear hS hx
        go_wp2_with (at_builtin; (refine app_int (by rfl) _ _ (by rfl) (.slice Av L1.length kv) L1 m wo.heap.size rfl (by rfl) (by rfl) HO (by omega) ?_; intro A' c' w3 HO3 hg; have HB3 := below_grown HB hg (fun q hq => own_in HO (.inr hq)) HB.size; have HO4 := HO3.mono (G := fun q => W.heap.size ≤ q) (fun q hq => by have := HB.size; rcases hq with hq | hq; exact hq; omega)))
        go_roundw
        case rel => exact ⟨m + 1, by omega, by go_num, by rw [hS2.out]; exact HO4, HB3⟩
        case measure => simp [intOf]; omega
    · obtain rfl : m = S.length := by omega
      rw [List.take_length] at HO
      go_wp2
      go_ret
      exact ⟨_, rfl, HO, HB⟩
set_option maxHeartbeats 4000000 in
theorem cloneB_calls {F : Nat → Prop} (v : Value) (l : List Bool) (w : World) (h : Rp.Rd Rp.bool w F v l) (hl : l.length ≤ 1048576) :
    Calls Try.prog 100 #[v] w fun e w' => ∃ v', e = .returned v' ∧ Ow true 4 Rp.bool w' (fun k => w.heap.size ≤ k) v' l ∧ Below w.heap.size w w' := by
  obtain ⟨A, c, rfl, hlc, hcm, hrow⟩ := rd_boolL h
  have q22 : ∀ (w : World) (a : Option Addr) (n c n' c' : Nat), (binOp .eql 91 (.slice a n c) (.slice none n' c')).run Try.prog w = .ok (.bool a.isNone) w := fun w a n c n' c' => Lib.run_eql_slice_nil w _ _ a n c n' c' Try.underlying91
  cases A with
  | none =>
    obtain rfl : l = [] := by rcases hrow with h | ⟨b, o, h, _⟩; exact h; cases h
    go_enter Try.func100, Try.ntmps100
    go_wp2
    go_ret
    exact ⟨_, rfl, Ow.nil _ _ _ _ _, Below.refl _ _⟩
  | some ad =>
    clear hrow
    have hH := h.below (below_new (w := w) (.cells #[] 4))
    have hB := (below_new (w := w) (.cells #[] 4)).size
    have HE : Ow true 4 Rp.bool (w.alloc (.cells #[] 4)) (fun k => w.heap.size ≤ k) (.slice (some ⟨w.heap.size, 0, none⟩) 0 0) [] :=
      ⟨fun _ _ => False, [], World.ownsRow_lit w #[] 0 (Nat.zero_le _) (by unfold maxLen; omega) (by simp), fun k hk => by simp [Value.ownBlock] at hk; omega, fun _ _ h => h.elim, fun _ _ _ _ h => h.elim, fun i x hx => by simp at hx⟩
    go_enter Try.func100, Try.ntmps100
    go_wp2_with (at_builtin; have _t := HE; refine acc_appendf (r := Rp.bool) (e := 4) (B := w.heap.size) (w0 := w) bool_flat (by rfl) _ _ 91 (.bool false) 1 (by rfl) Try.underlying91 infoBool rfl (by decide) (by omega) (.slice (some ⟨w.heap.size, 0, none⟩) 0 0) (.slice (some ad) l.length c) [] l (by rfl) (by rfl) true HE hH (below_new _) hB (by simp; omega) ?_; intro v1 w1 HO1 HB1 hB1; clear HE)
    go_ret
    exact ⟨_, rfl, HO1, HB1⟩
set_option maxRecDepth 100000 in
set_option maxHeartbeats 4000000 in
theorem equalB_calls {F G : Nat → Prop} (va vb : Value) (a b : List Bool) (w : World) (ha : Rp.Rd Rp.bool w F va a) (hb : Rp.Rd Rp.bool w G vb b) (hl : a.length = b.length) :
    Calls Try.prog 98 #[va, vb] w fun e w' => e = .returned (.bool (decide (a = b))) ∧ ∃ n, w' = w.drewN n := by
  obtain ⟨A, c, rfl, hlc, hcm, hra⟩ := rd_boolL ha
  obtain ⟨B, d, rfl, hld, hdm, hrb⟩ := rd_boolL hb
  rw [← hl]
  have hne : ((a.length : Int) != (a.length : Int)) = false := by simp
  go_enter Try.func98, Try.ntmps98
  go_wp2
  go_loopw [13] (fun i wr => ∃ m q : Nat, m ≤ a.length ∧ i = .int .i64 m ∧ Hid (a.take m = b.take m) ∧ wr = w.drewN q) (fun i _ => a.length - (intOf i).toNat)
  case atStart => exact ⟨0, 0, Nat.zero_le _, rfl, Lib.hid rfl, rfl⟩
  case round =>
    obtain ⟨m, q, hm, rfl, HT, rfl⟩ := hrel
    by_cases hlt : m < a.length
    · have hlt2 : m < b.length := by omega
      rcases hra with hnil | ⟨g, o, rfl, hg, hca⟩
      · rw [hnil] at hlt; simp at hlt
      rcases hrb with hnil | ⟨g2, o2, rfl, hg2, hcb⟩
      · rw [hnil] at hlt2; simp at hlt2
      have c1 : (w.drewN q).cell? ⟨g, o + m, none⟩ = some (.bool a[m]) := hca m hlt
      have c2 : (w.drewN q).cell? ⟨g2, o2 + m, none⟩ = some (.bool b[m]) := hcb m hlt2
      have HT1 := Lib.hid (fun h => take_succ_eq hlt hlt2 HT.out h)
      have HT2 : Hid (a[m] ≠ b[m] → a ≠ b) := Lib.hid (fun h => ne_of_get hlt hlt2 h)
      clear hca hcb
      obtain ⟨wq, hwq⟩ : ∃ wq, wq = w.drewN q := ⟨_, rfl⟩
      rw [← hwq] at c1 c2 ⊢
      have HW : Hid (wq.drew = w.drewN (q + 1)) := Lib.hid (by rw [hwq]; rfl)
      clear hwq
      generalize a[m] = x at *
      generalize b[m] = y at *
      have i0 : (0 : Int) ≤ (m : Int) := Int.natCast_nonneg _
      have i1 : (m : Int) < (a.length : Int) := by omega
      cases x
      · cases y
        · have HT3 := Lib.hid (HT1.out rfl)
          clear HT1 HT2 HT
          go_wp2_with fail
          go_region
          go_wp2
          go_roundw
          case rel => exact ⟨m + 1, q + 1, by omega, by go_num, HT3, HW.out⟩
          case measure => simp [intOf]; omega
        · have HT3 := Lib.hid (HT2.out (by decide))
          clear HT1 HT2 HT
          go_wp2_with fail
          go_region
          go_wp2
          go_ret
          exact ⟨ret_bool (by rw [eq_comm, decide_eq_false_iff_not]; exact HT3.out), q + 1, HW.out⟩
      · cases y
        · have HT3 := Lib.hid (HT2.out (by decide))
          clear HT1 HT2 HT
          go_wp2_with fail
          go_region
          go_wp2
          go_ret
          exact ⟨ret_bool (by rw [eq_comm, decide_eq_false_iff_not]; exact HT3.out), q + 1, HW.out⟩
        · have HT3 := Lib.hid (HT1.out rfl)
          clear HT1 HT2 HT
          go_wp2_with fail
          go_region
          go_wp2
          go_roundw
          case rel => exact ⟨m + 1, q + 1, by omega, by go_num, HT3, HW.out⟩
          case measure => simp [intOf]; omega
    · obtain rfl : m = a.length := by omega
      have HE : Hid (a = b) := Lib.hid (by have := HT.out; rw [List.take_length, hl, List.take_length] at this; exact this)
      go_wp2
      go_ret
      exact ⟨ret_bool (by rw [eq_comm, decide_eq_true_eq]; exact HE.out), q, rfl⟩
end Go.Proofs.Ytmcnoeinjocimaa.L
