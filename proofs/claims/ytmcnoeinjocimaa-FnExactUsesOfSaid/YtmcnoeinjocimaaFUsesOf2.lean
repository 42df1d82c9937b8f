/- Joined texts, each of which was built by itself: Us1 Us2 Us3 Us4 LwUsesOf. -/
import Derived.Test.YtmcnoeinjocimaaFUsesOf1
import Derived.Test.YtmcnoeinjocimaaB2
import Derived.Deep.RegionHeld3
set_option linter.unusedVariables false
set_option linter.unusedSimpArgs false
namespace Go.Proofs.Ytmcnoeinjocimaa.L
open Go.RowKit
def bumpL (L : List Int) (v : Int) : List Int := L.set v.toNat (L.getD v.toNat 0 + 1)
def cntL (V : Nat) (vals : List Int) : List Int := vals.foldl bumpL (List.replicate V 0)
theorem bumpL_len (L : List Int) (v : Int) : (bumpL L v).length = L.length := by unfold bumpL; rw [List.length_set]
theorem cntL_snoc (V : Nat) (a : List Int) (v : Int) : cntL V (a ++ [v]) = bumpL (cntL V a) v := by unfold cntL; rw [List.foldl_append]; rfl
theorem foldl_bump_len (l : List Int) : ∀ L : List Int, (l.foldl bumpL L).length = L.length := by
  induction l with
  | nil => intro L; rfl
  | cons x t ih => intro L; rw [List.foldl_cons, ih, bumpL_len]
theorem cntL_len (V : Nat) (a : List Int) : (cntL V a).length = V := by unfold cntL; rw [foldl_bump_len, List.length_replicate]
theorem foldl_bump_le (l : List Int) : ∀ (L : List Int) (m : Nat), (∀ n : Nat, 0 ≤ L.getD n 0 ∧ L.getD n 0 ≤ m) → ∀ n : Nat, 0 ≤ (l.foldl bumpL L).getD n 0 ∧ (l.foldl bumpL L).getD n 0 ≤ m + l.length := by
  induction l with
  | nil => intro L m h n; simpa using h n
  | cons x t ih =>
    intro L m h n
    rw [List.foldl_cons, List.length_cons]
    have := ih (bumpL L x) (m + 1) (fun q => by
      unfold bumpL
      by_cases hx : x.toNat < L.length
      · rw [getD_set2 _ _ _ _ _ hx]
        have h1 := h x.toNat
        have h2 := h q
        split <;> omega
      · rw [List.set_eq_of_length_le (by omega)]; have h2 := h q; omega) n
    omega
theorem cntL_le (V : Nat) (a : List Int) (n : Nat) : 0 ≤ (cntL V a).getD n 0 ∧ (cntL V a).getD n 0 ≤ a.length := by
  have := foldl_bump_le a (List.replicate V 0) 0 (fun q => by rw [List.getD_eq_getElem?_getD, List.getElem?_replicate]; split <;> simp) n
  unfold cntL; omega
def partU (p : Pt) : List Int := p.code.flatMap usesI ++ endsS p
def usesAll (s : Sa) : List Int := s.parts.flatMap partU
/-- What is known of all uses. -/
structure UOk (s : Sa) (N : Nat) : Prop where
  V : (N : Int) = s.values
  le : N ≤ 250
  rng : ∀ v ∈ usesAll s, 0 ≤ v ∧ v < N
  len : (usesAll s).length ≤ 2305843009213693952
theorem flatMap_len_le {α : Type} {f : α → List Int} {m : Nat} : ∀ {l : List α}, (∀ x ∈ l, (f x).length ≤ m) → (l.flatMap f).length ≤ l.length * m
  | [], _ => by simp
  | x :: t, h => by
    have h1 := flatMap_len_le (l := t) (fun y hy => h y (List.mem_cons_of_mem _ hy))
    have h2 := h x List.mem_cons_self
    rw [List.flatMap_cons, List.length_append, List.length_cons, Nat.succ_mul]; omega
theorem GoodP.uok {s : Sa} (h : GoodP s) (hl : ∀ p ∈ s.parts, PtLim p) : UOk s s.values.toNat := by
  have hv1 := h.v1
  have hv2 := h.v2
  have hn2 := h.n2
  refine ⟨by omega, by omega, fun v hv => ?_, ?_⟩
  · obtain ⟨p, hp, hv⟩ := List.mem_flatMap.1 hv
    obtain ⟨k, hk⟩ := List.getElem?_of_mem hp
    have : 0 ≤ v ∧ v < s.values := by
      rcases List.mem_append.1 hv with hv | hv
      · obtain ⟨x, hx, hv⟩ := List.mem_flatMap.1 hv
        exact (h.steps_in hk hx).2 v hv
      · exact h.use_in hk (.inl hv)
    omega
  · have : (usesAll s).length ≤ s.parts.length * 1099516000000 := flatMap_len_le (fun p hp => by
      obtain ⟨l0, l1, l2, l3, l4⟩ := hl p hp
      have e1 : (p.code.flatMap usesI).length ≤ p.code.length * 2 := flatMap_len_le (fun x _ => usesI_len x)
      have e2 := flatten_len l4
      unfold partU endsS
      rw [List.length_append, List.length_append]
      have e3 : (if p.go == 2 || p.go == 5 then [p.test] else []).length ≤ 1 := by split <;> simp
      have e4 : p.args.length * 1048576 ≤ 1048576 * 1048576 := Nat.mul_le_mul_right _ l3
      omega)
    have e5 : s.parts.length * 1099516000000 ≤ 11 * 1099516000000 := Nat.mul_le_mul_right _ hn2
    omega
theorem UOk.step {s : Sa} {N : Nat} (h : UOk s N) {vals R : List Int} {v : Int} (hU : vals ++ v :: R = usesAll s) : (0 ≤ v ∧ v < N) ∧ vals.length < 2305843009213693952 ∧ (vals ++ [v]) ++ R = usesAll s := by
  refine ⟨h.rng v (by rw [← hU]; simp), ?_, by rw [← hU]; simp⟩
  have := h.len
  rw [← hU, List.length_append, List.length_cons] at this
  omega
theorem entersUsed : Enters Try.prog 90 := enters Try.func90 (by kernel_rfl) (by kernel_rfl)
set_option maxRecDepth 100000 in
set_option maxHeartbeats 4000000 in
theorem used1_calls {s : Sa} {N : Nat} (hk : UOk s N) (g c bx pb po : Nat) (vals R : List Int) (v : Int) (W : World) (hU : vals ++ v :: R = usesAll s) (hp : W.cell? ⟨pb, po, none⟩ = some (.int .i64 v))
    (hb : W.heap[bx]? = some (.cells #[.slice (some ⟨g, 0, none⟩) N c] 35 (0, 0))) (hO : Ow true 3 Rp.int W (fun q => q = g) (.slice (some ⟨g, 0, none⟩) N c) (cntL N vals)) :
    Calls Try.prog 90 #[.pointer (some ⟨pb, po, none⟩), .pointer (some ⟨bx, 0, none⟩)] W fun e w' => e = .returned (.tuple #[]) ∧ Ow true 3 Rp.int w' (fun q => q = g) (.slice (some ⟨g, 0, none⟩) N c) (cntL N (vals ++ [v])) ∧ Chg (fun q => q = g) W w' := by
  obtain ⟨⟨h0, h1⟩, hl, _⟩ := hk.step hU
  obtain ⟨n, rfl⟩ := Int.eq_ofNat_of_zero_le h0
  have hcl := cntL_len N vals
  have hn : n < (cntL N vals).length := by omega
  have hle := cntL_le N vals n
  have hg : (cntL N vals).getD n 0 = (cntL N vals)[n] := by rw [List.getD_eq_getElem?_getD, List.getElem?_eq_getElem hn]; rfl
  rw [hg] at hle
  have HO2 := hO.set1 rfl hn (y := (cntL N vals)[n] + 1) (u := .int .i64 ((cntL N vals)[n] + 1)) rfl
  have he : (cntL N vals).set n ((cntL N vals)[n] + 1) = cntL N (vals ++ [(n : Int)]) := by rw [cntL_snoc]; unfold bumpL; rw [Int.toNat_natCast, hg]
  rw [he] at HO2
  obtain ⟨d1, d2⟩ := hO.int_at hn
  generalize (cntL N vals)[n] = y at *
  have HO2 := Lib.hid HO2
  have hC := Lib.hid (Chg.set (w := W) (A := fun q => q = g) (b := g) (o := n) (u := .int .i64 (y + 1)) rfl)
  obtain ⟨x0, _⟩ := cell_of_block hb
  have x0 : W.cell? ⟨bx, 0, none⟩ = some (.slice (some ⟨g, 0, none⟩) N c) := (x0 0).trans rfl
  have i0 : (0 : Int) ≤ (n : Int) := Int.natCast_nonneg _
  have i1 : (n : Int) < (N : Int) := by omega
  have t1 : IntKind.i64.wrap (y + 1) = y + 1 := IntWalk.i64_in _ (by omega)
  clear hO he hg hcl hn h0 h1 hU
  go_enter Try.func90, Try.ntmps90
  go_region
  go_wp2
  refine bodyPost_end (results_none (by first | rfl | exact Try.results90 | kernel_rfl) _ _ _) rfl ?_
  exact ⟨rfl, HO2.out, hC.out.trans (Chg.drewN 1)⟩
set_option maxRecDepth 100000 in
set_option maxHeartbeats 8000000 in
theorem uses_calls {F : Nat → Prop} {s : Sa} {N : Nat} (hk : UOk s N) (g c bx sb : Nat) (vparts : Value) (w : World) (hsb : w.heap[sb]? = some (.cells #[vparts, .int .i64 s.values] 29 (0, 0))) (hs : Rp.Rd part w F vparts s.parts)
    (hF : ∀ q, F q → q ≠ g) (hsg : sb ≠ g) (hbg : bx ≠ g) (hb : w.heap[bx]? = some (.cells #[.slice (some ⟨g, 0, none⟩) N c] 35 (0, 0)))
    (hO : Ow true 3 Rp.int w (fun q => q = g) (.slice (some ⟨g, 0, none⟩) N c) (cntL N [])) (hx1 : s.parts.length ≤ 1048576) (hx2 : ∀ p ∈ s.parts, PtLim p) :
    Calls Try.prog 89 #[.pointer (some ⟨sb, 0, none⟩), .func (.func 90) #[] #[.pointer (some ⟨bx, 0, none⟩)]] w fun e w' => e = .returned (.tuple #[]) ∧ Ow true 3 Rp.int w' (fun q => q = g) (.slice (some ⟨g, 0, none⟩) N c) (cntL N (usesAll s)) ∧ Chg (fun q => q = g) w w' := by
  have hen := entersUsed
  unfold Enters at hen
  obtain ⟨A, cA, rfl, _, _, _⟩ := rd_part hs
  have HT := Lib.hid (fun k W => tests_calls k W)
  have HFo := Lib.hid (fun o W => fieldsOf_calls o W)
  have HST := Lib.hid (fun (vals R : List Int) (v : Int) (hU : vals ++ v :: R = usesAll s) => (hk.step hU).2.2)
  have HU1 := Lib.hid (fun (pb po : Nat) (vals R : List Int) (v : Int) (W : World) (hU : vals ++ v :: R = usesAll s) h1 h2 h3 => used1_calls hk g c bx pb po vals R v W hU h1 h2 h3)
  obtain ⟨z0, _⟩ := cell_of_block hsb
  have y0 : w.cell? ⟨sb, 0, none⟩ = some (.slice A s.parts.length cA) := (z0 0).trans rfl
  clear z0
  go_enter Try.func89, Try.ntmps89
  go_wp2_with fail
  clear y0
  go_loopw [17] (fun i wr => ∃ (m : Nat) (vals : List Int), m ≤ s.parts.length ∧ i = .int .i64 m ∧ Hid (vals ++ (s.parts.drop m).flatMap partU = usesAll s) ∧ Ow true 3 Rp.int wr (fun q => q = g) (.slice (some ⟨g, 0, none⟩) N c) (cntL N vals) ∧ Chg (fun q => q = g) w wr) (fun i _ => s.parts.length - (intOf i).toNat)
  case atStart => exact ⟨0, [], Nat.zero_le _, rfl, Lib.hid rfl, hO, Chg.refl _ _⟩
  case round =>
    clear hO
    obtain ⟨m, vals, hm, rfl, HV, HO, hC⟩ := hrel
    rename World => wo
    by_cases hlt : m < s.parts.length
    · have hsr := hs.move (hC.same (fun q hq => hF q hq))
      have hsb1 := hC.blk hsb hsg
      have hb1 := hC.blk hb hbg
      obtain ⟨_, _, hAe, _, _, hrow⟩ := rd_part hsr
      cases hAe
      rcases hrow with hnil | ⟨b, o, rfl, hbl, hcell⟩
      · rw [hnil] at hlt; simp at hlt
      have hFb : b ≠ g := by
        obtain ⟨_, _, hAe, _, _, hh⟩ := hs
        rcases hh with hh | ⟨_, _, he, hFb, _⟩
        · rw [hh] at hlt; simp at hlt
        · cases hAe; cases he; exact hF b hFb
      obtain ⟨_, _, _, _, hp, ⟨B1, d1, rfl, h1⟩, hcode, ⟨B3, d3, rfl, h3⟩, hargs⟩ := hcell m hlt
      obtain ⟨B2, d2, rfl, _⟩ := id hcode
      obtain ⟨B4, d4, rfl, _⟩ := id hargs
      obtain ⟨l0, l1, l2, l3, l4⟩ := hx2 _ (List.getElem_mem hlt)
      have HV2 : Hid (vals ++ (s.parts[m].code.flatMap usesI ++ (endsS s.parts[m] ++ (s.parts.drop (m + 1)).flatMap partU)) = usesAll s) := Lib.hid (by
        have := HV.out
        rw [List.drop_eq_getElem_cons hlt, List.flatMap_cons] at this
        unfold partU at this ⊢
        rw [List.append_assoc] at this
        exact this)
      have HES : Hid (endsS s.parts[m] = (if s.parts[m].go == 2 || s.parts[m].go == 5 then [s.parts[m].test] else []) ++ s.parts[m].args.flatten) := Lib.hid rfl
      clear hcell h1 h3 HV hsr
      obtain ⟨R1, hR1⟩ : ∃ R1, R1 = (s.parts.drop (m + 1)).flatMap partU := ⟨_, rfl⟩
      rw [← hR1] at HV2
      have HR1 := Lib.hid hR1
      clear hR1
      generalize s.parts[m] = p at *
      obtain ⟨z0, _⟩ := cell_of_block hsb1
      have y0 : wo.cell? ⟨sb, 0, none⟩ = some (.slice (some ⟨b, o, none⟩) s.parts.length cA) := (z0 0).trans rfl
      clear z0
      have q1 := hp.2.1
      have i0 : (0 : Int) ≤ (m : Int) := Int.natCast_nonneg _
      have i1 : (m : Int) < (s.parts.length : Int) := by omega
      go_wp2_with fail
      clear y0 q1
      go_loopw [31] (fun i wr => ∃ (j : Nat) (vals : List Int), j ≤ p.code.length ∧ i = .int .i64 j ∧ Hid (vals ++ ((p.code.drop j).flatMap usesI ++ (endsS p ++ R1)) = usesAll s) ∧ Ow true 3 Rp.int wr (fun q => q = g) (.slice (some ⟨g, 0, none⟩) N c) (cntL N vals) ∧ Chg (fun q => q = g) wo wr) (fun i _ => p.code.length - (intOf i).toNat)
      case atStart => exact ⟨0, vals, Nat.zero_le _, rfl, HV2, HO, Chg.refl _ _⟩
      case round =>
        clear HO HV2
        obtain ⟨j, vals, hj, rfl, HV, HO, hC2⟩ := hrel
        rename World => wi
        have hpi := partAt_chg hp hC2 hFb
        have hb2 := hC2.blk hb1 hbg
        by_cases hjt : j < p.code.length
        · have hcr := hcode.move (hC2.same (fun q hq => hF q hq))
          obtain ⟨_, _, hce, _, _, hrc⟩ := rd_flat hcr
          cases hce
          rcases hrc with hnil | ⟨b5, o5, rfl, hb5, hcc⟩
          · rw [hnil] at hjt; simp at hjt
          obtain ⟨e0, e1, e2, e3, e4, e5⟩ := hcc j hjt
          have hFc : b5 ≠ g := by
            obtain ⟨_, _, hce, _, _, hh⟩ := hcode
            rcases hh with hh | ⟨_, _, he, hFb, _⟩
            · rw [hh] at hjt; simp at hjt
            · cases hce; cases he; exact hF b5 hFb
          have HVj : Hid (vals ++ (usesI p.code[j] ++ ((p.code.drop (j + 1)).flatMap usesI ++ (endsS p ++ R1))) = usesAll s) := Lib.hid (by
            have := HV.out
            rw [List.drop_eq_getElem_cons hjt, List.flatMap_cons, List.append_assoc] at this
            exact this)
          have HUX : Hid (usesI p.code[j] = (if fA p.code[j].op then [p.code[j].a] else []) ++ (if fB p.code[j].op then [p.code[j].b] else [])) := Lib.hid rfl
          have hgl : g < wi.heap.size := (HO.lt_size (k := g) rfl).2
          have q1 := hpi.2.1
          clear hcc hcr HV
          generalize p.code[j] = x at *
          have HF1 := Lib.hid (HFo.out x.op wi)
          unfold fieldsV at HF1
          generalize fD x.op = rd at *
          generalize fA x.op = ra at *
          generalize fB x.op = rb at *
          generalize fN x.op = rn at *
          generalize fT x.op = rt at *
          generalize fK x.op = rk at *
          have j0 : (0 : Int) ≤ (j : Int) := Int.natCast_nonneg _
          have j1 : (j : Int) < (p.code.length : Int) := by omega
          go_wp2_with fail
          refine HF1.out.mono ?_
          rintro e w1 ⟨rfl, hbf⟩
          clear HF1 e0 e1 e2 e5 hcode hargs
          cases ra
          · cases rb
            · have hbn := below_new (w := w1) (.cells #[.bool rd, .bool false, .bool false, .bool rn, .bool rt] 139)
              have hbN := below_then hbf hbn
              have bf := heap_alloc_new w1 (.cells #[.bool rd, .bool false, .bool false, .bool rn, .bool rt] 139)
              obtain ⟨zf, _⟩ := cell_of_block bf
              have f1 : (w1.alloc (.cells #[.bool rd, .bool false, .bool false, .bool rn, .bool rt] 139)).cell? ⟨w1.heap.size, 1, none⟩ = some (.bool false) := (zf 1).trans rfl
              have f2 : (w1.alloc (.cells #[.bool rd, .bool false, .bool false, .bool rn, .bool rt] 139)).cell? ⟨w1.heap.size, 2, none⟩ = some (.bool false) := (zf 2).trans rfl
              have q1' := cell_below hbN q1
              have e3' := cell_below hbN e3
              have e4' := cell_below hbN e4
              have hb3 := blk_below hb2 hbN
              have HO3 := HO.below hbN
              have hC3 := hC2.trans (Chg.of_below hbN)
              have hsz := hbf.size
              clear zf q1 e3 e4 hbn hbN hbf
              have HVx : Hid (vals ++ (((p.code.drop (j + 1)).flatMap usesI ++ (endsS p ++ R1))) = usesAll s) := Lib.hid (by have := HVj.out; rw [HUX.out] at this; simpa using this)
              go_wp2
              go_roundw
              case rel => exact ⟨j + 1, vals, by omega, by go_num, HVx, HO3, hC3⟩
              case measure => simp [intOf]; omega
            · have hbn := below_new (w := w1) (.cells #[.bool rd, .bool false, .bool true, .bool rn, .bool rt] 139)
              have hbN := below_then hbf hbn
              have bf := heap_alloc_new w1 (.cells #[.bool rd, .bool false, .bool true, .bool rn, .bool rt] 139)
              obtain ⟨zf, _⟩ := cell_of_block bf
              have f1 : (w1.alloc (.cells #[.bool rd, .bool false, .bool true, .bool rn, .bool rt] 139)).cell? ⟨w1.heap.size, 1, none⟩ = some (.bool false) := (zf 1).trans rfl
              have f2 : (w1.alloc (.cells #[.bool rd, .bool false, .bool true, .bool rn, .bool rt] 139)).cell? ⟨w1.heap.size, 2, none⟩ = some (.bool true) := (zf 2).trans rfl
              have q1' := cell_below hbN q1
              have e3' := cell_below hbN e3
              have e4' := cell_below hbN e4
              have hb3 := blk_below hb2 hbN
              have HO3 := HO.below hbN
              have hC3 := hC2.trans (Chg.of_below hbN)
              have hsz := hbf.size
              clear zf q1 e3 e4 hbn hbN hbf
              have HVx : Hid (vals ++ (x.b :: ((p.code.drop (j + 1)).flatMap usesI ++ (endsS p ++ R1))) = usesAll s) := Lib.hid (by have := HVj.out; rw [HUX.out] at this; simpa using this)
              go_wp2_with fail
              refine (HU1.out b5 (o5 + j * 6 + 4) vals (((p.code.drop (j + 1)).flatMap usesI ++ (endsS p ++ R1))) x.b _ HVx.out e4' hb3 HO3).mono ?_
              rintro e wc0 ⟨rfl, HO4, hCc0⟩
              have HV4 : Hid ((vals ++ [x.b]) ++ (((p.code.drop (j + 1)).flatMap usesI ++ (endsS p ++ R1))) = usesAll s) := Lib.hid (HST.out _ _ _ HVx.out)
              have hC4 := hC3.trans hCc0
              go_wp2
              go_roundw
              case rel => exact ⟨j + 1, (vals ++ [x.b]), by omega, by go_num, HV4, HO4, hC4⟩
              case measure => simp [intOf]; omega
          · cases rb
            · have hbn := below_new (w := w1) (.cells #[.bool rd, .bool true, .bool false, .bool rn, .bool rt] 139)
              have hbN := below_then hbf hbn
              have bf := heap_alloc_new w1 (.cells #[.bool rd, .bool true, .bool false, .bool rn, .bool rt] 139)
              obtain ⟨zf, _⟩ := cell_of_block bf
              have f1 : (w1.alloc (.cells #[.bool rd, .bool true, .bool false, .bool rn, .bool rt] 139)).cell? ⟨w1.heap.size, 1, none⟩ = some (.bool true) := (zf 1).trans rfl
              have f2 : (w1.alloc (.cells #[.bool rd, .bool true, .bool false, .bool rn, .bool rt] 139)).cell? ⟨w1.heap.size, 2, none⟩ = some (.bool false) := (zf 2).trans rfl
              have q1' := cell_below hbN q1
              have e3' := cell_below hbN e3
              have e4' := cell_below hbN e4
              have hb3 := blk_below hb2 hbN
              have HO3 := HO.below hbN
              have hC3 := hC2.trans (Chg.of_below hbN)
              have hsz := hbf.size
              clear zf q1 e3 e4 hbn hbN hbf
              have HVx : Hid (vals ++ (x.a :: ((p.code.drop (j + 1)).flatMap usesI ++ (endsS p ++ R1))) = usesAll s) := Lib.hid (by have := HVj.out; rw [HUX.out] at this; simpa using this)
              go_wp2_with fail
              refine (HU1.out b5 (o5 + j * 6 + 3) vals (((p.code.drop (j + 1)).flatMap usesI ++ (endsS p ++ R1))) x.a _ HVx.out e3' hb3 HO3).mono ?_
              rintro e wc0 ⟨rfl, HO4, hCc0⟩
              have HV4 : Hid ((vals ++ [x.a]) ++ (((p.code.drop (j + 1)).flatMap usesI ++ (endsS p ++ R1))) = usesAll s) := Lib.hid (HST.out _ _ _ HVx.out)
              have hC4 := hC3.trans hCc0
              have f2 := hCc0.cell f2 (fun h => by have h : w1.heap.size = g := h; omega)
              go_wp2
              go_roundw
              case rel => exact ⟨j + 1, (vals ++ [x.a]), by omega, by go_num, HV4, HO4, hC4⟩
              case measure => simp [intOf]; omega
            · have hbn := below_new (w := w1) (.cells #[.bool rd, .bool true, .bool true, .bool rn, .bool rt] 139)
              have hbN := below_then hbf hbn
              have bf := heap_alloc_new w1 (.cells #[.bool rd, .bool true, .bool true, .bool rn, .bool rt] 139)
              obtain ⟨zf, _⟩ := cell_of_block bf
              have f1 : (w1.alloc (.cells #[.bool rd, .bool true, .bool true, .bool rn, .bool rt] 139)).cell? ⟨w1.heap.size, 1, none⟩ = some (.bool true) := (zf 1).trans rfl
              have f2 : (w1.alloc (.cells #[.bool rd, .bool true, .bool true, .bool rn, .bool rt] 139)).cell? ⟨w1.heap.size, 2, none⟩ = some (.bool true) := (zf 2).trans rfl
              have q1' := cell_below hbN q1
              have e3' := cell_below hbN e3
              have e4' := cell_below hbN e4
              have hb3 := blk_below hb2 hbN
              have HO3 := HO.below hbN
              have hC3 := hC2.trans (Chg.of_below hbN)
              have hsz := hbf.size
              clear zf q1 e3 e4 hbn hbN hbf
              have HVx : Hid (vals ++ (x.a :: x.b :: ((p.code.drop (j + 1)).flatMap usesI ++ (endsS p ++ R1))) = usesAll s) := Lib.hid (by have := HVj.out; rw [HUX.out] at this; simpa using this)
              go_wp2_with fail
              refine (HU1.out b5 (o5 + j * 6 + 3) vals (x.b :: ((p.code.drop (j + 1)).flatMap usesI ++ (endsS p ++ R1))) x.a _ HVx.out e3' hb3 HO3).mono ?_
              rintro e wc0 ⟨rfl, HO4, hCc0⟩
              have HV4 : Hid ((vals ++ [x.a]) ++ (x.b :: ((p.code.drop (j + 1)).flatMap usesI ++ (endsS p ++ R1))) = usesAll s) := Lib.hid (HST.out _ _ _ HVx.out)
              have hC4 := hC3.trans hCc0
              have q1' := hCc0.cell q1' hFb
              have e4' := hCc0.cell e4' hFc
              have hb4 := hCc0.blk hb3 hbg
              have f2 := hCc0.cell f2 (fun h => by have h : w1.heap.size = g := h; omega)
              clear f1 e3'
              go_wp2_with fail
              refine (HU1.out b5 (o5 + j * 6 + 4) (vals ++ [x.a]) (((p.code.drop (j + 1)).flatMap usesI ++ (endsS p ++ R1))) x.b _ HV4.out e4' hb4 HO4).mono ?_
              rintro e wc1 ⟨rfl, HO5, hCc1⟩
              have HV5 : Hid (((vals ++ [x.a]) ++ [x.b]) ++ (((p.code.drop (j + 1)).flatMap usesI ++ (endsS p ++ R1))) = usesAll s) := Lib.hid (HST.out _ _ _ HV4.out)
              have hC5 := hC4.trans hCc1
              go_wp2
              go_roundw
              case rel => exact ⟨j + 1, ((vals ++ [x.a]) ++ [x.b]), by omega, by go_num, HV5, HO5, hC5⟩
              case measure => simp [intOf]; omega
        · obtain rfl : j = p.code.length := by omega
          have HVe : Hid (vals ++ (endsS p ++ R1) = usesAll s) := Lib.hid (by have := HV.out; rw [List.drop_length, List.flatMap_nil, List.nil_append] at this; exact this)
          clear HV
          have q2 := hpi.2.2.1
          have q3 := hpi.2.2.2.1
          have HTe : Hid ((p.go == 2 || p.go == 5) = testB p.go) := Lib.hid rfl
          have HT1 := Lib.hid (HT.out p.go wi)
          rw [HTe.out] at HT1
          rw [HTe.out] at HES
          generalize testB p.go = rt at *
          go_wp2_with fail
          refine HT1.out.mono ?_
          rintro e w1 ⟨rfl, rfl⟩
          clear HT1
          cases rt
          · have HVa : Hid (vals ++ (p.args.flatten ++ R1) = usesAll s) := Lib.hid (by have := HVe.out; rw [HES.out] at this; simpa using this)
            clear HVe HES q3
            have hpa := partAt_chg hp hC2 hFb
            have q5 := hpa.2.2.2.2.2
            clear hpi hpa
            go_wp2_with fail
            go_loopw [84] (fun i wr => ∃ (n : Nat) (vals : List Int), n ≤ p.args.length ∧ i = .int .i64 n ∧ Hid (vals ++ ((p.args.drop n).flatten ++ R1) = usesAll s) ∧ Ow true 3 Rp.int wr (fun q => q = g) (.slice (some ⟨g, 0, none⟩) N c) (cntL N vals) ∧ Chg (fun q => q = g) wo wr) (fun i _ => p.args.length - (intOf i).toNat)
            case atStart => exact ⟨0, vals, Nat.zero_le _, rfl, HVa, HO, hC2⟩
            case round =>
              clear HO HVa hC2
              obtain ⟨n, vals, hn, rfl, HV, HO, hC3⟩ := hrel
              rename World => wx
              by_cases hnt : n < p.args.length
              · have har := hargs.move (hC3.same (fun q hq => hF q hq))
                obtain ⟨_, _, hae, _, _, hra⟩ := rd_ints har
                cases hae
                rcases hra with hnil | ⟨b6, o6, rfl, hb6, hca⟩
                · rw [hnil] at hnt; simp at hnt
                obtain ⟨u, cu, hu⟩ := hca n hnt
                have hul := l4 _ (List.getElem_mem hnt)
                have HVn : Hid (vals ++ (p.args[n] ++ ((p.args.drop (n + 1)).flatten ++ R1)) = usesAll s) := Lib.hid (by
                  have := HV.out
                  rw [List.drop_eq_getElem_cons hnt, List.flatten_cons, List.append_assoc] at this
                  exact this)
                clear hca har HV
                generalize p.args[n] = a at *
                obtain ⟨Au, cu2, rfl, _⟩ := id hu
                have n0 : (0 : Int) ≤ (n : Int) := Int.natCast_nonneg _
                have n1 : (n : Int) < (p.args.length : Int) := by omega
                have hbx := hC3.blk hb1 hbg
                go_wp2_with fail
                clear cu
                go_loopw [90] (fun i wr => ∃ (j : Nat) (vals : List Int), j ≤ a.length ∧ i = .int .i64 j ∧ Hid (vals ++ (a.drop j ++ ((p.args.drop (n + 1)).flatten ++ R1)) = usesAll s) ∧ Ow true 3 Rp.int wr (fun q => q = g) (.slice (some ⟨g, 0, none⟩) N c) (cntL N vals) ∧ Chg (fun q => q = g) wx wr) (fun i _ => a.length - (intOf i).toNat)
                case atStart => exact ⟨0, vals, Nat.zero_le _, rfl, HVn, HO, Chg.refl _ _⟩
                case round =>
                  clear HO HVn
                  obtain ⟨j, vals, hj, rfl, HV, HO, hC4⟩ := hrel
                  rename World => wy
                  by_cases hjt : j < a.length
                  · have hur := hu.move (hC4.same (fun q hq => hF q hq))
                    obtain ⟨_, _, hue, _, _, hru⟩ := rd_int hur
                    cases hue
                    rcases hru with hnil | ⟨b7, o7, rfl, hb7, hcu⟩
                    · rw [hnil] at hjt; simp at hjt
                    have cv := hcu j hjt
                    have HVj : Hid (vals ++ (a[j] :: (a.drop (j + 1) ++ ((p.args.drop (n + 1)).flatten ++ R1))) = usesAll s) := Lib.hid (by
                      have := HV.out
                      rw [List.drop_eq_getElem_cons hjt, List.cons_append] at this
                      exact this)
                    clear hcu hur HV
                    generalize a[j] = v at *
                    have j0 : (0 : Int) ≤ (j : Int) := Int.natCast_nonneg _
                    have j1 : (j : Int) < (a.length : Int) := by omega
                    have hby := hC4.blk hbx hbg
                    go_wp2_with fail
                    refine (HU1.out b7 (o7 + j) vals _ v _ HVj.out cv hby HO).mono ?_
                    rintro e wz ⟨rfl, HO2, hCz⟩
                    have HV2 := Lib.hid (HST.out _ _ _ HVj.out)
                    have hC5 := hC4.trans hCz
                    clear HVj cv HO hCz hC4
                    go_wp2
                    go_roundw
                    case rel => exact ⟨j + 1, vals ++ [v], by omega, by go_num, HV2, HO2, hC5⟩
                    case measure => simp [intOf]; omega
                  · obtain rfl : j = a.length := by omega
                    have HV2 : Hid (vals ++ ((p.args.drop (n + 1)).flatten ++ R1) = usesAll s) := Lib.hid (by have := HV.out; rw [List.drop_length, List.nil_append] at this; exact this)
                    have hC5 := hC3.trans hC4
                    go_wp2
                    go_roundw
                    case rel => exact ⟨n + 1, vals, by omega, by go_num, HV2, HO, hC5⟩
                    case measure => simp [intOf]; omega
              · obtain rfl : n = p.args.length := by omega
                have HV2 : Hid (vals ++ R1 = usesAll s) := Lib.hid (by have := HV.out; rw [List.drop_length, List.flatten_nil, List.nil_append] at this; exact this)
                have hC5 := hC.trans hC3
                go_wp2
                go_roundw
                case rel => exact ⟨m + 1, vals, by omega, by go_num, by rw [← HR1.out]; exact HV2, HO, hC5⟩
                case measure => simp [intOf]; omega
          · have HVt : Hid (vals ++ (p.test :: (p.args.flatten ++ R1)) = usesAll s) := Lib.hid (by have := HVe.out; rw [HES.out] at this; simpa using this)
            clear HVe HES
            go_wp2_with fail
            refine (HU1.out b (o + m * 6 + 3) vals _ p.test _ HVt.out q3 hb2 HO).mono ?_
            rintro e wt ⟨rfl, HOt, hCt⟩
            have HVa := Lib.hid (HST.out _ _ _ HVt.out)
            have hCa := hC2.trans hCt
            clear HVt q3 q2 hb2 HO hCt hC2
            have hpa := partAt_chg hp hCa hFb
            have q5 := hpa.2.2.2.2.2
            clear hpi hpa
            go_wp2_with fail
            go_loopw [84] (fun i wr => ∃ (n : Nat) (vals : List Int), n ≤ p.args.length ∧ i = .int .i64 n ∧ Hid (vals ++ ((p.args.drop n).flatten ++ R1) = usesAll s) ∧ Ow true 3 Rp.int wr (fun q => q = g) (.slice (some ⟨g, 0, none⟩) N c) (cntL N vals) ∧ Chg (fun q => q = g) wo wr) (fun i _ => p.args.length - (intOf i).toNat)
            case atStart => exact ⟨0, (vals ++ [p.test]), Nat.zero_le _, rfl, HVa, HOt, hCa⟩
            case round =>
              clear HOt HVa hCa
              obtain ⟨n, vals, hn, rfl, HV, HO, hC3⟩ := hrel
              rename World => wx
              by_cases hnt : n < p.args.length
              · have har := hargs.move (hC3.same (fun q hq => hF q hq))
                obtain ⟨_, _, hae, _, _, hra⟩ := rd_ints har
                cases hae
                rcases hra with hnil | ⟨b6, o6, rfl, hb6, hca⟩
                · rw [hnil] at hnt; simp at hnt
                obtain ⟨u, cu, hu⟩ := hca n hnt
                have hul := l4 _ (List.getElem_mem hnt)
                have HVn : Hid (vals ++ (p.args[n] ++ ((p.args.drop (n + 1)).flatten ++ R1)) = usesAll s) := Lib.hid (by
                  have := HV.out
                  rw [List.drop_eq_getElem_cons hnt, List.flatten_cons, List.append_assoc] at this
                  exact this)
                clear hca har HV
                generalize p.args[n] = a at *
                obtain ⟨Au, cu2, rfl, _⟩ := id hu
                have n0 : (0 : Int) ≤ (n : Int) := Int.natCast_nonneg _
                have n1 : (n : Int) < (p.args.length : Int) := by omega
                have hbx := hC3.blk hb1 hbg
                go_wp2_with fail
                clear cu
                go_loopw [90] (fun i wr => ∃ (j : Nat) (vals : List Int), j ≤ a.length ∧ i = .int .i64 j ∧ Hid (vals ++ (a.drop j ++ ((p.args.drop (n + 1)).flatten ++ R1)) = usesAll s) ∧ Ow true 3 Rp.int wr (fun q => q = g) (.slice (some ⟨g, 0, none⟩) N c) (cntL N vals) ∧ Chg (fun q => q = g) wx wr) (fun i _ => a.length - (intOf i).toNat)
                case atStart => exact ⟨0, vals, Nat.zero_le _, rfl, HVn, HO, Chg.refl _ _⟩
                case round =>
                  clear HO HVn
                  obtain ⟨j, vals, hj, rfl, HV, HO, hC4⟩ := hrel
                  rename World => wy
                  by_cases hjt : j < a.length
                  · have hur := hu.move (hC4.same (fun q hq => hF q hq))
                    obtain ⟨_, _, hue, _, _, hru⟩ := rd_int hur
                    cases hue
                    rcases hru with hnil | ⟨b7, o7, rfl, hb7, hcu⟩
                    · rw [hnil] at hjt; simp at hjt
                    have cv := hcu j hjt
                    have HVj : Hid (vals ++ (a[j] :: (a.drop (j + 1) ++ ((p.args.drop (n + 1)).flatten ++ R1))) = usesAll s) := Lib.hid (by
                      have := HV.out
                      rw [List.drop_eq_getElem_cons hjt, List.cons_append] at this
                      exact this)
                    clear hcu hur HV
                    generalize a[j] = v at *
                    have j0 : (0 : Int) ≤ (j : Int) := Int.natCast_nonneg _
                    have j1 : (j : Int) < (a.length : Int) := by omega
                    have hby := hC4.blk hbx hbg
                    go_wp2_with fail
                    refine (HU1.out b7 (o7 + j) vals _ v _ HVj.out cv hby HO).mono ?_
                    rintro e wz ⟨rfl, HO2, hCz⟩
                    have HV2 := Lib.hid (HST.out _ _ _ HVj.out)
                    have hC5 := hC4.trans hCz
                    clear HVj cv HO hCz hC4
                    go_wp2
                    go_roundw
                    case rel => exact ⟨j + 1, vals ++ [v], by omega, by go_num, HV2, HO2, hC5⟩
                    case measure => simp [intOf]; omega
                  · obtain rfl : j = a.length := by omega
                    have HV2 : Hid (vals ++ ((p.args.drop (n + 1)).flatten ++ R1) = usesAll s) := Lib.hid (by have := HV.out; rw [List.drop_length, List.nil_append] at this; exact this)
                    have hC5 := hC3.trans hC4
                    go_wp2
                    go_roundw
                    case rel => exact ⟨n + 1, vals, by omega, by go_num, HV2, HO, hC5⟩
                    case measure => simp [intOf]; omega
              · obtain rfl : n = p.args.length := by omega
                have HV2 : Hid (vals ++ R1 = usesAll s) := Lib.hid (by have := HV.out; rw [List.drop_length, List.flatten_nil, List.nil_append] at this; exact this)
                have hC5 := hC.trans hC3
                go_wp2
                go_roundw
                case rel => exact ⟨m + 1, vals, by omega, by go_num, by rw [← HR1.out]; exact HV2, HO, hC5⟩
                case measure => simp [intOf]; omega
    · obtain rfl : m = s.parts.length := by omega
      have HU : Hid (vals = usesAll s) := Lib.hid (by have := HV.out; rw [List.drop_length, List.flatMap_nil, List.append_nil] at this; exact this)
      go_wp2
      refine bodyPost_end (results_none (by first | rfl | exact Try.results89 | kernel_rfl) _ _ _) rfl ?_
      exact ⟨rfl, by rw [← HU.out]; exact HO, hC⟩
end Go.Proofs.Ytmcnoeinjocimaa.L

set_option linter.unusedVariables false
set_option linter.unusedSimpArgs false
namespace Go.Proofs.Ytmcnoeinjocimaa.L
open Go.RowKit
set_option maxRecDepth 100000 in
set_option maxHeartbeats 4000000 in
theorem used_calls {F : Nat → Prop} {s : Sa} {N : Nat} (hk : UOk s N) (sb : Nat) (vparts : Value) (w : World) (hsb : w.heap[sb]? = some (.cells #[vparts, .int .i64 s.values] 29 (0, 0))) (hs : Rp.Rd part w F vparts s.parts)
    (hx1 : s.parts.length ≤ 1048576) (hx2 : ∀ p ∈ s.parts, PtLim p) :
    Calls Try.prog 58 #[.pointer (some ⟨sb, 0, none⟩)] w fun e w' => ∃ v', e = .returned v' ∧ Ow true 3 Rp.int w' (fun q => w.heap.size ≤ q) v' (cntL N (usesAll s)) ∧ Below w.heap.size w w' := by
  replace hs := hs.bound
  have hV := hk.V
  have hN := hk.le
  have hsl := blk_lt hsb
  rw [← hV] at hsb
  obtain ⟨z0, _⟩ := cell_of_block hsb
  have y1 : w.cell? ⟨sb, 1, none⟩ = some (.int .i64 (N : Int)) := (z0 1).trans rfl
  clear z0
  have j0 : (0 : Int) ≤ (N : Int) := Int.natCast_nonneg _
  have j1 : (N : Int) ≤ 250 := by omega
  have HC := Lib.hid (fun (g bx : Nat) (W : World) (hW : Below w.heap.size w W) (hg : w.heap.size ≤ g) (hbx : bx ≠ g) h2 h3 => uses_calls hk g N bx sb vparts W (by rw [← hV]; exact blk_below hsb hW) (hs.below hW) (fun q hq => by have := hq.2; omega) (by omega) hbx h2 h3 hx1 hx2)
  clear hV
  have hmk := mk_all Try.underlying35 infoInt N (by omega) (by omega)
  go_enter Try.func58, Try.ntmps58
  go_wp2_with fail
  have hB1 : Below w.heap.size w (w.alloc (.cells (madeCells #[.int .i64 0] N) 3)) := below_new _
  have b1 := heap_alloc_new w (.cells (madeCells #[.int .i64 0] N) 3)
  have hs1 : (w.alloc (.cells (madeCells #[.int .i64 0] N) 3)).heap.size = w.heap.size + 1 := by simp
  have hB2 := hB1.alloc hB1.size (.cells #[.slice (some ⟨w.heap.size, 0, none⟩) N N] 35)
  have b2 := blk_alloc b1 (.cells #[.slice (some ⟨w.heap.size, 0, none⟩) N N] 35)
  have b3 := heap_alloc_new (w.alloc (.cells (madeCells #[.int .i64 0] N) 3)) (.cells #[.slice (some ⟨w.heap.size, 0, none⟩) N N] 35)
  rw [hs1] at b3
  have hO := ow_zero b2 (by omega)
  have hne : w.heap.size + 1 ≠ w.heap.size := by omega
  generalize (w.alloc (.cells (madeCells #[.int .i64 0] N) 3)).alloc (.cells #[.slice (some ⟨w.heap.size, 0, none⟩) N N] 35) = W2 at *
  refine (HC.out w.heap.size (w.heap.size + 1) W2 hB2 (Nat.le_refl _) hne b3 hO).mono ?_
  rintro e w3 ⟨rfl, HO, hCh⟩
  have b4 := hCh.blk b3 hne
  have hB3 := hCh.to_below hB2 hB2.size (fun q hq => by have hq : q = w.heap.size := hq; omega)
  obtain ⟨z0, _⟩ := cell_of_block b4
  have y3 : w3.cell? ⟨w.heap.size + 1, 0, none⟩ = some (.slice (some ⟨w.heap.size, 0, none⟩) N N) := (z0 0).trans rfl
  clear z0 HC hO hmk
  go_wp2
  go_ret
  exact ⟨_, rfl, HO.mono (fun q hq => by have hq : q = w.heap.size := hq; omega), hB3⟩
set_option maxRecDepth 100000 in
set_option maxHeartbeats 4000000 in
theorem usesOfI_calls {F : Nat → Prop} (s : Sa) (vparts : Value) (w : World) (hs : Rp.Rd part w F vparts s.parts) (hx1 : s.parts.length ≤ 1048576) (hx2 : ∀ p ∈ s.parts, PtLim p) :
    Calls Try.prog 26 #[saV s vparts] w (ListRes (∃ D T M, GoodV s D T M) (cntL s.values.toNat (usesAll s)) w) := by
  obtain ⟨A, c, rfl, _, _, _⟩ := rd_part hs
  have HG := Lib.hid (fun W (hW : Below w.heap.size w W) => goodI_calls s _ W (hs.below hW) hx1 hx2)
  have HU := Lib.hid (fun W (hW : Below w.heap.size w W) (h : GoodP s) hb => used_calls (h.uok hx2) w.heap.size _ W hb (hs.below hW) hx1 hx2)
  unfold saV at HG ⊢
  have hB0 : Below w.heap.size w (w.alloc (.cells #[.slice A s.parts.length c, .int .i64 s.values] 29)) := below_new _
  have b0 := heap_alloc_new w (.cells #[.slice A s.parts.length c, .int .i64 s.values] 29)
  go_enter Try.func26, Try.ntmps26
  go_wp2_with fail
  refine (HG.out _ hB0).mono ?_
  rintro e w1 ⟨g, rfl, hg, hb1⟩
  have hB1 := below_then hB0 hb1
  have b1 := blk_below b0 hb1
  clear hb1 b0 hB0 HG
  cases g
  · go_wp2
    refine bodyPost_ret (v := .tuple #[.slice none 0 0, .bool false]) (by simp [results, Try.results26, go_sem]) rfl ?_
    exact .mk false _ hg rfl (Ow.nil _ _ _ _ _) hB1
  have hgp := Lib.hid ((good_iff s).1 (hg.out.1 rfl))
  have hS := hB1.size
  go_wp2_with fail
  refine (HU.out w1 hB1 hgp.out b1).mono ?_
  rintro e w2 ⟨v, rfl, hv, hb2⟩
  have hB2 := below_then hB1 hb2
  obtain ⟨Av, cv, rfl, _, _⟩ := hv.form
  go_wp2
  refine bodyPost_ret (v := .tuple #[.slice Av (cntL s.values.toNat (usesAll s)).length cv, .bool true]) (by simp [results, Try.results26, go_sem]) rfl ?_
  exact .mk true _ (Lib.hid ⟨fun _ => (good_iff s).2 hgp.out, fun _ => rfl⟩) rfl (by rw [if_pos rfl]; exact hv.mono (fun q hq => Nat.le_trans hS hq)) hB2
end Go.Proofs.Ytmcnoeinjocimaa.L

set_option linter.unusedVariables false
set_option linter.unusedSimpArgs false
namespace Go.Proofs.Ytmcnoeinjocimaa.L
open Go.RowKit
theorem GoodP.usesAll_S {s : Sa} (h : GoodP s) : usesAll s = s.parts.flatMap (fun p => p.code.flatMap usesS ++ endsS p) := by
  unfold usesAll
  have key : ∀ l : List Pt, (∀ p ∈ l, p ∈ s.parts) → l.flatMap partU = l.flatMap (fun p => p.code.flatMap usesS ++ endsS p) := by
    intro l
    induction l with
    | nil => intro _; rfl
    | cons p t ih =>
      intro hl
      have hp := hl p List.mem_cons_self
      rw [List.flatMap_cons, List.flatMap_cons, ih (fun q hq => hl q (List.mem_cons_of_mem _ hq))]
      congr 1
      unfold partU
      congr 1
      have k2 : ∀ c : List Fl, (∀ x ∈ c, x ∈ p.code) → c.flatMap usesI = c.flatMap usesS := by
        intro c
        induction c with
        | nil => intro _; rfl
        | cons x u ih2 =>
          intro hc
          rw [List.flatMap_cons, List.flatMap_cons, ih2 (fun y hy => hc y (List.mem_cons_of_mem _ hy)), h.uses_eq hp (hc x List.mem_cons_self)]
      exact k2 _ (fun _ hx => hx)
  exact key _ (fun _ hp => hp)
theorem rd_int_in {w : World} {F : Nat → Prop} {v : Value} {l : List Int} (h : Rp.Rd Rp.int w F v l) : ∃ A c, v = .slice A l.length c ∧ l.length ≤ c ∧ c ≤ 9223372036854775807 ∧
    (l = [] ∨ ∃ b o, A = some ⟨b, o, none⟩ ∧ F b ∧ ∀ (k : Nat) (hk : k < l.length), w.cell? ⟨b, o + k, none⟩ = some (.int .i64 l[k])) := by
  have h2 := rd_int h
  obtain ⟨A, c, rfl, h3, h4, h5⟩ := h2
  refine ⟨A, c, rfl, h3, h4, ?_⟩
  obtain ⟨_, _, hae, _, _, h6⟩ := h
  cases hae
  rcases h5 with h5 | ⟨b, o, rfl, _, h5⟩
  · exact .inl h5
  · rcases h6 with h6 | ⟨_, _, he, hF, _⟩
    · exact .inl h6
    · cases he; exact .inr ⟨b, o, rfl, hF, h5⟩
theorem bump_own {s : Sa} {N : Nat} (hk : UOk s N) {g c : Nat} {vals R : List Int} {v : Int} {W : World} (hU : vals ++ v :: R = usesAll s) (hO : Ow true 3 Rp.int W (fun q => q = g) (.slice (some ⟨g, 0, none⟩) N c) (cntL N vals)) :
    ∃ (n : Nat) (y : Int), v = n ∧ n < N ∧ 0 ≤ y ∧ y < 2305843009213693952 ∧ W.cell? ⟨g, n, none⟩ = some (.int .i64 y) ∧ W.frozen? ⟨g, n, none⟩ = false ∧
      Ow true 3 Rp.int (W.setCell ⟨g, n, none⟩ (.int .i64 (y + 1))) (fun q => q = g) (.slice (some ⟨g, 0, none⟩) N c) (cntL N (vals ++ [v])) ∧ Chg (fun q => q = g) W (W.setCell ⟨g, n, none⟩ (.int .i64 (y + 1))) := by
  obtain ⟨⟨h0, h1⟩, hl, _⟩ := hk.step hU
  obtain ⟨n, rfl⟩ := Int.eq_ofNat_of_zero_le h0
  have hcl := cntL_len N vals
  have hn : n < (cntL N vals).length := by omega
  have hle := cntL_le N vals n
  have hg : (cntL N vals).getD n 0 = (cntL N vals)[n] := by rw [List.getD_eq_getElem?_getD, List.getElem?_eq_getElem hn]; rfl
  rw [hg] at hle
  have HO2 := hO.set1 rfl hn (y := (cntL N vals)[n] + 1) (u := .int .i64 ((cntL N vals)[n] + 1)) rfl
  have he : (cntL N vals).set n ((cntL N vals)[n] + 1) = cntL N (vals ++ [(n : Int)]) := by rw [cntL_snoc]; unfold bumpL; rw [Int.toNat_natCast, hg]
  rw [he] at HO2
  obtain ⟨d1, d2⟩ := hO.int_at hn
  exact ⟨n, _, rfl, by omega, hle.1, by omega, d1, d2, HO2, Chg.set rfl⟩
set_option maxRecDepth 100000 in
set_option maxHeartbeats 8000000 in
theorem countS_calls {F : Nat → Prop} {s : Sa} {N : Nat} (hk : UOk s N) (hUS : usesAll s = s.parts.flatMap (fun p => p.code.flatMap usesS ++ endsS p)) (vparts : Value) (w : World) (hs : Rp.Rd part w F vparts s.parts) (hx1 : s.parts.length ≤ 1048576) (hx2 : ∀ p ∈ s.parts, PtLim p) :
    Calls Try.prog 57 #[saV s vparts] w fun e w' => ∃ v', e = .returned v' ∧ Ow true 3 Rp.int w' (fun q => w.heap.size ≤ q) v' (cntL N (usesAll s)) ∧ Below w.heap.size w w' := by
  replace hs := hs.bound
  have hV := hk.V
  have hN := hk.le
  obtain ⟨A, c, rfl, _, _, hrow⟩ := rd_part hs
  have HE := Lib.hid (fun (p : Pt) v1 v2 v3 v4 W G (h1 : Rp.Rd Rp.int W G v1 p.params) (h2 : Rp.Rd flat W G v2 p.code) (h3 : Rp.Rd Rp.int W G v3 p.next) (h4 : Rp.Rd (Rp.sl Rp.int) W G v4 p.args) hl => l9Ends_calls p v1 v2 v3 v4 W h1 h2 h3 h4 hl)
  have HU7 := Lib.hid (fun x W => l9Uses_calls x W)
  unfold saV ptV flV at *
  rw [← hV]
  have hUS := Lib.hid hUS
  have HST := Lib.hid (fun (vals R : List Int) (v : Int) (hU : vals ++ v :: R = usesAll s) => (hk.step hU).2.2)
  have HBO := Lib.hid (fun (g c : Nat) (vals R : List Int) (v : Int) (W : World) (hU : vals ++ v :: R = usesAll s) hO => bump_own hk (g := g) (c := c) (W := W) hU hO)
  clear hV
  have hmk := mk_all Try.underlying35 infoInt N (by omega) (by omega)
  have j0 : (0 : Int) ≤ (N : Int) := Int.natCast_nonneg _
  have j1 : (N : Int) ≤ 250 := by omega
  have hB0 : Below w.heap.size w (w.alloc (.cells #[.slice A s.parts.length c, .int .i64 (N : Int)] 29)) := below_new _
  have b0 := heap_alloc_new w (.cells #[.slice A s.parts.length c, .int .i64 (N : Int)] 29)
  go_enter Try.func57, Try.ntmps57
  go_wp2_with fail
  have hsz : (w.alloc (.cells #[.slice A s.parts.length c, .int .i64 (N : Int)] 29)).heap.size = w.heap.size + 1 := by simp
  have hB2 := hB0.alloc hB0.size (.cells (madeCells #[.int .i64 0] N) 3)
  have b2 := heap_alloc_new (w.alloc (.cells #[.slice A s.parts.length c, .int .i64 (N : Int)] 29)) (.cells (madeCells #[.int .i64 0] N) 3)
  rw [hsz] at b2
  have hO := ow_zero b2 (by omega)
  clear b2 hsz b0 hB0 hmk
  go_loopw [18] (fun i wr => ∃ (m : Nat) (vals : List Int), m ≤ s.parts.length ∧ i = .int .i64 m ∧ Hid (vals ++ (s.parts.drop m).flatMap (fun p => p.code.flatMap usesS ++ endsS p) = usesAll s) ∧ Ow true 3 Rp.int wr (fun q => q = w.heap.size + 1) (.slice (some ⟨w.heap.size + 1, 0, none⟩) N N) (cntL N vals) ∧ Below w.heap.size w wr) (fun i _ => s.parts.length - (intOf i).toNat)
  case atStart => exact ⟨0, [], Nat.zero_le _, rfl, Lib.hid (by rw [hUS.out]; rfl), hO, hB2⟩
  case round =>
    clear hO hB2
    obtain ⟨m, vals, hm, rfl, HV, HO, HB⟩ := hrel
    rename World => wo
    by_cases hlt : m < s.parts.length
    · rcases hrow with hnil | ⟨b, o, rfl, hbl, hcell⟩
      · rw [hnil] at hlt; simp at hlt
      obtain ⟨_, _, _, _, hp, h1, h2, h3, h4⟩ := hcell m hlt
      obtain ⟨A1, c1, rfl, _⟩ := id h1
      obtain ⟨A2, c2, rfl, _, _, hr2⟩ := rd_flat h2
      obtain ⟨A3, c3, rfl, _⟩ := id h3
      obtain ⟨A4, c4, rfl, _⟩ := id h4
      obtain ⟨q0, q1, q2, q3, q4, q5⟩ := partAt_below hp HB
      have hlp := hx2 _ (List.getElem_mem hlt)
      have hl1 := hlp.2.1
      have HV2 : Hid (vals ++ (s.parts[m].code.flatMap usesS ++ (endsS s.parts[m] ++ (s.parts.drop (m + 1)).flatMap (fun p => p.code.flatMap usesS ++ endsS p))) = usesAll s) := Lib.hid (by
        have := HV.out
        rw [List.drop_eq_getElem_cons hlt, List.flatMap_cons, List.append_assoc] at this
        exact this)
      clear hcell hp HV
      obtain ⟨R1, hR1⟩ : ∃ R1, R1 = (s.parts.drop (m + 1)).flatMap (fun p => p.code.flatMap usesS ++ endsS p) := ⟨_, rfl⟩
      rw [← hR1] at HV2
      have HR1 := Lib.hid hR1
      clear hR1
      generalize s.parts[m] = p at *
      have HE1 := Lib.hid (fun W (hW : Below w.heap.size w W) => HE.out p _ _ _ _ W _ (h1.below hW) (h2.below hW) (h3.below hW) (h4.below hW) hlp)
      have hbp := below_new (w := wo) (.cells #[.slice A1 p.params.length c1, .slice A2 p.code.length c2, .int .i64 p.go, .int .i64 p.test, .slice A3 p.next.length c3, .slice A4 p.args.length c4] 54)
      have b3 := heap_alloc_new wo (.cells #[.slice A1 p.params.length c1, .slice A2 p.code.length c2, .int .i64 p.go, .int .i64 p.test, .slice A3 p.next.length c3, .slice A4 p.args.length c4] 54)
      have HB1 := HB.alloc HB.size (.cells #[.slice A1 p.params.length c1, .slice A2 p.code.length c2, .int .i64 p.go, .int .i64 p.test, .slice A3 p.next.length c3, .slice A4 p.args.length c4] 54)
      have HO1 := HO.below hbp
      have i0 : (0 : Int) ≤ (m : Int) := Int.natCast_nonneg _
      have i1 : (m : Int) < (s.parts.length : Int) := by omega
      have hgo : w.heap.size + 1 < wo.heap.size := (HO.lt_size (k := w.heap.size + 1) rfl).2
      go_wp2_with fail
      clear q0 q1 q2 q3 q4 q5 h1 h3 h4 hbp
      generalize wo.alloc (.cells #[.slice A1 p.params.length c1, .slice A2 p.code.length c2, .int .i64 p.go, .int .i64 p.test, .slice A3 p.next.length c3, .slice A4 p.args.length c4] 54) = W1 at *
      go_loopw [25] (fun i wr => ∃ (j : Nat) (vals : List Int), j ≤ p.code.length ∧ i = .int .i64 j ∧ Hid (vals ++ ((p.code.drop j).flatMap usesS ++ (endsS p ++ R1)) = usesAll s) ∧ Ow true 3 Rp.int wr (fun q => q = w.heap.size + 1) (.slice (some ⟨w.heap.size + 1, 0, none⟩) N N) (cntL N vals) ∧ Below w.heap.size w wr ∧ wr.heap[wo.heap.size]? = some (.cells #[.slice A1 p.params.length c1, .slice A2 p.code.length c2, .int .i64 p.go, .int .i64 p.test, .slice A3 p.next.length c3, .slice A4 p.args.length c4] 54 (0, 0))) (fun i _ => p.code.length - (intOf i).toNat)
      case atStart => exact ⟨0, vals, Nat.zero_le _, rfl, HV2, HO1, HB1, b3⟩
      case round =>
        clear HO HO1 HV2 HB1 b3
        obtain ⟨j, vals, hj, rfl, HV, HO, HB1, b3⟩ := hrel
        rename World => wi
        by_cases hjt : j < p.code.length
        · rcases hr2 with hnil | ⟨b5, o5, rfl, hb5, hcc⟩
          · rw [hnil] at hjt; simp at hjt
          obtain ⟨e0, e1, e2, e3, e4, e5⟩ := (hcc j hjt).below HB1
          have HVj : Hid (vals ++ (usesS p.code[j] ++ ((p.code.drop (j + 1)).flatMap usesS ++ (endsS p ++ R1))) = usesAll s) := Lib.hid (by
            have := HV.out
            rw [List.drop_eq_getElem_cons hjt, List.flatMap_cons, List.append_assoc] at this
            exact this)
          clear hcc HV
          generalize p.code[j] = x at *
          have hbx := below_new (w := wi) (.cells #[.int .i64 x.op, .int .i64 x.dO, .int .i64 x.dst, .int .i64 x.a, .int .i64 x.b, .int .i64 x.n] 61)
          have hgi : w.heap.size + 1 < wi.heap.size := (HO.lt_size (k := w.heap.size + 1) rfl).2
          have hsw : (wi.alloc (.cells #[.int .i64 x.op, .int .i64 x.dO, .int .i64 x.dst, .int .i64 x.a, .int .i64 x.b, .int .i64 x.n] 61)).heap.size = wi.heap.size + 1 := by simp
          have HB2 := HB1.alloc HB1.size (.cells #[.int .i64 x.op, .int .i64 x.dO, .int .i64 x.dst, .int .i64 x.a, .int .i64 x.b, .int .i64 x.n] 61)
          have HO2 := HO.below hbx
          have b4 := blk_below b3 hbx
          have hx0 := heap_alloc_new wi (.cells #[.int .i64 x.op, .int .i64 x.dO, .int .i64 x.dst, .int .i64 x.a, .int .i64 x.b, .int .i64 x.n] 61)
          obtain ⟨y1, _⟩ := cell_of_block hx0
          have y10 : (wi.alloc (.cells #[.int .i64 x.op, .int .i64 x.dO, .int .i64 x.dst, .int .i64 x.a, .int .i64 x.b, .int .i64 x.n] 61)).cell? ⟨wi.heap.size, 0, none⟩ = some (.int .i64 x.op) := (y1 0).trans rfl
          have y11 : (wi.alloc (.cells #[.int .i64 x.op, .int .i64 x.dO, .int .i64 x.dst, .int .i64 x.a, .int .i64 x.b, .int .i64 x.n] 61)).cell? ⟨wi.heap.size, 1, none⟩ = some (.int .i64 x.dO) := (y1 1).trans rfl
          have y12 : (wi.alloc (.cells #[.int .i64 x.op, .int .i64 x.dO, .int .i64 x.dst, .int .i64 x.a, .int .i64 x.b, .int .i64 x.n] 61)).cell? ⟨wi.heap.size, 2, none⟩ = some (.int .i64 x.dst) := (y1 2).trans rfl
          have y13 : (wi.alloc (.cells #[.int .i64 x.op, .int .i64 x.dO, .int .i64 x.dst, .int .i64 x.a, .int .i64 x.b, .int .i64 x.n] 61)).cell? ⟨wi.heap.size, 3, none⟩ = some (.int .i64 x.a) := (y1 3).trans rfl
          have y14 : (wi.alloc (.cells #[.int .i64 x.op, .int .i64 x.dO, .int .i64 x.dst, .int .i64 x.a, .int .i64 x.b, .int .i64 x.n] 61)).cell? ⟨wi.heap.size, 4, none⟩ = some (.int .i64 x.b) := (y1 4).trans rfl
          have y15 : (wi.alloc (.cells #[.int .i64 x.op, .int .i64 x.dO, .int .i64 x.dst, .int .i64 x.a, .int .i64 x.b, .int .i64 x.n] 61)).cell? ⟨wi.heap.size, 5, none⟩ = some (.int .i64 x.n) := (y1 5).trans rfl
          have n0 : (0 : Int) ≤ (j : Int) := Int.natCast_nonneg _
          have n1 : (j : Int) < (p.code.length : Int) := by omega
          have HU8 := Lib.hid (HU7.out x (wi.alloc (.cells #[.int .i64 x.op, .int .i64 x.dO, .int .i64 x.dst, .int .i64 x.a, .int .i64 x.b, .int .i64 x.n] 61)))
          clear y1 hx0 hbx
          go_wp2_with fail
          refine HU8.out.mono ?_
          rintro e w8 ⟨v8, rfl, hv8, hb8⟩
          have HB3 := below_then HB2 hb8
          have HO3 := HO2.below hb8
          have b5' := blk_below b4 hb8
          replace hv8 := hv8.rd
          rw [hsw] at hv8
          have hul : (usesS x).length ≤ 2 := by
            unfold usesS
            split
            · simp
            · split <;> simp
          clear HU8 y10 y11 y12 y13 y14 y15 e0 e1 e2 e3 e4 e5 HB1 HB2 HO HO2 b3 b4 hb8
          generalize usesS x = us at *
          obtain ⟨A8, c8, rfl, _, _, hr8⟩ := rd_int_in hv8
          go_wp2_with fail
          go_loopw [32] (fun i wr => ∃ (n : Nat) (vals : List Int), n ≤ us.length ∧ i = .int .i64 n ∧ Hid (vals ++ (us.drop n ++ ((p.code.drop (j + 1)).flatMap usesS ++ (endsS p ++ R1))) = usesAll s) ∧ Ow true 3 Rp.int wr (fun q => q = w.heap.size + 1) (.slice (some ⟨w.heap.size + 1, 0, none⟩) N N) (cntL N vals) ∧ Chg (fun q => q = w.heap.size + 1) w8 wr) (fun i _ => us.length - (intOf i).toNat)
          case atStart => exact ⟨0, vals, Nat.zero_le _, rfl, HVj, HO3, Chg.refl _ _⟩
          case round =>
            clear HO3 HVj
            obtain ⟨n, vals, hn, rfl, HV, HO, hC⟩ := hrel
            rename World => wx
            by_cases hnt : n < us.length
            · rcases hr8 with hnil | ⟨b8, o8, rfl, hb8, hc8⟩
              · rw [hnil] at hnt; simp at hnt
              have hb8g : b8 ≠ w.heap.size + 1 := by have hb8 := hb8; omega
              have cv := hC.cell (hc8 n hnt) hb8g
              have HVn : Hid (vals ++ (us[n] :: (us.drop (n + 1) ++ ((p.code.drop (j + 1)).flatMap usesS ++ (endsS p ++ R1)))) = usesAll s) := Lib.hid (by
                have := HV.out
                rw [List.drop_eq_getElem_cons hnt, List.cons_append] at this
                exact this)
              clear hc8 HV
              generalize us[n] = v at *
              obtain ⟨q, y, rfl, hqN, hy0, hy1, d1, d2, HO4, hC4⟩ := HBO.out _ _ _ _ _ _ HVn.out HO
              have HV2 := Lib.hid (HST.out _ _ _ HVn.out)
              have hC5 := hC.trans hC4
              have m0 : (0 : Int) ≤ (n : Int) := Int.natCast_nonneg _
              have m1 : (n : Int) < (us.length : Int) := by omega
              have m2 : (0 : Int) ≤ (q : Int) := Int.natCast_nonneg _
              have m3 : (q : Int) < (N : Int) := by omega
              have t1 : IntKind.i64.wrap (y + 1) = y + 1 := IntWalk.i64_in _ (by omega)
              clear HVn HO hC hC4
              go_wp2
              go_roundw
              case rel => exact ⟨n + 1, vals ++ [(q : Int)], by omega, by go_num, HV2, HO4, hC5⟩
              case measure => simp [intOf]; omega
            · obtain rfl : n = us.length := by omega
              have HV2 : Hid (vals ++ ((p.code.drop (j + 1)).flatMap usesS ++ (endsS p ++ R1)) = usesAll s) := Lib.hid (by have := HV.out; rw [List.drop_length, List.nil_append] at this; exact this)
              have HB4 := hC.to_below HB3 HB3.size (fun q hq => by have hq : q = w.heap.size + 1 := hq; omega)
              have b6 := hC.blk b5' (by omega)
              go_wp2
              go_roundw
              case rel => exact ⟨j + 1, vals, by omega, by go_num, HV2, HO, HB4, b6⟩
              case measure => simp [intOf]; omega
        · obtain rfl : j = p.code.length := by omega
          have HVe : Hid (vals ++ (endsS p ++ R1) = usesAll s) := Lib.hid (by have := HV.out; rw [List.drop_length, List.flatMap_nil, List.nil_append] at this; exact this)
          obtain ⟨x3, _⟩ := cell_of_block b3
          have z0 : wi.cell? ⟨wo.heap.size, 0, none⟩ = some (.slice A1 p.params.length c1) := (x3 0).trans rfl
          have z1 : wi.cell? ⟨wo.heap.size, 1, none⟩ = some (.slice A2 p.code.length c2) := (x3 1).trans rfl
          have z2 : wi.cell? ⟨wo.heap.size, 2, none⟩ = some (.int .i64 p.go) := (x3 2).trans rfl
          have z3 : wi.cell? ⟨wo.heap.size, 3, none⟩ = some (.int .i64 p.test) := (x3 3).trans rfl
          have z4 : wi.cell? ⟨wo.heap.size, 4, none⟩ = some (.slice A3 p.next.length c3) := (x3 4).trans rfl
          have z5 : wi.cell? ⟨wo.heap.size, 5, none⟩ = some (.slice A4 p.args.length c4) := (x3 5).trans rfl
          clear x3 HV
          go_wp2_with fail
          refine (HE1.out wi HB1).mono ?_
          rintro e w8 ⟨v8, rfl, hv8, hb8⟩
          have HB3 := below_then HB1 hb8
          have HO3 := HO.below hb8
          have hgi : w.heap.size + 1 < wi.heap.size := (HO.lt_size (k := w.heap.size + 1) rfl).2
          replace hv8 := hv8.rd
          clear z0 z1 z2 z3 z4 z5 HB1 HO b3 hb8
          obtain ⟨us, hus⟩ : ∃ us, us = endsS p := ⟨_, rfl⟩
          rw [← hus] at hv8 HVe
          clear hus
          have hv9 := hv8
          obtain ⟨A8, c8, rfl, hlc8, hcm8, hr8⟩ := rd_int_in hv8
          go_wp2_with fail
          go_loopw [47] (fun i wr => ∃ (n : Nat) (vals : List Int), n ≤ us.length ∧ i = .int .i64 n ∧ Hid (vals ++ (us.drop n ++ R1) = usesAll s) ∧ Ow true 3 Rp.int wr (fun q => q = w.heap.size + 1) (.slice (some ⟨w.heap.size + 1, 0, none⟩) N N) (cntL N vals) ∧ Chg (fun q => q = w.heap.size + 1) w8 wr) (fun i _ => us.length - (intOf i).toNat)
          case atStart => exact ⟨0, vals, Nat.zero_le _, rfl, HVe, HO3, Chg.refl _ _⟩
          case round =>
            clear HO3 HVe
            obtain ⟨n, vals, hn, rfl, HV, HO, hC⟩ := hrel
            rename World => wx
            by_cases hnt : n < us.length
            · rcases hr8 with hnil | ⟨b8, o8, rfl, hb8, hc8⟩
              · rw [hnil] at hnt; simp at hnt
              have hb8g : b8 ≠ w.heap.size + 1 := by have hb8 := hb8; omega
              have cv := hC.cell (hc8 n hnt) hb8g
              have HVn : Hid (vals ++ (us[n] :: (us.drop (n + 1) ++ R1)) = usesAll s) := Lib.hid (by
                have := HV.out
                rw [List.drop_eq_getElem_cons hnt, List.cons_append] at this
                exact this)
              clear hc8 HV
              generalize us[n] = v at *
              obtain ⟨q, y, rfl, hqN, hy0, hy1, d1, d2, HO4, hC4⟩ := HBO.out _ _ _ _ _ _ HVn.out HO
              have HV2 := Lib.hid (HST.out _ _ _ HVn.out)
              have hC5 := hC.trans hC4
              have m0 : (0 : Int) ≤ (n : Int) := Int.natCast_nonneg _
              have m1 : (n : Int) < (us.length : Int) := by omega
              have m2 : (0 : Int) ≤ (q : Int) := Int.natCast_nonneg _
              have m3 : (q : Int) < (N : Int) := by omega
              have m4 : (n : Int) < 9223372036854775807 := by omega
              have t1 : IntKind.i64.wrap (y + 1) = y + 1 := IntWalk.i64_in _ (by omega)
              clear HVn HO hC hC4
              go_wp2
              go_roundw
              case rel => exact ⟨n + 1, vals ++ [(q : Int)], by omega, by go_num, HV2, HO4, hC5⟩
              case measure => simp [intOf]; omega
            · obtain rfl : n = us.length := by omega
              have HV2 : Hid (vals ++ (s.parts.drop (m + 1)).flatMap (fun p => p.code.flatMap usesS ++ endsS p) = usesAll s) := Lib.hid (by have := HV.out; rw [List.drop_length, List.nil_append, HR1.out] at this; exact this)
              have HB4 := hC.to_below HB3 HB3.size (fun q hq => by have hq : q = w.heap.size + 1 := hq; omega)
              go_wp2
              go_roundw
              case rel => exact ⟨m + 1, vals, by omega, by go_num, HV2, HO, HB4⟩
              case measure => simp [intOf]; omega
    · obtain rfl : m = s.parts.length := by omega
      have HU : Hid (vals = usesAll s) := Lib.hid (by have := HV.out; rw [List.drop_length, List.flatMap_nil, List.append_nil] at this; exact this)
      go_wp2
      go_ret
      exact ⟨_, rfl, by rw [← HU.out]; exact HO.mono (fun q hq => by have hq : q = w.heap.size + 1 := hq; omega), HB⟩
end Go.Proofs.Ytmcnoeinjocimaa.L

set_option linter.unusedVariables false
set_option linter.unusedSimpArgs false
namespace Go.Proofs.Ytmcnoeinjocimaa.L
open Go.RowKit
set_option maxRecDepth 100000 in
set_option maxHeartbeats 4000000 in
theorem usesOfS_calls {F : Nat → Prop} (s : Sa) (vparts : Value) (w : World) (hs : Rp.Rd part w F vparts s.parts) (hx1 : s.parts.length ≤ 1048576) (hx2 : ∀ p ∈ s.parts, PtLim p) :
    Calls Try.prog 25 #[saV s vparts] w (ListRes (GoodP s) (cntL s.values.toNat (usesAll s)) w) := by
  obtain ⟨A, c, rfl, hlc, hcm, hrow⟩ := rd_part hs
  have HG := Lib.hid (fun W (hW : Below w.heap.size w W) => goodS_calls s _ W (hs.below hW) hx1 hx2)
  have HD := Lib.hid (fun W (hW : Below w.heap.size w W) (h : GoodP s) => countS_calls (h.uok hx2) h.usesAll_S _ W (hs.below hW) hx1 hx2)
  unfold saV at HG HD ⊢
  have hB0 : Below w.heap.size w (w.alloc (.cells #[.slice A s.parts.length c, .int .i64 s.values] 29)) := below_new _
  have b0 := heap_alloc_new w (.cells #[.slice A s.parts.length c, .int .i64 s.values] 29)
  go_enter Try.func25, Try.ntmps25
  go_wp2_with fail
  refine (HG.out _ hB0).mono ?_
  rintro e w1 ⟨g, rfl, hg, hb1⟩
  have hB1 := below_then hB0 hb1
  have b1 := blk_below b0 hb1
  clear hb1 b0 hB0 HG
  cases g
  · go_wp2
    refine bodyPost_ret (v := .tuple #[.slice none 0 0, .bool false]) (by simp [results, Try.results25, go_sem]) rfl ?_
    exact .mk false _ hg rfl (Ow.nil _ _ _ _ _) hB1
  have hgp := Lib.hid (hg.out.1 rfl)
  obtain ⟨v0, _⟩ := cell_of_block b1
  have x0 : w1.cell? ⟨w.heap.size, 0, none⟩ = some (.slice A s.parts.length c) := (v0 0).trans rfl
  have x1 : w1.cell? ⟨w.heap.size, 1, none⟩ = some (.int .i64 s.values) := (v0 1).trans rfl
  clear v0
  go_wp2_with fail
  refine (HD.out _ hB1 hgp.out).mono ?_
  rintro e w2 ⟨v, rfl, hv, hb2⟩
  have hB2 := below_then hB1 hb2
  have hS := hB1.size
  go_wp2
  refine bodyPost_ret (v := .tuple #[v, .bool true]) (by simp [results, Try.results25, go_sem]) rfl ?_
  exact .mk true _ (Lib.hid ⟨fun _ => hgp.out, fun _ => rfl⟩) rfl (by rw [if_pos rfl]; exact hv.mono (fun q hq => Nat.le_trans hS hq)) hB2
end Go.Proofs.Ytmcnoeinjocimaa.L

set_option linter.unusedVariables false
set_option linter.unusedSimpArgs false
namespace Go.Proofs.Ytmcnoeinjocimaa.L
open Go.RowKit
set_option maxRecDepth 100000 in
set_option maxHeartbeats 4000000 in
theorem lawUsesOf_calls {F : Nat → Prop} (x : Sa) (vparts : Value) (w : World) (h : Rp.Rd part w F vparts x.parts) :
    Calls Try.prog 6 #[saV x vparts] w fun e w' => e = .returned (.bool true) ∧ Below w.heap.size w w' := by
  have HC := fun W (hW : Below w.heap.size w W) => szSsa_calls x vparts 1048576 W (h.below hW) (by omega) (by omega)
  have hb0 := szSa_bd (x := x) (left := 1048576) (by omega)
  generalize szSa x 1048576 = r at *
  have hlim : 0 ≤ r → SaLim x := fun h0 => (hb0.2.2 h0).1
  clear hb0
  unfold saV at HC ⊢
  have HC := Lib.hid HC
  have hB0 : Below w.heap.size w (w.alloc (.cells #[vparts, .int .i64 x.values] 24)) := below_new _
  have b0 := heap_alloc_new w (.cells #[vparts, .int .i64 x.values] 24)
  have hlim := Lib.hid hlim
  obtain ⟨A, c, rfl, _, _, _⟩ := id h
  go_enter Try.func6, Try.ntmps6
  go_wp2_with fail
  refine (HC.out _ hB0).mono ?_
  rintro e w1 ⟨rfl, hb1⟩
  by_cases hneg : r < 0
  · have hB := below_then hB0 hb1
    go_wp2
    go_ret
    exact ⟨rfl, hB⟩
  have hx := hlim.out (by omega)
  have HT := Lib.hid (fun W (hW : Below w.heap.size w W) => toSsa_rd2 x _ W (h.below hW) hx)
  have HG1 := Lib.hid (fun v W G (hv : Rp.Rd part W G v x.parts) => usesOfS_calls x v W hv hx.1 hx.2)
  have HG2 := Lib.hid (fun v W G (hv : Rp.Rd part W G v x.parts) => usesOfI_calls x v W hv hx.1 hx.2)
  have HQ := Lib.hid (good_iff x)
  have HL : Hid (GoodP x → (cntL x.values.toNat (usesAll x)).length ≤ 1048576) := Lib.hid (fun h => by have := h.v2; rw [cntL_len]; omega)
  have hB1 := below_then hB0 hb1
  have b1 := blk_below b0 hb1
  have hs1 := blk_lt b1
  obtain ⟨y1, _⟩ := cell_of_block b1
  have y10 : w1.cell? ⟨w.heap.size, 0, none⟩ = some (.slice A x.parts.length c) := (y1 0).trans rfl
  have y11 : w1.cell? ⟨w.heap.size, 1, none⟩ = some (.int .i64 x.values) := (y1 1).trans rfl
  clear y1 HC b0 hb1 hB0 hlim
  unfold saV at HT HG1 HG2
  generalize hLst : cntL x.values.toNat (usesAll x) = LL at *
  clear hLst
  go_wp2_with fail
  refine (HT.out _ hB1).mono ?_
  rintro e w2 ⟨v2, rfl, hv2, hb2⟩
  obtain ⟨A2, c2, rfl, _, _⟩ := hv2.form
  have hB2 := below_then hB1 hb2
  have b2 := blk_below b1 hb2
  have hs2 := hb2.size
  clear y10 y11 hb2 b1
  go_wp2_with fail
  refine (HG1.out _ _ _ (partA_le.rd hv2.rd)).mono ?_
  rintro e w3 ⟨g1, vL, hg1, rfl, hvL, hb3⟩
  have hB3 := below_then hB2 hb3
  have b3 := blk_below b2 hb3
  have hs3 := hb3.size
  have hLn : (if g1 = true then LL else []).length ≤ 1048576 := by
    by_cases hgt : g1 = true
    · rw [if_pos hgt]; exact HL.out (hg1.out.1 hgt)
    · rw [if_neg hgt]; exact Nat.zero_le _
  obtain ⟨l1, hl1⟩ : ∃ l1, l1 = (if g1 = true then LL else []) := ⟨_, rfl⟩
  rw [← hl1] at hvL hLn
  replace hl1 := Lib.hid hl1
  replace hvL := hvL.rd.bound
  obtain ⟨AL, cL, hLe, _, _, _⟩ := id hvL
  subst hLe
  obtain ⟨y1, _⟩ := cell_of_block b3
  have y10 : w3.cell? ⟨w.heap.size, 0, none⟩ = some (.slice A x.parts.length c) := (y1 0).trans rfl
  have y11 : w3.cell? ⟨w.heap.size, 1, none⟩ = some (.int .i64 x.values) := (y1 1).trans rfl
  clear y1 hb3 b2 hv2
  go_wp2_with fail
  refine (HT.out _ hB3).mono ?_
  rintro e w4 ⟨v4, rfl, hv4, hb4⟩
  obtain ⟨A4, c4, rfl, _, _⟩ := hv4.form
  have hB4 := below_then hB3 hb4
  have b4 := blk_below b3 hb4
  have hs4 := hb4.size
  have hL4 := hvL.below hb4
  clear y10 y11 hb4 b3 hvL
  obtain ⟨W5, hW5⟩ : ∃ W5, W5 = w4.alloc (.cells #[.slice A4 x.parts.length c4, .int .i64 x.values] 29) := ⟨_, rfl⟩
  have hb5 : Below w4.heap.size w4 W5 := by rw [hW5]; exact below_new _
  have hs5 : W5.heap.size = w4.heap.size + 1 := by rw [hW5]; simp
  have e5 : W5.heap[w4.heap.size]? = some (.cells #[.slice A4 x.parts.length c4, .int .i64 x.values] 29 (0, 0)) := by rw [hW5]; exact heap_alloc_new w4 _
  have hM4 := Lib.hid (hv4.bound.mp hx.2)
  have hv5 := (partA_le.rd hv4.rd).below hb5
  have b5 := blk_below b4 hb5
  have hB5 := below_then hB4 hb5
  have hL5 := hL4.below hb5
  replace hW5 := Lib.hid hW5
  go_wp2_with fail
  rw [← hW5.out]
  refine (HG2.out _ _ _ hv5).mono ?_
  rintro e w6 ⟨g2, vG, hg2, rfl, hvG, hb6⟩
  have hB6 := below_then hB5 hb6
  have b6 := blk_below b5 hb6
  have e6 := blk_below e5 hb6
  have hs6 := hb6.size
  have hv6 := (hv5.mono (G := fun _ => True) (fun _ _ => trivial)).below hb6
  have hL6 := hL5.below hb6
  have hgg : g1 = g2 := by
    have := hg1.out.trans (HQ.out.symm.trans hg2.out.symm)
    cases g1 <;> cases g2 <;> simp_all
  subst hgg
  rw [← hl1.out] at hvG
  obtain ⟨AG, cG, hGe, _, _⟩ := hvG.form
  subst hGe
  have hgn : (g1 != g1) = false := by cases g1 <;> rfl
  have hBx : Below w4.heap.size w4 w6 := below_then hb5 hb6
  have HEq := Lib.hid (fun v u W G1 G2 (h1 : Rp.Rd Rp.int W G1 v l1) (h2 : Rp.Rd Rp.int W G2 u l1) => eqIntS_calls v u l1 l1 W h1 h2)
  have hdec : decide (l1 = l1) = true := decide_eq_true rfl
  rw [hdec] at HEq
  clear b4 b5 e5 hv4 hv5 hW5 HG1 hb5 hb6 hL4 hL5
  go_wp2_with fail
  refine (HEq.out _ _ _ _ _ hvG.rd hL6).mono ?_
  rintro e w7 ⟨rfl, hb7⟩
  have hB7 := below_then hB6 hb7
  have b7 := blk_below b6 hb7
  have e7 := blk_below e6 hb7
  have hv7 := hv6.below hb7
  have hG7 := hvG.below hb7
  have hL7 := hL6.below hb7
  have hBx7 := below_then hBx hb7
  have hs7 := hb7.size
  obtain ⟨y1, _⟩ := cell_of_block b7
  have y10 : w7.cell? ⟨w.heap.size, 0, none⟩ = some (.slice A x.parts.length c) := (y1 0).trans rfl
  have y11 : w7.cell? ⟨w.heap.size, 1, none⟩ = some (.int .i64 x.values) := (y1 1).trans rfl
  obtain ⟨z1, _⟩ := cell_of_block e7
  have z10 : w7.cell? ⟨w4.heap.size, 0, none⟩ = some (.slice A4 x.parts.length c4) := (z1 0).trans rfl
  have z11 : w7.cell? ⟨w4.heap.size, 1, none⟩ = some (.int .i64 x.values) := (z1 1).trans rfl
  clear y1 z1 hb7 hB6 b6 e6 hv6 hvG hL6 hBx
  go_wp2_with fail
  have HE := Lib.hid (fun u W (hu : Rp.Rd part W (fun q => w7.heap.size ≤ q) u x.parts) (hW : Below w7.heap.size w7 W) => eqSsa_calls x x _ u W (hv7.below hW) hu)
  have HEQ : Hid (eqSa x x = true) := Lib.hid (by unfold eqSa; simp)
  unfold saV at HE
  rw [HEQ.out] at HE
  go_region_held3 (fun w' => w'.cell? ⟨w.heap.size, 0, none⟩ = some (.slice A x.parts.length c) ∧ w'.cell? ⟨w.heap.size, 1, none⟩ = some (.int .i64 x.values) ∧ w'.cell? ⟨w4.heap.size, 0, none⟩ = some (.slice A4 x.parts.length c4) ∧ w'.cell? ⟨w4.heap.size, 1, none⟩ = some (.int .i64 x.values))
    (first | go_keep | (go_split_ands; refine ⟨?_, ?_, ?_, ?_⟩ <;> first | exact cell_below hB9 (by assumption) | exact cell_below hB8 (by assumption) | assumption))
    ((first | (go_at_call 14; refine (HT.out _ (below_drew hB7)).mono ?_; rintro e w8 ⟨v8, rfl, hv8, hb8⟩; have hB8 := below_then (below_drew (Below.refl _ _)) hb8; obtain ⟨A8, c8, rfl, _, _⟩ := hv8.form) | (go_at_call 16; refine (HE.out _ _ (partA_le.rd hv8.rd) hB8).mono ?_; rintro e w9 ⟨rfl, hb9⟩; have hB9 := below_then hB8 hb9)))
  have hB9w := below_then hB7 hB9
  have b9 := blk_below b7 hB9
  have e9 := blk_below e7 hB9
  have hG9 := hG7.below hB9
  have hL9 := hL7.below hB9
  have hBx9 := below_then hBx7 hB9
  have hs9 := hB9.size
  clear HE HEQ y10 y11 z10 z11 hv8 hB8 hb8 hb9 hB9 hB7 b7 e7 hG7 hL7 hBx7 hv7
  have hMx := Lib.hid (hM4.out.stay (Stay.below (fun q hq => hq.2) hBx9))
  have hFx : ∀ q, (w3.heap.size ≤ q ∧ q < w4.heap.size) → q < w9.heap.size := fun q hq => by omega
  have HMk := Lib.hid (markSa_calls (.slice A4 x.parts.length c4) (.int .i64 x.values) x.parts.length 1 w9 hMx.out hFx (by omega) (by have := hx.1; omega))
  obtain ⟨z1, _⟩ := cell_of_block e9
  have z10 : w9.cell? ⟨w4.heap.size, 0, none⟩ = some (.slice A4 x.parts.length c4) := (z1 0).trans rfl
  have z11 : w9.cell? ⟨w4.heap.size, 1, none⟩ = some (.int .i64 x.values) := (z1 1).trans rfl
  clear z1 hM4 hMx
  go_wp2_with fail
  refine HMk.out.mono ?_
  rintro e w10 ⟨z, rfl, hz0, hCx⟩
  have hs10 := hCx.size
  have hB10 := hCx.to_below hB9w hB9w.size (fun q hq => by omega)
  have b10 := hCx.blk b9 (by omega)
  have hL10 := hL9.move (hCx.same (fun q hq h => by omega))
  have hG10 := hG9.move (hCx.same (fun q hq h => by omega))
  clear HMk z10 z11 e9 hBx9 hCx hFx hB9w b9 hL9 hG9
  go_wp2_with fail
  refine (HEq.out _ _ _ _ _ hG10.rd hL10).mono ?_
  rintro e w11 ⟨rfl, hb11⟩
  have hB11 := below_then hB10 hb11
  have b11 := blk_below b10 hb11
  have hG11 := hG10.below hb11
  have hL11 := hL10.below hb11
  have hs11 := hb11.size
  clear hb11 hB10 b10 hG10 hL10 hz0
  go_wp2_with fail
  refine (markI_own _ _ 1 _ hG11 (by omega) (by omega)).mono ?_
  rintro e w12 ⟨rfl, hG12, hCg⟩
  have hs12 := hCg.size
  have hB12 := hCg.to_below hB11 hB11.size (fun q hq => by omega)
  have b12 := hCg.blk b11 (by omega)
  have hL12 := hL11.move (hCg.same (fun q hq h => by omega))
  clear hCg hB11 b11 hL11 hG11
  have hnn : ((1 : Int) + (l1.length : Int) != 1 + (l1.length : Int)) = false := by simp
  have hn0 : ¬ ((1 : Int) + (l1.length : Int) < 0) := by omega
  go_wp2_with fail
  refine (heldI_calls _ l1.length 1 _ (by have := hG12.rd; exact this) (by omega) (by omega)).mono ?_
  rintro e w13 ⟨rfl, rfl⟩
  obtain ⟨y1, _⟩ := cell_of_block b12
  have y10 : w12.cell? ⟨w.heap.size, 0, none⟩ = some (.slice A x.parts.length c) := (y1 0).trans rfl
  have y11 : w12.cell? ⟨w.heap.size, 1, none⟩ = some (.int .i64 x.values) := (y1 1).trans rfl
  clear y1
  go_wp2_with fail
  refine (HT.out _ hB12).mono ?_
  rintro e w14 ⟨v14, rfl, hv14, hb14⟩
  obtain ⟨A14, c14, rfl, _, _⟩ := hv14.form
  have hB14 := below_then hB12 hb14
  have hG14 := hG12.below hb14
  have hL14 := hL12.below hb14
  clear y10 y11 b12 hb14 hB12 hG12 hL12
  go_wp2_with fail
  refine (HG2.out _ _ _ (partA_le.rd hv14.rd)).mono ?_
  rintro e w15 ⟨g3, vH, hg3, rfl, hvH, hb15⟩
  have hB15 := below_then hB14 hb15
  have hG15 := hG14.below hb15
  have hL15 := hL14.below hb15
  have hgg : g1 = g3 := by
    have := hg2.out.trans hg3.out.symm
    cases g1 <;> cases g3 <;> simp_all
  subst hgg
  rw [← hl1.out] at hvH
  obtain ⟨AH, cH, hHe, _, _⟩ := hvH.form
  subst hHe
  clear hb15 hB14 hG14 hL14 hv14
  go_wp2_with fail
  refine (HEq.out _ _ _ _ _ hvH.rd hL15).mono ?_
  rintro e w16 ⟨rfl, hb16⟩
  have hB16 := below_then hB15 hb16
  have hG16 := hG15.below hb16
  clear hb16 hB15 hG15 hL15 hvH
  go_wp2_with fail
  refine (heldI_calls _ l1.length 1 _ (by have := hG16.rd; exact this) (by omega) (by omega)).mono ?_
  rintro e w17 ⟨rfl, rfl⟩
  go_wp2
  go_ret
  exact ⟨rfl, hB16⟩
end Go.Proofs.Ytmcnoeinjocimaa.L
