/- Joined texts, each of which was built by itself: Ds5 Ds6. -/
import Derived.Test.YtnfaibenekninaaGreatFUseFirst4
import Derived.Test.YtnfaibenekninaaGreatFUseFirst2
import Derived.Test.YtnfaibenekninaaGreatFUseFirst3
import Derived.Test.YtnfaibenekninaaGreatB3
set_option linter.unusedVariables false
set_option linter.unusedSimpArgs false
namespace Go.Proofs.YtnfaibenekninaaGreat.L
open Go.RowKit
def usD (s : Sa) (D : List Df) (v : Nat) : List Nat := (partsD s D v).map Int.toNat
theorem blk_of_cell {w : World} {b o : Nat} {u : Value} (h : w.cell? ⟨b, o, none⟩ = some u) : b < w.heap.size := by
  unfold World.cell? at h
  split at h
  · rename_i hb; exact (Array.getElem?_eq_some_iff.1 hb).1
  · cases h
/-- The reference's groups of round t. -/
def gT (s : Sa) (D : List Df) (t : Nat) : Nat → Nat := gS (sortD D) (usD s D) (rootD D) t
def gTL (s : Sa) (D : List Df) (N t : Nat) : List Int := (List.range N).map (fun v => ((gT s D t v : Nat) : Int))
def kT (s : Sa) (D : List Df) (t : Nat) : Nat → Nat × (Int × Int) × List Nat := keyS (sortD D) (usD s D) (rootD D) t
theorem gTL_len (s : Sa) (D : List Df) (N t : Nat) : (gTL s D N t).length = N := by simp [gTL]
theorem gTL_get {s : Sa} {D : List Df} {N t v : Nat} (hv : v < N) (h : v < (gTL s D N t).length) : (gTL s D N t)[v] = ((gT s D t v : Nat) : Int) := by simp [gTL]
theorem gT_zero (s : Sa) (D : List Df) : gT s D 0 = leastS (sortD D) := rfl
theorem gT_succ (s : Sa) (D : List Df) (t : Nat) : gT s D (t + 1) = leastS (kT s D t) := rfl
theorem gT_le (s : Sa) (D : List Df) (t v : Nat) : gT s D t v ≤ v := gS_le t v
theorem grR_T {s : Sa} {N : Nat} {D : List Df} {rank : Nat → Nat} (X : DCtx s N D rank) {t : Nat} {u : Int} (hu : 0 ≤ u ∧ u < (N : Int)) : grR D (gTL s D N t) u = ((gT s D t (rootD D u.toNat) : Nat) : Int) := by
  have h := (rootD_lt X.rk (v := u.toNat) (by omega)).1
  unfold grR
  rw [List.getD_eq_getElem?_getD, List.getElem?_eq_getElem (by rw [gTL_len]; exact h)]
  exact gTL_get h _
theorem like_T {s : Sa} {N : Nat} {D : List Df} {rank : Nat → Nat} (X : DCtx s N D rank) {t a b : Nat} (ha : a < N) (hb : b < N) (hg : gT s D t a = gT s D t b) : likeB s D (gTL s D N t) a b = decide (kT s D t b = kT s D t a) := by
  unfold likeB
  refine decide_eq_decide.2 ?_
  have e : ∀ v, v < N → (partsD s D v).map (grR D (gTL s D N t)) = ((usD s D v).map (fun u => gS (sortD D) (usD s D) (rootD D) t (rootD D u))).map (fun n : Nat => (n : Int)) := fun v hv => by
    unfold usD
    rw [List.map_map, List.map_map]
    refine List.map_congr_left fun u hu => ?_
    exact grR_T X (X.pin v hv u hu)
  rw [e a ha, e b hb]
  have hi : ∀ l m : List Nat, l.map (fun n : Nat => (n : Int)) = m.map (fun n : Nat => (n : Int)) ↔ l = m := fun l m => ⟨fun h => (List.map_inj_right (fun x y h => by have h : (x : Int) = (y : Int) := h; omega)).1 h, fun h => by rw [h]⟩
  rw [hi]
  unfold kT keyS
  simp only [Prod.mk.injEq]
  exact ⟨fun h => ⟨hg.symm, h.1.symm, h.2.symm⟩, fun h => ⟨h.2.1.symm, h.2.2.symm⟩⟩
theorem stepT {s : Sa} {N : Nat} {D : List Df} {t : Nat} (hn : ¬ StopS N (sortD D) (usD s D) (rootD D) t) : cntS N (sortD D) (usD s D) (rootD D) t < cntS N (sortD D) (usD s D) (rootD D) (t + 1) := cntS_lt hn
set_option maxRecDepth 100000 in
set_option maxHeartbeats 16000000 in
theorem l11Groups_calls {F : Nat → Prop} (s : Sa) (N : Nat) (vparts : Value) (w : World) (hs : Rp.Rd part w F vparts s.parts) (hg : GoodP s) (hx2 : ∀ p ∈ s.parts, PtLim p) (hNV : (N : Int) = s.values) :
    Calls Tryz.prog 102 #[saV s vparts] w fun e w' => ∃ (v' : Value) (t : Nat), e = .returned (.tuple #[v', .int .i64 t]) ∧ Rp.Rd Rp.int w' (fun q => w.heap.size ≤ q) v' (gTL s (dfAll s) N t) ∧ First (StopS N (sortD (dfAll s)) (usD s (dfAll s)) (rootD (dfAll s))) t ∧ Below w.heap.size w w' := by
  obtain ⟨rank, X⟩ := dctx hg hNV
  have hv1 := hg.v1
  have hv2 := hg.v2
  have hN0 : 0 < N := by omega
  have hN1 : N ≤ 250 := by omega
  have HDf := Lib.hid (fun W (hW : Below w.heap.size w W) => l11Defs_calls s N _ W (hs.below hW) hg hx2 hNV)
  have HX := Lib.hid X
  have HLk := Lib.hid (fun vD vG G a b W F1 F2 (hW : Below w.heap.size w W) (hD : Rp.Rd dfK W F1 vD (dfAll s)) (hG : Rp.Rd Rp.int W F2 vG G) (hGl : G.length = N) (ha : a < N) (hb : b < N) => l11Like_calls s N (dfAll s) rank X _ vD vG G a b W (hs.below hW) hD hG hGl ha hb)
  have HSr := Lib.hid (fun vD v W F1 (hD : Rp.Rd dfK W F1 vD (dfAll s)) (hv : v < N) => l11Sort_calls (dfAll s) vD v W hD (by rw [X.ln]; exact hv) (by rw [X.ln]; exact hN1))
  have hDl : (dfAll s).length ≤ N ∧ N ≤ (dfAll s).length := by have := X.ln; omega
  obtain ⟨A, c, rfl, _, _, _⟩ := id hs
  have hB0 : Below w.heap.size w (w.alloc (.cells #[.slice A s.parts.length c, .int .i64 s.values] 28)) := below_new _
  have b0 := heap_alloc_new w (.cells #[.slice A s.parts.length c, .int .i64 s.values] 28)
  have hz0 : (w.alloc (.cells #[.slice A s.parts.length c, .int .i64 s.values] 28)).heap.size = w.heap.size + 1 := by simp
  have hmk := mk_all Tryz.underlying59 infoInt N (by omega) (by omega)
  obtain ⟨D, hD⟩ : ∃ D, D = dfAll s := ⟨_, rfl⟩
  rw [← hD] at HDf HX HLk HSr hDl ⊢
  clear hD X hg hx2 hs
  unfold saV at HDf HLk ⊢
  rw [← hNV] at HDf HLk hB0 b0 hz0 ⊢
  replace hNV := Lib.hid hNV
  go_enter Tryz.func102, Tryz.ntmps102
  go_wp2_with fail
  refine (HDf.out _ hB0).mono ?_
  rintro e w1 ⟨vD, rfl, hvD, hb1⟩
  have hB1 := below_then hB0 hb1
  have b1 := blk_below b0 hb1
  obtain ⟨AD, cD, rfl, _, _, _⟩ := id hvD
  obtain ⟨x1, _⟩ := cell_of_block b1
  have x11 : w1.cell? ⟨w.heap.size, 1, none⟩ = some (.int .i64 (N : Int)) := (x1 1).trans rfl
  have hO1 := ow_allocE (e := 3) (n := N) (r := Rp.int) (z := .int .i64 0) (x0 := 0) w1 (by omega) rfl (fun _ => rfl)
  have hb2 := below_new (w := w1) (.cells (madeCells #[.int .i64 0] N) 3)
  have hz2 : (w1.alloc (.cells (madeCells #[.int .i64 0] N) 3)).heap.size = w1.heap.size + 1 := by simp
  clear x1 hb1 b0 hB0 HDf hz0
  go_wp2_with fail
  replace hvD := hvD.bound
  obtain ⟨W2, hW2⟩ : ∃ W2, W2 = w1.alloc (.cells (madeCells #[.int .i64 0] N) 3) := ⟨_, rfl⟩
  rw [← hW2] at hO1 hb2 hz2 ⊢
  clear hW2 x11
  obtain ⟨go, hgo⟩ : ∃ go, go = w1.heap.size := ⟨_, rfl⟩
  have hsB := hB1.size
  have hgb := blk_lt b1
  rw [← hgo] at hO1 hz2 hgb hsB ⊢
  have hB2 := below_then hB1 hb2
  have b2 := blk_below b1 hb2
  have hvD2 : Rp.Rd dfK W2 (fun q => q < go) (.slice AD D.length cD) D := (hvD.mono (fun q hq => by have := hq.2; omega)).below hb2
  clear hgo hb2 b1 hvD hB1
  have hT0 : Hid (List.replicate N 0 = tellTo N (gT s D 0) 0) := Lib.hid (tellTo_zero _ _).symm
  rw [hT0.out] at hO1
  go_loopw [20] (fun i wr => ∃ k : Nat, k ≤ N ∧ i = .int .i64 k ∧ Ow true 3 Rp.int wr (fun q => q = go) (.slice (some ⟨go, 0, none⟩) N N) (tellTo N (gT s D 0) k) ∧ Chg (fun q => q = go) W2 wr) (fun i _ => N - (intOf i).toNat)
  case atStart => exact ⟨0, Nat.zero_le _, rfl, hO1, Chg.refl _ _⟩
  case round =>
    clear hO1 hT0
    obtain ⟨k, hk, rfl, HO, HC⟩ := hrel
    rename World => wo
    by_cases hkt : k < N
    · have k0 : (0 : Int) ≤ (k : Int) := Int.natCast_nonneg _
      have k1 : (k : Int) < (N : Int) := by omega
      have hend : Hid (∀ x : Int, x = ((lowF (sortD D) k k : Nat) : Int) → (tellTo N (gT s D 0) k).set k x = tellTo N (gT s D 0) (k + 1)) := Lib.hid (fun x hx => tellTo_set hkt x (by rw [hx, lowF_all, gT_zero]))
      have hlo := tellTo_len N (gT s D 0) k
      obtain ⟨L, hL⟩ : ∃ L, L = tellTo N (gT s D 0) k := ⟨_, rfl⟩
      rw [← hL] at HO hend hlo
      clear hL
      have hl1 : L.length ≤ N := by omega
      have hl2 : N ≤ L.length := by omega
      clear hlo
      obtain ⟨hc1, hf1⟩ := HO.int_at (k := k) (by omega)
      have hS1 := HO.set1 (i := k) (y := (k : Int)) rfl (by omega) rfl
      have hC1 := HC.trans (Chg.set (A := fun q => q = go) (b := go) (o := k) (u := .int .i64 (k : Int)) rfl)
      clear HO HC
      go_wp2_with fail
      clear hc1 hf1
      go_loopw [7] (fun x wr => ∃ (n : Nat) (z : Int), n ≤ k ∧ x = .int .i64 z ∧ Hid (z = (k : Int) - 1 - n) ∧ Ow true 3 Rp.int wr (fun q => q = go) (.slice (some ⟨go, 0, none⟩) N N) (L.set k ((lowF (sortD D) k n : Nat) : Int)) ∧ Chg (fun q => q = go) W2 wr) (fun x _ => (intOf x + 1).toNat)
      case atStart => exact ⟨0, (k : Int) - 1, Nat.zero_le _, by go_num, Lib.hid (by omega), hS1, hC1⟩
      case round =>
        clear hS1 hC1
        obtain ⟨n, z, hn, rfl, hz, HO, HC⟩ := hrel
        rename World => wx
        have hBx := HC.to_below hB2 hB2.size (fun q hq => by have hq : q = go := hq; omega)
        have hDx := hvD2.move (HC.same (fun q hq h => by have hq : q < go := hq; have h : q = go := h; omega))
        by_cases hnt : n < k
        · obtain ⟨m, hm⟩ : ∃ m, m + n + 1 = k := ⟨k - n - 1, by omega⟩
          have hzm : z = (m : Int) := by have := hz.out; omega
          subst hzm
          have hm0 : (0 : Int) ≤ (m : Int) := Int.natCast_nonneg _
          have hm1 : (m : Int) < (N : Int) := by omega
          have hlf := Lib.hid (lowF_at (sortD D) hm)
          have hS1 := Lib.hid (fun W F1 (h : Rp.Rd dfK W F1 (.slice AD D.length cD) D) => HSr.out _ k W F1 h hkt)
          have hS2 := Lib.hid (fun W F1 (h : Rp.Rd dfK W F1 (.slice AD D.length cD) D) => HSr.out _ m W F1 h (by omega))
          have hzn : Hid ((m : Int) - 1 = (k : Int) - 1 - ((n + 1 : Nat) : Int)) := Lib.hid (by omega)
          replace hm := Lib.hid hm
          by_cases hse : sortD D m = sortD D k
          · have hl2 : Hid (lowF (sortD D) k (n + 1) = m) := Lib.hid (by rw [hlf.out, if_pos hse])
            rw [hse] at hS2
            clear hlf hse
            obtain ⟨p, hp⟩ : ∃ p, p = sortD D k := ⟨_, rfl⟩
            rw [← hp] at hS1 hS2
            clear hp
            obtain ⟨p1, p2⟩ := p
            unfold pairV at hS1 hS2
            go_wp2_with fail
            refine (hS1.out _ _ hDx).mono ?_
            rintro e w3 ⟨rfl, hb3⟩
            go_wp2_with fail
            refine (hS2.out _ _ (hDx.below hb3)).mono ?_
            rintro e w4 ⟨rfl, hb4⟩
            have hb34 := below_then hb3 hb4
            have HO4 := HO.below hb34
            have HC4 := HC.trans (Chg.of_below hb34)
            have HEq := fun W => (eq_pairA p1 p2 p1 p2 W).trans (by rw [beq_self_eq_true, beq_self_eq_true, Bool.and_self])
            obtain ⟨hc4, hf4⟩ := HO4.int_at (k := k) (by rw [List.length_set]; omega)
            have HO5 := HO4.set1 (i := k) (y := (m : Int)) rfl (by rw [List.length_set]; omega) rfl
            have e5 : L.set k (m : Int) = L.set k ((lowF (sortD D) k (n + 1) : Nat) : Int) := by rw [hl2.out]
            rw [List.set_set, e5] at HO5
            clear e5
            have HC5 := HC4.trans (Chg.set (A := fun q => q = go) (b := go) (o := k) (u := .int .i64 (m : Int)) rfl)
            rw [List.getElem_set_self] at hc4
            clear HO HC HO4 HC4 hS1 hS2 hb3 hb4 hb34 hDx hBx
            go_wp2
            go_roundw
            case rel => exact ⟨n + 1, (m : Int) - 1, by omega, by go_num, hzn, HO5, HC5⟩
            case measure => simp [intOf]
          · have hl2 : Hid (lowF (sortD D) k (n + 1) = lowF (sortD D) k n) := Lib.hid (by rw [hlf.out, if_neg hse])
            clear hlf
            obtain ⟨p, hp⟩ : ∃ p, p = sortD D k := ⟨_, rfl⟩
            obtain ⟨q, hq⟩ : ∃ q, q = sortD D m := ⟨_, rfl⟩
            rw [← hp, ← hq] at hse
            rw [← hp] at hS1
            rw [← hq] at hS2
            clear hp hq
            obtain ⟨p1, p2⟩ := p
            obtain ⟨q1, q2⟩ := q
            have hne : ((p1 == q1) && (p2 == q2)) = false := by
              cases h1 : (p1 == q1)
              · rfl
              · cases h2 : (p2 == q2)
                · rfl
                · exact absurd (Prod.ext (by simpa using h1) (by simpa using h2)) (fun h => hse h.symm)
            unfold pairV at hS1 hS2
            clear hse
            go_wp2_with fail
            refine (hS1.out _ _ hDx).mono ?_
            rintro e w3 ⟨rfl, hb3⟩
            go_wp2_with fail
            refine (hS2.out _ _ (hDx.below hb3)).mono ?_
            rintro e w4 ⟨rfl, hb4⟩
            have hb34 := below_then hb3 hb4
            have HO4 := HO.below hb34
            rw [← hl2.out] at HO4
            have HC4 := HC.trans (Chg.of_below hb34)
            have HEq := fun W => (eq_pairA p1 p2 q1 q2 W).trans (by rw [hne])
            clear HO HC hS1 hS2 hb3 hb4 hb34 hDx hBx hne
            go_wp2
            go_roundw
            case rel => exact ⟨n + 1, (m : Int) - 1, by omega, by go_num, hzn, HO4, HC4⟩
            case measure => simp [intOf]
        · obtain rfl : n = k := by omega
          have hzm : z = -1 := by have := hz.out; omega
          subst hzm
          rw [hend.out _ rfl] at HO
          go_wp2
          go_roundw
          case rel => exact ⟨n + 1, by omega, by go_num, HO, HC⟩
          case measure => simp [intOf]; omega
    · obtain rfl : N = k := by omega
      rw [tellTo_all] at HO
      have hBx := HC.to_below hB2 hB2.size (fun q hq => by have hq : q = go := hq; omega)
      have hDx := (hvD2.move (HC.same (fun q hq h => by have hq : q < go := hq; have h : q = go := h; omega))).mono (G := fun _ => True) (fun _ _ => trivial)
      have b3 := HC.blk b2 (by omega)
      have HG0 : Rp.Rd Rp.int wo (fun q => w.heap.size ≤ q) (.slice (some ⟨go, 0, none⟩) N N) (gTL s D N 0) := (HO.mono (G := fun q => w.heap.size ≤ q) (fun q hq => by have hq : q = go := hq; omega)).rd
      clear HO HC hvD2 b2 hB2 hz2 hgb HSr
      go_wp2_with fail
      go_loopw [5, 8] (fun gv rv wr => ∃ (t : Nat) (g : Value), g = gv ∧ rv = .int .i64 t ∧ Rp.Rd Rp.int wr (fun q => w.heap.size ≤ q) g (gTL s D N t) ∧ t ≤ N ∧ t ≤ cntS N (sortD D) (usD s D) (rootD D) t ∧ Hid (∀ q, q < t → ¬ StopS N (sortD D) (usD s D) (rootD D) q) ∧ Below wo.heap.size wo wr) (fun _ rv _ => N - cntS N (sortD D) (usD s D) (rootD D) (intOf rv).toNat)
      case atStart => exact ⟨0, _, rfl, rfl, HG0, Nat.zero_le _, Nat.zero_le _, Lib.hid (fun q hq => by omega), Below.refl _ _⟩
      case round =>
        clear HG0
        obtain ⟨t, gv, rfl, rfl, HG, htN, htc, HNs, HB⟩ := hrel
        rename World => wa
        have hlg := gTL_len s D N t
        have hgT := Lib.hid (fun v (hv : v < N) h => gTL_get (s := s) (D := D) (t := t) hv h)
        have hB3 := below_then hBx HB
        have b4 := blk_below b3 HB
        have hD4 := hDx.below HB
        replace HG := HG.bound
        have HGk := Lib.hid HG
        obtain ⟨Ag, cg, rfl, _, _, hrg⟩ := rd_int HG
        have hlg1 : (gTL s D N t).length ≤ N := by omega
        have hlg2 : N ≤ (gTL s D N t).length := by omega
        replace hlg := Lib.hid hlg
        rcases hrg with hn | ⟨bg, og, rfl, hbg, hcg⟩
        · rw [hn] at hlg2; simp at hlg2; omega
        obtain ⟨x1, _⟩ := cell_of_block b4
        have x11 : wa.cell? ⟨w.heap.size, 1, none⟩ = some (.int .i64 (N : Int)) := (x1 1).trans rfl
        have hO6 := ow_allocE (e := 3) (n := N) (r := Rp.int) (z := .int .i64 0) (x0 := 0) wa (by omega) rfl (fun _ => rfl)
        have hb6 := below_new (w := wa) (.cells (madeCells #[.int .i64 0] N) 3)
        have hz6 : (wa.alloc (.cells (madeCells #[.int .i64 0] N) 3)).heap.size = wa.heap.size + 1 := by simp
        have HCg := Lib.hid hcg
        have hcst := Lib.hid (stepT (s := s) (N := N) (D := D) (t := t))
        have hcle := cntS_le (n := N) (srt := sortD D) (us := usD s D) (root := rootD D) (t + 1)
        clear hcg x1 HG
        go_wp2_with fail
        obtain ⟨W6, hW6⟩ : ∃ W6, W6 = wa.alloc (.cells (madeCells #[.int .i64 0] N) 3) := ⟨_, rfl⟩
        rw [← hW6] at hO6 hb6 hz6 ⊢
        clear hW6 x11
        obtain ⟨g2, hg2⟩ : ∃ g2, g2 = wa.heap.size := ⟨_, rfl⟩
        rw [← hg2] at hO6 hz6 ⊢
        have hB6 := below_then hB3 hb6
        have hB6o := below_then HB hb6
        have b6 := blk_below b4 hb6
        have hbl := blk_lt b4
        have hsw := hB3.size
        have hD6 := (hD4.bound).below hb6
        have HG6 := HGk.out.below hb6
        have hsz := hB3.size
        have hbg2 : bg < g2 := by omega
        have hgo2 : wo.heap.size ≤ g2 := by have := HB.size; omega
        rw [← hg2] at hbl hsw
        have hD7 : Rp.Rd dfK W6 (fun q => q < g2) (.slice AD D.length cD) D := hD6.mono (fun q hq => by have := hq.2; omega)
        have HG7 : Rp.Rd Rp.int W6 (fun q => w.heap.size ≤ q ∧ q < g2) (.slice (some ⟨bg, og, none⟩) (gTL s D N t).length cg) (gTL s D N t) := HG6.mono (fun q hq => ⟨hq.1, by have := hq.2; omega⟩)
        have HCg6 : Hid (∀ k (hk : k < (gTL s D N t).length), W6.cell? ⟨bg, og + k, none⟩ = some (.int .i64 (gTL s D N t)[k])) := Lib.hid (fun k hk => cell_below hb6 (HCg.out k hk))
        clear hD4 hD6 HG6 HGk b4 hb6 hg2 HCg
        have hT0 : Hid (List.replicate N 0 = tellTo N (gT s D (t + 1)) 0) := Lib.hid (tellTo_zero _ _).symm
        rw [hT0.out] at hO6
        clear hT0
        go_loopw [10, 50] (fun cv i wr => ∃ (k : Nat) (ch : Bool), cv = .bool ch ∧ k ≤ N ∧ i = .int .i64 k ∧ Ow true 3 Rp.int wr (fun q => q = g2) (.slice (some ⟨g2, 0, none⟩) N N) (tellTo N (gT s D (t + 1)) k) ∧ Chg (fun q => q = g2) W6 wr ∧ Hid (ch = true ↔ ∃ v, v < k ∧ gT s D (t + 1) v ≠ gT s D t v)) (fun _ i _ => N - (intOf i).toNat)
        case atStart => exact ⟨0, false, rfl, Nat.zero_le _, rfl, hO6, Chg.refl _ _, Lib.hid ⟨fun h => Bool.noConfusion h, fun ⟨v, hv, _⟩ => by omega⟩⟩
        case round =>
          clear hO6
          obtain ⟨k, ch, rfl, hk, rfl, HO, HC, Hch⟩ := hrel
          rename World => wb
          by_cases hkt : k < N
          · have k0 : (0 : Int) ≤ (k : Int) := Int.natCast_nonneg _
            have k1 : (k : Int) < (N : Int) := by omega
            have kg : (k : Int) < ((gTL s D N t).length : Int) := by omega
            have hend : Hid (∀ x : Int, x = ((lowF (kT s D t) k k : Nat) : Int) → (tellTo N (gT s D (t + 1)) k).set k x = tellTo N (gT s D (t + 1)) (k + 1) ∧ x = ((gT s D (t + 1) k : Nat) : Int)) := Lib.hid (fun x hx => by
              have e : x = ((gT s D (t + 1) k : Nat) : Int) := by rw [hx, lowF_all, gT_succ]
              exact ⟨tellTo_set hkt x e, e⟩)
            have hlo := tellTo_len N (gT s D (t + 1)) k
            obtain ⟨L, hL⟩ : ∃ L, L = tellTo N (gT s D (t + 1)) k := ⟨_, rfl⟩
            rw [← hL] at HO hend hlo
            clear hL
            have hl1 : L.length ≤ N := by omega
            have hl2 : N ≤ L.length := by omega
            clear hlo
            obtain ⟨hc1, hf1⟩ := HO.int_at (k := k) (by omega)
            have hS1 := HO.set1 (i := k) (y := (k : Int)) rfl (by omega) rfl
            have hC1 := HC.trans (Chg.set (A := fun q => q = g2) (b := g2) (o := k) (u := .int .i64 (k : Int)) rfl)
            clear HO HC
            go_wp2_with fail
            clear hc1 hf1
            go_loopw [12] (fun x wr => ∃ (n : Nat) (z : Int), n ≤ k ∧ x = .int .i64 z ∧ Hid (z = (k : Int) - 1 - n) ∧ Ow true 3 Rp.int wr (fun q => q = g2) (.slice (some ⟨g2, 0, none⟩) N N) (L.set k ((lowF (kT s D t) k n : Nat) : Int)) ∧ Chg (fun q => q = g2) W6 wr) (fun x _ => (intOf x + 1).toNat)
            case atStart => exact ⟨0, (k : Int) - 1, Nat.zero_le _, by go_num, Lib.hid (by omega), hS1, hC1⟩
            case round =>
              clear hS1 hC1
              obtain ⟨n, z, hn, rfl, hz, HO, HC⟩ := hrel
              rename World => wc
              have hkg : k < (gTL s D N t).length := by omega
              have ck := (Rp.cell_move (HC.block bg (blk_of_cell (HCg6.out k hkg)) (by show ¬ bg = g2; omega)) (og + k)).trans (HCg6.out k hkg)
              rw [hgT.out k hkt hkg] at ck
              by_cases hnt : n < k
              · obtain ⟨m, hm⟩ : ∃ m, m + n + 1 = k := ⟨k - n - 1, by omega⟩
                have hzm : z = (m : Int) := by have := hz.out; omega
                subst hzm
                have hm0 : (0 : Int) ≤ (m : Int) := Int.natCast_nonneg _
                have hm1 : (m : Int) < (N : Int) := by omega
                have hmN : m < N := by omega
                have mg : (m : Int) < ((gTL s D N t).length : Int) := by omega
                have hmg : m < (gTL s D N t).length := by omega
                have cm := (Rp.cell_move (HC.block bg (blk_of_cell (HCg6.out m hmg)) (by show ¬ bg = g2; omega)) (og + m)).trans (HCg6.out m hmg)
                rw [hgT.out m hmN hmg] at cm
                have hlf := Lib.hid (lowF_at (kT s D t) hm)
                have hzn : Hid ((m : Int) - 1 = (k : Int) - 1 - ((n + 1 : Nat) : Int)) := Lib.hid (by omega)
                replace hm := Lib.hid hm
                by_cases hge : gT s D t k = gT s D t m
                · have hLT := like_T HX.out (t := t) hkt hmN hge
                  have hDc := hD7.move (HC.same (fun q hq h => by have hq : q < g2 := hq; have h : q = g2 := h; omega))
                  have hGc := HG7.move (HC.same (fun q hq h => by have hq := hq.2; have h : q = g2 := h; omega))
                  have hBc := HC.to_below hB6 hB6.size (fun q hq => by have hq : q = g2 := hq; omega)
                  have bc := HC.blk b6 (by show ¬ w.heap.size = g2; omega)
                  rw [← hge] at cm
                  clear hge
                  obtain ⟨ga, hga⟩ : ∃ ga, ga = gT s D t k := ⟨_, rfl⟩
                  rw [← hga] at ck cm
                  clear hga
                  obtain ⟨x1, _⟩ := cell_of_block bc
                  have x10 : wc.cell? ⟨w.heap.size, 0, none⟩ = some (.slice A s.parts.length c) := (x1 0).trans rfl
                  have x11 : wc.cell? ⟨w.heap.size, 1, none⟩ = some (.int .i64 (N : Int)) := (x1 1).trans rfl
                  clear x1
                  obtain ⟨R, hR⟩ : ∃ R, R = likeB s D (gTL s D N t) k m := ⟨_, rfl⟩
                  have hLk := Lib.hid (HLk.out (.slice AD D.length cD) (.slice (some ⟨bg, og, none⟩) (gTL s D N t).length cg) (gTL s D N t) k m wc.drew _ _ (below_drew hBc) (hDc.move (w' := wc.drew) (fun _ _ _ => rfl)) (hGc.move (w' := wc.drew) (fun _ _ _ => rfl)) hlg.out hkt hmN)
                  rw [← hR] at hLk hLT
                  clear hR
                  replace hLT := Lib.hid hLT
                  go_wp2_with fail
                  refine wp_region_held_drew (S := (fun w' => w'.cell? ⟨bg, og + k, none⟩ = some (.int .i64 (ga : Int)) ∧ w'.cell? ⟨bg, og + m, none⟩ = some (.int .i64 (ga : Int)) ∧ w'.cell? ⟨w.heap.size, 0, none⟩ = some (.slice A s.parts.length c) ∧ w'.cell? ⟨w.heap.size, 1, none⟩ = some (.int .i64 (N : Int)))) (by kernel_rfl) ⟨ck, cm, x10, x11⟩ (fun hH0 => ?_)
                  refine wpAnyH_take (i := 0) (v := ?_) rfl (by kernel_rfl) (by kernel_rfl) (by kernel_rfl) (fun _ _ _ h => h) (Or.inl ⟨by rfl, ?_⟩) (by assumption) ?_
                  rotate_left 1
                  focus ((intro w hSw; (try dsimp only at hSw); go_simp); try with_reducible rfl)
                  try simp only [Act.put, Array.getInternal_eq_getElem, List.getElem_toArray, List.getElem_cons_zero, List.getElem_cons_succ, List.setIfInBounds_toArray, List.set_cons_zero, List.set_cons_succ]
                  refine wpAnyH_take (i := 1) (v := ?_) rfl (by kernel_rfl) (by kernel_rfl) (by kernel_rfl) (fun _ _ _ h => h) (Or.inl ⟨by rfl, ?_⟩) (by assumption) ?_
                  rotate_left 1
                  focus ((intro w hSw; (try dsimp only at hSw); go_simp); try with_reducible rfl)
                  try simp only [Act.put, Array.getInternal_eq_getElem, List.getElem_toArray, List.getElem_cons_zero, List.getElem_cons_succ, List.setIfInBounds_toArray, List.set_cons_zero, List.set_cons_succ]
                  refine wpAnyH_take (i := 2) (v := ?_) rfl (by kernel_rfl) (by kernel_rfl) (by kernel_rfl) (fun _ _ _ h => h) (Or.inl ⟨by rfl, ?_⟩) (by assumption) ?_
                  rotate_left 1
                  focus ((intro w hSw; (try dsimp only at hSw); go_simp); try with_reducible rfl)
                  try simp only [Act.put, Array.getInternal_eq_getElem, List.getElem_toArray, List.getElem_cons_zero, List.getElem_cons_succ, List.setIfInBounds_toArray, List.set_cons_zero, List.set_cons_succ]
                  refine wpAnyH_take (i := 3) (v := ?_) rfl (by kernel_rfl) (by kernel_rfl) (by kernel_rfl) (fun _ _ _ h => h) (Or.inl ⟨by rfl, ?_⟩) (by assumption) ?_
                  rotate_left 1
                  focus ((intro w hSw; (try dsimp only at hSw); go_simp); try with_reducible rfl)
                  try simp only [Act.put, Array.getInternal_eq_getElem, List.getElem_toArray, List.getElem_cons_zero, List.getElem_cons_succ, List.setIfInBounds_toArray, List.set_cons_zero, List.set_cons_succ]
                  refine wpAnyH_take (i := 4) (v := ?_) rfl (by kernel_rfl) (by kernel_rfl) (by kernel_rfl) (fun _ _ _ h => h) (Or.inl ⟨by rfl, ?_⟩) (by assumption) ?_
                  rotate_left 1
                  focus ((intro w hSw; (try dsimp only at hSw); go_simp); try with_reducible rfl)
                  try simp only [Act.put, Array.getInternal_eq_getElem, List.getElem_toArray, List.getElem_cons_zero, List.getElem_cons_succ, List.setIfInBounds_toArray, List.set_cons_zero, List.set_cons_succ]
                  refine wpAnyH_take (i := 5) (v := ?_) rfl (by kernel_rfl) (by kernel_rfl) (by kernel_rfl) (fun _ _ _ h => h) (Or.inl ⟨by rfl, ?_⟩) (by assumption) ?_
                  rotate_left 1
                  focus ((intro w hSw; (try dsimp only at hSw); go_simp); try with_reducible rfl)
                  try simp only [Act.put, Array.getInternal_eq_getElem, List.getElem_toArray, List.getElem_cons_zero, List.getElem_cons_succ, List.setIfInBounds_toArray, List.set_cons_zero, List.set_cons_succ]
                  refine wpAnyH_take (i := 6) (v := ?_) rfl (by kernel_rfl) (by kernel_rfl) (by kernel_rfl) (fun _ _ _ h => h) (Or.inl ⟨by rfl, ?_⟩) (by assumption) ?_
                  rotate_left 1
                  focus ((intro w hSw; (try dsimp only at hSw); go_simp); try with_reducible rfl)
                  try simp only [Act.put, Array.getInternal_eq_getElem, List.getElem_toArray, List.getElem_cons_zero, List.getElem_cons_succ, List.setIfInBounds_toArray, List.set_cons_zero, List.set_cons_succ]
                  refine wpAnyH_take (i := 7) (v := ?_) rfl (by kernel_rfl) (by kernel_rfl) (by kernel_rfl) (fun _ _ _ h => h) (Or.inl ⟨by rfl, ?_⟩) (by assumption) ?_
                  rotate_left 1
                  focus ((intro w hSw; (try dsimp only at hSw); go_simp); try with_reducible rfl)
                  try simp only [Act.put, Array.getInternal_eq_getElem, List.getElem_toArray, List.getElem_cons_zero, List.getElem_cons_succ, List.setIfInBounds_toArray, List.set_cons_zero, List.set_cons_succ]
                  refine wpAnyH_take (i := 8) (v := ?_) rfl (by kernel_rfl) (by kernel_rfl) (by kernel_rfl) (fun _ _ _ h => h) (Or.inl ⟨by rfl, ?_⟩) (by assumption) ?_
                  rotate_left 1
                  focus ((intro w hSw; (try dsimp only at hSw); go_simp); try with_reducible rfl)
                  try simp only [Act.put, Array.getInternal_eq_getElem, List.getElem_toArray, List.getElem_cons_zero, List.getElem_cons_succ, List.setIfInBounds_toArray, List.set_cons_zero, List.set_cons_succ]
                  refine wpAnyH_take (i := 9) (v := ?_) rfl (by kernel_rfl) (by kernel_rfl) (by kernel_rfl) (fun _ _ _ h => h) (Or.inl ⟨by rfl, ?_⟩) (by assumption) ?_
                  rotate_left 1
                  focus ((intro w hSw; (try dsimp only at hSw); go_simp); try with_reducible rfl)
                  try simp only [Act.put, Array.getInternal_eq_getElem, List.getElem_toArray, List.getElem_cons_zero, List.getElem_cons_succ, List.setIfInBounds_toArray, List.set_cons_zero, List.set_cons_succ]
                  refine wpAnyH_take (i := 10) (v := ?_) rfl (by kernel_rfl) (by kernel_rfl) (by kernel_rfl) (fun _ _ _ h => h) (Or.inl ⟨by rfl, ?_⟩) (by assumption) ?_
                  rotate_left 1
                  focus ((intro w hSw; (try dsimp only at hSw); go_simp); try with_reducible rfl)
                  try simp only [Act.put, Array.getInternal_eq_getElem, List.getElem_toArray, List.getElem_cons_zero, List.getElem_cons_succ, List.setIfInBounds_toArray, List.set_cons_zero, List.set_cons_succ]
                  refine wpAnyH_take (i := 11) (v := ?_) rfl (by kernel_rfl) (by kernel_rfl) (by kernel_rfl) (fun _ _ _ h => h) (Or.inl ⟨by rfl, ?_⟩) (by assumption) ?_
                  rotate_left 1
                  focus ((intro w hSw; (try dsimp only at hSw); go_simp); try with_reducible rfl)
                  try simp only [Act.put, Array.getInternal_eq_getElem, List.getElem_toArray, List.getElem_cons_zero, List.getElem_cons_succ, List.setIfInBounds_toArray, List.set_cons_zero, List.set_cons_succ]
                  refine wpAnyH_take (i := 12) (v := ?_) rfl (by kernel_rfl) (by kernel_rfl) (by kernel_rfl) (fun _ _ _ h => h) (Or.inl ⟨by rfl, ?_⟩) (by assumption) ?_
                  rotate_left 1
                  focus ((intro w hSw; (try dsimp only at hSw); go_simp); try with_reducible rfl)
                  try simp only [Act.put, Array.getInternal_eq_getElem, List.getElem_toArray, List.getElem_cons_zero, List.getElem_cons_succ, List.setIfInBounds_toArray, List.set_cons_zero, List.set_cons_succ]
                  refine wpAnyH_take (i := 13) (v := ?_) rfl (by kernel_rfl) (by kernel_rfl) (by kernel_rfl) (fun _ _ _ h => h) (Or.inl ⟨by rfl, ?_⟩) (by assumption) ?_
                  rotate_left 1
                  focus ((intro w hSw; (try dsimp only at hSw); go_simp); try with_reducible rfl)
                  try simp only [Act.put, Array.getInternal_eq_getElem, List.getElem_toArray, List.getElem_cons_zero, List.getElem_cons_succ, List.setIfInBounds_toArray, List.set_cons_zero, List.set_cons_succ]
                  refine wpAnyH_take (i := 14) (v := ?_) rfl (by kernel_rfl) (by kernel_rfl) (by kernel_rfl) (fun _ _ _ h => h) (Or.inl ⟨by rfl, ?_⟩) (by assumption) ?_
                  rotate_left 1
                  focus ((intro w hSw; (try dsimp only at hSw); go_simp); try with_reducible rfl)
                  try simp only [Act.put, Array.getInternal_eq_getElem, List.getElem_toArray, List.getElem_cons_zero, List.getElem_cons_succ, List.setIfInBounds_toArray, List.set_cons_zero, List.set_cons_succ]
                  refine wpAnyH_ready (rs := [15]) (by kernel_rfl) (by simp) ?_
                  refine AllReadyH.cons rfl (fun K1 hK1 => ?_) AllReadyH.nil
                  try simp only [Array.getInternal_eq_getElem, List.getElem_toArray, List.getElem_cons_zero, List.getElem_cons_succ]
                  rw [if_pos (by first | kernel_rfl | rfl | decide)]
                  go_simp
                  go_at_call 143
                  refine hLk.out.mono ?_
                  rintro e w8 ⟨rfl, hb8⟩
                  have hb9 := below_then (below_drew (Below.refl wc.heap.size wc)) hb8
                  have ck := cell_below hb9 ck
                  have cm := cell_below hb9 cm
                  have x10 := cell_below hb9 x10
                  have x11 := cell_below hb9 x11
                  have HO8 := HO.below hb9
                  have HC8 := HC.trans (Chg.of_below hb9)
                  go_wp2_with fail
                  refine hK1.out _ _ ⟨ck, cm, x10, x11⟩ (fun _ => ?_)
                  clear hK1 K1
                  try simp only [Act.put, List.setIfInBounds_toArray, List.set_cons_zero, List.set_cons_succ]
                  refine wpAnyH_take (i := 16) (v := ?_) rfl (by kernel_rfl) (by kernel_rfl) (by kernel_rfl) (fun _ _ _ h => h) (Or.inl ⟨by rfl, ?_⟩) (by assumption) ?_
                  rotate_left 1
                  focus ((intro w hSw; (try dsimp only at hSw); go_simp); try with_reducible rfl)
                  try simp only [Act.put, Array.getInternal_eq_getElem, List.getElem_toArray, List.getElem_cons_zero, List.getElem_cons_succ, List.setIfInBounds_toArray, List.set_cons_zero, List.set_cons_succ]
                  refine wpAnyH_done (by kernel_rfl) ?_ _
                  clear hH0 ck cm x10 x11 hb8 hb9 hLk HO HC hDc hGc hBc bc
                  by_cases hkk : kT s D t m = kT s D t k
                  · have hl2 : Hid (lowF (kT s D t) k (n + 1) = m) := Lib.hid (by rw [hlf.out, if_pos hkk])
                    have hRt : R = true := by rw [hLT.out]; exact decide_eq_true hkk
                    clear hLT hlf hkk
                    subst hRt
                    obtain ⟨hc4, hf4⟩ := HO8.int_at (k := k) (by rw [List.length_set]; omega)
                    have HO5 := HO8.set1 (i := k) (y := (m : Int)) rfl (by rw [List.length_set]; omega) rfl
                    have e5 : L.set k (m : Int) = L.set k ((lowF (kT s D t) k (n + 1) : Nat) : Int) := by rw [hl2.out]
                    rw [List.set_set, e5] at HO5
                    clear e5
                    have HC5 := HC8.trans (Chg.set (A := fun q => q = g2) (b := g2) (o := k) (u := .int .i64 (m : Int)) rfl)
                    rw [List.getElem_set_self] at hc4
                    go_wp2
                    go_roundw
                    case rel => exact ⟨n + 1, (m : Int) - 1, by omega, by go_num, hzn, HO5, HC5⟩
                    case measure => simp [intOf]
                  · have hl2 : Hid (lowF (kT s D t) k (n + 1) = lowF (kT s D t) k n) := Lib.hid (by rw [hlf.out, if_neg hkk])
                    have hRt : R = false := by rw [hLT.out]; exact decide_eq_false hkk
                    clear hLT hlf hkk
                    subst hRt
                    rw [← hl2.out] at HO8
                    go_wp2
                    go_roundw
                    case rel => exact ⟨n + 1, (m : Int) - 1, by omega, by go_num, hzn, HO8, HC8⟩
                    case measure => simp [intOf]
                · have hl2 : Hid (lowF (kT s D t) k (n + 1) = lowF (kT s D t) k n) := Lib.hid (by
                    rw [hlf.out, if_neg (fun h => hge ?_)]
                    unfold kT keyS at h
                    exact (congrArg Prod.fst h).symm)
                  have hne : (((gT s D t k : Nat) : Int) == ((gT s D t m : Nat) : Int)) = false := by
                    rw [beq_eq_false_iff_ne]
                    intro h
                    exact hge (by omega)
                  rw [← hl2.out] at HO
                  obtain ⟨ga, hga⟩ : ∃ ga, ga = gT s D t k := ⟨_, rfl⟩
                  obtain ⟨gb, hgb⟩ : ∃ gb, gb = gT s D t m := ⟨_, rfl⟩
                  rw [← hga] at ck hne
                  rw [← hgb] at cm hne
                  clear hga hgb hge hlf hl2
                  go_wp2_with fail
                  go_quiet (fail)
                  go_wp2
                  go_roundw
                  case rel => exact ⟨n + 1, (m : Int) - 1, by omega, by go_num, hzn, by first | exact HO | exact HO.move (fun _ _ _ => rfl), by first | exact HC | exact HC.trans (Chg.drewN _)⟩
                  case measure => simp [intOf]
              · obtain rfl : n = k := by omega
                have hzm : z = -1 := by have := hz.out; omega
                subst hzm
                obtain ⟨hL1, hgv⟩ := hend.out _ rfl
                have hnk : n < (L.set n ((lowF (kT s D t) n n : Nat) : Int)).length := by rw [List.length_set]; omega
                obtain ⟨hcn, hfn⟩ := HO.int_at (k := n) hnk
                rw [List.getElem_set_self, hgv] at hcn
                rw [hL1] at HO
                have hch1 : Hid (gT s D (t + 1) n ≠ gT s D t n → ∃ v, v < n + 1 ∧ gT s D (t + 1) v ≠ gT s D t v) := Lib.hid (fun h => ⟨n, by omega, h⟩)
                have hch0 : Hid (gT s D (t + 1) n = gT s D t n → ((∃ v, v < n + 1 ∧ gT s D (t + 1) v ≠ gT s D t v) ↔ ∃ v, v < n ∧ gT s D (t + 1) v ≠ gT s D t v)) := Lib.hid (fun h => ⟨fun ⟨v, hv, hne⟩ => ⟨v, by rcases Nat.lt_or_eq_of_le (Nat.le_of_lt_succ hv) with h2 | rfl; exact h2; exact absurd h hne, hne⟩, fun ⟨v, hv, hne⟩ => ⟨v, by omega, hne⟩⟩)
                have hchm : Hid ((∃ v, v < n ∧ gT s D (t + 1) v ≠ gT s D t v) → ∃ v, v < n + 1 ∧ gT s D (t + 1) v ≠ gT s D t v) := Lib.hid (fun ⟨v, hv, hne⟩ => ⟨v, by omega, hne⟩)
                clear hend hgv
                obtain ⟨ga, hga⟩ : ∃ ga, ga = gT s D t n := ⟨_, rfl⟩
                obtain ⟨gb, hgb⟩ : ∃ gb, gb = gT s D (t + 1) n := ⟨_, rfl⟩
                have HIFF : Hid (∀ ch2 : Bool, ch2 = (ch || (((gb : Nat) : Int) != ((ga : Nat) : Int))) → (ch2 = true ↔ ∃ v, v < n + 1 ∧ gT s D (t + 1) v ≠ gT s D t v)) := Lib.hid (fun ch2 h2 => by
                  subst h2
                  by_cases hab : gb = ga
                  · have hz : (((gb : Nat) : Int) != ((ga : Nat) : Int)) = false := by rw [hab]; simp
                    rw [hz, Bool.or_false]
                    exact Hch.out.trans (hch0.out (by rw [← hga, ← hgb]; exact hab)).symm
                  · have hz : (((gb : Nat) : Int) != ((ga : Nat) : Int)) = true := by rw [bne_iff_ne]; intro h; exact hab (by omega)
                    rw [hz, Bool.or_true]
                    exact ⟨fun _ => hch1.out (by rw [← hga, ← hgb]; exact hab), fun _ => rfl⟩)
                rw [← hga] at ck
                rw [← hgb] at hcn
                clear hga hgb hch0 hch1 hchm Hch
                cases ch
                · by_cases hab : gb = ga
                  · subst hab
                    have HI := HIFF.out false (by simp)
                    replace HI := Lib.hid HI
                    clear HIFF
                    go_wp2_with fail
                    go_quiet (fail)
                    go_wp2
                    go_roundw
                    case rel => exact ⟨n + 1, false, rfl, by omega, by go_num, by first | exact HO | exact HO.move (fun _ _ _ => rfl), by first | exact HC | exact HC.trans (Chg.drewN _), HI⟩
                    case measure => simp [intOf]; omega
                  · have hne : (((gb : Nat) : Int) != ((ga : Nat) : Int)) = true := by rw [bne_iff_ne]; intro h; exact hab (by omega)
                    have HI := HIFF.out true (by rw [hne]; rfl)
                    replace HI := Lib.hid HI
                    clear HIFF hab
                    go_wp2_with fail
                    go_quiet (fail)
                    go_wp2
                    go_roundw
                    case rel => exact ⟨n + 1, true, rfl, by omega, by go_num, by first | exact HO | exact HO.move (fun _ _ _ => rfl), by first | exact HC | exact HC.trans (Chg.drewN _), Lib.hid ⟨fun _ => HI.out.1 trivial, fun _ => rfl⟩⟩
                    case measure => simp [intOf]; omega
                · have HI := HIFF.out true (by rw [Bool.true_or])
                  replace HI := Lib.hid HI
                  clear HIFF
                  go_wp2_with fail
                  go_quiet (fail)
                  go_wp2
                  go_roundw
                  case rel => exact ⟨n + 1, true, rfl, by omega, by go_num, by first | exact HO | exact HO.move (fun _ _ _ => rfl), by first | exact HC | exact HC.trans (Chg.drewN _), Lib.hid ⟨fun _ => HI.out.1 trivial, fun _ => rfl⟩⟩
                  case measure => simp [intOf]; omega
          · obtain rfl : N = k := by omega
            rw [tellTo_all] at HO
            have HBn := HC.to_below hB6o hB6o.size (fun q hq => by have hq : q = g2 := hq; omega)
            have HGn : Rp.Rd Rp.int wb (fun q => w.heap.size ≤ q) (.slice (some ⟨g2, 0, none⟩) N N) (gTL s D N (t + 1)) := (HO.mono (G := fun q => w.heap.size ≤ q) (fun q hq => by have hq : q = g2 := hq; omega)).rd
            have HGo := (HG7.move (HC.same (fun q hq h => by have hq := hq.2; have h : q = g2 := h; omega))).mono (G := fun q => w.heap.size ≤ q) (fun q hq => hq.1)
            have HBf := HC.to_below hB6 hB6.size (fun q hq => by have hq : q = g2 := hq; omega)
            cases ch
            · have hst : Hid (StopS N (sortD D) (usD s D) (rootD D) t) := Lib.hid (fun v hv => Classical.byContradiction fun hne => Bool.noConfusion (Hch.out.2 ⟨v, hv, hne⟩))
              clear Hch HO HC HGn HBn HG7 hD7 HCg6 b6
              go_wp2
              refine bodyPost_ret (v := .tuple #[.slice (some ⟨bg, og, none⟩) (gTL s D N t).length cg, .int .i64 (t : Nat)]) (by simp [results, Tryz.results102, go_sem]) rfl ?_
              exact ⟨_, t, rfl, HGo, ⟨hst.out, HNs.out⟩, HBf⟩
            · have hns : ¬ StopS N (sortD D) (usD s D) (rootD D) t := fun hst => by obtain ⟨v, hv, hne⟩ := Hch.out.1 rfl; exact hne (hst v hv)
              have hlt := hcst.out hns
              have HNs2 : Hid (∀ q, q < t + 1 → ¬ StopS N (sortD D) (usD s D) (rootD D) q) := Lib.hid (fun q hq => by
                rcases Nat.lt_or_eq_of_le (Nat.le_of_lt_succ hq) with h | rfl
                · exact HNs.out q h
                · exact hns)
              have hmeas : Hid (N - cntS N (sortD D) (usD s D) (rootD D) (t + 1) < N - cntS N (sortD D) (usD s D) (rootD D) t) := Lib.hid (by omega)
              have htc2 : t + 1 ≤ cntS N (sortD D) (usD s D) (rootD D) (t + 1) := by omega
              have htN2 : t + 1 ≤ N := by omega
              have t0 : (0 : Int) ≤ (t : Int) := Int.natCast_nonneg _
              clear Hch HO HC HGo HBf HG7 hD7 HCg6 b6 hns hlt hcst hcle
              go_wp2
              go_roundw
              case rel => exact ⟨t + 1, _, rfl, by go_num, HGn, htN2, htc2, HNs2, HBn⟩
              case measure => have := hmeas.out; simpa [intOf] using this
end Go.Proofs.YtnfaibenekninaaGreat.L

set_option linter.unusedVariables false
set_option linter.unusedSimpArgs false
namespace Go.Proofs.YtnfaibenekninaaGreat.L
open Go.RowKit
theorem firsts_nodup {κ : Type} [DecidableEq κ] (l : List κ) : (firsts l).Nodup := by
  have key : ∀ (l s : List κ), s.Nodup → (l.foldl addF s).Nodup := by
    intro l
    induction l with
    | nil => intro s h; exact h
    | cons x t ih =>
      intro s h
      rw [List.foldl_cons]
      refine ih _ ?_
      unfold addF
      split
      · exact h
      · rename_i hx
        exact List.nodup_append.2 ⟨h, by simp, fun a ha b hb he => by rw [List.mem_singleton.1 hb] at he; exact hx (he ▸ ha)⟩
  exact key l [] List.nodup_nil
/-- The place at which a thing has been found among the first n. -/
def atF (F : List Nat) (x n : Nat) : Int := if x ∈ F.take n then ((ixOn F x : Nat) : Int) else -1
theorem atF_hit {F : List Nat} {x n : Nat} (hn : n < F.length) (hd : F.Nodup) (h : F[n] = x) : atF F x (n + 1) = n := by
  unfold atF
  rw [if_pos (List.mem_take_iff_getElem.2 ⟨n, by omega, h⟩)]
  unfold ixOn
  rw [← h, List.Nodup.idxOf_getElem hd]
theorem atF_miss {F : List Nat} {x n : Nat} (hn : n < F.length) (h : F[n] ≠ x) : atF F x (n + 1) = atF F x n := by
  unfold atF
  have e : x ∈ F.take (n + 1) ↔ x ∈ F.take n := by
    rw [List.take_succ_eq_append_getElem hn, List.mem_append, List.mem_singleton]
    exact ⟨fun hh => hh.elim id (fun hh => absurd hh.symm h), .inl⟩
  simp only [e]
theorem atF_all_in {F : List Nat} {x : Nat} (h : x ∈ F) : atF F x F.length = ((ixOn F x : Nat) : Int) := by unfold atF; rw [List.take_length, if_pos h]
theorem atF_all_out {F : List Nat} {x : Nat} (h : x ∉ F) : atF F x F.length = -1 := by unfold atF; rw [List.take_length, if_neg h]
def intsN (l : List Nat) : List Int := l.map (fun n : Nat => (n : Int))
/-- The keys by which the reference numbers. -/
def keyN (s : Sa) (D : List Df) (N t : Nat) : List Nat := (List.range N).map (fun v => gT s D t (rootD D v))
theorem keyN_len (s : Sa) (D : List Df) (N t : Nat) : (keyN s D N t).length = N := by simp [keyN]
theorem keyN_get {s : Sa} {D : List Df} {N t v : Nat} (hv : v < N) (h : v < (keyN s D N t).length) : (keyN s D N t)[v] = gT s D t (rootD D v) := by simp [keyN]
theorem intsN_len (l : List Nat) : (intsN l).length = l.length := by simp [intsN]
theorem intsN_snoc (l : List Nat) (x : Nat) : intsN (l ++ [x]) = intsN l ++ [(x : Int)] := by simp [intsN]
/-- The two rows that grow by turns. -/
structure NSt (B : Nat) (vo vf : Value) (O F : List Int) (w : World) : Prop where
  ex : ∃ F1 F2 : Nat → Prop, (∀ q, F1 q → B ≤ q) ∧ (∀ q, F2 q → B ≤ q) ∧ (∀ q, F1 q → ¬ F2 q) ∧ Ow true 3 Rp.int w F1 vo O ∧ Ow true 3 Rp.int w F2 vf F
theorem NSt.below {B : Nat} {vo vf : Value} {O F : List Int} {w w' : World} (h : NSt B vo vf O F w) (hb : Below w.heap.size w w') : NSt B vo vf O F w' := by
  obtain ⟨F1, F2, a, b, c, d, e⟩ := h
  exact ⟨F1, F2, a, b, c, d.below hb, e.below hb⟩
set_option maxRecDepth 100000 in
set_option maxHeartbeats 8000000 in
theorem l11Numbered_calls {F : Nat → Prop} (s : Sa) (N : Nat) (vparts : Value) (w : World) (hs : Rp.Rd part w F vparts s.parts) (hg : GoodP s) (hx2 : ∀ p ∈ s.parts, PtLim p) (hNV : (N : Int) = s.values) :
    Calls Tryz.prog 55 #[saV s vparts] w fun e w' => ∃ (v' : Value) (t : Nat), e = .returned v' ∧ Rp.Rd Rp.int w' (fun q => w.heap.size ≤ q) v' (intsN (numL (keyN s (dfAll s) N t))) ∧ First (StopS N (sortD (dfAll s)) (usD s (dfAll s)) (rootD (dfAll s))) t ∧ Below w.heap.size w w' := by
  obtain ⟨rank, X⟩ := dctx hg hNV
  have hv1 := hg.v1
  have hv2 := hg.v2
  have hN0 : 0 < N := by omega
  have hN1 : N ≤ 250 := by omega
  have HDf := Lib.hid (fun W (hW : Below w.heap.size w W) => l11Defs_calls s N _ W (hs.below hW) hg hx2 hNV)
  have HGp := Lib.hid (fun W (hW : Below w.heap.size w W) => l11Groups_calls s N _ W (hs.below hW) hg hx2 hNV)
  have HRt := Lib.hid (fun vD v W F1 (hD : Rp.Rd dfK W F1 vD (dfAll s)) (hv : v < N) => l11Root_calls (dfAll s) N rank X.rk X.ln hN1 vD v W hD hv)
  have hrl := Lib.hid (fun v (hv : v < N) => (rootD_lt X.rk hv).1)
  obtain ⟨A, c, rfl, _, _, _⟩ := id hs
  have hB0 : Below w.heap.size w (w.alloc (.cells #[.slice A s.parts.length c, .int .i64 s.values] 28)) := below_new _
  have b0 := heap_alloc_new w (.cells #[.slice A s.parts.length c, .int .i64 s.values] 28)
  obtain ⟨D, hD⟩ : ∃ D, D = dfAll s := ⟨_, rfl⟩
  rw [← hD] at HDf HGp HRt hrl ⊢
  clear hD X hg hx2 hs
  unfold saV at HDf HGp ⊢
  replace hNV := Lib.hid hNV
  go_enter Tryz.func55, Tryz.ntmps55
  go_wp2_with fail
  refine (HGp.out _ hB0).mono ?_
  rintro e w1 ⟨vG, t, rfl, hvG, hst, hb1⟩
  have hB1 := below_then hB0 hb1
  have b1 := blk_below b0 hb1
  replace hst := Lib.hid hst
  obtain ⟨x1, _⟩ := cell_of_block b1
  have x10 : w1.cell? ⟨w.heap.size, 0, none⟩ = some (.slice A s.parts.length c) := (x1 0).trans rfl
  have x11 : w1.cell? ⟨w.heap.size, 1, none⟩ = some (.int .i64 s.values) := (x1 1).trans rfl
  clear x1 hb1 b0 hB0 HGp
  have hlg := gTL_len s D N t
  obtain ⟨AG, cG, rfl, _, _, hrG⟩ := rd_int hvG
  have hlg1 : (gTL s D N t).length ≤ N := by omega
  have hlg2 : N ≤ (gTL s D N t).length := by omega
  replace hlg := Lib.hid hlg
  rcases hrG with hn | ⟨bG, oG, rfl, hbG, hcG⟩
  · rw [hn] at hlg2; simp at hlg2; omega
  have HcG := Lib.hid hcG
  clear hcG
  go_wp2_with fail
  refine (HDf.out _ hB1).mono ?_
  rintro e w2 ⟨vD, rfl, hvD, hb2⟩
  have hB2 := below_then hB1 hb2
  have HcG2 : Hid (∀ k (hk : k < (gTL s D N t).length), w2.cell? ⟨bG, oG + k, none⟩ = some (.int .i64 (gTL s D N t)[k])) := Lib.hid (fun k hk => cell_below hb2 (HcG.out k hk))
  obtain ⟨AD, cD, rfl, _, _, _⟩ := id hvD
  have hKl := keyN_len s D N t
  have HKg := Lib.hid (fun v (hv : v < N) h => keyN_get (s := s) (D := D) (t := t) hv h)
  have HGg := Lib.hid (fun v (hv : v < N) h => gTL_get (s := s) (D := D) (t := t) hv h)
  have HSt0 : NSt w2.heap.size (.slice none 0 0) (.slice none 0 0) ((keyN s D N t).take 0 |>.map (fun x => ((ixOn (firsts (keyN s D N t)) x : Nat) : Int))) (intsN (firsts ((keyN s D N t).take 0))) w2 := ⟨fun _ => False, fun _ => False, fun _ h => h.elim, fun _ h => h.elim, fun _ h => h.elim, by simpa using Ow.nil _ _ _ _ _, by simpa [intsN, firsts] using Ow.nil _ _ _ _ _⟩
  have hall : Hid ((keyN s D N t).map (fun x => ((ixOn (firsts (keyN s D N t)) x : Nat) : Int)) = intsN (numL (keyN s D N t))) := Lib.hid (by unfold intsN numL; rw [List.map_map]; rfl)
  have HS1 := Lib.hid (fun i (hi : i < (keyN s D N t).length) => take_snoc hi)
  have HS2 := Lib.hid (fun i (hi : i < (keyN s D N t).length) h => idx_old hi h)
  have HS3 := Lib.hid (fun i (hi : i < (keyN s D N t).length) h => idx_new hi h)
  obtain ⟨K, hK⟩ : ∃ K, K = keyN s D N t := ⟨_, rfl⟩
  rw [← hK] at hKl HKg HSt0 hall HS1 HS2 HS3
  have hKe := Lib.hid hK
  clear hK hvG HcG b1 x10 x11 hb2 HDf hB1
  have hK1 : K.length ≤ N := by omega
  have hK2 : N ≤ K.length := by omega
  clear hKl
  obtain ⟨FK, hFK⟩ : ∃ FK, FK = firsts K := ⟨_, rfl⟩
  go_wp2_with fail
  go_loopw [6, 7, 22] (fun ov fv i wr => ∃ (k : Nat) (vo vf : Value), vo = ov ∧ vf = fv ∧ k ≤ N ∧ i = .int .i64 k ∧ NSt w2.heap.size vo vf ((K.take k).map (fun x => ((ixOn (firsts K) x : Nat) : Int))) (intsN (firsts (K.take k))) wr ∧ Below w2.heap.size w2 wr) (fun _ _ i _ => N - (intOf i).toNat)
  case atStart => exact ⟨0, _, _, rfl, rfl, Nat.zero_le _, rfl, HSt0, Below.refl _ _⟩
  case round =>
    clear HSt0
    obtain ⟨k, vo, vf, rfl, rfl, hk, rfl, HS, HB⟩ := hrel
    rename World => wo
    by_cases hkt : k < N
    · have k0 : (0 : Int) ≤ (k : Int) := Int.natCast_nonneg _
      have k1 : (k : Int) < ((gTL s D N t).length : Int) := by omega
      have hkK : k < K.length := by omega
      have hDo := hvD.below HB
      have hRo := Lib.hid (HRt.out _ k wo _ hDo hkt)
      have hrk := hrl.out k hkt
      have cr := cell_below HB (HcG2.out (rootD D k) (by omega))
      rw [HGg.out _ hrk] at cr
      have ek := HKg.out k hkt hkK
      rw [← ek] at cr
      have hs1 := Lib.hid (HS1.out k hkK)
      have hs2 := Lib.hid (HS2.out k hkK)
      have hs3 := Lib.hid (HS3.out k hkK)
      have hTk : Hid ((K.take (k + 1)).map (fun x => ((ixOn (firsts K) x : Nat) : Int)) = (K.take k).map (fun x => ((ixOn (firsts K) x : Nat) : Int)) ++ [((ixOn (firsts K) K[k] : Nat) : Int)]) := Lib.hid (by rw [List.take_succ_eq_append_getElem hkK, List.map_append]; rfl)
      have hnd := Lib.hid (firsts_nodup (K.take k))
      have hSl : (firsts (K.take k)).length ≤ k := Nat.le_trans (firsts_len _) (by simp; omega)
      have hOl : ((K.take k).map (fun x => ((ixOn (firsts K) x : Nat) : Int))).length ≤ k := by simp; omega
      clear ek
      obtain ⟨x, hx⟩ : ∃ x, x = K[k] := ⟨_, rfl⟩
      rw [← hx] at cr hs1 hs2 hs3 hTk
      clear hx
      obtain ⟨S, hS⟩ : ∃ S, S = firsts (K.take k) := ⟨_, rfl⟩
      rw [← hS] at HS hs1 hs2 hs3 hnd hSl
      clear hS
      obtain ⟨ix, hix⟩ : ∃ ix, ix = ixOn (firsts K) x := ⟨_, rfl⟩
      rw [← hix] at hs2 hs3 hTk
      clear hix
      obtain ⟨O, hO⟩ : ∃ O, O = (K.take k).map (fun x => ((ixOn (firsts K) x : Nat) : Int)) := ⟨_, rfl⟩
      rw [← hO] at HS hTk hOl
      clear hO
      have r0 : (0 : Int) ≤ (rootD D k : Int) := Int.natCast_nonneg _
      have r1 : (rootD D k : Int) < ((gTL s D N t).length : Int) := by omega
      obtain ⟨F1, F2, hf1, hf2, hf3, HO1, HO2⟩ := HS
      obtain ⟨Ao, ko, rfl, _, _⟩ := HO1.form
      have HO2k := HO2
      obtain ⟨Af, kf, hvfe, _, _, hrf⟩ := rd_int HO2.rd
      rw [intsN_len] at hvfe
      subst hvfe
      go_wp2_with fail
      refine hRo.out.mono ?_
      rintro e w3 ⟨rfl, rfl⟩
      go_wp2_with fail
      have hDx := hvD
      clear hRo hDo
      go_loopw [10, 33] (fun av i wr => ∃ n : Nat, n ≤ S.length ∧ i = .int .i64 n ∧ av = .int .i64 (atF S x n) ∧ wr = wo) (fun _ i _ => S.length - (intOf i).toNat)
      case atStart => exact ⟨0, Nat.zero_le _, rfl, by simp [atF], rfl⟩
      case round =>
        obtain ⟨n, hn, rfl, rfl, rfl⟩ := hrel
        rename World => wo
        by_cases hnt : n < S.length
        · rcases hrf with hn0 | ⟨bf, of, rfl, hbf, hcf⟩
          · have := congrArg List.length hn0
            rw [intsN_len, List.length_nil] at this
            omega
          have cf := hcf n (by rw [intsN_len]; exact hnt)
          have ef : (intsN S)[n]'(by rw [intsN_len]; exact hnt) = ((S[n] : Nat) : Int) := by simp [intsN]
          rw [ef] at cf
          have hh := Lib.hid (fun h => atF_hit hnt hnd.out (x := x) h)
          have hm := Lib.hid (fun h => atF_miss hnt (x := x) h)
          clear hcf ef
          obtain ⟨y, hy⟩ : ∃ y, y = S[n] := ⟨_, rfl⟩
          rw [← hy] at cf hh hm
          clear hy
          have n0 : (0 : Int) ≤ (n : Int) := Int.natCast_nonneg _
          have n1 : (n : Int) < (S.length : Int) := by omega
          obtain ⟨a, ha⟩ : ∃ a, a = atF S x n := ⟨_, rfl⟩
          rw [← ha] at hm ⊢
          clear ha
          by_cases hyx : y = x
          · have h1 := Lib.hid (hh.out hyx)
            subst hyx
            clear hh hm
            go_wp2
            go_roundw
            case rel => exact ⟨n + 1, by omega, by go_num, by rw [h1.out], trivial⟩
            case measure => simp [intOf]; omega
          · have h1 := Lib.hid (hm.out hyx)
            have hne : (((y : Nat) : Int) == ((x : Nat) : Int)) = false := by
              rw [beq_eq_false_iff_ne]
              intro h
              have h2 := congrArg Int.toNat h
              rw [Int.toNat_natCast, Int.toNat_natCast] at h2
              exact hyx h2
            clear hh hm hyx
            go_wp2
            go_roundw
            case rel => exact ⟨n + 1, by omega, by go_num, by rw [h1.out], trivial⟩
            case measure => simp [intOf]; omega
        · obtain rfl : S.length = n := by omega
          by_cases hin : x ∈ S
          · have hat := atF_all_in hin
            have hiv := hs2.out hin
            have hsS : Hid (firsts (K.take (k + 1)) = S) := Lib.hid (by rw [hs1.out, addF, if_pos hin])
            rw [hat]
            rw [← hiv]
            clear hat hiv hs2 hs3 hs1 hin
            have i0 : (0 : Int) ≤ (ix : Int) := Int.natCast_nonneg _
            have hbn := below_new (w := wo) (.cells #[.int .i64 (ix : Int)] 3)
            go_wp2_with (at_builtin; (refine app_int (by rfl) _ _ (by rfl) (.slice Ao O.length ko) O (ix : Int) wo.heap.size rfl (by rfl) (by rfl) HO1 (by omega) ?_; intro A' c' w5 HO5 hg5))
            have hb5 : Below w2.heap.size w2 w5 := below_grown HB hg5 (fun q hq => hf1 q (own_in HO1 (.inr hq))) HB.size
            have HO6 := HO2.of_grown hg5 (fun q hq h => hf3 q (own_in HO1 (.inr hq)) h)
            have HSn : NSt w2.heap.size (.slice A' (O.length + 1) c') (.slice Af S.length kf) (O ++ [(ix : Int)]) (intsN S) w5 := ⟨fun q => F1 q ∨ wo.heap.size ≤ q, fun q => F2 q ∧ q < wo.heap.size, fun q hq => hq.elim (hf1 q) (fun h => Nat.le_trans HB.size h), fun q hq => hf2 q hq.1, fun q hq h => hq.elim (fun h1 => hf3 q h1 h.1) (fun h1 => by have := h.2; omega), HO5, (HO2.bound).of_grown hg5 (fun q hq h => hf3 q (own_in HO1 (.inr hq)) h.1)⟩
            clear HO1 HO2 HO5 HO6 hg5 HB HO2k
            go_roundw
            case rel => exact ⟨k + 1, _, _, rfl, rfl, by omega, by go_num, by rw [hTk.out, hsS.out]; exact HSn, hb5⟩
            case measure => simp [intOf]; omega
          · have hat := atF_all_out hin
            have hiv := hs3.out hin
            have hsS : Hid (firsts (K.take (k + 1)) = S ++ [x]) := Lib.hid (by rw [hs1.out, addF, if_neg hin])
            rw [hat]
            subst hiv
            clear hat hs2 hs3 hs1 hin
            have hlS := intsN_len S
            have hbn := below_new (w := wo) (.cells #[.int .i64 (x : Int)] 3)
            have htok : True := trivial
            go_wp2_with (first | (at_builtin; have _t := htok; (refine app_int (by rfl) _ _ (by rfl) (.slice Af S.length kf) (intsN S) (x : Int) wo.heap.size rfl (by rfl) (by rfl) HO2 (by omega) ?_; intro A' c' w5 HO5 hg5; clear htok; have hb5 : Below w2.heap.size w2 w5 := below_grown HB hg5 (fun q hq => hf2 q (own_in HO2 (.inr hq))) HB.size; have HO6 := (HO1.bound).of_grown hg5 (fun q hq h => hf3 q h.1 (own_in HO2 (.inr hq))); have hs5 := hg5.size; have hbn5 := below_new (w := w5) (.cells #[.int .i64 (S.length : Nat)] 3))) | (at_builtin; (refine app_int (by rfl) _ _ (by rfl) (.slice Ao O.length ko) O (S.length : Nat) w5.heap.size rfl (by rfl) (by rfl) HO6 (by omega) ?_; intro A2 c2 w6 HO7 hg6)))
            rw [intsN_len] at HO5
            have hb6 : Below w2.heap.size w2 w6 := below_grown hb5 hg6 (fun q hq => hf1 q (own_in HO6 (.inr hq)).1) hb5.size
            have HSn : NSt w2.heap.size (.slice A2 (O.length + 1) c2) (.slice A' (S.length + 1) c') (O ++ [((S.length : Nat) : Int)]) (intsN S ++ [(x : Int)]) w6 := ⟨fun q => (F1 q ∧ q < wo.heap.size) ∨ w5.heap.size ≤ q, fun q => (F2 q ∨ wo.heap.size ≤ q) ∧ q < w5.heap.size, fun q hq => hq.elim (fun h => hf1 q h.1) (fun h => Nat.le_trans hb5.size h), fun q hq => hq.1.elim (hf2 q) (fun h => Nat.le_trans HB.size h), fun q hq h => hq.elim (fun h1 => h.1.elim (fun h2 => hf3 q h1.1 h2) (fun h2 => by have := h1.2; omega)) (fun h1 => by have := h.2; omega), HO7,
              (HO5.bound).of_grown hg6 (fun q hq h => h.1.elim (fun h2 => hf3 q (own_in HO6 (.inr hq)).1 h2) (fun h2 => by have := (own_in HO6 (.inr hq)).2; omega))⟩
            clear HO1 HO2 HO5 HO6 HO7 hg5 hg6 HB HO2k
            go_roundw
            case rel => exact ⟨k + 1, _, _, rfl, rfl, by omega, by go_num, by rw [hTk.out, hsS.out, intsN_snoc]; exact HSn, hb6⟩
            case measure => simp [intOf]; omega
    · obtain rfl : N = k := by omega
      obtain ⟨F1, F2, hf1, hf2, hf3, HO1, HO2⟩ := HS
      rw [List.take_of_length_le hK1, hall.out, hKe.out] at HO1
      have hBf := below_then hB2 HB
      have hs2 := hB2.size
      clear HO2
      go_wp2
      go_ret
      exact ⟨_, t, rfl, (HO1.mono (G := fun q => w.heap.size ≤ q) (fun q hq => Nat.le_trans hs2 (hf1 q hq))).rd, hst.out, hBf⟩
end Go.Proofs.YtnfaibenekninaaGreat.L
