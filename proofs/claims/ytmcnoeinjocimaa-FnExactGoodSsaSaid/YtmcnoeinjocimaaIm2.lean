/- The program: what is come to from a node. -/
import Derived.Test.YtmcnoeinjocimaaRch2
import Derived.Test.YtmcnoeinjocimaaQu1
import Derived.Test.YtmcnoeinjocimaaCn2
import Derived.Test.YtmcnoeinjocimaaCv4
import Derived.Deep.LoopGhost
set_option linter.unusedVariables false
set_option linter.unusedSimpArgs false
set_option pp.deepTerms true
set_option pp.deepTerms.threshold 100000
namespace Go.Proofs.Ytmcnoeinjocimaa.L
open Go.RowKit
theorem infoBool : (Try.prog.info? 4).map (fun i => (i.zero, i.size, i.bytes)) = some (some (.bool false), 1, 1) := by kernel_rfl
theorem bool_at {ap : Bool} {e g n c : Nat} {w : World} {F : Nat → Prop} {l : List Bool} (h : Ow ap e Rp.bool w F (.slice (some ⟨g, 0, none⟩) n c) l) {k : Nat} (hk : k < l.length) :
    w.cell? ⟨g, k, none⟩ = some (.bool l[k]) ∧ w.frozen? ⟨g, k, none⟩ = false := h.lit_at (List.getElem?_eq_getElem hk)
set_option maxHeartbeats 4000000 in
theorem reach_calls {F G : Nat → Prop} (next : List (List Int)) (v vb : Value) (frm : Int) (but : List Int) (w : World) (h : Rp.Rd (Rp.sl Rp.int) w F v next) (hbt : Rp.Rd Rp.int w G vb but) (hf0 : 0 ≤ frm) (hf1 : frm < next.length) (hm : next.length ≤ 1048576) (hr : InR next) :
    Calls Try.prog 83 #[v, .int .i64 frm, vb] w fun e w' => ∃ v' B, e = .returned v' ∧ Ow true 4 Rp.bool w' (fun k => w.heap.size ≤ k) v' B ∧ Below w.heap.size w w' ∧ Hid (B.length = next.length ∧ ∀ x, On B x ↔ Rch next (fun x => x ∉ but) frm x) := by
  replace h := h.bound
  replace hbt := hbt.bound
  have hmk := mk_all Try.underlying90 infoBool next.length (by omega) (by omega)
  have hO := ow_alloc1 (e := 4) (n := next.length) (r := Rp.bool) (z := .bool false) (x0 := false) w (by omega) rfl (fun w => rfl)
  have hO := hO.bound
  have hB := below_new (w := w) (.cells (madeCells #[.bool false] next.length) 4)
  have ⟨A, c, he, hlc, hcm, _⟩ := h
  subst he
  have ⟨A1, c1, he1, _⟩ := hbt
  subst he1
  obtain ⟨n0, rfl⟩ := Int.eq_ofNat_of_zero_le hf0
  have hn0 : n0 < next.length := by omega
  have HR := Lib.hid hr
  clear hr
  have hzs : (w.alloc (.cells (madeCells #[.bool false] next.length) 4)).heap.size = w.heap.size + 1 := by simp
  have hC := containsInt_calls _ but (n0 : Int) (w.alloc (.cells (madeCells #[.bool false] next.length) 4)) (hbt.below hB)
  by_cases hfb : (n0 : Int) ∈ but
  · have hc : but.contains (n0 : Int) = true := by simpa using hfb
    rw [hc] at hC
    have HN : Hid ((List.replicate next.length false).length = next.length ∧ ∀ x, On (List.replicate next.length false) x ↔ Rch next (fun x => x ∉ but) (n0 : Int) x) := Lib.hid ⟨List.length_replicate, fun x => reach_none hfb x⟩
    clear hc hfb
    have HO := Lib.hid hO
    clear hO hzs
    go_enter Try.func83, Try.ntmps83
    go_wp2_with fail
    refine hC.mono ?_
    clear hC
    rintro e w1 ⟨rfl, rfl⟩
    go_wp2
    go_ret
    exact ⟨_, _, rfl, HO.out.mono (fun q hq => hq.1), hB, HN⟩
  have hc : but.contains (n0 : Int) = false := by simpa using hfb
  rw [hc] at hC
  have HI := Lib.hid (RInv.start hn0 hfb)
  clear hc hfb
  have hn0' : n0 < (List.replicate next.length false).length := by rw [List.length_replicate]; exact hn0
  have cz := bool_at hO hn0'
  rw [List.getElem_replicate] at cz
  have cz := bool_at hO hn0'
  rw [List.getElem_replicate] at cz
  have cz := bool_at hO hn0'
  rw [List.getElem_replicate] at cz
  have cz := bool_at hO hn0'
  rw [List.getElem_replicate] at cz
  have cz := bool_at hO hn0'
  rw [List.getElem_replicate] at cz
  have hO := (hO.set1 rfl hn0' (y := true) (u := .bool true) rfl).mono (G := fun q => q = w.heap.size) (fun q hq => by have h1 := hq.1; have h2 := hq.2; rw [hzs] at h2; omega)
  go_enter Try.func83, Try.ntmps83
  go_wp2_with fail
  refine hC.mono ?_
  clear hC
  rintro e w1 ⟨rfl, rfl⟩
  generalize w.alloc (.cells (madeCells #[.bool false] next.length) 4) = W1 at *
  have hQ := qu_lit (W1.setCell ⟨w.heap.size, n0, none⟩ (.bool true)) n0
  have hO2 := hO.below (below_new (.cells #[.int .i64 (n0 : Int)] 3))
  have hB2 : Below w.heap.size w ((W1.setCell ⟨w.heap.size, n0, none⟩ (.bool true)).alloc (.cells #[.int .i64 (n0 : Int)] 3)) := (hB.setCell (by simp) _).alloc (by simp; omega) _
  have hws : w.heap.size + 1 ≤ (W1.setCell ⟨w.heap.size, n0, none⟩ (.bool true)).heap.size := by simp; omega
  have hQ := hQ.mono (G := fun q => w.heap.size + 1 ≤ q) (fun q hq => by omega)
  have hcs : (W1.setCell ⟨w.heap.size, n0, none⟩ (.bool true)).heap.size = w.heap.size + 1 := by simp; omega
  rw [hcs] at hQ
  obtain ⟨cz1, cz2⟩ := cz
  clear hO hcs hws
  replace hzs := Lib.hid hzs
  have i0 : (0 : Int) ≤ (n0 : Int) := Int.natCast_nonneg _
  have HS := Lib.hid (show (W1.setCell ⟨w.heap.size, n0, none⟩ (.bool true)).heap.size = w.heap.size + 1 by simp; exact hzs.out)
  replace hQ := Lib.hid hQ
  replace hO2 := Lib.hid hO2
  replace hB2 := Lib.hid hB2
  go_wp2
  rw [hzs.out]
  obtain ⟨gk0, hgk0⟩ : ∃ gk0, gk0 = 2 * ((List.replicate next.length false).set n0 true).count false + 1 := ⟨_, rfl⟩
  have hgk1 : gk0 ≤ 2097153 := by
    have h1 := List.count_le_length (a := false) (l := (List.replicate next.length false).set n0 true)
    rw [List.length_set, List.length_replicate] at h1
    omega
  go_loopg [8] gk0 (fun k tv wr => ∃ (Q : List Int) (B : List Bool), Qu wr (fun q => w.heap.size + 1 ≤ q) tv Q ∧ Ow true 4 Rp.bool wr (fun q => q = w.heap.size) (.slice (some ⟨w.heap.size, 0, none⟩) next.length next.length) B ∧ Below w.heap.size w wr ∧ w.heap.size < wr.heap.size ∧ k ≤ 2097153 ∧ Hid (RInv next but (n0 : Int) B Q ∧ 2 * B.count false + Q.length ≤ k))
  case atStart => exact ⟨_, _, hQ.out, hO2.out, hB2.out, by have := hzs.out; simp; omega, hgk1, Lib.hid ⟨HI.out, by rw [hgk0]; simp⟩⟩
  case round =>
    clear hQ hO2 hB2 HI cz1 cz2 hzs HS hB hgk0
    obtain ⟨Q, B, HQ, HO, HB, hz, hgk, HI⟩ := hrel
    cases Q with
    | nil =>
      have HN : Hid (B.length = next.length ∧ ∀ x, On B x ↔ Rch next (fun x => x ∉ but) (n0 : Int) x) := Lib.hid ⟨HI.out.1.len, HI.out.1.done⟩
      obtain ⟨g, o, c, rfl, _⟩ := HQ.form
      simp only [List.length_nil]
      go_wp2
      go_ret
      exact ⟨_, B, rfl, HO.mono (fun q hq => by omega), HB, HN⟩
    | cons x0 t =>
      obtain ⟨g, o, c2, rfl, hg, hgl, hkc, hkm, hcell⟩ := HQ.form
      have c0 := hcell 0 (by simp)
      simp only [List.getElem_cons_zero, Nat.add_zero, List.length_cons] at c0 hkc ⊢
      have hon := HI.out.1.q x0 (by simp)
      have hrx := (HI.out.1.rch x0 hon).range ⟨by omega, by omega⟩ HR.out
      obtain ⟨n1, hn1⟩ := Int.eq_ofNat_of_zero_le hrx.1
      have hn1l : n1 < next.length := by omega
      have hne : next ≠ [] := by intro e; rw [e] at hn0; simp at hn0
      have HO0 := h
      obtain ⟨_, _, hAe, _, _, hnr⟩ := rd_ints h
      cases hAe
      rcases hnr with hnil | ⟨b, o2, rfl, hb, hcn⟩
      · exact absurd hnil hne
      obtain ⟨u, cu, hu⟩ := hcn n1 hn1l
      have cu := cell_below HB cu
      have hnx : Hid (next[x0.toNat]? = some next[n1]) := Lib.hid (by rw [hn1]; exact List.getElem?_eq_getElem hn1l)
      have HON : Hid (On B x0) := Lib.hid hon
      rw [hn1] at c0
      have HX0 := Lib.hid hn1
      clear hcn hcell hrx hn1 hon hne
      generalize next[n1] = l0 at *
      have ⟨Au, ku, hue, _⟩ := hu
      subst hue
      have i1 : (0 : Int) ≤ (n1 : Int) := Int.natCast_nonneg _
      have i2 : (n1 : Int) < (next.length : Int) := by omega
      have i3 : (0 : Int) < ((t.length : Int) + 1) := by omega
      have i4 : (0 : Int) < ((t.length + 1 : Nat) : Int) := by omega
      have HJ0 : Hid (RInv next but (n0 : Int) B (x0 :: t) ∧ (∀ y ∈ l0.take 0, y ∉ but → On B y) ∧ 2 * B.count false + (x0 :: t).length ≤ gk) := Lib.hid ⟨HI.out.1, fun y hy => by simp at hy, HI.out.2⟩
      go_wp2
      go_loopw [8, 35] (fun tv i wr => ∃ (j : Nat) (t' : List Int) (B' : List Bool), j ≤ l0.length ∧ i = .int .i64 j ∧ Qu wr (fun q => w.heap.size + 1 ≤ q) tv (x0 :: t') ∧ Ow true 4 Rp.bool wr (fun q => q = w.heap.size) (.slice (some ⟨w.heap.size, 0, none⟩) next.length next.length) B' ∧ Below w.heap.size w wr ∧ w.heap.size < wr.heap.size ∧ Hid (RInv next but (n0 : Int) B' (x0 :: t') ∧ (∀ y ∈ l0.take j, y ∉ but → On B' y) ∧ 2 * B'.count false + (x0 :: t').length ≤ gk)) (fun _ i _ => l0.length - (intOf i).toNat)
      case atStart => exact ⟨0, t, B, Nat.zero_le _, rfl, HQ, HO, HB, hz, HJ0⟩
      case round =>
        clear HJ0 HQ HO HB hz HI HON hgl c0 cu
        obtain ⟨j, t', B', hj, rfl, HQ, HO, HB, hz, HJ⟩ := hrel
        obtain ⟨g', o', c', rfl, hg', hgl', hkc', hkm', hcell'⟩ := HQ.form
        simp only [List.length_cons] at hkc' ⊢
        by_cases hjt : j < l0.length
        · obtain ⟨_, _, hAe, _, _, hur⟩ := rd_int (hu.below HB)
          cases hAe
          rcases hur with hnil | ⟨b3, o3, rfl, hb3, hc3⟩
          · rw [hnil] at hjt; simp at hjt
          have c3 := hc3 j hjt
          have hyr := HR.out l0 (List.mem_of_getElem? hnx.out) _ (List.getElem_mem hjt)
          obtain ⟨m, hm'⟩ := Int.eq_ofNat_of_zero_le hyr.1
          have hml : m < next.length := by omega
          have hmB : m < B'.length := by rw [HJ.out.1.len]; exact hml
          rw [hm'] at c3
          have hmem : (m : Int) ∈ l0 := by rw [← hm']; exact List.getElem_mem hjt
          have HST : Hid (l0.take (j + 1) = l0.take j ++ [(m : Int)]) := Lib.hid (by rw [← hm']; exact List.take_succ_eq_append_getElem hjt)
          clear hc3 hyr hm' hcell'
          have fB := bool_at HO hmB
          have HOs := HO.set1 rfl hmB (y := true) (u := .bool true) rfl
          have HCn := fun (W : World) (hW : Below wr.heap.size wr W) => containsInt_calls _ but (m : Int) W (hbt.below (below_then HB hW))
          have HXn : Hid (On B' (m : Int) → RInv next but (n0 : Int) B' (x0 :: t') ∧ (∀ y ∈ l0.take (j + 1), y ∉ but → On B' y) ∧ 2 * B'.count false + (x0 :: t').length ≤ gk) := Lib.hid (fun hy => ⟨HJ.out.1, fun y hy' hyb => by
            rw [HST.out] at hy'
            rcases List.mem_append.1 hy' with hy' | hy'
            · exact HJ.out.2.1 y hy' hyb
            · rw [List.mem_singleton.1 hy']; exact hy, HJ.out.2.2⟩)
          have HXb : Hid ((m : Int) ∈ but → RInv next but (n0 : Int) B' (x0 :: t') ∧ (∀ y ∈ l0.take (j + 1), y ∉ but → On B' y) ∧ 2 * B'.count false + (x0 :: t').length ≤ gk) := Lib.hid (fun hmb => ⟨HJ.out.1, fun y hy' hyb => by
            rw [HST.out] at hy'
            rcases List.mem_append.1 hy' with hy' | hy'
            · exact HJ.out.2.1 y hy' hyb
            · rw [List.mem_singleton.1 hy'] at hyb; exact absurd hmb hyb, HJ.out.2.2⟩)
          have HXp : Hid (B'[m] = false → (m : Int) ∉ but → RInv next but (n0 : Int) (B'.set m true) (x0 :: (t' ++ [(m : Int)])) ∧ (∀ y ∈ l0.take (j + 1), y ∉ but → On (B'.set m true) y) ∧ 2 * (B'.set m true).count false + (x0 :: (t' ++ [(m : Int)])).length ≤ gk) := Lib.hid (fun hB hmb => by
            refine ⟨HJ.out.1.push (Q := x0 :: t') (HJ.out.1.q x0 (by simp)) hnx.out hmB hmem hmb, fun y hy' hyb => ?_, ?_⟩
            · rw [HST.out] at hy'
              rcases List.mem_append.1 hy' with hy' | hy'
              · exact (HJ.out.2.1 y hy' hyb).set m
              · rw [List.mem_singleton.1 hy']; exact On.at_ hmB
            · have h1 := count_flip hmB hB
              have h2 := HJ.out.2.2
              simp only [List.length_cons, List.length_append, List.length_nil] at h2 ⊢
              omega)
          have HONB := Lib.hid (on_iff hmB)
          clear HJ HST
          have j0 : (0 : Int) ≤ (j : Int) := Int.natCast_nonneg _
          have j1 : (j : Int) < (l0.length : Int) := by omega
          have j2 : (0 : Int) ≤ (m : Int) := Int.natCast_nonneg _
          have j3 : (m : Int) < (next.length : Int) := by omega
          obtain ⟨fB1, fB2⟩ := fB
          generalize hbm : B'[m] = bm at *
          cases bm
          · have HXp := Lib.hid (HXp.out rfl)
            clear hbm HXn HONB
            by_cases hmb : (m : Int) ∈ but
            · have hmc : but.contains (m : Int) = true := by simpa using hmb
              have HCn := fun W hW => (hmc ▸ HCn W hW : Calls Try.prog 117 #[.slice A1 but.length c1, .int .i64 m] W fun e w' => e = .returned (.bool true) ∧ w' = W)
              have HF := Lib.hid (HXb.out hmb)
              clear hmb hmc HXb HXp HOs
              replace HCn := Lib.hid HCn
              go_wp2_with (go_at_call 117; refine (HCn.out _ (Below.refl _ _)).mono ?_; rintro e w2 ⟨rfl, rfl⟩)
              go_roundw
              case rel => exact ⟨j + 1, t', B', by omega, by go_num, HQ, HO, HB, hz, HF⟩
              case measure => simp [intOf]; omega
            · have hmc : but.contains (m : Int) = false := by simpa using hmb
              have HCn := fun W hW => (hmc ▸ HCn W hW : Calls Try.prog 117 #[.slice A1 but.length c1, .int .i64 m] W fun e w' => e = .returned (.bool false) ∧ w' = W)
              have HF := Lib.hid (HXp.out hmb)
              clear hmb hmc HXb HXp
              replace HCn := Lib.hid HCn
              have HQs := HQ.set_other (b := w.heap.size) (o := m) (u := .bool true) (by omega)
              have HBs : Below w.heap.size w (wr.setCell ⟨w.heap.size, m, none⟩ (.bool true)) := HB.setCell (by simp) _
              have hnl : (x0 :: t').length + 1 ≤ 1000000000 := by
                have h1 := HF.out.2.2
                simp only [List.length_cons, List.length_append, List.length_nil] at h1 ⊢
                omega
              have HOs := Lib.hid HOs
              have HLn := Lib.hid hnl
              clear hnl HO
              go_wp2_with (first | (go_at_call 117; refine (HCn.out _ (Below.refl _ _)).mono ?_; rintro e w2 ⟨rfl, rfl⟩) | (at_builtin; (refine app_qu (by rfl) _ _ (by rfl) (.slice (some ⟨g', o', none⟩) (t'.length + 1) c') (x0 :: t') m w2.heap.size (by simp) (by rfl) (by rfl) HQs HLn.out ?_; intro A' cA w1 HQ3 hg1; have HO3 := HOs.out.move (fun q hq hlt => hg1.block q hlt (fun he => by simp [Value.ownBlock] at he; omega)); have HB3 := below_grown HBs hg1 (fun q hq => by simp [Value.ownBlock] at hq; omega) HBs.size; have hz3 := hg1.size; simp at hz3)))
              go_roundw
              case rel => exact ⟨j + 1, t' ++ [(m : Int)], _, by omega, by go_num, HQ3.mono (fun q hq => by simp at hq; omega), HO3, HB3, by omega, HF⟩
              case measure => simp [intOf]; omega
          · have HF := Lib.hid (HXn.out (HONB.out.2 rfl))
            clear hbm HXn HONB HXp HXb HCn HOs
            go_wp2
            go_roundw
            case rel => exact ⟨j + 1, t', B', by omega, by go_num, HQ, HO, HB, hz, HF⟩
            case measure => simp [intOf]; omega
        · obtain rfl : j = l0.length := by omega
          have HP := HQ.pop
          have HF : Hid (RInv next but (n0 : Int) B' t' ∧ 2 * B'.count false + t'.length ≤ gk - 1 ∧ gk - 1 < gk) := Lib.hid (by
            have h1 := HJ.out
            rw [List.take_length] at h1
            refine ⟨h1.1.pop hnx.out h1.2.1, ?_, ?_⟩
            · have := h1.2.2; simp only [List.length_cons] at this; omega
            · have := h1.2.2; simp only [List.length_cons] at this; omega)
          clear HJ HQ hcell'
          by_cases hc1 : c' = 1
          · rw [if_pos hc1] at HP
            subst hc1
            obtain rfl : t' = [] := List.eq_nil_of_length_eq_zero (by omega)
            go_wp2
            go_roundg (gk - 1)
            case measure => exact HF.out.2.2
            case rel => exact ⟨[], B', HP, HO, HB, hz, by omega, Lib.hid ⟨HF.out.1, HF.out.2.1⟩⟩
          · rw [if_neg hc1] at HP
            have hc2 : 1 < c' := by omega
            go_wp2
            go_roundg (gk - 1)
            case measure => exact HF.out.2.2
            case rel => exact ⟨t', B', HP, HO, HB, hz, by omega, Lib.hid ⟨HF.out.1, HF.out.2.1⟩⟩
end Go.Proofs.Ytmcnoeinjocimaa.L
