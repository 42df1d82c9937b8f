/- The program: dominators. -/
import Derived.Test.YtmcnoeinjocimaaIm2
import Derived.Test.YtmcnoeinjocimaaLib9
import Derived.Test.YtmcnoeinjocimaaSp7
import Derived.Deep.RegionWith
import Derived.StillTailTactics
set_option linter.unusedVariables false
set_option linter.unusedSimpArgs false
namespace Go.Proofs.Ytmcnoeinjocimaa.L
open Go.RowKit
theorem infoBools : (Try.prog.info? 90).map (fun i => (i.zero, i.size, i.bytes)) = some (some (.slice none 0 0), 1, 24) := by kernel_rfl
/-- A matrix holds a truth at a place. -/
def Mt (M : List (List Bool)) (b x : Nat) : Prop := ∃ row, M[b]? = some row ∧ row[x]? = some true
structure MInv (next : List (List Int)) (M : List (List Bool)) (k j : Nat) : Prop where
  len : M.length = next.length
  row : ∀ (b : Nat) (hb : b < M.length), M[b].length = next.length
  mt : ∀ b x : Nat, Mt M b x ↔ Dom next b x ∧ (x < k ∨ x = k ∧ b < j)
theorem rch_all {next : List (List Int)} (hr : InR next) (h0 : 0 < next.length) {k : Int} : Rch next (fun x => x ∉ ([] : List Int)) 0 k ↔ Rch next (fun x => x ≠ -1) 0 k := by
  constructor
  · intro h
    induction h with
    | start _ => exact .start (by decide)
    | @step k x l h1 h2 h3 h4 h5 ih => exact .step ih h2 h3 h4 (by have := hr l (List.mem_of_getElem? h3) x h4; omega)
  · exact Rch.mono (fun _ _ => List.not_mem_nil)
theorem rch_one {next : List (List Int)} {d k : Int} : Rch next (fun x => x ∉ [d]) 0 k ↔ Rch next (fun x => x ≠ d) 0 k :=
  ⟨Rch.mono (fun x h => by simpa using h), Rch.mono (fun x h => by simpa using h)⟩
theorem MInv.start (next : List (List Int)) (hr : InR next) (h0 : 0 < next.length) : MInv next (List.replicate next.length (List.replicate next.length false)) 0 0 :=
  ⟨List.length_replicate, fun b hb => by rw [List.getElem_replicate, List.length_replicate], fun b x => by
    constructor
    · rintro ⟨row, h1, h2⟩
      rw [List.getElem?_replicate] at h1
      split at h1 <;> cases h1
      rw [List.getElem?_replicate] at h2
      split at h2 <;> cases h2
    · rintro ⟨hd, h⟩
      have := dom_range hr h0 hd
      omega⟩
theorem MInv.skip {next : List (List Int)} {M : List (List Bool)} {k : Nat} (h : MInv next M k 0) (hn : ¬ Rch next (fun x => x ≠ -1) 0 k) : MInv next M (k + 1) 0 :=
  ⟨h.len, h.row, fun b x => by
    rw [h.mt]
    refine and_congr_right fun hd => ?_
    constructor
    · intro h; omega
    · intro h
      by_cases hx : x = k
      · subst hx; exact absurd hd.2.1 hn
      · omega⟩
theorem MInv.next {next : List (List Int)} {M : List (List Bool)} {k : Nat} (h : MInv next M k next.length) (hr : InR next) (h0 : 0 < next.length) : MInv next M (k + 1) 0 :=
  ⟨h.len, h.row, fun b x => by
    rw [h.mt]
    refine and_congr_right fun hd => ?_
    have := hd.1.range (by omega) hr
    constructor
    · intro h; omega
    · intro h; omega⟩
theorem MInv.put {next : List (List Int)} {M : List (List Bool)} {k j : Nat} (h : MInv next M k j) (hj : j < M.length) (hk : k < next.length) {y : Bool} (hy : y = true ↔ Dom next j k) : MInv next (M.set j (M[j].set k y)) k (j + 1) :=
  ⟨by rw [List.length_set]; exact h.len, fun b hb => by
    rw [List.getElem_set]
    split
    · rw [List.length_set]; exact h.row j hj
    · exact h.row b (by rwa [List.length_set] at hb), fun b x => by
    have hm := h.mt b x
    have hrl := h.row j hj
    unfold Mt at hm ⊢
    rw [List.getElem?_set]
    by_cases e : j = b
    · subst e
      rw [if_pos rfl, if_pos hj]
      rw [List.getElem?_eq_getElem hj] at hm
      simp only [Option.some.injEq, exists_eq_left'] at hm ⊢
      rw [List.getElem?_set]
      by_cases e2 : k = x
      · subst e2
        rw [if_pos rfl, if_pos (by rw [hrl]; exact hk)]
        simp only [Option.some.injEq]
        rw [hy]
        constructor
        · intro h; exact ⟨h, .inr ⟨trivial, Nat.lt_succ_self _⟩⟩
        · exact And.left
      · rw [if_neg e2, hm]
        refine and_congr_right fun hd => ?_
        omega
    · rw [if_neg e, hm]
      refine and_congr_right fun hd => ?_
      omega⟩
theorem MInv.done {next : List (List Int)} {M : List (List Bool)} (h : MInv next M next.length 0) (hr : InR next) (h0 : 0 < next.length) (b x : Nat) : Mt M b x ↔ Dom next b x :=
  (h.mt b x).trans ⟨And.left, fun hd => ⟨hd, .inl (by have := dom_range hr h0 hd; omega)⟩⟩
set_option maxRecDepth 100000 in
set_option maxHeartbeats 4000000 in
theorem dominators_calls {F : Nat → Prop} (next : List (List Int)) (v : Value) (w : World) (h : Rp.Rd (Rp.sl Rp.int) w F v next) (h0 : 0 < next.length) (hm : next.length ≤ 1048576) (hr : InR next) :
    Calls Try.prog 81 #[v] w fun e w' => ∃ v' M, e = .returned v' ∧ Ow true 90 (Rp.ow true 4 Rp.bool) w' (fun k => w.heap.size ≤ k) v' M ∧ Below w.heap.size w w' ∧ Hid (M.length = next.length ∧ (∀ (b : Nat) (hb : b < M.length), M[b].length = next.length) ∧ ∀ b x : Nat, Mt M b x ↔ Dom next b x) := by
  replace h := h.bound
  have hmk := mk_all Try.underlying72 infoBools next.length (by omega) (by omega)
  have hmk2 := mk_all Try.underlying90 infoBool next.length (by omega) (by omega)
  have HR := Lib.hid hr
  have ⟨A, c, he, hlc, hcm, _⟩ := h
  subst he
  have HC := Lib.hid (fun (W : World) (hW : Below w.heap.size w W) => reach_calls next _ _ 0 [] W (h.below hW) (Rp.Rd.nil Rp.int W (fun _ => False)) (by omega) (by omega) hm hr)
  clear hr
  go_enter Try.func81, Try.ntmps81
  go_wp2_with fail
  have mixed : Try.prog.follows Departure.mixedOrders = true := by kernel_rfl
  go_region_with (go_at_call 83; refine (HC.out _ (by first | exact Below.refl _ _ | exact below_drew (Below.refl _ _) | exact (below_drew (Below.refl _ _)).alloc (by simp) _)).mono ?_; rintro e w1 ⟨va, B, rfl, HOA, hb1, HB1⟩)
  · have hO := (ow_alloc1 (e := 90) (n := next.length) (r := Rp.ow true 4 Rp.bool) (z := .slice none 0 0) (x0 := []) w (by omega) rfl (fun w => ⟨_, rfl, Ow.nil _ _ _ _ _⟩)).bound
    have hb2 := below_then (below_drew (Below.refl _ _)) hb1
    have hz2 := hb2.size
    simp at hz2
    have HO := (hO.mono (G := fun q => q = w.heap.size) (fun q hq => by have h1 := hq.1; have h2 := hq.2; simp at h2; omega)).below hb2
    have HB : Below w.heap.size w w1 := below_then (below_new _) hb2
    obtain ⟨Gb, hGb⟩ : ∃ Gb, Gb = w.heap.size := ⟨_, rfl⟩
    have hG1 : w.heap.size ≤ Gb := by omega
    have hG2 : Gb < w1.heap.size := by omega
    have HOA := HOA.mono (G := fun q => w.heap.size ≤ q ∧ q ≠ Gb) (fun q hq => by simp at hq; omega)
    rw [← hGb] at HO
    have HG := Lib.hid hGb
    clear hb1 hb2 hO hz2
    obtain ⟨Aa, ka, rfl, _, _⟩ := HOA.form
    go_wp2
    rw [← HG.out]
    clear hGb HG
    obtain ⟨S, hS⟩ : ∃ S, S = w1.heap.size := ⟨_, rfl⟩
    have HOA := HOA.bound
    rw [← hS] at HOA hG2
    have hS2 : S ≤ w1.heap.size := by omega
    have HO := HO.mono (G := fun q => q = Gb ∨ S ≤ q) (fun q hq => .inl hq)
    clear hS
    go_loopw [17] (fun i wr => ∃ k : Nat, k ≤ next.length ∧ i = .int .i64 k ∧ Ow true 90 (Rp.ow true 4 Rp.bool) wr (fun q => q = Gb ∨ S ≤ q) (.slice (some ⟨Gb, 0, none⟩) next.length next.length) (List.replicate k (List.replicate next.length false) ++ List.replicate (next.length - k) []) ∧ Ow true 4 Rp.bool wr (fun q => (w.heap.size ≤ q ∧ q ≠ Gb) ∧ q < S) (.slice Aa B.length ka) B ∧ Below w.heap.size w wr ∧ S ≤ wr.heap.size) (fun i _ => next.length - (intOf i).toNat)
    case atStart => exact ⟨0, Nat.zero_le _, rfl, by simpa using HO, HOA, HB, hS2⟩
    case round =>
      clear HO HOA HB hS2
      obtain ⟨k, hk, rfl, HO, HOA, HB, hS2⟩ := hrel
      rename World => wo
      by_cases hlt : k < next.length
      · have hkl : k < (List.replicate k (List.replicate next.length false) ++ List.replicate (next.length - k) ([] : List Bool)).length := by rw [List.length_append, List.length_replicate, List.length_replicate]; omega
        have HE : Hid ((List.replicate k (List.replicate next.length false) ++ List.replicate (next.length - k) ([] : List Bool)).set k (List.replicate next.length false) = List.replicate (k + 1) (List.replicate next.length false) ++ List.replicate (next.length - (k + 1)) []) := Lib.hid (by
          rw [List.set_append_right _ _ (by rw [List.length_replicate]; exact Nat.le_refl _), List.length_replicate, Nat.sub_self]
          obtain ⟨d, hd⟩ : ∃ d, next.length - k = d + 1 := ⟨next.length - (k + 1), by omega⟩
          rw [hd, show next.length - (k + 1) = d by omega, List.replicate_succ' (n := k), List.append_assoc]
          rfl)
        have hO2 := ow_alloc1 (e := 4) (n := next.length) (r := Rp.bool) (z := .bool false) (x0 := false) wo (by omega) rfl (fun w => rfl)
        have HO1 := HO.bound.below (below_new (.cells (madeCells #[.bool false] next.length) 4))
        obtain ⟨_, u, cu, fu, -⟩ := HO1.focus hkl
        have HP := (HO1.put1 rfl hkl (y := List.replicate next.length false) (u := .slice (some ⟨wo.heap.size, 0, none⟩) next.length next.length) ⟨_, rfl, hO2⟩ (fun q hq h => by have := h.2; omega)).mono (G := fun q => q = Gb ∨ S ≤ q) (fun q hq => by rcases hq with hq | hq; exact hq.1; right; omega)
        rw [HE.out] at HP
        have HOA1 := (HOA.below (below_new (.cells (madeCells #[.bool false] next.length) 4))).set_other (b := Gb) (o := k) (u := .slice (some ⟨wo.heap.size, 0, none⟩) next.length next.length) (fun h => h.1.2 rfl)
        have HB1' : Below w.heap.size w ((wo.alloc (.cells (madeCells #[.bool false] next.length) 4)).setCell ⟨Gb, k, none⟩ (.slice (some ⟨wo.heap.size, 0, none⟩) next.length next.length)) := (HB.alloc HB.size _).setCell (by simpa using hG1) _
        have i0 : (0 : Int) ≤ (k : Int) := Int.natCast_nonneg _
        have i1 : (k : Int) < (next.length : Int) := by omega
        clear hO2 HO1 HE hkl HO HOA
        replace HP := Lib.hid HP
        replace HOA1 := Lib.hid HOA1
        go_wp2
        go_roundw
        case rel => exact ⟨k + 1, by omega, by go_num, HP.out, HOA1.out, HB1', by simp; omega⟩
        case measure => simp [intOf]; omega
      · obtain rfl : k = next.length := by omega
        rw [Nat.sub_self, List.replicate_zero, List.append_nil] at HO
        have HM := Lib.hid (MInv.start next HR.out h0)
        have HBl := Lib.hid HB1.out.1
        have hBl2 : next.length ≤ B.length := by rw [HBl.out]; exact Nat.le_refl _
        have hBl3 : B.length ≤ next.length := by rw [HBl.out]; exact Nat.le_refl _
        clear hk hlt
        generalize List.replicate next.length (List.replicate next.length false) = M0 at *
        go_wp2
        go_loopw [29] (fun i wr => ∃ (k : Nat) (M : List (List Bool)), k ≤ B.length ∧ i = .int .i64 k ∧ Ow true 90 (Rp.ow true 4 Rp.bool) wr (fun q => q = Gb ∨ S ≤ q) (.slice (some ⟨Gb, 0, none⟩) next.length next.length) M ∧ Ow true 4 Rp.bool wr (fun q => (w.heap.size ≤ q ∧ q ≠ Gb) ∧ q < S) (.slice Aa B.length ka) B ∧ Below w.heap.size w wr ∧ S ≤ wr.heap.size ∧ Hid (MInv next M k 0)) (fun i _ => B.length - (intOf i).toNat)
        case atStart => exact ⟨0, M0, Nat.zero_le _, rfl, HO, HOA, HB, hS2, HM⟩
        case round =>
          clear HO HOA HB hS2 HM
          obtain ⟨k, M, hk, rfl, HO, HOA, HB, hS2, HM⟩ := hrel
          rename World => wk
          by_cases hlt : k < B.length
          · obtain ⟨ga, rfl⟩ : ∃ ga, Aa = some ⟨ga, 0, none⟩ := by
              obtain ⟨g, c', cs, he, _⟩ := HOA.at_ (List.getElem?_eq_getElem hlt)
              injection he with he _ _
              exact ⟨g, he⟩
            obtain ⟨cB, fB⟩ := bool_at HOA hlt
            have hkn : k < next.length := by omega
            have HBk : Hid (B[k] = true ↔ Rch next (fun x => x ≠ -1) 0 k) := Lib.hid (by rw [← on_iff hlt, HB1.out.2, rch_all HR.out h0])
            have i0 : (0 : Int) ≤ (k : Int) := Int.natCast_nonneg _
            have i1 : (k : Int) < (B.length : Int) := by omega
            generalize hbk : B[k] = bk at *
            cases bk
            · have HS1 := Lib.hid (HM.out.skip (fun h => by have := HBk.out.2 h; cases this))
              clear hbk HBk
              go_wp2
              go_roundw
              case rel => exact ⟨k + 1, M, by omega, by go_num, HO, HOA, HB, hS2, HS1⟩
              case measure => simp [intOf]; omega
            · have HRk := Lib.hid (HBk.out.1 rfl)
              clear hbk HBk
              have hb1 := below_new (w := wk) (.cells #[.int .i64 (k : Int)] 3)
              have hlit : Ow true 3 Rp.int (wk.alloc (.cells #[.int .i64 (k : Int)] 3)) (fun _ => True) (.slice (some ⟨wk.heap.size, 0, none⟩) 1 1) [(k : Int)] := (ow_intsG rfl (Nat.zero_le _) [(k : Int)] _ rfl (by simp)).mono (fun _ _ => trivial)
              have HCk := reach_calls next _ _ 0 [(k : Int)] (wk.alloc (.cells #[.int .i64 (k : Int)] 3)) ((h.below HB).below hb1) hlit.rd (by omega) (by omega) hm HR.out
              go_wp2_with fail
              refine HCk.mono ?_
              clear HCk hlit
              rintro e w5 ⟨vl, B2, rfl, HOL, hb5, HB2⟩
              have hb6 := below_then hb1 hb5
              have HO5 := HO.bound.below hb6
              have HOA5 := HOA.below hb6
              have HB5 := below_then HB hb6
              have hz5 := hb6.size
              have HOL := HOL.mono (G := fun q => wk.heap.size ≤ q) (fun q hq => by simp at hq; omega)
              have hB2l : next.length ≤ B2.length := by rw [HB2.out.1]; exact Nat.le_refl _
              obtain ⟨gl, kl, hvl⟩ : ∃ gl kl, vl = .slice (some ⟨gl, 0, none⟩) B2.length kl := by
                obtain ⟨g, c', cs, he, _⟩ := HOL.at_ (List.getElem?_eq_getElem (show k < B2.length by omega))
                exact ⟨g, c', he⟩
              subst hvl
              have hgl := own_in HOL (k := gl) (.inr rfl)
              clear HO HOA HB hb1 hb5 hb6
              go_wp2
              go_loopw [42] (fun i wr => ∃ (j : Nat) (M : List (List Bool)), j ≤ next.length ∧ i = .int .i64 j ∧ Ow true 90 (Rp.ow true 4 Rp.bool) wr (fun q => (q = Gb ∨ S ≤ q) ∧ q < wk.heap.size) (.slice (some ⟨Gb, 0, none⟩) next.length next.length) M ∧ Ow true 4 Rp.bool wr (fun q => (w.heap.size ≤ q ∧ q ≠ Gb) ∧ q < S) (.slice (some ⟨ga, 0, none⟩) B.length ka) B ∧ Ow true 4 Rp.bool wr (fun q => wk.heap.size ≤ q) (.slice (some ⟨gl, 0, none⟩) B2.length kl) B2 ∧ Below w.heap.size w wr ∧ wk.heap.size ≤ wr.heap.size ∧ Hid (MInv next M k j)) (fun i _ => next.length - (intOf i).toNat)
              case atStart => exact ⟨0, M, Nat.zero_le _, rfl, HO5, HOA5, HOL, HB5, hz5, HM⟩
              case round =>
                clear HO5 HOA5 HOL HB5 HM
                obtain ⟨j, M, hj, rfl, HO, HOA, HOL, HB, hz, HM⟩ := hrel
                rename World => wi
                by_cases hjt : j < next.length
                · have hjM : j < M.length := by rw [HM.out.len]; exact hjt
                  have hjB : j < B.length := by omega
                  have hjB2 : j < B2.length := by omega
                  have hrow := HM.out.row j hjM
                  have hkr : k < M[j].length := by rw [hrow]; exact hkn
                  obtain ⟨cBj, fBj⟩ := bool_at HOA hjB
                  obtain ⟨cLj, fLj⟩ := bool_at HOL hjB2
                  obtain ⟨G, u, cu, fu, hGF, HOu, hback⟩ := HO.focus hjM
                  obtain ⟨g2, k2, hu2⟩ : ∃ g2 k2, u = .slice (some ⟨g2, 0, none⟩) M[j].length k2 := by
                    obtain ⟨g, c', cs, he, _⟩ := HOu.at_ (List.getElem?_eq_getElem hkr)
                    exact ⟨g, c', he⟩
                  subst hu2
                  have hg2 := hGF g2 (own_in HOu (k := g2) (.inr rfl))
                  obtain ⟨cM, fM⟩ := bool_at HOu hkr
                  have HBj : Hid ((B[j] = true ↔ Rch next (fun x => x ≠ -1) 0 j) ∧ (B2[j] = true ↔ Rch next (fun x => x ≠ (k : Int)) 0 j)) := Lib.hid ⟨by rw [← on_iff hjB, HB1.out.2, rch_all HR.out h0], by rw [← on_iff hjB2, HB2.out.2, rch_one]⟩
                  have HPut : ∀ y : Bool, (y = true ↔ Dom next j k) → Hid (Ow true 90 (Rp.ow true 4 Rp.bool) (wi.drew.setCell ⟨g2, k, none⟩ (.bool y)) (fun q => (q = Gb ∨ S ≤ q) ∧ q < wk.heap.size) (.slice (some ⟨Gb, 0, none⟩) next.length next.length) (M.set j (M[j].set k y)) ∧ MInv next (M.set j (M[j].set k y)) k (j + 1)) := fun y hy => Lib.hid ⟨hback _ _ (fun q hq hnG => heap_setCell_other wi.drew ⟨g2, k, none⟩ q _ (fun he => hnG (by have he : q = g2 := he; rw [he]; exact own_in HOu (.inr rfl)))) ((HOu.move (w' := wi.drew) (fun _ _ _ => rfl)).set1 rfl hkr rfl), HM.out.put hjM hkn hy⟩
                  have HPut := Lib.hid HPut
                  have hrow2 := Lib.hid hrow
                  have hML : M[j].length ≤ next.length := by omega
                  have hML2 : next.length ≤ M[j].length := by omega
                  have j0 : (0 : Int) ≤ (j : Int) := Int.natCast_nonneg _
                  have j1 : (j : Int) < (next.length : Int) := by omega
                  have j2 : (j : Int) < (B.length : Int) := by omega
                  have j3 : (j : Int) < (B2.length : Int) := by omega
                  have j4 : (k : Int) < (M[j].length : Int) := by omega
                  have hB7 : ∀ y : Bool, Below w.heap.size w (wi.drew.setCell ⟨g2, k, none⟩ (.bool y)) := fun y => (below_drew HB).setCell (by have := hg2.1.1; simp; omega) _
                  have hA7 : ∀ y : Bool, Ow true 4 Rp.bool (wi.drew.setCell ⟨g2, k, none⟩ (.bool y)) (fun q => (w.heap.size ≤ q ∧ q ≠ Gb) ∧ q < S) (.slice (some ⟨ga, 0, none⟩) B.length ka) B := fun y => (HOA.move (w' := wi.drew) (fun _ _ _ => rfl)).set_other (fun h => by have := hg2.1.1; have := hg2.2; have := h.1.2; have := h.2; omega)
                  have hL7 : ∀ y : Bool, Ow true 4 Rp.bool (wi.drew.setCell ⟨g2, k, none⟩ (.bool y)) (fun q => wk.heap.size ≤ q) (.slice (some ⟨gl, 0, none⟩) B2.length kl) B2 := fun y => (HOL.move (w' := wi.drew) (fun _ _ _ => rfl)).set_other (fun h => by have := hg2.1.2; omega)
                  have hB7 := Lib.hid hB7
                  have hA7 := Lib.hid hA7
                  have hL7 := Lib.hid hL7
                  clear hback HOu hrow HO HOA HOL HM hGF
                  obtain ⟨lj, hlj⟩ : ∃ lj, lj = M[j].length := ⟨_, rfl⟩
                  rw [← hlj] at cu j4
                  have hlj := Lib.hid hlj
                  generalize M[j][k] = y0 at *
                  generalize hb1 : B[j] = b1 at *
                  generalize hb2 : B2[j] = b2 at *
                  cases b1
                  · have HF := Lib.hid (HPut.out false ⟨fun h => Bool.noConfusion h, fun h => by have := HBj.out.1.2 h.1; cases this⟩)
                    clear hb1 hb2 HBj HPut
                    go_wp2
                    go_region
                    have hT := HF.out
                    go_wp2
                    go_roundw
                    case rel => exact ⟨j + 1, _, by omega, by go_num, HF.out.1, hA7.out _, hL7.out _, hB7.out _, by simpa using hz, Lib.hid HF.out.2⟩
                    case measure => simp [intOf]; omega
                  · cases b2
                    · have HF := Lib.hid (HPut.out true ⟨fun _ => ⟨HBj.out.1.1 rfl, HRk.out, fun h => by have := HBj.out.2.2 h; cases this⟩, fun _ => rfl⟩)
                      clear hb1 hb2 HBj HPut
                      go_wp2
                      go_region
                      go_wp2
                      go_roundw
                      case rel => exact ⟨j + 1, _, by omega, by go_num, HF.out.1, hA7.out _, hL7.out _, hB7.out _, by simpa using hz, Lib.hid HF.out.2⟩
                      case measure => simp [intOf]; omega
                    · have HF := Lib.hid (HPut.out false ⟨fun h => Bool.noConfusion h, fun h => absurd (HBj.out.2.1 rfl) h.2.2⟩)
                      clear hb1 hb2 HBj HPut
                      go_wp2
                      go_region
                      go_wp2
                      go_roundw
                      case rel => exact ⟨j + 1, _, by omega, by go_num, HF.out.1, hA7.out _, hL7.out _, hB7.out _, by simpa using hz, Lib.hid HF.out.2⟩
                      case measure => simp [intOf]; omega
                · obtain rfl : j = next.length := by omega
                  have HN := Lib.hid (HM.out.next HR.out h0)
                  have HOn := HO.mono (G := fun q => q = Gb ∨ S ≤ q) (fun q hq => hq.1)
                  clear HM HO
                  go_wp2
                  go_roundw
                  case rel => exact ⟨k + 1, M, by omega, by go_num, HOn, HOA, HB, by omega, HN⟩
                  case measure => simp [intOf]; omega
          · have hkB : k = B.length := by omega
            have HF : Hid (M.length = next.length ∧ (∀ (b : Nat) (hb : b < M.length), M[b].length = next.length) ∧ ∀ b x : Nat, Mt M b x ↔ Dom next b x) := Lib.hid ⟨HM.out.len, HM.out.row, HM.out.mt |> fun _ => by
              have h1 := HM.out
              rw [hkB, HBl.out] at h1
              exact h1.done HR.out h0⟩
            have HOn := HO.mono (G := fun q => w.heap.size ≤ q) (fun q hq => by rcases hq with hq | hq <;> omega)
            clear HM HO hkB
            go_wp2
            go_ret
            exact ⟨_, M, rfl, HOn, HB, HF⟩
  · have hb2 := below_then (below_drew (Below.refl _ _)) hb1
    have hz2 := hb2.size
    have hO := (ow_alloc1 (e := 90) (n := next.length) (r := Rp.ow true 4 Rp.bool) (z := .slice none 0 0) (x0 := []) w1 (by omega) rfl (fun w => ⟨_, rfl, Ow.nil _ _ _ _ _⟩)).bound
    have HO := hO.mono (G := fun q => q = w1.heap.size) (fun q hq => by have h1 := hq.1; have h2 := hq.2; simp at h2; omega)
    have HOA := (HOA.bound.mono (G := fun q => w.heap.size ≤ q ∧ q ≠ w1.heap.size) (fun q hq => by have h1 := hq.1; have h2 := hq.2; simp at h1; omega)).below (below_new (.cells (madeCells #[.slice none 0 0] next.length) 90))
    have HB : Below w.heap.size w (w1.alloc (.cells (madeCells #[.slice none 0 0] next.length) 90)) := hb2.alloc hb2.size _
    obtain ⟨Gb, hGb⟩ : ∃ Gb, Gb = w1.heap.size := ⟨_, rfl⟩
    have hG1 : w.heap.size ≤ Gb := by omega
    have hG2 : Gb < (w1.alloc (.cells (madeCells #[.slice none 0 0] next.length) 90)).heap.size := by simp; omega
    rw [← hGb] at HO HOA
    have HG := Lib.hid hGb
    clear hb1 hb2 hO hz2
    obtain ⟨Aa, ka, rfl, _, _⟩ := HOA.form
    go_wp2
    rw [← HG.out]
    generalize w1.alloc (.cells (madeCells #[.slice none 0 0] next.length) 90) = w2 at *
    clear hGb HG
    obtain ⟨S, hS⟩ : ∃ S, S = w2.heap.size := ⟨_, rfl⟩
    have HOA := HOA.bound
    rw [← hS] at HOA hG2
    have hS2 : S ≤ w2.heap.size := by omega
    have HO := HO.mono (G := fun q => q = Gb ∨ S ≤ q) (fun q hq => .inl hq)
    clear hS
    go_loopw [17] (fun i wr => ∃ k : Nat, k ≤ next.length ∧ i = .int .i64 k ∧ Ow true 90 (Rp.ow true 4 Rp.bool) wr (fun q => q = Gb ∨ S ≤ q) (.slice (some ⟨Gb, 0, none⟩) next.length next.length) (List.replicate k (List.replicate next.length false) ++ List.replicate (next.length - k) []) ∧ Ow true 4 Rp.bool wr (fun q => (w.heap.size ≤ q ∧ q ≠ Gb) ∧ q < S) (.slice Aa B.length ka) B ∧ Below w.heap.size w wr ∧ S ≤ wr.heap.size) (fun i _ => next.length - (intOf i).toNat)
    case atStart => exact ⟨0, Nat.zero_le _, rfl, by simpa using HO, HOA, HB, hS2⟩
    case round =>
      clear HO HOA HB hS2
      obtain ⟨k, hk, rfl, HO, HOA, HB, hS2⟩ := hrel
      rename World => wo
      by_cases hlt : k < next.length
      · have hkl : k < (List.replicate k (List.replicate next.length false) ++ List.replicate (next.length - k) ([] : List Bool)).length := by rw [List.length_append, List.length_replicate, List.length_replicate]; omega
        have HE : Hid ((List.replicate k (List.replicate next.length false) ++ List.replicate (next.length - k) ([] : List Bool)).set k (List.replicate next.length false) = List.replicate (k + 1) (List.replicate next.length false) ++ List.replicate (next.length - (k + 1)) []) := Lib.hid (by
          rw [List.set_append_right _ _ (by rw [List.length_replicate]; exact Nat.le_refl _), List.length_replicate, Nat.sub_self]
          obtain ⟨d, hd⟩ : ∃ d, next.length - k = d + 1 := ⟨next.length - (k + 1), by omega⟩
          rw [hd, show next.length - (k + 1) = d by omega, List.replicate_succ' (n := k), List.append_assoc]
          rfl)
        have hO2 := ow_alloc1 (e := 4) (n := next.length) (r := Rp.bool) (z := .bool false) (x0 := false) wo (by omega) rfl (fun w => rfl)
        have HO1 := HO.bound.below (below_new (.cells (madeCells #[.bool false] next.length) 4))
        obtain ⟨_, u, cu, fu, -⟩ := HO1.focus hkl
        have HP := (HO1.put1 rfl hkl (y := List.replicate next.length false) (u := .slice (some ⟨wo.heap.size, 0, none⟩) next.length next.length) ⟨_, rfl, hO2⟩ (fun q hq h => by have := h.2; omega)).mono (G := fun q => q = Gb ∨ S ≤ q) (fun q hq => by rcases hq with hq | hq; exact hq.1; right; omega)
        rw [HE.out] at HP
        have HOA1 := (HOA.below (below_new (.cells (madeCells #[.bool false] next.length) 4))).set_other (b := Gb) (o := k) (u := .slice (some ⟨wo.heap.size, 0, none⟩) next.length next.length) (fun h => h.1.2 rfl)
        have HB1' : Below w.heap.size w ((wo.alloc (.cells (madeCells #[.bool false] next.length) 4)).setCell ⟨Gb, k, none⟩ (.slice (some ⟨wo.heap.size, 0, none⟩) next.length next.length)) := (HB.alloc HB.size _).setCell (by simpa using hG1) _
        have i0 : (0 : Int) ≤ (k : Int) := Int.natCast_nonneg _
        have i1 : (k : Int) < (next.length : Int) := by omega
        clear hO2 HO1 HE hkl HO HOA
        replace HP := Lib.hid HP
        replace HOA1 := Lib.hid HOA1
        go_wp2
        go_roundw
        case rel => exact ⟨k + 1, by omega, by go_num, HP.out, HOA1.out, HB1', by simp; omega⟩
        case measure => simp [intOf]; omega
      · obtain rfl : k = next.length := by omega
        rw [Nat.sub_self, List.replicate_zero, List.append_nil] at HO
        have HM := Lib.hid (MInv.start next HR.out h0)
        have HBl := Lib.hid HB1.out.1
        have hBl2 : next.length ≤ B.length := by rw [HBl.out]; exact Nat.le_refl _
        have hBl3 : B.length ≤ next.length := by rw [HBl.out]; exact Nat.le_refl _
        clear hk hlt
        generalize List.replicate next.length (List.replicate next.length false) = M0 at *
        go_wp2
        go_loopw [29] (fun i wr => ∃ (k : Nat) (M : List (List Bool)), k ≤ B.length ∧ i = .int .i64 k ∧ Ow true 90 (Rp.ow true 4 Rp.bool) wr (fun q => q = Gb ∨ S ≤ q) (.slice (some ⟨Gb, 0, none⟩) next.length next.length) M ∧ Ow true 4 Rp.bool wr (fun q => (w.heap.size ≤ q ∧ q ≠ Gb) ∧ q < S) (.slice Aa B.length ka) B ∧ Below w.heap.size w wr ∧ S ≤ wr.heap.size ∧ Hid (MInv next M k 0)) (fun i _ => B.length - (intOf i).toNat)
        case atStart => exact ⟨0, M0, Nat.zero_le _, rfl, HO, HOA, HB, hS2, HM⟩
        case round =>
          clear HO HOA HB hS2 HM
          obtain ⟨k, M, hk, rfl, HO, HOA, HB, hS2, HM⟩ := hrel
          rename World => wk
          by_cases hlt : k < B.length
          · obtain ⟨ga, rfl⟩ : ∃ ga, Aa = some ⟨ga, 0, none⟩ := by
              obtain ⟨g, c', cs, he, _⟩ := HOA.at_ (List.getElem?_eq_getElem hlt)
              injection he with he _ _
              exact ⟨g, he⟩
            obtain ⟨cB, fB⟩ := bool_at HOA hlt
            have hkn : k < next.length := by omega
            have HBk : Hid (B[k] = true ↔ Rch next (fun x => x ≠ -1) 0 k) := Lib.hid (by rw [← on_iff hlt, HB1.out.2, rch_all HR.out h0])
            have i0 : (0 : Int) ≤ (k : Int) := Int.natCast_nonneg _
            have i1 : (k : Int) < (B.length : Int) := by omega
            generalize hbk : B[k] = bk at *
            cases bk
            · have HS1 := Lib.hid (HM.out.skip (fun h => by have := HBk.out.2 h; cases this))
              clear hbk HBk
              go_wp2
              go_roundw
              case rel => exact ⟨k + 1, M, by omega, by go_num, HO, HOA, HB, hS2, HS1⟩
              case measure => simp [intOf]; omega
            · have HRk := Lib.hid (HBk.out.1 rfl)
              clear hbk HBk
              have hb1 := below_new (w := wk) (.cells #[.int .i64 (k : Int)] 3)
              have hlit : Ow true 3 Rp.int (wk.alloc (.cells #[.int .i64 (k : Int)] 3)) (fun _ => True) (.slice (some ⟨wk.heap.size, 0, none⟩) 1 1) [(k : Int)] := (ow_intsG rfl (Nat.zero_le _) [(k : Int)] _ rfl (by simp)).mono (fun _ _ => trivial)
              have HCk := reach_calls next _ _ 0 [(k : Int)] (wk.alloc (.cells #[.int .i64 (k : Int)] 3)) ((h.below HB).below hb1) hlit.rd (by omega) (by omega) hm HR.out
              go_wp2_with fail
              refine HCk.mono ?_
              clear HCk hlit
              rintro e w5 ⟨vl, B2, rfl, HOL, hb5, HB2⟩
              have hb6 := below_then hb1 hb5
              have HO5 := HO.bound.below hb6
              have HOA5 := HOA.below hb6
              have HB5 := below_then HB hb6
              have hz5 := hb6.size
              have HOL := HOL.mono (G := fun q => wk.heap.size ≤ q) (fun q hq => by simp at hq; omega)
              have hB2l : next.length ≤ B2.length := by rw [HB2.out.1]; exact Nat.le_refl _
              obtain ⟨gl, kl, hvl⟩ : ∃ gl kl, vl = .slice (some ⟨gl, 0, none⟩) B2.length kl := by
                obtain ⟨g, c', cs, he, _⟩ := HOL.at_ (List.getElem?_eq_getElem (show k < B2.length by omega))
                exact ⟨g, c', he⟩
              subst hvl
              have hgl := own_in HOL (k := gl) (.inr rfl)
              clear HO HOA HB hb1 hb5 hb6
              go_wp2
              go_loopw [42] (fun i wr => ∃ (j : Nat) (M : List (List Bool)), j ≤ next.length ∧ i = .int .i64 j ∧ Ow true 90 (Rp.ow true 4 Rp.bool) wr (fun q => (q = Gb ∨ S ≤ q) ∧ q < wk.heap.size) (.slice (some ⟨Gb, 0, none⟩) next.length next.length) M ∧ Ow true 4 Rp.bool wr (fun q => (w.heap.size ≤ q ∧ q ≠ Gb) ∧ q < S) (.slice (some ⟨ga, 0, none⟩) B.length ka) B ∧ Ow true 4 Rp.bool wr (fun q => wk.heap.size ≤ q) (.slice (some ⟨gl, 0, none⟩) B2.length kl) B2 ∧ Below w.heap.size w wr ∧ wk.heap.size ≤ wr.heap.size ∧ Hid (MInv next M k j)) (fun i _ => next.length - (intOf i).toNat)
              case atStart => exact ⟨0, M, Nat.zero_le _, rfl, HO5, HOA5, HOL, HB5, hz5, HM⟩
              case round =>
                clear HO5 HOA5 HOL HB5 HM
                obtain ⟨j, M, hj, rfl, HO, HOA, HOL, HB, hz, HM⟩ := hrel
                rename World => wi
                by_cases hjt : j < next.length
                · have hjM : j < M.length := by rw [HM.out.len]; exact hjt
                  have hjB : j < B.length := by omega
                  have hjB2 : j < B2.length := by omega
                  have hrow := HM.out.row j hjM
                  have hkr : k < M[j].length := by rw [hrow]; exact hkn
                  obtain ⟨cBj, fBj⟩ := bool_at HOA hjB
                  obtain ⟨cLj, fLj⟩ := bool_at HOL hjB2
                  obtain ⟨G, u, cu, fu, hGF, HOu, hback⟩ := HO.focus hjM
                  obtain ⟨g2, k2, hu2⟩ : ∃ g2 k2, u = .slice (some ⟨g2, 0, none⟩) M[j].length k2 := by
                    obtain ⟨g, c', cs, he, _⟩ := HOu.at_ (List.getElem?_eq_getElem hkr)
                    exact ⟨g, c', he⟩
                  subst hu2
                  have hg2 := hGF g2 (own_in HOu (k := g2) (.inr rfl))
                  obtain ⟨cM, fM⟩ := bool_at HOu hkr
                  have HBj : Hid ((B[j] = true ↔ Rch next (fun x => x ≠ -1) 0 j) ∧ (B2[j] = true ↔ Rch next (fun x => x ≠ (k : Int)) 0 j)) := Lib.hid ⟨by rw [← on_iff hjB, HB1.out.2, rch_all HR.out h0], by rw [← on_iff hjB2, HB2.out.2, rch_one]⟩
                  have HPut : ∀ y : Bool, (y = true ↔ Dom next j k) → Hid (Ow true 90 (Rp.ow true 4 Rp.bool) (wi.drew.setCell ⟨g2, k, none⟩ (.bool y)) (fun q => (q = Gb ∨ S ≤ q) ∧ q < wk.heap.size) (.slice (some ⟨Gb, 0, none⟩) next.length next.length) (M.set j (M[j].set k y)) ∧ MInv next (M.set j (M[j].set k y)) k (j + 1)) := fun y hy => Lib.hid ⟨hback _ _ (fun q hq hnG => heap_setCell_other wi.drew ⟨g2, k, none⟩ q _ (fun he => hnG (by have he : q = g2 := he; rw [he]; exact own_in HOu (.inr rfl)))) ((HOu.move (w' := wi.drew) (fun _ _ _ => rfl)).set1 rfl hkr rfl), HM.out.put hjM hkn hy⟩
                  have HPut := Lib.hid HPut
                  have hrow2 := Lib.hid hrow
                  have hML : M[j].length ≤ next.length := by omega
                  have hML2 : next.length ≤ M[j].length := by omega
                  have j0 : (0 : Int) ≤ (j : Int) := Int.natCast_nonneg _
                  have j1 : (j : Int) < (next.length : Int) := by omega
                  have j2 : (j : Int) < (B.length : Int) := by omega
                  have j3 : (j : Int) < (B2.length : Int) := by omega
                  have j4 : (k : Int) < (M[j].length : Int) := by omega
                  have hB7 : ∀ y : Bool, Below w.heap.size w (wi.drew.setCell ⟨g2, k, none⟩ (.bool y)) := fun y => (below_drew HB).setCell (by have := hg2.1.1; simp; omega) _
                  have hA7 : ∀ y : Bool, Ow true 4 Rp.bool (wi.drew.setCell ⟨g2, k, none⟩ (.bool y)) (fun q => (w.heap.size ≤ q ∧ q ≠ Gb) ∧ q < S) (.slice (some ⟨ga, 0, none⟩) B.length ka) B := fun y => (HOA.move (w' := wi.drew) (fun _ _ _ => rfl)).set_other (fun h => by have := hg2.1.1; have := hg2.2; have := h.1.2; have := h.2; omega)
                  have hL7 : ∀ y : Bool, Ow true 4 Rp.bool (wi.drew.setCell ⟨g2, k, none⟩ (.bool y)) (fun q => wk.heap.size ≤ q) (.slice (some ⟨gl, 0, none⟩) B2.length kl) B2 := fun y => (HOL.move (w' := wi.drew) (fun _ _ _ => rfl)).set_other (fun h => by have := hg2.1.2; omega)
                  have hB7 := Lib.hid hB7
                  have hA7 := Lib.hid hA7
                  have hL7 := Lib.hid hL7
                  clear hback HOu hrow HO HOA HOL HM hGF
                  obtain ⟨lj, hlj⟩ : ∃ lj, lj = M[j].length := ⟨_, rfl⟩
                  rw [← hlj] at cu j4
                  have hlj := Lib.hid hlj
                  generalize M[j][k] = y0 at *
                  generalize hb1 : B[j] = b1 at *
                  generalize hb2 : B2[j] = b2 at *
                  cases b1
                  · have HF := Lib.hid (HPut.out false ⟨fun h => Bool.noConfusion h, fun h => by have := HBj.out.1.2 h.1; cases this⟩)
                    clear hb1 hb2 HBj HPut
                    go_wp2
                    go_region
                    have hT := HF.out
                    go_wp2
                    go_roundw
                    case rel => exact ⟨j + 1, _, by omega, by go_num, HF.out.1, hA7.out _, hL7.out _, hB7.out _, by simpa using hz, Lib.hid HF.out.2⟩
                    case measure => simp [intOf]; omega
                  · cases b2
                    · have HF := Lib.hid (HPut.out true ⟨fun _ => ⟨HBj.out.1.1 rfl, HRk.out, fun h => by have := HBj.out.2.2 h; cases this⟩, fun _ => rfl⟩)
                      clear hb1 hb2 HBj HPut
                      go_wp2
                      go_region
                      go_wp2
                      go_roundw
                      case rel => exact ⟨j + 1, _, by omega, by go_num, HF.out.1, hA7.out _, hL7.out _, hB7.out _, by simpa using hz, Lib.hid HF.out.2⟩
                      case measure => simp [intOf]; omega
                    · have HF := Lib.hid (HPut.out false ⟨fun h => Bool.noConfusion h, fun h => absurd (HBj.out.2.1 rfl) h.2.2⟩)
                      clear hb1 hb2 HBj HPut
                      go_wp2
                      go_region
                      go_wp2
                      go_roundw
                      case rel => exact ⟨j + 1, _, by omega, by go_num, HF.out.1, hA7.out _, hL7.out _, hB7.out _, by simpa using hz, Lib.hid HF.out.2⟩
                      case measure => simp [intOf]; omega
                · obtain rfl : j = next.length := by omega
                  have HN := Lib.hid (HM.out.next HR.out h0)
                  have HOn := HO.mono (G := fun q => q = Gb ∨ S ≤ q) (fun q hq => hq.1)
                  clear HM HO
                  go_wp2
                  go_roundw
                  case rel => exact ⟨k + 1, M, by omega, by go_num, HOn, HOA, HB, by omega, HN⟩
                  case measure => simp [intOf]; omega
          · have hkB : k = B.length := by omega
            have HF : Hid (M.length = next.length ∧ (∀ (b : Nat) (hb : b < M.length), M[b].length = next.length) ∧ ∀ b x : Nat, Mt M b x ↔ Dom next b x) := Lib.hid ⟨HM.out.len, HM.out.row, HM.out.mt |> fun _ => by
              have h1 := HM.out
              rw [hkB, HBl.out] at h1
              exact h1.done HR.out h0⟩
            have HOn := HO.mono (G := fun q => w.heap.size ≤ q) (fun q hq => by rcases hq with hq | hq <;> omega)
            clear HM HO hkB
            go_wp2
            go_ret
            exact ⟨_, M, rfl, HOn, HB, HF⟩
end Go.Proofs.Ytmcnoeinjocimaa.L
