/- The reference: dominators. -/
import Derived.Test.YtmcnoeinjocimaaSp6
set_option linter.unusedVariables false
set_option linter.unusedSimpArgs false
namespace Go.Proofs.Ytmcnoeinjocimaa.L
open Go.RowKit
def Dom (next : List (List Int)) (k d : Int) : Prop := Rch next (fun x => x ≠ -1) 0 k ∧ Rch next (fun x => x ≠ -1) 0 d ∧ ¬ Rch next (fun x => x ≠ d) 0 k
theorem putL_sorted (l : List Int) (n : Int) (h : l.Pairwise (· < ·)) : (putL l n).Pairwise (· < ·) := by
  induction l with
  | nil => simp [putL]
  | cons y t ih =>
    rw [List.pairwise_cons] at h
    simp only [putL]
    split
    · rename_i hlt
      rw [List.pairwise_cons]
      exact ⟨fun a ha => by rcases (mem_putL t n a).1 ha with rfl | ha; exact hlt; exact h.1 a ha, ih h.2⟩
    · split
      · exact List.pairwise_cons.2 h
      · rename_i h1 h2
        rw [List.pairwise_cons]
        refine ⟨fun a ha => ?_, List.pairwise_cons.2 h⟩
        rcases List.mem_cons.1 ha with rfl | ha
        · omega
        · have := h.1 a ha; omega
structure DInv (next : List (List Int)) (D : List (List Int)) (d : Int) (T : List Int) : Prop where
  len : D.length = next.length
  mem : ∀ (k : Nat) (hk : k < D.length) (x : Int), x ∈ D[k] ↔ Dom next k x ∧ (x < d ∨ x = d ∧ (k : Int) ∈ T)
  srt : ∀ (k : Nat) (hk : k < D.length), D[k].Pairwise (· < ·)
theorem dom_range {next : List (List Int)} (hr : InR next) (h0 : 0 < next.length) {k d : Int} (h : Dom next k d) : 0 ≤ d ∧ d < next.length := h.2.1.range (by omega) hr
theorem DInv.start (next : List (List Int)) (hr : InR next) (h0 : 0 < next.length) : DInv next (List.replicate next.length []) 0 [] :=
  ⟨List.length_replicate, fun k hk x => by
    simp only [List.getElem_replicate, List.not_mem_nil, and_false, or_false, false_iff]
    rintro ⟨h, h1⟩
    have := dom_range hr h0 h
    omega, fun k hk => by simp⟩
theorem DInv.bound {next D : List (List Int)} {d : Int} {T : List Int} (h : DInv next D d T) (hr : InR next) (h0 : 0 < next.length) (k : Nat) (hk : k < D.length) : D[k].length ≤ next.length :=
  len_nodup_range ((h.srt k hk).imp (fun h => by omega)) (fun x hx => dom_range hr h0 ((h.mem k hk x).1 hx).1)
theorem DInv.skip {next D : List (List Int)} {d : Int} {T : List Int} {x : Int} (h : DInv next D d T) (hn : ¬ Dom next x d) : DInv next D d (T ++ [x]) :=
  ⟨h.len, fun k hk y => by
    rw [h.mem k hk y]
    refine and_congr_right fun hd => or_congr_right (and_congr_right fun he => ?_)
    subst he
    rw [List.mem_append, List.mem_singleton]
    exact ⟨.inl, fun h => h.elim id (fun he => absurd (he ▸ hd) hn)⟩, h.srt⟩
theorem DInv.put {next D : List (List Int)} {d : Int} {T : List Int} {n : Nat} (h : DInv next D d T) (hk : n < D.length) (hd : Dom next n d) : DInv next (D.set n (putL D[n] d)) d (T ++ [(n : Int)]) :=
  ⟨by rw [List.length_set]; exact h.len, fun k hk' y => by
    rw [List.getElem_set]
    by_cases e : n = k
    · subst e
      rw [if_pos rfl, mem_putL, h.mem n hk y]
      constructor
      · rintro (rfl | ⟨h1, h2⟩)
        · exact ⟨hd, .inr ⟨rfl, by simp⟩⟩
        · exact ⟨h1, h2.imp id (fun h => ⟨h.1, List.mem_append.2 (.inl h.2)⟩)⟩
      · rintro ⟨h1, h2 | ⟨rfl, h2⟩⟩
        · exact .inr ⟨h1, .inl h2⟩
        · exact .inl rfl
    · rw [if_neg e, h.mem k (by rwa [List.length_set] at hk') y]
      refine and_congr_right fun hd => or_congr_right (and_congr_right fun he => ?_)
      rw [List.mem_append, List.mem_singleton]
      exact ⟨.inl, fun h => h.elim id (fun he => by omega)⟩, fun k hk' => by
    rw [List.getElem_set]
    split
    · exact putL_sorted _ _ (h.srt n hk)
    · exact h.srt k (by rwa [List.length_set] at hk')⟩
theorem DInv.next {next D : List (List Int)} {d : Int} {T : List Int} (h : DInv next D d T) (hT : ∀ k, Rch next (fun x => x ≠ -1) 0 k → k ∈ T) : DInv next D (d + 1) [] :=
  ⟨h.len, fun k hk y => by
    rw [h.mem k hk y]
    refine and_congr_right fun hd => ?_
    constructor
    · rintro (h | ⟨rfl, _⟩)
      · left; omega
      · left; omega
    · rintro (h | ⟨_, h⟩)
      · by_cases e : y = d
        · exact .inr ⟨e, hT _ hd.1⟩
        · left; omega
      · exact absurd h List.not_mem_nil, h.srt⟩
theorem DInv.done {next D : List (List Int)} {T : List Int} (h : DInv next D next.length T) (hr : InR next) (h0 : 0 < next.length) : D.length = next.length ∧ ∀ (k : Nat) (hk : k < D.length) (x : Int), x ∈ D[k] ↔ Dom next k x :=
  ⟨h.len, fun k hk x => (h.mem k hk x).trans ⟨And.left, fun hd => ⟨hd, .inl (dom_range hr h0 hd).2⟩⟩⟩
set_option maxHeartbeats 2000000 in
theorem l7Dominators_calls {F : Nat → Prop} (next : List (List Int)) (v : Value) (w : World) (h : Rp.Rd (Rp.sl Rp.int) w F v next) (h0 : 0 < next.length) (hm : next.length ≤ 1048576) (hr : InR next) :
    Calls Try.prog 46 #[.agg #[v]] w fun e w' => ∃ v' D, e = .returned v' ∧ Ow false 35 (Rp.sl Rp.int) w' (fun k => w.heap.size ≤ k) v' D ∧ Below w.heap.size w w' ∧ Hid (D.length = next.length ∧ ∀ (k : Nat) (hk : k < D.length) (x : Int), x ∈ D[k] ↔ Dom next k x) := by
  replace h := h.bound
  have hmk := mk_all Try.underlying41 infoInts next.length (by omega) (by omega)
  have HI := Lib.hid (DInv.start next hr h0)
  have HR := Lib.hid hr
  have ⟨A, c, he, hlc, hcm, _⟩ := h
  subst he
  clear hr
  go_enter Try.func46, Try.ntmps46
  go_wp2_with fail
  obtain ⟨W1, hW1⟩ : ∃ W1, W1 = w.alloc (Obj.cells #[Value.slice A next.length c] 57) := ⟨_, rfl⟩
  have hs1 : W1.heap.size = w.heap.size + 1 := by rw [hW1]; simp
  have hO := (ow_alloc1 (e := 35) (n := next.length) (r := Rp.sl Rp.int) (z := .slice none 0 0) (x0 := []) W1 (by omega) rfl (fun w => ⟨_, rfl, Rp.Rd.nil _ _ _⟩)).loose
  have hb0 : W1.heap[w.heap.size]? = some (.cells #[Value.slice A next.length c] 57 (0, 0)) := by rw [hW1]; exact heap_alloc_new w _
  have hB : Below w.heap.size w (W1.alloc (.cells (madeCells #[.slice none 0 0] next.length) 35)) := by rw [hW1]; exact (below_new _).alloc (by simp) _
  have hb1 := blk_alloc hb0 (.cells (madeCells #[.slice none 0 0] next.length) 35)
  have hs2 : w.heap.size + 2 ≤ (W1.alloc (.cells (madeCells #[.slice none 0 0] next.length) 35)).heap.size := by simp [hs1]
  rw [hs1] at hO
  rw [← hW1]
  clear hW1 hs1 hb0
  generalize W1.alloc (.cells (madeCells #[.slice none 0 0] next.length) 35) = W2 at *
  refine (l7Without_calls next _ (-1) W2 (h.below hB) h0 hm HR.out).mono ?_
  rintro e W3 ⟨v', R, rfl, HOR, hb3, HQ⟩
  replace HOR := HOR.mono (G := fun q => w.heap.size + 2 ≤ q) (fun q hq => by omega)
  have HO := hO.below hb3
  have HB := below_then hB hb3
  have b1 := blk_below hb1 hb3
  have hs3 := hb3.size
  have hz3 : w.heap.size + 2 ≤ W3.heap.size := by omega
  clear hO hB hb1 hb3 hs2 hs3
  obtain ⟨Av, kv, rfl, hkv, hkm⟩ := HOR.form
  obtain ⟨x1, f1⟩ := cell_of_block b1
  have x10 := x1 0
  simp at x10
  go_wp2
  go_loopw [18] (fun i wr => ∃ (d : Nat) (D : List (List Int)), d ≤ next.length ∧ i = .int .i64 d ∧ Ow false 35 (Rp.sl Rp.int) wr (fun q => w.heap.size + 1 ≤ q) (.slice (some ⟨w.heap.size + 1, 0, none⟩) next.length next.length) D ∧ Ow true 3 Rp.int wr (fun q => w.heap.size + 2 ≤ q) (.slice Av R.length kv) R ∧ Below w.heap.size w wr ∧ wr.heap[w.heap.size]? = some (.cells #[Value.slice A next.length c] 57 (0, 0)) ∧ w.heap.size + 2 ≤ wr.heap.size ∧ Hid (DInv next D d [])) (fun i _ => next.length - (intOf i).toNat)
  case atStart => exact ⟨0, _, Nat.zero_le _, rfl, HO, HOR, HB, b1, hz3, HI⟩
  case round =>
    clear x1 x10 f1 b1 HO HOR HB HI
    obtain ⟨d, D, hd, rfl, HO, HOR, HB, b1, hz, HI⟩ := hrel
    rename World => wo
    obtain ⟨x1, f1⟩ := cell_of_block b1
    have x10 := x1 0
    simp at x10
    by_cases hlt : d < next.length
    · have i0 : (0 : Int) ≤ (d : Int) := Int.natCast_nonneg _
      have i1 : (d : Int) < (next.length : Int) := by omega
      go_wp2_with fail
      refine (l7Without_calls next _ d wo (h.below HB) h0 hm HR.out).mono ?_
      rintro e W4 ⟨v4, Lf, rfl, HOL, hb4, HQ4⟩
      replace HO := HO.below hb4
      replace HOR := HOR.below hb4
      replace HB := below_then HB hb4
      replace b1 := blk_below b1 hb4
      replace HOL := HOL.mono (G := fun q => w.heap.size + 2 ≤ q) (fun q hq => by omega)
      replace hz := Nat.le_trans hz hb4.size
      clear x1 x10 f1 hb4
      obtain ⟨Al, kl, rfl, hkl, hkml⟩ := HOL.form
      go_wp2
      have HI0 := HI
      go_loopw [26] (fun i wr => ∃ (m : Nat) (D : List (List Int)), m ≤ R.length ∧ i = .int .i64 m ∧ Ow false 35 (Rp.sl Rp.int) wr (fun q => w.heap.size + 1 ≤ q) (.slice (some ⟨w.heap.size + 1, 0, none⟩) next.length next.length) D ∧ Ow true 3 Rp.int wr (fun q => w.heap.size + 2 ≤ q) (.slice Av R.length kv) R ∧ Ow true 3 Rp.int wr (fun q => w.heap.size + 2 ≤ q) (.slice Al Lf.length kl) Lf ∧ Below w.heap.size w wr ∧ wr.heap[w.heap.size]? = some (.cells #[Value.slice A next.length c] 57 (0, 0)) ∧ w.heap.size + 2 ≤ wr.heap.size ∧ Hid (DInv next D d (R.take m))) (fun i _ => R.length - (intOf i).toNat)
      case atStart => exact ⟨0, D, Nat.zero_le _, rfl, HO, HOR, HOL, HB, b1, hz, HI⟩
      case round =>
        clear HO HOR HOL HB b1 hz HI HI0
        obtain ⟨m, D, hmR, rfl, HO, HOR, HOL, HB, b1, hz, HI⟩ := hrel
        rename World => wi
        by_cases hmt : m < R.length
        · obtain ⟨_, _, hAe, _, _, hAr⟩ := rd_int HOR.rd
          cases hAe
          rcases hAr with hAr | ⟨b2, o2, rfl, hb2, hc2⟩
          · rw [hAr] at hmt; simp at hmt
          have c2 := hc2 m hmt
          clear hc2
          have hRk := (HQ.out.2 R[m]).1 (List.getElem_mem hmt)
          have hrk := hRk.range (by omega) HR.out
          have htk : R.take (m + 1) = R.take m ++ [R[m]] := List.take_succ_eq_append_getElem hmt
          have HT := Lib.hid htk
          obtain ⟨n, hn⟩ := Int.eq_ofNat_of_zero_le hrk.1
          rw [hn] at c2
          have hRk := Lib.hid hRk
          have HN := Lib.hid hn
          clear hn htk
          have hnl : n < next.length := by have := HN.out; omega
          have hnD : n < D.length := by rw [HI.out.len]; exact hnl
          have i2 : (0 : Int) ≤ (m : Int) := Int.natCast_nonneg _
          have i3 : (m : Int) < (R.length : Int) := by omega
          by_cases h1 : (d : Int) ∈ R
          · have h1' : R.contains (d : Int) = true := by simpa using h1
            have HC1 := l1Has_calls _ R (d : Int) wi HOR.rd
            rw [h1'] at HC1
            replace HC1 := Lib.hid HC1
            by_cases h2 : (n : Int) ∈ Lf
            · have h2' : Lf.contains (n : Int) = true := by simpa using h2
              have HD : Hid (¬ Dom next R[m] d) := Lib.hid (fun hD => hD.2.2 (by rw [HN.out]; exact (HQ4.out.2 n).1 h2))
              clear h1 h1' h2
              go_wp2_with fail
              refine HC1.out.mono ?_
              rintro e w2 ⟨rfl, hb2'⟩
              have HC2 := l1Has_calls _ Lf (n : Int) w2 (HOL.below hb2').rd
              rw [h2'] at HC2
              clear h2'
              go_wp2_with fail
              refine HC2.mono ?_
              clear HC2
              rintro e w3 ⟨rfl, hb3'⟩
              have hbb := below_then hb2' hb3'
              go_wp2
              go_roundw
              case rel => exact ⟨m + 1, D, by omega, by go_num, HO.below hbb, HOR.below hbb, HOL.below hbb, below_then HB hbb, blk_below b1 hbb, Nat.le_trans hz hbb.size, Lib.hid (by rw [HT.out]; exact HI.out.skip HD.out)⟩
              case measure => simp [intOf]; omega
            · have h2' : Lf.contains (n : Int) = false := by simpa using h2
              have HD : Hid (Dom next n d) := Lib.hid ⟨HN.out ▸ hRk.out, (HQ.out.2 d).1 h1, fun hD => h2 ((HQ4.out.2 n).2 hD)⟩
              clear h1 h1' h2
              go_wp2_with fail
              refine HC1.out.mono ?_
              rintro e w2 ⟨rfl, hb2'⟩
              have HC2 := l1Has_calls _ Lf (n : Int) w2 (HOL.below hb2').rd
              rw [h2'] at HC2
              clear h2'
              go_wp2_with fail
              refine HC2.mono ?_
              clear HC2
              rintro e w3 ⟨rfl, hb3'⟩
              have hbb := below_then hb2' hb3'
              have hss := hbb.size
              have HO3 := HO.below hbb
              obtain ⟨u, cu, fu, hu⟩ := HO3.sl_at hnD
              have HDb := HI.out.bound HR.out h0 n hnD
              have HP := l1Put_calls _ D[n] (d : Int) w3 hu (by omega)
              have hi4 : (0 : Int) ≤ (n : Int) := Int.natCast_nonneg _
              have hi5 : (n : Int) < (next.length : Int) := by omega
              replace HP := Lib.hid HP
              obtain ⟨Au, ku, rfl, _⟩ := hu
              go_wp2_with fail
              refine HP.out.mono ?_
              rintro e w4 ⟨v5, rfl, HR5, hb5⟩
              have HO4 := HO3.below hb5
              have fu4 := (HO4.sl_at hnD)
              obtain ⟨u5, cu5, fu5, hu5⟩ := fu4
              have hb6 := below_then hbb hb5
              have hs6 := hb6.size
              have ⟨A5, k5, hv5, _⟩ := HR5
              subst hv5
              clear cu fu hu5
              have HPut := HO4.putS1 rfl hnD (y := putL D[n] d) (u := .slice A5 (putL D[n] d).length k5) ⟨_, rfl, HR5⟩ (fun q hq => by rcases hq with hq | hq; exact hq.2; omega)
              go_wp2
              go_roundw
              case rel => exact ⟨m + 1, _, by omega, by go_num, HPut.mono (fun q hq => by rcases hq with hq | hq | hq; exact hq; exact hq.1; omega), (HOR.below hb6).set_other (by omega), (HOL.below hb6).set_other (by omega), (below_then HB hb6).setCell (by simp) _, blk_set (blk_below b1 hb6) (by simp) _, by simp; omega, Lib.hid (by rw [HT.out, HN.out]; exact HI.out.put hnD HD.out)⟩
              case measure => simp [intOf]; omega
          · have h1' : R.contains (d : Int) = false := by simpa using h1
            have HC1 := l1Has_calls _ R (d : Int) wi HOR.rd
            rw [h1'] at HC1
            replace HC1 := Lib.hid HC1
            have HD : Hid (¬ Dom next R[m] d) := Lib.hid (fun hD => h1 ((HQ.out.2 d).2 hD.2.1))
            clear h1 h1'
            go_wp2_with fail
            refine HC1.out.mono ?_
            rintro e w2 ⟨rfl, hbb⟩
            go_wp2
            go_roundw
            case rel => exact ⟨m + 1, D, by omega, by go_num, HO.below hbb, HOR.below hbb, HOL.below hbb, below_then HB hbb, blk_below b1 hbb, Nat.le_trans hz hbb.size, Lib.hid (by rw [HT.out]; exact HI.out.skip HD.out)⟩
            case measure => simp [intOf]; omega
        · obtain rfl : m = R.length := by omega
          have HN : Hid (DInv next D (d + 1 : Nat) []) := Lib.hid (by have := HI.out; rw [List.take_length] at this; exact this.next (fun k hk => (HQ.out.2 k).2 hk))
          clear HI
          go_wp2
          go_roundw
          case rel => exact ⟨d + 1, D, by omega, by go_num, HO, HOR, HB, b1, hz, HN⟩
          case measure => simp [intOf]; omega
    · obtain rfl : d = next.length := by omega
      have HD : Hid (D.length = next.length ∧ ∀ (k : Nat) (hk : k < D.length) (x : Int), x ∈ D[k] ↔ Dom next k x) := Lib.hid (HI.out.done HR.out h0)
      clear HI
      go_wp2
      go_ret
      exact ⟨_, D, rfl, HO.mono (fun q hq => by omega), HB, HD⟩
end Go.Proofs.Ytmcnoeinjocimaa.L
