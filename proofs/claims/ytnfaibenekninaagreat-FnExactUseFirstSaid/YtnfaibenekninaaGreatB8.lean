/- Joined texts, each of which was built by itself: Sp7 Im3 Rp1. -/
import Derived.Test.YtnfaibenekninaaGreatB7
import Derived.Deep.RegionWith
import Derived.StillTailTactics
import Derived.Test.YtnfaibenekninaaGreatB3
import Derived.Ground.NamesProg
import Derived.WalkKit
import Derived.WalkMore
import Derived.Below
import Derived.Shelf.Bits.Mul64
import Derived.Shelf.Spec.SlicesInsertGrow
import Derived.Laws.IdiomCopy
set_option linter.unusedVariables false
set_option linter.unusedSimpArgs false
namespace Go.Proofs.YtnfaibenekninaaGreat.L
open Go.RowKit
def Dom (next : List (List Int)) (k d : Int) : Prop := Rch next (fun x => x ≠ -1) 0 k ∧ Rch next (fun x => x ≠ -1) 0 d ∧ ¬ Rch next (fun x => x ≠ d) 0 k
theorem putL_sorted (l : List Int) (n : Int) (h : l.Pairwise (· < ·)) : (putL l n).Pairwise (· < ·) := by
  induction l with
  | nil => simp [putL]
  | cons y t ih =>
    rw [List.pairwise_cons] at h
    simp only [putL]
    split
    · rename_i hlt
      rw [List.pairwise_cons]
      exact ⟨fun a ha => by rcases (mem_putL t n a).1 ha with rfl | ha; exact hlt; exact h.1 a ha, ih h.2⟩
    · split
      · exact List.pairwise_cons.2 h
      · rename_i h1 h2
        rw [List.pairwise_cons]
        refine ⟨fun a ha => ?_, List.pairwise_cons.2 h⟩
        rcases List.mem_cons.1 ha with rfl | ha
        · omega
        · have := h.1 a ha; omega
structure DInv (next : List (List Int)) (D : List (List Int)) (d : Int) (T : List Int) : Prop where
  len : D.length = next.length
  mem : ∀ (k : Nat) (hk : k < D.length) (x : Int), x ∈ D[k] ↔ Dom next k x ∧ (x < d ∨ x = d ∧ (k : Int) ∈ T)
  srt : ∀ (k : Nat) (hk : k < D.length), D[k].Pairwise (· < ·)
theorem dom_range {next : List (List Int)} (hr : InR next) (h0 : 0 < next.length) {k d : Int} (h : Dom next k d) : 0 ≤ d ∧ d < next.length := h.2.1.range (by omega) hr
theorem DInv.start (next : List (List Int)) (hr : InR next) (h0 : 0 < next.length) : DInv next (List.replicate next.length []) 0 [] :=
  ⟨List.length_replicate, fun k hk x => by
    simp only [List.getElem_replicate, List.not_mem_nil, and_false, or_false, false_iff]
    rintro ⟨h, h1⟩
    have := dom_range hr h0 h
    omega, fun k hk => by simp⟩
theorem DInv.bound {next D : List (List Int)} {d : Int} {T : List Int} (h : DInv next D d T) (hr : InR next) (h0 : 0 < next.length) (k : Nat) (hk : k < D.length) : D[k].length ≤ next.length :=
  len_nodup_range ((h.srt k hk).imp (fun h => by omega)) (fun x hx => dom_range hr h0 ((h.mem k hk x).1 hx).1)
theorem DInv.skip {next D : List (List Int)} {d : Int} {T : List Int} {x : Int} (h : DInv next D d T) (hn : ¬ Dom next x d) : DInv next D d (T ++ [x]) :=
  ⟨h.len, fun k hk y => by
    rw [h.mem k hk y]
    refine and_congr_right fun hd => or_congr_right (and_congr_right fun he => ?_)
    subst he
    rw [List.mem_append, List.mem_singleton]
    exact ⟨.inl, fun h => h.elim id (fun he => absurd (he ▸ hd) hn)⟩, h.srt⟩
theorem DInv.put {next D : List (List Int)} {d : Int} {T : List Int} {n : Nat} (h : DInv next D d T) (hk : n < D.length) (hd : Dom next n d) : DInv next (D.set n (putL D[n] d)) d (T ++ [(n : Int)]) :=
  ⟨by rw [List.length_set]; exact h.len, fun k hk' y => by
    rw [List.getElem_set]
    by_cases e : n = k
    · subst e
      rw [if_pos rfl, mem_putL, h.mem n hk y]
      constructor
      · rintro (rfl | ⟨h1, h2⟩)
        · exact ⟨hd, .inr ⟨rfl, by simp⟩⟩
        · exact ⟨h1, h2.imp id (fun h => ⟨h.1, List.mem_append.2 (.inl h.2)⟩)⟩
      · rintro ⟨h1, h2 | ⟨rfl, h2⟩⟩
        · exact .inr ⟨h1, .inl h2⟩
        · exact .inl rfl
    · rw [if_neg e, h.mem k (by rwa [List.length_set] at hk') y]
      refine and_congr_right fun hd => or_congr_right (and_congr_right fun he => ?_)
      rw [List.mem_append, List.mem_singleton]
      exact ⟨.inl, fun h => h.elim id (fun he => by omega)⟩, fun k hk' => by
    rw [List.getElem_set]
    split
    · exact putL_sorted _ _ (h.srt n hk)
    · exact h.srt k (by rwa [List.length_set] at hk')⟩
theorem DInv.next {next D : List (List Int)} {d : Int} {T : List Int} (h : DInv next D d T) (hT : ∀ k, Rch next (fun x => x ≠ -1) 0 k → k ∈ T) : DInv next D (d + 1) [] :=
  ⟨h.len, fun k hk y => by
    rw [h.mem k hk y]
    refine and_congr_right fun hd => ?_
    constructor
    · rintro (h | ⟨rfl, _⟩)
      · left; omega
      · left; omega
    · rintro (h | ⟨_, h⟩)
      · by_cases e : y = d
        · exact .inr ⟨e, hT _ hd.1⟩
        · left; omega
      · exact absurd h List.not_mem_nil, h.srt⟩
theorem DInv.done {next D : List (List Int)} {T : List Int} (h : DInv next D next.length T) (hr : InR next) (h0 : 0 < next.length) : D.length = next.length ∧ ∀ (k : Nat) (hk : k < D.length) (x : Int), x ∈ D[k] ↔ Dom next k x :=
  ⟨h.len, fun k hk x => (h.mem k hk x).trans ⟨And.left, fun hd => ⟨hd, .inl (dom_range hr h0 hd).2⟩⟩⟩
set_option maxHeartbeats 2000000 in
theorem l7Dominators_calls {F : Nat → Prop} (next : List (List Int)) (v : Value) (w : World) (h : Rp.Rd (Rp.sl Rp.int) w F v next) (h0 : 0 < next.length) (hm : next.length ≤ 1048576) (hr : InR next) :
    Calls Tryz.prog 51 #[.agg #[v]] w fun e w' => ∃ v' D, e = .returned v' ∧ Ow false 59 (Rp.sl Rp.int) w' (fun k => w.heap.size ≤ k) v' D ∧ Below w.heap.size w w' ∧ Hid (D.length = next.length ∧ ∀ (k : Nat) (hk : k < D.length) (x : Int), x ∈ D[k] ↔ Dom next k x) := by
  replace h := h.bound
  have hmk := mk_all Tryz.underlying64 infoInts next.length (by omega) (by omega)
  have HI := Lib.hid (DInv.start next hr h0)
  have HR := Lib.hid hr
  have ⟨A, c, he, hlc, hcm, _⟩ := h
  subst he
  clear hr
  go_enter Tryz.func51, Tryz.ntmps51
  go_wp2_with fail
  obtain ⟨W1, hW1⟩ : ∃ W1, W1 = w.alloc (Obj.cells #[Value.slice A next.length c] 92) := ⟨_, rfl⟩
  have hs1 : W1.heap.size = w.heap.size + 1 := by rw [hW1]; simp
  have hO := (ow_alloc1 (e := 59) (n := next.length) (r := Rp.sl Rp.int) (z := .slice none 0 0) (x0 := []) W1 (by omega) rfl (fun w => ⟨_, rfl, Rp.Rd.nil _ _ _⟩)).loose
  have hb0 : W1.heap[w.heap.size]? = some (.cells #[Value.slice A next.length c] 92 (0, 0)) := by rw [hW1]; exact heap_alloc_new w _
  have hB : Below w.heap.size w (W1.alloc (.cells (madeCells #[.slice none 0 0] next.length) 59)) := by rw [hW1]; exact (below_new _).alloc (by simp) _
  have hb1 := blk_alloc hb0 (.cells (madeCells #[.slice none 0 0] next.length) 59)
  have hs2 : w.heap.size + 2 ≤ (W1.alloc (.cells (madeCells #[.slice none 0 0] next.length) 59)).heap.size := by simp [hs1]
  rw [hs1] at hO
  rw [← hW1]
  clear hW1 hs1 hb0
  generalize W1.alloc (.cells (madeCells #[.slice none 0 0] next.length) 59) = W2 at *
  refine (l7Without_calls next _ (-1) W2 (h.below hB) h0 hm HR.out).mono ?_
  rintro e W3 ⟨v', R, rfl, HOR, hb3, HQ⟩
  replace HOR := HOR.mono (G := fun q => w.heap.size + 2 ≤ q) (fun q hq => by omega)
  have HO := hO.below hb3
  have HB := below_then hB hb3
  have b1 := blk_below hb1 hb3
  have hs3 := hb3.size
  have hz3 : w.heap.size + 2 ≤ W3.heap.size := by omega
  clear hO hB hb1 hb3 hs2 hs3
  obtain ⟨Av, kv, rfl, hkv, hkm⟩ := HOR.form
  obtain ⟨x1, f1⟩ := cell_of_block b1
  have x10 := x1 0
  simp at x10
  go_wp2
  go_loopw [18] (fun i wr => ∃ (d : Nat) (D : List (List Int)), d ≤ next.length ∧ i = .int .i64 d ∧ Ow false 59 (Rp.sl Rp.int) wr (fun q => w.heap.size + 1 ≤ q) (.slice (some ⟨w.heap.size + 1, 0, none⟩) next.length next.length) D ∧ Ow true 3 Rp.int wr (fun q => w.heap.size + 2 ≤ q) (.slice Av R.length kv) R ∧ Below w.heap.size w wr ∧ wr.heap[w.heap.size]? = some (.cells #[Value.slice A next.length c] 92 (0, 0)) ∧ w.heap.size + 2 ≤ wr.heap.size ∧ Hid (DInv next D d [])) (fun i _ => next.length - (intOf i).toNat)
  case atStart => exact ⟨0, _, Nat.zero_le _, rfl, HO, HOR, HB, b1, hz3, HI⟩
  case round =>
    clear x1 x10 f1 b1 HO HOR HB HI
    obtain ⟨d, D, hd, rfl, HO, HOR, HB, b1, hz, HI⟩ := hrel
    rename World => wo
    obtain ⟨x1, f1⟩ := cell_of_block b1
    have x10 := x1 0
    simp at x10
    by_cases hlt : d < next.length
    · have i0 : (0 : Int) ≤ (d : Int) := Int.natCast_nonneg _
      have i1 : (d : Int) < (next.length : Int) := by omega
      go_wp2_with fail
      refine (l7Without_calls next _ d wo (h.below HB) h0 hm HR.out).mono ?_
      rintro e W4 ⟨v4, Lf, rfl, HOL, hb4, HQ4⟩
      replace HO := HO.below hb4
      replace HOR := HOR.below hb4
      replace HB := below_then HB hb4
      replace b1 := blk_below b1 hb4
      replace HOL := HOL.mono (G := fun q => w.heap.size + 2 ≤ q) (fun q hq => by omega)
      replace hz := Nat.le_trans hz hb4.size
      clear x1 x10 f1 hb4
      obtain ⟨Al, kl, rfl, hkl, hkml⟩ := HOL.form
      go_wp2
      have HI0 := HI
      go_loopw [26] (fun i wr => ∃ (m : Nat) (D : List (List Int)), m ≤ R.length ∧ i = .int .i64 m ∧ Ow false 59 (Rp.sl Rp.int) wr (fun q => w.heap.size + 1 ≤ q) (.slice (some ⟨w.heap.size + 1, 0, none⟩) next.length next.length) D ∧ Ow true 3 Rp.int wr (fun q => w.heap.size + 2 ≤ q) (.slice Av R.length kv) R ∧ Ow true 3 Rp.int wr (fun q => w.heap.size + 2 ≤ q) (.slice Al Lf.length kl) Lf ∧ Below w.heap.size w wr ∧ wr.heap[w.heap.size]? = some (.cells #[Value.slice A next.length c] 92 (0, 0)) ∧ w.heap.size + 2 ≤ wr.heap.size ∧ Hid (DInv next D d (R.take m))) (fun i _ => R.length - (intOf i).toNat)
      case atStart => exact ⟨0, D, Nat.zero_le _, rfl, HO, HOR, HOL, HB, b1, hz, HI⟩
      case round =>
        clear HO HOR HOL HB b1 hz HI HI0
        obtain ⟨m, D, hmR, rfl, HO, HOR, HOL, HB, b1, hz, HI⟩ := hrel
        rename World => wi
        by_cases hmt : m < R.length
        · obtain ⟨_, _, hAe, _, _, hAr⟩ := rd_int HOR.rd
          cases hAe
          rcases hAr with hAr | ⟨b2, o2, rfl, hb2, hc2⟩
          · rw [hAr] at hmt; simp at hmt
          have c2 := hc2 m hmt
          clear hc2
          have hRk := (HQ.out.2 R[m]).1 (List.getElem_mem hmt)
          have hrk := hRk.range (by omega) HR.out
          have htk : R.take (m + 1) = R.take m ++ [R[m]] := List.take_succ_eq_append_getElem hmt
          have HT := Lib.hid htk
          obtain ⟨n, hn⟩ := Int.eq_ofNat_of_zero_le hrk.1
          rw [hn] at c2
          have hRk := Lib.hid hRk
          have HN := Lib.hid hn
          clear hn htk
          have hnl : n < next.length := by have := HN.out; omega
          have hnD : n < D.length := by rw [HI.out.len]; exact hnl
          have i2 : (0 : Int) ≤ (m : Int) := Int.natCast_nonneg _
          have i3 : (m : Int) < (R.length : Int) := by omega
          by_cases h1 : (d : Int) ∈ R
          · have h1' : R.contains (d : Int) = true := by simpa using h1
            have HC1 := l1Has_calls _ R (d : Int) wi HOR.rd
            rw [h1'] at HC1
            replace HC1 := Lib.hid HC1
            by_cases h2 : (n : Int) ∈ Lf
            · have h2' : Lf.contains (n : Int) = true := by simpa using h2
              have HD : Hid (¬ Dom next R[m] d) := Lib.hid (fun hD => hD.2.2 (by rw [HN.out]; exact (HQ4.out.2 n).1 h2))
              clear h1 h1' h2
              go_wp2_with fail
              refine HC1.out.mono ?_
              rintro e w2 ⟨rfl, hb2'⟩
              have HC2 := l1Has_calls _ Lf (n : Int) w2 (HOL.below hb2').rd
              rw [h2'] at HC2
              clear h2'
              go_wp2_with fail
              refine HC2.mono ?_
              clear HC2
              rintro e w3 ⟨rfl, hb3'⟩
              have hbb := below_then hb2' hb3'
              go_wp2
              go_roundw
              case rel => exact ⟨m + 1, D, by omega, by go_num, HO.below hbb, HOR.below hbb, HOL.below hbb, below_then HB hbb, blk_below b1 hbb, Nat.le_trans hz hbb.size, Lib.hid (by rw [HT.out]; exact HI.out.skip HD.out)⟩
              case measure => simp [intOf]; omega
            · have h2' : Lf.contains (n : Int) = false := by simpa using h2
              have HD : Hid (Dom next n d) := Lib.hid ⟨HN.out ▸ hRk.out, (HQ.out.2 d).1 h1, fun hD => h2 ((HQ4.out.2 n).2 hD)⟩
              clear h1 h1' h2
              go_wp2_with fail
              refine HC1.out.mono ?_
              rintro e w2 ⟨rfl, hb2'⟩
              have HC2 := l1Has_calls _ Lf (n : Int) w2 (HOL.below hb2').rd
              rw [h2'] at HC2
              clear h2'
              go_wp2_with fail
              refine HC2.mono ?_
              clear HC2
              rintro e w3 ⟨rfl, hb3'⟩
              have hbb := below_then hb2' hb3'
              have hss := hbb.size
              have HO3 := HO.below hbb
              obtain ⟨u, cu, fu, hu⟩ := HO3.sl_at hnD
              have HDb := HI.out.bound HR.out h0 n hnD
              have HP := l1Put_calls _ D[n] (d : Int) w3 hu (by omega)
              have hi4 : (0 : Int) ≤ (n : Int) := Int.natCast_nonneg _
              have hi5 : (n : Int) < (next.length : Int) := by omega
              replace HP := Lib.hid HP
              obtain ⟨Au, ku, rfl, _⟩ := hu
              go_wp2_with fail
              refine HP.out.mono ?_
              rintro e w4 ⟨v5, rfl, HR5, hb5⟩
              have HO4 := HO3.below hb5
              have fu4 := (HO4.sl_at hnD)
              obtain ⟨u5, cu5, fu5, hu5⟩ := fu4
              have hb6 := below_then hbb hb5
              have hs6 := hb6.size
              have ⟨A5, k5, hv5, _⟩ := HR5
              subst hv5
              clear cu fu hu5
              have HPut := HO4.putS1 rfl hnD (y := putL D[n] d) (u := .slice A5 (putL D[n] d).length k5) ⟨_, rfl, HR5⟩ (fun q hq => by rcases hq with hq | hq; exact hq.2; omega)
              go_wp2
              go_roundw
              case rel => exact ⟨m + 1, _, by omega, by go_num, HPut.mono (fun q hq => by rcases hq with hq | hq | hq; exact hq; exact hq.1; omega), (HOR.below hb6).set_other (by omega), (HOL.below hb6).set_other (by omega), (below_then HB hb6).setCell (by simp) _, blk_set (blk_below b1 hb6) (by simp) _, by simp; omega, Lib.hid (by rw [HT.out, HN.out]; exact HI.out.put hnD HD.out)⟩
              case measure => simp [intOf]; omega
          · have h1' : R.contains (d : Int) = false := by simpa using h1
            have HC1 := l1Has_calls _ R (d : Int) wi HOR.rd
            rw [h1'] at HC1
            replace HC1 := Lib.hid HC1
            have HD : Hid (¬ Dom next R[m] d) := Lib.hid (fun hD => h1 ((HQ.out.2 d).2 hD.2.1))
            clear h1 h1'
            go_wp2_with fail
            refine HC1.out.mono ?_
            rintro e w2 ⟨rfl, hbb⟩
            go_wp2
            go_roundw
            case rel => exact ⟨m + 1, D, by omega, by go_num, HO.below hbb, HOR.below hbb, HOL.below hbb, below_then HB hbb, blk_below b1 hbb, Nat.le_trans hz hbb.size, Lib.hid (by rw [HT.out]; exact HI.out.skip HD.out)⟩
            case measure => simp [intOf]; omega
        · obtain rfl : m = R.length := by omega
          have HN : Hid (DInv next D (d + 1 : Nat) []) := Lib.hid (by have := HI.out; rw [List.take_length] at this; exact this.next (fun k hk => (HQ.out.2 k).2 hk))
          clear HI
          go_wp2
          go_roundw
          case rel => exact ⟨d + 1, D, by omega, by go_num, HO, HOR, HB, b1, hz, HN⟩
          case measure => simp [intOf]; omega
    · obtain rfl : d = next.length := by omega
      have HD : Hid (D.length = next.length ∧ ∀ (k : Nat) (hk : k < D.length) (x : Int), x ∈ D[k] ↔ Dom next k x) := Lib.hid (HI.out.done HR.out h0)
      clear HI
      go_wp2
      go_ret
      exact ⟨_, D, rfl, HO.mono (fun q hq => by omega), HB, HD⟩
end Go.Proofs.YtnfaibenekninaaGreat.L

set_option linter.unusedVariables false
set_option linter.unusedSimpArgs false
namespace Go.Proofs.YtnfaibenekninaaGreat.L
open Go.RowKit
theorem infoBools : (Tryz.prog.info? 108).map (fun i => (i.zero, i.size, i.bytes)) = some (some (.slice none 0 0), 1, 24) := by kernel_rfl
/-- A matrix holds a truth at a place. -/
def Mt (M : List (List Bool)) (b x : Nat) : Prop := ∃ row, M[b]? = some row ∧ row[x]? = some true
structure MInv (next : List (List Int)) (M : List (List Bool)) (k j : Nat) : Prop where
  len : M.length = next.length
  row : ∀ (b : Nat) (hb : b < M.length), M[b].length = next.length
  mt : ∀ b x : Nat, Mt M b x ↔ Dom next b x ∧ (x < k ∨ x = k ∧ b < j)
theorem rch_all {next : List (List Int)} (hr : InR next) (h0 : 0 < next.length) {k : Int} : Rch next (fun x => x ∉ ([] : List Int)) 0 k ↔ Rch next (fun x => x ≠ -1) 0 k := by
  constructor
  · intro h
    induction h with
    | start _ => exact .start (by decide)
    | @step k x l h1 h2 h3 h4 h5 ih => exact .step ih h2 h3 h4 (by have := hr l (List.mem_of_getElem? h3) x h4; omega)
  · exact Rch.mono (fun _ _ => List.not_mem_nil)
theorem rch_one {next : List (List Int)} {d k : Int} : Rch next (fun x => x ∉ [d]) 0 k ↔ Rch next (fun x => x ≠ d) 0 k :=
  ⟨Rch.mono (fun x h => by simpa using h), Rch.mono (fun x h => by simpa using h)⟩
theorem MInv.start (next : List (List Int)) (hr : InR next) (h0 : 0 < next.length) : MInv next (List.replicate next.length (List.replicate next.length false)) 0 0 :=
  ⟨List.length_replicate, fun b hb => by rw [List.getElem_replicate, List.length_replicate], fun b x => by
    constructor
    · rintro ⟨row, h1, h2⟩
      rw [List.getElem?_replicate] at h1
      split at h1 <;> cases h1
      rw [List.getElem?_replicate] at h2
      split at h2 <;> cases h2
    · rintro ⟨hd, h⟩
      have := dom_range hr h0 hd
      omega⟩
theorem MInv.skip {next : List (List Int)} {M : List (List Bool)} {k : Nat} (h : MInv next M k 0) (hn : ¬ Rch next (fun x => x ≠ -1) 0 k) : MInv next M (k + 1) 0 :=
  ⟨h.len, h.row, fun b x => by
    rw [h.mt]
    refine and_congr_right fun hd => ?_
    constructor
    · intro h; omega
    · intro h
      by_cases hx : x = k
      · subst hx; exact absurd hd.2.1 hn
      · omega⟩
theorem MInv.next {next : List (List Int)} {M : List (List Bool)} {k : Nat} (h : MInv next M k next.length) (hr : InR next) (h0 : 0 < next.length) : MInv next M (k + 1) 0 :=
  ⟨h.len, h.row, fun b x => by
    rw [h.mt]
    refine and_congr_right fun hd => ?_
    have := hd.1.range (by omega) hr
    constructor
    · intro h; omega
    · intro h; omega⟩
theorem MInv.put {next : List (List Int)} {M : List (List Bool)} {k j : Nat} (h : MInv next M k j) (hj : j < M.length) (hk : k < next.length) {y : Bool} (hy : y = true ↔ Dom next j k) : MInv next (M.set j (M[j].set k y)) k (j + 1) :=
  ⟨by rw [List.length_set]; exact h.len, fun b hb => by
    rw [List.getElem_set]
    split
    · rw [List.length_set]; exact h.row j hj
    · exact h.row b (by rwa [List.length_set] at hb), fun b x => by
    have hm := h.mt b x
    have hrl := h.row j hj
    unfold Mt at hm ⊢
    rw [List.getElem?_set]
    by_cases e : j = b
    · subst e
      rw [if_pos rfl, if_pos hj]
      rw [List.getElem?_eq_getElem hj] at hm
      simp only [Option.some.injEq, exists_eq_left'] at hm ⊢
      rw [List.getElem?_set]
      by_cases e2 : k = x
      · subst e2
        rw [if_pos rfl, if_pos (by rw [hrl]; exact hk)]
        simp only [Option.some.injEq]
        rw [hy]
        constructor
        · intro h; exact ⟨h, .inr ⟨trivial, Nat.lt_succ_self _⟩⟩
        · exact And.left
      · rw [if_neg e2, hm]
        refine and_congr_right fun hd => ?_
        omega
    · rw [if_neg e, hm]
      refine and_congr_right fun hd => ?_
      omega⟩
theorem MInv.done {next : List (List Int)} {M : List (List Bool)} (h : MInv next M next.length 0) (hr : InR next) (h0 : 0 < next.length) (b x : Nat) : Mt M b x ↔ Dom next b x :=
  (h.mt b x).trans ⟨And.left, fun hd => ⟨hd, .inl (by have := dom_range hr h0 hd; omega)⟩⟩
set_option maxRecDepth 100000 in
set_option maxHeartbeats 4000000 in
theorem dominators_calls {F : Nat → Prop} (next : List (List Int)) (v : Value) (w : World) (h : Rp.Rd (Rp.sl Rp.int) w F v next) (h0 : 0 < next.length) (hm : next.length ≤ 1048576) (hr : InR next) :
    Calls Tryz.prog 62 #[v] w fun e w' => ∃ v' M, e = .returned v' ∧ Ow true 108 (Rp.ow true 4 Rp.bool) w' (fun k => w.heap.size ≤ k) v' M ∧ Below w.heap.size w w' ∧ Hid (M.length = next.length ∧ (∀ (b : Nat) (hb : b < M.length), M[b].length = next.length) ∧ ∀ b x : Nat, Mt M b x ↔ Dom next b x) := by
  replace h := h.bound
  have hmk := mk_all Tryz.underlying103 infoBools next.length (by omega) (by omega)
  have hmk2 := mk_all Tryz.underlying108 infoBool next.length (by omega) (by omega)
  have HR := Lib.hid hr
  have ⟨A, c, he, hlc, hcm, _⟩ := h
  subst he
  have HC := Lib.hid (fun (W : World) (hW : Below w.heap.size w W) => reach_calls next _ _ 0 [] W (h.below hW) (Rp.Rd.nil Rp.int W (fun _ => False)) (by omega) (by omega) hm hr)
  clear hr
  go_enter Tryz.func62, Tryz.ntmps62
  go_wp2_with fail
  have mixed : Tryz.prog.follows Departure.mixedOrders = true := by kernel_rfl
  go_region_with (go_at_call 64; refine (HC.out _ (by first | exact Below.refl _ _ | exact below_drew (Below.refl _ _) | exact (below_drew (Below.refl _ _)).alloc (by simp) _)).mono ?_; rintro e w1 ⟨va, B, rfl, HOA, hb1, HB1⟩)
  · have hO := (ow_alloc1 (e := 108) (n := next.length) (r := Rp.ow true 4 Rp.bool) (z := .slice none 0 0) (x0 := []) w (by omega) rfl (fun w => ⟨_, rfl, Ow.nil _ _ _ _ _⟩)).bound
    have hb2 := below_then (below_drew (Below.refl _ _)) hb1
    have hz2 := hb2.size
    simp at hz2
    have HO := (hO.mono (G := fun q => q = w.heap.size) (fun q hq => by have h1 := hq.1; have h2 := hq.2; simp at h2; omega)).below hb2
    have HB : Below w.heap.size w w1 := below_then (below_new _) hb2
    obtain ⟨Gb, hGb⟩ : ∃ Gb, Gb = w.heap.size := ⟨_, rfl⟩
    have hG1 : w.heap.size ≤ Gb := by omega
    have hG2 : Gb < w1.heap.size := by omega
    have HOA := HOA.mono (G := fun q => w.heap.size ≤ q ∧ q ≠ Gb) (fun q hq => by simp at hq; omega)
    rw [← hGb] at HO
    have HG := Lib.hid hGb
    clear hb1 hb2 hO hz2
    obtain ⟨Aa, ka, rfl, _, _⟩ := HOA.form
    go_wp2
    rw [← HG.out]
    clear hGb HG
    obtain ⟨S, hS⟩ : ∃ S, S = w1.heap.size := ⟨_, rfl⟩
    have HOA := HOA.bound
    rw [← hS] at HOA hG2
    have hS2 : S ≤ w1.heap.size := by omega
    have HO := HO.mono (G := fun q => q = Gb ∨ S ≤ q) (fun q hq => .inl hq)
    clear hS
    go_loopw [17] (fun i wr => ∃ k : Nat, k ≤ next.length ∧ i = .int .i64 k ∧ Ow true 108 (Rp.ow true 4 Rp.bool) wr (fun q => q = Gb ∨ S ≤ q) (.slice (some ⟨Gb, 0, none⟩) next.length next.length) (List.replicate k (List.replicate next.length false) ++ List.replicate (next.length - k) []) ∧ Ow true 4 Rp.bool wr (fun q => (w.heap.size ≤ q ∧ q ≠ Gb) ∧ q < S) (.slice Aa B.length ka) B ∧ Below w.heap.size w wr ∧ S ≤ wr.heap.size) (fun i _ => next.length - (intOf i).toNat)
    case atStart => exact ⟨0, Nat.zero_le _, rfl, by simpa using HO, HOA, HB, hS2⟩
    case round =>
      clear HO HOA HB hS2
      obtain ⟨k, hk, rfl, HO, HOA, HB, hS2⟩ := hrel
      rename World => wo
      by_cases hlt : k < next.length
      · have hkl : k < (List.replicate k (List.replicate next.length false) ++ List.replicate (next.length - k) ([] : List Bool)).length := by rw [List.length_append, List.length_replicate, List.length_replicate]; omega
        have HE : Hid ((List.replicate k (List.replicate next.length false) ++ List.replicate (next.length - k) ([] : List Bool)).set k (List.replicate next.length false) = List.replicate (k + 1) (List.replicate next.length false) ++ List.replicate (next.length - (k + 1)) []) := Lib.hid (by
          rw [List.set_append_right _ _ (by rw [List.length_replicate]; exact Nat.le_refl _), List.length_replicate, Nat.sub_self]
          obtain ⟨d, hd⟩ : ∃ d, next.length - k = d + 1 := ⟨next.length - (k + 1), by omega⟩
          rw [hd, show next.length - (k + 1) = d by omega, List.replicate_succ' (n := k), List.append_assoc]
          rfl)
        have hO2 := ow_alloc1 (e := 4) (n := next.length) (r := Rp.bool) (z := .bool false) (x0 := false) wo (by omega) rfl (fun w => rfl)
        have HO1 := HO.bound.below (below_new (.cells (madeCells #[.bool false] next.length) 4))
        obtain ⟨_, u, cu, fu, -⟩ := HO1.focus hkl
        have HP := (HO1.put1 rfl hkl (y := List.replicate next.length false) (u := .slice (some ⟨wo.heap.size, 0, none⟩) next.length next.length) ⟨_, rfl, hO2⟩ (fun q hq h => by have := h.2; omega)).mono (G := fun q => q = Gb ∨ S ≤ q) (fun q hq => by rcases hq with hq | hq; exact hq.1; right; omega)
        rw [HE.out] at HP
        have HOA1 := (HOA.below (below_new (.cells (madeCells #[.bool false] next.length) 4))).set_other (b := Gb) (o := k) (u := .slice (some ⟨wo.heap.size, 0, none⟩) next.length next.length) (fun h => h.1.2 rfl)
        have HB1' : Below w.heap.size w ((wo.alloc (.cells (madeCells #[.bool false] next.length) 4)).setCell ⟨Gb, k, none⟩ (.slice (some ⟨wo.heap.size, 0, none⟩) next.length next.length)) := (HB.alloc HB.size _).setCell (by simpa using hG1) _
        have i0 : (0 : Int) ≤ (k : Int) := Int.natCast_nonneg _
        have i1 : (k : Int) < (next.length : Int) := by omega
        clear hO2 HO1 HE hkl HO HOA
        replace HP := Lib.hid HP
        replace HOA1 := Lib.hid HOA1
        go_wp2
        go_roundw
        case rel => exact ⟨k + 1, by omega, by go_num, HP.out, HOA1.out, HB1', by simp; omega⟩
        case measure => simp [intOf]; omega
      · obtain rfl : k = next.length := by omega
        rw [Nat.sub_self, List.replicate_zero, List.append_nil] at HO
        have HM := Lib.hid (MInv.start next HR.out h0)
        have HBl := Lib.hid HB1.out.1
        have hBl2 : next.length ≤ B.length := by rw [HBl.out]; exact Nat.le_refl _
        have hBl3 : B.length ≤ next.length := by rw [HBl.out]; exact Nat.le_refl _
        clear hk hlt
        generalize List.replicate next.length (List.replicate next.length false) = M0 at *
        go_wp2
        go_loopw [29] (fun i wr => ∃ (k : Nat) (M : List (List Bool)), k ≤ B.length ∧ i = .int .i64 k ∧ Ow true 108 (Rp.ow true 4 Rp.bool) wr (fun q => q = Gb ∨ S ≤ q) (.slice (some ⟨Gb, 0, none⟩) next.length next.length) M ∧ Ow true 4 Rp.bool wr (fun q => (w.heap.size ≤ q ∧ q ≠ Gb) ∧ q < S) (.slice Aa B.length ka) B ∧ Below w.heap.size w wr ∧ S ≤ wr.heap.size ∧ Hid (MInv next M k 0)) (fun i _ => B.length - (intOf i).toNat)
        case atStart => exact ⟨0, M0, Nat.zero_le _, rfl, HO, HOA, HB, hS2, HM⟩
        case round =>
          clear HO HOA HB hS2 HM
          obtain ⟨k, M, hk, rfl, HO, HOA, HB, hS2, HM⟩ := hrel
          rename World => wk
          by_cases hlt : k < B.length
          · obtain ⟨ga, rfl⟩ : ∃ ga, Aa = some ⟨ga, 0, none⟩ := by
              obtain ⟨g, c', cs, he, _⟩ := HOA.at_ (List.getElem?_eq_getElem hlt)
              injection he with he _ _
              exact ⟨g, he⟩
            obtain ⟨cB, fB⟩ := bool_at HOA hlt
            have hkn : k < next.length := by omega
            have HBk : Hid (B[k] = true ↔ Rch next (fun x => x ≠ -1) 0 k) := Lib.hid (by rw [← on_iff hlt, HB1.out.2, rch_all HR.out h0])
            have i0 : (0 : Int) ≤ (k : Int) := Int.natCast_nonneg _
            have i1 : (k : Int) < (B.length : Int) := by omega
            generalize hbk : B[k] = bk at *
            cases bk
            · have HS1 := Lib.hid (HM.out.skip (fun h => by have := HBk.out.2 h; cases this))
              clear hbk HBk
              go_wp2
              go_roundw
              case rel => exact ⟨k + 1, M, by omega, by go_num, HO, HOA, HB, hS2, HS1⟩
              case measure => simp [intOf]; omega
            · have HRk := Lib.hid (HBk.out.1 rfl)
              clear hbk HBk
              have hb1 := below_new (w := wk) (.cells #[.int .i64 (k : Int)] 3)
              have hlit : Ow true 3 Rp.int (wk.alloc (.cells #[.int .i64 (k : Int)] 3)) (fun _ => True) (.slice (some ⟨wk.heap.size, 0, none⟩) 1 1) [(k : Int)] := (ow_intsG rfl (Nat.zero_le _) [(k : Int)] _ rfl (by simp)).mono (fun _ _ => trivial)
              have HCk := reach_calls next _ _ 0 [(k : Int)] (wk.alloc (.cells #[.int .i64 (k : Int)] 3)) ((h.below HB).below hb1) hlit.rd (by omega) (by omega) hm HR.out
              go_wp2_with fail
              refine HCk.mono ?_
              clear HCk hlit
              rintro e w5 ⟨vl, B2, rfl, HOL, hb5, HB2⟩
              have hb6 := below_then hb1 hb5
              have HO5 := HO.bound.below hb6
              have HOA5 := HOA.below hb6
              have HB5 := below_then HB hb6
              have hz5 := hb6.size
              have HOL := HOL.mono (G := fun q => wk.heap.size ≤ q) (fun q hq => by simp at hq; omega)
              have hB2l : next.length ≤ B2.length := by rw [HB2.out.1]; exact Nat.le_refl _
              obtain ⟨gl, kl, hvl⟩ : ∃ gl kl, vl = .slice (some ⟨gl, 0, none⟩) B2.length kl := by
                obtain ⟨g, c', cs, he, _⟩ := HOL.at_ (List.getElem?_eq_getElem (show k < B2.length by omega))
                exact ⟨g, c', he⟩
              subst hvl
              have hgl := own_in HOL (k := gl) (.inr rfl)
              clear HO HOA HB hb1 hb5 hb6
              go_wp2
              go_loopw [42] (fun i wr => ∃ (j : Nat) (M : List (List Bool)), j ≤ next.length ∧ i = .int .i64 j ∧ Ow true 108 (Rp.ow true 4 Rp.bool) wr (fun q => (q = Gb ∨ S ≤ q) ∧ q < wk.heap.size) (.slice (some ⟨Gb, 0, none⟩) next.length next.length) M ∧ Ow true 4 Rp.bool wr (fun q => (w.heap.size ≤ q ∧ q ≠ Gb) ∧ q < S) (.slice (some ⟨ga, 0, none⟩) B.length ka) B ∧ Ow true 4 Rp.bool wr (fun q => wk.heap.size ≤ q) (.slice (some ⟨gl, 0, none⟩) B2.length kl) B2 ∧ Below w.heap.size w wr ∧ wk.heap.size ≤ wr.heap.size ∧ Hid (MInv next M k j)) (fun i _ => next.length - (intOf i).toNat)
              case atStart => exact ⟨0, M, Nat.zero_le _, rfl, HO5, HOA5, HOL, HB5, hz5, HM⟩
              case round =>
                clear HO5 HOA5 HOL HB5 HM
                obtain ⟨j, M, hj, rfl, HO, HOA, HOL, HB, hz, HM⟩ := hrel
                rename World => wi
                by_cases hjt : j < next.length
                · have hjM : j < M.length := by rw [HM.out.len]; exact hjt
                  have hjB : j < B.length := by omega
                  have hjB2 : j < B2.length := by omega
                  have hrow := HM.out.row j hjM
                  have hkr : k < M[j].length := by rw [hrow]; exact hkn
                  obtain ⟨cBj, fBj⟩ := bool_at HOA hjB
                  obtain ⟨cLj, fLj⟩ := bool_at HOL hjB2
                  obtain ⟨G, u, cu, fu, hGF, HOu, hback⟩ := HO.focus hjM
                  obtain ⟨g2, k2, hu2⟩ : ∃ g2 k2, u = .slice (some ⟨g2, 0, none⟩) M[j].length k2 := by
                    obtain ⟨g, c', cs, he, _⟩ := HOu.at_ (List.getElem?_eq_getElem hkr)
                    exact ⟨g, c', he⟩
                  subst hu2
                  have hg2 := hGF g2 (own_in HOu (k := g2) (.inr rfl))
                  obtain ⟨cM, fM⟩ := bool_at HOu hkr
                  have HBj : Hid ((B[j] = true ↔ Rch next (fun x => x ≠ -1) 0 j) ∧ (B2[j] = true ↔ Rch next (fun x => x ≠ (k : Int)) 0 j)) := Lib.hid ⟨by rw [← on_iff hjB, HB1.out.2, rch_all HR.out h0], by rw [← on_iff hjB2, HB2.out.2, rch_one]⟩
                  have HPut : ∀ y : Bool, (y = true ↔ Dom next j k) → Hid (Ow true 108 (Rp.ow true 4 Rp.bool) (wi.drew.setCell ⟨g2, k, none⟩ (.bool y)) (fun q => (q = Gb ∨ S ≤ q) ∧ q < wk.heap.size) (.slice (some ⟨Gb, 0, none⟩) next.length next.length) (M.set j (M[j].set k y)) ∧ MInv next (M.set j (M[j].set k y)) k (j + 1)) := fun y hy => Lib.hid ⟨hback _ _ (fun q hq hnG => heap_setCell_other wi.drew ⟨g2, k, none⟩ q _ (fun he => hnG (by have he : q = g2 := he; rw [he]; exact own_in HOu (.inr rfl)))) ((HOu.move (w' := wi.drew) (fun _ _ _ => rfl)).set1 rfl hkr rfl), HM.out.put hjM hkn hy⟩
                  have HPut := Lib.hid HPut
                  have hrow2 := Lib.hid hrow
                  have hML : M[j].length ≤ next.length := by omega
                  have hML2 : next.length ≤ M[j].length := by omega
                  have j0 : (0 : Int) ≤ (j : Int) := Int.natCast_nonneg _
                  have j1 : (j : Int) < (next.length : Int) := by omega
                  have j2 : (j : Int) < (B.length : Int) := by omega
                  have j3 : (j : Int) < (B2.length : Int) := by omega
                  have j4 : (k : Int) < (M[j].length : Int) := by omega
                  have hB7 : ∀ y : Bool, Below w.heap.size w (wi.drew.setCell ⟨g2, k, none⟩ (.bool y)) := fun y => (below_drew HB).setCell (by have := hg2.1.1; simp; omega) _
                  have hA7 : ∀ y : Bool, Ow true 4 Rp.bool (wi.drew.setCell ⟨g2, k, none⟩ (.bool y)) (fun q => (w.heap.size ≤ q ∧ q ≠ Gb) ∧ q < S) (.slice (some ⟨ga, 0, none⟩) B.length ka) B := fun y => (HOA.move (w' := wi.drew) (fun _ _ _ => rfl)).set_other (fun h => by have := hg2.1.1; have := hg2.2; have := h.1.2; have := h.2; omega)
                  have hL7 : ∀ y : Bool, Ow true 4 Rp.bool (wi.drew.setCell ⟨g2, k, none⟩ (.bool y)) (fun q => wk.heap.size ≤ q) (.slice (some ⟨gl, 0, none⟩) B2.length kl) B2 := fun y => (HOL.move (w' := wi.drew) (fun _ _ _ => rfl)).set_other (fun h => by have := hg2.1.2; omega)
                  have hB7 := Lib.hid hB7
                  have hA7 := Lib.hid hA7
                  have hL7 := Lib.hid hL7
                  clear hback HOu hrow HO HOA HOL HM hGF
                  obtain ⟨lj, hlj⟩ : ∃ lj, lj = M[j].length := ⟨_, rfl⟩
                  rw [← hlj] at cu j4
                  have hlj := Lib.hid hlj
                  generalize M[j][k] = y0 at *
                  generalize hb1 : B[j] = b1 at *
                  generalize hb2 : B2[j] = b2 at *
                  cases b1
                  · have HF := Lib.hid (HPut.out false ⟨fun h => Bool.noConfusion h, fun h => by have := HBj.out.1.2 h.1; cases this⟩)
                    clear hb1 hb2 HBj HPut
                    go_wp2
                    go_region
                    have hT := HF.out
                    go_wp2
                    go_roundw
                    case rel => exact ⟨j + 1, _, by omega, by go_num, HF.out.1, hA7.out _, hL7.out _, hB7.out _, by simpa using hz, Lib.hid HF.out.2⟩
                    case measure => simp [intOf]; omega
                  · cases b2
                    · have HF := Lib.hid (HPut.out true ⟨fun _ => ⟨HBj.out.1.1 rfl, HRk.out, fun h => by have := HBj.out.2.2 h; cases this⟩, fun _ => rfl⟩)
                      clear hb1 hb2 HBj HPut
                      go_wp2
                      go_region
                      go_wp2
                      go_roundw
                      case rel => exact ⟨j + 1, _, by omega, by go_num, HF.out.1, hA7.out _, hL7.out _, hB7.out _, by simpa using hz, Lib.hid HF.out.2⟩
                      case measure => simp [intOf]; omega
                    · have HF := Lib.hid (HPut.out false ⟨fun h => Bool.noConfusion h, fun h => absurd (HBj.out.2.1 rfl) h.2.2⟩)
                      clear hb1 hb2 HBj HPut
                      go_wp2
                      go_region
                      go_wp2
                      go_roundw
                      case rel => exact ⟨j + 1, _, by omega, by go_num, HF.out.1, hA7.out _, hL7.out _, hB7.out _, by simpa using hz, Lib.hid HF.out.2⟩
                      case measure => simp [intOf]; omega
                · obtain rfl : j = next.length := by omega
                  have HN := Lib.hid (HM.out.next HR.out h0)
                  have HOn := HO.mono (G := fun q => q = Gb ∨ S ≤ q) (fun q hq => hq.1)
                  clear HM HO
                  go_wp2
                  go_roundw
                  case rel => exact ⟨k + 1, M, by omega, by go_num, HOn, HOA, HB, by omega, HN⟩
                  case measure => simp [intOf]; omega
          · have hkB : k = B.length := by omega
            have HF : Hid (M.length = next.length ∧ (∀ (b : Nat) (hb : b < M.length), M[b].length = next.length) ∧ ∀ b x : Nat, Mt M b x ↔ Dom next b x) := Lib.hid ⟨HM.out.len, HM.out.row, HM.out.mt |> fun _ => by
              have h1 := HM.out
              rw [hkB, HBl.out] at h1
              exact h1.done HR.out h0⟩
            have HOn := HO.mono (G := fun q => w.heap.size ≤ q) (fun q hq => by rcases hq with hq | hq <;> omega)
            clear HM HO hkB
            go_wp2
            go_ret
            exact ⟨_, M, rfl, HOn, HB, HF⟩
  · have hb2 := below_then (below_drew (Below.refl _ _)) hb1
    have hz2 := hb2.size
    have hO := (ow_alloc1 (e := 108) (n := next.length) (r := Rp.ow true 4 Rp.bool) (z := .slice none 0 0) (x0 := []) w1 (by omega) rfl (fun w => ⟨_, rfl, Ow.nil _ _ _ _ _⟩)).bound
    have HO := hO.mono (G := fun q => q = w1.heap.size) (fun q hq => by have h1 := hq.1; have h2 := hq.2; simp at h2; omega)
    have HOA := (HOA.bound.mono (G := fun q => w.heap.size ≤ q ∧ q ≠ w1.heap.size) (fun q hq => by have h1 := hq.1; have h2 := hq.2; simp at h1; omega)).below (below_new (.cells (madeCells #[.slice none 0 0] next.length) 108))
    have HB : Below w.heap.size w (w1.alloc (.cells (madeCells #[.slice none 0 0] next.length) 108)) := hb2.alloc hb2.size _
    obtain ⟨Gb, hGb⟩ : ∃ Gb, Gb = w1.heap.size := ⟨_, rfl⟩
    have hG1 : w.heap.size ≤ Gb := by omega
    have hG2 : Gb < (w1.alloc (.cells (madeCells #[.slice none 0 0] next.length) 108)).heap.size := by simp; omega
    rw [← hGb] at HO HOA
    have HG := Lib.hid hGb
    clear hb1 hb2 hO hz2
    obtain ⟨Aa, ka, rfl, _, _⟩ := HOA.form
    go_wp2
    rw [← HG.out]
    generalize w1.alloc (.cells (madeCells #[.slice none 0 0] next.length) 108) = w2 at *
    clear hGb HG
    obtain ⟨S, hS⟩ : ∃ S, S = w2.heap.size := ⟨_, rfl⟩
    have HOA := HOA.bound
    rw [← hS] at HOA hG2
    have hS2 : S ≤ w2.heap.size := by omega
    have HO := HO.mono (G := fun q => q = Gb ∨ S ≤ q) (fun q hq => .inl hq)
    clear hS
    go_loopw [17] (fun i wr => ∃ k : Nat, k ≤ next.length ∧ i = .int .i64 k ∧ Ow true 108 (Rp.ow true 4 Rp.bool) wr (fun q => q = Gb ∨ S ≤ q) (.slice (some ⟨Gb, 0, none⟩) next.length next.length) (List.replicate k (List.replicate next.length false) ++ List.replicate (next.length - k) []) ∧ Ow true 4 Rp.bool wr (fun q => (w.heap.size ≤ q ∧ q ≠ Gb) ∧ q < S) (.slice Aa B.length ka) B ∧ Below w.heap.size w wr ∧ S ≤ wr.heap.size) (fun i _ => next.length - (intOf i).toNat)
    case atStart => exact ⟨0, Nat.zero_le _, rfl, by simpa using HO, HOA, HB, hS2⟩
    case round =>
      clear HO HOA HB hS2
      obtain ⟨k, hk, rfl, HO, HOA, HB, hS2⟩ := hrel
      rename World => wo
      by_cases hlt : k < next.length
      · have hkl : k < (List.replicate k (List.replicate next.length false) ++ List.replicate (next.length - k) ([] : List Bool)).length := by rw [List.length_append, List.length_replicate, List.length_replicate]; omega
        have HE : Hid ((List.replicate k (List.replicate next.length false) ++ List.replicate (next.length - k) ([] : List Bool)).set k (List.replicate next.length false) = List.replicate (k + 1) (List.replicate next.length false) ++ List.replicate (next.length - (k + 1)) []) := Lib.hid (by
          rw [List.set_append_right _ _ (by rw [List.length_replicate]; exact Nat.le_refl _), List.length_replicate, Nat.sub_self]
          obtain ⟨d, hd⟩ : ∃ d, next.length - k = d + 1 := ⟨next.length - (k + 1), by omega⟩
          rw [hd, show next.length - (k + 1) = d by omega, List.replicate_succ' (n := k), List.append_assoc]
          rfl)
        have hO2 := ow_alloc1 (e := 4) (n := next.length) (r := Rp.bool) (z := .bool false) (x0 := false) wo (by omega) rfl (fun w => rfl)
        have HO1 := HO.bound.below (below_new (.cells (madeCells #[.bool false] next.length) 4))
        obtain ⟨_, u, cu, fu, -⟩ := HO1.focus hkl
        have HP := (HO1.put1 rfl hkl (y := List.replicate next.length false) (u := .slice (some ⟨wo.heap.size, 0, none⟩) next.length next.length) ⟨_, rfl, hO2⟩ (fun q hq h => by have := h.2; omega)).mono (G := fun q => q = Gb ∨ S ≤ q) (fun q hq => by rcases hq with hq | hq; exact hq.1; right; omega)
        rw [HE.out] at HP
        have HOA1 := (HOA.below (below_new (.cells (madeCells #[.bool false] next.length) 4))).set_other (b := Gb) (o := k) (u := .slice (some ⟨wo.heap.size, 0, none⟩) next.length next.length) (fun h => h.1.2 rfl)
        have HB1' : Below w.heap.size w ((wo.alloc (.cells (madeCells #[.bool false] next.length) 4)).setCell ⟨Gb, k, none⟩ (.slice (some ⟨wo.heap.size, 0, none⟩) next.length next.length)) := (HB.alloc HB.size _).setCell (by simpa using hG1) _
        have i0 : (0 : Int) ≤ (k : Int) := Int.natCast_nonneg _
        have i1 : (k : Int) < (next.length : Int) := by omega
        clear hO2 HO1 HE hkl HO HOA
        replace HP := Lib.hid HP
        replace HOA1 := Lib.hid HOA1
        go_wp2
        go_roundw
        case rel => exact ⟨k + 1, by omega, by go_num, HP.out, HOA1.out, HB1', by simp; omega⟩
        case measure => simp [intOf]; omega
      · obtain rfl : k = next.length := by omega
        rw [Nat.sub_self, List.replicate_zero, List.append_nil] at HO
        have HM := Lib.hid (MInv.start next HR.out h0)
        have HBl := Lib.hid HB1.out.1
        have hBl2 : next.length ≤ B.length := by rw [HBl.out]; exact Nat.le_refl _
        have hBl3 : B.length ≤ next.length := by rw [HBl.out]; exact Nat.le_refl _
        clear hk hlt
        generalize List.replicate next.length (List.replicate next.length false) = M0 at *
        go_wp2
        go_loopw [29] (fun i wr => ∃ (k : Nat) (M : List (List Bool)), k ≤ B.length ∧ i = .int .i64 k ∧ Ow true 108 (Rp.ow true 4 Rp.bool) wr (fun q => q = Gb ∨ S ≤ q) (.slice (some ⟨Gb, 0, none⟩) next.length next.length) M ∧ Ow true 4 Rp.bool wr (fun q => (w.heap.size ≤ q ∧ q ≠ Gb) ∧ q < S) (.slice Aa B.length ka) B ∧ Below w.heap.size w wr ∧ S ≤ wr.heap.size ∧ Hid (MInv next M k 0)) (fun i _ => B.length - (intOf i).toNat)
        case atStart => exact ⟨0, M0, Nat.zero_le _, rfl, HO, HOA, HB, hS2, HM⟩
        case round =>
          clear HO HOA HB hS2 HM
          obtain ⟨k, M, hk, rfl, HO, HOA, HB, hS2, HM⟩ := hrel
          rename World => wk
          by_cases hlt : k < B.length
          · obtain ⟨ga, rfl⟩ : ∃ ga, Aa = some ⟨ga, 0, none⟩ := by
              obtain ⟨g, c', cs, he, _⟩ := HOA.at_ (List.getElem?_eq_getElem hlt)
              injection he with he _ _
              exact ⟨g, he⟩
            obtain ⟨cB, fB⟩ := bool_at HOA hlt
            have hkn : k < next.length := by omega
            have HBk : Hid (B[k] = true ↔ Rch next (fun x => x ≠ -1) 0 k) := Lib.hid (by rw [← on_iff hlt, HB1.out.2, rch_all HR.out h0])
            have i0 : (0 : Int) ≤ (k : Int) := Int.natCast_nonneg _
            have i1 : (k : Int) < (B.length : Int) := by omega
            generalize hbk : B[k] = bk at *
            cases bk
            · have HS1 := Lib.hid (HM.out.skip (fun h => by have := HBk.out.2 h; cases this))
              clear hbk HBk
              go_wp2
              go_roundw
              case rel => exact ⟨k + 1, M, by omega, by go_num, HO, HOA, HB, hS2, HS1⟩
              case measure => simp [intOf]; omega
            · have HRk := Lib.hid (HBk.out.1 rfl)
              clear hbk HBk
              have hb1 := below_new (w := wk) (.cells #[.int .i64 (k : Int)] 3)
              have hlit : Ow true 3 Rp.int (wk.alloc (.cells #[.int .i64 (k : Int)] 3)) (fun _ => True) (.slice (some ⟨wk.heap.size, 0, none⟩) 1 1) [(k : Int)] := (ow_intsG rfl (Nat.zero_le _) [(k : Int)] _ rfl (by simp)).mono (fun _ _ => trivial)
              have HCk := reach_calls next _ _ 0 [(k : Int)] (wk.alloc (.cells #[.int .i64 (k : Int)] 3)) ((h.below HB).below hb1) hlit.rd (by omega) (by omega) hm HR.out
              go_wp2_with fail
              refine HCk.mono ?_
              clear HCk hlit
              rintro e w5 ⟨vl, B2, rfl, HOL, hb5, HB2⟩
              have hb6 := below_then hb1 hb5
              have HO5 := HO.bound.below hb6
              have HOA5 := HOA.below hb6
              have HB5 := below_then HB hb6
              have hz5 := hb6.size
              have HOL := HOL.mono (G := fun q => wk.heap.size ≤ q) (fun q hq => by simp at hq; omega)
              have hB2l : next.length ≤ B2.length := by rw [HB2.out.1]; exact Nat.le_refl _
              obtain ⟨gl, kl, hvl⟩ : ∃ gl kl, vl = .slice (some ⟨gl, 0, none⟩) B2.length kl := by
                obtain ⟨g, c', cs, he, _⟩ := HOL.at_ (List.getElem?_eq_getElem (show k < B2.length by omega))
                exact ⟨g, c', he⟩
              subst hvl
              have hgl := own_in HOL (k := gl) (.inr rfl)
              clear HO HOA HB hb1 hb5 hb6
              go_wp2
              go_loopw [42] (fun i wr => ∃ (j : Nat) (M : List (List Bool)), j ≤ next.length ∧ i = .int .i64 j ∧ Ow true 108 (Rp.ow true 4 Rp.bool) wr (fun q => (q = Gb ∨ S ≤ q) ∧ q < wk.heap.size) (.slice (some ⟨Gb, 0, none⟩) next.length next.length) M ∧ Ow true 4 Rp.bool wr (fun q => (w.heap.size ≤ q ∧ q ≠ Gb) ∧ q < S) (.slice (some ⟨ga, 0, none⟩) B.length ka) B ∧ Ow true 4 Rp.bool wr (fun q => wk.heap.size ≤ q) (.slice (some ⟨gl, 0, none⟩) B2.length kl) B2 ∧ Below w.heap.size w wr ∧ wk.heap.size ≤ wr.heap.size ∧ Hid (MInv next M k j)) (fun i _ => next.length - (intOf i).toNat)
              case atStart => exact ⟨0, M, Nat.zero_le _, rfl, HO5, HOA5, HOL, HB5, hz5, HM⟩
              case round =>
                clear HO5 HOA5 HOL HB5 HM
                obtain ⟨j, M, hj, rfl, HO, HOA, HOL, HB, hz, HM⟩ := hrel
                rename World => wi
                by_cases hjt : j < next.length
                · have hjM : j < M.length := by rw [HM.out.len]; exact hjt
                  have hjB : j < B.length := by omega
                  have hjB2 : j < B2.length := by omega
                  have hrow := HM.out.row j hjM
                  have hkr : k < M[j].length := by rw [hrow]; exact hkn
                  obtain ⟨cBj, fBj⟩ := bool_at HOA hjB
                  obtain ⟨cLj, fLj⟩ := bool_at HOL hjB2
                  obtain ⟨G, u, cu, fu, hGF, HOu, hback⟩ := HO.focus hjM
                  obtain ⟨g2, k2, hu2⟩ : ∃ g2 k2, u = .slice (some ⟨g2, 0, none⟩) M[j].length k2 := by
                    obtain ⟨g, c', cs, he, _⟩ := HOu.at_ (List.getElem?_eq_getElem hkr)
                    exact ⟨g, c', he⟩
                  subst hu2
                  have hg2 := hGF g2 (own_in HOu (k := g2) (.inr rfl))
                  obtain ⟨cM, fM⟩ := bool_at HOu hkr
                  have HBj : Hid ((B[j] = true ↔ Rch next (fun x => x ≠ -1) 0 j) ∧ (B2[j] = true ↔ Rch next (fun x => x ≠ (k : Int)) 0 j)) := Lib.hid ⟨by rw [← on_iff hjB, HB1.out.2, rch_all HR.out h0], by rw [← on_iff hjB2, HB2.out.2, rch_one]⟩
                  have HPut : ∀ y : Bool, (y = true ↔ Dom next j k) → Hid (Ow true 108 (Rp.ow true 4 Rp.bool) (wi.drew.setCell ⟨g2, k, none⟩ (.bool y)) (fun q => (q = Gb ∨ S ≤ q) ∧ q < wk.heap.size) (.slice (some ⟨Gb, 0, none⟩) next.length next.length) (M.set j (M[j].set k y)) ∧ MInv next (M.set j (M[j].set k y)) k (j + 1)) := fun y hy => Lib.hid ⟨hback _ _ (fun q hq hnG => heap_setCell_other wi.drew ⟨g2, k, none⟩ q _ (fun he => hnG (by have he : q = g2 := he; rw [he]; exact own_in HOu (.inr rfl)))) ((HOu.move (w' := wi.drew) (fun _ _ _ => rfl)).set1 rfl hkr rfl), HM.out.put hjM hkn hy⟩
                  have HPut := Lib.hid HPut
                  have hrow2 := Lib.hid hrow
                  have hML : M[j].length ≤ next.length := by omega
                  have hML2 : next.length ≤ M[j].length := by omega
                  have j0 : (0 : Int) ≤ (j : Int) := Int.natCast_nonneg _
                  have j1 : (j : Int) < (next.length : Int) := by omega
                  have j2 : (j : Int) < (B.length : Int) := by omega
                  have j3 : (j : Int) < (B2.length : Int) := by omega
                  have j4 : (k : Int) < (M[j].length : Int) := by omega
                  have hB7 : ∀ y : Bool, Below w.heap.size w (wi.drew.setCell ⟨g2, k, none⟩ (.bool y)) := fun y => (below_drew HB).setCell (by have := hg2.1.1; simp; omega) _
                  have hA7 : ∀ y : Bool, Ow true 4 Rp.bool (wi.drew.setCell ⟨g2, k, none⟩ (.bool y)) (fun q => (w.heap.size ≤ q ∧ q ≠ Gb) ∧ q < S) (.slice (some ⟨ga, 0, none⟩) B.length ka) B := fun y => (HOA.move (w' := wi.drew) (fun _ _ _ => rfl)).set_other (fun h => by have := hg2.1.1; have := hg2.2; have := h.1.2; have := h.2; omega)
                  have hL7 : ∀ y : Bool, Ow true 4 Rp.bool (wi.drew.setCell ⟨g2, k, none⟩ (.bool y)) (fun q => wk.heap.size ≤ q) (.slice (some ⟨gl, 0, none⟩) B2.length kl) B2 := fun y => (HOL.move (w' := wi.drew) (fun _ _ _ => rfl)).set_other (fun h => by have := hg2.1.2; omega)
                  have hB7 := Lib.hid hB7
                  have hA7 := Lib.hid hA7
                  have hL7 := Lib.hid hL7
                  clear hback HOu hrow HO HOA HOL HM hGF
                  obtain ⟨lj, hlj⟩ : ∃ lj, lj = M[j].length := ⟨_, rfl⟩
                  rw [← hlj] at cu j4
                  have hlj := Lib.hid hlj
                  generalize M[j][k] = y0 at *
                  generalize hb1 : B[j] = b1 at *
                  generalize hb2 : B2[j] = b2 at *
                  cases b1
                  · have HF := Lib.hid (HPut.out false ⟨fun h => Bool.noConfusion h, fun h => by have := HBj.out.1.2 h.1; cases this⟩)
                    clear hb1 hb2 HBj HPut
                    go_wp2
                    go_region
                    have hT := HF.out
                    go_wp2
                    go_roundw
                    case rel => exact ⟨j + 1, _, by omega, by go_num, HF.out.1, hA7.out _, hL7.out _, hB7.out _, by simpa using hz, Lib.hid HF.out.2⟩
                    case measure => simp [intOf]; omega
                  · cases b2
                    · have HF := Lib.hid (HPut.out true ⟨fun _ => ⟨HBj.out.1.1 rfl, HRk.out, fun h => by have := HBj.out.2.2 h; cases this⟩, fun _ => rfl⟩)
                      clear hb1 hb2 HBj HPut
                      go_wp2
                      go_region
                      go_wp2
                      go_roundw
                      case rel => exact ⟨j + 1, _, by omega, by go_num, HF.out.1, hA7.out _, hL7.out _, hB7.out _, by simpa using hz, Lib.hid HF.out.2⟩
                      case measure => simp [intOf]; omega
                    · have HF := Lib.hid (HPut.out false ⟨fun h => Bool.noConfusion h, fun h => absurd (HBj.out.2.1 rfl) h.2.2⟩)
                      clear hb1 hb2 HBj HPut
                      go_wp2
                      go_region
                      go_wp2
                      go_roundw
                      case rel => exact ⟨j + 1, _, by omega, by go_num, HF.out.1, hA7.out _, hL7.out _, hB7.out _, by simpa using hz, Lib.hid HF.out.2⟩
                      case measure => simp [intOf]; omega
                · obtain rfl : j = next.length := by omega
                  have HN := Lib.hid (HM.out.next HR.out h0)
                  have HOn := HO.mono (G := fun q => q = Gb ∨ S ≤ q) (fun q hq => hq.1)
                  clear HM HO
                  go_wp2
                  go_roundw
                  case rel => exact ⟨k + 1, M, by omega, by go_num, HOn, HOA, HB, by omega, HN⟩
                  case measure => simp [intOf]; omega
          · have hkB : k = B.length := by omega
            have HF : Hid (M.length = next.length ∧ (∀ (b : Nat) (hb : b < M.length), M[b].length = next.length) ∧ ∀ b x : Nat, Mt M b x ↔ Dom next b x) := Lib.hid ⟨HM.out.len, HM.out.row, HM.out.mt |> fun _ => by
              have h1 := HM.out
              rw [hkB, HBl.out] at h1
              exact h1.done HR.out h0⟩
            have HOn := HO.mono (G := fun q => w.heap.size ≤ q) (fun q hq => by rcases hq with hq | hq <;> omega)
            clear HM HO hkB
            go_wp2
            go_ret
            exact ⟨_, M, rfl, HOn, HB, HF⟩
end Go.Proofs.YtnfaibenekninaaGreat.L

set_option linter.unusedVariables false
set_option linter.unusedSimpArgs false
namespace Go.Proofs
open Go.RowKit Go.Shelf Go.Lib
def Tryz.laysMul_ren : Go.Shelf.Ren := ⟨fun | 212 => 107 | 263 => 144 | 264 => 145 | n => n, fun | 46 => 145 | 51 => 187 | 146 => 188 | 53 => 190 | 148 => 191 | n => n, fun | n => n⟩
theorem Tryz.laysMul : Go.Proofs.Lays.n212 Tryz.prog Tryz.laysMul_ren := {
  mixed := by kernel_rfl
  f212 := Tryz.func107.trans (congrArg some (by kernel_rfl))
  f263 := Tryz.func144.trans (congrArg some (by kernel_rfl))
  f264 := Tryz.func145.trans (congrArg some (by kernel_rfl))
  t46 := Tryz.underlying145
  a46 := Tryz.isAgg145
  z46 := Tryz.sizeOf145
  v46 := Tryz.zeroValue145
  t51 := Tryz.underlying187
  a51 := Tryz.isAgg187
  z51 := Tryz.sizeOf187
  v51 := Tryz.zeroValue187
  t53 := Tryz.underlying190
  a53 := Tryz.isAgg190
  z53 := Tryz.sizeOf190
  v53 := Tryz.zeroValue190
  t146 := Tryz.underlying188
  a146 := Tryz.isAgg188
  z146 := Tryz.sizeOf188
  v146 := Tryz.zeroValue188
  t148 := Tryz.underlying191
  a148 := Tryz.isAgg191
  z148 := Tryz.sizeOf191
  v148 := Tryz.zeroValue191 }
namespace YtnfaibenekninaaGreat.L
theorem setCells_heap1 (g : Nat) (T : Nat) : ∀ (vs : List Value) (o : Nat) (w : World) (cur : Array Value), w.heap[g]? = some (.cells cur T (0, 0)) → o + vs.length ≤ cur.size →
    ∃ cur', (w.setCells g o vs).heap[g]? = some (.cells cur' T (0, 0)) ∧ cur'.size = cur.size ∧ cur'.toList = cur.toList.take o ++ (vs ++ cur.toList.drop (o + vs.length)) ∧ ∀ k, k ≠ g → (w.setCells g o vs).heap[k]? = w.heap[k]?
  | [], o, w, cur, h, hl => ⟨cur, h, rfl, by simp, fun _ _ => rfl⟩
  | v :: r, o, w, cur, h, hl => by
    simp only [List.length_cons] at hl
    obtain ⟨cur', h1, h2, h3, h4⟩ := setCells_heap1 g T r (o + 1) (w.setCell ⟨g, o, none⟩ v) (cur.setIfInBounds o v) (heap_setCell_same w g o cur T v h) (by simp; omega)
    refine ⟨cur', h1, by rw [h2]; simp, ?_, fun k hk => (h4 k hk).trans (heap_setCell_other w ⟨g, o, none⟩ k v hk)⟩
    have hlen : cur.toList.length = cur.size := Array.length_toList
    rw [h3, Array.toList_setIfInBounds, List.take_add_one, List.getElem?_set, if_pos rfl, if_pos (by omega), List.take_set_of_le (Nat.le_refl o), List.drop_set_of_lt (by omega)]
    simp [show o + 1 + r.length = o + (r.length + 1) by omega]

theorem setCells_putRow1 (g : Nat) : ∀ (vs : List Value) (o : Nat) (w : World), w.setCells g o vs = putRow w g o vs
  | [], _, _ => rfl
  | v :: r, o, w => by rw [World.setCells, putRow, setCells_putRow1 g r]
theorem mul_calls (n : Nat) (hn : n ≤ 250) (w : World) : Calls Tryz.prog 107 #[.int .u64 1, .int .u64 n] w fun e w' => e = .returned (.tuple #[.int .u64 0, .int .u64 n]) ∧ w' = w := by
  have h : Calls Tryz.prog 107 #[.int .u64 (1 : Nat), .int .u64 n] w _ := Any.bits_Mul Tryz.laysMul 1 n (by omega) (by omega) w
  refine h.mono ?_
  rintro e w' ⟨rfl, rfl⟩
  refine ⟨?_, rfl⟩
  rw [Nat.one_mul, Nat.div_eq_of_lt (by omega), Nat.mod_eq_of_lt (by omega)]
  rfl
theorem ow_of_ints {w : World} {g : Nat} {cur : Array Value} {l : List Int} (h : w.heap[g]? = some (.cells cur 3 (0, 0))) (hc : cur.toList = l.map (Value.int .i64)) (hl : l.length ≤ 1000000000) : Ow true 3 Rp.int w (fun q => q = g) (.slice (some ⟨g, 0, none⟩) l.length l.length) l := by
  have hsz : cur.size = l.length := by rw [← Array.length_toList, hc, List.length_map]
  refine ⟨fun _ _ => False, l.map (Value.int .i64), ⟨by rw [List.length_map]; show _ = _ * 1; omega, .inr ⟨g, l.length, cur, rfl, Nat.zero_le _, h, Nat.le_refl _, by unfold maxLen; omega, by show _ = _ * 1; omega, by rw [hc]; apply List.take_of_length_le; rw [List.length_map]; show _ ≤ _ * 1; omega⟩⟩, fun k hk => by simpa [Value.ownBlock] using hk.symm, fun _ _ h => h.elim, fun _ _ _ _ h => h.elim, fun i x hx => ?_⟩
  show _ = [Value.int .i64 x]
  have h1 : Rp.int.sz = 1 := rfl
  rw [h1, Nat.mul_one]
  obtain ⟨hi, rfl⟩ := List.getElem?_eq_some_iff.1 hx
  rw [← List.map_drop, List.drop_eq_getElem_cons hi]; rfl
set_option maxRecDepth 100000 in
set_option maxHeartbeats 2000000 in
theorem repeat_calls (x : Int) (gx N : Nat) (w : World) (hx : w.cell? ⟨gx, 0, none⟩ = some (.int .i64 x)) (hN : 1 ≤ N) (hN2 : N ≤ 250) :
    Calls Tryz.prog 60 #[.slice (some ⟨gx, 0, none⟩) 1 1, .int .i64 N] w fun e w' => ∃ v', e = .returned v' ∧ Ow true 3 Rp.int w' (fun q => w.heap.size ≤ q) v' (List.replicate N x) ∧ Below w.heap.size w w' := by
  have hmk := mk_all Tryz.underlying59 infoInt N (by omega) (by omega)
  have HM := Lib.hid (fun W => mul_calls N hN2 W)
  have i0 : (0 : Int) ≤ (N : Int) := Int.natCast_nonneg _
  have hs1 : (Tryz.prog.info? 3).map (·.size) = some 1 := by kernel_rfl
  have hB0 := below_new (w := w) (.cells (madeCells #[.int .i64 0] N) 3)
  have hh0 := heap_alloc_new w (.cells (madeCells #[.int .i64 0] N) 3)
  have hcx := cell_below hB0 hx
  have hml : (madeCells #[Value.int .i64 0] N).toList = List.replicate N (Value.int .i64 0) := toList_madeCells_one _ _
  have hmz : (madeCells #[Value.int .i64 0] N).size = N := size_madeCells _ _
  have hC0 := cell_of_block hh0
  have hcp1 := fun ty => run_copy_cells (P := Tryz.prog) (w.alloc (.cells (madeCells #[.int .i64 0] N) 3)) 59 59 ty 3 w.heap.size 0 N N ⟨gx, 0, none⟩ 1 1 [.int .i64 x] Tryz.underlying59 hs1 (by show 1 = Nat.min 1 N; exact (Nat.min_eq_left hN).symm)
    (fun j v hj => by
      have hj0 : j = 0 := by have := (List.getElem?_eq_some_iff.1 hj).1; simpa using this
      subst hj0
      cases hj
      simpa [Addr.add] using hcx) (fun j hj => by rw [hC0.1, Array.getElem?_eq_getElem (by rw [hmz]; simp at hj; omega)]; rfl) (fun j hj => hC0.2 _) (fun v hv => by rw [List.mem_singleton.1 hv]; rfl)
  have hst := setCells_heap1 w.heap.size 3 [.int .i64 x] 0 _ _ hh0 (by rw [hmz]; simpa using hN)
  obtain ⟨cur1, k1, k2, k3, k4⟩ := hst
  rw [hml] at k3
  have k3' : cur1.toList = List.replicate 1 (.int .i64 x) ++ List.replicate (N - 1) (.int .i64 0) := by
    rw [k3]; simp
  have hB1 : Below w.heap.size w ((w.alloc (.cells (madeCells #[.int .i64 0] N) 3)).setCells w.heap.size 0 [.int .i64 x]) := by
    refine ⟨hB0.os, hB0.tape, hB0.output, ?_, fun q hq => ?_⟩
    · show w.heap.size ≤ ((w.alloc _).setCell _ _).heap.size; simp
    · rw [k4 q (by omega)]; exact hB0.block q hq
  clear hcx hml hC0 k2 k3 hh0 hmz
  go_enter Tryz.func60, Tryz.ntmps60
  go_wp2_with fail
  refine (HM.out _).mono ?_
  rintro e w1 ⟨rfl, rfl⟩
  go_wp2_with (at_builtin; refine wpList_copy_runI _ rfl _ _ 59 59 rfl _ _ rfl rfl (hcp1 _) ?_)
  generalize (w1.alloc (.cells (madeCells #[.int .i64 0] N) 3)).setCells w1.heap.size 0 [.int .i64 x] = W1 at *
  have mixed : Tryz.prog.follows Departure.mixedOrders = true := by kernel_rfl
  clear hcp1 k4 hB0
  have K3 := Lib.hid k3'
  clear k3'
  go_loopw [8] (fun i wr => ∃ (m : Nat) (cur : Array Value), 1 ≤ m ∧ m ≤ N ∧ i = .int .i64 m ∧ wr.heap[w1.heap.size]? = some (.cells cur 3 (0, 0)) ∧ Hid (cur.toList = List.replicate m (.int .i64 x) ++ List.replicate (N - m) (.int .i64 0)) ∧ Below w1.heap.size w1 wr) (fun i _ => N - (RowKit.intOf i).toNat)
  case atStart => exact ⟨1, cur1, Nat.le_refl _, hN, rfl, k1, K3, hB1⟩
  case round =>
    clear hB1 k1 K3
    obtain ⟨m, cur, hm1, hmN, rfl, k1, K3, HB⟩ := hrel
    by_cases hlt : m < N
    · obtain ⟨c, hc1, hc2, hc3, hc4⟩ : ∃ c : Nat, Hid (c = Nat.min m (N - m)) ∧ c ≤ m ∧ c ≤ N - m ∧ 1 ≤ c := ⟨Nat.min m (N - m), Lib.hid rfl, Nat.min_le_left _ _, Nat.min_le_right _ _, Nat.le_min.2 ⟨hm1, by omega⟩⟩
      have hsz : cur.size = N := by rw [← Array.length_toList, K3.out, List.length_append, List.length_replicate, List.length_replicate]; omega
      have hC := cell_of_block (w := wr.drew) k1
      have hget : ∀ q, q < m → cur[q]? = some (.int .i64 x) := fun q hq => by
        rw [← Array.getElem?_toList, K3.out, List.getElem?_append_left (by rw [List.length_replicate]; exact hq), List.getElem?_replicate, if_pos hq]
      have hcp := fun ty => run_copy_cells (P := Tryz.prog) wr.drew 59 59 ty 3 w1.heap.size m (N - m) (N - m) ⟨w1.heap.size, 0, none⟩ m N (List.replicate c (.int .i64 x)) Tryz.underlying59 hs1 (by rw [List.length_replicate, hc1.out])
        (fun j v hj => by
          rw [List.getElem?_replicate] at hj
          split at hj
          · cases hj
            rw [show (⟨w1.heap.size, 0, none⟩ : Addr).add j = ⟨w1.heap.size, j, none⟩ by unfold Addr.add; split <;> simp_all, hC.1]
            exact hget j (by omega)
          · cases hj) (fun j hj => by rw [List.length_replicate] at hj; rw [hC.1, Array.getElem?_eq_getElem (by omega)]; rfl) (fun j hj => hC.2 _) (fun v hv => by rw [(List.mem_replicate.1 hv).2]; rfl)
      rw [List.length_replicate] at hcp
      obtain ⟨cur2, p1, p2, p3, p4⟩ := setCells_heap1 w1.heap.size 3 (List.replicate c (.int .i64 x)) m wr.drew cur k1 (by rw [List.length_replicate]; omega)
      have P3 : Hid (cur2.toList = List.replicate (m + c) (.int .i64 x) ++ List.replicate (N - (m + c)) (.int .i64 0)) := Lib.hid (by
        rw [p3, K3.out, List.length_replicate, List.take_append_of_le_length (by rw [List.length_replicate]; exact Nat.le_refl _), List.take_of_length_le (by rw [List.length_replicate]; exact Nat.le_refl _), List.drop_append, List.length_replicate, List.drop_replicate, List.drop_replicate, ← List.append_assoc, ← List.append_assoc, List.replicate_append_replicate, List.replicate_append_replicate, show m + c + (m - (m + c)) = m + c by omega, show N - m - (m + c - m) = N - (m + c) by omega])
      have hB2 : Below w1.heap.size w1 (wr.drew.setCells w1.heap.size m (List.replicate c (.int .i64 x))) := by
        have hz := HB.size
        rw [setCells_putRow1]
        exact putRow_below (below_drew HB) (Nat.le_refl _) _ _
      have j0 : (0 : Int) ≤ (m : Int) := Int.natCast_nonneg _
      have j1 : (m : Int) ≤ (N : Int) := by omega
      have j2 : (m : Int) < (N : Int) := by omega
      have j3 : m < N := hlt
      have j4 : m ≤ N := hmN
      have jw : IntKind.i64.wrap ((m : Int) + (c : Int)) = (m : Int) + (c : Int) := IntWalk.i64_in _ (by omega)
      have jN : ¬ (N = m) := by omega
      clear hget hC k1 p2 p3 p4 hsz
      go_wp2
      go_region_law_o (refine step_copy_runI rfl _ _ 59 59 rfl (.slice (some ⟨w1.heap.size, m, none⟩) (N - m) (N - m)) (.slice (some ⟨w1.heap.size, 0, none⟩) m N) (by simp [Act.eval, Act.put]) (by simp [Act.eval, Act.put]) (hcp _) ?_)
      go_simp
      go_wp2
      go_roundw
      case rel => exact ⟨m + c, cur2, by omega, by omega, by go_num, p1, P3, hB2⟩
      case measure => simp [RowKit.intOf]; omega
    · obtain rfl : m = N := by omega
      have HF : Ow true 3 Rp.int wr (fun q => w1.heap.size ≤ q) (.slice (some ⟨w1.heap.size, 0, none⟩) m m) (List.replicate m x) := by
        have h1 := K3.out
        rw [Nat.sub_self, List.replicate_zero, List.append_nil] at h1
        have h2 := ow_of_ints k1 (l := List.replicate m x) (by rw [h1, List.map_replicate]) (by rw [List.length_replicate]; omega)
        rw [List.length_replicate] at h2
        exact h2.mono (fun q hq => by have hq : q = _ := hq; omega)
      clear K3 k1
      go_wp2
      go_ret
      exact ⟨_, rfl, HF, HB⟩
end YtnfaibenekninaaGreat.L
end Go.Proofs
