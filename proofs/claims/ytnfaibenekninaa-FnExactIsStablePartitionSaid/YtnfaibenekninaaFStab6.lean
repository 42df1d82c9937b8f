/- Joined texts, each of which was built by itself: Nu1 Mk2 Ma1 St2p. -/
import Derived.Test.YtnfaibenekninaaFStab5
import Derived.Test.YtnfaibenekninaaFStab1
import Derived.Test.YtnfaibenekninaaB1
import Derived.Test.YtnfaibenekninaaFStab4
import Derived.Test.YtnfaibenekninaaB10
import Derived.BigRegion
set_option linter.unusedVariables false
set_option linter.unusedSimpArgs false
namespace Go.Proofs.Ytnfaibenekninaa.L
open Go.RowKit
def srtK : Rp (Int × Int) := Rp.int.pair Rp.int
theorem srt_open {w : World} {F : Nat → Prop} {x : Int × Int} {cs : List Value} (h : srtK.K w F x cs) : cs = [.int .i64 x.1, .int .i64 x.2] := by
  obtain ⟨a, b, rfl, rfl, rfl⟩ := h
  rfl
theorem srt_mk (w : World) (F : Nat → Prop) (x : Int × Int) : srtK.K w F x [.int .i64 x.1, .int .i64 x.2] := ⟨[_], [_], rfl, rfl, rfl⟩
def grpK : Rp (Nat × List UInt8) := (Rp.int.pair Rp.str).iso (fun x => ((x.1 : Int), ⟨x.2.toArray⟩))
theorem grp_open {w : World} {F : Nat → Prop} {x : Nat × List UInt8} {cs : List Value} (h : grpK.K w F x cs) : cs = [.int .i64 x.1, .string ⟨x.2.toArray⟩] := by
  obtain ⟨a, b, rfl, rfl, rfl⟩ := h
  rfl
theorem grp_mk (w : World) (F : Nat → Prop) (x : Nat × List UInt8) : grpK.K w F x [.int .i64 x.1, .string ⟨x.2.toArray⟩] := ⟨[_], [_], rfl, rfl, rfl⟩
theorem rd_two {α : Type} {r : Rp α} {f g : α → Value} (h2 : r.sz = 2) (ho : ∀ {w F x cs}, r.K w F x cs → cs = [f x, g x]) {w : World} {F : Nat → Prop} {v : Value} {l : List α} (h : Rp.Rd r w F v l) : ∃ A c, v = .slice A l.length c ∧ l.length ≤ c ∧ c ≤ 9223372036854775807 ∧
    (l = [] ∨ ∃ b o, A = some ⟨b, o, none⟩ ∧ b < w.heap.size ∧ ∀ (k : Nat) (hk : k < l.length), w.cell? ⟨b, o + k * 2, none⟩ = some (f l[k]) ∧ w.cell? ⟨b, o + k * 2 + 1, none⟩ = some (g l[k])) := by
  obtain ⟨A, c, rfl, hl, hm, h⟩ := h
  refine ⟨A, c, rfl, hl, hm, ?_⟩
  rcases h with h | ⟨b, o, rfl, _, hb, h⟩
  · exact .inl h
  · refine .inr ⟨b, o, rfl, hb, fun k hk => ?_⟩
    obtain ⟨cs, hK, hc⟩ := h k l[k] (List.getElem?_eq_getElem hk)
    obtain rfl := ho hK
    rw [h2] at hc
    refine ⟨hc 0 _ rfl, ?_⟩
    have := hc 1 _ rfl
    rwa [← Nat.add_assoc] at this
/-- What numbered has laid after i rounds. -/
def outN {κ : Type} [DecidableEq κ] (l : List κ) (i : Nat) : List Int := (l.take i).map (fun x => ((ixOn (firsts l) x : Nat) : Int)) ++ List.replicate (l.length - i) 0
theorem outN_len {κ : Type} [DecidableEq κ] (l : List κ) (i : Nat) (hi : i ≤ l.length) : (outN l i).length = l.length := by unfold outN; simp; omega
theorem outN_set {κ : Type} [DecidableEq κ] {l : List κ} {i : Nat} (hi : i < l.length) : (outN l i).set i ((ixOn (firsts l) l[i] : Nat) : Int) = outN l (i + 1) := by
  unfold outN
  have e1 : l.length - i = (l.length - (i + 1)) + 1 := by omega
  rw [e1, List.replicate_succ, List.set_append_right _ _ (by simp; omega), List.take_succ_eq_append_getElem hi, List.map_append, List.append_assoc]
  simp [Nat.min_eq_left (Nat.le_of_lt hi)]
theorem outN_all {κ : Type} [DecidableEq κ] (l : List κ) : outN l l.length = (numL l).map (fun n : Nat => (n : Int)) := by
  unfold outN numL
  rw [List.take_length, Nat.sub_self, List.replicate_zero, List.append_nil, List.map_map]
  rfl
theorem idx_old {κ : Type} [DecidableEq κ] {l : List κ} {i : Nat} (hi : i < l.length) (h : l[i] ∈ firsts (l.take i)) : ixOn (firsts l) l[i] = ixOn (firsts (l.take i)) l[i] := idx_take (mem_firsts.1 h)
theorem idx_new {κ : Type} [DecidableEq κ] {l : List κ} {i : Nat} (hi : i < l.length) (h : l[i] ∉ firsts (l.take i)) : ixOn (firsts l) l[i] = (firsts (l.take i)).length := by
  have hm : l[i] ∈ l.take (i + 1) := List.mem_take_iff_getElem.2 ⟨i, by omega, rfl⟩
  unfold ixOn
  rw [idx_take hm, take_snoc hi, addF, if_neg h, List.idxOf_append, if_neg h]
  simp
set_option maxRecDepth 100000 in
set_option maxHeartbeats 4000000 in
theorem numberedSrt_calls {F : Nat → Prop} (keys : List (Int × Int)) (v : Value) (w : World) (h : Rp.Rd srtK w F v keys) (hok : ∀ x ∈ keys, KSrt.ok x) (hl : keys.length ≤ 1000) :
    Calls Try.prog 120 #[v] w fun e w' => ∃ v', e = .returned (.tuple #[v', .int .i64 ((firsts keys).length : Nat)]) ∧ Ow true 3 Rp.int w' (fun q => w.heap.size ≤ q) v' ((numL keys).map (fun n : Nat => (n : Int))) ∧ Below w.heap.size w w' := by
  obtain ⟨A, c, rfl, hlc, hcm, hrow⟩ := rd_two (r := srtK) rfl (fun h => srt_open h) h
  have hmk := mk_all Try.underlying25 infoInt keys.length (by omega) (by omega)
  have hmm := fun t W => run_makeMap (P := Try.prog) t W
  have hO := ow_allocE (e := 3) (n := keys.length) (r := Rp.int) (z := .int .i64 0) (x0 := 0) w (by omega) rfl (fun _ => rfl)
  have hb1 := below_new (w := w) (.cells (madeCells #[.int .i64 0] keys.length) 3)
  have hz1 : (w.alloc (.cells (madeCells #[.int .i64 0] keys.length) 3)).heap.size = w.heap.size + 1 := by simp
  have HOK := Lib.hid hok
  have hO0 : Hid (outN keys 0 = List.replicate keys.length 0) := Lib.hid (by simp [outN])
  have hOA := Lib.hid (outN_all keys)
  clear h hok
  go_enter Try.func120, Try.ntmps120
  go_wp2_with fail
  obtain ⟨W1, hW1⟩ : ∃ W1, W1 = w.alloc (.cells (madeCells #[.int .i64 0] keys.length) 3) := ⟨_, rfl⟩
  rw [← hW1] at hO hb1 hz1 ⊢
  clear hW1
  have hM := MapN.made (E := KSrt) W1
  have hb2 := below_new (w := W1) (.map #[] 0)
  have hz2 : (W1.alloc (.map #[] 0)).heap.size = W1.heap.size + 1 := by simp
  obtain ⟨W2, hW2⟩ : ∃ W2, W2 = W1.alloc (.map #[] 0) := ⟨_, rfl⟩
  rw [← hW2] at hM hb2 hz2 ⊢
  clear hW2
  have hO2 := hO.below hb2
  have hB2 := below_then hb1 hb2
  rw [← hO0.out] at hO2
  obtain ⟨go, hgo⟩ : ∃ go, go = w.heap.size := ⟨_, rfl⟩
  obtain ⟨mb, hmb⟩ : ∃ mb, mb = W1.heap.size := ⟨_, rfl⟩
  have hgm : go < mb := by omega
  have hmw : mb < W2.heap.size := by omega
  rw [← hmb] at hM
  have hmb2 : mb = w.heap.size + 1 := by omega
  have hB3 : Below go w W2 := by rw [hgo]; exact hB2
  have hret : ∀ w' : World, Chg (fun q => q = go ∨ q = mb) W2 w' → Below w.heap.size w w' := fun _ h => h.to_below hB2 hB2.size (fun q hq => by rcases hq with hq | hq <;> omega)
  replace hret := Lib.hid hret
  rw [← hmb2, ← hgo]
  rw [← hgo] at hO2
  replace hgo := Lib.hid hgo
  clear hO hb1 hz1 hb2 hz2 hmb hmb2 hO0 hmk hmm
  go_loopw [16] (fun i wr => ∃ k : Nat, k ≤ keys.length ∧ i = .int .i64 k ∧ Ow true 3 Rp.int wr (fun q => q = go) (.slice (some ⟨go, 0, none⟩) keys.length keys.length) (outN keys k) ∧ MapN KSrt mb (firsts (keys.take k)) wr ∧ Chg (fun q => q = go ∨ q = mb) W2 wr) (fun i _ => keys.length - (intOf i).toNat)
  case atStart => exact ⟨0, Nat.zero_le _, rfl, hO2, by simpa [firsts] using hM, Chg.refl _ _⟩
  case round =>
    clear hO2 hM
    obtain ⟨k, hk, rfl, HO, HM, HC⟩ := hrel
    rename World => wo
    by_cases hkt : k < keys.length
    · rcases hrow with hnil | ⟨b, o, rfl, hb, hcell⟩
      · rw [hnil] at hkt; simp at hkt
      have hBo := hret.out _ HC
      obtain ⟨c0, c1⟩ := hcell k hkt
      have c0 := cell_below hBo c0
      have c1 := cell_below hBo c1
      have hokk := HOK.out _ (List.getElem_mem hkt)
      have hset := Lib.hid (outN_set hkt)
      have hsn := Lib.hid (take_snoc hkt)
      have hold := Lib.hid (idx_old hkt)
      have hnew := Lib.hid (idx_new hkt)
      have hSl : (firsts (keys.take k)).length ≤ k := Nat.le_trans (firsts_len _) (by simp; omega)
      have hol := outN_len keys k hk
      clear hcell
      obtain ⟨x, hx⟩ : ∃ x, x = keys[k] := ⟨_, rfl⟩
      rw [← hx] at c0 c1 hokk hset hsn hold hnew
      clear hx
      obtain ⟨S, hS⟩ : ∃ S, S = firsts (keys.take k) := ⟨_, rfl⟩
      rw [← hS] at HM hSl hsn hold hnew
      clear hS
      obtain ⟨ix, hix⟩ : ∃ ix, ix = ixOn (firsts keys) x := ⟨_, rfl⟩
      rw [← hix] at hset hold hnew
      clear hix
      have k0 : (0 : Int) ≤ (k : Int) := Int.natCast_nonneg _
      have k1 : (k : Int) < (keys.length : Int) := by omega
      have hbx := below_new (w := wo) (.cells #[.int .i64 x.1, .int .i64 x.2] 89)
      have ex := heap_alloc_new wo (.cells #[.int .i64 x.1, .int .i64 x.2] 89)
      have HM1 := HM.below hbx
      obtain ⟨y1, _⟩ := cell_of_block ex
      have y10 : (wo.alloc (.cells #[.int .i64 x.1, .int .i64 x.2] 89)).cell? ⟨wo.heap.size, 0, none⟩ = some (.int .i64 x.1) := (y1 0).trans rfl
      have y11 : (wo.alloc (.cells #[.int .i64 x.1, .int .i64 x.2] 89)).cell? ⟨wo.heap.size, 1, none⟩ = some (.int .i64 x.2) := (y1 1).trans rfl
      have HCx := HC.trans (Chg.of_below (A := fun q => q = go ∨ q = mb) hbx)
      clear y1 HC HM
      by_cases hin : x ∈ S
      · have hd : inS S x = true := inS_yes hin
        have hixv := hold.out hin
        have hsn2 : Hid (firsts (keys.take (k + 1)) = S) := Lib.hid (by rw [hsn.out, addF, if_pos hin])
        replace hin := Lib.hid hin
        replace hixv := Lib.hid hixv
        clear hold hnew hsn
        have HO1 := HO.below hbx
        obtain ⟨hc1, hf1⟩ := HO1.int_at (k := k) (by omega)
        have HP := HO1.set1 (i := k) (y := ((ix : Nat) : Int)) rfl (by omega) rfl
        rw [hset.out] at HP
        have HM2 := HM1.chg (A := fun q => q = go) (w' := (wo.alloc (.cells #[.int .i64 x.1, .int .i64 x.2] 89)).setCell ⟨go, k, none⟩ (.int .i64 (ix : Nat))) (Chg.set rfl) (by show ¬ mb = go; omega)
        rw [← hsn2.out] at HM2
        have HC2 := HCx.trans (Chg.set (A := fun q => q = go ∨ q = mb) (b := go) (o := k) (u := .int .i64 (ix : Nat)) (.inl rfl))
        clear HO hset hsn2 HO1
        go_wp2_with (first | (at_lookup; refine mapN_look (E := KSrt) (by rfl) _ _ 228 (by rfl) Try.underlying228 (by rfl) HM1 x hokk (by rfl) ?_; intro ci hci; obtain rfl : ci = (ix : Int) := (hci hin.out).trans (by rw [hixv.out]); clear hci; rw [hd]) | fail)
        go_roundw
        case rel => exact ⟨k + 1, by omega, by go_num, HP, HM2, HC2⟩
        case measure => simp [intOf]; omega
      · have hd : inS S x = false := inS_no hin
        have hixv := hnew.out hin
        have hsn2 : Hid (firsts (keys.take (k + 1)) = S ++ [x]) := Lib.hid (by rw [hsn.out, addF, if_neg hin])
        replace hin := Lib.hid hin
        clear hold hnew hsn
        subst hixv
        have HO1 := HO.below hbx
        clear HO
        go_wp2_with (first | (at_lookup; refine mapN_look (E := KSrt) (by rfl) _ _ 228 (by rfl) Try.underlying228 (by rfl) HM1 x hokk (by rfl) ?_; intro ci hci; clear hci; rw [hd]) | (at_len; refine mapN_len (E := KSrt) (by rfl) _ 228 (by rfl) Try.underlying228 (by rfl) HM1 ?_) | (at_mapUpdate; refine mapN_put (E := KSrt) (by rfl) _ _ _ 228 (by rfl) Try.underlying228 (by rfl) HM1 x hokk (by rfl) (by rfl) hin.out (by omega) ?_; intro w5 HM5 hC5; obtain ⟨hc5, hfr5⟩ := (HO1.move (hC5.same (fun q hq h => by have hq : q = go := hq; have h : q = mb := h; omega))).int_at (k := k) (by omega)) | fail)
        have HO5 := HO1.move (hC5.same (fun q hq h => by have hq : q = go := hq; have h : q = mb := h; omega))
        have HP := HO5.set1 (i := k) (y := ((S.length : Nat) : Int)) rfl (by omega) rfl
        rw [hset.out] at HP
        have HM6 := HM5.chg (A := fun q => q = go) (w' := w5.setCell ⟨go, k, none⟩ (.int .i64 (S.length : Nat))) (Chg.set rfl) (by show ¬ mb = go; omega)
        rw [← hsn2.out] at HM6
        have HC6 := (HCx.trans (hC5.mono (A' := fun q => q = go ∨ q = mb) (fun q hq => .inr hq))).trans (Chg.set (A := fun q => q = go ∨ q = mb) (b := go) (o := k) (u := .int .i64 (S.length : Nat)) (.inl rfl))
        go_roundw
        case rel => exact ⟨k + 1, by omega, by go_num, HP, HM6, HC6⟩
        case measure => simp [intOf]; omega
    · obtain rfl : k = keys.length := by omega
      rw [List.take_length] at HM
      rw [hOA.out] at HO
      have hBo := hret.out _ HC
      go_wp2_with (first | (at_len; refine mapN_len (E := KSrt) (by rfl) _ 228 (by rfl) Try.underlying228 (by rfl) HM ?_) | fail)
      refine bodyPost_ret (v := .tuple #[.slice (some ⟨go, 0, none⟩) keys.length keys.length, .int .i64 ((firsts keys).length : Nat)]) (by simp [results, Try.results120, go_sem]) rfl ?_
      exact ⟨_, rfl, HO.mono (fun q hq => by have hq : q = go := hq; have := hgo.out; omega), hBo⟩
set_option maxRecDepth 100000 in
set_option maxHeartbeats 4000000 in
theorem numberedGrp_calls {F : Nat → Prop} (keys : List (Nat × List UInt8)) (v : Value) (w : World) (h : Rp.Rd grpK w F v keys) (hok : ∀ x ∈ keys, KGrp.ok x) (hl : keys.length ≤ 1000) :
    Calls Try.prog 121 #[v] w fun e w' => ∃ v', e = .returned (.tuple #[v', .int .i64 ((firsts keys).length : Nat)]) ∧ Ow true 3 Rp.int w' (fun q => w.heap.size ≤ q) v' ((numL keys).map (fun n : Nat => (n : Int))) ∧ Below w.heap.size w w' := by
  obtain ⟨A, c, rfl, hlc, hcm, hrow⟩ := rd_two (r := grpK) rfl (fun h => grp_open h) h
  have hmk := mk_all Try.underlying25 infoInt keys.length (by omega) (by omega)
  have hmm := fun t W => run_makeMap (P := Try.prog) t W
  have hO := ow_allocE (e := 3) (n := keys.length) (r := Rp.int) (z := .int .i64 0) (x0 := 0) w (by omega) rfl (fun _ => rfl)
  have hb1 := below_new (w := w) (.cells (madeCells #[.int .i64 0] keys.length) 3)
  have hz1 : (w.alloc (.cells (madeCells #[.int .i64 0] keys.length) 3)).heap.size = w.heap.size + 1 := by simp
  have HOK := Lib.hid hok
  have hO0 : Hid (outN keys 0 = List.replicate keys.length 0) := Lib.hid (by simp [outN])
  have hOA := Lib.hid (outN_all keys)
  clear h hok
  go_enter Try.func121, Try.ntmps121
  go_wp2_with fail
  obtain ⟨W1, hW1⟩ : ∃ W1, W1 = w.alloc (.cells (madeCells #[.int .i64 0] keys.length) 3) := ⟨_, rfl⟩
  rw [← hW1] at hO hb1 hz1 ⊢
  clear hW1
  have hM := MapN.made (E := KGrp) W1
  have hb2 := below_new (w := W1) (.map #[] 0)
  have hz2 : (W1.alloc (.map #[] 0)).heap.size = W1.heap.size + 1 := by simp
  obtain ⟨W2, hW2⟩ : ∃ W2, W2 = W1.alloc (.map #[] 0) := ⟨_, rfl⟩
  rw [← hW2] at hM hb2 hz2 ⊢
  clear hW2
  have hO2 := hO.below hb2
  have hB2 := below_then hb1 hb2
  rw [← hO0.out] at hO2
  obtain ⟨go, hgo⟩ : ∃ go, go = w.heap.size := ⟨_, rfl⟩
  obtain ⟨mb, hmb⟩ : ∃ mb, mb = W1.heap.size := ⟨_, rfl⟩
  have hgm : go < mb := by omega
  have hmw : mb < W2.heap.size := by omega
  rw [← hmb] at hM
  have hmb2 : mb = w.heap.size + 1 := by omega
  have hB3 : Below go w W2 := by rw [hgo]; exact hB2
  have hret : ∀ w' : World, Chg (fun q => q = go ∨ q = mb) W2 w' → Below w.heap.size w w' := fun _ h => h.to_below hB2 hB2.size (fun q hq => by rcases hq with hq | hq <;> omega)
  replace hret := Lib.hid hret
  rw [← hmb2, ← hgo]
  rw [← hgo] at hO2
  replace hgo := Lib.hid hgo
  clear hO hb1 hz1 hb2 hz2 hmb hmb2 hO0 hmk hmm
  go_loopw [16] (fun i wr => ∃ k : Nat, k ≤ keys.length ∧ i = .int .i64 k ∧ Ow true 3 Rp.int wr (fun q => q = go) (.slice (some ⟨go, 0, none⟩) keys.length keys.length) (outN keys k) ∧ MapN KGrp mb (firsts (keys.take k)) wr ∧ Chg (fun q => q = go ∨ q = mb) W2 wr) (fun i _ => keys.length - (intOf i).toNat)
  case atStart => exact ⟨0, Nat.zero_le _, rfl, hO2, by simpa [firsts] using hM, Chg.refl _ _⟩
  case round =>
    clear hO2 hM
    obtain ⟨k, hk, rfl, HO, HM, HC⟩ := hrel
    rename World => wo
    by_cases hkt : k < keys.length
    · rcases hrow with hnil | ⟨b, o, rfl, hb, hcell⟩
      · rw [hnil] at hkt; simp at hkt
      have hBo := hret.out _ HC
      obtain ⟨c0, c1⟩ := hcell k hkt
      have c0 := cell_below hBo c0
      have c1 := cell_below hBo c1
      have hokk := HOK.out _ (List.getElem_mem hkt)
      have hset := Lib.hid (outN_set hkt)
      have hsn := Lib.hid (take_snoc hkt)
      have hold := Lib.hid (idx_old hkt)
      have hnew := Lib.hid (idx_new hkt)
      have hSl : (firsts (keys.take k)).length ≤ k := Nat.le_trans (firsts_len _) (by simp; omega)
      have hol := outN_len keys k hk
      clear hcell
      obtain ⟨x, hx⟩ : ∃ x, x = keys[k] := ⟨_, rfl⟩
      rw [← hx] at c0 c1 hokk hset hsn hold hnew
      clear hx
      obtain ⟨S, hS⟩ : ∃ S, S = firsts (keys.take k) := ⟨_, rfl⟩
      rw [← hS] at HM hSl hsn hold hnew
      clear hS
      obtain ⟨ix, hix⟩ : ∃ ix, ix = ixOn (firsts keys) x := ⟨_, rfl⟩
      rw [← hix] at hset hold hnew
      clear hix
      have k0 : (0 : Int) ≤ (k : Int) := Int.natCast_nonneg _
      have k1 : (k : Int) < (keys.length : Int) := by omega
      have hbx := below_new (w := wo) (.cells #[.int .i64 x.1, .string ⟨x.2.toArray⟩] 178)
      have ex := heap_alloc_new wo (.cells #[.int .i64 x.1, .string ⟨x.2.toArray⟩] 178)
      have HM1 := HM.below hbx
      obtain ⟨y1, _⟩ := cell_of_block ex
      have y10 : (wo.alloc (.cells #[.int .i64 x.1, .string ⟨x.2.toArray⟩] 178)).cell? ⟨wo.heap.size, 0, none⟩ = some (.int .i64 x.1) := (y1 0).trans rfl
      have y11 : (wo.alloc (.cells #[.int .i64 x.1, .string ⟨x.2.toArray⟩] 178)).cell? ⟨wo.heap.size, 1, none⟩ = some (.string ⟨x.2.toArray⟩) := (y1 1).trans rfl
      have HCx := HC.trans (Chg.of_below (A := fun q => q = go ∨ q = mb) hbx)
      clear y1 HC HM
      by_cases hin : x ∈ S
      · have hd : inS S x = true := inS_yes hin
        have hixv := hold.out hin
        have hsn2 : Hid (firsts (keys.take (k + 1)) = S) := Lib.hid (by rw [hsn.out, addF, if_pos hin])
        replace hin := Lib.hid hin
        replace hixv := Lib.hid hixv
        clear hold hnew hsn
        have HO1 := HO.below hbx
        obtain ⟨hc1, hf1⟩ := HO1.int_at (k := k) (by omega)
        have HP := HO1.set1 (i := k) (y := ((ix : Nat) : Int)) rfl (by omega) rfl
        rw [hset.out] at HP
        have HM2 := HM1.chg (A := fun q => q = go) (w' := (wo.alloc (.cells #[.int .i64 x.1, .string ⟨x.2.toArray⟩] 178)).setCell ⟨go, k, none⟩ (.int .i64 (ix : Nat))) (Chg.set rfl) (by show ¬ mb = go; omega)
        rw [← hsn2.out] at HM2
        have HC2 := HCx.trans (Chg.set (A := fun q => q = go ∨ q = mb) (b := go) (o := k) (u := .int .i64 (ix : Nat)) (.inl rfl))
        clear HO hset hsn2 HO1
        go_wp2_with (first | (at_lookup; refine mapN_look (E := KGrp) (by rfl) _ _ 229 (by rfl) Try.underlying229 (by rfl) HM1 x hokk (by rfl) ?_; intro ci hci; obtain rfl : ci = (ix : Int) := (hci hin.out).trans (by rw [hixv.out]); clear hci; rw [hd]) | fail)
        go_roundw
        case rel => exact ⟨k + 1, by omega, by go_num, HP, HM2, HC2⟩
        case measure => simp [intOf]; omega
      · have hd : inS S x = false := inS_no hin
        have hixv := hnew.out hin
        have hsn2 : Hid (firsts (keys.take (k + 1)) = S ++ [x]) := Lib.hid (by rw [hsn.out, addF, if_neg hin])
        replace hin := Lib.hid hin
        clear hold hnew hsn
        subst hixv
        have HO1 := HO.below hbx
        clear HO
        go_wp2_with (first | (at_lookup; refine mapN_look (E := KGrp) (by rfl) _ _ 229 (by rfl) Try.underlying229 (by rfl) HM1 x hokk (by rfl) ?_; intro ci hci; clear hci; rw [hd]) | (at_len; refine mapN_len (E := KGrp) (by rfl) _ 229 (by rfl) Try.underlying229 (by rfl) HM1 ?_) | (at_mapUpdate; refine mapN_put (E := KGrp) (by rfl) _ _ _ 229 (by rfl) Try.underlying229 (by rfl) HM1 x hokk (by rfl) (by rfl) hin.out (by omega) ?_; intro w5 HM5 hC5; obtain ⟨hc5, hfr5⟩ := (HO1.move (hC5.same (fun q hq h => by have hq : q = go := hq; have h : q = mb := h; omega))).int_at (k := k) (by omega)) | fail)
        have HO5 := HO1.move (hC5.same (fun q hq h => by have hq : q = go := hq; have h : q = mb := h; omega))
        have HP := HO5.set1 (i := k) (y := ((S.length : Nat) : Int)) rfl (by omega) rfl
        rw [hset.out] at HP
        have HM6 := HM5.chg (A := fun q => q = go) (w' := w5.setCell ⟨go, k, none⟩ (.int .i64 (S.length : Nat))) (Chg.set rfl) (by show ¬ mb = go; omega)
        rw [← hsn2.out] at HM6
        have HC6 := (HCx.trans (hC5.mono (A' := fun q => q = go ∨ q = mb) (fun q hq => .inr hq))).trans (Chg.set (A := fun q => q = go ∨ q = mb) (b := go) (o := k) (u := .int .i64 (S.length : Nat)) (.inl rfl))
        go_roundw
        case rel => exact ⟨k + 1, by omega, by go_num, HP, HM6, HC6⟩
        case measure => simp [intOf]; omega
    · obtain rfl : k = keys.length := by omega
      rw [List.take_length] at HM
      rw [hOA.out] at HO
      have hBo := hret.out _ HC
      go_wp2_with (first | (at_len; refine mapN_len (E := KGrp) (by rfl) _ 229 (by rfl) Try.underlying229 (by rfl) HM ?_) | fail)
      refine bodyPost_ret (v := .tuple #[.slice (some ⟨go, 0, none⟩) keys.length keys.length, .int .i64 ((firsts keys).length : Nat)]) (by simp [results, Try.results121, go_sem]) rfl ?_
      exact ⟨_, rfl, HO.mono (fun q hq => by have hq : q = go := hq; have := hgo.out; omega), hBo⟩
end Go.Proofs.Ytnfaibenekninaa.L

set_option linter.unusedVariables false
set_option linter.unusedSimpArgs false
namespace Go.Proofs.Ytnfaibenekninaa.L
open Go.RowKit
def Mkr.t (m : Mkr) : (Int × Int) × List Int × Int := ((m.kind, m.n), m.uses, m.copy)
def mkrK : Rp Mkr := ((Rp.int.pair Rp.int).pair ((Rp.sl Rp.int).pair Rp.int)).iso Mkr.t
def mkrCs (m : Mkr) (u : Value) : List Value := [.int .i64 m.kind, .int .i64 m.n, u, .int .i64 m.copy]
theorem mkr_open {w : World} {F : Nat → Prop} {m : Mkr} {cs : List Value} (h : mkrK.K w F m cs) : ∃ u, cs = mkrCs m u ∧ Rp.Rd Rp.int w F u m.uses := by
  obtain ⟨_, _, rfl, ⟨_, _, rfl, rfl, rfl⟩, _, _, rfl, ⟨u, rfl, hu⟩, rfl⟩ := h
  exact ⟨u, rfl, hu⟩
theorem mkr_mk {w : World} {F : Nat → Prop} {m : Mkr} {u : Value} (hu : Rp.Rd Rp.int w F u m.uses) : mkrK.K w F m (mkrCs m u) :=
  ⟨[_, _], [_, _], rfl, ⟨[_], [_], rfl, rfl, rfl⟩, [_], [_], rfl, ⟨u, rfl, hu⟩, rfl⟩
theorem infoMkr : (Try.prog.info? 91).map (fun i => (i.zero, i.size, i.bytes)) = some (some (.agg #[.int .i64 0, .int .i64 0, .slice none 0 0, .int .i64 0]), 4, 48) := by kernel_rfl
/-- In four cells. -/
structure MkAt (w : World) (b o : Nat) (m : Mkr) (u : Value) : Prop where
  c0 : w.cell? ⟨b, o, none⟩ = some (.int .i64 m.kind)
  c1 : w.cell? ⟨b, o + 1, none⟩ = some (.int .i64 m.n)
  c2 : w.cell? ⟨b, o + 2, none⟩ = some u
  c3 : w.cell? ⟨b, o + 3, none⟩ = some (.int .i64 m.copy)
theorem MkAt.below {w w1 : World} {b o : Nat} {m : Mkr} {u : Value} (h : MkAt w b o m u) (hb : Below w.heap.size w w1) : MkAt w1 b o m u :=
  ⟨cell_below hb h.c0, cell_below hb h.c1, cell_below hb h.c2, cell_below hb h.c3⟩
theorem mkAt_of {w : World} {b o : Nat} {m : Mkr} {u : Value} (h : ∀ j v, (mkrCs m u)[j]? = some v → w.cell? ⟨b, o + j, none⟩ = some v) : MkAt w b o m u := ⟨h 0 _ rfl, h 1 _ rfl, h 2 _ rfl, h 3 _ rfl⟩
theorem rd_mkr {w : World} {F : Nat → Prop} {v : Value} {l : List Mkr} (h : Rp.Rd mkrK w F v l) : ∃ A c, v = .slice A l.length c ∧ l.length ≤ c ∧ c ≤ 9223372036854775807 ∧
    (l = [] ∨ ∃ b o, A = some ⟨b, o, none⟩ ∧ b < w.heap.size ∧ ∀ (k : Nat) (hk : k < l.length), ∃ u, MkAt w b (o + k * 4) l[k] u ∧ Rp.Rd Rp.int w F u l[k].uses) := by
  obtain ⟨A, c, rfl, hl, hm, h⟩ := h
  refine ⟨A, c, rfl, hl, hm, ?_⟩
  rcases h with h | ⟨b, o, rfl, _, hb, h⟩
  · exact .inl h
  · refine .inr ⟨b, o, rfl, hb, fun k hk => ?_⟩
    obtain ⟨cs, hK, hc⟩ := h k l[k] (List.getElem?_eq_getElem hk)
    obtain ⟨u, rfl, hu⟩ := mkr_open hK
    refine ⟨u, mkAt_of fun j v hv => ?_, hu⟩
    rw [Nat.add_assoc]
    exact hc j v hv
/-- The row of makers as it lies: B is where its own memory begins behind it. -/
structure MSt (N go B : Nat) (M : List Mkr) (W0 w : World) : Prop where
  ln : M.length = N
  gb : go < B
  ow : Ow false 91 mkrK w (fun q => q = go ∨ B ≤ q) (.slice (some ⟨go, 0, none⟩) N N) M
  ch : Chg (fun q => q = go) W0 w
namespace MSt
variable {N go B : Nat} {M : List Mkr} {W0 w w' : World}
theorem below (h : MSt N go B M W0 w) (hb : Below w.heap.size w w') : MSt N go B M W0 w' := ⟨h.ln, h.gb, h.ow.below hb, h.ch.trans (Chg.of_below hb)⟩
theorem at_ (h : MSt N go B M W0 w) {a : Nat} (ha : a < N) {m : Mkr} (hm : M[a]'(by rw [h.ln]; exact ha) = m) : ∃ u, MkAt w go (a * 4) m u ∧ Rp.Rd Rp.int w (fun q => B ≤ q) u m.uses ∧ ∀ o, w.frozen? ⟨go, o, none⟩ = false := by
  obtain ⟨us, hK, hH⟩ := h.ow.holeL (k := a) (by rw [h.ln]; exact ha)
  rw [hm] at hK
  obtain ⟨u, rfl, hu⟩ := mkr_open hK
  exact ⟨u, mkAt_of (fun j v hv => hH.cell.1 j v hv), hu.mono (fun q hq => hq.1.resolve_left hq.2), fun o => hH.free o⟩
theorem cells (h : MSt N go B M W0 w) {a : Nat} (ha : a < N) : ∃ m u, MkAt w go (a * 4) m u ∧ ∀ o, w.frozen? ⟨go, o, none⟩ = false := by
  obtain ⟨u, h1, _, h3⟩ := h.at_ ha rfl
  exact ⟨_, u, h1, h3⟩
theorem put (h : MSt N go B M W0 w) {a : Nat} (ha : a < N) {m : Mkr} {u : Value} (hu : Rp.Rd Rp.int w (fun q => B ≤ q) u m.uses) : MSt N go B (M.set a m) W0 (putRow w go (a * 4) (mkrCs m u)) :=
  ⟨by rw [List.length_set]; exact h.ln, h.gb, (h.ow.putS (G := fun q => B ≤ q) rfl (by rw [h.ln]; exact ha) (mkr_mk hu) (fun k hk he => by have hk : B ≤ k := hk; have := h.gb; omega)).mono (fun q hq => hq.elim id .inr), h.ch.trans (putRow_chg _ _ _ _)⟩
theorem sort (h : MSt N go B M W0 w) {a : Nat} (ha : a < N) {m : Mkr} (hm : M[a]'(by rw [h.ln]; exact ha) = m) (x y : Int) : MSt N go B (M.set a { m with kind := x, n := y }) W0 ((w.setCell ⟨go, a * 4, none⟩ (.int .i64 x)).setCell ⟨go, a * 4 + 1, none⟩ (.int .i64 y)) := by
  obtain ⟨us, hK, hH⟩ := h.ow.holeL (k := a) (by rw [h.ln]; exact ha)
  rw [hm] at hK
  obtain ⟨u, rfl, hu⟩ := mkr_open hK
  have hH2 := (hH.set0 (s := 4) rfl (by omega) (.int .i64 x)).setj (s := 4) (j := 1) rfl (by omega) (.int .i64 y)
  have hC : Chg (fun q => q = go) w ((w.setCell ⟨go, a * 4, none⟩ (.int .i64 x)).setCell ⟨go, a * 4 + 1, none⟩ (.int .i64 y)) := (Chg.set (A := fun q => q = go) rfl).trans (Chg.set rfl)
  refine ⟨by rw [List.length_set]; exact h.ln, h.gb, (hH2.close (G := fun q => B ≤ q) (y := { m with kind := x, n := y }) (mkr_mk (u := u) ((hu.mono (fun q hq => hq.1.resolve_left hq.2)).move (hC.same (fun q hq he => by have hq : B ≤ q := hq; have he : q = go := he; have := h.gb; omega)))) (fun k hk he => by have hk : B ≤ k := hk; have := h.gb; omega)).mono (fun q hq => hq.elim id .inr), h.ch.trans hC⟩
theorem uses (h : MSt N go B M W0 w) {a : Nat} (ha : a < N) {m : Mkr} (hm : M[a]'(by rw [h.ln]; exact ha) = m) {v : Value} {l : List Int} (hv : Rp.Rd Rp.int w (fun q => B ≤ q) v l) : MSt N go B (M.set a { m with uses := l }) W0 (w.setCell ⟨go, a * 4 + 2, none⟩ v) := by
  obtain ⟨us, hK, hH⟩ := h.ow.holeL (k := a) (by rw [h.ln]; exact ha)
  rw [hm] at hK
  obtain ⟨u, rfl, hu⟩ := mkr_open hK
  have hH2 := hH.setj (s := 4) (j := 2) rfl (by omega) v
  have hC : Chg (fun q => q = go) w (w.setCell ⟨go, a * 4 + 2, none⟩ v) := Chg.set rfl
  refine ⟨by rw [List.length_set]; exact h.ln, h.gb, (hH2.close (G := fun q => B ≤ q) (y := { m with uses := l }) (mkr_mk (u := v) (hv.move (hC.same (fun q hq he => by have hq : B ≤ q := hq; have he : q = go := he; have := h.gb; omega)))) (fun k hk he => by have hk : B ≤ k := hk; have := h.gb; omega)).mono (fun q hq => hq.elim id .inr), h.ch.trans hC⟩
theorem copy (h : MSt N go B M W0 w) {a : Nat} (ha : a < N) {m : Mkr} (hm : M[a]'(by rw [h.ln]; exact ha) = m) (x : Int) : MSt N go B (M.set a { m with copy := x }) W0 (w.setCell ⟨go, a * 4 + 3, none⟩ (.int .i64 x)) := by
  obtain ⟨us, hK, hH⟩ := h.ow.holeL (k := a) (by rw [h.ln]; exact ha)
  rw [hm] at hK
  obtain ⟨u, rfl, hu⟩ := mkr_open hK
  have hH2 := hH.setj (s := 4) (j := 3) rfl (by omega) (.int .i64 x)
  have hC : Chg (fun q => q = go) w (w.setCell ⟨go, a * 4 + 3, none⟩ (.int .i64 x)) := Chg.set rfl
  refine ⟨by rw [List.length_set]; exact h.ln, h.gb, (hH2.close (G := fun q => B ≤ q) (y := { m with copy := x }) (mkr_mk (u := u) ((hu.mono (fun q hq => hq.1.resolve_left hq.2)).move (hC.same (fun q hq he => by have hq : B ≤ q := hq; have he : q = go := he; have := h.gb; omega)))) (fun k hk he => by have hk : B ≤ k := hk; have := h.gb; omega)).mono (fun q hq => hq.elim id .inr), h.ch.trans hC⟩
end MSt
/-- What the program keeps in the end: copies are what they are copies of. -/
def resM (s : Sa) (D : List Df) (v : Nat) : Mkr := ⟨(sortD D (rootD D v)).1, (sortD D (rootD D v)).2, partsD s D (rootD D v), (mkOf s v (D.getD v df0)).copy⟩
def resL (s : Sa) (D : List Df) (N : Nat) : List Mkr := (List.range N).map (resM s D)
/-- The first k are told anew. -/
def midL (s : Sa) (D : List Df) (N k : Nat) : List Mkr := (List.range N).map (fun v => if v < k then resM s D v else mkOf s v (D.getD v df0))
theorem midL_len (s : Sa) (D : List Df) (N k : Nat) : (midL s D N k).length = N := by simp [midL]
theorem midL_get {s : Sa} {D : List Df} {N k v : Nat} (hv : v < N) (h : v < (midL s D N k).length) : (midL s D N k)[v] = if v < k then resM s D v else mkOf s v (D.getD v df0) := by simp [midL]
theorem midL_set {s : Sa} {D : List Df} {N k : Nat} (hk : k < N) {m : Mkr} (h : m = resM s D k) : (midL s D N k).set k m = midL s D N (k + 1) := by
  apply List.ext_getElem
  · simp [midL]
  · intro i h1 h2
    rw [List.getElem_set]
    simp only [midL, List.getElem_map, List.getElem_range]
    by_cases hik : k = i
    · subst hik; simp [h]
    · rw [if_neg hik]
      by_cases h3 : i < k
      · rw [if_pos h3, if_pos (by omega)]
      · rw [if_neg h3, if_neg (by omega)]
theorem midL_all (s : Sa) (D : List Df) (N : Nat) : midL s D N N = resL s D N := by
  unfold midL resL
  refine List.map_congr_left fun v hv => ?_
  rw [if_pos (List.mem_range.1 hv)]
theorem mkTo_mid {s : Sa} (h : GoodP s) {N : Nat} (hN : s.values.toNat = N) : mkTo s s.parts.length = midL s (dfAll s) N 0 := by
  have hb := both_to h s.parts.length (Nat.le_refl _)
  apply List.ext_getElem
  · rw [hb.lm, midL_len, hN]
  · intro i h1 h2
    rw [midL_len] at h2
    have := hb.eq i (by omega)
    rw [List.getD_eq_getElem?_getD, List.getElem?_eq_getElem h1] at this
    rw [midL_get h2, if_neg (by omega)]
    exact this
/-- What stands at u while k is told. -/
def cM (s : Sa) (D : List Df) (k u : Nat) : Mkr := if u < k then resM s D u else mkOf s u (D.getD u df0)
def cpM (s : Sa) (D : List Df) (u : Nat) : Int := (mkOf s u (D.getD u df0)).copy
def stM (s : Sa) (D : List Df) (k u : Nat) : Mkr := { cM s D k u with copy := cpM s D k }
theorem cM_copy (s : Sa) (D : List Df) (k u : Nat) : (cM s D k u).copy = cpM s D u := by
  unfold cM
  split <;> rfl
theorem midL_cM {s : Sa} {D : List Df} {N k v : Nat} (hv : v < N) (h : v < (midL s D N k).length) : (midL s D N k)[v] = cM s D k v := midL_get hv h
theorem stM_start {s : Sa} {D : List Df} {N k : Nat} (hk : k < N) : (midL s D N k).set k (stM s D k k) = midL s D N k := by
  have hl : k < (midL s D N k).length := by rw [midL_len]; exact hk
  have e : stM s D k k = (midL s D N k)[k] := by
    rw [midL_cM hk hl]
    unfold stM
    rw [← cM_copy s D k k]
  rw [e]
  exact List.set_getElem_self _
theorem stM_end {s : Sa} (h : GoodP s) {rank : Nat → Nat} (hR : Ranked s.values.toNat (dfAll s) rank) {k u : Nat} (hu : u < s.values.toNat) (hop : ((dfAll s).getD u df0).step.op ≠ 2) (hr : rootD (dfAll s) u = rootD (dfAll s) k) : stM s (dfAll s) k u = resM s (dfAll s) k := by
  unfold stM cM
  split
  · unfold resM
    rw [hr]
    rfl
  · rw [mk_own h hu hop]
    have e := rootD_self hop
    rw [e] at hr
    unfold resM
    rw [← hr]
    rfl
theorem mk0s_set {N k : Nat} (hk : k < N) {m z : Mkr} (h : m = mk0 k) : ((List.range N).map (fun v => if v < k then mk0 v else z)).set k m = (List.range N).map (fun v => if v < k + 1 then mk0 v else z) := by
  apply List.ext_getElem
  · simp
  · intro i h1 h2
    rw [List.getElem_set]
    simp only [List.getElem_map, List.getElem_range]
    by_cases hik : k = i
    · subst hik; simp [h]
    · rw [if_neg hik]
      by_cases h3 : i < k
      · rw [if_pos h3, if_pos (by omega)]
      · rw [if_neg h3, if_neg (by omega)]
end Go.Proofs.Ytnfaibenekninaa.L

set_option linter.unusedVariables false
set_option linter.unusedSimpArgs false
namespace Go.Proofs.Ytnfaibenekninaa.L
open Go.RowKit
def zMkr : Mkr := ⟨0, 0, [], 0⟩
def mk0L (N k : Nat) : List Mkr := (List.range N).map (fun v => if v < k then mk0 v else zMkr)
theorem mk0L_len (N k : Nat) : (mk0L N k).length = N := by simp [mk0L]
theorem mk0L_zero (N : Nat) : mk0L N 0 = List.replicate N zMkr := by
  apply List.ext_getElem
  · simp [mk0L]
  · intro i h1 h2; simp [mk0L]
set_option maxRecDepth 100000 in
set_option maxHeartbeats 16000000 in
theorem makers_calls {F : Nat → Prop} (s : Sa) (N vb : Nat) (vparts vn vd vD vT : Value) (w : World) (hv : w.heap[vb]? = some (viewC vparts s.values vn vd vD vT)) (hs : Rp.Rd part w F vparts s.parts) (hg : GoodP s) (hx2 : ∀ p ∈ s.parts, PtLim p) (hNV : (N : Int) = s.values) :
    Calls Try.prog 59 #[.pointer (some ⟨vb, 0, none⟩)] w fun e w' => ∃ v', e = .returned v' ∧ Rp.Rd mkrK w' (fun q => w.heap.size ≤ q) v' (resL s (dfAll s) N) ∧ Below w.heap.size w w' := by
  obtain ⟨rank, X⟩ := dctx hg hNV
  have hNt : s.values.toNat = N := by omega
  have hR := X.rk
  rw [← hNt] at hR
  have HEnd := Lib.hid (fun k u (hu : u < N) hop hr => stM_end hg hR (k := k) (u := u) (by omega) hop hr)
  have HCp := Lib.hid (fun u (hu : u < N) => mk_copy hg (v := u) (by omega))
  have HMid := Lib.hid (mkTo_mid hg hNt)
  have HM0 : Hid (mkTo s 0 = mk0L N N) := Lib.hid (by
    unfold mkTo mk0L
    rw [hNt]
    refine List.map_congr_left fun v hv => ?_
    rw [if_pos (List.mem_range.1 hv)])
  have HHd := Lib.hid (fun (q : Nat) p (hq : s.parts[q]? = some p) i (hi : i < p.params.length) W G sb (hc : W.cell? ⟨sb, 0, none⟩ = some vparts) (h : Rp.Rd part W G vparts s.parts) => handed_calls s sb 0 q i vparts W hc h hg.hlen (hg.hed hq hi))
  have hv1 := hg.v1
  have hv2 := hg.v2
  have hn1 := hg.n1
  have hN0 : 0 < N := by omega
  have hN1 : N ≤ 250 := by omega
  have HX := Lib.hid X
  have HGP := Lib.hid hg
  have HPl := Lib.hid hx2
  obtain ⟨A, c, rfl, _, _, hrow⟩ := rd_part hs
  rcases hrow with hnil | ⟨b, o, rfl, hbl, hcell⟩
  · rw [hnil] at hn1; simp at hn1
  have HC := Lib.hid hcell
  have hvl := blk_lt hv
  obtain ⟨v0, v1, v2, v3, v4, v5⟩ := view_cells hv
  rw [← hNV] at v1
  have hmk := mk_all Try.underlying85 infoMkr N (by omega) (by omega)
  have hO1 := ow_alloc (e := 91) (r := mkrK) (n := N) (z := #[.int .i64 0, .int .i64 0, .slice none 0 0, .int .i64 0]) (x0 := zMkr) w (by omega) rfl (by decide) (fun _ => mkr_mk (m := zMkr) (Rp.Rd.nil _ _ _))
  have hb1 := below_new (w := w) (.cells (madeCells #[.int .i64 0, .int .i64 0, .slice none 0 0, .int .i64 0] (N * 4)) 91)
  have hz1 : (w.alloc (.cells (madeCells #[.int .i64 0, .int .i64 0, .slice none 0 0, .int .i64 0] (N * 4)) 91)).heap.size = w.heap.size + 1 := by simp
  obtain ⟨D, hD⟩ : ∃ D, D = dfAll s := ⟨_, rfl⟩
  rw [← hD] at HEnd HCp HMid HX ⊢
  clear hD X hR hg hx2 hcell hNt
  replace hNV := Lib.hid hNV
  replace hs := Lib.hid hs
  go_enter Try.func59, Try.ntmps59
  go_wp2_with fail
  obtain ⟨W1, hW1⟩ : ∃ W1, W1 = w.alloc (.cells (madeCells #[.int .i64 0, .int .i64 0, .slice none 0 0, .int .i64 0] (N * 4)) 91) := ⟨_, rfl⟩
  have hO2 : Ow true 91 mkrK W1 (fun k => k = w.heap.size) (.slice (some ⟨w.heap.size, 0, none⟩) N N) (List.replicate N zMkr) := by rw [hW1]; exact hO1
  rw [← hW1] at hb1 hz1 ⊢
  clear hW1 hO1 v0 v1 v2 v3 v4 v5
  obtain ⟨go, hgo⟩ : ∃ go, go = w.heap.size := ⟨_, rfl⟩
  rw [← hgo] at hO2 ⊢
  have hgB : go < W1.heap.size := by omega
  have hvb : vb < go := by omega
  have hbg : b < go := by omega
  have hRet : ∀ w' : World, Chg (fun q => q = go) W1 w' → Below w.heap.size w w' := fun w' h => h.to_below hb1 hb1.size (fun q hq => by have hq : q = go := hq; omega)
  replace hRet := Lib.hid hRet
  obtain ⟨B, hB⟩ : ∃ B, B = W1.heap.size := ⟨_, rfl⟩
  rw [← hB] at hgB
  have hBW : B ≤ W1.heap.size := by omega
  have hgw : w.heap.size ≤ go := by omega
  clear hgo hz1 hB
  have hS0 : MSt N go B (mk0L N 0) W1 W1 := ⟨mk0L_len _ _, hgB, by rw [mk0L_zero]; exact hO2.loose.mono (fun q hq => .inl hq), Chg.refl _ _⟩
  have hv1 := blk_below hv hb1
  clear hO2 hmk hb1 hv
  go_loopw [21] (fun i wr => ∃ k : Nat, k ≤ N ∧ i = .int .i64 k ∧ MSt N go B (mk0L N k) W1 wr) (fun i _ => N - (intOf i).toNat)
  case atStart => exact ⟨0, Nat.zero_le _, rfl, hS0⟩
  case round =>
    clear hS0
    obtain ⟨k, hk, rfl, HS⟩ := hrel
    rename World => wx
    by_cases hkt : k < N
    · have k0 : (0 : Int) ≤ (k : Int) := Int.natCast_nonneg _
      have k1 : (k : Int) < (N : Int) := by omega
      obtain ⟨mq, u, ⟨z0, z1, z2, z3⟩, hfr⟩ := HS.cells hkt
      have hP := HS.put hkt (m := ⟨0, k, [], -1⟩) (u := .slice none 0 0) (Rp.Rd.nil _ _ _)
      have hset : ∀ m, m = mk0 k → (mk0L N k).set k m = mk0L N (k + 1) := fun m hm => mk0s_set hkt hm
      by_cases h8 : 8 ≤ k ∧ k < 12
      · have e : mk0 k = ⟨1, 0, [], -1⟩ := by unfold mk0; rw [if_pos h8]
        have hQ := hP.sort hkt (m := ⟨0, k, [], -1⟩) (by rw [List.getElem_set_self]) 1 0
        rw [List.set_set, hset _ e.symm] at hQ
        have t8 : (8 : Int) ≤ (k : Int) := by omega
        have t12 : (k : Int) < 12 := by omega
        clear hset hP HS e
        go_wp2
        go_roundw
        case rel => exact ⟨k + 1, by omega, by go_num, hQ⟩
        case measure => simp [intOf]; omega
      · have e : mk0 k = ⟨0, k, [], -1⟩ := by unfold mk0; rw [if_neg h8]
        rw [hset _ e.symm] at hP
        clear hset HS e
        by_cases h9 : 8 ≤ k
        · have t8 : (8 : Int) ≤ (k : Int) := by omega
          have t12 : ¬ (k : Int) < 12 := by omega
          go_wp2
          go_roundw
          case rel => exact ⟨k + 1, by omega, by go_num, hP⟩
          case measure => simp [intOf]; omega
        · have t8 : ¬ (8 : Int) ≤ (k : Int) := by omega
          go_wp2
          go_roundw
          case rel => exact ⟨k + 1, by omega, by go_num, hP⟩
          case measure => simp [intOf]; omega
    · obtain rfl : N = k := by omega
      rw [← HM0.out] at HS
      have hvx := HS.ch.blk hv1 (by show ¬ vb = go; omega)
      obtain ⟨v0, v1, v2, v3, v4, v5⟩ := view_cells hvx
      clear HM0
      go_wp2_with fail
      clear v0 v1 v2 v3 v4 v5 hvx
      go_loopw [48] (fun i wr => ∃ q : Nat, q ≤ s.parts.length ∧ i = .int .i64 q ∧ MSt N go B (mkTo s q) W1 wr) (fun i _ => s.parts.length - (intOf i).toNat)
      case atStart => exact ⟨0, Nat.zero_le _, rfl, HS⟩
      case round =>
        clear HS
        obtain ⟨q, hq, rfl, HS⟩ := hrel
        rename World => wo
        by_cases hqt : q < s.parts.length
        · obtain ⟨_, _, _, _, hp, h1, h2, ⟨A3, c3, rfl, _⟩, ⟨A4, c4, rfl, _⟩⟩ := HC.out q hqt
          obtain ⟨A1, c1, rfl, _, _, hr1⟩ := rd_int h1
          obtain ⟨A2, c2, rfl, _, _, hr2⟩ := rd_flat h2
          have hsp : s.parts[q]? = some s.parts[q] := List.getElem?_eq_getElem hqt
          have hlp := HPl.out _ (List.getElem_mem hqt)
          have hl1 := hlp.1
          have hl2 := hlp.2.1
          have HOw : Hid (∀ v ∈ ownS s.parts[q], 0 ≤ v ∧ v < (N : Int)) := Lib.hid (fun v hv => by have := HGP.out.own_def hsp hv; have := hNV.out; omega)
          have HSucc := Lib.hid (mkTo_succ hsp)
          have HHq := Lib.hid (HHd.out q _ hsp)
          have HBw := hRet.out _ HS.ch
          have HPa := Lib.hid hp
          obtain ⟨q0, q1, q2, q3, q4, q5⟩ := partAt_below hp HBw
          have hvx := HS.ch.blk hv1 (by show ¬ vb = go; omega)
          obtain ⟨v0, v1, v2, v3, v4, v5⟩ := view_cells hvx
          clear hsp hlp hp h1 h2
          generalize s.parts[q] = p at *
          have m0 : (0 : Int) ≤ (q : Int) := Int.natCast_nonneg _
          have m1 : (q : Int) < (s.parts.length : Int) := by omega
          obtain ⟨M0, hM0⟩ : ∃ M0, M0 = mkTo s q := ⟨_, rfl⟩
          rw [← hM0] at HS HSucc
          clear hM0
          have hS3 : MSt N go B (mkParam s q M0 p.params 0) W1 wo := HS
          clear HS
          go_wp2_with fail
          clear q0 q1 q2 q3 q4 q5 v0 v1 v2 v3 v4 v5 hvx
          go_loopw [63] (fun i wr => ∃ j : Nat, j ≤ p.params.length ∧ i = .int .i64 j ∧ MSt N go B (mkParam s q M0 p.params j) W1 wr) (fun i _ => p.params.length - (intOf i).toNat)
          case atStart => exact ⟨0, Nat.zero_le _, rfl, hS3⟩
          case round =>
            clear hS3
            obtain ⟨j, hj, rfl, HS⟩ := hrel
            rename World => wy
            have HBy := hRet.out _ HS.ch
            by_cases hjt : j < p.params.length
            · rcases hr1 with hn0 | ⟨bp, op, rfl, hbp, hcp⟩
              · rw [hn0] at hjt; simp at hjt
              have cv := cell_below HBy (hcp j hjt)
              have hvr := HOw.out _ (List.mem_append.2 (.inl (List.getElem_mem hjt)))
              have e : p.params.getD j 0 = p.params[j] := by rw [List.getD_eq_getElem?_getD, List.getElem?_eq_getElem hjt]; rfl
              have HSu : Hid (mkParam s q M0 p.params (j + 1) = (mkParam s q M0 p.params j).set (p.params[j]).toNat ⟨3, q, handS s.parts q j, -1⟩) := Lib.hid (by rw [mkParam_succ, e])
              clear hcp e
              obtain ⟨v, hv⟩ : ∃ v, v = p.params[j] := ⟨_, rfl⟩
              rw [← hv] at cv hvr HSu
              clear hv
              obtain ⟨a, rfl⟩ := Int.eq_ofNat_of_zero_le hvr.1
              have hak : a < N := by omega
              have a0 : (0 : Int) ≤ (a : Int) := Int.natCast_nonneg _
              have a1 : (a : Int) < (N : Int) := by omega
              have j0 : (0 : Int) ≤ (j : Int) := Int.natCast_nonneg _
              have j1 : (j : Int) < (p.params.length : Int) := by omega
              rw [show (Int.toNat (a : Int)) = a from Int.toNat_natCast a] at HSu
              have hvy := HS.ch.blk hv1 (by show ¬ vb = go; omega)
              obtain ⟨v0, v1, v2, v3, v4, v5⟩ := view_cells hvy
              have hH := Lib.hid (HHq.out j hjt wy _ vb v0 (hs.out.below HBy))
              go_wp2_with fail
              refine hH.out.mono ?_
              rintro e w4 ⟨v4', rfl, hO4, hb4⟩
              have HS4 := HS.below hb4
              have hsy : B ≤ wy.heap.size := by have := HS.ch.size; omega
              have hR4 : Rp.Rd Rp.int w4 (fun q => B ≤ q) v4' (handS s.parts q j) := (hO4.mono (G := fun q => B ≤ q) (fun q hq => Nat.le_trans hsy hq)).rd
              obtain ⟨mq, u, ⟨z0, z1, z2, z3⟩, hfr⟩ := HS4.cells hak
              have hP := HS4.put hak (m := ⟨3, q, handS s.parts q j, -1⟩) hR4
              rw [← HSu.out] at hP
              obtain ⟨A5, c5, rfl, _⟩ := id hR4
              clear HS HSu hH v0 v1 v2 v3 v4 v5 hvy HS4 hO4 hb4
              go_wp2
              go_roundw
              case rel => exact ⟨j + 1, by omega, by go_num, hP⟩
              case measure => simp [intOf]; omega
            · obtain rfl : j = p.params.length := by omega
              obtain ⟨M1, hM1⟩ : ∃ M1, M1 = mkParam s q M0 p.params p.params.length := ⟨_, rfl⟩
              have HSucc2 : Hid (mkTo s (q + 1) = mkCode M1 p.code) := Lib.hid (by rw [HSucc.out, hM1]; rfl)
              rw [← hM1] at HS
              clear hM1 HSucc
              obtain ⟨q0, q1, q2, q3, q4, q5⟩ := partAt_below HPa.out HBy
              have hS4 : MSt N go B (mkCode M1 (p.code.take 0)) W1 wy := HS
              clear HS
              go_wp2_with fail
              clear q0 q1 q2 q3 q4 q5
              go_loopw [86] (fun i wr => ∃ n : Nat, n ≤ p.code.length ∧ i = .int .i64 n ∧ MSt N go B (mkCode M1 (p.code.take n)) W1 wr) (fun i _ => p.code.length - (intOf i).toNat)
              case atStart => exact ⟨0, Nat.zero_le _, rfl, hS4⟩
              case round =>
                clear hS4
                obtain ⟨n, hn, rfl, HS⟩ := hrel
                rename World => wz
                by_cases hnt : n < p.code.length
                · rcases hr2 with hn0 | ⟨bc, oc, rfl, hbc, hcc⟩
                  · rw [hn0] at hnt; simp at hnt
                  have HBz := hRet.out _ HS.ch
                  obtain ⟨r0, r1, r2, r3, r4, r5⟩ := (hcc n hnt).below HBz
                  have HTk := Lib.hid (mkCode_take (M := M1) hnt)
                  have HDs : Hid (setsS p.code[n] = true → 0 ≤ p.code[n].dst ∧ p.code[n].dst < (N : Int)) := Lib.hid (fun h => HOw.out _ (List.mem_append.2 (.inr (List.mem_map.2 ⟨_, List.mem_filter.2 ⟨List.getElem_mem hnt, h⟩, rfl⟩))))
                  clear hcc
                  generalize p.code[n] = x at *
                  have n0 : (0 : Int) ≤ (n : Int) := Int.natCast_nonneg _
                  have n1 : (n : Int) < (p.code.length : Int) := by omega
                  have hb3 := below_new (w := wz) (.cells #[.int .i64 x.op, .int .i64 x.dO, .int .i64 x.dst, .int .i64 x.a, .int .i64 x.b, .int .i64 x.n] 108)
                  have x3 := heap_alloc_new wz (.cells #[.int .i64 x.op, .int .i64 x.dO, .int .i64 x.dst, .int .i64 x.a, .int .i64 x.b, .int .i64 x.n] 108)
                  have hz3 : (wz.alloc (.cells #[.int .i64 x.op, .int .i64 x.dO, .int .i64 x.dst, .int .i64 x.a, .int .i64 x.b, .int .i64 x.n] 108)).heap.size = wz.heap.size + 1 := by simp
                  have HS3 := HS.below hb3
                  obtain ⟨y1, _⟩ := cell_of_block x3
                  have y10 : (wz.alloc (.cells #[.int .i64 x.op, .int .i64 x.dO, .int .i64 x.dst, .int .i64 x.a, .int .i64 x.b, .int .i64 x.n] 108)).cell? ⟨wz.heap.size, 0, none⟩ = some (.int .i64 x.op) := (y1 0).trans rfl
                  have y11 : (wz.alloc (.cells #[.int .i64 x.op, .int .i64 x.dO, .int .i64 x.dst, .int .i64 x.a, .int .i64 x.b, .int .i64 x.n] 108)).cell? ⟨wz.heap.size, 1, none⟩ = some (.int .i64 x.dO) := (y1 1).trans rfl
                  have y12 : (wz.alloc (.cells #[.int .i64 x.op, .int .i64 x.dO, .int .i64 x.dst, .int .i64 x.a, .int .i64 x.b, .int .i64 x.n] 108)).cell? ⟨wz.heap.size, 2, none⟩ = some (.int .i64 x.dst) := (y1 2).trans rfl
                  have y13 : (wz.alloc (.cells #[.int .i64 x.op, .int .i64 x.dO, .int .i64 x.dst, .int .i64 x.a, .int .i64 x.b, .int .i64 x.n] 108)).cell? ⟨wz.heap.size, 3, none⟩ = some (.int .i64 x.a) := (y1 3).trans rfl
                  have y14 : (wz.alloc (.cells #[.int .i64 x.op, .int .i64 x.dO, .int .i64 x.dst, .int .i64 x.a, .int .i64 x.b, .int .i64 x.n] 108)).cell? ⟨wz.heap.size, 4, none⟩ = some (.int .i64 x.b) := (y1 4).trans rfl
                  have y15 : (wz.alloc (.cells #[.int .i64 x.op, .int .i64 x.dO, .int .i64 x.dst, .int .i64 x.a, .int .i64 x.b, .int .i64 x.n] 108)).cell? ⟨wz.heap.size, 5, none⟩ = some (.int .i64 x.n) := (y1 5).trans rfl
                  clear HS y1
                  have hsz3 : B ≤ wz.heap.size + 1 := by have := HS3.ch.size; omega
                  obtain ⟨xo, xd, xdst, xa, xb, xn⟩ := x
                  dsimp only at *
                  by_cases hset : xo = 1 ∨ xo = 2 ∨ xo = 3
                  · have hss : setsS ⟨xo, xd, xdst, xa, xb, xn⟩ = true := by unfold setsS inB; rcases hset with h | h | h <;> subst h <;> rfl
                    have hdr := HDs.out hss
                    clear HDs hss
                    obtain ⟨a, rfl⟩ := Int.eq_ofNat_of_zero_le hdr.1
                    have hak : a < N := by omega
                    have a0 : (0 : Int) ≤ (a : Int) := Int.natCast_nonneg _
                    have a1 : (a : Int) < (N : Int) := by omega
                    have hat : Int.toNat (a : Int) = a := Int.toNat_natCast a
                    rcases hset with rfl | rfl | rfl
                    · have HT2 : Hid (mkCode M1 (p.code.take (n + 1)) = (mkCode M1 (p.code.take n)).set a ⟨1, xn, [], -1⟩) := Lib.hid (by rw [HTk.out]; unfold mkStep; rw [if_pos rfl]; dsimp only; rw [hat])
                      obtain ⟨mq, u, ⟨z0, z1, z2, z3⟩, hfr⟩ := HS3.cells hak
                      have hP := HS3.put hak (m := ⟨1, xn, [], -1⟩) (u := .slice none 0 0) (Rp.Rd.nil _ _ _)
                      rw [← HT2.out] at hP
                      clear HTk HS3 HT2 hat
                      go_wp2
                      go_roundw
                      case rel => exact ⟨n + 1, by omega, by go_num, hP⟩
                      case measure => simp [intOf]; omega
                    · have hga := HS3.ln
                      have hgd : (mkCode M1 (p.code.take n)).getD a (mk0 0) = (mkCode M1 (p.code.take n))[a]'(by omega) := by rw [List.getD_eq_getElem?_getD, List.getElem?_eq_getElem (by omega)]; rfl
                      have HT2 : Hid (mkCode M1 (p.code.take (n + 1)) = (mkCode M1 (p.code.take n)).set a { (mkCode M1 (p.code.take n))[a]'(by omega) with copy := xa }) := Lib.hid (by rw [HTk.out]; unfold mkStep; rw [if_neg (by show ¬ (2 : Int) = 1; decide), if_neg (by show ¬ (2 : Int) = 3; decide), if_pos rfl]; dsimp only; rw [hat, hgd])
                      obtain ⟨mq, u, ⟨z0, z1, z2, z3⟩, hfr⟩ := HS3.cells hak
                      have hP := HS3.copy hak rfl xa
                      rw [← HT2.out] at hP
                      clear HTk HS3 HT2 hat hgd hga
                      go_wp2
                      go_roundw
                      case rel => exact ⟨n + 1, by omega, by go_num, hP⟩
                      case measure => simp [intOf]; omega
                    · have HT2 : Hid (mkCode M1 (p.code.take (n + 1)) = (mkCode M1 (p.code.take n)).set a ⟨2, xd, [xa, xb], -1⟩) := Lib.hid (by rw [HTk.out]; unfold mkStep; rw [if_neg (by show ¬ (3 : Int) = 1; decide), if_pos rfl]; dsimp only; rw [hat])
                      have hb5 := below_new (w := wz.alloc (.cells #[.int .i64 3, .int .i64 xd, .int .i64 (a : Int), .int .i64 xa, .int .i64 xb, .int .i64 xn] 108)) (.cells #[.int .i64 xa, .int .i64 xb] 3)
                      have HS5 := HS3.below hb5
                      have hR5 := (ow_intsG (e := 3) (g := wz.heap.size + 1) (B := B) (W := wz.alloc (.cells #[.int .i64 3, .int .i64 xd, .int .i64 (a : Int), .int .i64 xa, .int .i64 xb, .int .i64 xn] 108)) hz3.symm hsz3 [xa, xb] #[.int .i64 xa, .int .i64 xb] rfl (by simp)).rd
                      obtain ⟨mq, u, ⟨z0, z1, z2, z3⟩, hfr⟩ := HS5.cells hak
                      have hP := HS5.put hak (m := ⟨2, xd, [xa, xb], -1⟩) hR5
                      rw [← HT2.out] at hP
                      clear HTk HS3 HS5 HT2 hat hR5
                      go_wp2
                      go_roundw
                      case rel => exact ⟨n + 1, by omega, by go_num, hP⟩
                      case measure => simp [intOf]; omega
                  · have hne : xo ≠ 1 ∧ xo ≠ 2 ∧ xo ≠ 3 := by omega
                    have t1 : (xo == 1) = false := by simpa using hne.1
                    have t2 : (xo == 2) = false := by simpa using hne.2.1
                    have t3 : (xo == 3) = false := by simpa using hne.2.2
                    have HT2 : Hid (mkCode M1 (p.code.take (n + 1)) = mkCode M1 (p.code.take n)) := Lib.hid (by rw [HTk.out]; unfold mkStep; rw [if_neg hne.1, if_neg hne.2.2, if_neg hne.2.1])
                    rw [← HT2.out] at HS3
                    clear HTk HT2 HDs hset hne
                    go_wp2
                    go_roundw
                    case rel => exact ⟨n + 1, by omega, by go_num, HS3⟩
                    case measure => simp [intOf]; omega
                · obtain rfl : n = p.code.length := by omega
                  rw [List.take_length] at HS
                  rw [← HSucc2.out] at HS
                  go_wp2
                  go_roundw
                  case rel => exact ⟨q + 1, by omega, by go_num, HS⟩
                  case measure => simp [intOf]; omega
        · obtain rfl : q = s.parts.length := by omega
          rw [HMid.out] at HS
          clear HMid
          go_wp2_with fail
          go_loopw [130] (fun i wr => ∃ k : Nat, k ≤ N ∧ i = .int .i64 k ∧ MSt N go B (midL s D N k) W1 wr) (fun i _ => N - (intOf i).toNat)
          case atStart => exact ⟨0, Nat.zero_le _, rfl, HS⟩
          case round =>
            clear HS
            obtain ⟨k, hk, rfl, HS⟩ := hrel
            rename World => wx
            by_cases hkt : k < N
            · have k0 : (0 : Int) ≤ (k : Int) := Int.natCast_nonneg _
              have k1 : (k : Int) < (N : Int) := by omega
              have hml := midL_len s D N k
              have hcm := Lib.hid (fun v (hv : v < N) h => midL_cM (s := s) (D := D) (k := k) hv h)
              have hst := Lib.hid (stM_start (s := s) (D := D) hkt)
              have hcp := Lib.hid (fun v => cM_copy s D k v)
              have hms := Lib.hid (fun m h => midL_set (s := s) (D := D) (N := N) hkt (m := m) h)
              obtain ⟨u, ⟨z0, z1, z2, z3⟩, hu, hfr⟩ := HS.at_ hkt (hcm.out k hkt (by omega))
              rw [hcp.out k] at z3
              rw [← hst.out] at HS
              clear hu hfr hst z0 z1 z2
              obtain ⟨L, hL⟩ : ∃ L, L = midL s D N k := ⟨_, rfl⟩
              rw [← hL] at HS hml hcm hms
              clear hL
              have hL1 : L.length ≤ N := by omega
              have hL2 : N ≤ L.length := by omega
              clear hml
              go_wp2_with fail
              go_loopw [12] (fun x wr => ∃ (u : Nat) (z : Int), x = .int .i64 z ∧ z = cpM s D u ∧ u < N ∧ Hid (rootD D u = rootD D k) ∧ rank u ≤ rank k ∧ MSt N go B (L.set k (stM s D k u)) W1 wr) (fun x _ => if intOf x < 0 then 0 else rank (intOf x).toNat + 1)
              case atStart => exact ⟨k, _, rfl, rfl, hkt, Lib.hid rfl, Nat.le_refl _, HS⟩
              case round =>
                clear HS z3
                obtain ⟨u, z, rfl, hz, hu, hr, hrk, HS⟩ := hrel
                rename World => wy
                have hcu := HCp.out u hu
                have hcu2 : cpM s D u = if (D.getD u df0).step.op = 2 then (D.getD u df0).step.a else -1 := hcu
                by_cases hop : (D.getD u df0).step.op = 2
                · obtain ⟨ha0, ha1, ha2⟩ := HX.out.rk.cp u hu hop
                  rw [if_pos hop] at hcu2
                  rw [hcu2] at hz
                  have hr2 := rootD_step HX.out.rk hu
                  rw [if_pos hop] at hr2
                  rw [← hz] at ha0 ha1 ha2 hr2
                  obtain ⟨v, rfl⟩ := Int.eq_ofNat_of_zero_le ha0
                  rw [Int.toNat_natCast] at ha1 ha2 hr2
                  have hr3 : Hid (rootD D v = rootD D k) := Lib.hid (hr2.symm.trans hr.out)
                  have hvk : v ≠ k := fun h => by subst h; omega
                  have hlv : v < (L.set k (stM s D k u)).length := by rw [List.length_set]; omega
                  have hev : (L.set k (stM s D k u))[v] = cM s D k v := by rw [List.getElem_set_ne (fun h => hvk h.symm)]; exact hcm.out v ha1 (by omega)
                  obtain ⟨uv, ⟨z0, z1, z2, z3⟩, huv, hfr⟩ := HS.at_ ha1 hev
                  rw [hcp.out v] at z3
                  obtain ⟨Auv, cuv, rfl, _⟩ := id huv
                  have hS1 := HS.sort hkt (m := stM s D k u) (by rw [List.getElem_set_self]) (cM s D k v).kind (cM s D k v).n
                  rw [List.set_set] at hS1
                  have hC1 : Chg (fun q => q = go) wy ((wy.setCell ⟨go, k * 4, none⟩ (.int .i64 (cM s D k v).kind)).setCell ⟨go, k * 4 + 1, none⟩ (.int .i64 (cM s D k v).n)) := (Chg.set (A := fun q => q = go) rfl).trans (Chg.set rfl)
                  have huv1 := huv.move (hC1.same (fun q hq h => by have hq : B ≤ q := hq; have h : q = go := h; omega))
                  have hSd := hS1.below (below_drew (Below.refl _ _))
                  have huv2 := huv1.below (below_drew (Below.refl _ _))
                  have hS2 := hSd.uses hkt (m := { stM s D k u with kind := (cM s D k v).kind, n := (cM s D k v).n }) (by rw [List.getElem_set_self]) huv2
                  rw [List.set_set] at hS2
                  have hS3 : MSt N go B (L.set k (stM s D k v)) W1 (((wy.setCell ⟨go, k * 4, none⟩ (.int .i64 (cM s D k v).kind)).setCell ⟨go, k * 4 + 1, none⟩ (.int .i64 (cM s D k v).n)).drew.setCell ⟨go, k * 4 + 2, none⟩ (.slice Auv (cM s D k v).uses.length cuv)) := hS2
                  obtain ⟨mk, uk, ⟨y0, y1, y2, y3⟩, _⟩ := HS.cells hkt
                  have a0 : (0 : Int) ≤ (v : Int) := Int.natCast_nonneg _
                  have a1 : (v : Int) < (N : Int) := by omega
                  have hml2 : Hid (cpM s D v < 0 ∨ rank (cpM s D v).toNat < rank v) := Lib.hid (by
                    have h5 : cpM s D v = if (D.getD v df0).step.op = 2 then (D.getD v df0).step.a else -1 := HCp.out v ha1
                    by_cases hop2 : (D.getD v df0).step.op = 2
                    · rw [if_pos hop2] at h5
                      rw [h5]
                      exact .inr (HX.out.rk.cp v ha1 hop2).2.2
                    · rw [if_neg hop2] at h5
                      rw [h5]
                      exact .inl (by omega))
                  have hrv : rank v ≤ rank k := by omega
                  have hvk1 : ¬ go = vb := by omega
                  clear hS1 hS2 hC1 huv1 huv2 hSd hev hr2 hcu hcu2 hop hz ha0
                  generalize (cM s D k v).kind = ck at *
                  generalize (cM s D k v).n = cn at *
                  obtain ⟨cp, hcpv⟩ : ∃ cp, cp = cpM s D v := ⟨_, rfl⟩
                  rw [← hcpv] at z3 hml2
                  replace hcpv := Lib.hid hcpv
                  go_wp2_with fail
                  go_region
                  go_wp2
                  go_roundw
                  case rel => exact ⟨v, cp, rfl, hcpv.out, ha1, hr3, hrv, hS3⟩
                  case measure =>
                    have h1 : ¬ ((v : Int) < 0) := by omega
                    show (if cp < 0 then 0 else rank cp.toNat + 1) < (if (v : Int) < 0 then 0 else rank ((v : Int)).toNat + 1)
                    rw [if_neg h1, Int.toNat_natCast]
                    split
                    · omega
                    · rename_i h2
                      have := hml2.out.resolve_left h2
                      omega
                · rw [if_neg hop] at hcu2
                  rw [hcu2] at hz
                  subst hz
                  have hE := HEnd.out k u hu hop hr.out
                  rw [hE, hms.out _ rfl] at HS
                  clear hcu hcu2 hop hE
                  go_wp2
                  go_roundw
                  case rel => exact ⟨k + 1, by omega, by go_num, HS⟩
                  case measure => simp [intOf]; omega
            · obtain rfl : N = k := by omega
              have hO := (HS.ow.mono (G := fun q => w.heap.size ≤ q) (fun q hq => by have hW := (hRet.out _ (Chg.refl _ _)).size; rcases hq with hq | hq <;> omega)).rd
              have hBf := hRet.out _ HS.ch
              rw [midL_all] at hO
              clear HS
              go_wp2
              go_ret
              exact ⟨_, rfl, hO, hBf⟩
end Go.Proofs.Ytnfaibenekninaa.L

set_option linter.unusedVariables false
set_option linter.unusedSimpArgs false
namespace Go.Proofs.Ytnfaibenekninaa.L
open Go.RowKit
/-- The first value of a group. -/
def fstV (gl : List Int) (x : Int) : Int := ((gl.findIdx (· == x) : Nat) : Int)
theorem fst_at {gl : List Int} {k : Nat} (hk : k < gl.length) : ∃ m, m ≤ k ∧ fstV gl (grO gl k) = (m : Int) ∧ grO gl m = grO gl k ∧ ∀ j, j < m → grO gl j ≠ grO gl k := by
  have hex : gl.findIdx (· == grO gl k) < gl.length := List.findIdx_lt_length_of_exists ⟨gl[k], List.getElem_mem hk, by rw [grO_get hk]; simp⟩
  have h1 := List.findIdx_getElem (p := (· == grO gl k)) (w := hex)
  have h2 : ∀ j (hj : j < gl.findIdx (· == grO gl k)), grO gl j ≠ grO gl k := fun j hj he => by
    have := List.not_of_lt_findIdx hj
    rw [grO_get (by omega)] at he
    simp [he] at this
  refine ⟨gl.findIdx (· == grO gl k), ?_, rfl, ?_, fun j hj => h2 j hj⟩
  · rcases Nat.lt_or_ge k (gl.findIdx (· == grO gl k)) with h | h
    · exact absurd rfl (h2 k h)
    · exact h
  · rw [grO_get hex]
    simpa using h1
theorem fstMem_iff {gl : List Int} {k : Nat} (hk : k < gl.length) : grO gl k ∈ firsts (gl.take k) ↔ ∃ m, m < k ∧ grO gl m = grO gl k := by
  rw [mem_firsts, List.mem_take_iff_getElem]
  constructor
  · rintro ⟨i, hi, he⟩
    exact ⟨i, by omega, by rw [grO_get (by omega)]; exact he⟩
  · rintro ⟨m, hm, he⟩
    exact ⟨m, by omega, by rw [← he, grO_get (by omega)]⟩
theorem firsts_take {gl : List Int} {k : Nat} (hk : k < gl.length) : firsts (gl.take (k + 1)) = addF (firsts (gl.take k)) (grO gl k) := by
  rw [List.take_succ_eq_append_getElem hk, firsts_snoc, grO_get hk]
theorem addF_in {S : List Int} {x : Int} (h : x ∈ S) : addF S x = S := by unfold addF; rw [if_pos h]
theorem addF_out {S : List Int} {x : Int} (h : x ∉ S) : addF S x = S ++ [x] := by unfold addF; rw [if_neg h]
/-- Where its group is not yet there. -/
theorem new_ok {s : Sa} {D : List Df} {gl : List Int} {k : Nat} (hk : k < gl.length) (h1 : (D.getD k df0).step.op = 2 → grO gl k = grO gl (D.getD k df0).step.a.toNat) (hn : grO gl k ∉ firsts (gl.take k)) : stepI1 s D gl k ∧ (k : Int) = fstV gl (grO gl k) := by
  rw [fstMem_iff hk] at hn
  obtain ⟨m, m1, m2, m3, m4⟩ := fst_at hk
  have hmk : m = k := by
    rcases Nat.lt_or_eq_of_le m1 with h | h
    · exact absurd ⟨m, h, m3⟩ hn
    · exact h
  exact ⟨⟨h1, fun q hq _ he => absurd ⟨q, hq, he⟩ hn⟩, by rw [m2, hmk]⟩
/-- Where it is: with its first value. -/
theorem old_at {gl : List Int} {k : Nat} (hk : k < gl.length) (hi : grO gl k ∈ firsts (gl.take k)) : ∃ m, m < k ∧ fstV gl (grO gl k) = (m : Int) ∧ grO gl m = grO gl k ∧ ∀ j, j < m → grO gl j ≠ grO gl m := by
  rw [fstMem_iff hk] at hi
  obtain ⟨q, hq, he⟩ := hi
  obtain ⟨m, m1, m2, m3, m4⟩ := fst_at hk
  refine ⟨m, ?_, m2, m3, fun j hj => by rw [m3]; exact m4 j hj⟩
  rcases Nat.lt_or_eq_of_le m1 with h | h
  · exact h
  · exact absurd he (m4 q (by omega))
theorem old_ok {s : Sa} {D : List Df} {gl : List Int} {k m : Nat} (h1 : (D.getD k df0).step.op = 2 → grO gl k = grO gl (D.getD k df0).step.a.toNat) (m1 : m < k) (m3 : grO gl m = grO gl k) (m4 : ∀ j, j < m → grO gl j ≠ grO gl m) (hl : likeI s D gl m k) : stepI1 s D gl k := by
  refine ⟨h1, fun q hq hq2 he => ?_⟩
  have : q = m := by
    rcases Nat.lt_trichotomy q m with h | h | h
    · exact absurd (he.trans m3.symm) (m4 q h)
    · exact h
    · exact absurd (m3.trans he.symm) (hq2 m h)
  rw [this]
  exact hl
theorem old_no {s : Sa} {D : List Df} {gl : List Int} {k m : Nat} (m1 : m < k) (m3 : grO gl m = grO gl k) (m4 : ∀ j, j < m → grO gl j ≠ grO gl m) (hl : ¬ likeI s D gl m k) : ¬ stepI1 s D gl k := fun h => hl (h.2 m m1 m4 m3)
/-- What a maker says that it is a copy of. -/
theorem copy_at {s : Sa} (h : GoodP s) {N : Nat} (hN : (N : Int) = s.values) {k : Nat} (hk : k < N) : ((resM s (dfAll s) k).copy = -1 ∧ ((dfAll s).getD k df0).step.op ≠ 2) ∨ ∃ c : Nat, c < N ∧ (resM s (dfAll s) k).copy = (c : Int) ∧ ((dfAll s).getD k df0).step.op = 2 ∧ ((dfAll s).getD k df0).step.a.toNat = c := by
  have hkN : k < s.values.toNat := by omega
  obtain ⟨rank, hR⟩ := rank_ex h
  have hc := mk_copy h hkN
  by_cases hop : ((dfAll s).getD k df0).step.op = 2
  · rw [if_pos hop] at hc
    obtain ⟨a1, a2, _⟩ := hR.cp k hkN hop
    refine .inr ⟨_, by omega, ?_, hop, rfl⟩
    show (mkOf s k ((dfAll s).getD k df0)).copy = _
    rw [hc]; omega
  · rw [if_neg hop] at hc
    exact .inl ⟨hc, hop⟩
end Go.Proofs.Ytnfaibenekninaa.L
