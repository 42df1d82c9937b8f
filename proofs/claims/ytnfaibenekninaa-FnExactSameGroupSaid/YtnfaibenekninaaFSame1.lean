/- Joined texts, each of which was built by itself: Gq3 Gq4 LwSame. -/
import Derived.Test.YtnfaibenekninaaB17
import Derived.Test.YtnfaibenekninaaB3
import Derived.Test.YtnfaibenekninaaB2
import Derived.Deep.RegionHeld3
set_option linter.unusedVariables false
set_option linter.unusedSimpArgs false
namespace Go.Proofs.Ytnfaibenekninaa.L
open Go.RowKit
theorem intsN_get {l : List Nat} {k : Nat} (hk : k < l.length) (h : k < (intsN l).length) : (intsN l)[k] = ((l[k] : Nat) : Int) := by simp [intsN]
set_option maxRecDepth 100000 in
set_option maxHeartbeats 4000000 in
theorem maxI_calls {F : Nat → Prop} (l : List Nat) (v : Value) (w : World) (h : Rp.Rd Rp.int w F v (intsN l)) (h0 : 0 < l.length) :
    Calls Try.prog 66 #[v] w fun e w' => e = .returned (.int .i64 (mxN l : Nat)) ∧ w = w' := by
  obtain ⟨A, c, rfl, hl1, hl2, hr⟩ := rd_int h
  have hl := intsN_len l
  rcases hr with hn | ⟨b, o, rfl, hb, hc⟩
  · rw [hn] at hl; simp at hl; omega
  have hc2 : Hid (∀ k (hk : k < l.length), w.cell? ⟨b, o + k, none⟩ = some (.int .i64 ((l[k] : Nat) : Int))) := Lib.hid (fun k hk => by
    have := hc k (by omega)
    rwa [intsN_get hk] at this)
  clear hc h
  have hlen : (intsN l).length = l.length := hl
  rw [hlen] at hl1 ⊢
  replace hl := Lib.hid hl
  clear hlen
  have c0 := hc2.out 0 h0
  rw [← mxN_one h0, Nat.add_zero] at c0
  have n1 : ¬ (l.length : Int) < 1 := by omega
  have n0 : (0 : Int) < (l.length : Int) := by omega
  go_enter Try.func66, Try.ntmps66
  go_wp2_with fail
  clear c0
  go_loopw [3, 4] (fun m i wr => w = wr ∧ ∃ k : Nat, 1 ≤ k ∧ k ≤ l.length ∧ i = .int .i64 k ∧ m = .int .i64 (mxN (l.take k) : Nat)) (fun _ i _ => l.length - (intOf i).toNat)
  case atStart => exact ⟨rfl, 1, Nat.le_refl _, h0, rfl, rfl⟩
  case round =>
    obtain ⟨rfl, k, hk1, hk, rfl, rfl⟩ := hrel
    by_cases hlt : k < l.length
    · have ck := hc2.out k hlt
      have hm := Lib.hid (mxN_take hlt)
      have k0 : (0 : Int) ≤ (k : Int) := Int.natCast_nonneg _
      have k1 : (k : Int) < (l.length : Int) := by omega
      obtain ⟨x, hx⟩ : ∃ x, x = l[k] := ⟨_, rfl⟩
      rw [← hx] at ck hm
      clear hx
      obtain ⟨y, hy⟩ : ∃ y, y = mxN (l.take k) := ⟨_, rfl⟩
      rw [← hy] at hm ⊢
      clear hy
      go_wp2
      go_roundw
      case rel => exact ⟨trivial, k + 1, by omega, by omega, by go_num, by rw [hm.out]; go_num⟩
      case measure => simp [intOf]; omega
    · obtain rfl : k = l.length := by omega
      rw [List.take_length]
      go_wp2
      go_ret
      exact ⟨rfl, rfl⟩
set_option maxRecDepth 100000 in
set_option maxHeartbeats 4000000 in
theorem countI_calls {F : Nat → Prop} (s : Sa) (vparts : Value) (w : World) (hs : Rp.Rd part w F vparts s.parts) (hx1 : s.parts.length ≤ 1048576) (hx2 : ∀ p ∈ s.parts, PtLim p) :
    Calls Try.prog 28 #[saV s vparts] w (IntRes (GoodP s) (numG (mx1 (grpL s s.values.toNat))) w) := by
  obtain ⟨A, c, rfl, _, _, _⟩ := rd_part hs
  have HC := Lib.hid (fun W (hW : Below w.heap.size w W) => groupsI_calls s _ W (hs.below hW) hx1 hx2)
  have HQ := Lib.hid (good_iff s)
  have HLn := grpL_len s s.values.toNat
  have Hlt := Lib.hid (fun x (hx : x ∈ grpL s s.values.toNat) => grpL_mem hx)
  unfold saV at HC ⊢
  have hB0 : Below w.heap.size w (w.alloc (.cells #[.slice A s.parts.length c, .int .i64 s.values] 31)) := below_new _
  generalize grpL s s.values.toNat = GL at *
  have HM := Lib.hid (fun v W G (h : Rp.Rd Rp.int W G v (intsN GL)) h0 => maxI_calls GL v W h h0)
  go_enter Try.func28, Try.ntmps28
  go_wp2_with fail
  refine (HC.out _ hB0).mono ?_
  rintro e w1 ⟨g, vL, hg, rfl, hvL, hb1⟩
  have hB1 := below_then hB0 hb1
  clear hB0 hb1 HC
  cases g
  · have HN : Hid (false = true ↔ GoodP s) := Lib.hid ⟨fun h => Bool.noConfusion h, fun h => hg.out.2 (HQ.out.2 h)⟩
    clear hg hvL
    go_wp2
    refine bodyPost_ret (v := .tuple #[.int .i64 0, .bool false]) (by simp [results, Try.results28, go_sem]) rfl ?_
    exact .mk false 0 HN (Lib.hid (by unfold numG; rfl)) rfl hB1
  have hgp := Lib.hid (HQ.out.1 (hg.out.1 rfl))
  have hv1 := hgp.out.v1
  have hv2 := hgp.out.v2
  rw [if_pos rfl] at hvL
  have hGL : GL ≠ [] := fun h => by rw [h] at HLn; simp at HLn; omega
  have hmx := Lib.hid (mx1_eq hGL)
  have hle : mxN GL ≤ 250 := mxN_le (fun x hx => by have := Hlt.out x hx; omega)
  have HM1 := Lib.hid (HM.out vL w1 _ hvL.rd (by omega))
  obtain ⟨AL, cL, rfl, _, _⟩ := hvL.form
  obtain ⟨x, hx⟩ : ∃ x, x = mxN GL := ⟨_, rfl⟩
  rw [← hx] at HM1 hle hmx
  have x0 : (0 : Int) ≤ (x : Int) := Int.natCast_nonneg _
  have x1 : (x : Int) ≤ 250 := by omega
  clear hg hvL HLn Hlt HM hGL hx hv1 hv2
  go_wp2_with fail
  refine HM1.out.mono ?_
  rintro e w2 ⟨rfl, rfl⟩
  clear HM1
  go_wp2
  refine bodyPost_ret (v := .tuple #[.int .i64 ((x : Int) + 1), .bool true]) (by simp [results, Try.results28, go_sem]) rfl ?_
  exact .mk true _ (Lib.hid ⟨fun _ => hgp.out, fun _ => rfl⟩) (Lib.hid (by unfold numG; rw [hmx.out]; simp)) rfl hB1
set_option maxRecDepth 100000 in
set_option maxHeartbeats 4000000 in
theorem countS_calls {F : Nat → Prop} (s : Sa) (vparts : Value) (w : World) (hs : Rp.Rd part w F vparts s.parts) (hx1 : s.parts.length ≤ 1048576) (hx2 : ∀ p ∈ s.parts, PtLim p) :
    Calls Try.prog 27 #[saV s vparts] w (IntRes (GoodP s) (numG (mx1 (grpL s s.values.toNat))) w) := by
  obtain ⟨A, c, rfl, hlc, hcm, hrow⟩ := rd_part hs
  have HG := Lib.hid (fun W (hW : Below w.heap.size w W) => goodS_calls s _ W (hs.below hW) hx1 hx2)
  have HD := Lib.hid (fun W (hW : Below w.heap.size w W) (h : GoodP s) hN => l11Numbered_calls s s.values.toNat _ W (hs.below hW) h hx2 hN)
  have HT := Lib.hid (fun (h : GoodP s) hN t hF => (show numL (keyN s (dfAll s) s.values.toNat t) = grpL s s.values.toNat by rw [rounds_S (s := s) (N := s.values.toNat) (t := t) hF]; exact grp_S h hN))
  have HLn := grpL_len s s.values.toNat
  have Hlt := Lib.hid (fun x (hx : x ∈ grpL s s.values.toNat) => grpL_mem hx)
  unfold saV at HG HD ⊢
  have hB0 : Below w.heap.size w (w.alloc (.cells #[.slice A s.parts.length c, .int .i64 s.values] 31)) := below_new _
  have b0 := heap_alloc_new w (.cells #[.slice A s.parts.length c, .int .i64 s.values] 31)
  generalize grpL s s.values.toNat = GL at *
  go_enter Try.func27, Try.ntmps27
  go_wp2_with fail
  refine (HG.out _ hB0).mono ?_
  rintro e w1 ⟨g, rfl, hg, hb1⟩
  have hB1 := below_then hB0 hb1
  have b1 := blk_below b0 hb1
  clear hb1 b0 hB0 HG
  cases g
  · go_wp2
    refine bodyPost_ret (v := .tuple #[.int .i64 0, .bool false]) (by simp [results, Try.results27, go_sem]) rfl ?_
    exact .mk false 0 hg (Lib.hid (by unfold numG; rfl)) rfl hB1
  have hgp := Lib.hid (hg.out.1 rfl)
  have hv1 := hgp.out.v1
  have hv2 := hgp.out.v2
  obtain ⟨v0, _⟩ := cell_of_block b1
  have x0 : w1.cell? ⟨w.heap.size, 0, none⟩ = some (.slice A s.parts.length c) := (v0 0).trans rfl
  have x1 : w1.cell? ⟨w.heap.size, 1, none⟩ = some (.int .i64 s.values) := (v0 1).trans rfl
  clear v0
  go_wp2_with fail
  refine (HD.out _ hB1 hgp.out (by omega)).mono ?_
  rintro e w2 ⟨vL, t, rfl, hvL, hF, hb2⟩
  rw [HT.out hgp.out (by omega) t hF] at hvL
  have hB2 := below_then hB1 hb2
  have hll := intsN_len GL
  obtain ⟨AL, cL, hLe, _, _, hrL⟩ := rd_int hvL
  rw [hll] at hLe
  subst hLe
  have hlt := Lib.hid (fun k (hk : k < GL.length) => Hlt.out GL[k] (List.getElem_mem hk))
  have hv3 : s.values.toNat ≤ 250 := by omega
  clear x0 x1 hb2 b1 hB1 HD hF hv1 hvL HT Hlt
  go_wp2_with fail
  go_loopw [13, 4] (fun j m wr => wr = w2 ∧ ∃ k : Nat, k ≤ GL.length ∧ j = .int .i64 k ∧ m = .int .i64 (mx1 (GL.take k) : Nat)) (fun j _ _ => GL.length - (intOf j).toNat)
  case atStart => exact ⟨rfl, 0, Nat.zero_le _, rfl, rfl⟩
  case round =>
    obtain ⟨rfl, k, hk, rfl, rfl⟩ := hrel
    by_cases hkt : k < GL.length
    · rcases hrL with hnil | ⟨b, o, rfl, hb, hcell⟩
      · rw [hnil] at hll; simp at hll; omega
      have ck := hcell k (by omega)
      rw [intsN_get hkt] at ck
      have hm := Lib.hid (mx1_take hkt)
      have hy := hlt.out k hkt
      have k0 : (0 : Int) ≤ (k : Int) := Int.natCast_nonneg _
      have k1 : (k : Int) < (GL.length : Int) := by omega
      obtain ⟨x, hx⟩ : ∃ x, x = GL[k] := ⟨_, rfl⟩
      rw [← hx] at ck hm hy
      clear hx hcell hll
      obtain ⟨z, hz⟩ : ∃ z, z = mx1 (GL.take k) := ⟨_, rfl⟩
      rw [← hz] at hm ⊢
      clear hz
      have x0 : (0 : Int) ≤ (x : Int) := Int.natCast_nonneg _
      have x1 : (x : Int) ≤ 250 := by omega
      by_cases hab : (z : Int) < (x : Int) + 1
      · go_wp2
        go_roundw
        case rel => exact ⟨trivial, k + 1, by omega, by go_num, by rw [hm.out]; congr 1; omega⟩
        case measure => simp [intOf]; omega
      · go_wp2
        go_roundw
        case rel => exact ⟨trivial, k + 1, by omega, by go_num, by rw [hm.out]; congr 1; omega⟩
        case measure => simp [intOf]; omega
    · obtain rfl : k = GL.length := by omega
      rw [List.take_length]
      go_wp2
      refine bodyPost_ret (v := .tuple #[.int .i64 (mx1 GL : Nat), .bool true]) (by simp [results, Try.results27, go_sem]) rfl ?_
      exact .mk true _ (Lib.hid ⟨fun _ => hgp.out, fun _ => rfl⟩) (Lib.hid (by unfold numG; simp)) rfl hB2
end Go.Proofs.Ytnfaibenekninaa.L

set_option linter.unusedVariables false
set_option linter.unusedSimpArgs false
namespace Go.Proofs.Ytnfaibenekninaa.L
open Go.RowKit
set_option maxRecDepth 100000 in
set_option maxHeartbeats 4000000 in
theorem sameI_calls {F : Nat → Prop} (s : Sa) (a b : Int) (vparts : Value) (w : World) (hs : Rp.Rd part w F vparts s.parts) (hx1 : s.parts.length ≤ 1048576) (hx2 : ∀ p ∈ s.parts, PtLim p) :
    Calls Try.prog 30 #[saV s vparts, .int .i64 a, .int .i64 b] w (BoolRes (GoodP s ∧ inV s a b) (sameP s a b) w) := by
  obtain ⟨A, c, rfl, _, _, _⟩ := rd_part hs
  have HC := Lib.hid (fun W (hW : Below w.heap.size w W) => groupsI_calls s _ W (hs.below hW) hx1 hx2)
  have HQ := Lib.hid (good_iff s)
  have HLn := Lib.hid (grpL_len s s.values.toNat)
  unfold saV at HC ⊢
  have hB0 : Below w.heap.size w (w.alloc (.cells #[.slice A s.parts.length c, .int .i64 s.values] 31)) := below_new _
  have b0 := heap_alloc_new w (.cells #[.slice A s.parts.length c, .int .i64 s.values] 31)
  have hsP : Hid (∀ (g v : Bool), sameP s a b g v ↔ v = (g && decide ((grpL s s.values.toNat).getD a.toNat 0 = (grpL s s.values.toNat).getD b.toNat 0))) := Lib.hid (fun g v => Iff.rfl)
  generalize grpL s s.values.toNat = GL at *
  have HW1 := Lib.hid (fun W => within_calls a 0 (s.values - 1) W)
  have HW2 := Lib.hid (fun W => within_calls b 0 (s.values - 1) W)
  go_enter Try.func30, Try.ntmps30
  go_wp2_with fail
  refine (HC.out _ hB0).mono ?_
  rintro e w1 ⟨g, vL, hg, rfl, hvL, hb1⟩
  have hB1 := below_then hB0 hb1
  have b1 := blk_below b0 hb1
  clear hB0 hb1 HC b0
  cases g
  · have HN : Hid (false = true ↔ GoodP s ∧ inV s a b) := Lib.hid ⟨fun h => Bool.noConfusion h, fun h => hg.out.2 (HQ.out.2 h.1)⟩
    clear hg hvL
    go_wp2
    refine bodyPost_ret (v := .tuple #[.bool false, .bool false]) (by simp [results, Try.results30, go_sem]) rfl ?_
    exact .mk false false HN (Lib.hid ((hsP.out _ _).2 rfl)) rfl hB1
  have hgp := Lib.hid (HQ.out.1 (hg.out.1 rfl))
  have hv1 := hgp.out.v1
  have hv2 := hgp.out.v2
  rw [if_pos rfl] at hvL
  obtain ⟨v0, _⟩ := cell_of_block b1
  have x1 : w1.cell? ⟨w.heap.size, 1, none⟩ = some (.int .i64 s.values) := (v0 1).trans rfl
  have hll := intsN_len GL
  have hvR := hvL.rd
  obtain ⟨AL, cL, hLe, _, _, hrL⟩ := rd_int hvR
  rw [hll] at hLe
  subst hLe
  clear v0 hg b1 hvL hvR
  go_wp2_with fail
  refine (HW1.out _).mono ?_
  rintro e w2 ⟨rfl, rfl⟩
  by_cases ha : 0 ≤ a ∧ a < s.values
  · have hia : inB a 0 (s.values - 1) = true := by unfold inB; simp; omega
    rw [hia]
    clear hia HW1
    go_wp2_with fail
    refine (HW2.out _).mono ?_
    rintro e w2 ⟨rfl, rfl⟩
    by_cases hb : 0 ≤ b ∧ b < s.values
    · have hib : inB b 0 (s.values - 1) = true := by unfold inB; simp; omega
      rw [hib]
      clear hib HW2
      obtain ⟨na, rfl⟩ := Int.eq_ofNat_of_zero_le ha.1
      obtain ⟨nb, rfl⟩ := Int.eq_ofNat_of_zero_le hb.1
      have hna : na < GL.length := by have := HLn.out; omega
      have hnb : nb < GL.length := by have := HLn.out; omega
      rcases hrL with hnil | ⟨bb, o, rfl, hbb, hcell⟩
      · rw [hnil] at hll; simp at hll; omega
      have ca := hcell na (by omega)
      have cb := hcell nb (by omega)
      rw [intsN_get hna] at ca
      rw [intsN_get hnb] at cb
      have HP : Hid (∀ v, v = decide (((GL[na] : Nat) : Int) = ((GL[nb] : Nat) : Int)) → sameP s na nb true v) := Lib.hid (fun v hv => (hsP.out _ _).2 (by
        rw [hv]
        simp only [Int.toNat_natCast, List.getD_eq_getElem?_getD, List.getElem?_eq_getElem hna, List.getElem?_eq_getElem hnb, Option.getD_some, Bool.true_and, Int.natCast_inj]))
      have HN : Hid (true = true ↔ GoodP s ∧ inV s na nb) := Lib.hid ⟨fun _ => ⟨hgp.out, ha.1, ha.2, hb.1, hb.2⟩, fun _ => rfl⟩
      obtain ⟨xa, hxa⟩ : ∃ xa, xa = GL[na] := ⟨_, rfl⟩
      obtain ⟨xb, hxb⟩ : ∃ xb, xb = GL[nb] := ⟨_, rfl⟩
      rw [← hxa, ← hxb] at HP
      rw [← hxa] at ca
      rw [← hxb] at cb
      have a0 : (0 : Int) ≤ (na : Int) := Int.natCast_nonneg _
      have a1 : (na : Int) < (GL.length : Int) := by omega
      have b0 : (0 : Int) ≤ (nb : Int) := Int.natCast_nonneg _
      have b1 : (nb : Int) < (GL.length : Int) := by omega
      clear hxa hxb hcell hsP hll ha hb hgp hv1 hv2 x1 HLn
      go_wp2_with fail
      go_region
      go_wp2
      refine bodyPost_ret (v := .tuple #[.bool ((xa : Int) == (xb : Int)), .bool true]) (by simp [results, Try.results30, go_sem]) rfl ?_
      exact .mk true _ (Lib.hid ⟨fun _ => HN.out.1 trivial, fun _ => rfl⟩) (Lib.hid (HP.out _ (by rfl))) rfl (by first | exact hB1 | exact below_drewN hB1 _ | exact below_drew hB1)
    · have hib : inB b 0 (s.values - 1) = false := by unfold inB; simp; omega
      have HN : Hid (false = true ↔ GoodP s ∧ inV s a b) := Lib.hid ⟨fun h => Bool.noConfusion h, fun h => absurd ⟨h.2.2.2.1, h.2.2.2.2⟩ hb⟩
      rw [hib]
      clear hib HW2
      go_wp2
      refine bodyPost_ret (v := .tuple #[.bool false, .bool false]) (by simp [results, Try.results30, go_sem]) rfl ?_
      exact .mk false false HN (Lib.hid ((hsP.out _ _).2 rfl)) rfl hB1
  · have hia : inB a 0 (s.values - 1) = false := by unfold inB; simp; omega
    have HN : Hid (false = true ↔ GoodP s ∧ inV s a b) := Lib.hid ⟨fun h => Bool.noConfusion h, fun h => absurd ⟨h.2.1, h.2.2.1⟩ ha⟩
    rw [hia]
    clear hia HW1
    go_wp2
    refine bodyPost_ret (v := .tuple #[.bool false, .bool false]) (by simp [results, Try.results30, go_sem]) rfl ?_
    exact .mk false false HN (Lib.hid ((hsP.out _ _).2 rfl)) rfl hB1
set_option maxRecDepth 100000 in
set_option maxHeartbeats 4000000 in
theorem sameS_calls {F : Nat → Prop} (s : Sa) (a b : Int) (vparts : Value) (w : World) (hs : Rp.Rd part w F vparts s.parts) (hx1 : s.parts.length ≤ 1048576) (hx2 : ∀ p ∈ s.parts, PtLim p) :
    Calls Try.prog 29 #[saV s vparts, .int .i64 a, .int .i64 b] w (BoolRes (GoodP s ∧ inV s a b) (sameP s a b) w) := by
  obtain ⟨A, c, rfl, hlc, hcm, hrow⟩ := rd_part hs
  have HG := Lib.hid (fun W (hW : Below w.heap.size w W) => goodS_calls s _ W (hs.below hW) hx1 hx2)
  have HD := Lib.hid (fun W (hW : Below w.heap.size w W) (h : GoodP s) hN => l11Numbered_calls s s.values.toNat _ W (hs.below hW) h hx2 hN)
  have HT := Lib.hid (fun (h : GoodP s) hN t hF => (show numL (keyN s (dfAll s) s.values.toNat t) = grpL s s.values.toNat by rw [rounds_S (s := s) (N := s.values.toNat) (t := t) hF]; exact grp_S h hN))
  have HLn := Lib.hid (grpL_len s s.values.toNat)
  unfold saV at HG HD ⊢
  have hB0 : Below w.heap.size w (w.alloc (.cells #[.slice A s.parts.length c, .int .i64 s.values] 31)) := below_new _
  have b0 := heap_alloc_new w (.cells #[.slice A s.parts.length c, .int .i64 s.values] 31)
  have hsP : Hid (∀ (g v : Bool), sameP s a b g v ↔ v = (g && decide ((grpL s s.values.toNat).getD a.toNat 0 = (grpL s s.values.toNat).getD b.toNat 0))) := Lib.hid (fun g v => Iff.rfl)
  generalize grpL s s.values.toNat = GL at *
  go_enter Try.func29, Try.ntmps29
  go_wp2_with fail
  refine (HG.out _ hB0).mono ?_
  rintro e w1 ⟨g, rfl, hg, hb1⟩
  have hB1 := below_then hB0 hb1
  have b1 := blk_below b0 hb1
  clear hb1 b0 hB0 HG
  cases g
  · have HN : Hid (false = true ↔ GoodP s ∧ inV s a b) := Lib.hid ⟨fun h => Bool.noConfusion h, fun h => hg.out.2 h.1⟩
    go_wp2
    refine bodyPost_ret (v := .tuple #[.bool false, .bool false]) (by simp [results, Try.results29, go_sem]) rfl ?_
    exact .mk false false HN (Lib.hid ((hsP.out _ _).2 rfl)) rfl hB1
  have hgp := Lib.hid (hg.out.1 rfl)
  have hv1 := hgp.out.v1
  have hv2 := hgp.out.v2
  obtain ⟨v0, _⟩ := cell_of_block b1
  have x0 : w1.cell? ⟨w.heap.size, 0, none⟩ = some (.slice A s.parts.length c) := (v0 0).trans rfl
  have x1 : w1.cell? ⟨w.heap.size, 1, none⟩ = some (.int .i64 s.values) := (v0 1).trans rfl
  clear v0 hg
  by_cases hin : inV s a b
  · have HN : Hid (true = true ↔ GoodP s ∧ inV s a b) := Lib.hid ⟨fun _ => ⟨hgp.out, hin⟩, fun _ => rfl⟩
    obtain ⟨ha0, ha1, hb0, hb1⟩ := hin
    have na0 : ¬ a < 0 := by omega
    have na1 : ¬ s.values ≤ a := by omega
    have nb0 : ¬ b < 0 := by omega
    have nb1 : ¬ s.values ≤ b := by omega
    go_wp2_with fail
    refine (HD.out _ hB1 hgp.out (by omega)).mono ?_
    rintro e w2 ⟨vL, t, rfl, hvL, hF, hb2⟩
    rw [HT.out hgp.out (by omega) t hF] at hvL
    have hB2 := below_then hB1 hb2
    have hll := intsN_len GL
    obtain ⟨AL, cL, hLe, _, _, hrL⟩ := rd_int hvL
    rw [hll] at hLe
    subst hLe
    obtain ⟨na, rfl⟩ := Int.eq_ofNat_of_zero_le ha0
    obtain ⟨nb, rfl⟩ := Int.eq_ofNat_of_zero_le hb0
    have hna : na < GL.length := by have := HLn.out; omega
    have hnb : nb < GL.length := by have := HLn.out; omega
    rcases hrL with hnil | ⟨bb, o, rfl, hbb, hcell⟩
    · rw [hnil] at hll; simp at hll; omega
    have ca := hcell na (by omega)
    have cb := hcell nb (by omega)
    rw [intsN_get hna] at ca
    rw [intsN_get hnb] at cb
    have HP : Hid (∀ v, v = decide (((GL[na] : Nat) : Int) = ((GL[nb] : Nat) : Int)) → sameP s na nb true v) := Lib.hid (fun v hv => (hsP.out _ _).2 (by
      rw [hv]
      simp only [Int.toNat_natCast, List.getD_eq_getElem?_getD, List.getElem?_eq_getElem hna, List.getElem?_eq_getElem hnb, Option.getD_some, Bool.true_and, Int.natCast_inj]))
    obtain ⟨xa, hxa⟩ : ∃ xa, xa = GL[na] := ⟨_, rfl⟩
    obtain ⟨xb, hxb⟩ : ∃ xb, xb = GL[nb] := ⟨_, rfl⟩
    rw [← hxa, ← hxb] at HP
    rw [← hxa] at ca
    rw [← hxb] at cb
    have a0 : (0 : Int) ≤ (na : Int) := Int.natCast_nonneg _
    have a1 : (na : Int) < (GL.length : Int) := by omega
    have b0 : (0 : Int) ≤ (nb : Int) := Int.natCast_nonneg _
    have b1 : (nb : Int) < (GL.length : Int) := by omega
    clear hxa hxb hcell hsP hll ha1 hb1 hgp hv1 hv2 x0 x1 HLn HD HT hvL hb2 hF na0 na1 nb0 nb1 hB1
    go_wp2_with fail
    go_region
    go_wp2
    refine bodyPost_ret (v := .tuple #[.bool ((xa : Int) == (xb : Int)), .bool true]) (by simp [results, Try.results29, go_sem]) rfl ?_
    exact .mk true _ (Lib.hid ⟨fun _ => HN.out.1 trivial, fun _ => rfl⟩) (Lib.hid (HP.out _ (by rfl))) rfl (by first | exact hB2 | exact below_drewN hB2 _ | exact below_drew hB2)
  · have HN : Hid (false = true ↔ GoodP s ∧ inV s a b) := Lib.hid ⟨fun h => Bool.noConfusion h, fun h => absurd h.2 hin⟩
    have fin : ∀ (Q : Prop), Q → Q := fun Q h => h
    have hr : Hid (BoolRes (GoodP s ∧ inV s a b) (sameP s a b) w (.returned (.tuple #[.bool false, .bool false])) w1) := Lib.hid (.mk false false HN (Lib.hid ((hsP.out _ _).2 rfl)) rfl hB1)
    unfold inV at hin
    clear HN hsP HD HT fin
    by_cases ha0 : a < 0
    · go_wp2
      refine bodyPost_ret (v := .tuple #[.bool false, .bool false]) (by simp [results, Try.results29, go_sem]) rfl ?_
      exact hr.out
    by_cases ha1 : s.values ≤ a
    · go_wp2
      refine bodyPost_ret (v := .tuple #[.bool false, .bool false]) (by simp [results, Try.results29, go_sem]) rfl ?_
      exact hr.out
    by_cases hb0 : b < 0
    · go_wp2
      refine bodyPost_ret (v := .tuple #[.bool false, .bool false]) (by simp [results, Try.results29, go_sem]) rfl ?_
      exact hr.out
    have hb1 : s.values ≤ b := by omega
    clear hin
    go_wp2
    all_goals (refine bodyPost_ret (v := .tuple #[.bool false, .bool false]) (by simp [results, Try.results29, go_sem]) rfl ?_; exact hr.out)
end Go.Proofs.Ytnfaibenekninaa.L

set_option linter.unusedVariables false
set_option linter.unusedSimpArgs false
namespace Go.Proofs.Ytnfaibenekninaa.L
open Go.RowKit
set_option maxRecDepth 100000 in
set_option maxHeartbeats 4000000 in
theorem lawSame_calls {F : Nat → Prop} (x : Sa) (vparts : Value) (ea eb : Int) (w : World) (h : Rp.Rd part w F vparts x.parts) :
    Calls Try.prog 8 #[saV x vparts, .int .i64 ea, .int .i64 eb] w fun e w' => e = .returned (.bool true) ∧ Below w.heap.size w w' := by
  have HC := fun W (hW : Below w.heap.size w W) => szSsa_calls x vparts 1048576 W (h.below hW) (by omega) (by omega)
  have hb0 := szSa_bd (x := x) (left := 1048576) (by omega)
  generalize szSa x 1048576 = r at *
  have hlim : 0 ≤ r → SaLim x := fun h0 => (hb0.2.2 h0).1
  clear hb0
  unfold saV at HC ⊢
  have HC := Lib.hid HC
  have hB0 : Below w.heap.size w (w.alloc (.cells #[vparts, .int .i64 x.values] 24)) := below_new _
  have b0 := heap_alloc_new w (.cells #[vparts, .int .i64 x.values] 24)
  have hlim := Lib.hid hlim
  obtain ⟨A, c, rfl, _, _, _⟩ := id h
  go_enter Try.func8, Try.ntmps8
  go_wp2_with fail
  refine (HC.out _ hB0).mono ?_
  rintro e w1 ⟨rfl, hb1⟩
  by_cases hneg : r < 0
  · have hB := below_then hB0 hb1
    go_wp2
    go_ret
    exact ⟨rfl, hB⟩
  have hx := hlim.out (by omega)
  have HT := Lib.hid (fun W (hW : Below w.heap.size w W) => toSsa_rd x _ W (h.below hW) hx)
  have HG1 := Lib.hid (fun v W G (hv : Rp.Rd part W G v x.parts) => sameS_calls x ea eb v W hv hx.1 hx.2)
  have HG2 := Lib.hid (fun v W G (hv : Rp.Rd part W G v x.parts) => sameI_calls x ea eb v W hv hx.1 hx.2)
  have HU := Lib.hid (fun g v v' h h' => sameP.uniq (s := x) (a := ea) (b := eb) g v v' h h')
  have hB1 := below_then hB0 hb1
  have b1 := blk_below b0 hb1
  obtain ⟨y1, _⟩ := cell_of_block b1
  have y10 : w1.cell? ⟨w.heap.size, 0, none⟩ = some (.slice A x.parts.length c) := (y1 0).trans rfl
  have y11 : w1.cell? ⟨w.heap.size, 1, none⟩ = some (.int .i64 x.values) := (y1 1).trans rfl
  clear y1 HC b0 hb1 hB0 hlim
  unfold saV at HT HG1 HG2
  go_wp2_with fail
  refine (HT.out _ hB1).mono ?_
  rintro e w2 ⟨v2, rfl, hv2, hb2⟩
  obtain ⟨A2, c2, rfl, _, _, _⟩ := id hv2
  have hB2 := below_then hB1 hb2
  have b2 := blk_below b1 hb2
  clear y10 y11 hb2 b1
  go_wp2_with fail
  refine (HG1.out _ _ _ hv2).mono ?_
  rintro e w3 ⟨g1, r1, hg1, hr1, rfl, hb3⟩
  have hB3 := below_then hB2 hb3
  have b3 := blk_below b2 hb3
  clear b2 hv2
  obtain ⟨y1, _⟩ := cell_of_block b3
  have y10 : w3.cell? ⟨w.heap.size, 0, none⟩ = some (.slice A x.parts.length c) := (y1 0).trans rfl
  have y11 : w3.cell? ⟨w.heap.size, 1, none⟩ = some (.int .i64 x.values) := (y1 1).trans rfl
  clear y1 hb3
  go_wp2_with fail
  refine (HT.out _ hB3).mono ?_
  rintro e w4 ⟨v4, rfl, hv4, hb4⟩
  obtain ⟨A4, c4, rfl, _, _, _⟩ := id hv4
  have hB4 := below_then hB3 hb4
  have b4 := blk_below b3 hb4
  clear y10 y11 hb4 b3
  obtain ⟨W5, hW5⟩ : ∃ W5, W5 = w4.alloc (.cells #[.slice A4 x.parts.length c4, .int .i64 x.values] 31) := ⟨_, rfl⟩
  have hb5 : Below w4.heap.size w4 W5 := by rw [hW5]; exact below_new _
  have e5 : W5.heap[w4.heap.size]? = some (.cells #[.slice A4 x.parts.length c4, .int .i64 x.values] 31 (0, 0)) := by rw [hW5]; exact heap_alloc_new w4 _
  have hv5 := hv4.below hb5
  have b5 := blk_below b4 hb5
  have hB5 := below_then hB4 hb5
  replace hW5 := Lib.hid hW5
  go_wp2_with fail
  rw [← hW5.out]
  refine (HG2.out _ _ _ hv5).mono ?_
  rintro e w6 ⟨g2, r2, hg2, hr2, rfl, hb6⟩
  have hB6 := below_then hB5 hb6
  have b6 := blk_below b5 hb6
  have e6 := blk_below e5 hb6
  have hv6 := (hv5.mono (G := fun _ => True) (fun _ _ => trivial)).below hb6
  clear b5 e5 hv5
  have hgg : g1 = g2 := by
    have := hg1.out.trans hg2.out.symm
    cases g1 <;> cases g2 <;> simp_all
  subst hgg
  have hvv := HU.out _ _ _ hr1.out hr2.out
  subst hvv
  have hgn : (g1 != g1) = false := by cases g1 <;> rfl
  have hgn2 : (r1 != r1) = false := by cases r1 <;> rfl
  obtain ⟨y1, _⟩ := cell_of_block b6
  have y10 : w6.cell? ⟨w.heap.size, 0, none⟩ = some (.slice A x.parts.length c) := (y1 0).trans rfl
  have y11 : w6.cell? ⟨w.heap.size, 1, none⟩ = some (.int .i64 x.values) := (y1 1).trans rfl
  obtain ⟨z1, _⟩ := cell_of_block e6
  have z10 : w6.cell? ⟨w4.heap.size, 0, none⟩ = some (.slice A4 x.parts.length c4) := (z1 0).trans rfl
  have z11 : w6.cell? ⟨w4.heap.size, 1, none⟩ = some (.int .i64 x.values) := (z1 1).trans rfl
  clear y1 z1 b4 hv4 hW5 hg1 hg2 HG1 HG2 hr1 hr2
  go_wp2_with fail
  have HE := Lib.hid (fun u W (hu : Rp.Rd part W (fun q => w6.heap.size ≤ q) u x.parts) (hW : Below w6.heap.size w6 W) => eqSsa_calls x x _ u W (hv6.below hW) hu)
  have HEQ : Hid (eqSa x x = true) := Lib.hid (by unfold eqSa; simp)
  unfold saV at HE
  rw [HEQ.out] at HE
  go_region_held3 (fun w' => w'.cell? ⟨w.heap.size, 0, none⟩ = some (.slice A x.parts.length c) ∧ w'.cell? ⟨w.heap.size, 1, none⟩ = some (.int .i64 x.values) ∧ w'.cell? ⟨w4.heap.size, 0, none⟩ = some (.slice A4 x.parts.length c4) ∧ w'.cell? ⟨w4.heap.size, 1, none⟩ = some (.int .i64 x.values))
    (first | go_keep | (go_split_ands; refine ⟨?_, ?_, ?_, ?_⟩ <;> first | exact cell_below hB9 (by assumption) | exact cell_below hB8 (by assumption) | assumption))
    ((first | (go_at_call 13; refine (HT.out _ (below_drew hB6)).mono ?_; rintro e w8 ⟨v8, rfl, hv8, hb8⟩; have hB8 := below_then (below_drew (Below.refl _ _)) hb8; obtain ⟨A8, c8, rfl, _, _, _⟩ := id hv8) | (go_at_call 16; refine (HE.out _ _ hv8 hB8).mono ?_; rintro e w9 ⟨rfl, hb9⟩; have hB9 := below_then hB8 hb9)))
  go_wp2
  go_ret
  exact ⟨rfl, below_then hB6 hB9⟩
end Go.Proofs.Ytnfaibenekninaa.L
