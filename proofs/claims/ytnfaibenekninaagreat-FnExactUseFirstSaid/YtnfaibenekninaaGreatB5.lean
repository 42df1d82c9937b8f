/- Joined texts, each of which was built by itself: Im4 Df1. -/
import Derived.Test.YtnfaibenekninaaGreatB4
import Derived.Test.YtnfaibenekninaaGreatB3
set_option linter.unusedVariables false
set_option linter.unusedSimpArgs false
namespace Go.Proofs.YtnfaibenekninaaGreat.L
open Go.RowKit
/-- The block of a view. -/
def viewC (vp : Value) (V : Int) (vn vd vD vT : Value) : Obj := .cells #[vp, .int .i64 V, vn, vd, vD, vT] 105 (0, 0)
theorem view_cells {w : World} {vb : Nat} {vp vn vd vD vT : Value} {V : Int} (h : w.heap[vb]? = some (viewC vp V vn vd vD vT)) :
    w.cell? ⟨vb, 0, none⟩ = some vp ∧ w.cell? ⟨vb, 1, none⟩ = some (.int .i64 V) ∧ w.cell? ⟨vb, 2, none⟩ = some vn ∧ w.cell? ⟨vb, 3, none⟩ = some vd ∧ w.cell? ⟨vb, 4, none⟩ = some vD ∧ w.cell? ⟨vb, 5, none⟩ = some vT := by
  obtain ⟨x, _⟩ := cell_of_block h
  exact ⟨(x 0).trans rfl, (x 1).trans rfl, (x 2).trans rfl, (x 3).trans rfl, (x 4).trans rfl, (x 5).trans rfl⟩
theorem define_no {FD FT : Nat → Prop} (vb : Nat) (vp vn vd vT : Value) (V : Int) (D : List Int) (vD : Value) (k pt i : Int) (w : World)
    (hv : w.heap[vb]? = some (viewC vp V vn vd vD vT)) (hD : Rp.Rd Rp.int w FD vD D) (hl : (D.length : Int) = V) (hV : V ≤ 250)
    (hk : ¬ (12 ≤ k ∧ k < V ∧ ∀ h : k.toNat < D.length, D[k.toNat] < 0)) :
    Calls Tryz.prog 110 #[.pointer (some ⟨vb, 0, none⟩), .int .i64 k, .int .i64 pt, .int .i64 i] w fun e w' => e = .returned (.bool false) ∧ w = w' := by
  obtain ⟨c0, c1, c2, c3, c4, c5⟩ := view_cells hv
  obtain ⟨AD, kD, rfl, _, _, hr⟩ := rd_int hD
  have hwi : IntKind.i64.wrap (V - 1) = V - 1 := IntWalk.i64_in _ (by omega)
  have HC := Lib.hid (fun W => within_calls k 12 (V - 1) W)
  by_cases h1 : 12 ≤ k ∧ k < V
  · have hin : inB k 12 (V - 1) = true := by unfold inB; simp; omega
    obtain ⟨n, rfl⟩ := Int.eq_ofNat_of_zero_le (by omega : 0 ≤ k)
    have hn : n < D.length := by omega
    have hDn : ¬ D[n] < 0 := fun h => hk ⟨h1.1, h1.2, fun _ => h⟩
    have ht : decide (0 ≤ D[n]) = true := decide_eq_true (by omega)
    rcases hr with hnil | ⟨b, o, rfl, hb, hc⟩
    · rw [hnil] at hn; simp at hn
    have cn := hc n hn
    have HC := fun W => HC.out W
    rw [hin] at HC
    have i0 : (0 : Int) ≤ (n : Int) := Int.natCast_nonneg _
    have i1 : (n : Int) < (D.length : Int) := by omega
    have hDn' : 0 ≤ D[n] := by omega
    clear hc hk hin h1 hl
    generalize D[n] = y at *
    replace HC := Lib.hid HC
    go_enter Tryz.func110, Tryz.ntmps110
    go_wp2_with (go_at_call 58; refine (HC.out _).mono ?_; rintro e w' ⟨rfl, rfl⟩)
    go_ret
    exact ⟨rfl, rfl⟩
  · have hin : inB k 12 (V - 1) = false := by unfold inB; simp; omega
    have HC := fun W => HC.out W
    rw [hin] at HC
    clear hk h1 hin hl hr
    replace HC := Lib.hid HC
    go_enter Tryz.func110, Tryz.ntmps110
    go_wp2_with (go_at_call 58; refine (HC.out _).mono ?_; rintro e w' ⟨rfl, rfl⟩)
    go_ret
    exact ⟨rfl, rfl⟩
theorem define_yes {FD FT : Nat → Prop} (vb gd ga cd ca : Nat) (vp vn vd : Value) (V : Int) (D T : List Int) (n : Nat) (pt i : Int) (w : World)
    (hv : w.heap[vb]? = some (viewC vp V vn vd (.slice (some ⟨gd, 0, none⟩) D.length cd) (.slice (some ⟨ga, 0, none⟩) T.length ca))) (hD : Ow true 3 Rp.int w FD (.slice (some ⟨gd, 0, none⟩) D.length cd) D) (hT : Ow true 3 Rp.int w FT (.slice (some ⟨ga, 0, none⟩) T.length ca) T)
    (hdt : gd ≠ ga) (hl : (D.length : Int) = V) (hl2 : (T.length : Int) = V) (hV : V ≤ 250) (h12 : 12 ≤ n) (hn : n < D.length) (hDn : D[n] < 0) :
    Calls Tryz.prog 110 #[.pointer (some ⟨vb, 0, none⟩), .int .i64 n, .int .i64 pt, .int .i64 i] w fun e w' => e = .returned (.bool true) ∧ w' = (w.setCell ⟨gd, n, none⟩ (.int .i64 pt)).setCell ⟨ga, n, none⟩ (.int .i64 i) ∨ e = .returned (.bool true) ∧ w' = (w.drew.setCell ⟨gd, n, none⟩ (.int .i64 pt)).setCell ⟨ga, n, none⟩ (.int .i64 i) := by
  obtain ⟨c0, c1, c2, c3, c4, c5⟩ := view_cells hv
  have hwi : IntKind.i64.wrap (V - 1) = V - 1 := IntWalk.i64_in _ (by omega)
  have HC := fun W => within_calls n 12 (V - 1) W
  have hin : inB n 12 (V - 1) = true := by unfold inB; simp; omega
  rw [hin] at HC
  have HC := Lib.hid HC
  have hn2 : n < T.length := by omega
  have ht : decide (0 ≤ D[n]) = false := decide_eq_false (by omega)
  obtain ⟨d1, d2⟩ := hD.int_at hn
  obtain ⟨a1, a2⟩ := hT.int_at hn2
  have i0 : (0 : Int) ≤ (n : Int) := Int.natCast_nonneg _
  have i1 : (n : Int) < (D.length : Int) := by omega
  have i2 : (n : Int) < (T.length : Int) := by omega
  have hne : ga ≠ gd := fun h => hdt h.symm
  clear hin hl hl2
  generalize D[n] = y at *
  generalize T[n] = z at *
  go_enter Tryz.func110, Tryz.ntmps110
  go_wp2_with (go_at_call 58; refine (HC.out _).mono ?_; rintro e w' ⟨rfl, rfl⟩)
  go_region
  go_wp2
  go_ret
  first | exact .inl ⟨rfl, rfl⟩ | exact .inr ⟨rfl, rfl⟩
/-- Whether a value is there, as the program tells. -/
def thereI (V : Int) (D T : List Int) (M : List (List Bool)) (pt i k : Int) : Bool :=
  inB k 0 (V - 1) && (decide (k < 12) || (if D.getD k.toNat 0 == pt then decide (T.getD k.toNat 0 < i) else decide (0 ≤ D.getD k.toNat 0) && (M.getD pt.toNat []).getD (D.getD k.toNat 0).toNat false))
theorem rd_bools {w : World} {F : Nat → Prop} {v : Value} {l : List (List Bool)} (h : Rp.Rd (Rp.sl Rp.bool) w F v l) : ∃ A c, v = .slice A l.length c ∧ l.length ≤ c ∧ c ≤ 9223372036854775807 ∧
    (l = [] ∨ ∃ b o, A = some ⟨b, o, none⟩ ∧ b < w.heap.size ∧ ∀ (k : Nat) (hk : k < l.length), ∃ u, w.cell? ⟨b, o + k, none⟩ = some u ∧ Rp.Rd Rp.bool w F u l[k]) := by
  obtain ⟨A, c, rfl, hl, hm, h⟩ := h
  refine ⟨A, c, rfl, hl, hm, ?_⟩
  rcases h with h | ⟨b, o, rfl, _, hb, h⟩
  · exact .inl h
  · refine .inr ⟨b, o, rfl, hb, fun k hk => ?_⟩
    obtain ⟨cs, ⟨u, rfl, hu⟩, hc⟩ := h k l[k] (List.getElem?_eq_getElem hk)
    refine ⟨u, ?_, hu⟩
    have := hc 0 _ rfl
    rw [show k * (Rp.sl Rp.bool).sz + 0 = k from by show k * 1 + 0 = k; omega] at this
    exact this
set_option maxHeartbeats 2000000 in
theorem there_calls {FD FT FM : Nat → Prop} (vb : Nat) (vp vn vd vD vT : Value) (V : Int) (D T : List Int) (M : List (List Bool)) (k i : Int) (pt : Nat) (w : World)
    (hv : w.heap[vb]? = some (viewC vp V vn vd vD vT)) (hD : Rp.Rd Rp.int w FD vD D) (hT : Rp.Rd Rp.int w FT vT T) (hM : Rp.Rd (Rp.sl Rp.bool) w FM vd M)
    (hl : (D.length : Int) = V) (hl2 : (T.length : Int) = V) (hV : V ≤ 250) (hpt : pt < M.length) (hrow : ∀ (q : Nat) (hq : q < D.length), 0 ≤ D[q] → D[q].toNat < M[pt].length) :
    Calls Tryz.prog 70 #[.pointer (some ⟨vb, 0, none⟩), .int .i64 k, .int .i64 pt, .int .i64 i] w fun e w' => e = .returned (.bool (thereI V D T M pt i k)) ∧ ∃ n, w' = w.drewN n := by
  obtain ⟨c0, c1, c2, c3, c4, c5⟩ := view_cells hv
  have hwi : IntKind.i64.wrap (V - 1) = V - 1 := IntWalk.i64_in _ (by omega)
  have HC := fun W => within_calls k 0 (V - 1) W
  have HX : Hid (thereI V D T M pt i k = (inB k 0 (V - 1) && (decide (k < 12) || (if D.getD k.toNat 0 == (pt : Int) then decide (T.getD k.toNat 0 < i) else decide (0 ≤ D.getD k.toNat 0) && (M.getD (pt : Int).toNat []).getD (D.getD k.toNat 0).toNat false)))) := Lib.hid rfl
  obtain ⟨AD, kD, rfl, _, _, hrD⟩ := rd_int hD
  obtain ⟨AT, kT, rfl, _, _, hrT⟩ := rd_int hT
  obtain ⟨AM, kM, rfl, _, _, hrM⟩ := rd_bools hM
  cases hin : inB k 0 (V - 1)
  · rw [hin] at HC
    have HN : Hid (thereI V D T M pt i k = false) := Lib.hid (by rw [HX.out, hin]; rfl)
    have HC := Lib.hid HC
    clear hin HX hl hl2
    go_enter Tryz.func70, Tryz.ntmps70
    go_wp2_with (go_at_call 58; refine (HC.out _).mono ?_; rintro e w' ⟨rfl, rfl⟩)
    go_ret
    exact ⟨ret_bool HN.out.symm, 0, rfl⟩
  have hkr : 0 ≤ k ∧ k < V := by unfold inB at hin; simp at hin; omega
  rw [hin] at HC
  have HC := Lib.hid HC
  by_cases hk : k < 12
  · have HN : Hid (thereI V D T M pt i k = true) := Lib.hid (by rw [HX.out, hin, decide_eq_true hk]; rfl)
    clear hin HX hl hl2 hkr
    go_enter Tryz.func70, Tryz.ntmps70
    go_wp2_with (go_at_call 58; refine (HC.out _).mono ?_; rintro e w' ⟨rfl, rfl⟩)
    go_ret
    exact ⟨ret_bool HN.out.symm, 0, rfl⟩
  obtain ⟨n, rfl⟩ := Int.eq_ofNat_of_zero_le hkr.1
  have hn : n < D.length := by omega
  have hn2 : n < T.length := by omega
  rcases hrD with hnil | ⟨b, o, rfl, hb, hcD⟩
  · rw [hnil] at hn; simp at hn
  rcases hrT with hnil | ⟨b2, o2, rfl, hb2, hcT⟩
  · rw [hnil] at hn2; simp at hn2
  rcases hrM with hnil | ⟨b3, o3, rfl, hb3, hcM⟩
  · rw [hnil] at hpt; simp at hpt
  have q1 := hcD n hn
  have q2 := hcT n hn2
  obtain ⟨u, q3, hu⟩ := hcM pt hpt
  have hX2 : thereI V D T M pt i n = (if D[n] == (pt : Int) then decide (T[n] < i) else decide (0 ≤ D[n]) && M[pt].getD D[n].toNat false) := by
    rw [HX.out, hin, decide_eq_false hk, Int.toNat_natCast, Int.toNat_natCast]
    simp only [List.getD_eq_getElem?_getD, List.getElem?_eq_getElem hn, List.getElem?_eq_getElem hn2, List.getElem?_eq_getElem hpt, Option.getD_some, Bool.true_and, Bool.false_or]
  have hrn := hrow n hn
  replace HX := Lib.hid hX2
  clear hX2 hcD hcT hcM hrow hin
  generalize hd : D[n] = d at *
  generalize T[n] = tt at *
  generalize M[pt] = row at *
  have i0 : (0 : Int) ≤ (n : Int) := Int.natCast_nonneg _
  have i1 : (n : Int) < (D.length : Int) := by omega
  have i2 : (n : Int) < (T.length : Int) := by omega
  have i3 : (0 : Int) ≤ (pt : Int) := Int.natCast_nonneg _
  have i4 : (pt : Int) < (M.length : Int) := by omega
  clear hl hl2 hd
  by_cases h1 : d = (pt : Int)
  · have ht : (d == (pt : Int)) = true := by simpa using h1
    have HN : Hid (thereI V D T M pt i n = decide (tt < i)) := Lib.hid (by rw [HX.out, if_pos ht])
    clear h1 HX hrn
    go_enter Tryz.func70, Tryz.ntmps70
    go_wp2_with (go_at_call 58; refine (HC.out _).mono ?_; rintro e w' ⟨rfl, rfl⟩)
    go_ret
    exact ⟨ret_bool HN.out.symm, 0, rfl⟩
  have ht : (d == (pt : Int)) = false := by simpa using h1
  by_cases h2 : 0 ≤ d
  · have ht2 : decide (0 ≤ d) = true := decide_eq_true h2
    obtain ⟨m, rfl⟩ := Int.eq_ofNat_of_zero_le h2
    have hm : m < row.length := by have := hrn h2; omega
    obtain ⟨AR, kR, rfl, _, _, hrR⟩ := rd_bool hu
    rcases hrR with hnil | ⟨b4, o4, rfl, hb4, hcR⟩
    · rw [hnil] at hm; simp at hm
    have q4 := hcR m hm
    have HN : Hid (thereI V D T M pt i n = row[m]) := Lib.hid (by rw [HX.out, if_neg (by rw [ht]; decide), ht2, Int.toNat_natCast, List.getD_eq_getElem?_getD, List.getElem?_eq_getElem hm]; rfl)
    have i5 : (m : Int) < (row.length : Int) := by omega
    clear hcR h1 HX hrn
    generalize row[m] = rb at *
    go_enter Tryz.func70, Tryz.ntmps70
    go_wp2_with (go_at_call 58; refine (HC.out _).mono ?_; rintro e w' ⟨rfl, rfl⟩)
    go_quiet (fail)
    go_wp2
    go_ret
    exact ⟨ret_bool HN.out.symm, _, rfl⟩
  · have ht2 : decide (0 ≤ d) = false := decide_eq_false h2
    have HN : Hid (thereI V D T M pt i n = false) := Lib.hid (by rw [HX.out, if_neg (by rw [ht]; decide), ht2]; rfl)
    clear h1 HX hrn hu
    go_enter Tryz.func70, Tryz.ntmps70
    go_wp2_with (go_at_call 58; refine (HC.out _).mono ?_; rintro e w' ⟨rfl, rfl⟩)
    go_quiet (fail)
    go_wp2
    go_ret
    exact ⟨ret_bool HN.out.symm, _, rfl⟩

set_option maxHeartbeats 2000000 in
theorem argsOK_calls {F F2 : Nat → Prop} (s : Sa) (p : Pt) (vb b o : Nat) (vparts vn vd vD vT vparams vcode vnext vargs : Value) (w : World) (hv : w.heap[vb]? = some (viewC vparts s.values vn vd vD vT)) (hs : Rp.Rd part w F vparts s.parts)
    (hp : partAt w b o p vparams vcode vnext vargs) (h3 : Rp.Rd Rp.int w F2 vnext p.next) (h4 : Rp.Rd (Rp.sl Rp.int) w F2 vargs p.args) (hn : ∀ k ∈ p.next, 0 ≤ k ∧ k < s.parts.length) :
    Calls Tryz.prog 109 #[.pointer (some ⟨vb, 0, none⟩), .pointer (some ⟨b, o, none⟩)] w fun e w' => e = .returned (.bool (argsS s.parts p)) ∧ ∃ n, w' = w.drewN n := by
  obtain ⟨c0, c1, -, -, -, -⟩ := view_cells hv
  obtain ⟨q0, q1, q2, q3, q4, q5⟩ := hp
  obtain ⟨A, c, rfl, _, _, hrow⟩ := rd_part hs
  obtain ⟨A3, c3, rfl, _, _, hr3⟩ := rd_int h3
  obtain ⟨A4, c4, rfl, _, _, hr4⟩ := rd_ints h4
  cases g3 : (p.go == 3)
  · have HA : Hid (argsS s.parts p = fitS s.parts p.next p.args) := Lib.hid (by unfold argsS; rw [g3]; rfl)
    by_cases hle : p.args.length = p.next.length
    · have hle2 : ((p.args.length : Int) != (p.next.length : Int)) = false := by rw [bne_eq_false_iff_eq]; omega
      have HLE := Lib.hid hle
      clear hle
      go_enter Tryz.func109, Tryz.ntmps109
      go_wp2
      go_quiet (fail)
      go_wp2
      go_loopw [44] (fun i wr => ∃ j : Nat, j ≤ p.next.length ∧ i = .int .i64 j ∧ Hid (∃ n, wr = w.drewN n) ∧ Hid (fitS s.parts (p.next.drop j) (p.args.drop j) = fitS s.parts p.next p.args)) (fun i _ => p.next.length - (intOf i).toNat)
      case atStart => exact ⟨0, Nat.zero_le _, rfl, Lib.hid ⟨_, rfl⟩, Lib.hid rfl⟩
      case round =>
        obtain ⟨j, hj, rfl, HW, HJ⟩ := hrel
        have hcw : ∀ a v, w.cell? a = some v → wr.cell? a = some v := fun a v h => by obtain ⟨n, hn⟩ := HW.out; rw [hn]; exact h
        replace c0 := hcw _ _ c0
        replace q5 := hcw _ _ q5
        replace hcw := Lib.hid hcw
        by_cases hjt : j < p.next.length
        · have hja : j < p.args.length := by rw [HLE.out]; exact hjt
          have hnk := hn p.next[j] (List.getElem_mem hjt)
          obtain ⟨n, hnn⟩ := Int.eq_ofNat_of_zero_le hnk.1
          have hnl : n < s.parts.length := by omega
          rcases hr3 with hnil | ⟨b3, o3, rfl, hb3, hc3⟩
          · rw [hnil] at hjt; simp at hjt
          rcases hr4 with hnil | ⟨b4, o4, rfl, hb4, hc4⟩
          · rw [hnil] at hja; simp at hja
          rcases hrow with hnil | ⟨b5, o5, rfl, hb5, hc5⟩
          · rw [hnil] at hnl; simp at hnl
          have z3 := hcw.out _ _ (hc3 j hjt)
          obtain ⟨u, z4, hu⟩ := hc4 j hja
          replace z4 := hcw.out _ _ z4
          obtain ⟨_, _, _, _, z5, ⟨A6, c6, rfl, _⟩, -, -, -⟩ := hc5 n hnl
          have z5 := hcw.out _ _ z5.1
          have HJ2 : Hid (fitS s.parts (p.next.drop j) (p.args.drop j) = ((p.args[j].length == s.parts[n].params.length) && fitS s.parts (p.next.drop (j + 1)) (p.args.drop (j + 1)))) := Lib.hid (by
            rw [List.drop_eq_getElem_cons hjt, List.drop_eq_getElem_cons hja, fitS, hnn, Int.toNat_natCast, List.getElem?_eq_getElem hnl])
          rw [hnn] at z3
          clear hc3 hc4 hc5 hnn hnk hn
          generalize p.args[j] = a0 at *
          generalize s.parts[n] = p5 at *
          obtain ⟨Au, ku, rfl, _⟩ := hu
          have i0 : (0 : Int) ≤ (j : Int) := Int.natCast_nonneg _
          have i1 : (j : Int) < (p.next.length : Int) := by omega
          have i2 : (j : Int) < (p.args.length : Int) := by omega
          have i3 : (0 : Int) ≤ (n : Int) := Int.natCast_nonneg _
          have i4 : (n : Int) < (s.parts.length : Int) := by omega
          by_cases hq : a0.length = p5.params.length
          · have hq2 : ((a0.length : Int) != (p5.params.length : Int)) = false := by rw [bne_eq_false_iff_eq]; omega
            have HN : Hid (fitS s.parts (p.next.drop (j + 1)) (p.args.drop (j + 1)) = fitS s.parts p.next p.args) := Lib.hid (by rw [← HJ.out, HJ2.out, beq_iff_eq.2 hq, Bool.true_and])
            clear hq HJ HJ2
            go_wp2
            go_quiet (fail)
            go_wp2
            go_roundw
            case rel => exact ⟨j + 1, by omega, by go_num, Lib.hid (by obtain ⟨n', hn'⟩ := HW.out; exact ⟨n' + nq, by rw [hn', World.drewN_drewN]⟩), HN⟩
            case measure => simp [intOf]; omega
          · have hq2 : ((a0.length : Int) != (p5.params.length : Int)) = true := by rw [bne_iff_ne]; omega
            have HN : Hid (argsS s.parts p = false) := Lib.hid (by rw [HA.out, ← HJ.out, HJ2.out, beq_eq_false_iff_ne.2 hq, Bool.false_and])
            clear hq HJ HJ2
            go_wp2
            go_quiet (fail)
            go_wp2
            go_ret
            exact ⟨ret_bool HN.out.symm, by obtain ⟨n', hn'⟩ := HW.out; exact ⟨n' + nq, by rw [hn', World.drewN_drewN]⟩⟩
        · obtain rfl : j = p.next.length := by omega
          have HN : Hid (argsS s.parts p = true) := Lib.hid (by rw [HA.out, ← HJ.out, List.drop_length, ← HLE.out, List.drop_length]; rfl)
          go_wp2
          go_ret
          exact ⟨ret_bool HN.out.symm, HW.out⟩
    · have hle2 : ((p.args.length : Int) != (p.next.length : Int)) = true := by rw [bne_iff_ne]; omega
      have HN : Hid (argsS s.parts p = false) := Lib.hid (by
        rw [HA.out]
        cases hf : fitS s.parts p.next p.args
        · rfl
        · exact absurd (fitS_len _ _ _ hf).symm hle)
      clear hle
      go_enter Tryz.func109, Tryz.ntmps109
      go_wp2
      go_quiet (fail)
      go_wp2
      go_ret
      exact ⟨ret_bool HN.out.symm, _, rfl⟩
  · have HA3 : Hid (argsS s.parts p = (match p.args with | [a] => a.length == 3 | _ => false)) := Lib.hid (by unfold argsS; rw [g3]; rfl)
    by_cases ha : p.args.length = 1
    · rcases hr4 with hnil | ⟨b4, o4, rfl, hb4, hc4⟩
      · rw [hnil] at ha; simp at ha
      have i1 : 0 < p.args.length := by omega
      obtain ⟨u, cu, hu⟩ := hc4 0 i1
      have HA4 : Hid (argsS s.parts p = ((p.args[0].length : Int) == 3)) := Lib.hid (by
        obtain ⟨a0, ha0⟩ := List.length_eq_one_iff.1 ha
        rw [HA3.out, Bool.eq_iff_iff]; simp [ha0]; omega)
      have ht : ((p.args.length : Int) == 1) = true := by rw [beq_iff_eq]; omega
      have i0 : (0 : Int) < (p.args.length : Int) := by omega
      rw [Nat.add_zero] at cu
      clear HA3 ha hc4
      generalize p.args[0] = a0 at *
      obtain ⟨Au, ku, rfl, _⟩ := hu
      go_enter Tryz.func109, Tryz.ntmps109
      go_wp2
      go_ret
      exact ⟨ret_bool HA4.out.symm, 0, rfl⟩
    · have HA4 : Hid (argsS s.parts p = false) := Lib.hid (by
        rw [HA3.out]
        match p.args, ha with
        | [], _ => rfl
        | [a], h => exact absurd rfl h
        | _ :: _ :: _, _ => rfl)
      have ht : ((p.args.length : Int) == 1) = false := by rw [beq_eq_false_iff_ne]; omega
      clear HA3 ha
      go_enter Tryz.func109, Tryz.ntmps109
      go_wp2
      go_ret
      exact ⟨ret_bool HA4.out.symm, 0, rfl⟩
end Go.Proofs.YtnfaibenekninaaGreat.L

set_option linter.unusedVariables false
set_option linter.unusedSimpArgs false
namespace Go.Proofs.YtnfaibenekninaaGreat.L
open Go.RowKit
def codeItems : Int → List Fl → List (Int × Int)
  | _, [] => []
  | i, x :: t => if fD x.op then (x.dst, i) :: codeItems (i + 1) t else codeItems (i + 1) t
def parItems (l : List Int) : List (Int × Int) := l.map (fun x => (x, -1))
def itemsI (p : Pt) : List (Int × Int) := parItems p.params ++ codeItems 0 p.code
def okD (V v : Int) (D : List Int) : Prop := 12 ≤ v ∧ v < V ∧ D.getD v.toNat 0 < 0
instance (V v : Int) (D : List Int) : Decidable (okD V v D) := by unfold okD; infer_instance
def defI (V k : Int) : List Int → List Int → List (Int × Int) → Option (List Int × List Int)
  | D, T, [] => some (D, T)
  | D, T, (v, a) :: t => if okD V v D then defI V k (D.set v.toNat k) (T.set v.toNat a) t else none
def staticI (s : Sa) (p : Pt) : Bool := codeB p.code s.values && goB p.go p.test p.next s.values s.parts.length && !p.next.contains 0 && argsS s.parts p
def partI (s : Sa) (k : Int) (p : Pt) (D T : List Int) : Option (List Int × List Int) := if staticI s p && (decide (0 < k) || p.params.isEmpty) then defI s.values k D T (itemsI p) else none
theorem Chg.cell {A : Nat → Prop} {w w1 : World} {a : Addr} {u : Value} (h : Chg A w w1) (hc : w.cell? a = some u) (hA : ¬ A a.block) : w1.cell? a = some u := by
  have hlt := World.block_lt_of_cell? w a hc
  have := h.block a.block hlt hA
  unfold World.cell? at hc ⊢
  rw [this]
  exact hc
theorem partAt_chg {A : Nat → Prop} {w w1 : World} {b o : Nat} {x : Pt} {vparams vcode vnext vargs : Value} (h : partAt w b o x vparams vcode vnext vargs) (hb : Chg A w w1) (hA : ¬ A b) : partAt w1 b o x vparams vcode vnext vargs := ⟨hb.cell h.1 hA, hb.cell h.2.1 hA, hb.cell h.2.2.1 hA, hb.cell h.2.2.2.1 hA, hb.cell h.2.2.2.2.1 hA, hb.cell h.2.2.2.2.2 hA⟩
inductive DefRes (V v k a : Int) (D T : List Int) (N gd cd ga ca : Nat) (w : World) (e : Ending) (w' : World) : Prop where
  | no (he : e = .returned (.bool false)) (hn : Hid (¬ okD V v D)) (hw : w = w') : DefRes V v k a D T N gd cd ga ca w e w'
  | yes (he : e = .returned (.bool true)) (hy : Hid (okD V v D ∧ (D.set v.toNat k).length = N ∧ (T.set v.toNat a).length = N)) (hD : Ow true 3 Rp.int w' (fun q => q = gd) (.slice (some ⟨gd, 0, none⟩) N cd) (D.set v.toNat k)) (hT : Ow true 3 Rp.int w' (fun q => q = ga) (.slice (some ⟨ga, 0, none⟩) N ca) (T.set v.toNat a)) (hc : Chg (fun q => q = gd ∨ q = ga) w w') : DefRes V v k a D T N gd cd ga ca w e w'
theorem defineI_calls (V v k a : Int) (D T : List Int) (N vb gd cd ga ca : Nat) (vp vn vd : Value) (w : World) (hv : w.heap[vb]? = some (viewC vp V vn vd (.slice (some ⟨gd, 0, none⟩) N cd) (.slice (some ⟨ga, 0, none⟩) N ca)))
    (hD : Ow true 3 Rp.int w (fun q => q = gd) (.slice (some ⟨gd, 0, none⟩) N cd) D) (hT : Ow true 3 Rp.int w (fun q => q = ga) (.slice (some ⟨ga, 0, none⟩) N ca) T) (hdt : gd ≠ ga) (hDN : D.length = N) (hTN : T.length = N) (hN : (N : Int) = V) (hV : V ≤ 250) :
    Calls Tryz.prog 110 #[.pointer (some ⟨vb, 0, none⟩), .int .i64 v, .int .i64 k, .int .i64 a] w (DefRes V v k a D T N gd cd ga ca w) := by
  by_cases h : okD V v D
  · obtain ⟨n, rfl⟩ := Int.eq_ofNat_of_zero_le (by have := h.1; omega : 0 ≤ v)
    have h0 := h
    obtain ⟨h1, h2, h3⟩ := h
    have hn : n < D.length := by omega
    have hn2 : n < T.length := by omega
    rw [Int.toNat_natCast, List.getD_eq_getElem?_getD, List.getElem?_eq_getElem hn, Option.getD_some] at h3
    subst hDN
    refine (define_yes vb gd ga cd ca vp vn vd V D T n k a w (by rw [hTN]; exact hv) hD (by rw [hTN]; exact hT) hdt hN (by omega) hV (by omega) hn h3).mono ?_
    have key : ∀ W, Below w.heap.size w W → DefRes V n k a D T D.length gd cd ga ca w (.returned (.bool true)) ((W.setCell ⟨gd, n, none⟩ (.int .i64 k)).setCell ⟨ga, n, none⟩ (.int .i64 a)) := fun W hW => by
      refine .yes rfl (Lib.hid ⟨h0, by simp, by simp [hTN]⟩) ?_ ?_ ((Chg.of_below hW).trans ((Chg.set (A := fun q => q = gd ∨ q = ga) (.inl rfl)).trans (Chg.set (.inr rfl))))
      · exact ((hD.below hW).set1 rfl hn (y := k) (u := .int .i64 k) rfl).set_other (by omega)
      · exact ((hT.below hW).set_other (b := gd) (by omega)).set1 rfl hn2 (y := a) (u := .int .i64 a) rfl
    rintro e w' (⟨rfl, rfl⟩ | ⟨rfl, rfl⟩)
    · exact key w (Below.refl _ _)
    · exact key w.drew (below_drew (Below.refl _ _))
  · refine (define_no (FT := fun _ => False) vb vp vn vd _ V D _ v k a w hv (hD.rd) (by omega) hV ?_).mono ?_
    · rintro ⟨h1, h2, h3⟩
      refine h ⟨h1, h2, ?_⟩
      have hn : v.toNat < D.length := by omega
      rw [List.getD_eq_getElem?_getD, List.getElem?_eq_getElem hn]
      exact h3 hn
    · rintro e w' ⟨rfl, rfl⟩
      exact .no rfl (Lib.hid h) rfl
end Go.Proofs.YtnfaibenekninaaGreat.L
