/- Joined texts, each of which was built by itself: Ds3 Ep1 Ds4 Ma1. -/
import Derived.Test.YtnfaibenekninaaGreatFUseFirst3
import Derived.Test.YtnfaibenekninaaGreatB1
import Derived.Deep.RegionHeld3
import Derived.Test.YtnfaibenekninaaGreatB7
import Derived.ChangeKeysEq
import Derived.Laws.StructEq
import Derived.BigQuiet
import Derived.Test.YtnfaibenekninaaGreatB10
import Derived.BigRegion
set_option linter.unusedVariables false
set_option linter.unusedSimpArgs false
namespace Go.Proofs.YtnfaibenekninaaGreat.L
open Go.RowKit
theorem partsD_get {s : Sa} {D : List Df} {v : Nat} (hv : v < D.length) : partsD s D v = if D[v].step.op = 3 then [D[v].step.a, D[v].step.b] else if D[v].part < 0 then [] else handS s.parts D[v].part D[v].at_ := by unfold partsD; rw [getD_df hv]
set_option maxRecDepth 100000 in
set_option maxHeartbeats 8000000 in
theorem l11Parts_calls {F G : Nat → Prop} (s : Sa) (vparts : Value) (D : List Df) (vD : Value) (v : Nat) (w : World) (hs : Rp.Rd part w F vparts s.parts) (h : Rp.Rd dfK w G vD D) (hv : v < D.length) (hN1 : D.length ≤ 250)
    (hlen : s.parts.length ≤ 11 ∧ ∀ p ∈ s.parts, p.next.length ≤ 6) (hed : 0 ≤ (D.getD v df0).part → 0 ≤ (D.getD v df0).at_ ∧ ∀ p ∈ s.parts, ∀ m, m < p.next.length → m < p.args.length ∧ (p.next.getD m 0 = (D.getD v df0).part → (D.getD v df0).at_.toNat < (p.args.getD m []).length)) :
    Calls Tryz.prog 155 #[saV s vparts, vD, .int .i64 v] w fun e w' => ∃ v', e = .returned v' ∧ Rp.Rd Rp.int w' (fun k => w.heap.size ≤ k) v' (partsD s D v) ∧ Below w.heap.size w w' := by
  obtain ⟨A0, c0, rfl, hlc, hcm, hrow⟩ := rd_part hs
  obtain ⟨A, c, rfl, _, _, hrd⟩ := rd_df h
  rcases hrd with hnil | ⟨b, o, rfl, hb, hcell⟩
  · rw [hnil] at hv; simp at hv
  obtain ⟨q0, q1, q2, q3, q4, q5, q6, q7⟩ := hcell v hv
  have hP := Lib.hid (partsD_get (s := s) hv)
  rw [getD_df hv] at hed
  have u0 : (0 : Int) ≤ (v : Int) := Int.natCast_nonneg _
  have u1 : (v : Int) < (D.length : Int) := by omega
  clear hcell
  generalize partsD s D v = R at *
  generalize D[v] = d at *
  obtain ⟨⟨xo, xd, xdst, xa, xb, xn⟩, pt, at_⟩ := d
  dsimp only at *
  have HE := Lib.hid hed
  have HNl := Lib.hid hlen.2
  have hlp := hlen.1
  have HSl : Hid (∀ k, k ≤ s.parts.length → (handS (s.parts.take k) pt at_).length ≤ 66) := Lib.hid (fun k hk => Nat.le_trans (handS_len (B := 6) (fun p hp => hlen.2 p (List.mem_of_mem_take hp))) (by rw [List.length_take]; omega))
  clear hed hlen
  unfold saV
  have hB0 : Below w.heap.size w (w.alloc (.cells #[.slice A0 s.parts.length c0, .int .i64 s.values] 28)) := below_new _
  have b0 := heap_alloc_new w (.cells #[.slice A0 s.parts.length c0, .int .i64 s.values] 28)
  have hz0 : (w.alloc (.cells #[.slice A0 s.parts.length c0, .int .i64 s.values] 28)).heap.size = w.heap.size + 1 := by simp
  have q0 := cell_below hB0 q0
  have q1 := cell_below hB0 q1
  have q2 := cell_below hB0 q2
  have q3 := cell_below hB0 q3
  have q4 := cell_below hB0 q4
  have q5 := cell_below hB0 q5
  have q6 := cell_below hB0 q6
  have q7 := cell_below hB0 q7
  have hb1 := below_new (w := w.alloc (.cells #[.slice A0 s.parts.length c0, .int .i64 s.values] 28)) (.cells #[.int .i64 xo, .int .i64 xd, .int .i64 xdst, .int .i64 xa, .int .i64 xb, .int .i64 xn, .int .i64 pt, .int .i64 at_] 186)
  by_cases h3 : xo = 3
  · have e : R = [xa, xb] := by rw [hP.out, if_pos h3]
    subst e
    subst h3
    clear hP HE
    go_enter Tryz.func155, Tryz.ntmps155
    go_wp2
    go_ret
    have hb2 := below_then hB0 hb1
    refine ⟨_, rfl, Ow.rd (ap := true) (e := 3) (ow_intsG (B := w.heap.size) (by simp) (by omega) [xa, xb] #[.int .i64 xa, .int .i64 xb] rfl (by simp)), below_then hb2 (below_new _)⟩
  have t3 : (xo == 3) = false := by simpa using h3
  by_cases h4 : pt < 0
  · have e : R = [] := by rw [hP.out, if_neg h3, if_pos h4]
    subst e
    clear hP HE h3
    go_enter Tryz.func155, Tryz.ntmps155
    go_wp2
    go_ret
    exact ⟨_, rfl, Rp.Rd.nil _ _ _, below_then hB0 hb1⟩
  have hRe : Hid (R = handS s.parts pt at_) := Lib.hid (by rw [hP.out, if_neg h3, if_neg h4])
  have HE := Lib.hid (HE.out (by omega))
  have d1 := heap_alloc_new (w.alloc (.cells #[.slice A0 s.parts.length c0, .int .i64 s.values] 28)) (.cells #[.int .i64 xo, .int .i64 xd, .int .i64 xdst, .int .i64 xa, .int .i64 xb, .int .i64 xn, .int .i64 pt, .int .i64 at_] 186)
  have b1 := blk_below b0 hb1
  have hz1 : ((w.alloc (.cells #[.slice A0 s.parts.length c0, .int .i64 s.values] 28)).alloc (.cells #[.int .i64 xo, .int .i64 xd, .int .i64 xdst, .int .i64 xa, .int .i64 xb, .int .i64 xn, .int .i64 pt, .int .i64 at_] 186)).heap.size = w.heap.size + 1 + 1 := by simp
  rw [hz0] at d1
  have hB1 := below_then hB0 hb1
  obtain ⟨x1, _⟩ := cell_of_block b1
  have x10 : ((w.alloc (.cells #[.slice A0 s.parts.length c0, .int .i64 s.values] 28)).alloc (.cells #[.int .i64 xo, .int .i64 xd, .int .i64 xdst, .int .i64 xa, .int .i64 xb, .int .i64 xn, .int .i64 pt, .int .i64 at_] 186)).cell? ⟨w.heap.size, 0, none⟩ = some (.slice A0 s.parts.length c0) := (x1 0).trans rfl
  clear x1 hP h3 b0 hb1 hB0 hz0
  go_enter Tryz.func155, Tryz.ntmps155
  go_wp2_with fail
  obtain ⟨W1, hW1⟩ : ∃ W1, W1 = (w.alloc (.cells #[.slice A0 s.parts.length c0, .int .i64 s.values] 28)).alloc (.cells #[.int .i64 xo, .int .i64 xd, .int .i64 xdst, .int .i64 xa, .int .i64 xb, .int .i64 xn, .int .i64 pt, .int .i64 at_] 186) := ⟨_, rfl⟩
  rw [← hW1] at hB1 d1 hz1 ⊢
  clear hW1 x10 q0 q1 q2 q3 q4 q5 q6 q7
  go_loopw [8, 34] (fun av x wr => ∃ (m : Nat) (sv : Value), sv = av ∧ m ≤ s.parts.length ∧ x = .int .i64 m ∧ Ow true 3 Rp.int wr (fun k => w.heap.size + 2 ≤ k) sv (handS (s.parts.take m) pt at_) ∧ Below W1.heap.size W1 wr) (fun _ x _ => s.parts.length - (intOf x).toNat)
  case atStart => exact ⟨0, _, rfl, Nat.zero_le _, rfl, by simpa [handS] using Ow.nil _ _ _ _ _, Below.refl _ _⟩
  case round =>
    obtain ⟨m, sv, rfl, hm, rfl, HO, HB1⟩ := hrel
    rename World => wo
    have HB := below_then hB1 HB1
    by_cases hlt : m < s.parts.length
    · rcases hrow with hnil | ⟨b2, o2, rfl, hb2, hcell⟩
      · rw [hnil] at hlt; simp at hlt
      obtain ⟨_, _, _, _, hp, ⟨A1, c1, rfl, _⟩, ⟨A2, c2, rfl, _⟩, h3, h4⟩ := hcell m hlt
      obtain ⟨A3, c3, rfl, _, _, hr3⟩ := rd_int h3
      obtain ⟨A4, c4, rfl, _, _, hr4⟩ := rd_ints h4
      have hpm := List.getElem_mem hlt
      have hed := Lib.hid (HE.out.2 _ hpm)
      have ha0 := HE.out.1
      have hnl := HNl.out _ hpm
      have hsl := HSl.out m hm
      have hTk := Lib.hid (handS_take hlt pt at_)
      obtain ⟨q0, q1, q2, q3, q4, q5⟩ := partAt_below hp HB
      clear hcell hpm hp
      obtain ⟨p, hpe⟩ : ∃ p, p = s.parts[m] := ⟨_, rfl⟩
      rw [← hpe] at h3 h4 hr3 hr4 hed hnl hTk q0 q1 q2 q3 q4 q5
      clear hpe
      obtain ⟨H0, hH0⟩ : ∃ H0, H0 = handS (s.parts.take m) pt at_ := ⟨_, rfl⟩
      rw [← hH0] at HO hsl hTk
      clear hH0
      have i0 : (0 : Int) ≤ (m : Int) := Int.natCast_nonneg _
      have i1 : (m : Int) < (s.parts.length : Int) := by omega
      have hbp := below_new (w := wo) (.cells #[.slice A1 p.params.length c1, .slice A2 p.code.length c2, .int .i64 p.go, .int .i64 p.test, .slice A3 p.next.length c3, .slice A4 p.args.length c4] 67)
      have ep := heap_alloc_new wo (.cells #[.slice A1 p.params.length c1, .slice A2 p.code.length c2, .int .i64 p.go, .int .i64 p.test, .slice A3 p.next.length c3, .slice A4 p.args.length c4] 67)
      have hzp : (wo.alloc (.cells #[.slice A1 p.params.length c1, .slice A2 p.code.length c2, .int .i64 p.go, .int .i64 p.test, .slice A3 p.next.length c3, .slice A4 p.args.length c4] 67)).heap.size = wo.heap.size + 1 := by simp
      have hsB := HB1.size
      have HO0 : Ow true 3 Rp.int (wo.alloc (.cells #[.slice A1 p.params.length c1, .slice A2 p.code.length c2, .int .i64 p.go, .int .i64 p.test, .slice A3 p.next.length c3, .slice A4 p.args.length c4] 67)) (fun k => w.heap.size + 2 ≤ k ∧ k ≠ wo.heap.size) sv (H0 ++ handP p pt at_ 0) := by
        have h1 := (HO.bound.mono (G := fun k => w.heap.size + 2 ≤ k ∧ k ≠ wo.heap.size) (fun k hk => by have := hk.1; have := hk.2; omega)).below hbp
        simpa [handP] using h1
      obtain ⟨y1, _⟩ := cell_of_block ep
      have y14 : (wo.alloc (.cells #[.slice A1 p.params.length c1, .slice A2 p.code.length c2, .int .i64 p.go, .int .i64 p.test, .slice A3 p.next.length c3, .slice A4 p.args.length c4] 67)).cell? ⟨wo.heap.size, 4, none⟩ = some (.slice A3 p.next.length c3) := (y1 4).trans rfl
      clear HO y1
      go_wp2_with fail
      obtain ⟨W2, hW2⟩ : ∃ W2, W2 = wo.alloc (.cells #[.slice A1 p.params.length c1, .slice A2 p.code.length c2, .int .i64 p.go, .int .i64 p.test, .slice A3 p.next.length c3, .slice A4 p.args.length c4] 67) := ⟨_, rfl⟩
      rw [← hW2] at HO0 hbp ep hzp ⊢
      clear q0 q1 q2 q3 q4 q5 y14 hW2
      obtain ⟨pb, hpb⟩ : ∃ pb, pb = wo.heap.size := ⟨_, rfl⟩
      rw [← hpb] at HO0 ep ⊢
      have hpb1 : w.heap.size + 2 ≤ pb := by omega
      have hBW2 := below_then HB1 hbp
      clear hbp HB1 HB
      go_loopw [8, 41] (fun av x wr => ∃ (n : Nat) (sv : Value), sv = av ∧ n ≤ p.next.length ∧ x = .int .i64 n ∧ Ow true 3 Rp.int wr (fun k => w.heap.size + 2 ≤ k ∧ k ≠ pb) sv (H0 ++ handP p pt at_ n) ∧ Below W1.heap.size W1 wr ∧ wr.heap[pb]? = some (.cells #[.slice A1 p.params.length c1, .slice A2 p.code.length c2, .int .i64 p.go, .int .i64 p.test, .slice A3 p.next.length c3, .slice A4 p.args.length c4] 67 (0, 0))) (fun _ x _ => p.next.length - (intOf x).toNat)
      case atStart => exact ⟨0, _, rfl, Nat.zero_le _, rfl, HO0, hBW2, ep⟩
      case round =>
        clear HO0 hBW2 ep hpb
        obtain ⟨n, sv, rfl, hn, rfl, HO, HB1, ep⟩ := hrel
        rename World => wx
        have HB := below_then hB1 HB1
        by_cases hnt : n < p.next.length
        · rcases hr3 with hn0 | ⟨b3, o3, rfl, hb3, hc3⟩
          · rw [hn0] at hnt; simp at hnt
          have cv := cell_below HB (hc3 n hnt)
          have hed1 := Lib.hid (hed.out n hnt)
          have e : p.next.getD n 0 = p.next[n] := by rw [List.getD_eq_getElem?_getD, List.getElem?_eq_getElem hnt]; rfl
          have hSt := Lib.hid (handP_succ p pt at_ n)
          rw [e] at hSt hed1
          have hLn := handP_len p pt at_ n
          clear hc3 e
          obtain ⟨y, hy⟩ : ∃ y, y = p.next[n] := ⟨_, rfl⟩
          rw [← hy] at cv hSt hed1
          clear hy
          have n0 : (0 : Int) ≤ (n : Int) := Int.natCast_nonneg _
          have n1 : (n : Int) < (p.next.length : Int) := by omega
          have d2 := blk_below d1 HB1
          obtain ⟨z1, _⟩ := cell_of_block d2
          have z16 : wx.cell? ⟨w.heap.size + 1, 6, none⟩ = some (.int .i64 pt) := (z1 6).trans rfl
          have z17 : wx.cell? ⟨w.heap.size + 1, 7, none⟩ = some (.int .i64 at_) := (z1 7).trans rfl
          clear z1
          by_cases hyq : y = pt
          · have hal := (hed1.out).1
            have hai := (hed1.out).2 hyq
            have hSt2 : Hid (H0 ++ handP p pt at_ (n + 1) = (H0 ++ handP p pt at_ n) ++ [(p.args.getD n []).getD at_.toNat 0]) := Lib.hid (by rw [hSt.out, if_pos hyq, List.append_assoc])
            rcases hr4 with hn0 | ⟨b4, o4, rfl, hb4, hc4⟩
            · rw [hn0] at hal; simp at hal
            obtain ⟨u4, cu4, hu4⟩ := hc4 n hal
            have e4 : p.args.getD n [] = p.args[n] := by rw [List.getD_eq_getElem?_getD, List.getElem?_eq_getElem hal]; rfl
            rw [e4] at hai hSt2
            obtain ⟨A5, c5, rfl, _, _, hr5⟩ := rd_int hu4
            rcases hr5 with hn0 | ⟨b5, o5, rfl, hb5, hc5⟩
            · rw [hn0] at hai; simp at hai
            obtain ⟨i, hi⟩ := Int.eq_ofNat_of_zero_le ha0
            have hit : at_.toNat = i := by omega
            rw [hit] at hai hSt2
            have cu5 := cell_below HB (hc5 i hai)
            have cu4 := cell_below HB cu4
            have e5 : p.args[n].getD i 0 = p.args[n][i] := by rw [List.getD_eq_getElem?_getD, List.getElem?_eq_getElem hai]; rfl
            rw [e5] at hSt2
            obtain ⟨z, hz⟩ : ∃ z, z = p.args[n][i] := ⟨_, rfl⟩
            rw [← hz] at hSt2 cu5
            clear hz e4 e5 hc5 hc4 hit
            obtain ⟨La, hLa⟩ : ∃ La, La = p.args[n].length := ⟨_, rfl⟩
            rw [← hLa] at cu4 hai
            clear hLa hu4
            obtain ⟨y1, _⟩ := cell_of_block ep
            have y15 : wx.cell? ⟨pb, 5, none⟩ = some (.slice (some ⟨b4, o4, none⟩) p.args.length c4) := (y1 5).trans rfl
            clear y1
            obtain ⟨l1, hl1⟩ : ∃ l1, l1 = H0 ++ handP p pt at_ n := ⟨_, rfl⟩
            have hl1n : l1.length ≤ 200 := by rw [hl1, List.length_append]; omega
            rw [← hl1] at HO hSt2
            clear hl1 hSt hed1
            obtain ⟨Av, kv, rfl, _, _⟩ := HO.form
            have a0 : (0 : Int) ≤ (i : Int) := Int.natCast_nonneg _
            have a1 : (i : Int) < (La : Int) := by omega
            have a2 : (n : Int) < (p.args.length : Int) := by omega
            rw [hi] at z17
            rw [hyq] at cv
            replace hi := Lib.hid hi
            replace hyq := Lib.hid hyq
            have hbl4 : b4 < w.heap.size := hb4
            have hbl5 : b5 < w.heap.size := hb5
            go_wp2_with fail
            refine wp_region_held_drew (S := (fun w' => w'.cell? ⟨pb, 5, none⟩ = some (.slice (some ⟨b4, o4, none⟩) p.args.length c4) ∧ w'.cell? ⟨w.heap.size + 1, 7, none⟩ = some (.int .i64 (i : Int)) ∧ w'.cell? ⟨b4, o4 + n, none⟩ = some (.slice (some ⟨b5, o5, none⟩) La c5) ∧ w'.cell? ⟨b5, o5 + i, none⟩ = some (.int .i64 z))) (by kernel_rfl) ⟨y15, z17, cu4, cu5⟩ (fun hH0 => ?_)
            refine wpAnyH_take (i := 0) (v := ?_) rfl (by kernel_rfl) (by kernel_rfl) (by kernel_rfl) (fun _ _ _ h => h) (Or.inl ⟨by rfl, ?_⟩) (by assumption) ?_
            rotate_left 1
            focus ((intro w hSw; (try dsimp only at hSw); go_simp); try with_reducible rfl)
            try simp only [Act.put, Array.getInternal_eq_getElem, List.getElem_toArray, List.getElem_cons_zero, List.getElem_cons_succ, List.setIfInBounds_toArray, List.set_cons_zero, List.set_cons_succ]
            refine wpAnyH_take (i := 1) (v := ?_) rfl (by kernel_rfl) (by kernel_rfl) (by kernel_rfl) (fun _ _ _ h => h) (Or.inl ⟨by rfl, ?_⟩) (by assumption) ?_
            rotate_left 1
            focus ((intro w hSw; (try dsimp only at hSw); go_simp); try with_reducible rfl)
            try simp only [Act.put, Array.getInternal_eq_getElem, List.getElem_toArray, List.getElem_cons_zero, List.getElem_cons_succ, List.setIfInBounds_toArray, List.set_cons_zero, List.set_cons_succ]
            refine wpAnyH_take (i := 2) (v := ?_) rfl (by kernel_rfl) (by kernel_rfl) (by kernel_rfl) (fun _ _ _ h => h) (Or.inl ⟨by rfl, ?_⟩) (by assumption) ?_
            rotate_left 1
            focus ((intro w hSw; (try dsimp only at hSw); go_simp); try with_reducible rfl)
            try simp only [Act.put, Array.getInternal_eq_getElem, List.getElem_toArray, List.getElem_cons_zero, List.getElem_cons_succ, List.setIfInBounds_toArray, List.set_cons_zero, List.set_cons_succ]
            refine wpAnyH_take (i := 3) (v := ?_) rfl (by kernel_rfl) (by kernel_rfl) (by kernel_rfl) (fun _ _ _ h => h) (Or.inl ⟨by rfl, ?_⟩) (by assumption) ?_
            rotate_left 1
            focus ((intro w hSw; (try dsimp only at hSw); go_simp); try with_reducible rfl)
            try simp only [Act.put, Array.getInternal_eq_getElem, List.getElem_toArray, List.getElem_cons_zero, List.getElem_cons_succ, List.setIfInBounds_toArray, List.set_cons_zero, List.set_cons_succ]
            refine wpAnyH_take (i := 4) (v := ?_) rfl (by kernel_rfl) (by kernel_rfl) (by kernel_rfl) (fun _ _ _ h => h) (Or.inl ⟨by rfl, ?_⟩) (by assumption) ?_
            rotate_left 1
            focus ((intro w hSw; (try dsimp only at hSw); go_simp); try with_reducible rfl)
            try simp only [Act.put, Array.getInternal_eq_getElem, List.getElem_toArray, List.getElem_cons_zero, List.getElem_cons_succ, List.setIfInBounds_toArray, List.set_cons_zero, List.set_cons_succ]
            refine wpAnyH_take (i := 5) (v := ?_) rfl (by kernel_rfl) (by kernel_rfl) (by kernel_rfl) (fun _ _ _ h => h) (Or.inl ⟨by rfl, ?_⟩) (by assumption) ?_
            rotate_left 1
            focus ((intro w hSw; (try dsimp only at hSw); go_simp); try with_reducible rfl)
            try simp only [Act.put, Array.getInternal_eq_getElem, List.getElem_toArray, List.getElem_cons_zero, List.getElem_cons_succ, List.setIfInBounds_toArray, List.set_cons_zero, List.set_cons_succ]
            refine wpAnyH_take (i := 6) (v := ?_) rfl (by kernel_rfl) (by kernel_rfl) (by kernel_rfl) (fun _ _ _ h => h) (Or.inl ⟨by rfl, ?_⟩) (by assumption) ?_
            rotate_left 1
            focus ((intro w hSw; (try dsimp only at hSw); go_simp); try with_reducible rfl)
            try simp only [Act.put, Array.getInternal_eq_getElem, List.getElem_toArray, List.getElem_cons_zero, List.getElem_cons_succ, List.setIfInBounds_toArray, List.set_cons_zero, List.set_cons_succ]
            refine wpAnyH_take (i := 7) (v := ?_) rfl (by kernel_rfl) (by kernel_rfl) (by kernel_rfl) (fun _ _ _ h => h) (Or.inl ⟨by rfl, ?_⟩) (by assumption) ?_
            rotate_left 1
            focus ((intro w hSw; (try dsimp only at hSw); go_simp); try with_reducible rfl)
            try simp only [Act.put, Array.getInternal_eq_getElem, List.getElem_toArray, List.getElem_cons_zero, List.getElem_cons_succ, List.setIfInBounds_toArray, List.set_cons_zero, List.set_cons_succ]
            refine wpAnyH_take (i := 8) (v := ?_) rfl (by kernel_rfl) (by kernel_rfl) (by kernel_rfl) (fun _ _ _ h => h) (Or.inl ⟨by rfl, ?_⟩) (by assumption) ?_
            rotate_left 1
            focus ((intro w hSw; (try dsimp only at hSw); go_simp); try with_reducible rfl)
            try simp only [Act.put, Array.getInternal_eq_getElem, List.getElem_toArray, List.getElem_cons_zero, List.getElem_cons_succ, List.setIfInBounds_toArray, List.set_cons_zero, List.set_cons_succ]
            refine wpAnyH_take (i := 9) (v := ?_) rfl (by kernel_rfl) (by kernel_rfl) (by kernel_rfl) (fun _ _ _ h => h) (Or.inl ⟨by rfl, ?_⟩) (by assumption) ?_
            rotate_left 1
            focus ((intro w hSw; (try dsimp only at hSw); go_simp); try with_reducible rfl)
            try simp only [Act.put, Array.getInternal_eq_getElem, List.getElem_toArray, List.getElem_cons_zero, List.getElem_cons_succ, List.setIfInBounds_toArray, List.set_cons_zero, List.set_cons_succ]
            have y15 : wx.drew.cell? ⟨pb, 5, none⟩ = some (.slice (some ⟨b4, o4, none⟩) p.args.length c4) := y15
            have z17 : wx.drew.cell? ⟨w.heap.size + 1, 7, none⟩ = some (.int .i64 (i : Int)) := z17
            have cu4 : wx.drew.cell? ⟨b4, o4 + n, none⟩ = some (.slice (some ⟨b5, o5, none⟩) La c5) := cu4
            have cu5 : wx.drew.cell? ⟨b5, o5 + i, none⟩ = some (.int .i64 z) := cu5
            have HO : Ow true 3 Rp.int wx.drew (fun k => w.heap.size + 2 ≤ k ∧ k ≠ pb) (.slice Av l1.length kv) l1 := HO.move (fun _ _ _ => rfl)
            have HB1 : Below W1.heap.size W1 wx.drew := below_drew HB1
            replace ep := (id ep : wx.drew.heap[pb]? = some _)
            have hpbl := blk_lt ep
            generalize wx.drew = wd at *
            refine wpAnyH_ready (rs := [10]) (by kernel_rfl) (by simp) ?_
            refine AllReadyH.cons rfl (fun K1 hK1 => ?_) AllReadyH.nil
            try simp only [Array.getInternal_eq_getElem, List.getElem_toArray, List.getElem_cons_zero, List.getElem_cons_succ]
            go_simp
            have hbn := below_new (w := wd) (.cells #[.int .i64 z] 3)
            have en := heap_alloc_new wd (.cells #[.int .i64 z] 3)
            have y15 := cell_below hbn y15
            have z17 := cell_below hbn z17
            have cu4 := cell_below hbn cu4
            have cu5 := cell_below hbn cu5
            have HO2 := HO.bound.below hbn
            have HB2 := below_then HB1 hbn
            have ep2 := blk_below ep hbn
            have hzd : (wd.alloc (.cells #[.int .i64 z] 3)).heap.size = wd.heap.size + 1 := by simp
            refine hK1.out _ _ ⟨y15, z17, cu4, cu5⟩ (fun _ => ?_)
            clear hK1 K1
            generalize wd.alloc (.cells #[.int .i64 z] 3) = w2 at *
            try simp only [Act.put, List.setIfInBounds_toArray, List.set_cons_zero, List.set_cons_succ]
            obtain ⟨v7, w7, hrn, hO7, hg7⟩ := run_ap1 (P := Tryz.prog) (r := Rp.int) (G := fun _ => False) (us := [.int .i64 z]) 59 59 (.int .i64 0) 8 Tryz.underlying59 infoInt rfl (by decide) (by omega) _ l1 z wd.heap.size en HO2 rfl (fun _ h => h.elim) (by omega)
            have hown : ∀ k, some k = Value.ownBlock (.slice Av l1.length kv) → (w.heap.size + 2 ≤ k ∧ k ≠ pb) ∧ k < wd.heap.size := fun k hk => own_in HO2 (.inl hk)
            have hkeep : ∀ (bq oq : Nat) (u : Value), bq < wd.heap.size → ¬ (w.heap.size + 2 ≤ bq ∧ bq ≠ pb) → w2.cell? ⟨bq, oq, none⟩ = some u → w7.cell? ⟨bq, oq, none⟩ = some u := fun bq oq u h1 h2 h3 => (Rp.cell_move (hg7.block bq (by omega) (fun he => h2 (hown bq he).1)) oq).trans h3
            have hwd := HB1.size
            have y15 := hkeep _ _ _ hpbl (fun h => h.2 rfl) y15
            have z17 := hkeep _ _ _ (by omega) (by omega) z17
            have cu4 := hkeep _ _ _ (by omega) (by omega) cu4
            have cu5 := hkeep _ _ _ (by omega) (by omega) cu5
            refine wpAnyH_ready (rs := [11]) (by kernel_rfl) (by simp) ?_
            refine AllReadyH.cons rfl (fun K1 hK1 => ?_) AllReadyH.nil
            try simp only [Array.getInternal_eq_getElem, List.getElem_toArray, List.getElem_cons_zero, List.getElem_cons_succ]
            rw [if_pos (by first | kernel_rfl | rfl | decide)]
            refine oper_append _ _ _ _ _ _ rfl (by rfl) (by rfl) hrn ?_
            try simp only [Act.put, Array.getInternal_eq_getElem, List.getElem_toArray, List.getElem_cons_zero, List.getElem_cons_succ, List.setIfInBounds_toArray, List.set_cons_zero, List.set_cons_succ]
            refine hK1.out _ _ ⟨y15, z17, cu4, cu5⟩ (fun _ => ?_)
            clear hK1 K1
            try simp only [Act.put, List.setIfInBounds_toArray, List.set_cons_zero, List.set_cons_succ]
            refine wpAnyH_take (i := 12) (v := ?_) rfl (by kernel_rfl) (by kernel_rfl) (by kernel_rfl) (fun _ _ _ h => h) (Or.inl ⟨by rfl, ?_⟩) (by assumption) ?_
            rotate_left 1
            focus ((intro w hSw; (try dsimp only at hSw); go_simp); try with_reducible rfl)
            try simp only [Act.put, Array.getInternal_eq_getElem, List.getElem_toArray, List.getElem_cons_zero, List.getElem_cons_succ, List.setIfInBounds_toArray, List.set_cons_zero, List.set_cons_succ]
            refine wpAnyH_done (by kernel_rfl) ?_ _
            have HO8 := hO7.mono (G := fun k => w.heap.size + 2 ≤ k ∧ k ≠ pb) (fun q hq => by rcases hq with hq | hq | hq; exact hq.1; exact hq.elim; omega)
            have HB7 : Below W1.heap.size W1 w7 := below_grown HB2 hg7 (fun q hq => by have := (hown q hq.symm).1.1; omega) (by omega)
            have ep7 := grown_blk hg7 ep2 (fun he => (hown pb he).1.2 rfl)
            clear hrn hO7 hg7 HO HO2 hkeep hown y15 z17 cu4 cu5 ep ep2 en hbn HB1 HB2 hH0
            rw [← hSt2.out] at HO8
            go_wp2
            go_roundw
            case rel => exact ⟨n + 1, _, rfl, by omega, by go_num, HO8, HB7, ep7⟩
            case measure => simp [intOf]; omega
          · have hSt2 : Hid (H0 ++ handP p pt at_ (n + 1) = H0 ++ handP p pt at_ n) := Lib.hid (by rw [hSt.out, if_neg hyq, List.append_nil])
            have hne : (y == pt) = false := by simpa using hyq
            clear hyq hSt hed1
            go_wp2
            go_roundw
            case rel => exact ⟨n + 1, _, rfl, by omega, by go_num, by rw [hSt2.out]; exact HO, HB1, ep⟩
            case measure => simp [intOf]; omega
        · obtain rfl : n = p.next.length := by omega
          rw [← hTk.out] at HO
          have HO1 := HO.mono (G := fun k => w.heap.size + 2 ≤ k) (fun k hk => hk.1)
          clear HO ep
          go_wp2
          go_roundw
          case rel => exact ⟨m + 1, _, rfl, by omega, by go_num, HO1, HB1⟩
          case measure => simp [intOf]; omega
    · obtain rfl : m = s.parts.length := by omega
      rw [List.take_length, ← hRe.out] at HO
      go_wp2
      go_ret
      exact ⟨_, rfl, (HO.mono (fun q hq => by have hq : w.heap.size + 2 ≤ q := hq; omega)).rd, HB⟩
end Go.Proofs.YtnfaibenekninaaGreat.L

set_option linter.unusedVariables false
namespace Go.Proofs.YtnfaibenekninaaGreat.L
open Go.RowKit
theorem isAggI (w : World) : (isAgg 3).run Tryz.prog w = .ok false w := by kernel_rfl
theorem sizeI (w : World) : (sizeOf 3).run Tryz.prog w = .ok 1 w := by kernel_rfl
theorem eq_pairA (a b c d : Int) (w : World) : (Op.equalIn 10000 182 (.agg #[.int .i64 a, .int .i64 b]) (.agg #[.int .i64 c, .int .i64 d])).run Tryz.prog w = .ok ((a == c) && (b == d)) w := by
  obtain ⟨i, hi, _⟩ := Option.map_eq_some_iff.1 infoInt
  have hc : Tryz.prog.cellsOf 3 = 1 := by kernel_rfl
  rw [show (10000 : Nat) = 9998 + 1 + 1 from rfl, run_equalIn_array w (9998 + 1) _ _ Tryz.underlying182 hi, hc]
  have e : List.range 2 = [0, 1] := rfl
  rw [e]
  have h1 := fun (x y : Int) => run_equalIn_int (P := Tryz.prog) w 9998 3 .i64 .i64 x y Tryz.underlying3
  simp [Op.eqItems, part, isAggI, sizeI, h1, go_sem]
  by_cases e1 : a = c <;> by_cases e2 : b = d <;> simp [e1, e2]
set_option maxRecDepth 100000 in
theorem eq_pairS (a b c d : Int) (w : World) : (Op.equalIn 10000 156 (.agg #[.int .i64 a, .int .i64 b]) (.agg #[.int .i64 c, .int .i64 d])).run Tryz.prog w = .ok ((a == c) && (b == d)) w := by
  have h2 : Tryz.prog.stoodInHeld 156 = false := by kernel_rfl
  obtain ⟨fs, hfs⟩ : ∃ fs, Tryz.prog.underlying 156 = some (.struct fs) := ⟨_, Tryz.underlying156⟩
  have hf : Tryz.prog.fieldsOf 156 = fs := by unfold Program.fieldsOf; rw [hfs]
  have hfv := hfs.symm.trans Tryz.underlying156
  injection hfv with hfv
  injection hfv with hfv
  rw [show (10000 : Nat) = 9998 + 1 + 1 from rfl, run_equalIn_struct w (9998 + 1) 156 _ _ (by rw [hf]; exact hfs) h2, hf, hfv]
  have h1 := fun (x y : Int) => run_equalIn_int (P := Tryz.prog) w 9998 3 .i64 .i64 x y Tryz.underlying3
  simp [Op.eqFields, part, isAggI, sizeI, h1, go_sem]
  by_cases e1 : a = c <;> by_cases e2 : b = d <;> simp [e1, e2]
end Go.Proofs.YtnfaibenekninaaGreat.L

set_option linter.unusedVariables false
set_option linter.unusedSimpArgs false
namespace Go.Proofs.YtnfaibenekninaaGreat.L
open Go.RowKit
/-- What the walks ask of the table of ways to be. -/
structure DCtx (s : Sa) (N : Nat) (D : List Df) (rank : Nat → Nat) : Prop where
  rk : Ranked N D rank
  ln : D.length = N
  n2 : N ≤ 250
  hl : s.parts.length ≤ 11 ∧ ∀ p ∈ s.parts, p.next.length ≤ 6
  ed : ∀ v, v < N → 0 ≤ (D.getD v df0).part → 0 ≤ (D.getD v df0).at_ ∧ ∀ p ∈ s.parts, ∀ m, m < p.next.length → m < p.args.length ∧ (p.next.getD m 0 = (D.getD v df0).part → (D.getD v df0).at_.toNat < (p.args.getD m []).length)
  pin : ∀ v, v < N → ∀ m ∈ partsD s D v, 0 ≤ m ∧ m < (N : Int)
  sl : ∀ v w, v < N → w < N → sortD D v = sortD D w → (partsD s D v).length = (partsD s D w).length
  pl : ∀ v, v < N → (partsD s D v).length ≤ 66
theorem GoodP.hlen {s : Sa} (h : GoodP s) : s.parts.length ≤ 11 ∧ ∀ p ∈ s.parts, p.next.length ≤ 6 := ⟨h.n2, fun p hp => h.next_len hp⟩
theorem GoodP.hed {s : Sa} (h : GoodP s) {q : Nat} {p : Pt} (hq : s.parts[q]? = some p) {i : Nat} (hi : i < p.params.length) : ∀ r ∈ s.parts, ∀ m, m < r.next.length → m < r.args.length ∧ (r.next.getD m 0 = (q : Int) → i < (r.args.getD m []).length) := fun r hr m hm => by
  obtain ⟨h1, t, ht, hl⟩ := h.edge hr hm
  refine ⟨h1, fun he => ?_⟩
  rw [he, show ((q : Int)).toNat = q by omega, hq] at ht
  cases ht
  omega
theorem dctx {s : Sa} (h : GoodP s) {N : Nat} (hN : (N : Int) = s.values) : ∃ rank, DCtx s N (dfAll s) rank := by
  have hNt : s.values.toNat = N := by omega
  obtain ⟨rank, hR⟩ := rank_ex h
  rw [hNt] at hR
  have hv2 := h.v2
  refine ⟨rank, hR, by have := (dfOk_to h s.parts.length (Nat.le_refl _)).1; unfold dfAll; omega, by omega, h.hlen, fun v hv h0 => ?_, fun v hv m hm => ?_, fun v w hv hw he => sort_len h (by omega) (by omega) he, fun v hv => ?_⟩
  · rcases df_cases h (v := v) (by omega) with hd | ⟨h12, q, p, i, hq, hi, hd⟩ | ⟨h12, x, q, p, hq, hx, ho, hd⟩
    · rw [hd] at h0; simp [df0] at h0
    · rw [hd]
      refine ⟨by dsimp only; omega, fun r hr m hm => ?_⟩
      obtain ⟨a, b⟩ := h.hed hq hi r hr m hm
      exact ⟨a, fun he => by simpa using b he⟩
    · rw [hd] at h0; simp at h0
  · have := parts_in h (v := v) (by omega) m hm
    omega
  · unfold partsD
    split
    · simp
    · split
      · simp
      · have h1 := handS_len (l := s.parts) (q := ((dfAll s).getD v df0).part) (i := ((dfAll s).getD v df0).at_) (B := 6) (fun p hp => h.next_len hp)
        have h2 := h.n2
        omega
def grR (D : List Df) (G : List Int) (u : Int) : Int := G.getD (rootD D u.toNat) 0
/-- Whether two values are of one sort, and use values of one group each. -/
def likeB (s : Sa) (D : List Df) (G : List Int) (a b : Nat) : Bool := decide (sortD D a = sortD D b ∧ (partsD s D a).map (grR D G) = (partsD s D b).map (grR D G))
theorem like_no {s : Sa} {D : List Df} {G : List Int} {a b i : Nat} {la lb : List Int} (ha : partsD s D a = la) (hb : partsD s D b = lb) (hi : i < la.length) (hl : la.length = lb.length) (h : grR D G la[i] ≠ grR D G (lb[i]'(by omega))) : likeB s D G a b = false := by
  unfold likeB
  rw [ha, hb]
  refine decide_eq_false fun hh => h ?_
  have := congrArg (fun l => l[i]?) hh.2
  simpa [hi, (by omega : i < lb.length)] using this
set_option maxRecDepth 100000 in
set_option maxHeartbeats 8000000 in
theorem l11Like_calls {F F1 F2 : Nat → Prop} (s : Sa) (N : Nat) (D : List Df) (rank : Nat → Nat) (X : DCtx s N D rank) (vparts vD vG : Value) (G : List Int) (a b : Nat) (w : World) (hs : Rp.Rd part w F vparts s.parts) (hD : Rp.Rd dfK w F1 vD D) (hG : Rp.Rd Rp.int w F2 vG G) (hGl : G.length = N) (ha : a < N) (hb : b < N) :
    Calls Tryz.prog 143 #[saV s vparts, vD, vG, .int .i64 a, .int .i64 b] w fun e w' => e = .returned (.bool (likeB s D G a b)) ∧ Below w.heap.size w w' := by
  obtain ⟨A0, c0, rfl, _, _, _⟩ := id hs
  obtain ⟨AD, cD, rfl, _, _, _⟩ := id hD
  obtain ⟨AG, cG, rfl, _, _, hrG⟩ := rd_int hG
  have hln := X.ln
  have hn2 := X.n2
  have HS := Lib.hid (fun v W (hv : v < D.length) (hW : Below w.heap.size w W) => l11Sort_calls D _ v W (hD.below hW) hv (by omega))
  have HPt := Lib.hid (fun v W (hv : v < D.length) (hW : Below w.heap.size w W) => l11Parts_calls s _ D _ v W (hs.below hW) (hD.below hW) hv (by omega) X.hl (X.ed v (by omega)))
  have HRt := Lib.hid (fun v W (hv : v < N) (hW : Below w.heap.size w W) => (l11Root_calls D N rank X.rk hln (by omega) _ v W (hD.below hW) hv).mono (fun _ _ h => (⟨h.1, h.2.symm⟩ : _ ∧ _ = W)))
  have HX := Lib.hid X
  have hDN1 : D.length ≤ N := by omega
  have hDN2 : N ≤ D.length := by omega
  have hGN1 : G.length ≤ N := by omega
  have hGN2 : N ≤ G.length := by omega
  replace hln := Lib.hid hln
  replace hGl := Lib.hid hGl
  have hB0 : Below w.heap.size w (w.alloc (.cells #[.slice A0 s.parts.length c0, .int .i64 s.values] 28)) := below_new _
  have b0 := heap_alloc_new w (.cells #[.slice A0 s.parts.length c0, .int .i64 s.values] 28)
  unfold saV at HPt ⊢
  by_cases hse : sortD D a = sortD D b
  · have hP := HX.out.sl a b ha hb hse
    have hpa := HX.out.pl a ha
    have ina := Lib.hid (HX.out.pin a ha)
    have inb := Lib.hid (HX.out.pin b hb)
    have hL : Hid (likeB s D G a b = decide ((partsD s D a).map (grR D G) = (partsD s D b).map (grR D G))) := Lib.hid (by unfold likeB; simp [hse])
    have HSa := Lib.hid (fun W (hW : Below w.heap.size w W) => HS.out a W (by omega) hW)
    have HSb := Lib.hid (fun W (hW : Below w.heap.size w W) => HS.out b W (by omega) hW)
    rw [hse] at HSa
    have HPa := Lib.hid (fun W (hW : Below w.heap.size w W) => HPt.out a W (by omega) hW)
    have HPb := Lib.hid (fun W (hW : Below w.heap.size w W) => HPt.out b W (by omega) hW)
    have hP1 : (partsD s D a).length ≤ (partsD s D b).length := by omega
    have hP2 : (partsD s D b).length ≤ (partsD s D a).length := by omega
    have hNo := Lib.hid (fun i (hi : i < (partsD s D a).length) h => like_no (s := s) (D := D) (G := G) (a := a) (b := b) rfl rfl hi hP h)
    replace hP := Lib.hid hP
    generalize sortD D b = p at *
    generalize partsD s D a = la at *
    generalize partsD s D b = lb at *
    generalize likeB s D G a b = R at *
    obtain ⟨p1, p2⟩ := p
    unfold pairV at HSa HSb
    clear hse HS HPt
    go_enter Tryz.func143, Tryz.ntmps143
    go_wp2_with fail
    refine (HSa.out _ hB0).mono ?_
    rintro e w1 ⟨rfl, hb1⟩
    have hB1 := below_then hB0 hb1
    have b1 := blk_below b0 hb1
    clear hb1 b0 hB0 HSa
    go_wp2_with fail
    refine (HSb.out _ hB1).mono ?_
    rintro e w2 ⟨rfl, hb2⟩
    have hB2 := below_then hB1 hb2
    have b2 := blk_below b1 hb2
    clear hb2 b1 hB1 HSb
    obtain ⟨x1, _⟩ := cell_of_block b2
    have x10 : w2.cell? ⟨w.heap.size, 0, none⟩ = some (.slice A0 s.parts.length c0) := (x1 0).trans rfl
    have x11 : w2.cell? ⟨w.heap.size, 1, none⟩ = some (.int .i64 s.values) := (x1 1).trans rfl
    have HEq := fun a b c d W => eq_pairA a b c d W
    go_wp2_with fail
    refine (HPa.out _ hB2).mono ?_
    rintro e w3 ⟨va, rfl, hva, hb3⟩
    have hB3 := below_then hB2 hb3
    have b3 := blk_below b2 hb3
    have hva := hva.mono (G := fun _ => True) (fun _ _ => trivial)
    clear hb3 b2 hB2 HPa x1 x10 x11 HEq
    obtain ⟨x1, _⟩ := cell_of_block b3
    have x10 : w3.cell? ⟨w.heap.size, 0, none⟩ = some (.slice A0 s.parts.length c0) := (x1 0).trans rfl
    have x11 : w3.cell? ⟨w.heap.size, 1, none⟩ = some (.int .i64 s.values) := (x1 1).trans rfl
    obtain ⟨Aa, ca, rfl, _, _, _⟩ := id hva
    go_wp2_with fail
    refine (HPb.out _ hB3).mono ?_
    rintro e w4 ⟨vb, rfl, hvb, hb4⟩
    have hB4 := below_then hB3 hb4
    have hvb := hvb.mono (G := fun _ => True) (fun _ _ => trivial)
    have hva := hva.below hb4
    clear hb4 b3 hB3 HPb x1 x10 x11
    obtain ⟨Ab, cb, rfl, _, _, hrb⟩ := rd_int hvb
    obtain ⟨Aa', ca', he, _, _, hra⟩ := rd_int hva
    injection he with he1 _ he3
    subst he1
    subst he3
    go_wp2_with fail
    go_loopw [31] (fun x wr => ∃ k : Nat, k ≤ la.length ∧ x = .int .i64 k ∧ Hid ((la.take k).map (grR D G) = (lb.take k).map (grR D G)) ∧ Below w4.heap.size w4 wr) (fun x _ => la.length - (intOf x).toNat)
    case atStart => exact ⟨0, Nat.zero_le _, rfl, Lib.hid rfl, Below.refl _ _⟩
    case round =>
      obtain ⟨k, hk, rfl, HT, HB⟩ := hrel
      by_cases hkt : k < la.length
      · have hkb : k < lb.length := by omega
        rcases hra with hn | ⟨ba, oa, rfl, hba, hca⟩
        · rw [hn] at hkt; simp at hkt
        rcases hrb with hn | ⟨bb, ob, rfl, hbb, hcb⟩
        · rw [hn] at hkb; simp at hkb
        rcases hrG with hn | ⟨bG, oG, rfl, hbG, hcG⟩
        · rw [hn] at hGN2; simp at hGN2; omega
        have hBw := below_then hB4 HB
        have c1 := cell_below HB (hca k hkt)
        have c2 := cell_below HB (hcb k hkb)
        have i1 := ina.out _ (List.getElem_mem hkt)
        have i2 := inb.out _ (List.getElem_mem hkb)
        have hno := Lib.hid (hNo.out k hkt)
        have hTk : Hid (grR D G la[k] = grR D G lb[k] → (la.take (k + 1)).map (grR D G) = (lb.take (k + 1)).map (grR D G)) := Lib.hid (fun h => by rw [List.take_succ_eq_append_getElem hkt, List.take_succ_eq_append_getElem hkb, List.map_append, List.map_append, HT.out]; simp [h])
        have hkeep1 := Lib.hid hca
        have hkeep2 := Lib.hid hcb
        clear hca hcb HT
        generalize la[k] = x at *
        generalize lb[k] = y at *
        obtain ⟨x, rfl⟩ := Int.eq_ofNat_of_zero_le i1.1
        obtain ⟨y, rfl⟩ := Int.eq_ofNat_of_zero_le i2.1
        have hxN : x < N := by omega
        have hyN : y < N := by omega
        have hrx := (rootD_lt HX.out.rk hxN).1
        have hry := (rootD_lt HX.out.rk hyN).1
        have gx := cell_below hBw (hcG (rootD D x) (by omega))
        have gy := cell_below hBw (hcG (rootD D y) (by omega))
        have ex : grR D G (x : Int) = G[rootD D x]'(by omega) := by unfold grR; rw [Int.toNat_natCast, List.getD_eq_getElem?_getD, List.getElem?_eq_getElem (by omega)]; rfl
        have ey : grR D G (y : Int) = G[rootD D y]'(by omega) := by unfold grR; rw [Int.toNat_natCast, List.getD_eq_getElem?_getD, List.getElem?_eq_getElem (by omega)]; rfl
        rw [← ex] at gx
        rw [← ey] at gy
        have HRx := Lib.hid (fun u n (hu : u < N) => HRt.out u (wr.drewN n) hu (below_drewN hBw n))
        clear ex ey
        generalize grR D G (x : Int) = gvx at *
        generalize grR D G (y : Int) = gvy at *
        have k0 : (0 : Int) ≤ (k : Int) := Int.natCast_nonneg _
        have k1 : (k : Int) < (la.length : Int) := by omega
        have k2 : (k : Int) < (lb.length : Int) := by omega
        have r0 : (0 : Int) ≤ (rootD D x : Int) := Int.natCast_nonneg _
        have r1 : (rootD D x : Int) < (G.length : Int) := by omega
        have r2 : (0 : Int) ≤ (rootD D y : Int) := Int.natCast_nonneg _
        have r3 : (rootD D y : Int) < (G.length : Int) := by omega
        clear hcG
        by_cases hg : gvx = gvy
        · have hT2 := Lib.hid (hTk.out hg)
          subst hg
          clear hTk hno
          go_wp2_with fail
          go_quiet (first | (go_at_call 104; exact Calls.quiet_of_same (HRx.out _ _ (by assumption))))
          go_wp2
          go_roundw
          case rel => exact ⟨k + 1, by omega, by go_num, hT2, by first | exact HB | exact below_drewN HB _ | exact below_drew HB⟩
          case measure => simp [intOf]; omega
        · have hR : R = false := hno.out hg
          have hgn : (gvx != gvy) = true := by simpa using hg
          replace hR := Lib.hid hR
          clear hTk hno hg
          go_wp2_with fail
          go_quiet (first | (go_at_call 104; exact Calls.quiet_of_same (HRx.out _ _ (by assumption))))
          go_wp2
          go_ret
          exact ⟨ret_bool hR.out.symm, by first | exact hBw | exact below_drewN hBw _ | exact below_drew hBw⟩
      · obtain rfl : k = la.length := by omega
        have hR : Hid (R = true) := Lib.hid (by rw [hL.out]; refine decide_eq_true ?_; have := HT.out; rw [List.take_length, List.take_of_length_le (by omega)] at this; exact this)
        have hBw := below_then hB4 HB
        go_wp2
        go_ret
        exact ⟨ret_bool hR.out.symm, hBw⟩
  · have hR : Hid (likeB s D G a b = false) := Lib.hid (by unfold likeB; exact decide_eq_false (fun h => hse h.1))
    have HSa := Lib.hid (fun W (hW : Below w.heap.size w W) => HS.out a W (by omega) hW)
    have HSb := Lib.hid (fun W (hW : Below w.heap.size w W) => HS.out b W (by omega) hW)
    generalize likeB s D G a b = R at *
    generalize sortD D a = p at *
    generalize sortD D b = q at *
    obtain ⟨p1, p2⟩ := p
    obtain ⟨q1, q2⟩ := q
    have hne : ((p1 == q1) && (p2 == q2)) = false := by
      cases h1 : (p1 == q1)
      · rfl
      · cases h2 : (p2 == q2)
        · rfl
        · exact absurd (Prod.ext (by simpa using h1) (by simpa using h2)) hse
    unfold pairV at HSa HSb
    clear hse HS HPt HRt
    go_enter Tryz.func143, Tryz.ntmps143
    go_wp2_with fail
    refine (HSa.out _ hB0).mono ?_
    rintro e w1 ⟨rfl, hb1⟩
    have hB1 := below_then hB0 hb1
    clear hb1 b0 hB0 HSa
    go_wp2_with fail
    refine (HSb.out _ hB1).mono ?_
    rintro e w2 ⟨rfl, hb2⟩
    have hB2 := below_then hB1 hb2
    have HEq := fun W => (eq_pairA p1 p2 q1 q2 W).trans (by rw [hne])
    go_wp2
    go_ret
    exact ⟨ret_bool hR.out.symm, hB2⟩
end Go.Proofs.YtnfaibenekninaaGreat.L

set_option linter.unusedVariables false
set_option linter.unusedSimpArgs false
namespace Go.Proofs.YtnfaibenekninaaGreat.L
open Go.RowKit
def zMkr : Mkr := ⟨0, 0, [], 0⟩
def mk0L (N k : Nat) : List Mkr := (List.range N).map (fun v => if v < k then mk0 v else zMkr)
theorem mk0L_len (N k : Nat) : (mk0L N k).length = N := by simp [mk0L]
theorem mk0L_zero (N : Nat) : mk0L N 0 = List.replicate N zMkr := by
  apply List.ext_getElem
  · simp [mk0L]
  · intro i h1 h2; simp [mk0L]
set_option maxRecDepth 100000 in
set_option maxHeartbeats 16000000 in
theorem makers_calls {F : Nat → Prop} (s : Sa) (N vb : Nat) (vparts vn vd vD vT : Value) (w : World) (hv : w.heap[vb]? = some (viewC vparts s.values vn vd vD vT)) (hs : Rp.Rd part w F vparts s.parts) (hg : GoodP s) (hx2 : ∀ p ∈ s.parts, PtLim p) (hNV : (N : Int) = s.values) :
    Calls Tryz.prog 115 #[.pointer (some ⟨vb, 0, none⟩)] w fun e w' => ∃ v', e = .returned v' ∧ Rp.Rd mkrK w' (fun q => w.heap.size ≤ q) v' (resL s (dfAll s) N) ∧ Below w.heap.size w w' := by
  obtain ⟨rank, X⟩ := dctx hg hNV
  have hNt : s.values.toNat = N := by omega
  have hR := X.rk
  rw [← hNt] at hR
  have HEnd := Lib.hid (fun k u (hu : u < N) hop hr => stM_end hg hR (k := k) (u := u) (by omega) hop hr)
  have HCp := Lib.hid (fun u (hu : u < N) => mk_copy hg (v := u) (by omega))
  have HMid := Lib.hid (mkTo_mid hg hNt)
  have HM0 : Hid (mkTo s 0 = mk0L N N) := Lib.hid (by
    unfold mkTo mk0L
    rw [hNt]
    refine List.map_congr_left fun v hv => ?_
    rw [if_pos (List.mem_range.1 hv)])
  have HHd := Lib.hid (fun (q : Nat) p (hq : s.parts[q]? = some p) i (hi : i < p.params.length) W G sb (hc : W.cell? ⟨sb, 0, none⟩ = some vparts) (h : Rp.Rd part W G vparts s.parts) => handed_calls s sb 0 q i vparts W hc h hg.hlen (hg.hed hq hi))
  have hv1 := hg.v1
  have hv2 := hg.v2
  have hn1 := hg.n1
  have hN0 : 0 < N := by omega
  have hN1 : N ≤ 250 := by omega
  have HX := Lib.hid X
  have HGP := Lib.hid hg
  have HPl := Lib.hid hx2
  obtain ⟨A, c, rfl, _, _, hrow⟩ := rd_part hs
  rcases hrow with hnil | ⟨b, o, rfl, hbl, hcell⟩
  · rw [hnil] at hn1; simp at hn1
  have HC := Lib.hid hcell
  have hvl := blk_lt hv
  obtain ⟨v0, v1, v2, v3, v4, v5⟩ := view_cells hv
  rw [← hNV] at v1
  have hmk := mk_all Tryz.underlying152 infoMkr N (by omega) (by omega)
  have hO1 := ow_alloc (e := 158) (r := mkrK) (n := N) (z := #[.int .i64 0, .int .i64 0, .slice none 0 0, .int .i64 0]) (x0 := zMkr) w (by omega) rfl (by decide) (fun _ => mkr_mk (m := zMkr) (Rp.Rd.nil _ _ _))
  have hb1 := below_new (w := w) (.cells (madeCells #[.int .i64 0, .int .i64 0, .slice none 0 0, .int .i64 0] (N * 4)) 158)
  have hz1 : (w.alloc (.cells (madeCells #[.int .i64 0, .int .i64 0, .slice none 0 0, .int .i64 0] (N * 4)) 158)).heap.size = w.heap.size + 1 := by simp
  obtain ⟨D, hD⟩ : ∃ D, D = dfAll s := ⟨_, rfl⟩
  rw [← hD] at HEnd HCp HMid HX ⊢
  clear hD X hR hg hx2 hcell hNt
  replace hNV := Lib.hid hNV
  replace hs := Lib.hid hs
  go_enter Tryz.func115, Tryz.ntmps115
  go_wp2_with fail
  obtain ⟨W1, hW1⟩ : ∃ W1, W1 = w.alloc (.cells (madeCells #[.int .i64 0, .int .i64 0, .slice none 0 0, .int .i64 0] (N * 4)) 158) := ⟨_, rfl⟩
  have hO2 : Ow true 158 mkrK W1 (fun k => k = w.heap.size) (.slice (some ⟨w.heap.size, 0, none⟩) N N) (List.replicate N zMkr) := by rw [hW1]; exact hO1
  rw [← hW1] at hb1 hz1 ⊢
  clear hW1 hO1 v0 v1 v2 v3 v4 v5
  obtain ⟨go, hgo⟩ : ∃ go, go = w.heap.size := ⟨_, rfl⟩
  rw [← hgo] at hO2 ⊢
  have hgB : go < W1.heap.size := by omega
  have hvb : vb < go := by omega
  have hbg : b < go := by omega
  have hRet : ∀ w' : World, Chg (fun q => q = go) W1 w' → Below w.heap.size w w' := fun w' h => h.to_below hb1 hb1.size (fun q hq => by have hq : q = go := hq; omega)
  replace hRet := Lib.hid hRet
  obtain ⟨B, hB⟩ : ∃ B, B = W1.heap.size := ⟨_, rfl⟩
  rw [← hB] at hgB
  have hBW : B ≤ W1.heap.size := by omega
  have hgw : w.heap.size ≤ go := by omega
  clear hgo hz1 hB
  have hS0 : MSt N go B (mk0L N 0) W1 W1 := ⟨mk0L_len _ _, hgB, by rw [mk0L_zero]; exact hO2.loose.mono (fun q hq => .inl hq), Chg.refl _ _⟩
  have hv1 := blk_below hv hb1
  clear hO2 hmk hb1 hv
  go_loopw [21] (fun i wr => ∃ k : Nat, k ≤ N ∧ i = .int .i64 k ∧ MSt N go B (mk0L N k) W1 wr) (fun i _ => N - (intOf i).toNat)
  case atStart => exact ⟨0, Nat.zero_le _, rfl, hS0⟩
  case round =>
    clear hS0
    obtain ⟨k, hk, rfl, HS⟩ := hrel
    rename World => wx
    by_cases hkt : k < N
    · have k0 : (0 : Int) ≤ (k : Int) := Int.natCast_nonneg _
      have k1 : (k : Int) < (N : Int) := by omega
      obtain ⟨mq, u, ⟨z0, z1, z2, z3⟩, hfr⟩ := HS.cells hkt
      have hP := HS.put hkt (m := ⟨0, k, [], -1⟩) (u := .slice none 0 0) (Rp.Rd.nil _ _ _)
      have hset : ∀ m, m = mk0 k → (mk0L N k).set k m = mk0L N (k + 1) := fun m hm => mk0s_set hkt hm
      by_cases h8 : 8 ≤ k ∧ k < 12
      · have e : mk0 k = ⟨1, 0, [], -1⟩ := by unfold mk0; rw [if_pos h8]
        have hQ := hP.sort hkt (m := ⟨0, k, [], -1⟩) (by rw [List.getElem_set_self]) 1 0
        rw [List.set_set, hset _ e.symm] at hQ
        have t8 : (8 : Int) ≤ (k : Int) := by omega
        have t12 : (k : Int) < 12 := by omega
        clear hset hP HS e
        go_wp2
        go_roundw
        case rel => exact ⟨k + 1, by omega, by go_num, hQ⟩
        case measure => simp [intOf]; omega
      · have e : mk0 k = ⟨0, k, [], -1⟩ := by unfold mk0; rw [if_neg h8]
        rw [hset _ e.symm] at hP
        clear hset HS e
        by_cases h9 : 8 ≤ k
        · have t8 : (8 : Int) ≤ (k : Int) := by omega
          have t12 : ¬ (k : Int) < 12 := by omega
          go_wp2
          go_roundw
          case rel => exact ⟨k + 1, by omega, by go_num, hP⟩
          case measure => simp [intOf]; omega
        · have t8 : ¬ (8 : Int) ≤ (k : Int) := by omega
          go_wp2
          go_roundw
          case rel => exact ⟨k + 1, by omega, by go_num, hP⟩
          case measure => simp [intOf]; omega
    · obtain rfl : N = k := by omega
      rw [← HM0.out] at HS
      have hvx := HS.ch.blk hv1 (by show ¬ vb = go; omega)
      obtain ⟨v0, v1, v2, v3, v4, v5⟩ := view_cells hvx
      clear HM0
      go_wp2_with fail
      clear v0 v1 v2 v3 v4 v5 hvx
      go_loopw [48] (fun i wr => ∃ q : Nat, q ≤ s.parts.length ∧ i = .int .i64 q ∧ MSt N go B (mkTo s q) W1 wr) (fun i _ => s.parts.length - (intOf i).toNat)
      case atStart => exact ⟨0, Nat.zero_le _, rfl, HS⟩
      case round =>
        clear HS
        obtain ⟨q, hq, rfl, HS⟩ := hrel
        rename World => wo
        by_cases hqt : q < s.parts.length
        · obtain ⟨_, _, _, _, hp, h1, h2, ⟨A3, c3, rfl, _⟩, ⟨A4, c4, rfl, _⟩⟩ := HC.out q hqt
          obtain ⟨A1, c1, rfl, _, _, hr1⟩ := rd_int h1
          obtain ⟨A2, c2, rfl, _, _, hr2⟩ := rd_flat h2
          have hsp : s.parts[q]? = some s.parts[q] := List.getElem?_eq_getElem hqt
          have hlp := HPl.out _ (List.getElem_mem hqt)
          have hl1 := hlp.1
          have hl2 := hlp.2.1
          have HOw : Hid (∀ v ∈ ownS s.parts[q], 0 ≤ v ∧ v < (N : Int)) := Lib.hid (fun v hv => by have := HGP.out.own_def hsp hv; have := hNV.out; omega)
          have HSucc := Lib.hid (mkTo_succ hsp)
          have HHq := Lib.hid (HHd.out q _ hsp)
          have HBw := hRet.out _ HS.ch
          have HPa := Lib.hid hp
          obtain ⟨q0, q1, q2, q3, q4, q5⟩ := partAt_below hp HBw
          have hvx := HS.ch.blk hv1 (by show ¬ vb = go; omega)
          obtain ⟨v0, v1, v2, v3, v4, v5⟩ := view_cells hvx
          clear hsp hlp hp h1 h2
          generalize s.parts[q] = p at *
          have m0 : (0 : Int) ≤ (q : Int) := Int.natCast_nonneg _
          have m1 : (q : Int) < (s.parts.length : Int) := by omega
          obtain ⟨M0, hM0⟩ : ∃ M0, M0 = mkTo s q := ⟨_, rfl⟩
          rw [← hM0] at HS HSucc
          clear hM0
          have hS3 : MSt N go B (mkParam s q M0 p.params 0) W1 wo := HS
          clear HS
          go_wp2_with fail
          clear q0 q1 q2 q3 q4 q5 v0 v1 v2 v3 v4 v5 hvx
          go_loopw [63] (fun i wr => ∃ j : Nat, j ≤ p.params.length ∧ i = .int .i64 j ∧ MSt N go B (mkParam s q M0 p.params j) W1 wr) (fun i _ => p.params.length - (intOf i).toNat)
          case atStart => exact ⟨0, Nat.zero_le _, rfl, hS3⟩
          case round =>
            clear hS3
            obtain ⟨j, hj, rfl, HS⟩ := hrel
            rename World => wy
            have HBy := hRet.out _ HS.ch
            by_cases hjt : j < p.params.length
            · rcases hr1 with hn0 | ⟨bp, op, rfl, hbp, hcp⟩
              · rw [hn0] at hjt; simp at hjt
              have cv := cell_below HBy (hcp j hjt)
              have hvr := HOw.out _ (List.mem_append.2 (.inl (List.getElem_mem hjt)))
              have e : p.params.getD j 0 = p.params[j] := by rw [List.getD_eq_getElem?_getD, List.getElem?_eq_getElem hjt]; rfl
              have HSu : Hid (mkParam s q M0 p.params (j + 1) = (mkParam s q M0 p.params j).set (p.params[j]).toNat ⟨3, q, handS s.parts q j, -1⟩) := Lib.hid (by rw [mkParam_succ, e])
              clear hcp e
              obtain ⟨v, hv⟩ : ∃ v, v = p.params[j] := ⟨_, rfl⟩
              rw [← hv] at cv hvr HSu
              clear hv
              obtain ⟨a, rfl⟩ := Int.eq_ofNat_of_zero_le hvr.1
              have hak : a < N := by omega
              have a0 : (0 : Int) ≤ (a : Int) := Int.natCast_nonneg _
              have a1 : (a : Int) < (N : Int) := by omega
              have j0 : (0 : Int) ≤ (j : Int) := Int.natCast_nonneg _
              have j1 : (j : Int) < (p.params.length : Int) := by omega
              rw [show (Int.toNat (a : Int)) = a from Int.toNat_natCast a] at HSu
              have hvy := HS.ch.blk hv1 (by show ¬ vb = go; omega)
              obtain ⟨v0, v1, v2, v3, v4, v5⟩ := view_cells hvy
              have hH := Lib.hid (HHq.out j hjt wy _ vb v0 (hs.out.below HBy))
              go_wp2_with fail
              refine hH.out.mono ?_
              rintro e w4 ⟨v4', rfl, hO4, hb4⟩
              have HS4 := HS.below hb4
              have hsy : B ≤ wy.heap.size := by have := HS.ch.size; omega
              have hR4 : Rp.Rd Rp.int w4 (fun q => B ≤ q) v4' (handS s.parts q j) := (hO4.mono (G := fun q => B ≤ q) (fun q hq => Nat.le_trans hsy hq)).rd
              obtain ⟨mq, u, ⟨z0, z1, z2, z3⟩, hfr⟩ := HS4.cells hak
              have hP := HS4.put hak (m := ⟨3, q, handS s.parts q j, -1⟩) hR4
              rw [← HSu.out] at hP
              obtain ⟨A5, c5, rfl, _⟩ := id hR4
              clear HS HSu hH v0 v1 v2 v3 v4 v5 hvy HS4 hO4 hb4
              go_wp2
              go_roundw
              case rel => exact ⟨j + 1, by omega, by go_num, hP⟩
              case measure => simp [intOf]; omega
            · obtain rfl : j = p.params.length := by omega
              obtain ⟨M1, hM1⟩ : ∃ M1, M1 = mkParam s q M0 p.params p.params.length := ⟨_, rfl⟩
              have HSucc2 : Hid (mkTo s (q + 1) = mkCode M1 p.code) := Lib.hid (by rw [HSucc.out, hM1]; rfl)
              rw [← hM1] at HS
              clear hM1 HSucc
              obtain ⟨q0, q1, q2, q3, q4, q5⟩ := partAt_below HPa.out HBy
              have hS4 : MSt N go B (mkCode M1 (p.code.take 0)) W1 wy := HS
              clear HS
              go_wp2_with fail
              clear q0 q1 q2 q3 q4 q5
              go_loopw [86] (fun i wr => ∃ n : Nat, n ≤ p.code.length ∧ i = .int .i64 n ∧ MSt N go B (mkCode M1 (p.code.take n)) W1 wr) (fun i _ => p.code.length - (intOf i).toNat)
              case atStart => exact ⟨0, Nat.zero_le _, rfl, hS4⟩
              case round =>
                clear hS4
                obtain ⟨n, hn, rfl, HS⟩ := hrel
                rename World => wz
                by_cases hnt : n < p.code.length
                · rcases hr2 with hn0 | ⟨bc, oc, rfl, hbc, hcc⟩
                  · rw [hn0] at hnt; simp at hnt
                  have HBz := hRet.out _ HS.ch
                  obtain ⟨r0, r1, r2, r3, r4, r5⟩ := (hcc n hnt).below HBz
                  have HTk := Lib.hid (mkCode_take (M := M1) hnt)
                  have HDs : Hid (setsS p.code[n] = true → 0 ≤ p.code[n].dst ∧ p.code[n].dst < (N : Int)) := Lib.hid (fun h => HOw.out _ (List.mem_append.2 (.inr (List.mem_map.2 ⟨_, List.mem_filter.2 ⟨List.getElem_mem hnt, h⟩, rfl⟩))))
                  clear hcc
                  generalize p.code[n] = x at *
                  have n0 : (0 : Int) ≤ (n : Int) := Int.natCast_nonneg _
                  have n1 : (n : Int) < (p.code.length : Int) := by omega
                  have hb3 := below_new (w := wz) (.cells #[.int .i64 x.op, .int .i64 x.dO, .int .i64 x.dst, .int .i64 x.a, .int .i64 x.b, .int .i64 x.n] 71)
                  have x3 := heap_alloc_new wz (.cells #[.int .i64 x.op, .int .i64 x.dO, .int .i64 x.dst, .int .i64 x.a, .int .i64 x.b, .int .i64 x.n] 71)
                  have hz3 : (wz.alloc (.cells #[.int .i64 x.op, .int .i64 x.dO, .int .i64 x.dst, .int .i64 x.a, .int .i64 x.b, .int .i64 x.n] 71)).heap.size = wz.heap.size + 1 := by simp
                  have HS3 := HS.below hb3
                  obtain ⟨y1, _⟩ := cell_of_block x3
                  have y10 : (wz.alloc (.cells #[.int .i64 x.op, .int .i64 x.dO, .int .i64 x.dst, .int .i64 x.a, .int .i64 x.b, .int .i64 x.n] 71)).cell? ⟨wz.heap.size, 0, none⟩ = some (.int .i64 x.op) := (y1 0).trans rfl
                  have y11 : (wz.alloc (.cells #[.int .i64 x.op, .int .i64 x.dO, .int .i64 x.dst, .int .i64 x.a, .int .i64 x.b, .int .i64 x.n] 71)).cell? ⟨wz.heap.size, 1, none⟩ = some (.int .i64 x.dO) := (y1 1).trans rfl
                  have y12 : (wz.alloc (.cells #[.int .i64 x.op, .int .i64 x.dO, .int .i64 x.dst, .int .i64 x.a, .int .i64 x.b, .int .i64 x.n] 71)).cell? ⟨wz.heap.size, 2, none⟩ = some (.int .i64 x.dst) := (y1 2).trans rfl
                  have y13 : (wz.alloc (.cells #[.int .i64 x.op, .int .i64 x.dO, .int .i64 x.dst, .int .i64 x.a, .int .i64 x.b, .int .i64 x.n] 71)).cell? ⟨wz.heap.size, 3, none⟩ = some (.int .i64 x.a) := (y1 3).trans rfl
                  have y14 : (wz.alloc (.cells #[.int .i64 x.op, .int .i64 x.dO, .int .i64 x.dst, .int .i64 x.a, .int .i64 x.b, .int .i64 x.n] 71)).cell? ⟨wz.heap.size, 4, none⟩ = some (.int .i64 x.b) := (y1 4).trans rfl
                  have y15 : (wz.alloc (.cells #[.int .i64 x.op, .int .i64 x.dO, .int .i64 x.dst, .int .i64 x.a, .int .i64 x.b, .int .i64 x.n] 71)).cell? ⟨wz.heap.size, 5, none⟩ = some (.int .i64 x.n) := (y1 5).trans rfl
                  clear HS y1
                  have hsz3 : B ≤ wz.heap.size + 1 := by have := HS3.ch.size; omega
                  obtain ⟨xo, xd, xdst, xa, xb, xn⟩ := x
                  dsimp only at *
                  by_cases hset : xo = 1 ∨ xo = 2 ∨ xo = 3
                  · have hss : setsS ⟨xo, xd, xdst, xa, xb, xn⟩ = true := by unfold setsS inB; rcases hset with h | h | h <;> subst h <;> rfl
                    have hdr := HDs.out hss
                    clear HDs hss
                    obtain ⟨a, rfl⟩ := Int.eq_ofNat_of_zero_le hdr.1
                    have hak : a < N := by omega
                    have a0 : (0 : Int) ≤ (a : Int) := Int.natCast_nonneg _
                    have a1 : (a : Int) < (N : Int) := by omega
                    have hat : Int.toNat (a : Int) = a := Int.toNat_natCast a
                    rcases hset with rfl | rfl | rfl
                    · have HT2 : Hid (mkCode M1 (p.code.take (n + 1)) = (mkCode M1 (p.code.take n)).set a ⟨1, xn, [], -1⟩) := Lib.hid (by rw [HTk.out]; unfold mkStep; rw [if_pos rfl]; dsimp only; rw [hat])
                      obtain ⟨mq, u, ⟨z0, z1, z2, z3⟩, hfr⟩ := HS3.cells hak
                      have hP := HS3.put hak (m := ⟨1, xn, [], -1⟩) (u := .slice none 0 0) (Rp.Rd.nil _ _ _)
                      rw [← HT2.out] at hP
                      clear HTk HS3 HT2 hat
                      go_wp2
                      go_roundw
                      case rel => exact ⟨n + 1, by omega, by go_num, hP⟩
                      case measure => simp [intOf]; omega
                    · have hga := HS3.ln
                      have hgd : (mkCode M1 (p.code.take n)).getD a (mk0 0) = (mkCode M1 (p.code.take n))[a]'(by omega) := by rw [List.getD_eq_getElem?_getD, List.getElem?_eq_getElem (by omega)]; rfl
                      have HT2 : Hid (mkCode M1 (p.code.take (n + 1)) = (mkCode M1 (p.code.take n)).set a { (mkCode M1 (p.code.take n))[a]'(by omega) with copy := xa }) := Lib.hid (by rw [HTk.out]; unfold mkStep; rw [if_neg (by show ¬ (2 : Int) = 1; decide), if_neg (by show ¬ (2 : Int) = 3; decide), if_pos rfl]; dsimp only; rw [hat, hgd])
                      obtain ⟨mq, u, ⟨z0, z1, z2, z3⟩, hfr⟩ := HS3.cells hak
                      have hP := HS3.copy hak rfl xa
                      rw [← HT2.out] at hP
                      clear HTk HS3 HT2 hat hgd hga
                      go_wp2
                      go_roundw
                      case rel => exact ⟨n + 1, by omega, by go_num, hP⟩
                      case measure => simp [intOf]; omega
                    · have HT2 : Hid (mkCode M1 (p.code.take (n + 1)) = (mkCode M1 (p.code.take n)).set a ⟨2, xd, [xa, xb], -1⟩) := Lib.hid (by rw [HTk.out]; unfold mkStep; rw [if_neg (by show ¬ (3 : Int) = 1; decide), if_pos rfl]; dsimp only; rw [hat])
                      have hb5 := below_new (w := wz.alloc (.cells #[.int .i64 3, .int .i64 xd, .int .i64 (a : Int), .int .i64 xa, .int .i64 xb, .int .i64 xn] 71)) (.cells #[.int .i64 xa, .int .i64 xb] 3)
                      have HS5 := HS3.below hb5
                      have hR5 := (ow_intsG (e := 3) (g := wz.heap.size + 1) (B := B) (W := wz.alloc (.cells #[.int .i64 3, .int .i64 xd, .int .i64 (a : Int), .int .i64 xa, .int .i64 xb, .int .i64 xn] 71)) hz3.symm hsz3 [xa, xb] #[.int .i64 xa, .int .i64 xb] rfl (by simp)).rd
                      obtain ⟨mq, u, ⟨z0, z1, z2, z3⟩, hfr⟩ := HS5.cells hak
                      have hP := HS5.put hak (m := ⟨2, xd, [xa, xb], -1⟩) hR5
                      rw [← HT2.out] at hP
                      clear HTk HS3 HS5 HT2 hat hR5
                      go_wp2
                      go_roundw
                      case rel => exact ⟨n + 1, by omega, by go_num, hP⟩
                      case measure => simp [intOf]; omega
                  · have hne : xo ≠ 1 ∧ xo ≠ 2 ∧ xo ≠ 3 := by omega
                    have t1 : (xo == 1) = false := by simpa using hne.1
                    have t2 : (xo == 2) = false := by simpa using hne.2.1
                    have t3 : (xo == 3) = false := by simpa using hne.2.2
                    have HT2 : Hid (mkCode M1 (p.code.take (n + 1)) = mkCode M1 (p.code.take n)) := Lib.hid (by rw [HTk.out]; unfold mkStep; rw [if_neg hne.1, if_neg hne.2.2, if_neg hne.2.1])
                    rw [← HT2.out] at HS3
                    clear HTk HT2 HDs hset hne
                    go_wp2
                    go_roundw
                    case rel => exact ⟨n + 1, by omega, by go_num, HS3⟩
                    case measure => simp [intOf]; omega
                · obtain rfl : n = p.code.length := by omega
                  rw [List.take_length] at HS
                  rw [← HSucc2.out] at HS
                  go_wp2
                  go_roundw
                  case rel => exact ⟨q + 1, by omega, by go_num, HS⟩
                  case measure => simp [intOf]; omega
        · obtain rfl : q = s.parts.length := by omega
          rw [HMid.out] at HS
          clear HMid
          go_wp2_with fail
          go_loopw [130] (fun i wr => ∃ k : Nat, k ≤ N ∧ i = .int .i64 k ∧ MSt N go B (midL s D N k) W1 wr) (fun i _ => N - (intOf i).toNat)
          case atStart => exact ⟨0, Nat.zero_le _, rfl, HS⟩
          case round =>
            clear HS
            obtain ⟨k, hk, rfl, HS⟩ := hrel
            rename World => wx
            by_cases hkt : k < N
            · have k0 : (0 : Int) ≤ (k : Int) := Int.natCast_nonneg _
              have k1 : (k : Int) < (N : Int) := by omega
              have hml := midL_len s D N k
              have hcm := Lib.hid (fun v (hv : v < N) h => midL_cM (s := s) (D := D) (k := k) hv h)
              have hst := Lib.hid (stM_start (s := s) (D := D) hkt)
              have hcp := Lib.hid (fun v => cM_copy s D k v)
              have hms := Lib.hid (fun m h => midL_set (s := s) (D := D) (N := N) hkt (m := m) h)
              obtain ⟨u, ⟨z0, z1, z2, z3⟩, hu, hfr⟩ := HS.at_ hkt (hcm.out k hkt (by omega))
              rw [hcp.out k] at z3
              rw [← hst.out] at HS
              clear hu hfr hst z0 z1 z2
              obtain ⟨L, hL⟩ : ∃ L, L = midL s D N k := ⟨_, rfl⟩
              rw [← hL] at HS hml hcm hms
              clear hL
              have hL1 : L.length ≤ N := by omega
              have hL2 : N ≤ L.length := by omega
              clear hml
              go_wp2_with fail
              go_loopw [12] (fun x wr => ∃ (u : Nat) (z : Int), x = .int .i64 z ∧ z = cpM s D u ∧ u < N ∧ Hid (rootD D u = rootD D k) ∧ rank u ≤ rank k ∧ MSt N go B (L.set k (stM s D k u)) W1 wr) (fun x _ => if intOf x < 0 then 0 else rank (intOf x).toNat + 1)
              case atStart => exact ⟨k, _, rfl, rfl, hkt, Lib.hid rfl, Nat.le_refl _, HS⟩
              case round =>
                clear HS z3
                obtain ⟨u, z, rfl, hz, hu, hr, hrk, HS⟩ := hrel
                rename World => wy
                have hcu := HCp.out u hu
                have hcu2 : cpM s D u = if (D.getD u df0).step.op = 2 then (D.getD u df0).step.a else -1 := hcu
                by_cases hop : (D.getD u df0).step.op = 2
                · obtain ⟨ha0, ha1, ha2⟩ := HX.out.rk.cp u hu hop
                  rw [if_pos hop] at hcu2
                  rw [hcu2] at hz
                  have hr2 := rootD_step HX.out.rk hu
                  rw [if_pos hop] at hr2
                  rw [← hz] at ha0 ha1 ha2 hr2
                  obtain ⟨v, rfl⟩ := Int.eq_ofNat_of_zero_le ha0
                  rw [Int.toNat_natCast] at ha1 ha2 hr2
                  have hr3 : Hid (rootD D v = rootD D k) := Lib.hid (hr2.symm.trans hr.out)
                  have hvk : v ≠ k := fun h => by subst h; omega
                  have hlv : v < (L.set k (stM s D k u)).length := by rw [List.length_set]; omega
                  have hev : (L.set k (stM s D k u))[v] = cM s D k v := by rw [List.getElem_set_ne (fun h => hvk h.symm)]; exact hcm.out v ha1 (by omega)
                  obtain ⟨uv, ⟨z0, z1, z2, z3⟩, huv, hfr⟩ := HS.at_ ha1 hev
                  rw [hcp.out v] at z3
                  obtain ⟨Auv, cuv, rfl, _⟩ := id huv
                  have hS1 := HS.sort hkt (m := stM s D k u) (by rw [List.getElem_set_self]) (cM s D k v).kind (cM s D k v).n
                  rw [List.set_set] at hS1
                  have hC1 : Chg (fun q => q = go) wy ((wy.setCell ⟨go, k * 4, none⟩ (.int .i64 (cM s D k v).kind)).setCell ⟨go, k * 4 + 1, none⟩ (.int .i64 (cM s D k v).n)) := (Chg.set (A := fun q => q = go) rfl).trans (Chg.set rfl)
                  have huv1 := huv.move (hC1.same (fun q hq h => by have hq : B ≤ q := hq; have h : q = go := h; omega))
                  have hSd := hS1.below (below_drew (Below.refl _ _))
                  have huv2 := huv1.below (below_drew (Below.refl _ _))
                  have hS2 := hSd.uses hkt (m := { stM s D k u with kind := (cM s D k v).kind, n := (cM s D k v).n }) (by rw [List.getElem_set_self]) huv2
                  rw [List.set_set] at hS2
                  have hS3 : MSt N go B (L.set k (stM s D k v)) W1 (((wy.setCell ⟨go, k * 4, none⟩ (.int .i64 (cM s D k v).kind)).setCell ⟨go, k * 4 + 1, none⟩ (.int .i64 (cM s D k v).n)).drew.setCell ⟨go, k * 4 + 2, none⟩ (.slice Auv (cM s D k v).uses.length cuv)) := hS2
                  obtain ⟨mk, uk, ⟨y0, y1, y2, y3⟩, _⟩ := HS.cells hkt
                  have a0 : (0 : Int) ≤ (v : Int) := Int.natCast_nonneg _
                  have a1 : (v : Int) < (N : Int) := by omega
                  have hml2 : Hid (cpM s D v < 0 ∨ rank (cpM s D v).toNat < rank v) := Lib.hid (by
                    have h5 : cpM s D v = if (D.getD v df0).step.op = 2 then (D.getD v df0).step.a else -1 := HCp.out v ha1
                    by_cases hop2 : (D.getD v df0).step.op = 2
                    · rw [if_pos hop2] at h5
                      rw [h5]
                      exact .inr (HX.out.rk.cp v ha1 hop2).2.2
                    · rw [if_neg hop2] at h5
                      rw [h5]
                      exact .inl (by omega))
                  have hrv : rank v ≤ rank k := by omega
                  have hvk1 : ¬ go = vb := by omega
                  clear hS1 hS2 hC1 huv1 huv2 hSd hev hr2 hcu hcu2 hop hz ha0
                  generalize (cM s D k v).kind = ck at *
                  generalize (cM s D k v).n = cn at *
                  obtain ⟨cp, hcpv⟩ : ∃ cp, cp = cpM s D v := ⟨_, rfl⟩
                  rw [← hcpv] at z3 hml2
                  replace hcpv := Lib.hid hcpv
                  go_wp2_with fail
                  go_region
                  go_wp2
                  go_roundw
                  case rel => exact ⟨v, cp, rfl, hcpv.out, ha1, hr3, hrv, hS3⟩
                  case measure =>
                    have h1 : ¬ ((v : Int) < 0) := by omega
                    show (if cp < 0 then 0 else rank cp.toNat + 1) < (if (v : Int) < 0 then 0 else rank ((v : Int)).toNat + 1)
                    rw [if_neg h1, Int.toNat_natCast]
                    split
                    · omega
                    · rename_i h2
                      have := hml2.out.resolve_left h2
                      omega
                · rw [if_neg hop] at hcu2
                  rw [hcu2] at hz
                  subst hz
                  have hE := HEnd.out k u hu hop hr.out
                  rw [hE, hms.out _ rfl] at HS
                  clear hcu hcu2 hop hE
                  go_wp2
                  go_roundw
                  case rel => exact ⟨k + 1, by omega, by go_num, HS⟩
                  case measure => simp [intOf]; omega
            · obtain rfl : N = k := by omega
              have hO := (HS.ow.mono (G := fun q => w.heap.size ≤ q) (fun q hq => by have hW := (hRet.out _ (Chg.refl _ _)).size; rcases hq with hq | hq <;> omega)).rd
              have hBf := hRet.out _ HS.ch
              rw [midL_all] at hO
              clear HS
              go_wp2
              go_ret
              exact ⟨_, rfl, hO, hBf⟩
end Go.Proofs.YtnfaibenekninaaGreat.L
