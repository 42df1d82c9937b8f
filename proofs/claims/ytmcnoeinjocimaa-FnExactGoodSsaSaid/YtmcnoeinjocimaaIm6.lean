/- The program's usesOK. -/
import Derived.Test.YtmcnoeinjocimaaDf1
import Derived.Test.YtmcnoeinjocimaaCc1
import Derived.Deep.QuietTactic
import Derived.BigQuiet
set_option linter.unusedVariables false
set_option linter.unusedSimpArgs false
namespace Go.Proofs.Ytmcnoeinjocimaa.L
open Go.RowKit
def codeU (f : Int → Int → Bool) : Int → List Fl → Bool
  | _, [] => true
  | i, x :: t => (usesI x).all (f i) && codeU f (i + 1) t
def useB (f : Int → Int → Bool) (p : Pt) : Bool := codeU f 0 p.code && (!testB p.go || f p.code.length p.test) && p.args.flatten.all (f p.code.length)
theorem usesI_len (x : Fl) : (usesI x).length ≤ 2 := by unfold usesI; split <;> split <;> simp
set_option maxRecDepth 100000 in
set_option maxHeartbeats 4000000 in
theorem usesOK_calls {F FD FT FM : Nat → Prop} (s : Sa) (k vb : Nat) (vparts vn vd vD vT : Value) (D T : List Int) (M : List (List Bool)) (w : World)
    (hv : w.heap[vb]? = some (viewC vparts s.values vn vd vD vT)) (hs : Rp.Rd part w F vparts s.parts) (hD : Rp.Rd Rp.int w FD vD D) (hT : Rp.Rd Rp.int w FT vT T) (hM : Rp.Rd (Rp.sl Rp.bool) w FM vd M)
    (hl : (D.length : Int) = s.values) (hl2 : (T.length : Int) = s.values) (hV : s.values ≤ 250) (hpt : k < M.length) (hrow : ∀ (q : Nat) (hq : q < D.length), 0 ≤ D[q] → D[q].toNat < M[k].length)
    (hk : k < s.parts.length) (hlim : PtLim s.parts[k]) (hal : s.parts[k].args.length ≤ 1048576) (hfl : s.parts[k].args.flatten.length ≤ 500000000) :
    Calls Try.prog 84 #[.pointer (some ⟨vb, 0, none⟩), .int .i64 k] w fun e w' => e = .returned (.bool (useB (fun i v => thereI s.values D T M k i v) s.parts[k])) ∧ Below w.heap.size w w' := by
  have HCT := fun i v W (hW : Below w.heap.size w W) => there_calls vb vparts vn vd vD vT s.values D T M v i k W (blk_below hv hW) (hD.below hW) (hT.below hW) (hM.below hW) hl hl2 hV hpt hrow
  have hCc := fun W (va : Value) (G : Nat → Prop) (h : Rp.Rd (Rp.sl Rp.int) W G va s.parts[k].args) => concat_calls va _ W h hal hfl
  replace HCT := Lib.hid HCT
  obtain ⟨A, c, rfl, _, _, hr⟩ := rd_part hs
  rcases hr with hnil | ⟨b, o, rfl, hb, hcell⟩
  · rw [hnil] at hk; simp at hk
  obtain ⟨_, _, _, _, hp, ⟨A1, c1, rfl, _⟩, ⟨A2, c2, rfl, h2⟩, ⟨A3, c3, rfl, _⟩, ⟨A4, c4, rfl, h4⟩⟩ := hcell k hk
  have hk2 : Rp.Rd flat w F (.slice A2 s.parts[k].code.length c2) s.parts[k].code := ⟨A2, c2, rfl, h2⟩
  have hk4 : Rp.Rd (Rp.sl Rp.int) w F (.slice A4 s.parts[k].args.length c4) s.parts[k].args := ⟨A4, c4, rfl, h4⟩
  clear hcell h2 h4 hD hT hM hrow hpt hl hl2
  have HV := Lib.hid hv
  obtain ⟨v0, v1, v2, v3, v4, v5⟩ := view_cells hv
  clear hv
  have i0 : (0 : Int) ≤ (k : Int) := Int.natCast_nonneg _
  have i1 : (k : Int) < (s.parts.length : Int) := by omega
  have hcl := hlim.2.1
  generalize s.parts[k] = p at *
  have HP := Lib.hid hp
  obtain ⟨q0, q1, q2, q3, q4, q5⟩ := hp
  generalize hfe : (fun i v => thereI s.values D T M k i v) = f
  have HCT2 : ∀ (i v : Int) W (hW : Below w.heap.size w W), Calls Try.prog 122 #[.pointer (some ⟨vb, 0, none⟩), .int .i64 v, .int .i64 k, .int .i64 i] W fun e w' => e = .returned (.bool (f i v)) ∧ ∃ n, w' = W.drewN n := fun i v W hW => by
    rw [← hfe]; exact HCT.out i v W hW
  clear HCT hfe
  have HCT := Lib.hid HCT2
  have HF0 : Hid (useB f p = (codeU f (0 : Nat) (p.code.drop 0) && ((!testB p.go || f p.code.length p.test) && p.args.flatten.all (f p.code.length)))) := Lib.hid (by unfold useB; rw [Bool.and_assoc]; rfl)
  generalize useB f p = R at *
  replace hCc := Lib.hid hCc
  clear HCT2
  go_enter Try.func84, Try.ntmps84
  go_wp2
  go_loopw [24] (fun i wr => ∃ j : Nat, j ≤ p.code.length ∧ i = .int .i64 j ∧ Below w.heap.size w wr ∧ Hid (R = (codeU f j (p.code.drop j) && ((!testB p.go || f p.code.length p.test) && p.args.flatten.all (f p.code.length))))) (fun i _ => p.code.length - (intOf i).toNat)
  case atStart => exact ⟨0, Nat.zero_le _, rfl, Below.refl _ _, HF0⟩
  case round =>
    clear HF0
    obtain ⟨j, hj, rfl, HB, HJ⟩ := hrel
    rename World => wr
    by_cases hlt : j < p.code.length
    · obtain ⟨_, _, hAe, _, _, hr⟩ := rd_flat (hk2.below HB)
      cases hAe
      rcases hr with hnil | ⟨b1, o1, rfl, _, hc1⟩
      · rw [hnil] at hlt; simp at hlt
      obtain ⟨r0, r1, r2, r3, r4, r5⟩ := hc1 j hlt
      have HX : Hid (codeU f j (p.code.drop j) = ((usesI p.code[j]).all (f j) && codeU f (j + 1 : Nat) (p.code.drop (j + 1)))) := Lib.hid (by rw [List.drop_eq_getElem_cons hlt]; rfl)
      clear hc1
      generalize p.code[j] = x at *
      have HC1 := fun W => usesI_calls x W
      unfold flV at HC1
      obtain ⟨W1, hW1⟩ : ∃ W1, W1 = wr.alloc (Obj.cells #[.int .i64 x.op, .int .i64 x.dO, .int .i64 x.dst, .int .i64 x.a, .int .i64 x.b, .int .i64 x.n] 61) := ⟨_, rfl⟩
      have hB1 : Below wr.heap.size wr W1 := by rw [hW1]; exact below_new _
      replace hW1 := Lib.hid hW1
      have i2 : (0 : Int) ≤ (j : Int) := Int.natCast_nonneg _
      have i3 : (j : Int) < (p.code.length : Int) := by omega
      replace HC1 := Lib.hid HC1
      have hul := usesI_len x
      generalize usesI x = us at *
      go_wp2_with fail
      rw [← hW1.out]
      refine (HC1.out _).mono ?_
      rintro e w1 ⟨vu, rfl, HU, hb1⟩
      obtain ⟨Au, ku, rfl, _, _⟩ := HU.form
      have hB2 : Below w.heap.size w w1 := HB.trans ((below_then hB1 hb1).mono HB.size)
      have HUr := Lib.hid HU.rd
      have HI0 : Hid (R = ((us.drop 0).all (f j) && (codeU f (j + 1 : Nat) (p.code.drop (j + 1)) && ((!testB p.go || f p.code.length p.test) && p.args.flatten.all (f p.code.length))))) := Lib.hid (by rw [HJ.out, HX.out, Bool.and_assoc]; rfl)
      clear HC1 hW1 hB1 hb1 HB r0 r1 r2 r3 r4 r5 HU HJ HX
      go_wp2
      go_loopw [32] (fun i wr => ∃ m : Nat, m ≤ us.length ∧ i = .int .i64 m ∧ Hid (∃ n, wr = w1.drewN n) ∧ Hid (R = ((us.drop m).all (f j) && (codeU f (j + 1 : Nat) (p.code.drop (j + 1)) && ((!testB p.go || f p.code.length p.test) && p.args.flatten.all (f p.code.length)))))) (fun i _ => us.length - (intOf i).toNat)
      case atStart => exact ⟨0, Nat.zero_le _, rfl, Lib.hid ⟨0, rfl⟩, HI0⟩
      case round =>
        clear HI0
        obtain ⟨m, hm, rfl, HW, HI⟩ := hrel
        rename World => ws
        have hBs : Below w.heap.size w ws := by obtain ⟨n, hn⟩ := HW.out; rw [hn]; exact below_drewN hB2 n
        by_cases hmt : m < us.length
        · obtain ⟨_, _, hAe, _, _, hr⟩ := rd_int (w := ws) (by obtain ⟨n, hn⟩ := HW.out; rw [hn]; exact HUr.out.below (below_drewN (Below.refl _ _) n))
          cases hAe
          rcases hr with hnil | ⟨b2, o2, rfl, _, hc2⟩
          · rw [hnil] at hmt; simp at hmt
          have z1 := hc2 m hmt
          have HX : Hid ((us.drop m).all (f j) = (f j us[m] && (us.drop (m + 1)).all (f j))) := Lib.hid (by rw [List.drop_eq_getElem_cons hmt]; rfl)
          clear hc2
          generalize us[m] = u at *
          have HC := HCT.out j u ws hBs
          have i4 : (0 : Int) ≤ (m : Int) := Int.natCast_nonneg _
          have i5 : (m : Int) < (us.length : Int) := by omega
          replace HC := Lib.hid HC
          generalize f j u = r at *
          go_wp2_with fail
          refine HC.out.mono ?_
          rintro e w2 ⟨rfl, n2, rfl⟩
          have HW2 : Hid (∃ n, ws.drewN n2 = w1.drewN n) := Lib.hid (by obtain ⟨n, hn⟩ := HW.out; exact ⟨n + n2, by rw [hn, World.drewN_drewN]⟩)
          cases r
          · have HN : Hid (R = false) := Lib.hid (by rw [HI.out, HX.out]; simp)
            clear HI HX HC
            go_wp2
            go_ret
            exact ⟨ret_bool HN.out.symm, below_drewN hBs n2⟩
          · have HI2 : Hid (R = ((us.drop (m + 1)).all (f j) && (codeU f (j + 1 : Nat) (p.code.drop (j + 1)) && ((!testB p.go || f p.code.length p.test) && p.args.flatten.all (f p.code.length))))) := Lib.hid (by rw [HI.out, HX.out]; simp)
            clear HI HX HC
            go_wp2
            go_roundw
            case rel => exact ⟨m + 1, by omega, by go_num, HW2, HI2⟩
            case measure => simp [intOf]; omega
        · obtain rfl : m = us.length := by omega
          have HI2 : Hid (R = (codeU f (j + 1 : Nat) (p.code.drop (j + 1)) && ((!testB p.go || f p.code.length p.test) && p.args.flatten.all (f p.code.length)))) := Lib.hid (by rw [HI.out, List.drop_length]; rfl)
          clear HI hmt hm
          go_wp2
          go_roundw
          case rel => exact ⟨j + 1, by omega, by go_num, hBs, HI2⟩
          case measure => simp [intOf]; omega
    · obtain rfl : j = p.code.length := by omega
      have HI2 : Hid (R = ((!testB p.go || f p.code.length p.test) && p.args.flatten.all (f p.code.length))) := Lib.hid (by rw [HJ.out, List.drop_length]; rfl)
      have hz : 0 ≤ (p.code.length : Int) := Int.natCast_nonneg _
      have HC2 := Lib.hid (fun W => (tests_calls p.go W).mono (fun _ _ h => (⟨h.1, h.2.symm⟩ : _ ∧ _ = W)))
      have HT := Lib.hid (fun n => HCT.out p.code.length p.test (wr.drewN n) (below_drewN HB n))
      have HTS : Hid (testB p.go = (p.go == 2 || p.go == 5)) := Lib.hid rfl
      obtain ⟨cu0, cu1, cu2, cu3, cu4, cu5⟩ := partAt_below HP.out HB
      have hk4w := hk4.below HB
      clear HJ hlt hj v0 v1 v2 v3 v4 v5 q0 q1 q2 q3 q4 q5
      replace HTS := Lib.hid HTS.out
      have HI3 : Hid (R = ((!(p.go == 2 || p.go == 5) || f p.code.length p.test) && p.args.flatten.all (f p.code.length))) := Lib.hid (by rw [HI2.out, HTS.out])
      clear HI2 HTS
      generalize (p.go == 2 || p.go == 5) = tb at *
      generalize f p.code.length p.test = r at *
      have HQ : ∀ fl : List Int, p.args.flatten = fl → Hid (p.args.flatten.all (f p.code.length) = fl.all (f p.code.length)) := fun fl h => Lib.hid (by rw [h])
      by_cases hbad : tb = true ∧ r = false
      · obtain ⟨rfl, rfl⟩ := hbad
        have HN : Hid (R = false) := Lib.hid (by rw [HI3.out]; rfl)
        clear HI3 HQ
        go_wp2_with fail
        go_quiet (first | (go_at_call 92; exact Calls.quiet_of_same (HC2.out _)) | (go_at_call 122; exact Calls.quiet_of (HT.out _)))
        go_wp2
        go_ret
        exact ⟨ret_bool HN.out.symm, below_drewN HB _⟩
      have HI4 : Hid (R = (p.args.flatten.drop 0).all (f p.code.length)) := Lib.hid (by
        rw [HI3.out]
        cases tb
        · rfl
        · cases r
          · exact absurd ⟨rfl, rfl⟩ hbad
          · rfl)
      have hpt : tb = false ∨ (tb = true ∧ r = true) := by
        cases tb
        · exact .inl rfl
        · cases r
          · exact absurd ⟨rfl, rfl⟩ hbad
          · exact .inr ⟨rfl, rfl⟩
      clear HI3 hbad HQ
      have hkA : ∀ n, Rp.Rd (Rp.sl Rp.int) (wr.drewN n) F (.slice A4 p.args.length c4) p.args := fun n => hk4w.below (below_drewN (Below.refl _ _) n)
      rcases hpt with rfl | ⟨rfl, rfl⟩
      all_goals
        go_wp2_with fail
        go_quiet (first | (go_at_call 92; exact Calls.quiet_of_same (HC2.out _)) | (go_at_call 122; exact Calls.quiet_of (HT.out _)))
        go_wp2_with fail
        refine (hCc.out _ _ F (hkA _)).mono ?_
        rintro e w1 ⟨vu, rfl, HU, hb1⟩
        have hB2 : Below w.heap.size w w1 := (below_drewN HB nq).trans (hb1.mono HB.size)
        obtain ⟨Au, ku, rfl, _, _⟩ := HU.form
        have HUr := Lib.hid HU.rd
        obtain ⟨cu0, cu1, cu2, cu3, cu4, cu5⟩ := partAt_below HP.out hB2
        have HPW := Lib.hid (partAt_below HP.out hB2)
        clear HU hb1 hCc hkA HC2 HT hk4w
        generalize p.args.flatten = fl at *
        go_wp2
        go_loopw [70] (fun i wr => ∃ m : Nat, m ≤ fl.length ∧ i = .int .i64 m ∧ Hid (∃ n, wr = w1.drewN n) ∧ Hid (R = (fl.drop m).all (f p.code.length))) (fun i _ => fl.length - (intOf i).toNat)
        case atStart => exact ⟨0, Nat.zero_le _, rfl, Lib.hid ⟨0, rfl⟩, HI4⟩
        case round =>
          clear HI4 cu0 cu1 cu2 cu3 cu4 cu5
          obtain ⟨m, hm, rfl, HW, HI⟩ := hrel
          rename World => ws
          have hBs : Below w.heap.size w ws := by obtain ⟨n, hn⟩ := HW.out; rw [hn]; exact below_drewN hB2 n
          obtain ⟨cu0, cu1, cu2, cu3, cu4, cu5⟩ := partAt_below HP.out hBs
          by_cases hmt : m < fl.length
          · obtain ⟨_, _, hAe, _, _, hr⟩ := rd_int (w := ws) (by obtain ⟨n, hn⟩ := HW.out; rw [hn]; exact HUr.out.below (below_drewN (Below.refl _ _) n))
            cases hAe
            rcases hr with hnil | ⟨b2, o2, rfl, _, hc2⟩
            · rw [hnil] at hmt; simp at hmt
            have z1 := hc2 m hmt
            have HX : Hid ((fl.drop m).all (f p.code.length) = (f p.code.length fl[m] && (fl.drop (m + 1)).all (f p.code.length))) := Lib.hid (by rw [List.drop_eq_getElem_cons hmt]; rfl)
            clear hc2
            generalize fl[m] = u at *
            have HC := HCT.out p.code.length u ws hBs
            have i4 : (0 : Int) ≤ (m : Int) := Int.natCast_nonneg _
            have i5 : (m : Int) < (fl.length : Int) := by omega
            replace HC := Lib.hid HC
            generalize f p.code.length u = r2 at *
            go_wp2_with fail
            refine HC.out.mono ?_
            rintro e w2 ⟨rfl, n2, rfl⟩
            have HW2 : Hid (∃ n, ws.drewN n2 = w1.drewN n) := Lib.hid (by obtain ⟨n, hn⟩ := HW.out; exact ⟨n + n2, by rw [hn, World.drewN_drewN]⟩)
            cases r2
            · have HN : Hid (R = false) := Lib.hid (by rw [HI.out, HX.out]; simp)
              clear HI HX HC
              go_wp2
              go_ret
              exact ⟨ret_bool HN.out.symm, below_drewN hBs n2⟩
            · have HI2 : Hid (R = (fl.drop (m + 1)).all (f p.code.length)) := Lib.hid (by rw [HI.out, HX.out]; simp)
              clear HI HX HC
              go_wp2
              go_roundw
              case rel => exact ⟨m + 1, by omega, by go_num, HW2, HI2⟩
              case measure => simp [intOf]; omega
          · obtain rfl : m = fl.length := by omega
            have HN : Hid (R = true) := Lib.hid (by rw [HI.out, List.drop_length]; rfl)
            clear HI hmt hm
            go_wp2
            go_ret
            exact ⟨ret_bool HN.out.symm, hBs⟩
end Go.Proofs.Ytmcnoeinjocimaa.L
