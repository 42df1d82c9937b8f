/- Joined texts, each of which was built by itself: Cc1 Im6 Rch2 Qu1 Im2 Lib9 Sp6. -/
import Derived.Test.YtnfaibenekninaaGreatB6
import Derived.Test.YtnfaibenekninaaGreatB3
import Derived.Test.YtnfaibenekninaaGreatB4
import Derived.Shelf.Spec.SlicesInsertGrow
import Derived.Test.YtnfaibenekninaaGreatB5
import Derived.Deep.QuietTactic
import Derived.BigQuiet
import Derived.ArgAppend
import Derived.Test.YtnfaibenekninaaGreatB1
import Derived.Deep.LoopGhost
set_option linter.unusedVariables false
set_option linter.unusedSimpArgs false
namespace Go.Proofs.YtnfaibenekninaaGreat.L
open Go.RowKit
theorem ow_empty_cap {α : Type} {ap : Bool} {e : Nat} {r : Rp α} {w : World} {b c : Nat} {cur : Array Value} (h : w.heap[b]? = some (.cells cur e (0, 0))) (hs : cur.size = c * r.sz) (hc : c ≤ maxLen) : Ow ap e r w (fun k => k = b) (.slice (some ⟨b, 0, none⟩) 0 c) [] :=
  ⟨fun _ _ => False, [], ⟨by simp, .inr ⟨b, c, cur, rfl, Nat.zero_le _, h, Nat.zero_le _, hc, hs, by simp⟩⟩, fun k hk => by simp [Value.ownBlock] at hk; omega, fun _ _ h => h.elim, fun _ _ _ _ h => h.elim, fun i x hx => by simp at hx⟩
set_option maxRecDepth 100000 in
set_option maxHeartbeats 1000000 in
theorem grow_calls (n : Nat) (w : World) (hn : n ≤ 1000000000) :
    Calls Tryz.prog 147 #[.slice none 0 0, .int .i64 n] w fun e w' => ∃ v', e = .returned v' ∧ Ow true 3 Rp.int w' (fun q => w.heap.size ≤ q) v' [] ∧ Below w.heap.size w w' := by
  have i0 : (0 : Int) ≤ (n : Int) := Int.natCast_nonneg _
  by_cases h0 : n = 0
  · subst h0
    go_enter Tryz.func147, Tryz.ntmps147
    go_wp2
    go_ret
    exact ⟨_, rfl, Ow.nil _ _ _ _ _, Below.refl _ _⟩
  · have i1 : (0 : Int) < (n : Int) := by omega
    obtain ⟨ti, hi0, hzz⟩ := Option.map_eq_some_iff.1 infoInt
    simp only [Prod.mk.injEq] at hzz
    obtain ⟨hz0, hz1, hz2⟩ := hzz
    obtain ⟨G, hG⟩ : ∃ G, G = grownCap w (0 + n) 0 3 := ⟨_, rfl⟩
    obtain ⟨ROW, hROW⟩ : ∃ ROW : Array Value, ROW = ([] : List Value).toArray ++ Builtin.zeroCells (Value.int .i64 0).cells n ++ Builtin.zeroCells (Value.int .i64 0).cells (G - (0 + n)) := ⟨_, rfl⟩
    have hrz : ∀ ty, (Builtin.append_ #[59, 3] ty #[.slice none 0 0, .int .i64 (n : Int)]).run Tryz.prog w = .ok (.slice (some ⟨w.heap.size, 0, none⟩) (0 + n) G) (w.drew.alloc (.cells ROW 3)) := fun ty => by
      have h := Lib.run_append_grow_zeros w 59 3 ty 3 ti _ .i64 .i64 Tryz.underlying59 Tryz.underlying3 hi0 hz0 none 0 0 [] (run_firstCells_none w.drew ti.size 0 0 0) n (by omega) (by omega) (by omega) (by omega) (by rw [hz2]; omega) (by rw [hz2]; exact growslice_fits (by omega) (by omega))
      rw [hROW, hG]
      exact h
    have hGn : n ≤ G := by rw [hG]; have := grownCap_ge w (0 + n) 0 3; omega
    have hGm : G ≤ maxLen := by rw [hG]; exact grownCap_le_maxLen w (0 + n) 0 3 (by unfold maxLen; omega)
    have hRs : ROW.size = G * 1 := by
      rw [hROW]; simp [Builtin.zeroCells, Value.cells]; omega
    have hO := ow_empty_cap (ap := true) (r := Rp.int) (heap_alloc_new w.drew (.cells ROW 3)) hRs hGm
    have hO : Ow true 3 Rp.int (w.drew.alloc (.cells ROW 3)) (fun q => w.heap.size ≤ q) (.slice (some ⟨w.heap.size, 0, none⟩) 0 G) [] := hO.mono (fun q hq => by have hq : q = w.heap.size := hq; omega)
    have hB : Below w.heap.size w (w.drew.alloc (.cells ROW 3)) := (below_drew (Below.refl _ _)).alloc (Nat.le_refl _) _
    rw [Nat.zero_add] at hrz
    clear h0 hROW hG hRs
    have hO := Lib.hid hO
    have j1 : n ≤ G := hGn
    have j2 : (0 : Int) ≤ (G : Int) := Int.natCast_nonneg _
    go_enter Tryz.func147, Tryz.ntmps147
    have mixed : Tryz.prog.follows Departure.mixedOrders = true := by kernel_rfl
    go_wp2_with (at_builtin; refine Lib.wpList_append_run _ rfl _ _ _ _ rfl _ _ rfl rfl _ _ (hrz _) ?_)
    go_ret
    exact ⟨_, rfl, hO.out, hB⟩
theorem flat_take_le (l : List (List Int)) (k : Nat) : (l.take k).flatten.length ≤ l.flatten.length := by
  have h : l.flatten = (l.take k).flatten ++ (l.drop k).flatten := by rw [← List.flatten_append, List.take_append_drop]
  rw [h, List.length_append]; omega
set_option maxHeartbeats 2000000 in
theorem concat_calls {F : Nat → Prop} (v : Value) (l : List (List Int)) (w : World) (h : Rp.Rd (Rp.sl Rp.int) w F v l) (hl : l.length ≤ 1048576) (ht : l.flatten.length ≤ 500000000) :
    Calls Tryz.prog 114 #[v] w fun e w' => ∃ v', e = .returned v' ∧ Ow true 3 Rp.int w' (fun q => w.heap.size ≤ q) v' l.flatten ∧ Below w.heap.size w w' := by
  replace h := h.bound
  obtain ⟨A, c, rfl, hlc, hcm, hrow⟩ := rd_ints h
  go_enter Tryz.func114, Tryz.ntmps114
  go_wp2
  go_loop [3, 11] (fun z i => ∃ k : Nat, k ≤ l.length ∧ i = .int .i64 k ∧ z = .int .i64 ((l.take k).flatten.length : Nat)) (fun _ i => l.length - (intOf i).toNat)
  case atStart => exact ⟨0, Nat.zero_le _, rfl, rfl⟩
  case round =>
    obtain ⟨k, hk, rfl, rfl⟩ := hrel
    by_cases hlt : k < l.length
    · rcases hrow with hnil | ⟨b, o, rfl, hb, hcell⟩
      · rw [hnil] at hlt; simp at hlt
      obtain ⟨u, cu, hu⟩ := hcell k hlt
      have hft := flatten_take hlt
      have h1 := flat_take_le l k
      have h2 := flat_take_le l (k + 1)
      have h3 : (l.take (k + 1)).flatten.length = (l.take k).flatten.length + l[k].length := by rw [hft, List.length_append]
      have h4 : l[k].length ≤ 500000000 := by omega
      have h5 : (l.take k).flatten.length ≤ 500000000 := by omega
      have HS := Lib.hid h3
      clear hcell hft h1 h2 h3
      generalize (l.take k).flatten.length = z at *
      generalize l[k] = a at *
      obtain ⟨Au, ku, rfl, _⟩ := hu
      have i0 : (0 : Int) ≤ (k : Int) := Int.natCast_nonneg _
      have i1 : (k : Int) < (l.length : Int) := by omega
      have i2 : ¬ ((z : Int) + (a.length : Int) < 0) := by omega
      go_wp2
      go_round
      case rel => exact ⟨k + 1, by omega, by go_num, by rw [HS.out]; go_num⟩
      case measure => simp [intOf]; omega
    · obtain rfl : k = l.length := by omega
      rw [List.take_length]
      have HG := Lib.hid (grow_calls l.flatten.length w (by omega))
      have HK := Lib.hid (fun k => Nat.le_trans (flat_take_le l k) ht)
      clear ht
      generalize l.flatten.length = z at *
      go_wp2_with fail
      refine HG.out.mono ?_
      rintro e w1 ⟨v1, rfl, HO, HB⟩
      obtain ⟨Av, kv, rfl, _, _⟩ := HO.form
      go_wp2
      go_loopw [6, 27] (fun sv i wr => ∃ k : Nat, k ≤ l.length ∧ i = .int .i64 k ∧ Ow true 3 Rp.int wr (fun q => w.heap.size ≤ q) sv (l.take k).flatten ∧ Below w.heap.size w wr) (fun _ i _ => l.length - (intOf i).toNat)
      case atStart => exact ⟨0, Nat.zero_le _, rfl, HO, HB⟩
      case round =>
        clear HO HB
        obtain ⟨k, hk, rfl, HO, HB⟩ := hrel
        obtain ⟨Av, kv, rfl, _, _⟩ := HO.form
        by_cases hlt : k < l.length
        · rcases hrow with hnil | ⟨b, o, rfl, hb, hcell⟩
          · rw [hnil] at hlt; simp at hlt
          obtain ⟨u, cu, hu⟩ := hcell k hlt
          replace cu := cell_below HB cu
          replace hu := hu.below HB
          have hft := Lib.hid (flatten_take hlt)
          have hbd : (l.take k).flatten.length + l[k].length ≤ 1000000000 := by
            have h2 := HK.out (k + 1)
            rw [hft.out, List.length_append] at h2
            omega
          clear hcell
          generalize (l.take k).flatten = f at *
          generalize l[k] = a at *
          have ⟨Au, ku, hue, _⟩ := hu
          subst hue
          have i0 : (0 : Int) ≤ (k : Int) := Int.natCast_nonneg _
          have i1 : (k : Int) < (l.length : Int) := by omega
          go_wp2_with (at_builtin; refine app_ints (by rfl) _ _ (by rfl) _ _ f a (by rfl) (by rfl) HO hu hbd ?_; intro A2 c2 w3 HO3 hg; have HB3 := below_grown HB hg (fun q hq => own_in HO (.inr hq)) HB.size; have HO4 := HO3.mono (G := fun q => w.heap.size ≤ q) (fun q hq => by have := HB.size; rcases hq with hq | hq; exact hq; omega))
          go_roundw
          case rel => exact ⟨k + 1, by omega, by go_num, by rw [hft.out]; exact HO4, HB3⟩
          case measure => simp [intOf]; omega
        · obtain rfl : k = l.length := by omega
          rw [List.take_length] at HO ⊢
          go_wp2
          go_ret
          exact ⟨_, rfl, HO, HB⟩
end Go.Proofs.YtnfaibenekninaaGreat.L

set_option linter.unusedVariables false
set_option linter.unusedSimpArgs false
namespace Go.Proofs.YtnfaibenekninaaGreat.L
open Go.RowKit
def codeU (f : Int → Int → Bool) : Int → List Fl → Bool
  | _, [] => true
  | i, x :: t => (usesI x).all (f i) && codeU f (i + 1) t
def useB (f : Int → Int → Bool) (p : Pt) : Bool := codeU f 0 p.code && (!testB p.go || f p.code.length p.test) && p.args.flatten.all (f p.code.length)
theorem usesI_len (x : Fl) : (usesI x).length ≤ 2 := by unfold usesI; split <;> split <;> simp
set_option maxRecDepth 100000 in
set_option maxHeartbeats 4000000 in
theorem usesOK_calls {F FD FT FM : Nat → Prop} (s : Sa) (k vb : Nat) (vparts vn vd vD vT : Value) (D T : List Int) (M : List (List Bool)) (w : World)
    (hv : w.heap[vb]? = some (viewC vparts s.values vn vd vD vT)) (hs : Rp.Rd part w F vparts s.parts) (hD : Rp.Rd Rp.int w FD vD D) (hT : Rp.Rd Rp.int w FT vT T) (hM : Rp.Rd (Rp.sl Rp.bool) w FM vd M)
    (hl : (D.length : Int) = s.values) (hl2 : (T.length : Int) = s.values) (hV : s.values ≤ 250) (hpt : k < M.length) (hrow : ∀ (q : Nat) (hq : q < D.length), 0 ≤ D[q] → D[q].toNat < M[k].length)
    (hk : k < s.parts.length) (hlim : PtLim s.parts[k]) (hal : s.parts[k].args.length ≤ 1048576) (hfl : s.parts[k].args.flatten.length ≤ 500000000) :
    Calls Tryz.prog 65 #[.pointer (some ⟨vb, 0, none⟩), .int .i64 k] w fun e w' => e = .returned (.bool (useB (fun i v => thereI s.values D T M k i v) s.parts[k])) ∧ Below w.heap.size w w' := by
  have HCT := fun i v W (hW : Below w.heap.size w W) => there_calls vb vparts vn vd vD vT s.values D T M v i k W (blk_below hv hW) (hD.below hW) (hT.below hW) (hM.below hW) hl hl2 hV hpt hrow
  have hCc := fun W (va : Value) (G : Nat → Prop) (h : Rp.Rd (Rp.sl Rp.int) W G va s.parts[k].args) => concat_calls va _ W h hal hfl
  replace HCT := Lib.hid HCT
  obtain ⟨A, c, rfl, _, _, hr⟩ := rd_part hs
  rcases hr with hnil | ⟨b, o, rfl, hb, hcell⟩
  · rw [hnil] at hk; simp at hk
  obtain ⟨_, _, _, _, hp, ⟨A1, c1, rfl, _⟩, ⟨A2, c2, rfl, h2⟩, ⟨A3, c3, rfl, _⟩, ⟨A4, c4, rfl, h4⟩⟩ := hcell k hk
  have hk2 : Rp.Rd flat w F (.slice A2 s.parts[k].code.length c2) s.parts[k].code := ⟨A2, c2, rfl, h2⟩
  have hk4 : Rp.Rd (Rp.sl Rp.int) w F (.slice A4 s.parts[k].args.length c4) s.parts[k].args := ⟨A4, c4, rfl, h4⟩
  clear hcell h2 h4 hD hT hM hrow hpt hl hl2
  have HV := Lib.hid hv
  obtain ⟨v0, v1, v2, v3, v4, v5⟩ := view_cells hv
  clear hv
  have i0 : (0 : Int) ≤ (k : Int) := Int.natCast_nonneg _
  have i1 : (k : Int) < (s.parts.length : Int) := by omega
  have hcl := hlim.2.1
  generalize s.parts[k] = p at *
  have HP := Lib.hid hp
  obtain ⟨q0, q1, q2, q3, q4, q5⟩ := hp
  generalize hfe : (fun i v => thereI s.values D T M k i v) = f
  have HCT2 : ∀ (i v : Int) W (hW : Below w.heap.size w W), Calls Tryz.prog 70 #[.pointer (some ⟨vb, 0, none⟩), .int .i64 v, .int .i64 k, .int .i64 i] W fun e w' => e = .returned (.bool (f i v)) ∧ ∃ n, w' = W.drewN n := fun i v W hW => by
    rw [← hfe]; exact HCT.out i v W hW
  clear HCT hfe
  have HCT := Lib.hid HCT2
  have HF0 : Hid (useB f p = (codeU f (0 : Nat) (p.code.drop 0) && ((!testB p.go || f p.code.length p.test) && p.args.flatten.all (f p.code.length)))) := Lib.hid (by unfold useB; rw [Bool.and_assoc]; rfl)
  generalize useB f p = R at *
  replace hCc := Lib.hid hCc
  clear HCT2
  go_enter Tryz.func65, Tryz.ntmps65
  go_wp2
  go_loopw [24] (fun i wr => ∃ j : Nat, j ≤ p.code.length ∧ i = .int .i64 j ∧ Below w.heap.size w wr ∧ Hid (R = (codeU f j (p.code.drop j) && ((!testB p.go || f p.code.length p.test) && p.args.flatten.all (f p.code.length))))) (fun i _ => p.code.length - (intOf i).toNat)
  case atStart => exact ⟨0, Nat.zero_le _, rfl, Below.refl _ _, HF0⟩
  case round =>
    clear HF0
    obtain ⟨j, hj, rfl, HB, HJ⟩ := hrel
    rename World => wr
    by_cases hlt : j < p.code.length
    · obtain ⟨_, _, hAe, _, _, hr⟩ := rd_flat (hk2.below HB)
      cases hAe
      rcases hr with hnil | ⟨b1, o1, rfl, _, hc1⟩
      · rw [hnil] at hlt; simp at hlt
      obtain ⟨r0, r1, r2, r3, r4, r5⟩ := hc1 j hlt
      have HX : Hid (codeU f j (p.code.drop j) = ((usesI p.code[j]).all (f j) && codeU f (j + 1 : Nat) (p.code.drop (j + 1)))) := Lib.hid (by rw [List.drop_eq_getElem_cons hlt]; rfl)
      clear hc1
      generalize p.code[j] = x at *
      have HC1 := fun W => usesI_calls x W
      unfold flV at HC1
      obtain ⟨W1, hW1⟩ : ∃ W1, W1 = wr.alloc (Obj.cells #[.int .i64 x.op, .int .i64 x.dO, .int .i64 x.dst, .int .i64 x.a, .int .i64 x.b, .int .i64 x.n] 71) := ⟨_, rfl⟩
      have hB1 : Below wr.heap.size wr W1 := by rw [hW1]; exact below_new _
      replace hW1 := Lib.hid hW1
      have i2 : (0 : Int) ≤ (j : Int) := Int.natCast_nonneg _
      have i3 : (j : Int) < (p.code.length : Int) := by omega
      replace HC1 := Lib.hid HC1
      have hul := usesI_len x
      generalize usesI x = us at *
      go_wp2_with fail
      rw [← hW1.out]
      refine (HC1.out _).mono ?_
      rintro e w1 ⟨vu, rfl, HU, hb1⟩
      obtain ⟨Au, ku, rfl, _, _⟩ := HU.form
      have hB2 : Below w.heap.size w w1 := HB.trans ((below_then hB1 hb1).mono HB.size)
      have HUr := Lib.hid HU.rd
      have HI0 : Hid (R = ((us.drop 0).all (f j) && (codeU f (j + 1 : Nat) (p.code.drop (j + 1)) && ((!testB p.go || f p.code.length p.test) && p.args.flatten.all (f p.code.length))))) := Lib.hid (by rw [HJ.out, HX.out, Bool.and_assoc]; rfl)
      clear HC1 hW1 hB1 hb1 HB r0 r1 r2 r3 r4 r5 HU HJ HX
      go_wp2
      go_loopw [32] (fun i wr => ∃ m : Nat, m ≤ us.length ∧ i = .int .i64 m ∧ Hid (∃ n, wr = w1.drewN n) ∧ Hid (R = ((us.drop m).all (f j) && (codeU f (j + 1 : Nat) (p.code.drop (j + 1)) && ((!testB p.go || f p.code.length p.test) && p.args.flatten.all (f p.code.length)))))) (fun i _ => us.length - (intOf i).toNat)
      case atStart => exact ⟨0, Nat.zero_le _, rfl, Lib.hid ⟨0, rfl⟩, HI0⟩
      case round =>
        clear HI0
        obtain ⟨m, hm, rfl, HW, HI⟩ := hrel
        rename World => ws
        have hBs : Below w.heap.size w ws := by obtain ⟨n, hn⟩ := HW.out; rw [hn]; exact below_drewN hB2 n
        by_cases hmt : m < us.length
        · obtain ⟨_, _, hAe, _, _, hr⟩ := rd_int (w := ws) (by obtain ⟨n, hn⟩ := HW.out; rw [hn]; exact HUr.out.below (below_drewN (Below.refl _ _) n))
          cases hAe
          rcases hr with hnil | ⟨b2, o2, rfl, _, hc2⟩
          · rw [hnil] at hmt; simp at hmt
          have z1 := hc2 m hmt
          have HX : Hid ((us.drop m).all (f j) = (f j us[m] && (us.drop (m + 1)).all (f j))) := Lib.hid (by rw [List.drop_eq_getElem_cons hmt]; rfl)
          clear hc2
          generalize us[m] = u at *
          have HC := HCT.out j u ws hBs
          have i4 : (0 : Int) ≤ (m : Int) := Int.natCast_nonneg _
          have i5 : (m : Int) < (us.length : Int) := by omega
          replace HC := Lib.hid HC
          generalize f j u = r at *
          go_wp2_with fail
          refine HC.out.mono ?_
          rintro e w2 ⟨rfl, n2, rfl⟩
          have HW2 : Hid (∃ n, ws.drewN n2 = w1.drewN n) := Lib.hid (by obtain ⟨n, hn⟩ := HW.out; exact ⟨n + n2, by rw [hn, World.drewN_drewN]⟩)
          cases r
          · have HN : Hid (R = false) := Lib.hid (by rw [HI.out, HX.out]; simp)
            clear HI HX HC
            go_wp2
            go_ret
            exact ⟨ret_bool HN.out.symm, below_drewN hBs n2⟩
          · have HI2 : Hid (R = ((us.drop (m + 1)).all (f j) && (codeU f (j + 1 : Nat) (p.code.drop (j + 1)) && ((!testB p.go || f p.code.length p.test) && p.args.flatten.all (f p.code.length))))) := Lib.hid (by rw [HI.out, HX.out]; simp)
            clear HI HX HC
            go_wp2
            go_roundw
            case rel => exact ⟨m + 1, by omega, by go_num, HW2, HI2⟩
            case measure => simp [intOf]; omega
        · obtain rfl : m = us.length := by omega
          have HI2 : Hid (R = (codeU f (j + 1 : Nat) (p.code.drop (j + 1)) && ((!testB p.go || f p.code.length p.test) && p.args.flatten.all (f p.code.length)))) := Lib.hid (by rw [HI.out, List.drop_length]; rfl)
          clear HI hmt hm
          go_wp2
          go_roundw
          case rel => exact ⟨j + 1, by omega, by go_num, hBs, HI2⟩
          case measure => simp [intOf]; omega
    · obtain rfl : j = p.code.length := by omega
      have HI2 : Hid (R = ((!testB p.go || f p.code.length p.test) && p.args.flatten.all (f p.code.length))) := Lib.hid (by rw [HJ.out, List.drop_length]; rfl)
      have hz : 0 ≤ (p.code.length : Int) := Int.natCast_nonneg _
      have HC2 := Lib.hid (fun W => (tests_calls p.go W).mono (fun _ _ h => (⟨h.1, h.2.symm⟩ : _ ∧ _ = W)))
      have HT := Lib.hid (fun n => HCT.out p.code.length p.test (wr.drewN n) (below_drewN HB n))
      have HTS : Hid (testB p.go = (p.go == 2 || p.go == 5)) := Lib.hid rfl
      obtain ⟨cu0, cu1, cu2, cu3, cu4, cu5⟩ := partAt_below HP.out HB
      have hk4w := hk4.below HB
      clear HJ hlt hj v0 v1 v2 v3 v4 v5 q0 q1 q2 q3 q4 q5
      replace HTS := Lib.hid HTS.out
      have HI3 : Hid (R = ((!(p.go == 2 || p.go == 5) || f p.code.length p.test) && p.args.flatten.all (f p.code.length))) := Lib.hid (by rw [HI2.out, HTS.out])
      clear HI2 HTS
      generalize (p.go == 2 || p.go == 5) = tb at *
      generalize f p.code.length p.test = r at *
      have HQ : ∀ fl : List Int, p.args.flatten = fl → Hid (p.args.flatten.all (f p.code.length) = fl.all (f p.code.length)) := fun fl h => Lib.hid (by rw [h])
      by_cases hbad : tb = true ∧ r = false
      · obtain ⟨rfl, rfl⟩ := hbad
        have HN : Hid (R = false) := Lib.hid (by rw [HI3.out]; rfl)
        clear HI3 HQ
        go_wp2_with fail
        go_quiet (first | (go_at_call 72; exact Calls.quiet_of_same (HC2.out _)) | (go_at_call 70; exact Calls.quiet_of (HT.out _)))
        go_wp2
        go_ret
        exact ⟨ret_bool HN.out.symm, below_drewN HB _⟩
      have HI4 : Hid (R = (p.args.flatten.drop 0).all (f p.code.length)) := Lib.hid (by
        rw [HI3.out]
        cases tb
        · rfl
        · cases r
          · exact absurd ⟨rfl, rfl⟩ hbad
          · rfl)
      have hpt : tb = false ∨ (tb = true ∧ r = true) := by
        cases tb
        · exact .inl rfl
        · cases r
          · exact absurd ⟨rfl, rfl⟩ hbad
          · exact .inr ⟨rfl, rfl⟩
      clear HI3 hbad HQ
      have hkA : ∀ n, Rp.Rd (Rp.sl Rp.int) (wr.drewN n) F (.slice A4 p.args.length c4) p.args := fun n => hk4w.below (below_drewN (Below.refl _ _) n)
      rcases hpt with rfl | ⟨rfl, rfl⟩
      all_goals
        go_wp2_with fail
        go_quiet (first | (go_at_call 72; exact Calls.quiet_of_same (HC2.out _)) | (go_at_call 70; exact Calls.quiet_of (HT.out _)))
        go_wp2_with fail
        refine (hCc.out _ _ F (hkA _)).mono ?_
        rintro e w1 ⟨vu, rfl, HU, hb1⟩
        have hB2 : Below w.heap.size w w1 := (below_drewN HB nq).trans (hb1.mono HB.size)
        obtain ⟨Au, ku, rfl, _, _⟩ := HU.form
        have HUr := Lib.hid HU.rd
        obtain ⟨cu0, cu1, cu2, cu3, cu4, cu5⟩ := partAt_below HP.out hB2
        have HPW := Lib.hid (partAt_below HP.out hB2)
        clear HU hb1 hCc hkA HC2 HT hk4w
        generalize p.args.flatten = fl at *
        go_wp2
        go_loopw [70] (fun i wr => ∃ m : Nat, m ≤ fl.length ∧ i = .int .i64 m ∧ Hid (∃ n, wr = w1.drewN n) ∧ Hid (R = (fl.drop m).all (f p.code.length))) (fun i _ => fl.length - (intOf i).toNat)
        case atStart => exact ⟨0, Nat.zero_le _, rfl, Lib.hid ⟨0, rfl⟩, HI4⟩
        case round =>
          clear HI4 cu0 cu1 cu2 cu3 cu4 cu5
          obtain ⟨m, hm, rfl, HW, HI⟩ := hrel
          rename World => ws
          have hBs : Below w.heap.size w ws := by obtain ⟨n, hn⟩ := HW.out; rw [hn]; exact below_drewN hB2 n
          obtain ⟨cu0, cu1, cu2, cu3, cu4, cu5⟩ := partAt_below HP.out hBs
          by_cases hmt : m < fl.length
          · obtain ⟨_, _, hAe, _, _, hr⟩ := rd_int (w := ws) (by obtain ⟨n, hn⟩ := HW.out; rw [hn]; exact HUr.out.below (below_drewN (Below.refl _ _) n))
            cases hAe
            rcases hr with hnil | ⟨b2, o2, rfl, _, hc2⟩
            · rw [hnil] at hmt; simp at hmt
            have z1 := hc2 m hmt
            have HX : Hid ((fl.drop m).all (f p.code.length) = (f p.code.length fl[m] && (fl.drop (m + 1)).all (f p.code.length))) := Lib.hid (by rw [List.drop_eq_getElem_cons hmt]; rfl)
            clear hc2
            generalize fl[m] = u at *
            have HC := HCT.out p.code.length u ws hBs
            have i4 : (0 : Int) ≤ (m : Int) := Int.natCast_nonneg _
            have i5 : (m : Int) < (fl.length : Int) := by omega
            replace HC := Lib.hid HC
            generalize f p.code.length u = r2 at *
            go_wp2_with fail
            refine HC.out.mono ?_
            rintro e w2 ⟨rfl, n2, rfl⟩
            have HW2 : Hid (∃ n, ws.drewN n2 = w1.drewN n) := Lib.hid (by obtain ⟨n, hn⟩ := HW.out; exact ⟨n + n2, by rw [hn, World.drewN_drewN]⟩)
            cases r2
            · have HN : Hid (R = false) := Lib.hid (by rw [HI.out, HX.out]; simp)
              clear HI HX HC
              go_wp2
              go_ret
              exact ⟨ret_bool HN.out.symm, below_drewN hBs n2⟩
            · have HI2 : Hid (R = (fl.drop (m + 1)).all (f p.code.length)) := Lib.hid (by rw [HI.out, HX.out]; simp)
              clear HI HX HC
              go_wp2
              go_roundw
              case rel => exact ⟨m + 1, by omega, by go_num, HW2, HI2⟩
              case measure => simp [intOf]; omega
          · obtain rfl : m = fl.length := by omega
            have HN : Hid (R = true) := Lib.hid (by rw [HI.out, List.drop_length]; rfl)
            clear HI hmt hm
            go_wp2
            go_ret
            exact ⟨ret_bool HN.out.symm, hBs⟩
end Go.Proofs.YtnfaibenekninaaGreat.L

set_option linter.unusedVariables false
namespace Go.Proofs.YtnfaibenekninaaGreat.L
open Go.RowKit
def On (B : List Bool) (x : Int) : Prop := ∃ m : Nat, x = m ∧ B[m]? = some true
theorem On.set {B : List Bool} {x : Int} (k : Nat) (h : On B x) : On (B.set k true) x := by
  obtain ⟨m, rfl, hm⟩ := h
  refine ⟨m, rfl, ?_⟩
  rw [List.getElem?_set]
  have := (List.getElem?_eq_some_iff.1 hm).1
  split
  · rename_i e; rw [if_pos (by omega)]
  · exact hm
theorem On.of_set {B : List Bool} {x : Int} {k : Nat} (h : On (B.set k true) x) : On B x ∨ x = k := by
  obtain ⟨m, rfl, hm⟩ := h
  rw [List.getElem?_set] at hm
  split at hm
  · rename_i e; right; omega
  · exact .inl ⟨m, rfl, hm⟩
theorem On.at_ {B : List Bool} {k : Nat} (hk : k < B.length) : On (B.set k true) k := ⟨k, rfl, by rw [List.getElem?_set, if_pos rfl, if_pos hk]⟩
theorem on_iff {B : List Bool} {k : Nat} (hk : k < B.length) : On B k ↔ B[k] = true := by
  constructor
  · rintro ⟨m, hm, h⟩
    obtain rfl : k = m := by omega
    rw [List.getElem?_eq_getElem hk] at h
    exact Option.some.inj h
  · intro h
    exact ⟨k, rfl, by rw [List.getElem?_eq_getElem hk, h]⟩
def Done (next : List (List Int)) (but : List Int) (B : List Bool) (x : Int) : Prop := ∀ l, next[x.toNat]? = some l → ∀ y ∈ l, y ∉ but → On B y
structure RInv (next : List (List Int)) (but : List Int) (frm : Int) (B : List Bool) (Q : List Int) : Prop where
  len : B.length = next.length
  rch : ∀ x, On B x → Rch next (fun x => x ∉ but) frm x
  q : ∀ x ∈ Q, On B x
  cl : ∀ x, On B x → x ∈ Q ∨ Done next but B x
  st : On B frm
theorem RInv.start {next : List (List Int)} {but : List Int} {n : Nat} (hn : n < next.length) (hb : (n : Int) ∉ but) : RInv next but n ((List.replicate next.length false).set n true) [(n : Int)] := by
  have hs : ∀ x, On ((List.replicate next.length false).set n true) x → x = n := by
    intro x hx
    rcases hx.of_set with ⟨m, rfl, hm⟩ | h
    · rw [List.getElem?_replicate] at hm
      split at hm <;> cases hm
    · exact h
  have h1 : On ((List.replicate next.length false).set n true) n := On.at_ (by rw [List.length_replicate]; exact hn)
  exact ⟨by rw [List.length_set, List.length_replicate], fun x hx => by rw [hs x hx]; exact .start hb, fun x hx => by rw [List.mem_singleton.1 hx]; exact h1, fun x hx => .inl (by rw [hs x hx]; simp), h1⟩
theorem RInv.push {next : List (List Int)} {but : List Int} {frm x0 : Int} {B : List Bool} {Q l : List Int} {k : Nat} (h : RInv next but frm B Q) (h0 : On B x0) (hl : next[x0.toNat]? = some l) (hk : k < B.length) (hx : (k : Int) ∈ l) (hb : (k : Int) ∉ but) : RInv next but frm (B.set k true) (Q ++ [(k : Int)]) :=
  ⟨by rw [List.length_set]; exact h.len, fun x hx' => by
    rcases hx'.of_set with hx' | rfl
    · exact h.rch x hx'
    · obtain ⟨m, rfl, hm⟩ := h0
      exact .step (h.rch _ ⟨m, rfl, hm⟩) (by omega) hl hx hb,
   fun x hx' => by
    rcases List.mem_append.1 hx' with hx' | hx'
    · exact (h.q x hx').set k
    · rw [List.mem_singleton.1 hx']; exact On.at_ hk,
   fun x hx' => by
    rcases hx'.of_set with hx' | rfl
    · rcases h.cl x hx' with h1 | h1
      · exact .inl (List.mem_append.2 (.inl h1))
      · exact .inr (fun l hl y hy hyb => (h1 l hl y hy hyb).set k)
    · exact .inl (by simp), h.st.set k⟩
theorem RInv.pop {next : List (List Int)} {but : List Int} {frm x0 : Int} {B : List Bool} {Q l : List Int} (h : RInv next but frm B (x0 :: Q)) (hl : next[x0.toNat]? = some l) (hd : ∀ y ∈ l, y ∉ but → On B y) : RInv next but frm B Q :=
  ⟨h.len, h.rch, fun x hx => h.q x (List.mem_cons_of_mem _ hx), fun x hx => by
    rcases h.cl x hx with h1 | h1
    · rcases List.mem_cons.1 h1 with rfl | h1
      · right
        intro l' hl' y hy hyb
        rw [hl] at hl'; cases hl'
        exact hd y hy hyb
      · exact .inl h1
    · exact .inr h1, h.st⟩
theorem RInv.done {next : List (List Int)} {but : List Int} {frm : Int} {B : List Bool} (h : RInv next but frm B []) (x : Int) : On B x ↔ Rch next (fun x => x ∉ but) frm x :=
  ⟨h.rch x, fun hx => Rch.sub (S := fun x => On B x) (fun _ => h.st) (fun k hk _ l hl y hy hyb => by
    rcases h.cl k hk with h1 | h1
    · cases h1
    · exact h1 l hl y hy hyb) hx⟩
theorem count_flip {B : List Bool} {k : Nat} (hk : k < B.length) (h : B[k] = false) : (B.set k true).count false + 1 = B.count false := by
  rw [List.count_set hk]
  have h1 : 0 < B.count false := List.count_pos_iff.2 (h ▸ List.getElem_mem hk)
  simp [h]
  omega
theorem reach_none {next : List (List Int)} {but : List Int} {frm : Int} (hb : frm ∈ but) (x : Int) : On (List.replicate next.length false) x ↔ Rch next (fun x => x ∉ but) frm x := by
  constructor
  · rintro ⟨m, rfl, hm⟩
    rw [List.getElem?_replicate] at hm
    split at hm <;> cases hm
  · intro h
    exact (Rch.sub (ok := fun x => x ∉ but) (frm := frm) (S := fun _ => False) (fun h => h hb) (fun _ h => h.elim) h).elim
end Go.Proofs.YtnfaibenekninaaGreat.L

set_option linter.unusedVariables false
namespace Go.Proofs.YtnfaibenekninaaGreat.L
open Go.RowKit
/-- A slice of one's own, beginning anywhere in its block. -/
def Qu (w : World) (F : Nat → Prop) (v : Value) (l : List Int) : Prop :=
  ∃ g o c cur, v = .slice (some ⟨g, o, none⟩) l.length c ∧ F g ∧ w.heap[g]? = some (.cells cur 3 (0, 0)) ∧ l.length ≤ c ∧ c ≤ maxLen ∧ o + c ≤ cur.size ∧ ∀ (k : Nat) (hk : k < l.length), cur[o + k]? = some (.int .i64 l[k])
namespace Qu
variable {w w1 : World} {F G : Nat → Prop} {v : Value} {l : List Int}
theorem mono (hF : ∀ k, F k → G k) (h : Qu w F v l) : Qu w G v l := by
  obtain ⟨g, o, c, cur, h1, h2, h3⟩ := h
  exact ⟨g, o, c, cur, h1, hF g h2, h3⟩
theorem move (hF : Same F w w1) (h : Qu w F v l) : Qu w1 F v l := by
  obtain ⟨g, o, c, cur, h1, h2, h3, h4⟩ := h
  exact ⟨g, o, c, cur, h1, h2, (hF g h2 (blk_lt h3)).trans h3, h4⟩
theorem below (hb : Below w.heap.size w w1) (h : Qu w F v l) : Qu w1 F v l := h.move (Same.of_below hb F)
theorem set_other (h : Qu w F v l) {b o : Nat} {u : Value} (hb : ¬ F b) : Qu (w.setCell ⟨b, o, none⟩ u) F v l := h.move (fun q hq _ => heap_setCell_other w ⟨b, o, none⟩ q u (fun he => hb (by have he : q = b := he; rw [← he]; exact hq)))
theorem form (h : Qu w F v l) : ∃ g o c, v = .slice (some ⟨g, o, none⟩) l.length c ∧ F g ∧ g < w.heap.size ∧ l.length ≤ c ∧ c ≤ 9223372036854775807 ∧ ∀ (k : Nat) (hk : k < l.length), w.cell? ⟨g, o + k, none⟩ = some (.int .i64 l[k]) := by
  obtain ⟨g, o, c, cur, h1, h2, h3, h4, h5, h6, h7⟩ := h
  exact ⟨g, o, c, h1, h2, blk_lt h3, h4, h5, fun k hk => ((cell_of_block h3).1 _).trans (h7 k hk)⟩
theorem pop {g o c : Nat} {x : Int} {t : List Int} (h : Qu w F (.slice (some ⟨g, o, none⟩) (t.length + 1) c) (x :: t)) : Qu w F (.slice (some (if c = 1 then ⟨g, o, none⟩ else ⟨g, o + 1, none⟩)) t.length (c - 1)) t := by
  obtain ⟨g', o', c', cur, h1, h2, h3, h4, h5, h6, h7⟩ := h
  injection h1 with ha hb hc
  injection ha with ha
  injection ha with hg ho
  subst hg ho hc
  simp only [List.length_cons] at h4 h7
  by_cases hc1 : c = 1
  · rw [if_pos hc1]
    exact ⟨g, o, c - 1, cur, rfl, h2, h3, by omega, by omega, by omega, fun k hk => by omega⟩
  · rw [if_neg hc1]
    refine ⟨g, o + 1, c - 1, cur, rfl, h2, h3, by omega, by omega, by omega, fun k hk => ?_⟩
    have := h7 (k + 1) (by omega)
    rw [show o + 1 + k = o + (k + 1) by omega, this]; rfl
end Qu
theorem qu_lit (W : World) (y : Int) : Qu (W.alloc (.cells #[.int .i64 y] 3)) (fun q => W.heap.size ≤ q) (.slice (some ⟨W.heap.size, 0, none⟩) 1 1) [y] :=
  ⟨W.heap.size, 0, 1, _, rfl, Nat.le_refl _, heap_alloc_new W _, Nat.le_refl _, by unfold maxLen; omega, Nat.le_refl _, fun k hk => by
    obtain rfl : k = 0 := by simpa using hk
    rfl⟩
theorem grown_any {w w1 : World} (h : w.grownBy w1 none) (row : Option Nat) : w.grownBy w1 row := ⟨h.os, h.tape, h.output, h.size, fun k hk _ => h.block k hk (by simp)⟩
section
variable {ops : Array Oper} {rest : List Oper} {o : Oper} {a : Act} {Q : Exit → Act → World → Prop} {W : World} {F : Nat → Prop}
/-- append(todo, y). -/
theorem app_qu (hgd : o.guard = none) (s x : Operand) (ho : o.op = .call { callee := .builtin .append, args := #[s, x], argTypes := #[59, 59] }) (v : Value) (l : List Int) (y : Int) (g0 : Nat) (hg0 : g0 = W.heap.size) (hs : a.eval s = v) (hx : a.eval x = .slice (some ⟨g0, 0, none⟩) 1 1)
    (HO : Qu W F v l) (hl : l.length + 1 ≤ 1000000000)
    (h : ∀ A c w1, Qu w1 (fun k => F k ∨ W.heap.size ≤ k) (.slice A (l.length + 1) c) (l ++ [y]) → W.grownBy w1 v.ownBlock → wpList Tryz.prog ops Q rest (a.put o.dst (.slice A (l.length + 1) c)) w1) :
    wpList Tryz.prog ops Q (o :: rest) a (W.alloc (.cells #[.int .i64 y] 3)) := by
  subst hg0
  obtain ⟨g, o', c, cur, rfl, h2, h3, h4, h5, h6, h7⟩ := HO
  obtain ⟨i0, hi, hzz⟩ := Option.map_eq_some_iff.1 infoInt
  simp only [Prod.mk.injEq] at hzz
  obtain ⟨hz0, hz1, hz2⟩ := hzz
  have h3' := blk_alloc h3 (.cells #[.int .i64 y] 3)
  have hcell := cell_of_block h3'
  have hg : g < W.heap.size := blk_lt h3
  have hnews : ∀ j u, ([.int .i64 y] : List Value)[j]? = some u → (W.alloc (.cells #[.int .i64 y] 3)).cell? ((⟨W.heap.size, 0, none⟩ : Addr).add j) = some u := World.news_of_block (cs := #[.int .i64 y]) (t := 3) (fr := (0, 0)) (heap_alloc_new W _)
  have holds : ∀ j u, (l.map (Value.int .i64))[j]? = some u → (W.alloc (.cells #[.int .i64 y] 3)).cell? ⟨g, o' + j, none⟩ = some u := fun j u hu => by
    rw [List.getElem?_map] at hu
    obtain ⟨z, hz, rfl⟩ := Option.map_eq_some_iff.1 hu
    obtain ⟨hj, rfl⟩ := List.getElem?_eq_some_iff.1 hz
    rw [hcell.1, h7 j hj]
  refine wpList_append_arg _ hgd s x 59 ho 3 i0 (.int .i64 0) 1 8 Tryz.underlying59 hi hz0 hz1 hz2 rfl (by decide) g o' l.length c (l.map (Value.int .i64)) hs (by rw [List.length_map, Nat.mul_one]) holds ⟨W.heap.size, 0, none⟩ 1 1 [.int .i64 y] hx rfl hnews (fun u hu => by rw [List.mem_singleton.1 hu]; rfl) (fun hr j hj => ?_) (by unfold maxLen; omega) (by omega) (fun hr => ?_) (fun hr v' w' hown hgr => ?_)
  · have hj0 : j = 0 := by simpa using hj
    subst hj0
    rw [hcell.1, hcell.2]
    refine ⟨?_, rfl⟩
    rw [Nat.mul_one, Nat.add_zero, Array.getElem?_eq_getElem (by omega)]
    rfl
  · rw [Nat.mul_one]
    have hset := blk_put h3' (o' + l.length) (.int .i64 y)
    refine h (some ⟨g, o', none⟩) c _ ⟨g, o', c, _, by rw [List.length_append]; rfl, .inl h2, hset, by rw [List.length_append]; exact hr, h5, by simpa using h6, fun k hk => ?_⟩ ?_
    · rw [List.length_append] at hk
      rw [Array.getElem?_setIfInBounds]
      by_cases hkl : k < l.length
      · rw [if_neg (by omega), h7 k hkl, List.getElem_append_left hkl]
      · have : k = l.length := by simp at hk; omega
        subst this
        rw [if_pos rfl, if_pos (by omega), List.getElem_append_right (by omega)]
        simp
    · have h1 := World.grownBy_alloc W (.cells #[.int .i64 y] 3) (some g)
      refine ⟨h1.os, h1.tape, h1.output, ?_, fun q hq hne => ?_⟩
      · show W.heap.size ≤ ((W.alloc _).setCell _ _).heap.size
        simp
      · show ((W.alloc _).setCell _ _).heap[q]? = _
        rw [heap_setCell_other _ _ _ _ (fun he => hne (by rw [he]; rfl)), h1.block q hq hne]
  · have hOw : Ow true 3 Rp.int w' (fun q => W.heap.size ≤ q) v' (l ++ [y]) := by
      refine ⟨fun _ _ => False, _, by rw [List.length_append]; exact (by obtain ⟨p1, p2⟩ := hown; exact ⟨p1, p2.imp id (fun ⟨g', cap, cur', q1, q2, q3⟩ => ⟨g', cap, cur', q1, Nat.zero_le _, q3⟩)⟩), fun k hk => by have := (hown.lt k hk).1; simp at this; omega, fun _ _ h => h.elim, fun _ _ _ _ h => h.elim, fun i x hx => ?_⟩
      show _ = [Value.int .i64 x]
      have hsz : Rp.int.sz = 1 := rfl
      rw [hsz, Nat.mul_one, show (l.map (Value.int .i64)) ++ [.int .i64 y] = (l ++ [y]).map (Value.int .i64) by simp]
      obtain ⟨hi', rfl⟩ := List.getElem?_eq_some_iff.1 hx
      rw [← List.map_drop, List.drop_eq_getElem_cons hi']; rfl
    obtain ⟨A, cA, rfl, hcl, hcm⟩ := hOw.form1
    obtain ⟨p1, p2⟩ := hown
    rcases p2 with ⟨e1, e2⟩ | ⟨g', cap, cur', e1, e2, e3, e4, e5, e6, e7⟩
    · cases e1
    · injection e1 with ea eb ec
      subst ea ec
      refine h _ _ _ ⟨g', 0, cA, cur', by rw [List.length_append]; rfl, .inr (by simp at e2; omega), e3, by rw [List.length_append]; exact e4, hcm, by rw [e6]; omega, fun k hk => ?_⟩ ?_
      · have hk' : (l.map (Value.int .i64) ++ [.int .i64 y])[k]? = some (.int .i64 (l ++ [y])[k]) := by
          rw [show (l.map (Value.int .i64)) ++ [.int .i64 y] = (l ++ [y]).map (Value.int .i64) by simp, List.getElem?_map, List.getElem?_eq_getElem hk]; rfl
        rw [← e7, List.getElem?_take] at hk'
        split at hk'
        · rw [Nat.zero_add, ← Array.getElem?_toList]; exact hk'
        · cases hk'
      · have h1 := World.grownBy_alloc W (.cells #[.int .i64 y] 3) (some g)
        have h2' := h1.trans (grown_any hgr (some g))
        exact h2'
end
end Go.Proofs.YtnfaibenekninaaGreat.L

set_option linter.unusedVariables false
set_option linter.unusedSimpArgs false
set_option pp.deepTerms true
set_option pp.deepTerms.threshold 100000
namespace Go.Proofs.YtnfaibenekninaaGreat.L
open Go.RowKit
theorem infoBool : (Tryz.prog.info? 4).map (fun i => (i.zero, i.size, i.bytes)) = some (some (.bool false), 1, 1) := by kernel_rfl
theorem bool_at {ap : Bool} {e g n c : Nat} {w : World} {F : Nat → Prop} {l : List Bool} (h : Ow ap e Rp.bool w F (.slice (some ⟨g, 0, none⟩) n c) l) {k : Nat} (hk : k < l.length) :
    w.cell? ⟨g, k, none⟩ = some (.bool l[k]) ∧ w.frozen? ⟨g, k, none⟩ = false := h.lit_at (List.getElem?_eq_getElem hk)
set_option maxHeartbeats 4000000 in
theorem reach_calls {F G : Nat → Prop} (next : List (List Int)) (v vb : Value) (frm : Int) (but : List Int) (w : World) (h : Rp.Rd (Rp.sl Rp.int) w F v next) (hbt : Rp.Rd Rp.int w G vb but) (hf0 : 0 ≤ frm) (hf1 : frm < next.length) (hm : next.length ≤ 1048576) (hr : InR next) :
    Calls Tryz.prog 64 #[v, .int .i64 frm, vb] w fun e w' => ∃ v' B, e = .returned v' ∧ Ow true 4 Rp.bool w' (fun k => w.heap.size ≤ k) v' B ∧ Below w.heap.size w w' ∧ Hid (B.length = next.length ∧ ∀ x, On B x ↔ Rch next (fun x => x ∉ but) frm x) := by
  replace h := h.bound
  replace hbt := hbt.bound
  have hmk := mk_all Tryz.underlying108 infoBool next.length (by omega) (by omega)
  have hO := ow_alloc1 (e := 4) (n := next.length) (r := Rp.bool) (z := .bool false) (x0 := false) w (by omega) rfl (fun w => rfl)
  have hO := hO.bound
  have hB := below_new (w := w) (.cells (madeCells #[.bool false] next.length) 4)
  have ⟨A, c, he, hlc, hcm, _⟩ := h
  subst he
  have ⟨A1, c1, he1, _⟩ := hbt
  subst he1
  obtain ⟨n0, rfl⟩ := Int.eq_ofNat_of_zero_le hf0
  have hn0 : n0 < next.length := by omega
  have HR := Lib.hid hr
  clear hr
  have hzs : (w.alloc (.cells (madeCells #[.bool false] next.length) 4)).heap.size = w.heap.size + 1 := by simp
  have hC := containsInt_calls _ but (n0 : Int) (w.alloc (.cells (madeCells #[.bool false] next.length) 4)) (hbt.below hB)
  by_cases hfb : (n0 : Int) ∈ but
  · have hc : but.contains (n0 : Int) = true := by simpa using hfb
    rw [hc] at hC
    have HN : Hid ((List.replicate next.length false).length = next.length ∧ ∀ x, On (List.replicate next.length false) x ↔ Rch next (fun x => x ∉ but) (n0 : Int) x) := Lib.hid ⟨List.length_replicate, fun x => reach_none hfb x⟩
    clear hc hfb
    have HO := Lib.hid hO
    clear hO hzs
    go_enter Tryz.func64, Tryz.ntmps64
    go_wp2_with fail
    refine hC.mono ?_
    clear hC
    rintro e w1 ⟨rfl, rfl⟩
    go_wp2
    go_ret
    exact ⟨_, _, rfl, HO.out.mono (fun q hq => hq.1), hB, HN⟩
  have hc : but.contains (n0 : Int) = false := by simpa using hfb
  rw [hc] at hC
  have HI := Lib.hid (RInv.start hn0 hfb)
  clear hc hfb
  have hn0' : n0 < (List.replicate next.length false).length := by rw [List.length_replicate]; exact hn0
  have cz := bool_at hO hn0'
  rw [List.getElem_replicate] at cz
  have cz := bool_at hO hn0'
  rw [List.getElem_replicate] at cz
  have cz := bool_at hO hn0'
  rw [List.getElem_replicate] at cz
  have cz := bool_at hO hn0'
  rw [List.getElem_replicate] at cz
  have cz := bool_at hO hn0'
  rw [List.getElem_replicate] at cz
  have hO := (hO.set1 rfl hn0' (y := true) (u := .bool true) rfl).mono (G := fun q => q = w.heap.size) (fun q hq => by have h1 := hq.1; have h2 := hq.2; rw [hzs] at h2; omega)
  go_enter Tryz.func64, Tryz.ntmps64
  go_wp2_with fail
  refine hC.mono ?_
  clear hC
  rintro e w1 ⟨rfl, rfl⟩
  generalize w.alloc (.cells (madeCells #[.bool false] next.length) 4) = W1 at *
  have hQ := qu_lit (W1.setCell ⟨w.heap.size, n0, none⟩ (.bool true)) n0
  have hO2 := hO.below (below_new (.cells #[.int .i64 (n0 : Int)] 3))
  have hB2 : Below w.heap.size w ((W1.setCell ⟨w.heap.size, n0, none⟩ (.bool true)).alloc (.cells #[.int .i64 (n0 : Int)] 3)) := (hB.setCell (by simp) _).alloc (by simp; omega) _
  have hws : w.heap.size + 1 ≤ (W1.setCell ⟨w.heap.size, n0, none⟩ (.bool true)).heap.size := by simp; omega
  have hQ := hQ.mono (G := fun q => w.heap.size + 1 ≤ q) (fun q hq => by omega)
  have hcs : (W1.setCell ⟨w.heap.size, n0, none⟩ (.bool true)).heap.size = w.heap.size + 1 := by simp; omega
  rw [hcs] at hQ
  obtain ⟨cz1, cz2⟩ := cz
  clear hO hcs hws
  replace hzs := Lib.hid hzs
  have i0 : (0 : Int) ≤ (n0 : Int) := Int.natCast_nonneg _
  have HS := Lib.hid (show (W1.setCell ⟨w.heap.size, n0, none⟩ (.bool true)).heap.size = w.heap.size + 1 by simp; exact hzs.out)
  replace hQ := Lib.hid hQ
  replace hO2 := Lib.hid hO2
  replace hB2 := Lib.hid hB2
  go_wp2
  rw [hzs.out]
  obtain ⟨gk0, hgk0⟩ : ∃ gk0, gk0 = 2 * ((List.replicate next.length false).set n0 true).count false + 1 := ⟨_, rfl⟩
  have hgk1 : gk0 ≤ 2097153 := by
    have h1 := List.count_le_length (a := false) (l := (List.replicate next.length false).set n0 true)
    rw [List.length_set, List.length_replicate] at h1
    omega
  go_loopg [8] gk0 (fun k tv wr => ∃ (Q : List Int) (B : List Bool), Qu wr (fun q => w.heap.size + 1 ≤ q) tv Q ∧ Ow true 4 Rp.bool wr (fun q => q = w.heap.size) (.slice (some ⟨w.heap.size, 0, none⟩) next.length next.length) B ∧ Below w.heap.size w wr ∧ w.heap.size < wr.heap.size ∧ k ≤ 2097153 ∧ Hid (RInv next but (n0 : Int) B Q ∧ 2 * B.count false + Q.length ≤ k))
  case atStart => exact ⟨_, _, hQ.out, hO2.out, hB2.out, by have := hzs.out; simp; omega, hgk1, Lib.hid ⟨HI.out, by rw [hgk0]; simp⟩⟩
  case round =>
    clear hQ hO2 hB2 HI cz1 cz2 hzs HS hB hgk0
    obtain ⟨Q, B, HQ, HO, HB, hz, hgk, HI⟩ := hrel
    cases Q with
    | nil =>
      have HN : Hid (B.length = next.length ∧ ∀ x, On B x ↔ Rch next (fun x => x ∉ but) (n0 : Int) x) := Lib.hid ⟨HI.out.1.len, HI.out.1.done⟩
      obtain ⟨g, o, c, rfl, _⟩ := HQ.form
      simp only [List.length_nil]
      go_wp2
      go_ret
      exact ⟨_, B, rfl, HO.mono (fun q hq => by omega), HB, HN⟩
    | cons x0 t =>
      obtain ⟨g, o, c2, rfl, hg, hgl, hkc, hkm, hcell⟩ := HQ.form
      have c0 := hcell 0 (by simp)
      simp only [List.getElem_cons_zero, Nat.add_zero, List.length_cons] at c0 hkc ⊢
      have hon := HI.out.1.q x0 (by simp)
      have hrx := (HI.out.1.rch x0 hon).range ⟨by omega, by omega⟩ HR.out
      obtain ⟨n1, hn1⟩ := Int.eq_ofNat_of_zero_le hrx.1
      have hn1l : n1 < next.length := by omega
      have hne : next ≠ [] := by intro e; rw [e] at hn0; simp at hn0
      have HO0 := h
      obtain ⟨_, _, hAe, _, _, hnr⟩ := rd_ints h
      cases hAe
      rcases hnr with hnil | ⟨b, o2, rfl, hb, hcn⟩
      · exact absurd hnil hne
      obtain ⟨u, cu, hu⟩ := hcn n1 hn1l
      have cu := cell_below HB cu
      have hnx : Hid (next[x0.toNat]? = some next[n1]) := Lib.hid (by rw [hn1]; exact List.getElem?_eq_getElem hn1l)
      have HON : Hid (On B x0) := Lib.hid hon
      rw [hn1] at c0
      have HX0 := Lib.hid hn1
      clear hcn hcell hrx hn1 hon hne
      generalize next[n1] = l0 at *
      have ⟨Au, ku, hue, _⟩ := hu
      subst hue
      have i1 : (0 : Int) ≤ (n1 : Int) := Int.natCast_nonneg _
      have i2 : (n1 : Int) < (next.length : Int) := by omega
      have i3 : (0 : Int) < ((t.length : Int) + 1) := by omega
      have i4 : (0 : Int) < ((t.length + 1 : Nat) : Int) := by omega
      have HJ0 : Hid (RInv next but (n0 : Int) B (x0 :: t) ∧ (∀ y ∈ l0.take 0, y ∉ but → On B y) ∧ 2 * B.count false + (x0 :: t).length ≤ gk) := Lib.hid ⟨HI.out.1, fun y hy => by simp at hy, HI.out.2⟩
      go_wp2
      go_loopw [8, 35] (fun tv i wr => ∃ (j : Nat) (t' : List Int) (B' : List Bool), j ≤ l0.length ∧ i = .int .i64 j ∧ Qu wr (fun q => w.heap.size + 1 ≤ q) tv (x0 :: t') ∧ Ow true 4 Rp.bool wr (fun q => q = w.heap.size) (.slice (some ⟨w.heap.size, 0, none⟩) next.length next.length) B' ∧ Below w.heap.size w wr ∧ w.heap.size < wr.heap.size ∧ Hid (RInv next but (n0 : Int) B' (x0 :: t') ∧ (∀ y ∈ l0.take j, y ∉ but → On B' y) ∧ 2 * B'.count false + (x0 :: t').length ≤ gk)) (fun _ i _ => l0.length - (intOf i).toNat)
      case atStart => exact ⟨0, t, B, Nat.zero_le _, rfl, HQ, HO, HB, hz, HJ0⟩
      case round =>
        clear HJ0 HQ HO HB hz HI HON hgl c0 cu
        obtain ⟨j, t', B', hj, rfl, HQ, HO, HB, hz, HJ⟩ := hrel
        obtain ⟨g', o', c', rfl, hg', hgl', hkc', hkm', hcell'⟩ := HQ.form
        simp only [List.length_cons] at hkc' ⊢
        by_cases hjt : j < l0.length
        · obtain ⟨_, _, hAe, _, _, hur⟩ := rd_int (hu.below HB)
          cases hAe
          rcases hur with hnil | ⟨b3, o3, rfl, hb3, hc3⟩
          · rw [hnil] at hjt; simp at hjt
          have c3 := hc3 j hjt
          have hyr := HR.out l0 (List.mem_of_getElem? hnx.out) _ (List.getElem_mem hjt)
          obtain ⟨m, hm'⟩ := Int.eq_ofNat_of_zero_le hyr.1
          have hml : m < next.length := by omega
          have hmB : m < B'.length := by rw [HJ.out.1.len]; exact hml
          rw [hm'] at c3
          have hmem : (m : Int) ∈ l0 := by rw [← hm']; exact List.getElem_mem hjt
          have HST : Hid (l0.take (j + 1) = l0.take j ++ [(m : Int)]) := Lib.hid (by rw [← hm']; exact List.take_succ_eq_append_getElem hjt)
          clear hc3 hyr hm' hcell'
          have fB := bool_at HO hmB
          have HOs := HO.set1 rfl hmB (y := true) (u := .bool true) rfl
          have HCn := fun (W : World) (hW : Below wr.heap.size wr W) => containsInt_calls _ but (m : Int) W (hbt.below (below_then HB hW))
          have HXn : Hid (On B' (m : Int) → RInv next but (n0 : Int) B' (x0 :: t') ∧ (∀ y ∈ l0.take (j + 1), y ∉ but → On B' y) ∧ 2 * B'.count false + (x0 :: t').length ≤ gk) := Lib.hid (fun hy => ⟨HJ.out.1, fun y hy' hyb => by
            rw [HST.out] at hy'
            rcases List.mem_append.1 hy' with hy' | hy'
            · exact HJ.out.2.1 y hy' hyb
            · rw [List.mem_singleton.1 hy']; exact hy, HJ.out.2.2⟩)
          have HXb : Hid ((m : Int) ∈ but → RInv next but (n0 : Int) B' (x0 :: t') ∧ (∀ y ∈ l0.take (j + 1), y ∉ but → On B' y) ∧ 2 * B'.count false + (x0 :: t').length ≤ gk) := Lib.hid (fun hmb => ⟨HJ.out.1, fun y hy' hyb => by
            rw [HST.out] at hy'
            rcases List.mem_append.1 hy' with hy' | hy'
            · exact HJ.out.2.1 y hy' hyb
            · rw [List.mem_singleton.1 hy'] at hyb; exact absurd hmb hyb, HJ.out.2.2⟩)
          have HXp : Hid (B'[m] = false → (m : Int) ∉ but → RInv next but (n0 : Int) (B'.set m true) (x0 :: (t' ++ [(m : Int)])) ∧ (∀ y ∈ l0.take (j + 1), y ∉ but → On (B'.set m true) y) ∧ 2 * (B'.set m true).count false + (x0 :: (t' ++ [(m : Int)])).length ≤ gk) := Lib.hid (fun hB hmb => by
            refine ⟨HJ.out.1.push (Q := x0 :: t') (HJ.out.1.q x0 (by simp)) hnx.out hmB hmem hmb, fun y hy' hyb => ?_, ?_⟩
            · rw [HST.out] at hy'
              rcases List.mem_append.1 hy' with hy' | hy'
              · exact (HJ.out.2.1 y hy' hyb).set m
              · rw [List.mem_singleton.1 hy']; exact On.at_ hmB
            · have h1 := count_flip hmB hB
              have h2 := HJ.out.2.2
              simp only [List.length_cons, List.length_append, List.length_nil] at h2 ⊢
              omega)
          have HONB := Lib.hid (on_iff hmB)
          clear HJ HST
          have j0 : (0 : Int) ≤ (j : Int) := Int.natCast_nonneg _
          have j1 : (j : Int) < (l0.length : Int) := by omega
          have j2 : (0 : Int) ≤ (m : Int) := Int.natCast_nonneg _
          have j3 : (m : Int) < (next.length : Int) := by omega
          obtain ⟨fB1, fB2⟩ := fB
          generalize hbm : B'[m] = bm at *
          cases bm
          · have HXp := Lib.hid (HXp.out rfl)
            clear hbm HXn HONB
            by_cases hmb : (m : Int) ∈ but
            · have hmc : but.contains (m : Int) = true := by simpa using hmb
              have HCn := fun W hW => (hmc ▸ HCn W hW : Calls Tryz.prog 108 #[.slice A1 but.length c1, .int .i64 m] W fun e w' => e = .returned (.bool true) ∧ w' = W)
              have HF := Lib.hid (HXb.out hmb)
              clear hmb hmc HXb HXp HOs
              replace HCn := Lib.hid HCn
              go_wp2_with (go_at_call 108; refine (HCn.out _ (Below.refl _ _)).mono ?_; rintro e w2 ⟨rfl, rfl⟩)
              go_roundw
              case rel => exact ⟨j + 1, t', B', by omega, by go_num, HQ, HO, HB, hz, HF⟩
              case measure => simp [intOf]; omega
            · have hmc : but.contains (m : Int) = false := by simpa using hmb
              have HCn := fun W hW => (hmc ▸ HCn W hW : Calls Tryz.prog 108 #[.slice A1 but.length c1, .int .i64 m] W fun e w' => e = .returned (.bool false) ∧ w' = W)
              have HF := Lib.hid (HXp.out hmb)
              clear hmb hmc HXb HXp
              replace HCn := Lib.hid HCn
              have HQs := HQ.set_other (b := w.heap.size) (o := m) (u := .bool true) (by omega)
              have HBs : Below w.heap.size w (wr.setCell ⟨w.heap.size, m, none⟩ (.bool true)) := HB.setCell (by simp) _
              have hnl : (x0 :: t').length + 1 ≤ 1000000000 := by
                have h1 := HF.out.2.2
                simp only [List.length_cons, List.length_append, List.length_nil] at h1 ⊢
                omega
              have HOs := Lib.hid HOs
              have HLn := Lib.hid hnl
              clear hnl HO
              go_wp2_with (first | (go_at_call 108; refine (HCn.out _ (Below.refl _ _)).mono ?_; rintro e w2 ⟨rfl, rfl⟩) | (at_builtin; (refine app_qu (by rfl) _ _ (by rfl) (.slice (some ⟨g', o', none⟩) (t'.length + 1) c') (x0 :: t') m w2.heap.size (by simp) (by rfl) (by rfl) HQs HLn.out ?_; intro A' cA w1 HQ3 hg1; have HO3 := HOs.out.move (fun q hq hlt => hg1.block q hlt (fun he => by simp [Value.ownBlock] at he; omega)); have HB3 := below_grown HBs hg1 (fun q hq => by simp [Value.ownBlock] at hq; omega) HBs.size; have hz3 := hg1.size; simp at hz3)))
              go_roundw
              case rel => exact ⟨j + 1, t' ++ [(m : Int)], _, by omega, by go_num, HQ3.mono (fun q hq => by simp at hq; omega), HO3, HB3, by omega, HF⟩
              case measure => simp [intOf]; omega
          · have HF := Lib.hid (HXn.out (HONB.out.2 rfl))
            clear hbm HXn HONB HXp HXb HCn HOs
            go_wp2
            go_roundw
            case rel => exact ⟨j + 1, t', B', by omega, by go_num, HQ, HO, HB, hz, HF⟩
            case measure => simp [intOf]; omega
        · obtain rfl : j = l0.length := by omega
          have HP := HQ.pop
          have HF : Hid (RInv next but (n0 : Int) B' t' ∧ 2 * B'.count false + t'.length ≤ gk - 1 ∧ gk - 1 < gk) := Lib.hid (by
            have h1 := HJ.out
            rw [List.take_length] at h1
            refine ⟨h1.1.pop hnx.out h1.2.1, ?_, ?_⟩
            · have := h1.2.2; simp only [List.length_cons] at this; omega
            · have := h1.2.2; simp only [List.length_cons] at this; omega)
          clear HJ HQ hcell'
          by_cases hc1 : c' = 1
          · rw [if_pos hc1] at HP
            subst hc1
            obtain rfl : t' = [] := List.eq_nil_of_length_eq_zero (by omega)
            go_wp2
            go_roundg (gk - 1)
            case measure => exact HF.out.2.2
            case rel => exact ⟨[], B', HP, HO, HB, hz, by omega, Lib.hid ⟨HF.out.1, HF.out.2.1⟩⟩
          · rw [if_neg hc1] at HP
            have hc2 : 1 < c' := by omega
            go_wp2
            go_roundg (gk - 1)
            case measure => exact HF.out.2.2
            case rel => exact ⟨t', B', HP, HO, HB, hz, by omega, Lib.hid ⟨HF.out.1, HF.out.2.1⟩⟩
end Go.Proofs.YtnfaibenekninaaGreat.L

set_option linter.unusedVariables false
namespace Go.Proofs.YtnfaibenekninaaGreat.L
open Go.RowKit
theorem Ow.focus {α : Type} {e e2 : Nat} {r : Rp α} {w : World} {F : Nat → Prop} {L : List (List α)} {g n c : Nat} (h : Ow true e (Rp.ow true e2 r) w F (.slice (some ⟨g, 0, none⟩) n c) L) {b : Nat} (hb : b < L.length) :
    ∃ (G : Nat → Prop) (u : Value), w.cell? ⟨g, b, none⟩ = some u ∧ w.frozen? ⟨g, b, none⟩ = false ∧ (∀ k, G k → F k ∧ k ≠ g) ∧ Ow true e2 r w G u L[b] ∧
      ∀ (w' : World) (y : List α), (∀ k, k < w.heap.size → ¬ G k → w'.heap[k]? = w.heap[k]?) → Ow true e2 r w' G u y → Ow true e (Rp.ow true e2 r) w' F (.slice (some ⟨g, 0, none⟩) n c) (L.set b y) := by
  obtain rfl := h.len_eq
  obtain ⟨g', c', cs, he, hg, hgl, hK, hc, hf⟩ := h.at_ (List.getElem?_eq_getElem hb)
  injection he with he _ _
  injection he with he
  injection he with he _
  subst he
  obtain ⟨u, rfl, _⟩ := hK
  have hcu := hc 0 u rfl
  rw [show b * (Rp.ow true e2 r).sz + 0 = b from by show b * 1 + 0 = b; omega] at hcu
  obtain ⟨φ, xs, h1, h2, h3, h4, h5⟩ := h
  obtain ⟨u', hu', hO⟩ := h5 b _ (List.getElem?_eq_getElem hb)
  have hsz : (Rp.ow true e2 r).sz = 1 := rfl
  have hlen := h1.1
  rw [hsz, Nat.mul_one] at hlen hu'
  have hxb : xs[b]? = some u' := by
    have : (xs.drop b).take 1 = [u'] := hu'
    have h0 : ((xs.drop b).take 1)[0]? = some u' := by rw [this]; rfl
    rw [List.getElem?_take, if_pos (by omega), List.getElem?_drop] at h0
    exact h0
  have hcell := h1.cellAt b (by rw [hsz, Nat.mul_one]; exact hb)
  have huu : u' = u := by
    have : w.cell? ⟨g, b, none⟩ = xs[b]? := by simpa using hcell
    rw [hcu, hxb] at this
    exact (Option.some.inj this).symm
  subst huu
  refine ⟨φ b, u', hcu, hf b, fun k hk => ⟨(h3 b k hk).1, fun hkg => (h3 b k hk).2 (by simp [Value.ownBlock, hkg])⟩, hO, fun w' y hS hy => ?_⟩
  refine ⟨φ, xs, by rw [List.length_set]; exact owns_move h1 (fun k hk => hS k (owns_lt h1 hk) (fun hG => (h3 b k hG).2 hk)), h2, h3, h4, fun i x hx => ?_⟩
  rw [List.getElem?_set] at hx
  by_cases hi : b = i
  · subst hi
    rw [if_pos rfl, if_pos hb] at hx
    cases hx
    rw [hsz, Nat.mul_one]
    exact ⟨u', hu', hy⟩
  · rw [if_neg hi] at hx
    exact (Rp.ow true e2 r).move (fun k hk hlt => hS k hlt (fun hG => hi (h4 rfl _ _ k hG hk))) (h5 i x hx)
end Go.Proofs.YtnfaibenekninaaGreat.L

set_option linter.unusedVariables false
set_option linter.unusedSimpArgs false
namespace Go.Proofs.YtnfaibenekninaaGreat.L
open Go.RowKit
structure WInv (next : List (List Int)) (gone : Int) (L : List Int) (i : Nat) : Prop where
  nd : L.Nodup
  rch : ∀ x ∈ L, Rch next (fun x => x ≠ gone) 0 x
  zero : (0 : Int) ∈ L
  cl : ∀ k ∈ L.take i, ∀ l, next[k.toNat]? = some l → ∀ x ∈ l, x ≠ gone → x ∈ L
  le : i ≤ L.length
theorem WInv.add {next : List (List Int)} {gone : Int} {L : List Int} {i : Nat} (h : WInv next gone L i) (hi : i < L.length) {l : List Int} (hl : next[L[i].toNat]? = some l) (hp : 0 ≤ L[i]) {x : Int} (hx : x ∈ l) (hg : x ≠ gone) (hn : x ∉ L) : WInv next gone (L ++ [x]) i :=
  ⟨List.nodup_append.2 ⟨h.nd, by simp, fun a ha b hb => by rw [List.mem_singleton.1 hb]; intro e; exact hn (e ▸ ha)⟩,
    fun y hy => (List.mem_append.1 hy).elim (h.rch y) (fun hy => by rw [List.mem_singleton.1 hy]; exact .step (h.rch _ (List.getElem_mem hi)) hp hl hx hg),
    List.mem_append.2 (.inl h.zero),
    fun k hk l hl y hy hyg => List.mem_append.2 (.inl (h.cl k (by rwa [List.take_append_of_le_length (by omega)] at hk) l hl y hy hyg)), by simp; omega⟩
theorem WInv.next {next : List (List Int)} {gone : Int} {L : List Int} {i : Nat} (h : WInv next gone L i) (hi : i < L.length) {l : List Int} (hl : next[L[i].toNat]? = some l) (ha : ∀ x ∈ l, x ≠ gone → x ∈ L) : WInv next gone L (i + 1) :=
  ⟨h.nd, h.rch, h.zero, fun k hk l' hl' x hx hg => by
    rw [List.take_succ_eq_append_getElem hi] at hk
    rcases List.mem_append.1 hk with hk | hk
    · exact h.cl k hk l' hl' x hx hg
    · rw [List.mem_singleton.1 hk] at hl'
      rw [hl] at hl'; cases hl'
      exact ha x hx hg, hi⟩
theorem WInv.done {next : List (List Int)} {gone : Int} {L : List Int} (h : WInv next gone L L.length) (k : Int) : k ∈ L ↔ Rch next (fun x => x ≠ gone) 0 k :=
  ⟨h.rch k, fun hk => Rch.sub (S := fun x => x ∈ L) (fun _ => h.zero) (fun k hk _ l hl x hx hg => h.cl k (by rw [List.take_length]; exact hk) l hl x hx hg) hk⟩
theorem WInv.range {next : List (List Int)} {gone : Int} {L : List Int} {i : Nat} (h : WInv next gone L i) (hr : InR next) (h0 : 0 < next.length) : L.length ≤ next.length ∧ ∀ x ∈ L, 0 ≤ x ∧ x < next.length :=
  have := fun x hx => Rch.range (h.rch x hx) (by omega) hr
  ⟨len_nodup_range h.nd this, this⟩
structure WIn (next : List (List Int)) (gone : Int) (L : List Int) (i m : Nat) (l : List Int) : Prop where
  w : WInv next gone L i
  h : i < L.length
  nx : next[L[i].toNat]? = some l
  p : 0 ≤ L[i]
  al : ∀ x ∈ l.take m, x ≠ gone → x ∈ L
theorem WIn.skip {next : List (List Int)} {gone : Int} {L : List Int} {i m : Nat} {l : List Int} (h : WIn next gone L i m l) (hm : m < l.length) (hx : l[m] = gone ∨ l[m] ∈ L) : WIn next gone L i (m + 1) l :=
  ⟨h.w, h.h, h.nx, h.p, fun x hx' hg => by
    rw [List.take_succ_eq_append_getElem hm] at hx'
    rcases List.mem_append.1 hx' with hx' | hx'
    · exact h.al x hx' hg
    · rw [List.mem_singleton.1 hx'] at hg ⊢
      exact hx.elim (fun e => absurd e hg) id⟩
theorem WIn.put {next : List (List Int)} {gone : Int} {L : List Int} {i m : Nat} {l : List Int} (h : WIn next gone L i m l) (hm : m < l.length) (hg : l[m] ≠ gone) (hn : l[m] ∉ L) : WIn next gone (L ++ [l[m]]) i (m + 1) l := by
  have e : (L ++ [l[m]])[i]'(by have := h.h; simp; omega) = L[i]'h.h := List.getElem_append_left h.h
  exact ⟨h.w.add h.h h.nx h.p (List.getElem_mem hm) hg hn, by have := h.h; simp; omega, by rw [e]; exact h.nx, by rw [e]; exact h.p, fun x hx hg' => by
    rw [List.take_succ_eq_append_getElem hm] at hx
    rcases List.mem_append.1 hx with hx | hx
    · exact List.mem_append.2 (.inl (h.al x hx hg'))
    · exact List.mem_append.2 (.inr hx)⟩
set_option maxHeartbeats 2000000 in
theorem l7Without_calls {F : Nat → Prop} (next : List (List Int)) (v : Value) (gone : Int) (w : World) (h : Rp.Rd (Rp.sl Rp.int) w F v next) (h0 : 0 < next.length) (hm : next.length ≤ 1048576) (hr : InR next) :
    Calls Tryz.prog 100 #[.agg #[v], .int .i64 gone] w fun e w' => ∃ v' L, e = .returned v' ∧ Ow true 3 Rp.int w' (fun k => w.heap.size ≤ k) v' L ∧ Below w.heap.size w w' ∧ Hid (L.Nodup ∧ ∀ k, k ∈ L ↔ Rch next (fun x => x ≠ gone) 0 k) := by
  replace h := h.bound
  obtain ⟨A, c, rfl, hlc, hcm, hrow⟩ := rd_ints h
  by_cases hg : gone = 0
  · have ht : (gone == 0) = true := by simpa using hg
    have HE : Hid (([] : List Int).Nodup ∧ ∀ k, k ∈ ([] : List Int) ↔ Rch next (fun x => x ≠ gone) 0 k) := Lib.hid ⟨List.nodup_nil, fun k => ⟨fun h => absurd h List.not_mem_nil, fun h => (Rch.sub (ok := fun x => x ≠ gone) (frm := 0) (S := fun _ => False) (fun h => h hg.symm) (fun _ h => h.elim) h).elim⟩⟩
    clear hg
    go_enter Tryz.func100, Tryz.ntmps100
    go_wp2
    go_ret
    exact ⟨_, _, rfl, Ow.nil _ _ _ _ _, below_new _, HE⟩
  · have ht : (gone == 0) = false := by simpa using hg
    have HI : Hid (WInv next gone [0] 0) := Lib.hid ⟨by simp, fun x hx => by rw [List.mem_singleton.1 hx]; exact .start (fun h => hg h.symm), by simp, fun k hk => by simp at hk, by simp⟩
    clear hg
    have HR := Lib.hid hr
    clear hr
    go_enter Tryz.func100, Tryz.ntmps100
    go_wp2
    have hO : Ow true 3 Rp.int ((w.alloc (Obj.cells #[Value.slice A next.length c] 92)).alloc (Obj.cells #[Value.int .i64 0] 3)) (fun q => w.heap.size + 1 ≤ q) (.slice (some ⟨w.heap.size + 1, 0, none⟩) 1 1) [0] := ow_intsG (by simp) (by omega) [0] _ rfl (by simp)
    have hB : Below (w.alloc (Obj.cells #[Value.slice A next.length c] 92)).heap.size (w.alloc (Obj.cells #[Value.slice A next.length c] 92)) ((w.alloc (Obj.cells #[Value.slice A next.length c] 92)).alloc (Obj.cells #[Value.int .i64 0] 3)) := below_new _
    go_loopw [5, 6] (fun sv i wr => ∃ (i' : Nat) (L : List Int), i = .int .i64 i' ∧ Ow true 3 Rp.int wr (fun q => w.heap.size + 1 ≤ q) sv L ∧ Below (w.alloc (Obj.cells #[Value.slice A next.length c] 92)).heap.size (w.alloc (Obj.cells #[Value.slice A next.length c] 92)) wr ∧ Hid (WInv next gone L i')) (fun _ i _ => next.length - (intOf i).toNat)
    case atStart => exact ⟨0, [0], rfl, hO, hB, HI⟩
    case round =>
      obtain ⟨i, L, rfl, HO, HB, HW⟩ := hrel
      clear HI
      rename World => wo
      have hrg := HW.out.range HR.out h0
      have hil := HW.out.le
      obtain ⟨hLn, hrg⟩ := hrg
      obtain ⟨Av, kv, rfl, hkv, hkm⟩ := HO.form
      obtain ⟨b1, z1⟩ := boxed1 HB
      obtain ⟨x1, f1⟩ := cell_of_block b1
      have x10 := x1 0
      simp at x10
      by_cases hlt : i < L.length
      · have hri := hrg L[i] (List.getElem_mem hlt)
        have hLL : L ≠ [] := by intro e; rw [e] at hlt; simp at hlt
        obtain ⟨_, _, hAe, _, _, hAr⟩ := rd_int HO.rd
        cases hAe
        rcases hAr with hAr | ⟨bs, os, rfl, hbs, hcs⟩
        · exact absurd hAr hLL
        have c1 := hcs i hlt
        clear hcs
        rcases hrow with hnil | ⟨b, o, rfl, hb, hcell⟩
        · rw [hnil] at h0; simp at h0
        obtain ⟨n, hn⟩ := Int.eq_ofNat_of_zero_le hri.1
        have hnl : n < next.length := by omega
        obtain ⟨u, cu, hu⟩ := hcell n hnl
        have cu := cell_below (below1 HB) cu
        have hu := hu.below (below1 HB)
        clear hcell
        have hnx : next[L[i].toNat]? = some next[n] := by rw [hn]; exact List.getElem?_eq_getElem hnl
        have HNX := Lib.hid hnx
        have HN0 := Lib.hid hri.1
        rw [hn] at c1
        clear hnx hrg hri
        generalize hl0 : next[n] = l0 at *
        clear hl0 hn
        obtain ⟨Au, ku, rfl, _, _, hru⟩ := rd_int hu
        have i0 : (0 : Int) ≤ (i : Int) := Int.natCast_nonneg _
        have i1 : (i : Int) < (L.length : Int) := by omega
        have i2 : (0 : Int) ≤ (n : Int) := Int.natCast_nonneg _
        have i3 : (n : Int) < (next.length : Int) := by omega
        go_wp2
        go_quiet (fail)
        go_wp2
        have HW0 : Hid (WIn next gone L i 0 l0) := Lib.hid ⟨HW.out, hlt, HNX.out, HN0.out, fun x hx => by simp at hx⟩
        have HBd := below_drewN HB nq
        have HOd := HO.move (w' := wo.drewN nq) (fun _ _ _ => rfl)
        have hud := hu.move (w := wo) (w' := wo.drewN nq) (fun _ _ _ => rfl)
        clear c1 cu hu hru HO HB HW x1 x10 f1 b1
        generalize wo.drewN nq = W1 at *
        go_loopw [5, 27] (fun sv m wr => ∃ (m' : Nat) (L' : List Int), m' ≤ l0.length ∧ m = .int .i64 m' ∧ Ow true 3 Rp.int wr (fun q => w.heap.size + 1 ≤ q) sv L' ∧ Below (w.alloc (Obj.cells #[Value.slice (some ⟨b, o, none⟩) next.length c] 92)).heap.size (w.alloc (Obj.cells #[Value.slice (some ⟨b, o, none⟩) next.length c] 92)) wr ∧ Rp.Rd Rp.int wr (fun q => F q ∧ q < w.heap.size) (.slice Au l0.length ku) l0 ∧ Hid (WIn next gone L' i m' l0)) (fun _ m _ => l0.length - (intOf m).toNat)
        case atStart => exact ⟨0, L, Nat.zero_le _, rfl, HOd, HBd, hud, HW0⟩
        case round =>
          obtain ⟨m, L', hm, rfl, HO, HB, HU, HI⟩ := hrel
          clear HW0
          obtain ⟨Av', kv', rfl, hkv', hkm'⟩ := HO.form
          by_cases hmt : m < l0.length
          · obtain ⟨_, _, hAe, _, _, hAr⟩ := rd_int HU
            cases hAe
            rcases hAr with hAr | ⟨b2, o2, rfl, hb2, hc2⟩
            · rw [hAr] at hmt; simp at hmt
            have c2 := hc2 m hmt
            clear hc2
            have HSk := Lib.hid (fun h => HI.out.skip hmt h)
            have HPt := Lib.hid (fun h h' => HI.out.put hmt h h')
            have hLn' := ((HI.out.w.range HR.out h0).1)
            have HC0 := Lib.hid (l1Has_calls _ L' l0[m] wr HO.rd)
            generalize l0[m] = x at *
            have hB1 : w.heap.size + 1 ≤ wr.heap.size := by have := HB.size; simpa using this
            by_cases hxg : x = gone
            · have ht : (x != gone) = false := by simpa using hxg
              have HS := Lib.hid (HSk.out (.inl hxg))
              clear hxg
              go_wp2
              go_roundw
              case rel => exact ⟨m + 1, L', by omega, by go_num, HO, HB, HU, HS.out⟩
              case measure => simp [intOf]; omega
            · have ht : (x != gone) = true := by simpa using hxg
              by_cases hxl : x ∈ L'
              · have ht2 : L'.contains x = true := by simpa using hxl
                have HC := HC0.out
                rw [ht2] at HC
                replace HC := Lib.hid HC
                have HS := Lib.hid (HSk.out (.inr hxl))
                clear hxg hxl
                go_wp2_with fail
                refine HC.out.mono ?_
                rintro e w2 ⟨rfl, hb⟩
                have HO2 := HO.below hb
                have HB2 := HB.trans (hb.mono HB.size)
                have HU2 := HU.below hb
                go_wp2
                go_roundw
                case rel => exact ⟨m + 1, L', by omega, by go_num, HO2, HB2, HU2, HS.out⟩
                case measure => simp [intOf]; omega
              · have ht2 : L'.contains x = false := by simpa using hxl
                have HC := HC0.out
                rw [ht2] at HC
                replace HC := Lib.hid HC
                have HS := Lib.hid (HPt.out hxg hxl)
                clear hxg hxl
                go_wp2_with fail
                refine HC.out.mono ?_
                rintro e w2 ⟨rfl, hb⟩
                have HO2 := HO.below hb
                have HB2 := HB.trans (hb.mono HB.size)
                have HU2 := HU.below hb
                go_wp2_with ((at_builtin; refine ow_append1 (r := Rp.int) (e := 3) (G := fun _ => False) (by rfl) _ _ 59 (.int .i64 0) 8 (by rfl) Tryz.underlying59 infoInt rfl (by decide) (by omega) (.slice Av' L'.length kv') L' x [.int .i64 x] (by rfl) (by rfl) HO2 rfl (fun _ h => h.elim) (by omega) ?_; intro v1 w1 HO3 hg1; have HB3 := below_grown HB2 hg1 (fun q hq => by have := own_in HO2 (.inr hq); simpa using this) HB2.size; have HU3 := HU2.move (fun q hq hlt => hg1.block q hlt (own_ne HO2 (fun h => by have := hq.2; omega))); obtain ⟨Bv, dv, rfl, _, _⟩ := HO3.form1))
                go_roundw
                case rel => exact ⟨m + 1, L' ++ [x], by omega, by go_num, HO3.mono (fun q hq => by have hz2 := hb.size; rcases hq with hq | hq | hq; exact hq; exact hq.elim; omega), HB3, HU3, HS.out⟩
                case measure => simp [intOf]; omega
          · obtain rfl : m = l0.length := by omega
            have HN : Hid (WInv next gone L' (i + 1)) := Lib.hid (HI.out.w.next HI.out.h HI.out.nx (by have := HI.out.al; rwa [List.take_length] at this))
            have hLn' := ((HI.out.w.range HR.out h0).1)
            have hih := HI.out.h
            go_wp2
            go_roundw
            case rel => exact ⟨i + 1, L', by go_num, HO, HB, HN.out⟩
            case measure => simp [intOf]; omega
      · obtain rfl : i = L.length := by omega
        have HD : Hid (L.Nodup ∧ ∀ k, k ∈ L ↔ Rch next (fun x => x ≠ gone) 0 k) := Lib.hid ⟨HW.out.nd, HW.out.done⟩
        clear HW
        go_wp2
        go_ret
        exact ⟨_, L, rfl, HO.mono (fun q hq => by omega), below1 HB, HD⟩
end Go.Proofs.YtnfaibenekninaaGreat.L
