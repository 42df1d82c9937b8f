/- Joined texts, each of which was built by itself: Se1. -/
import Derived.Test.YtmcnoeinjocimaaFSplitEdges3
import Derived.Test.YtmcnoeinjocimaaFSplitEdges2
set_option linter.unusedVariables false
set_option linter.unusedSimpArgs false
namespace Go.Proofs.Ytmcnoeinjocimaa.L
open Go.RowKit
theorem Chg.trans2 {A B : Nat → Prop} {w w1 w2 : World} (h : Chg A w w1) (k : Chg B w1 w2) (hB : ∀ q, B q → A q ∨ w.heap.size ≤ q) : Chg A w w2 :=
  ⟨k.os.trans h.os, k.tape.trans h.tape, k.output.trans h.output, Nat.le_trans h.size k.size, fun q hq hA => (k.block q (Nat.lt_of_lt_of_le hq h.size) (fun hb => by rcases hB q hb with h1 | h1; exact hA h1; omega)).trans (h.block q hq hA)⟩
theorem Chg.of_grown {w w1 : World} {row : Option Nat} (h : w.grownBy w1 row) : Chg (fun q => some q = row) w w1 := ⟨h.os, h.tape, h.output, h.size, fun q hq hn => h.block q hq hn⟩
/-- An ssa of one's own behind a pointer. -/
structure SeS (V : Int) (sb : Nat) (FO : Nat → Prop) (cur : List Pt) (Ap : Option Addr) (cp : Nat) (w : World) : Prop where
  hb : w.heap[sb]? = some (.cells #[.slice Ap cur.length cp, .int .i64 V] 29 (0, 0))
  ow : Ow true 54 partA w FO (.slice Ap cur.length cp) cur
theorem SeS.below {V : Int} {sb : Nat} {FO : Nat → Prop} {cur : List Pt} {Ap : Option Addr} {cp : Nat} {w w' : World} (h : SeS V sb FO cur Ap cp w) (hB : Below w.heap.size w w') : SeS V sb FO cur Ap cp w' := ⟨blk_below h.hb hB, h.ow.below hB⟩
/-- A part just made, with the one edge that it has. -/
structure NewP (wo wx : World) (nb ab eb : Nat) (tw : Int) (u : Value) : Prop where
  bw : Below wo.heap.size wo wx
  n0 : wx.heap[nb]? = some (.cells #[.int .i64 tw] 3 (0, 0))
  a0 : wx.heap[ab]? = some (.cells #[u] 35 (0, 0))
  e0 : wx.heap[eb]? = some (.cells #[.slice none 0 0, .slice none 0 0, .int .i64 1, .int .i64 0, .slice (some ⟨nb, 0, none⟩) 1 1, .slice (some ⟨ab, 0, none⟩) 1 1] 54 (0, 0))
  ge : wo.heap.size ≤ nb ∧ wo.heap.size ≤ ab ∧ wo.heap.size ≤ eb
  ne : nb ≠ ab ∧ nb ≠ eb ∧ ab ≠ eb
set_option maxRecDepth 100000 in
set_option maxHeartbeats 16000000 in
theorem splitEdges_calls {F : Nat → Prop} (s : Sa) (sb : Nat) (vp : Value) (w : World) (hb0 : w.heap[sb]? = some (.cells #[vp, .int .i64 s.values] 29 (0, 0))) (hO0 : Ow true 54 partA w F vp s.parts) (hF : ¬ F sb) (hg : GoodP s) :
    Calls Try.prog 66 #[.pointer (some ⟨sb, 0, none⟩)] w fun e w' => ∃ Ap cp, e = .returned (.int .i64 (splitN s : Nat)) ∧ SeS s.values sb (fun q => q ≠ sb ∧ (F q ∨ w.heap.size ≤ q)) (splitS s).parts Ap cp w' ∧ Chg (fun q => q = sb ∨ F q) w w' := by
  obtain ⟨A0, c0, rfl, _, _⟩ := hO0.form
  have hn1 := hg.n1
  have hn2 := hg.n2
  have hsb := blk_lt hb0
  have HG := Lib.hid hg
  have HSS : Hid ((splitS s).parts = (splitK s.parts s.parts.length).1 ++ (splitK s.parts s.parts.length).2 ∧ splitN s = (splitK s.parts s.parts.length).2.length) := Lib.hid ⟨rfl, rfl⟩
  clear hg
  obtain ⟨ps, hps⟩ : ∃ ps, ps = s.parts := ⟨_, rfl⟩
  obtain ⟨V, hV⟩ : ∃ V, V = s.values := ⟨_, rfl⟩
  have hS0 : SeS V sb (fun q => q ≠ sb ∧ (F q ∨ w.heap.size ≤ q)) ((splitK ps 0).1 ++ (splitK ps 0).2) A0 c0 w := by
    have e : (splitK ps 0).1 ++ (splitK ps 0).2 = s.parts := by rw [hps]; simp [splitK]
    rw [e, hV]
    exact ⟨hb0, hO0.mono (fun q hq => ⟨fun he => hF (he ▸ hq), .inl hq⟩)⟩
  obtain ⟨x1, _⟩ := cell_of_block hb0
  have x10 : w.cell? ⟨sb, 0, none⟩ = some (.slice A0 s.parts.length c0) := (x1 0).trans rfl
  rw [← hps] at HSS x10 hn1 hn2
  rw [← hV]
  have HPS := Lib.hid hps
  have HV := Lib.hid hV
  clear x1 hps hV hb0 hO0
  obtain ⟨FO, hFO⟩ : ∃ FO : Nat → Prop, FO = (fun q => q ≠ sb ∧ (F q ∨ w.heap.size ≤ q)) := ⟨_, rfl⟩
  rw [← hFO] at hS0 ⊢
  have HFO : Hid (∀ q, FO q ↔ (q ≠ sb ∧ (F q ∨ w.heap.size ≤ q))) := Lib.hid (fun q => by rw [hFO])
  clear hFO
  go_enter Try.func66, Try.ntmps66
  go_upto_region 1 with fail
  go_cut [3, 4] from 9 to 13 (fun m l wx => m = .int .i64 0 ∧ l = .int .i64 ps.length ∧ wx = w.drew)
  case first =>
    go_region
    all_goals (go_wp2_with fail; go_meet; exact ⟨rfl, rfl, rfl⟩)
  case rest =>
    obtain ⟨rfl, rfl, rfl⟩ := hcut
    clear x10
    have hS0 := hS0.below (below_drew (Below.refl _ _))
    have hC0 : Chg (fun q => q = sb ∨ F q) w w.drew := Chg.of_below (below_drew (Below.refl _ _))
    generalize w.drew = wd at *
    go_wp2_with fail
    go_loopw [3, 15] (fun m i wr => ∃ (k : Nat) (Ap : Option Addr) (cp : Nat), k ≤ ps.length ∧ m = .int .i64 ((splitK ps k).2.length : Nat) ∧ i = .int .i64 k ∧ SeS V sb FO ((splitK ps k).1 ++ (splitK ps k).2) Ap cp wr ∧ Chg (fun q => q = sb ∨ F q) w wr) (fun _ i _ => ps.length - (intOf i).toNat)
    case atStart => exact ⟨0, A0, c0, Nat.zero_le _, by simp [splitK], rfl, hS0, hC0⟩
    case round =>
      clear hS0 hC0
      obtain ⟨k, Ap, cp, hk, rfl, rfl, HS, HC⟩ := hrel
      rename World => wo
      by_cases hkt : k < ps.length
      · have hp : ps[k]? = some ps[k] := List.getElem?_eq_getElem hkt
        obtain ⟨p, hpe⟩ : ∃ p, p = ps[k] := ⟨_, rfl⟩
        rw [← hpe] at hp
        clear hpe
        have hp' : s.parts[k]? = some p := by rw [← HPS.out]; exact hp
        have HP := Lib.hid hp'
        have hLl := (splitK_inv ps k).1
        have HLk := Lib.hid ((splitK_inv ps k).2 k (Nat.le_refl _))
        have HLs := Lib.hid (splitK_set hp)
        have HKs := Lib.hid (splitK_succ hp)
        have hpok := HG.out.ptOk (List.mem_of_getElem? hp')
        have hpn := hpok.2.2.1
        have hpa : p.next.length ≤ p.args.length := static_args (HG.out.static (List.mem_of_getElem? hp'))
        have HI := Lib.hid (fun i => (splitP_inv ps p (splitK ps k).2 i).1)
        have HNo : Hid (∀ i, i ≤ p.next.length → (∀ q ∈ (splitK ps k).1.set k (splitP ps p (splitK ps k).2 i).1 ++ (splitP ps p (splitK ps k).2 i).2, PtOk q) ∧ (splitP ps p (splitK ps k).2 i).2.length ≤ 120) := Lib.hid (fun i hi => by rw [HPS.out]; exact now_ok HG.out hp' hi)
        have HCr : Hid (∀ i, i < p.next.length → critB ((splitK ps k).1.set k (splitP ps p (splitK ps k).2 i).1 ++ (splitP ps p (splitK ps k).2 i).2) (splitP ps p (splitK ps k).2 i).1 i = critB ps p i) := Lib.hid (fun i hi => by rw [HPS.out]; exact crit_now HG.out hp' hi (splitP_edges0 hp' (by omega)))
        have HSt : Hid (∀ i, splitP ps p (splitK ps k).2 (i + 1) = stepSp ps p (splitP ps p (splitK ps k).2 i) i) := Lib.hid (fun i => rfl)
        have H0 : Hid (splitP ps p (splitK ps k).2 0 = (p, (splitK ps k).2)) := Lib.hid rfl
        clear hp hp' hpok
        obtain ⟨L, hL⟩ : ∃ L, L = (splitK ps k).1 := ⟨_, rfl⟩
        obtain ⟨E0, hE⟩ : ∃ E0, E0 = (splitK ps k).2 := ⟨_, rfl⟩
        rw [← hL, ← hE] at HS
        rw [← hL] at hLl HLk HLs HKs HNo HCr
        rw [← hE] at HKs HI HNo HCr HSt H0 ⊢
        clear hL hE
        have hkl : k < L.length := by omega
        have hLkk : (L ++ E0)[k]'(by rw [List.length_append]; omega) = p := by
          have h1 := HLk.out
          rw [List.getElem_append_left hkl]
          rw [List.getElem?_eq_getElem hkl] at h1
          exact Option.some.inj (h1.trans (by rw [HPS.out]; exact HP.out))
        have hkc : k < (L ++ E0).length := by rw [List.length_append]; omega
        obtain ⟨g, c', he, _, _⟩ := Ow.some_form HS.ow (by omega)
        injection he with he1 _ he3
        subst he1
        subst he3
        obtain ⟨Fr, Gk, us, hFr, hGk, hK, H0'⟩ := HS.ow.hole hkc
        rw [hLkk] at hK
        obtain ⟨_, _, _, _, _, _, _, _, _, _, _, _, _, _, _, _, _, _, rfl, _, _, k3, _⟩ := partA_open hK
        obtain ⟨An, cn, rfl, _, _⟩ := k3.form
        have x4 := H0'.cellj 4 partA_sz rfl
        obtain ⟨x1, _⟩ := cell_of_block HS.hb
        have x10 : wo.cell? ⟨sb, 0, none⟩ = some (.slice (some ⟨g, 0, none⟩) (L ++ E0).length cp) := (x1 0).trans rfl
        have m0 : (0 : Int) ≤ (k : Int) := Int.natCast_nonneg _
        have m1 : (k : Int) < (ps.length : Int) := by omega
        have m2 : (k : Int) < ((L ++ E0).length : Int) := by omega
        have HLn := Lib.hid hLkk
        clear x1 H0' k3 hK hGk hFr hLkk
        obtain ⟨nc, hnc⟩ : ∃ nc, nc = (L ++ E0).length := ⟨_, rfl⟩
        rw [← hnc] at x10 m2
        replace hnc := Lib.hid hnc
        have hE0 : E0.length = (splitP ps p E0 0).2.length := by rw [H0.out]
        have hS1 : SeS V sb FO (L.set k (splitP ps p E0 0).1 ++ (splitP ps p E0 0).2) (some ⟨g, 0, none⟩) cp wo := by rw [H0.out]; dsimp only; rw [HLs.out]; exact HS
        replace hLl := Lib.hid hLl
        replace hE0 := Lib.hid hE0
        clear HS hkl hkc
        go_wp2_with fail
        clear x4 x10
        go_loopw [3, 27] (fun m i wr => ∃ (i0 : Nat) (Ap : Option Addr) (cp : Nat), i0 ≤ p.next.length ∧ m = .int .i64 ((splitP ps p E0 i0).2.length : Nat) ∧ i = .int .i64 i0 ∧ SeS V sb FO (L.set k (splitP ps p E0 i0).1 ++ (splitP ps p E0 i0).2) Ap cp wr ∧ Chg (fun q => q = sb ∨ F q) w wr) (fun _ i _ => p.next.length - (intOf i).toNat)
        case atStart => exact ⟨0, _, _, Nat.zero_le _, by rw [← hE0.out], rfl, hS1, HC⟩
        case round =>
          clear hS1 HC
          obtain ⟨i, Ap, cp, hi, rfl, rfl, HS, HC⟩ := hrel
          rename World => wx
          by_cases hit : i < p.next.length
          · obtain ⟨hok, hE120⟩ := HNo.out i hi
            have HI1 := HI.out i
            have HCr1 := HCr.out i hit
            have HSt1 := HSt.out i
            obtain ⟨P, hP⟩ : ∃ P, P = (splitP ps p E0 i).1 := ⟨_, rfl⟩
            obtain ⟨E, hE⟩ : ∃ E, E = (splitP ps p E0 i).2 := ⟨_, rfl⟩
            have hst : splitP ps p E0 (i + 1) = if critB ps p i = true then (setNA P i ((ps.length + E.length : Nat) : Int), E ++ [extraP (p.next.getD i 0) (p.args.getD i [])]) else (P, E) := by rw [HSt1]; unfold stepSp; rw [hP, hE]
            rw [← hP, ← hE] at HS hok HCr1
            rw [← hP] at HI1
            rw [← hE] at hE120
            rw [← hE]
            clear hP hE HSt1
            have hkL : k < L.length := by have := hLl.out; omega
            have hcl : (L.set k P ++ E).length = ps.length + E.length := by rw [List.length_append, List.length_set]; have := hLl.out; omega
            have hkc : k < (L.set k P ++ E).length := by omega
            have hck : (L.set k P ++ E)[k]? = some P := by rw [List.getElem?_append_left (by rw [List.length_set]; exact hkL), List.getElem?_set_self hkL]
            have hcs : Hid (∀ y, (L.set k P ++ E).set k y = L.set k y ++ E) := Lib.hid (fun y => by rw [List.set_append_left _ _ (by rw [List.length_set]; exact hkL), List.set_set])
            have hPn := HI1.nl
            have hPa := HI1.al
            have eN : p.next.getD i 0 = P.next[i]'(by omega) := by
              have := HI1.nx i (Nat.le_refl _)
              rw [List.getD_eq_getElem?_getD, ← this, List.getElem?_eq_getElem (by omega)]; rfl
            have eA : p.args.getD i [] = P.args[i]'(by omega) := by
              have := HI1.ar i (Nat.le_refl _)
              rw [List.getD_eq_getElem?_getD, ← this, List.getElem?_eq_getElem (by omega)]; rfl
            rw [eN, eA] at hst
            replace hst := Lib.hid hst
            clear eN eA
            obtain ⟨cur, hcur⟩ : ∃ cur, cur = L.set k P ++ E := ⟨_, rfl⟩
            have HcE : Hid (cur = L.set k P ++ E) := Lib.hid hcur
            simp only [← hcur] at hck HS hok HCr1 hcs hkc hcl
            clear hcur
            have hck : cur[k] = P := by rw [List.getElem?_eq_getElem hkc] at hck; exact Option.some.inj hck
            have hckH := Lib.hid hck
            have HCc := Lib.hid (fun W (hW : Below wx.heap.size wx W) => by
              have h := critI_calls ⟨cur, V⟩ k i sb (.slice Ap cur.length cp) W (blk_below HS.hb hW) ((partA_le.rd HS.ow.rd).below hW) hkc (by show i < cur[k].next.length; rw [hck]; omega) (by show i < cur[k].args.length; rw [hck]; omega) (by show cur.length ≤ _; omega) (fun q hq => (hok q hq).lim.2.2.1)
              rw [show critB (Sa.mk cur V).parts (Sa.mk cur V).parts[k] i = critB ps p i from by show critB cur cur[k] i = _; rw [hck]; exact HCr1] at h
              exact h)
            clear hck HCr1 hok
            have i0 : (0 : Int) ≤ (i : Int) := Int.natCast_nonneg _
            have i1 : (i : Int) < (p.next.length : Int) := by omega
            go_wp2_with fail
            refine (HCc.out _ (Below.refl _ _)).mono ?_
            rintro e w1 ⟨rfl, hb1⟩
            have HS1 := HS.below hb1
            have HC1 := HC.trans (Chg.of_below hb1)
            clear HCc HS HC hb1
            cases hcb : critB ps p i
            · have hst2 : Hid (splitP ps p E0 (i + 1) = (P, E)) := Lib.hid (by rw [hst.out, hcb]; rfl)
              clear hcb hst
              go_wp2_with fail
              go_roundw
              case rel => exact ⟨i + 1, Ap, cp, by omega, by rw [hst2.out], by go_num, by rw [hst2.out]; dsimp only; rw [← HcE.out]; exact HS1, HC1⟩
              case measure => first | (simp [intOf]; done) | (simp [intOf]; omega)
            · have hst2 : Hid (splitP ps p E0 (i + 1) = (setNA P i ((ps.length + E.length : Nat) : Int), E ++ [extraP (P.next[i]'(by omega)) (P.args[i]'(by omega))])) := Lib.hid (by rw [hst.out, hcb]; rfl)
              clear hcb hst
              have hPi : i < P.next.length := by omega
              have hPj : i < P.args.length := by omega
              have hkc1 : k < cur.length := hkc
              obtain ⟨g1, c1', he, _, _⟩ := Ow.some_form HS1.ow (by omega)
              injection he with he1 _ he3
              subst he1
              subst he3
              have hHO := HS1.ow.bound
              obtain ⟨Fr, Gk, us, hFr, hGk, hK, H0'⟩ := hHO.hole hkc
              rw [hckH.out] at hK
              obtain ⟨G0, G1, G2, G3, e0, e1, e2, e3, d01, d02, d03, d12, d13, d23, vp1, vc1, vn1, va1, rfl, k1, k2, k3, k4⟩ := partA_open hK
              obtain ⟨gn, cn1, rfl, _, _⟩ := Ow.some_form k3 (by omega)
              obtain ⟨ga, ca1, rfl, _, _⟩ := Ow.some_form k4 (by omega)
              obtain ⟨xn, fn⟩ := k3.int_at hPi
              obtain ⟨Fr4, Gk4, us4, hFr4, hGk4, hK4, H4⟩ := k4.hole hPj
              obtain ⟨u, rfl, hOu⟩ := hK4
              have xa := H4.cell1 rfl rfl
              have fa := H4.free i
              obtain ⟨Au, cu, rfl, _, _⟩ := hOu.form
              obtain ⟨tw, htw⟩ : ∃ tw, tw = P.next[i]'(by omega) := ⟨_, rfl⟩
              obtain ⟨al, hal⟩ : ∃ al, al = P.args[i]'(by omega) := ⟨_, rfl⟩
              rw [← htw] at xn hst2
              rw [← hal] at xa hst2 hOu
              clear htw hal
              have x4 := H0'.cellj 4 partA_sz rfl
              have x5 := H0'.cellj 5 partA_sz rfl
              obtain ⟨y1, y2⟩ := cell_of_block HS1.hb
              have xs : w1.cell? ⟨sb, 0, none⟩ = some (.slice (some ⟨g1, 0, none⟩) cur.length cp) := (y1 0).trans rfl
              clear y1 y2
              have j0 : (0 : Int) ≤ (k : Int) := Int.natCast_nonneg _
              have j1 : (k : Int) < (cur.length : Int) := by omega
              have j2 : (i : Int) < (P.next.length : Int) := by omega
              have j3 : (i : Int) < (P.args.length : Int) := by omega
              replace hPn := Lib.hid hPn
              replace hPa := Lib.hid hPa
              replace hcl := Lib.hid hcl
              have xH := Lib.hid (And.intro x4 (And.intro x5 xs))
              go_upto_region 10 with fail
              go_cut [8] from 28 to 87 (fun s8 wx => ∃ nb ab eb : Nat, s8 = .pointer (some ⟨eb, 0, none⟩) ∧ NewP w1 wx nb ab eb tw (.slice Au al.length cu))
              case first =>
                refine anyT_region [(18, fun w' => w'.cell? ⟨g1, k * 6 + 4, none⟩ = some (.slice (some ⟨gn, 0, none⟩) P.next.length cn1) ∧ w'.cell? ⟨g1, k * 6 + 5, none⟩ = some (.slice (some ⟨ga, 0, none⟩) P.args.length ca1) ∧ w'.cell? ⟨gn, i, none⟩ = some (.int .i64 tw) ∧ w'.cell? ⟨ga, i, none⟩ = some (.slice Au al.length cu))] (by kernel_rfl) ⟨fun _ => ⟨x4, x5, xn, xa⟩, trivial⟩ (fun hC0 => ?_)
                refine anyT_pure (i := 0) (v := ?_) rfl (by kernel_rfl) (by kernel_rfl) (by kernel_rfl) (fun _ _ _ h => h) (Or.inl ⟨by rfl, ?_⟩) (by assumption) ?_
                rotate_left 1
                focus ((intro w hSw; (try dsimp only at hSw); go_simp); try with_reducible rfl)
                try simp only [Act.put, Array.getInternal_eq_getElem, List.getElem_toArray, List.getElem_cons_zero, List.getElem_cons_succ, List.setIfInBounds_toArray, List.set_cons_zero, List.set_cons_succ]
                refine anyT_pure (i := 1) (v := ?_) rfl (by kernel_rfl) (by kernel_rfl) (by kernel_rfl) (fun _ _ _ h => h) (Or.inl ⟨by rfl, ?_⟩) (by assumption) ?_
                rotate_left 1
                focus ((intro w hSw; (try dsimp only at hSw); go_simp); try with_reducible rfl)
                try simp only [Act.put, Array.getInternal_eq_getElem, List.getElem_toArray, List.getElem_cons_zero, List.getElem_cons_succ, List.setIfInBounds_toArray, List.set_cons_zero, List.set_cons_succ]
                refine anyT_pure (i := 2) (v := ?_) rfl (by kernel_rfl) (by kernel_rfl) (by kernel_rfl) (fun _ _ _ h => h) (Or.inl ⟨by rfl, ?_⟩) (by assumption) ?_
                rotate_left 1
                focus ((intro w hSw; (try dsimp only at hSw); go_simp); try with_reducible rfl)
                try simp only [Act.put, Array.getInternal_eq_getElem, List.getElem_toArray, List.getElem_cons_zero, List.getElem_cons_succ, List.setIfInBounds_toArray, List.set_cons_zero, List.set_cons_succ]
                refine anyT_pure (i := 4) (v := ?_) rfl (by kernel_rfl) (by kernel_rfl) (by kernel_rfl) (fun _ _ _ h => h) (Or.inl ⟨by rfl, ?_⟩) (by assumption) ?_
                rotate_left 1
                focus ((intro w hSw; (try dsimp only at hSw); go_simp); try with_reducible rfl)
                try simp only [Act.put, Array.getInternal_eq_getElem, List.getElem_toArray, List.getElem_cons_zero, List.getElem_cons_succ, List.setIfInBounds_toArray, List.set_cons_zero, List.set_cons_succ]
                refine anyT_pure (i := 8) (v := ?_) rfl (by kernel_rfl) (by kernel_rfl) (by kernel_rfl) (fun _ _ _ h => h) (Or.inl ⟨by rfl, ?_⟩) (by assumption) ?_
                rotate_left 1
                focus ((intro w hSw; (try dsimp only at hSw); go_simp); try with_reducible rfl)
                try simp only [Act.put, Array.getInternal_eq_getElem, List.getElem_toArray, List.getElem_cons_zero, List.getElem_cons_succ, List.setIfInBounds_toArray, List.set_cons_zero, List.set_cons_succ]
                refine anyT_pure (i := 9) (v := ?_) rfl (by kernel_rfl) (by kernel_rfl) (by kernel_rfl) (fun _ _ _ h => h) (Or.inl ⟨by rfl, ?_⟩) (by assumption) ?_
                rotate_left 1
                focus ((intro w hSw; (try dsimp only at hSw); go_simp); try with_reducible rfl)
                try simp only [Act.put, Array.getInternal_eq_getElem, List.getElem_toArray, List.getElem_cons_zero, List.getElem_cons_succ, List.setIfInBounds_toArray, List.set_cons_zero, List.set_cons_succ]
                refine anyT_pure (i := 10) (v := ?_) rfl (by kernel_rfl) (by kernel_rfl) (by kernel_rfl) (fun _ _ _ h => h) (Or.inl ⟨by rfl, ?_⟩) (by assumption) ?_
                rotate_left 1
                focus ((intro w hSw; (try dsimp only at hSw); go_simp); try with_reducible rfl)
                try simp only [Act.put, Array.getInternal_eq_getElem, List.getElem_toArray, List.getElem_cons_zero, List.getElem_cons_succ, List.setIfInBounds_toArray, List.set_cons_zero, List.set_cons_succ]
                refine anyT_pure (i := 12) (v := ?_) rfl (by kernel_rfl) (by kernel_rfl) (by kernel_rfl) (fun _ _ _ h => h) (Or.inl ⟨by rfl, ?_⟩) (by assumption) ?_
                rotate_left 1
                focus ((intro w hSw; (try dsimp only at hSw); go_simp); try with_reducible rfl)
                try simp only [Act.put, Array.getInternal_eq_getElem, List.getElem_toArray, List.getElem_cons_zero, List.getElem_cons_succ, List.setIfInBounds_toArray, List.set_cons_zero, List.set_cons_succ]
                refine anyT_take (k := 0) (i := 3) (v := ?_) rfl rfl (by kernel_rfl) (by kernel_rfl) (by kernel_rfl) (fun _ _ _ h => h) (Or.inl ⟨by rfl, ?_⟩) (by assumption) ?_
                rotate_left 1
                focus ((intro w hSw; (try dsimp only at hSw); go_simp); try with_reducible rfl)
                try simp only [Act.put, Array.getInternal_eq_getElem, List.getElem_toArray, List.getElem_cons_zero, List.getElem_cons_succ, List.setIfInBounds_toArray, List.set_cons_zero, List.set_cons_succ]
                refine anyT_take (k := 0) (i := 11) (v := ?_) rfl rfl (by kernel_rfl) (by kernel_rfl) (by kernel_rfl) (fun _ _ _ h => h) (Or.inl ⟨by rfl, ?_⟩) (by assumption) ?_
                rotate_left 1
                focus ((intro w hSw; (try dsimp only at hSw); go_simp); try with_reducible rfl)
                try simp only [Act.put, Array.getInternal_eq_getElem, List.getElem_toArray, List.getElem_cons_zero, List.getElem_cons_succ, List.setIfInBounds_toArray, List.set_cons_zero, List.set_cons_succ]
                refine anyT_pure (i := 5) (v := ?_) rfl (by kernel_rfl) (by kernel_rfl) (by kernel_rfl) (fun _ _ _ h => h) (Or.inl ⟨by rfl, ?_⟩) (by assumption) ?_
                rotate_left 1
                focus ((intro w hSw; (try dsimp only at hSw); go_simp); try with_reducible rfl)
                try simp only [Act.put, Array.getInternal_eq_getElem, List.getElem_toArray, List.getElem_cons_zero, List.getElem_cons_succ, List.setIfInBounds_toArray, List.set_cons_zero, List.set_cons_succ]
                refine anyT_pure (i := 13) (v := ?_) rfl (by kernel_rfl) (by kernel_rfl) (by kernel_rfl) (fun _ _ _ h => h) (Or.inl ⟨by rfl, ?_⟩) (by assumption) ?_
                rotate_left 1
                focus ((intro w hSw; (try dsimp only at hSw); go_simp); try with_reducible rfl)
                try simp only [Act.put, Array.getInternal_eq_getElem, List.getElem_toArray, List.getElem_cons_zero, List.getElem_cons_succ, List.setIfInBounds_toArray, List.set_cons_zero, List.set_cons_succ]
                refine anyT_take (k := 0) (i := 6) (v := ?_) rfl rfl (by kernel_rfl) (by kernel_rfl) (by kernel_rfl) (fun _ _ _ h => h) (Or.inl ⟨by rfl, ?_⟩) (by assumption) ?_
                rotate_left 1
                focus ((intro w hSw; (try dsimp only at hSw); go_simp); try with_reducible rfl)
                try simp only [Act.put, Array.getInternal_eq_getElem, List.getElem_toArray, List.getElem_cons_zero, List.getElem_cons_succ, List.setIfInBounds_toArray, List.set_cons_zero, List.set_cons_succ]
                refine anyT_take (k := 0) (i := 14) (v := ?_) rfl rfl (by kernel_rfl) (by kernel_rfl) (by kernel_rfl) (fun _ _ _ h => h) (Or.inl ⟨by rfl, ?_⟩) (by assumption) ?_
                rotate_left 1
                focus ((intro w hSw; (try dsimp only at hSw); go_simp); try with_reducible rfl)
                try simp only [Act.put, Array.getInternal_eq_getElem, List.getElem_toArray, List.getElem_cons_zero, List.getElem_cons_succ, List.setIfInBounds_toArray, List.set_cons_zero, List.set_cons_succ]
                have c4 : w1.drew.cell? ⟨g1, k * 6 + 4, none⟩ = some (.slice (some ⟨gn, 0, none⟩) P.next.length cn1) := x4
                have c5 : w1.drew.cell? ⟨g1, k * 6 + 5, none⟩ = some (.slice (some ⟨ga, 0, none⟩) P.args.length ca1) := x5
                have cn0 : w1.drew.cell? ⟨gn, i, none⟩ = some (.int .i64 tw) := xn
                have ca0 : w1.drew.cell? ⟨ga, i, none⟩ = some (.slice Au al.length cu) := xa
                have HBw : Below w1.heap.size w1 w1.drew := below_drew (Below.refl _ _)
                have hzw : w1.heap.size ≤ w1.drew.heap.size := Nat.le_refl _
                clear x4 x5 xn xa xs hC0
                generalize w1.drew = V0 at *
                refine anyT_ready (rs := [7, 15, 17]) (by kernel_rfl) (by simp) ?_
                refine AllT.cons rfl (fun K1 hK1 => ?_) (AllT.cons rfl (fun K1 hK1 => ?_) (AllT.cons rfl (fun K1 hK1 => ?_) AllT.nil))
                · try simp only [Array.getInternal_eq_getElem, List.getElem_toArray, List.getElem_cons_zero, List.getElem_cons_succ]
                  go_simp
                  have hb := below_new (w := V0) (.cells #[.int .i64 tw] 3)
                  have Bnb := heap_alloc_new V0 (.cells #[.int .i64 tw] 3)
                  have hz : (V0.alloc (.cells #[.int .i64 tw] 3)).heap.size ≤ V0.heap.size + 1 ∧ V0.heap.size + 1 ≤ (V0.alloc (.cells #[.int .i64 tw] 3)).heap.size := by simp
                  refine hK1.out _ _ ⟨fun _ => ⟨cell_below hb c4, cell_below hb c5, cell_below hb cn0, cell_below hb ca0⟩, trivial⟩ (fun hT => ?_)
                  have c4 := cell_below hb c4
                  have c5 := cell_below hb c5
                  have cn0 := cell_below hb cn0
                  have ca0 := cell_below hb ca0
                  have HBw := below_then HBw hb
                  have Lnb : w1.heap.size ≤ V0.heap.size := by omega
                  clear hb hK1 K1
                  try simp only [Act.put, Array.getInternal_eq_getElem, List.getElem_toArray, List.getElem_cons_zero, List.getElem_cons_succ, List.setIfInBounds_toArray, List.set_cons_zero, List.set_cons_succ]
                  generalize V0.alloc (.cells #[.int .i64 tw] 3) = V1 at *
                  have hznb_1 : V0.heap.size < V1.heap.size := by omega
                  have hzw : w1.heap.size ≤ V1.heap.size := by omega
                  clear hz
                  generalize V0.heap.size = nb at *
                  refine anyT_ready (rs := [15, 17]) (by kernel_rfl) (by simp) ?_
                  refine AllT.cons rfl (fun K1 hK1 => ?_) (AllT.cons rfl (fun K1 hK1 => ?_) AllT.nil)
                  · try simp only [Array.getInternal_eq_getElem, List.getElem_toArray, List.getElem_cons_zero, List.getElem_cons_succ]
                    go_simp
                    have hb := below_new (w := V1) (.cells #[.slice Au al.length cu] 35)
                    have Bab := heap_alloc_new V1 (.cells #[.slice Au al.length cu] 35)
                    have hz : (V1.alloc (.cells #[.slice Au al.length cu] 35)).heap.size ≤ V1.heap.size + 1 ∧ V1.heap.size + 1 ≤ (V1.alloc (.cells #[.slice Au al.length cu] 35)).heap.size := by simp
                    refine hK1.out _ _ ⟨fun _ => ⟨cell_below hb c4, cell_below hb c5, cell_below hb cn0, cell_below hb ca0⟩, trivial⟩ (fun hT => ?_)
                    have c4 := cell_below hb c4
                    have c5 := cell_below hb c5
                    have cn0 := cell_below hb cn0
                    have ca0 := cell_below hb ca0
                    have Bnb := blk_below Bnb hb
                    have HBw := below_then HBw hb
                    have Lab : w1.heap.size ≤ V1.heap.size := by omega
                    have Mnbab : nb < V1.heap.size := hznb_1
                    clear hb hK1 K1
                    try simp only [Act.put, Array.getInternal_eq_getElem, List.getElem_toArray, List.getElem_cons_zero, List.getElem_cons_succ, List.setIfInBounds_toArray, List.set_cons_zero, List.set_cons_succ]
                    generalize V1.alloc (.cells #[.slice Au al.length cu] 35) = V2 at *
                    have hzab_2 : V1.heap.size < V2.heap.size := by omega
                    have hznb_2 : nb < V2.heap.size := by omega
                    have hzw : w1.heap.size ≤ V2.heap.size := by omega
                    clear hz
                    generalize V1.heap.size = ab at *
                    refine anyT_pure (i := 16) (v := ?_) rfl (by kernel_rfl) (by kernel_rfl) (by kernel_rfl) (fun _ _ _ h => h) (Or.inl ⟨by rfl, ?_⟩) (by assumption) ?_
                    rotate_left 1
                    focus ((intro w hSw; (try dsimp only at hSw); go_simp); try with_reducible rfl)
                    try simp only [Act.put, Array.getInternal_eq_getElem, List.getElem_toArray, List.getElem_cons_zero, List.getElem_cons_succ, List.setIfInBounds_toArray, List.set_cons_zero, List.set_cons_succ]
                    refine anyT_ready (rs := [17]) (by kernel_rfl) (by simp) ?_
                    refine AllT.cons rfl (fun K1 hK1 => ?_) AllT.nil
                    · try simp only [Array.getInternal_eq_getElem, List.getElem_toArray, List.getElem_cons_zero, List.getElem_cons_succ]
                      go_simp
                      have hb := below_new (w := V2) (.cells #[.slice none 0 0, .slice none 0 0, .int .i64 0, .int .i64 0, .slice none 0 0, .slice none 0 0] 54)
                      have Beb := heap_alloc_new V2 (.cells #[.slice none 0 0, .slice none 0 0, .int .i64 0, .int .i64 0, .slice none 0 0, .slice none 0 0] 54)
                      have hz : (V2.alloc (.cells #[.slice none 0 0, .slice none 0 0, .int .i64 0, .int .i64 0, .slice none 0 0, .slice none 0 0] 54)).heap.size ≤ V2.heap.size + 1 ∧ V2.heap.size + 1 ≤ (V2.alloc (.cells #[.slice none 0 0, .slice none 0 0, .int .i64 0, .int .i64 0, .slice none 0 0, .slice none 0 0] 54)).heap.size := by simp
                      refine hK1.out _ _ ⟨fun _ => ⟨cell_below hb c4, cell_below hb c5, cell_below hb cn0, cell_below hb ca0⟩, trivial⟩ (fun hT => ?_)
                      have c4 := cell_below hb c4
                      have c5 := cell_below hb c5
                      have cn0 := cell_below hb cn0
                      have ca0 := cell_below hb ca0
                      have Bnb := blk_below Bnb hb
                      have Bab := blk_below Bab hb
                      have HBw := below_then HBw hb
                      have Leb : w1.heap.size ≤ V2.heap.size := by omega
                      have Mnbeb : nb < V2.heap.size := hznb_2
                      have Mabeb : ab < V2.heap.size := hzab_2
                      clear hb hK1 K1
                      try simp only [Act.put, Array.getInternal_eq_getElem, List.getElem_toArray, List.getElem_cons_zero, List.getElem_cons_succ, List.setIfInBounds_toArray, List.set_cons_zero, List.set_cons_succ]
                      generalize V2.alloc (.cells #[.slice none 0 0, .slice none 0 0, .int .i64 0, .int .i64 0, .slice none 0 0, .slice none 0 0] 54) = V3 at *
                      have hzeb_3 : V2.heap.size < V3.heap.size := by omega
                      have hznb_3 : nb < V3.heap.size := by omega
                      have hzab_3 : ab < V3.heap.size := by omega
                      have hzw : w1.heap.size ≤ V3.heap.size := by omega
                      clear hz
                      generalize V2.heap.size = eb at *
                      obtain ⟨za, zb⟩ := cell_of_block Beb
                      have r0 : V3.cell? ⟨eb, 0, none⟩ = some (.slice none 0 0) := (za 0).trans rfl
                      have r1 : V3.cell? ⟨eb, 1, none⟩ = some (.slice none 0 0) := (za 1).trans rfl
                      have r2 : V3.cell? ⟨eb, 2, none⟩ = some (.int .i64 0) := (za 2).trans rfl
                      have r3 : V3.cell? ⟨eb, 3, none⟩ = some (.int .i64 0) := (za 3).trans rfl
                      have r4 : V3.cell? ⟨eb, 4, none⟩ = some (.slice none 0 0) := (za 4).trans rfl
                      have r5 : V3.cell? ⟨eb, 5, none⟩ = some (.slice none 0 0) := (za 5).trans rfl
                      have f0 := zb 0
                      have f1 := zb 1
                      have f2 := zb 2
                      have f3 := zb 3
                      have f4 := zb 4
                      have f5 := zb 5
                      clear za zb
                      refine anyT_ready (rs := [18]) (by kernel_rfl) (by simp) ?_
                      refine AllT.cons rfl (fun K1 hK1 => ?_) AllT.nil
                      try simp only [Array.getInternal_eq_getElem, List.getElem_toArray, List.getElem_cons_zero, List.getElem_cons_succ]
                      go_simp
                      refine hK1.out _ _ ⟨fun h => absurd h (by simp), trivial⟩ (fun hT => ?_)
                      clear hK1 K1
                      try simp only [Act.put, Array.getInternal_eq_getElem, List.getElem_toArray, List.getElem_cons_zero, List.getElem_cons_succ, List.setIfInBounds_toArray, List.set_cons_zero, List.set_cons_succ]
                      refine anyT_done (by kernel_rfl) ?_ _
                      clear r0 r1 r2 r3 r4 r5 f0 f1 f2 f3 f4 f5
                      go_wp2_with fail
                      go_meet
                      refine ⟨nb, ab, eb, rfl, ?_⟩
                      have hpr := putRow_same [.slice none 0 0, .slice none 0 0, .int .i64 1, .int .i64 0, .slice (some ⟨nb, 0, none⟩) 1 1, .slice (some ⟨ab, 0, none⟩) 1 1] eb V3 0
                      exact ⟨putRow_below HBw Leb [.slice none 0 0, .slice none 0 0, .int .i64 1, .int .i64 0, .slice (some ⟨nb, 0, none⟩) 1 1, .slice (some ⟨ab, 0, none⟩) 1 1] 0, (hpr.2 nb (by omega)).trans Bnb, (hpr.2 ab (by omega)).trans Bab, (blk_put (blk_put (blk_put (blk_put (blk_put (blk_put Beb 0 _) 1 _) 2 _) 3 _) 4 _) 5 _), ⟨Lnb, Lab, Leb⟩, ⟨by omega, by omega, by omega⟩⟩
                  · try simp only [Array.getInternal_eq_getElem, List.getElem_toArray, List.getElem_cons_zero, List.getElem_cons_succ]
                    go_simp
                    have hb := below_new (w := V1) (.cells #[.slice none 0 0, .slice none 0 0, .int .i64 0, .int .i64 0, .slice none 0 0, .slice none 0 0] 54)
                    have Beb := heap_alloc_new V1 (.cells #[.slice none 0 0, .slice none 0 0, .int .i64 0, .int .i64 0, .slice none 0 0, .slice none 0 0] 54)
                    have hz : (V1.alloc (.cells #[.slice none 0 0, .slice none 0 0, .int .i64 0, .int .i64 0, .slice none 0 0, .slice none 0 0] 54)).heap.size ≤ V1.heap.size + 1 ∧ V1.heap.size + 1 ≤ (V1.alloc (.cells #[.slice none 0 0, .slice none 0 0, .int .i64 0, .int .i64 0, .slice none 0 0, .slice none 0 0] 54)).heap.size := by simp
                    refine hK1.out _ _ ⟨fun _ => ⟨cell_below hb c4, cell_below hb c5, cell_below hb cn0, cell_below hb ca0⟩, trivial⟩ (fun hT => ?_)
                    have c4 := cell_below hb c4
                    have c5 := cell_below hb c5
                    have cn0 := cell_below hb cn0
                    have ca0 := cell_below hb ca0
                    have Bnb := blk_below Bnb hb
                    have HBw := below_then HBw hb
                    have Leb : w1.heap.size ≤ V1.heap.size := by omega
                    have Mnbeb : nb < V1.heap.size := hznb_1
                    clear hb hK1 K1
                    try simp only [Act.put, Array.getInternal_eq_getElem, List.getElem_toArray, List.getElem_cons_zero, List.getElem_cons_succ, List.setIfInBounds_toArray, List.set_cons_zero, List.set_cons_succ]
                    generalize V1.alloc (.cells #[.slice none 0 0, .slice none 0 0, .int .i64 0, .int .i64 0, .slice none 0 0, .slice none 0 0] 54) = V2 at *
                    have hzeb_2 : V1.heap.size < V2.heap.size := by omega
                    have hznb_2 : nb < V2.heap.size := by omega
                    have hzw : w1.heap.size ≤ V2.heap.size := by omega
                    clear hz
                    generalize V1.heap.size = eb at *
                    refine anyT_ready (rs := [15]) (by kernel_rfl) (by simp) ?_
                    refine AllT.cons rfl (fun K1 hK1 => ?_) AllT.nil
                    · try simp only [Array.getInternal_eq_getElem, List.getElem_toArray, List.getElem_cons_zero, List.getElem_cons_succ]
                      go_simp
                      have hb := below_new (w := V2) (.cells #[.slice Au al.length cu] 35)
                      have Bab := heap_alloc_new V2 (.cells #[.slice Au al.length cu] 35)
                      have hz : (V2.alloc (.cells #[.slice Au al.length cu] 35)).heap.size ≤ V2.heap.size + 1 ∧ V2.heap.size + 1 ≤ (V2.alloc (.cells #[.slice Au al.length cu] 35)).heap.size := by simp
                      refine hK1.out _ _ ⟨fun _ => ⟨cell_below hb c4, cell_below hb c5, cell_below hb cn0, cell_below hb ca0⟩, trivial⟩ (fun hT => ?_)
                      have c4 := cell_below hb c4
                      have c5 := cell_below hb c5
                      have cn0 := cell_below hb cn0
                      have ca0 := cell_below hb ca0
                      have Bnb := blk_below Bnb hb
                      have Beb := blk_below Beb hb
                      have HBw := below_then HBw hb
                      have Lab : w1.heap.size ≤ V2.heap.size := by omega
                      have Mnbab : nb < V2.heap.size := hznb_2
                      have Mebab : eb < V2.heap.size := hzeb_2
                      clear hb hK1 K1
                      try simp only [Act.put, Array.getInternal_eq_getElem, List.getElem_toArray, List.getElem_cons_zero, List.getElem_cons_succ, List.setIfInBounds_toArray, List.set_cons_zero, List.set_cons_succ]
                      generalize V2.alloc (.cells #[.slice Au al.length cu] 35) = V3 at *
                      have hzab_3 : V2.heap.size < V3.heap.size := by omega
                      have hznb_3 : nb < V3.heap.size := by omega
                      have hzeb_3 : eb < V3.heap.size := by omega
                      have hzw : w1.heap.size ≤ V3.heap.size := by omega
                      clear hz
                      generalize V2.heap.size = ab at *
                      refine anyT_pure (i := 16) (v := ?_) rfl (by kernel_rfl) (by kernel_rfl) (by kernel_rfl) (fun _ _ _ h => h) (Or.inl ⟨by rfl, ?_⟩) (by assumption) ?_
                      rotate_left 1
                      focus ((intro w hSw; (try dsimp only at hSw); go_simp); try with_reducible rfl)
                      try simp only [Act.put, Array.getInternal_eq_getElem, List.getElem_toArray, List.getElem_cons_zero, List.getElem_cons_succ, List.setIfInBounds_toArray, List.set_cons_zero, List.set_cons_succ]
                      obtain ⟨za, zb⟩ := cell_of_block Beb
                      have r0 : V3.cell? ⟨eb, 0, none⟩ = some (.slice none 0 0) := (za 0).trans rfl
                      have r1 : V3.cell? ⟨eb, 1, none⟩ = some (.slice none 0 0) := (za 1).trans rfl
                      have r2 : V3.cell? ⟨eb, 2, none⟩ = some (.int .i64 0) := (za 2).trans rfl
                      have r3 : V3.cell? ⟨eb, 3, none⟩ = some (.int .i64 0) := (za 3).trans rfl
                      have r4 : V3.cell? ⟨eb, 4, none⟩ = some (.slice none 0 0) := (za 4).trans rfl
                      have r5 : V3.cell? ⟨eb, 5, none⟩ = some (.slice none 0 0) := (za 5).trans rfl
                      have f0 := zb 0
                      have f1 := zb 1
                      have f2 := zb 2
                      have f3 := zb 3
                      have f4 := zb 4
                      have f5 := zb 5
                      clear za zb
                      refine anyT_ready (rs := [18]) (by kernel_rfl) (by simp) ?_
                      refine AllT.cons rfl (fun K1 hK1 => ?_) AllT.nil
                      try simp only [Array.getInternal_eq_getElem, List.getElem_toArray, List.getElem_cons_zero, List.getElem_cons_succ]
                      go_simp
                      refine hK1.out _ _ ⟨fun h => absurd h (by simp), trivial⟩ (fun hT => ?_)
                      clear hK1 K1
                      try simp only [Act.put, Array.getInternal_eq_getElem, List.getElem_toArray, List.getElem_cons_zero, List.getElem_cons_succ, List.setIfInBounds_toArray, List.set_cons_zero, List.set_cons_succ]
                      refine anyT_done (by kernel_rfl) ?_ _
                      clear r0 r1 r2 r3 r4 r5 f0 f1 f2 f3 f4 f5
                      go_wp2_with fail
                      go_meet
                      refine ⟨nb, ab, eb, rfl, ?_⟩
                      have hpr := putRow_same [.slice none 0 0, .slice none 0 0, .int .i64 1, .int .i64 0, .slice (some ⟨nb, 0, none⟩) 1 1, .slice (some ⟨ab, 0, none⟩) 1 1] eb V3 0
                      exact ⟨putRow_below HBw Leb [.slice none 0 0, .slice none 0 0, .int .i64 1, .int .i64 0, .slice (some ⟨nb, 0, none⟩) 1 1, .slice (some ⟨ab, 0, none⟩) 1 1] 0, (hpr.2 nb (by omega)).trans Bnb, (hpr.2 ab (by omega)).trans Bab, (blk_put (blk_put (blk_put (blk_put (blk_put (blk_put Beb 0 _) 1 _) 2 _) 3 _) 4 _) 5 _), ⟨Lnb, Lab, Leb⟩, ⟨by omega, by omega, by omega⟩⟩
                · try simp only [Array.getInternal_eq_getElem, List.getElem_toArray, List.getElem_cons_zero, List.getElem_cons_succ]
                  go_simp
                  have hb := below_new (w := V0) (.cells #[.slice Au al.length cu] 35)
                  have Bab := heap_alloc_new V0 (.cells #[.slice Au al.length cu] 35)
                  have hz : (V0.alloc (.cells #[.slice Au al.length cu] 35)).heap.size ≤ V0.heap.size + 1 ∧ V0.heap.size + 1 ≤ (V0.alloc (.cells #[.slice Au al.length cu] 35)).heap.size := by simp
                  refine hK1.out _ _ ⟨fun _ => ⟨cell_below hb c4, cell_below hb c5, cell_below hb cn0, cell_below hb ca0⟩, trivial⟩ (fun hT => ?_)
                  have c4 := cell_below hb c4
                  have c5 := cell_below hb c5
                  have cn0 := cell_below hb cn0
                  have ca0 := cell_below hb ca0
                  have HBw := below_then HBw hb
                  have Lab : w1.heap.size ≤ V0.heap.size := by omega
                  clear hb hK1 K1
                  try simp only [Act.put, Array.getInternal_eq_getElem, List.getElem_toArray, List.getElem_cons_zero, List.getElem_cons_succ, List.setIfInBounds_toArray, List.set_cons_zero, List.set_cons_succ]
                  generalize V0.alloc (.cells #[.slice Au al.length cu] 35) = V1 at *
                  have hzab_1 : V0.heap.size < V1.heap.size := by omega
                  have hzw : w1.heap.size ≤ V1.heap.size := by omega
                  clear hz
                  generalize V0.heap.size = ab at *
                  refine anyT_ready (rs := [7, 17]) (by kernel_rfl) (by simp) ?_
                  refine AllT.cons rfl (fun K1 hK1 => ?_) (AllT.cons rfl (fun K1 hK1 => ?_) AllT.nil)
                  · try simp only [Array.getInternal_eq_getElem, List.getElem_toArray, List.getElem_cons_zero, List.getElem_cons_succ]
                    go_simp
                    have hb := below_new (w := V1) (.cells #[.int .i64 tw] 3)
                    have Bnb := heap_alloc_new V1 (.cells #[.int .i64 tw] 3)
                    have hz : (V1.alloc (.cells #[.int .i64 tw] 3)).heap.size ≤ V1.heap.size + 1 ∧ V1.heap.size + 1 ≤ (V1.alloc (.cells #[.int .i64 tw] 3)).heap.size := by simp
                    refine hK1.out _ _ ⟨fun _ => ⟨cell_below hb c4, cell_below hb c5, cell_below hb cn0, cell_below hb ca0⟩, trivial⟩ (fun hT => ?_)
                    have c4 := cell_below hb c4
                    have c5 := cell_below hb c5
                    have cn0 := cell_below hb cn0
                    have ca0 := cell_below hb ca0
                    have Bab := blk_below Bab hb
                    have HBw := below_then HBw hb
                    have Lnb : w1.heap.size ≤ V1.heap.size := by omega
                    have Mabnb : ab < V1.heap.size := hzab_1
                    clear hb hK1 K1
                    try simp only [Act.put, Array.getInternal_eq_getElem, List.getElem_toArray, List.getElem_cons_zero, List.getElem_cons_succ, List.setIfInBounds_toArray, List.set_cons_zero, List.set_cons_succ]
                    generalize V1.alloc (.cells #[.int .i64 tw] 3) = V2 at *
                    have hznb_2 : V1.heap.size < V2.heap.size := by omega
                    have hzab_2 : ab < V2.heap.size := by omega
                    have hzw : w1.heap.size ≤ V2.heap.size := by omega
                    clear hz
                    generalize V1.heap.size = nb at *
                    refine anyT_pure (i := 16) (v := ?_) rfl (by kernel_rfl) (by kernel_rfl) (by kernel_rfl) (fun _ _ _ h => h) (Or.inl ⟨by rfl, ?_⟩) (by assumption) ?_
                    rotate_left 1
                    focus ((intro w hSw; (try dsimp only at hSw); go_simp); try with_reducible rfl)
                    try simp only [Act.put, Array.getInternal_eq_getElem, List.getElem_toArray, List.getElem_cons_zero, List.getElem_cons_succ, List.setIfInBounds_toArray, List.set_cons_zero, List.set_cons_succ]
                    refine anyT_ready (rs := [17]) (by kernel_rfl) (by simp) ?_
                    refine AllT.cons rfl (fun K1 hK1 => ?_) AllT.nil
                    · try simp only [Array.getInternal_eq_getElem, List.getElem_toArray, List.getElem_cons_zero, List.getElem_cons_succ]
                      go_simp
                      have hb := below_new (w := V2) (.cells #[.slice none 0 0, .slice none 0 0, .int .i64 0, .int .i64 0, .slice none 0 0, .slice none 0 0] 54)
                      have Beb := heap_alloc_new V2 (.cells #[.slice none 0 0, .slice none 0 0, .int .i64 0, .int .i64 0, .slice none 0 0, .slice none 0 0] 54)
                      have hz : (V2.alloc (.cells #[.slice none 0 0, .slice none 0 0, .int .i64 0, .int .i64 0, .slice none 0 0, .slice none 0 0] 54)).heap.size ≤ V2.heap.size + 1 ∧ V2.heap.size + 1 ≤ (V2.alloc (.cells #[.slice none 0 0, .slice none 0 0, .int .i64 0, .int .i64 0, .slice none 0 0, .slice none 0 0] 54)).heap.size := by simp
                      refine hK1.out _ _ ⟨fun _ => ⟨cell_below hb c4, cell_below hb c5, cell_below hb cn0, cell_below hb ca0⟩, trivial⟩ (fun hT => ?_)
                      have c4 := cell_below hb c4
                      have c5 := cell_below hb c5
                      have cn0 := cell_below hb cn0
                      have ca0 := cell_below hb ca0
                      have Bab := blk_below Bab hb
                      have Bnb := blk_below Bnb hb
                      have HBw := below_then HBw hb
                      have Leb : w1.heap.size ≤ V2.heap.size := by omega
                      have Mabeb : ab < V2.heap.size := hzab_2
                      have Mnbeb : nb < V2.heap.size := hznb_2
                      clear hb hK1 K1
                      try simp only [Act.put, Array.getInternal_eq_getElem, List.getElem_toArray, List.getElem_cons_zero, List.getElem_cons_succ, List.setIfInBounds_toArray, List.set_cons_zero, List.set_cons_succ]
                      generalize V2.alloc (.cells #[.slice none 0 0, .slice none 0 0, .int .i64 0, .int .i64 0, .slice none 0 0, .slice none 0 0] 54) = V3 at *
                      have hzeb_3 : V2.heap.size < V3.heap.size := by omega
                      have hzab_3 : ab < V3.heap.size := by omega
                      have hznb_3 : nb < V3.heap.size := by omega
                      have hzw : w1.heap.size ≤ V3.heap.size := by omega
                      clear hz
                      generalize V2.heap.size = eb at *
                      obtain ⟨za, zb⟩ := cell_of_block Beb
                      have r0 : V3.cell? ⟨eb, 0, none⟩ = some (.slice none 0 0) := (za 0).trans rfl
                      have r1 : V3.cell? ⟨eb, 1, none⟩ = some (.slice none 0 0) := (za 1).trans rfl
                      have r2 : V3.cell? ⟨eb, 2, none⟩ = some (.int .i64 0) := (za 2).trans rfl
                      have r3 : V3.cell? ⟨eb, 3, none⟩ = some (.int .i64 0) := (za 3).trans rfl
                      have r4 : V3.cell? ⟨eb, 4, none⟩ = some (.slice none 0 0) := (za 4).trans rfl
                      have r5 : V3.cell? ⟨eb, 5, none⟩ = some (.slice none 0 0) := (za 5).trans rfl
                      have f0 := zb 0
                      have f1 := zb 1
                      have f2 := zb 2
                      have f3 := zb 3
                      have f4 := zb 4
                      have f5 := zb 5
                      clear za zb
                      refine anyT_ready (rs := [18]) (by kernel_rfl) (by simp) ?_
                      refine AllT.cons rfl (fun K1 hK1 => ?_) AllT.nil
                      try simp only [Array.getInternal_eq_getElem, List.getElem_toArray, List.getElem_cons_zero, List.getElem_cons_succ]
                      go_simp
                      refine hK1.out _ _ ⟨fun h => absurd h (by simp), trivial⟩ (fun hT => ?_)
                      clear hK1 K1
                      try simp only [Act.put, Array.getInternal_eq_getElem, List.getElem_toArray, List.getElem_cons_zero, List.getElem_cons_succ, List.setIfInBounds_toArray, List.set_cons_zero, List.set_cons_succ]
                      refine anyT_done (by kernel_rfl) ?_ _
                      clear r0 r1 r2 r3 r4 r5 f0 f1 f2 f3 f4 f5
                      go_wp2_with fail
                      go_meet
                      refine ⟨nb, ab, eb, rfl, ?_⟩
                      have hpr := putRow_same [.slice none 0 0, .slice none 0 0, .int .i64 1, .int .i64 0, .slice (some ⟨nb, 0, none⟩) 1 1, .slice (some ⟨ab, 0, none⟩) 1 1] eb V3 0
                      exact ⟨putRow_below HBw Leb [.slice none 0 0, .slice none 0 0, .int .i64 1, .int .i64 0, .slice (some ⟨nb, 0, none⟩) 1 1, .slice (some ⟨ab, 0, none⟩) 1 1] 0, (hpr.2 nb (by omega)).trans Bnb, (hpr.2 ab (by omega)).trans Bab, (blk_put (blk_put (blk_put (blk_put (blk_put (blk_put Beb 0 _) 1 _) 2 _) 3 _) 4 _) 5 _), ⟨Lnb, Lab, Leb⟩, ⟨by omega, by omega, by omega⟩⟩
                  · try simp only [Array.getInternal_eq_getElem, List.getElem_toArray, List.getElem_cons_zero, List.getElem_cons_succ]
                    go_simp
                    have hb := below_new (w := V1) (.cells #[.slice none 0 0, .slice none 0 0, .int .i64 0, .int .i64 0, .slice none 0 0, .slice none 0 0] 54)
                    have Beb := heap_alloc_new V1 (.cells #[.slice none 0 0, .slice none 0 0, .int .i64 0, .int .i64 0, .slice none 0 0, .slice none 0 0] 54)
                    have hz : (V1.alloc (.cells #[.slice none 0 0, .slice none 0 0, .int .i64 0, .int .i64 0, .slice none 0 0, .slice none 0 0] 54)).heap.size ≤ V1.heap.size + 1 ∧ V1.heap.size + 1 ≤ (V1.alloc (.cells #[.slice none 0 0, .slice none 0 0, .int .i64 0, .int .i64 0, .slice none 0 0, .slice none 0 0] 54)).heap.size := by simp
                    refine hK1.out _ _ ⟨fun _ => ⟨cell_below hb c4, cell_below hb c5, cell_below hb cn0, cell_below hb ca0⟩, trivial⟩ (fun hT => ?_)
                    have c4 := cell_below hb c4
                    have c5 := cell_below hb c5
                    have cn0 := cell_below hb cn0
                    have ca0 := cell_below hb ca0
                    have Bab := blk_below Bab hb
                    have HBw := below_then HBw hb
                    have Leb : w1.heap.size ≤ V1.heap.size := by omega
                    have Mabeb : ab < V1.heap.size := hzab_1
                    clear hb hK1 K1
                    try simp only [Act.put, Array.getInternal_eq_getElem, List.getElem_toArray, List.getElem_cons_zero, List.getElem_cons_succ, List.setIfInBounds_toArray, List.set_cons_zero, List.set_cons_succ]
                    generalize V1.alloc (.cells #[.slice none 0 0, .slice none 0 0, .int .i64 0, .int .i64 0, .slice none 0 0, .slice none 0 0] 54) = V2 at *
                    have hzeb_2 : V1.heap.size < V2.heap.size := by omega
                    have hzab_2 : ab < V2.heap.size := by omega
                    have hzw : w1.heap.size ≤ V2.heap.size := by omega
                    clear hz
                    generalize V1.heap.size = eb at *
                    refine anyT_ready (rs := [7]) (by kernel_rfl) (by simp) ?_
                    refine AllT.cons rfl (fun K1 hK1 => ?_) AllT.nil
                    · try simp only [Array.getInternal_eq_getElem, List.getElem_toArray, List.getElem_cons_zero, List.getElem_cons_succ]
                      go_simp
                      have hb := below_new (w := V2) (.cells #[.int .i64 tw] 3)
                      have Bnb := heap_alloc_new V2 (.cells #[.int .i64 tw] 3)
                      have hz : (V2.alloc (.cells #[.int .i64 tw] 3)).heap.size ≤ V2.heap.size + 1 ∧ V2.heap.size + 1 ≤ (V2.alloc (.cells #[.int .i64 tw] 3)).heap.size := by simp
                      refine hK1.out _ _ ⟨fun _ => ⟨cell_below hb c4, cell_below hb c5, cell_below hb cn0, cell_below hb ca0⟩, trivial⟩ (fun hT => ?_)
                      have c4 := cell_below hb c4
                      have c5 := cell_below hb c5
                      have cn0 := cell_below hb cn0
                      have ca0 := cell_below hb ca0
                      have Bab := blk_below Bab hb
                      have Beb := blk_below Beb hb
                      have HBw := below_then HBw hb
                      have Lnb : w1.heap.size ≤ V2.heap.size := by omega
                      have Mabnb : ab < V2.heap.size := hzab_2
                      have Mebnb : eb < V2.heap.size := hzeb_2
                      clear hb hK1 K1
                      try simp only [Act.put, Array.getInternal_eq_getElem, List.getElem_toArray, List.getElem_cons_zero, List.getElem_cons_succ, List.setIfInBounds_toArray, List.set_cons_zero, List.set_cons_succ]
                      generalize V2.alloc (.cells #[.int .i64 tw] 3) = V3 at *
                      have hznb_3 : V2.heap.size < V3.heap.size := by omega
                      have hzab_3 : ab < V3.heap.size := by omega
                      have hzeb_3 : eb < V3.heap.size := by omega
                      have hzw : w1.heap.size ≤ V3.heap.size := by omega
                      clear hz
                      generalize V2.heap.size = nb at *
                      refine anyT_pure (i := 16) (v := ?_) rfl (by kernel_rfl) (by kernel_rfl) (by kernel_rfl) (fun _ _ _ h => h) (Or.inl ⟨by rfl, ?_⟩) (by assumption) ?_
                      rotate_left 1
                      focus ((intro w hSw; (try dsimp only at hSw); go_simp); try with_reducible rfl)
                      try simp only [Act.put, Array.getInternal_eq_getElem, List.getElem_toArray, List.getElem_cons_zero, List.getElem_cons_succ, List.setIfInBounds_toArray, List.set_cons_zero, List.set_cons_succ]
                      obtain ⟨za, zb⟩ := cell_of_block Beb
                      have r0 : V3.cell? ⟨eb, 0, none⟩ = some (.slice none 0 0) := (za 0).trans rfl
                      have r1 : V3.cell? ⟨eb, 1, none⟩ = some (.slice none 0 0) := (za 1).trans rfl
                      have r2 : V3.cell? ⟨eb, 2, none⟩ = some (.int .i64 0) := (za 2).trans rfl
                      have r3 : V3.cell? ⟨eb, 3, none⟩ = some (.int .i64 0) := (za 3).trans rfl
                      have r4 : V3.cell? ⟨eb, 4, none⟩ = some (.slice none 0 0) := (za 4).trans rfl
                      have r5 : V3.cell? ⟨eb, 5, none⟩ = some (.slice none 0 0) := (za 5).trans rfl
                      have f0 := zb 0
                      have f1 := zb 1
                      have f2 := zb 2
                      have f3 := zb 3
                      have f4 := zb 4
                      have f5 := zb 5
                      clear za zb
                      refine anyT_ready (rs := [18]) (by kernel_rfl) (by simp) ?_
                      refine AllT.cons rfl (fun K1 hK1 => ?_) AllT.nil
                      try simp only [Array.getInternal_eq_getElem, List.getElem_toArray, List.getElem_cons_zero, List.getElem_cons_succ]
                      go_simp
                      refine hK1.out _ _ ⟨fun h => absurd h (by simp), trivial⟩ (fun hT => ?_)
                      clear hK1 K1
                      try simp only [Act.put, Array.getInternal_eq_getElem, List.getElem_toArray, List.getElem_cons_zero, List.getElem_cons_succ, List.setIfInBounds_toArray, List.set_cons_zero, List.set_cons_succ]
                      refine anyT_done (by kernel_rfl) ?_ _
                      clear r0 r1 r2 r3 r4 r5 f0 f1 f2 f3 f4 f5
                      go_wp2_with fail
                      go_meet
                      refine ⟨nb, ab, eb, rfl, ?_⟩
                      have hpr := putRow_same [.slice none 0 0, .slice none 0 0, .int .i64 1, .int .i64 0, .slice (some ⟨nb, 0, none⟩) 1 1, .slice (some ⟨ab, 0, none⟩) 1 1] eb V3 0
                      exact ⟨putRow_below HBw Leb [.slice none 0 0, .slice none 0 0, .int .i64 1, .int .i64 0, .slice (some ⟨nb, 0, none⟩) 1 1, .slice (some ⟨ab, 0, none⟩) 1 1] 0, (hpr.2 nb (by omega)).trans Bnb, (hpr.2 ab (by omega)).trans Bab, (blk_put (blk_put (blk_put (blk_put (blk_put (blk_put Beb 0 _) 1 _) 2 _) 3 _) 4 _) 5 _), ⟨Lnb, Lab, Leb⟩, ⟨by omega, by omega, by omega⟩⟩
                · try simp only [Array.getInternal_eq_getElem, List.getElem_toArray, List.getElem_cons_zero, List.getElem_cons_succ]
                  go_simp
                  have hb := below_new (w := V0) (.cells #[.slice none 0 0, .slice none 0 0, .int .i64 0, .int .i64 0, .slice none 0 0, .slice none 0 0] 54)
                  have Beb := heap_alloc_new V0 (.cells #[.slice none 0 0, .slice none 0 0, .int .i64 0, .int .i64 0, .slice none 0 0, .slice none 0 0] 54)
                  have hz : (V0.alloc (.cells #[.slice none 0 0, .slice none 0 0, .int .i64 0, .int .i64 0, .slice none 0 0, .slice none 0 0] 54)).heap.size ≤ V0.heap.size + 1 ∧ V0.heap.size + 1 ≤ (V0.alloc (.cells #[.slice none 0 0, .slice none 0 0, .int .i64 0, .int .i64 0, .slice none 0 0, .slice none 0 0] 54)).heap.size := by simp
                  refine hK1.out _ _ ⟨fun _ => ⟨cell_below hb c4, cell_below hb c5, cell_below hb cn0, cell_below hb ca0⟩, trivial⟩ (fun hT => ?_)
                  have c4 := cell_below hb c4
                  have c5 := cell_below hb c5
                  have cn0 := cell_below hb cn0
                  have ca0 := cell_below hb ca0
                  have HBw := below_then HBw hb
                  have Leb : w1.heap.size ≤ V0.heap.size := by omega
                  clear hb hK1 K1
                  try simp only [Act.put, Array.getInternal_eq_getElem, List.getElem_toArray, List.getElem_cons_zero, List.getElem_cons_succ, List.setIfInBounds_toArray, List.set_cons_zero, List.set_cons_succ]
                  generalize V0.alloc (.cells #[.slice none 0 0, .slice none 0 0, .int .i64 0, .int .i64 0, .slice none 0 0, .slice none 0 0] 54) = V1 at *
                  have hzeb_1 : V0.heap.size < V1.heap.size := by omega
                  have hzw : w1.heap.size ≤ V1.heap.size := by omega
                  clear hz
                  generalize V0.heap.size = eb at *
                  refine anyT_ready (rs := [7, 15]) (by kernel_rfl) (by simp) ?_
                  refine AllT.cons rfl (fun K1 hK1 => ?_) (AllT.cons rfl (fun K1 hK1 => ?_) AllT.nil)
                  · try simp only [Array.getInternal_eq_getElem, List.getElem_toArray, List.getElem_cons_zero, List.getElem_cons_succ]
                    go_simp
                    have hb := below_new (w := V1) (.cells #[.int .i64 tw] 3)
                    have Bnb := heap_alloc_new V1 (.cells #[.int .i64 tw] 3)
                    have hz : (V1.alloc (.cells #[.int .i64 tw] 3)).heap.size ≤ V1.heap.size + 1 ∧ V1.heap.size + 1 ≤ (V1.alloc (.cells #[.int .i64 tw] 3)).heap.size := by simp
                    refine hK1.out _ _ ⟨fun _ => ⟨cell_below hb c4, cell_below hb c5, cell_below hb cn0, cell_below hb ca0⟩, trivial⟩ (fun hT => ?_)
                    have c4 := cell_below hb c4
                    have c5 := cell_below hb c5
                    have cn0 := cell_below hb cn0
                    have ca0 := cell_below hb ca0
                    have Beb := blk_below Beb hb
                    have HBw := below_then HBw hb
                    have Lnb : w1.heap.size ≤ V1.heap.size := by omega
                    have Mebnb : eb < V1.heap.size := hzeb_1
                    clear hb hK1 K1
                    try simp only [Act.put, Array.getInternal_eq_getElem, List.getElem_toArray, List.getElem_cons_zero, List.getElem_cons_succ, List.setIfInBounds_toArray, List.set_cons_zero, List.set_cons_succ]
                    generalize V1.alloc (.cells #[.int .i64 tw] 3) = V2 at *
                    have hznb_2 : V1.heap.size < V2.heap.size := by omega
                    have hzeb_2 : eb < V2.heap.size := by omega
                    have hzw : w1.heap.size ≤ V2.heap.size := by omega
                    clear hz
                    generalize V1.heap.size = nb at *
                    refine anyT_ready (rs := [15]) (by kernel_rfl) (by simp) ?_
                    refine AllT.cons rfl (fun K1 hK1 => ?_) AllT.nil
                    · try simp only [Array.getInternal_eq_getElem, List.getElem_toArray, List.getElem_cons_zero, List.getElem_cons_succ]
                      go_simp
                      have hb := below_new (w := V2) (.cells #[.slice Au al.length cu] 35)
                      have Bab := heap_alloc_new V2 (.cells #[.slice Au al.length cu] 35)
                      have hz : (V2.alloc (.cells #[.slice Au al.length cu] 35)).heap.size ≤ V2.heap.size + 1 ∧ V2.heap.size + 1 ≤ (V2.alloc (.cells #[.slice Au al.length cu] 35)).heap.size := by simp
                      refine hK1.out _ _ ⟨fun _ => ⟨cell_below hb c4, cell_below hb c5, cell_below hb cn0, cell_below hb ca0⟩, trivial⟩ (fun hT => ?_)
                      have c4 := cell_below hb c4
                      have c5 := cell_below hb c5
                      have cn0 := cell_below hb cn0
                      have ca0 := cell_below hb ca0
                      have Beb := blk_below Beb hb
                      have Bnb := blk_below Bnb hb
                      have HBw := below_then HBw hb
                      have Lab : w1.heap.size ≤ V2.heap.size := by omega
                      have Mebab : eb < V2.heap.size := hzeb_2
                      have Mnbab : nb < V2.heap.size := hznb_2
                      clear hb hK1 K1
                      try simp only [Act.put, Array.getInternal_eq_getElem, List.getElem_toArray, List.getElem_cons_zero, List.getElem_cons_succ, List.setIfInBounds_toArray, List.set_cons_zero, List.set_cons_succ]
                      generalize V2.alloc (.cells #[.slice Au al.length cu] 35) = V3 at *
                      have hzab_3 : V2.heap.size < V3.heap.size := by omega
                      have hzeb_3 : eb < V3.heap.size := by omega
                      have hznb_3 : nb < V3.heap.size := by omega
                      have hzw : w1.heap.size ≤ V3.heap.size := by omega
                      clear hz
                      generalize V2.heap.size = ab at *
                      refine anyT_pure (i := 16) (v := ?_) rfl (by kernel_rfl) (by kernel_rfl) (by kernel_rfl) (fun _ _ _ h => h) (Or.inl ⟨by rfl, ?_⟩) (by assumption) ?_
                      rotate_left 1
                      focus ((intro w hSw; (try dsimp only at hSw); go_simp); try with_reducible rfl)
                      try simp only [Act.put, Array.getInternal_eq_getElem, List.getElem_toArray, List.getElem_cons_zero, List.getElem_cons_succ, List.setIfInBounds_toArray, List.set_cons_zero, List.set_cons_succ]
                      obtain ⟨za, zb⟩ := cell_of_block Beb
                      have r0 : V3.cell? ⟨eb, 0, none⟩ = some (.slice none 0 0) := (za 0).trans rfl
                      have r1 : V3.cell? ⟨eb, 1, none⟩ = some (.slice none 0 0) := (za 1).trans rfl
                      have r2 : V3.cell? ⟨eb, 2, none⟩ = some (.int .i64 0) := (za 2).trans rfl
                      have r3 : V3.cell? ⟨eb, 3, none⟩ = some (.int .i64 0) := (za 3).trans rfl
                      have r4 : V3.cell? ⟨eb, 4, none⟩ = some (.slice none 0 0) := (za 4).trans rfl
                      have r5 : V3.cell? ⟨eb, 5, none⟩ = some (.slice none 0 0) := (za 5).trans rfl
                      have f0 := zb 0
                      have f1 := zb 1
                      have f2 := zb 2
                      have f3 := zb 3
                      have f4 := zb 4
                      have f5 := zb 5
                      clear za zb
                      refine anyT_ready (rs := [18]) (by kernel_rfl) (by simp) ?_
                      refine AllT.cons rfl (fun K1 hK1 => ?_) AllT.nil
                      try simp only [Array.getInternal_eq_getElem, List.getElem_toArray, List.getElem_cons_zero, List.getElem_cons_succ]
                      go_simp
                      refine hK1.out _ _ ⟨fun h => absurd h (by simp), trivial⟩ (fun hT => ?_)
                      clear hK1 K1
                      try simp only [Act.put, Array.getInternal_eq_getElem, List.getElem_toArray, List.getElem_cons_zero, List.getElem_cons_succ, List.setIfInBounds_toArray, List.set_cons_zero, List.set_cons_succ]
                      refine anyT_done (by kernel_rfl) ?_ _
                      clear r0 r1 r2 r3 r4 r5 f0 f1 f2 f3 f4 f5
                      go_wp2_with fail
                      go_meet
                      refine ⟨nb, ab, eb, rfl, ?_⟩
                      have hpr := putRow_same [.slice none 0 0, .slice none 0 0, .int .i64 1, .int .i64 0, .slice (some ⟨nb, 0, none⟩) 1 1, .slice (some ⟨ab, 0, none⟩) 1 1] eb V3 0
                      exact ⟨putRow_below HBw Leb [.slice none 0 0, .slice none 0 0, .int .i64 1, .int .i64 0, .slice (some ⟨nb, 0, none⟩) 1 1, .slice (some ⟨ab, 0, none⟩) 1 1] 0, (hpr.2 nb (by omega)).trans Bnb, (hpr.2 ab (by omega)).trans Bab, (blk_put (blk_put (blk_put (blk_put (blk_put (blk_put Beb 0 _) 1 _) 2 _) 3 _) 4 _) 5 _), ⟨Lnb, Lab, Leb⟩, ⟨by omega, by omega, by omega⟩⟩
                  · try simp only [Array.getInternal_eq_getElem, List.getElem_toArray, List.getElem_cons_zero, List.getElem_cons_succ]
                    go_simp
                    have hb := below_new (w := V1) (.cells #[.slice Au al.length cu] 35)
                    have Bab := heap_alloc_new V1 (.cells #[.slice Au al.length cu] 35)
                    have hz : (V1.alloc (.cells #[.slice Au al.length cu] 35)).heap.size ≤ V1.heap.size + 1 ∧ V1.heap.size + 1 ≤ (V1.alloc (.cells #[.slice Au al.length cu] 35)).heap.size := by simp
                    refine hK1.out _ _ ⟨fun _ => ⟨cell_below hb c4, cell_below hb c5, cell_below hb cn0, cell_below hb ca0⟩, trivial⟩ (fun hT => ?_)
                    have c4 := cell_below hb c4
                    have c5 := cell_below hb c5
                    have cn0 := cell_below hb cn0
                    have ca0 := cell_below hb ca0
                    have Beb := blk_below Beb hb
                    have HBw := below_then HBw hb
                    have Lab : w1.heap.size ≤ V1.heap.size := by omega
                    have Mebab : eb < V1.heap.size := hzeb_1
                    clear hb hK1 K1
                    try simp only [Act.put, Array.getInternal_eq_getElem, List.getElem_toArray, List.getElem_cons_zero, List.getElem_cons_succ, List.setIfInBounds_toArray, List.set_cons_zero, List.set_cons_succ]
                    generalize V1.alloc (.cells #[.slice Au al.length cu] 35) = V2 at *
                    have hzab_2 : V1.heap.size < V2.heap.size := by omega
                    have hzeb_2 : eb < V2.heap.size := by omega
                    have hzw : w1.heap.size ≤ V2.heap.size := by omega
                    clear hz
                    generalize V1.heap.size = ab at *
                    refine anyT_ready (rs := [7]) (by kernel_rfl) (by simp) ?_
                    refine AllT.cons rfl (fun K1 hK1 => ?_) AllT.nil
                    · try simp only [Array.getInternal_eq_getElem, List.getElem_toArray, List.getElem_cons_zero, List.getElem_cons_succ]
                      go_simp
                      have hb := below_new (w := V2) (.cells #[.int .i64 tw] 3)
                      have Bnb := heap_alloc_new V2 (.cells #[.int .i64 tw] 3)
                      have hz : (V2.alloc (.cells #[.int .i64 tw] 3)).heap.size ≤ V2.heap.size + 1 ∧ V2.heap.size + 1 ≤ (V2.alloc (.cells #[.int .i64 tw] 3)).heap.size := by simp
                      refine hK1.out _ _ ⟨fun _ => ⟨cell_below hb c4, cell_below hb c5, cell_below hb cn0, cell_below hb ca0⟩, trivial⟩ (fun hT => ?_)
                      have c4 := cell_below hb c4
                      have c5 := cell_below hb c5
                      have cn0 := cell_below hb cn0
                      have ca0 := cell_below hb ca0
                      have Beb := blk_below Beb hb
                      have Bab := blk_below Bab hb
                      have HBw := below_then HBw hb
                      have Lnb : w1.heap.size ≤ V2.heap.size := by omega
                      have Mebnb : eb < V2.heap.size := hzeb_2
                      have Mabnb : ab < V2.heap.size := hzab_2
                      clear hb hK1 K1
                      try simp only [Act.put, Array.getInternal_eq_getElem, List.getElem_toArray, List.getElem_cons_zero, List.getElem_cons_succ, List.setIfInBounds_toArray, List.set_cons_zero, List.set_cons_succ]
                      generalize V2.alloc (.cells #[.int .i64 tw] 3) = V3 at *
                      have hznb_3 : V2.heap.size < V3.heap.size := by omega
                      have hzeb_3 : eb < V3.heap.size := by omega
                      have hzab_3 : ab < V3.heap.size := by omega
                      have hzw : w1.heap.size ≤ V3.heap.size := by omega
                      clear hz
                      generalize V2.heap.size = nb at *
                      refine anyT_pure (i := 16) (v := ?_) rfl (by kernel_rfl) (by kernel_rfl) (by kernel_rfl) (fun _ _ _ h => h) (Or.inl ⟨by rfl, ?_⟩) (by assumption) ?_
                      rotate_left 1
                      focus ((intro w hSw; (try dsimp only at hSw); go_simp); try with_reducible rfl)
                      try simp only [Act.put, Array.getInternal_eq_getElem, List.getElem_toArray, List.getElem_cons_zero, List.getElem_cons_succ, List.setIfInBounds_toArray, List.set_cons_zero, List.set_cons_succ]
                      obtain ⟨za, zb⟩ := cell_of_block Beb
                      have r0 : V3.cell? ⟨eb, 0, none⟩ = some (.slice none 0 0) := (za 0).trans rfl
                      have r1 : V3.cell? ⟨eb, 1, none⟩ = some (.slice none 0 0) := (za 1).trans rfl
                      have r2 : V3.cell? ⟨eb, 2, none⟩ = some (.int .i64 0) := (za 2).trans rfl
                      have r3 : V3.cell? ⟨eb, 3, none⟩ = some (.int .i64 0) := (za 3).trans rfl
                      have r4 : V3.cell? ⟨eb, 4, none⟩ = some (.slice none 0 0) := (za 4).trans rfl
                      have r5 : V3.cell? ⟨eb, 5, none⟩ = some (.slice none 0 0) := (za 5).trans rfl
                      have f0 := zb 0
                      have f1 := zb 1
                      have f2 := zb 2
                      have f3 := zb 3
                      have f4 := zb 4
                      have f5 := zb 5
                      clear za zb
                      refine anyT_ready (rs := [18]) (by kernel_rfl) (by simp) ?_
                      refine AllT.cons rfl (fun K1 hK1 => ?_) AllT.nil
                      try simp only [Array.getInternal_eq_getElem, List.getElem_toArray, List.getElem_cons_zero, List.getElem_cons_succ]
                      go_simp
                      refine hK1.out _ _ ⟨fun h => absurd h (by simp), trivial⟩ (fun hT => ?_)
                      clear hK1 K1
                      try simp only [Act.put, Array.getInternal_eq_getElem, List.getElem_toArray, List.getElem_cons_zero, List.getElem_cons_succ, List.setIfInBounds_toArray, List.set_cons_zero, List.set_cons_succ]
                      refine anyT_done (by kernel_rfl) ?_ _
                      clear r0 r1 r2 r3 r4 r5 f0 f1 f2 f3 f4 f5
                      go_wp2_with fail
                      go_meet
                      refine ⟨nb, ab, eb, rfl, ?_⟩
                      have hpr := putRow_same [.slice none 0 0, .slice none 0 0, .int .i64 1, .int .i64 0, .slice (some ⟨nb, 0, none⟩) 1 1, .slice (some ⟨ab, 0, none⟩) 1 1] eb V3 0
                      exact ⟨putRow_below HBw Leb [.slice none 0 0, .slice none 0 0, .int .i64 1, .int .i64 0, .slice (some ⟨nb, 0, none⟩) 1 1, .slice (some ⟨ab, 0, none⟩) 1 1] 0, (hpr.2 nb (by omega)).trans Bnb, (hpr.2 ab (by omega)).trans Bab, (blk_put (blk_put (blk_put (blk_put (blk_put (blk_put Beb 0 _) 1 _) 2 _) 3 _) 4 _) 5 _), ⟨Lnb, Lab, Leb⟩, ⟨by omega, by omega, by omega⟩⟩
              case rest =>
                obtain ⟨nb, ab, eb, rfl, HN⟩ := hcut
                rename World => wc
                have hbw := HN.bw
                have x4 := cell_below hbw x4
                have x5 := cell_below hbw x5
                have xs := cell_below hbw xs
                have xn := cell_below hbw xn
                have xa := cell_below hbw xa
                have H0' := H0'.below hbw
                have k1 := k1.below hbw
                have k2 := k2.below hbw
                have k3 := k3.below hbw
                have H4 := H4.below hbw
                have hOu := hOu.below hbw
                have hb1 := blk_below HS1.hb hbw
                have HC2 := HC1.trans (Chg.of_below hbw)
                have fn := (k3.int_at hPi).2
                have fa := H4.free i
                have hgG2 := (k3.lt_size (k := gn) rfl).1
                have hgG3 : G3 ga := hFr4 ga H4.lt.1
                have hgFr4 : ∀ q, Fr4 q → q ≠ gn := fun q hq he => d23 gn hgG2 (he ▸ hFr4 q hq)
                have hFr4' := hFr4
                have hwz := HC1.size
                have hszc := hbw.size
                have hgG : ∀ q, Gk q → FO q ∧ q < w1.heap.size ∧ ¬ Fr q ∧ q ≠ g1 := fun q hq => ⟨(hGk q hq).1.1, (hGk q hq).1.2, (hGk q hq).2⟩
                have hgn := hgG gn (e2 gn hgG2)
                have hga := hgG ga (e3 ga hgG3)
                have hnga : gn ≠ ga := fun h => d23 gn hgG2 (h ▸ hgG3)
                have hsbF : ∀ q, FO q → q ≠ sb := fun q hq => ((HFO.out q).1 hq).1
                have hge := HN.ge
                have hne := HN.ne
                have hsb1 := blk_lt HS1.hb
                have hg1 := H0'.lt
                have hg1F := hFr g1 hg1.1
                have hGk4' : ∀ q, Gk4 q → G3 q ∧ ¬ Fr4 q ∧ q ≠ ga := hGk4
                have BN := HN.n0
                have BA := HN.a0
                have BE := HN.e0
                clear HS1 HC1 hHO hK hGk k4 hFr4 HN xH
                replace hgG := Lib.hid hgG
                replace hsbF := Lib.hid hsbF
                replace hGk4' := Lib.hid hGk4'
                replace hFr := Lib.hid hFr
                replace hgFr4 := Lib.hid hgFr4
                replace hFr4' := Lib.hid hFr4'
                clear hGk4
                go_upto_region 11 with fail
                go_cut [] from 28 to 87 (fun wx => wx = (wc.drew.setCell ⟨gn, i, none⟩ (.int .i64 cur.length)).setCell ⟨ga, i, none⟩ (.slice none 0 0))
                case first =>
                  refine anyT_region [(16, fun w' => w'.cell? ⟨g1, k * 6 + 4, none⟩ = some (.slice (some ⟨gn, 0, none⟩) P.next.length cn1) ∧ w'.cell? ⟨g1, k * 6 + 5, none⟩ = some (.slice (some ⟨ga, 0, none⟩) P.args.length ca1) ∧ w'.cell? ⟨sb, 0, none⟩ = some (.slice (some ⟨g1, 0, none⟩) cur.length cp))] (by kernel_rfl) ⟨fun _ => ⟨x4, x5, xs⟩, trivial⟩ (fun hC0 => ?_)
                  refine anyT_pure (i := 0) (v := ?_) rfl (by kernel_rfl) (by kernel_rfl) (by kernel_rfl) (fun _ _ _ h => h) (Or.inl ⟨by rfl, ?_⟩) (by assumption) ?_
                  rotate_left 1
                  focus ((intro w hSw; (try dsimp only at hSw); go_simp); try with_reducible rfl)
                  try simp only [Act.put, Array.getInternal_eq_getElem, List.getElem_toArray, List.getElem_cons_zero, List.getElem_cons_succ, List.setIfInBounds_toArray, List.set_cons_zero, List.set_cons_succ]
                  refine anyT_pure (i := 1) (v := ?_) rfl (by kernel_rfl) (by kernel_rfl) (by kernel_rfl) (fun _ _ _ h => h) (Or.inl ⟨by rfl, ?_⟩) (by assumption) ?_
                  rotate_left 1
                  focus ((intro w hSw; (try dsimp only at hSw); go_simp); try with_reducible rfl)
                  try simp only [Act.put, Array.getInternal_eq_getElem, List.getElem_toArray, List.getElem_cons_zero, List.getElem_cons_succ, List.setIfInBounds_toArray, List.set_cons_zero, List.set_cons_succ]
                  refine anyT_pure (i := 2) (v := ?_) rfl (by kernel_rfl) (by kernel_rfl) (by kernel_rfl) (fun _ _ _ h => h) (Or.inl ⟨by rfl, ?_⟩) (by assumption) ?_
                  rotate_left 1
                  focus ((intro w hSw; (try dsimp only at hSw); go_simp); try with_reducible rfl)
                  try simp only [Act.put, Array.getInternal_eq_getElem, List.getElem_toArray, List.getElem_cons_zero, List.getElem_cons_succ, List.setIfInBounds_toArray, List.set_cons_zero, List.set_cons_succ]
                  refine anyT_pure (i := 4) (v := ?_) rfl (by kernel_rfl) (by kernel_rfl) (by kernel_rfl) (fun _ _ _ h => h) (Or.inl ⟨by rfl, ?_⟩) (by assumption) ?_
                  rotate_left 1
                  focus ((intro w hSw; (try dsimp only at hSw); go_simp); try with_reducible rfl)
                  try simp only [Act.put, Array.getInternal_eq_getElem, List.getElem_toArray, List.getElem_cons_zero, List.getElem_cons_succ, List.setIfInBounds_toArray, List.set_cons_zero, List.set_cons_succ]
                  refine anyT_pure (i := 5) (v := ?_) rfl (by kernel_rfl) (by kernel_rfl) (by kernel_rfl) (fun _ _ _ h => h) (Or.inl ⟨by rfl, ?_⟩) (by assumption) ?_
                  rotate_left 1
                  focus ((intro w hSw; (try dsimp only at hSw); go_simp); try with_reducible rfl)
                  try simp only [Act.put, Array.getInternal_eq_getElem, List.getElem_toArray, List.getElem_cons_zero, List.getElem_cons_succ, List.setIfInBounds_toArray, List.set_cons_zero, List.set_cons_succ]
                  refine anyT_pure (i := 6) (v := ?_) rfl (by kernel_rfl) (by kernel_rfl) (by kernel_rfl) (fun _ _ _ h => h) (Or.inl ⟨by rfl, ?_⟩) (by assumption) ?_
                  rotate_left 1
                  focus ((intro w hSw; (try dsimp only at hSw); go_simp); try with_reducible rfl)
                  try simp only [Act.put, Array.getInternal_eq_getElem, List.getElem_toArray, List.getElem_cons_zero, List.getElem_cons_succ, List.setIfInBounds_toArray, List.set_cons_zero, List.set_cons_succ]
                  refine anyT_pure (i := 7) (v := ?_) rfl (by kernel_rfl) (by kernel_rfl) (by kernel_rfl) (fun _ _ _ h => h) (Or.inl ⟨by rfl, ?_⟩) (by assumption) ?_
                  rotate_left 1
                  focus ((intro w hSw; (try dsimp only at hSw); go_simp); try with_reducible rfl)
                  try simp only [Act.put, Array.getInternal_eq_getElem, List.getElem_toArray, List.getElem_cons_zero, List.getElem_cons_succ, List.setIfInBounds_toArray, List.set_cons_zero, List.set_cons_succ]
                  refine anyT_pure (i := 9) (v := ?_) rfl (by kernel_rfl) (by kernel_rfl) (by kernel_rfl) (fun _ _ _ h => h) (Or.inl ⟨by rfl, ?_⟩) (by assumption) ?_
                  rotate_left 1
                  focus ((intro w hSw; (try dsimp only at hSw); go_simp); try with_reducible rfl)
                  try simp only [Act.put, Array.getInternal_eq_getElem, List.getElem_toArray, List.getElem_cons_zero, List.getElem_cons_succ, List.setIfInBounds_toArray, List.set_cons_zero, List.set_cons_succ]
                  refine anyT_pure (i := 10) (v := ?_) rfl (by kernel_rfl) (by kernel_rfl) (by kernel_rfl) (fun _ _ _ h => h) (Or.inl ⟨by rfl, ?_⟩) (by assumption) ?_
                  rotate_left 1
                  focus ((intro w hSw; (try dsimp only at hSw); go_simp); try with_reducible rfl)
                  try simp only [Act.put, Array.getInternal_eq_getElem, List.getElem_toArray, List.getElem_cons_zero, List.getElem_cons_succ, List.setIfInBounds_toArray, List.set_cons_zero, List.set_cons_succ]
                  refine anyT_pure (i := 11) (v := ?_) rfl (by kernel_rfl) (by kernel_rfl) (by kernel_rfl) (fun _ _ _ h => h) (Or.inl ⟨by rfl, ?_⟩) (by assumption) ?_
                  rotate_left 1
                  focus ((intro w hSw; (try dsimp only at hSw); go_simp); try with_reducible rfl)
                  try simp only [Act.put, Array.getInternal_eq_getElem, List.getElem_toArray, List.getElem_cons_zero, List.getElem_cons_succ, List.setIfInBounds_toArray, List.set_cons_zero, List.set_cons_succ]
                  refine anyT_pure (i := 12) (v := ?_) rfl (by kernel_rfl) (by kernel_rfl) (by kernel_rfl) (fun _ _ _ h => h) (Or.inl ⟨by rfl, ?_⟩) (by assumption) ?_
                  rotate_left 1
                  focus ((intro w hSw; (try dsimp only at hSw); go_simp); try with_reducible rfl)
                  try simp only [Act.put, Array.getInternal_eq_getElem, List.getElem_toArray, List.getElem_cons_zero, List.getElem_cons_succ, List.setIfInBounds_toArray, List.set_cons_zero, List.set_cons_succ]
                  refine anyT_take (k := 0) (i := 3) (v := ?_) rfl rfl (by kernel_rfl) (by kernel_rfl) (by kernel_rfl) (fun _ _ _ h => h) (Or.inl ⟨by rfl, ?_⟩) (by assumption) ?_
                  rotate_left 1
                  focus ((intro w hSw; (try dsimp only at hSw); go_simp); try with_reducible rfl)
                  try simp only [Act.put, Array.getInternal_eq_getElem, List.getElem_toArray, List.getElem_cons_zero, List.getElem_cons_succ, List.setIfInBounds_toArray, List.set_cons_zero, List.set_cons_succ]
                  refine anyT_take (k := 0) (i := 8) (v := ?_) rfl rfl (by kernel_rfl) (by kernel_rfl) (by kernel_rfl) (fun _ _ _ h => h) (Or.inl ⟨by rfl, ?_⟩) (by assumption) ?_
                  rotate_left 1
                  focus ((intro w hSw; (try dsimp only at hSw); go_simp); try with_reducible rfl)
                  try simp only [Act.put, Array.getInternal_eq_getElem, List.getElem_toArray, List.getElem_cons_zero, List.getElem_cons_succ, List.setIfInBounds_toArray, List.set_cons_zero, List.set_cons_succ]
                  refine anyT_take (k := 0) (i := 13) (v := ?_) rfl rfl (by kernel_rfl) (by kernel_rfl) (by kernel_rfl) (fun _ _ _ h => h) (Or.inl ⟨by rfl, ?_⟩) (by assumption) ?_
                  rotate_left 1
                  focus ((intro w hSw; (try dsimp only at hSw); go_simp); try with_reducible rfl)
                  try simp only [Act.put, Array.getInternal_eq_getElem, List.getElem_toArray, List.getElem_cons_zero, List.getElem_cons_succ, List.setIfInBounds_toArray, List.set_cons_zero, List.set_cons_succ]
                  refine anyT_pure (i := 14) (v := ?_) rfl (by kernel_rfl) (by kernel_rfl) (by kernel_rfl) (fun _ _ _ h => h) (Or.inl ⟨by rfl, ?_⟩) (by assumption) ?_
                  rotate_left 1
                  focus ((intro w hSw; (try dsimp only at hSw); go_simp); try with_reducible rfl)
                  try simp only [Act.put, Array.getInternal_eq_getElem, List.getElem_toArray, List.getElem_cons_zero, List.getElem_cons_succ, List.setIfInBounds_toArray, List.set_cons_zero, List.set_cons_succ]
                  refine anyT_pure (i := 15) (v := ?_) rfl (by kernel_rfl) (by kernel_rfl) (by kernel_rfl) (fun _ _ _ h => h) (Or.inl ⟨by rfl, ?_⟩) (by assumption) ?_
                  rotate_left 1
                  focus ((intro w hSw; (try dsimp only at hSw); go_simp); try with_reducible rfl)
                  try simp only [Act.put, Array.getInternal_eq_getElem, List.getElem_toArray, List.getElem_cons_zero, List.getElem_cons_succ, List.setIfInBounds_toArray, List.set_cons_zero, List.set_cons_succ]
                  have yn : wc.drew.cell? ⟨gn, i, none⟩ = some (.int .i64 tw) := xn
                  have gfn : wc.drew.frozen? ⟨gn, i, none⟩ = false := fn
                  have ya : (wc.drew.setCell ⟨gn, i, none⟩ (.int .i64 cur.length)).cell? ⟨ga, i, none⟩ = some (.slice Au al.length cu) := (World.cell?_setCell_far _ _ _ _ hnga).trans xa
                  have gfa : (wc.drew.setCell ⟨gn, i, none⟩ (.int .i64 cur.length)).frozen? ⟨ga, i, none⟩ = false := by rw [World.frozen?_of_block (w := wc) (heap_setCell_other wc.drew ⟨gn, i, none⟩ ga _ (fun h => hnga h.symm))]; exact fa
                  clear x4 x5 xs xn xa fn fa hC0
                  refine anyT_ready (rs := [16]) (by kernel_rfl) (by simp) ?_
                  refine AllT.cons rfl (fun K1 hK1 => ?_) AllT.nil
                  try simp only [Array.getInternal_eq_getElem, List.getElem_toArray, List.getElem_cons_zero, List.getElem_cons_succ]
                  go_simp
                  refine hK1.out _ _ ⟨fun h => absurd h (by simp), trivial⟩ (fun hT => ?_)
                  clear hK1 K1
                  try simp only [Act.put, Array.getInternal_eq_getElem, List.getElem_toArray, List.getElem_cons_zero, List.getElem_cons_succ, List.setIfInBounds_toArray, List.set_cons_zero, List.set_cons_succ]
                  obtain ⟨wq, hwq⟩ : ∃ wq, wq = wc.drew.setCell ⟨gn, i, none⟩ (.int .i64 cur.length) := ⟨_, rfl⟩
                  have hwq2 : (wc.setCell ⟨gn, i, none⟩ (.int .i64 cur.length)).drew = wq := hwq.symm
                  rw [← hwq] at ya gfa
                  rw [hwq2] at hT ⊢
                  clear hwq2
                  replace hwq := Lib.hid hwq
                  refine anyT_pure (i := 17) (v := ?_) rfl (by kernel_rfl) (by kernel_rfl) (by kernel_rfl) (fun _ _ _ h => h) (Or.inl ⟨by rfl, ?_⟩) (by assumption) ?_
                  rotate_left 1
                  focus ((intro w hSw; (try dsimp only at hSw); go_simp); try with_reducible rfl)
                  try simp only [Act.put, Array.getInternal_eq_getElem, List.getElem_toArray, List.getElem_cons_zero, List.getElem_cons_succ, List.setIfInBounds_toArray, List.set_cons_zero, List.set_cons_succ]
                  refine anyT_ready (rs := [18]) (by kernel_rfl) (by simp) ?_
                  refine AllT.cons rfl (fun K1 hK1 => ?_) AllT.nil
                  try simp only [Array.getInternal_eq_getElem, List.getElem_toArray, List.getElem_cons_zero, List.getElem_cons_succ]
                  go_simp
                  refine hK1.out _ _ ⟨fun h => absurd h (by simp), trivial⟩ (fun hT => ?_)
                  clear hK1 K1
                  try simp only [Act.put, Array.getInternal_eq_getElem, List.getElem_toArray, List.getElem_cons_zero, List.getElem_cons_succ, List.setIfInBounds_toArray, List.set_cons_zero, List.set_cons_succ]
                  refine anyT_done (by kernel_rfl) ?_ _
                  go_wp2_with fail
                  go_meet
                  rw [hwq.out]
                case rest =>
                  rename World => wy
                  have hCn := Chg.set (A := fun q => q = gn ∨ q = ga) (w := wc.drew) (b := gn) (o := i) (u := .int .i64 cur.length) (.inl rfl)
                  have hCa := Chg.set (A := fun q => q = gn ∨ q = ga) (w := wc.drew.setCell ⟨gn, i, none⟩ (.int .i64 cur.length)) (b := ga) (o := i) (u := .slice none 0 0) (.inr rfl)
                  have hCy := hCn.trans hCa
                  rw [← hcut] at hCy hCa
                  have hCw : Chg (fun q => q = gn ∨ q = ga) wc wy := ⟨hCy.os, hCy.tape, hCy.output, hCy.size, hCy.block⟩
                  have m1 := k1.move (hCw.same (fun q hq h => by rcases h with h | h; exact d02 q hq (h ▸ hgG2); exact d03 q hq (h ▸ hgG3)))
                  have m2 := k2.move (hCw.same (fun q hq h => by rcases h with h | h; exact d12 q hq (h ▸ hgG2); exact d13 q hq (h ▸ hgG3)))
                  have m3 : Ow true 3 Rp.int wy G2 (.slice (some ⟨gn, 0, none⟩) P.next.length cn1) (P.next.set i (cur.length : Int)) := by
                    have h := (k3.move (w' := wc.drew) (fun _ _ _ => rfl)).set1 rfl hPi (y := (cur.length : Int)) (u := .int .i64 cur.length) rfl
                    rw [hcut]
                    exact h.move (fun q hq _ => heap_setCell_other _ ⟨ga, i, none⟩ q _ (fun he => d23 q hq (by have he : q = ga := he; rw [he]; exact hgG3)))
                  have m4 : Ow true 35 (Rp.ow true 3 Rp.int) wy Fr4 (.slice (some ⟨ga, 0, none⟩) P.args.length ca1) (P.args.set i []) := by
                    have h := (H4.move (w' := wc.drew.setCell ⟨gn, i, none⟩ (.int .i64 cur.length)) (fun q hq _ => heap_setCell_other _ ⟨gn, i, none⟩ q _ (fun he => by have he : q = gn := he; exact hgFr4.out q hq he))).set1 rfl (.slice none 0 0)
                    rw [hcut]
                    exact (h.close (y := []) (G := fun _ => False) ⟨_, rfl, Ow.nil _ _ _ _ _⟩ (fun _ h => h.elim)).mono (fun q hq => by rcases hq with hq | hq; exact hq; exact hq.elim)
                  have hGk4lt : ∀ q, Gk4 q → q < w1.heap.size := fun q hq => (hgG.out q (e3 q (hGk4'.out q hq).1)).2.1
                  have hGk4FO : ∀ q, Gk4 q → FO q := fun q hq => (hgG.out q (e3 q (hGk4'.out q hq).1)).1
                  have m5 : Ow true 3 Rp.int wy Gk4 (.slice Au al.length cu) al := hOu.move (hCw.same (fun q hq h => by
                    have h4 := hGk4'.out q hq
                    rcases h with h | h
                    · exact d23 gn hgG2 (h ▸ h4.1)
                    · exact h4.2.2 h))
                  have HP := ((H0'.move (hCw.same (fun q hq h => by
                    rcases h with h | h
                    · exact hgn.2.2.1 (h ▸ hq)
                    · exact hga.2.2.1 (h ▸ hq)))).close (y := setNA P i (cur.length : Int)) (G := fun q => G0 q ∨ G1 q ∨ G2 q ∨ Fr4 q) (partA_mk (x := setNA P i (cur.length : Int)) (fun q hq => .inl hq) (fun q hq => .inr (.inl hq)) (fun q hq => .inr (.inr (.inl hq))) (fun q hq => .inr (.inr (.inr hq))) d01 d02 (fun q hq h => d03 q hq (hFr4'.out q h)) d12 (fun q hq h => d13 q hq (hFr4'.out q h)) (fun q hq h => d23 q hq (hFr4'.out q h)) m1 m2 m3 m4) (fun q hq h => by
                    rcases hq with hq | hq | hq | hq
                    · exact (hgG.out q (e0 q hq)).2.2.1 h
                    · exact (hgG.out q (e1 q hq)).2.2.1 h
                    · exact (hgG.out q (e2 q hq)).2.2.1 h
                    · exact (hgG.out q (e3 q (hFr4'.out q hq))).2.2.1 h)).mono (G := fun q => FO q ∧ q < w1.heap.size ∧ ¬ Gk4 q) (fun q hq => by
                    rcases hq with hq | hq | hq | hq | hq
                    · exact ⟨(hFr.out q hq).1, (hFr.out q hq).2, fun h => (hgG.out q (e3 q (hGk4'.out q h).1)).2.2.1 hq⟩
                    · exact ⟨(hgG.out q (e0 q hq)).1, (hgG.out q (e0 q hq)).2.1, fun h => d03 q hq (hGk4'.out q h).1⟩
                    · exact ⟨(hgG.out q (e1 q hq)).1, (hgG.out q (e1 q hq)).2.1, fun h => d13 q hq (hGk4'.out q h).1⟩
                    · exact ⟨(hgG.out q (e2 q hq)).1, (hgG.out q (e2 q hq)).2.1, fun h => d23 q hq (hGk4'.out q h).1⟩
                    · exact ⟨(hgG.out q (e3 q (hFr4'.out q hq))).1, (hgG.out q (e3 q (hFr4'.out q hq))).2.1, fun h => (hGk4'.out q h).2.1 hq⟩)
                  rw [hcs.out] at HP
                  have cN := hCw.blk BN (fun h => by rcases h with h | h <;> omega)
                  have cA := hCw.blk BA (fun h => by rcases h with h | h <;> omega)
                  have cE := hCw.blk BE (fun h => by rcases h with h | h <;> omega)
                  have cS := hCw.blk hb1 (fun h => by
                    rcases h with h | h
                    · exact hsbF.out gn hgn.1 h.symm
                    · exact hsbF.out ga hga.1 h.symm)
                  have hszy := hCw.size
                  have HKe : partA.K wy (fun q => q = nb ∨ q = ab ∨ Gk4 q) (extraP tw al) [.slice none 0 0, .slice none 0 0, .int .i64 1, .int .i64 0, .slice (some ⟨nb, 0, none⟩) 1 1, .slice (some ⟨ab, 0, none⟩) 1 1] :=
                    partA_mk (x := extraP tw al) (G0 := fun _ => False) (G1 := fun _ => False) (G2 := fun q => q = nb ∨ False) (G3 := fun q => q = ab ∨ Gk4 q) (fun _ h => h.elim) (fun _ h => h.elim) (fun q hq => .inl (hq.elim id False.elim)) (fun q hq => .inr hq) (fun _ h _ => h) (fun _ h _ => h) (fun _ h _ => h) (fun _ h _ => h) (fun _ h _ => h) (fun q hq h => by
                      rcases hq with rfl | hq
                      · rcases h with h | h
                        · exact hne.1 h
                        · have := hGk4lt _ h; omega
                      · exact hq) (Ow.nil _ _ _ _ _) (Ow.nil _ _ _ _ _) (ow_lit1 (G := fun _ => False) cN rfl rfl (fun _ h => h.elim)) (ow_lit1 cA rfl ⟨_, rfl, m5⟩ (fun q hq h => by have := hGk4lt q hq; omega))
                  have HC3 := HC2.trans2 hCw (fun q hq => by
                    rcases hq with rfl | rfl
                    · rcases ((HFO.out _).1 hgn.1).2 with h | h
                      · exact .inl (.inr h)
                      · exact .inr h
                    · rcases ((HFO.out _).1 hga.1).2 with h | h
                      · exact .inl (.inr h)
                      · exact .inr h)
                  have hcL : Hid ((L.set k (setNA P i (cur.length : Int)) ++ E).length = cur.length) := Lib.hid (by rw [List.length_append, List.length_set]; have := hLl.out; have := hcl.out; omega)
                  have hfin : Hid ((L.set k (setNA P i (cur.length : Int)) ++ E) ++ [extraP tw al] = L.set k (splitP ps p E0 (i + 1)).1 ++ (splitP ps p E0 (i + 1)).2) := Lib.hid (by rw [hst2.out]; dsimp only; rw [List.append_assoc, hcl.out])
                  have hlen2 : Hid ((splitP ps p E0 (i + 1)).2.length = E.length + 1) := Lib.hid (by rw [hst2.out]; simp)
                  have hcb := hcl.out
                  have hcb2 : cur.length ≤ 1000 := by omega
                  clear hCn hCa hCy m1 m2 m3 m4 m5 BN BA BE cN cA hb1 k1 k2 k3 H4 H0' hOu HC2 hst2 x4 x5 xs xn xa fn fa hcb d01 d02 d03 d12 d13 d23
                  generalize L.set k (setNA P i (cur.length : Int)) ++ E = LL at *
                  clear hcut hCw
                  obtain ⟨za, _⟩ := cell_of_block cS
                  have ys : wy.cell? ⟨sb, 0, none⟩ = some (.slice (some ⟨g1, 0, none⟩) cur.length cp) := (za 0).trans rfl
                  clear za
                  obtain ⟨za, _⟩ := cell_of_block cE
                  have r0 : wy.cell? ⟨eb, 0, none⟩ = some (.slice none 0 0) := (za 0).trans rfl
                  have r1 : wy.cell? ⟨eb, 1, none⟩ = some (.slice none 0 0) := (za 1).trans rfl
                  have r2 : wy.cell? ⟨eb, 2, none⟩ = some (.int .i64 1) := (za 2).trans rfl
                  have r3 : wy.cell? ⟨eb, 3, none⟩ = some (.int .i64 0) := (za 3).trans rfl
                  have r4 : wy.cell? ⟨eb, 4, none⟩ = some (.slice (some ⟨nb, 0, none⟩) 1 1) := (za 4).trans rfl
                  have r5 : wy.cell? ⟨eb, 5, none⟩ = some (.slice (some ⟨ab, 0, none⟩) 1 1) := (za 5).trans rfl
                  clear za
                  obtain ⟨Wz, hWz⟩ : ∃ Wz, Wz = (wy.alloc (.cells #[.slice none 0 0, .slice none 0 0, .int .i64 1, .int .i64 0, .slice (some ⟨nb, 0, none⟩) 1 1, .slice (some ⟨ab, 0, none⟩) 1 1] 54)).drew := ⟨_, rfl⟩
                  have hbz : Below wy.heap.size wy Wz := by rw [hWz]; exact below_drew (below_new _)
                  have bz : Wz.heap[wy.heap.size]? = some (.cells #[.slice none 0 0, .slice none 0 0, .int .i64 1, .int .i64 0, .slice (some ⟨nb, 0, none⟩) 1 1, .slice (some ⟨ab, 0, none⟩) 1 1] 54 (0, 0)) := by rw [hWz]; exact heap_alloc_new wy _
                  have hWz2 : wy.drew.alloc (.cells #[.slice none 0 0, .slice none 0 0, .int .i64 1, .int .i64 0, .slice (some ⟨nb, 0, none⟩) 1 1, .slice (some ⟨ab, 0, none⟩) 1 1] 54) = Wz := hWz.symm
                  have HPz := HP.below hbz
                  have HKz := partA.move (w' := Wz) (fun q hq hlt => hbz.block q hlt) HKe
                  obtain ⟨v5, W5, hrn, hO5, hg5⟩ := run_ap1 (P := Try.prog) (r := partA) (e := 54) 27 27 (.agg #[.slice none 0 0, .slice none 0 0, .int .i64 0, .int .i64 0, .slice none 0 0, .slice none 0 0]) 112 Try.underlying27 infoPart rfl (by decide) (by omega) (.slice (some ⟨g1, 0, none⟩) cur.length cp) LL (extraP tw al) [.slice none 0 0, .slice none 0 0, .int .i64 1, .int .i64 0, .slice (some ⟨nb, 0, none⟩) 1 1, .slice (some ⟨ab, 0, none⟩) 1 1] wy.heap.size bz HPz HKz (fun q hq h => by
                    have h2 := h.2
                    rcases hq with rfl | rfl | hq
                    · omega
                    · omega
                    · exact h2.2 hq) (by rw [hcL.out]; omega)
                  obtain ⟨A5, c5, h5e, _, _⟩ := hO5.form1
                  rw [hcL.out] at h5e
                  subst h5e
                  have cSz := blk_below cS hbz
                  have cEz := blk_below cE hbz
                  have cS5 := grown_blk hg5 cSz (own_ne HPz (fun h => hsbF.out sb h.1 rfl))
                  have cE5 := grown_blk hg5 cEz (own_ne HPz (fun h => by have := h.2.1; omega))
                  have hCg := Chg.of_grown hg5
                  have HC4 := (HC3.trans2 (Chg.of_below (A := fun _ => False) hbz) (fun _ h => h.elim)).trans2 hCg (fun q hq => by
                    have h := (own_in HPz (.inl hq)).1
                    rcases ((HFO.out q).1 h).2 with h | h
                    · exact .inl (.inr h)
                    · exact .inr h)
                  have hz5 := hg5.size
                  have hzz := hbz.size
                  have HO6 := hO5.mono (G := FO) (fun q hq => by
                    rcases hq with hq | hq | hq
                    · exact hq.1
                    · rcases hq with rfl | rfl | hq
                      · exact (HFO.out _).2 ⟨by omega, .inr (by omega)⟩
                      · exact (HFO.out _).2 ⟨by omega, .inr (by omega)⟩
                      · exact hGk4FO q hq
                    · exact (HFO.out _).2 ⟨by omega, .inr (by omega)⟩)
                  have hCs := Chg.set (A := fun q => q = sb) (w := W5) (b := sb) (o := 0) (u := .slice A5 (cur.length + 1) c5) rfl
                  have HO7 := HO6.move (hCs.same (fun q hq h => hsbF.out q hq h))
                  rw [hfin.out] at HO7
                  have cS6 := blk_put cS5 0 (.slice A5 (cur.length + 1) c5)
                  have HC5 := HC4.trans2 hCs (fun q hq => .inl (.inl hq))
                  have HS6 : SeS V sb FO (L.set k (splitP ps p E0 (i + 1)).1 ++ (splitP ps p E0 (i + 1)).2) A5 c5 (W5.setCell ⟨sb, 0, none⟩ (.slice A5 (cur.length + 1) c5)) := by
                    have e : (L.set k (splitP ps p E0 (i + 1)).1 ++ (splitP ps p E0 (i + 1)).2).length = cur.length + 1 := by rw [← hfin.out, List.length_append, hcL.out]; rfl
                    exact ⟨by rw [e]; exact cS6, by rw [e]; exact HO7⟩
                  have hwm : IntKind.i64.wrap ((E.length : Int) + 1) = (E.length : Int) + 1 := IntWalk.i64_in _ (by omega)
                  have rH := Lib.hid (And.intro r0 (And.intro r1 (And.intro r2 (And.intro r3 (And.intro r4 r5)))))
                  clear HO7 HO6 hO5 hg5 hCg HC4 HC3 HP HPz HKe HKz hCs cS6 hGk4lt hGk4FO hg1 hg1F hgn hga hnga hge hne hgG2 hgG3
                  go_upto_region 12 with fail
                  refine anyT_region [(10, fun w' => w'.cell? ⟨sb, 0, none⟩ = some (.slice (some ⟨g1, 0, none⟩) cur.length cp) ∧ w'.cell? ⟨eb, 0, none⟩ = some (.slice none 0 0) ∧ w'.cell? ⟨eb, 1, none⟩ = some (.slice none 0 0) ∧ w'.cell? ⟨eb, 2, none⟩ = some (.int .i64 1) ∧ w'.cell? ⟨eb, 3, none⟩ = some (.int .i64 0) ∧ w'.cell? ⟨eb, 4, none⟩ = some (.slice (some ⟨nb, 0, none⟩) 1 1) ∧ w'.cell? ⟨eb, 5, none⟩ = some (.slice (some ⟨ab, 0, none⟩) 1 1))] (by kernel_rfl) ⟨fun _ => ⟨ys, r0, r1, r2, r3, r4, r5⟩, trivial⟩ (fun hT => ?_)
                  refine anyT_pure (i := 0) (v := ?_) rfl (by kernel_rfl) (by kernel_rfl) (by kernel_rfl) (fun _ _ _ h => h) (Or.inl ⟨by rfl, ?_⟩) (by assumption) ?_
                  rotate_left 1
                  focus ((intro w hSw; (try dsimp only at hSw); go_simp); try with_reducible rfl)
                  try simp only [Act.put, Array.getInternal_eq_getElem, List.getElem_toArray, List.getElem_cons_zero, List.getElem_cons_succ, List.setIfInBounds_toArray, List.set_cons_zero, List.set_cons_succ]
                  refine anyT_pure (i := 1) (v := ?_) rfl (by kernel_rfl) (by kernel_rfl) (by kernel_rfl) (fun _ _ _ h => h) (Or.inl ⟨by rfl, ?_⟩) (by assumption) ?_
                  rotate_left 1
                  focus ((intro w hSw; (try dsimp only at hSw); go_simp); try with_reducible rfl)
                  try simp only [Act.put, Array.getInternal_eq_getElem, List.getElem_toArray, List.getElem_cons_zero, List.getElem_cons_succ, List.setIfInBounds_toArray, List.set_cons_zero, List.set_cons_succ]
                  refine anyT_pure (i := 2) (v := ?_) rfl (by kernel_rfl) (by kernel_rfl) (by kernel_rfl) (fun _ _ _ h => h) (Or.inl ⟨by rfl, ?_⟩) (by assumption) ?_
                  rotate_left 1
                  focus ((intro w hSw; (try dsimp only at hSw); go_simp); try with_reducible rfl)
                  try simp only [Act.put, Array.getInternal_eq_getElem, List.getElem_toArray, List.getElem_cons_zero, List.getElem_cons_succ, List.setIfInBounds_toArray, List.set_cons_zero, List.set_cons_succ]
                  refine anyT_pure (i := 3) (v := ?_) rfl (by kernel_rfl) (by kernel_rfl) (by kernel_rfl) (fun _ _ _ h => h) (Or.inl ⟨by rfl, ?_⟩) (by assumption) ?_
                  rotate_left 1
                  focus ((intro w hSw; (try dsimp only at hSw); go_simp); try with_reducible rfl)
                  try simp only [Act.put, Array.getInternal_eq_getElem, List.getElem_toArray, List.getElem_cons_zero, List.getElem_cons_succ, List.setIfInBounds_toArray, List.set_cons_zero, List.set_cons_succ]
                  refine anyT_take (k := 0) (i := 4) (v := ?_) rfl rfl (by kernel_rfl) (by kernel_rfl) (by kernel_rfl) (fun _ _ _ h => h) (Or.inl ⟨by rfl, ?_⟩) (by assumption) ?_
                  rotate_left 1
                  focus ((intro w hSw; (try dsimp only at hSw); go_simp); try with_reducible rfl)
                  try simp only [Act.put, Array.getInternal_eq_getElem, List.getElem_toArray, List.getElem_cons_zero, List.getElem_cons_succ, List.setIfInBounds_toArray, List.set_cons_zero, List.set_cons_succ]
                  refine anyT_take (k := 0) (i := 5) (v := ?_) rfl rfl (by kernel_rfl) (by kernel_rfl) (by kernel_rfl) (fun _ _ _ h => h) (Or.inl ⟨by rfl, ?_⟩) (by assumption) ?_
                  rotate_left 1
                  focus ((intro w hSw; (try dsimp only at hSw); go_simp); try with_reducible rfl)
                  try simp only [Act.put, Array.getInternal_eq_getElem, List.getElem_toArray, List.getElem_cons_zero, List.getElem_cons_succ, List.setIfInBounds_toArray, List.set_cons_zero, List.set_cons_succ]
                  refine anyT_ready (rs := [6]) (by kernel_rfl) (by simp) ?_
                  refine AllT.cons rfl (fun K1 hK1 => ?_) AllT.nil
                  try simp only [Array.getInternal_eq_getElem, List.getElem_toArray, List.getElem_cons_zero, List.getElem_cons_succ]
                  go_simp
                  first | rw [← hWz] | rw [hWz2]
                  refine hK1.out _ _ ⟨fun _ => ⟨cell_below hbz ys, cell_below hbz r0, cell_below hbz r1, cell_below hbz r2, cell_below hbz r3, cell_below hbz r4, cell_below hbz r5⟩, trivial⟩ (fun hT => ?_)
                  clear hK1 K1 hWz hWz2
                  try simp only [Act.put, Array.getInternal_eq_getElem, List.getElem_toArray, List.getElem_cons_zero, List.getElem_cons_succ, List.setIfInBounds_toArray, List.set_cons_zero, List.set_cons_succ]
                  refine anyT_ready (rs := [7]) (by kernel_rfl) (by simp) ?_
                  refine AllT.cons rfl (fun K1 hK1 => ?_) AllT.nil
                  try simp only [Array.getInternal_eq_getElem, List.getElem_toArray, List.getElem_cons_zero, List.getElem_cons_succ]
                  rw [if_pos (by first | kernel_rfl | rfl | decide)]
                  refine oper_append _ _ _ _ _ _ rfl (by rfl) (by rfl) hrn ?_
                  obtain ⟨za, zb⟩ := cell_of_block cS5
                  obtain ⟨zc, _⟩ := cell_of_block cE5
                  refine hK1.out _ _ ⟨fun _ => ⟨(za 0).trans rfl, (zc 0).trans rfl, (zc 1).trans rfl, (zc 2).trans rfl, (zc 3).trans rfl, (zc 4).trans rfl, (zc 5).trans rfl⟩, trivial⟩ (fun hT => ?_)
                  have ys5 : W5.cell? ⟨sb, 0, none⟩ = some (.slice (some ⟨g1, 0, none⟩) cur.length cp) := (za 0).trans rfl
                  have yf5 := zb 0
                  clear hK1 K1 za zb zc ys r0 r1 r2 r3 r4 r5
                  try simp only [Act.put, Array.getInternal_eq_getElem, List.getElem_toArray, List.getElem_cons_zero, List.getElem_cons_succ, List.setIfInBounds_toArray, List.set_cons_zero, List.set_cons_succ]
                  refine anyT_pure (i := 8) (v := ?_) rfl (by kernel_rfl) (by kernel_rfl) (by kernel_rfl) (fun _ _ _ h => h) (Or.inl ⟨by rfl, ?_⟩) (by assumption) ?_
                  rotate_left 1
                  focus ((intro w hSw; (try dsimp only at hSw); go_simp); try with_reducible rfl)
                  try simp only [Act.put, Array.getInternal_eq_getElem, List.getElem_toArray, List.getElem_cons_zero, List.getElem_cons_succ, List.setIfInBounds_toArray, List.set_cons_zero, List.set_cons_succ]
                  refine anyT_pure (i := 9) (v := ?_) rfl (by kernel_rfl) (by kernel_rfl) (by kernel_rfl) (fun _ _ _ h => h) (Or.inl ⟨by rfl, ?_⟩) (by assumption) ?_
                  rotate_left 1
                  focus ((intro w hSw; (try dsimp only at hSw); go_simp); try with_reducible rfl)
                  try simp only [Act.put, Array.getInternal_eq_getElem, List.getElem_toArray, List.getElem_cons_zero, List.getElem_cons_succ, List.setIfInBounds_toArray, List.set_cons_zero, List.set_cons_succ]
                  refine anyT_ready (rs := [10]) (by kernel_rfl) (by simp) ?_
                  refine AllT.cons rfl (fun K1 hK1 => ?_) AllT.nil
                  try simp only [Array.getInternal_eq_getElem, List.getElem_toArray, List.getElem_cons_zero, List.getElem_cons_succ]
                  go_simp
                  refine hK1.out _ _ ⟨fun h => absurd h (by simp), trivial⟩ (fun hT => ?_)
                  clear hK1 K1
                  try simp only [Act.put, Array.getInternal_eq_getElem, List.getElem_toArray, List.getElem_cons_zero, List.getElem_cons_succ, List.setIfInBounds_toArray, List.set_cons_zero, List.set_cons_succ]
                  refine anyT_done (by kernel_rfl) ?_ _
                  clear ys5 yf5 cS5 cE5 cSz cEz cS cE bz hbz hrn
                  go_wp2_with fail
                  go_roundw
                  case rel => exact ⟨i + 1, A5, c5, by omega, by rw [hlen2.out]; go_num, by go_num, HS6, HC5⟩
                  case measure => first | (simp [intOf]; done) | (simp [intOf]; omega)
          · obtain rfl : i = p.next.length := by omega
            go_wp2_with fail
            go_roundw
            case rel => exact ⟨k + 1, Ap, cp, by omega, by rw [HKs.out], by go_num, by rw [HKs.out]; exact HS, HC⟩
            case measure => first | (simp [intOf]; done) | (simp [intOf]; omega)
      · obtain rfl : k = ps.length := by omega
        go_wp2_with fail
        go_ret
        exact ⟨Ap, cp, by rw [HSS.out.2]; rfl, by rw [HSS.out.1]; exact HS, HC⟩
end Go.Proofs.Ytmcnoeinjocimaa.L
