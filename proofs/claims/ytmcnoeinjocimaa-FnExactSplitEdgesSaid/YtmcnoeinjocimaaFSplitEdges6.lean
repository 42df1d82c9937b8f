/- Joined texts, each of which was built by itself: Se2. -/
import Derived.Test.YtmcnoeinjocimaaFSplitEdges5
import Derived.Test.YtmcnoeinjocimaaFSplitEdges4
set_option linter.unusedVariables false
set_option linter.unusedSimpArgs false
namespace Go.Proofs.Ytmcnoeinjocimaa.L
open Go.RowKit
set_option maxRecDepth 100000 in
set_option maxHeartbeats 16000000 in
theorem l13Split_calls {F : Nat → Prop} (s : Sa) (vp : Value) (w : World) (hs : Rp.Rd part w F vp s.parts) (hx : SaLim s) (hg : GoodP s) :
    Calls Try.prog 64 #[saV s vp] w fun e w' => ∃ v', e = .returned (.tuple #[saV (splitS s) v', .int .i64 (splitN s : Nat)]) ∧ Ow true 54 partA w' (fun q => w.heap.size ≤ q) v' (splitS s).parts ∧ Below w.heap.size w w' := by
  obtain ⟨A, c, rfl, hlc, hcm, hrow⟩ := rd_part hs
  have hn1 := hg.n1
  have hn2 := hg.n2
  have HG := Lib.hid hg
  have HX := Lib.hid hx.2
  have HOwn := Lib.hid (fun W (hW : Below w.heap.size w W) => l9Own_calls s _ W (hs.below hW) hx)
  have HCrt := Lib.hid (fun W (hW : Below w.heap.size w W) p i v1 v2 v3 v4 (F2 : Nat → Prop) h1 h2 (h3 : Rp.Rd Rp.int W F2 v3 p.next) h4 hi ha => critS_calls s p i _ v1 v2 v3 v4 W (hs.below hW) hx.1 (fun q hq => (hx.2 q hq).2.2.1) h1 h2 h3 h4 hi ha)
  have HSS : Hid ((splitS s).parts = (splitK s.parts s.parts.length).1 ++ (splitK s.parts s.parts.length).2 ∧ splitN s = (splitK s.parts s.parts.length).2.length ∧ (splitS s).values = s.values) := Lib.hid ⟨rfl, rfl, rfl⟩
  clear hg hx hs
  unfold saV at *
  obtain ⟨ps, hps⟩ : ∃ ps, ps = s.parts := ⟨_, rfl⟩
  obtain ⟨V, hV⟩ : ∃ V, V = s.values := ⟨_, rfl⟩
  rw [← hps] at HSS hn1 hn2 hrow hlc HX HOwn HCrt ⊢
  rw [← hV] at HOwn HSS HCrt ⊢
  have HPS := Lib.hid hps
  clear hps hV
  have hB0 : Below w.heap.size w ((w.alloc (.cells #[.slice A ps.length c, .int .i64 V] 29)).alloc (.cells #[.slice none 0 0, .int .i64 0] 29)) := below_then (below_new _) (below_new _)
  have b0 : ((w.alloc (.cells #[.slice A ps.length c, .int .i64 V] 29)).alloc (.cells #[.slice none 0 0, .int .i64 0] 29)).heap[w.heap.size]? = some (.cells #[.slice A ps.length c, .int .i64 V] 29 (0, 0)) := alloc_old (alloc_at rfl)
  have r0 : ((w.alloc (.cells #[.slice A ps.length c, .int .i64 V] 29)).alloc (.cells #[.slice none 0 0, .int .i64 0] 29)).heap[w.heap.size + 1]? = some (.cells #[.slice none 0 0, .int .i64 0] 29 (0, 0)) := alloc_at (by simp)
  have hz0 : ((w.alloc (.cells #[.slice A ps.length c, .int .i64 V] 29)).alloc (.cells #[.slice none 0 0, .int .i64 0] 29)).heap.size ≤ w.heap.size + 2 ∧ w.heap.size + 2 ≤ ((w.alloc (.cells #[.slice A ps.length c, .int .i64 V] 29)).alloc (.cells #[.slice none 0 0, .int .i64 0] 29)).heap.size := by simp
  obtain ⟨x1, _⟩ := cell_of_block b0
  have x10 := (x1 0).trans (show (#[Value.slice A ps.length c, Value.int .i64 V] : Array Value)[0]? = some (Value.slice A ps.length c) from rfl)
  have x11 := (x1 1).trans (show (#[Value.slice A ps.length c, Value.int .i64 V] : Array Value)[1]? = some (Value.int .i64 V) from rfl)
  clear x1
  go_enter Try.func64, Try.ntmps64
  go_wp2_with fail
  generalize (w.alloc (.cells #[.slice A ps.length c, .int .i64 V] 29)).alloc (.cells #[.slice none 0 0, .int .i64 0] 29) = W0 at *
  refine (HOwn.out _ hB0).mono ?_
  rintro e w1 ⟨vo, rfl, hO1, hb1⟩
  obtain ⟨A0, c0, rfl, _, _⟩ := hO1.form
  have hB1 := below_then hB0 hb1
  have b1 := blk_below b0 hb1
  have r1 := blk_below r0 hb1
  have hs1 := hb1.size
  clear HOwn b0 r0 x10 x11 hb1 hB0
  have hOa := hO1.bound.below (below_new (w := w1) (.cells #[.slice A0 ps.length c0, .int .i64 V] 29))
  have ho1 := heap_alloc_new w1 (.cells #[.slice A0 ps.length c0, .int .i64 V] 29)
  have hB2 := below_then hB1 (below_new (w := w1) (.cells #[.slice A0 ps.length c0, .int .i64 V] 29))
  have b2 := blk_below b1 (below_new (w := w1) (.cells #[.slice A0 ps.length c0, .int .i64 V] 29))
  have r2 := blk_below r1 (below_new (w := w1) (.cells #[.slice A0 ps.length c0, .int .i64 V] 29))
  have hz2 : w1.heap.size < (w1.alloc (.cells #[.slice A0 ps.length c0, .int .i64 V] 29)).heap.size := by simp
  obtain ⟨x1, _⟩ := cell_of_block b2
  have x10 := (x1 0).trans (show (#[Value.slice A ps.length c, Value.int .i64 V] : Array Value)[0]? = some (Value.slice A ps.length c) from rfl)
  clear x1 hB1 b1 r1 hO1
  go_wp2_with fail
  clear x10
  generalize w1.alloc (.cells #[.slice A0 ps.length c0, .int .i64 V] 29) = W2 at *
  obtain ⟨ob, hob⟩ : ∃ ob, ob = w1.heap.size := ⟨_, rfl⟩
  rw [← hob] at ho1 hOa hs1 hz2 ⊢
  replace hob := Lib.hid hob
  obtain ⟨FO, hFO⟩ : ∃ FO : Nat → Prop, FO = (fun q => q ≠ ob ∧ w.heap.size + 2 ≤ q) := ⟨_, rfl⟩
  have HFO : Hid (∀ q, FO q ↔ (q ≠ ob ∧ w.heap.size + 2 ≤ q)) := Lib.hid (fun q => by rw [hFO])
  clear hFO
  have hS0 : SeS V ob FO ((splitK ps 0).1 ++ (splitK ps 0).2) A0 c0 W2 := by
    have e : (splitK ps 0).1 ++ (splitK ps 0).2 = ps := by simp [splitK]
    rw [e]
    exact ⟨ho1, hOa.mono (fun q hq => (HFO.out q).2 ⟨by have := hq.2; have := hob.out; omega, by have := hq.1; omega⟩)⟩
  have hobw : w.heap.size + 2 ≤ ob := by omega
  clear ho1 hOa
  go_loopw [5, 15] (fun m i wr => ∃ (k : Nat) (Ap : Option Addr) (cp : Nat), k ≤ ps.length ∧ m = .int .i64 ((splitK ps k).2.length : Nat) ∧ i = .int .i64 k ∧ SeS V ob FO ((splitK ps k).1 ++ (splitK ps k).2) Ap cp wr ∧ Below w.heap.size w wr ∧ wr.heap[w.heap.size]? = some (.cells #[.slice A ps.length c, .int .i64 V] 29 (0, 0)) ∧ wr.heap[w.heap.size + 1]? = some (.cells #[.slice none 0 0, .int .i64 0] 29 (0, 0)) ∧ ob < wr.heap.size) (fun _ i _ => ps.length - (intOf i).toNat)
  case atStart => exact ⟨0, A0, c0, Nat.zero_le _, by simp [splitK], rfl, hS0, hB2, b2, r2, hz2⟩
  case round =>
    clear hS0 hB2 b2 r2 hz2
    obtain ⟨k, Ap, cp, hk, rfl, rfl, HS, HB, hb, hr, hoz⟩ := hrel
    rename World => wo
    by_cases hkt : k < ps.length
    · rcases hrow with hnil | ⟨b, o, rfl, hbl, hcell⟩
      · rw [hnil] at hkt; simp at hkt
      obtain ⟨vp, vc, vn, va, hpt, h1, h2, h3, h4⟩ := hcell k hkt
      have hp : ps[k]? = some ps[k] := List.getElem?_eq_getElem hkt
      have hlim := HX.out _ (List.getElem_mem hkt)
      obtain ⟨p, hpe⟩ : ∃ p, p = ps[k] := ⟨_, rfl⟩
      rw [← hpe] at hp hpt h1 h2 h3 h4 hlim
      clear hpe hcell
      have hp' : s.parts[k]? = some p := by rw [← HPS.out]; exact hp
      have hLl := (splitK_inv ps k).1
      have HLs := Lib.hid (splitK_set hp)
      have HKs := Lib.hid (splitK_succ hp)
      have hpok := HG.out.ptOk (List.mem_of_getElem? hp')
      have hpn := hpok.2.2.1
      have hpa : p.next.length ≤ p.args.length := static_args (HG.out.static (List.mem_of_getElem? hp'))
      have HAr : Hid (∀ a ∈ p.args, a.length ≤ 300) := Lib.hid hpok.2.2.2.2
      have HI := Lib.hid (fun i => (splitP_inv ps p (splitK ps k).2 i).1)
      have HNo : Hid (∀ i, i ≤ p.next.length → (splitP ps p (splitK ps k).2 i).2.length ≤ 120) := Lib.hid (fun i hi => by rw [HPS.out]; exact (now_ok HG.out hp' hi).2)
      have HSt : Hid (∀ i, splitP ps p (splitK ps k).2 (i + 1) = stepSp ps p (splitP ps p (splitK ps k).2 i) i) := Lib.hid (fun i => rfl)
      have H0 : Hid (splitP ps p (splitK ps k).2 0 = (p, (splitK ps k).2)) := Lib.hid rfl
      clear hp hp' hpok
      obtain ⟨L, hL⟩ : ∃ L, L = (splitK ps k).1 := ⟨_, rfl⟩
      obtain ⟨E0, hE⟩ : ∃ E0, E0 = (splitK ps k).2 := ⟨_, rfl⟩
      rw [← hL, ← hE] at HS
      rw [← hL] at hLl HLs HKs
      rw [← hE] at HKs HI HNo HSt H0 ⊢
      clear hL hE
      have hpt := partAt_below hpt HB
      obtain ⟨q0, q1, q2, q3, q4, q5⟩ := hpt
      obtain ⟨A1, c1, rfl, _⟩ := id h1
      obtain ⟨A2, c2, rfl, _⟩ := id h2
      obtain ⟨A3, c3, rfl, _⟩ := id h3
      obtain ⟨A4, c4, rfl, _⟩ := id h4
      have m0 : (0 : Int) ≤ (k : Int) := Int.natCast_nonneg _
      have m1 : (k : Int) < (ps.length : Int) := by omega
      have hbx := below_new (w := wo) (.cells #[.slice A1 p.params.length c1, .slice A2 p.code.length c2, .int .i64 p.go, .int .i64 p.test, .slice A3 p.next.length c3, .slice A4 p.args.length c4] 54)
      have px := heap_alloc_new wo (.cells #[.slice A1 p.params.length c1, .slice A2 p.code.length c2, .int .i64 p.go, .int .i64 p.test, .slice A3 p.next.length c3, .slice A4 p.args.length c4] 54)
      have hxs : wo.heap.size < (wo.alloc (.cells #[.slice A1 p.params.length c1, .slice A2 p.code.length c2, .int .i64 p.go, .int .i64 p.test, .slice A3 p.next.length c3, .slice A4 p.args.length c4] 54)).heap.size := by simp
      obtain ⟨FO2, hFO2⟩ : ∃ FO2 : Nat → Prop, FO2 = (fun q => FO q ∧ q ≠ wo.heap.size) := ⟨_, rfl⟩
      have HFO2 : Hid (∀ q, FO2 q ↔ (FO q ∧ q ≠ wo.heap.size)) := Lib.hid (fun q => by rw [hFO2])
      clear hFO2
      have hS1 : SeS V ob FO2 (L.set k (splitP ps p E0 0).1 ++ (splitP ps p E0 0).2) Ap cp (wo.alloc (.cells #[.slice A1 p.params.length c1, .slice A2 p.code.length c2, .int .i64 p.go, .int .i64 p.test, .slice A3 p.next.length c3, .slice A4 p.args.length c4] 54)) := by
        rw [H0.out]; dsimp only; rw [HLs.out]
        exact ⟨blk_below HS.hb hbx, (HS.ow.bound.below hbx).mono (fun q hq => (HFO2.out q).2 ⟨hq.1, by have := hq.2; omega⟩)⟩
      have hE0 : E0.length = (splitP ps p E0 0).2.length := by rw [H0.out]
      replace hE0 := Lib.hid hE0
      replace hLl := Lib.hid hLl
      have HBx := below_then HB hbx
      have hb := blk_below hb hbx
      have hr := blk_below hr hbx
      have hpvo : w.heap.size + 2 ≤ wo.heap.size ∧ ob < wo.heap.size := by omega
      have hoz3 : ob < (wo.alloc (.cells #[.slice A1 p.params.length c1, .slice A2 p.code.length c2, .int .i64 p.go, .int .i64 p.test, .slice A3 p.next.length c3, .slice A4 p.args.length c4] 54)).heap.size := by omega
      clear HB HS
      go_wp2_with fail
      clear q0 q1 q2 q3 q4 q5 hbx
      generalize wo.alloc (.cells #[.slice A1 p.params.length c1, .slice A2 p.code.length c2, .int .i64 p.go, .int .i64 p.test, .slice A3 p.next.length c3, .slice A4 p.args.length c4] 54) = W3 at *
      generalize wo.heap.size = pv at *
      go_loopw [5, 23] (fun m i wr => ∃ (i0 : Nat) (Ap : Option Addr) (cp : Nat), i0 ≤ p.next.length ∧ m = .int .i64 ((splitP ps p E0 i0).2.length : Nat) ∧ i = .int .i64 i0 ∧ SeS V ob FO2 (L.set k (splitP ps p E0 i0).1 ++ (splitP ps p E0 i0).2) Ap cp wr ∧ Below w.heap.size w wr ∧ wr.heap[w.heap.size]? = some (.cells #[.slice (some ⟨b, o, none⟩) ps.length c, .int .i64 V] 29 (0, 0)) ∧ wr.heap[w.heap.size + 1]? = some (.cells #[.slice none 0 0, .int .i64 0] 29 (0, 0)) ∧ ob < wr.heap.size ∧ wr.heap[pv]? = some (.cells #[.slice A1 p.params.length c1, .slice A2 p.code.length c2, .int .i64 p.go, .int .i64 p.test, .slice A3 p.next.length c3, .slice A4 p.args.length c4] 54 (0, 0))) (fun _ i _ => p.next.length - (intOf i).toNat)
      case atStart => exact ⟨0, _, _, Nat.zero_le _, by rw [← hE0.out], rfl, hS1, HBx, hb, hr, hoz3, px⟩
      case round =>
        clear hS1 HBx hb hr hoz3 hoz px
        obtain ⟨i, Ap, cp, hi, rfl, rfl, HS, HB, hb, hr, hoz, px⟩ := hrel
        rename World => wx
        by_cases hit : i < p.next.length
        · have hE120 := HNo.out i hi
          have HI1 := HI.out i
          have HSt1 := HSt.out i
          obtain ⟨P, hP⟩ : ∃ P, P = (splitP ps p E0 i).1 := ⟨_, rfl⟩
          obtain ⟨E, hE⟩ : ∃ E, E = (splitP ps p E0 i).2 := ⟨_, rfl⟩
          have hst : splitP ps p E0 (i + 1) = if critB ps p i = true then (setNA P i ((ps.length + E.length : Nat) : Int), E ++ [extraP (p.next.getD i 0) (p.args.getD i [])]) else (P, E) := by rw [HSt1]; unfold stepSp; rw [hP, hE]
          rw [← hP, ← hE] at HS
          rw [← hP] at HI1
          rw [← hE] at hE120
          rw [← hE]
          clear hP hE HSt1
          have hkL : k < L.length := by have := hLl.out; omega
          have hcl : (L.set k P ++ E).length = ps.length + E.length := by rw [List.length_append, List.length_set]; have := hLl.out; omega
          have hkc : k < (L.set k P ++ E).length := by omega
          have hck : (L.set k P ++ E)[k]? = some P := by rw [List.getElem?_append_left (by rw [List.length_set]; exact hkL), List.getElem?_set_self hkL]
          have hcs : Hid (∀ y, (L.set k P ++ E).set k y = L.set k y ++ E) := Lib.hid (fun y => by rw [List.set_append_left _ _ (by rw [List.length_set]; exact hkL), List.set_set])
          have hPn := HI1.nl
          have hPa := HI1.al
          obtain ⟨cur, hcur⟩ : ∃ cur, cur = L.set k P ++ E := ⟨_, rfl⟩
          have HcE : Hid (cur = L.set k P ++ E) := Lib.hid hcur
          simp only [← hcur] at hck HS hcs hkc hcl
          clear hcur
          have hckH := Lib.hid hck
          clear hck
          obtain ⟨A3', c3', he, _, _, hrow3⟩ := rd_int h3
          injection he with he1 _ he3
          subst he1
          subst he3
          rcases hrow3 with hnil | ⟨b3, o3, rfl, hb3, hc3⟩
          · rw [hnil] at hit; simp at hit
          obtain ⟨A4', c4', he, _, _, hrow4⟩ := rd_ints h4
          injection he with he1 _ he3
          subst he1
          subst he3
          rcases hrow4 with hnil | ⟨b4, o4, rfl, hb4, hc4⟩
          · have : p.args.length = 0 := by rw [hnil]; rfl
            omega
          have hia : i < p.args.length := by omega
          have xn := cell_below HB (hc3 i hit)
          obtain ⟨u, xa, hRow⟩ := hc4 i hia
          have xa := cell_below HB xa
          have hRow := hRow.below HB
          have eN : p.next.getD i 0 = p.next[i] := by rw [List.getD_eq_getElem?_getD, List.getElem?_eq_getElem hit]; rfl
          have eA : p.args.getD i [] = p.args[i] := by rw [List.getD_eq_getElem?_getD, List.getElem?_eq_getElem hia]; rfl
          rw [eN, eA] at hst
          have hal := HAr.out _ (List.getElem_mem hia)
          replace hst := Lib.hid hst
          clear eN eA hc3 hc4
          generalize p.next[i] = tw at *
          generalize p.args[i] = al at *
          obtain ⟨Au, cu, rfl, _⟩ := id hRow
          have HC := Lib.hid (HCrt.out wx HB p i (.slice A1 p.params.length c1) (.slice A2 p.code.length c2) (.slice (some ⟨b3, o3, none⟩) p.next.length c3) (.slice (some ⟨b4, o4, none⟩) p.args.length c4) F ⟨_, _, rfl⟩ ⟨_, _, rfl⟩ (h3.below HB) (h4.below HB) hit hia)
          unfold ptV at HC
          obtain ⟨y1, _⟩ := cell_of_block hb
          have x10 : wx.cell? ⟨w.heap.size, 0, none⟩ = some (.slice (some ⟨b, o, none⟩) ps.length c) := (y1 0).trans rfl
          have x11 : wx.cell? ⟨w.heap.size, 1, none⟩ = some (.int .i64 V) := (y1 1).trans rfl
          clear y1
          obtain ⟨y1, _⟩ := cell_of_block px
          have p0 : wx.cell? ⟨pv, 0, none⟩ = some (.slice A1 p.params.length c1) := (y1 0).trans rfl
          have p1 : wx.cell? ⟨pv, 1, none⟩ = some (.slice A2 p.code.length c2) := (y1 1).trans rfl
          have p2 : wx.cell? ⟨pv, 2, none⟩ = some (.int .i64 p.go) := (y1 2).trans rfl
          have p3 : wx.cell? ⟨pv, 3, none⟩ = some (.int .i64 p.test) := (y1 3).trans rfl
          have p4 : wx.cell? ⟨pv, 4, none⟩ = some (.slice (some ⟨b3, o3, none⟩) p.next.length c3) := (y1 4).trans rfl
          have p5 : wx.cell? ⟨pv, 5, none⟩ = some (.slice (some ⟨b4, o4, none⟩) p.args.length c4) := (y1 5).trans rfl
          clear y1
          have i0 : (0 : Int) ≤ (i : Int) := Int.natCast_nonneg _
          have i1 : (i : Int) < (p.next.length : Int) := by omega
          have i2 : (i : Int) < (p.args.length : Int) := by omega
          go_wp2_with fail
          refine HC.out.mono ?_
          rintro e w1 ⟨rfl, hb1⟩
          clear HC x10 x11 p0 p1 p2 p3 p4 p5 xn
          have HS := HS.below hb1
          have HB := below_then HB hb1
          have hb := blk_below hb hb1
          have hr := blk_below hr hb1
          have px := blk_below px hb1
          have xa := cell_below hb1 xa
          have hRow := hRow.below hb1
          have hoz := Nat.lt_of_lt_of_le hoz hb1.size
          cases hcb : critB ps p i
          · have hst2 : Hid (splitP ps p E0 (i + 1) = (P, E)) := Lib.hid (by rw [hst.out, hcb]; rfl)
            clear hcb hst
            go_wp2_with fail
            go_roundw
            case rel => exact ⟨i + 1, Ap, cp, by omega, by rw [hst2.out], by go_num, by rw [hst2.out]; dsimp only; rw [← HcE.out]; exact HS, HB, hb, hr, hoz, px⟩
            case measure => first | (simp [intOf]; done) | (simp [intOf]; omega)
          · have hst2 : Hid (splitP ps p E0 (i + 1) = (setNA P i ((ps.length + E.length : Nat) : Int), E ++ [extraP tw al])) := Lib.hid (by rw [hst.out, hcb]; rfl)
            clear hcb hst
            obtain ⟨g1, c1x, he, _, _⟩ := Ow.some_form HS.ow (by omega)
            injection he with he1 _ he3
            subst he1
            subst he3
            obtain ⟨y1, _⟩ := cell_of_block HS.hb
            have cO : w1.cell? ⟨ob, 0, none⟩ = some (.slice (some ⟨g1, 0, none⟩) cur.length cp) := (y1 0).trans rfl
            clear y1
            obtain ⟨y1, _⟩ := cell_of_block px
            have cA : w1.cell? ⟨pv, 5, none⟩ = some (.slice (some ⟨b4, o4, none⟩) p.args.length c4) := (y1 5).trans rfl
            clear y1
            have hpl := blk_lt px
            have hobF : Hid (¬ FO2 ob) := Lib.hid (fun h => ((HFO.out _).1 ((HFO2.out _).1 h).1).1 rfl)
            have hpvF : Hid (¬ FO2 pv) := Lib.hid (fun h => ((HFO2.out _).1 h).2 rfl)
            have hb4F : Hid (¬ FO2 b4) := Lib.hid (fun h => by have := ((HFO.out _).1 ((HFO2.out _).1 h).1).2; omega)
            have hnewF : Hid (∀ q, w1.heap.size ≤ q → FO2 q) := Lib.hid (fun q hq => (HFO2.out q).2 ⟨(HFO.out q).2 ⟨by omega, by omega⟩, by omega⟩)
            have hwm : IntKind.i64.wrap ((E.length : Int) + 1) = (E.length : Int) + 1 := IntWalk.i64_in _ (by omega)
            have hcb2 : cur.length ≤ 1000 := by omega
            replace hcl := Lib.hid hcl
            replace hPn := Lib.hid hPn
            replace hPa := Lib.hid hPa
            go_upto_region 11 with fail
            go_cut [] from 24 to 71 (fun wx => ∃ A5 c5, SeS V ob FO2 (cur ++ [extraP tw al]) A5 c5 wx ∧ Chg (fun q => q = ob ∨ FO2 q) w1 wx)
            case first =>
              refine anyT_region [(16, fun w' => w'.cell? ⟨ob, 0, none⟩ = some (.slice (some ⟨g1, 0, none⟩) cur.length cp) ∧ w'.cell? ⟨pv, 5, none⟩ = some (.slice (some ⟨b4, o4, none⟩) p.args.length c4) ∧ w'.cell? ⟨b4, o4 + i, none⟩ = some (.slice Au al.length cu))] (by kernel_rfl) ⟨fun _ => ⟨cO, cA, xa⟩, trivial⟩ (fun hT => ?_)
              refine anyT_pure (i := 0) (v := ?_) rfl (by kernel_rfl) (by kernel_rfl) (by kernel_rfl) (fun _ _ _ h => h) (Or.inl ⟨by rfl, ?_⟩) (by assumption) ?_
              rotate_left 1
              focus ((intro w hSw; (try dsimp only at hSw); go_simp); try with_reducible rfl)
              try simp only [Act.put, Array.getInternal_eq_getElem, List.getElem_toArray, List.getElem_cons_zero, List.getElem_cons_succ, List.setIfInBounds_toArray, List.set_cons_zero, List.set_cons_succ]
              refine anyT_pure (i := 2) (v := ?_) rfl (by kernel_rfl) (by kernel_rfl) (by kernel_rfl) (fun _ _ _ h => h) (Or.inl ⟨by rfl, ?_⟩) (by assumption) ?_
              rotate_left 1
              focus ((intro w hSw; (try dsimp only at hSw); go_simp); try with_reducible rfl)
              try simp only [Act.put, Array.getInternal_eq_getElem, List.getElem_toArray, List.getElem_cons_zero, List.getElem_cons_succ, List.setIfInBounds_toArray, List.set_cons_zero, List.set_cons_succ]
              refine anyT_pure (i := 5) (v := ?_) rfl (by kernel_rfl) (by kernel_rfl) (by kernel_rfl) (fun _ _ _ h => h) (Or.inl ⟨by rfl, ?_⟩) (by assumption) ?_
              rotate_left 1
              focus ((intro w hSw; (try dsimp only at hSw); go_simp); try with_reducible rfl)
              try simp only [Act.put, Array.getInternal_eq_getElem, List.getElem_toArray, List.getElem_cons_zero, List.getElem_cons_succ, List.setIfInBounds_toArray, List.set_cons_zero, List.set_cons_succ]
              refine anyT_pure (i := 7) (v := ?_) rfl (by kernel_rfl) (by kernel_rfl) (by kernel_rfl) (fun _ _ _ h => h) (Or.inl ⟨by rfl, ?_⟩) (by assumption) ?_
              rotate_left 1
              focus ((intro w hSw; (try dsimp only at hSw); go_simp); try with_reducible rfl)
              try simp only [Act.put, Array.getInternal_eq_getElem, List.getElem_toArray, List.getElem_cons_zero, List.getElem_cons_succ, List.setIfInBounds_toArray, List.set_cons_zero, List.set_cons_succ]
              refine anyT_take (k := 0) (i := 1) (v := ?_) rfl rfl (by kernel_rfl) (by kernel_rfl) (by kernel_rfl) (fun _ _ _ h => h) (Or.inl ⟨by rfl, ?_⟩) (by assumption) ?_
              rotate_left 1
              focus ((intro w hSw; (try dsimp only at hSw); go_simp); try with_reducible rfl)
              try simp only [Act.put, Array.getInternal_eq_getElem, List.getElem_toArray, List.getElem_cons_zero, List.getElem_cons_succ, List.setIfInBounds_toArray, List.set_cons_zero, List.set_cons_succ]
              refine anyT_take (k := 0) (i := 6) (v := ?_) rfl rfl (by kernel_rfl) (by kernel_rfl) (by kernel_rfl) (fun _ _ _ h => h) (Or.inl ⟨by rfl, ?_⟩) (by assumption) ?_
              rotate_left 1
              focus ((intro w hSw; (try dsimp only at hSw); go_simp); try with_reducible rfl)
              try simp only [Act.put, Array.getInternal_eq_getElem, List.getElem_toArray, List.getElem_cons_zero, List.getElem_cons_succ, List.setIfInBounds_toArray, List.set_cons_zero, List.set_cons_succ]
              refine anyT_pure (i := 8) (v := ?_) rfl (by kernel_rfl) (by kernel_rfl) (by kernel_rfl) (fun _ _ _ h => h) (Or.inl ⟨by rfl, ?_⟩) (by assumption) ?_
              rotate_left 1
              focus ((intro w hSw; (try dsimp only at hSw); go_simp); try with_reducible rfl)
              try simp only [Act.put, Array.getInternal_eq_getElem, List.getElem_toArray, List.getElem_cons_zero, List.getElem_cons_succ, List.setIfInBounds_toArray, List.set_cons_zero, List.set_cons_succ]
              refine anyT_take (k := 0) (i := 9) (v := ?_) rfl rfl (by kernel_rfl) (by kernel_rfl) (by kernel_rfl) (fun _ _ _ h => h) (Or.inl ⟨by rfl, ?_⟩) (by assumption) ?_
              rotate_left 1
              focus ((intro w hSw; (try dsimp only at hSw); go_simp); try with_reducible rfl)
              try simp only [Act.put, Array.getInternal_eq_getElem, List.getElem_toArray, List.getElem_cons_zero, List.getElem_cons_succ, List.setIfInBounds_toArray, List.set_cons_zero, List.set_cons_succ]
              have HBw : Below w1.heap.size w1 w1.drew := below_drew (Below.refl _ _)
              generalize w1.drew = V0 at *
              refine anyT_ready (rs := [3, 4]) (by kernel_rfl) (by simp) ?_
              refine AllT.cons rfl (fun K1 hK1 => ?_) (AllT.cons rfl (fun K1 hK1 => ?_) AllT.nil)
              · try simp only [Array.getInternal_eq_getElem, List.getElem_toArray, List.getElem_cons_zero, List.getElem_cons_succ]
                go_simp
                have hbn := below_new (w := V0) (.cells #[.int .i64 tw] 3)
                have Bnb := heap_alloc_new V0 (.cells #[.int .i64 tw] 3)
                have hz : (V0.alloc (.cells #[.int .i64 tw] 3)).heap.size ≤ V0.heap.size + 1 ∧ V0.heap.size + 1 ≤ (V0.alloc (.cells #[.int .i64 tw] 3)).heap.size := by simp
                refine hK1.out _ _ ⟨fun _ => ⟨cell_below (below_then HBw hbn) cO, cell_below (below_then HBw hbn) cA, cell_below (below_then HBw hbn) xa⟩, trivial⟩ (fun hT => ?_)
                have hsW_0 := HBw.size
                have HBw := below_then HBw hbn
                clear hbn hK1 K1
                try simp only [Act.put, Array.getInternal_eq_getElem, List.getElem_toArray, List.getElem_cons_zero, List.getElem_cons_succ, List.setIfInBounds_toArray, List.set_cons_zero, List.set_cons_succ]
                generalize V0.alloc (.cells #[.int .i64 tw] 3) = V1 at *
                have hln_1 : V0.heap.size < V1.heap.size := by omega
                have hgenb : w1.heap.size ≤ V0.heap.size := hsW_0
                clear hz hsW_0
                generalize V0.heap.size = nb at *
                refine anyT_ready (rs := [4]) (by kernel_rfl) (by simp) ?_
                refine AllT.cons rfl (fun K1 hK1 => ?_) AllT.nil
                · try simp only [Array.getInternal_eq_getElem, List.getElem_toArray, List.getElem_cons_zero, List.getElem_cons_succ]
                  go_simp
                  have hbn := below_new (w := V1) (.cells #[] 3)
                  have Bzb := heap_alloc_new V1 (.cells #[] 3)
                  have hz : (V1.alloc (.cells #[] 3)).heap.size ≤ V1.heap.size + 1 ∧ V1.heap.size + 1 ≤ (V1.alloc (.cells #[] 3)).heap.size := by simp
                  refine hK1.out _ _ ⟨fun _ => ⟨cell_below (below_then HBw hbn) cO, cell_below (below_then HBw hbn) cA, cell_below (below_then HBw hbn) xa⟩, trivial⟩ (fun hT => ?_)
                  have hsW_1 := HBw.size
                  have HZ : Ow true 3 Rp.int (V1.alloc (.cells #[] 3)) (fun q => q = V1.heap.size) (.slice (some ⟨V1.heap.size, 0, none⟩) 0 0) [] := ow_empty (ap := true) (r := Rp.int) Bzb
                  have Bnb := blk_below Bnb hbn
                  have hnz : nb ≠ V1.heap.size := by have := hln_1; omega
                  have HBw := below_then HBw hbn
                  clear hbn hK1 K1
                  try simp only [Act.put, Array.getInternal_eq_getElem, List.getElem_toArray, List.getElem_cons_zero, List.getElem_cons_succ, List.setIfInBounds_toArray, List.set_cons_zero, List.set_cons_succ]
                  generalize V1.alloc (.cells #[] 3) = V2 at *
                  have hln_2 : nb < V2.heap.size := by omega
                  have hlz_2 : V1.heap.size < V2.heap.size := by omega
                  have hgezb : w1.heap.size ≤ V1.heap.size := hsW_1
                  clear hz hsW_1
                  generalize V1.heap.size = zb at *
                  refine anyT_ready (rs := [10]) (by kernel_rfl) (by simp) ?_
                  refine AllT.cons rfl (fun K1 hK1 => ?_) AllT.nil
                  · try simp only [Array.getInternal_eq_getElem, List.getElem_toArray, List.getElem_cons_zero, List.getElem_cons_succ]
                    rw [if_pos (by first | kernel_rfl | rfl | decide)]
                    obtain ⟨v5, V3, hrn, hO5, hg5⟩ := run_apf (P := Try.prog) (r := Rp.int) (e := 3) int_flat 35 35 (.int .i64 0) 8 Try.underlying35 infoInt rfl (by decide) (by omega) (.slice (some ⟨zb, 0, none⟩) 0 0) (.slice Au al.length cu) [] al HZ (hRow.below HBw) (by simp; omega)
                    rw [List.nil_append] at hO5
                    obtain ⟨Ac, cc, h5e, _, _⟩ := hO5.form
                    subst h5e
                    refine oper_append _ _ _ _ _ _ rfl (by rfl) (by rfl) hrn ?_
                    have HBw2 := below_grown HBw hg5 (fun q hq => by have h := own_in (F := fun q => q = zb) HZ (.inr hq); have h : q = zb := h; omega) HBw.size
                    have Bnb := grown_blk hg5 Bnb (own_ne HZ hnz)
                    have hs5 := hg5.size
                    have hsW := HBw.size
                    refine hK1.out _ _ ⟨fun _ => ⟨cell_below (HBw2) cO, cell_below (HBw2) cA, cell_below (HBw2) xa⟩, trivial⟩ (fun hT => ?_)
                    have k5 := hO5.bound
                    obtain ⟨Gc, hGc⟩ : ∃ Gc : Nat → Prop, Gc = (fun q => (q = zb ∨ V2.heap.size ≤ q) ∧ q < V3.heap.size) := ⟨_, rfl⟩
                    rw [← hGc] at k5
                    obtain ⟨e5, he5⟩ : ∃ e5, e5 = V3.heap.size := ⟨_, rfl⟩
                    have HGc : Hid (∀ q, Gc q → w1.heap.size ≤ q ∧ q < e5) := Lib.hid (fun q hq => by rw [hGc] at hq; obtain ⟨h1, h2⟩ := hq; rcases h1 with h1 | h1 <;> omega)
                    have hNc : ¬ Gc nb := fun h => by rw [hGc] at h; have := hln_2; rcases h.1 with h1 | h1; exact hnz h1; omega
                    have hl5_3 : e5 ≤ V3.heap.size := by omega
                    have hln_3 : nb < V3.heap.size := by have := hln_2; omega
                    have hlz_3 : zb < V3.heap.size := by have := hlz_2; omega
                    have HBw := HBw2
                    clear hK1 K1 hGc he5 hrn hO5 hg5 HZ HBw2 hs5 hsW
                    try simp only [Act.put, Array.getInternal_eq_getElem, List.getElem_toArray, List.getElem_cons_zero, List.getElem_cons_succ, List.setIfInBounds_toArray, List.set_cons_zero, List.set_cons_succ]
                    refine anyT_ready (rs := [11]) (by kernel_rfl) (by simp) ?_
                    refine AllT.cons rfl (fun K1 hK1 => ?_) AllT.nil
                    · try simp only [Array.getInternal_eq_getElem, List.getElem_toArray, List.getElem_cons_zero, List.getElem_cons_succ]
                      go_simp
                      have hbn := below_new (w := V3) (.cells #[.slice Ac al.length cc] 35)
                      have Bab := heap_alloc_new V3 (.cells #[.slice Ac al.length cc] 35)
                      have hz : (V3.alloc (.cells #[.slice Ac al.length cc] 35)).heap.size ≤ V3.heap.size + 1 ∧ V3.heap.size + 1 ≤ (V3.alloc (.cells #[.slice Ac al.length cc] 35)).heap.size := by simp
                      refine hK1.out _ _ ⟨fun _ => ⟨cell_below (below_then HBw hbn) cO, cell_below (below_then HBw hbn) cA, cell_below (below_then HBw hbn) xa⟩, trivial⟩ (fun hT => ?_)
                      have hsW_3 := HBw.size
                      have Bnb := blk_below Bnb hbn
                      have k5 := k5.below hbn
                      have hnab : nb ≠ V3.heap.size := by have := hln_3; omega
                      have hAc : ¬ Gc V3.heap.size := fun h => by have := (HGc.out _ h).2; have := hl5_3; omega
                      have HBw := below_then HBw hbn
                      clear hbn hK1 K1
                      try simp only [Act.put, Array.getInternal_eq_getElem, List.getElem_toArray, List.getElem_cons_zero, List.getElem_cons_succ, List.setIfInBounds_toArray, List.set_cons_zero, List.set_cons_succ]
                      generalize V3.alloc (.cells #[.slice Ac al.length cc] 35) = V4 at *
                      have hln_4 : nb < V4.heap.size := by omega
                      have hlz_4 : zb < V4.heap.size := by omega
                      have hla_4 : V3.heap.size < V4.heap.size := by omega
                      have hl5_4 : e5 ≤ V4.heap.size := by omega
                      have hgeab : w1.heap.size ≤ V3.heap.size := hsW_3
                      clear hz hsW_3
                      generalize V3.heap.size = ab at *
                      have HP := HS.ow.bound.below HBw
                      have hgd : ∀ q, (q = nb ∨ q = ab ∨ Gc q) → w1.heap.size ≤ q := fun q hq => by
                        rcases hq with rfl | rfl | hq
                        · exact hgenb
                        · exact hgeab
                        · exact (HGc.out q hq).1
                      have HKe : partA.K V4 (fun q => q = nb ∨ q = ab ∨ Gc q) (extraP tw al) [.slice none 0 0, .slice none 0 0, .int .i64 1, .int .i64 0, .slice (some ⟨nb, 0, none⟩) 1 1, .slice (some ⟨ab, 0, none⟩) 1 1] :=
                        partA_mk (x := extraP tw al) (G0 := fun _ => False) (G1 := fun _ => False) (G2 := fun q => q = nb ∨ False) (G3 := fun q => q = ab ∨ Gc q) (fun _ h => h.elim) (fun _ h => h.elim) (fun q hq => .inl (hq.elim id False.elim)) (fun q hq => .inr hq) (fun _ h _ => h) (fun _ h _ => h) (fun _ h _ => h) (fun _ h _ => h) (fun _ h _ => h) (fun q hq h => by
                          rcases hq with rfl | hq
                          · rcases h with h | h
                            · exact hnab h
                            · exact hNc h
                          · exact hq) (Ow.nil _ _ _ _ _) (Ow.nil _ _ _ _ _) (ow_lit1 (G := fun _ => False) Bnb rfl rfl (fun _ h => h.elim)) (ow_lit1 Bab rfl ⟨_, rfl, k5⟩ (fun q hq h => hAc (h ▸ hq)))
                      refine anyT_pure (i := 12) (v := ?_) rfl (by kernel_rfl) (by kernel_rfl) (by kernel_rfl) (fun _ _ _ h => h) (Or.inl ⟨by rfl, ?_⟩) (by assumption) ?_
                      rotate_left 1
                      focus ((intro w hSw; (try dsimp only at hSw); go_simp); try with_reducible rfl)
                      try simp only [Act.put, Array.getInternal_eq_getElem, List.getElem_toArray, List.getElem_cons_zero, List.getElem_cons_succ, List.setIfInBounds_toArray, List.set_cons_zero, List.set_cons_succ]
                      have hbz := below_new (w := V4) (.cells #[.slice none 0 0, .slice none 0 0, .int .i64 1, .int .i64 0, .slice (some ⟨nb, 0, none⟩) 1 1, .slice (some ⟨ab, 0, none⟩) 1 1] 54)
                      have bz := heap_alloc_new V4 (.cells #[.slice none 0 0, .slice none 0 0, .int .i64 1, .int .i64 0, .slice (some ⟨nb, 0, none⟩) 1 1, .slice (some ⟨ab, 0, none⟩) 1 1] 54)
                      refine anyT_ready (rs := [13]) (by kernel_rfl) (by simp) ?_
                      refine AllT.cons rfl (fun K1 hK1 => ?_) AllT.nil
                      try simp only [Array.getInternal_eq_getElem, List.getElem_toArray, List.getElem_cons_zero, List.getElem_cons_succ]
                      go_simp
                      refine hK1.out _ _ ⟨fun _ => ⟨cell_below (below_then HBw hbz) cO, cell_below (below_then HBw hbz) cA, cell_below (below_then HBw hbz) xa⟩, trivial⟩ (fun hT => ?_)
                      clear hK1 K1
                      try simp only [Act.put, Array.getInternal_eq_getElem, List.getElem_toArray, List.getElem_cons_zero, List.getElem_cons_succ, List.setIfInBounds_toArray, List.set_cons_zero, List.set_cons_succ]
                      generalize V4.alloc (.cells #[.slice none 0 0, .slice none 0 0, .int .i64 1, .int .i64 0, .slice (some ⟨nb, 0, none⟩) 1 1, .slice (some ⟨ab, 0, none⟩) 1 1] 54) = Wz at *
                      have HPz := HP.below hbz
                      have HKz := partA.move (w' := Wz) (fun q hq hlt => hbz.block q hlt) HKe
                      obtain ⟨v7, W5, hrn, hO7, hg7⟩ := run_ap1 (P := Try.prog) (r := partA) (e := 54) 27 27 (.agg #[.slice none 0 0, .slice none 0 0, .int .i64 0, .int .i64 0, .slice none 0 0, .slice none 0 0]) 112 Try.underlying27 infoPart rfl (by decide) (by omega) (.slice (some ⟨g1, 0, none⟩) cur.length cp) cur (extraP tw al) [.slice none 0 0, .slice none 0 0, .int .i64 1, .int .i64 0, .slice (some ⟨nb, 0, none⟩) 1 1, .slice (some ⟨ab, 0, none⟩) 1 1] V4.heap.size bz HPz HKz (fun q hq h => by have h1 := hgd q hq; have h2 := h.2; omega) (by omega)
                      obtain ⟨A7, c7, h7e, _, _⟩ := hO7.form1
                      subst h7e
                      have HBz := below_then HBw hbz
                      have cOz := blk_below HS.hb HBz
                      have cO7 := grown_blk hg7 cOz (own_ne HPz (fun h => hobF.out h.1))
                      have cA7 := grown_blk hg7 (blk_below px HBz) (own_ne HPz (fun h => hpvF.out h.1))
                      have hC7 := Chg.of_grown hg7
                      have xa7 := hC7.cell (cell_below HBz xa) (own_ne HPz (fun h => hb4F.out h.1))
                      have hszs := HBw.size
                      have hszz := hbz.size
                      have hsz7 := hg7.size
                      have HO8 := hO7.mono (G := FO2) (fun q hq => by
                        rcases hq with hq | hq | hq
                        · exact hq.1
                        · exact hnewF.out q (hgd q hq)
                        · exact hnewF.out q (by omega))
                      have hCs := Chg.set (A := fun q => q = ob) (w := W5) (b := ob) (o := 0) (u := .slice A7 (cur.length + 1) c7) rfl
                      have HO9 := HO8.move (hCs.same (fun q hq h => hobF.out (h ▸ hq)))
                      have cO9 := blk_put cO7 0 (.slice A7 (cur.length + 1) c7)
                      have HCf : Chg (fun q => q = ob ∨ FO2 q) w1 (W5.setCell ⟨ob, 0, none⟩ (.slice A7 (cur.length + 1) c7)) := (((Chg.of_below (A := fun q => q = ob ∨ FO2 q) HBz).trans2 hC7 (fun q hq => .inl (.inr (own_in HPz (.inl hq)).1))).trans2 hCs (fun q hq => .inl (.inl hq)))
                      have HSf : SeS V ob FO2 (cur ++ [extraP tw al]) A7 c7 (W5.setCell ⟨ob, 0, none⟩ (.slice A7 (cur.length + 1) c7)) := ⟨by rw [List.length_append]; exact cO9, by rw [List.length_append]; exact HO9⟩
                      refine anyT_ready (rs := [14]) (by kernel_rfl) (by simp) ?_
                      refine AllT.cons rfl (fun K1 hK1 => ?_) AllT.nil
                      try simp only [Array.getInternal_eq_getElem, List.getElem_toArray, List.getElem_cons_zero, List.getElem_cons_succ]
                      rw [if_pos (by first | kernel_rfl | rfl | decide)]
                      refine oper_append _ _ _ _ _ _ rfl (by rfl) (by rfl) hrn ?_
                      obtain ⟨za, zb'⟩ := cell_of_block cO7
                      obtain ⟨zc, _⟩ := cell_of_block cA7
                      refine hK1.out _ _ ⟨fun _ => ⟨(za 0).trans rfl, (zc 5).trans rfl, xa7⟩, trivial⟩ (fun hT => ?_)
                      have ys5 : W5.cell? ⟨ob, 0, none⟩ = some (.slice (some ⟨g1, 0, none⟩) cur.length cp) := (za 0).trans rfl
                      have yf5 := zb' 0
                      clear hK1 K1 za zb' zc
                      try simp only [Act.put, Array.getInternal_eq_getElem, List.getElem_toArray, List.getElem_cons_zero, List.getElem_cons_succ, List.setIfInBounds_toArray, List.set_cons_zero, List.set_cons_succ]
                      refine anyT_pure (i := 15) (v := ?_) rfl (by kernel_rfl) (by kernel_rfl) (by kernel_rfl) (fun _ _ _ h => h) (Or.inl ⟨by rfl, ?_⟩) (by assumption) ?_
                      rotate_left 1
                      focus ((intro w hSw; (try dsimp only at hSw); go_simp); try with_reducible rfl)
                      try simp only [Act.put, Array.getInternal_eq_getElem, List.getElem_toArray, List.getElem_cons_zero, List.getElem_cons_succ, List.setIfInBounds_toArray, List.set_cons_zero, List.set_cons_succ]
                      refine anyT_ready (rs := [16]) (by kernel_rfl) (by simp) ?_
                      refine AllT.cons rfl (fun K1 hK1 => ?_) AllT.nil
                      try simp only [Array.getInternal_eq_getElem, List.getElem_toArray, List.getElem_cons_zero, List.getElem_cons_succ]
                      go_simp
                      refine hK1.out _ _ ⟨fun h => absurd h (by simp), trivial⟩ (fun hT => ?_)
                      clear hK1 K1
                      try simp only [Act.put, Array.getInternal_eq_getElem, List.getElem_toArray, List.getElem_cons_zero, List.getElem_cons_succ, List.setIfInBounds_toArray, List.set_cons_zero, List.set_cons_succ]
                      refine anyT_done (by kernel_rfl) ?_ _
                      go_wp2_with fail
                      go_meet
                      exact ⟨_, _, HSf, HCf⟩
              · try simp only [Array.getInternal_eq_getElem, List.getElem_toArray, List.getElem_cons_zero, List.getElem_cons_succ]
                go_simp
                have hbn := below_new (w := V0) (.cells #[] 3)
                have Bzb := heap_alloc_new V0 (.cells #[] 3)
                have hz : (V0.alloc (.cells #[] 3)).heap.size ≤ V0.heap.size + 1 ∧ V0.heap.size + 1 ≤ (V0.alloc (.cells #[] 3)).heap.size := by simp
                refine hK1.out _ _ ⟨fun _ => ⟨cell_below (below_then HBw hbn) cO, cell_below (below_then HBw hbn) cA, cell_below (below_then HBw hbn) xa⟩, trivial⟩ (fun hT => ?_)
                have hsW_0 := HBw.size
                have HZ : Ow true 3 Rp.int (V0.alloc (.cells #[] 3)) (fun q => q = V0.heap.size) (.slice (some ⟨V0.heap.size, 0, none⟩) 0 0) [] := ow_empty (ap := true) (r := Rp.int) Bzb
                have HBw := below_then HBw hbn
                clear hbn hK1 K1
                try simp only [Act.put, Array.getInternal_eq_getElem, List.getElem_toArray, List.getElem_cons_zero, List.getElem_cons_succ, List.setIfInBounds_toArray, List.set_cons_zero, List.set_cons_succ]
                generalize V0.alloc (.cells #[] 3) = V1 at *
                have hlz_1 : V0.heap.size < V1.heap.size := by omega
                have hgezb : w1.heap.size ≤ V0.heap.size := hsW_0
                clear hz hsW_0
                generalize V0.heap.size = zb at *
                refine anyT_ready (rs := [3, 10]) (by kernel_rfl) (by simp) ?_
                refine AllT.cons rfl (fun K1 hK1 => ?_) (AllT.cons rfl (fun K1 hK1 => ?_) AllT.nil)
                · try simp only [Array.getInternal_eq_getElem, List.getElem_toArray, List.getElem_cons_zero, List.getElem_cons_succ]
                  go_simp
                  have hbn := below_new (w := V1) (.cells #[.int .i64 tw] 3)
                  have Bnb := heap_alloc_new V1 (.cells #[.int .i64 tw] 3)
                  have hz : (V1.alloc (.cells #[.int .i64 tw] 3)).heap.size ≤ V1.heap.size + 1 ∧ V1.heap.size + 1 ≤ (V1.alloc (.cells #[.int .i64 tw] 3)).heap.size := by simp
                  refine hK1.out _ _ ⟨fun _ => ⟨cell_below (below_then HBw hbn) cO, cell_below (below_then HBw hbn) cA, cell_below (below_then HBw hbn) xa⟩, trivial⟩ (fun hT => ?_)
                  have hsW_1 := HBw.size
                  have HZ := HZ.below hbn
                  have hnz : V1.heap.size ≠ zb := by have := hlz_1; omega
                  have HBw := below_then HBw hbn
                  clear hbn hK1 K1
                  try simp only [Act.put, Array.getInternal_eq_getElem, List.getElem_toArray, List.getElem_cons_zero, List.getElem_cons_succ, List.setIfInBounds_toArray, List.set_cons_zero, List.set_cons_succ]
                  generalize V1.alloc (.cells #[.int .i64 tw] 3) = V2 at *
                  have hln_2 : V1.heap.size < V2.heap.size := by omega
                  have hlz_2 : zb < V2.heap.size := by omega
                  have hgenb : w1.heap.size ≤ V1.heap.size := hsW_1
                  clear hz hsW_1
                  generalize V1.heap.size = nb at *
                  refine anyT_ready (rs := [10]) (by kernel_rfl) (by simp) ?_
                  refine AllT.cons rfl (fun K1 hK1 => ?_) AllT.nil
                  · try simp only [Array.getInternal_eq_getElem, List.getElem_toArray, List.getElem_cons_zero, List.getElem_cons_succ]
                    rw [if_pos (by first | kernel_rfl | rfl | decide)]
                    obtain ⟨v5, V3, hrn, hO5, hg5⟩ := run_apf (P := Try.prog) (r := Rp.int) (e := 3) int_flat 35 35 (.int .i64 0) 8 Try.underlying35 infoInt rfl (by decide) (by omega) (.slice (some ⟨zb, 0, none⟩) 0 0) (.slice Au al.length cu) [] al HZ (hRow.below HBw) (by simp; omega)
                    rw [List.nil_append] at hO5
                    obtain ⟨Ac, cc, h5e, _, _⟩ := hO5.form
                    subst h5e
                    refine oper_append _ _ _ _ _ _ rfl (by rfl) (by rfl) hrn ?_
                    have HBw2 := below_grown HBw hg5 (fun q hq => by have h := own_in (F := fun q => q = zb) HZ (.inr hq); have h : q = zb := h; omega) HBw.size
                    have Bnb := grown_blk hg5 Bnb (own_ne HZ hnz)
                    have hs5 := hg5.size
                    have hsW := HBw.size
                    refine hK1.out _ _ ⟨fun _ => ⟨cell_below (HBw2) cO, cell_below (HBw2) cA, cell_below (HBw2) xa⟩, trivial⟩ (fun hT => ?_)
                    have k5 := hO5.bound
                    obtain ⟨Gc, hGc⟩ : ∃ Gc : Nat → Prop, Gc = (fun q => (q = zb ∨ V2.heap.size ≤ q) ∧ q < V3.heap.size) := ⟨_, rfl⟩
                    rw [← hGc] at k5
                    obtain ⟨e5, he5⟩ : ∃ e5, e5 = V3.heap.size := ⟨_, rfl⟩
                    have HGc : Hid (∀ q, Gc q → w1.heap.size ≤ q ∧ q < e5) := Lib.hid (fun q hq => by rw [hGc] at hq; obtain ⟨h1, h2⟩ := hq; rcases h1 with h1 | h1 <;> omega)
                    have hNc : ¬ Gc nb := fun h => by rw [hGc] at h; have := hln_2; rcases h.1 with h1 | h1; exact hnz h1; omega
                    have hl5_3 : e5 ≤ V3.heap.size := by omega
                    have hln_3 : nb < V3.heap.size := by have := hln_2; omega
                    have hlz_3 : zb < V3.heap.size := by have := hlz_2; omega
                    have HBw := HBw2
                    clear hK1 K1 hGc he5 hrn hO5 hg5 HZ HBw2 hs5 hsW
                    try simp only [Act.put, Array.getInternal_eq_getElem, List.getElem_toArray, List.getElem_cons_zero, List.getElem_cons_succ, List.setIfInBounds_toArray, List.set_cons_zero, List.set_cons_succ]
                    refine anyT_ready (rs := [11]) (by kernel_rfl) (by simp) ?_
                    refine AllT.cons rfl (fun K1 hK1 => ?_) AllT.nil
                    · try simp only [Array.getInternal_eq_getElem, List.getElem_toArray, List.getElem_cons_zero, List.getElem_cons_succ]
                      go_simp
                      have hbn := below_new (w := V3) (.cells #[.slice Ac al.length cc] 35)
                      have Bab := heap_alloc_new V3 (.cells #[.slice Ac al.length cc] 35)
                      have hz : (V3.alloc (.cells #[.slice Ac al.length cc] 35)).heap.size ≤ V3.heap.size + 1 ∧ V3.heap.size + 1 ≤ (V3.alloc (.cells #[.slice Ac al.length cc] 35)).heap.size := by simp
                      refine hK1.out _ _ ⟨fun _ => ⟨cell_below (below_then HBw hbn) cO, cell_below (below_then HBw hbn) cA, cell_below (below_then HBw hbn) xa⟩, trivial⟩ (fun hT => ?_)
                      have hsW_3 := HBw.size
                      have Bnb := blk_below Bnb hbn
                      have k5 := k5.below hbn
                      have hnab : nb ≠ V3.heap.size := by have := hln_3; omega
                      have hAc : ¬ Gc V3.heap.size := fun h => by have := (HGc.out _ h).2; have := hl5_3; omega
                      have HBw := below_then HBw hbn
                      clear hbn hK1 K1
                      try simp only [Act.put, Array.getInternal_eq_getElem, List.getElem_toArray, List.getElem_cons_zero, List.getElem_cons_succ, List.setIfInBounds_toArray, List.set_cons_zero, List.set_cons_succ]
                      generalize V3.alloc (.cells #[.slice Ac al.length cc] 35) = V4 at *
                      have hln_4 : nb < V4.heap.size := by omega
                      have hlz_4 : zb < V4.heap.size := by omega
                      have hla_4 : V3.heap.size < V4.heap.size := by omega
                      have hl5_4 : e5 ≤ V4.heap.size := by omega
                      have hgeab : w1.heap.size ≤ V3.heap.size := hsW_3
                      clear hz hsW_3
                      generalize V3.heap.size = ab at *
                      have HP := HS.ow.bound.below HBw
                      have hgd : ∀ q, (q = nb ∨ q = ab ∨ Gc q) → w1.heap.size ≤ q := fun q hq => by
                        rcases hq with rfl | rfl | hq
                        · exact hgenb
                        · exact hgeab
                        · exact (HGc.out q hq).1
                      have HKe : partA.K V4 (fun q => q = nb ∨ q = ab ∨ Gc q) (extraP tw al) [.slice none 0 0, .slice none 0 0, .int .i64 1, .int .i64 0, .slice (some ⟨nb, 0, none⟩) 1 1, .slice (some ⟨ab, 0, none⟩) 1 1] :=
                        partA_mk (x := extraP tw al) (G0 := fun _ => False) (G1 := fun _ => False) (G2 := fun q => q = nb ∨ False) (G3 := fun q => q = ab ∨ Gc q) (fun _ h => h.elim) (fun _ h => h.elim) (fun q hq => .inl (hq.elim id False.elim)) (fun q hq => .inr hq) (fun _ h _ => h) (fun _ h _ => h) (fun _ h _ => h) (fun _ h _ => h) (fun _ h _ => h) (fun q hq h => by
                          rcases hq with rfl | hq
                          · rcases h with h | h
                            · exact hnab h
                            · exact hNc h
                          · exact hq) (Ow.nil _ _ _ _ _) (Ow.nil _ _ _ _ _) (ow_lit1 (G := fun _ => False) Bnb rfl rfl (fun _ h => h.elim)) (ow_lit1 Bab rfl ⟨_, rfl, k5⟩ (fun q hq h => hAc (h ▸ hq)))
                      refine anyT_pure (i := 12) (v := ?_) rfl (by kernel_rfl) (by kernel_rfl) (by kernel_rfl) (fun _ _ _ h => h) (Or.inl ⟨by rfl, ?_⟩) (by assumption) ?_
                      rotate_left 1
                      focus ((intro w hSw; (try dsimp only at hSw); go_simp); try with_reducible rfl)
                      try simp only [Act.put, Array.getInternal_eq_getElem, List.getElem_toArray, List.getElem_cons_zero, List.getElem_cons_succ, List.setIfInBounds_toArray, List.set_cons_zero, List.set_cons_succ]
                      have hbz := below_new (w := V4) (.cells #[.slice none 0 0, .slice none 0 0, .int .i64 1, .int .i64 0, .slice (some ⟨nb, 0, none⟩) 1 1, .slice (some ⟨ab, 0, none⟩) 1 1] 54)
                      have bz := heap_alloc_new V4 (.cells #[.slice none 0 0, .slice none 0 0, .int .i64 1, .int .i64 0, .slice (some ⟨nb, 0, none⟩) 1 1, .slice (some ⟨ab, 0, none⟩) 1 1] 54)
                      refine anyT_ready (rs := [13]) (by kernel_rfl) (by simp) ?_
                      refine AllT.cons rfl (fun K1 hK1 => ?_) AllT.nil
                      try simp only [Array.getInternal_eq_getElem, List.getElem_toArray, List.getElem_cons_zero, List.getElem_cons_succ]
                      go_simp
                      refine hK1.out _ _ ⟨fun _ => ⟨cell_below (below_then HBw hbz) cO, cell_below (below_then HBw hbz) cA, cell_below (below_then HBw hbz) xa⟩, trivial⟩ (fun hT => ?_)
                      clear hK1 K1
                      try simp only [Act.put, Array.getInternal_eq_getElem, List.getElem_toArray, List.getElem_cons_zero, List.getElem_cons_succ, List.setIfInBounds_toArray, List.set_cons_zero, List.set_cons_succ]
                      generalize V4.alloc (.cells #[.slice none 0 0, .slice none 0 0, .int .i64 1, .int .i64 0, .slice (some ⟨nb, 0, none⟩) 1 1, .slice (some ⟨ab, 0, none⟩) 1 1] 54) = Wz at *
                      have HPz := HP.below hbz
                      have HKz := partA.move (w' := Wz) (fun q hq hlt => hbz.block q hlt) HKe
                      obtain ⟨v7, W5, hrn, hO7, hg7⟩ := run_ap1 (P := Try.prog) (r := partA) (e := 54) 27 27 (.agg #[.slice none 0 0, .slice none 0 0, .int .i64 0, .int .i64 0, .slice none 0 0, .slice none 0 0]) 112 Try.underlying27 infoPart rfl (by decide) (by omega) (.slice (some ⟨g1, 0, none⟩) cur.length cp) cur (extraP tw al) [.slice none 0 0, .slice none 0 0, .int .i64 1, .int .i64 0, .slice (some ⟨nb, 0, none⟩) 1 1, .slice (some ⟨ab, 0, none⟩) 1 1] V4.heap.size bz HPz HKz (fun q hq h => by have h1 := hgd q hq; have h2 := h.2; omega) (by omega)
                      obtain ⟨A7, c7, h7e, _, _⟩ := hO7.form1
                      subst h7e
                      have HBz := below_then HBw hbz
                      have cOz := blk_below HS.hb HBz
                      have cO7 := grown_blk hg7 cOz (own_ne HPz (fun h => hobF.out h.1))
                      have cA7 := grown_blk hg7 (blk_below px HBz) (own_ne HPz (fun h => hpvF.out h.1))
                      have hC7 := Chg.of_grown hg7
                      have xa7 := hC7.cell (cell_below HBz xa) (own_ne HPz (fun h => hb4F.out h.1))
                      have hszs := HBw.size
                      have hszz := hbz.size
                      have hsz7 := hg7.size
                      have HO8 := hO7.mono (G := FO2) (fun q hq => by
                        rcases hq with hq | hq | hq
                        · exact hq.1
                        · exact hnewF.out q (hgd q hq)
                        · exact hnewF.out q (by omega))
                      have hCs := Chg.set (A := fun q => q = ob) (w := W5) (b := ob) (o := 0) (u := .slice A7 (cur.length + 1) c7) rfl
                      have HO9 := HO8.move (hCs.same (fun q hq h => hobF.out (h ▸ hq)))
                      have cO9 := blk_put cO7 0 (.slice A7 (cur.length + 1) c7)
                      have HCf : Chg (fun q => q = ob ∨ FO2 q) w1 (W5.setCell ⟨ob, 0, none⟩ (.slice A7 (cur.length + 1) c7)) := (((Chg.of_below (A := fun q => q = ob ∨ FO2 q) HBz).trans2 hC7 (fun q hq => .inl (.inr (own_in HPz (.inl hq)).1))).trans2 hCs (fun q hq => .inl (.inl hq)))
                      have HSf : SeS V ob FO2 (cur ++ [extraP tw al]) A7 c7 (W5.setCell ⟨ob, 0, none⟩ (.slice A7 (cur.length + 1) c7)) := ⟨by rw [List.length_append]; exact cO9, by rw [List.length_append]; exact HO9⟩
                      refine anyT_ready (rs := [14]) (by kernel_rfl) (by simp) ?_
                      refine AllT.cons rfl (fun K1 hK1 => ?_) AllT.nil
                      try simp only [Array.getInternal_eq_getElem, List.getElem_toArray, List.getElem_cons_zero, List.getElem_cons_succ]
                      rw [if_pos (by first | kernel_rfl | rfl | decide)]
                      refine oper_append _ _ _ _ _ _ rfl (by rfl) (by rfl) hrn ?_
                      obtain ⟨za, zb'⟩ := cell_of_block cO7
                      obtain ⟨zc, _⟩ := cell_of_block cA7
                      refine hK1.out _ _ ⟨fun _ => ⟨(za 0).trans rfl, (zc 5).trans rfl, xa7⟩, trivial⟩ (fun hT => ?_)
                      have ys5 : W5.cell? ⟨ob, 0, none⟩ = some (.slice (some ⟨g1, 0, none⟩) cur.length cp) := (za 0).trans rfl
                      have yf5 := zb' 0
                      clear hK1 K1 za zb' zc
                      try simp only [Act.put, Array.getInternal_eq_getElem, List.getElem_toArray, List.getElem_cons_zero, List.getElem_cons_succ, List.setIfInBounds_toArray, List.set_cons_zero, List.set_cons_succ]
                      refine anyT_pure (i := 15) (v := ?_) rfl (by kernel_rfl) (by kernel_rfl) (by kernel_rfl) (fun _ _ _ h => h) (Or.inl ⟨by rfl, ?_⟩) (by assumption) ?_
                      rotate_left 1
                      focus ((intro w hSw; (try dsimp only at hSw); go_simp); try with_reducible rfl)
                      try simp only [Act.put, Array.getInternal_eq_getElem, List.getElem_toArray, List.getElem_cons_zero, List.getElem_cons_succ, List.setIfInBounds_toArray, List.set_cons_zero, List.set_cons_succ]
                      refine anyT_ready (rs := [16]) (by kernel_rfl) (by simp) ?_
                      refine AllT.cons rfl (fun K1 hK1 => ?_) AllT.nil
                      try simp only [Array.getInternal_eq_getElem, List.getElem_toArray, List.getElem_cons_zero, List.getElem_cons_succ]
                      go_simp
                      refine hK1.out _ _ ⟨fun h => absurd h (by simp), trivial⟩ (fun hT => ?_)
                      clear hK1 K1
                      try simp only [Act.put, Array.getInternal_eq_getElem, List.getElem_toArray, List.getElem_cons_zero, List.getElem_cons_succ, List.setIfInBounds_toArray, List.set_cons_zero, List.set_cons_succ]
                      refine anyT_done (by kernel_rfl) ?_ _
                      go_wp2_with fail
                      go_meet
                      exact ⟨_, _, HSf, HCf⟩
                · try simp only [Array.getInternal_eq_getElem, List.getElem_toArray, List.getElem_cons_zero, List.getElem_cons_succ]
                  rw [if_pos (by first | kernel_rfl | rfl | decide)]
                  obtain ⟨v5, V2, hrn, hO5, hg5⟩ := run_apf (P := Try.prog) (r := Rp.int) (e := 3) int_flat 35 35 (.int .i64 0) 8 Try.underlying35 infoInt rfl (by decide) (by omega) (.slice (some ⟨zb, 0, none⟩) 0 0) (.slice Au al.length cu) [] al HZ (hRow.below HBw) (by simp; omega)
                  rw [List.nil_append] at hO5
                  obtain ⟨Ac, cc, h5e, _, _⟩ := hO5.form
                  subst h5e
                  refine oper_append _ _ _ _ _ _ rfl (by rfl) (by rfl) hrn ?_
                  have HBw2 := below_grown HBw hg5 (fun q hq => by have h := own_in (F := fun q => q = zb) HZ (.inr hq); have h : q = zb := h; omega) HBw.size
                  have hs5 := hg5.size
                  have hsW := HBw.size
                  refine hK1.out _ _ ⟨fun _ => ⟨cell_below (HBw2) cO, cell_below (HBw2) cA, cell_below (HBw2) xa⟩, trivial⟩ (fun hT => ?_)
                  have k5 := hO5.bound
                  obtain ⟨Gc, hGc⟩ : ∃ Gc : Nat → Prop, Gc = (fun q => (q = zb ∨ V1.heap.size ≤ q) ∧ q < V2.heap.size) := ⟨_, rfl⟩
                  rw [← hGc] at k5
                  obtain ⟨e5, he5⟩ : ∃ e5, e5 = V2.heap.size := ⟨_, rfl⟩
                  have HGc : Hid (∀ q, Gc q → w1.heap.size ≤ q ∧ q < e5) := Lib.hid (fun q hq => by rw [hGc] at hq; obtain ⟨h1, h2⟩ := hq; rcases h1 with h1 | h1 <;> omega)
                  have hl5_2 : e5 ≤ V2.heap.size := by omega
                  have hlz_2 : zb < V2.heap.size := by have := hlz_1; omega
                  have HBw := HBw2
                  clear hK1 K1 hGc he5 hrn hO5 hg5 HZ HBw2 hs5 hsW
                  try simp only [Act.put, Array.getInternal_eq_getElem, List.getElem_toArray, List.getElem_cons_zero, List.getElem_cons_succ, List.setIfInBounds_toArray, List.set_cons_zero, List.set_cons_succ]
                  refine anyT_ready (rs := [3, 11]) (by kernel_rfl) (by simp) ?_
                  refine AllT.cons rfl (fun K1 hK1 => ?_) (AllT.cons rfl (fun K1 hK1 => ?_) AllT.nil)
                  · try simp only [Array.getInternal_eq_getElem, List.getElem_toArray, List.getElem_cons_zero, List.getElem_cons_succ]
                    go_simp
                    have hbn := below_new (w := V2) (.cells #[.int .i64 tw] 3)
                    have Bnb := heap_alloc_new V2 (.cells #[.int .i64 tw] 3)
                    have hz : (V2.alloc (.cells #[.int .i64 tw] 3)).heap.size ≤ V2.heap.size + 1 ∧ V2.heap.size + 1 ≤ (V2.alloc (.cells #[.int .i64 tw] 3)).heap.size := by simp
                    refine hK1.out _ _ ⟨fun _ => ⟨cell_below (below_then HBw hbn) cO, cell_below (below_then HBw hbn) cA, cell_below (below_then HBw hbn) xa⟩, trivial⟩ (fun hT => ?_)
                    have hsW_2 := HBw.size
                    have k5 := k5.below hbn
                    have hNc : ¬ Gc V2.heap.size := fun h => by have := (HGc.out _ h).2; have := hl5_2; omega
                    have HBw := below_then HBw hbn
                    clear hbn hK1 K1
                    try simp only [Act.put, Array.getInternal_eq_getElem, List.getElem_toArray, List.getElem_cons_zero, List.getElem_cons_succ, List.setIfInBounds_toArray, List.set_cons_zero, List.set_cons_succ]
                    generalize V2.alloc (.cells #[.int .i64 tw] 3) = V3 at *
                    have hln_3 : V2.heap.size < V3.heap.size := by omega
                    have hlz_3 : zb < V3.heap.size := by omega
                    have hl5_3 : e5 ≤ V3.heap.size := by omega
                    have hgenb : w1.heap.size ≤ V2.heap.size := hsW_2
                    clear hz hsW_2
                    generalize V2.heap.size = nb at *
                    refine anyT_ready (rs := [11]) (by kernel_rfl) (by simp) ?_
                    refine AllT.cons rfl (fun K1 hK1 => ?_) AllT.nil
                    · try simp only [Array.getInternal_eq_getElem, List.getElem_toArray, List.getElem_cons_zero, List.getElem_cons_succ]
                      go_simp
                      have hbn := below_new (w := V3) (.cells #[.slice Ac al.length cc] 35)
                      have Bab := heap_alloc_new V3 (.cells #[.slice Ac al.length cc] 35)
                      have hz : (V3.alloc (.cells #[.slice Ac al.length cc] 35)).heap.size ≤ V3.heap.size + 1 ∧ V3.heap.size + 1 ≤ (V3.alloc (.cells #[.slice Ac al.length cc] 35)).heap.size := by simp
                      refine hK1.out _ _ ⟨fun _ => ⟨cell_below (below_then HBw hbn) cO, cell_below (below_then HBw hbn) cA, cell_below (below_then HBw hbn) xa⟩, trivial⟩ (fun hT => ?_)
                      have hsW_3 := HBw.size
                      have Bnb := blk_below Bnb hbn
                      have k5 := k5.below hbn
                      have hnab : nb ≠ V3.heap.size := by have := hln_3; omega
                      have hAc : ¬ Gc V3.heap.size := fun h => by have := (HGc.out _ h).2; have := hl5_3; omega
                      have HBw := below_then HBw hbn
                      clear hbn hK1 K1
                      try simp only [Act.put, Array.getInternal_eq_getElem, List.getElem_toArray, List.getElem_cons_zero, List.getElem_cons_succ, List.setIfInBounds_toArray, List.set_cons_zero, List.set_cons_succ]
                      generalize V3.alloc (.cells #[.slice Ac al.length cc] 35) = V4 at *
                      have hln_4 : nb < V4.heap.size := by omega
                      have hlz_4 : zb < V4.heap.size := by omega
                      have hla_4 : V3.heap.size < V4.heap.size := by omega
                      have hl5_4 : e5 ≤ V4.heap.size := by omega
                      have hgeab : w1.heap.size ≤ V3.heap.size := hsW_3
                      clear hz hsW_3
                      generalize V3.heap.size = ab at *
                      have HP := HS.ow.bound.below HBw
                      have hgd : ∀ q, (q = nb ∨ q = ab ∨ Gc q) → w1.heap.size ≤ q := fun q hq => by
                        rcases hq with rfl | rfl | hq
                        · exact hgenb
                        · exact hgeab
                        · exact (HGc.out q hq).1
                      have HKe : partA.K V4 (fun q => q = nb ∨ q = ab ∨ Gc q) (extraP tw al) [.slice none 0 0, .slice none 0 0, .int .i64 1, .int .i64 0, .slice (some ⟨nb, 0, none⟩) 1 1, .slice (some ⟨ab, 0, none⟩) 1 1] :=
                        partA_mk (x := extraP tw al) (G0 := fun _ => False) (G1 := fun _ => False) (G2 := fun q => q = nb ∨ False) (G3 := fun q => q = ab ∨ Gc q) (fun _ h => h.elim) (fun _ h => h.elim) (fun q hq => .inl (hq.elim id False.elim)) (fun q hq => .inr hq) (fun _ h _ => h) (fun _ h _ => h) (fun _ h _ => h) (fun _ h _ => h) (fun _ h _ => h) (fun q hq h => by
                          rcases hq with rfl | hq
                          · rcases h with h | h
                            · exact hnab h
                            · exact hNc h
                          · exact hq) (Ow.nil _ _ _ _ _) (Ow.nil _ _ _ _ _) (ow_lit1 (G := fun _ => False) Bnb rfl rfl (fun _ h => h.elim)) (ow_lit1 Bab rfl ⟨_, rfl, k5⟩ (fun q hq h => hAc (h ▸ hq)))
                      refine anyT_pure (i := 12) (v := ?_) rfl (by kernel_rfl) (by kernel_rfl) (by kernel_rfl) (fun _ _ _ h => h) (Or.inl ⟨by rfl, ?_⟩) (by assumption) ?_
                      rotate_left 1
                      focus ((intro w hSw; (try dsimp only at hSw); go_simp); try with_reducible rfl)
                      try simp only [Act.put, Array.getInternal_eq_getElem, List.getElem_toArray, List.getElem_cons_zero, List.getElem_cons_succ, List.setIfInBounds_toArray, List.set_cons_zero, List.set_cons_succ]
                      have hbz := below_new (w := V4) (.cells #[.slice none 0 0, .slice none 0 0, .int .i64 1, .int .i64 0, .slice (some ⟨nb, 0, none⟩) 1 1, .slice (some ⟨ab, 0, none⟩) 1 1] 54)
                      have bz := heap_alloc_new V4 (.cells #[.slice none 0 0, .slice none 0 0, .int .i64 1, .int .i64 0, .slice (some ⟨nb, 0, none⟩) 1 1, .slice (some ⟨ab, 0, none⟩) 1 1] 54)
                      refine anyT_ready (rs := [13]) (by kernel_rfl) (by simp) ?_
                      refine AllT.cons rfl (fun K1 hK1 => ?_) AllT.nil
                      try simp only [Array.getInternal_eq_getElem, List.getElem_toArray, List.getElem_cons_zero, List.getElem_cons_succ]
                      go_simp
                      refine hK1.out _ _ ⟨fun _ => ⟨cell_below (below_then HBw hbz) cO, cell_below (below_then HBw hbz) cA, cell_below (below_then HBw hbz) xa⟩, trivial⟩ (fun hT => ?_)
                      clear hK1 K1
                      try simp only [Act.put, Array.getInternal_eq_getElem, List.getElem_toArray, List.getElem_cons_zero, List.getElem_cons_succ, List.setIfInBounds_toArray, List.set_cons_zero, List.set_cons_succ]
                      generalize V4.alloc (.cells #[.slice none 0 0, .slice none 0 0, .int .i64 1, .int .i64 0, .slice (some ⟨nb, 0, none⟩) 1 1, .slice (some ⟨ab, 0, none⟩) 1 1] 54) = Wz at *
                      have HPz := HP.below hbz
                      have HKz := partA.move (w' := Wz) (fun q hq hlt => hbz.block q hlt) HKe
                      obtain ⟨v7, W5, hrn, hO7, hg7⟩ := run_ap1 (P := Try.prog) (r := partA) (e := 54) 27 27 (.agg #[.slice none 0 0, .slice none 0 0, .int .i64 0, .int .i64 0, .slice none 0 0, .slice none 0 0]) 112 Try.underlying27 infoPart rfl (by decide) (by omega) (.slice (some ⟨g1, 0, none⟩) cur.length cp) cur (extraP tw al) [.slice none 0 0, .slice none 0 0, .int .i64 1, .int .i64 0, .slice (some ⟨nb, 0, none⟩) 1 1, .slice (some ⟨ab, 0, none⟩) 1 1] V4.heap.size bz HPz HKz (fun q hq h => by have h1 := hgd q hq; have h2 := h.2; omega) (by omega)
                      obtain ⟨A7, c7, h7e, _, _⟩ := hO7.form1
                      subst h7e
                      have HBz := below_then HBw hbz
                      have cOz := blk_below HS.hb HBz
                      have cO7 := grown_blk hg7 cOz (own_ne HPz (fun h => hobF.out h.1))
                      have cA7 := grown_blk hg7 (blk_below px HBz) (own_ne HPz (fun h => hpvF.out h.1))
                      have hC7 := Chg.of_grown hg7
                      have xa7 := hC7.cell (cell_below HBz xa) (own_ne HPz (fun h => hb4F.out h.1))
                      have hszs := HBw.size
                      have hszz := hbz.size
                      have hsz7 := hg7.size
                      have HO8 := hO7.mono (G := FO2) (fun q hq => by
                        rcases hq with hq | hq | hq
                        · exact hq.1
                        · exact hnewF.out q (hgd q hq)
                        · exact hnewF.out q (by omega))
                      have hCs := Chg.set (A := fun q => q = ob) (w := W5) (b := ob) (o := 0) (u := .slice A7 (cur.length + 1) c7) rfl
                      have HO9 := HO8.move (hCs.same (fun q hq h => hobF.out (h ▸ hq)))
                      have cO9 := blk_put cO7 0 (.slice A7 (cur.length + 1) c7)
                      have HCf : Chg (fun q => q = ob ∨ FO2 q) w1 (W5.setCell ⟨ob, 0, none⟩ (.slice A7 (cur.length + 1) c7)) := (((Chg.of_below (A := fun q => q = ob ∨ FO2 q) HBz).trans2 hC7 (fun q hq => .inl (.inr (own_in HPz (.inl hq)).1))).trans2 hCs (fun q hq => .inl (.inl hq)))
                      have HSf : SeS V ob FO2 (cur ++ [extraP tw al]) A7 c7 (W5.setCell ⟨ob, 0, none⟩ (.slice A7 (cur.length + 1) c7)) := ⟨by rw [List.length_append]; exact cO9, by rw [List.length_append]; exact HO9⟩
                      refine anyT_ready (rs := [14]) (by kernel_rfl) (by simp) ?_
                      refine AllT.cons rfl (fun K1 hK1 => ?_) AllT.nil
                      try simp only [Array.getInternal_eq_getElem, List.getElem_toArray, List.getElem_cons_zero, List.getElem_cons_succ]
                      rw [if_pos (by first | kernel_rfl | rfl | decide)]
                      refine oper_append _ _ _ _ _ _ rfl (by rfl) (by rfl) hrn ?_
                      obtain ⟨za, zb'⟩ := cell_of_block cO7
                      obtain ⟨zc, _⟩ := cell_of_block cA7
                      refine hK1.out _ _ ⟨fun _ => ⟨(za 0).trans rfl, (zc 5).trans rfl, xa7⟩, trivial⟩ (fun hT => ?_)
                      have ys5 : W5.cell? ⟨ob, 0, none⟩ = some (.slice (some ⟨g1, 0, none⟩) cur.length cp) := (za 0).trans rfl
                      have yf5 := zb' 0
                      clear hK1 K1 za zb' zc
                      try simp only [Act.put, Array.getInternal_eq_getElem, List.getElem_toArray, List.getElem_cons_zero, List.getElem_cons_succ, List.setIfInBounds_toArray, List.set_cons_zero, List.set_cons_succ]
                      refine anyT_pure (i := 15) (v := ?_) rfl (by kernel_rfl) (by kernel_rfl) (by kernel_rfl) (fun _ _ _ h => h) (Or.inl ⟨by rfl, ?_⟩) (by assumption) ?_
                      rotate_left 1
                      focus ((intro w hSw; (try dsimp only at hSw); go_simp); try with_reducible rfl)
                      try simp only [Act.put, Array.getInternal_eq_getElem, List.getElem_toArray, List.getElem_cons_zero, List.getElem_cons_succ, List.setIfInBounds_toArray, List.set_cons_zero, List.set_cons_succ]
                      refine anyT_ready (rs := [16]) (by kernel_rfl) (by simp) ?_
                      refine AllT.cons rfl (fun K1 hK1 => ?_) AllT.nil
                      try simp only [Array.getInternal_eq_getElem, List.getElem_toArray, List.getElem_cons_zero, List.getElem_cons_succ]
                      go_simp
                      refine hK1.out _ _ ⟨fun h => absurd h (by simp), trivial⟩ (fun hT => ?_)
                      clear hK1 K1
                      try simp only [Act.put, Array.getInternal_eq_getElem, List.getElem_toArray, List.getElem_cons_zero, List.getElem_cons_succ, List.setIfInBounds_toArray, List.set_cons_zero, List.set_cons_succ]
                      refine anyT_done (by kernel_rfl) ?_ _
                      go_wp2_with fail
                      go_meet
                      exact ⟨_, _, HSf, HCf⟩
                  · try simp only [Array.getInternal_eq_getElem, List.getElem_toArray, List.getElem_cons_zero, List.getElem_cons_succ]
                    go_simp
                    have hbn := below_new (w := V2) (.cells #[.slice Ac al.length cc] 35)
                    have Bab := heap_alloc_new V2 (.cells #[.slice Ac al.length cc] 35)
                    have hz : (V2.alloc (.cells #[.slice Ac al.length cc] 35)).heap.size ≤ V2.heap.size + 1 ∧ V2.heap.size + 1 ≤ (V2.alloc (.cells #[.slice Ac al.length cc] 35)).heap.size := by simp
                    refine hK1.out _ _ ⟨fun _ => ⟨cell_below (below_then HBw hbn) cO, cell_below (below_then HBw hbn) cA, cell_below (below_then HBw hbn) xa⟩, trivial⟩ (fun hT => ?_)
                    have hsW_2 := HBw.size
                    have k5 := k5.below hbn
                    have hAc : ¬ Gc V2.heap.size := fun h => by have := (HGc.out _ h).2; have := hl5_2; omega
                    have HBw := below_then HBw hbn
                    clear hbn hK1 K1
                    try simp only [Act.put, Array.getInternal_eq_getElem, List.getElem_toArray, List.getElem_cons_zero, List.getElem_cons_succ, List.setIfInBounds_toArray, List.set_cons_zero, List.set_cons_succ]
                    generalize V2.alloc (.cells #[.slice Ac al.length cc] 35) = V3 at *
                    have hlz_3 : zb < V3.heap.size := by omega
                    have hla_3 : V2.heap.size < V3.heap.size := by omega
                    have hl5_3 : e5 ≤ V3.heap.size := by omega
                    have hgeab : w1.heap.size ≤ V2.heap.size := hsW_2
                    clear hz hsW_2
                    generalize V2.heap.size = ab at *
                    refine anyT_ready (rs := [3]) (by kernel_rfl) (by simp) ?_
                    refine AllT.cons rfl (fun K1 hK1 => ?_) AllT.nil
                    · try simp only [Array.getInternal_eq_getElem, List.getElem_toArray, List.getElem_cons_zero, List.getElem_cons_succ]
                      go_simp
                      have hbn := below_new (w := V3) (.cells #[.int .i64 tw] 3)
                      have Bnb := heap_alloc_new V3 (.cells #[.int .i64 tw] 3)
                      have hz : (V3.alloc (.cells #[.int .i64 tw] 3)).heap.size ≤ V3.heap.size + 1 ∧ V3.heap.size + 1 ≤ (V3.alloc (.cells #[.int .i64 tw] 3)).heap.size := by simp
                      refine hK1.out _ _ ⟨fun _ => ⟨cell_below (below_then HBw hbn) cO, cell_below (below_then HBw hbn) cA, cell_below (below_then HBw hbn) xa⟩, trivial⟩ (fun hT => ?_)
                      have hsW_3 := HBw.size
                      have k5 := k5.below hbn
                      have Bab := blk_below Bab hbn
                      have hnab : V3.heap.size ≠ ab := by have := hla_3; omega
                      have hNc : ¬ Gc V3.heap.size := fun h => by have := (HGc.out _ h).2; have := hl5_3; omega
                      have HBw := below_then HBw hbn
                      clear hbn hK1 K1
                      try simp only [Act.put, Array.getInternal_eq_getElem, List.getElem_toArray, List.getElem_cons_zero, List.getElem_cons_succ, List.setIfInBounds_toArray, List.set_cons_zero, List.set_cons_succ]
                      generalize V3.alloc (.cells #[.int .i64 tw] 3) = V4 at *
                      have hln_4 : V3.heap.size < V4.heap.size := by omega
                      have hlz_4 : zb < V4.heap.size := by omega
                      have hla_4 : ab < V4.heap.size := by omega
                      have hl5_4 : e5 ≤ V4.heap.size := by omega
                      have hgenb : w1.heap.size ≤ V3.heap.size := hsW_3
                      clear hz hsW_3
                      generalize V3.heap.size = nb at *
                      have HP := HS.ow.bound.below HBw
                      have hgd : ∀ q, (q = nb ∨ q = ab ∨ Gc q) → w1.heap.size ≤ q := fun q hq => by
                        rcases hq with rfl | rfl | hq
                        · exact hgenb
                        · exact hgeab
                        · exact (HGc.out q hq).1
                      have HKe : partA.K V4 (fun q => q = nb ∨ q = ab ∨ Gc q) (extraP tw al) [.slice none 0 0, .slice none 0 0, .int .i64 1, .int .i64 0, .slice (some ⟨nb, 0, none⟩) 1 1, .slice (some ⟨ab, 0, none⟩) 1 1] :=
                        partA_mk (x := extraP tw al) (G0 := fun _ => False) (G1 := fun _ => False) (G2 := fun q => q = nb ∨ False) (G3 := fun q => q = ab ∨ Gc q) (fun _ h => h.elim) (fun _ h => h.elim) (fun q hq => .inl (hq.elim id False.elim)) (fun q hq => .inr hq) (fun _ h _ => h) (fun _ h _ => h) (fun _ h _ => h) (fun _ h _ => h) (fun _ h _ => h) (fun q hq h => by
                          rcases hq with rfl | hq
                          · rcases h with h | h
                            · exact hnab h
                            · exact hNc h
                          · exact hq) (Ow.nil _ _ _ _ _) (Ow.nil _ _ _ _ _) (ow_lit1 (G := fun _ => False) Bnb rfl rfl (fun _ h => h.elim)) (ow_lit1 Bab rfl ⟨_, rfl, k5⟩ (fun q hq h => hAc (h ▸ hq)))
                      refine anyT_pure (i := 12) (v := ?_) rfl (by kernel_rfl) (by kernel_rfl) (by kernel_rfl) (fun _ _ _ h => h) (Or.inl ⟨by rfl, ?_⟩) (by assumption) ?_
                      rotate_left 1
                      focus ((intro w hSw; (try dsimp only at hSw); go_simp); try with_reducible rfl)
                      try simp only [Act.put, Array.getInternal_eq_getElem, List.getElem_toArray, List.getElem_cons_zero, List.getElem_cons_succ, List.setIfInBounds_toArray, List.set_cons_zero, List.set_cons_succ]
                      have hbz := below_new (w := V4) (.cells #[.slice none 0 0, .slice none 0 0, .int .i64 1, .int .i64 0, .slice (some ⟨nb, 0, none⟩) 1 1, .slice (some ⟨ab, 0, none⟩) 1 1] 54)
                      have bz := heap_alloc_new V4 (.cells #[.slice none 0 0, .slice none 0 0, .int .i64 1, .int .i64 0, .slice (some ⟨nb, 0, none⟩) 1 1, .slice (some ⟨ab, 0, none⟩) 1 1] 54)
                      refine anyT_ready (rs := [13]) (by kernel_rfl) (by simp) ?_
                      refine AllT.cons rfl (fun K1 hK1 => ?_) AllT.nil
                      try simp only [Array.getInternal_eq_getElem, List.getElem_toArray, List.getElem_cons_zero, List.getElem_cons_succ]
                      go_simp
                      refine hK1.out _ _ ⟨fun _ => ⟨cell_below (below_then HBw hbz) cO, cell_below (below_then HBw hbz) cA, cell_below (below_then HBw hbz) xa⟩, trivial⟩ (fun hT => ?_)
                      clear hK1 K1
                      try simp only [Act.put, Array.getInternal_eq_getElem, List.getElem_toArray, List.getElem_cons_zero, List.getElem_cons_succ, List.setIfInBounds_toArray, List.set_cons_zero, List.set_cons_succ]
                      generalize V4.alloc (.cells #[.slice none 0 0, .slice none 0 0, .int .i64 1, .int .i64 0, .slice (some ⟨nb, 0, none⟩) 1 1, .slice (some ⟨ab, 0, none⟩) 1 1] 54) = Wz at *
                      have HPz := HP.below hbz
                      have HKz := partA.move (w' := Wz) (fun q hq hlt => hbz.block q hlt) HKe
                      obtain ⟨v7, W5, hrn, hO7, hg7⟩ := run_ap1 (P := Try.prog) (r := partA) (e := 54) 27 27 (.agg #[.slice none 0 0, .slice none 0 0, .int .i64 0, .int .i64 0, .slice none 0 0, .slice none 0 0]) 112 Try.underlying27 infoPart rfl (by decide) (by omega) (.slice (some ⟨g1, 0, none⟩) cur.length cp) cur (extraP tw al) [.slice none 0 0, .slice none 0 0, .int .i64 1, .int .i64 0, .slice (some ⟨nb, 0, none⟩) 1 1, .slice (some ⟨ab, 0, none⟩) 1 1] V4.heap.size bz HPz HKz (fun q hq h => by have h1 := hgd q hq; have h2 := h.2; omega) (by omega)
                      obtain ⟨A7, c7, h7e, _, _⟩ := hO7.form1
                      subst h7e
                      have HBz := below_then HBw hbz
                      have cOz := blk_below HS.hb HBz
                      have cO7 := grown_blk hg7 cOz (own_ne HPz (fun h => hobF.out h.1))
                      have cA7 := grown_blk hg7 (blk_below px HBz) (own_ne HPz (fun h => hpvF.out h.1))
                      have hC7 := Chg.of_grown hg7
                      have xa7 := hC7.cell (cell_below HBz xa) (own_ne HPz (fun h => hb4F.out h.1))
                      have hszs := HBw.size
                      have hszz := hbz.size
                      have hsz7 := hg7.size
                      have HO8 := hO7.mono (G := FO2) (fun q hq => by
                        rcases hq with hq | hq | hq
                        · exact hq.1
                        · exact hnewF.out q (hgd q hq)
                        · exact hnewF.out q (by omega))
                      have hCs := Chg.set (A := fun q => q = ob) (w := W5) (b := ob) (o := 0) (u := .slice A7 (cur.length + 1) c7) rfl
                      have HO9 := HO8.move (hCs.same (fun q hq h => hobF.out (h ▸ hq)))
                      have cO9 := blk_put cO7 0 (.slice A7 (cur.length + 1) c7)
                      have HCf : Chg (fun q => q = ob ∨ FO2 q) w1 (W5.setCell ⟨ob, 0, none⟩ (.slice A7 (cur.length + 1) c7)) := (((Chg.of_below (A := fun q => q = ob ∨ FO2 q) HBz).trans2 hC7 (fun q hq => .inl (.inr (own_in HPz (.inl hq)).1))).trans2 hCs (fun q hq => .inl (.inl hq)))
                      have HSf : SeS V ob FO2 (cur ++ [extraP tw al]) A7 c7 (W5.setCell ⟨ob, 0, none⟩ (.slice A7 (cur.length + 1) c7)) := ⟨by rw [List.length_append]; exact cO9, by rw [List.length_append]; exact HO9⟩
                      refine anyT_ready (rs := [14]) (by kernel_rfl) (by simp) ?_
                      refine AllT.cons rfl (fun K1 hK1 => ?_) AllT.nil
                      try simp only [Array.getInternal_eq_getElem, List.getElem_toArray, List.getElem_cons_zero, List.getElem_cons_succ]
                      rw [if_pos (by first | kernel_rfl | rfl | decide)]
                      refine oper_append _ _ _ _ _ _ rfl (by rfl) (by rfl) hrn ?_
                      obtain ⟨za, zb'⟩ := cell_of_block cO7
                      obtain ⟨zc, _⟩ := cell_of_block cA7
                      refine hK1.out _ _ ⟨fun _ => ⟨(za 0).trans rfl, (zc 5).trans rfl, xa7⟩, trivial⟩ (fun hT => ?_)
                      have ys5 : W5.cell? ⟨ob, 0, none⟩ = some (.slice (some ⟨g1, 0, none⟩) cur.length cp) := (za 0).trans rfl
                      have yf5 := zb' 0
                      clear hK1 K1 za zb' zc
                      try simp only [Act.put, Array.getInternal_eq_getElem, List.getElem_toArray, List.getElem_cons_zero, List.getElem_cons_succ, List.setIfInBounds_toArray, List.set_cons_zero, List.set_cons_succ]
                      refine anyT_pure (i := 15) (v := ?_) rfl (by kernel_rfl) (by kernel_rfl) (by kernel_rfl) (fun _ _ _ h => h) (Or.inl ⟨by rfl, ?_⟩) (by assumption) ?_
                      rotate_left 1
                      focus ((intro w hSw; (try dsimp only at hSw); go_simp); try with_reducible rfl)
                      try simp only [Act.put, Array.getInternal_eq_getElem, List.getElem_toArray, List.getElem_cons_zero, List.getElem_cons_succ, List.setIfInBounds_toArray, List.set_cons_zero, List.set_cons_succ]
                      refine anyT_ready (rs := [16]) (by kernel_rfl) (by simp) ?_
                      refine AllT.cons rfl (fun K1 hK1 => ?_) AllT.nil
                      try simp only [Array.getInternal_eq_getElem, List.getElem_toArray, List.getElem_cons_zero, List.getElem_cons_succ]
                      go_simp
                      refine hK1.out _ _ ⟨fun h => absurd h (by simp), trivial⟩ (fun hT => ?_)
                      clear hK1 K1
                      try simp only [Act.put, Array.getInternal_eq_getElem, List.getElem_toArray, List.getElem_cons_zero, List.getElem_cons_succ, List.setIfInBounds_toArray, List.set_cons_zero, List.set_cons_succ]
                      refine anyT_done (by kernel_rfl) ?_ _
                      go_wp2_with fail
                      go_meet
                      exact ⟨_, _, HSf, HCf⟩
            case rest =>
              obtain ⟨A5, c5, HS5, hC5⟩ := hcut
              rename World => wc
              have hobW := hobw
              have hFOw : ∀ q, FO2 q → w.heap.size + 2 ≤ q := fun q hq => ((HFO.out q).1 ((HFO2.out q).1 hq).1).2
              have HBc := hC5.to_below HB HB.size (fun q hq => by rcases hq with rfl | hq; omega; (have := hFOw q hq; omega))
              have px := hC5.blk px (fun h => by rcases h with h | h; omega; exact hpvF.out h)
              have hb := hC5.blk hb (fun h => by rcases h with h | h; omega; (have := hFOw _ h; omega))
              have hr := hC5.blk hr (fun h => by rcases h with h | h; omega; (have := hFOw _ h; omega))
              have hoz2 := blk_lt HS5.hb
              have hlen : (cur ++ [extraP tw al]).length = cur.length + 1 := by rw [List.length_append]; rfl
              have hk2 : k < (cur ++ [extraP tw al]).length := by omega
              have hck2 : (cur ++ [extraP tw al])[k] = P := by
                have h := hckH.out
                rw [List.getElem_append_left hkc]
                rw [List.getElem?_eq_getElem hkc] at h
                exact Option.some.inj h
              have hcf : Hid (∀ y, (cur ++ [extraP tw al]).set k y = L.set k y ++ (E ++ [extraP tw al])) := Lib.hid (fun y => by rw [List.set_append_left _ _ hkc, hcs.out, List.append_assoc])
              obtain ⟨g5, c5x, he, _, _⟩ := Ow.some_form HS5.ow (by omega)
              injection he with he1 _ he3
              subst he1
              subst he3
              obtain ⟨Fr, Gk, us, hFr, hGk, hK, H0'⟩ := HS5.ow.hole hk2
              rw [hck2] at hK
              obtain ⟨G0, G1, G2, G3, e0, e1, e2, e3, d01, d02, d03, d12, d13, d23, vp1, vc1, vn1, va1, rfl, k1, k2, k3, k4⟩ := partA_open hK
              have hPi : i < P.next.length := by have := hPn.out; omega
              have hPj : i < P.args.length := by have := hPa.out; omega
              obtain ⟨gn, cn1, rfl, _, _⟩ := Ow.some_form k3 (by omega)
              obtain ⟨ga, ca1, rfl, _, _⟩ := Ow.some_form k4 (by omega)
              obtain ⟨xn, fn⟩ := k3.int_at hPi
              have hgG2 := (k3.lt_size (k := gn) rfl).1
              have hgG3 := (k4.lt_size (k := ga) rfl).1
              have hgnO := hGk gn (e2 gn hgG2)
              have hgaO := hGk ga (e3 ga hgG3)
              have hgnob : gn ≠ ob := fun h => hobF.out (h ▸ hgnO.1)
              have hgaob : ga ≠ ob := fun h => hobF.out (h ▸ hgaO.1)
              generalize P.next[i] = oldn at *
              have x4 := H0'.cellj 4 partA_sz rfl
              obtain ⟨y1, _⟩ := cell_of_block HS5.hb
              have xs : wc.cell? ⟨ob, 0, none⟩ = some (.slice (some ⟨g5, 0, none⟩) (cur ++ [extraP tw al]).length c5) := (y1 0).trans rfl
              clear y1
              have x5 := H0'.cellj 5 partA_sz rfl
              obtain ⟨Fr4, Gk4, us4, hFr4, hGk4, hK4, H4⟩ := k4.hole hPj
              obtain ⟨u4, rfl, hOu4⟩ := hK4
              have xa4 := H4.cell1 rfl rfl
              have fa4 := H4.free i
              obtain ⟨Au4, cu4, rfl, _, _⟩ := hOu4.form
              obtain ⟨al4, hal4⟩ : ∃ al4, al4 = P.args[i] := ⟨_, rfl⟩
              rw [← hal4] at xa4 hOu4
              clear hal4
              obtain ⟨N2, hN2⟩ : ∃ N2, N2 = (cur ++ [extraP tw al]).length := ⟨_, rfl⟩
              rw [← hN2] at xs H0'
              have HSb := HS5.hb
              rw [← hN2] at HSb
              have hN3 : N2 = cur.length + 1 := by omega
              have hws : IntKind.i64.wrap ((N2 : Int) - 1) = (cur.length : Int) := by
                have : ((N2 : Int) - 1) = (cur.length : Int) := by omega
                rw [this]; exact IntWalk.i64_in _ (by omega)
              have j0 : (0 : Int) ≤ (k : Int) := Int.natCast_nonneg _
              have j1 : (k : Int) < (N2 : Int) := by omega
              have j2 : (i : Int) < (P.next.length : Int) := by omega
              have j3 : (i : Int) < (P.args.length : Int) := by omega
              have hNN := Lib.hid (And.intro hN2 hN3)
              clear hN2 hN3 hlen
              have hnga : gn ≠ ga := fun h => d23 gn hgG2 (h ▸ hgG3)
              have hszc := hC5.size
              have hCn := Chg.set (A := fun q => q = gn ∨ q = ga) (w := wc.drew) (b := gn) (o := i) (u := .int .i64 cur.length) (.inl rfl)
              have hCa := Chg.set (A := fun q => q = gn ∨ q = ga) (w := wc.drew.setCell ⟨gn, i, none⟩ (.int .i64 cur.length)) (b := ga) (o := i) (u := .slice none 0 0) (.inr rfl)
              obtain ⟨wd, hwd⟩ : ∃ wd, wd = wc.drew.setCell ⟨gn, i, none⟩ (.int .i64 cur.length) := ⟨_, rfl⟩
              have hwd2 : (wc.setCell ⟨gn, i, none⟩ (.int .i64 cur.length)).drew = wd := hwd.symm
              rw [← hwd] at hCn hCa
              obtain ⟨we, hwe⟩ : ∃ we, we = wd.setCell ⟨ga, i, none⟩ (.slice none 0 0) := ⟨_, rfl⟩
              rw [← hwe] at hCa
              have hCd : Chg (fun q => q = gn ∨ q = ga) wc wd := ⟨hCn.os, hCn.tape, hCn.output, hCn.size, hCn.block⟩
              have hCw := hCd.trans hCa
              have hFr4g : ∀ q, Fr4 q → q ≠ gn := fun q hq he => d23 gn hgG2 (he ▸ hFr4 q hq)
              have m1 := k1.move (hCw.same (fun q hq h => by rcases h with h | h; exact d02 q hq (h ▸ hgG2); exact d03 q hq (h ▸ hgG3)))
              have m2 := k2.move (hCw.same (fun q hq h => by rcases h with h | h; exact d12 q hq (h ▸ hgG2); exact d13 q hq (h ▸ hgG3)))
              have m3 : Ow true 3 Rp.int we G2 (.slice (some ⟨gn, 0, none⟩) P.next.length cn1) (P.next.set i (cur.length : Int)) := by
                have h := (k3.move (w' := wc.drew) (fun _ _ _ => rfl)).set1 rfl hPi (y := (cur.length : Int)) (u := .int .i64 cur.length) rfl
                rw [hwe, hwd]
                exact h.move (fun q hq _ => heap_setCell_other _ ⟨ga, i, none⟩ q _ (fun he => d23 q hq (by have he : q = ga := he; rw [he]; exact hgG3)))
              have m4 : Ow true 35 (Rp.ow true 3 Rp.int) we Fr4 (.slice (some ⟨ga, 0, none⟩) P.args.length ca1) (P.args.set i []) := by
                have h := (H4.move (w' := wd) (fun q hq _ => by rw [hwd]; exact heap_setCell_other _ ⟨gn, i, none⟩ q _ (fun he => by have he : q = gn := he; exact hFr4g q hq he))).set1 rfl (.slice none 0 0)
                rw [hwe]
                exact (h.close (y := []) (G := fun _ => False) ⟨_, rfl, Ow.nil _ _ _ _ _⟩ (fun _ h => h.elim)).mono (fun q hq => by rcases hq with hq | hq; exact hq; exact hq.elim)
              have HP := ((H0'.move (hCw.same (fun q hq h => by
                rcases h with h | h
                · exact hgnO.2.1 (h ▸ hq)
                · exact hgaO.2.1 (h ▸ hq)))).close (y := setNA P i (cur.length : Int)) (G := fun q => G0 q ∨ G1 q ∨ G2 q ∨ Fr4 q) (partA_mk (x := setNA P i (cur.length : Int)) (fun q hq => .inl hq) (fun q hq => .inr (.inl hq)) (fun q hq => .inr (.inr (.inl hq))) (fun q hq => .inr (.inr (.inr hq))) d01 d02 (fun q hq h => d03 q hq (hFr4 q h)) d12 (fun q hq h => d13 q hq (hFr4 q h)) (fun q hq h => d23 q hq (hFr4 q h)) m1 m2 m3 m4) (fun q hq h => by
                rcases hq with hq | hq | hq | hq
                · exact (hGk q (e0 q hq)).2.1 h
                · exact (hGk q (e1 q hq)).2.1 h
                · exact (hGk q (e2 q hq)).2.1 h
                · exact (hGk q (e3 q (hFr4 q hq))).2.1 h)).mono (G := FO2) (fun q hq => by
                rcases hq with hq | hq | hq | hq | hq
                · exact hFr q hq
                · exact (hGk q (e0 q hq)).1
                · exact (hGk q (e1 q hq)).1
                · exact (hGk q (e2 q hq)).1
                · exact (hGk q (e3 q (hFr4 q hq))).1)
              rw [hcf.out] at HP
              have hfin : Hid (L.set k (setNA P i (cur.length : Int)) ++ (E ++ [extraP tw al]) = L.set k (splitP ps p E0 (i + 1)).1 ++ (splitP ps p E0 (i + 1)).2) := Lib.hid (by rw [hst2.out]; dsimp only; rw [hcl.out])
              have hlen2 : Hid ((splitP ps p E0 (i + 1)).2.length = E.length + 1) := Lib.hid (by rw [hst2.out]; simp)
              rw [hfin.out] at HP
              have hlen3 : (L.set k (splitP ps p E0 (i + 1)).1 ++ (splitP ps p E0 (i + 1)).2).length = N2 := by
                rw [← hfin.out]
                have h1 := hLl.out
                have h2 := hcl.out
                have h3 := hNN.out.2
                rw [List.length_append, List.length_set, List.length_append]
                simp only [List.length_singleton]
                omega
              have oe := hCw.blk HSb (fun h => by rcases h with h | h; exact hgnob h.symm; exact hgaob h.symm)
              have od := hCd.blk HSb (fun h => by rcases h with h | h; exact hgnob h.symm; exact hgaob h.symm)
              have HSe : SeS V ob FO2 (L.set k (splitP ps p E0 (i + 1)).1 ++ (splitP ps p E0 (i + 1)).2) (some ⟨g5, 0, none⟩) c5 we := ⟨by rw [hlen3]; exact oe, by rw [hlen3]; exact HP⟩
              have hszw := hCw.size
              have HBe := hCw.to_below HBc HBc.size (fun q hq => by rcases hq with rfl | rfl; (have := hFOw _ hgnO.1; omega); (have := hFOw _ hgaO.1; omega))
              have pe := hCw.blk px (fun h => by rcases h with h | h; exact hpvF.out (h ▸ hgnO.1); exact hpvF.out (h ▸ hgaO.1))
              have be := hCw.blk hb (fun h => by rcases h with h | h; (have := hFOw _ hgnO.1; omega); (have := hFOw _ hgaO.1; omega))
              have re := hCw.blk hr (fun h => by rcases h with h | h; (have := hFOw _ hgnO.1; omega); (have := hFOw _ hgaO.1; omega))
              have hoe := blk_lt oe
              have hg5n : g5 ≠ gn := fun h => hgnO.2.2 h.symm
              have hg5a : g5 ≠ ga := fun h => hgaO.2.2 h.symm
              have x5d : wd.cell? ⟨g5, k * 6 + 5, none⟩ = some (.slice (some ⟨ga, 0, none⟩) P.args.length ca1) := by rw [hwd]; exact (World.cell?_setCell_far _ _ _ _ (fun h => hg5n h.symm)).trans x5
              have xad : wd.cell? ⟨ga, i, none⟩ = some (.slice Au4 al4.length cu4) := by rw [hwd]; exact (World.cell?_setCell_far _ _ _ _ hnga).trans xa4
              have fad : wd.frozen? ⟨ga, i, none⟩ = false := by rw [World.frozen?_of_block (w := wc) (by rw [hwd]; exact heap_setCell_other wc.drew ⟨gn, i, none⟩ ga _ (fun h => hnga h.symm))]; exact fa4
              obtain ⟨y1, _⟩ := cell_of_block od
              have xsd : wd.cell? ⟨ob, 0, none⟩ = some (.slice (some ⟨g5, 0, none⟩) N2 c5) := (y1 0).trans rfl
              clear y1
              replace hwe := Lib.hid hwe
              replace hwd := Lib.hid hwd
              replace hwd2 := Lib.hid hwd2
              replace hlen3 := Lib.hid hlen3
              clear hCn hCa hCd hCw m1 m2 m3 m4 H0' H4 k1 k2 k3 k4 hK hOu4 HP oe od hFr hGk hFr4 hGk4 hFr4g d01 d02 d03 d12 d13 d23 e0 e1 e2 e3 hst2 hgG2 hgG3 hgnO hgaO hFOw hnga hg5n hg5a x5 xa4 fa4 HSb hcf HS5 HS
              go_upto_region 12 with fail
              refine anyT_region [(12, fun w' => w'.cell? ⟨ob, 0, none⟩ = some (.slice (some ⟨g5, 0, none⟩) N2 c5) ∧ w'.cell? ⟨g5, k * 6 + 4, none⟩ = some (.slice (some ⟨gn, 0, none⟩) P.next.length cn1))] (by kernel_rfl) ⟨fun _ => ⟨xs, x4⟩, trivial⟩ (fun hT => ?_)
              refine anyT_pure (i := 0) (v := ?_) rfl (by kernel_rfl) (by kernel_rfl) (by kernel_rfl) (fun _ _ _ h => h) (Or.inl ⟨by rfl, ?_⟩) (by assumption) ?_
              rotate_left 1
              focus ((intro w hSw; (try dsimp only at hSw); go_simp); try with_reducible rfl)
              try simp only [Act.put, Array.getInternal_eq_getElem, List.getElem_toArray, List.getElem_cons_zero, List.getElem_cons_succ, List.setIfInBounds_toArray, List.set_cons_zero, List.set_cons_succ]
              refine anyT_pure (i := 2) (v := ?_) rfl (by kernel_rfl) (by kernel_rfl) (by kernel_rfl) (fun _ _ _ h => h) (Or.inl ⟨by rfl, ?_⟩) (by assumption) ?_
              rotate_left 1
              focus ((intro w hSw; (try dsimp only at hSw); go_simp); try with_reducible rfl)
              try simp only [Act.put, Array.getInternal_eq_getElem, List.getElem_toArray, List.getElem_cons_zero, List.getElem_cons_succ, List.setIfInBounds_toArray, List.set_cons_zero, List.set_cons_succ]
              refine anyT_pure (i := 6) (v := ?_) rfl (by kernel_rfl) (by kernel_rfl) (by kernel_rfl) (fun _ _ _ h => h) (Or.inl ⟨by rfl, ?_⟩) (by assumption) ?_
              rotate_left 1
              focus ((intro w hSw; (try dsimp only at hSw); go_simp); try with_reducible rfl)
              try simp only [Act.put, Array.getInternal_eq_getElem, List.getElem_toArray, List.getElem_cons_zero, List.getElem_cons_succ, List.setIfInBounds_toArray, List.set_cons_zero, List.set_cons_succ]
              refine anyT_pure (i := 7) (v := ?_) rfl (by kernel_rfl) (by kernel_rfl) (by kernel_rfl) (fun _ _ _ h => h) (Or.inl ⟨by rfl, ?_⟩) (by assumption) ?_
              rotate_left 1
              focus ((intro w hSw; (try dsimp only at hSw); go_simp); try with_reducible rfl)
              try simp only [Act.put, Array.getInternal_eq_getElem, List.getElem_toArray, List.getElem_cons_zero, List.getElem_cons_succ, List.setIfInBounds_toArray, List.set_cons_zero, List.set_cons_succ]
              refine anyT_take (k := 0) (i := 1) (v := ?_) rfl rfl (by kernel_rfl) (by kernel_rfl) (by kernel_rfl) (fun _ _ _ h => h) (Or.inl ⟨by rfl, ?_⟩) (by assumption) ?_
              rotate_left 1
              focus ((intro w hSw; (try dsimp only at hSw); go_simp); try with_reducible rfl)
              try simp only [Act.put, Array.getInternal_eq_getElem, List.getElem_toArray, List.getElem_cons_zero, List.getElem_cons_succ, List.setIfInBounds_toArray, List.set_cons_zero, List.set_cons_succ]
              refine anyT_take (k := 0) (i := 8) (v := ?_) rfl rfl (by kernel_rfl) (by kernel_rfl) (by kernel_rfl) (fun _ _ _ h => h) (Or.inl ⟨by rfl, ?_⟩) (by assumption) ?_
              rotate_left 1
              focus ((intro w hSw; (try dsimp only at hSw); go_simp); try with_reducible rfl)
              try simp only [Act.put, Array.getInternal_eq_getElem, List.getElem_toArray, List.getElem_cons_zero, List.getElem_cons_succ, List.setIfInBounds_toArray, List.set_cons_zero, List.set_cons_succ]
              refine anyT_pure (i := 3) (v := ?_) rfl (by kernel_rfl) (by kernel_rfl) (by kernel_rfl) (fun _ _ _ h => h) (Or.inl ⟨by rfl, ?_⟩) (by assumption) ?_
              rotate_left 1
              focus ((intro w hSw; (try dsimp only at hSw); go_simp); try with_reducible rfl)
              try simp only [Act.put, Array.getInternal_eq_getElem, List.getElem_toArray, List.getElem_cons_zero, List.getElem_cons_succ, List.setIfInBounds_toArray, List.set_cons_zero, List.set_cons_succ]
              refine anyT_pure (i := 4) (v := ?_) rfl (by kernel_rfl) (by kernel_rfl) (by kernel_rfl) (fun _ _ _ h => h) (Or.inl ⟨by rfl, ?_⟩) (by assumption) ?_
              rotate_left 1
              focus ((intro w hSw; (try dsimp only at hSw); go_simp); try with_reducible rfl)
              try simp only [Act.put, Array.getInternal_eq_getElem, List.getElem_toArray, List.getElem_cons_zero, List.getElem_cons_succ, List.setIfInBounds_toArray, List.set_cons_zero, List.set_cons_succ]
              refine anyT_pure (i := 9) (v := ?_) rfl (by kernel_rfl) (by kernel_rfl) (by kernel_rfl) (fun _ _ _ h => h) (Or.inl ⟨by rfl, ?_⟩) (by assumption) ?_
              rotate_left 1
              focus ((intro w hSw; (try dsimp only at hSw); go_simp); try with_reducible rfl)
              try simp only [Act.put, Array.getInternal_eq_getElem, List.getElem_toArray, List.getElem_cons_zero, List.getElem_cons_succ, List.setIfInBounds_toArray, List.set_cons_zero, List.set_cons_succ]
              refine anyT_pure (i := 10) (v := ?_) rfl (by kernel_rfl) (by kernel_rfl) (by kernel_rfl) (fun _ _ _ h => h) (Or.inl ⟨by rfl, ?_⟩) (by assumption) ?_
              rotate_left 1
              focus ((intro w hSw; (try dsimp only at hSw); go_simp); try with_reducible rfl)
              try simp only [Act.put, Array.getInternal_eq_getElem, List.getElem_toArray, List.getElem_cons_zero, List.getElem_cons_succ, List.setIfInBounds_toArray, List.set_cons_zero, List.set_cons_succ]
              refine anyT_take (k := 0) (i := 5) (v := ?_) rfl rfl (by kernel_rfl) (by kernel_rfl) (by kernel_rfl) (fun _ _ _ h => h) (Or.inl ⟨by rfl, ?_⟩) (by assumption) ?_
              rotate_left 1
              focus ((intro w hSw; (try dsimp only at hSw); go_simp); try with_reducible rfl)
              try simp only [Act.put, Array.getInternal_eq_getElem, List.getElem_toArray, List.getElem_cons_zero, List.getElem_cons_succ, List.setIfInBounds_toArray, List.set_cons_zero, List.set_cons_succ]
              refine anyT_pure (i := 11) (v := ?_) rfl (by kernel_rfl) (by kernel_rfl) (by kernel_rfl) (fun _ _ _ h => h) (Or.inl ⟨by rfl, ?_⟩) (by assumption) ?_
              rotate_left 1
              focus ((intro w hSw; (try dsimp only at hSw); go_simp); try with_reducible rfl)
              try simp only [Act.put, Array.getInternal_eq_getElem, List.getElem_toArray, List.getElem_cons_zero, List.getElem_cons_succ, List.setIfInBounds_toArray, List.set_cons_zero, List.set_cons_succ]
              have yn : wc.drew.cell? ⟨gn, i, none⟩ = some (.int .i64 oldn) := xn
              have gfn : wc.drew.frozen? ⟨gn, i, none⟩ = false := fn
              refine anyT_ready (rs := [12]) (by kernel_rfl) (by simp) ?_
              refine AllT.cons rfl (fun K1 hK1 => ?_) AllT.nil
              try simp only [Array.getInternal_eq_getElem, List.getElem_toArray, List.getElem_cons_zero, List.getElem_cons_succ]
              go_simp
              first | rw [hwd2.out] | rw [← hwd.out]
              refine hK1.out _ _ ⟨fun h => absurd h (by simp), trivial⟩ (fun hT => ?_)
              clear hK1 K1
              try simp only [Act.put, Array.getInternal_eq_getElem, List.getElem_toArray, List.getElem_cons_zero, List.getElem_cons_succ, List.setIfInBounds_toArray, List.set_cons_zero, List.set_cons_succ]
              refine anyT_done (by kernel_rfl) ?_ _
              clear yn gfn xn fn x4 xs
              go_wp2_with fail
              rw [← hwe.out]
              go_roundw
              case rel => exact ⟨i + 1, _, c5, by omega, by rw [hlen2.out]; go_num, by go_num, HSe, HBe, be, re, hoe, pe⟩
              case measure => first | (simp [intOf]; done) | (simp [intOf]; omega)
        · obtain rfl : i = p.next.length := by omega
          go_wp2_with fail
          go_roundw
          case rel => exact ⟨k + 1, Ap, cp, by omega, by rw [HKs.out], by go_num, by rw [HKs.out]; exact ⟨HS.hb, HS.ow.mono (fun q hq => ((HFO2.out q).1 hq).1)⟩, HB, hb, hr, hoz⟩
          case measure => first | (simp [intOf]; done) | (simp [intOf]; omega)
    · obtain rfl : k = ps.length := by omega
      obtain ⟨y1, _⟩ := cell_of_block HS.hb
      have y10 : wo.cell? ⟨ob, 0, none⟩ = some (.slice Ap ((splitK ps ps.length).1 ++ (splitK ps ps.length).2).length cp) := (y1 0).trans rfl
      have y11 : wo.cell? ⟨ob, 1, none⟩ = some (.int .i64 V) := (y1 1).trans rfl
      clear y1
      obtain ⟨fin, hfin⟩ : ∃ fin, fin = (splitK ps ps.length).1 ++ (splitK ps ps.length).2 := ⟨_, rfl⟩
      rw [← hfin] at y10 HS
      rw [← hfin] at HSS
      obtain ⟨fn, hfn⟩ : ∃ fn, fn = (splitK ps ps.length).2.length := ⟨_, rfl⟩
      rw [← hfn] at HSS ⊢
      clear hfin hfn
      obtain ⟨y1, y2⟩ := cell_of_block hr
      have z10 : wo.cell? ⟨w.heap.size + 1, 0, none⟩ = some (.slice none 0 0) := (y1 0).trans rfl
      have z11 : wo.cell? ⟨w.heap.size + 1, 1, none⟩ = some (.int .i64 0) := (y1 1).trans rfl
      have z20 := y2 0
      have z21 := y2 1
      clear y1 y2
      have hBf := putRow_below (g := w.heap.size + 1) HB (by omega) [.slice Ap fin.length cp, .int .i64 V] 0
      have hpr := putRow_same [.slice Ap fin.length cp, .int .i64 V] (w.heap.size + 1) wo 0
      have HOf := (HS.ow.move (w' := putRow wo (w.heap.size + 1) 0 [.slice Ap fin.length cp, .int .i64 V]) (fun q hq _ => hpr.2 q (by have := (HFO.out q).1 hq; omega))).mono (G := fun q => w.heap.size ≤ q) (fun q hq => by have := (HFO.out q).1 hq; omega)
      have cF := (cell_of_block (blk_put (blk_put hr 0 (.slice Ap fin.length cp)) 1 (.int .i64 V))).1
      replace cF := Lib.hid cF
      clear hpr HB hr HS
      go_wp2_with fail
      have cF := cF.out
      refine bodyPost_ret (v := .tuple #[.agg #[.slice Ap fin.length cp, .int .i64 V], .int .i64 fn]) (by simp [results, Try.results64, go_sem, cF]) rfl ?_
      exact ⟨.slice Ap fin.length cp, by rw [HSS.out.2.1, HSS.out.2.2], by rw [HSS.out.1]; exact HOf, hBf⟩
end Go.Proofs.Ytmcnoeinjocimaa.L
