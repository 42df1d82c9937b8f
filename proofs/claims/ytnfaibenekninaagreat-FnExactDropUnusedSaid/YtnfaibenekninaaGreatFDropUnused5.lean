/- Joined texts, each of which was built by itself: Du2 Du4 Du1b Ap2 Cu1. -/
import Derived.Test.YtnfaibenekninaaGreatFDropUnused4
import Derived.Test.YtnfaibenekninaaGreatB3
set_option linter.unusedVariables false
set_option linter.unusedSimpArgs false
namespace Go.Proofs.YtnfaibenekninaaGreat.L
open Go.RowKit
theorem l12Pure_calls (x : Fl) (w : World) : Calls Tryz.prog 120 #[flV x] w fun e w' => e = .returned (.bool (pureB x)) ∧ Below w.heap.size w w' := by
  unfold flV
  go_enter Tryz.func120, Tryz.ntmps120
  go_wp2
  all_goals
    go_ret
    refine ⟨ret_bool ?_, (Below.refl _ _).alloc (Nat.le_refl _) _⟩
    simp_all [pureB]
theorem pure_calls (x : Fl) (w : World) : Calls Tryz.prog 126 #[flV x] w fun e w' => e = .returned (.bool (pureB x)) ∧ Below w.heap.size w w' := by
  unfold flV
  go_enter Tryz.func126, Tryz.ntmps126
  go_wp2
  all_goals
    go_ret
    refine ⟨ret_bool ?_, (Below.refl _ _).alloc (Nat.le_refl _) _⟩
    simp_all [pureB]
theorem entersIdle1 : Enters Tryz.prog 125 := enters Tryz.func125 (by kernel_rfl) (by kernel_rfl)
set_option maxRecDepth 100000 in
set_option maxHeartbeats 2000000 in
theorem idle1_calls (x : Fl) (U : List Int) (gb : Nat) (v : Value) (F : Nat → Prop) (w : World) (hc : w.cell? ⟨gb, 0, none⟩ = some v) (hU : Rp.Rd Rp.int w F v U) (hx : pureB x = true → 0 ≤ x.dst ∧ x.dst < (U.length : Int)) :
    Calls Tryz.prog 125 #[flV x, .pointer (some ⟨gb, 0, none⟩)] w fun e w' => e = .returned (.bool (idleP U x)) ∧ Below w.heap.size w w' := by
  obtain ⟨A, c, rfl, hlc, hcm, hrow⟩ := rd_int hU
  have HP := Lib.hid (fun W => pure_calls x W)
  have HI : Hid (idleP U x = (pureB x && U.getD x.dst.toNat 0 == 0)) := Lib.hid rfl
  obtain ⟨r, hr⟩ : ∃ r, r = pureB x := ⟨_, rfl⟩
  rw [← hr] at HP HI hx
  clear hr
  have hB0 : Below w.heap.size w (w.alloc (.cells #[.int .i64 x.op, .int .i64 x.dO, .int .i64 x.dst, .int .i64 x.a, .int .i64 x.b, .int .i64 x.n] 71)) := below_new _
  have b0 := heap_alloc_new w (.cells #[.int .i64 x.op, .int .i64 x.dO, .int .i64 x.dst, .int .i64 x.a, .int .i64 x.b, .int .i64 x.n] 71)
  have hcc := cell_below hB0 hc
  obtain ⟨y1, _⟩ := cell_of_block b0
  have x0 := (y1 0).trans (show (#[Value.int .i64 x.op, .int .i64 x.dO, .int .i64 x.dst, .int .i64 x.a, .int .i64 x.b, .int .i64 x.n] : Array Value)[0]? = some (.int .i64 x.op) from rfl)
  have x1 := (y1 1).trans (show (#[Value.int .i64 x.op, .int .i64 x.dO, .int .i64 x.dst, .int .i64 x.a, .int .i64 x.b, .int .i64 x.n] : Array Value)[1]? = some (.int .i64 x.dO) from rfl)
  have x2 := (y1 2).trans (show (#[Value.int .i64 x.op, .int .i64 x.dO, .int .i64 x.dst, .int .i64 x.a, .int .i64 x.b, .int .i64 x.n] : Array Value)[2]? = some (.int .i64 x.dst) from rfl)
  have x3 := (y1 3).trans (show (#[Value.int .i64 x.op, .int .i64 x.dO, .int .i64 x.dst, .int .i64 x.a, .int .i64 x.b, .int .i64 x.n] : Array Value)[3]? = some (.int .i64 x.a) from rfl)
  have x4 := (y1 4).trans (show (#[Value.int .i64 x.op, .int .i64 x.dO, .int .i64 x.dst, .int .i64 x.a, .int .i64 x.b, .int .i64 x.n] : Array Value)[4]? = some (.int .i64 x.b) from rfl)
  have x5 := (y1 5).trans (show (#[Value.int .i64 x.op, .int .i64 x.dO, .int .i64 x.dst, .int .i64 x.a, .int .i64 x.b, .int .i64 x.n] : Array Value)[5]? = some (.int .i64 x.n) from rfl)
  clear y1
  unfold flV at HP ⊢
  go_enter Tryz.func125, Tryz.ntmps125
  go_wp2_with fail
  refine (HP.out _).mono ?_
  rintro e w1 ⟨rfl, hb1⟩
  have hB1 := below_then hB0 hb1
  clear HP
  cases r
  · have hn : Hid (idleP U x = false) := Lib.hid (by rw [HI.out]; rfl)
    clear HI
    go_wp2
    go_ret
    exact ⟨ret_bool hn.out.symm, hB1⟩
  · obtain ⟨d0, d1⟩ := hx rfl
    obtain ⟨d, hd⟩ := Int.eq_ofNat_of_zero_le d0
    have hdl : d < U.length := by omega
    rcases hrow with hnil | ⟨b, o, rfl, hb, hcell⟩
    · rw [hnil] at hdl; simp at hdl
    have cu := cell_below hB1 (hcell d hdl)
    have cc := cell_below hB1 hc
    have z2 := cell_below hb1 x2
    rw [hd] at z2
    have hn : Hid (idleP U x = (U[d] == 0)) := Lib.hid (by rw [HI.out, hd, Int.toNat_natCast, List.getD_eq_getElem?_getD, List.getElem?_eq_getElem hdl]; simp)
    obtain ⟨u, hu⟩ : ∃ u, u = U[d] := ⟨_, rfl⟩
    rw [← hu] at cu hn
    have e0 : (0 : Int) ≤ (d : Int) := Int.natCast_nonneg _
    have e1 : (d : Int) < (U.length : Int) := by omega
    clear hu hcell x0 x1 x2 x3 x4 x5 hcc HI hx hc hd d0 d1
    go_wp2
    go_ret
    exact ⟨ret_bool hn.out.symm, hB1⟩
set_option maxRecDepth 100000 in
set_option maxHeartbeats 8000000 in
theorem idleStep_calls {F : Nat → Prop} (s : Sa) (sb : Nat) (vp : Value) (w : World) (hb0 : w.heap[sb]? = some (.cells #[vp, .int .i64 s.values] 28 (0, 0))) (hO0 : Ow true 67 partA w F vp s.parts) (hF : ¬ F sb) (hg : DOk s) :
    Calls Tryz.prog 79 #[.pointer (some ⟨sb, 0, none⟩)] w fun e w' => e = .returned (.bool (stepD (usesN s) s.parts).isSome) ∧ Ow true 67 partA w' F vp ((stepD (usesN s) s.parts).getD s.parts) ∧ Chg F w w' := by
  obtain ⟨A0, c0, rfl, _, _⟩ := hO0.form
  have hsb := blk_lt hb0
  have hn2 := hg.n
  have HU := Lib.hid (used_calls hg.uok sb _ w hb0 (partA_le.rd hO0.rd) hg.lim.1 hg.lim.2)
  have HL := Lib.hid hg.lim.2
  have HD := Lib.hid hg.dst
  obtain ⟨U, hU⟩ : ∃ U, U = cntL s.values.toNat (usesAll s) := ⟨_, rfl⟩
  have hUl : Hid (U.length = s.values.toNat) := Lib.hid (by rw [hU]; exact cntL_len _ _)
  have hUs : usesN s = U := hU.symm
  rw [← hU] at HU
  rw [hUs]
  clear hU hUs
  have hv1 := hg.v1
  obtain ⟨x1, _⟩ := cell_of_block hb0
  have x10 : w.cell? ⟨sb, 0, none⟩ = some (.slice A0 s.parts.length c0) := (x1 0).trans rfl
  clear x1 hg
  go_enter Tryz.func79, Tryz.ntmps79
  go_wp2_with fail
  refine HU.out.mono ?_
  rintro e w1 ⟨v', rfl, hOu, hb1⟩
  clear HU
  obtain ⟨Au, cu, rfl, _, _⟩ := hOu.form
  obtain ⟨v', hvv⟩ : ∃ v', v' = Value.slice Au U.length cu := ⟨_, rfl⟩
  rw [← hvv] at hOu
  have x11 := cell_below hb1 x10
  have hB2 := below_then hb1 (below_new (w := w1) (.cells #[v'] 59))
  have b2 := heap_alloc_new w1 (.cells #[v'] 59)
  have hOu2 := hOu.below (below_new (w := w1) (.cells #[v'] 59))
  have x12 := cell_below (below_new (w := w1) (.cells #[v'] 59)) x11
  have hs1 := hb1.size
  have hO2 := hO0.below hB2
  have hb2 := blk_below hb0 hB2
  clear hOu
  subst hvv
  go_wp2_with fail
  generalize w1.alloc (.cells #[.slice Au U.length cu] 59) = W2 at *
  clear x10 x11 x12
  obtain ⟨v', hvv⟩ : ∃ v', v' = Value.slice Au U.length cu := ⟨_, rfl⟩
  rw [← hvv] at hOu2 b2
  clear hvv
  go_loopw [14] (fun x wr => ∃ m : Nat, m ≤ s.parts.length ∧ x = .int .i64 m ∧ Hid (∀ (j : Nat) (hj : j < s.parts.length), j < m → ixOf (idleP U) s.parts[j].code < 0) ∧ Below W2.heap.size W2 wr) (fun x _ => s.parts.length - (intOf x).toNat)
  case atStart => exact ⟨0, Nat.zero_le _, rfl, Lib.hid (fun j _ h => by omega), Below.refl _ _⟩
  case round =>
    obtain ⟨m, hm, rfl, HN, HB⟩ := hrel
    rename World => wo
    by_cases hlt : m < s.parts.length
    · obtain ⟨g, c', he, _, _⟩ := Ow.some_form hO2 (by omega)
      injection he with he1 _ he3
      subst he1
      subst he3
      have hOo := hO2.below HB
      obtain ⟨_, _, _, _, hpt, _, h2, _, _⟩ := ow_read hOo hlt
      obtain ⟨A2, c2, rfl, _⟩ := id h2
      have x1 := hpt.2.1
      obtain ⟨y1, _⟩ := cell_of_block (blk_below hb2 HB)
      have xs : wo.cell? ⟨sb, 0, none⟩ = some (.slice (some ⟨g, 0, none⟩) s.parts.length c0) := (y1 0).trans rfl
      obtain ⟨y1, _⟩ := cell_of_block (blk_below b2 HB)
      have xv : wo.cell? ⟨w1.heap.size, 0, none⟩ = some v' := (y1 0).trans rfl
      have HX := Lib.hid (fun W (hW : Below wo.heap.size wo W) => ixFlat_calls (F := F) _ s.parts[m].code 125 #[.pointer (some ⟨w1.heap.size, 0, none⟩)] (idleP U) W (h2.below hW) entersIdle1 (fun x hx W' hW' => by
        have := idle1_calls x U w1.heap.size v' _ W' (cell_below hW' (cell_below hW xv)) (((hOu2.below HB).below (below_then hW hW')).rd) (fun hp => by
          have := (HD.out _ (List.getElem_mem hlt) x hx).2 hp
          rw [hUl.out]; omega)
        exact this))
      have HXn : Hid (ixOf (idleP U) s.parts[m].code < 0 → ∀ (j : Nat) (hj : j < s.parts.length), j < m + 1 → ixOf (idleP U) s.parts[j].code < 0) := Lib.hid (fun h j hj hjm => by
        by_cases he : j = m
        · subst he; exact h
        · exact HN.out j hj (by omega))
      have HXh : Hid (∀ i : Nat, ixOf (idleP U) s.parts[m].code = i → stepD U s.parts = some (s.parts.set m { s.parts[m] with code := s.parts[m].code.eraseIdx i })) := Lib.hid (fun i hi => stepD_hit hlt HN.out i hi)
      have HXi : Hid (∀ i : Nat, ixOf (idleP U) s.parts[m].code = i → i < s.parts[m].code.length) := Lib.hid (fun i hi => ixOf_lt hi)
      have hcl := (HL.out _ (List.getElem_mem hlt)).2.1
      obtain ⟨r, hr⟩ : ∃ r, r = ixOf (idleP U) s.parts[m].code := ⟨_, rfl⟩
      rw [← hr] at HX HXn HXh HXi
      have hrm : Hid (-1 ≤ r) := Lib.hid (by rw [hr]; unfold ixOf; split <;> omega)
      obtain ⟨L, hL⟩ : ∃ L, L = s.parts[m].code := ⟨_, rfl⟩
      simp only [← hL] at HX HXh HXi x1 hcl
      clear hr hpt h2 y1 HN
      have HL1 := Lib.hid hL
      clear hL
      have m0 : (0 : Int) ≤ (m : Int) := Int.natCast_nonneg _
      have m1 : (m : Int) < (s.parts.length : Int) := by omega
      go_wp2_with fail
      refine (HX.out _ (Below.refl _ _)).mono ?_
      rintro e w2 ⟨rfl, hb3⟩
      clear HX
      have hOo2 := Lib.hid (hOo.below hb3)
      have xs2 := cell_below hb3 xs
      have x12 := cell_below hb3 x1
      have HB3 := below_then HB hb3
      clear xs x1 xv hOo
      by_cases hr0 : 0 ≤ r
      · obtain ⟨i, rfl⟩ := Int.eq_ofNat_of_zero_le hr0
        have hi := HXi.out i rfl
        have hst := HXh.out i rfl
        obtain ⟨vc, G, xc, fc, hOc, hG, hgF, hCl⟩ := ow_code hOo2.out hlt
        rw [← HL1.out] at hOc
        have hvc := Option.some.inj (x12.symm.trans xc)
        subst hvc
        obtain ⟨gc, cc, he, _, _⟩ := Ow.some_form hOc (by omega)
        injection he with he1 _ he3
        subst he1
        subst he3
        have hgc := own_in hOc (k := gc) (.inl rfl)
        have hgcF := hG gc hgc
        have HDl := Lib.hid (delFl_calls (F := G) gc c2 i L w2 hOc hi (by omega))
        have HBf : Hid (∀ w3 : World, Chg (fun q => q = gc) w2 w3 → Ow true 71 flat w3 G (.slice (some ⟨gc, 0, none⟩) (L.length - 1) c2) (L.eraseIdx i) → Ow true 67 partA (w3.setCell ⟨g, m * 6 + 1, none⟩ (.slice (some ⟨gc, 0, none⟩) (L.length - 1) c2)) F (.slice (some ⟨g, 0, none⟩) s.parts.length c0) ((stepD U s.parts).getD s.parts) ∧ Chg F w (w3.setCell ⟨g, m * 6 + 1, none⟩ (.slice (some ⟨gc, 0, none⟩) (L.length - 1) c2))) := Lib.hid (fun w3 hC hO => by
          have h := hCl w3 G _ _ (hC.mono (fun q hq => by have hq : q = gc := hq; rw [hq]; exact hgc)) hO (fun q hq => .inl hq)
          rw [hst, Option.getD_some]
          refine ⟨h.mono (fun q hq => hq.elim id (fun h => (hG q h).1)), ((Chg.of_below (below_then hB2 HB3)).trans (hC.mono (fun q hq => ?_))).trans (Chg.set hgF.1)⟩
          have hq : q = gc := hq
          rw [hq]; exact hgcF.1)
        have hstH : Hid ((stepD U s.parts).isSome = true) := Lib.hid (by rw [hst]; rfl)
        have hn4 : ¬ g = gc := fun h => hgcF.2.1 h.symm
        have fk := fc (m * 6 + 1)
        have hgl := hgF.2
        have i0 : (0 : Int) ≤ (i : Int) := Int.natCast_nonneg _
        have iw : IntKind.i64.wrap ((i : Int) + 1) = (i : Int) + 1 := IntWalk.i64_in _ (by omega)
        clear hst hCl fc hOc xc HXn HXh HXi hrm hr0
        go_wp2_with fail
        refine HDl.out.mono ?_
        rintro e w3 ⟨rfl, hO3, hC3⟩
        obtain ⟨R1, R2⟩ := HBf.out w3 hC3 hO3
        have f1 : w3.frozen? ⟨g, m * 6 + 1, none⟩ = false := by rw [hC3.froz hgl hn4]; exact fk
        have z1 := hC3.cell x12 hn4
        clear HDl HBf
        go_wp2_with fail
        go_ret
        exact ⟨ret_bool hstH.out.symm, R1, R2⟩
      · have hr1 : r < 0 := by omega
        have hN2 := Lib.hid (HXn.out hr1)
        clear HXn HXh HXi hrm
        go_wp2_with fail
        go_roundw
        case rel => exact ⟨m + 1, by omega, by go_num, hN2, HB3⟩
        case measure => simp [intOf]; omega
    · obtain rfl : m = s.parts.length := by omega
      have hst : Hid (stepD U s.parts = none) := Lib.hid (stepD_none (fun j hj => HN.out j hj hj))
      have hCe : Chg F w wo := Chg.of_below (below_then hB2 HB)
      have hOe := hO2.below HB
      go_wp2_with fail
      go_ret
      exact ⟨by rw [hst.out]; rfl, by rw [hst.out]; exact hOe, hCe⟩
end Go.Proofs.YtnfaibenekninaaGreat.L

set_option linter.unusedVariables false
set_option linter.unusedSimpArgs false
namespace Go.Proofs.YtnfaibenekninaaGreat.L
open Go.RowKit
set_option maxRecDepth 100000 in
set_option maxHeartbeats 8000000 in
theorem l12Own_calls {F : Nat → Prop} (s : Sa) (vparts : Value) (k i : Nat) (w : World) (hs : Rp.Rd part w F vparts s.parts) (hg : DOk s) (hk : k < s.parts.length) (hi : i < s.parts[k].params.length) :
    Calls Tryz.prog 121 #[saV s vparts, .int .i64 k, .int .i64 i] w fun e w' => e = .returned (.int .i64 ((handS s.parts k i).count (s.parts[k].params.getD i 0) : Nat)) ∧ Below w.heap.size w w' := by
  obtain ⟨A, c, rfl, hlc, hcm, hrow⟩ := rd_part hs
  rcases hrow with hnil | ⟨b, o, rfl, hbl, hcell⟩
  · rw [hnil] at hk; simp at hk
  have hn2 := hg.n
  have HED := Lib.hid hg.ed
  have HOK := Lib.hid hg.ok
  obtain ⟨vq, _, _, _, hpk, hqr, _⟩ := hcell k hk
  obtain ⟨Aq, cq, rfl, _, _, hrq⟩ := rd_int hqr
  rcases hrq with hnil | ⟨bq, oq, rfl, hbq, hcq⟩
  · rw [hnil] at hi; simp at hi
  have cqi := hcq i hi
  have eqi : s.parts[k].params.getD i 0 = s.parts[k].params[i] := by rw [List.getD_eq_getElem?_getD, List.getElem?_eq_getElem hi]; rfl
  have HPK := Lib.hid hpk
  obtain ⟨v, hv⟩ : ∃ v, v = s.parts[k].params[i] := ⟨_, rfl⟩
  rw [eqi]
  rw [← hv] at cqi ⊢
  obtain ⟨Lq, hLq⟩ : ∃ Lq, Lq = s.parts[k].params.length := ⟨_, rfl⟩
  have HLq := Lib.hid hLq
  have HED2 : Hid (∀ (m : Nat) (hm : m < s.parts.length) (n : Nat), n < s.parts[m].next.length → n < s.parts[m].args.length ∧ (s.parts[m].next.getD n 0 = (k : Int) → (s.parts[m].args.getD n []).length = Lq)) := Lib.hid (fun m hm n hn => by
    obtain ⟨h1, h2⟩ := HED.out _ (List.getElem_mem hm) n hn
    exact ⟨h1, fun he => by rw [h2 k _ (List.getElem?_eq_getElem hk) he, hLq]⟩)
  obtain ⟨q0, _⟩ := hpk
  have q0 : w.cell? ⟨b, o + k * 6, none⟩ = some (.slice (some ⟨bq, oq, none⟩) Lq cq) := by rw [hLq]; exact q0
  rw [← hLq] at hi
  clear hqr hcq hv eqi hLq HED hg hs
  have hB0 : Below w.heap.size w (w.alloc (.cells #[.slice (some ⟨b, o, none⟩) s.parts.length c, .int .i64 s.values] 28)) := below_new _
  have b0 := heap_alloc_new w (.cells #[.slice (some ⟨b, o, none⟩) s.parts.length c, .int .i64 s.values] 28)
  have hW0 : (w.alloc (.cells #[.slice (some ⟨b, o, none⟩) s.parts.length c, .int .i64 s.values] 28)).heap.size = w.heap.size + 1 := by simp
  obtain ⟨y1, _⟩ := cell_of_block b0
  have x10 := (y1 0).trans (show (#[Value.slice (some ⟨b, o, none⟩) s.parts.length c, Value.int .i64 s.values] : Array Value)[0]? = some (Value.slice (some ⟨b, o, none⟩) s.parts.length c) from rfl)
  clear y1
  unfold saV
  go_enter Tryz.func121, Tryz.ntmps121
  go_wp2_with fail
  generalize w.alloc (.cells #[.slice (some ⟨b, o, none⟩) s.parts.length c, .int .i64 s.values] 28) = W0 at *
  clear x10
  have hk0 : (0 : Int) ≤ (k : Int) := Int.natCast_nonneg _
  have hk1 : (k : Int) < (s.parts.length : Int) := by omega
  have hi0 : (0 : Int) ≤ (i : Int) := Int.natCast_nonneg _
  have hi1 : (i : Int) < (Lq : Int) := by omega
  go_loopw [7, 15] (fun nv x wr => ∃ (m : Nat), m ≤ s.parts.length ∧ nv = .int .i64 ((handS (s.parts.take m) k i).count v : Nat) ∧ x = .int .i64 m ∧ Below w.heap.size w wr ∧ wr.heap[w.heap.size]? = some (.cells #[.slice (some ⟨b, o, none⟩) s.parts.length c, .int .i64 s.values] 28 (0, 0))) (fun _ x _ => s.parts.length - (intOf x).toNat)
  case atStart => exact ⟨0, Nat.zero_le _, by simp [handS], rfl, hB0, b0⟩
  case round =>
    clear hB0 b0
    obtain ⟨m, hm, rfl, rfl, HB, b0⟩ := hrel
    rename World => wo
    by_cases hlt : m < s.parts.length
    · obtain ⟨_, _, _, _, hp, ⟨A1, c1, rfl, _⟩, ⟨A2, c2, rfl, _⟩, h3, h4⟩ := hcell m hlt
      obtain ⟨A3, c3, rfl, _, _, hr3⟩ := rd_int h3
      obtain ⟨A4, c4, rfl, _, _, hr4⟩ := rd_ints h4
      have hed := Lib.hid (HED2.out m hlt)
      have hnl := (HOK.out _ (List.getElem_mem hlt)).2
      have hTk := Lib.hid (handS_take hlt (k : Int) (i : Int))
      have hsl : (handS (s.parts.take m) k i).length ≤ 66 := Nat.le_trans (handS_len (B := 6) (fun p hp => (HOK.out p (List.mem_of_mem_take hp)).2)) (by rw [List.length_take]; omega)
      obtain ⟨p0, p1, p2, p3, p4, p5⟩ := partAt_below hp HB
      have HP := Lib.hid hp
      clear hp
      obtain ⟨p, hpe⟩ : ∃ p, p = s.parts[m] := ⟨_, rfl⟩
      rw [← hpe] at h3 h4 hr3 hr4 hed hnl hTk p0 p1 p2 p3 p4 p5 HP
      clear hpe
      obtain ⟨H0, hH0⟩ : ∃ H0, H0 = handS (s.parts.take m) k i := ⟨_, rfl⟩
      rw [← hH0] at hsl hTk ⊢
      clear hH0
      have i0 : (0 : Int) ≤ (m : Int) := Int.natCast_nonneg _
      have i1 : (m : Int) < (s.parts.length : Int) := by omega
      have hbw := below_new (w := wo) (.cells #[.slice A1 p.params.length c1, .slice A2 p.code.length c2, .int .i64 p.go, .int .i64 p.test, .slice A3 p.next.length c3, .slice A4 p.args.length c4] 67)
      have b1 := heap_alloc_new wo (.cells #[.slice A1 p.params.length c1, .slice A2 p.code.length c2, .int .i64 p.go, .int .i64 p.test, .slice A3 p.next.length c3, .slice A4 p.args.length c4] 67)
      obtain ⟨y1, _⟩ := cell_of_block b0
      have x10 : wo.cell? ⟨w.heap.size, 0, none⟩ = some (.slice (some ⟨b, o, none⟩) s.parts.length c) := (y1 0).trans rfl
      obtain ⟨y1, _⟩ := cell_of_block b1
      have y4 := (y1 4).trans (show (#[Value.slice A1 p.params.length c1, .slice A2 p.code.length c2, .int .i64 p.go, .int .i64 p.test, .slice A3 p.next.length c3, .slice A4 p.args.length c4] : Array Value)[4]? = some (.slice A3 p.next.length c3) from rfl)
      clear y1
      have b0 := blk_below b0 hbw
      have HB1 := below_then HB hbw
      have hHc := List.count_le_length (a := v) (l := H0)
      have HB1' := Lib.hid HB1
      go_wp2_with fail
      clear p0 p1 p2 p3 p4 p5 x10 y4
      generalize wo.alloc (.cells #[.slice A1 p.params.length c1, .slice A2 p.code.length c2, .int .i64 p.go, .int .i64 p.test, .slice A3 p.next.length c3, .slice A4 p.args.length c4] 67) = W1 at *
      go_loopw [7, 22] (fun nv x wr => ∃ (n : Nat), n ≤ p.next.length ∧ nv = .int .i64 ((H0 ++ handP p k i n).count v : Nat) ∧ x = .int .i64 n ∧ Below w.heap.size w wr ∧ wr.heap[w.heap.size]? = some (.cells #[.slice (some ⟨b, o, none⟩) s.parts.length c, .int .i64 s.values] 28 (0, 0)) ∧ wr.heap[wo.heap.size]? = some (.cells #[.slice A1 p.params.length c1, .slice A2 p.code.length c2, .int .i64 p.go, .int .i64 p.test, .slice A3 p.next.length c3, .slice A4 p.args.length c4] 67 (0, 0))) (fun _ x _ => p.next.length - (intOf x).toNat)
      case atStart => exact ⟨0, Nat.zero_le _, by simp [handP], rfl, HB1, b0, b1⟩
      case round =>
        clear HB1 b0 b1 HB
        obtain ⟨n, hn, rfl, rfl, HB, b0, b1⟩ := hrel
        rename World => wx
        by_cases hnt : n < p.next.length
        · rcases hr3 with hn0 | ⟨b3, o3, rfl, hb3, hc3⟩
          · rw [hn0] at hnt; simp at hnt
          have cv := cell_below HB (hc3 n hnt)
          have hed1 := Lib.hid (hed.out n hnt)
          have e : p.next.getD n 0 = p.next[n] := by rw [List.getD_eq_getElem?_getD, List.getElem?_eq_getElem hnt]; rfl
          have hSt := Lib.hid (handP_succ p (k : Int) (i : Int) n)
          rw [e] at hSt hed1
          have hLn := handP_len p (k : Int) (i : Int) n
          clear hc3 e
          obtain ⟨y, hy⟩ : ∃ y, y = p.next[n] := ⟨_, rfl⟩
          rw [← hy] at cv hSt hed1
          clear hy
          have n0 : (0 : Int) ≤ (n : Int) := Int.natCast_nonneg _
          have n1 : (n : Int) < (p.next.length : Int) := by omega
          obtain ⟨y1, _⟩ := cell_of_block b1
          have y5 : wx.cell? ⟨wo.heap.size, 5, none⟩ = some (.slice A4 p.args.length c4) := (y1 5).trans rfl
          obtain ⟨y1, _⟩ := cell_of_block b0
          have x10 : wx.cell? ⟨w.heap.size, 0, none⟩ = some (.slice (some ⟨b, o, none⟩) s.parts.length c) := (y1 0).trans rfl
          clear y1
          have hcl : (H0 ++ handP p k i n).length ≤ 200 := by rw [List.length_append]; omega
          obtain ⟨H1, hH1⟩ : ∃ H1, H1 = H0 ++ handP p k i n := ⟨_, rfl⟩
          have hSt1 : Hid (H0 ++ handP p k i (n + 1) = H1 ++ (if y = (k : Int) then [(p.args.getD n []).getD i 0] else [])) := Lib.hid (by rw [hSt.out, hH1, List.append_assoc]; rfl)
          rw [← hH1] at hcl ⊢
          clear hH1 hSt
          have hcc := List.count_le_length (a := v) (l := H1)
          by_cases hyk : y = (k : Int)
          · have hal := (hed1.out).1
            have hai := (hed1.out).2 hyk
            have hSt2 : Hid (H0 ++ handP p k i (n + 1) = H1 ++ [(p.args.getD n []).getD i 0]) := Lib.hid (by rw [hSt1.out, if_pos hyk])
            rcases hr4 with hn0 | ⟨b4, o4, rfl, hb4, hc4⟩
            · rw [hn0] at hal; simp at hal
            obtain ⟨u4, cu4, hu4⟩ := hc4 n hal
            have e4 : p.args.getD n [] = p.args[n] := by rw [List.getD_eq_getElem?_getD, List.getElem?_eq_getElem hal]; rfl
            rw [e4] at hai hSt2
            obtain ⟨A5, c5, rfl, _, _, hr5⟩ := rd_int hu4
            have hai' : i < p.args[n].length := by omega
            rcases hr5 with hn0 | ⟨b5, o5, rfl, hb5, hc5⟩
            · rw [hn0] at hai'; simp at hai'
            have cu5 := cell_below HB (hc5 i hai')
            have cu4 := cell_below HB cu4
            have e5 : p.args[n].getD i 0 = p.args[n][i] := by rw [List.getD_eq_getElem?_getD, List.getElem?_eq_getElem hai']; rfl
            rw [e5] at hSt2
            obtain ⟨z, hz⟩ : ∃ z, z = p.args[n][i] := ⟨_, rfl⟩
            rw [← hz] at hSt2 cu5
            clear hz e4 e5 hc5 hc4
            rw [hai] at cu4
            clear hu4 hai'
            replace hai := Lib.hid hai
            have cp := cell_below HB q0
            have cq1 := cell_below HB cqi
            have a2 : (n : Int) < (p.args.length : Int) := by omega
            clear hSt1 hed1
            subst hyk
            by_cases hzv : z = v
            · have hSt3 : Hid ((H0 ++ handP p k i (n + 1)).count v = H1.count v + 1) := Lib.hid (by rw [hSt2.out, hzv, List.count_append]; simp)
              have hz2 : (z == v) = true := by simpa using hzv
              clear hSt2
              obtain ⟨N1, hN1⟩ : ∃ N1, N1 = H1.count v := ⟨_, rfl⟩
              rw [← hN1] at hSt3 hcc ⊢
              clear hN1
              subst hzv
              go_wp2_with fail
              go_quiet (fail)
              go_wp2_with fail
              go_roundw
              case rel => exact ⟨n + 1, by omega, by rw [hSt3.out]; go_num, by go_num, by first | exact HB | exact below_drew HB | exact below_drewN HB _, by first | exact b0 | exact b0, b1⟩
              case measure => simp [intOf]; omega
            · have hSt3 : Hid ((H0 ++ handP p k i (n + 1)).count v = H1.count v) := Lib.hid (by rw [hSt2.out, List.count_append, List.count_singleton, if_neg (by simpa using hzv)]; rfl)
              have hz2 : (z == v) = false := by simpa using hzv
              clear hSt2
              obtain ⟨N1, hN1⟩ : ∃ N1, N1 = H1.count v := ⟨_, rfl⟩
              rw [← hN1] at hSt3 hcc ⊢
              clear hN1
              go_wp2_with fail
              go_quiet (fail)
              go_wp2_with fail
              go_roundw
              case rel => exact ⟨n + 1, by omega, by rw [hSt3.out], by go_num, by first | exact HB | exact below_drew HB | exact below_drewN HB _, b0, b1⟩
              case measure => simp [intOf]; omega
          · have hSt3 : Hid ((H0 ++ handP p k i (n + 1)).count v = H1.count v) := Lib.hid (by rw [hSt1.out, if_neg hyk, List.append_nil])
            have hy2 : (y == (k : Int)) = false := by simpa using hyk
            clear hSt1 hed1
            obtain ⟨N1, hN1⟩ : ∃ N1, N1 = H1.count v := ⟨_, rfl⟩
            rw [← hN1] at hSt3 hcc ⊢
            clear hN1
            go_wp2_with fail
            go_quiet (fail)
            go_wp2_with fail
            go_roundw
            case rel => exact ⟨n + 1, by omega, by rw [hSt3.out], by go_num, by first | exact HB | exact below_drew HB | exact below_drewN HB _, b0, b1⟩
            case measure => simp [intOf]; omega
        · obtain rfl : n = p.next.length := by omega
          rw [← hTk.out]
          go_wp2
          go_roundw
          case rel => exact ⟨m + 1, by omega, rfl, by go_num, HB, b0⟩
          case measure => simp [intOf]; omega
    · obtain rfl : m = s.parts.length := by omega
      rw [List.take_length]
      go_wp2
      go_ret
      exact ⟨rfl, HB⟩
end Go.Proofs.YtnfaibenekninaaGreat.L

set_option linter.unusedVariables false
set_option linter.unusedSimpArgs false
namespace Go.Proofs.YtnfaibenekninaaGreat.L
open Go.RowKit
/-- The Args of the first m parts are done. -/
def parX (B : List Pt) (k : Int) (i m : Nat) : List Pt := (B.take m).map (cutP k i) ++ B.drop m
/-- And n of part m. -/
def parQ (B : List Pt) (k : Int) (i m n : Nat) : Pt := { B.getD m zPt with args := cutA k i (B.getD m zPt).next (B.getD m zPt).args n }
def parY (B : List Pt) (k : Int) (i m n : Nat) : List Pt := (parX B k i m).set m (parQ B k i m n)
section
variable {B : List Pt} {k : Int} {i m n : Nat}
theorem parX_len (hm : m ≤ B.length) : (parX B k i m).length = B.length := by unfold parX; simp; omega
theorem parX_zero : parX B k i 0 = B := by simp [parX]
theorem parX_all : parX B k i B.length = B.map (cutP k i) := by simp [parX]
theorem parY_len (hm : m < B.length) : (parY B k i m n).length = B.length := by unfold parY; rw [List.length_set, parX_len (by omega)]
theorem getB (hm : m < B.length) : B.getD m zPt = B[m] := by rw [List.getD_eq_getElem?_getD, List.getElem?_eq_getElem hm]; rfl
theorem parX_get (hm : m < B.length) : (parX B k i m)[m]? = some B[m] := by
  unfold parX
  rw [List.getElem?_append_right (by simp; omega)]
  simp [show m - min m B.length = 0 by omega, List.getElem?_drop]
theorem parY_zero (hm : m < B.length) : parY B k i m 0 = parX B k i m := by
  have h : parQ B k i m 0 = B[m] := by unfold parQ; rw [getB hm]; rfl
  unfold parY
  rw [h]
  apply List.ext_getElem?
  intro j
  rw [List.getElem?_set]
  split
  · rename_i hj
    subst hj
    rw [if_pos (by rw [parX_len (by omega)]; exact hm), parX_get hm]
  · rfl
theorem parY_last (hm : m < B.length) : parY B k i m B[m].next.length = parX B k i (m + 1) := by
  have h : parQ B k i m B[m].next.length = cutP k i B[m] := by unfold parQ cutP; rw [getB hm]
  unfold parY
  rw [h]
  unfold parX
  have hl : ((B.take m).map (cutP k i)).length = m := by simp; omega
  rw [List.set_append_right _ _ (by omega), hl, Nat.sub_self, List.drop_eq_getElem_cons hm, List.set_cons_zero, List.take_succ_eq_append_getElem hm, List.map_append, List.append_assoc]
  rfl
theorem parY_get (hm : m < B.length) : (parY B k i m n)[m]? = some (parQ B k i m n) := by
  unfold parY
  rw [List.getElem?_set, if_pos rfl, if_pos (by rw [parX_len (by omega)]; exact hm)]
theorem parY_no (h : B[m]?.map (fun p => p.next.getD n 0) ≠ some k) (hm : m < B.length) : parY B k i m (n + 1) = parY B k i m n := by
  have hk : (B.getD m zPt).next.getD n 0 ≠ k := by
    rw [List.getElem?_eq_getElem hm] at h
    rw [getB hm]
    intro he; exact h (by rw [Option.map_some, he])
  have : parQ B k i m (n + 1) = parQ B k i m n := by unfold parQ; rw [cutA, if_neg hk]
  unfold parY; rw [this]
theorem parY_yes (h : B[m]?.map (fun p => p.next.getD n 0) = some k) (hm : m < B.length) : parY B k i m (n + 1) = (parY B k i m n).set m { parQ B k i m n with args := (parQ B k i m n).args.set n (((parQ B k i m n).args.getD n []).eraseIdx i) } := by
  have hk : (B.getD m zPt).next.getD n 0 = k := by
    rw [List.getElem?_eq_getElem hm] at h
    rw [getB hm]
    exact Option.some.inj h
  have : parQ B k i m (n + 1) = { parQ B k i m n with args := (parQ B k i m n).args.set n (((parQ B k i m n).args.getD n []).eraseIdx i) } := by
    unfold parQ
    rw [cutA, if_pos hk]
  unfold parY
  rw [this, List.set_set]
theorem parQ_args (hm : m < B.length) {j : Nat} (hj : n ≤ j) : (parQ B k i m n).args.getD j [] = B[m].args.getD j [] ∧ (parQ B k i m n).args.length = B[m].args.length ∧ (parQ B k i m n).next = B[m].next := by
  unfold parQ
  rw [getB hm]
  exact ⟨by show (cutA k i B[m].next B[m].args n).getD j [] = _; rw [cutA_get, if_neg (by omega)], cutA_len _ _ _ _ _, rfl⟩
end
theorem unparB_len (l : List Pt) (k i : Nat) : (unparB l k i).length = l.length := by unfold unparB; simp
theorem unparB_get {l : List Pt} {k i m : Nat} (hm : m < l.length) (hm2 : m < (unparB l k i).length) : (unparB l k i)[m].next = l[m].next ∧ (unparB l k i)[m].args = l[m].args := by
  have e : (unparB l k i)[m]? = if k = m then (if k < l.length then some (cutPar (l.getD k zPt) i) else none) else l[m]? := by unfold unparB; rw [List.getElem?_set]
  rw [List.getElem?_eq_getElem hm2] at e
  split at e
  · rename_i he
    subst he
    rw [if_pos hm] at e
    rw [Option.some.inj e, getB hm]
    exact ⟨rfl, rfl⟩
  · rw [List.getElem?_eq_getElem hm] at e
    rw [Option.some.inj e]
    exact ⟨rfl, rfl⟩
theorem unparB_set {l : List Pt} {k i : Nat} (hk : k < l.length) : unparB l k i = l.set k { l[k] with params := l[k].params.eraseIdx i } := by
  unfold unparB; rw [getB hk]; rfl
end Go.Proofs.YtnfaibenekninaaGreat.L

set_option linter.unusedVariables false
set_option linter.unusedSimpArgs false
namespace Go.Proofs.YtnfaibenekninaaGreat.L
open Go.RowKit
theorem run_apf {P : Program} {α : Type} {ap : Bool} {e : Nat} {r : Rp α} {W : World} {F G : Nat → Prop} (hr : r.Flat) (t ty : TypeId) (z : Value) (bytes : Nat) (ht : P.underlying t = some (.slice e)) (hinfo : (P.info? e).map (fun i => (i.zero, i.size, i.bytes)) = some (some z, r.sz, bytes)) (hz : z.cells.size = r.sz) (hsz : 0 < r.sz) (hb0 : 0 < bytes)
    (v vx : Value) (l ys : List α) (HO : Ow ap e r W F v l) (HX : Rp.Rd r W G vx ys) (hl : (l.length + ys.length) * bytes ≤ 140737488355328) :
    ∃ v' W', (Builtin.append_ #[t, t] ty #[v, vx]).run P W = .ok v' W' ∧ Ow ap e r W' (fun k => F k ∨ W.heap.size ≤ k) v' (l ++ ys) ∧ W.grownBy W' v.ownBlock := by
  obtain ⟨i0, hi, hzz⟩ := Option.map_eq_some_iff.1 hinfo
  simp only [Prod.mk.injEq] at hzz
  obtain ⟨hz0, hz1, hz2⟩ := hzz
  have hlen : l.length + ys.length ≤ 140737488355328 := Nat.le_trans (Nat.le_mul_of_pos_right _ hb0) hl
  obtain ⟨xs, hown⟩ := HO.owns
  obtain ⟨A, c, rfl, hlc, hcm, hrow⟩ := HX
  cases A with
  | none =>
    have hnil : ys = [] := by
      rcases hrow with h | ⟨b, o', hh, _⟩
      · exact h
      · cases hh
    subst hnil
    exact ⟨v, W, run_append_none P t ty e i0 r.sz ht hi v l.length c xs hown, by rw [List.append_nil]; exact HO.mono (fun k hk => .inl hk), World.grownBy.refl _ _⟩
  | some ad =>
    have hrow' : ∃ news : List Value, news.length = ys.length * r.sz ∧ (∀ j u, news[j]? = some u → W.cell? (ad.add j) = some u) ∧ (∀ i y, ys[i]? = some y → r.K W G y ((news.drop (i * r.sz)).take r.sz)) ∧ ∀ u ∈ news, u.oneCell' = true := by
      rcases hrow with rfl | ⟨b, o', hh, _, _, hr⟩
      · exact ⟨[], by simp, fun j u hu => by simp at hu, fun i y hy => by simp at hy, fun u hu => by simp at hu⟩
      · cases hh
        obtain ⟨news, h1, h2, h3, h4⟩ := row_news ys hr
        exact ⟨news, h1, fun j u hu => by rw [Addr.add_lit]; exact h2 j u hu, h3, h4⟩
    obtain ⟨news, n1, n2, n3, n4⟩ := hrow'
    obtain ⟨v1, w1, hrn, hown1, hg, _, hat⟩ := run_append_own_at (P := P) W 0 t ty e i0 z r.sz bytes ht hi hz0 hz1 hz2 hz hsz v l.length xs hown ad ys.length c news n1 n2 n4 (by simp only [maxLen]; omega) hl (Nat.zero_le _)
    have hat' : v1.ownBlock = v.ownBlock ∨ ∃ b, v1.ownBlock = some b ∧ W.heap.size ≤ b := by
      rcases hat with hat | hat
      · exact .inl hat
      · exact .inr ⟨_, hat, Nat.le_refl _⟩
    exact ⟨v1, w1, hrn, Ow.snoc (w := W) HO rfl (fun zs hzs => by rw [owns_unique hzs hown]; exact hown1) hg hat' (fun _ _ => False) (fun i y hy => hr (n3 i y hy) _ _) (fun _ _ hk => hk.elim) (fun _ _ _ _ hk => hk.elim) (fun k hk => .inl hk) (fun k hk => .inr hk), hg⟩
end Go.Proofs.YtnfaibenekninaaGreat.L

set_option linter.unusedVariables false
set_option linter.unusedSimpArgs false
namespace Go.Proofs.YtnfaibenekninaaGreat.L
open Go.RowKit
/-- A piece of a row that is read. -/
theorem rd_upto {α : Type} {r : Rp α} {w : World} {F : Nat → Prop} {A : Option Addr} {n c : Nat} {l : List α} (h : Rp.Rd r w F (.slice A n c) l) {i : Nat} (hi : i ≤ l.length) : Rp.Rd r w F (.slice A i c) (l.take i) := by
  obtain ⟨A', c', he, hl, hc, hrow⟩ := h
  injection he with h1 h2 h3
  subst h1; subst h3
  have hlt : (l.take i).length = i := by rw [List.length_take]; omega
  refine ⟨A, c, by rw [hlt], by omega, hc, ?_⟩
  rcases hrow with h | ⟨b, o, rfl, hb, hlt, hr⟩
  · left; rw [h]; simp
  · right
    refine ⟨b, o, rfl, hb, hlt, fun j x hx => hr j x ?_⟩
    rw [List.getElem?_take] at hx
    split at hx
    · exact hx
    · cases hx
theorem rd_behind {α : Type} {r : Rp α} {w : World} {F : Nat → Prop} {b o n c : Nat} {l : List α} (h : Rp.Rd r w F (.slice (some ⟨b, o, none⟩) n c) l) {i : Nat} (hi : i < l.length) :
    ∃ A : Addr, (if c = i + 1 then (some ⟨b, o, none⟩ : Option Addr) else some ⟨b, o + (i + 1) * r.sz, none⟩) = some A ∧ Rp.Rd r w F (.slice (some A) (l.length - (i + 1)) (c - (i + 1))) (l.drop (i + 1)) := by
  obtain ⟨A', c', he, hl, hc, hrow⟩ := h
  injection he with h1 h2 h3
  subst h1; subst h3
  have hld : (l.drop (i + 1)).length = l.length - (i + 1) := List.length_drop
  rcases hrow with h | ⟨b', o', he', hb, hlt, hr⟩
  · rw [h] at hi; simp at hi
  injection he' with he'
  injection he' with e1 e2
  subst e1; subst e2
  by_cases h : c = i + 1
  · exact ⟨⟨b, o, none⟩, by rw [if_pos h], some ⟨b, o, none⟩, c - (i + 1), by rw [hld], by omega, by omega, .inl (List.eq_nil_of_length_eq_zero (by omega))⟩
  · refine ⟨⟨b, o + (i + 1) * r.sz, none⟩, by rw [if_neg h], some ⟨b, o + (i + 1) * r.sz, none⟩, c - (i + 1), by rw [hld], by omega, by omega, .inr ⟨b, o + (i + 1) * r.sz, rfl, hb, hlt, fun j x hx => ?_⟩⟩
    rw [List.getElem?_drop] at hx
    obtain ⟨cs, h1, h2⟩ := hr (i + 1 + j) x hx
    refine ⟨cs, h1, fun q u hu => ?_⟩
    have := h2 q u hu
    rw [Nat.add_mul (i + 1) j, Nat.add_assoc] at this
    rw [Nat.add_assoc]; exact this
/-- Two pieces put behind one another in a row of one's own. -/
theorem cut_run {P : Program} {α : Type} {e : Nat} {r : Rp α} {W : World} {G : Nat → Prop} (hr : r.Flat) (t : TypeId) (z : Value) (bytes : Nat) (ht : P.underlying t = some (.slice e)) (hinfo : (P.info? e).map (fun i => (i.zero, i.size, i.bytes)) = some (some z, r.sz, bytes)) (hz : z.cells.size = r.sz) (hsz : 0 < r.sz) (hb0 : 0 < bytes)
    (v1 v2 : Value) (a b : List α) (H1 : Rp.Rd r W G v1 a) (H2 : Rp.Rd r W G v2 b) (hl : (a.length + b.length) * bytes ≤ 140737488355328) :
    ∃ u2 W2 u3 W3, (∀ ty, (Builtin.append_ #[t, t] ty #[.slice (some ⟨W.heap.size, 0, none⟩) 0 0, v1]).run P (W.alloc (.cells #[] e)) = .ok u2 W2) ∧ (∀ ty, (Builtin.append_ #[t, t] ty #[u2, v2]).run P W2 = .ok u3 W3) ∧
      Ow true e r W3 (fun q => W.heap.size ≤ q) u3 (a ++ b) ∧ Below W.heap.size W (W.alloc (.cells #[] e)) ∧ Below W.heap.size W W2 ∧ Below W.heap.size W W3 := by
  have hB1 := below_new (w := W) (.cells #[] e)
  have hO1 : Ow true e r (W.alloc (.cells #[] e)) (fun q => W.heap.size ≤ q) (.slice (some ⟨W.heap.size, 0, none⟩) 0 0) [] := (ow_empty (ap := true) (r := r) (heap_alloc_new W (.cells #[] e))).mono (fun q hq => by have hq : q = W.heap.size := hq; omega)
  have hs1 := hB1.size
  obtain ⟨u2, W2, hr2, hO2, hg2⟩ := run_apf (P := P) hr t t z bytes ht hinfo hz hsz hb0 _ v1 [] a hO1 (H1.below hB1) (by rw [Nat.add_mul] at hl; simp; omega)
  have hB2 : Below W.heap.size W W2 := below_grown hB1 hg2 (fun k hk => (hO1.lt_size hk).1) hs1
  have hO2' : Ow true e r W2 (fun q => W.heap.size ≤ q) u2 a := by
    rw [List.nil_append] at hO2
    exact hO2.mono (fun q hq => hq.elim id (fun h => by omega))
  obtain ⟨u3, W3, hr3, hO3, hg3⟩ := run_apf (P := P) hr t t z bytes ht hinfo hz hsz hb0 _ v2 a b hO2' (H2.below hB2) hl
  have hs2 := hB2.size
  have hB3 : Below W.heap.size W W3 := below_grown hB2 hg3 (fun k hk => (hO2'.lt_size hk).1) hs2
  have hty : ∀ ty vs, Builtin.append_ #[t, t] ty vs = Builtin.append_ #[t, t] t vs := fun ty vs => rfl
  exact ⟨u2, W2, u3, W3, fun ty => by rw [hty]; exact hr2, fun ty => by rw [hty]; exact hr3, hO3.mono (fun q hq => hq.elim id (fun h => by omega)), hB1, hB2, hB3⟩
end Go.Proofs.YtnfaibenekninaaGreat.L
