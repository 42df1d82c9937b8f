/- Joined texts, each of which was built by itself: Lv2 Lv3 Op0 Lv3b. -/
import Derived.Test.YtnfaibenekninaaFColour1
import Derived.Deep.RegionHeld3
import Derived.Deep.LoopGhost
import Derived.Test.YtnfaibenekninaaB1
set_option linter.unusedVariables false
set_option linter.unusedSimpArgs false
namespace Go.Proofs.Ytnfaibenekninaa.L
open Go.RowKit
theorem entersNo : Enters Try.prog 193 := enters Try.func193 (by kernel_rfl) (by kernel_rfl)
theorem noMoment_calls (i v : Value) (w : World) : Calls Try.prog 193 #[i, v] w fun e w' => e = .returned (.tuple #[]) ∧ w = w' := by
  go_enter Try.func193, Try.ntmps193
  go_wp2
  refine bodyPost_end (results_none (by first | rfl | exact Try.results193 | kernel_rfl) _ _ _) rfl ?_
  exact ⟨rfl, rfl⟩
/-- What a part's steps and Params name lies below a bound. -/
structure PtIn (p : Pt) (N : Nat) : Prop where
  cd : ∀ x ∈ p.code, (setsS x = true → 0 ≤ x.dst ∧ x.dst < N) ∧ ∀ m ∈ usesI x, 0 ≤ m ∧ m < N
  pr : ∀ m ∈ p.params, 0 ≤ m ∧ m < N
  ln : p.code.length ≤ 1048576
  lp : p.params.length ≤ 1048576
theorem Ow.bool_own {ap : Bool} {e g n c : Nat} {w : World} {F : Nat → Prop} {l : List Bool} (h : Ow ap e Rp.bool w F (.slice (some ⟨g, 0, none⟩) n c) l) : Ow true e Rp.bool w (fun q => q = g) (.slice (some ⟨g, 0, none⟩) n c) l := by
  obtain ⟨φ, xs, h1, h2, h3, h4, h5⟩ := h
  exact ⟨fun _ _ => False, xs, h1, fun k hk => by simp [Value.ownBlock] at hk; exact hk.symm, fun _ _ h => h.elim, fun _ _ _ _ h => h.elim, fun i x hx => h5 i x hx⟩
theorem setAddN_calls {G : Nat → Prop} (g c N : Nat) (S : List Bool) (vl : Value) (l : List Int) (F : Nat → Prop) (W : World) (hN : S.length = N) (hO : Ow true 4 Rp.bool W F (.slice (some ⟨g, 0, none⟩) N c) S) (hl : Rp.Rd Rp.int W G vl l)
    (hG : ∀ q, G q → ¬ F q) (hr : ∀ v ∈ l, 0 ≤ v ∧ v < N) :
    Calls Try.prog 114 #[.slice (some ⟨g, 0, none⟩) N c, vl] W fun e w' => e = .returned (.tuple #[]) ∧ Ow true 4 Rp.bool w' F (.slice (some ⟨g, 0, none⟩) N c) (addB S l) ∧ Chg F W w' := by
  subst hN
  exact setAdd_calls g c S vl l F W hO hl hG hr
theorem liveC_drop {l : List Fl} {S : List Bool} {j : Nat} (hj : j < l.length) : liveC (l.drop j) S = stepB (liveC (l.drop (j + 1)) S) l[j] := by
  rw [List.drop_eq_getElem_cons hj]; rfl
theorem delB_take {l : List Int} {S : List Bool} {k : Nat} (hk : k < l.length) : delB S (l.take (k + 1)) = (delB S (l.take k)).set l[k].toNat false := by
  rw [List.take_succ_eq_append_getElem hk]; unfold delB; rw [List.foldl_append]; rfl
set_option maxRecDepth 100000 in
set_option maxHeartbeats 8000000 in
theorem live0_calls {F G : Nat → Prop} (p : Pt) (N b o : Nat) (v1 v2 v3 v4 vS : Value) (S : List Bool) (w : World) (hp : partAt w b o p v1 v2 v3 v4) (h1 : Rp.Rd Rp.int w F v1 p.params) (h2 : Rp.Rd flat w F v2 p.code) (hS : Rp.Rd Rp.bool w G vS S)
    (hl : S.length = N) (hN0 : 0 < N) (hN : N ≤ 1000) (hin : PtIn p N) :
    Calls Try.prog 174 #[.pointer (some ⟨b, o, none⟩), vS, .func (.func 193) #[] #[]] w fun e w' => ∃ v', e = .returned v' ∧ Ow true 4 Rp.bool w' (fun q => w.heap.size ≤ q) v' (liveB p S) ∧ Below w.heap.size w w' := by
  subst hl
  have hen := entersNo
  unfold Enters at hen
  obtain ⟨AS, cS, rfl, _⟩ := id hS
  obtain ⟨A1, c1, rfl, _, _, hr1⟩ := rd_int h1
  obtain ⟨A2, c2, rfl, _, _, hr2⟩ := rd_flat h2
  have HNo := Lib.hid (fun i v W => noMoment_calls i v W)
  have HDs := Lib.hid (fun x W => hasDst_calls x W)
  have HUs := Lib.hid (fun x W => usesI_calls x W)
  unfold flV at HDs HUs
  have hcl := Lib.hid (cloneB_calls _ S w hS (by omega))
  obtain ⟨q0, q1, q2, q3, q4, q5⟩ := hp
  have hln := hin.ln
  have hlp := hin.lp
  go_enter Try.func174, Try.ntmps174
  go_wp2_with fail
  refine hcl.out.mono ?_
  rintro e w1 ⟨vn, rfl, hO, hB⟩
  clear hcl
  have q1' := cell_below hB q1
  obtain ⟨g, cn, rfl, hFg, hgl⟩ := hO.some_form hN0
  have hO := hO.bool_own
  have hw0 : IntKind.i64.wrap ((p.code.length : Int) - 1) = (p.code.length : Int) - 1 := IntWalk.i64_in _ (by omega)
  go_wp2_with fail
  clear q1'
  go_loopw [8] (fun i wr => ∃ j : Nat, j ≤ p.code.length ∧ i = .int .i64 ((j : Int) - 1) ∧ g < wr.heap.size ∧ Ow true 4 Rp.bool wr (fun q => q = g) (.slice (some ⟨g, 0, none⟩) S.length cn) (liveC (p.code.drop j) S) ∧ Below w.heap.size w wr) (fun i _ => (intOf i + 1).toNat)
  case atStart => exact ⟨p.code.length, Nat.le_refl _, rfl, hgl, by rw [List.drop_length]; exact hO, hB⟩
  case round =>
    clear hO hB hgl
    obtain ⟨j, hj, rfl, hgl, HO, HB⟩ := hrel
    rename World => wo
    by_cases hj0 : 0 < j
    · obtain ⟨n, rfl⟩ : ∃ n, j = n + 1 := ⟨j - 1, by omega⟩
      have hnt : n < p.code.length := by omega
      have he : ((n + 1 : Nat) : Int) - 1 = (n : Int) := by omega
      rw [he]
      rcases hr2 with hnil | ⟨b2, o2, rfl, hb2, hca⟩
      · rw [hnil] at hnt; simp at hnt
      obtain ⟨e0, e1, e2, e3, e4, e5⟩ := (hca n hnt).below HB
      have hdr := Lib.hid (liveC_drop (S := S) hnt)
      obtain ⟨hxd, hxu⟩ := hin.cd _ (List.getElem_mem hnt)
      have hSl : (liveC (p.code.drop (n + 1)) S).length = S.length := by rw [liveC_len]
      have q1' := cell_below HB q1
      clear hca
      generalize p.code[n] = x at *
      generalize liveC (p.code.drop (n + 1)) S = S1 at *
      have HSt : Hid (stepB S1 x = addB (if setsS x then S1.set x.dst.toNat false else S1) (usesI x)) := Lib.hid rfl
      have hfd : Hid (fD x.op = setsS x) := Lib.hid (fD_sets x)
      have n0 : (0 : Int) ≤ (n : Int) := Int.natCast_nonneg _
      have n1 : (n : Int) < (p.code.length : Int) := by omega
      have hwn : IntKind.i64.wrap ((n : Int) - 1) = (n : Int) - 1 := IntWalk.i64_in _ (by omega)
      have hbx := below_new (w := wo) (.cells #[.int .i64 x.op, .int .i64 x.dO, .int .i64 x.dst, .int .i64 x.a, .int .i64 x.b, .int .i64 x.n] 108)
      have HB1 := HB.alloc HB.size (.cells #[.int .i64 x.op, .int .i64 x.dO, .int .i64 x.dst, .int .i64 x.a, .int .i64 x.b, .int .i64 x.n] 108)
      have HO1 := HO.below hbx
      have hx0 := heap_alloc_new wo (.cells #[.int .i64 x.op, .int .i64 x.dO, .int .i64 x.dst, .int .i64 x.a, .int .i64 x.b, .int .i64 x.n] 108)
      obtain ⟨y1, _⟩ := cell_of_block hx0
      have y10 : (wo.alloc (.cells #[.int .i64 x.op, .int .i64 x.dO, .int .i64 x.dst, .int .i64 x.a, .int .i64 x.b, .int .i64 x.n] 108)).cell? ⟨wo.heap.size, 0, none⟩ = some (.int .i64 x.op) := (y1 0).trans rfl
      have y11 : (wo.alloc (.cells #[.int .i64 x.op, .int .i64 x.dO, .int .i64 x.dst, .int .i64 x.a, .int .i64 x.b, .int .i64 x.n] 108)).cell? ⟨wo.heap.size, 1, none⟩ = some (.int .i64 x.dO) := (y1 1).trans rfl
      have y12 : (wo.alloc (.cells #[.int .i64 x.op, .int .i64 x.dO, .int .i64 x.dst, .int .i64 x.a, .int .i64 x.b, .int .i64 x.n] 108)).cell? ⟨wo.heap.size, 2, none⟩ = some (.int .i64 x.dst) := (y1 2).trans rfl
      have y13 : (wo.alloc (.cells #[.int .i64 x.op, .int .i64 x.dO, .int .i64 x.dst, .int .i64 x.a, .int .i64 x.b, .int .i64 x.n] 108)).cell? ⟨wo.heap.size, 3, none⟩ = some (.int .i64 x.a) := (y1 3).trans rfl
      have y14 : (wo.alloc (.cells #[.int .i64 x.op, .int .i64 x.dO, .int .i64 x.dst, .int .i64 x.a, .int .i64 x.b, .int .i64 x.n] 108)).cell? ⟨wo.heap.size, 4, none⟩ = some (.int .i64 x.b) := (y1 4).trans rfl
      have y15 : (wo.alloc (.cells #[.int .i64 x.op, .int .i64 x.dO, .int .i64 x.dst, .int .i64 x.a, .int .i64 x.b, .int .i64 x.n] 108)).cell? ⟨wo.heap.size, 5, none⟩ = some (.int .i64 x.n) := (y1 5).trans rfl
      have HD1 := Lib.hid (HDs.out x (wo.alloc (.cells #[.int .i64 x.op, .int .i64 x.dO, .int .i64 x.dst, .int .i64 x.a, .int .i64 x.b, .int .i64 x.n] 108)))
      go_wp2_with fail
      refine (HNo.out _ _ _).mono ?_
      rintro e w2 ⟨rfl, rfl⟩
      go_wp2_with fail
      refine HD1.out.mono ?_
      rintro e w3 ⟨rfl, hb3⟩
      rw [hfd.out]
      have HB3 := below_then HB1 hb3
      have HO3 := HO1.below hb3
      have x3 := blk_below hx0 hb3
      have hgo := hb3.size
      have hsw : (wo.alloc (.cells #[.int .i64 x.op, .int .i64 x.dO, .int .i64 x.dst, .int .i64 x.a, .int .i64 x.b, .int .i64 x.n] 108)).heap.size = wo.heap.size + 1 := by simp
      rw [hsw] at hgo
      clear HD1 y10 y11 y12 y13 y14 y15 y1 hx0 hb3 HB1 HO1 hbx e0 e1 e2 e3 e4 e5 q1' HO HB hfd
      obtain ⟨y1, _⟩ := cell_of_block x3
      have y10 : w3.cell? ⟨wo.heap.size, 0, none⟩ = some (.int .i64 x.op) := (y1 0).trans rfl
      have y11 : w3.cell? ⟨wo.heap.size, 1, none⟩ = some (.int .i64 x.dO) := (y1 1).trans rfl
      have y12 : w3.cell? ⟨wo.heap.size, 2, none⟩ = some (.int .i64 x.dst) := (y1 2).trans rfl
      have y13 : w3.cell? ⟨wo.heap.size, 3, none⟩ = some (.int .i64 x.a) := (y1 3).trans rfl
      have y14 : w3.cell? ⟨wo.heap.size, 4, none⟩ = some (.int .i64 x.b) := (y1 4).trans rfl
      have y15 : w3.cell? ⟨wo.heap.size, 5, none⟩ = some (.int .i64 x.n) := (y1 5).trans rfl
      clear y1
      cases hst : setsS x
      · have HX : Hid (stepB S1 x = addB S1 (usesI x)) := Lib.hid (by rw [HSt.out, hst]; rfl)
        clear hst HSt hxd
        have HU1 := Lib.hid (HUs.out x w3)
        go_wp2_with fail
        refine HU1.out.mono ?_
        rintro e w4 ⟨v4, rfl, hv4, hb4⟩
        have HB4 := below_then HB3 hb4
        have HO4 := HO3.below hb4
        have hs4 := hb4.size
        have hxu2 := Lib.hid hxu
        replace hv4 := hv4.rd
        obtain ⟨A4, c4, hve, _, _⟩ := id hv4
        subst hve
        have HA1 := Lib.hid (setAddN_calls g cn S.length (S1) (.slice A4 (usesI x).length c4) (usesI x) (fun q => q = g) w4 hSl HO4 hv4 (fun r hr h => by have h : r = g := h; omega) hxu2.out)
        have HX3 := Lib.hid HX.out
        clear HX hxu2
        generalize usesI x = us at *
        go_wp2_with fail
        refine HA1.out.mono ?_
        rintro e w5 ⟨rfl, HO6, hC6⟩
        have HB6 := hC6.to_below HB4 HB4.size (fun r hr => by have hr : r = g := hr; omega)
        have hs6 := hC6.size
        go_wp2
        go_roundw
        case rel => exact ⟨n, by omega, by go_num, by omega, by rw [hdr.out, HX3.out]; exact HO6, HB6⟩
        case measure => first | (simp [intOf]; done) | (simp [intOf]; omega)
      · obtain ⟨hd0, hd1⟩ := hxd hst
        have HX : Hid (stepB S1 x = addB (S1.set x.dst.toNat false) (usesI x)) := Lib.hid (by rw [HSt.out, hst]; rfl)
        clear hst HSt
        obtain ⟨q, hq⟩ := Int.eq_ofNat_of_zero_le hd0
        rw [hq] at y12 hd1
        have HX2 : Hid (stepB S1 x = addB (S1.set q false) (usesI x)) := Lib.hid (by rw [HX.out, hq, Int.toNat_natCast])
        have hq1 := Lib.hid hq
        clear HX hd0 hxd hq
        have hql : q < S1.length := by omega
        have HO5 := HO3.set1 rfl hql (y := false) (u := .bool false) rfl
        obtain ⟨d1, d2⟩ := bool_at HO3 hql
        have hC5 := Chg.set (w := w3) (o := q) (u := .bool false) (A := fun r => r = g) (b := g) rfl
        have HB5 := hC5.to_below HB3 HB3.size (fun r hr => by have hr : r = g := hr; omega)
        generalize S1[q] = yb at *
        have m0 : (0 : Int) ≤ (q : Int) := Int.natCast_nonneg _
        have m1 : (q : Int) < (S.length : Int) := by omega
        have hS2 : (S1.set q false).length = S.length := by rw [List.length_set]; exact hSl
        have hne : ¬ (wo.heap.size = g) := by omega
        have hs5 := hC5.size
        have z10 := hC5.cell y10 hne
        have z11 := hC5.cell y11 hne
        have z12 := hC5.cell y12 hne
        have z13 := hC5.cell y13 hne
        have z14 := hC5.cell y14 hne
        have z15 := hC5.cell y15 hne
        have HU1 := Lib.hid (HUs.out x (w3.setCell ⟨g, q, none⟩ (.bool false)))
        rw [hq1.out] at HU1
        have hxu2 := Lib.hid hxu
        clear hC5 hxu
        go_wp2_with fail
        refine HU1.out.mono ?_
        rintro e w4 ⟨v4, rfl, hv4, hb4⟩
        have HB4 := below_then HB5 hb4
        have HO4 := HO5.below hb4
        have hs4 := hb4.size
        replace hv4 := hv4.rd
        obtain ⟨A4, c4, hve, _, _⟩ := id hv4
        subst hve
        have HA1 := Lib.hid (setAddN_calls g cn S.length (S1.set q false) (.slice A4 (usesI x).length c4) (usesI x) (fun q => q = g) w4 hS2 HO4 hv4 (fun r hr h => by have h : r = g := h; omega) hxu2.out)
        have HX3 := Lib.hid HX2.out
        clear HX2 hxu2
        generalize usesI x = us at *
        go_wp2_with fail
        refine HA1.out.mono ?_
        rintro e w5 ⟨rfl, HO6, hC6⟩
        have HB6 := hC6.to_below HB4 HB4.size (fun r hr => by have hr : r = g := hr; omega)
        have hs6 := hC6.size
        go_wp2
        go_roundw
        case rel => exact ⟨n, by omega, by go_num, by omega, by rw [hdr.out, HX3.out]; exact HO6, HB6⟩
        case measure => first | (simp [intOf]; done) | (simp [intOf]; omega)
    · obtain rfl : j = 0 := by omega
      have he : ((0 : Nat) : Int) - 1 = -1 := by omega
      rw [he]
      have q0' := cell_below HB q0
      have hSl : (liveC (p.code.drop 0) S).length = S.length := by rw [liveC_len]
      have HLB : Hid (liveB p S = delB (liveC (p.code.drop 0) S) p.params) := Lib.hid rfl
      generalize liveC (p.code.drop 0) S = S1 at *
      go_wp2_with fail
      go_loopw [50] (fun i wr => ∃ m : Nat, m ≤ p.params.length ∧ i = .int .i64 m ∧ Ow true 4 Rp.bool wr (fun q => q = g) (.slice (some ⟨g, 0, none⟩) S.length cn) (delB S1 (p.params.take m)) ∧ Below w.heap.size w wr) (fun i _ => p.params.length - (intOf i).toNat)
      case atStart => exact ⟨0, Nat.zero_le _, rfl, HO, HB⟩
      case round =>
        clear HO HB hgl q0'
        obtain ⟨m, hm, rfl, HO, HB⟩ := hrel
        rename World => wi
        by_cases hmt : m < p.params.length
        · rcases hr1 with hnil | ⟨b1, o1, rfl, hb1, hc1⟩
          · rw [hnil] at hmt; simp at hmt
          have cv := cell_below HB (hc1 m hmt)
          have hdr := Lib.hid (delB_take (S := S1) hmt)
          have hv := hin.pr _ (List.getElem_mem hmt)
          have hS3 : (delB S1 (p.params.take m)).length = S.length := by rw [delB_len]; exact hSl
          clear hc1
          generalize p.params[m] = x at *
          generalize delB S1 (p.params.take m) = S2 at *
          obtain ⟨q, rfl⟩ := Int.eq_ofNat_of_zero_le hv.1
          rw [Int.toNat_natCast] at hdr
          have hql : q < S2.length := by omega
          have HO5 := HO.set1 rfl hql (y := false) (u := .bool false) rfl
          obtain ⟨d1, d2⟩ := bool_at HO hql
          have HB5 := (Chg.set (w := wi) (o := q) (u := .bool false) (A := fun r => r = g) (b := g) rfl).to_below HB HB.size (fun r hr => by have hr : r = g := hr; omega)
          generalize S2[q] = yb at *
          have i0 : (0 : Int) ≤ (m : Int) := Int.natCast_nonneg _
          have i1 : (m : Int) < (p.params.length : Int) := by omega
          have m0 : (0 : Int) ≤ (q : Int) := Int.natCast_nonneg _
          have m1 : (q : Int) < (S.length : Int) := by omega
          clear HO HB hv hql
          go_wp2
          go_roundw
          case rel => exact ⟨m + 1, by omega, by go_num, by rw [hdr.out]; exact HO5, HB5⟩
          case measure => simp [intOf]; omega
        · obtain rfl : m = p.params.length := by omega
          rw [List.take_length] at HO
          go_wp2
          go_ret
          exact ⟨_, rfl, by rw [HLB.out]; exact HO.mono (fun q hq => by have hq : q = g := hq; omega), HB⟩
end Go.Proofs.Ytnfaibenekninaa.L

set_option linter.unusedVariables false
set_option linter.unusedSimpArgs false
namespace Go.Proofs.Ytnfaibenekninaa.L
open Go.RowKit
/-- The sets of all parts as they lie. -/
structure LSt (n N S0 : Nat) (go co gi ci : Nat) (I O : List (List Bool)) (w : World) : Prop where
  li : I.length = n
  lo : O.length = n
  ri : ∀ S ∈ I, S.length = N
  ro : ∀ S ∈ O, S.length = N
  ex : ∃ FO FI : Nat → Prop, (∀ q, FO q → S0 ≤ q ∧ ¬ FI q) ∧ (∀ q, FI q → S0 ≤ q) ∧ Ow true 74 (Rp.ow true 4 Rp.bool) w FO (.slice (some ⟨go, 0, none⟩) n co) O ∧ Ow true 74 (Rp.ow true 4 Rp.bool) w FI (.slice (some ⟨gi, 0, none⟩) n ci) I
theorem LSt.below {n N S0 go co gi ci : Nat} {I O : List (List Bool)} {w w' : World} (h : LSt n N S0 go co gi ci I O w) (hb : Below w.heap.size w w') : LSt n N S0 go co gi ci I O w' := by
  obtain ⟨a, b, c, d, FO, FI, e1, e2, e3, e4⟩ := h
  exact ⟨a, b, c, d, FO, FI, e1, e2, e3.below hb, e4.below hb⟩
theorem LSt.lt {n N S0 go co gi ci : Nat} {I O : List (List Bool)} {w : World} (h : LSt n N S0 go co gi ci I O w) : S0 ≤ go ∧ S0 ≤ gi ∧ go < w.heap.size ∧ gi < w.heap.size ∧ go ≠ gi := by
  obtain ⟨a, b, c, d, FO, FI, e1, e2, e3, e4⟩ := h
  have h1 := e3.lt_size (k := go) rfl
  have h2 := e4.lt_size (k := gi) rfl
  exact ⟨(e1 _ h1.1).1, e2 _ h2.1, h1.2, h2.2, fun he => (e1 _ h1.1).2 (he ▸ h2.1)⟩
/-- A row of what is needed behind, which may change. -/
theorem LSt.rowO {n N S0 go co gi ci : Nat} {I O : List (List Bool)} {w : World} (h : LSt n N S0 go co gi ci I O w) (hN : 0 < N) {k : Nat} (hk : k < n) :
    ∃ (G : Nat → Prop) (g c : Nat), w.cell? ⟨go, k, none⟩ = some (.slice (some ⟨g, 0, none⟩) N c) ∧ (O.getD k []).length = N ∧ (∀ q, G q → S0 ≤ q ∧ q ≠ go ∧ q ≠ gi ∧ q < w.heap.size) ∧ Ow true 4 Rp.bool w G (.slice (some ⟨g, 0, none⟩) N c) (O.getD k []) ∧
      ∀ (w' : World) (y : List Bool), y.length = N → Chg G w w' → Ow true 4 Rp.bool w' G (.slice (some ⟨g, 0, none⟩) N c) y → LSt n N S0 go co gi ci I (O.set k y) w' := by
  obtain ⟨a, b, c, d, FO, FI, e1, e2, e3, e4⟩ := h
  have hkl : k < O.length := by omega
  obtain ⟨G, u, cu, -, hGF, hOu, hback⟩ := e3.focus hkl
  have hgo := e3.lt_size (k := go) rfl
  have hgi := e4.lt_size (k := gi) rfl
  have hg : O.getD k [] = O[k] := by rw [List.getD_eq_getElem?_getD, List.getElem?_eq_getElem hkl]; rfl
  have hl : O[k].length = N := d _ (List.getElem_mem hkl)
  obtain ⟨g, c', rfl, _, _⟩ := hOu.some_form (by omega)
  rw [hl] at cu hOu hback
  rw [hg]
  refine ⟨fun q => G q ∧ q < w.heap.size, g, c', cu, hl, fun q hq => ⟨(e1 q (hGF q hq.1).1).1, (hGF q hq.1).2, fun he => (e1 q (hGF q hq.1).1).2 (he ▸ hgi.1), hq.2⟩, hOu.bound, fun w' y hy hC hO' => ?_⟩
  refine ⟨a, by rw [List.length_set]; exact b, c, fun S hS => ?_, FO, FI, e1, e2, hback w' y (fun q hq hn => hC.block q hq (fun h => hn h.1)) (hO'.mono (fun q hq => hq.1)), e4.move (fun q hq hlt => hC.block q hlt (fun hG => (e1 q (hGF q hG.1).1).2 hq))⟩
  rcases List.mem_or_eq_of_mem_set hS with hS | rfl
  · exact d S hS
  · exact hy
/-- A row of what is needed ahead, to be read. -/
theorem LSt.rowI {n N S0 go co gi ci : Nat} {I O : List (List Bool)} {w : World} (h : LSt n N S0 go co gi ci I O w) (hN : 0 < N) {k : Nat} (hk : k < n) :
    ∃ (g c : Nat), w.cell? ⟨gi, k, none⟩ = some (.slice (some ⟨g, 0, none⟩) N c) ∧ (I.getD k []).length = N ∧ Rp.Rd Rp.bool w (fun _ => True) (.slice (some ⟨g, 0, none⟩) N c) (I.getD k []) := by
  obtain ⟨a, b, c, d, FO, FI, e1, e2, e3, e4⟩ := h
  have hkl : k < I.length := by omega
  obtain ⟨G, u, cu, -, hGF, hOu, -⟩ := e4.focus hkl
  have hg : I.getD k [] = I[k] := by rw [List.getD_eq_getElem?_getD, List.getElem?_eq_getElem hkl]; rfl
  have hl : I[k].length = N := c _ (List.getElem_mem hkl)
  obtain ⟨g, c', rfl, _, _⟩ := hOu.some_form (by omega)
  rw [hl] at cu hOu
  rw [hg]
  exact ⟨g, c', cu, hl, hOu.rd.mono (fun _ _ => trivial)⟩
/-- A fresh row of what is needed ahead is put. -/
theorem LSt.putI {n N S0 go co gi ci : Nat} {I O : List (List Bool)} {w w1 : World} {v : Value} {y : List Bool} (h : LSt n N S0 go co gi ci I O w) (hb : Below w.heap.size w w1) (hS : S0 ≤ w.heap.size) (hy : y.length = N) {k : Nat} (hk : k < n)
    (hv : Ow true 4 Rp.bool w1 (fun q => w.heap.size ≤ q) v y) : LSt n N S0 go co gi ci (I.set k y) O (w1.setCell ⟨gi, k, none⟩ v) ∧ (∃ u, w1.cell? ⟨gi, k, none⟩ = some u) ∧ w1.frozen? ⟨gi, k, none⟩ = false := by
  obtain ⟨a, b, c, d, FO, FI, e1, e2, e3, e4⟩ := h
  have f3 := e3.bound.below hb
  have f4 := e4.bound.below hb
  have hkl : k < I.length := by omega
  have hp := f4.put1 (G := fun q => w.heap.size ≤ q) rfl hkl (y := y) (u := v) ⟨v, rfl, hv⟩ (fun q hq h => by have := h.2; omega)
  obtain ⟨_, u, cu, fu, _⟩ := f4.focus hkl
  have hgi := e4.lt_size (k := gi) rfl
  refine ⟨⟨by rw [List.length_set]; exact a, b, fun S hS' => ?_, d, fun q => FO q ∧ q < w.heap.size, fun q => (FI q ∧ q < w.heap.size) ∨ w.heap.size ≤ q, fun q hq => ⟨(e1 q hq.1).1, fun h => by
      rcases h with h | h
      · exact (e1 q hq.1).2 h.1
      · have := hq.2; omega⟩, fun q hq => by
      rcases hq with h | h
      · exact e2 q h.1
      · omega, f3.set_other (fun h => (e1 _ h.1).2 hgi.1), hp⟩, ⟨u, cu⟩, fu⟩
  rcases List.mem_or_eq_of_mem_set hS' with hS' | rfl
  · exact c S hS'
  · exact hy
theorem addB_append (S : List Bool) (a b : List Int) : addB (addB S a) b = addB S (a ++ b) := by unfold addB; rw [List.foldl_append]
theorem getD_set_same {α : Type} {L : List α} {k : Nat} (hk : k < L.length) (y d : α) : (L.set k y).getD k d = y := by rw [getD_set2 _ _ _ _ _ hk, if_pos rfl]
end Go.Proofs.Ytnfaibenekninaa.L

set_option linter.unusedVariables false
set_option linter.unusedSimpArgs false
namespace Go.Proofs.Ytnfaibenekninaa.L
open Go.RowKit
theorem oper_append {P : Program} {o : Oper} {a : Act} {W W' : World} {K : Act → World → Prop} {Q : Exit → Act → World → Prop} (s x : Operand) (t : TypeId) (v vx v' : Value)
    (ho : o.op = .call { callee := .builtin .append, args := #[s, x], argTypes := #[t, t] }) (hs : a.eval s = v) (hx : a.eval x = vx) (hr : (Builtin.append_ #[t, t] o.type #[v, vx]).run P W = .ok v' W') (h : K (a.put o.dst v') W') : Oper.wp P o a W K Q := by
  unfold Oper.wp execOp
  simp only [ho, resolve, invoke, builtin, Sem.run_bind, Sem.run_pure, Result.andThen_ok, List.map_toArray, List.map_cons, List.map_nil, hs, hx, hr]
  exact h
end Go.Proofs.Ytnfaibenekninaa.L

set_option linter.unusedVariables false
set_option linter.unusedSimpArgs false
namespace Go.Proofs.Ytnfaibenekninaa.L
open Go.RowKit
def rowsN (k N : Nat) : List (List Bool) := List.replicate k (List.replicate N false)
def madeB (N : Nat) : Obj := .cells (madeCells #[.bool false] N) 4 (0, 0)
def heldB (gx N : Nat) : Obj := .cells #[.slice (some ⟨gx, 0, none⟩) N N] 74 (0, 0)
structure Cs0 (S0 N k : Nat) (F : Nat → Prop) (v : Value) (W : World) : Prop where
  ow : Ow true 74 (Rp.ow true 4 Rp.bool) W F v (rowsN k N)
  bd : ∀ q, F q → S0 ≤ q ∧ q < W.heap.size
structure Cs1 (S0 N k : Nat) (F : Nat → Prop) (v : Value) (gx : Nat) (W : World) : Prop where
  c0 : Cs0 S0 N k F v W
  g : Ow true 4 Rp.bool W (fun q => q = gx) (.slice (some ⟨gx, 0, none⟩) N N) (List.replicate N false)
  n : ¬ F gx
  s : S0 ≤ gx
structure Cs2 (S0 N k : Nat) (F : Nat → Prop) (v : Value) (gx bx : Nat) (W : World) : Prop where
  c1 : Cs1 S0 N k F v gx W
  b : W.heap[bx]? = some (heldB gx N)
  s : S0 ≤ bx
structure Side (S0 : Nat) (B : Nat → Prop) (P : World → Prop) : Prop where
  st : ∀ {W W' : World} {X : Nat → Prop}, P W → Chg X W W' → (∀ q, B q → ¬ X q) → P W'
  bd : ∀ {W : World}, P W → ∀ q, B q → S0 ≤ q ∧ q < W.heap.size
theorem side0 {S0 N k : Nat} {F : Nat → Prop} {v : Value} : Side S0 F (Cs0 S0 N k F v) :=
  ⟨fun h hc hd => ⟨h.ow.move (hc.same hd), fun q hq => ⟨(h.bd q hq).1, Nat.lt_of_lt_of_le (h.bd q hq).2 hc.size⟩⟩, fun h q hq => h.bd q hq⟩
theorem side1 {S0 N k : Nat} {F : Nat → Prop} {v : Value} {gx : Nat} : Side S0 (fun q => F q ∨ q = gx) (Cs1 S0 N k F v gx) :=
  ⟨fun h hc hd => ⟨side0.st h.c0 hc (fun q hq => hd q (.inl hq)), h.g.move (hc.same (fun q hq => by have hq : q = gx := hq; exact hq ▸ hd gx (.inr rfl))), h.n, h.s⟩, fun h q hq => by
    rcases hq with hq | rfl
    · exact h.c0.bd q hq
    · exact ⟨h.s, (h.g.lt_size rfl).2⟩⟩
theorem side2 {S0 N k : Nat} {F : Nat → Prop} {v : Value} {gx bx : Nat} : Side S0 (fun q => (F q ∨ q = gx) ∨ q = bx) (Cs2 S0 N k F v gx bx) :=
  ⟨fun h hc hd => ⟨side1.st h.c1 hc (fun q hq => hd q (.inl hq)), hc.blk h.b (hd bx (.inr rfl)), h.s⟩, fun h q hq => by
    rcases hq with hq | rfl
    · exact side1.bd h.c1 q hq
    · exact ⟨h.s, blk_lt h.b⟩⟩
theorem s_mk {S0 N k : Nat} {F BY : Nat → Prop} {v : Value} {PY : World → Prop} {w W : World} (hN : N ≤ 1000) (hA : Cs0 S0 N k F v W) (hB : PY W) (SB : Side S0 BY PY) (D : ∀ q, F q → ¬ BY q) (HB : Below w.heap.size w W) (hS : S0 = w.heap.size) :
    Cs1 S0 N k F v W.heap.size (W.alloc (.cells (madeCells #[.bool false] N) 4)) ∧ PY (W.alloc (.cells (madeCells #[.bool false] N) 4)) ∧ (∀ q, (F q ∨ q = W.heap.size) → ¬ BY q) ∧ Below w.heap.size w (W.alloc (.cells (madeCells #[.bool false] N) 4)) := by
  have hc : Chg (fun _ => False) W (W.alloc (.cells (madeCells #[.bool false] N) 4)) := Chg.of_below (below_new _)
  refine ⟨⟨side0.st hA hc (fun _ _ h => h), (ow_alloc1 (e := 4) (n := N) (r := Rp.bool) (z := .bool false) (x0 := false) W (by omega) rfl (fun w => rfl)).bool_own, fun h => by have := (hA.bd _ h).2; omega, by have := HB.size; omega⟩, SB.st hB hc (fun _ _ h => h), fun q hq => ?_, HB.alloc HB.size _⟩
  rcases hq with hq | rfl
  · exact D q hq
  · intro h; have := (SB.bd hB _ h).2; omega
theorem s_bd {S0 N k : Nat} {F BY : Nat → Prop} {v : Value} {gx : Nat} {PY : World → Prop} {w W : World} (hA : Cs1 S0 N k F v gx W) (hB : PY W) (SB : Side S0 BY PY) (D : ∀ q, (F q ∨ q = gx) → ¬ BY q) (HB : Below w.heap.size w W) (hS : S0 = w.heap.size) :
    Cs2 S0 N k F v gx W.heap.size (W.alloc (.cells #[.slice (some ⟨gx, 0, none⟩) N N] 74)) ∧ PY (W.alloc (.cells #[.slice (some ⟨gx, 0, none⟩) N N] 74)) ∧ (∀ q, ((F q ∨ q = gx) ∨ q = W.heap.size) → ¬ BY q) ∧ Below w.heap.size w (W.alloc (.cells #[.slice (some ⟨gx, 0, none⟩) N N] 74)) := by
  have hc : Chg (fun _ => False) W (W.alloc (.cells #[.slice (some ⟨gx, 0, none⟩) N N] 74)) := Chg.of_below (below_new _)
  refine ⟨⟨side1.st hA hc (fun _ _ h => h), heap_alloc_new W _, by have := HB.size; omega⟩, SB.st hB hc (fun _ _ h => h), fun q hq => ?_, HB.alloc HB.size _⟩
  rcases hq with hq | rfl
  · exact D q hq
  · intro h; have := (SB.bd hB _ h).2; omega
theorem infoSetB : (Try.prog.info? 74).map (fun i => (i.zero, i.size, i.bytes)) = some (some (.slice none 0 0), 1, 24) := by kernel_rfl
theorem s_ap {S0 N k : Nat} {F BY : Nat → Prop} {v : Value} {gx bx : Nat} {PY : World → Prop} {w W : World} (hN : N ≤ 1000) (hk : k ≤ 1000) (hA : Cs2 S0 N k F v gx bx W) (hB : PY W) (SB : Side S0 BY PY) (D : ∀ q, ((F q ∨ q = gx) ∨ q = bx) → ¬ BY q) (HB : Below w.heap.size w W) (hS : S0 = w.heap.size) :
    ∃ (v' : Value) (W' : World) (F' : Nat → Prop), (Builtin.append_ #[72, 72] 72 #[v, .slice (some ⟨bx, 0, none⟩) 1 1]).run Try.prog W = .ok v' W' ∧ Cs0 S0 N (k + 1) F' v' W' ∧ PY W' ∧ (∀ q, F' q → ¬ BY q) ∧ Below w.heap.size w W' := by
  obtain ⟨i0, hi, hzz⟩ := Option.map_eq_some_iff.1 infoSetB
  simp only [Prod.mk.injEq] at hzz
  obtain ⟨hz0, hz1, hz2⟩ := hzz
  have hO := hA.c1.c0.ow
  obtain ⟨xs, hown⟩ := hO.owns
  have hkl : (rowsN k N).length = k := List.length_replicate
  have hsz : (Rp.ow true 4 Rp.bool).sz = 1 := rfl
  obtain ⟨v1, w1, hr, hown1, hg, hnl, hat⟩ := run_append_own_at (P := Try.prog) W 0 72 72 74 i0 (.slice none 0 0) 1 24 Try.underlying72 hi hz0 hz1 hz2 rfl (by decide) v (rowsN k N).length xs hown ⟨bx, 0, none⟩ 1 1 [.slice (some ⟨gx, 0, none⟩) N N] rfl
    (fun j u hu => World.news_of_block (cs := #[.slice (some ⟨gx, 0, none⟩) N N]) (t := 74) (fr := (0, 0)) hA.b j u (by simpa using hu)) (by intro u hu; rw [List.mem_singleton.1 hu]; rfl) (by rw [hkl]; unfold maxLen; omega) (by rw [hkl]; omega) (Nat.zero_le _)
  have hgb := side1.bd hA.c1 gx (.inr rfl)
  have hat' : v1.ownBlock = v.ownBlock ∨ ∃ b, v1.ownBlock = some b ∧ W.heap.size ≤ b := by
    rcases hat with hat | hat
    · exact .inl hat
    · exact .inr ⟨_, hat, Nat.le_refl _⟩
  have hO1 := Ow.snoc (w := W) (m := 1) (ys := [List.replicate N false]) (news := [.slice (some ⟨gx, 0, none⟩) N N]) (G := fun q => F q ∨ q = gx ∨ W.heap.size ≤ q) hO rfl (fun zs hzs => by rw [owns_unique hzs hown]; exact hown1) hg hat' (fun i q => i = 0 ∧ q = gx) (fun i y hy => by
      match i, hy with
      | 0, hy =>
        simp only [List.getElem?_cons_zero, Option.some.injEq] at hy
        subst hy
        exact ⟨_, rfl, hA.c1.g.mono (fun q hq => ⟨rfl, hq⟩)⟩
      | i + 1, hy => simp at hy) (fun i q hq => ⟨fun h => hA.c1.n (hq.2 ▸ h), .inr (.inl hq.2)⟩) (fun _ i j q hi hj => by omega) (fun q hq => .inl hq) (fun q hq => .inr (.inr hq))
  have hrows : rowsN k N ++ [List.replicate N false] = rowsN (k + 1) N := by unfold rowsN; rw [List.replicate_succ']
  rw [hrows] at hO1
  have hcg : Chg (fun q => v.ownBlock = some q) W w1 := ⟨hg.os, hg.tape, hg.output, hg.size, fun q hq hn => hg.block q hq (fun e => hn e.symm)⟩
  refine ⟨v1, w1, _, hr, ⟨hO1.bound, fun q hq => ⟨?_, hq.2⟩⟩, SB.st hB hcg (fun q hq h => D q (.inl (.inl (hO.lt_size h).1)) hq), fun q hq => ?_, below_grown HB hg (fun q hq => by have := (hA.c1.c0.bd _ (hO.lt_size hq).1).1; omega) HB.size⟩
  · have := HB.size
    rcases hq.1 with h | h | h
    · exact (hA.c1.c0.bd q h).1
    · omega
    · omega
  · rcases hq.1 with h | h | h
    · exact D q (.inl (.inl h))
    · exact D q (.inl (.inr h))
    · intro hb; have := (SB.bd hB q hb).2; omega
end Go.Proofs.Ytnfaibenekninaa.L
