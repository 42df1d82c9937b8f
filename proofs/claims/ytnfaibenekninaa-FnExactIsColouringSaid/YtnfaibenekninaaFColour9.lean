/- Joined texts, each of which was built by itself: Ic2 Cl1 Ic3. -/
import Derived.Test.YtnfaibenekninaaFColour8
import Derived.Test.YtnfaibenekninaaFColour1
import Derived.Test.YtnfaibenekninaaFColour7
import Derived.Test.YtnfaibenekninaaFColour5
import Derived.Deep.RegionHeld3
import Derived.Test.YtnfaibenekninaaB3
import Derived.Test.YtnfaibenekninaaB10
set_option linter.unusedVariables false
set_option linter.unusedSimpArgs false
namespace Go.Proofs.Ytnfaibenekninaa.L
open Go.RowKit
/-- An ssa, and as many colours as it has values. -/
def ColG (s : Sa) (g : List Int) : Prop := GoodP s ∧ (g.length : Int) = s.values
set_option maxRecDepth 100000 in
set_option maxHeartbeats 8000000 in
theorem colourS_calls {F F' : Nat → Prop} (s : Sa) (gl : List Int) (vparts vg : Value) (w : World) (hs : Rp.Rd part w F vparts s.parts) (hgl : Rp.Rd Rp.int w F' vg gl) (hx1 : s.parts.length ≤ 1048576) (hx2 : ∀ p ∈ s.parts, PtLim p) (hgll : gl.length ≤ 1048576) :
    Calls Try.prog 12 #[saV s vparts, vg] w (BoolRes (ColG s gl) (TellP (ColP (momS s) gl)) w) := by
  obtain ⟨A, c, rfl, hlc, hcm, hrow⟩ := rd_part hs
  obtain ⟨Ag, cg, rfl, _, _, hrg⟩ := rd_int hgl
  have HG := Lib.hid (fun W (hW : Below w.heap.size w W) => goodS_calls s _ W (hs.below hW) hx1 hx2)
  have HA := Lib.hid (fun W (hW : Below w.heap.size w W) (h : GoodP s) => l10Alive_calls s _ W (hs.below hW) h hx2)
  have HL := Lib.hid (fun W (hW : Below w.heap.size w W) (h : GoodP s) hN => l10Clashes_calls s gl.length _ W (hs.below hW) h hx2 hN)
  unfold saV at HG HA HL ⊢
  have hB0 : Below w.heap.size w (w.alloc (.cells #[.slice A s.parts.length c, .int .i64 s.values] 31)) := below_new _
  have b0 := heap_alloc_new w (.cells #[.slice A s.parts.length c, .int .i64 s.values] 31)
  obtain ⟨M, hM⟩ : ∃ M, M = momS s := ⟨_, rfl⟩
  rw [← hM] at HA HL ⊢
  clear hM hs hx1 hx2
  obtain ⟨P, hPe⟩ : ∃ P, P = ColP M gl := ⟨_, rfl⟩
  have hP : Hid (P ↔ (∀ v, SomeP M v → 0 ≤ cO gl v.toNat) ∧ ∀ (k : Nat) (v : Int), ClP M k v → cO gl k ≠ cO gl v.toNat) := Lib.hid (by rw [hPe]; exact Iff.rfl)
  rw [← hPe]
  clear hPe
  go_enter Try.func12, Try.ntmps12
  go_wp2_with fail
  refine (HG.out _ hB0).mono ?_
  rintro e w1 ⟨g, rfl, hg, hb1⟩
  have hB1 := below_then hB0 hb1
  have b1 := blk_below b0 hb1
  clear hb1 b0 hB0 HG
  cases g
  · have HN : Hid (false = true ↔ ColG s gl) := Lib.hid ⟨fun h => Bool.noConfusion h, fun h => hg.out.2 h.1⟩
    have HT : Hid (TellP P false false) := Lib.hid ⟨fun h => Bool.noConfusion h, fun h => Bool.noConfusion h.1⟩
    clear hg
    go_wp2
    refine bodyPost_ret (v := .tuple #[.bool false, .bool false]) (by simp [results, Try.results12, go_sem]) rfl ?_
    exact .mk false false HN HT rfl hB1
  have hgp := Lib.hid (hg.out.1 rfl)
  have hv1 := hgp.out.v1
  have hv2 := hgp.out.v2
  obtain ⟨v0, _⟩ := cell_of_block b1
  have x0 : w1.cell? ⟨w.heap.size, 0, none⟩ = some (.slice A s.parts.length c) := (v0 0).trans rfl
  have x1 : w1.cell? ⟨w.heap.size, 1, none⟩ = some (.int .i64 s.values) := (v0 1).trans rfl
  clear v0 hg
  by_cases hNV : (gl.length : Int) = s.values
  · have HN : Hid (true = true ↔ ColG s gl) := Lib.hid ⟨fun _ => ⟨hgp.out, hNV⟩, fun _ => rfl⟩
    have HA := Lib.hid (HA.out _ hB1 hgp.out)
    have HL := Lib.hid (fun W hW => HL.out W hW hgp.out hNV)
    have hN0 : 0 < gl.length := by omega
    go_wp2_with fail
    replace hNV := Lib.hid hNV
    refine HA.out.mono ?_
    rintro e w2 ⟨vL, L, rfl, hvL, hLP, hb2⟩
    have hB2 := below_then hB1 hb2
    have b2 := blk_below b1 hb2
    obtain ⟨AL, cL, rfl, _, _, hrL⟩ := rd_int hvL
    rcases hrg with hn | ⟨bg, og, rfl, hbg, hcg⟩
    · rw [hn] at hN0; simp at hN0
    have hcg2 : Hid (∀ W (hW : Below w.heap.size w W) k (hk : k < gl.length), W.cell? ⟨bg, og + k, none⟩ = some (.int .i64 (cO gl k))) := Lib.hid (fun W hW k hk => by rw [cO_get hk]; exact cell_below hW (hcg k hk))
    have hLr := Lib.hid (fun k (hk : k < L.length) => hLP.out.1.2 L[k] (List.getElem_mem hk))
    have hLs := Lib.hid (fun k (hk : k < L.length) => (hLP.out.2 L[k]).1 (List.getElem_mem hk))
    have hLi := Lib.hid (fun v (hv : SomeP M v) => (hLP.out.2 v).2 hv)
    clear hcg x0 x1 hb2 b1 HA hB1 hLP hvL
    go_wp2_with fail
    go_loopw [25] (fun i wr => wr = w2 ∧ ∃ k : Nat, k ≤ L.length ∧ i = .int .i64 k ∧ Hid (∀ q (hq : q < L.length), q < k → 0 ≤ cO gl L[q].toNat)) (fun i _ => L.length - (intOf i).toNat)
    case atStart => exact ⟨rfl, 0, Nat.zero_le _, rfl, Lib.hid (fun q _ hq => by omega)⟩
    case round =>
      obtain ⟨rfl, k, hk, rfl, HI⟩ := hrel
      rename World => wo
      by_cases hkt : k < L.length
      · rcases hrL with hn | ⟨bL, oL, rfl, hbL, hcL⟩
        · rw [hn] at hkt; simp at hkt
        have cv := hcL k hkt
        have hr := hLr.out k hkt
        have hsm := Lib.hid (hLs.out k hkt)
        have k0 : (0 : Int) ≤ (k : Int) := Int.natCast_nonneg _
        have k1 : (k : Int) < (L.length : Int) := by omega
        have HI9 : Hid (0 ≤ cO gl L[k].toNat → ∀ q (hq : q < L.length), q < k + 1 → 0 ≤ cO gl L[q].toNat) := Lib.hid (fun h q hq hqk => by
          rcases Nat.lt_or_eq_of_le (Nat.le_of_lt_succ hqk) with h2 | rfl
          · exact HI.out q hq h2
          · exact h)
        obtain ⟨x, hx⟩ : ∃ x, x = L[k] := ⟨_, rfl⟩
        rw [← hx] at cv hr hsm HI9
        clear hx hcL HI
        obtain ⟨x, rfl⟩ := Int.eq_ofNat_of_zero_le hr.1
        have hxg : x < gl.length := by have := hNV.out; omega
        have cx := hcg2.out _ hB2 x hxg
        rw [Int.toNat_natCast] at HI9
        have hnP : Hid (cO gl x < 0 → ¬ P) := Lib.hid (fun h hp => by have := (hP.out.1 hp).1 _ hsm.out; rw [Int.toNat_natCast] at this; omega)
        have x0 : (0 : Int) ≤ (x : Int) := Int.natCast_nonneg _
        have x1 : (x : Int) < (gl.length : Int) := by omega
        obtain ⟨y, hy⟩ : ∃ y, y = cO gl x := ⟨_, rfl⟩
        rw [← hy] at cx HI9 hnP
        clear hy
        by_cases hy0 : y < 0
        · have HT : Hid (TellP P true false) := Lib.hid ⟨fun h => Bool.noConfusion h, fun h => absurd h.2 (hnP.out hy0)⟩
          clear hnP HI9
          go_wp2
          refine bodyPost_ret (v := .tuple #[.bool false, .bool true]) (by simp [results, Try.results12, go_sem]) rfl ?_
          exact .mk true false (Lib.hid ⟨fun _ => HN.out.1 trivial, fun _ => rfl⟩) HT rfl hB2
        · have HI8 := Lib.hid (HI9.out (by omega))
          clear hnP HI9
          go_wp2
          go_roundw
          case rel => exact ⟨trivial, k + 1, by omega, by go_num, HI8⟩
          case measure => simp [intOf]; omega
      · obtain rfl : k = L.length := by omega
        have hAl : Hid (∀ v, SomeP M v → 0 ≤ cO gl v.toNat) := Lib.hid (fun v hv => by
          obtain ⟨i, hi, he⟩ := List.getElem_of_mem (hLi.out v hv)
          have := HI.out i hi hi
          rwa [he] at this)
        obtain ⟨v0, _⟩ := cell_of_block b2
        have x0 : wo.cell? ⟨w.heap.size, 0, none⟩ = some (.slice A s.parts.length c) := (v0 0).trans rfl
        have x1 : wo.cell? ⟨w.heap.size, 1, none⟩ = some (.int .i64 s.values) := (v0 1).trans rfl
        clear v0 HI hLi hLr hLs hrL
        go_wp2_with fail
        refine (HL.out _ hB2).mono ?_
        rintro e w3 ⟨vC, C, rfl, hvC, hRep, hb3⟩
        have hB3 := below_then hB2 hb3
        obtain ⟨AC, cC, rfl, _, _, hrC⟩ := rd_ints hvC
        have hCl := hRep.ln
        have hCl1 : C.length ≤ gl.length := by omega
        have hCl2 : gl.length ≤ C.length := by omega
        have hRep := Lib.hid hRep
        clear x0 x1 hb3 b2 hB2 HL hvC hCl
        go_wp2_with fail
        go_loopw [38] (fun i wr => ∃ k : Nat, k ≤ C.length ∧ i = .int .i64 k ∧ Below w3.heap.size w3 wr ∧ Hid (∀ q, q < k → ∀ v ∈ C.getD q [], cO gl q ≠ cO gl v.toNat)) (fun i _ => C.length - (intOf i).toNat)
        case atStart => exact ⟨0, Nat.zero_le _, rfl, Below.refl _ _, Lib.hid (fun q hq => by omega)⟩
        case round =>
          obtain ⟨k, hk, rfl, HB, HI⟩ := hrel
          rename World => wa
          by_cases hkt : k < C.length
          · rcases hrC with hn | ⟨bC, oC, rfl, hbC, hcC⟩
            · rw [hn] at hkt; simp at hkt
            obtain ⟨u, cu, hu⟩ := hcC k hkt
            have cu := cell_below HB cu
            have hu := hu.below HB
            have hgd : C.getD k [] = C[k] := by rw [List.getD_eq_getElem?_getD, List.getElem?_eq_getElem hkt]; rfl
            have hrg2 := Lib.hid (fun v hv => hRep.out.rg k v (by rw [hgd]; exact hv))
            have hcl2 := Lib.hid (fun v hv => (hRep.out.iff k v).1 (by rw [hgd]; exact hv))
            have HI9 : Hid ((∀ j (hj : j < C[k].length), cO gl k ≠ cO gl C[k][j].toNat) → ∀ q, q < k + 1 → ∀ v ∈ C.getD q [], cO gl q ≠ cO gl v.toNat) := Lib.hid (fun h q hq v hv => by
              rcases Nat.lt_or_eq_of_le (Nat.le_of_lt_succ hq) with h2 | rfl
              · exact HI.out q h2 v hv
              · rw [hgd] at hv
                obtain ⟨i, hi, rfl⟩ := List.getElem_of_mem hv
                exact h i hi)
            have k0 : (0 : Int) ≤ (k : Int) := Int.natCast_nonneg _
            have k1 : (k : Int) < (C.length : Int) := by omega
            have k2 : (k : Int) < (gl.length : Int) := by omega
            obtain ⟨R, hR⟩ : ∃ R, R = C[k] := ⟨_, rfl⟩
            rw [← hR] at hu hrg2 hcl2 HI9
            clear hR hcC hgd HI
            obtain ⟨AR, cR, rfl, _, _, hrR⟩ := rd_int hu
            go_wp2_with fail
            go_loopw [45] (fun i wr => ∃ j : Nat, j ≤ R.length ∧ i = .int .i64 j ∧ Below wa.heap.size wa wr ∧ Hid (∀ q (hq : q < R.length), q < j → cO gl k ≠ cO gl R[q].toNat)) (fun i _ => R.length - (intOf i).toNat)
            case atStart => exact ⟨0, Nat.zero_le _, rfl, Below.refl _ _, Lib.hid (fun q _ hq => by omega)⟩
            case round =>
              obtain ⟨j, hj, rfl, HBx, HJ⟩ := hrel
              rename World => wx
              by_cases hjt : j < R.length
              · rcases hrR with hn | ⟨bR, oR, rfl, hbR, hcR⟩
                · rw [hn] at hjt; simp at hjt
                have cv := cell_below HBx (hcR j hjt)
                have hr := hrg2.out _ (List.getElem_mem hjt)
                have hcl := Lib.hid (hcl2.out _ (List.getElem_mem hjt))
                have j0 : (0 : Int) ≤ (j : Int) := Int.natCast_nonneg _
                have j1 : (j : Int) < (R.length : Int) := by omega
                have HJ9 : Hid (cO gl k ≠ cO gl R[j].toNat → ∀ q (hq : q < R.length), q < j + 1 → cO gl k ≠ cO gl R[q].toNat) := Lib.hid (fun h q hq hqk => by
                  rcases Nat.lt_or_eq_of_le (Nat.le_of_lt_succ hqk) with h2 | rfl
                  · exact HJ.out q hq h2
                  · exact h)
                obtain ⟨x, hx⟩ : ∃ x, x = R[j] := ⟨_, rfl⟩
                rw [← hx] at cv hr hcl HJ9
                clear hx hcR HJ
                obtain ⟨x, rfl⟩ := Int.eq_ofNat_of_zero_le hr.1
                have hxg : x < gl.length := by omega
                have hBw := below_then (below_then hB3 HB) HBx
                have cx := hcg2.out _ hBw x hxg
                have ck := hcg2.out _ hBw k (by omega)
                rw [Int.toNat_natCast] at HJ9
                have hnP : Hid (cO gl k = cO gl x → ¬ P) := Lib.hid (fun h hp => (hP.out.1 hp).2 k _ hcl.out (by rw [Int.toNat_natCast]; exact h))
                have x0 : (0 : Int) ≤ (x : Int) := Int.natCast_nonneg _
                have x1 : (x : Int) < (gl.length : Int) := by omega
                obtain ⟨y, hy⟩ : ∃ y, y = cO gl x := ⟨_, rfl⟩
                obtain ⟨z, hz⟩ : ∃ z, z = cO gl k := ⟨_, rfl⟩
                rw [← hy] at cx
                rw [← hz] at ck
                rw [← hy, ← hz] at HJ9 hnP
                have hzE := Lib.hid hz
                clear hy hz
                by_cases hzy : z = y
                · have HT : Hid (TellP P true false) := Lib.hid ⟨fun h => Bool.noConfusion h, fun h => absurd h.2 (hnP.out hzy)⟩
                  subst hzy
                  clear hnP HJ9
                  go_wp2_with fail
                  go_quiet (fail)
                  go_wp2
                  refine bodyPost_ret (v := .tuple #[.bool false, .bool true]) (by simp [results, Try.results12, go_sem]) rfl ?_
                  exact .mk true false (Lib.hid ⟨fun _ => HN.out.1 trivial, fun _ => rfl⟩) HT rfl (by first | exact hBw | exact below_drewN hBw _ | exact below_drew hBw)
                · have HJ8 : Hid (∀ q (hq : q < R.length), q < j + 1 → cO gl k ≠ cO gl R[q].toNat) := Lib.hid (fun q hq hqk => by rw [← hzE.out]; exact HJ9.out hzy q hq hqk)
                  have hne : (z == y) = false := by rw [beq_eq_false_iff_ne]; exact hzy
                  clear hnP HJ9 hzy
                  go_wp2_with fail
                  go_quiet (fail)
                  go_wp2
                  go_roundw
                  case rel => exact ⟨j + 1, by omega, by go_num, by first | exact HBx | exact below_drewN HBx _ | exact below_drew HBx, HJ8⟩
                  case measure => simp [intOf]; omega
              · obtain rfl : j = R.length := by omega
                have HI8 := Lib.hid (HI9.out (fun q hq => HJ.out q hq hq))
                have HB9 := below_then HB HBx
                clear HI9 HJ
                go_wp2
                go_roundw
                case rel => exact ⟨k + 1, by omega, by go_num, HB9, HI8⟩
                case measure => simp [intOf]; omega
          · obtain rfl : k = C.length := by omega
            have HT : Hid (TellP P true true) := Lib.hid ⟨fun _ => ⟨rfl, hP.out.2 ⟨hAl.out, fun k v hc => by
              have hm := (hRep.out.iff k v).2 hc
              refine HI.out k ?_ v hm
              rcases Nat.lt_or_ge k C.length with h | h
              · exact h
              · rw [List.getD_eq_getElem?_getD, List.getElem?_eq_none h] at hm; cases hm⟩⟩, fun _ => rfl⟩
            have HBr := below_then hB3 HB
            clear HI hAl
            go_wp2
            refine bodyPost_ret (v := .tuple #[.bool true, .bool true]) (by simp [results, Try.results12, go_sem]) rfl ?_
            exact .mk true true (Lib.hid ⟨fun _ => HN.out.1 trivial, fun _ => rfl⟩) HT rfl HBr
  · have HN : Hid (false = true ↔ ColG s gl) := Lib.hid ⟨fun h => Bool.noConfusion h, fun h => absurd h.2 hNV⟩
    have HT : Hid (TellP P false false) := Lib.hid ⟨fun h => Bool.noConfusion h, fun h => Bool.noConfusion h.1⟩
    clear HA HL
    go_wp2
    refine bodyPost_ret (v := .tuple #[.bool false, .bool false]) (by simp [results, Try.results12, go_sem]) rfl ?_
    exact .mk false false HN HT rfl hB1
end Go.Proofs.Ytnfaibenekninaa.L

set_option linter.unusedVariables false
set_option linter.unusedSimpArgs false
namespace Go.Proofs.Ytnfaibenekninaa.L
open Go.RowKit
theorem infoSetZ : (Try.prog.info? 74).map (fun i => (i.zero, i.size, i.bytes)) = some (some (.slice none 0 0), 1, 24) := by kernel_rfl
/-- The rows of clashes and the values that are in some moment, as they lie. -/
structure CSt (N S0 T0 go co gs cs : Nat) (C : List (List Bool)) (S : List Bool) (w : World) : Prop where
  rc : ∀ R ∈ C, R.length = N
  ls : S.length = N
  sm : Ow true 4 Rp.bool w (fun q => q = gs) (.slice (some ⟨gs, 0, none⟩) N cs) S
  sb : S0 ≤ gs ∧ gs < T0
  ex : ∃ FO : Nat → Prop, (∀ q, FO q → S0 ≤ q ∧ q < T0 ∧ q ≠ gs) ∧ Ow true 74 (Rp.ow true 4 Rp.bool) w FO (.slice (some ⟨go, 0, none⟩) N co) C
theorem CSt.below {N S0 T0 go co gs cs : Nat} {C : List (List Bool)} {S : List Bool} {w w' : World} (h : CSt N S0 T0 go co gs cs C S w) (hb : Below w.heap.size w w') : CSt N S0 T0 go co gs cs C S w' := by
  obtain ⟨a, b, c, d, FO, e1, e2⟩ := h
  exact ⟨a, b, c.below hb, d, FO, e1, e2.below hb⟩
theorem CSt.setS {N S0 T0 go co gs cs : Nat} {C : List (List Bool)} {S S' : List Bool} {w w' : World} (h : CSt N S0 T0 go co gs cs C S w) (hc : Chg (fun q => q = gs) w w') (hl : S'.length = N) (hO : Ow true 4 Rp.bool w' (fun q => q = gs) (.slice (some ⟨gs, 0, none⟩) N cs) S') : CSt N S0 T0 go co gs cs C S' w' := by
  obtain ⟨a, b, c, d, FO, e1, e2⟩ := h
  exact ⟨a, hl, hO, d, FO, e1, e2.move (hc.same (fun q hq h => (e1 q hq).2.2 h))⟩
theorem CSt.row {N S0 T0 go co gs cs : Nat} {C : List (List Bool)} {S : List Bool} {w : World} (h : CSt N S0 T0 go co gs cs C S w) (hN : 0 < N) {k : Nat} (hk : k < N) :
    ∃ (G : Nat → Prop) (g c : Nat), w.cell? ⟨go, k, none⟩ = some (.slice (some ⟨g, 0, none⟩) N c) ∧ (C.getD k []).length = N ∧ (∀ q, G q → S0 ≤ q ∧ q < T0 ∧ q ≠ go ∧ q ≠ gs) ∧ Ow true 4 Rp.bool w G (.slice (some ⟨g, 0, none⟩) N c) (C.getD k []) ∧
      ∀ (w' : World) (y : List Bool), y.length = N → Chg G w w' → Ow true 4 Rp.bool w' G (.slice (some ⟨g, 0, none⟩) N c) y → CSt N S0 T0 go co gs cs (C.set k y) S w' := by
  obtain ⟨a, b, c, d, FO, e1, e2⟩ := h
  have hkl : k < C.length := by rw [← e2.len_eq]; exact hk
  obtain ⟨G, u, cu, -, hGF, hOu, hback⟩ := e2.focus hkl
  have hg : C.getD k [] = C[k] := by rw [List.getD_eq_getElem?_getD, List.getElem?_eq_getElem hkl]; rfl
  have hl : C[k].length = N := a _ (List.getElem_mem hkl)
  obtain ⟨g, c', rfl, _, _⟩ := hOu.some_form (by omega)
  rw [hl] at cu hOu hback
  rw [hg]
  refine ⟨G, g, c', cu, hl, fun q hq => ⟨(e1 q (hGF q hq).1).1, (e1 q (hGF q hq).1).2.1, (hGF q hq).2, (e1 q (hGF q hq).1).2.2⟩, hOu, fun w' y hy hC hO' => ?_⟩
  refine ⟨fun R hR => ?_, b, c.move (hC.same (fun q hq h => (e1 q (hGF q h).1).2.2 hq)), d, FO, e1, hback w' y (fun q hq hn => hC.block q hq hn) hO'⟩
  rcases List.mem_or_eq_of_mem_set hR with hR | rfl
  · exact a R hR
  · exact hy
inductive ClashRes (s : Sa) (N : Nat) (w : World) (e : Ending) (w' : World) : Prop where
  | mk (go co gs cs : Nat) (C : List (List Bool)) (S : List Bool) (he : e = .returned (.tuple #[.slice (some ⟨go, 0, none⟩) N co, .slice (some ⟨gs, 0, none⟩) N cs])) (hC : Ow true 74 (Rp.ow true 4 Rp.bool) w' (fun q => w.heap.size ≤ q) (.slice (some ⟨go, 0, none⟩) N co) C)
      (hS : Ow true 4 Rp.bool w' (fun q => w.heap.size ≤ q) (.slice (some ⟨gs, 0, none⟩) N cs) S) (hR : RepB N C (ClP (momS s))) (hl : S.length = N) (hs : Hid (∀ v, InB S v ↔ SomeP (momS s) v)) (hb : Below w.heap.size w w') : ClashRes s N w e w'
set_option maxRecDepth 100000 in
set_option maxHeartbeats 16000000 in
theorem clashesI_calls {F : Nat → Prop} (s : Sa) (N vb : Nat) (vparts vn vd vD vT : Value) (w : World) (hv : w.heap[vb]? = some (viewC vparts s.values vn vd vD vT)) (hs : Rp.Rd part w F vparts s.parts) (hg : GoodP s) (hx2 : ∀ p ∈ s.parts, PtLim p) (hNV : (N : Int) = s.values) :
    Calls Try.prog 51 #[.pointer (some ⟨vb, 0, none⟩)] w (ClashRes s N w) := by
  have hv1 := hg.v1
  have hv2 := hg.v2
  have hN0 : 0 < N := by omega
  have hN1 : N ≤ 250 := by omega
  have hvl := blk_lt hv
  have HM := Lib.hid (fun W (hW : Below w.heap.size w W) => momentsM_calls s N vb vparts vn vd vD vT W (blk_below hv hW) (hs.below hW) hg hx2 hNV)
  have HMs : Hid (∀ m ∈ momS s, ∀ v ∈ m, 0 ≤ v ∧ v < (N : Int)) := Lib.hid (fun m hm v hv => by have := (momS_sets hg m hm).2 v hv; omega)
  rw [← hNV] at hv
  have hvN := hv
  replace hNV := Lib.hid hNV
  have j0 : (0 : Int) ≤ (N : Int) := Int.natCast_nonneg _
  have hBd : Below w.heap.size w w.drew := below_drew (Below.refl _ _)
  have hmk1 := mk_all Try.underlying72 infoSetZ N (by omega) (by omega)
  have hmk2 := mk_all Try.underlying74 infoBool N (by omega) (by omega)
  obtain ⟨v0, v1, v2, v3, v4, v5⟩ := view_cells hv
  obtain ⟨M, hM⟩ : ∃ M, M = momS s := ⟨_, rfl⟩
  rw [← hM] at HM HMs
  replace hM := Lib.hid hM
  go_enter Try.func51, Try.ntmps51
  go_wp2_with fail
  refine wp_region_held_drew (S := (fun w' => w'.cell? ⟨vb, 1, none⟩ = some (.int .i64 (N : Int)))) (by kernel_rfl) v1 (fun hH0 => ?_)
  clear v0 v2 v3 v4 v5
  refine wpAnyH_take (i := 0) (v := ?_) rfl (by kernel_rfl) (by kernel_rfl) (by kernel_rfl) (fun _ _ _ h => h) (Or.inl ⟨by rfl, ?_⟩) (by assumption) ?_
  rotate_left 1
  focus ((intro w hSw; (try dsimp only at hSw); go_simp); try with_reducible rfl)
  try simp only [Act.put, Array.getInternal_eq_getElem, List.getElem_toArray, List.getElem_cons_zero, List.getElem_cons_succ, List.setIfInBounds_toArray, List.set_cons_zero, List.set_cons_succ]
  refine wpAnyH_take (i := 1) (v := ?_) rfl (by kernel_rfl) (by kernel_rfl) (by kernel_rfl) (fun _ _ _ h => h) (Or.inl ⟨by rfl, ?_⟩) (by assumption) ?_
  rotate_left 1
  focus ((intro w hSw; (try dsimp only at hSw); go_simp); try with_reducible rfl)
  try simp only [Act.put, Array.getInternal_eq_getElem, List.getElem_toArray, List.getElem_cons_zero, List.getElem_cons_succ, List.setIfInBounds_toArray, List.set_cons_zero, List.set_cons_succ]
  refine wpAnyH_take (i := 2) (v := ?_) rfl (by kernel_rfl) (by kernel_rfl) (by kernel_rfl) (fun _ _ _ h => h) (Or.inl ⟨by rfl, ?_⟩) (by assumption) ?_
  rotate_left 1
  focus ((intro w hSw; (try dsimp only at hSw); go_simp); try with_reducible rfl)
  try simp only [Act.put, Array.getInternal_eq_getElem, List.getElem_toArray, List.getElem_cons_zero, List.getElem_cons_succ, List.setIfInBounds_toArray, List.set_cons_zero, List.set_cons_succ]
  refine wpAnyH_take (i := 3) (v := ?_) rfl (by kernel_rfl) (by kernel_rfl) (by kernel_rfl) (fun _ _ _ h => h) (Or.inl ⟨by rfl, ?_⟩) (by assumption) ?_
  rotate_left 1
  focus ((intro w hSw; (try dsimp only at hSw); go_simp); try with_reducible rfl)
  try simp only [Act.put, Array.getInternal_eq_getElem, List.getElem_toArray, List.getElem_cons_zero, List.getElem_cons_succ, List.setIfInBounds_toArray, List.set_cons_zero, List.set_cons_succ]
  refine wpAnyH_take (i := 4) (v := ?_) rfl (by kernel_rfl) (by kernel_rfl) (by kernel_rfl) (fun _ _ _ h => h) (Or.inl ⟨by rfl, ?_⟩) (by assumption) ?_
  rotate_left 1
  focus ((intro w hSw; (try dsimp only at hSw); go_simp); try with_reducible rfl)
  try simp only [Act.put, Array.getInternal_eq_getElem, List.getElem_toArray, List.getElem_cons_zero, List.getElem_cons_succ, List.setIfInBounds_toArray, List.set_cons_zero, List.set_cons_succ]
  refine wpAnyH_take (i := 6) (v := ?_) rfl (by kernel_rfl) (by kernel_rfl) (by kernel_rfl) (fun _ _ _ h => h) (Or.inl ⟨by rfl, ?_⟩) (by assumption) ?_
  rotate_left 1
  focus ((intro w hSw; (try dsimp only at hSw); go_simp); try with_reducible rfl)
  try simp only [Act.put, Array.getInternal_eq_getElem, List.getElem_toArray, List.getElem_cons_zero, List.getElem_cons_succ, List.setIfInBounds_toArray, List.set_cons_zero, List.set_cons_succ]
  refine wpAnyH_take (i := 7) (v := ?_) rfl (by kernel_rfl) (by kernel_rfl) (by kernel_rfl) (fun _ _ _ h => h) (Or.inl ⟨by rfl, ?_⟩) (by assumption) ?_
  rotate_left 1
  focus ((intro w hSw; (try dsimp only at hSw); go_simp); try with_reducible rfl)
  try simp only [Act.put, Array.getInternal_eq_getElem, List.getElem_toArray, List.getElem_cons_zero, List.getElem_cons_succ, List.setIfInBounds_toArray, List.set_cons_zero, List.set_cons_succ]
  refine wpAnyH_take (i := 8) (v := ?_) rfl (by kernel_rfl) (by kernel_rfl) (by kernel_rfl) (fun _ _ _ h => h) (Or.inl ⟨by rfl, ?_⟩) (by assumption) ?_
  rotate_left 1
  focus ((intro w hSw; (try dsimp only at hSw); go_simp); try with_reducible rfl)
  try simp only [Act.put, Array.getInternal_eq_getElem, List.getElem_toArray, List.getElem_cons_zero, List.getElem_cons_succ, List.setIfInBounds_toArray, List.set_cons_zero, List.set_cons_succ]
  refine wpAnyH_take (i := 9) (v := ?_) rfl (by kernel_rfl) (by kernel_rfl) (by kernel_rfl) (fun _ _ _ h => h) (Or.inl ⟨by rfl, ?_⟩) (by assumption) ?_
  rotate_left 1
  focus ((intro w hSw; (try dsimp only at hSw); go_simp); try with_reducible rfl)
  try simp only [Act.put, Array.getInternal_eq_getElem, List.getElem_toArray, List.getElem_cons_zero, List.getElem_cons_succ, List.setIfInBounds_toArray, List.set_cons_zero, List.set_cons_succ]
  refine wpAnyH_take (i := 10) (v := ?_) rfl (by kernel_rfl) (by kernel_rfl) (by kernel_rfl) (fun _ _ _ h => h) (Or.inl ⟨by rfl, ?_⟩) (by assumption) ?_
  rotate_left 1
  focus ((intro w hSw; (try dsimp only at hSw); go_simp); try with_reducible rfl)
  try simp only [Act.put, Array.getInternal_eq_getElem, List.getElem_toArray, List.getElem_cons_zero, List.getElem_cons_succ, List.setIfInBounds_toArray, List.set_cons_zero, List.set_cons_succ]
  have v1 : w.drew.cell? ⟨vb, 1, none⟩ = some (.int .i64 (N : Int)) := v1
  generalize w.drew = wd at *
  refine wpAnyH_ready (rs := [5, 11]) (by kernel_rfl) (by simp) ?_
  refine AllReadyH.cons rfl (fun K1 hK1 => ?_) (AllReadyH.cons rfl (fun K1 hK1 => ?_) AllReadyH.nil)
  · go_simp
    have hbW1 := below_new (w := wd) (.cells (madeCells #[.slice none 0 0] N) 74)
    have hOW1 := ow_allocE (e := 74) (n := N) (r := Rp.ow true 4 Rp.bool) (z := .slice none 0 0) (x0 := []) wd (by omega) rfl (fun w => ⟨_, rfl, Ow.nil _ _ _ _ _⟩)
    have hzW1 : (wd.alloc (.cells (madeCells #[.slice none 0 0] N) 74)).heap.size = wd.heap.size + 1 := by simp
    have v1 := cell_below hbW1 v1
    refine hK1.out _ _ v1 (fun _ => ?_)
    clear hK1 K1
    generalize wd.alloc (.cells (madeCells #[.slice none 0 0] N) 74) = W1 at *
    try simp only [Act.put, List.setIfInBounds_toArray, List.set_cons_zero, List.set_cons_succ]
    refine wpAnyH_take (i := 12) (v := ?_) rfl (by kernel_rfl) (by kernel_rfl) (by kernel_rfl) (fun _ _ _ h => h) (Or.inl ⟨by rfl, ?_⟩) (by assumption) ?_
    rotate_left 1
    focus ((intro w hSw; (try dsimp only at hSw); go_simp); try with_reducible rfl)
    try simp only [Act.put, Array.getInternal_eq_getElem, List.getElem_toArray, List.getElem_cons_zero, List.getElem_cons_succ, List.setIfInBounds_toArray, List.set_cons_zero, List.set_cons_succ]
    refine wpAnyH_ready (rs := [11]) (by kernel_rfl) (by simp) ?_
    refine AllReadyH.cons rfl (fun K1 hK1 => ?_) AllReadyH.nil
    · go_simp
      have hbW2 := below_new (w := W1) (.cells (madeCells #[.bool false] N) 4)
      have hOW2 := ow_allocE (e := 4) (n := N) (r := Rp.bool) (z := .bool false) (x0 := false) W1 (by omega) rfl (fun w => rfl)
      have hzW2 : (W1.alloc (.cells (madeCells #[.bool false] N) 4)).heap.size = W1.heap.size + 1 := by simp
      have v1 := cell_below hbW2 v1
      refine hK1.out _ _ v1 (fun _ => ?_)
      clear hK1 K1
      generalize W1.alloc (.cells (madeCells #[.bool false] N) 4) = W2 at *
      try simp only [Act.put, List.setIfInBounds_toArray, List.set_cons_zero, List.set_cons_succ]
      refine wpAnyH_take (i := 13) (v := ?_) rfl (by kernel_rfl) (by kernel_rfl) (by kernel_rfl) (fun _ _ _ h => h) (Or.inl ⟨by rfl, ?_⟩) (by assumption) ?_
      rotate_left 1
      focus ((intro w hSw; (try dsimp only at hSw); go_simp); try with_reducible rfl)
      try simp only [Act.put, Array.getInternal_eq_getElem, List.getElem_toArray, List.getElem_cons_zero, List.getElem_cons_succ, List.setIfInBounds_toArray, List.set_cons_zero, List.set_cons_succ]
      refine wpAnyH_done (by kernel_rfl) ?_ _
      have hBW := below_then (below_then hBd hbW1) hbW2
      have hcO : Ow true 74 (Rp.ow true 4 Rp.bool) W2 (fun q => w.heap.size ≤ q ∧ q ≠ W1.heap.size) (.slice (some ⟨wd.heap.size, 0, none⟩) N N) (List.replicate N []) := (hOW1.below hbW2).mono (fun q hq => by have hq : q = wd.heap.size := hq; have := hBd.size; omega)
      have hcS : Ow true 4 Rp.bool W2 (fun q => q = W1.heap.size) (.slice (some ⟨W1.heap.size, 0, none⟩) N N) (List.replicate N false) := hOW2
      have hgs : w.heap.size ≤ W1.heap.size ∧ W1.heap.size < W2.heap.size := by have := hBd.size; omega
      clear hOW1 hOW2 hbW1 hbW2 hH0 v1
      have hgg := hzW1
      generalize W1.heap.size = gs at *
      generalize wd.heap.size = go at *
      rw [← hgg]
      clear hzW1 hzW2 hBd hgg
      have hv2 := blk_below hvN hBW
      go_wp2_with fail
      go_loopw [26] (fun i wr => ∃ k : Nat, k ≤ N ∧ i = .int .i64 k ∧ Ow true 74 (Rp.ow true 4 Rp.bool) wr (fun q => w.heap.size ≤ q ∧ q ≠ gs) (.slice (some ⟨go, 0, none⟩) N N) (List.replicate k (List.replicate N false) ++ List.replicate (N - k) []) ∧ Ow true 4 Rp.bool wr (fun q => q = gs) (.slice (some ⟨gs, 0, none⟩) N N) (List.replicate N false) ∧ Below w.heap.size w wr ∧ gs < wr.heap.size) (fun i _ => N - (intOf i).toNat)
      case atStart => exact ⟨0, Nat.zero_le _, rfl, by simpa using hcO, hcS, hBW, hgs.2⟩
      case round =>
        clear hcO hcS hBW hv2
        obtain ⟨k, hk, rfl, HO, HS, HB, hz⟩ := hrel
        rename World => wo
        by_cases hkt : k < N
        · have hv1 := blk_below hvN HB
          obtain ⟨v0, v1, v2, v3, v4, v5⟩ := view_cells hv1
          have hkL : k < (List.replicate k (List.replicate N false) ++ List.replicate (N - k) ([] : List Bool)).length := by simp; omega
          have hset : (List.replicate k (List.replicate N false) ++ List.replicate (N - k) ([] : List Bool)).set k (List.replicate N false) = List.replicate (k + 1) (List.replicate N false) ++ List.replicate (N - (k + 1)) [] := by
            have e1 : N - k = (N - (k + 1)) + 1 := by omega
            rw [e1, List.replicate_succ, List.set_append_right _ _ (by simp), List.length_replicate, Nat.sub_self, List.set_cons_zero, List.replicate_succ' (n := k), List.append_assoc]
            rfl
          have hb2 := below_new (w := wo) (.cells (madeCells #[.bool false] N) 4)
          have hO2 := ow_allocE (e := 4) (n := N) (r := Rp.bool) (z := .bool false) (x0 := false) wo (by omega) rfl (fun w => rfl)
          have hzn : (wo.alloc (.cells (madeCells #[.bool false] N) 4)).heap.size = wo.heap.size + 1 := by simp
          have HO2 := HO.bound.below hb2
          obtain ⟨_, u0, cu0, fu0, -⟩ := HO2.focus hkL
          have HO3 := HO2.put1 (G := fun q => q = wo.heap.size) rfl hkL (y := List.replicate N false) (u := .slice (some ⟨wo.heap.size, 0, none⟩) N N) ⟨_, rfl, hO2⟩ (fun q hq h => by have := h.2; have hq : q = wo.heap.size := hq; omega)
          rw [hset] at HO3
          have hgo := (HO.lt_size (k := go) rfl).1
          have HO4 := HO3.mono (G := fun q => w.heap.size ≤ q ∧ q ≠ gs) (fun q hq => by rcases hq with hq | hq; exact hq.1; (have hq : q = wo.heap.size := hq; have := HB.size; omega))
          have HS2 := HS.below hb2
          have hC := Chg.set (w := wo.alloc (.cells (madeCells #[.bool false] N) 4)) (b := go) (o := k) (u := .slice (some ⟨wo.heap.size, 0, none⟩) N N) (A := fun q => q = go) rfl
          have HS3 := HS2.move (hC.same (fun q hq h => by have hq : q = gs := hq; have h : q = go := h; omega))
          have HB2 := below_then HB hb2
          have HB3 := hC.to_below HB2 HB2.size (fun q hq => by have hq : q = go := hq; omega)
          have hz3 := hC.size
          have i0 : (0 : Int) ≤ (k : Int) := Int.natCast_nonneg _
          have i1 : (k : Int) < (N : Int) := by omega
          clear HO HS HO2 HO3 hO2 HS2 hset
          go_wp2_with fail
          go_roundw
          case rel => exact ⟨k + 1, by omega, by go_num, HO4, HS3, HB3, by omega⟩
          case measure => simp [intOf]; omega
        · obtain rfl : k = N := by omega
          rw [Nat.sub_self, List.replicate_zero, List.append_nil] at HO
          have HCS : CSt k w.heap.size wo.heap.size go k gs k (List.replicate k (List.replicate k false)) (List.replicate k false) wo := ⟨by simp, by simp, HS, ⟨hgs.1, hz⟩, _, fun q hq => ⟨hq.1.1, hq.2, hq.1.2⟩, HO.bound⟩
          have hR0 := RepB.nil k
          have HM1 := Lib.hid (HM.out _ HB)
          clear HO HS
          go_wp2_with fail
          refine HM1.out.mono ?_
          rintro e w4 ⟨vL, rfl, hvL, hb4⟩
          have HCS := HCS.below hb4
          have HB4 := below_then HB hb4
          have hs4 := hb4.size
          obtain ⟨AL, cL, rfl, hl1, hl2, -⟩ := rd_ints hvL
          have hswo := HB.size
          clear HM1 HB hb4
          go_wp2_with fail
          go_loopw [42] (fun i wr => ∃ (q : Nat) (C : List (List Bool)) (S : List Bool), q ≤ M.length ∧ i = .int .i64 q ∧ CSt k w.heap.size wo.heap.size go k gs k C S wr ∧ RepB k C (CB0 (M.take q)) ∧ Hid (∀ v, InB S v ↔ SomeP (M.take q) v) ∧ Chg (fun r => w.heap.size ≤ r ∧ r < wo.heap.size) w4 wr) (fun i _ => M.length - (intOf i).toNat)
          case atStart => exact ⟨0, _, _, Nat.zero_le _, rfl, HCS, hR0.congr (fun a b => by simp [CB0]), Lib.hid (fun v => ⟨fun h => absurd h InB_rep, fun h => by simp [SomeP] at h⟩), Chg.refl _ _⟩
          case round =>
            clear HCS hR0
            obtain ⟨q, C, S, hq, rfl, HCS, HR, HSo, HCh⟩ := hrel
            rename World => wx
            by_cases hqt : q < M.length
            · have hvx := hvL.move (HCh.same (fun r hr h => by have hr : wo.heap.size ≤ r := hr; omega))
              obtain ⟨A', c', he, -, -, hrow⟩ := rd_ints hvx
              injection he with he1 _ he3
              subst he1
              subst he3
              rcases hrow with hnil | ⟨b, o, rfl, hbx, hcell⟩
              · rw [hnil] at hqt; simp at hqt
              obtain ⟨u, cu, hu⟩ := hcell q hqt
              obtain ⟨Au, ku, rfl, hu1, hu2, -⟩ := rd_int hu
              obtain ⟨m, hm⟩ : ∃ m, m = M[q] := ⟨_, rfl⟩
              obtain ⟨M0, hM0⟩ : ∃ M0, M0 = M.take q := ⟨_, rfl⟩
              have hmv : Hid (∀ v ∈ m, 0 ≤ v ∧ v < (k : Int)) := Lib.hid (by rw [hm]; exact HMs.out _ (List.getElem_mem hqt))
              have hCB : Hid (∀ (a : Nat) (v : Int), CB1 M0 m m.length a v ↔ CB0 (M.take (q + 1)) a v) := Lib.hid (by rw [hm, hM0]; exact fun a b => CB1_all hqt)
              have hSA : Hid (∀ v, InB (addB S m) v ↔ SomeP (M.take (q + 1)) v) := Lib.hid (by rw [hm]; exact some_add hqt HSo.out (fun v hv => by rw [HCS.ls]; rw [← hm] at hv; exact hmv.out v hv))
              have HR : RepB k C (CB1 M0 m 0) := by rw [hM0]; exact HR.congr (fun a b => CB1_zero)
              rw [← hm] at hu cu hu1
              have hux := hu
              have HAd := Lib.hid (setAddN_calls gs k k S _ m (fun r => r = gs) wx HCS.ls HCS.sm hu (fun r hr h => by have h : r = gs := h; have hr : wo.heap.size ≤ r := hr; have := HCS.sb; omega) hmv.out)
              have q0 : (0 : Int) ≤ (q : Int) := Int.natCast_nonneg _
              have q1 : (q : Int) < (M.length : Int) := by omega
              clear hcell hvx hm hM0 HSo
              go_wp2_with fail
              refine HAd.out.mono ?_
              rintro e w5 ⟨rfl, hO5, hC5⟩
              have HCS5 := HCS.setS hC5 (by rw [addB_len]; exact HCS.ls) hO5
              have HCx5 : Chg (fun r => w.heap.size ≤ r ∧ r < wo.heap.size) wx w5 := hC5.mono (fun r hr => by have hr : r = gs := hr; subst hr; exact HCS.sb)
              have HCh5 := HCh.trans HCx5
              generalize addB S m = S5 at *
              clear HAd hO5 hC5 HCS HCh hu
              have hu5 := hux
              go_wp2_with fail
              go_loopw [51] (fun i wr => ∃ (j : Nat) (C : List (List Bool)), j ≤ m.length ∧ i = .int .i64 j ∧ CSt k w.heap.size wo.heap.size go k gs k C S5 wr ∧ RepB k C (CB1 M0 m j) ∧ Chg (fun r => w.heap.size ≤ r ∧ r < wo.heap.size) w4 wr ∧ Chg (fun r => w.heap.size ≤ r ∧ r < wo.heap.size) wx wr) (fun i _ => m.length - (intOf i).toNat)
              case atStart => exact ⟨0, C, Nat.zero_le _, rfl, HCS5, HR, HCh5, HCx5⟩
              case round =>
                clear HCS5 HR HCh5 HCx5
                obtain ⟨j, C, hj, rfl, HCS, HR, HCh, HCx⟩ := hrel
                rename World => wy
                by_cases hjt : j < m.length
                · have huy := hu5.move (HCx.same (fun r hr h => by have hr : wo.heap.size ≤ r := hr; omega))
                  obtain ⟨A3, c3, he, -, -, hrow3⟩ := rd_int huy
                  injection he with he1 _ he3
                  subst he1
                  subst he3
                  rcases hrow3 with hnil | ⟨b3, o3, rfl, hb3, hc3⟩
                  · rw [hnil] at hjt; simp at hjt
                  have cx := hc3 j hjt
                  have hmj := hmv.out _ (List.getElem_mem hjt)
                  obtain ⟨a, ha⟩ := Int.eq_ofNat_of_zero_le hmj.1
                  have hak : a < k := by omega
                  have HR2 := Lib.hid (HR.add hjt hmv.out ha.symm)
                  obtain ⟨G, g, cg, cu3, hRl, hGF, hOr, hback⟩ := HCS.row (by omega) hak
                  rw [ha] at cx
                  obtain ⟨Ra, hRa⟩ : ∃ Ra, Ra = C.getD a [] := ⟨_, rfl⟩
                  rw [← hRa] at HR2 hRl hOr
                  have HAd := Lib.hid (setAddN_calls g cg k Ra _ m G wy hRl hOr huy (fun r hr h => by have hr : wo.heap.size ≤ r := hr; have := hGF r h; omega) hmv.out)
                  have j0 : (0 : Int) ≤ (j : Int) := Int.natCast_nonneg _
                  have j1 : (j : Int) < (m.length : Int) := by omega
                  have a0 : (0 : Int) ≤ (a : Int) := Int.natCast_nonneg _
                  have a1 : (a : Int) < (k : Int) := by omega
                  replace hback := Lib.hid hback
                  replace hRl := Lib.hid hRl
                  clear hc3 ha hRa hmj
                  go_wp2_with fail
                  refine HAd.out.mono ?_
                  rintro e w6 ⟨rfl, hO6, hC6⟩
                  have HCS6 := hback.out w6 _ (by rw [addB_len]; exact hRl.out) hC6 hO6
                  have hX : Chg (fun r => w.heap.size ≤ r ∧ r < wo.heap.size) wy w6 := hC6.mono (fun r hr => by have := hGF r hr; exact ⟨this.1, this.2.1⟩)
                  have HCh6 := HCh.trans hX
                  have HCx6 := HCx.trans hX
                  clear HAd hback hO6 hC6 hX HCS HCh HCx hOr huy cu3
                  go_wp2
                  go_roundw
                  case rel => exact ⟨j + 1, _, by omega, by go_num, HCS6, HR2.out, HCh6, HCx6⟩
                  case measure => simp [intOf]; omega
                · obtain rfl : j = m.length := by omega
                  have HR2 := HR.congr hCB.out
                  go_wp2
                  go_roundw
                  case rel => exact ⟨q + 1, C, S5, by omega, by go_num, HCS, HR2, hSA, HCh⟩
                  case measure => simp [intOf]; omega
            · obtain rfl : q = M.length := by omega
              rw [List.take_length] at HR HSo
              have HR := HR.congr (fun a b => CD_zero (M := M))
              go_wp2_with fail
              go_loopw [65] (fun i wr => ∃ (n : Nat) (C : List (List Bool)), n ≤ k ∧ i = .int .i64 n ∧ CSt k w.heap.size wo.heap.size go k gs k C S wr ∧ RepB k C (CD M n) ∧ Chg (fun r => w.heap.size ≤ r ∧ r < wo.heap.size) w4 wr) (fun i _ => k - (intOf i).toNat)
              case atStart => exact ⟨0, C, Nat.zero_le _, rfl, HCS, HR, HCh⟩
              case round =>
                clear HCS HR HCh
                obtain ⟨n, C, hn, rfl, HCS, HR, HCh⟩ := hrel
                rename World => wz
                by_cases hnt : n < k
                · obtain ⟨G, g, cg, cu3, hRl, hGF, hOr, hback⟩ := HCS.row (by omega) hnt
                  have hR2 := HR.diag hnt
                  have hnl : n < (C.getD n []).length := by omega
                  have hO6 := hOr.set1 rfl hnl (y := false) (u := .bool false) rfl
                  obtain ⟨d1, d2⟩ := bool_at hOr hnl
                  have hgG := (hOr.lt_size (k := g) rfl).1
                  have hC6 : Chg G wz (wz.setCell ⟨g, n, none⟩ (.bool false)) := Chg.set hgG
                  have HCS6 := hback _ _ (by rw [List.length_set]; exact hRl) hC6 hO6
                  have HCh6 := HCh.trans (hC6.mono (fun r hr => by have := hGF r hr; exact ⟨this.1, this.2.1⟩))
                  have n0 : (0 : Int) ≤ (n : Int) := Int.natCast_nonneg _
                  have n1 : (n : Int) < (k : Int) := by omega
                  clear HCS HCh hback hOr hO6 hC6 HR
                  generalize (C.getD n [])[n] = yb at *
                  go_wp2
                  go_roundw
                  case rel => exact ⟨n + 1, _, by omega, by go_num, HCS6, hR2, HCh6⟩
                  case measure => simp [intOf]; omega
                · obtain rfl : n = k := by omega
                  have hM := hM.out
                  subst hM
                  have hfin := HR.congr (fun a b => CD_all (N := n) HMs.out)
                  have HBe := HCh.to_below HB4 HB4.size (fun r hr => hr.1)
                  obtain ⟨FO, hFO, hOO⟩ := HCS.ex
                  go_wp2
                  refine bodyPost_ret (v := .tuple #[.slice (some ⟨go, 0, none⟩) n n, .slice (some ⟨gs, 0, none⟩) n n]) (by simp [results, Try.results51, go_sem]) rfl ?_
                  exact .mk go n gs n C S rfl (hOO.mono (fun r hr => (hFO r hr).1)) (HCS.sm.mono (fun r hr => by have hr : r = gs := hr; have := HCS.sb; omega)) hfin HCS.ls HSo HBe
  · go_simp
    have hbW1 := below_new (w := wd) (.cells (madeCells #[.bool false] N) 4)
    have hOW1 := ow_allocE (e := 4) (n := N) (r := Rp.bool) (z := .bool false) (x0 := false) wd (by omega) rfl (fun w => rfl)
    have hzW1 : (wd.alloc (.cells (madeCells #[.bool false] N) 4)).heap.size = wd.heap.size + 1 := by simp
    have v1 := cell_below hbW1 v1
    refine hK1.out _ _ v1 (fun _ => ?_)
    clear hK1 K1
    generalize wd.alloc (.cells (madeCells #[.bool false] N) 4) = W1 at *
    try simp only [Act.put, List.setIfInBounds_toArray, List.set_cons_zero, List.set_cons_succ]
    refine wpAnyH_ready (rs := [5]) (by kernel_rfl) (by simp) ?_
    refine AllReadyH.cons rfl (fun K1 hK1 => ?_) AllReadyH.nil
    · go_simp
      have hbW2 := below_new (w := W1) (.cells (madeCells #[.slice none 0 0] N) 74)
      have hOW2 := ow_allocE (e := 74) (n := N) (r := Rp.ow true 4 Rp.bool) (z := .slice none 0 0) (x0 := []) W1 (by omega) rfl (fun w => ⟨_, rfl, Ow.nil _ _ _ _ _⟩)
      have hzW2 : (W1.alloc (.cells (madeCells #[.slice none 0 0] N) 74)).heap.size = W1.heap.size + 1 := by simp
      have v1 := cell_below hbW2 v1
      refine hK1.out _ _ v1 (fun _ => ?_)
      clear hK1 K1
      generalize W1.alloc (.cells (madeCells #[.slice none 0 0] N) 74) = W2 at *
      try simp only [Act.put, List.setIfInBounds_toArray, List.set_cons_zero, List.set_cons_succ]
      refine wpAnyH_take (i := 12) (v := ?_) rfl (by kernel_rfl) (by kernel_rfl) (by kernel_rfl) (fun _ _ _ h => h) (Or.inl ⟨by rfl, ?_⟩) (by assumption) ?_
      rotate_left 1
      focus ((intro w hSw; (try dsimp only at hSw); go_simp); try with_reducible rfl)
      try simp only [Act.put, Array.getInternal_eq_getElem, List.getElem_toArray, List.getElem_cons_zero, List.getElem_cons_succ, List.setIfInBounds_toArray, List.set_cons_zero, List.set_cons_succ]
      refine wpAnyH_take (i := 13) (v := ?_) rfl (by kernel_rfl) (by kernel_rfl) (by kernel_rfl) (fun _ _ _ h => h) (Or.inl ⟨by rfl, ?_⟩) (by assumption) ?_
      rotate_left 1
      focus ((intro w hSw; (try dsimp only at hSw); go_simp); try with_reducible rfl)
      try simp only [Act.put, Array.getInternal_eq_getElem, List.getElem_toArray, List.getElem_cons_zero, List.getElem_cons_succ, List.setIfInBounds_toArray, List.set_cons_zero, List.set_cons_succ]
      refine wpAnyH_done (by kernel_rfl) ?_ _
      have hBW := below_then (below_then hBd hbW1) hbW2
      have hcO : Ow true 74 (Rp.ow true 4 Rp.bool) W2 (fun q => w.heap.size ≤ q ∧ q ≠ wd.heap.size) (.slice (some ⟨W1.heap.size, 0, none⟩) N N) (List.replicate N []) := (hOW2).mono (fun q hq => by have hq : q = W1.heap.size := hq; have := hBd.size; omega)
      have hcS : Ow true 4 Rp.bool W2 (fun q => q = wd.heap.size) (.slice (some ⟨wd.heap.size, 0, none⟩) N N) (List.replicate N false) := hOW1.below hbW2
      have hgs : w.heap.size ≤ wd.heap.size ∧ wd.heap.size < W2.heap.size := by have := hBd.size; omega
      clear hOW1 hOW2 hbW1 hbW2 hH0 v1
      have hgg := hzW1
      generalize wd.heap.size = gs at *
      generalize W1.heap.size = go at *
      rw [← hgg]
      clear hzW1 hzW2 hBd hgg
      have hv2 := blk_below hvN hBW
      go_wp2_with fail
      go_loopw [26] (fun i wr => ∃ k : Nat, k ≤ N ∧ i = .int .i64 k ∧ Ow true 74 (Rp.ow true 4 Rp.bool) wr (fun q => w.heap.size ≤ q ∧ q ≠ gs) (.slice (some ⟨go, 0, none⟩) N N) (List.replicate k (List.replicate N false) ++ List.replicate (N - k) []) ∧ Ow true 4 Rp.bool wr (fun q => q = gs) (.slice (some ⟨gs, 0, none⟩) N N) (List.replicate N false) ∧ Below w.heap.size w wr ∧ gs < wr.heap.size) (fun i _ => N - (intOf i).toNat)
      case atStart => exact ⟨0, Nat.zero_le _, rfl, by simpa using hcO, hcS, hBW, hgs.2⟩
      case round =>
        clear hcO hcS hBW hv2
        obtain ⟨k, hk, rfl, HO, HS, HB, hz⟩ := hrel
        rename World => wo
        by_cases hkt : k < N
        · have hv1 := blk_below hvN HB
          obtain ⟨v0, v1, v2, v3, v4, v5⟩ := view_cells hv1
          have hkL : k < (List.replicate k (List.replicate N false) ++ List.replicate (N - k) ([] : List Bool)).length := by simp; omega
          have hset : (List.replicate k (List.replicate N false) ++ List.replicate (N - k) ([] : List Bool)).set k (List.replicate N false) = List.replicate (k + 1) (List.replicate N false) ++ List.replicate (N - (k + 1)) [] := by
            have e1 : N - k = (N - (k + 1)) + 1 := by omega
            rw [e1, List.replicate_succ, List.set_append_right _ _ (by simp), List.length_replicate, Nat.sub_self, List.set_cons_zero, List.replicate_succ' (n := k), List.append_assoc]
            rfl
          have hb2 := below_new (w := wo) (.cells (madeCells #[.bool false] N) 4)
          have hO2 := ow_allocE (e := 4) (n := N) (r := Rp.bool) (z := .bool false) (x0 := false) wo (by omega) rfl (fun w => rfl)
          have hzn : (wo.alloc (.cells (madeCells #[.bool false] N) 4)).heap.size = wo.heap.size + 1 := by simp
          have HO2 := HO.bound.below hb2
          obtain ⟨_, u0, cu0, fu0, -⟩ := HO2.focus hkL
          have HO3 := HO2.put1 (G := fun q => q = wo.heap.size) rfl hkL (y := List.replicate N false) (u := .slice (some ⟨wo.heap.size, 0, none⟩) N N) ⟨_, rfl, hO2⟩ (fun q hq h => by have := h.2; have hq : q = wo.heap.size := hq; omega)
          rw [hset] at HO3
          have hgo := (HO.lt_size (k := go) rfl).1
          have HO4 := HO3.mono (G := fun q => w.heap.size ≤ q ∧ q ≠ gs) (fun q hq => by rcases hq with hq | hq; exact hq.1; (have hq : q = wo.heap.size := hq; have := HB.size; omega))
          have HS2 := HS.below hb2
          have hC := Chg.set (w := wo.alloc (.cells (madeCells #[.bool false] N) 4)) (b := go) (o := k) (u := .slice (some ⟨wo.heap.size, 0, none⟩) N N) (A := fun q => q = go) rfl
          have HS3 := HS2.move (hC.same (fun q hq h => by have hq : q = gs := hq; have h : q = go := h; omega))
          have HB2 := below_then HB hb2
          have HB3 := hC.to_below HB2 HB2.size (fun q hq => by have hq : q = go := hq; omega)
          have hz3 := hC.size
          have i0 : (0 : Int) ≤ (k : Int) := Int.natCast_nonneg _
          have i1 : (k : Int) < (N : Int) := by omega
          clear HO HS HO2 HO3 hO2 HS2 hset
          go_wp2_with fail
          go_roundw
          case rel => exact ⟨k + 1, by omega, by go_num, HO4, HS3, HB3, by omega⟩
          case measure => simp [intOf]; omega
        · obtain rfl : k = N := by omega
          rw [Nat.sub_self, List.replicate_zero, List.append_nil] at HO
          have HCS : CSt k w.heap.size wo.heap.size go k gs k (List.replicate k (List.replicate k false)) (List.replicate k false) wo := ⟨by simp, by simp, HS, ⟨hgs.1, hz⟩, _, fun q hq => ⟨hq.1.1, hq.2, hq.1.2⟩, HO.bound⟩
          have hR0 := RepB.nil k
          have HM1 := Lib.hid (HM.out _ HB)
          clear HO HS
          go_wp2_with fail
          refine HM1.out.mono ?_
          rintro e w4 ⟨vL, rfl, hvL, hb4⟩
          have HCS := HCS.below hb4
          have HB4 := below_then HB hb4
          have hs4 := hb4.size
          obtain ⟨AL, cL, rfl, hl1, hl2, -⟩ := rd_ints hvL
          have hswo := HB.size
          clear HM1 HB hb4
          go_wp2_with fail
          go_loopw [42] (fun i wr => ∃ (q : Nat) (C : List (List Bool)) (S : List Bool), q ≤ M.length ∧ i = .int .i64 q ∧ CSt k w.heap.size wo.heap.size go k gs k C S wr ∧ RepB k C (CB0 (M.take q)) ∧ Hid (∀ v, InB S v ↔ SomeP (M.take q) v) ∧ Chg (fun r => w.heap.size ≤ r ∧ r < wo.heap.size) w4 wr) (fun i _ => M.length - (intOf i).toNat)
          case atStart => exact ⟨0, _, _, Nat.zero_le _, rfl, HCS, hR0.congr (fun a b => by simp [CB0]), Lib.hid (fun v => ⟨fun h => absurd h InB_rep, fun h => by simp [SomeP] at h⟩), Chg.refl _ _⟩
          case round =>
            clear HCS hR0
            obtain ⟨q, C, S, hq, rfl, HCS, HR, HSo, HCh⟩ := hrel
            rename World => wx
            by_cases hqt : q < M.length
            · have hvx := hvL.move (HCh.same (fun r hr h => by have hr : wo.heap.size ≤ r := hr; omega))
              obtain ⟨A', c', he, -, -, hrow⟩ := rd_ints hvx
              injection he with he1 _ he3
              subst he1
              subst he3
              rcases hrow with hnil | ⟨b, o, rfl, hbx, hcell⟩
              · rw [hnil] at hqt; simp at hqt
              obtain ⟨u, cu, hu⟩ := hcell q hqt
              obtain ⟨Au, ku, rfl, hu1, hu2, -⟩ := rd_int hu
              obtain ⟨m, hm⟩ : ∃ m, m = M[q] := ⟨_, rfl⟩
              obtain ⟨M0, hM0⟩ : ∃ M0, M0 = M.take q := ⟨_, rfl⟩
              have hmv : Hid (∀ v ∈ m, 0 ≤ v ∧ v < (k : Int)) := Lib.hid (by rw [hm]; exact HMs.out _ (List.getElem_mem hqt))
              have hCB : Hid (∀ (a : Nat) (v : Int), CB1 M0 m m.length a v ↔ CB0 (M.take (q + 1)) a v) := Lib.hid (by rw [hm, hM0]; exact fun a b => CB1_all hqt)
              have hSA : Hid (∀ v, InB (addB S m) v ↔ SomeP (M.take (q + 1)) v) := Lib.hid (by rw [hm]; exact some_add hqt HSo.out (fun v hv => by rw [HCS.ls]; rw [← hm] at hv; exact hmv.out v hv))
              have HR : RepB k C (CB1 M0 m 0) := by rw [hM0]; exact HR.congr (fun a b => CB1_zero)
              rw [← hm] at hu cu hu1
              have hux := hu
              have HAd := Lib.hid (setAddN_calls gs k k S _ m (fun r => r = gs) wx HCS.ls HCS.sm hu (fun r hr h => by have h : r = gs := h; have hr : wo.heap.size ≤ r := hr; have := HCS.sb; omega) hmv.out)
              have q0 : (0 : Int) ≤ (q : Int) := Int.natCast_nonneg _
              have q1 : (q : Int) < (M.length : Int) := by omega
              clear hcell hvx hm hM0 HSo
              go_wp2_with fail
              refine HAd.out.mono ?_
              rintro e w5 ⟨rfl, hO5, hC5⟩
              have HCS5 := HCS.setS hC5 (by rw [addB_len]; exact HCS.ls) hO5
              have HCx5 : Chg (fun r => w.heap.size ≤ r ∧ r < wo.heap.size) wx w5 := hC5.mono (fun r hr => by have hr : r = gs := hr; subst hr; exact HCS.sb)
              have HCh5 := HCh.trans HCx5
              generalize addB S m = S5 at *
              clear HAd hO5 hC5 HCS HCh hu
              have hu5 := hux
              go_wp2_with fail
              go_loopw [51] (fun i wr => ∃ (j : Nat) (C : List (List Bool)), j ≤ m.length ∧ i = .int .i64 j ∧ CSt k w.heap.size wo.heap.size go k gs k C S5 wr ∧ RepB k C (CB1 M0 m j) ∧ Chg (fun r => w.heap.size ≤ r ∧ r < wo.heap.size) w4 wr ∧ Chg (fun r => w.heap.size ≤ r ∧ r < wo.heap.size) wx wr) (fun i _ => m.length - (intOf i).toNat)
              case atStart => exact ⟨0, C, Nat.zero_le _, rfl, HCS5, HR, HCh5, HCx5⟩
              case round =>
                clear HCS5 HR HCh5 HCx5
                obtain ⟨j, C, hj, rfl, HCS, HR, HCh, HCx⟩ := hrel
                rename World => wy
                by_cases hjt : j < m.length
                · have huy := hu5.move (HCx.same (fun r hr h => by have hr : wo.heap.size ≤ r := hr; omega))
                  obtain ⟨A3, c3, he, -, -, hrow3⟩ := rd_int huy
                  injection he with he1 _ he3
                  subst he1
                  subst he3
                  rcases hrow3 with hnil | ⟨b3, o3, rfl, hb3, hc3⟩
                  · rw [hnil] at hjt; simp at hjt
                  have cx := hc3 j hjt
                  have hmj := hmv.out _ (List.getElem_mem hjt)
                  obtain ⟨a, ha⟩ := Int.eq_ofNat_of_zero_le hmj.1
                  have hak : a < k := by omega
                  have HR2 := Lib.hid (HR.add hjt hmv.out ha.symm)
                  obtain ⟨G, g, cg, cu3, hRl, hGF, hOr, hback⟩ := HCS.row (by omega) hak
                  rw [ha] at cx
                  obtain ⟨Ra, hRa⟩ : ∃ Ra, Ra = C.getD a [] := ⟨_, rfl⟩
                  rw [← hRa] at HR2 hRl hOr
                  have HAd := Lib.hid (setAddN_calls g cg k Ra _ m G wy hRl hOr huy (fun r hr h => by have hr : wo.heap.size ≤ r := hr; have := hGF r h; omega) hmv.out)
                  have j0 : (0 : Int) ≤ (j : Int) := Int.natCast_nonneg _
                  have j1 : (j : Int) < (m.length : Int) := by omega
                  have a0 : (0 : Int) ≤ (a : Int) := Int.natCast_nonneg _
                  have a1 : (a : Int) < (k : Int) := by omega
                  replace hback := Lib.hid hback
                  replace hRl := Lib.hid hRl
                  clear hc3 ha hRa hmj
                  go_wp2_with fail
                  refine HAd.out.mono ?_
                  rintro e w6 ⟨rfl, hO6, hC6⟩
                  have HCS6 := hback.out w6 _ (by rw [addB_len]; exact hRl.out) hC6 hO6
                  have hX : Chg (fun r => w.heap.size ≤ r ∧ r < wo.heap.size) wy w6 := hC6.mono (fun r hr => by have := hGF r hr; exact ⟨this.1, this.2.1⟩)
                  have HCh6 := HCh.trans hX
                  have HCx6 := HCx.trans hX
                  clear HAd hback hO6 hC6 hX HCS HCh HCx hOr huy cu3
                  go_wp2
                  go_roundw
                  case rel => exact ⟨j + 1, _, by omega, by go_num, HCS6, HR2.out, HCh6, HCx6⟩
                  case measure => simp [intOf]; omega
                · obtain rfl : j = m.length := by omega
                  have HR2 := HR.congr hCB.out
                  go_wp2
                  go_roundw
                  case rel => exact ⟨q + 1, C, S5, by omega, by go_num, HCS, HR2, hSA, HCh⟩
                  case measure => simp [intOf]; omega
            · obtain rfl : q = M.length := by omega
              rw [List.take_length] at HR HSo
              have HR := HR.congr (fun a b => CD_zero (M := M))
              go_wp2_with fail
              go_loopw [65] (fun i wr => ∃ (n : Nat) (C : List (List Bool)), n ≤ k ∧ i = .int .i64 n ∧ CSt k w.heap.size wo.heap.size go k gs k C S wr ∧ RepB k C (CD M n) ∧ Chg (fun r => w.heap.size ≤ r ∧ r < wo.heap.size) w4 wr) (fun i _ => k - (intOf i).toNat)
              case atStart => exact ⟨0, C, Nat.zero_le _, rfl, HCS, HR, HCh⟩
              case round =>
                clear HCS HR HCh
                obtain ⟨n, C, hn, rfl, HCS, HR, HCh⟩ := hrel
                rename World => wz
                by_cases hnt : n < k
                · obtain ⟨G, g, cg, cu3, hRl, hGF, hOr, hback⟩ := HCS.row (by omega) hnt
                  have hR2 := HR.diag hnt
                  have hnl : n < (C.getD n []).length := by omega
                  have hO6 := hOr.set1 rfl hnl (y := false) (u := .bool false) rfl
                  obtain ⟨d1, d2⟩ := bool_at hOr hnl
                  have hgG := (hOr.lt_size (k := g) rfl).1
                  have hC6 : Chg G wz (wz.setCell ⟨g, n, none⟩ (.bool false)) := Chg.set hgG
                  have HCS6 := hback _ _ (by rw [List.length_set]; exact hRl) hC6 hO6
                  have HCh6 := HCh.trans (hC6.mono (fun r hr => by have := hGF r hr; exact ⟨this.1, this.2.1⟩))
                  have n0 : (0 : Int) ≤ (n : Int) := Int.natCast_nonneg _
                  have n1 : (n : Int) < (k : Int) := by omega
                  clear HCS HCh hback hOr hO6 hC6 HR
                  generalize (C.getD n [])[n] = yb at *
                  go_wp2
                  go_roundw
                  case rel => exact ⟨n + 1, _, by omega, by go_num, HCS6, hR2, HCh6⟩
                  case measure => simp [intOf]; omega
                · obtain rfl : n = k := by omega
                  have hM := hM.out
                  subst hM
                  have hfin := HR.congr (fun a b => CD_all (N := n) HMs.out)
                  have HBe := HCh.to_below HB4 HB4.size (fun r hr => hr.1)
                  obtain ⟨FO, hFO, hOO⟩ := HCS.ex
                  go_wp2
                  refine bodyPost_ret (v := .tuple #[.slice (some ⟨go, 0, none⟩) n n, .slice (some ⟨gs, 0, none⟩) n n]) (by simp [results, Try.results51, go_sem]) rfl ?_
                  exact .mk go n gs n C S rfl (hOO.mono (fun r hr => (hFO r hr).1)) (HCS.sm.mono (fun r hr => by have hr : r = gs := hr; have := HCS.sb; omega)) hfin HCS.ls HSo HBe
end Go.Proofs.Ytnfaibenekninaa.L

set_option linter.unusedVariables false
set_option linter.unusedSimpArgs false
namespace Go.Proofs.Ytnfaibenekninaa.L
open Go.RowKit
theorem entersCol1 : Enters Try.prog 54 := enters Try.func54 (by kernel_rfl) (by kernel_rfl)
set_option maxRecDepth 100000 in
set_option maxHeartbeats 2000000 in
theorem col1_calls (x c : Int) (gl : List Int) (gb nb bg og cg : Nat) (w : World) (hc : w.cell? ⟨gb, 0, none⟩ = some (.slice (some ⟨bg, og, none⟩) gl.length cg)) (hn : w.cell? ⟨nb, 0, none⟩ = some (.int .i64 c)) (hcg : ∀ k, k < gl.length → w.cell? ⟨bg, og + k, none⟩ = some (.int .i64 (cO gl k))) (hx : 0 ≤ x ∧ x < (gl.length : Int)) :
    Calls Try.prog 54 #[.int .i64 x, .pointer (some ⟨gb, 0, none⟩), .pointer (some ⟨nb, 0, none⟩)] w fun e w' => e = .returned (.bool (cO gl x.toNat == c)) ∧ Below w.heap.size w w' := by
  obtain ⟨x, rfl⟩ := Int.eq_ofNat_of_zero_le hx.1
  have x0 := hx.1
  have x1 := hx.2
  have ex := hcg x (by omega)
  rw [Int.toNat_natCast]
  obtain ⟨gx, hgx⟩ : ∃ gx, gx = cO gl x := ⟨_, rfl⟩
  rw [← hgx] at ex ⊢
  clear hgx hcg hx
  go_enter Try.func54, Try.ntmps54
  go_wp2_with fail
  go_region
  go_wp2
  go_ret
  exact ⟨rfl, by first | exact Below.refl _ _ | exact below_drew (Below.refl _ _) | exact below_drewN (Below.refl _ _) _⟩
set_option maxRecDepth 100000 in
set_option maxHeartbeats 8000000 in
theorem colourI_calls {F F' : Nat → Prop} (s : Sa) (gl : List Int) (vparts vg : Value) (w : World) (hs : Rp.Rd part w F vparts s.parts) (hgl : Rp.Rd Rp.int w F' vg gl) (hx1 : s.parts.length ≤ 1048576) (hx2 : ∀ p ∈ s.parts, PtLim p) (hgll : gl.length ≤ 1048576) :
    Calls Try.prog 15 #[saV s vparts, vg] w (BoolRes (ColG s gl) (TellP (ColP (momS s) gl)) w) := by
  obtain ⟨A, c, rfl, _, _, _⟩ := rd_part hs
  obtain ⟨Ag, cg, rfl, _, _, hrg⟩ := rd_int hgl
  have HC := Lib.hid (fun W (hW : Below w.heap.size w W) => viewOf_calls s _ W (hs.below hW) hx1 hx2)
  have HCl := Lib.hid (fun W (hW : Below w.heap.size w W) (hg : GoodP s) vb vn vd vD vT hv hN => clashesI_calls s gl.length vb (.slice A s.parts.length c) vn vd vD vT W hv (hs.below hW) hg hx2 hN)
  have HQ := Lib.hid (good_iff s)
  have hP := Lib.hid (fun (hg : GoodP s) (hN : (gl.length : Int) = s.values) => col_iff (M := momS s) (g := gl) (N := gl.length) (fun m hm v hv => by rw [hN]; exact (momS_sets hg m hm).2 v hv))
  unfold saV at HC ⊢
  have hB0 := below_then (below_new (w := w) (.cells #[.slice A s.parts.length c, .int .i64 s.values] 31)) (below_new (.cells #[.slice Ag gl.length cg] 25))
  have b0 := blk_below (heap_alloc_new w (.cells #[.slice A s.parts.length c, .int .i64 s.values] 31)) (below_new (.cells #[.slice Ag gl.length cg] 25))
  have g0 := heap_alloc_new (w.alloc (.cells #[.slice A s.parts.length c, .int .i64 s.values] 31)) (.cells #[.slice Ag gl.length cg] 25)
  have hz0 : (w.alloc (.cells #[.slice A s.parts.length c, .int .i64 s.values] 31)).heap.size = w.heap.size + 1 := by simp
  rw [hz0] at g0
  clear hz0
  obtain ⟨P, hPe⟩ : ∃ P, P = ColP (momS s) gl := ⟨_, rfl⟩
  rw [← hPe] at hP ⊢
  clear hPe
  go_enter Try.func15, Try.ntmps15
  go_wp2_with fail
  refine (HC.out _ hB0).mono ?_
  rintro e w1 (⟨rfl, hn, hb⟩ | ⟨vb, D9, T, M9, vn, vd, vD, vT, rfl, hv, hz, hD, hT, hM, hN, hg, hb⟩)
  · have HN : Hid (false = true ↔ ColG s gl) := Lib.hid ⟨fun h => Bool.noConfusion h, fun h => absurd (HQ.out.2 h.1) hn.out⟩
    have HT : Hid (TellP P false false) := Lib.hid ⟨fun h => Bool.noConfusion h, fun h => Bool.noConfusion h.1⟩
    have hB1 := below_then hB0 hb
    clear hn
    go_wp2
    refine bodyPost_ret (v := .tuple #[.bool false, .bool false]) (by simp [results, Try.results15, go_sem]) rfl ?_
    exact .mk false false HN HT rfl hB1
  have hB1 := below_then hB0 hb
  have b1 := blk_below b0 hb
  have g1 := blk_below g0 hb
  have hgp := Lib.hid (HQ.out.1 ⟨D9, T, M9, hg.out⟩)
  have hv1 := hgp.out.v1
  have hv2 := hgp.out.v2
  obtain ⟨v0, _⟩ := cell_of_block b1
  have x1 : w1.cell? ⟨w.heap.size, 1, none⟩ = some (.int .i64 s.values) := (v0 1).trans rfl
  obtain ⟨v0, _⟩ := cell_of_block g1
  have bx1 : w1.cell? ⟨w.heap.size + 1, 0, none⟩ = some (.slice Ag gl.length cg) := (v0 0).trans rfl
  clear v0 hg hz hD hT hM hN HC hB0 b0 g0 HQ hb
  by_cases hNV : (gl.length : Int) = s.values
  · have HN : Hid (true = true ↔ ColG s gl) := Lib.hid ⟨fun _ => ⟨hgp.out, hNV⟩, fun _ => rfl⟩
    have hP := Lib.hid (hP.out hgp.out hNV)
    have hN0 : 0 < gl.length := by omega
    have hN1 : gl.length ≤ 250 := by omega
    have hMs := Lib.hid (fun m (hm : m ∈ momS s) v (hv : v ∈ m) => (show 0 ≤ v ∧ v < (gl.length : Int) by rw [hNV]; exact (momS_sets hgp.out m hm).2 v hv))
    have HCl := Lib.hid (HCl.out _ hB1 hgp.out vb vn vd vD vT hv hNV)
    clear b1
    go_wp2_with fail
    replace hNV := Lib.hid hNV
    refine HCl.out.mono ?_
    rintro e w2 ⟨go, co, gs, cs, C, S, rfl, hC, hS, hR, hl, hsS, hb2⟩
    have hB2 := below_then hB1 hb2
    have g2 := blk_below g1 hb2
    rcases hrg with hn | ⟨bg, og, rfl, hbg, hcg⟩
    · rw [hn] at hN0; simp at hN0
    have hcg2 : Hid (∀ W (hW : Below w.heap.size w W) k (hk : k < gl.length), W.cell? ⟨bg, og + k, none⟩ = some (.int .i64 (cO gl k))) := Lib.hid (fun W hW k hk => by rw [cO_get hk]; exact cell_below hW (hcg k hk))
    obtain ⟨v0, _⟩ := cell_of_block g2
    have bx2 : w2.cell? ⟨w.heap.size + 1, 0, none⟩ = some (.slice (some ⟨bg, og, none⟩) gl.length cg) := (v0 0).trans rfl
    have hCr : Rp.Rd (Rp.sl Rp.bool) w2 (fun _ => True) (.slice (some ⟨go, 0, none⟩) gl.length co) C := ((Rp.Le.ow (Rp.Le.refl _)).rd hC.rd).mono (fun _ _ => trivial)
    have hSr := hS.rd
    obtain ⟨A1, c1, e1, _, _, hrC⟩ := rd_bools hCr
    obtain ⟨A2, c2, e2, _, _, hrS⟩ := rd_boolL hSr
    have hCln := hR.ln
    injection e1 with e1 _ _
    injection e2 with e2 _ _
    subst e1
    subst e2
    have hcC : Hid (∀ k (hk : k < gl.length), ∃ u, w2.cell? ⟨go, k, none⟩ = some u ∧ Rp.Rd Rp.bool w2 (fun _ => True) u (C.getD k [])) := Lib.hid (fun k hk => by
      rcases hrC with hn | ⟨b, o, he, _, hcell⟩
      · rw [hn] at hCln; simp at hCln; omega
      · injection he with he
        injection he with he1 he2
        subst he1
        subst he2
        obtain ⟨u, cu, hu⟩ := hcell k (by omega)
        rw [Nat.zero_add] at cu
        refine ⟨u, cu, ?_⟩
        rw [List.getD_eq_getElem?_getD, List.getElem?_eq_getElem (by omega)]
        exact hu)
    have hcS : Hid (∀ k (hk : k < gl.length), w2.cell? ⟨gs, k, none⟩ = some (.bool (S.getD k false))) := Lib.hid (fun k hk => by
      rcases hrS with hn | ⟨b, o, he, _, hcell⟩
      · rw [hn] at hl; simp at hl; omega
      · injection he with he
        injection he with he1 he2
        subst he1
        subst he2
        have cu := hcell k (by omega)
        rw [Nat.zero_add] at cu
        rw [List.getD_eq_getElem?_getD, List.getElem?_eq_getElem (by omega)]
        exact cu)
    have hAl : Hid (∀ k : Nat, SomeP (momS s) (k : Int) ↔ S.getD k false = true) := Lib.hid (fun k => by rw [← hsS.out]; unfold InB; rw [Int.toNat_natCast]; exact ⟨fun h => h.2, fun h => ⟨Int.natCast_nonneg _, h⟩⟩)
    have hRow : Hid (∀ k (v : Int), v ∈ listB (C.getD k []) ↔ ClP (momS s) k v) := Lib.hid (fun k v => by rw [mem_listB]; exact hR.iff k v)
    have hRl : Hid (∀ k, k < gl.length → (C.getD k []).length = gl.length) := Lib.hid (fun k hk => hR.row hk)
    clear hcg hCr hSr hrC hrS hC hS hR hsS hl hCln g2 bx1 x1 v0 hb2 hv
    go_wp2_with fail
    obtain ⟨M, hM⟩ : ∃ M, M = momS s := ⟨_, rfl⟩
    rw [← hM] at hP hMs hAl hRow
    clear hM hMs
    go_loopw [29] (fun i wr => ∃ k : Nat, k ≤ gl.length ∧ i = .int .i64 k ∧ Below w2.heap.size w2 wr ∧ Hid (∀ q, q < k → ColI1 M gl q)) (fun i _ => gl.length - (intOf i).toNat)
    case atStart => exact ⟨0, Nat.zero_le _, rfl, Below.refl _ _, Lib.hid (fun v hv => by omega)⟩
    case round =>
      obtain ⟨k, hk, rfl, HB, HI⟩ := hrel
      rename World => wx
      by_cases hkt : k < gl.length
      · have k0 : (0 : Int) ≤ (k : Int) := Int.natCast_nonneg _
        have k1 : (k : Int) < (gl.length : Int) := by omega
        have hBx := below_then hB2 HB
        have ck := hcg2.out wx hBx k hkt
        have hIn : Hid (ColI1 M gl k → ∀ q, q < k + 1 → ColI1 M gl q) := Lib.hid (fun h q hq => by
          rcases Nat.lt_or_eq_of_le (Nat.le_of_lt_succ hq) with h2 | rfl
          · exact HI.out q h2
          · exact h)
        have hno : Hid (¬ ColI1 M gl k → ¬ P) := Lib.hid (fun h hp => h (hP.out.1 hp k hkt))
        have hCd : Hid (ColI1 M gl k ↔ (S.getD k false = true → 0 ≤ cO gl k ∧ ∀ v ∈ listB (C.getD k []), cO gl v.toNat ≠ cO gl k)) := Lib.hid (by
          unfold ColI1
          rw [hAl.out]
          exact ⟨fun h hs => ⟨(h hs).1, fun v hv => (h hs).2 v ((hRow.out k v).1 hv)⟩, fun h hs => ⟨(h hs).1, fun v hv => (h hs).2 v ((hRow.out k v).2 hv)⟩⟩)
        have hb3 := below_new (w := wx) (.cells #[.int .i64 (cO gl k)] 3)
        have x3 := heap_alloc_new wx (.cells #[.int .i64 (cO gl k)] 3)
        have HB3 := below_then HB hb3
        have cs := cell_below HB3 (hcS.out k hkt)
        obtain ⟨u, cu, hu⟩ := hcC.out k hkt
        have cu := cell_below HB3 cu
        have hu := hu.below HB3
        have bx3 := cell_below HB3 bx2
        obtain ⟨yy, _⟩ := cell_of_block x3
        have y0 : (wx.alloc (.cells #[.int .i64 (cO gl k)] 3)).cell? ⟨wx.heap.size, 0, none⟩ = some (.int .i64 (cO gl k)) := (yy 0).trans rfl
        clear yy x3
        obtain ⟨gk, hgk⟩ : ∃ gk, gk = cO gl k := ⟨_, rfl⟩
        rw [← hgk] at ck hCd hb3 HB3 cs cu hu bx3 y0
        have hgK := Lib.hid hgk
        clear hgk
        obtain ⟨b, hb⟩ : ∃ b, b = S.getD k false := ⟨_, rfl⟩
        rw [← hb] at cs hCd
        clear hb
        cases b
        · have hI9 := Lib.hid (hIn.out (hCd.out.2 (fun h => Bool.noConfusion h)))
          clear hCd hno hIn hb3 cu hu bx3 y0
          go_wp2
          go_roundw
          case rel => exact ⟨k + 1, by omega, by go_num, HB3, hI9⟩
          case measure => simp [intOf]; omega
        · by_cases hg0 : gk < 0
          · have hnP := Lib.hid (hno.out (fun h => by have := (hCd.out.1 h rfl).1; omega))
            have HT : Hid (TellP P true false) := Lib.hid ⟨fun h => Bool.noConfusion h, fun h => absurd h.2 hnP.out⟩
            have HBr := below_then hB2 HB3
            clear hCd hno hIn cu hu bx3 hb3
            go_wp2
            refine bodyPost_ret (v := .tuple #[.bool false, .bool true]) (by simp [results, Try.results15, go_sem]) rfl ?_
            exact .mk true false (Lib.hid ⟨fun _ => HN.out.1 trivial, fun _ => rfl⟩) HT rfl HBr
          · have hg1 : 0 ≤ gk := by omega
            have hLo := Lib.hid (listOf_calls u (C.getD k []) _ hu (by rw [hRl.out k hkt]; omega))
            have hrg2 := Lib.hid (fun v (hv : v ∈ listB (C.getD k [])) => (show 0 ≤ v ∧ v < (gl.length : Int) by
              have h1 := mem_listB.1 hv
              have h2 := h1.2
              refine ⟨h1.1, ?_⟩
              rcases Nat.lt_or_ge v.toNat (C.getD k []).length with h | h
              · rw [hRl.out k hkt] at h; have := h1.1; omega
              · rw [List.getD_eq_getElem?_getD, List.getElem?_eq_none h] at h2; simp at h2))
            have hCt : Hid (ColI1 M gl k ↔ (listB (C.getD k [])).any (fun v => cO gl v.toNat == gk) = false) := Lib.hid (by
              rw [hCd.out, List.any_eq_false]
              exact ⟨fun h v hv he => (h rfl).2 v hv (by simpa using he), fun h _ => ⟨hg1, fun v hv he => h v hv (by simpa using he)⟩⟩)
            obtain ⟨LB, hLB⟩ : ∃ LB, LB = listB (C.getD k []) := ⟨_, rfl⟩
            rw [← hLB] at hLo hrg2 hCt
            clear hLB hCd
            obtain ⟨row, hrw⟩ : ∃ row, row = C.getD k [] := ⟨_, rfl⟩
            rw [← hrw] at hu
            clear hrw
            obtain ⟨Au, cu9, rfl, _⟩ := id hu
            obtain ⟨R, hR⟩ : ∃ R, R = LB.any (fun v => cO gl v.toNat == gk) := ⟨_, rfl⟩
            rw [← hR] at hCt
            replace hR := Lib.hid hR
            go_wp2_with fail
            refine hLo.out.mono ?_
            rintro e w4 ⟨v4, rfl, hO4, hb4⟩
            have HB4 := below_then HB3 hb4
            have bx4 := cell_below hb4 bx3
            have y4 := cell_below hb4 y0
            have hHas := Lib.hid (hasInt_calls v4 LB 54 #[.pointer (some ⟨w.heap.size + 1, 0, none⟩), .pointer (some ⟨wx.heap.size, 0, none⟩)] (fun v => cO gl v.toNat == gk) w4 hO4.rd entersCol1
              (fun x hx W hW => col1_calls x gk gl (w.heap.size + 1) wx.heap.size bg og cg W (cell_below hW bx4) (cell_below hW y4) (fun j hj => hcg2.out W (below_then (below_then hB2 HB4) hW) j hj) (hrg2.out x hx)))
            rw [← hR.out] at hHas
            obtain ⟨A4, c4, rfl, _, _⟩ := hO4.form
            clear hLo hb4 hO4 bx3 y0 cu hu hb3 HB3
            go_wp2_with fail
            refine hHas.out.mono ?_
            rintro e w5 ⟨rfl, hb5⟩
            have HB5 := below_then HB4 hb5
            clear hHas hb5 HB4
            cases R
            · have hI9 := Lib.hid (hIn.out (hCt.out.2 rfl))
              clear hCt hno hIn
              go_wp2
              go_roundw
              case rel => exact ⟨k + 1, by omega, by go_num, HB5, hI9⟩
              case measure => simp [intOf]; omega
            · have hnP := Lib.hid (hno.out (fun h => Bool.noConfusion (hCt.out.1 h)))
              have HT : Hid (TellP P true false) := Lib.hid ⟨fun h => Bool.noConfusion h, fun h => absurd h.2 hnP.out⟩
              have HBr := below_then hB2 HB5
              clear hCt hno hIn
              go_wp2
              refine bodyPost_ret (v := .tuple #[.bool false, .bool true]) (by simp [results, Try.results15, go_sem]) rfl ?_
              exact .mk true false (Lib.hid ⟨fun _ => HN.out.1 trivial, fun _ => rfl⟩) HT rfl HBr
      · obtain rfl : k = gl.length := by omega
        have HT : Hid (TellP P true true) := Lib.hid ⟨fun _ => ⟨rfl, hP.out.2 HI.out⟩, fun _ => rfl⟩
        have HBr := below_then hB2 HB
        go_wp2
        refine bodyPost_ret (v := .tuple #[.bool true, .bool true]) (by simp [results, Try.results15, go_sem]) rfl ?_
        exact .mk true true (Lib.hid ⟨fun _ => HN.out.1 trivial, fun _ => rfl⟩) HT rfl HBr
  · have HN : Hid (false = true ↔ ColG s gl) := Lib.hid ⟨fun h => Bool.noConfusion h, fun h => absurd h.2 hNV⟩
    have HT : Hid (TellP P false false) := Lib.hid ⟨fun h => Bool.noConfusion h, fun h => Bool.noConfusion h.1⟩
    clear HCl hP
    go_wp2
    refine bodyPost_ret (v := .tuple #[.bool false, .bool false]) (by simp [results, Try.results15, go_sem]) rfl ?_
    exact .mk false false HN HT rfl hB1
end Go.Proofs.Ytnfaibenekninaa.L
