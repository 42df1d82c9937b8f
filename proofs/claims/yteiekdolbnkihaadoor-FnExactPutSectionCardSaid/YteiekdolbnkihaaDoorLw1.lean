/- The laws of NameOf and GoodSections: plain equality, and their walks. -/
import Derived.Test.YteiekdolbnkihaaDoorGs1
import Derived.Test.YteiekdolbnkihaaDoorGs3
import Derived.Test.YteiekdolbnkihaaDoorCvS
import Derived.Test.YteiekdolbnkihaaDoorSzS
import Derived.Test.YteiekdolbnkihaaDoorEqS
set_option linter.unusedVariables false
set_option linter.unusedSimpArgs false
namespace Go.Proofs.YteiekdolbnkihaaDoor.L
open Go.RowKit
theorem nameOf_same (x : Se) : nameOfS x = nameOf x := by
  unfold nameOfS nameOf oneS nameS
  by_cases h0 : x.id = 0
  · by_cases h1 : x.body.size ≤ 200
    · rw [if_pos (show x.body.size ≤ 1000 by omega)]
      cases h : nameB x.body with
      | none => simp
      | some t => simp [h0, h1, inB]
    · simp [h1]
  · simp [h0]
theorem box2_cells {w w1 : World} {a b : Value} {t : Nat} (hb : Below (w.alloc (.cells #[a, b] t)).heap.size (w.alloc (.cells #[a, b] t)) w1) :
    w1.cell? ⟨w.heap.size, 0, none⟩ = some a ∧ w1.cell? ⟨w.heap.size, 1, none⟩ = some b := by
  have h := (cell_of_block (boxed1 hb).1).1
  exact ⟨h 0, h 1⟩
set_option maxRecDepth 100000 in
set_option maxHeartbeats 4000000 in
theorem nameLaw_calls (x : Se) (w : World) (hs : x.body.size ≤ 9223372036854775807) (hT : Tabs w) :
    Calls Tryd.prog 3 #[seV x] w fun e w' => e = .returned (.bool true) ∧ Below w.heap.size w w' := by
  have HC := fun W => szSection_calls x 1048576 W (by omega) (by omega) hs
  obtain ⟨s, hse⟩ : ∃ s, szSe x 1048576 = s := ⟨_, rfl⟩
  rw [hse] at HC
  have hlim : 0 ≤ s → x.body.size ≤ 1048576 := by
    intro h; have := (szS_bd (n := x.body.size) (left := 1048576) (by omega)).2.2 (by unfold szSe at hse; omega); omega
  clear hse
  have HC := Lib.hid HC
  have HX := fun W => toSection_calls x W
  have HX := Lib.hid HX
  by_cases hneg : s < 0
  · clear hlim
    unfold seV at HC ⊢
    go_enter Tryd.func3, Tryd.ntmps3
    go_wp2_with (go_at_call 12; refine (HC.out _).mono ?_; rintro e w1 ⟨rfl, hb⟩)
    go_ret
    exact ⟨rfl, below1 hb⟩
  · have hsz := hlim (by omega)
    clear hlim
    have H1 := Lib.hid (fun W => nameOfS_calls x W hsz)
    have H2 := Lib.hid (fun W (h : Tabs W) => nameOf_calls x W hsz h)
    rw [nameOf_same] at H1
    generalize nameOf x = r at *
    unfold nameV at H1 H2
    unfold seV at *
    go_enter Tryd.func3, Tryd.ntmps3
    go_wp2_with fail
    refine (HC.out _).mono ?_
    rintro e w1 ⟨rfl, hb⟩
    obtain ⟨e0, e1⟩ := box2_cells hb
    go_wp2_with fail
    refine (HX.out _).mono ?_
    rintro e w2 ⟨rfl, hb2⟩
    replace hb := below_then hb hb2
    clear e0 e1 hb2
    obtain ⟨e0, e1⟩ := box2_cells hb
    go_wp2_with fail
    refine (H1.out _).mono ?_
    rintro e w3 ⟨rfl, hb3⟩
    replace hb := below_then hb hb3
    clear e0 e1 hb3
    obtain ⟨e0, e1⟩ := box2_cells hb
    go_wp2_with fail
    refine (HX.out _).mono ?_
    rintro e w4 ⟨rfl, hb4⟩
    replace hb := below_then hb hb4
    clear e0 e1 hb4
    obtain ⟨e0, e1⟩ := box2_cells hb
    have hT4 : Tabs w4 := hT.below (below1 hb)
    go_wp2_with fail
    refine (H2.out _ hT4).mono ?_
    rintro e w5 ⟨rfl, hb5⟩
    replace hb := below_then hb hb5
    clear e0 e1 hb5
    go_wp2
    go_ret
    exact ⟨rfl, below1 hb⟩
/-- What the count says of a list: -1, or each text is small. -/
theorem szAll (l : List Se) : ∃ r : Int, (if szS l.length 1048576 < 0 then -1 else szSes l (szS l.length 1048576)) = r ∧ (0 ≤ r → l.length ≤ 1048576 ∧ ∀ x ∈ l, x.body.size ≤ 1048576) := by
  refine ⟨_, rfl, fun h0 => ?_⟩
  have b1 := szS_bd (n := l.length) (left := 1048576) (by omega)
  split at h0
  · omega
  · exact ⟨by have := b1.2.2 (by omega); omega, fun x hx => szSes_bd l _ b1.1 h0 x hx⟩
set_option maxRecDepth 100000 in
set_option maxHeartbeats 4000000 in
theorem goodLaw_calls {F : Nat → Prop} (v : Value) (l : List Se) (w : World) (h : Rp.Rd sect w F v l) (hb0 : ∀ x ∈ l, x.body.size ≤ 9223372036854775807) (hT : Tabs w) :
    Calls Tryd.prog 4 #[v] w fun e w' => e = .returned (.bool true) ∧ Below w.heap.size w w' := by
  have HC := szSectionS_calls v l 1048576 w h (by omega) (by omega) hb0
  obtain ⟨r, hr, hlim⟩ := szAll l
  rw [hr] at HC
  clear hr
  have HC := Lib.hid HC
  by_cases hneg : r < 0
  · clear hlim
    go_enter Tryd.func4, Tryd.ntmps4
    go_wp2_with (go_at_call 16; refine HC.out.mono ?_; rintro e w1 ⟨rfl, hb⟩)
    go_ret
    exact ⟨rfl, hb⟩
  · obtain ⟨hl, hx⟩ := hlim (by omega)
    clear hlim
    have HS := Lib.hid (good_same l)
    go_enter Tryd.func4, Tryd.ntmps4
    go_wp2_with (go_at_call 16; refine HC.out.mono ?_; rintro e w1 ⟨rfl, hb⟩)
    refine (toSectionS_calls v l _ (h.below hb) hl).mono ?_
    rintro e w2 ⟨v2, rfl, HO2, hb2⟩
    replace hb := below_then hb hb2
    clear hb2
    go_wp2_with fail
    refine (goodSectionsS_calls v2 l _ HO2.rd hl hx).mono ?_
    rintro e w3 ⟨rfl, hb3⟩
    replace hb := below_then hb hb3
    rw [← HS.out]
    clear HO2 hb3
    generalize hz : goodB l = z at *
    have HZ := Lib.hid hz
    clear hz
    go_wp2_with fail
    refine (toSectionS_calls v l _ (h.below hb) hl).mono ?_
    rintro e w4 ⟨v4, rfl, HO4, hb4⟩
    replace hb := below_then hb hb4
    clear hb4
    go_wp2_with fail
    refine (goodSections_calls v4 l _ HO4.rd hl hx (hT.below hb)).mono ?_
    rintro e w5 ⟨rfl, hb5⟩
    replace hb := below_then hb hb5
    have HR4 := HO4.rd.below hb5
    rw [HZ.out]
    clear HO4 hb5
    go_wp2_with fail
    refine (toSectionS_calls v l _ (h.below hb) hl).mono ?_
    rintro e w6 ⟨v6, rfl, HO6, hb6⟩
    replace hb := below_then hb hb6
    have HR4' := HR4.below hb6
    clear hb6 HR4
    go_wp2_with fail
    refine (eqSectionS_calls v4 v6 l l _ HR4' HO6.rd).mono ?_
    rintro e w7 ⟨rfl, hb7⟩
    replace hb := below_then hb hb7
    rw [decide_eq_true rfl]
    go_wp2
    go_ret
    exact ⟨rfl, hb⟩
end Go.Proofs.YteiekdolbnkihaaDoor.L
