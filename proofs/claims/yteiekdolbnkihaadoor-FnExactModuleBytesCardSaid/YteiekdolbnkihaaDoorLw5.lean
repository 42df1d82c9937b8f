/- The law of ModuleBytes. -/
import Derived.Test.YteiekdolbnkihaaDoorMb2
import Derived.Test.YteiekdolbnkihaaDoorLw1
set_option linter.unusedVariables false
set_option linter.unusedSimpArgs false
namespace Go.Proofs.YteiekdolbnkihaaDoor.L
open Go.RowKit
set_option maxRecDepth 100000 in
set_option maxHeartbeats 4000000 in
theorem modLaw_calls {F : Nat → Prop} (v : Value) (l : List Se) (w : World) (h : Rp.Rd sect w F v l) (hb0 : ∀ x ∈ l, x.body.size ≤ 9223372036854775807) (hT : Tabs w) :
    Calls Tryd.prog 6 #[v] w fun e w' => e = .returned (.bool true) ∧ Below w.heap.size w w' := by
  have HC := szSectionS_calls v l 1048576 w h (by omega) (by omega) hb0
  obtain ⟨r, hr, hlim⟩ := szAll l
  rw [hr] at HC
  clear hr
  have HC := Lib.hid HC
  by_cases hneg : r < 0
  · clear hlim
    go_enter Tryd.func6, Tryd.ntmps6
    go_wp2_with (go_at_call 16; refine HC.out.mono ?_; rintro e w1 ⟨rfl, hb⟩)
    go_ret
    exact ⟨rfl, hb⟩
  · obtain ⟨hl, hx⟩ := hlim (by omega)
    clear hlim
    go_enter Tryd.func6, Tryd.ntmps6
    go_wp2_with (go_at_call 16; refine HC.out.mono ?_; rintro e w1 ⟨rfl, hb⟩)
    refine (toSectionS_calls v l _ (h.below hb) hl).mono ?_
    rintro e w2 ⟨v2, rfl, HO2, hb2⟩
    replace hb := below_then hb hb2
    clear hb2
    go_wp2_with fail
    refine (moduleBytesS_calls v2 l _ HO2.rd hl hx).mono ?_
    rintro e w3 ⟨rfl, hb3⟩
    replace hb := below_then hb hb3
    clear HO2 hb3
    generalize hz : bytesOf l = z at *
    have HZ := Lib.hid hz
    clear hz
    unfold nameV
    go_wp2_with fail
    refine (toSectionS_calls v l _ (h.below hb) hl).mono ?_
    rintro e w4 ⟨v4, rfl, HO4, hb4⟩
    replace hb := below_then hb hb4
    clear hb4
    go_wp2_with fail
    refine (moduleBytes_calls v4 l _ HO4.rd hl hx (hT.below hb)).mono ?_
    rintro e w5 ⟨rfl, hb5⟩
    replace hb := below_then hb hb5
    have HR4 := HO4.rd.below hb5
    rw [HZ.out]
    clear HO4 hb5
    unfold nameV
    go_wp2_with fail
    refine (toSectionS_calls v l _ (h.below hb) hl).mono ?_
    rintro e w6 ⟨v6, rfl, HO6, hb6⟩
    replace hb := below_then hb hb6
    have HR4' := HR4.below hb6
    clear hb6 HR4
    go_wp2_with fail
    refine (eqSectionS_calls v4 v6 l l _ HR4' HO6.rd).mono ?_
    rintro e w7 ⟨rfl, hb7⟩
    replace hb := below_then hb hb7
    rw [decide_eq_true rfl]
    go_wp2
    go_ret
    exact ⟨rfl, hb⟩
end Go.Proofs.YteiekdolbnkihaaDoor.L
