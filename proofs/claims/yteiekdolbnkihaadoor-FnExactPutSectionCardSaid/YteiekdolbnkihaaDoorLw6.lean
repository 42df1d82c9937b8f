/- The law of PutSection. -/
import Derived.Test.YteiekdolbnkihaaDoorPs2
import Derived.Test.YteiekdolbnkihaaDoorPs3
import Derived.Test.YteiekdolbnkihaaDoorLw4
import Derived.Test.YteiekdolbnkihaaDoorMt2
import Derived.Test.YteiekdolbnkihaaDoorMt3
import Derived.Test.YteiekdolbnkihaaDoorLw1
set_option linter.unusedVariables false
set_option linter.unusedSimpArgs false
namespace Go.Proofs.YteiekdolbnkihaaDoor.L
open Go.RowKit
theorem putB_len (l : List Se) (id : Int) (body : ByteArray) : (putB l id body).1.length ≤ l.length + 1 := by
  unfold putB resB
  split
  · split
    · exact putP_len l id body
    · simp
  · simp
theorem putB_len8 (l : List Se) (id : Int) (body : ByteArray) : (putB l id body).1.length ≤ 1048576 := by
  unfold putB resB
  split
  · split
    · next h => exact Nat.le_trans (goodB_all h).1 (by decide)
    · simp
  · simp
set_option maxRecDepth 100000 in
set_option maxHeartbeats 8000000 in
theorem putLaw_calls {F : Nat → Prop} (v : Value) (l : List Se) (id : Int) (body : ByteArray) (w : World) (h : Rp.Rd sect w F v l) (hb0 : ∀ x ∈ l, x.body.size ≤ 9223372036854775807) (hid0 : (Lit.int .i64 id).wf = true) (hbd : body.size ≤ 9223372036854775807) (hT : Tabs w) :
    Calls Tryd.prog 10 #[v, .int .i64 id, .string body] w fun e w' => e = .returned (.bool true) ∧ Below w.heap.size w w' := by
  have HC := szSectionS_calls v l 1048576 w h (by omega) (by omega) hb0
  obtain ⟨r, hr, hlim⟩ := szAll l
  rw [hr] at HC
  clear hr
  have HC := Lib.hid HC
  by_cases hbs : 1048576 < body.size
  · have b1 : (1048576 : Int) < (body.size : Int) := by omega
    clear hlim
    go_enter Tryd.func10, Tryd.ntmps10
    go_wp2
    go_ret
    exact ⟨rfl, Below.refl _ _⟩
  have hbs : body.size ≤ 1048576 := by omega
  have b1 : ¬ (1048576 : Int) < (body.size : Int) := by omega
  by_cases hneg : r < 0
  · clear hlim
    go_enter Tryd.func10, Tryd.ntmps10
    go_wp2_with (go_at_call 16; refine HC.out.mono ?_; rintro e w1 ⟨rfl, hb⟩)
    go_ret
    exact ⟨rfl, hb⟩
  · obtain ⟨hl, hx⟩ := hlim (by omega)
    clear hlim
    have hlen := putB_len8 l id body
    have H1 := fun (u : Value) W (hu : Rp.Rd sect W (fun k => True) u l) => putS_calls u l id body W hu hl hx hbs
    have H2 := fun (u : Value) W (hu : Rp.Rd sect W (fun k => True) u l) (ht : Tabs W) => putI_calls u l id body W hu hl hx hbs ht
    generalize putB l id body = d at *
    obtain ⟨l', b⟩ := d
    unfold pairV at H1 H2
    simp only at H1 H2 hlen
    have H1 := Lib.hid H1
    have H2 := Lib.hid H2
    have HX := Lib.hid (fun W (hW : Below w.heap.size w W) => toSectionS_calls v l W (h.below hW) hl)
    go_enter Tryd.func10, Tryd.ntmps10
    go_wp2_with (go_at_call 16; refine HC.out.mono ?_; rintro e w1 ⟨rfl, hb⟩)
    clear HC
    refine (HX.out _ hb).mono ?_
    rintro e w2 ⟨v2, rfl, HO2, hb2⟩
    have hB2 := below_then hb hb2
    clear hb hb2
    go_wp2_with fail
    refine (H1.out _ _ (HO2.rd.mono (fun _ _ => trivial))).mono ?_
    rintro e w3 ⟨v3, rfl, HO3, hb3⟩
    have hB3 := below_then hB2 hb3
    have HR3 := HO3.rd
    clear HO2 HO3 hb3 hB2
    go_wp2_with fail
    refine (HX.out _ hB3).mono ?_
    rintro e w4 ⟨v4, rfl, HO4, hb4⟩
    have hC4 := own_lt HO4
    go_wp2_with fail
    refine (H2.out _ _ (HO4.rd.mono (fun _ _ => trivial)) (hT.below (below_then hB3 hb4))).mono ?_
    rintro e w5 ⟨v5, rfl, HO5, hb5⟩
    have hs45 := hb4.size
    have HO4' := HO4.below hb5
    have hb5' := below_then hb4 hb5
    have hE := eqSectionS_calls v5 v3 l' l' w5 HO5.rd (HR3.below hb5')
    rw [decide_eq_true rfl] at hE
    have hE := Lib.hid hE
    clear HO4 hb4 hb5
    go_wp2_with fail
    refine hE.out.mono ?_
    rintro e w6 ⟨rfl, hb6⟩
    have HO4 := HO4'.below hb6
    have HO5' := HO5.below hb6
    have hb6' := below_then hb5' hb6
    clear HO4' HO5 hb5' hb6 hE
    go_wp2_with fail
    refine (HX.out _ (below_then hB3 hb6')).mono ?_
    rintro e w7 ⟨v7, rfl, HO7, hb7⟩
    have HO4' := HO4.below hb7
    have HO5 := HO5'.below hb7
    have hb7' := below_then hb6' hb7
    have hE := eqSectionS_calls v4 v7 l l w7 HO4'.rd HO7.rd
    rw [decide_eq_true rfl] at hE
    have hE := Lib.hid hE
    clear HO4 HO5' hb6' hb7 HO7
    go_wp2_with fail
    refine hE.out.mono ?_
    rintro e w8 ⟨rfl, hb8⟩
    have HO4 := HO4'.below hb8
    have HO5' := HO5.below hb8
    have hb8' := below_then hb7' hb8
    clear HO4' HO5 hb7' hb8 hE
    go_wp2_with fail
    refine (markBetween_calls v4 l w8 w3.heap.size w4.heap.size HO4 hl hC4).mono ?_
    rintro e w9 ⟨rfl, _, hb9, hfr9⟩
    have HO5 := HO5'.move (w' := w9) (fun k hk hlt => hfr9 k hk hlt)
    have hb9' : Below w3.heap.size w3 w9 := hb8'.trans hb9
    have q1 : ¬ ((1 + 2 * l.length : Nat) : Int) < 0 := by omega
    have hE := eqSectionS_calls v5 v3 l' l' w9 HO5.rd (HR3.below hb9')
    rw [decide_eq_true rfl] at hE
    have hE := Lib.hid hE
    clear HO4 HO5' hb8' hb9 hfr9
    go_wp2_with (go_at_call 20; refine hE.out.mono ?_; rintro e w10 ⟨rfl, hb10⟩)
    have HO5' := HO5.below hb10
    have hb10' := hb9'.trans (hb10.mono hb9'.size)
    clear HO5 hb9' hb10 hE q1
    refine (markBetween_calls v5 l' w10 w4.heap.size (w10.heap.size + 1) HO5' (by omega) (fun k hk => by have := own_lt HO5' k hk; omega)).mono ?_
    rintro e w11 ⟨rfl, HO11, hb11, _⟩
    have hb11' := hb10'.trans (hb11.mono hs45)
    have HR11 := HO11.rd
    clear HO5' hb10' hb11 HO11
    go_wp2_with fail
    refine (heldSectionS_calls v5 l'.length w11 HR11 (by omega)).mono ?_
    rintro e w12 ⟨rfl, hb12⟩
    have HR12 := HR11.below hb12
    have hb12' := hb11'.trans (hb12.mono hb11'.size)
    have q1 : ¬ ((1 + 2 * l'.length : Nat) : Int) < 0 := by omega
    clear HR11 hb11' hb12
    go_wp2_with fail
    have hBw : Below w.heap.size w w12 := hB3.trans (hb12'.mono hB3.size)
    refine (HX.out _ hBw).mono ?_
    rintro e w13 ⟨v13, rfl, HO13, hb13⟩
    have HR13 := HR12.below hb13
    have hb13' := hb12'.trans (hb13.mono hb12'.size)
    clear HR12 hb12' hb13 hBw
    go_wp2_with fail
    have hBw : Below w.heap.size w w13 := hB3.trans (hb13'.mono hB3.size)
    refine (H2.out _ _ (HO13.rd.mono (fun _ _ => trivial)) (hT.below hBw)).mono ?_
    rintro e w14 ⟨v14, rfl, HO14, hb14⟩
    have HR14 := HR13.below hb14
    have hb14' := hb13'.trans (hb14.mono hb13'.size)
    have hE := eqSectionS_calls v14 v3 l' l' w14 HO14.rd (HR3.below hb14')
    rw [decide_eq_true rfl] at hE
    have hE := Lib.hid hE
    clear HR13 hb13' hb14 hBw HO13 HO14
    go_wp2_with fail
    refine hE.out.mono ?_
    rintro e w15 ⟨rfl, hb15⟩
    have HR15 := HR14.below hb15
    have hb15' := hb14'.trans (hb15.mono hb14'.size)
    clear HR14 hb14' hb15 hE
    go_wp2_with fail
    refine (heldSectionS_calls v5 l'.length w15 HR15 (by omega)).mono ?_
    rintro e w16 ⟨rfl, hb16⟩
    have hb16' := hb15'.trans (hb16.mono hb15'.size)
    clear HR15 hb15' hb16
    go_wp2
    go_ret
    exact ⟨rfl, hB3.trans (hb16'.mono hB3.size)⟩
end Go.Proofs.YteiekdolbnkihaaDoor.L
