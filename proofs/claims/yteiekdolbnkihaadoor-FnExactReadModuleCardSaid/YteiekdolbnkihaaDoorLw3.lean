/- The law of ReadModule. -/
import Derived.Test.YteiekdolbnkihaaDoorRm3
import Derived.Test.YteiekdolbnkihaaDoorMt2
import Derived.Test.YteiekdolbnkihaaDoorEqS
set_option linter.unusedVariables false
set_option linter.unusedSimpArgs false
namespace Go.Proofs.YteiekdolbnkihaaDoor.L
open Go.RowKit
theorem ow_cases {α : Type} {ap : Bool} {e : Nat} {r : Rp α} {w : World} {F : Nat → Prop} {v : Value} {l : List α} (h : Ow ap e r w F v l) : (v = .slice none 0 0 ∧ l = []) ∨ ∃ g c, v = .slice (some ⟨g, 0, none⟩) l.length c ∧ F g ∧ g < w.heap.size := by
  have h' := h
  obtain ⟨φ, xs, ⟨_, h1⟩, _⟩ := h'
  rcases h1 with ⟨rfl, hn⟩ | ⟨g, cap, cur, rfl, _, _, hc, hm, _⟩
  · exact .inl ⟨rfl, List.eq_nil_of_length_eq_zero hn⟩
  · exact .inr ⟨g, cap, rfl, (h.lt_size (k := g) rfl)⟩
theorem markAny_calls (v : Value) (l : List Se) (w : World) (B : Nat) (w0 : World) (HO : Ow true 27 sect w (fun k => B ≤ k) v l) (hl : l.length ≤ 1048576) (HB : Below B w0 w) :
    Calls Tryd.prog 27 #[v, .int .i64 1] w fun e w' => e = .returned (.int .i64 (1 + 2 * l.length : Nat)) ∧ Ow true 27 sect w' (fun k => B ≤ k) v (marks 1 l.length) ∧ Below B w0 w' := by
  rcases ow_cases HO with ⟨rfl, rfl⟩ | ⟨g, c, rfl, hg, _⟩
  · refine (markNil_calls 0 w).mono ?_
    rintro e w' ⟨rfl, rfl⟩
    exact ⟨rfl, HO, HB⟩
  · exact markSectionS_calls g l.length c l w B w0 HO hl hg HB
theorem readB_len (s : ByteArray) : (readB s).1.length ≤ 8 := by
  unfold readB
  repeat' split
  all_goals first | (simp; done) | skip
  rename_i h
  unfold goodB at h
  simp at h
  exact h.1
set_option maxRecDepth 100000 in
set_option maxHeartbeats 8000000 in
theorem readLaw_calls (s : ByteArray) (w : World) (hs0 : s.size ≤ 9223372036854775807) (hT : Tabs w) :
    Calls Tryd.prog 7 #[.string s] w fun e w' => e = .returned (.bool true) ∧ Below w.heap.size w w' := by
  by_cases hs : s.size ≤ 1048576
  · have t1 : ¬ (1048576 : Int) < (s.size : Int) := by omega
    have hlen := readB_len s
    have H1 := fun W => readModuleS_calls s W hs
    have H2 := fun W (h : Tabs W) => readModule_calls s W hs h
    generalize readB s = r at *
    obtain ⟨l, c, b⟩ := r
    unfold readV owS at H1 H2
    simp only at H1 H2 hlen
    have H1 := Lib.hid H1
    have H2 := Lib.hid H2
    go_enter Tryd.func7, Tryd.ntmps7
    go_wp2_with fail
    refine (H1.out _).mono ?_
    rintro e w1 ⟨v1, rfl, HO1, hb1⟩
    have HR1 := HO1.rd
    clear HO1
    go_wp2_with fail
    refine (H2.out _ (hT.below hb1)).mono ?_
    rintro e w2 ⟨v2, rfl, HO2, hb2⟩
    have HR2 := HO2.rd
    have HB2 := hb2
    have hE := eqSectionS_calls v2 v1 l l w2 HR2 (HR1.below HB2)
    rw [decide_eq_true rfl] at hE
    have hE := Lib.hid hE
    clear HR2 hb2
    go_wp2_with fail
    refine hE.out.mono ?_
    rintro e w3 ⟨rfl, hb3⟩
    have HO3 := HO2.below hb3
    have HB3 := below_then HB2 hb3
    clear HO2 HB2 hb3 hE
    go_wp2_with fail
    refine (markAny_calls v2 l w3 _ w1 HO3 (by omega) HB3).mono ?_
    rintro e w4 ⟨rfl, HO4, HB4⟩
    have HR4 := HO4.rd
    clear HO3 HB3 HO4
    go_wp2_with fail
    refine (heldSectionS_calls v2 l.length w4 HR4 (by omega)).mono ?_
    rintro e w5 ⟨rfl, hb5⟩
    have HR5 := HR4.below hb5
    have HB5 : Below w1.heap.size w1 w5 := HB4.trans (hb5.mono HB4.size)
    clear HR4 HB4 hb5
    have q1 : ¬ ((1 + 2 * l.length : Nat) : Int) < 0 := by omega
    go_wp2_with fail
    have hbw : Below w.heap.size w w5 := hb1.trans (HB5.mono hb1.size)
    refine (H2.out _ (hT.below hbw)).mono ?_
    rintro e w6 ⟨v3, rfl, HO6, hb6⟩
    have HR6 := HO6.rd
    have HB6 : Below w1.heap.size w1 w6 := HB5.trans (hb6.mono HB5.size)
    have HR56 := HR5.below hb6
    have hE := eqSectionS_calls v3 v1 l l w6 HR6 (HR1.below HB6)
    rw [decide_eq_true rfl] at hE
    have hE := Lib.hid hE
    clear HR5 HB5 hb6 hbw HR6 HO6
    go_wp2_with fail
    refine hE.out.mono ?_
    rintro e w7 ⟨rfl, hb7⟩
    have HR7 := HR56.below hb7
    have HB7 : Below w1.heap.size w1 w7 := HB6.trans (hb7.mono HB6.size)
    clear HR56 HB6 hb7 hE
    go_wp2_with fail
    refine (heldSectionS_calls v2 l.length w7 HR7 (by omega)).mono ?_
    rintro e w8 ⟨rfl, hb8⟩
    have HB8 : Below w1.heap.size w1 w8 := HB7.trans (hb8.mono HB7.size)
    clear HR7 HB7 hb8
    go_wp2
    go_ret
    exact ⟨rfl, hb1.trans (HB8.mono hb1.size)⟩
  · have t1 : (1048576 : Int) < (s.size : Int) := by omega
    go_enter Tryd.func7, Tryd.ntmps7
    go_wp2
    go_ret
    exact ⟨rfl, Below.refl _ _⟩
end Go.Proofs.YteiekdolbnkihaaDoor.L
