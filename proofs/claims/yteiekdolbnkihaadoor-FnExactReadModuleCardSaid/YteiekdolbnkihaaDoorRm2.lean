/- The program's ReadModule. -/
import Derived.Test.YteiekdolbnkihaaDoorRm1
import Derived.Test.YteiekdolbnkihaaDoorCvS
import Derived.Test.YteiekdolbnkihaaDoorLib6
set_option linter.unusedVariables false
set_option linter.unusedSimpArgs false
namespace Go.Proofs.YteiekdolbnkihaaDoor.L
open Go.RowKit
theorem hasPrefix_calls (s : ByteArray) (w : World) (hs : s.size ≤ 1048576) :
    Calls Tryd.prog 54 #[.string s, .string (ByteArray.mk #[0, 97, 115, 109, 1, 0, 0, 0])] w fun e w' => e = .returned (.bool (headB s)) ∧ w = w' := by
  have HH : Hid (headB s = (decide (8 ≤ s.size) && (s.extract 0 8).toList == (ByteArray.mk #[0, 97, 115, 109, 1, 0, 0, 0]).toList)) := Lib.hid rfl
  have inner : ∀ W : World, Calls Tryd.prog 74 #[.string s, .string (ByteArray.mk #[0, 97, 115, 109, 1, 0, 0, 0])] W fun e w' => e = .returned (.bool (headB s)) ∧ W = w' := by
    intro W
    by_cases h8 : 8 ≤ s.size
    · have t1 : (8 : Int) ≤ (s.size : Int) := by omega
      go_enter Tryd.func74, Tryd.ntmps74
      go_wp2
      go_ret
      refine ⟨ret_bool ?_, rfl⟩
      rw [HH.out, decide_eq_true h8]
      simp
    · have t1 : ¬ (8 : Int) ≤ (s.size : Int) := by omega
      go_enter Tryd.func74, Tryd.ntmps74
      go_wp2
      go_ret
      exact ⟨ret_bool (by rw [HH.out, decide_eq_false h8]; rfl), rfl⟩
  have inner := Lib.hid inner
  go_enter Tryd.func54, Tryd.ntmps54
  go_wp2_with (go_at_call 74; refine (inner.out _).mono ?_; rintro e w' ⟨rfl, rfl⟩)
  go_ret
  exact ⟨rfl, rfl⟩
theorem ow_empty {α : Type} {e : Nat} {r : Rp α} (W : World) : Ow true e r (W.alloc (.cells #[] e)) (fun k => W.heap.size ≤ k) (.slice (some ⟨W.heap.size, 0, none⟩) 0 0) [] :=
  ⟨fun _ _ => False, [], World.ownsRow_lit W #[] 0 (Nat.zero_le _) (by unfold maxLen; omega) (by simp), fun k hk => by simp [Value.ownBlock] at hk; omega, fun _ _ h => h.elim, fun _ _ _ _ h => h.elim, fun i x hx => by simp at hx⟩
def readV (v : Value) (r : List Se × Nat × Bool) : Value := .tuple #[v, .int .i64 r.2.1, .bool r.2.2]
def owS (w w' : World) (v : Value) (l : List Se) : Prop := Ow true 27 sect w' (fun k => w.heap.size ≤ k) v l
set_option maxRecDepth 100000 in
set_option maxHeartbeats 8000000 in
theorem readModule_calls (s : ByteArray) (w : World) (hs : s.size ≤ 1048576) (hT : Tabs w) :
    Calls Tryd.prog 26 #[.string s] w fun e w' => ∃ v, e = .returned (readV v (readB s)) ∧ owS w w' v (readB s).1 ∧ Below w.heap.size w w' := by
  have HP := Lib.hid (fun W => hasPrefix_calls s W hs)
  have HR : Hid (readB s = if 2000 < s.size then ([], 0, false) else if headB s then (if (rdF s s.size 8 []).1 = 0 then (if goodB (rdF s s.size 8 []).2 then ((rdF s s.size 8 []).2, 0, true) else ([], 4, false)) else ([], (rdF s s.size 8 []).1, false)) else ([], 1, false)) := Lib.hid rfl
  by_cases h2 : 2000 < s.size
  · have t1 : (2000 : Int) < (s.size : Int) := by omega
    have HR2 : Hid (readB s = ([], 0, false)) := Lib.hid (by rw [HR.out, if_pos h2])
    clear HR
    go_enter Tryd.func26, Tryd.ntmps26
    go_wp2
    exact bodyPost_ret (v := readV (.slice none 0 0) ([], 0, false)) (by simp [results, Tryd.results26, go_sem, readV]) rfl ⟨_, by rw [HR2.out], by rw [HR2.out]; exact Ow.nil _ _ _ _ _, Below.refl _ _⟩
  have t1 : ¬ (2000 : Int) < (s.size : Int) := by omega
  rw [if_neg h2] at HR
  have hH : headB s = true → 8 ≤ s.size := by unfold headB; simp; intro h _; exact h
  cases hh : headB s
  · rw [hh] at HR
    have HHH := Lib.hid hh
    have HR2 : Hid (readB s = ([], 1, false)) := Lib.hid (by rw [HR.out]; rfl)
    clear HR hh hH
    go_enter Tryd.func26, Tryd.ntmps26
    go_wp2_with (go_at_call 54; refine (HP.out _).mono ?_; rintro e w' ⟨rfl, rfl⟩; rw [HHH.out])
    exact bodyPost_ret (v := readV (.slice none 0 0) ([], 1, false)) (by simp [results, Tryd.results26, go_sem, readV]) rfl ⟨_, by rw [HR2.out], by rw [HR2.out]; exact Ow.nil _ _ _ _ _, Below.refl _ _⟩
  have h8 := hH hh
  rw [hh] at HR
  have HHH := Lib.hid hh
  clear hh hH
  go_enter Tryd.func26, Tryd.ntmps26
  go_wp2_with (go_at_call 54; refine (HP.out _).mono ?_; rintro e w' ⟨rfl, rfl⟩; rw [HHH.out])
  clear HP
  go_loopw [5, 6] (fun o a wr => ∃ (f i : Nat) (l : List Se), a = .int .i64 i ∧ i ≤ s.size ∧ Ow true 27 sect wr (fun k => w.heap.size ≤ k) o l ∧ l.length ≤ i ∧ (∀ x ∈ l, x.body.size ≤ 200) ∧ s.size - i ≤ f ∧ Hid (rdF s f i l = rdF s s.size 8 []) ∧ Below w.heap.size w wr) (fun _ a _ => s.size - (intOf a).toNat)
  case atStart => exact ⟨s.size, 8, [], rfl, h8, ow_empty w, by simp, by simp, by omega, Lib.hid rfl, below_new _⟩
  case round =>
    obtain ⟨f, i, l, rfl, hi, HO, hll, hbs, hf, HF, HB⟩ := hrel
    by_cases hlt : i < s.size
    · obtain ⟨f, rfl⟩ : ∃ f', f = f' + 1 := ⟨f - 1, by omega⟩
      have i1 : (i : Int) < (s.size : Int) := by omega
      have HC := takeSection_calls s i wr hs hlt
      have HF2 : Hid (rdF s (f + 1) i l = if (secAt s i).2.2 = 0 then rdF s f (secAt s i).2.1 (l ++ [(secAt s i).1]) else ((secAt s i).2.2, [])) := Lib.hid (by rw [rdF, if_pos hlt])
      have hok := @secAt_ok s i
      obtain ⟨r, hr⟩ : ∃ r, secAt s i = r := ⟨_, rfl⟩
      rw [hr] at HC HF2 hok
      clear hr
      obtain ⟨x, e, c⟩ := r
      unfold secV seV at HC
      have HC := Lib.hid HC
      simp only at hok
      by_cases hc0 : c = 0
      · subst hc0
        obtain ⟨g1, g2, g3⟩ := hok rfl
        have t2 : ((0 : Nat) : Int) = 0 := rfl
        go_wp2_with fail
        refine HC.out.mono ?_
        rintro e1 w1 ⟨rfl, hb1⟩
        have HO1 := HO.below hb1
        have HB1 := below_then HB hb1
        have hB1 := HB1.size
        clear HO HC
        have tok1 : True := trivial
        go_wp2_with (at_builtin; have _t := tok1; go_loud (refine acc_append1 (r := sect) (e := 27) (B := w.heap.size) (w0 := w) sect_flat (by rfl) _ _ 33 (.agg #[.int .i64 0, .string ByteArray.empty]) 24 (by rfl) Tryd.underlying33 infoSect rfl (by decide) (by omega) _ l x [.int .i64 x.id, .string x.body] (by rfl) (by rw [World.size_alloc] <;> rfl) true (HO1.below (below_new _)) (sect_mk _ _ x) (HB1.alloc hB1 _) (by rw [World.size_alloc]; omega) (by omega) ?_); intro v2 w2 HO2 HB2 hB2; clear HO1 tok1)
        go_roundw
        case rel => exact ⟨f, e, l ++ [x], rfl, g2, HO2, by simp; omega, by simp; exact fun y hy => hy.elim (hbs y) (fun h => h ▸ g3), by omega, Lib.hid (by rw [← HF.out, HF2.out]; rfl), HB2⟩
        case measure => simp [intOf]; omega
      · have t2 : ((c : Int) != 0) = true := by rw [bne_iff_ne]; omega
        have hrd : Hid (rdF s s.size 8 [] = (c, [])) := Lib.hid (by rw [← HF.out, HF2.out]; exact if_neg hc0)
        have HR2 : Hid (readB s = ([], c, false)) := Lib.hid (by rw [HR.out, hrd.out]; simp [hc0])
        go_wp2_with (go_at_call 55; refine HC.out.mono ?_; rintro e1 w1 ⟨rfl, hb1⟩)
        exact bodyPost_ret (v := readV (.slice none 0 0) ([], c, false)) (by simp [results, Tryd.results26, go_sem, readV]) rfl ⟨_, by rw [HR2.out], by rw [HR2.out]; exact Ow.nil _ _ _ _ _, below_then HB (below_then hb1 (below_new _))⟩
    · obtain rfl : i = s.size := by omega
      have hrd : Hid (rdF s s.size 8 [] = (0, l)) := Lib.hid (by rw [← HF.out, rdF_end (Nat.le_refl _)])
      have HR2 : Hid (readB s = if goodB l then (l, 0, true) else ([], 4, false)) := Lib.hid (by rw [HR.out, hrd.out]; rfl)
      obtain ⟨A, c, rfl, _⟩ := HO.form
      have HG := goodSections_calls _ l wr HO.rd (by omega) (fun x hx => by have := hbs x hx; omega) (hT.below HB)
      have HG := Lib.hid HG
      cases hz : goodB l
      · rw [hz] at HR2 HG
        go_wp2_with (go_at_call 19; refine HG.out.mono ?_; rintro e1 w1 ⟨rfl, hb1⟩)
        exact bodyPost_ret (v := readV (.slice none 0 0) ([], 4, false)) (by simp [results, Tryd.results26, go_sem, readV]) rfl ⟨_, by rw [HR2.out]; rfl, by rw [HR2.out]; exact Ow.nil _ _ _ _ _, below_then HB hb1⟩
      · rw [hz] at HR2 HG
        go_wp2_with (go_at_call 19; refine HG.out.mono ?_; rintro e1 w1 ⟨rfl, hb1⟩)
        exact bodyPost_ret (v := readV (.slice A l.length c) (l, 0, true)) (by simp [results, Tryd.results26, go_sem, readV]) rfl ⟨_, by rw [HR2.out]; rfl, by rw [HR2.out]; exact HO.below hb1, below_then HB hb1⟩
end Go.Proofs.YteiekdolbnkihaaDoor.L
