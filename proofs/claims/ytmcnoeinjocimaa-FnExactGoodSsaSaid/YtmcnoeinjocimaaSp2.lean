/- The reference: which values are there, which a part uses at its end. -/
import Derived.Test.YtmcnoeinjocimaaSp1
import Derived.Test.YtmcnoeinjocimaaTy3
set_option linter.unusedVariables false
set_option linter.unusedSimpArgs false
namespace Go.Proofs.Ytmcnoeinjocimaa.L
open Go.RowKit
def thereB (defs dom far : List Int) (part v : Int) : Bool :=
  decide (0 ≤ v) && decide (v < defs.length) && (decide (v < 12) || far.contains v || (decide (0 ≤ defs[v.toNat]!) && defs[v.toNat]! != part && dom.contains defs[v.toNat]!))
def thereS (l defs dom far : List Int) (part : Int) : Bool := l.all (thereB defs dom far part)
theorem l_all_take_succ {α : Type} {p : α → Bool} {l : List α} {k : Nat} (hk : k < l.length) (h : (l.take k).all p = true) (hp : p l[k] = true) : (l.take (k + 1)).all p = true := by
  rw [List.take_succ_eq_append_getElem hk, List.all_append, h]; simp [hp]
theorem l_all_false {α : Type} {p : α → Bool} {l : List α} {k : Nat} (hk : k < l.length) (hp : p l[k] = false) : l.all p = false := by
  rw [List.all_eq_false]; exact ⟨_, List.getElem_mem hk, by simp [hp]⟩
set_option maxHeartbeats 2000000 in
theorem l9There_calls {F1 F2 F3 F4 : Nat → Prop} (v1 v2 v3 v4 : Value) (l defs dom far : List Int) (part : Int) (w : World) (h1 : Rp.Rd Rp.int w F1 v1 l) (h2 : Rp.Rd Rp.int w F2 v2 defs) (h3 : Rp.Rd Rp.int w F3 v3 dom) (h4 : Rp.Rd Rp.int w F4 v4 far) :
    Calls Try.prog 47 #[v1, v2, v3, v4, .int .i64 part] w fun e w' => e = .returned (.bool (thereS l defs dom far part)) ∧ Below w.heap.size w w' := by
  have HX : Hid (thereS l defs dom far part = l.all (thereB defs dom far part)) := Lib.hid rfl
  obtain ⟨A, c, rfl, hlc, hcm, hra⟩ := rd_int h1
  obtain ⟨B, d, rfl, hld, hdm, hrb⟩ := rd_int h2
  obtain ⟨C, cc, rfl, _, _, _⟩ := rd_int h3
  obtain ⟨D, cd, rfl, _, _, _⟩ := rd_int h4
  go_enter Try.func47, Try.ntmps47
  go_wp2
  go_loopw [16] (fun i wr => ∃ k : Nat, k ≤ l.length ∧ i = .int .i64 k ∧ Hid ((l.take k).all (thereB defs dom far part) = true) ∧ Below w.heap.size w wr) (fun i _ => l.length - (intOf i).toNat)
  case atStart => exact ⟨0, Nat.zero_le _, rfl, Lib.hid rfl, Below.refl _ _⟩
  case round =>
    obtain ⟨k, hk, rfl, HT, HB⟩ := hrel
    by_cases hlt : k < l.length
    · rcases hra with rfl | ⟨b, o, rfl, hb, hcell⟩
      · simp at hlt
      have c1 := cell_below HB (hcell k hlt)
      clear hcell
      have HP : Hid (∀ r, thereB defs dom far part l[k] = r → thereB defs dom far part l[k] = r) := Lib.hid (fun _ h => h)
      have HF : Hid (thereB defs dom far part l[k] = false → thereS l defs dom far part = false) := Lib.hid (fun h => l_all_false hlt h)
      have HS : Hid (thereB defs dom far part l[k] = true → (l.take (k + 1)).all (thereB defs dom far part) = true) := Lib.hid (fun h => l_all_take_succ hlt HT.out h)
      have HV : Hid (thereB defs dom far part l[k] = (decide (0 ≤ l[k]) && decide (l[k] < defs.length) && (decide (l[k] < 12) || far.contains l[k] || (decide (0 ≤ defs[l[k].toNat]!) && defs[l[k].toNat]! != part && dom.contains defs[l[k].toNat]!)))) := Lib.hid rfl
      clear HP
      generalize thereB defs dom far part l[k] = r at *
      generalize l[k] = x at *
      by_cases hx0 : x < 0
      · have t0 : decide (x < 0) = true := decide_eq_true hx0
        have HR : Hid (r = false) := Lib.hid (by rw [HV.out]; simp; omega)
        go_wp2
        go_ret
        exact ⟨ret_bool (HF.out HR.out).symm, HB⟩
      have t0 : decide (x < 0) = false := decide_eq_false hx0
      by_cases hx1 : (defs.length : Int) ≤ x
      · have t1 : decide ((defs.length : Int) ≤ x) = true := decide_eq_true hx1
        have HR : Hid (r = false) := Lib.hid (by rw [HV.out]; simp; omega)
        go_wp2
        go_ret
        exact ⟨ret_bool (HF.out HR.out).symm, HB⟩
      have t1 : decide ((defs.length : Int) ≤ x) = false := decide_eq_false hx1
      obtain ⟨n, rfl⟩ := Int.eq_ofNat_of_zero_le (by omega : 0 ≤ x)
      have hn : n < defs.length := by omega
      rcases hrb with rfl | ⟨b2, o2, rfl, hb2, hcell2⟩
      · simp at hn
      have c2 := cell_below HB (hcell2 n hn)
      clear hcell2 hx0 hx1
      replace HV : Hid (r = (decide ((n : Int) < 12) || far.contains (n : Int) || (decide (0 ≤ defs[n]) && defs[n] != part && dom.contains defs[n]))) := Lib.hid (by
        rw [HV.out, Int.toNat_natCast, getElem!_pos defs n hn]; simp only [Int.natCast_nonneg, decide_true, Bool.true_and, show ((n : Int) < defs.length) = True from by simp; omega])
      have HC1 := fun W (hW : Below wr.heap.size wr W) => l1Has_calls _ far (n : Int) W ((h4.below HB).below hW)
      have HC2 := fun W (hW : Below wr.heap.size wr W) => l1Has_calls _ dom defs[n] W ((h3.below HB).below hW)
      generalize defs[n] = y at *
      generalize far.contains (n : Int) = r1 at *
      generalize dom.contains y = r2 at *
      replace HC1 := Lib.hid HC1
      replace HC2 := Lib.hid HC2
      have i0 : (0 : Int) ≤ (n : Int) := Int.natCast_nonneg _
      have i1 : (n : Int) < (defs.length : Int) := by omega
      have HB1 := HB
      have tok1 : True := trivial
      go_wp2_with (first | (go_at_call 75; have _t := tok1; refine (HC1.out _ (Below.refl _ _)).mono ?_; rintro e w1 ⟨rfl, hb1⟩; clear tok1; replace HB1 := below_then HB hb1) | (go_at_call 75; refine (HC2.out _ hb1).mono ?_; rintro e w2 ⟨rfl, hb2⟩; replace HB1 := below_then HB1 hb2))
      all_goals
        first
        | (go_ret
           exact ⟨ret_bool (HF.out (by have h := HV.out; clear HX HT HF HS HC1 HC2 HB HB1 HV; first | (simp_all; done) | (cases r2 <;> simp_all; done) | (simp_all; omega))).symm, HB1⟩)
        | (have HR : Hid (r = true) := Lib.hid (by have h := HV.out; clear HX HT HF HS HC1 HC2 HB HB1 HV; first | (simp_all; done) | (cases r2 <;> simp_all; done) | (simp_all; omega))
           go_roundw
           case rel => exact ⟨k + 1, by omega, by go_num, Lib.hid (HS.out HR.out), HB1⟩
           case measure => simp [intOf]; omega)
    · obtain rfl : k = l.length := by omega
      go_wp2
      go_ret
      refine ⟨ret_bool ?_, HB⟩
      rw [HX.out]; have := HT.out; rw [List.take_length] at this; exact this.symm
end Go.Proofs.Ytmcnoeinjocimaa.L
