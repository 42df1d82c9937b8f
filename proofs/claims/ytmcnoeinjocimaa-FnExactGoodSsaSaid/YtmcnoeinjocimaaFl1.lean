/- The program's own look at a flat step. -/
import Derived.Test.YtmcnoeinjocimaaProg
import Derived.Test.YtmcnoeinjocimaaTy1
set_option linter.unusedVariables false
set_option linter.unusedSimpArgs false
namespace Go.Proofs.Ytmcnoeinjocimaa.L
open Go.RowKit
theorem within_calls (a b c : Int) (w : World) : Calls Try.prog 77 #[.int .i64 a, .int .i64 b, .int .i64 c] w fun e w' => e = .returned (.bool (inB a b c)) ∧ w = w' := by
  go_enter Try.func77, Try.ntmps77
  go_wp2
  all_goals
    go_ret
    simp [inB, *]
    try omega
def nameB (has : Bool) (n many : Int) : Bool := !has && n == 0 || has && inB n 0 (many - 1)
theorem name_calls (has : Bool) (n many : Int) (ad : Addr) (w : World) (hc : w.cell? ad = some (.int .i64 many)) (h0 : 0 ≤ many) (h1 : many ≤ 1000) :
   Calls Try.prog 137 #[.bool has, .int .i64 n, .pointer (some ad)] w fun e w' => e = .returned (.bool (nameB has n many)) ∧ w = w' := by
  by_cases h : has = true
  · subst h
    go_enter Try.func137, Try.ntmps137
    go_wp2
    all_goals
      go_ret
      refine ⟨ret_bool ?_, rfl⟩
      simp [nameB, inB, *]
      try omega
  · replace h : has = false := by simpa using h
    subst h
    go_enter Try.func137, Try.ntmps137
    go_wp2
    all_goals
      go_ret
      refine ⟨ret_bool ?_, rfl⟩
      simp [nameB, inB, *]
      try omega
def fD (o : Int) : Bool := o == 1 || o == 2 || o == 3 || o == 4
def fA (o : Int) : Bool := o == 2 || o == 3 || o == 4 || o == 5 || o == 6
def fB (o : Int) : Bool := o == 3 || o == 5
def fN (o : Int) : Bool := o == 1
def fT (o : Int) : Bool := o == 3
def fK (o : Int) : Bool := o == 1 || o == 2 || o == 3 || o == 4 || o == 5 || o == 6
def fieldsV (o : Int) : Value := .tuple #[.agg #[.bool (fD o), .bool (fA o), .bool (fB o), .bool (fN o), .bool (fT o)], .bool (fK o)]
theorem fieldsOf_calls (o : Int) (w : World) : Calls Try.prog 124 #[.int .i64 o] w fun e w' => e = .returned (fieldsV o) ∧ Below w.heap.size w w' := by
  have key : ∀ o : Int, o = 1 ∨ o = 2 ∨ o = 3 ∨ o = 4 ∨ o = 5 ∨ o = 6 ∨ ((o == 1) = false ∧ (o == 2) = false ∧ (o == 3) = false ∧ (o == 4) = false ∧ (o == 5) = false ∧ (o == 6) = false) := by
    intro o; simp; omega
  rcases key o with rfl | rfl | rfl | rfl | rfl | rfl | ⟨h1, h2, h3, h4, h5, h6⟩
  case inr.inr.inr.inr.inr.inr =>
    have hv : fieldsV o = .tuple #[.agg #[.bool false, .bool false, .bool false, .bool false, .bool false], .bool false] := by simp [fieldsV, fD, fA, fB, fN, fT, fK, *]
    have HV := Lib.hid hv
    clear hv
    go_enter Try.func124, Try.ntmps124
    go_wp2
    exact bodyPost_ret (v := .tuple #[.agg #[.bool false, .bool false, .bool false, .bool false, .bool false], .bool false]) (by simp [results, Try.results124, go_sem]) rfl ⟨by rw [HV.out], (Below.refl _ _).alloc (Nat.le_refl _) _⟩
  all_goals
    go_enter Try.func124, Try.ntmps124
    go_wp2
    exact bodyPost_ret (v := fieldsV _) (by simp [results, Try.results124, go_sem, fieldsV, fD, fA, fB, fN, fT, fK]) rfl ⟨rfl, (Below.refl _ _).alloc (Nat.le_refl _) _⟩
def flatB (x : Fl) (many : Int) : Bool :=
  fK x.op && nameB (fD x.op) x.dst many && nameB (fA x.op) x.a many && nameB (fB x.op) x.b many &&
  (fN x.op && inB x.n 0 65535 || !fN x.op && x.n == 0) && (fT x.op && inB x.dO 4 9 || !fT x.op && x.dO == 0)
theorem isWord_calls (a : Int) (w : World) : Calls Try.prog 138 #[.int .i64 a] w fun e w' => e = .returned (.bool (inB a 0 65535)) ∧ w = w' := by
  go_enter Try.func138, Try.ntmps138
  go_wp2_with (go_at_call 77; refine (within_calls _ _ _ _).mono ?_; rintro e w' ⟨rfl, rfl⟩)
  go_ret
  exact ⟨rfl, rfl⟩
theorem isTwo_calls (a : Int) (w : World) : Calls Try.prog 139 #[.int .i64 a] w fun e w' => e = .returned (.bool (inB a 4 9)) ∧ w = w' := by
  go_enter Try.func139, Try.ntmps139
  go_wp2_with (go_at_call 77; refine (within_calls _ _ _ _).mono ?_; rintro e w' ⟨rfl, rfl⟩)
  go_ret
  exact ⟨rfl, rfl⟩
set_option maxHeartbeats 1000000 in
theorem flatOK_calls (x : Fl) (many : Int) (w : World) (h0 : 0 ≤ many) (h1 : many ≤ 1000) :
   Calls Try.prog 131 #[flV x, .int .i64 many] w fun e w' => e = .returned (.bool (flatB x many)) ∧ Below w.heap.size w w' := by
  unfold flV
  go_enter Try.func131, Try.ntmps131
  go_wp2_with (first | (go_at_call 124; refine (fieldsOf_calls _ _).mono ?_; rintro e w1 ⟨rfl, hb⟩; unfold fieldsV; obtain ⟨b1, b2, hz1, hz⟩ := boxed2 hb; obtain ⟨c1, f1⟩ := cell_of_block b1; obtain ⟨c2, f2⟩ := cell_of_block b2; clear b1 b2; replace hb := below2 hb) | (go_at_call 137; refine (name_calls _ _ many _ _ (by go_simp) h0 h1).mono ?_; rintro e w' ⟨rfl, rfl⟩) | (go_at_call 138; refine (isWord_calls _ _).mono ?_; rintro e w' ⟨rfl, rfl⟩) | (go_at_call 139; refine (isTwo_calls _ _).mono ?_; rintro e w' ⟨rfl, rfl⟩))
  all_goals
    go_ret
    refine ⟨ret_bool ?_, hb.alloc hb.size _⟩
    clear c1 f1 c2 f2 hb hz hz1
    simp_all [flatB]
end Go.Proofs.Ytmcnoeinjocimaa.L
