/- The walks of what FnExactIsPure reaches, and that both sides are one. -/
import Derived.Test.YteiekdolbnkihaaProg
import Derived.Test.YteiekdolbnkihaaTy1
import Derived.Deep.QuietTactic
import Derived.BigQuiet
import Derived.Lib.Hide
import Derived.IntWalk
set_option linter.unusedVariables false
set_option linter.unusedSimpArgs false
namespace Go.Proofs.Yteiekdolbnkihaa.isPure
open Go.RowKit L
def inB (a b c : Int) : Bool := decide (b ≤ a) && decide (a ≤ c)
def Q (w w' : World) : Prop := ∃ n, w' = w.drewN n
theorem Q.refl (w : World) : Q w w := ⟨0, rfl⟩
theorem ret_bool {a b : Bool} (h : a = b) : Ending.returned (.bool a) = .returned (.bool b) := by rw [h]
theorem within_calls (a b c : Int) (w : World) : Calls Try.prog 44 #[.int .i64 a, .int .i64 b, .int .i64 c] w fun e w' => e = .returned (.bool (inB a b c)) ∧ w = w' := by
  go_enter Try.func44, Try.ntmps44
  go_wp2
  all_goals
    go_ret
    simp [inB, *]
    try omega
def nameB (has : Bool) (n many : Int) : Bool := !has && n == 0 || has && inB n 0 (many - 1)
theorem name_calls (has : Bool) (n many : Int) (ad : Addr) (w : World) (hc : w.cell? ad = some (.int .i64 many)) (h0 : 0 ≤ many) (h1 : many ≤ 1000) :
   Calls Try.prog 43 #[.bool has, .int .i64 n, .pointer (some ad)] w fun e w' => e = .returned (.bool (nameB has n many)) ∧ w = w' := by
  by_cases h : has = true
  · subst h
    go_enter Try.func43, Try.ntmps43
    go_wp2
    all_goals
      go_ret
      refine ⟨ret_bool ?_, rfl⟩
      simp [nameB, inB, *]
      try omega
  · replace h : has = false := by simpa using h
    subst h
    go_enter Try.func43, Try.ntmps43
    go_wp2
    all_goals
      go_ret
      refine ⟨ret_bool ?_, rfl⟩
      simp [nameB, inB, *]
      try omega
def fD (o : Int) : Bool := o == 1 || o == 2 || o == 3 || o == 4
def fA (o : Int) : Bool := o == 2 || o == 3 || o == 4 || o == 5 || o == 6
def fB (o : Int) : Bool := o == 3 || o == 5
def fN (o : Int) : Bool := o == 1
def fT (o : Int) : Bool := o == 3
def fK (o : Int) : Bool := o == 1 || o == 2 || o == 3 || o == 4 || o == 5 || o == 6
def fieldsV (o : Int) : Value := .tuple #[.agg #[.bool (fD o), .bool (fA o), .bool (fB o), .bool (fN o), .bool (fT o)], .bool (fK o)]
theorem fieldsOf_calls (o : Int) (w : World) : Calls Try.prog 42 #[.int .i64 o] w fun e w' => e = .returned (fieldsV o) ∧ Below w.heap.size w w' := by
  have key : ∀ o : Int, o = 1 ∨ o = 2 ∨ o = 3 ∨ o = 4 ∨ o = 5 ∨ o = 6 ∨ ((o == 1) = false ∧ (o == 2) = false ∧ (o == 3) = false ∧ (o == 4) = false ∧ (o == 5) = false ∧ (o == 6) = false) := by
    intro o; simp; omega
  rcases key o with rfl | rfl | rfl | rfl | rfl | rfl | ⟨h1, h2, h3, h4, h5, h6⟩
  case inr.inr.inr.inr.inr.inr =>
    have hv : fieldsV o = .tuple #[.agg #[.bool false, .bool false, .bool false, .bool false, .bool false], .bool false] := by simp [fieldsV, fD, fA, fB, fN, fT, fK, *]
    have HV := Lib.hid hv
    clear hv
    go_enter Try.func42, Try.ntmps42
    go_wp2
    exact bodyPost_ret (v := .tuple #[.agg #[.bool false, .bool false, .bool false, .bool false, .bool false], .bool false]) (by simp [results, Try.results42, go_sem]) rfl ⟨by rw [HV.out], (Below.refl _ _).alloc (Nat.le_refl _) _⟩
  all_goals
    go_enter Try.func42, Try.ntmps42
    go_wp2
    exact bodyPost_ret (v := fieldsV _) (by simp [results, Try.results42, go_sem, fieldsV, fD, fA, fB, fN, fT, fK]) rfl ⟨rfl, (Below.refl _ _).alloc (Nat.le_refl _) _⟩
def flatB (x : Fl) (many : Int) : Bool :=
  fK x.op && nameB (fD x.op) x.dst many && nameB (fA x.op) x.a many && nameB (fB x.op) x.b many &&
  (fN x.op && inB x.n 0 65535 || !fN x.op && x.n == 0) && (fT x.op && inB x.dO 4 9 || !fT x.op && x.dO == 0)
theorem bcell {W w1 : World} (hb : Below W.heap.size W w1) : (∀ b o, b < W.heap.size → w1.cell? ⟨b, o, none⟩ = W.cell? ⟨b, o, none⟩) ∧ (∀ b o, b < W.heap.size → w1.frozen? ⟨b, o, none⟩ = W.frozen? ⟨b, o, none⟩) :=
  ⟨fun b o h => hb.cell (p := ⟨b, o, none⟩) h, fun b o h => hb.frozen (p := ⟨b, o, none⟩) h⟩

theorem boxed2 {w w1 : World} {o1 o2 : Obj} (hb : Below ((w.alloc o1).alloc o2).heap.size ((w.alloc o1).alloc o2) w1) :
   w1.heap[w.heap.size]? = some o1 ∧ w1.heap[w.heap.size + 1]? = some o2 ∧ w.heap.size < w1.heap.size ∧ w.heap.size + 1 < w1.heap.size := by
  have hz : w.heap.size + 1 + 1 ≤ w1.heap.size := by simpa using hb.size
  refine ⟨?_, ?_, by omega, by omega⟩
  · rw [hb.block _ (by rw [World.size_alloc, World.size_alloc]; omega)]; exact heap_alloc2_old w o1 o2
  · rw [hb.block _ (by rw [World.size_alloc, World.size_alloc]; omega)]; exact heap_alloc2_new w o1 o2
theorem cell_of_block {w : World} {b : Nat} {c : Array Value} {t : TypeId} (h : w.heap[b]? = some (.cells c t (0, 0))) : (∀ o, w.cell? ⟨b, o, none⟩ = c[o]?) ∧ ∀ o, w.frozen? ⟨b, o, none⟩ = false := by
  constructor
  · intro o; simp [World.cell?, h]
  · intro o; simp [World.frozen?, h]
theorem isWord_calls (a : Int) (w : World) : Calls Try.prog 45 #[.int .i64 a] w fun e w' => e = .returned (.bool (inB a 0 65535)) ∧ w = w' := by
  go_enter Try.func45, Try.ntmps45
  go_wp2_with (go_at_call 44; refine (within_calls _ _ _ _).mono ?_; rintro e w' ⟨rfl, rfl⟩)
  go_ret
  exact ⟨rfl, rfl⟩
theorem isTwo_calls (a : Int) (w : World) : Calls Try.prog 46 #[.int .i64 a] w fun e w' => e = .returned (.bool (inB a 4 9)) ∧ w = w' := by
  go_enter Try.func46, Try.ntmps46
  go_wp2_with (go_at_call 44; refine (within_calls _ _ _ _).mono ?_; rintro e w' ⟨rfl, rfl⟩)
  go_ret
  exact ⟨rfl, rfl⟩
theorem below_of_below2 {w w1 : World} {o1 o2 : Obj} (hb : Below ((w.alloc o1).alloc o2).heap.size ((w.alloc o1).alloc o2) w1) : Below w.heap.size w w1 :=
  (((Below.refl _ _).alloc (Nat.le_refl _) _).alloc (by simp) _).trans (hb.mono (by simp; omega))
set_option maxHeartbeats 1000000 in
theorem flatOK_calls (x : Fl) (many : Int) (w : World) (h0 : 0 ≤ many) (h1 : many ≤ 1000) :
   Calls Try.prog 25 #[flV x, .int .i64 many] w fun e w' => e = .returned (.bool (flatB x many)) ∧ Below w.heap.size w w' := by
  unfold flV
  go_enter Try.func25, Try.ntmps25
  go_wp2_with (first | (go_at_call 42; refine (fieldsOf_calls _ _).mono ?_; rintro e w1 ⟨rfl, hb⟩; unfold fieldsV; obtain ⟨b1, b2, hz1, hz⟩ := boxed2 hb; obtain ⟨c1, f1⟩ := cell_of_block b1; obtain ⟨c2, f2⟩ := cell_of_block b2; clear b1 b2; replace hb := below_of_below2 hb) | (go_at_call 43; refine (name_calls _ _ many _ _ (by go_simp) h0 h1).mono ?_; rintro e w' ⟨rfl, rfl⟩) | (go_at_call 45; refine (isWord_calls _ _).mono ?_; rintro e w' ⟨rfl, rfl⟩) | (go_at_call 46; refine (isTwo_calls _ _).mono ?_; rintro e w' ⟨rfl, rfl⟩))
  all_goals
    go_ret
    refine ⟨ret_bool ?_, hb.alloc hb.size _⟩
    clear c1 f1 c2 f2 hb hz hz1
    simp_all [flatB]
theorem l1In_calls (a b c : Int) (w : World) : Calls Try.prog 23 #[.int .i64 a, .int .i64 b, .int .i64 c] w fun e w' => e = .returned (.bool (inB a b c)) ∧ w = w' := by
  go_enter Try.func23, Try.ntmps23
  go_wp2
  all_goals
    go_ret
    simp [inB, *]
    try omega
theorem l6Name_calls (a : Int) (w : World) : Calls Try.prog 28 #[.int .i64 a] w fun e w' => e = .returned (.bool (inB a 0 11)) ∧ w = w' := by
  go_enter Try.func28, Try.ntmps28
  go_wp2_with (go_at_call 23; refine (l1In_calls _ _ _ _).mono ?_; rintro e w' ⟨rfl, rfl⟩)
  go_ret
  exact ⟨rfl, rfl⟩
def sFlatB (x : Fl) : Bool :=
  !(x.op != 3 && x.dO != 0 || x.op != 1 && x.n != 0) &&
  (if x.op == 1 then inB x.dst 0 11 && x.a == 0 && x.b == 0 && inB x.n 0 65535
   else if x.op == 2 || x.op == 4 then inB x.dst 0 11 && inB x.a 0 11 && x.b == 0
   else if x.op == 3 then inB x.dst 0 11 && inB x.a 0 11 && inB x.b 0 11 && inB x.dO 4 9
   else if x.op == 5 then x.dst == 0 && inB x.a 0 11 && inB x.b 0 11
   else x.op == 6 && x.dst == 0 && inB x.a 0 11 && x.b == 0)
set_option maxHeartbeats 1000000 in
theorem l6Flat_calls (x : Fl) (w : World) : Calls Try.prog 22 #[flV x] w fun e w' => e = .returned (.bool (sFlatB x)) ∧ Below w.heap.size w w' := by
  unfold flV
  go_enter Try.func22, Try.ntmps22
  go_wp2_with (first | (go_at_call 28; refine (l6Name_calls _ _).mono ?_; rintro e w' ⟨rfl, rfl⟩) | (go_at_call 23; refine (l1In_calls _ _ _ _).mono ?_; rintro e w' ⟨rfl, rfl⟩))
  all_goals
    go_ret
    refine ⟨ret_bool ?_, (Below.refl _ _).alloc (Nat.le_refl _) _⟩
    simp_all [sFlatB]
def pureB (x : Fl) : Bool := x.op == 1 || x.op == 2 || x.op == 3 && x.dO != 7
theorem l12Pure_calls (x : Fl) (w : World) : Calls Try.prog 24 #[flV x] w fun e w' => e = .returned (.bool (pureB x)) ∧ Below w.heap.size w w' := by
  unfold flV
  go_enter Try.func24, Try.ntmps24
  go_wp2
  all_goals
    go_ret
    refine ⟨ret_bool ?_, (Below.refl _ _).alloc (Nat.le_refl _) _⟩
    simp_all [pureB]
theorem pure_calls (x : Fl) (w : World) : Calls Try.prog 26 #[flV x] w fun e w' => e = .returned (.bool (pureB x)) ∧ Below w.heap.size w w' := by
  unfold flV
  go_enter Try.func26, Try.ntmps26
  go_wp2
  all_goals
    go_ret
    refine ⟨ret_bool ?_, (Below.refl _ _).alloc (Nat.le_refl _) _⟩
    simp_all [pureB]
theorem below1 {w w1 : World} {o : Obj} (hb : Below (w.alloc o).heap.size (w.alloc o) w1) : Below w.heap.size w w1 :=
  (((Below.refl _ _).alloc (Nat.le_refl _) _)).trans (hb.mono (by simp))
theorem boxed1 {w w1 : World} {o1 : Obj} (hb : Below (w.alloc o1).heap.size (w.alloc o1) w1) :
   w1.heap[w.heap.size]? = some o1 ∧ w.heap.size < w1.heap.size := by
  have hz : w.heap.size + 1 ≤ w1.heap.size := by simpa using hb.size
  refine ⟨?_, by omega⟩
  rw [hb.block _ (by rw [World.size_alloc]; omega)]; exact heap_alloc_new w o1
theorem blk_below {w w1 : World} {g : Nat} {o : Obj} (h : w.heap[g]? = some o) (hb : Below w.heap.size w w1) : w1.heap[g]? = some o := (hb.block g ((Array.getElem?_eq_some_iff.1 h).1)).trans h
def implPure (x : Fl) : Bool := flatB x 250 && pureB x
theorem implPure_calls (x : Fl) (w : World) : Calls Try.prog 8 #[flV x] w fun e w' => e = .returned (.bool (implPure x)) ∧ Below w.heap.size w w' := by
  unfold flV
  go_enter Try.func8, Try.ntmps8
  go_wp2_with (first | (go_at_call 25; refine (flatOK_calls x _ _ (by omega) (by omega)).mono ?_; rintro e w1 ⟨rfl, hb⟩; obtain ⟨b1, hz⟩ := boxed1 hb; obtain ⟨c1, f1⟩ := cell_of_block b1; clear b1; replace hb := below1 hb) | (go_at_call 26; refine (pure_calls x _).mono ?_; rintro e w2 ⟨rfl, hb2⟩; replace hb := hb.trans (hb2.mono hb.size)))
  all_goals
    go_ret
    refine ⟨ret_bool ?_, hb⟩
    simp_all [implPure]
theorem toFlat_calls (x : Fl) (w : World) : Calls Try.prog 7 #[flV x] w fun e w' => e = .returned (flV x) ∧ Below w.heap.size w w' := by
  unfold flV
  go_enter Try.func7, Try.ntmps7
  go_wp2
  exact bodyPost_ret (v := flV x) (by simp [results, Try.results7, go_sem, flV]) rfl ⟨rfl, (((Below.refl _ _).alloc (Nat.le_refl _) _).alloc (by simp) _).alloc (by simp; omega) _⟩
def specPure (x : Fl) : Bool :=
  sFlatB { x with dst := 0, a := 0, b := 0 } && inB x.dst 0 249 && inB x.a 0 249 && inB x.b 0 249 &&
  !(x.op == 1 && x.a != 0 || x.op != 3 && x.op != 5 && x.b != 0) && pureB x
set_option maxHeartbeats 1000000 in
theorem specPure_calls (x : Fl) (w : World) : Calls Try.prog 6 #[flV x] w fun e w' => e = .returned (.bool (specPure x)) ∧ Below w.heap.size w w' := by
  obtain ⟨q, hq⟩ : ∃ q, q = sFlatB { x with dst := 0, a := 0, b := 0 } := ⟨_, rfl⟩
  have HL : ∀ w, Calls Try.prog 22 #[.agg #[.int .i64 x.op, .int .i64 x.dO, .int .i64 0, .int .i64 0, .int .i64 0, .int .i64 x.n]] w fun e w' => e = .returned (.bool q) ∧ Below w.heap.size w w' := by
    rw [hq]; exact fun w => l6Flat_calls { x with dst := 0, a := 0, b := 0 } w
  have HS : Hid (specPure x = (q && inB x.dst 0 249 && inB x.a 0 249 && inB x.b 0 249 && !(x.op == 1 && x.a != 0 || x.op != 3 && x.op != 5 && x.b != 0) && pureB x)) := Lib.hid (by rw [hq]; rfl)
  have HL := Lib.hid HL
  clear hq
  unfold flV
  go_enter Try.func6, Try.ntmps6
  go_wp2_with (first | (go_at_call 22; refine (HL.out _).mono ?_; rintro e w1 ⟨rfl, hb⟩; obtain ⟨b1, b2, hz1, hz⟩ := boxed2 hb; obtain ⟨c1, f1⟩ := cell_of_block b1; obtain ⟨c2, f2⟩ := cell_of_block b2; clear b1 b2; replace hb := below_of_below2 hb) | (go_at_call 23; refine (l1In_calls _ _ _ _).mono ?_; rintro e w' ⟨rfl, rfl⟩) | (go_at_call 24; refine (l12Pure_calls ⟨_, _, _, _, _, _⟩ _).mono ?_; rintro e w2 ⟨rfl, hb2⟩; replace hb := hb.trans (hb2.mono hb.size)))
  all_goals
    go_ret
    refine ⟨ret_bool ?_, hb⟩
    clear c1 c2 f1 f2 hz1 hz hb HL
    replace HS := HS.out
    simp_all [pureB]
theorem pure_same (x : Fl) : specPure x = implPure x := by
  unfold specPure implPure
  cases hp : pureB x
  · simp
  · have key : x.op = 1 ∨ x.op = 2 ∨ x.op = 3 ∨ x.op = 4 ∨ x.op = 5 ∨ x.op = 6 ∨ ((x.op == 1) = false ∧ (x.op == 2) = false ∧ (x.op == 3) = false ∧ (x.op == 4) = false ∧ (x.op == 5) = false ∧ (x.op == 6) = false) := by
      simp; omega
    rw [Bool.eq_iff_iff]
    rcases key with h | h | h | h | h | h | ⟨h1, h2, h3, h4, h5, h6⟩ <;> simp [sFlatB, flatB, nameB, inB, fK, fD, fA, fB, fN, fT, pureB, *] at hp ⊢ <;> omega
theorem law_calls (x : Fl) (w : World) : Calls Try.prog 3 #[flV x] w fun e w' => e = .returned (.bool true) ∧ Below w.heap.size w w' := by
  have hs := pure_same x
  unfold flV
  go_enter Try.func3, Try.ntmps3
  have HS := Lib.hid hs
  clear hs
  go_wp2_with fail
  refine (toFlat_calls x _).mono ?_; rintro e w1 ⟨rfl, hb⟩; unfold flV
  obtain ⟨b1, hz⟩ := boxed1 hb; obtain ⟨c1, f1⟩ := cell_of_block b1; replace hb := below1 hb
  go_wp2_with fail
  refine (specPure_calls x _).mono ?_; rintro e w2 ⟨rfl, hb2⟩
  replace b1 := blk_below b1 hb2; obtain ⟨c2, f2⟩ := cell_of_block b1; replace hb := hb.trans (hb2.mono hb.size)
  go_wp2_with fail
  refine (toFlat_calls x _).mono ?_; rintro e w3 ⟨rfl, hb3⟩; unfold flV
  replace b1 := blk_below b1 hb3; obtain ⟨c3, f3⟩ := cell_of_block b1; replace hb := hb.trans (hb3.mono hb.size)
  go_wp2_with fail
  refine (implPure_calls x _).mono ?_; rintro e w4 ⟨rfl, hb4⟩; rw [← HS.out]
  replace b1 := blk_below b1 hb4; obtain ⟨c4, f4⟩ := cell_of_block b1; replace hb := hb.trans (hb4.mono hb.size)
  go_wp2
  go_ret
  exact ⟨rfl, hb⟩
end Go.Proofs.Yteiekdolbnkihaa.isPure
