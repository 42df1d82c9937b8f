/- Joined texts, each of which was built by itself: Sf1 Sp1 Ty3 Sp2 Cv2 Cv4 Mk1 Cv5 Ty4 Rc1 Sp5 Fl1 Ix1. -/
import Derived.Test.YtmcnoeinjocimaaFIsSplit1
import Derived.Test.YtmcnoeinjocimaaProg
set_option linter.unusedVariables false
set_option linter.unusedSimpArgs false
namespace Go.Proofs.Ytmcnoeinjocimaa.L
open Go.RowKit
theorem l1In_calls (a b c : Int) (w : World) : Calls Try.prog 42 #[.int .i64 a, .int .i64 b, .int .i64 c] w fun e w' => e = .returned (.bool (inB a b c)) ∧ w = w' := by
  go_enter Try.func42, Try.ntmps42
  go_wp2
  all_goals
    go_ret
    simp [inB, *]
    try omega
theorem l6Name_calls (a : Int) (w : World) : Calls Try.prog 110 #[.int .i64 a] w fun e w' => e = .returned (.bool (inB a 0 11)) ∧ w = w' := by
  go_enter Try.func110, Try.ntmps110
  go_wp2_with (go_at_call 42; refine (l1In_calls _ _ _ _).mono ?_; rintro e w' ⟨rfl, rfl⟩)
  go_ret
  exact ⟨rfl, rfl⟩
def sFlatB (x : Fl) : Bool :=
  !(x.op != 3 && x.dO != 0 || x.op != 1 && x.n != 0) &&
  (if x.op == 1 then inB x.dst 0 11 && x.a == 0 && x.b == 0 && inB x.n 0 65535
   else if x.op == 2 || x.op == 4 then inB x.dst 0 11 && inB x.a 0 11 && x.b == 0
   else if x.op == 3 then inB x.dst 0 11 && inB x.a 0 11 && inB x.b 0 11 && inB x.dO 4 9
   else if x.op == 5 then x.dst == 0 && inB x.a 0 11 && inB x.b 0 11
   else x.op == 6 && x.dst == 0 && inB x.a 0 11 && x.b == 0)
set_option maxHeartbeats 1000000 in
theorem l6Flat_calls (x : Fl) (w : World) : Calls Try.prog 71 #[flV x] w fun e w' => e = .returned (.bool (sFlatB x)) ∧ Below w.heap.size w w' := by
  unfold flV
  go_enter Try.func71, Try.ntmps71
  go_wp2_with (first | (go_at_call 110; refine (l6Name_calls _ _).mono ?_; rintro e w' ⟨rfl, rfl⟩) | (go_at_call 42; refine (l1In_calls _ _ _ _).mono ?_; rintro e w' ⟨rfl, rfl⟩))
  all_goals
    go_ret
    refine ⟨ret_bool ?_, (Below.refl _ _).alloc (Nat.le_refl _) _⟩
    simp_all [sFlatB]
end Go.Proofs.Ytmcnoeinjocimaa.L

set_option linter.unusedVariables false
set_option linter.unusedSimpArgs false
namespace Go.Proofs.Ytmcnoeinjocimaa.L
open Go.RowKit
theorem l9Sets_calls (o : Int) (w : World) : Calls Try.prog 49 #[.int .i64 o] w fun e w' => e = .returned (.bool (inB o 1 4)) ∧ w = w' := by
  go_enter Try.func49, Try.ntmps49
  go_wp2_with (go_at_call 42; refine (l1In_calls _ _ _ _).mono ?_; rintro e w' ⟨rfl, rfl⟩)
  go_ret
  exact ⟨rfl, rfl⟩
set_option maxHeartbeats 1000000 in
theorem l1Has_calls {F : Nat → Prop} (v : Value) (l : List Int) (n : Int) (w : World) (h : Rp.Rd Rp.int w F v l) :
    Calls Try.prog 75 #[v, .int .i64 n] w fun e w' => e = .returned (.bool (l.contains n)) ∧ Below w.heap.size w w' := by
  obtain ⟨A, c, rfl, hlc, hcm, hrow⟩ := rd_int h
  go_enter Try.func75, Try.ntmps75
  go_wp2
  go_loopw [9] (fun i wr => ∃ k : Nat, k ≤ l.length ∧ i = .int .i64 k ∧ Hid (∀ (j : Nat) (hj : j < l.length), j < k → l[j] ≠ n) ∧ Below w.heap.size w wr) (fun i _ => l.length - (intOf i).toNat)
  case atStart => exact ⟨0, Nat.zero_le _, rfl, Lib.hid (fun j _ hj => by omega), Below.refl _ _⟩
  case round =>
    obtain ⟨k, hk, rfl, HN, HB⟩ := hrel
    by_cases hlt : k < l.length
    · rcases hrow with rfl | ⟨b, o, rfl, hb, hcell⟩
      · simp at hlt
      have c1 := cell_below HB (hcell k hlt)
      clear hcell
      by_cases he : l[k] = n
      · have ht : (l[k] == n) = true := by simpa using he
        have HE := Lib.hid he
        clear he
        go_wp2
        go_ret
        exact ⟨ret_bool (by symm; rw [List.contains_iff_mem]; exact HE.out ▸ List.getElem_mem hlt), HB⟩
      · have ht : (l[k] == n) = false := by simpa using he
        have HE := Lib.hid he
        clear he
        go_wp2
        go_roundw
        case rel => exact ⟨k + 1, by omega, by go_num, Lib.hid (fun j hj hjk => (Nat.lt_or_eq_of_le (Nat.le_of_lt_succ hjk)).elim (fun h => HN.out j hj h) (fun h => by subst h; exact HE.out)), HB⟩
        case measure => simp [intOf]; omega
    · obtain rfl : k = l.length := by omega
      go_wp2
      go_ret
      refine ⟨ret_bool ?_, HB⟩
      symm
      rw [Bool.eq_false_iff]
      intro hc
      rw [List.contains_iff_mem] at hc
      obtain ⟨j, hj, hjn⟩ := List.getElem_of_mem hc
      exact HN.out j hj hj hjn
def usesS (x : Fl) : List Int := if x.op == 1 then [] else if x.op == 3 || x.op == 5 then [x.a, x.b] else [x.a]
set_option maxHeartbeats 1000000 in
theorem l9Uses_calls (x : Fl) (w : World) : Calls Try.prog 48 #[flV x] w fun e w' => ∃ v', e = .returned v' ∧ Ow true 3 Rp.int w' (fun k => w.heap.size ≤ k) v' (usesS x) ∧ Below w.heap.size w w' := by
  have key : x.op = 1 ∨ ((x.op == 1) = false ∧ (x.op == 3) = true) ∨ ((x.op == 1) = false ∧ (x.op == 3) = false ∧ (x.op == 5) = true) ∨ ((x.op == 1) = false ∧ (x.op == 3) = false ∧ (x.op == 5) = false) := by
    simp; omega
  unfold flV
  rcases key with h | ⟨h1, h2⟩ | ⟨h1, h2, h3⟩ | ⟨h1, h2, h3⟩
  · have HU : Hid (usesS x = []) := Lib.hid (by unfold usesS; simp [h])
    have ht : (x.op == 1) = true := by simpa using h
    clear h
    go_enter Try.func48, Try.ntmps48
    go_wp2
    go_ret
    exact ⟨_, rfl, by rw [HU.out]; exact Ow.nil _ _ _ _ _, below_new _⟩
  · have HU : Hid (usesS x = [x.a, x.b]) := Lib.hid (by unfold usesS; simp [h1, h2])
    go_enter Try.func48, Try.ntmps48
    go_wp2
    go_ret
    exact ⟨_, rfl, by rw [HU.out]; exact ow_intsG (by simp) (by omega) [x.a, x.b] _ rfl (by simp), (below_new _).alloc (by simp) _⟩
  · have HU : Hid (usesS x = [x.a, x.b]) := Lib.hid (by unfold usesS; simp [h1, h2, h3])
    go_enter Try.func48, Try.ntmps48
    go_wp2
    go_ret
    exact ⟨_, rfl, by rw [HU.out]; exact ow_intsG (by simp) (by omega) [x.a, x.b] _ rfl (by simp), (below_new _).alloc (by simp) _⟩
  · have HU : Hid (usesS x = [x.a]) := Lib.hid (by unfold usesS; simp [h1, h2, h3])
    go_enter Try.func48, Try.ntmps48
    go_wp2
    go_ret
    exact ⟨_, rfl, by rw [HU.out]; exact ow_intsG (by simp) (by omega) [x.a] _ rfl (by simp), (below_new _).alloc (by simp) _⟩
def putL : List Int → Int → List Int
  | [], n => [n]
  | x :: t, n => if x < n then x :: putL t n else if x = n then x :: t else n :: x :: t
theorem putL_take (l : List Int) (n : Int) (k : Nat) (h : ∀ (j : Nat) (hj : j < l.length), j < k → l[j] < n) : putL l n = l.take k ++ putL (l.drop k) n := by
  induction k generalizing l with
  | zero => simp
  | succ k ih =>
    cases l with
    | nil => simp
    | cons x t =>
      have hx : x < n := h 0 (by simp) (by omega)
      simp only [putL, List.take_succ_cons, List.drop_succ_cons, List.cons_append]
      rw [if_pos hx, ih t (fun j hj hjk => h (j + 1) (by simp; omega) (by omega))]
theorem putL_length (l : List Int) (n : Int) : (putL l n).length ≤ l.length + 1 := by
  induction l with
  | nil => simp [putL]
  | cons x t ih => simp only [putL]; split; simp; omega; split <;> simp
theorem mem_putL (l : List Int) (n x : Int) : x ∈ putL l n ↔ x = n ∨ x ∈ l := by
  induction l with
  | nil => simp [putL]
  | cons y t ih =>
    simp only [putL]
    split
    · simp only [List.mem_cons, ih]
      constructor
      · rintro (h | h | h) <;> simp [h]
      · rintro (h | h | h) <;> simp [h]
    · split
      · rename_i h1 h2; subst h2; simp
      · simp
set_option maxRecDepth 100000 in
set_option maxHeartbeats 2000000 in
theorem l1Put_calls {F : Nat → Prop} (v : Value) (l : List Int) (n : Int) (w : World) (h : Rp.Rd Rp.int w F v l) (hl : l.length ≤ 1048576) :
    Calls Try.prog 73 #[v, .int .i64 n] w fun e w' => ∃ v', e = .returned v' ∧ Rp.Rd Rp.int w' (fun k => F k ∨ w.heap.size ≤ k) v' (putL l n) ∧ Below w.heap.size w w' := by
  have hR := h
  obtain ⟨A, c, rfl, hlc, hcm, hrow⟩ := rd_int h
  go_enter Try.func73, Try.ntmps73
  go_wp2
  go_loopw [5] (fun i wr => ∃ k : Nat, k ≤ l.length ∧ i = .int .i64 k ∧ Hid (∀ (j : Nat) (hj : j < l.length), j < k → l[j] < n) ∧ Below w.heap.size w wr) (fun i _ => l.length - (intOf i).toNat)
  case atStart => exact ⟨0, Nat.zero_le _, rfl, Lib.hid (fun j _ hj => by omega), Below.refl _ _⟩
  case round =>
    obtain ⟨k, hk, rfl, HN, HB⟩ := hrel
    have HP : Hid (putL l n = l.take k ++ putL (l.drop k) n) := Lib.hid (putL_take l n k HN.out)
    have HR := hR.below HB
    by_cases hlt : k < l.length
    · rcases hrow with rfl | ⟨b, o, rfl, hb, hcell⟩
      · simp at hlt
      have c1 := cell_below HB (hcell k hlt)
      clear hcell
      have i0 : (0 : Int) ≤ (k : Int) := Int.natCast_nonneg _
      have i1 : (k : Int) < (l.length : Int) := by omega
      by_cases he : l[k] < n
      · have ht : decide (l[k] < n) = true := decide_eq_true he
        have HE := Lib.hid he
        clear he
        go_wp2
        go_roundw
        case rel => exact ⟨k + 1, by omega, by go_num, Lib.hid (fun j hj hjk => (Nat.lt_or_eq_of_le (Nat.le_of_lt_succ hjk)).elim (fun h => HN.out j hj h) (fun h => by subst h; exact HE.out)), HB⟩
        case measure => simp [intOf]; omega
      · have ht : decide (l[k] < n) = false := decide_eq_false he
        by_cases he2 : l[k] = n
        · have ht2 : (l[k] == n) = true := by simpa using he2
          have HF : Hid (putL l n = l) := Lib.hid (by rw [HP.out, List.drop_eq_getElem_cons hlt, putL, if_neg he, if_pos he2, ← List.drop_eq_getElem_cons hlt, List.take_append_drop])
          clear he he2
          go_wp2
          go_ret
          exact ⟨_, rfl, by rw [HF.out]; exact HR.mono (fun _ h => .inl h), HB⟩
        · have ht2 : (l[k] == n) = false := by simpa using he2
          have HF : Hid (putL l n = l.take k ++ [n] ++ l.drop k) := Lib.hid (by rw [HP.out, List.drop_eq_getElem_cons hlt, putL, if_neg he, if_neg he2]; simp)
          clear he he2
          have HT := HR.take k (by omega)
          have HD := hR.drop_lt rfl k (by omega) (by omega)
          have hB0 := HB.size
          have tok1 : True := trivial
          go_wp2_with (first | (at_builtin; have _t := tok1; refine acc_appendf (r := Rp.int) (e := 3) int_flat (by rfl) _ _ 35 (.int .i64 0) 8 (by rfl) Try.underlying35 infoInt rfl (by decide) (by omega) (.slice none 0 0) _ [] (l.take k) (by rfl) (by rfl) true (Ow.nil _ _ _ _ (fun k => w.heap.size ≤ k)) HT HB hB0 (by simp; omega) ?_; intro v1 w1 HO1 HB1 hB1; clear tok1) | (at_builtin; have _t := HO1; refine acc_append1 (r := Rp.int) (e := 3) int_flat (by rfl) _ _ 35 (.int .i64 0) 8 (by rfl) Try.underlying35 infoInt rfl (by decide) (by omega) v1 (l.take k) n [.int .i64 n] (by rfl) (by rfl) true HO1 rfl HB1 hB1 (by simp; omega) ?_; intro v2 w2 HO2 HB2 hB2; clear HO1; have HD2 := HD.below HB2) | (at_builtin; have _t := HO2; refine acc_appendf (r := Rp.int) (e := 3) int_flat (by rfl) _ _ 35 (.int .i64 0) 8 (by rfl) Try.underlying35 infoInt rfl (by decide) (by omega) v2 _ (l.take k ++ [n]) (l.drop k) (by rfl) (by rfl) true HO2 HD2 HB2 hB2 (by simp; omega) ?_; intro v3 w3 HO3 HB3 hB3; clear HO2))
          go_ret
          exact ⟨_, rfl, by rw [HF.out]; exact HO3.rd.mono (fun _ h => .inr h), HB3⟩
    · obtain rfl : k = l.length := by omega
      have HF : Hid (putL l n = l ++ [n] ++ []) := Lib.hid (by rw [HP.out, List.drop_length]; simp [putL])
      have HE : ∀ (A' : Option Addr) (c' : Nat) (W : World), c' ≤ 9223372036854775807 → Rp.Rd Rp.int W F (.slice A' 0 c') [] := fun A' c' W hc' => ⟨A', c', rfl, Nat.zero_le _, hc', .inl rfl⟩
      clear hlt hk hrow h hR
      have hB0 := HB.size
      have tok1 : True := trivial
      by_cases hc0 : c = l.length
      · subst hc0
        go_wp2_with (first | (at_builtin; have _t := tok1; refine acc_appendf (r := Rp.int) (e := 3) int_flat (by rfl) _ _ 35 (.int .i64 0) 8 (by rfl) Try.underlying35 infoInt rfl (by decide) (by omega) (.slice none 0 0) (.slice A l.length l.length) [] l (by rfl) (by rfl) true (Ow.nil _ _ _ _ (fun k => w.heap.size ≤ k)) HR HB hB0 (by first | omega | (simp; omega)) ?_; intro v1 w1 HO1 HB1 hB1; clear tok1) | (at_builtin; have _t := HO1; refine acc_append1 (r := Rp.int) (e := 3) int_flat (by rfl) _ _ 35 (.int .i64 0) 8 (by rfl) Try.underlying35 infoInt rfl (by decide) (by omega) v1 l n [.int .i64 n] (by rfl) (by rfl) true HO1 rfl HB1 hB1 (by first | omega | (simp; omega)) ?_; intro v2 w2 HO2 HB2 hB2; clear HO1) | (at_builtin; have _t := HO2; refine acc_appendf (r := Rp.int) (e := 3) int_flat (by rfl) _ _ 35 (.int .i64 0) 8 (by rfl) Try.underlying35 infoInt rfl (by decide) (by omega) v2 (.slice A 0 0) (l ++ [n]) [] (by rfl) (by rfl) true HO2 (HE _ _ _ (by omega)) HB2 hB2 (by first | omega | (simp; omega)) ?_; intro v3 w3 HO3 HB3 hB3; clear HO2))
        go_ret
        exact ⟨_, rfl, by rw [HF.out]; exact HO3.rd.mono (fun _ h => .inr h), HB3⟩
      · have hc1 : l.length < c := by omega
        cases A with
        | none =>
          go_wp2_with (first | (at_builtin; have _t := tok1; refine acc_appendf (r := Rp.int) (e := 3) int_flat (by rfl) _ _ 35 (.int .i64 0) 8 (by rfl) Try.underlying35 infoInt rfl (by decide) (by omega) (.slice none 0 0) (.slice none l.length c) [] l (by rfl) (by rfl) true (Ow.nil _ _ _ _ (fun k => w.heap.size ≤ k)) HR HB hB0 (by first | omega | (simp; omega)) ?_; intro v1 w1 HO1 HB1 hB1; clear tok1) | (at_builtin; have _t := HO1; refine acc_append1 (r := Rp.int) (e := 3) int_flat (by rfl) _ _ 35 (.int .i64 0) 8 (by rfl) Try.underlying35 infoInt rfl (by decide) (by omega) v1 l n [.int .i64 n] (by rfl) (by rfl) true HO1 rfl HB1 hB1 (by first | omega | (simp; omega)) ?_; intro v2 w2 HO2 HB2 hB2; clear HO1) | (at_builtin; have _t := HO2; refine acc_appendf (r := Rp.int) (e := 3) int_flat (by rfl) _ _ 35 (.int .i64 0) 8 (by rfl) Try.underlying35 infoInt rfl (by decide) (by omega) v2 (.slice none 0 (c - l.length)) (l ++ [n]) [] (by rfl) (by rfl) true HO2 (HE _ _ _ (by omega)) HB2 hB2 (by first | omega | (simp; omega)) ?_; intro v3 w3 HO3 HB3 hB3; clear HO2))
          go_ret
          exact ⟨_, rfl, by rw [HF.out]; exact HO3.rd.mono (fun _ h => .inr h), HB3⟩
        | some ad =>
          go_wp2_with (first | (at_builtin; have _t := tok1; refine acc_appendf (r := Rp.int) (e := 3) int_flat (by rfl) _ _ 35 (.int .i64 0) 8 (by rfl) Try.underlying35 infoInt rfl (by decide) (by omega) (.slice none 0 0) (.slice (some ad) l.length c) [] l (by rfl) (by rfl) true (Ow.nil _ _ _ _ (fun k => w.heap.size ≤ k)) HR HB hB0 (by first | omega | (simp; omega)) ?_; intro v1 w1 HO1 HB1 hB1; clear tok1) | (at_builtin; have _t := HO1; refine acc_append1 (r := Rp.int) (e := 3) int_flat (by rfl) _ _ 35 (.int .i64 0) 8 (by rfl) Try.underlying35 infoInt rfl (by decide) (by omega) v1 l n [.int .i64 n] (by rfl) (by rfl) true HO1 rfl HB1 hB1 (by first | omega | (simp; omega)) ?_; intro v2 w2 HO2 HB2 hB2; clear HO1) | (at_builtin; have _t := HO2; refine acc_appendf (r := Rp.int) (e := 3) int_flat (by rfl) _ _ 35 (.int .i64 0) 8 (by rfl) Try.underlying35 infoInt rfl (by decide) (by omega) v2 (.slice (some (ad.add l.length)) 0 (c - l.length)) (l ++ [n]) [] (by rfl) (by rfl) true HO2 (HE _ _ _ (by omega)) HB2 hB2 (by first | omega | (simp; omega)) ?_; intro v3 w3 HO3 HB3 hB3; clear HO2))
          go_ret
          exact ⟨_, rfl, by rw [HF.out]; exact HO3.rd.mono (fun _ h => .inr h), HB3⟩
end Go.Proofs.Ytmcnoeinjocimaa.L

set_option linter.unusedVariables false
namespace Go.Proofs.Ytmcnoeinjocimaa.L
open Go.RowKit
structure Pt where
  params : List Int
  code : List Fl
  go : Int
  test : Int
  next : List Int
  args : List (List Int)
deriving DecidableEq
def Pt.t (x : Pt) : List Int × List Fl × Int × Int × List Int × List (List Int) := (x.params, x.code, x.go, x.test, x.next, x.args)
def ptV (x : Pt) (vparams vcode vnext vargs : Value) : Value := .agg #[vparams, vcode, .int .i64 x.go, .int .i64 x.test, vnext, vargs]
def part : Rp Pt := (((Rp.sl Rp.int).pair ((Rp.sl flat).pair (Rp.int.pair (Rp.int.pair ((Rp.sl Rp.int).pair (Rp.sl (Rp.sl Rp.int)))))))).iso Pt.t
theorem part_open {w : World} {F : Nat → Prop} {x : Pt} {cs : List Value} (h : part.K w F x cs) : ∃ vparams vcode vnext vargs, cs = [vparams, vcode, .int .i64 x.go, .int .i64 x.test, vnext, vargs] ∧ Rp.Rd Rp.int w F vparams x.params ∧ Rp.Rd flat w F vcode x.code ∧ Rp.Rd Rp.int w F vnext x.next ∧ Rp.Rd (Rp.sl Rp.int) w F vargs x.args := by
  obtain ⟨_, _, rfl, ⟨vparams, rfl, hparams⟩, _, _, rfl, ⟨vcode, rfl, hcode⟩, _, _, rfl, rfl, _, _, rfl, rfl, _, _, rfl, ⟨vnext, rfl, hnext⟩, ⟨vargs, rfl, hargs⟩⟩ := h
  exact ⟨vparams, vcode, vnext, vargs, rfl, hparams, hcode, hnext, hargs⟩
theorem part_mk {w : World} {F : Nat → Prop} {x : Pt} {vparams vcode vnext vargs : Value} (hparams : Rp.Rd Rp.int w F vparams x.params) (hcode : Rp.Rd flat w F vcode x.code) (hnext : Rp.Rd Rp.int w F vnext x.next) (hargs : Rp.Rd (Rp.sl Rp.int) w F vargs x.args) : part.K w F x [vparams, vcode, .int .i64 x.go, .int .i64 x.test, vnext, vargs] := ⟨[_], _, rfl, ⟨vparams, rfl, hparams⟩, ⟨[_], _, rfl, ⟨vcode, rfl, hcode⟩, ⟨[_], _, rfl, rfl, ⟨[_], _, rfl, rfl, ⟨[_], _, rfl, ⟨vnext, rfl, hnext⟩, ⟨vargs, rfl, hargs⟩⟩⟩⟩⟩⟩
def partA : Rp Pt := (((Rp.ow true 3 Rp.int).pairA ((Rp.ow true 61 flat).pairA (Rp.int.pair (Rp.int.pair ((Rp.ow true 3 Rp.int).pairA (Rp.ow true 35 (Rp.ow true 3 Rp.int)))))))).iso Pt.t
theorem partA_open {w : World} {F : Nat → Prop} {x : Pt} {cs : List Value} (h : partA.K w F x cs) : ∃ G0 G1 G2 G3 : Nat → Prop, (∀ k, G0 k → F k) ∧ (∀ k, G1 k → F k) ∧ (∀ k, G2 k → F k) ∧ (∀ k, G3 k → F k) ∧ (∀ k, G0 k → ¬ G1 k) ∧ (∀ k, G0 k → ¬ G2 k) ∧ (∀ k, G0 k → ¬ G3 k) ∧ (∀ k, G1 k → ¬ G2 k) ∧ (∀ k, G1 k → ¬ G3 k) ∧ (∀ k, G2 k → ¬ G3 k) ∧ ∃ vparams vcode vnext vargs, cs = [vparams, vcode, .int .i64 x.go, .int .i64 x.test, vnext, vargs] ∧ Ow true 3 Rp.int w G0 vparams x.params ∧ Ow true 61 flat w G1 vcode x.code ∧ Ow true 3 Rp.int w G2 vnext x.next ∧ Ow true 35 (Rp.ow true 3 Rp.int) w G3 vargs x.args := by
  obtain ⟨P0, R0, a0, b0, d0, _, _, rfl, ⟨vparams, rfl, hparams⟩, P1, R1, a1, b1, d1, _, _, rfl, ⟨vcode, rfl, hcode⟩, _, _, rfl, rfl, _, _, rfl, rfl, P2, R2, a2, b2, d2, _, _, rfl, ⟨vnext, rfl, hnext⟩, ⟨vargs, rfl, hargs⟩⟩ := h
  exact ⟨P0, P1, P2, R2, fun _ h => a0 _ h, fun _ h => b0 _ (a1 _ h), fun _ h => b0 _ (b1 _ (a2 _ h)), fun _ h => b0 _ (b1 _ (b2 _ h)), fun _ h h' => d0 _ h (a1 _ h'), fun _ h h' => d0 _ h (b1 _ (a2 _ h')), fun _ h h' => d0 _ h (b1 _ (b2 _ h')), fun _ h h' => d1 _ h (a2 _ h'), fun _ h h' => d1 _ h (b2 _ h'), fun _ h h' => d2 _ h h', vparams, vcode, vnext, vargs, rfl, hparams, hcode, hnext, hargs⟩
theorem partA_mk {w : World} {F G0 G1 G2 G3 : Nat → Prop} {x : Pt} {vparams vcode vnext vargs : Value} (iG0 : ∀ k, G0 k → F k) (iG1 : ∀ k, G1 k → F k) (iG2 : ∀ k, G2 k → F k) (iG3 : ∀ k, G3 k → F k) (sG0G1 : ∀ k, G0 k → ¬ G1 k) (sG0G2 : ∀ k, G0 k → ¬ G2 k) (sG0G3 : ∀ k, G0 k → ¬ G3 k) (sG1G2 : ∀ k, G1 k → ¬ G2 k) (sG1G3 : ∀ k, G1 k → ¬ G3 k) (sG2G3 : ∀ k, G2 k → ¬ G3 k) (hparams : Ow true 3 Rp.int w G0 vparams x.params) (hcode : Ow true 61 flat w G1 vcode x.code) (hnext : Ow true 3 Rp.int w G2 vnext x.next) (hargs : Ow true 35 (Rp.ow true 3 Rp.int) w G3 vargs x.args) : partA.K w F x [vparams, vcode, .int .i64 x.go, .int .i64 x.test, vnext, vargs] := by
  refine ⟨G0, (fun k => G1 k ∨ G2 k ∨ G3 k), iG0, (fun k h => by rcases h with h | h | h <;> first | exact iG1 k h | exact iG2 k h | exact iG3 k h), (fun k h h' => by rcases h' with h' | h' | h' <;> first | exact sG0G1 k h h' | exact sG0G2 k h h' | exact sG0G3 k h h'), [_], _, rfl, ⟨vparams, rfl, hparams⟩, ?_⟩
  replace iG1 : ∀ k, G1 k → (fun k => G1 k ∨ G2 k ∨ G3 k) k := fun k h => Or.inl h
  replace iG2 : ∀ k, G2 k → (fun k => G1 k ∨ G2 k ∨ G3 k) k := fun k h => Or.inr (Or.inl h)
  replace iG3 : ∀ k, G3 k → (fun k => G1 k ∨ G2 k ∨ G3 k) k := fun k h => Or.inr (Or.inr (h))
  refine ⟨G1, (fun k => G2 k ∨ G3 k), iG1, (fun k h => by rcases h with h | h <;> first | exact iG2 k h | exact iG3 k h), (fun k h h' => by rcases h' with h' | h' <;> first | exact sG1G2 k h h' | exact sG1G3 k h h'), [_], _, rfl, ⟨vcode, rfl, hcode⟩, ?_⟩
  replace iG2 : ∀ k, G2 k → (fun k => G2 k ∨ G3 k) k := fun k h => Or.inl h
  replace iG3 : ∀ k, G3 k → (fun k => G2 k ∨ G3 k) k := fun k h => Or.inr (h)
  refine ⟨[_], _, rfl, rfl, ?_⟩
  refine ⟨[_], _, rfl, rfl, ?_⟩
  refine ⟨G2, G3, iG2, iG3, sG2G3, [_], _, rfl, ⟨vnext, rfl, hnext⟩, ?_⟩
  exact ⟨vargs, rfl, hargs⟩
theorem partA_le : Rp.Le partA part := Rp.Le.iso (Rp.Le.pairA (Rp.Le.ow (Rp.Le.refl _)) (Rp.Le.pairA (Rp.Le.ow (Rp.Le.refl _)) (Rp.Le.pair (Rp.Le.refl _) (Rp.Le.pair (Rp.Le.refl _) (Rp.Le.pairA (Rp.Le.ow (Rp.Le.refl _)) (Rp.Le.ow (Rp.Le.ow (Rp.Le.refl _)))))))) _
def partAt (w : World) (b o : Nat) (x : Pt) (vparams vcode vnext vargs : Value) : Prop := w.cell? ⟨b, o, none⟩ = some (vparams) ∧ w.cell? ⟨b, o + 1, none⟩ = some (vcode) ∧ w.cell? ⟨b, o + 2, none⟩ = some (.int .i64 x.go) ∧ w.cell? ⟨b, o + 3, none⟩ = some (.int .i64 x.test) ∧ w.cell? ⟨b, o + 4, none⟩ = some (vnext) ∧ w.cell? ⟨b, o + 5, none⟩ = some (vargs)
theorem partAt_below {w w1 : World} {b o : Nat} {x : Pt} {vparams vcode vnext vargs : Value} (h : partAt w b o x vparams vcode vnext vargs) (hb : Below w.heap.size w w1) : partAt w1 b o x vparams vcode vnext vargs := ⟨cell_below hb h.1, cell_below hb h.2.1, cell_below hb h.2.2.1, cell_below hb h.2.2.2.1, cell_below hb h.2.2.2.2.1, cell_below hb h.2.2.2.2.2⟩
theorem partAt_of {w : World} {b o : Nat} {x : Pt} {vparams vcode vnext vargs : Value} (h : ∀ j u, ([vparams, vcode, .int .i64 x.go, .int .i64 x.test, vnext, vargs] : List Value)[j]? = some u → w.cell? ⟨b, o + j, none⟩ = some u) : partAt w b o x vparams vcode vnext vargs := ⟨h 0 _ rfl, h 1 _ rfl, h 2 _ rfl, h 3 _ rfl, h 4 _ rfl, h 5 _ rfl⟩
theorem rd_part {w : World} {F : Nat → Prop} {v : Value} {l : List Pt} (h : Rp.Rd part w F v l) : ∃ A c, v = .slice A l.length c ∧ l.length ≤ c ∧ c ≤ 9223372036854775807 ∧
    (l = [] ∨ ∃ b o, A = some ⟨b, o, none⟩ ∧ b < w.heap.size ∧ ∀ (k : Nat) (hk : k < l.length), ∃ vparams vcode vnext vargs, partAt w b (o + k * 6) l[k] vparams vcode vnext vargs ∧ Rp.Rd Rp.int w F vparams l[k].params ∧ Rp.Rd flat w F vcode l[k].code ∧ Rp.Rd Rp.int w F vnext l[k].next ∧ Rp.Rd (Rp.sl Rp.int) w F vargs l[k].args) := by
  obtain ⟨A, c, rfl, hl, hm, h⟩ := h
  refine ⟨A, c, rfl, hl, hm, ?_⟩
  rcases h with h | ⟨b, o, rfl, _, hb, h⟩
  · exact .inl h
  · refine .inr ⟨b, o, rfl, hb, fun k hk => ?_⟩
    obtain ⟨cs, hK, hc⟩ := h k l[k] (List.getElem?_eq_getElem hk)
    obtain ⟨vparams, vcode, vnext, vargs, rfl, hparams, hcode, hnext, hargs⟩ := part_open hK
    refine ⟨vparams, vcode, vnext, vargs, partAt_of fun j u hu => ?_, hparams, hcode, hnext, hargs⟩
    rw [Nat.add_assoc]
    exact hc j u hu
end Go.Proofs.Ytmcnoeinjocimaa.L

set_option linter.unusedVariables false
set_option linter.unusedSimpArgs false
namespace Go.Proofs.Ytmcnoeinjocimaa.L
open Go.RowKit
def thereB (defs dom far : List Int) (part v : Int) : Bool :=
  decide (0 ≤ v) && decide (v < defs.length) && (decide (v < 12) || far.contains v || (decide (0 ≤ defs[v.toNat]!) && defs[v.toNat]! != part && dom.contains defs[v.toNat]!))
def thereS (l defs dom far : List Int) (part : Int) : Bool := l.all (thereB defs dom far part)
theorem l_all_take_succ {α : Type} {p : α → Bool} {l : List α} {k : Nat} (hk : k < l.length) (h : (l.take k).all p = true) (hp : p l[k] = true) : (l.take (k + 1)).all p = true := by
  rw [List.take_succ_eq_append_getElem hk, List.all_append, h]; simp [hp]
theorem l_all_false {α : Type} {p : α → Bool} {l : List α} {k : Nat} (hk : k < l.length) (hp : p l[k] = false) : l.all p = false := by
  rw [List.all_eq_false]; exact ⟨_, List.getElem_mem hk, by simp [hp]⟩
set_option maxHeartbeats 2000000 in
theorem l9There_calls {F1 F2 F3 F4 : Nat → Prop} (v1 v2 v3 v4 : Value) (l defs dom far : List Int) (part : Int) (w : World) (h1 : Rp.Rd Rp.int w F1 v1 l) (h2 : Rp.Rd Rp.int w F2 v2 defs) (h3 : Rp.Rd Rp.int w F3 v3 dom) (h4 : Rp.Rd Rp.int w F4 v4 far) :
    Calls Try.prog 47 #[v1, v2, v3, v4, .int .i64 part] w fun e w' => e = .returned (.bool (thereS l defs dom far part)) ∧ Below w.heap.size w w' := by
  have HX : Hid (thereS l defs dom far part = l.all (thereB defs dom far part)) := Lib.hid rfl
  obtain ⟨A, c, rfl, hlc, hcm, hra⟩ := rd_int h1
  obtain ⟨B, d, rfl, hld, hdm, hrb⟩ := rd_int h2
  obtain ⟨C, cc, rfl, _, _, _⟩ := rd_int h3
  obtain ⟨D, cd, rfl, _, _, _⟩ := rd_int h4
  go_enter Try.func47, Try.ntmps47
  go_wp2
  go_loopw [16] (fun i wr => ∃ k : Nat, k ≤ l.length ∧ i = .int .i64 k ∧ Hid ((l.take k).all (thereB defs dom far part) = true) ∧ Below w.heap.size w wr) (fun i _ => l.length - (intOf i).toNat)
  case atStart => exact ⟨0, Nat.zero_le _, rfl, Lib.hid rfl, Below.refl _ _⟩
  case round =>
    obtain ⟨k, hk, rfl, HT, HB⟩ := hrel
    by_cases hlt : k < l.length
    · rcases hra with rfl | ⟨b, o, rfl, hb, hcell⟩
      · simp at hlt
      have c1 := cell_below HB (hcell k hlt)
      clear hcell
      have HP : Hid (∀ r, thereB defs dom far part l[k] = r → thereB defs dom far part l[k] = r) := Lib.hid (fun _ h => h)
      have HF : Hid (thereB defs dom far part l[k] = false → thereS l defs dom far part = false) := Lib.hid (fun h => l_all_false hlt h)
      have HS : Hid (thereB defs dom far part l[k] = true → (l.take (k + 1)).all (thereB defs dom far part) = true) := Lib.hid (fun h => l_all_take_succ hlt HT.out h)
      have HV : Hid (thereB defs dom far part l[k] = (decide (0 ≤ l[k]) && decide (l[k] < defs.length) && (decide (l[k] < 12) || far.contains l[k] || (decide (0 ≤ defs[l[k].toNat]!) && defs[l[k].toNat]! != part && dom.contains defs[l[k].toNat]!)))) := Lib.hid rfl
      clear HP
      generalize thereB defs dom far part l[k] = r at *
      generalize l[k] = x at *
      by_cases hx0 : x < 0
      · have t0 : decide (x < 0) = true := decide_eq_true hx0
        have HR : Hid (r = false) := Lib.hid (by rw [HV.out]; simp; omega)
        go_wp2
        go_ret
        exact ⟨ret_bool (HF.out HR.out).symm, HB⟩
      have t0 : decide (x < 0) = false := decide_eq_false hx0
      by_cases hx1 : (defs.length : Int) ≤ x
      · have t1 : decide ((defs.length : Int) ≤ x) = true := decide_eq_true hx1
        have HR : Hid (r = false) := Lib.hid (by rw [HV.out]; simp; omega)
        go_wp2
        go_ret
        exact ⟨ret_bool (HF.out HR.out).symm, HB⟩
      have t1 : decide ((defs.length : Int) ≤ x) = false := decide_eq_false hx1
      obtain ⟨n, rfl⟩ := Int.eq_ofNat_of_zero_le (by omega : 0 ≤ x)
      have hn : n < defs.length := by omega
      rcases hrb with rfl | ⟨b2, o2, rfl, hb2, hcell2⟩
      · simp at hn
      have c2 := cell_below HB (hcell2 n hn)
      clear hcell2 hx0 hx1
      replace HV : Hid (r = (decide ((n : Int) < 12) || far.contains (n : Int) || (decide (0 ≤ defs[n]) && defs[n] != part && dom.contains defs[n]))) := Lib.hid (by
        rw [HV.out, Int.toNat_natCast, getElem!_pos defs n hn]; simp only [Int.natCast_nonneg, decide_true, Bool.true_and, show ((n : Int) < defs.length) = True from by simp; omega])
      have HC1 := fun W (hW : Below wr.heap.size wr W) => l1Has_calls _ far (n : Int) W ((h4.below HB).below hW)
      have HC2 := fun W (hW : Below wr.heap.size wr W) => l1Has_calls _ dom defs[n] W ((h3.below HB).below hW)
      generalize defs[n] = y at *
      generalize far.contains (n : Int) = r1 at *
      generalize dom.contains y = r2 at *
      replace HC1 := Lib.hid HC1
      replace HC2 := Lib.hid HC2
      have i0 : (0 : Int) ≤ (n : Int) := Int.natCast_nonneg _
      have i1 : (n : Int) < (defs.length : Int) := by omega
      have HB1 := HB
      have tok1 : True := trivial
      go_wp2_with (first | (go_at_call 75; have _t := tok1; refine (HC1.out _ (Below.refl _ _)).mono ?_; rintro e w1 ⟨rfl, hb1⟩; clear tok1; replace HB1 := below_then HB hb1) | (go_at_call 75; refine (HC2.out _ hb1).mono ?_; rintro e w2 ⟨rfl, hb2⟩; replace HB1 := below_then HB1 hb2))
      all_goals
        first
        | (go_ret
           exact ⟨ret_bool (HF.out (by have h := HV.out; clear HX HT HF HS HC1 HC2 HB HB1 HV; first | (simp_all; done) | (cases r2 <;> simp_all; done) | (simp_all; omega))).symm, HB1⟩)
        | (have HR : Hid (r = true) := Lib.hid (by have h := HV.out; clear HX HT HF HS HC1 HC2 HB HB1 HV; first | (simp_all; done) | (cases r2 <;> simp_all; done) | (simp_all; omega))
           go_roundw
           case rel => exact ⟨k + 1, by omega, by go_num, Lib.hid (HS.out HR.out), HB1⟩
           case measure => simp [intOf]; omega)
    · obtain rfl : k = l.length := by omega
      go_wp2
      go_ret
      refine ⟨ret_bool ?_, HB⟩
      rw [HX.out]; have := HT.out; rw [List.take_length] at this; exact this.symm
end Go.Proofs.Ytmcnoeinjocimaa.L

set_option linter.unusedVariables false
namespace Go.Proofs.Ytmcnoeinjocimaa.L
open Go.RowKit
theorem infoFlat : (Try.prog.info? 61).map (fun i => (i.zero, i.size, i.bytes)) = some (some (.agg #[.int .i64 0, .int .i64 0, .int .i64 0, .int .i64 0, .int .i64 0, .int .i64 0]), 6, 48) := by kernel_rfl
theorem toFlat_calls (x : Fl) (w : World) : Calls Try.prog 126 #[flV x] w fun e w' => e = .returned (flV x) ∧ Below w.heap.size w w' := by
  unfold flV
  go_enter Try.func126, Try.ntmps126
  go_wp2
  exact bodyPost_ret (v := flV x) (by simp [results, Try.results126, go_sem, flV]) rfl ⟨rfl, (((Below.refl _ _).alloc (Nat.le_refl _) _).alloc (by simp) _).alloc (by simp; omega) _⟩
def zFl : Fl := ⟨0, 0, 0, 0, 0, 0⟩
theorem set_take_rep {α : Type} (z : α) {l : List α} {k : Nat} (hk : k < l.length) : (l.take k ++ List.replicate (l.length - k) z).set k l[k] = l.take (k + 1) ++ List.replicate (l.length - (k + 1)) z := by
  apply List.ext_getElem?
  intro i
  rw [List.getElem?_set]
  by_cases h : k = i
  · subst h
    rw [if_pos rfl, if_pos (by simp; omega), List.getElem?_append_left (by simp; omega), List.getElem?_take, if_pos (by omega), List.getElem?_eq_getElem hk]
  · rw [if_neg h]
    by_cases h2 : i < k
    · rw [List.getElem?_append_left (by simp; omega), List.getElem?_append_left (by simp; omega), List.getElem?_take, List.getElem?_take, if_pos h2, if_pos (by omega)]
    · rw [List.getElem?_append_right (by simp; omega), List.getElem?_append_right (by simp; omega), List.getElem?_replicate, List.getElem?_replicate]
      simp only [List.length_take]
      congr 1
      simp; omega
set_option maxHeartbeats 1000000 in
theorem toFlatS_calls {F : Nat → Prop} (v : Value) (l : List Fl) (w : World) (h : Rp.Rd flat w F v l) (hl : l.length ≤ 1048576) :
    Calls Try.prog 112 #[v] w fun e w' => ∃ v', e = .returned v' ∧ Ow true 61 flat w' (fun k => w.heap.size ≤ k) v' l ∧ Below w.heap.size w w' := by
  obtain ⟨A, c, rfl, hlc, hcm, hrow⟩ := rd_flat h
  have hmk := mk_all Try.underlying52 infoFlat l.length (by omega) (by omega)
  go_enter Try.func112, Try.ntmps112
  go_wp2
  have hstart : Ow true 61 flat (w.alloc (.cells (madeCells #[.int .i64 0, .int .i64 0, .int .i64 0, .int .i64 0, .int .i64 0, .int .i64 0] (l.length * 6)) 61)) (fun k => w.heap.size ≤ k) (.slice (some ⟨w.heap.size, 0, none⟩) l.length l.length) (List.replicate l.length zFl) :=
    (ow_alloc (r := flat) w (by omega) rfl (by decide) (fun _ => flat_mk _ _ zFl)).mono (fun k hk => by omega)
  go_loopw [4] (fun i wr => ∃ k : Nat, k ≤ l.length ∧ i = .int .i64 k ∧ Ow true 61 flat wr (fun k => w.heap.size ≤ k) (.slice (some ⟨w.heap.size, 0, none⟩) l.length l.length) (l.take k ++ List.replicate (l.length - k) zFl) ∧ Below w.heap.size w wr) (fun i _ => l.length - (intOf i).toNat)
  case atStart =>
    exact ⟨0, Nat.zero_le _, rfl, by simpa using hstart, below_new _⟩
  case round =>
    obtain ⟨k, hk, rfl, HO, HB⟩ := hrel
    by_cases hlt : k < l.length
    · rcases hrow with rfl | ⟨b, o, rfl, hb, hcell⟩
      · simp at hlt
      have c1 := (hcell k hlt).below HB
      clear hcell hstart
      obtain ⟨q0, q1, q2, q3, q4, q5⟩ := c1
      go_wp2_with (go_at_call 126; refine (toFlat_calls l[k] _).mono ?_; rintro e w1 ⟨rfl, hb1⟩; unfold flV; have HO1 := HO.below hb1; obtain ⟨⟨r0, r1, r2, r3, r4, r5⟩, f2⟩ := HO1.flat_at (k := k) (by simp; omega))
      go_roundw
      case rel => exact ⟨k + 1, by omega, by go_num, by rw [← set_take_rep _ hlt]; exact (HO1.put (G := fun _ => False) rfl (by simp; omega) (flat_mk _ _ l[k]) (fun _ h => h.elim)).mono (fun k hk => hk.elim id (fun h => h.elim)), putRow_below (g := w.heap.size) (below_then HB hb1) (Nat.le_refl _) [.int .i64 l[k].op, .int .i64 l[k].dO, .int .i64 l[k].dst, .int .i64 l[k].a, .int .i64 l[k].b, .int .i64 l[k].n] (k * 6)⟩
      case measure => simp [intOf]; omega
    · obtain rfl : k = l.length := by omega
      clear hstart
      go_wp2
      go_ret
      exact ⟨_, rfl, by simpa using HO, HB⟩
end Go.Proofs.Ytmcnoeinjocimaa.L

set_option linter.unusedVariables false
namespace Go.Proofs.Ytmcnoeinjocimaa.L
open Go.RowKit
theorem rd_ints {w : World} {F : Nat → Prop} {v : Value} {l : List (List Int)} (h : Rp.Rd (Rp.sl Rp.int) w F v l) : ∃ A c, v = .slice A l.length c ∧ l.length ≤ c ∧ c ≤ 9223372036854775807 ∧
    (l = [] ∨ ∃ b o, A = some ⟨b, o, none⟩ ∧ b < w.heap.size ∧ ∀ (k : Nat) (hk : k < l.length), ∃ u, w.cell? ⟨b, o + k, none⟩ = some u ∧ Rp.Rd Rp.int w F u l[k]) := by
  obtain ⟨A, c, rfl, hl, hm, h⟩ := h
  refine ⟨A, c, rfl, hl, hm, ?_⟩
  rcases h with h | ⟨b, o, rfl, _, hb, h⟩
  · exact .inl h
  · refine .inr ⟨b, o, rfl, hb, fun k hk => ?_⟩
    obtain ⟨cs, ⟨u, rfl, hK⟩, hc⟩ := h k l[k] (List.getElem?_eq_getElem hk)
    have := hc 0 _ rfl
    rw [show k * (Rp.sl Rp.int).sz + 0 = k from by show k * 1 + 0 = k; omega] at this
    exact ⟨u, this, hK⟩
theorem infoInts : (Try.prog.info? 35).map (fun i => (i.zero, i.size, i.bytes)) = some (some (.slice none 0 0), 1, 24) := by kernel_rfl
theorem Ow.ints_at {ap bp : Bool} {e e2 g n c : Nat} {w : World} {F : Nat → Prop} {l : List (List Int)} (h : Ow ap e (Rp.ow bp e2 Rp.int) w F (.slice (some ⟨g, 0, none⟩) n c) l) {k : Nat} (hk : k < l.length) :
    ∃ u, w.cell? ⟨g, k, none⟩ = some u ∧ ∀ o, w.frozen? ⟨g, o, none⟩ = false := by
  obtain ⟨g', c', cs, he, _, _, ⟨u, rfl, _⟩, hc, hf⟩ := h.at_ (List.getElem?_eq_getElem hk)
  injection he with he _ _
  injection he with he
  injection he with he _
  subst he
  have := hc 0 _ rfl
  rw [show k * (Rp.ow bp e2 Rp.int).sz + 0 = k from by show k * 1 + 0 = k; omega] at this
  exact ⟨u, this, hf⟩
set_option maxHeartbeats 1000000 in
theorem toIntSS_calls {F : Nat → Prop} (v : Value) (l : List (List Int)) (w : World) (h : Rp.Rd (Rp.sl Rp.int) w F v l) (hl : l.length ≤ 1048576) (hx : ∀ x ∈ l, x.length ≤ 1048576) :
    Calls Try.prog 113 #[v] w fun e w' => ∃ v', e = .returned v' ∧ Ow true 35 (Rp.ow true 3 Rp.int) w' (fun k => w.heap.size ≤ k) v' l ∧ Below w.heap.size w w' := by
  obtain ⟨A, c, rfl, hlc, hcm, hrow⟩ := rd_ints h
  have hmk := mk_all Try.underlying41 infoInts l.length (by omega) (by omega)
  go_enter Try.func113, Try.ntmps113
  go_wp2
  have hstart : Ow true 35 (Rp.ow true 3 Rp.int) (w.alloc (.cells (madeCells #[.slice none 0 0] l.length) 35)) (fun k => w.heap.size ≤ k) (.slice (some ⟨w.heap.size, 0, none⟩) l.length l.length) (List.replicate l.length []) :=
    ow_alloc1 (r := Rp.ow true 3 Rp.int) w (z := .slice none 0 0) (by omega) rfl (fun _ => ⟨_, rfl, Ow.nil _ _ _ _ _⟩)
  go_loopw [4] (fun i wr => ∃ k : Nat, k ≤ l.length ∧ i = .int .i64 k ∧ Ow true 35 (Rp.ow true 3 Rp.int) wr (fun k => w.heap.size ≤ k) (.slice (some ⟨w.heap.size, 0, none⟩) l.length l.length) (l.take k ++ List.replicate (l.length - k) []) ∧ Below w.heap.size w wr) (fun i _ => l.length - (intOf i).toNat)
  case atStart =>
    exact ⟨0, Nat.zero_le _, rfl, by simpa using hstart, below_new _⟩
  case round =>
    obtain ⟨k, hk, rfl, HO, HB⟩ := hrel
    by_cases hlt : k < l.length
    · rcases hrow with rfl | ⟨b, o, rfl, hb, hcell⟩
      · simp at hlt
      obtain ⟨u, c1, hu⟩ := hcell k hlt
      replace c1 := cell_below HB c1
      replace hu := hu.below HB
      clear hcell hstart
      have ⟨A0, k0, hu0, _⟩ := hu
      subst hu0
      have hy := hx l[k] (List.getElem_mem hlt)
      go_wp2_with fail
      refine (toIntS_calls _ l[k] _ hu hy).mono ?_
      rintro e w1 ⟨v', rfl, HK, hb1⟩
      have HO1 := HO.bound.below hb1
      obtain ⟨p, r0, f2⟩ := HO1.ints_at (k := k) (by simp; omega)
      obtain ⟨A1, k1, rfl, _, _⟩ := HK.form
      go_wp2_with fail
      go_roundw
      case rel =>
        refine ⟨k + 1, by omega, by go_num, ?_, (below_then HB hb1).setCell (by simp) _⟩
        rw [← set_take_rep _ hlt]
        exact (HO1.put1 rfl (by simp; omega) ⟨_, rfl, HK⟩ (fun q hq hq2 => by omega)).mono (fun q hq => by have := HB.size; omega)
      case measure => simp [intOf]; omega
    · obtain rfl : k = l.length := by omega
      clear hstart
      go_wp2
      go_ret
      exact ⟨_, rfl, by simpa using HO, HB⟩
end Go.Proofs.Ytmcnoeinjocimaa.L

set_option linter.unusedVariables false
namespace Go.Proofs.Ytmcnoeinjocimaa.L
open Go.RowKit
structure Mk (w : World) (o1 o2 : Obj) (T : Nat) (wi : World) (cs : Array Value) : Prop where
  b1 : wi.heap[w.heap.size]? = some o1
  b2 : wi.heap[w.heap.size + 1]? = some o2
  b3 : wi.heap[w.heap.size + 2]? = some (.cells cs T (0, 0))
  below : Below w.heap.size w wi
namespace Mk
variable {w wi w' : World} {o1 o2 : Obj} {T : Nat} {cs : Array Value}
theorem start {c3 : Array Value} : Mk w o1 o2 T (((w.alloc o1).alloc o2).alloc (.cells c3 T)) c3 where
  b1 := blk_alloc (heap_alloc2_old w o1 o2) _
  b2 := blk_alloc (heap_alloc2_new w o1 o2) _
  b3 := by
    have := heap_alloc2_new (w.alloc o1) o2 (.cells c3 T)
    rwa [World.size_alloc] at this
  below := (((Below.refl _ _).alloc (Nat.le_refl _) _).alloc (by simp) _).alloc (by simp; omega) _
theorem set (h : Mk w o1 o2 T wi cs) (i : Nat) (u : Value) : Mk w o1 o2 T (wi.setCell ⟨w.heap.size + 2, i, none⟩ u) (cs.setIfInBounds i u) where
  b1 := blk_set h.b1 (by simp) u
  b2 := blk_set h.b2 (by simp) u
  b3 := blk_put h.b3 i u
  below := h.below.setCell (by simp) u
theorem call (h : Mk w o1 o2 T wi cs) (hb : Below wi.heap.size wi w') : Mk w o1 o2 T w' cs where
  b1 := blk_below h.b1 hb
  b2 := blk_below h.b2 hb
  b3 := blk_below h.b3 hb
  below := below_then h.below hb
theorem size (h : Mk w o1 o2 T wi cs) : w.heap.size + 2 < wi.heap.size := blk_lt h.b3
end Mk
theorem ow_set3 {α : Type} {ap : Bool} {e : Nat} {r : Rp α} {w wi : World} {F : Nat → Prop} {v : Value} {l : List α} (h : Ow ap e r wi F v l) (hF : ∀ k, F k → w.heap.size + 3 ≤ k) (i : Nat) (u : Value) : Ow ap e r (wi.setCell ⟨w.heap.size + 2, i, none⟩ u) F v l :=
  h.move (fun k hk _ => heap_setCell_other wi ⟨w.heap.size + 2, i, none⟩ k u (by have := hF k hk; simp; omega))
theorem ow_row3 {α : Type} {ap : Bool} {e : Nat} {r : Rp α} {w wi : World} {F : Nat → Prop} {v : Value} {l : List α} (h : Ow ap e r wi F v l) (hF : ∀ k, F k → w.heap.size + 3 ≤ k) (us : List Value) : Ow ap e r (putRow wi (w.heap.size + 1) 0 us) F v l :=
  h.move (fun k hk _ => (putRow_same _ _ wi 0).2 k (by have := hF k hk; omega))
end Go.Proofs.Ytmcnoeinjocimaa.L

set_option linter.unusedVariables false
set_option linter.unusedSimpArgs false
namespace Go.Proofs.Ytmcnoeinjocimaa.L
open Go.RowKit
theorem infoPart : (Try.prog.info? 54).map (fun i => (i.zero, i.size, i.bytes)) = some (some (.agg #[.slice none 0 0, .slice none 0 0, .int .i64 0, .int .i64 0, .slice none 0 0, .slice none 0 0]), 6, 112) := by kernel_rfl
def PtLim (x : Pt) : Prop := x.params.length ≤ 1048576 ∧ x.code.length ≤ 1048576 ∧ x.next.length ≤ 1048576 ∧ x.args.length ≤ 1048576 ∧ (∀ a ∈ x.args, a.length ≤ 1048576)
set_option maxHeartbeats 4000000 in
theorem toPart_calls {F : Nat → Prop} (x : Pt) (vparams vcode vnext vargs : Value) (w : World) (hparams : Rp.Rd Rp.int w F vparams x.params) (hcode : Rp.Rd flat w F vcode x.code) (hnext : Rp.Rd Rp.int w F vnext x.next) (hargs : Rp.Rd (Rp.sl Rp.int) w F vargs x.args) (hx : PtLim x) :
    Calls Try.prog 76 #[ptV x vparams vcode vnext vargs] w fun e w' => ∃ vparams' vcode' vnext' vargs', e = .returned (ptV x vparams' vcode' vnext' vargs') ∧ partA.K w' (fun k => w.heap.size ≤ k) x [vparams', vcode', .int .i64 x.go, .int .i64 x.test, vnext', vargs'] ∧ Below w.heap.size w w' := by
  obtain ⟨l0, l1, l2, l3, l4⟩ := hx
  unfold ptV
  go_enter Try.func76, Try.ntmps76
  go_wp2_with fail
  have M : Mk w (.cells #[vparams, vcode, .int .i64 x.go, .int .i64 x.test, vnext, vargs] 97 (0, 0)) (.cells #[.slice none 0 0, .slice none 0 0, .int .i64 0, .int .i64 0, .slice none 0 0, .slice none 0 0] 54 (0, 0)) 54 _ #[.slice none 0 0, .slice none 0 0, .int .i64 0, .int .i64 0, .slice none 0 0, .slice none 0 0] := Mk.start (c3 := #[.slice none 0 0, .slice none 0 0, .int .i64 0, .int .i64 0, .slice none 0 0, .slice none 0 0])
  refine (toIntS_calls vparams x.params _ (hparams.below M.below) l0).mono ?_
  rintro e w1 ⟨Vparams, rfl, Oparams, hb⟩
  have n0 := M.size
  replace M := M.call hb
  replace Oparams := Oparams.bound
  obtain ⟨Aparams, kparams, rfl, _, _⟩ := Oparams.form
  have z0 := hb.size
  simp only [World.size_alloc, World.size_setCell] at z0 n0 Oparams
  clear hb
  obtain ⟨c1, f1⟩ := cell_of_block M.b1; obtain ⟨c2, f2⟩ := cell_of_block M.b2; obtain ⟨c3, f3⟩ := cell_of_block M.b3
  have s1 := blk_lt M.b1; have s2 := blk_lt M.b2; have s3 := blk_lt M.b3
  go_wp2_with fail
  replace M := M.set 0 (.slice Aparams x.params.length kparams)
  replace Oparams := ow_set3 (w := w) Oparams (by intro k hk; omega) 0 (.slice Aparams x.params.length kparams)
  refine (toFlatS_calls vcode x.code _ (hcode.below M.below) l1).mono ?_
  rintro e w2 ⟨Vcode, rfl, Ocode, hb⟩
  have n1 := M.size
  replace Oparams := Oparams.below hb
  replace M := M.call hb
  replace Ocode := Ocode.bound
  obtain ⟨Acode, kcode, rfl, _, _⟩ := Ocode.form
  have z1 := hb.size
  simp only [World.size_alloc, World.size_setCell] at z1 n1 Ocode
  clear hb c1 f1 c2 f2 c3 f3
  obtain ⟨c1, f1⟩ := cell_of_block M.b1; obtain ⟨c2, f2⟩ := cell_of_block M.b2; obtain ⟨c3, f3⟩ := cell_of_block M.b3
  replace s1 := blk_lt M.b1; replace s2 := blk_lt M.b2; replace s3 := blk_lt M.b3
  go_wp2_with fail
  replace M := M.set 1 (.slice Acode x.code.length kcode)
  replace Oparams := ow_set3 (w := w) Oparams (by intro k hk; omega) 1 (.slice Acode x.code.length kcode)
  replace Ocode := ow_set3 (w := w) Ocode (by intro k hk; omega) 1 (.slice Acode x.code.length kcode)
  replace M := M.set 2 (.int .i64 x.go)
  replace Oparams := ow_set3 (w := w) Oparams (by intro k hk; omega) 2 (.int .i64 x.go)
  replace Ocode := ow_set3 (w := w) Ocode (by intro k hk; omega) 2 (.int .i64 x.go)
  replace M := M.set 3 (.int .i64 x.test)
  replace Oparams := ow_set3 (w := w) Oparams (by intro k hk; omega) 3 (.int .i64 x.test)
  replace Ocode := ow_set3 (w := w) Ocode (by intro k hk; omega) 3 (.int .i64 x.test)
  refine (toIntS_calls vnext x.next _ (hnext.below M.below) l2).mono ?_
  rintro e w3 ⟨Vnext, rfl, Onext, hb⟩
  have n2 := M.size
  replace Oparams := Oparams.below hb
  replace Ocode := Ocode.below hb
  replace M := M.call hb
  replace Onext := Onext.bound
  obtain ⟨Anext, knext, rfl, _, _⟩ := Onext.form
  have z2 := hb.size
  simp only [World.size_alloc, World.size_setCell] at z2 n2 Onext
  clear hb c1 f1 c2 f2 c3 f3
  obtain ⟨c1, f1⟩ := cell_of_block M.b1; obtain ⟨c2, f2⟩ := cell_of_block M.b2; obtain ⟨c3, f3⟩ := cell_of_block M.b3
  replace s1 := blk_lt M.b1; replace s2 := blk_lt M.b2; replace s3 := blk_lt M.b3
  go_wp2_with fail
  replace M := M.set 4 (.slice Anext x.next.length knext)
  replace Oparams := ow_set3 (w := w) Oparams (by intro k hk; omega) 4 (.slice Anext x.next.length knext)
  replace Ocode := ow_set3 (w := w) Ocode (by intro k hk; omega) 4 (.slice Anext x.next.length knext)
  replace Onext := ow_set3 (w := w) Onext (by intro k hk; omega) 4 (.slice Anext x.next.length knext)
  refine (toIntSS_calls vargs x.args _ (hargs.below M.below) l3 l4).mono ?_
  rintro e w4 ⟨Vargs, rfl, Oargs, hb⟩
  have n3 := M.size
  replace Oparams := Oparams.below hb
  replace Ocode := Ocode.below hb
  replace Onext := Onext.below hb
  replace M := M.call hb
  replace Oargs := Oargs.bound
  obtain ⟨Aargs, kargs, rfl, _, _⟩ := Oargs.form
  have z3 := hb.size
  simp only [World.size_alloc, World.size_setCell] at z3 n3 Oargs
  clear hb c1 f1 c2 f2 c3 f3
  obtain ⟨c1, f1⟩ := cell_of_block M.b1; obtain ⟨c2, f2⟩ := cell_of_block M.b2; obtain ⟨c3, f3⟩ := cell_of_block M.b3
  replace s1 := blk_lt M.b1; replace s2 := blk_lt M.b2; replace s3 := blk_lt M.b3
  go_wp2_with fail
  replace M := M.set 5 (.slice Aargs x.args.length kargs)
  replace Oparams := ow_set3 (w := w) Oparams (by intro k hk; omega) 5 (.slice Aargs x.args.length kargs)
  replace Ocode := ow_set3 (w := w) Ocode (by intro k hk; omega) 5 (.slice Aargs x.args.length kargs)
  replace Onext := ow_set3 (w := w) Onext (by intro k hk; omega) 5 (.slice Aargs x.args.length kargs)
  replace Oargs := ow_set3 (w := w) Oargs (by intro k hk; omega) 5 (.slice Aargs x.args.length kargs)
  replace Oparams := ow_row3 (w := w) Oparams (by intro k hk; omega) [.slice Aparams x.params.length kparams, .slice Acode x.code.length kcode, .int .i64 x.go, .int .i64 x.test, .slice Anext x.next.length knext, .slice Aargs x.args.length kargs]
  replace Ocode := ow_row3 (w := w) Ocode (by intro k hk; omega) [.slice Aparams x.params.length kparams, .slice Acode x.code.length kcode, .int .i64 x.go, .int .i64 x.test, .slice Anext x.next.length knext, .slice Aargs x.args.length kargs]
  replace Onext := ow_row3 (w := w) Onext (by intro k hk; omega) [.slice Aparams x.params.length kparams, .slice Acode x.code.length kcode, .int .i64 x.go, .int .i64 x.test, .slice Anext x.next.length knext, .slice Aargs x.args.length kargs]
  replace Oargs := ow_row3 (w := w) Oargs (by intro k hk; omega) [.slice Aparams x.params.length kparams, .slice Acode x.code.length kcode, .int .i64 x.go, .int .i64 x.test, .slice Anext x.next.length knext, .slice Aargs x.args.length kargs]
  have cF := (cell_of_block (blk_put (blk_put (blk_put (blk_put (blk_put (blk_put M.b2 0 (.slice Aparams x.params.length kparams)) 1 (.slice Acode x.code.length kcode)) 2 (.int .i64 x.go)) 3 (.int .i64 x.test)) 4 (.slice Anext x.next.length knext)) 5 (.slice Aargs x.args.length kargs))).1
  have HB := putRow_below M.below (g := w.heap.size + 1) (by omega) [.slice Aparams x.params.length kparams, .slice Acode x.code.length kcode, .int .i64 x.go, .int .i64 x.test, .slice Anext x.next.length knext, .slice Aargs x.args.length kargs] 0
  refine bodyPost_ret (v := .agg #[.slice Aparams x.params.length kparams, .slice Acode x.code.length kcode, .int .i64 x.go, .int .i64 x.test, .slice Anext x.next.length knext, .slice Aargs x.args.length kargs]) (by simp [results, Try.results76, go_sem, cF]) rfl ⟨_, _, _, _, rfl, ?_, HB⟩
  refine partA_mk ?_ ?_ ?_ ?_ ?_ ?_ ?_ ?_ ?_ ?_ Oparams Ocode Onext Oargs
  all_goals
    intro k hk
    try intro hk2
    omega
end Go.Proofs.Ytmcnoeinjocimaa.L

set_option linter.unusedVariables false
namespace Go.Proofs.Ytmcnoeinjocimaa.L
open Go.RowKit
structure Sa where
  parts : List Pt
  values : Int
deriving DecidableEq
def Sa.t (x : Sa) : List Pt × Int := (x.parts, x.values)
def saV (x : Sa) (vparts : Value) : Value := .agg #[vparts, .int .i64 x.values]
def ssa : Rp Sa := (((Rp.sl part).pair Rp.int)).iso Sa.t
theorem ssa_open {w : World} {F : Nat → Prop} {x : Sa} {cs : List Value} (h : ssa.K w F x cs) : ∃ vparts, cs = [vparts, .int .i64 x.values] ∧ Rp.Rd part w F vparts x.parts := by
  obtain ⟨_, _, rfl, ⟨vparts, rfl, hparts⟩, rfl⟩ := h
  exact ⟨vparts, rfl, hparts⟩
theorem ssa_mk {w : World} {F : Nat → Prop} {x : Sa} {vparts : Value} (hparts : Rp.Rd part w F vparts x.parts) : ssa.K w F x [vparts, .int .i64 x.values] := ⟨[_], _, rfl, ⟨vparts, rfl, hparts⟩, rfl⟩
def ssaA : Rp Sa := (((Rp.ow true 54 partA).pair Rp.int)).iso Sa.t
theorem ssaA_open {w : World} {F : Nat → Prop} {x : Sa} {cs : List Value} (h : ssaA.K w F x cs) : ∃ G0 : Nat → Prop, (∀ k, G0 k → F k) ∧ ∃ vparts, cs = [vparts, .int .i64 x.values] ∧ Ow true 54 partA w G0 vparts x.parts := by
  obtain ⟨_, _, rfl, ⟨vparts, rfl, hparts⟩, rfl⟩ := h
  exact ⟨F, fun _ h => h, vparts, rfl, hparts⟩
theorem ssaA_mk {w : World} {F G0 : Nat → Prop} {x : Sa} {vparts : Value} (iG0 : ∀ k, G0 k → F k)  (hparts : Ow true 54 partA w G0 vparts x.parts) : ssaA.K w F x [vparts, .int .i64 x.values] := by
  refine ⟨[_], _, rfl, ⟨vparts, rfl, hparts.mono iG0⟩, ?_⟩
  exact rfl
theorem ssaA_le : Rp.Le ssaA ssa := Rp.Le.iso (Rp.Le.pair (Rp.Le.ow partA_le) (Rp.Le.refl _)) _
def ssaAt (w : World) (b o : Nat) (x : Sa) (vparts : Value) : Prop := w.cell? ⟨b, o, none⟩ = some (vparts) ∧ w.cell? ⟨b, o + 1, none⟩ = some (.int .i64 x.values)
theorem ssaAt_below {w w1 : World} {b o : Nat} {x : Sa} {vparts : Value} (h : ssaAt w b o x vparts) (hb : Below w.heap.size w w1) : ssaAt w1 b o x vparts := ⟨cell_below hb h.1, cell_below hb h.2⟩
theorem ssaAt_of {w : World} {b o : Nat} {x : Sa} {vparts : Value} (h : ∀ j u, ([vparts, .int .i64 x.values] : List Value)[j]? = some u → w.cell? ⟨b, o + j, none⟩ = some u) : ssaAt w b o x vparts := ⟨h 0 _ rfl, h 1 _ rfl⟩
theorem rd_ssa {w : World} {F : Nat → Prop} {v : Value} {l : List Sa} (h : Rp.Rd ssa w F v l) : ∃ A c, v = .slice A l.length c ∧ l.length ≤ c ∧ c ≤ 9223372036854775807 ∧
    (l = [] ∨ ∃ b o, A = some ⟨b, o, none⟩ ∧ b < w.heap.size ∧ ∀ (k : Nat) (hk : k < l.length), ∃ vparts, ssaAt w b (o + k * 2) l[k] vparts ∧ Rp.Rd part w F vparts l[k].parts) := by
  obtain ⟨A, c, rfl, hl, hm, h⟩ := h
  refine ⟨A, c, rfl, hl, hm, ?_⟩
  rcases h with h | ⟨b, o, rfl, _, hb, h⟩
  · exact .inl h
  · refine .inr ⟨b, o, rfl, hb, fun k hk => ?_⟩
    obtain ⟨cs, hK, hc⟩ := h k l[k] (List.getElem?_eq_getElem hk)
    obtain ⟨vparts, rfl, hparts⟩ := ssa_open hK
    refine ⟨vparts, ssaAt_of fun j u hu => ?_, hparts⟩
    rw [Nat.add_assoc]
    exact hc j u hu
end Go.Proofs.Ytmcnoeinjocimaa.L

set_option linter.unusedVariables false
namespace Go.Proofs.Ytmcnoeinjocimaa.L
open Go.RowKit
/-- Nodes that are come to from one, each step's node being allowed. -/
inductive Rch (next : List (List Int)) (ok : Int → Prop) (frm : Int) : Int → Prop where
  | start : ok frm → Rch next ok frm frm
  | step {k x : Int} {l : List Int} : Rch next ok frm k → 0 ≤ k → next[k.toNat]? = some l → x ∈ l → ok x → Rch next ok frm x
theorem Rch.ok_of {next : List (List Int)} {ok : Int → Prop} {frm k : Int} (h : Rch next ok frm k) : ok k := by
  cases h <;> assumption
def InR (next : List (List Int)) : Prop := ∀ l ∈ next, ∀ x ∈ l, 0 ≤ x ∧ x < next.length
theorem Rch.range {next : List (List Int)} {ok : Int → Prop} {frm k : Int} (h : Rch next ok frm k) (hf : 0 ≤ frm ∧ frm < next.length) (hr : InR next) : 0 ≤ k ∧ k < next.length := by
  induction h with
  | start _ => exact hf
  | step _ _ hl hx _ _ => exact hr _ (List.mem_of_getElem? hl) _ hx
/-- What is closed under steps and holds the start holds all. -/
theorem Rch.sub {next : List (List Int)} {ok S : Int → Prop} {frm : Int} (h0 : ok frm → S frm) (hs : ∀ k, S k → 0 ≤ k → ∀ l, next[k.toNat]? = some l → ∀ x ∈ l, ok x → S x) {k : Int} (h : Rch next ok frm k) : S k := by
  induction h with
  | start h => exact h0 h
  | step _ h1 h2 h3 h4 ih => exact hs _ ih h1 _ h2 _ h3 h4
theorem Rch.mono {next : List (List Int)} {ok ok' : Int → Prop} {frm k : Int} (hm : ∀ x, ok x → ok' x) (h : Rch next ok frm k) : Rch next ok' frm k := by
  induction h with
  | start h => exact .start (hm _ h)
  | step _ h1 h2 h3 h4 ih => exact .step ih h1 h2 h3 (hm _ h4)
theorem len_nodup_range {l : List Int} {n : Nat} (hd : l.Nodup) (hr : ∀ x ∈ l, 0 ≤ x ∧ x < n) : l.length ≤ n := by
  have h : ∀ (n : Nat) (l : List Int), l.Nodup → (∀ x ∈ l, 0 ≤ x ∧ x < n) → l.length ≤ n := by
    intro n
    induction n with
    | zero => intro l _ h; cases l with
      | nil => simp
      | cons x t => have := h x (by simp); omega
    | succ n ih =>
      intro l hd hr
      have h1 := ih (l.erase (n : Int)) (hd.erase _) (fun x hx => by
        have hm := (List.Nodup.mem_erase_iff hd).1 hx
        have := hr x hm.2
        have hne := hm.1
        omega)
      have h2 : l.length ≤ (l.erase (n : Int)).length + 1 := by
        rw [List.length_erase]; split <;> omega
      omega
  exact h n l hd hr
end Go.Proofs.Ytmcnoeinjocimaa.L

set_option linter.unusedVariables false
set_option linter.unusedSimpArgs false
namespace Go.Proofs.Ytmcnoeinjocimaa.L
open Go.RowKit
def nxS (l : List Int) : List Int := l.foldl putL []
def graphS (l : List Pt) : List (List Int) := l.map (fun p => nxS p.next)
theorem putL_len_le (l : List Int) (m : List Int) : (l.foldl putL m).length ≤ m.length + l.length := by
  induction l generalizing m with
  | nil => simp
  | cons x t ih => simp only [List.foldl_cons, List.length_cons]; have := ih (putL m x); have := putL_length m x; omega
theorem foldl_take_putL {l : List Int} {k : Nat} (hk : k < l.length) : (l.take (k + 1)).foldl putL [] = putL ((l.take k).foldl putL []) l[k] := by
  rw [List.take_succ_eq_append_getElem hk, List.foldl_append]; rfl
set_option maxHeartbeats 2000000 in
theorem l9Graph_calls {F : Nat → Prop} (s : Sa) (vparts : Value) (w : World) (hs : Rp.Rd part w F vparts s.parts) (hn : s.parts.length ≤ 1048576) (hl : ∀ p ∈ s.parts, p.next.length ≤ 1048576) :
    Calls Try.prog 45 #[saV s vparts] w fun e w' => ∃ v', e = .returned (.agg #[v']) ∧ Ow false 35 (Rp.sl Rp.int) w' (fun k => w.heap.size ≤ k) v' (graphS s.parts) ∧ Below w.heap.size w w' := by
  obtain ⟨A, c, rfl, hlc, hcm, hrow⟩ := rd_part hs
  unfold saV
  have H0 := hs
  go_enter Try.func45, Try.ntmps45
  go_wp2
  obtain ⟨W0, hW0⟩ : ∃ W0, W0 = ((w.alloc (Obj.cells #[Value.slice A s.parts.length c, Value.int IntKind.i64 s.values] 29)).alloc (Obj.cells #[Value.slice none 0 0] 57)).alloc (Obj.cells #[Value.slice none 0 0] 57) := ⟨_, rfl⟩
  have hB0 : Below w.heap.size w W0 := by rw [hW0]; exact ((below_new _).alloc (by simp) _).alloc (by simp; omega) _
  have k1 : W0.heap[w.heap.size + 1]? = some (.cells #[.slice none 0 0] 57 (0, 0)) := by rw [hW0]; exact blk_alloc (heap_alloc2_new w _ _) _
  have k2 : W0.heap[w.heap.size + 1 + 1]? = some (.cells #[.slice none 0 0] 57 (0, 0)) := by
    rw [hW0]
    have := heap_alloc_new ((w.alloc (Obj.cells #[Value.slice A s.parts.length c, Value.int IntKind.i64 s.values] 29)).alloc (Obj.cells #[Value.slice none 0 0] 57)) (Obj.cells #[Value.slice none 0 0] 57)
    simpa using this
  rw [← hW0]
  clear hW0
  go_loopw [12] (fun i wr => ∃ (k : Nat) (v : Value), k ≤ s.parts.length ∧ i = .int .i64 k ∧ wr.heap[w.heap.size + 1]? = some (.cells #[.slice none 0 0] 57 (0, 0)) ∧ wr.heap[w.heap.size + 1 + 1]? = some (.cells #[v] 57 (0, 0)) ∧ Ow false 35 (Rp.sl Rp.int) wr (fun q => w.heap.size + 1 + 1 < q) v (graphS (s.parts.take k)) ∧ Below w.heap.size w wr) (fun i _ => s.parts.length - (intOf i).toNat)
  case atStart => exact ⟨0, _, Nat.zero_le _, rfl, k1, k2, Ow.nil _ _ _ _ _, hB0⟩
  case round =>
    obtain ⟨k, v, hk, rfl, k1, k2, HO, HB⟩ := hrel
    rename World => wo
    by_cases hlt : k < s.parts.length
    · rcases hrow with hnil | ⟨b, o, rfl, hb, hcell⟩
      · rw [hnil] at hlt; simp at hlt
      obtain ⟨_, _, _, _, hp, ⟨A1, c1, rfl, _⟩, ⟨A2, c2, rfl, _⟩, hx, ⟨A3, c3, rfl, _⟩⟩ := hcell k hlt
      have hp := partAt_below hp HB
      have hx := hx.below HB
      have hnl := hl _ (List.getElem_mem hlt)
      have HG : Hid (graphS (s.parts.take (k + 1)) = graphS (s.parts.take k) ++ [nxS s.parts[k].next]) := Lib.hid (by unfold graphS; rw [List.take_succ_eq_append_getElem hlt, List.map_append]; rfl)
      have hgl : (graphS (s.parts.take k)).length ≤ k := by unfold graphS; rw [List.length_map, List.length_take]; omega
      clear hcell
      generalize s.parts[k] = p at *
      obtain ⟨A4, c4, rfl, _, _, hrn⟩ := rd_int hx
      obtain ⟨q0, q1, q2, q3, q4, q5⟩ := hp
      have i0 : (0 : Int) ≤ (k : Int) := Int.natCast_nonneg _
      have i1 : (k : Int) < (s.parts.length : Int) := by omega
      go_wp2
      obtain ⟨W1, hW1⟩ : ∃ W1, W1 = wo.alloc (Obj.cells #[Value.slice A1 p.params.length c1, Value.slice A2 p.code.length c2, Value.int .i64 p.go, Value.int .i64 p.test, Value.slice A4 p.next.length c4, Value.slice A3 p.args.length c3] 54) := ⟨_, rfl⟩
      have hb1 : Below wo.heap.size wo W1 := by rw [hW1]; exact below_new _
      have hs1 : wo.heap.size < W1.heap.size := by rw [hW1]; simp
      rw [← hW1]
      have k1' := blk_below k1 hb1
      have k2' := blk_below k2 hb1
      have HO1 := HO.bound.below hb1
      have HB1 := below_then HB hb1
      clear hW1 q0 q1 q2 q3 q4 q5
      replace hx := hx.below hb1
      go_loopw [6, 19] (fun v6 i wi => ∃ j : Nat, j ≤ p.next.length ∧ i = .int .i64 j ∧ Rp.Rd Rp.int wi (fun q => wo.heap.size < q) v6 ((p.next.take j).foldl putL []) ∧ Below W1.heap.size W1 wi) (fun _ i _ => p.next.length - (intOf i).toNat)
      case atStart => exact ⟨0, Nat.zero_le _, rfl, Rp.Rd.nil _ _ _, Below.refl _ _⟩
      case round =>
        obtain ⟨j, hj, rfl, HR, HBi⟩ := hrel
        by_cases hjt : j < p.next.length
        · rcases rd_int hx with ⟨_, _, hq, _, _, hnil | ⟨b2, o2, rfl, hb2, hcell2⟩⟩
          · rw [hnil] at hjt; simp at hjt
          cases hq
          have c1 := cell_below HBi (hcell2 j hjt)
          have HL := Lib.hid (foldl_take_putL hjt)
          have hlen := putL_len_le (p.next.take j) []
          rw [List.length_take, Nat.min_eq_left hj, List.length_nil, Nat.zero_add] at hlen
          have HC := Lib.hid (l1Put_calls _ _ p.next[j] wr HR (by omega))
          have hz1 := HBi.size
          clear hcell2
          generalize (p.next.take j).foldl putL [] = l6 at *
          generalize p.next[j] = x at *
          obtain ⟨A6, c6, rfl, _⟩ := HR
          go_wp2_with (go_at_call 73; refine HC.out.mono ?_; rintro e w2 ⟨v2, rfl, HR2, hb2'⟩)
          go_roundw
          case rel => exact ⟨j + 1, by omega, by go_num, by rw [HL.out]; exact HR2.mono (fun q hq => hq.elim id (fun h => by omega)), below_then HBi hb2'⟩
          case measure => simp [intOf]; omega
        · obtain rfl : j = p.next.length := by omega
          rw [List.take_length] at HR
          have g1 := blk_below k1' HBi
          have g2 := blk_below k2' HBi
          have HO2 := HO1.below HBi
          have HB2 := below_then HB1 HBi
          obtain ⟨x2, f2⟩ := cell_of_block g2
          have x20 := x2 0
          have f20 := f2 0
          simp at x20
          obtain ⟨Av, cv, rfl, hcv, hcv2⟩ := HO2.form
          obtain ⟨m6, hm6⟩ : ∃ m6, m6 = nxS p.next := ⟨_, rfl⟩
          replace HG := HG.out
          rw [← hm6] at HG
          replace HG := Lib.hid HG
          change Rp.Rd _ _ _ _ (nxS p.next) at HR
          rw [← hm6] at HR
          clear hm6
          have hHR := HR
          obtain ⟨A6, c6, rfl, _⟩ := HR
          have z2 := blk_lt k2
          have z3 := blk_lt g2
          go_wp2_with (at_builtin; (refine ow_append1 (r := Rp.sl Rp.int) (e := 35) (by rfl) _ _ 41 (.slice none 0 0) 24 (by rfl) Try.underlying41 infoInts rfl (by decide) (by omega) _ (graphS (s.parts.take k)) m6 [.slice A6 m6.length c6] (by rfl) (by rfl) HO2 ⟨_, rfl, hHR⟩ (fun q hq h => by have := h.2; omega) (by omega) ?_; intro v1 w1 HO3 hg1; obtain ⟨Bv, dv, rfl, _, _⟩ := HO3.form1; have g1' := grown_blk hg1 g1 (own_ne HO2 (fun h => by have := h.1; omega)); have g2' := grown_blk hg1 g2 (own_ne HO2 (fun h => by have := h.1; omega)); have HB3 := below_grown HB2 hg1 (fun q hq => by have := (own_in HO2 (.inr hq)).1; omega) HB2.size; obtain ⟨x3, f3⟩ := cell_of_block g2'; have f30 := f3 0; have HO4 := HO3.mono (G := fun q => w.heap.size + 1 + 1 < q) (fun q hq => by rcases hq with hq | hq | hq <;> omega)))
          go_roundw
          case rel => exact ⟨k + 1, _, by omega, by go_num, blk_set g1' (by simp) _, by have := blk_put g2' 0 (.slice Bv ((graphS (s.parts.take k)).length + 1) dv); simpa using this, by rw [HG.out]; exact HO4.set_other (by omega), HB3.setCell (by simp; omega) _⟩
          case measure => simp [intOf]; omega
    · obtain rfl : k = s.parts.length := by omega
      rw [List.take_length] at HO
      obtain ⟨x2, f2⟩ := cell_of_block k2
      obtain ⟨x3, f3⟩ := cell_of_block k1
      have x20 := x2 0
      have x30 := x3 0
      have f30 := f3 0
      simp at x20 x30
      obtain ⟨Av, cv, rfl, hcv, hcv2⟩ := HO.form
      clear hrow
      have z2 := blk_lt k2
      have hpp := blk_put k1 0 (.slice Av (graphS s.parts).length cv)
      simp at hpp
      go_wp2
      obtain ⟨x4, f4⟩ := cell_of_block hpp
      have x40 := x4 0
      simp at x40
      exact bodyPost_ret (v := .agg #[.slice Av (graphS s.parts).length cv]) (by simp [results, Try.results45, go_sem, x40]) rfl ⟨_, rfl, (HO.set_other (by omega)).mono (fun q hq => by omega), HB.setCell (by simp) _⟩
end Go.Proofs.Ytmcnoeinjocimaa.L

set_option linter.unusedVariables false
set_option linter.unusedSimpArgs false
namespace Go.Proofs.Ytmcnoeinjocimaa.L
open Go.RowKit
theorem within_calls (a b c : Int) (w : World) : Calls Try.prog 77 #[.int .i64 a, .int .i64 b, .int .i64 c] w fun e w' => e = .returned (.bool (inB a b c)) ∧ w = w' := by
  go_enter Try.func77, Try.ntmps77
  go_wp2
  all_goals
    go_ret
    simp [inB, *]
    try omega
def nameB (has : Bool) (n many : Int) : Bool := !has && n == 0 || has && inB n 0 (many - 1)
theorem name_calls (has : Bool) (n many : Int) (ad : Addr) (w : World) (hc : w.cell? ad = some (.int .i64 many)) (h0 : 0 ≤ many) (h1 : many ≤ 1000) :
   Calls Try.prog 137 #[.bool has, .int .i64 n, .pointer (some ad)] w fun e w' => e = .returned (.bool (nameB has n many)) ∧ w = w' := by
  by_cases h : has = true
  · subst h
    go_enter Try.func137, Try.ntmps137
    go_wp2
    all_goals
      go_ret
      refine ⟨ret_bool ?_, rfl⟩
      simp [nameB, inB, *]
      try omega
  · replace h : has = false := by simpa using h
    subst h
    go_enter Try.func137, Try.ntmps137
    go_wp2
    all_goals
      go_ret
      refine ⟨ret_bool ?_, rfl⟩
      simp [nameB, inB, *]
      try omega
def fD (o : Int) : Bool := o == 1 || o == 2 || o == 3 || o == 4
def fA (o : Int) : Bool := o == 2 || o == 3 || o == 4 || o == 5 || o == 6
def fB (o : Int) : Bool := o == 3 || o == 5
def fN (o : Int) : Bool := o == 1
def fT (o : Int) : Bool := o == 3
def fK (o : Int) : Bool := o == 1 || o == 2 || o == 3 || o == 4 || o == 5 || o == 6
def fieldsV (o : Int) : Value := .tuple #[.agg #[.bool (fD o), .bool (fA o), .bool (fB o), .bool (fN o), .bool (fT o)], .bool (fK o)]
theorem fieldsOf_calls (o : Int) (w : World) : Calls Try.prog 124 #[.int .i64 o] w fun e w' => e = .returned (fieldsV o) ∧ Below w.heap.size w w' := by
  have key : ∀ o : Int, o = 1 ∨ o = 2 ∨ o = 3 ∨ o = 4 ∨ o = 5 ∨ o = 6 ∨ ((o == 1) = false ∧ (o == 2) = false ∧ (o == 3) = false ∧ (o == 4) = false ∧ (o == 5) = false ∧ (o == 6) = false) := by
    intro o; simp; omega
  rcases key o with rfl | rfl | rfl | rfl | rfl | rfl | ⟨h1, h2, h3, h4, h5, h6⟩
  case inr.inr.inr.inr.inr.inr =>
    have hv : fieldsV o = .tuple #[.agg #[.bool false, .bool false, .bool false, .bool false, .bool false], .bool false] := by simp [fieldsV, fD, fA, fB, fN, fT, fK, *]
    have HV := Lib.hid hv
    clear hv
    go_enter Try.func124, Try.ntmps124
    go_wp2
    exact bodyPost_ret (v := .tuple #[.agg #[.bool false, .bool false, .bool false, .bool false, .bool false], .bool false]) (by simp [results, Try.results124, go_sem]) rfl ⟨by rw [HV.out], (Below.refl _ _).alloc (Nat.le_refl _) _⟩
  all_goals
    go_enter Try.func124, Try.ntmps124
    go_wp2
    exact bodyPost_ret (v := fieldsV _) (by simp [results, Try.results124, go_sem, fieldsV, fD, fA, fB, fN, fT, fK]) rfl ⟨rfl, (Below.refl _ _).alloc (Nat.le_refl _) _⟩
def flatB (x : Fl) (many : Int) : Bool :=
  fK x.op && nameB (fD x.op) x.dst many && nameB (fA x.op) x.a many && nameB (fB x.op) x.b many &&
  (fN x.op && inB x.n 0 65535 || !fN x.op && x.n == 0) && (fT x.op && inB x.dO 4 9 || !fT x.op && x.dO == 0)
theorem isWord_calls (a : Int) (w : World) : Calls Try.prog 138 #[.int .i64 a] w fun e w' => e = .returned (.bool (inB a 0 65535)) ∧ w = w' := by
  go_enter Try.func138, Try.ntmps138
  go_wp2_with (go_at_call 77; refine (within_calls _ _ _ _).mono ?_; rintro e w' ⟨rfl, rfl⟩)
  go_ret
  exact ⟨rfl, rfl⟩
theorem isTwo_calls (a : Int) (w : World) : Calls Try.prog 139 #[.int .i64 a] w fun e w' => e = .returned (.bool (inB a 4 9)) ∧ w = w' := by
  go_enter Try.func139, Try.ntmps139
  go_wp2_with (go_at_call 77; refine (within_calls _ _ _ _).mono ?_; rintro e w' ⟨rfl, rfl⟩)
  go_ret
  exact ⟨rfl, rfl⟩
set_option maxHeartbeats 1000000 in
theorem flatOK_calls (x : Fl) (many : Int) (w : World) (h0 : 0 ≤ many) (h1 : many ≤ 1000) :
   Calls Try.prog 131 #[flV x, .int .i64 many] w fun e w' => e = .returned (.bool (flatB x many)) ∧ Below w.heap.size w w' := by
  unfold flV
  go_enter Try.func131, Try.ntmps131
  go_wp2_with (first | (go_at_call 124; refine (fieldsOf_calls _ _).mono ?_; rintro e w1 ⟨rfl, hb⟩; unfold fieldsV; obtain ⟨b1, b2, hz1, hz⟩ := boxed2 hb; obtain ⟨c1, f1⟩ := cell_of_block b1; obtain ⟨c2, f2⟩ := cell_of_block b2; clear b1 b2; replace hb := below2 hb) | (go_at_call 137; refine (name_calls _ _ many _ _ (by go_simp) h0 h1).mono ?_; rintro e w' ⟨rfl, rfl⟩) | (go_at_call 138; refine (isWord_calls _ _).mono ?_; rintro e w' ⟨rfl, rfl⟩) | (go_at_call 139; refine (isTwo_calls _ _).mono ?_; rintro e w' ⟨rfl, rfl⟩))
  all_goals
    go_ret
    refine ⟨ret_bool ?_, hb.alloc hb.size _⟩
    clear c1 f1 c2 f2 hb hz hz1
    simp_all [flatB]
end Go.Proofs.Ytmcnoeinjocimaa.L

set_option linter.unusedVariables false
namespace Go.Proofs.Ytmcnoeinjocimaa.L
open Go.RowKit
/-- The place of the first element that is so, -1 without one. -/
def ixOf {α : Type} (p : α → Bool) (l : List α) : Int := match l.findIdx? p with | some i => i | none => -1
theorem ixOf_hit {α : Type} {p : α → Bool} {l : List α} {k : Nat} (hk : k < l.length) (h : ∀ (j : Nat) (hj : j < l.length), j < k → p l[j] = false) (hp : p l[k] = true) : ixOf p l = k := by
  have : l.findIdx? p = some k := by
    rw [List.findIdx?_eq_some_iff_getElem]
    exact ⟨hk, hp, fun j hj => by simpa using h j (by omega) hj⟩
  rw [ixOf, this]
theorem ixOf_none {α : Type} {p : α → Bool} {l : List α} (h : ∀ (j : Nat) (hj : j < l.length), p l[j] = false) : ixOf p l = -1 := by
  have : l.findIdx? p = none := by
    rw [List.findIdx?_eq_none_iff]
    intro x hx
    obtain ⟨j, hj, rfl⟩ := List.getElem_of_mem hx
    exact h j hj
  rw [ixOf, this]
theorem ixOf_any {α : Type} (p : α → Bool) (l : List α) : decide (0 ≤ ixOf p l) = l.any p := by
  unfold ixOf
  cases h : l.findIdx? p with
  | none =>
    rw [List.findIdx?_eq_none_iff] at h
    symm
    rw [show decide ((0 : Int) ≤ -1) = false by decide, List.any_eq_false]
    intro x hx; simp [h x hx]
  | some i =>
    rw [List.findIdx?_eq_some_iff_getElem] at h
    obtain ⟨h1, h2, _⟩ := h
    symm
    simp only [Int.natCast_nonneg, decide_true]
    exact List.any_eq_true.2 ⟨_, List.getElem_mem h1, h2⟩
/-- A function that is no extern one is entered. -/
def Enters (P : Program) (f : Nat) : Prop := ∀ (args : Array Value) (W : World), (callFunc f args).run P W = .ok (.enter f args) W
theorem enters {P : Program} {f : Nat} {fn : Func} (h : P.funcs[f]? = some fn) (hn : (fn.name == "runtime.NumGoroutine") = false) (hb : fn.body.isNone = false) : Enters P f := by
  intro args W
  have hn' : ¬ fn.name = "runtime.NumGoroutine" := by simpa using hn
  have hb' : ¬ fn.body = none := by intro h; rw [h] at hb; cases hb
  simp [callFunc, h, hn', hb']
set_option maxHeartbeats 1000000 in
theorem ixFlat_calls {F : Nat → Prop} (v : Value) (l : List Fl) (fn : Nat) (caps : Array Value) (p : Fl → Bool) (w : World) (h : Rp.Rd flat w F v l) (hen : Enters Try.prog fn)
    (hf : ∀ x ∈ l, ∀ W, Below w.heap.size w W → Calls Try.prog fn (#[flV x] ++ caps) W fun e w' => e = .returned (.bool (p x)) ∧ Below W.heap.size W w') :
    Calls Try.prog 136 #[v, .func (.func fn) #[] caps] w fun e w' => e = .returned (.int .i64 (ixOf p l)) ∧ Below w.heap.size w w' := by
  obtain ⟨A, c, rfl, hlc, hcm, hrow⟩ := rd_flat h
  unfold Enters at hen
  go_enter Try.func136, Try.ntmps136
  go_wp2_with fail
  go_loopw [8] (fun i wr => ∃ k : Nat, k ≤ l.length ∧ i = .int .i64 k ∧ Hid (∀ (j : Nat) (hj : j < l.length), j < k → p l[j] = false) ∧ Below w.heap.size w wr) (fun i _ => l.length - (intOf i).toNat)
  case atStart => exact ⟨0, Nat.zero_le _, rfl, Lib.hid (fun j _ hj => by omega), Below.refl _ _⟩
  case round =>
    obtain ⟨k, hk, rfl, HN, HB⟩ := hrel
    by_cases hlt : k < l.length
    · rcases hrow with rfl | ⟨b, o, rfl, hb, hcell⟩
      · simp at hlt
      have c1 := (hcell k hlt).below HB
      clear hcell
      obtain ⟨q0, q1, q2, q3, q4, q5⟩ := c1
      have HC := hf l[k] (List.getElem_mem hlt) wr HB
      have HP : Hid (p l[k] = p l[k]) := Lib.hid rfl
      generalize hr : p l[k] = r at HC
      have HR := Lib.hid hr
      clear hr HP hf
      have HC := Lib.hid HC
      go_wp2_with fail
      refine HC.out.mono ?_
      rintro e w1 ⟨rfl, hb1⟩
      have HB1 := below_then HB hb1
      clear HC hb1
      cases r
      · go_wp2
        go_roundw
        case rel => exact ⟨k + 1, by omega, by go_num, Lib.hid (fun j hj hjk => (Nat.lt_or_eq_of_le (Nat.le_of_lt_succ hjk)).elim (fun h => HN.out j hj h) (fun h => by subst h; exact HR.out)), HB1⟩
        case measure => simp [intOf]; omega
      · go_wp2
        go_ret
        exact ⟨ret_int (ixOf_hit hlt HN.out HR.out).symm, HB1⟩
    · obtain rfl : k = l.length := by omega
      go_wp2
      go_ret
      exact ⟨ret_int (ixOf_none (fun j hj => HN.out j hj hj)).symm, HB⟩
theorem hasFlat_calls {F : Nat → Prop} (v : Value) (l : List Fl) (fn : Nat) (caps : Array Value) (p : Fl → Bool) (w : World) (h : Rp.Rd flat w F v l) (hen : Enters Try.prog fn)
    (hf : ∀ x ∈ l, ∀ W, Below w.heap.size w W → Calls Try.prog fn (#[flV x] ++ caps) W fun e w' => e = .returned (.bool (p x)) ∧ Below W.heap.size W w') :
    Calls Try.prog 129 #[v, .func (.func fn) #[] caps] w fun e w' => e = .returned (.bool (l.any p)) ∧ Below w.heap.size w w' := by
  have HC := ixFlat_calls v l fn caps p w h hen hf
  have HX := Lib.hid (ixOf_any p l)
  generalize l.any p = r at *
  generalize ixOf p l = n at *
  have HC := Lib.hid HC
  clear hf hen
  go_enter Try.func129, Try.ntmps129
  go_wp2_with (go_at_call 136; refine HC.out.mono ?_; rintro e w1 ⟨rfl, hb⟩)
  go_ret
  exact ⟨ret_bool HX.out, hb⟩
end Go.Proofs.Ytmcnoeinjocimaa.L
