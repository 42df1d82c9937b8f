/- The reference's small words on lists of numbers. -/
import Derived.Test.YtmcnoeinjocimaaSf1
import Derived.Test.YtmcnoeinjocimaaCv1
import Derived.Test.YtmcnoeinjocimaaLib6
set_option linter.unusedVariables false
set_option linter.unusedSimpArgs false
namespace Go.Proofs.Ytmcnoeinjocimaa.L
open Go.RowKit
theorem l9Sets_calls (o : Int) (w : World) : Calls Try.prog 49 #[.int .i64 o] w fun e w' => e = .returned (.bool (inB o 1 4)) ∧ w = w' := by
  go_enter Try.func49, Try.ntmps49
  go_wp2_with (go_at_call 42; refine (l1In_calls _ _ _ _).mono ?_; rintro e w' ⟨rfl, rfl⟩)
  go_ret
  exact ⟨rfl, rfl⟩
set_option maxHeartbeats 1000000 in
theorem l1Has_calls {F : Nat → Prop} (v : Value) (l : List Int) (n : Int) (w : World) (h : Rp.Rd Rp.int w F v l) :
    Calls Try.prog 75 #[v, .int .i64 n] w fun e w' => e = .returned (.bool (l.contains n)) ∧ Below w.heap.size w w' := by
  obtain ⟨A, c, rfl, hlc, hcm, hrow⟩ := rd_int h
  go_enter Try.func75, Try.ntmps75
  go_wp2
  go_loopw [9] (fun i wr => ∃ k : Nat, k ≤ l.length ∧ i = .int .i64 k ∧ Hid (∀ (j : Nat) (hj : j < l.length), j < k → l[j] ≠ n) ∧ Below w.heap.size w wr) (fun i _ => l.length - (intOf i).toNat)
  case atStart => exact ⟨0, Nat.zero_le _, rfl, Lib.hid (fun j _ hj => by omega), Below.refl _ _⟩
  case round =>
    obtain ⟨k, hk, rfl, HN, HB⟩ := hrel
    by_cases hlt : k < l.length
    · rcases hrow with rfl | ⟨b, o, rfl, hb, hcell⟩
      · simp at hlt
      have c1 := cell_below HB (hcell k hlt)
      clear hcell
      by_cases he : l[k] = n
      · have ht : (l[k] == n) = true := by simpa using he
        have HE := Lib.hid he
        clear he
        go_wp2
        go_ret
        exact ⟨ret_bool (by symm; rw [List.contains_iff_mem]; exact HE.out ▸ List.getElem_mem hlt), HB⟩
      · have ht : (l[k] == n) = false := by simpa using he
        have HE := Lib.hid he
        clear he
        go_wp2
        go_roundw
        case rel => exact ⟨k + 1, by omega, by go_num, Lib.hid (fun j hj hjk => (Nat.lt_or_eq_of_le (Nat.le_of_lt_succ hjk)).elim (fun h => HN.out j hj h) (fun h => by subst h; exact HE.out)), HB⟩
        case measure => simp [intOf]; omega
    · obtain rfl : k = l.length := by omega
      go_wp2
      go_ret
      refine ⟨ret_bool ?_, HB⟩
      symm
      rw [Bool.eq_false_iff]
      intro hc
      rw [List.contains_iff_mem] at hc
      obtain ⟨j, hj, hjn⟩ := List.getElem_of_mem hc
      exact HN.out j hj hj hjn
def usesS (x : Fl) : List Int := if x.op == 1 then [] else if x.op == 3 || x.op == 5 then [x.a, x.b] else [x.a]
set_option maxHeartbeats 1000000 in
theorem l9Uses_calls (x : Fl) (w : World) : Calls Try.prog 48 #[flV x] w fun e w' => ∃ v', e = .returned v' ∧ Ow true 3 Rp.int w' (fun k => w.heap.size ≤ k) v' (usesS x) ∧ Below w.heap.size w w' := by
  have key : x.op = 1 ∨ ((x.op == 1) = false ∧ (x.op == 3) = true) ∨ ((x.op == 1) = false ∧ (x.op == 3) = false ∧ (x.op == 5) = true) ∨ ((x.op == 1) = false ∧ (x.op == 3) = false ∧ (x.op == 5) = false) := by
    simp; omega
  unfold flV
  rcases key with h | ⟨h1, h2⟩ | ⟨h1, h2, h3⟩ | ⟨h1, h2, h3⟩
  · have HU : Hid (usesS x = []) := Lib.hid (by unfold usesS; simp [h])
    have ht : (x.op == 1) = true := by simpa using h
    clear h
    go_enter Try.func48, Try.ntmps48
    go_wp2
    go_ret
    exact ⟨_, rfl, by rw [HU.out]; exact Ow.nil _ _ _ _ _, below_new _⟩
  · have HU : Hid (usesS x = [x.a, x.b]) := Lib.hid (by unfold usesS; simp [h1, h2])
    go_enter Try.func48, Try.ntmps48
    go_wp2
    go_ret
    exact ⟨_, rfl, by rw [HU.out]; exact ow_intsG (by simp) (by omega) [x.a, x.b] _ rfl (by simp), (below_new _).alloc (by simp) _⟩
  · have HU : Hid (usesS x = [x.a, x.b]) := Lib.hid (by unfold usesS; simp [h1, h2, h3])
    go_enter Try.func48, Try.ntmps48
    go_wp2
    go_ret
    exact ⟨_, rfl, by rw [HU.out]; exact ow_intsG (by simp) (by omega) [x.a, x.b] _ rfl (by simp), (below_new _).alloc (by simp) _⟩
  · have HU : Hid (usesS x = [x.a]) := Lib.hid (by unfold usesS; simp [h1, h2, h3])
    go_enter Try.func48, Try.ntmps48
    go_wp2
    go_ret
    exact ⟨_, rfl, by rw [HU.out]; exact ow_intsG (by simp) (by omega) [x.a] _ rfl (by simp), (below_new _).alloc (by simp) _⟩
def putL : List Int → Int → List Int
  | [], n => [n]
  | x :: t, n => if x < n then x :: putL t n else if x = n then x :: t else n :: x :: t
theorem putL_take (l : List Int) (n : Int) (k : Nat) (h : ∀ (j : Nat) (hj : j < l.length), j < k → l[j] < n) : putL l n = l.take k ++ putL (l.drop k) n := by
  induction k generalizing l with
  | zero => simp
  | succ k ih =>
    cases l with
    | nil => simp
    | cons x t =>
      have hx : x < n := h 0 (by simp) (by omega)
      simp only [putL, List.take_succ_cons, List.drop_succ_cons, List.cons_append]
      rw [if_pos hx, ih t (fun j hj hjk => h (j + 1) (by simp; omega) (by omega))]
theorem putL_length (l : List Int) (n : Int) : (putL l n).length ≤ l.length + 1 := by
  induction l with
  | nil => simp [putL]
  | cons x t ih => simp only [putL]; split; simp; omega; split <;> simp
theorem mem_putL (l : List Int) (n x : Int) : x ∈ putL l n ↔ x = n ∨ x ∈ l := by
  induction l with
  | nil => simp [putL]
  | cons y t ih =>
    simp only [putL]
    split
    · simp only [List.mem_cons, ih]
      constructor
      · rintro (h | h | h) <;> simp [h]
      · rintro (h | h | h) <;> simp [h]
    · split
      · rename_i h1 h2; subst h2; simp
      · simp
set_option maxRecDepth 100000 in
set_option maxHeartbeats 2000000 in
theorem l1Put_calls {F : Nat → Prop} (v : Value) (l : List Int) (n : Int) (w : World) (h : Rp.Rd Rp.int w F v l) (hl : l.length ≤ 1048576) :
    Calls Try.prog 73 #[v, .int .i64 n] w fun e w' => ∃ v', e = .returned v' ∧ Rp.Rd Rp.int w' (fun k => F k ∨ w.heap.size ≤ k) v' (putL l n) ∧ Below w.heap.size w w' := by
  have hR := h
  obtain ⟨A, c, rfl, hlc, hcm, hrow⟩ := rd_int h
  go_enter Try.func73, Try.ntmps73
  go_wp2
  go_loopw [5] (fun i wr => ∃ k : Nat, k ≤ l.length ∧ i = .int .i64 k ∧ Hid (∀ (j : Nat) (hj : j < l.length), j < k → l[j] < n) ∧ Below w.heap.size w wr) (fun i _ => l.length - (intOf i).toNat)
  case atStart => exact ⟨0, Nat.zero_le _, rfl, Lib.hid (fun j _ hj => by omega), Below.refl _ _⟩
  case round =>
    obtain ⟨k, hk, rfl, HN, HB⟩ := hrel
    have HP : Hid (putL l n = l.take k ++ putL (l.drop k) n) := Lib.hid (putL_take l n k HN.out)
    have HR := hR.below HB
    by_cases hlt : k < l.length
    · rcases hrow with rfl | ⟨b, o, rfl, hb, hcell⟩
      · simp at hlt
      have c1 := cell_below HB (hcell k hlt)
      clear hcell
      have i0 : (0 : Int) ≤ (k : Int) := Int.natCast_nonneg _
      have i1 : (k : Int) < (l.length : Int) := by omega
      by_cases he : l[k] < n
      · have ht : decide (l[k] < n) = true := decide_eq_true he
        have HE := Lib.hid he
        clear he
        go_wp2
        go_roundw
        case rel => exact ⟨k + 1, by omega, by go_num, Lib.hid (fun j hj hjk => (Nat.lt_or_eq_of_le (Nat.le_of_lt_succ hjk)).elim (fun h => HN.out j hj h) (fun h => by subst h; exact HE.out)), HB⟩
        case measure => simp [intOf]; omega
      · have ht : decide (l[k] < n) = false := decide_eq_false he
        by_cases he2 : l[k] = n
        · have ht2 : (l[k] == n) = true := by simpa using he2
          have HF : Hid (putL l n = l) := Lib.hid (by rw [HP.out, List.drop_eq_getElem_cons hlt, putL, if_neg he, if_pos he2, ← List.drop_eq_getElem_cons hlt, List.take_append_drop])
          clear he he2
          go_wp2
          go_ret
          exact ⟨_, rfl, by rw [HF.out]; exact HR.mono (fun _ h => .inl h), HB⟩
        · have ht2 : (l[k] == n) = false := by simpa using he2
          have HF : Hid (putL l n = l.take k ++ [n] ++ l.drop k) := Lib.hid (by rw [HP.out, List.drop_eq_getElem_cons hlt, putL, if_neg he, if_neg he2]; simp)
          clear he he2
          have HT := HR.take k (by omega)
          have HD := hR.drop_lt rfl k (by omega) (by omega)
          have hB0 := HB.size
          have tok1 : True := trivial
          go_wp2_with (first | (at_builtin; have _t := tok1; refine acc_appendf (r := Rp.int) (e := 3) int_flat (by rfl) _ _ 35 (.int .i64 0) 8 (by rfl) Try.underlying35 infoInt rfl (by decide) (by omega) (.slice none 0 0) _ [] (l.take k) (by rfl) (by rfl) true (Ow.nil _ _ _ _ (fun k => w.heap.size ≤ k)) HT HB hB0 (by simp; omega) ?_; intro v1 w1 HO1 HB1 hB1; clear tok1) | (at_builtin; have _t := HO1; refine acc_append1 (r := Rp.int) (e := 3) int_flat (by rfl) _ _ 35 (.int .i64 0) 8 (by rfl) Try.underlying35 infoInt rfl (by decide) (by omega) v1 (l.take k) n [.int .i64 n] (by rfl) (by rfl) true HO1 rfl HB1 hB1 (by simp; omega) ?_; intro v2 w2 HO2 HB2 hB2; clear HO1; have HD2 := HD.below HB2) | (at_builtin; have _t := HO2; refine acc_appendf (r := Rp.int) (e := 3) int_flat (by rfl) _ _ 35 (.int .i64 0) 8 (by rfl) Try.underlying35 infoInt rfl (by decide) (by omega) v2 _ (l.take k ++ [n]) (l.drop k) (by rfl) (by rfl) true HO2 HD2 HB2 hB2 (by simp; omega) ?_; intro v3 w3 HO3 HB3 hB3; clear HO2))
          go_ret
          exact ⟨_, rfl, by rw [HF.out]; exact HO3.rd.mono (fun _ h => .inr h), HB3⟩
    · obtain rfl : k = l.length := by omega
      have HF : Hid (putL l n = l ++ [n] ++ []) := Lib.hid (by rw [HP.out, List.drop_length]; simp [putL])
      have HE : ∀ (A' : Option Addr) (c' : Nat) (W : World), c' ≤ 9223372036854775807 → Rp.Rd Rp.int W F (.slice A' 0 c') [] := fun A' c' W hc' => ⟨A', c', rfl, Nat.zero_le _, hc', .inl rfl⟩
      clear hlt hk hrow h hR
      have hB0 := HB.size
      have tok1 : True := trivial
      by_cases hc0 : c = l.length
      · subst hc0
        go_wp2_with (first | (at_builtin; have _t := tok1; refine acc_appendf (r := Rp.int) (e := 3) int_flat (by rfl) _ _ 35 (.int .i64 0) 8 (by rfl) Try.underlying35 infoInt rfl (by decide) (by omega) (.slice none 0 0) (.slice A l.length l.length) [] l (by rfl) (by rfl) true (Ow.nil _ _ _ _ (fun k => w.heap.size ≤ k)) HR HB hB0 (by first | omega | (simp; omega)) ?_; intro v1 w1 HO1 HB1 hB1; clear tok1) | (at_builtin; have _t := HO1; refine acc_append1 (r := Rp.int) (e := 3) int_flat (by rfl) _ _ 35 (.int .i64 0) 8 (by rfl) Try.underlying35 infoInt rfl (by decide) (by omega) v1 l n [.int .i64 n] (by rfl) (by rfl) true HO1 rfl HB1 hB1 (by first | omega | (simp; omega)) ?_; intro v2 w2 HO2 HB2 hB2; clear HO1) | (at_builtin; have _t := HO2; refine acc_appendf (r := Rp.int) (e := 3) int_flat (by rfl) _ _ 35 (.int .i64 0) 8 (by rfl) Try.underlying35 infoInt rfl (by decide) (by omega) v2 (.slice A 0 0) (l ++ [n]) [] (by rfl) (by rfl) true HO2 (HE _ _ _ (by omega)) HB2 hB2 (by first | omega | (simp; omega)) ?_; intro v3 w3 HO3 HB3 hB3; clear HO2))
        go_ret
        exact ⟨_, rfl, by rw [HF.out]; exact HO3.rd.mono (fun _ h => .inr h), HB3⟩
      · have hc1 : l.length < c := by omega
        cases A with
        | none =>
          go_wp2_with (first | (at_builtin; have _t := tok1; refine acc_appendf (r := Rp.int) (e := 3) int_flat (by rfl) _ _ 35 (.int .i64 0) 8 (by rfl) Try.underlying35 infoInt rfl (by decide) (by omega) (.slice none 0 0) (.slice none l.length c) [] l (by rfl) (by rfl) true (Ow.nil _ _ _ _ (fun k => w.heap.size ≤ k)) HR HB hB0 (by first | omega | (simp; omega)) ?_; intro v1 w1 HO1 HB1 hB1; clear tok1) | (at_builtin; have _t := HO1; refine acc_append1 (r := Rp.int) (e := 3) int_flat (by rfl) _ _ 35 (.int .i64 0) 8 (by rfl) Try.underlying35 infoInt rfl (by decide) (by omega) v1 l n [.int .i64 n] (by rfl) (by rfl) true HO1 rfl HB1 hB1 (by first | omega | (simp; omega)) ?_; intro v2 w2 HO2 HB2 hB2; clear HO1) | (at_builtin; have _t := HO2; refine acc_appendf (r := Rp.int) (e := 3) int_flat (by rfl) _ _ 35 (.int .i64 0) 8 (by rfl) Try.underlying35 infoInt rfl (by decide) (by omega) v2 (.slice none 0 (c - l.length)) (l ++ [n]) [] (by rfl) (by rfl) true HO2 (HE _ _ _ (by omega)) HB2 hB2 (by first | omega | (simp; omega)) ?_; intro v3 w3 HO3 HB3 hB3; clear HO2))
          go_ret
          exact ⟨_, rfl, by rw [HF.out]; exact HO3.rd.mono (fun _ h => .inr h), HB3⟩
        | some ad =>
          go_wp2_with (first | (at_builtin; have _t := tok1; refine acc_appendf (r := Rp.int) (e := 3) int_flat (by rfl) _ _ 35 (.int .i64 0) 8 (by rfl) Try.underlying35 infoInt rfl (by decide) (by omega) (.slice none 0 0) (.slice (some ad) l.length c) [] l (by rfl) (by rfl) true (Ow.nil _ _ _ _ (fun k => w.heap.size ≤ k)) HR HB hB0 (by first | omega | (simp; omega)) ?_; intro v1 w1 HO1 HB1 hB1; clear tok1) | (at_builtin; have _t := HO1; refine acc_append1 (r := Rp.int) (e := 3) int_flat (by rfl) _ _ 35 (.int .i64 0) 8 (by rfl) Try.underlying35 infoInt rfl (by decide) (by omega) v1 l n [.int .i64 n] (by rfl) (by rfl) true HO1 rfl HB1 hB1 (by first | omega | (simp; omega)) ?_; intro v2 w2 HO2 HB2 hB2; clear HO1) | (at_builtin; have _t := HO2; refine acc_appendf (r := Rp.int) (e := 3) int_flat (by rfl) _ _ 35 (.int .i64 0) 8 (by rfl) Try.underlying35 infoInt rfl (by decide) (by omega) v2 (.slice (some (ad.add l.length)) 0 (c - l.length)) (l ++ [n]) [] (by rfl) (by rfl) true HO2 (HE _ _ _ (by omega)) HB2 hB2 (by first | omega | (simp; omega)) ?_; intro v3 w3 HO3 HB3 hB3; clear HO2))
          go_ret
          exact ⟨_, rfl, by rw [HF.out]; exact HO3.rd.mono (fun _ h => .inr h), HB3⟩
end Go.Proofs.Ytmcnoeinjocimaa.L
