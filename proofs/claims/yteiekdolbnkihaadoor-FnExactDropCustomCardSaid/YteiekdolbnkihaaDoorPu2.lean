/- Numbers in seven bits, names, sections: plain Lean. -/
import Derived.Test.YteiekdolbnkihaaDoorPu1
import Derived.Test.YteiekdolbnkihaaDoorTyS
set_option linter.unusedVariables false
set_option linter.unusedSimpArgs false
namespace Go.Proofs.YteiekdolbnkihaaDoor.L
open Go.Lib
def tk (s : ByteArray) : Nat → Nat → Nat → Nat → Option (Nat × Nat × Nat)
  | 0, _, _, _ => none
  | f + 1, k, n, i => if i < s.size then (if bt s i < 128 then some (n + bt s i % 128 * 2 ^ (7 * k), k + 1, i + 1) else tk s f (k + 1) (n + bt s i % 128 * 2 ^ (7 * k)) (i + 1)) else none
theorem tk_le {s : ByteArray} : ∀ {f k n i m k' e : Nat}, n < 2 ^ (7 * k) → tk s f k n i = some (m, k', e) → i < e ∧ e ≤ s.size ∧ m < 2 ^ (7 * (k + f)) ∧ k < k' ∧ k' ≤ k + f
  | 0, _, _, _, _, _, _, _, h => by cases h
  | f + 1, k, n, i, m, k', e, hn, h => by
    have hp : 2 ^ (7 * (k + 1)) = 128 * 2 ^ (7 * k) := by rw [Nat.mul_add, Nat.pow_add]; omega
    have hm : bt s i % 128 * 2 ^ (7 * k) ≤ 127 * 2 ^ (7 * k) := Nat.mul_le_mul (by omega) (Nat.le_refl _)
    have hq : n + bt s i % 128 * 2 ^ (7 * k) < 2 ^ (7 * (k + 1)) := by omega
    rw [tk] at h
    split at h
    · split at h
      · cases h
        refine ⟨by omega, by omega, ?_, by omega, by omega⟩
        exact Nat.lt_of_lt_of_le hq (Nat.pow_le_pow_right (by omega) (by omega))
      · obtain ⟨h1, h2, h3, h4, h5⟩ := tk_le hq h
        rw [show k + 1 + f = k + (f + 1) by omega] at h3
        exact ⟨by omega, h2, h3, by omega, by omega⟩
    · cases h
def tkU (s : ByteArray) (i : Nat) : Option (Nat × Nat) :=
  match tk s 5 0 0 i with
  | none => none
  | some (n, _, e) => if n ≤ 4294967295 then some (n, e) else none
theorem tkU_le {s : ByteArray} {i m e : Nat} (h : tkU s i = some (m, e)) : i < e ∧ e ≤ s.size ∧ m ≤ 4294967295 := by
  unfold tkU at h
  split at h
  · cases h
  · rename_i n k e' hk
    have := tk_le (by omega) hk
    split at h
    · cases h; exact ⟨this.1, this.2.1, by assumption⟩
    · cases h
def nameB (s : ByteArray) : Option ByteArray :=
  match tkU s 0 with
  | none => none
  | some (n, e) => if e + n ≤ s.size ∧ validD (s.extract e (e + n)).data.toList = true then some (s.extract e (e + n)) else none
theorem nameB_nil {s : ByteArray} (h : s.size = 0) : nameB s = none := by
  unfold nameB tkU
  rw [tk, if_neg (by omega)]
def oneB (x : Se) : Bool := inB x.id 0 11 && decide (x.body.size ≤ 200)
def loopB : Int → List Se → Bool
  | _, [] => true
  | last, x :: t => if oneB x then (if 0 < x.id then (if x.id ≤ last then false else loopB x.id t) else if (nameB x.body).isSome then loopB last t else false) else false
def goodB (l : List Se) : Bool := decide (l.length ≤ 8) && loopB 0 l
def nameS (s : ByteArray) : Option ByteArray := if s.size ≤ 1000 then nameB s else none
def oneS (x : Se) : Bool := (!(x.id == 0) || (nameS x.body).isSome) && (inB x.id 0 11 && decide (x.body.size ≤ 200))
def loopS : Int → List Se → Bool
  | _, [] => true
  | last, x :: t => if !oneS x || (!(x.id == 0) && decide (x.id ≤ last)) then false else loopS (if x.id == 0 then last else x.id) t
def goodS (l : List Se) : Bool := loopS 0 l && decide (l.length ≤ 8)
theorem loop_same : ∀ (l : List Se) (last : Int), loopB last l = loopS last l
  | [], _ => rfl
  | x :: t, last => by
    rw [loopB, loopS]
    unfold oneB oneS nameS
    by_cases h1 : inB x.id 0 11 = true
    · by_cases h2 : x.body.size ≤ 200
      · rw [if_pos (show x.body.size ≤ 1000 by omega)]
        by_cases h3 : x.id = 0
        · have h4 := loop_same t last
          simp only [h3] at h1 ⊢
          simp only [h1, h2, h4, Bool.true_and, Bool.and_true, decide_true, if_true, Int.lt_irrefl, if_false, beq_self_eq_true, Bool.not_true, Bool.false_or, Bool.false_and, Bool.or_false]
          cases (nameB x.body).isSome <;> simp
        · have h5 : 0 < x.id := by unfold inB at h1; simp at h1; omega
          have h4 := loop_same t x.id
          simp [h1, h2, h3, h5, h4]
      · simp [h2]
    · simp [h1]
theorem good_same (l : List Se) : goodB l = goodS l := by
  unfold goodB goodS
  rw [loop_same, Bool.and_comm]
end Go.Proofs.YteiekdolbnkihaaDoor.L
