/- The program's takeSection; what a module is read as. -/
import Derived.Test.YteiekdolbnkihaaDoorGs1
set_option linter.unusedVariables false
set_option linter.unusedSimpArgs false
namespace Go.Proofs.YteiekdolbnkihaaDoor.L
open Go.RowKit
def emp : ByteArray := ByteArray.mk #[]
/-- The section at a place: it, the place behind, a code. -/
def secAt (s : ByteArray) (i : Nat) : Se × Nat × Nat :=
  match tkU s (i + 1) with
  | none => (⟨bt s i, emp⟩, 0, 2)
  | some (n, e) => if e + n ≤ s.size then (if bt s i ≤ 11 ∧ n ≤ 200 then (⟨bt s i, s.extract e (e + n)⟩, e + n, 0) else (⟨bt s i, emp⟩, 0, 3)) else (⟨bt s i, emp⟩, 0, 2)
def secV (r : Se × Nat × Nat) : Value := .tuple #[seV r.1, .int .i64 r.2.1, .int .i64 r.2.2]
theorem secAt_ok {s : ByteArray} {i : Nat} (h : (secAt s i).2.2 = 0) : i + 2 ≤ (secAt s i).2.1 ∧ (secAt s i).2.1 ≤ s.size ∧ (secAt s i).1.body.size ≤ 200 := by
  unfold secAt at *
  cases ht : tkU s (i + 1) with
  | none => rw [ht] at h; cases h
  | some p =>
    obtain ⟨n, e⟩ := p
    rw [ht] at h
    have hb := tkU_le ht
    simp only at h ⊢
    split at h
    · rename_i h1
      rw [if_pos h1]
      split at h
      · rename_i h2
        rw [if_pos h2]
        exact ⟨by simp; omega, h1, by simp [ByteArray.size_extract]; omega⟩
      · cases h
    · cases h
set_option maxRecDepth 100000 in
set_option maxHeartbeats 4000000 in
theorem takeSection_calls (s : ByteArray) (i : Nat) (w : World) (hs : s.size ≤ 1048576) (hi : i < s.size) :
    Calls Tryd.prog 55 #[.string s, .int .i64 i] w fun e w' => e = .returned (secV (secAt s i)) ∧ Below w.heap.size w w' := by
  have HC := Lib.hid (fun W => takeU_calls s (i + 1) W hs (by omega))
  have HU : Hid (secAt s i = match tkU s (i + 1) with | none => (⟨bt s i, emp⟩, 0, 2) | some (n, e) => if e + n ≤ s.size then (if bt s i ≤ 11 ∧ n ≤ 200 then (⟨bt s i, s.extract e (e + n)⟩, e + n, 0) else (⟨bt s i, emp⟩, 0, 3)) else (⟨bt s i, emp⟩, 0, 2)) := Lib.hid rfl
  have hb := fun m e => tkU_le (s := s) (i := i + 1) (m := m) (e := e)
  have hx := bt_lt s i
  have hba := byte_at s i hi
  have i0 : (0 : Int) ≤ (i : Int) := Int.natCast_nonneg _
  have i1 : (i : Int) < (s.size : Int) := by omega
  generalize bt s i = x at *
  generalize tkU s (i + 1) = r at *
  rcases r with _ | ⟨n, e⟩
  · unfold tkUV at HC
    clear hb
    go_enter Tryd.func55, Tryd.ntmps55
    go_wp2_with fail
    rw [show ((i : Int) + 1) = ((i + 1 : Nat) : Int) by omega]
    refine (HC.out _).mono ?_
    rintro e w' ⟨rfl, rfl⟩
    go_wp2
    refine bodyPost_ret (v := secV (⟨x, emp⟩, 0, 2)) (by simp [results, Tryd.results55, go_sem, secV, seV, emp]) rfl ⟨by rw [HU.out], ((Below.refl _ _).alloc (Nat.le_refl _) _).alloc (by simp) _⟩
  · obtain ⟨h1, h2, h3⟩ := hb n e rfl
    unfold tkUV at HC
    by_cases hle : e + n ≤ s.size
    · have hle2 : ¬ (s.size : Int) - (e : Int) < (n : Int) := by omega
      have s1 : (0 : Int) ≤ (e : Int) := by omega
      have s2 : (e : Int) ≤ (e : Int) + (n : Int) := by omega
      have s3 : (e : Int) + (n : Int) ≤ (s.size : Int) := by omega
      have s4 : ((e : Int) + (n : Int)).toNat = e + n := by omega
      go_enter Tryd.func55, Tryd.ntmps55
      go_wp2_with fail
      rw [show ((i : Int) + 1) = ((i + 1 : Nat) : Int) by omega]
      refine (HC.out _).mono ?_
      rintro e w' ⟨rfl, rfl⟩
      by_cases hok : x ≤ 11 ∧ n ≤ 200
      · have t1 : ¬ (11 : Int) < (x : Int) := by omega
        have t2 : ¬ (200 : Int) < (n : Int) := by omega
        go_wp2
        refine bodyPost_ret (v := secV (⟨x, s.extract e (e + n)⟩, e + n, 0)) (by simp [results, Tryd.results55, go_sem, secV, seV, emp]) rfl ⟨by rw [HU.out]; rw [if_pos hle, if_pos hok], ((Below.refl _ _).alloc (Nat.le_refl _) _).alloc (by simp) _⟩
      · by_cases hx11 : x ≤ 11
        · have t1 : ¬ (11 : Int) < (x : Int) := by omega
          have t2 : (200 : Int) < (n : Int) := by omega
          go_wp2
          refine bodyPost_ret (v := secV (⟨x, emp⟩, 0, 3)) (by simp [results, Tryd.results55, go_sem, secV, seV, emp]) rfl ⟨by rw [HU.out]; rw [if_pos hle, if_neg hok], ((Below.refl _ _).alloc (Nat.le_refl _) _).alloc (by simp) _⟩
        · have t1 : (11 : Int) < (x : Int) := by omega
          go_wp2
          refine bodyPost_ret (v := secV (⟨x, emp⟩, 0, 3)) (by simp [results, Tryd.results55, go_sem, secV, seV, emp]) rfl ⟨by rw [HU.out]; rw [if_pos hle, if_neg hok], ((Below.refl _ _).alloc (Nat.le_refl _) _).alloc (by simp) _⟩
    · have hle2 : (s.size : Int) - (e : Int) < (n : Int) := by omega
      go_enter Tryd.func55, Tryd.ntmps55
      go_wp2_with fail
      rw [show ((i : Int) + 1) = ((i + 1 : Nat) : Int) by omega]
      refine (HC.out _).mono ?_
      rintro e w' ⟨rfl, rfl⟩
      go_wp2
      refine bodyPost_ret (v := secV (⟨x, emp⟩, 0, 2)) (by simp [results, Tryd.results55, go_sem, secV, seV, emp]) rfl ⟨by rw [HU.out]; rw [if_neg hle], ((Below.refl _ _).alloc (Nat.le_refl _) _).alloc (by simp) _⟩
/-- Sections one behind the other: a code, the sections. -/
def rdF (s : ByteArray) : Nat → Nat → List Se → Nat × List Se
  | 0, _, out => (0, out)
  | f + 1, i, out => if i < s.size then (if (secAt s i).2.2 = 0 then rdF s f (secAt s i).2.1 (out ++ [(secAt s i).1]) else ((secAt s i).2.2, [])) else (0, out)
theorem rdF_end {s : ByteArray} {f i : Nat} {out : List Se} (h : s.size ≤ i) : rdF s f i out = (0, out) := by
  cases f with
  | zero => rfl
  | succ f => rw [rdF, if_neg (by omega)]
def headB (s : ByteArray) : Bool := decide (8 ≤ s.size) && (s.extract 0 8).toList == (ByteArray.mk #[0, 97, 115, 109, 1, 0, 0, 0]).toList
/-- What a module is read as: the sections, a code, whether it is one. -/
def readB (s : ByteArray) : List Se × Nat × Bool :=
  if 2000 < s.size then ([], 0, false)
  else if headB s then
    (if (rdF s s.size 8 []).1 = 0 then (if goodB (rdF s s.size 8 []).2 then ((rdF s s.size 8 []).2, 0, true) else ([], 4, false)) else ([], (rdF s s.size 8 []).1, false))
  else ([], 1, false)
end Go.Proofs.YteiekdolbnkihaaDoor.L
