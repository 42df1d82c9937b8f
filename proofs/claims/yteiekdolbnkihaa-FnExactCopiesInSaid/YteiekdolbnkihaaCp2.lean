/- Both GoodFlow are one; the law of CopiesIn. -/
import Derived.Test.YteiekdolbnkihaaCp1
import Derived.Test.YteiekdolbnkihaaCv3
import Derived.Test.YteiekdolbnkihaaSz2
import Derived.Test.YteiekdolbnkihaaEq3
set_option linter.unusedVariables false
set_option linter.unusedSimpArgs false
namespace Go.Proofs.Yteiekdolbnkihaa.L
open Go.RowKit
theorem flat_same (x : Fl) : flatB x 12 = sFlatB x := by
  have key : x.op = 1 ∨ x.op = 2 ∨ x.op = 3 ∨ x.op = 4 ∨ x.op = 5 ∨ x.op = 6 ∨ ((x.op == 1) = false ∧ (x.op == 2) = false ∧ (x.op == 3) = false ∧ (x.op == 4) = false ∧ (x.op == 5) = false ∧ (x.op == 6) = false) := by
    simp; omega
  rw [Bool.eq_iff_iff]
  rcases key with h | h | h | h | h | h | ⟨h1, h2, h3, h4, h5, h6⟩ <;> simp [sFlatB, flatB, nameB, inB, fK, fD, fA, fB, fN, fT, *] <;> omega
theorem go_same (go test : Int) (next : List Int) (c n : Int) : (decide (c ≤ 60) && goB go test next 12 n) = (next.all (fun k => decide (0 ≤ k) && decide (k < n)) && sEnd go test next.length c) := by
  have ha : (!next.any (fun k => !inB k 0 (n - 1))) = next.all (fun k => decide (0 ≤ k) && decide (k < n)) := by
    rw [Bool.eq_iff_iff]
    simp [inB]
    constructor <;> intro h x hx <;> have := h x hx <;> omega
  unfold goB
  rw [ha]
  generalize next.all (fun k => decide (0 ≤ k) && decide (k < n)) = r
  have key : go = 1 ∨ go = 2 ∨ go = 3 ∨ go = 4 ∨ go = 5 ∨ ((go == 1) = false ∧ (go == 2) = false ∧ (go == 3) = false ∧ (go == 4) = false ∧ (go == 5) = false ∧ inB go 3 4 = false) := by
    simp [inB]; omega
  rw [Bool.eq_iff_iff]
  rcases key with rfl | rfl | rfl | rfl | rfl | ⟨h1, h2, h3, h4, h5, h6⟩
  · cases r <;> simp [sEnd, testB, inB] <;> grind
  · cases r <;> simp [sEnd, testB, inB] <;> grind
  · cases r <;> simp [sEnd, testB, inB] <;> grind
  · cases r <;> simp [sEnd, testB, inB] <;> grind
  · cases r <;> simp [sEnd, testB, inB] <;> grind
  · rw [sEnd, testB, h1, h2, h3, h4, h5, h6]; simp
theorem blk_same (x : Bk) (n : Int) : blkB x n = sBlk x n := by
  unfold blkB sBlk codeB
  have h : (!x.code.any (fun y => !flatB y 12)) = x.code.all sFlatB := by
    rw [Bool.eq_iff_iff]; simp [flat_same]
  rw [h, Bool.and_comm (decide (x.code.length ≤ 60)), Bool.and_assoc, Bool.and_assoc]
  have h2 := go_same x.go x.test x.next x.code.length n
  rw [← h2]
  congr 2
  rw [Bool.eq_iff_iff]; simp; omega
theorem flow_same (l : List Bk) : flowB l = flowS l := by
  unfold flowB flowS
  rw [Bool.and_comm]
  congr 1
  rw [Bool.eq_iff_iff]; simp [blk_same]
set_option maxHeartbeats 2000000 in
theorem copiesLaw_calls {F : Nat → Prop} (v : Value) (l : List Bk) (w : World) (h : Rp.Rd block w F v l) :
    Calls Try.prog 5 #[v] w fun e w' => e = .returned (.bool true) ∧ Below w.heap.size w w' := by
  have b1 := szS_bd (n := l.length) (left := 1048576) (by omega)
  have HC := szBlockS_calls v l 1048576 w h (by omega) (by omega)
  obtain ⟨r, hr⟩ : ∃ r, r = if szS l.length 1048576 < 0 then -1 else szBks l (szS l.length 1048576) := ⟨_, rfl⟩
  rw [← hr] at HC
  have hlim : 0 ≤ r → l.length ≤ 1048576 ∧ ∀ x ∈ l, BkLim x := by
    intro h0
    rw [hr] at h0
    split at h0
    · omega
    · exact ⟨by have := b1.2.2 (by omega); omega, fun x hx => szBks_bd l _ b1.1 h0 x hx⟩
  clear hr b1
  have HC := Lib.hid HC
  by_cases hneg : r < 0
  · clear hlim
    go_enter Try.func5, Try.ntmps5
    go_wp2_with (go_at_call 17; refine HC.out.mono ?_; rintro e w1 ⟨rfl, hb⟩)
    go_ret
    exact ⟨rfl, hb⟩
  · obtain ⟨hl, hx⟩ := hlim (by omega)
    clear hlim
    have HS := Lib.hid (flow_same l)
    go_enter Try.func5, Try.ntmps5
    go_wp2_with (go_at_call 17; refine HC.out.mono ?_; rintro e w1 ⟨rfl, hb⟩)
    refine (toBlockS_calls v l _ (h.below hb) hl hx).mono ?_
    rintro e w2 ⟨v2, rfl, HO2, hb2⟩
    replace hb := below_then hb hb2
    go_wp2_with fail
    have HR2 := blockA_le.rd HO2.rd
    have HCS := Lib.hid (copiesInS_calls v2 l w2 HR2 hl)
    have HCI := Lib.hid (fun (u : Value) W (hu : Rp.Rd block W (fun k => True) u l) => copiesIn_calls u l W hu hl)
    rw [← HS.out] at HCS
    generalize flowB l = z at *
    generalize (if z = true then nCp l else 0) = n at *
    clear HO2 HR2
    refine HCS.out.mono ?_
    rintro e w3 ⟨rfl, hb3⟩
    replace hb := below_then hb hb3
    go_wp2_with fail
    refine (toBlockS_calls v l _ (h.below hb) hl hx).mono ?_
    rintro e w4 ⟨v4, rfl, HO4, hb4⟩
    replace hb := below_then hb hb4
    have HR4 := (blockA_le.rd HO4.rd).mono (fun _ _ => trivial) (G := fun _ => True)
    clear HO4
    go_wp2_with fail
    refine (HCI.out v4 _ HR4).mono ?_
    rintro e w5 ⟨rfl, hb5⟩
    replace hb := below_then hb hb5
    replace HR4 := HR4.below hb5
    go_wp2_with fail
    refine (toBlockS_calls v l _ (h.below hb) hl hx).mono ?_
    rintro e w6 ⟨v6, rfl, HO6, hb6⟩
    replace hb := below_then hb hb6
    replace HR4 := HR4.below hb6
    have HR6 := (blockA_le.rd HO6.rd).mono (fun _ _ => trivial) (G := fun _ => True)
    clear HO6
    go_wp2_with fail
    refine (eqBlockS_calls v4 v6 l l _ HR4 HR6).mono ?_
    rintro e w7 ⟨rfl, hb7⟩
    replace hb := below_then hb hb7
    go_wp2
    go_ret
    exact ⟨rfl, hb⟩
end Go.Proofs.Yteiekdolbnkihaa.L
