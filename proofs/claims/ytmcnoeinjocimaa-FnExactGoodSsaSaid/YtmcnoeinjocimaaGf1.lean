/- The program's GoodFlow. -/
import Derived.Test.YtmcnoeinjocimaaFl1
import Derived.Test.YtmcnoeinjocimaaIx1
import Derived.Test.YtmcnoeinjocimaaIx2
set_option linter.unusedVariables false
set_option linter.unusedSimpArgs false
namespace Go.Proofs.Ytmcnoeinjocimaa.L
open Go.RowKit
theorem tests_calls (k : Int) (w : World) : Calls Try.prog 92 #[.int .i64 k] w fun e w' => e = .returned (.bool (k == 2 || k == 5)) ∧ w = w' := by
  go_enter Try.func92, Try.ntmps92
  go_wp2
  all_goals
    go_ret
    refine ⟨ret_bool ?_, rfl⟩
    simp_all
theorem codeOK1_calls (x : Fl) (many : Int) (ad : Addr) (w : World) (hc : w.cell? ad = some (.int .i64 many)) (h0 : 0 ≤ many) (h1 : many ≤ 1000) :
    Calls Try.prog 130 #[flV x, .pointer (some ad)] w fun e w' => e = .returned (.bool (!flatB x many)) ∧ Below w.heap.size w w' := by
  have hlt := World.block_lt_of_cell? w ad hc
  have HC := Lib.hid (fun W => flatOK_calls x many W h0 h1)
  generalize flatB x many = r at *
  unfold flV at *
  go_enter Try.func130, Try.ntmps130
  go_wp2_with (go_at_call 131; refine (HC.out _).mono ?_; rintro e w1 ⟨rfl, hb⟩; replace hb := below1 hb)
  go_ret
  exact ⟨rfl, hb⟩
theorem entersCodeOK1 : Enters Try.prog 130 := enters Try.func130 (by kernel_rfl) (by kernel_rfl)
def codeB (l : List Fl) (many : Int) : Bool := decide (l.length ≤ 60) && !l.any (fun x => !flatB x many)
theorem codeOK_calls {F : Nat → Prop} (v : Value) (l : List Fl) (many : Int) (w : World) (h : Rp.Rd flat w F v l) (h0 : 0 ≤ many) (h1 : many ≤ 1000) :
    Calls Try.prog 115 #[v, .int .i64 many] w fun e w' => e = .returned (.bool (codeB l many)) ∧ Below w.heap.size w w' := by
  have HX : Hid (codeB l many = (decide (l.length ≤ 60) && !l.any (fun x => !flatB x many))) := Lib.hid rfl
  have HC := hasFlat_calls v l 130 #[.pointer (some ⟨w.heap.size, 0, none⟩)] (fun x => !flatB x many) (w.alloc (.cells #[.int .i64 many] 3)) (h.below (below_new _)) entersCodeOK1
    (fun x _ W hW => codeOK1_calls x many _ W (by rw [(hW.cell (p := ⟨w.heap.size, 0, none⟩) (by simp))]; exact World.cell?_alloc_new _ _ _ _) h0 h1)
  generalize l.any (fun x => !flatB x many) = r at *
  have HC := Lib.hid HC
  obtain ⟨A, c, rfl, hlc, hcm, _⟩ := rd_flat h
  by_cases hl : l.length ≤ 60
  · have ht : decide ((l.length : Int) ≤ 60) = true := decide_eq_true (by omega)
    go_enter Try.func115, Try.ntmps115
    go_wp2_with (go_at_call 129; refine HC.out.mono ?_; rintro e w1 ⟨rfl, hb⟩; replace hb := below1 hb)
    go_ret
    refine ⟨ret_bool ?_, hb⟩
    rw [HX.out]
    simp [hl]
  · have ht : decide ((l.length : Int) ≤ 60) = false := decide_eq_false (by omega)
    go_enter Try.func115, Try.ntmps115
    go_wp2
    go_ret
    refine ⟨ret_bool ?_, below_new _⟩
    rw [HX.out]
    simp [hl]
theorem goOK1_calls (k blocks : Int) (ad : Addr) (w : World) (hc : w.cell? ad = some (.int .i64 blocks)) (h0 : 0 ≤ blocks) (h1 : blocks ≤ 1048576) :
    Calls Try.prog 133 #[.int .i64 k, .pointer (some ad)] w fun e w' => e = .returned (.bool (!inB k 0 (blocks - 1))) ∧ Below w.heap.size w w' := by
  go_enter Try.func133, Try.ntmps133
  go_wp2_with (go_at_call 77; refine (within_calls _ _ _ _).mono ?_; rintro e w1 ⟨rfl, rfl⟩)
  go_ret
  exact ⟨rfl, Below.refl _ _⟩
theorem entersGoOK1 : Enters Try.prog 133 := enters Try.func133 (by kernel_rfl) (by kernel_rfl)
def testB (k : Int) : Bool := k == 2 || k == 5
def goB (go test : Int) (next : List Int) (many blocks : Int) : Bool :=
  !(testB go && !inB test 0 (many - 1) || !testB go && test != 0) && !next.any (fun k => !inB k 0 (blocks - 1)) &&
  (if go == 1 then (next.length : Int) == 1 else if go == 2 then (next.length : Int) == 2 else if go == 5 then inB next.length 2 6 else (go == 3 || go == 4) && (next.length : Int) == 0)
set_option maxHeartbeats 2000000 in
theorem goOK_calls {F : Nat → Prop} (go test : Int) (v : Value) (next : List Int) (many blocks : Int) (w : World) (h : Rp.Rd Rp.int w F v next) (h0 : 0 ≤ many) (h1 : many ≤ 1000) (k0 : 0 ≤ blocks) (k1 : blocks ≤ 1048576) :
    Calls Try.prog 116 #[.int .i64 go, .int .i64 test, v, .int .i64 many, .int .i64 blocks] w fun e w' => e = .returned (.bool (goB go test next many blocks)) ∧ Below w.heap.size w w' := by
  have HX : Hid (goB go test next many blocks = (!(testB go && !inB test 0 (many - 1) || !testB go && test != 0) && !next.any (fun k => !inB k 0 (blocks - 1)) &&
  (if go == 1 then (next.length : Int) == 1 else if go == 2 then (next.length : Int) == 2 else if go == 5 then inB next.length 2 6 else (go == 3 || go == 4) && (next.length : Int) == 0))) := Lib.hid rfl
  have HC := hasInt_calls v next 133 #[.pointer (some ⟨w.heap.size, 0, none⟩)] (fun k => !inB k 0 (blocks - 1)) (w.alloc (.cells #[.int .i64 blocks] 3)) (h.below (below_new _)) entersGoOK1
    (fun x _ W hW => goOK1_calls x blocks _ W (by rw [(hW.cell (p := ⟨w.heap.size, 0, none⟩) (by simp))]; exact World.cell?_alloc_new _ _ _ _) k0 k1)
  generalize next.any (fun k => !inB k 0 (blocks - 1)) = r at *
  have HC := Lib.hid HC
  have HT := Lib.hid (fun W => tests_calls go W)
  have HTB : Hid ((go == 2 || go == 5) = testB go) := Lib.hid rfl
  obtain ⟨A, c, rfl, hlc, hcm, _⟩ := rd_int h
  clear h
  go_enter Try.func116, Try.ntmps116
  go_wp2_with (first | (go_at_call 132; refine HC.out.mono ?_; rintro e w1 ⟨rfl, hb⟩; replace hb := below1 hb) | (go_at_call 77; refine (within_calls _ _ _ _).mono ?_; rintro e w2 ⟨rfl, rfl⟩) | (go_at_call 92; refine (HT.out _).mono ?_; rintro e w2 ⟨rfl, rfl⟩; rw [HTB.out]))
  all_goals
    go_ret
    refine ⟨ret_bool ?_, (by first | exact hb | exact below_new _)⟩
    rw [HX.out]
    clear HX HC HT HTB
    simp_all
end Go.Proofs.Ytmcnoeinjocimaa.L
