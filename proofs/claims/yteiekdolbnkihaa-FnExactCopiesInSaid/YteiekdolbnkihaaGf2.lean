/- The program's GoodFlow: all blocks. -/
import Derived.Test.YteiekdolbnkihaaGf1
import Derived.Test.YteiekdolbnkihaaIx3
set_option linter.unusedVariables false
set_option linter.unusedSimpArgs false
namespace Go.Proofs.Yteiekdolbnkihaa.L
open Go.RowKit
def blkB (x : Bk) (blocks : Int) : Bool := codeB x.code 12 && goB x.go x.test x.next 12 blocks
theorem goodFlow1_calls {F : Nat → Prop} (x : Bk) (vc vn : Value) (A : Option Addr) (n c : Nat) (ad : Addr) (w : World) (hc : w.cell? ad = some (.slice A n c)) (hn : n ≤ 1048576) (h1 : Rp.Rd flat w F vc x.code) (h2 : Rp.Rd Rp.int w F vn x.next) :
    Calls Try.prog 62 #[bkV vc x vn, .pointer (some ad)] w fun e w' => e = .returned (.bool (!blkB x n)) ∧ Below w.heap.size w w' := by
  have hlt := World.block_lt_of_cell? w ad hc
  have HX : Hid (blkB x n = (codeB x.code 12 && goB x.go x.test x.next 12 n)) := Lib.hid rfl
  have H1 := fun W (hW : Below w.heap.size w W) => codeOK_calls vc x.code 12 W (h1.below hW) (by omega) (by omega)
  have H2 := fun W (hW : Below w.heap.size w W) => goOK_calls x.go x.test vn x.next 12 n W (h2.below hW) (by omega) (by omega) (by omega) (by omega)
  generalize codeB x.code 12 = r1 at *
  generalize goB x.go x.test x.next 12 n = r2 at *
  have H1 := Lib.hid H1
  have H2 := Lib.hid H2
  have ⟨A0, k0, hvc, _⟩ := h1
  have ⟨A3, k3, hvn, _⟩ := h2
  subst hvc hvn
  clear h1 h2
  unfold bkV
  go_enter Try.func62, Try.ntmps62
  go_wp2_with fail
  refine (H1.out _ (below_new _)).mono ?_
  rintro e w1 ⟨rfl, hb⟩
  obtain ⟨b1, hz⟩ := boxed1 hb
  obtain ⟨c1, f1⟩ := cell_of_block b1
  replace hb := below1 hb
  have hc1 := cell_below hb hc
  go_wp2_with (go_at_call 64; refine (H2.out _ hb).mono ?_; rintro e w2 ⟨rfl, hb2⟩; replace hb := below_then hb hb2)
  all_goals
    go_ret
    refine ⟨ret_bool ?_, hb⟩
    rw [HX.out]
    simp_all
theorem entersGoodFlow1 : Enters Try.prog 62 := enters Try.func62 (by kernel_rfl) (by kernel_rfl)
def flowB (l : List Bk) : Bool := inB l.length 1 64 && !l.any (fun x => !blkB x l.length)
theorem goodFlow_calls {F : Nat → Prop} (v : Value) (l : List Bk) (w : World) (h : Rp.Rd block w F v l) (hl : l.length ≤ 1048576) :
    Calls Try.prog 39 #[v] w fun e w' => e = .returned (.bool (flowB l)) ∧ Below w.heap.size w w' := by
  have HX : Hid (flowB l = (inB l.length 1 64 && !l.any (fun x => !blkB x l.length))) := Lib.hid rfl
  have ⟨A, c, hv, _⟩ := h
  subst hv
  have HC := fun (hw : True) => hasBlock_calls _ l 62 #[.pointer (some ⟨w.heap.size, 0, none⟩)] (fun x => !blkB x l.length) (w.alloc (.cells #[.slice A l.length c] 42)) (h.below (below_new _)) entersGoodFlow1
    (fun x _ vc vn W hW h1 h2 => goodFlow1_calls x vc vn A l.length c _ W (by rw [(hW.cell (p := ⟨w.heap.size, 0, none⟩) (by simp))]; exact World.cell?_alloc_new _ _ _ _) hl h1 h2)
  generalize l.any (fun x => !blkB x l.length) = r at *
  have HC := Lib.hid (HC trivial)
  clear h
  go_enter Try.func39, Try.ntmps39
  go_wp2_with (first | (go_at_call 44; refine (within_calls _ _ _ _).mono ?_; rintro e w2 ⟨rfl, rfl⟩) | (go_at_call 61; refine HC.out.mono ?_; rintro e w1 ⟨rfl, hb⟩; replace hb := below1 hb))
  all_goals
    go_ret
    refine ⟨ret_bool ?_, (by first | exact hb | exact below_new _)⟩
    rw [HX.out]
    simp_all
end Go.Proofs.Yteiekdolbnkihaa.L
