/- The laws' own copy of a part. -/
import Derived.Test.YtmcnoeinjocimaaCv4
import Derived.Test.YtmcnoeinjocimaaTy3
import Derived.Test.YtmcnoeinjocimaaMk1
set_option linter.unusedVariables false
set_option linter.unusedSimpArgs false
namespace Go.Proofs.Ytmcnoeinjocimaa.L
open Go.RowKit
theorem infoPart : (Try.prog.info? 54).map (fun i => (i.zero, i.size, i.bytes)) = some (some (.agg #[.slice none 0 0, .slice none 0 0, .int .i64 0, .int .i64 0, .slice none 0 0, .slice none 0 0]), 6, 112) := by kernel_rfl
def PtLim (x : Pt) : Prop := x.params.length ≤ 1048576 ∧ x.code.length ≤ 1048576 ∧ x.next.length ≤ 1048576 ∧ x.args.length ≤ 1048576 ∧ (∀ a ∈ x.args, a.length ≤ 1048576)
set_option maxHeartbeats 4000000 in
theorem toPart_calls {F : Nat → Prop} (x : Pt) (vparams vcode vnext vargs : Value) (w : World) (hparams : Rp.Rd Rp.int w F vparams x.params) (hcode : Rp.Rd flat w F vcode x.code) (hnext : Rp.Rd Rp.int w F vnext x.next) (hargs : Rp.Rd (Rp.sl Rp.int) w F vargs x.args) (hx : PtLim x) :
    Calls Try.prog 76 #[ptV x vparams vcode vnext vargs] w fun e w' => ∃ vparams' vcode' vnext' vargs', e = .returned (ptV x vparams' vcode' vnext' vargs') ∧ partA.K w' (fun k => w.heap.size ≤ k) x [vparams', vcode', .int .i64 x.go, .int .i64 x.test, vnext', vargs'] ∧ Below w.heap.size w w' := by
  obtain ⟨l0, l1, l2, l3, l4⟩ := hx
  unfold ptV
  go_enter Try.func76, Try.ntmps76
  go_wp2_with fail
  have M : Mk w (.cells #[vparams, vcode, .int .i64 x.go, .int .i64 x.test, vnext, vargs] 97 (0, 0)) (.cells #[.slice none 0 0, .slice none 0 0, .int .i64 0, .int .i64 0, .slice none 0 0, .slice none 0 0] 54 (0, 0)) 54 _ #[.slice none 0 0, .slice none 0 0, .int .i64 0, .int .i64 0, .slice none 0 0, .slice none 0 0] := Mk.start (c3 := #[.slice none 0 0, .slice none 0 0, .int .i64 0, .int .i64 0, .slice none 0 0, .slice none 0 0])
  refine (toIntS_calls vparams x.params _ (hparams.below M.below) l0).mono ?_
  rintro e w1 ⟨Vparams, rfl, Oparams, hb⟩
  have n0 := M.size
  replace M := M.call hb
  replace Oparams := Oparams.bound
  obtain ⟨Aparams, kparams, rfl, _, _⟩ := Oparams.form
  have z0 := hb.size
  simp only [World.size_alloc, World.size_setCell] at z0 n0 Oparams
  clear hb
  obtain ⟨c1, f1⟩ := cell_of_block M.b1; obtain ⟨c2, f2⟩ := cell_of_block M.b2; obtain ⟨c3, f3⟩ := cell_of_block M.b3
  have s1 := blk_lt M.b1; have s2 := blk_lt M.b2; have s3 := blk_lt M.b3
  go_wp2_with fail
  replace M := M.set 0 (.slice Aparams x.params.length kparams)
  replace Oparams := ow_set3 (w := w) Oparams (by intro k hk; omega) 0 (.slice Aparams x.params.length kparams)
  refine (toFlatS_calls vcode x.code _ (hcode.below M.below) l1).mono ?_
  rintro e w2 ⟨Vcode, rfl, Ocode, hb⟩
  have n1 := M.size
  replace Oparams := Oparams.below hb
  replace M := M.call hb
  replace Ocode := Ocode.bound
  obtain ⟨Acode, kcode, rfl, _, _⟩ := Ocode.form
  have z1 := hb.size
  simp only [World.size_alloc, World.size_setCell] at z1 n1 Ocode
  clear hb c1 f1 c2 f2 c3 f3
  obtain ⟨c1, f1⟩ := cell_of_block M.b1; obtain ⟨c2, f2⟩ := cell_of_block M.b2; obtain ⟨c3, f3⟩ := cell_of_block M.b3
  replace s1 := blk_lt M.b1; replace s2 := blk_lt M.b2; replace s3 := blk_lt M.b3
  go_wp2_with fail
  replace M := M.set 1 (.slice Acode x.code.length kcode)
  replace Oparams := ow_set3 (w := w) Oparams (by intro k hk; omega) 1 (.slice Acode x.code.length kcode)
  replace Ocode := ow_set3 (w := w) Ocode (by intro k hk; omega) 1 (.slice Acode x.code.length kcode)
  replace M := M.set 2 (.int .i64 x.go)
  replace Oparams := ow_set3 (w := w) Oparams (by intro k hk; omega) 2 (.int .i64 x.go)
  replace Ocode := ow_set3 (w := w) Ocode (by intro k hk; omega) 2 (.int .i64 x.go)
  replace M := M.set 3 (.int .i64 x.test)
  replace Oparams := ow_set3 (w := w) Oparams (by intro k hk; omega) 3 (.int .i64 x.test)
  replace Ocode := ow_set3 (w := w) Ocode (by intro k hk; omega) 3 (.int .i64 x.test)
  refine (toIntS_calls vnext x.next _ (hnext.below M.below) l2).mono ?_
  rintro e w3 ⟨Vnext, rfl, Onext, hb⟩
  have n2 := M.size
  replace Oparams := Oparams.below hb
  replace Ocode := Ocode.below hb
  replace M := M.call hb
  replace Onext := Onext.bound
  obtain ⟨Anext, knext, rfl, _, _⟩ := Onext.form
  have z2 := hb.size
  simp only [World.size_alloc, World.size_setCell] at z2 n2 Onext
  clear hb c1 f1 c2 f2 c3 f3
  obtain ⟨c1, f1⟩ := cell_of_block M.b1; obtain ⟨c2, f2⟩ := cell_of_block M.b2; obtain ⟨c3, f3⟩ := cell_of_block M.b3
  replace s1 := blk_lt M.b1; replace s2 := blk_lt M.b2; replace s3 := blk_lt M.b3
  go_wp2_with fail
  replace M := M.set 4 (.slice Anext x.next.length knext)
  replace Oparams := ow_set3 (w := w) Oparams (by intro k hk; omega) 4 (.slice Anext x.next.length knext)
  replace Ocode := ow_set3 (w := w) Ocode (by intro k hk; omega) 4 (.slice Anext x.next.length knext)
  replace Onext := ow_set3 (w := w) Onext (by intro k hk; omega) 4 (.slice Anext x.next.length knext)
  refine (toIntSS_calls vargs x.args _ (hargs.below M.below) l3 l4).mono ?_
  rintro e w4 ⟨Vargs, rfl, Oargs, hb⟩
  have n3 := M.size
  replace Oparams := Oparams.below hb
  replace Ocode := Ocode.below hb
  replace Onext := Onext.below hb
  replace M := M.call hb
  replace Oargs := Oargs.bound
  obtain ⟨Aargs, kargs, rfl, _, _⟩ := Oargs.form
  have z3 := hb.size
  simp only [World.size_alloc, World.size_setCell] at z3 n3 Oargs
  clear hb c1 f1 c2 f2 c3 f3
  obtain ⟨c1, f1⟩ := cell_of_block M.b1; obtain ⟨c2, f2⟩ := cell_of_block M.b2; obtain ⟨c3, f3⟩ := cell_of_block M.b3
  replace s1 := blk_lt M.b1; replace s2 := blk_lt M.b2; replace s3 := blk_lt M.b3
  go_wp2_with fail
  replace M := M.set 5 (.slice Aargs x.args.length kargs)
  replace Oparams := ow_set3 (w := w) Oparams (by intro k hk; omega) 5 (.slice Aargs x.args.length kargs)
  replace Ocode := ow_set3 (w := w) Ocode (by intro k hk; omega) 5 (.slice Aargs x.args.length kargs)
  replace Onext := ow_set3 (w := w) Onext (by intro k hk; omega) 5 (.slice Aargs x.args.length kargs)
  replace Oargs := ow_set3 (w := w) Oargs (by intro k hk; omega) 5 (.slice Aargs x.args.length kargs)
  replace Oparams := ow_row3 (w := w) Oparams (by intro k hk; omega) [.slice Aparams x.params.length kparams, .slice Acode x.code.length kcode, .int .i64 x.go, .int .i64 x.test, .slice Anext x.next.length knext, .slice Aargs x.args.length kargs]
  replace Ocode := ow_row3 (w := w) Ocode (by intro k hk; omega) [.slice Aparams x.params.length kparams, .slice Acode x.code.length kcode, .int .i64 x.go, .int .i64 x.test, .slice Anext x.next.length knext, .slice Aargs x.args.length kargs]
  replace Onext := ow_row3 (w := w) Onext (by intro k hk; omega) [.slice Aparams x.params.length kparams, .slice Acode x.code.length kcode, .int .i64 x.go, .int .i64 x.test, .slice Anext x.next.length knext, .slice Aargs x.args.length kargs]
  replace Oargs := ow_row3 (w := w) Oargs (by intro k hk; omega) [.slice Aparams x.params.length kparams, .slice Acode x.code.length kcode, .int .i64 x.go, .int .i64 x.test, .slice Anext x.next.length knext, .slice Aargs x.args.length kargs]
  have cF := (cell_of_block (blk_put (blk_put (blk_put (blk_put (blk_put (blk_put M.b2 0 (.slice Aparams x.params.length kparams)) 1 (.slice Acode x.code.length kcode)) 2 (.int .i64 x.go)) 3 (.int .i64 x.test)) 4 (.slice Anext x.next.length knext)) 5 (.slice Aargs x.args.length kargs))).1
  have HB := putRow_below M.below (g := w.heap.size + 1) (by omega) [.slice Aparams x.params.length kparams, .slice Acode x.code.length kcode, .int .i64 x.go, .int .i64 x.test, .slice Anext x.next.length knext, .slice Aargs x.args.length kargs] 0
  refine bodyPost_ret (v := .agg #[.slice Aparams x.params.length kparams, .slice Acode x.code.length kcode, .int .i64 x.go, .int .i64 x.test, .slice Anext x.next.length knext, .slice Aargs x.args.length kargs]) (by simp [results, Try.results76, go_sem, cF]) rfl ⟨_, _, _, _, rfl, ?_, HB⟩
  refine partA_mk ?_ ?_ ?_ ?_ ?_ ?_ ?_ ?_ ?_ ?_ Oparams Ocode Onext Oargs
  all_goals
    intro k hk
    try intro hk2
    omega
end Go.Proofs.Ytmcnoeinjocimaa.L
