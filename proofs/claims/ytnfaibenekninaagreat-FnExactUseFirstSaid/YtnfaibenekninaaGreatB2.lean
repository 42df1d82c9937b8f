/- Joined texts, each of which was built by itself: Cv5 Ty4 JCv JSz JEq. -/
import Derived.Test.YtnfaibenekninaaGreatB1
import Derived.Test.YtnfaibenekninaaGreatProg
import Derived.Deep.RegionHeld3
set_option linter.unusedVariables false
set_option linter.unusedSimpArgs false
namespace Go.Proofs.YtnfaibenekninaaGreat.L
open Go.RowKit
theorem infoPart : (Tryz.prog.info? 67).map (fun i => (i.zero, i.size, i.bytes)) = some (some (.agg #[.slice none 0 0, .slice none 0 0, .int .i64 0, .int .i64 0, .slice none 0 0, .slice none 0 0]), 6, 112) := by kernel_rfl
def PtLim (x : Pt) : Prop := x.params.length ≤ 1048576 ∧ x.code.length ≤ 1048576 ∧ x.next.length ≤ 1048576 ∧ x.args.length ≤ 1048576 ∧ (∀ a ∈ x.args, a.length ≤ 1048576)
set_option maxHeartbeats 4000000 in
theorem toPart_calls {F : Nat → Prop} (x : Pt) (vparams vcode vnext vargs : Value) (w : World) (hparams : Rp.Rd Rp.int w F vparams x.params) (hcode : Rp.Rd flat w F vcode x.code) (hnext : Rp.Rd Rp.int w F vnext x.next) (hargs : Rp.Rd (Rp.sl Rp.int) w F vargs x.args) (hx : PtLim x) :
    Calls Tryz.prog 57 #[ptV x vparams vcode vnext vargs] w fun e w' => ∃ vparams' vcode' vnext' vargs', e = .returned (ptV x vparams' vcode' vnext' vargs') ∧ partA.K w' (fun k => w.heap.size ≤ k) x [vparams', vcode', .int .i64 x.go, .int .i64 x.test, vnext', vargs'] ∧ Below w.heap.size w w' := by
  obtain ⟨l0, l1, l2, l3, l4⟩ := hx
  unfold ptV
  go_enter Tryz.func57, Tryz.ntmps57
  go_wp2_with fail
  have M : Mk w (.cells #[vparams, vcode, .int .i64 x.go, .int .i64 x.test, vnext, vargs] 86 (0, 0)) (.cells #[.slice none 0 0, .slice none 0 0, .int .i64 0, .int .i64 0, .slice none 0 0, .slice none 0 0] 67 (0, 0)) 67 _ #[.slice none 0 0, .slice none 0 0, .int .i64 0, .int .i64 0, .slice none 0 0, .slice none 0 0] := Mk.start (c3 := #[.slice none 0 0, .slice none 0 0, .int .i64 0, .int .i64 0, .slice none 0 0, .slice none 0 0])
  refine (toIntS_calls vparams x.params _ (hparams.below M.below) l0).mono ?_
  rintro e w1 ⟨Vparams, rfl, Oparams, hb⟩
  have n0 := M.size
  replace M := M.call hb
  replace Oparams := Oparams.bound
  obtain ⟨Aparams, kparams, rfl, _, _⟩ := Oparams.form
  have z0 := hb.size
  simp only [World.size_alloc, World.size_setCell] at z0 n0 Oparams
  clear hb
  obtain ⟨c1, f1⟩ := cell_of_block M.b1; obtain ⟨c2, f2⟩ := cell_of_block M.b2; obtain ⟨c3, f3⟩ := cell_of_block M.b3
  have s1 := blk_lt M.b1; have s2 := blk_lt M.b2; have s3 := blk_lt M.b3
  go_wp2_with fail
  replace M := M.set 0 (.slice Aparams x.params.length kparams)
  replace Oparams := ow_set3 (w := w) Oparams (by intro k hk; omega) 0 (.slice Aparams x.params.length kparams)
  refine (toFlatS_calls vcode x.code _ (hcode.below M.below) l1).mono ?_
  rintro e w2 ⟨Vcode, rfl, Ocode, hb⟩
  have n1 := M.size
  replace Oparams := Oparams.below hb
  replace M := M.call hb
  replace Ocode := Ocode.bound
  obtain ⟨Acode, kcode, rfl, _, _⟩ := Ocode.form
  have z1 := hb.size
  simp only [World.size_alloc, World.size_setCell] at z1 n1 Ocode
  clear hb c1 f1 c2 f2 c3 f3
  obtain ⟨c1, f1⟩ := cell_of_block M.b1; obtain ⟨c2, f2⟩ := cell_of_block M.b2; obtain ⟨c3, f3⟩ := cell_of_block M.b3
  replace s1 := blk_lt M.b1; replace s2 := blk_lt M.b2; replace s3 := blk_lt M.b3
  go_wp2_with fail
  replace M := M.set 1 (.slice Acode x.code.length kcode)
  replace Oparams := ow_set3 (w := w) Oparams (by intro k hk; omega) 1 (.slice Acode x.code.length kcode)
  replace Ocode := ow_set3 (w := w) Ocode (by intro k hk; omega) 1 (.slice Acode x.code.length kcode)
  replace M := M.set 2 (.int .i64 x.go)
  replace Oparams := ow_set3 (w := w) Oparams (by intro k hk; omega) 2 (.int .i64 x.go)
  replace Ocode := ow_set3 (w := w) Ocode (by intro k hk; omega) 2 (.int .i64 x.go)
  replace M := M.set 3 (.int .i64 x.test)
  replace Oparams := ow_set3 (w := w) Oparams (by intro k hk; omega) 3 (.int .i64 x.test)
  replace Ocode := ow_set3 (w := w) Ocode (by intro k hk; omega) 3 (.int .i64 x.test)
  refine (toIntS_calls vnext x.next _ (hnext.below M.below) l2).mono ?_
  rintro e w3 ⟨Vnext, rfl, Onext, hb⟩
  have n2 := M.size
  replace Oparams := Oparams.below hb
  replace Ocode := Ocode.below hb
  replace M := M.call hb
  replace Onext := Onext.bound
  obtain ⟨Anext, knext, rfl, _, _⟩ := Onext.form
  have z2 := hb.size
  simp only [World.size_alloc, World.size_setCell] at z2 n2 Onext
  clear hb c1 f1 c2 f2 c3 f3
  obtain ⟨c1, f1⟩ := cell_of_block M.b1; obtain ⟨c2, f2⟩ := cell_of_block M.b2; obtain ⟨c3, f3⟩ := cell_of_block M.b3
  replace s1 := blk_lt M.b1; replace s2 := blk_lt M.b2; replace s3 := blk_lt M.b3
  go_wp2_with fail
  replace M := M.set 4 (.slice Anext x.next.length knext)
  replace Oparams := ow_set3 (w := w) Oparams (by intro k hk; omega) 4 (.slice Anext x.next.length knext)
  replace Ocode := ow_set3 (w := w) Ocode (by intro k hk; omega) 4 (.slice Anext x.next.length knext)
  replace Onext := ow_set3 (w := w) Onext (by intro k hk; omega) 4 (.slice Anext x.next.length knext)
  refine (toIntSS_calls vargs x.args _ (hargs.below M.below) l3 l4).mono ?_
  rintro e w4 ⟨Vargs, rfl, Oargs, hb⟩
  have n3 := M.size
  replace Oparams := Oparams.below hb
  replace Ocode := Ocode.below hb
  replace Onext := Onext.below hb
  replace M := M.call hb
  replace Oargs := Oargs.bound
  obtain ⟨Aargs, kargs, rfl, _, _⟩ := Oargs.form
  have z3 := hb.size
  simp only [World.size_alloc, World.size_setCell] at z3 n3 Oargs
  clear hb c1 f1 c2 f2 c3 f3
  obtain ⟨c1, f1⟩ := cell_of_block M.b1; obtain ⟨c2, f2⟩ := cell_of_block M.b2; obtain ⟨c3, f3⟩ := cell_of_block M.b3
  replace s1 := blk_lt M.b1; replace s2 := blk_lt M.b2; replace s3 := blk_lt M.b3
  go_wp2_with fail
  replace M := M.set 5 (.slice Aargs x.args.length kargs)
  replace Oparams := ow_set3 (w := w) Oparams (by intro k hk; omega) 5 (.slice Aargs x.args.length kargs)
  replace Ocode := ow_set3 (w := w) Ocode (by intro k hk; omega) 5 (.slice Aargs x.args.length kargs)
  replace Onext := ow_set3 (w := w) Onext (by intro k hk; omega) 5 (.slice Aargs x.args.length kargs)
  replace Oargs := ow_set3 (w := w) Oargs (by intro k hk; omega) 5 (.slice Aargs x.args.length kargs)
  replace Oparams := ow_row3 (w := w) Oparams (by intro k hk; omega) [.slice Aparams x.params.length kparams, .slice Acode x.code.length kcode, .int .i64 x.go, .int .i64 x.test, .slice Anext x.next.length knext, .slice Aargs x.args.length kargs]
  replace Ocode := ow_row3 (w := w) Ocode (by intro k hk; omega) [.slice Aparams x.params.length kparams, .slice Acode x.code.length kcode, .int .i64 x.go, .int .i64 x.test, .slice Anext x.next.length knext, .slice Aargs x.args.length kargs]
  replace Onext := ow_row3 (w := w) Onext (by intro k hk; omega) [.slice Aparams x.params.length kparams, .slice Acode x.code.length kcode, .int .i64 x.go, .int .i64 x.test, .slice Anext x.next.length knext, .slice Aargs x.args.length kargs]
  replace Oargs := ow_row3 (w := w) Oargs (by intro k hk; omega) [.slice Aparams x.params.length kparams, .slice Acode x.code.length kcode, .int .i64 x.go, .int .i64 x.test, .slice Anext x.next.length knext, .slice Aargs x.args.length kargs]
  have cF := (cell_of_block (blk_put (blk_put (blk_put (blk_put (blk_put (blk_put M.b2 0 (.slice Aparams x.params.length kparams)) 1 (.slice Acode x.code.length kcode)) 2 (.int .i64 x.go)) 3 (.int .i64 x.test)) 4 (.slice Anext x.next.length knext)) 5 (.slice Aargs x.args.length kargs))).1
  have HB := putRow_below M.below (g := w.heap.size + 1) (by omega) [.slice Aparams x.params.length kparams, .slice Acode x.code.length kcode, .int .i64 x.go, .int .i64 x.test, .slice Anext x.next.length knext, .slice Aargs x.args.length kargs] 0
  refine bodyPost_ret (v := .agg #[.slice Aparams x.params.length kparams, .slice Acode x.code.length kcode, .int .i64 x.go, .int .i64 x.test, .slice Anext x.next.length knext, .slice Aargs x.args.length kargs]) (by simp [results, Tryz.results57, go_sem, cF]) rfl ⟨_, _, _, _, rfl, ?_, HB⟩
  refine partA_mk ?_ ?_ ?_ ?_ ?_ ?_ ?_ ?_ ?_ ?_ Oparams Ocode Onext Oargs
  all_goals
    intro k hk
    try intro hk2
    omega
end Go.Proofs.YtnfaibenekninaaGreat.L

set_option linter.unusedVariables false
namespace Go.Proofs.YtnfaibenekninaaGreat.L
open Go.RowKit
structure Sa where
  parts : List Pt
  values : Int
deriving DecidableEq
def Sa.t (x : Sa) : List Pt × Int := (x.parts, x.values)
def saV (x : Sa) (vparts : Value) : Value := .agg #[vparts, .int .i64 x.values]
def ssa : Rp Sa := (((Rp.sl part).pair Rp.int)).iso Sa.t
theorem ssa_open {w : World} {F : Nat → Prop} {x : Sa} {cs : List Value} (h : ssa.K w F x cs) : ∃ vparts, cs = [vparts, .int .i64 x.values] ∧ Rp.Rd part w F vparts x.parts := by
  obtain ⟨_, _, rfl, ⟨vparts, rfl, hparts⟩, rfl⟩ := h
  exact ⟨vparts, rfl, hparts⟩
theorem ssa_mk {w : World} {F : Nat → Prop} {x : Sa} {vparts : Value} (hparts : Rp.Rd part w F vparts x.parts) : ssa.K w F x [vparts, .int .i64 x.values] := ⟨[_], _, rfl, ⟨vparts, rfl, hparts⟩, rfl⟩
def ssaA : Rp Sa := (((Rp.ow true 67 partA).pair Rp.int)).iso Sa.t
theorem ssaA_open {w : World} {F : Nat → Prop} {x : Sa} {cs : List Value} (h : ssaA.K w F x cs) : ∃ G0 : Nat → Prop, (∀ k, G0 k → F k) ∧ ∃ vparts, cs = [vparts, .int .i64 x.values] ∧ Ow true 67 partA w G0 vparts x.parts := by
  obtain ⟨_, _, rfl, ⟨vparts, rfl, hparts⟩, rfl⟩ := h
  exact ⟨F, fun _ h => h, vparts, rfl, hparts⟩
theorem ssaA_mk {w : World} {F G0 : Nat → Prop} {x : Sa} {vparts : Value} (iG0 : ∀ k, G0 k → F k)  (hparts : Ow true 67 partA w G0 vparts x.parts) : ssaA.K w F x [vparts, .int .i64 x.values] := by
  refine ⟨[_], _, rfl, ⟨vparts, rfl, hparts.mono iG0⟩, ?_⟩
  exact rfl
theorem ssaA_le : Rp.Le ssaA ssa := Rp.Le.iso (Rp.Le.pair (Rp.Le.ow partA_le) (Rp.Le.refl _)) _
def ssaAt (w : World) (b o : Nat) (x : Sa) (vparts : Value) : Prop := w.cell? ⟨b, o, none⟩ = some (vparts) ∧ w.cell? ⟨b, o + 1, none⟩ = some (.int .i64 x.values)
theorem ssaAt_below {w w1 : World} {b o : Nat} {x : Sa} {vparts : Value} (h : ssaAt w b o x vparts) (hb : Below w.heap.size w w1) : ssaAt w1 b o x vparts := ⟨cell_below hb h.1, cell_below hb h.2⟩
theorem ssaAt_of {w : World} {b o : Nat} {x : Sa} {vparts : Value} (h : ∀ j u, ([vparts, .int .i64 x.values] : List Value)[j]? = some u → w.cell? ⟨b, o + j, none⟩ = some u) : ssaAt w b o x vparts := ⟨h 0 _ rfl, h 1 _ rfl⟩
theorem rd_ssa {w : World} {F : Nat → Prop} {v : Value} {l : List Sa} (h : Rp.Rd ssa w F v l) : ∃ A c, v = .slice A l.length c ∧ l.length ≤ c ∧ c ≤ 9223372036854775807 ∧
    (l = [] ∨ ∃ b o, A = some ⟨b, o, none⟩ ∧ b < w.heap.size ∧ ∀ (k : Nat) (hk : k < l.length), ∃ vparts, ssaAt w b (o + k * 2) l[k] vparts ∧ Rp.Rd part w F vparts l[k].parts) := by
  obtain ⟨A, c, rfl, hl, hm, h⟩ := h
  refine ⟨A, c, rfl, hl, hm, ?_⟩
  rcases h with h | ⟨b, o, rfl, _, hb, h⟩
  · exact .inl h
  · refine .inr ⟨b, o, rfl, hb, fun k hk => ?_⟩
    obtain ⟨cs, hK, hc⟩ := h k l[k] (List.getElem?_eq_getElem hk)
    obtain ⟨vparts, rfl, hparts⟩ := ssa_open hK
    refine ⟨vparts, ssaAt_of fun j u hu => ?_, hparts⟩
    rw [Nat.add_assoc]
    exact hc j u hu
end Go.Proofs.YtnfaibenekninaaGreat.L

set_option linter.unusedVariables false
set_option linter.unusedSimpArgs false
namespace Go.Proofs.YtnfaibenekninaaGreat.L
open Go.RowKit
def zPt : Pt := ⟨[], [], 0, 0, [], []⟩
theorem zPt_mk (w : World) : partA.K w (fun _ => False) zPt [.slice none 0 0, .slice none 0 0, .int .i64 0, .int .i64 0, .slice none 0 0, .slice none 0 0] :=
  partA_mk (G0 := fun _ => False) (G1 := fun _ => False) (G2 := fun _ => False) (G3 := fun _ => False) (fun _ h => h) (fun _ h => h) (fun _ h => h) (fun _ h => h) (fun _ h _ => h) (fun _ h _ => h) (fun _ h _ => h) (fun _ h _ => h) (fun _ h _ => h) (fun _ h _ => h) (Ow.nil _ _ _ _ _) (Ow.nil _ _ _ _ _) (Ow.nil _ _ _ _ _) (Ow.nil _ _ _ _ _)
theorem Ow.part_at {e g n c : Nat} {w : World} {F : Nat → Prop} {l : List Pt} (h : Ow true e partA w F (.slice (some ⟨g, 0, none⟩) n c) l) {k : Nat} (hk : k < l.length) :
    ∃ vparams vcode vnext vargs, partAt w g (k * 6) l[k] vparams vcode vnext vargs ∧ ∀ o, w.frozen? ⟨g, o, none⟩ = false := by
  obtain ⟨g', c', cs, he, _, _, hK, hc, hf⟩ := h.at_ (List.getElem?_eq_getElem hk)
  injection he with he _ _
  injection he with he
  injection he with he _
  subst he
  obtain ⟨_, _, _, _, _, _, _, _, _, _, _, _, _, _, vparams, vcode, vnext, vargs, rfl, _, _, _, _⟩ := partA_open hK
  exact ⟨vparams, vcode, vnext, vargs, partAt_of hc, hf⟩
set_option maxHeartbeats 1000000 in
theorem toPartS_calls {F : Nat → Prop} (v : Value) (l : List Pt) (w : World) (h : Rp.Rd part w F v l) (hl : l.length ≤ 1048576) (hx : ∀ x ∈ l, PtLim x) :
    Calls Tryz.prog 24 #[v] w fun e w' => ∃ v', e = .returned v' ∧ Ow true 67 partA w' (fun k => w.heap.size ≤ k) v' l ∧ Below w.heap.size w w' := by
  obtain ⟨A, c, rfl, hlc, hcm, hrow⟩ := rd_part h
  have hmk := mk_all Tryz.underlying26 infoPart l.length (by omega) (by omega)
  go_enter Tryz.func24, Tryz.ntmps24
  go_wp2
  have hstart : Ow true 67 partA (w.alloc (.cells (madeCells #[.slice none 0 0, .slice none 0 0, .int .i64 0, .int .i64 0, .slice none 0 0, .slice none 0 0] (l.length * 6)) 67)) (fun k => w.heap.size ≤ k) (.slice (some ⟨w.heap.size, 0, none⟩) l.length l.length) (List.replicate l.length zPt) :=
    (ow_alloc (r := partA) w (by omega) rfl (by decide) zPt_mk).mono (fun k hk => by omega)
  go_loopw [4] (fun i wr => ∃ k : Nat, k ≤ l.length ∧ i = .int .i64 k ∧ Ow true 67 partA wr (fun k => w.heap.size ≤ k) (.slice (some ⟨w.heap.size, 0, none⟩) l.length l.length) (l.take k ++ List.replicate (l.length - k) zPt) ∧ Below w.heap.size w wr) (fun i _ => l.length - (intOf i).toNat)
  case atStart =>
    exact ⟨0, Nat.zero_le _, rfl, by simpa using hstart, below_new _⟩
  case round =>
    obtain ⟨k, hk, rfl, HO, HB⟩ := hrel
    by_cases hlt : k < l.length
    · rcases hrow with rfl | ⟨b, o, rfl, hb, hcell⟩
      · simp at hlt
      obtain ⟨vparams, vcode, vnext, vargs, c1, hparams, hcode, hnext, hargs⟩ := hcell k hlt
      replace c1 := partAt_below c1 HB
      replace hparams := hparams.below HB
      replace hcode := hcode.below HB
      replace hnext := hnext.below HB
      replace hargs := hargs.below HB
      clear hcell hstart
      obtain ⟨q0, q1, q2, q3, q4, q5⟩ := c1
      have ⟨Bparams, dparams, yparams, _⟩ := hparams
      have ⟨Bcode, dcode, ycode, _⟩ := hcode
      have ⟨Bnext, dnext, ynext, _⟩ := hnext
      have ⟨Bargs, dargs, yargs, _⟩ := hargs
      subst yparams ycode ynext yargs
      have hy := hx l[k] (List.getElem_mem hlt)
      go_wp2_with fail
      refine (toPart_calls l[k] _ _ _ _ _ hparams hcode hnext hargs hy).mono ?_
      rintro e w1 ⟨vparams', vcode', vnext', vargs', rfl, HK, hb1⟩
      unfold ptV
      have HO1 := HO.bound.below hb1
      obtain ⟨pparams, pcode, pnext, pargs, ⟨r0, r1, r2, r3, r4, r5⟩, f2⟩ := HO1.part_at (k := k) (by simp; omega)
      obtain ⟨_, _, _, _, _, _, _, _, _, _, _, _, _, _, _, _, _, _, he, hhparams, hhcode, hhnext, hhargs⟩ := partA_open HK
      simp only [List.cons.injEq, true_and, and_true] at he
      obtain ⟨rfl, rfl, rfl, rfl⟩ := he
      obtain ⟨Aparams, kparams, rfl, _, _⟩ := hhparams.form
      obtain ⟨Acode, kcode, rfl, _, _⟩ := hhcode.form
      obtain ⟨Anext, knext, rfl, _, _⟩ := hhnext.form
      obtain ⟨Aargs, kargs, rfl, _, _⟩ := hhargs.form
      clear hhparams hhcode hhnext hhargs
      go_wp2_with fail
      go_roundw
      case rel =>
        refine ⟨k + 1, by omega, by go_num, ?_, putRow_below (g := w.heap.size) (below_then HB hb1) (Nat.le_refl _) [.slice Aparams l[k].params.length kparams, .slice Acode l[k].code.length kcode, .int .i64 l[k].go, .int .i64 l[k].test, .slice Anext l[k].next.length knext, .slice Aargs l[k].args.length kargs] (k * 6)⟩
        rw [← set_take_rep _ hlt]
        exact (HO1.put rfl (by simp; omega) HK (fun q hq hq2 => by omega)).mono (fun q hq => by have := HB.size; omega)
      case measure => simp [intOf]; omega
    · obtain rfl : k = l.length := by omega
      clear hstart
      go_wp2
      go_ret
      exact ⟨_, rfl, by simpa using HO, HB⟩
end Go.Proofs.YtnfaibenekninaaGreat.L

set_option linter.unusedVariables false
set_option linter.unusedSimpArgs false
namespace Go.Proofs.YtnfaibenekninaaGreat.L
open Go.RowKit
theorem infoSsa : (Tryz.prog.info? 28).map (fun i => (i.zero, i.size, i.bytes)) = some (some (.agg #[.slice none 0 0, .int .i64 0]), 2, 32) := by kernel_rfl
def SaLim (x : Sa) : Prop := x.parts.length ≤ 1048576 ∧ (∀ p ∈ x.parts, PtLim p)
set_option maxHeartbeats 4000000 in
theorem toSsa_calls {F : Nat → Prop} (x : Sa) (vparts : Value) (w : World) (hparts : Rp.Rd part w F vparts x.parts) (hx : SaLim x) :
    Calls Tryz.prog 8 #[saV x vparts] w fun e w' => ∃ vparts', e = .returned (saV x vparts') ∧ ssaA.K w' (fun k => w.heap.size ≤ k) x [vparts', .int .i64 x.values] ∧ Below w.heap.size w w' := by
  obtain ⟨l0, l1⟩ := hx
  unfold saV
  go_enter Tryz.func8, Tryz.ntmps8
  go_wp2_with fail
  have M : Mk w (.cells #[vparts, .int .i64 x.values] 24 (0, 0)) (.cells #[.slice none 0 0, .int .i64 0] 28 (0, 0)) 28 _ #[.slice none 0 0, .int .i64 0] := Mk.start (c3 := #[.slice none 0 0, .int .i64 0])
  refine (toPartS_calls vparts x.parts _ (hparts.below M.below) l0 l1).mono ?_
  rintro e w1 ⟨Vparts, rfl, Oparts, hb⟩
  have n0 := M.size
  replace M := M.call hb
  replace Oparts := Oparts.bound
  obtain ⟨Aparts, kparts, rfl, _, _⟩ := Oparts.form
  have z0 := hb.size
  simp only [World.size_alloc, World.size_setCell] at z0 n0 Oparts
  clear hb
  obtain ⟨c1, f1⟩ := cell_of_block M.b1; obtain ⟨c2, f2⟩ := cell_of_block M.b2; obtain ⟨c3, f3⟩ := cell_of_block M.b3
  have s1 := blk_lt M.b1; have s2 := blk_lt M.b2; have s3 := blk_lt M.b3
  go_wp2_with fail
  replace M := M.set 0 (.slice Aparts x.parts.length kparts)
  replace Oparts := ow_set3 (w := w) Oparts (by intro k hk; omega) 0 (.slice Aparts x.parts.length kparts)
  replace M := M.set 1 (.int .i64 x.values)
  replace Oparts := ow_set3 (w := w) Oparts (by intro k hk; omega) 1 (.int .i64 x.values)
  replace Oparts := ow_row3 (w := w) Oparts (by intro k hk; omega) [.slice Aparts x.parts.length kparts, .int .i64 x.values]
  have cF := (cell_of_block (blk_put (blk_put M.b2 0 (.slice Aparts x.parts.length kparts)) 1 (.int .i64 x.values))).1
  have HB := putRow_below M.below (g := w.heap.size + 1) (by omega) [.slice Aparts x.parts.length kparts, .int .i64 x.values] 0
  refine bodyPost_ret (v := .agg #[.slice Aparts x.parts.length kparts, .int .i64 x.values]) (by simp [results, Tryz.results8, go_sem, cF]) rfl ⟨_, rfl, ?_, HB⟩
  exact ssaA_mk (fun k hk => by omega) Oparts
end Go.Proofs.YtnfaibenekninaaGreat.L

set_option linter.unusedVariables false
namespace Go.Proofs.YtnfaibenekninaaGreat.L
open Go.RowKit
def szS (n : Nat) (left : Int) : Int := if left - n < 0 then -1 else left - n
theorem szS_bd {n : Nat} {left : Int} (h : left ≤ 1048576) : szS n left ≤ 1048576 ∧ -1 ≤ szS n left ∧ (0 ≤ szS n left → (n : Int) ≤ left ∧ 0 ≤ left) := by
  unfold szS; split <;> omega
theorem szIntS_calls {F : Nat → Prop} (v : Value) (l : List Int) (left : Int) (w : World) (h : Rp.Rd Rp.int w F v l) (h0 : -1 ≤ left) (h1 : left ≤ 1048576) :
    Calls Tryz.prog 82 #[v, .int .i64 left] w fun e w' => e = .returned (.int .i64 (szS l.length left)) ∧ w = w' := by
  obtain ⟨A, c, rfl, hlc, hcm, hrow⟩ := rd_int h
  clear hrow
  go_enter Tryz.func82, Tryz.ntmps82
  go_wp2
  all_goals
    go_ret
    exact ⟨ret_int (by unfold szS; split <;> omega), rfl⟩
theorem szFlatS_calls {F : Nat → Prop} (v : Value) (l : List Fl) (left : Int) (w : World) (h : Rp.Rd flat w F v l) (h0 : -1 ≤ left) (h1 : left ≤ 1048576) :
    Calls Tryz.prog 81 #[v, .int .i64 left] w fun e w' => e = .returned (.int .i64 (szS l.length left)) ∧ w = w' := by
  obtain ⟨A, c, rfl, hlc, hcm, hrow⟩ := rd_flat h
  clear hrow
  go_enter Tryz.func81, Tryz.ntmps81
  go_wp2
  all_goals
    go_ret
    exact ⟨ret_int (by unfold szS; split <;> omega), rfl⟩
end Go.Proofs.YtnfaibenekninaaGreat.L

set_option linter.unusedVariables false
namespace Go.Proofs.YtnfaibenekninaaGreat.L
open Go.RowKit
def szIs : List (List Int) → Int → Int
  | [], left => left
  | x :: t, left => if szS x.length left < 0 then -1 else szIs t (szS x.length left)
theorem szIs_bd : ∀ (l : List (List Int)) (left : Int), left ≤ 1048576 → szIs l left ≤ 1048576 ∧ (-1 ≤ left → -1 ≤ szIs l left) ∧ (0 ≤ szIs l left → ∀ x ∈ l, x.length ≤ 1048576)
  | [], left, h => ⟨h, fun h => h, fun _ x hx => by simp at hx⟩
  | y :: t, left, h => by
    have hb := szS_bd (n := y.length) h
    have ih := szIs_bd t (szS y.length left) hb.1
    rw [szIs]
    split
    · exact ⟨by omega, fun _ => by omega, fun h0 => by omega⟩
    · refine ⟨ih.1, fun _ => ih.2.1 hb.2.1, fun h0 x hx => ?_⟩
      rcases List.mem_cons.1 hx with rfl | hx
      · have := hb.2.2 (by omega); omega
      · exact ih.2.2 h0 x hx
def szIss (l : List (List Int)) (left : Int) : Int := if szS l.length left < 0 then -1 else szIs l (szS l.length left)
theorem szIss_bd {l : List (List Int)} {left : Int} (h : left ≤ 1048576) : szIss l left ≤ 1048576 ∧ -1 ≤ szIss l left ∧ (0 ≤ szIss l left → (l.length ≤ 1048576 ∧ ∀ x ∈ l, x.length ≤ 1048576) ∧ 0 ≤ left) := by
  have b := szS_bd (n := l.length) h
  have c := szIs_bd l _ b.1
  unfold szIss
  split
  · exact ⟨by omega, by omega, fun h0 => by omega⟩
  · refine ⟨c.1, c.2.1 b.2.1, fun h0 => ?_⟩
    have := b.2.2 (by omega)
    exact ⟨⟨by omega, c.2.2 h0⟩, by omega⟩
set_option maxHeartbeats 1000000 in
theorem szIntSS_calls {F : Nat → Prop} (v : Value) (l : List (List Int)) (left : Int) (w : World) (h : Rp.Rd (Rp.sl Rp.int) w F v l) (h0 : -1 ≤ left) (h1 : left ≤ 1048576) :
    Calls Tryz.prog 96 #[v, .int .i64 left] w fun e w' => e = .returned (.int .i64 (szIss l left)) ∧ Below w.heap.size w w' := by
  unfold szIss
  obtain ⟨A, c, rfl, hlc, hcm, hrow⟩ := rd_ints h
  have b1 := szS_bd (n := l.length) h1
  obtain ⟨s1, hs1⟩ : ∃ s1, s1 = szS l.length left := ⟨_, rfl⟩
  rw [← hs1] at b1 ⊢
  have hs2 : left - l.length < 0 ∧ s1 = -1 ∨ 0 ≤ left - l.length ∧ s1 = left - l.length := by rw [hs1]; unfold szS; split <;> omega
  clear hs1
  rcases hs2 with ⟨hneg, rfl⟩ | ⟨hpos, hs⟩
  · go_enter Tryz.func96, Tryz.ntmps96
    go_wp2
    go_ret
    exact ⟨by simp, Below.refl _ _⟩
  · have HS := Lib.hid hs
    clear hs
    obtain ⟨q0, q1, _⟩ := b1
    have hs0 : 0 ≤ s1 := by have := HS.out; omega
    go_enter Tryz.func96, Tryz.ntmps96
    go_wp2_with fail
    rw [← HS.out]
    go_loopw [1, 5] (fun t i wr => ∃ (k : Nat) (s : Int), k ≤ l.length ∧ i = .int .i64 k ∧ t = .int .i64 s ∧ 0 ≤ s ∧ s ≤ 1048576 ∧ Hid (szIs (l.drop k) s = szIs l s1) ∧ Below w.heap.size w wr) (fun _ i _ => l.length - (intOf i).toNat)
    case atStart => exact ⟨0, s1, Nat.zero_le _, rfl, rfl, hs0, q0, Lib.hid rfl, Below.refl _ _⟩
    case round =>
      obtain ⟨k, s, hk, rfl, rfl, p0, p1, HH, HB⟩ := hrel
      by_cases hlt : k < l.length
      · rcases hrow with rfl | ⟨b, o, rfl, hb, hcell⟩
        · simp at hlt
        obtain ⟨u, c1, hu⟩ := hcell k hlt
        replace c1 := cell_below HB c1
        replace hu := hu.below HB
        clear hcell
        have ⟨A0, k0, hvc, _⟩ := hu
        subst hvc
        have hbd := szS_bd (n := l[k].length) p1
        obtain ⟨y, hy⟩ : ∃ y, y = szS l[k].length s := ⟨_, rfl⟩
        have HC := szIntS_calls _ l[k] s wr hu (by omega) p1
        have HH2 : Hid (szIs (l.drop k) s = if y < 0 then -1 else szIs (l.drop (k + 1)) y) := Lib.hid (by rw [List.drop_eq_getElem_cons hlt, szIs, hy])
        rw [← hy] at HC hbd
        have HC := Lib.hid HC
        clear hy
        go_wp2_with (go_at_call 82; refine HC.out.mono ?_; rintro e w1 ⟨rfl, rfl⟩)
        · go_ret
          refine ⟨ret_int ?_, HB⟩
          try rw [if_neg (show ¬ s1 < 0 by omega)]
          rw [← HH.out, HH2.out, if_pos (by omega)]
        · go_roundw
          case rel => exact ⟨k + 1, y, by omega, by go_num, rfl, by omega, hbd.1, Lib.hid (by rw [← HH.out, HH2.out, if_neg (by omega)]), HB⟩
          case measure => simp [intOf]; omega
      · obtain rfl : k = l.length := by omega
        go_wp2
        go_ret
        refine ⟨ret_int ?_, HB⟩
        try rw [if_neg (show ¬ s1 < 0 by omega)]
        rw [← HH.out, List.drop_length, szIs]
end Go.Proofs.YtnfaibenekninaaGreat.L

set_option linter.unusedVariables false
set_option linter.unusedSimpArgs false
namespace Go.Proofs.YtnfaibenekninaaGreat.L
open Go.RowKit
def szPt (x : Pt) (left : Int) : Int := if szS x.params.length left < 0 then -1 else if szS x.code.length (szS x.params.length left) < 0 then -1 else if szS x.next.length (szS x.code.length (szS x.params.length left)) < 0 then -1 else szIss x.args (szS x.next.length (szS x.code.length (szS x.params.length left)))
theorem szPt_steps (x : Pt) (left : Int) (h : left ≤ 1048576) : ∃ s0 s1 s2 s3 : Int, szPt x left = (if s0 < 0 then -1 else (if s1 < 0 then -1 else (if s2 < 0 then -1 else s3))) ∧ s0 = szS x.params.length left ∧ s1 = szS x.code.length s0 ∧ s2 = szS x.next.length s1 ∧ s3 = szIss x.args s2 ∧ (s0 ≤ 1048576 ∧ -1 ≤ s0 ∧ s1 ≤ 1048576 ∧ -1 ≤ s1 ∧ s2 ≤ 1048576 ∧ -1 ≤ s2 ∧ s3 ≤ 1048576 ∧ -1 ≤ s3) := by
  refine ⟨(szS x.params.length left), (szS x.code.length (szS x.params.length left)), (szS x.next.length (szS x.code.length (szS x.params.length left))), (szIss x.args (szS x.next.length (szS x.code.length (szS x.params.length left)))), rfl, rfl, rfl, rfl, rfl, ?_⟩
  have b0 := szS_bd (n := x.params.length) h
  have b1 := szS_bd (n := x.code.length) b0.1
  have b2 := szS_bd (n := x.next.length) b1.1
  have b3 := szIss_bd (l := x.args) b2.1
  exact ⟨b0.1, b0.2.1, b1.1, b1.2.1, b2.1, b2.2.1, b3.1, b3.2.1⟩
theorem szPt_bd {x : Pt} {left : Int} (h : left ≤ 1048576) : szPt x left ≤ 1048576 ∧ -1 ≤ szPt x left ∧ (0 ≤ szPt x left → PtLim x ∧ 0 ≤ left) := by
  unfold szPt
  have b0 := szS_bd (n := x.params.length) h
  have b1 := szS_bd (n := x.code.length) b0.1
  have b2 := szS_bd (n := x.next.length) b1.1
  have b3 := szIss_bd (l := x.args) b2.1
  generalize szS x.params.length left = r0 at *
  generalize szS x.code.length r0 = r1 at *
  generalize szS x.next.length r1 = r2 at *
  generalize szIss x.args r2 = r3 at *
  refine ⟨by (repeat' split) <;> omega, by (repeat' split) <;> omega, fun h0 => ?_⟩
  have p0 : ¬ r0 < 0 := fun hn => by rw [if_pos hn] at h0; omega
  rw [if_neg p0] at h0
  have p1 : ¬ r1 < 0 := fun hn => by rw [if_pos hn] at h0; omega
  rw [if_neg p1] at h0
  have p2 : ¬ r2 < 0 := fun hn => by rw [if_pos hn] at h0; omega
  rw [if_neg p2] at h0
  have f0 := b0.2.2 (by omega)
  have f1 := b1.2.2 (by omega)
  have f2 := b2.2.2 (by omega)
  have f3 := b3.2.2 (by omega)
  exact ⟨⟨by omega, by omega, by omega, f3.1.1, f3.1.2⟩, by omega⟩
set_option maxHeartbeats 1000000 in
theorem szPart_calls {F : Nat → Prop} (x : Pt) (vparams vcode vnext vargs : Value) (left : Int) (w : World) (hparams : Rp.Rd Rp.int w F vparams x.params) (hcode : Rp.Rd flat w F vcode x.code) (hnext : Rp.Rd Rp.int w F vnext x.next) (hargs : Rp.Rd (Rp.sl Rp.int) w F vargs x.args) (h0 : -1 ≤ left) (h1 : left ≤ 1048576) :
    Calls Tryz.prog 46 #[ptV x vparams vcode vnext vargs, .int .i64 left] w fun e w' => e = .returned (.int .i64 (szPt x left)) ∧ Below w.heap.size w w' := by
  obtain ⟨s0, s1, s2, s3, HS, e0, e1, e2, e3, p0, q0, p1, q1, p2, q2, p3, q3⟩ := szPt_steps x left h1
  have H0 := fun W (hW : Below w.heap.size w W) => szIntS_calls vparams x.params left W (hparams.below hW) h0 h1
  rw [← e0] at H0
  have H0 := Lib.hid H0
  have H1 := fun W (hW : Below w.heap.size w W) => szFlatS_calls vcode x.code s0 W (hcode.below hW) q0 p0
  rw [← e1] at H1
  have H1 := Lib.hid H1
  have H2 := fun W (hW : Below w.heap.size w W) => szIntS_calls vnext x.next s1 W (hnext.below hW) q1 p1
  rw [← e2] at H2
  have H2 := Lib.hid H2
  have H3 := fun W (hW : Below w.heap.size w W) => szIntSS_calls vargs x.args s2 W (hargs.below hW) q2 p2
  rw [← e3] at H3
  have H3 := Lib.hid H3
  clear e0 e1 e2 e3
  have HS := Lib.hid HS
  have ⟨Aparams, kparams, yparams, _⟩ := hparams
  have ⟨Acode, kcode, ycode, _⟩ := hcode
  have ⟨Anext, knext, ynext, _⟩ := hnext
  have ⟨Aargs, kargs, yargs, _⟩ := hargs
  subst yparams ycode ynext yargs
  unfold ptV
  go_enter Tryz.func46, Tryz.ntmps46
  go_wp2_with fail
  have HB : Below w.heap.size w (w.alloc (.cells #[.slice Aparams x.params.length kparams, .slice Acode x.code.length kcode, .int .i64 x.go, .int .i64 x.test, .slice Anext x.next.length knext, .slice Aargs x.args.length kargs] 86)) := below_new _
  have b1 : (w.alloc (.cells #[.slice Aparams x.params.length kparams, .slice Acode x.code.length kcode, .int .i64 x.go, .int .i64 x.test, .slice Anext x.next.length knext, .slice Aargs x.args.length kargs] 86)).heap[w.heap.size]? = _ := heap_alloc_new _ _
  refine (H0.out _ HB).mono ?_
  rintro e w0 ⟨rfl, rfl⟩
  obtain ⟨c1, f1⟩ := cell_of_block b1
  by_cases n0 : s0 < 0
  · go_wp2
    go_ret
    refine ⟨ret_int ?_, HB⟩
    rw [HS.out]
    (repeat' split) <;> omega
  go_wp2_with fail
  refine (H1.out _ HB).mono ?_
  rintro e w1 ⟨rfl, rfl⟩
  clear c1 f1
  obtain ⟨c1, f1⟩ := cell_of_block b1
  by_cases n1 : s1 < 0
  · go_wp2
    go_ret
    refine ⟨ret_int ?_, HB⟩
    rw [HS.out]
    (repeat' split) <;> omega
  go_wp2_with fail
  refine (H2.out _ HB).mono ?_
  rintro e w2 ⟨rfl, rfl⟩
  clear c1 f1
  obtain ⟨c1, f1⟩ := cell_of_block b1
  by_cases n2 : s2 < 0
  · go_wp2
    go_ret
    refine ⟨ret_int ?_, HB⟩
    rw [HS.out]
    (repeat' split) <;> omega
  go_wp2_with fail
  refine (H3.out _ HB).mono ?_
  rintro e w3 ⟨rfl, hb⟩
  replace b1 := blk_below b1 hb
  replace HB := below_then HB hb
  clear hb
  clear c1 f1
  obtain ⟨c1, f1⟩ := cell_of_block b1
  by_cases n3 : s3 < 0
  all_goals
    go_wp2
    go_ret
    refine ⟨ret_int ?_, HB⟩
    rw [HS.out]
    try ((repeat' split) <;> omega)
end Go.Proofs.YtnfaibenekninaaGreat.L

set_option linter.unusedVariables false
set_option linter.unusedSimpArgs false
namespace Go.Proofs.YtnfaibenekninaaGreat.L
open Go.RowKit
def szPts : List Pt → Int → Int
  | [], left => left
  | x :: t, left => if szPt x left < 0 then -1 else szPts t (szPt x left)
theorem szPts_bd : ∀ (l : List Pt) (left : Int), left ≤ 1048576 → szPts l left ≤ 1048576 ∧ (-1 ≤ left → -1 ≤ szPts l left) ∧ (0 ≤ szPts l left → ∀ x ∈ l, PtLim x)
  | [], left, h => ⟨h, fun h => h, fun _ x hx => by simp at hx⟩
  | y :: t, left, h => by
    have hb := szPt_bd (x := y) h
    have ih := szPts_bd t (szPt y left) hb.1
    rw [szPts]
    split
    · exact ⟨by omega, fun _ => by omega, fun h0 => by omega⟩
    · refine ⟨ih.1, fun _ => ih.2.1 hb.2.1, fun h0 x hx => ?_⟩
      rcases List.mem_cons.1 hx with rfl | hx
      · exact (hb.2.2 (by omega)).1
      · exact ih.2.2 h0 x hx
def szPtl (l : List Pt) (left : Int) : Int := if szS l.length left < 0 then -1 else szPts l (szS l.length left)
theorem szPtl_bd {l : List Pt} {left : Int} (h : left ≤ 1048576) : szPtl l left ≤ 1048576 ∧ -1 ≤ szPtl l left ∧ (0 ≤ szPtl l left → (l.length ≤ 1048576 ∧ ∀ x ∈ l, PtLim x) ∧ 0 ≤ left) := by
  have b := szS_bd (n := l.length) h
  have c := szPts_bd l _ b.1
  unfold szPtl
  split
  · exact ⟨by omega, by omega, fun h0 => by omega⟩
  · refine ⟨c.1, c.2.1 b.2.1, fun h0 => ?_⟩
    have := b.2.2 (by omega)
    exact ⟨⟨by omega, c.2.2 h0⟩, by omega⟩
set_option maxHeartbeats 1000000 in
theorem szPartS_calls {F : Nat → Prop} (v : Value) (l : List Pt) (left : Int) (w : World) (h : Rp.Rd part w F v l) (h0 : -1 ≤ left) (h1 : left ≤ 1048576) :
    Calls Tryz.prog 21 #[v, .int .i64 left] w fun e w' => e = .returned (.int .i64 (szPtl l left)) ∧ Below w.heap.size w w' := by
  obtain ⟨A, c, rfl, hlc, hcm, hrow⟩ := rd_part h
  unfold szPtl
  have b1 := szS_bd (n := l.length) h1
  obtain ⟨s1, hs1⟩ : ∃ s1, s1 = szS l.length left := ⟨_, rfl⟩
  rw [← hs1] at b1 ⊢
  have hs2 : left - l.length < 0 ∧ s1 = -1 ∨ 0 ≤ left - l.length ∧ s1 = left - l.length := by rw [hs1]; unfold szS; split <;> omega
  clear hs1
  rcases hs2 with ⟨hneg, rfl⟩ | ⟨hpos, hs⟩
  · go_enter Tryz.func21, Tryz.ntmps21
    go_wp2
    go_ret
    exact ⟨by simp, Below.refl _ _⟩
  · have HS := Lib.hid hs
    clear hs
    obtain ⟨q0, q1, _⟩ := b1
    have hs0 : 0 ≤ s1 := by have := HS.out; omega
    go_enter Tryz.func21, Tryz.ntmps21
    go_wp2_with fail
    rw [← HS.out]
    go_loopw [1, 5] (fun t i wr => ∃ (k : Nat) (s : Int), k ≤ l.length ∧ i = .int .i64 k ∧ t = .int .i64 s ∧ 0 ≤ s ∧ s ≤ 1048576 ∧ Hid (szPts (l.drop k) s = szPts l s1) ∧ Below w.heap.size w wr) (fun _ i _ => l.length - (intOf i).toNat)
    case atStart => exact ⟨0, s1, Nat.zero_le _, rfl, rfl, hs0, q0, Lib.hid rfl, Below.refl _ _⟩
    case round =>
      obtain ⟨k, s, hk, rfl, rfl, p0, p1, HH, HB⟩ := hrel
      by_cases hlt : k < l.length
      · rcases hrow with rfl | ⟨b, o, rfl, hb, hcell⟩
        · simp at hlt
        obtain ⟨vparams, vcode, vnext, vargs, c1, hparams, hcode, hnext, hargs⟩ := hcell k hlt
        replace c1 := partAt_below c1 HB
        replace hparams := hparams.below HB
        replace hcode := hcode.below HB
        replace hnext := hnext.below HB
        replace hargs := hargs.below HB
        clear hcell
        obtain ⟨r0, r1, r2, r3, r4, r5⟩ := c1
        have ⟨Aparams, kparams, yparams, _⟩ := hparams
        have ⟨Acode, kcode, ycode, _⟩ := hcode
        have ⟨Anext, knext, ynext, _⟩ := hnext
        have ⟨Aargs, kargs, yargs, _⟩ := hargs
        subst yparams ycode ynext yargs
        have hbd := szPt_bd (x := l[k]) p1
        obtain ⟨y, hy⟩ : ∃ y, y = szPt l[k] s := ⟨_, rfl⟩
        have HC := szPart_calls l[k] _ _ _ _ s wr hparams hcode hnext hargs (by omega) p1
        have HH2 : Hid (szPts (l.drop k) s = if y < 0 then -1 else szPts (l.drop (k + 1)) y) := Lib.hid (by rw [List.drop_eq_getElem_cons hlt, szPts, hy])
        rw [← hy] at HC hbd
        have HC := Lib.hid HC
        clear hy
        go_wp2_with (go_at_call 46; refine HC.out.mono ?_; rintro e w1 ⟨rfl, hb1⟩)
        · go_ret
          refine ⟨ret_int ?_, below_then HB hb1⟩
          try rw [if_neg (show ¬ s1 < 0 by omega)]
          rw [← HH.out, HH2.out, if_pos (by omega)]
        · go_roundw
          case rel => exact ⟨k + 1, y, by omega, by go_num, rfl, by omega, hbd.1, Lib.hid (by rw [← HH.out, HH2.out, if_neg (by omega)]), below_then HB hb1⟩
          case measure => simp [intOf]; omega
      · obtain rfl : k = l.length := by omega
        go_wp2
        go_ret
        refine ⟨ret_int ?_, HB⟩
        try rw [if_neg (show ¬ s1 < 0 by omega)]
        rw [← HH.out, List.drop_length, szPts]
end Go.Proofs.YtnfaibenekninaaGreat.L

set_option linter.unusedVariables false
set_option linter.unusedSimpArgs false
namespace Go.Proofs.YtnfaibenekninaaGreat.L
open Go.RowKit
def szSa (x : Sa) (left : Int) : Int := szPtl x.parts left
theorem szSa_steps (x : Sa) (left : Int) (h : left ≤ 1048576) : ∃ s0 : Int, szSa x left = s0 ∧ s0 = szPtl x.parts left ∧ (s0 ≤ 1048576 ∧ -1 ≤ s0) := by
  refine ⟨(szPtl x.parts left), rfl, rfl, ?_⟩
  have b0 := szPtl_bd (l := x.parts) h
  exact ⟨b0.1, b0.2.1⟩
theorem szSa_bd {x : Sa} {left : Int} (h : left ≤ 1048576) : szSa x left ≤ 1048576 ∧ -1 ≤ szSa x left ∧ (0 ≤ szSa x left → SaLim x ∧ 0 ≤ left) := by
  unfold szSa
  have b0 := szPtl_bd (l := x.parts) h
  generalize szPtl x.parts left = r0 at *
  refine ⟨by (repeat' split) <;> omega, by (repeat' split) <;> omega, fun h0 => ?_⟩
  have f0 := b0.2.2 (by omega)
  exact ⟨⟨f0.1.1, f0.1.2⟩, by omega⟩
set_option maxHeartbeats 1000000 in
theorem szSsa_calls {F : Nat → Prop} (x : Sa) (vparts : Value) (left : Int) (w : World) (hparts : Rp.Rd part w F vparts x.parts) (h0 : -1 ≤ left) (h1 : left ≤ 1048576) :
    Calls Tryz.prog 6 #[saV x vparts, .int .i64 left] w fun e w' => e = .returned (.int .i64 (szSa x left)) ∧ Below w.heap.size w w' := by
  obtain ⟨s0, HS, e0, p0, q0⟩ := szSa_steps x left h1
  have H0 := fun W (hW : Below w.heap.size w W) => szPartS_calls vparts x.parts left W (hparts.below hW) h0 h1
  rw [← e0] at H0
  have H0 := Lib.hid H0
  clear e0
  have HS := Lib.hid HS
  have ⟨Aparts, kparts, yparts, _⟩ := hparts
  subst yparts
  unfold saV
  go_enter Tryz.func6, Tryz.ntmps6
  go_wp2_with fail
  have HB : Below w.heap.size w (w.alloc (.cells #[.slice Aparts x.parts.length kparts, .int .i64 x.values] 24)) := below_new _
  have b1 : (w.alloc (.cells #[.slice Aparts x.parts.length kparts, .int .i64 x.values] 24)).heap[w.heap.size]? = _ := heap_alloc_new _ _
  refine (H0.out _ HB).mono ?_
  rintro e w0 ⟨rfl, hb⟩
  replace b1 := blk_below b1 hb
  replace HB := below_then HB hb
  clear hb
  obtain ⟨c1, f1⟩ := cell_of_block b1
  by_cases n0 : s0 < 0
  all_goals
    go_wp2
    go_ret
    refine ⟨ret_int ?_, HB⟩
    rw [HS.out]
    try ((repeat' split) <;> omega)
end Go.Proofs.YtnfaibenekninaaGreat.L

set_option linter.unusedVariables false
namespace Go.Proofs.YtnfaibenekninaaGreat.L
open Go.RowKit
theorem take_succ_eq {α : Type} {a b : List α} {k : Nat} (ha : k < a.length) (hb : k < b.length) (h : a.take k = b.take k) (he : a[k] = b[k]) : a.take (k + 1) = b.take (k + 1) := by
  rw [List.take_succ_eq_append_getElem ha, List.take_succ_eq_append_getElem hb, h, he]
theorem ne_of_get {α : Type} {a b : List α} {k : Nat} (ha : k < a.length) (hb : k < b.length) (he : a[k] ≠ b[k]) : a ≠ b := by
  rintro rfl
  exact he rfl
set_option maxHeartbeats 1000000 in
theorem eqIntS_calls {F G : Nat → Prop} (va vb : Value) (a b : List Int) (w : World) (ha : Rp.Rd Rp.int w F va a) (hb : Rp.Rd Rp.int w G vb b) :
    Calls Tryz.prog 95 #[va, vb] w fun e w' => e = .returned (.bool (decide (a = b))) ∧ Below w.heap.size w w' := by
  obtain ⟨A, c, rfl, hlc, hcm, hra⟩ := rd_int ha
  obtain ⟨B, d, rfl, hld, hdm, hrb⟩ := rd_int hb
  by_cases hl : a.length = b.length
  · have HL := Lib.hid hl
    have hle1 : a.length ≤ b.length := by omega
    have hle2 : b.length ≤ a.length := by omega
    have ht1 : ((a.length : Int) != (b.length : Int)) = false := by rw [bne_eq_false_iff_eq]; omega
    clear hl
    go_enter Tryz.func95, Tryz.ntmps95
    go_wp2
    go_loopw [5] (fun i wr => ∃ k : Nat, k ≤ a.length ∧ i = .int .i64 k ∧ Hid (a.take k = b.take k) ∧ Below w.heap.size w wr) (fun i _ => a.length - (intOf i).toNat)
    case atStart => exact ⟨0, Nat.zero_le _, rfl, Lib.hid rfl, Below.refl _ _⟩
    case round =>
      obtain ⟨k, hk, rfl, HT, HB⟩ := hrel
      by_cases hlt : k < a.length
      · have hlt2 : k < b.length := by omega
        rcases hra with rfl | ⟨g, o, rfl, hg, hca⟩
        · simp at hlt
        rcases hrb with rfl | ⟨g2, o2, rfl, hg2, hcb⟩
        · simp at hlt2
        have c1 := cell_below HB (hca k hlt)
        have c2 := cell_below HB (hcb k hlt2)
        clear hca hcb
        have i0 : (0 : Int) ≤ (k : Int) := Int.natCast_nonneg _
        have i1 : (k : Int) < (a.length : Int) := by omega
        have i2 : (k : Int) < (b.length : Int) := by omega
        by_cases he : a[k] = b[k]
        · have hne : (a[k] != b[k]) = false := by rw [bne_eq_false_iff_eq]; exact he
          have HE := Lib.hid he
          clear he
          go_wp2
          go_quiet (fail)
          go_wp2
          go_roundw
          case rel => exact ⟨k + 1, by omega, by go_num, Lib.hid (take_succ_eq hlt hlt2 HT.out HE.out), by first | exact HB | exact below_drewN HB _ | exact below_drew HB⟩
          case measure => simp [intOf]; omega
        · have hne : (a[k] != b[k]) = true := by rw [bne_iff_ne]; exact he
          have HE := Lib.hid he
          clear he
          go_wp2
          go_quiet (fail)
          go_wp2
          go_ret
          exact ⟨ret_bool (by rw [eq_comm, decide_eq_false_iff_not]; exact ne_of_get hlt hlt2 HE.out), by first | exact HB | exact below_drewN HB _ | exact below_drew HB⟩
      · obtain rfl : k = a.length := by omega
        go_wp2
        go_ret
        refine ⟨ret_bool ?_, HB⟩
        have := HT.out
        rw [List.take_length, HL.out, List.take_length] at this
        rw [eq_comm, decide_eq_true_eq]; exact this
  · have ht1 : ((a.length : Int) != (b.length : Int)) = true := by rw [bne_iff_ne]; omega
    have hn : a ≠ b := fun h => hl (by rw [h])
    have HN := Lib.hid hn
    clear hl hn hra hrb
    go_enter Tryz.func95, Tryz.ntmps95
    go_wp2
    go_ret
    exact ⟨ret_bool (by rw [eq_comm, decide_eq_false_iff_not]; exact HN.out), Below.refl _ _⟩
def eqFl (x y : Fl) : Bool := decide (x = y)
set_option maxHeartbeats 4000000 in
theorem eqFlat_calls (x y : Fl) (w : World) : Calls Tryz.prog 140 #[flV x, flV y] w fun e w' => e = .returned (.bool (eqFl x y)) ∧ Below w.heap.size w w' := by
  have HP : eqFl x y = (x.op == y.op && x.dO == y.dO && x.dst == y.dst && x.a == y.a && x.b == y.b && x.n == y.n) := by
    unfold eqFl
    rw [Bool.eq_iff_iff]
    obtain ⟨a1, a2, a3, a4, a5, a6⟩ := x
    obtain ⟨b1, b2, b3, b4, b5, b6⟩ := y
    simp [and_assoc]
  have HP := Lib.hid HP
  unfold flV
  go_enter Tryz.func140, Tryz.ntmps140
  go_wp2_with fail
  all_goals
    go_ret
    refine ⟨ret_bool ?_, ((Below.refl _ _).alloc (Nat.le_refl _) _).alloc (by simp) _⟩
    rw [HP.out]
    clear HP
    simp_all
end Go.Proofs.YtnfaibenekninaaGreat.L

set_option linter.unusedVariables false
namespace Go.Proofs.YtnfaibenekninaaGreat.L
open Go.RowKit
set_option maxHeartbeats 2000000 in
theorem eqFlatS_calls {F G : Nat → Prop} (va vb : Value) (a b : List Fl) (w : World) (ha : Rp.Rd flat w F va a) (hb : Rp.Rd flat w G vb b) :
    Calls Tryz.prog 94 #[va, vb] w fun e w' => e = .returned (.bool (decide (a = b))) ∧ Below w.heap.size w w' := by
  obtain ⟨A, c, rfl, hlc, hcm, hra⟩ := rd_flat ha
  obtain ⟨B, d, rfl, hld, hdm, hrb⟩ := rd_flat hb
  by_cases hl : a.length = b.length
  · have HL := Lib.hid hl
    have hle1 : a.length ≤ b.length := by omega
    have hle2 : b.length ≤ a.length := by omega
    have ht1 : ((a.length : Int) != (b.length : Int)) = false := by rw [bne_eq_false_iff_eq]; omega
    clear hl
    go_enter Tryz.func94, Tryz.ntmps94
    go_wp2
    go_loopw [5] (fun i wr => ∃ k : Nat, k ≤ a.length ∧ i = .int .i64 k ∧ Hid (a.take k = b.take k) ∧ Below w.heap.size w wr) (fun i _ => a.length - (intOf i).toNat)
    case atStart => exact ⟨0, Nat.zero_le _, rfl, Lib.hid rfl, Below.refl _ _⟩
    case round =>
      obtain ⟨k, hk, rfl, HT, HB⟩ := hrel
      by_cases hlt : k < a.length
      · have hlt2 : k < b.length := by omega
        rcases hra with rfl | ⟨g, o, rfl, hg, hca⟩
        · simp at hlt
        rcases hrb with rfl | ⟨g2, o2, rfl, hg2, hcb⟩
        · simp at hlt2
        have c1 := (hca k hlt).below HB
        have c2 := (hcb k hlt2).below HB
        clear hca hcb
        obtain ⟨p0, p1, p2, p3, p4, p5⟩ := c1
        obtain ⟨q0, q1, q2, q3, q4, q5⟩ := c2
        have i0 : (0 : Int) ≤ (k : Int) := Int.natCast_nonneg _
        have i1 : (k : Int) < (a.length : Int) := by omega
        have i2 : (k : Int) < (b.length : Int) := by omega
        have HC := Lib.hid (fun W => eqFlat_calls a[k] b[k] W)
        unfold flV at HC
        have HE : Hid (eqFl a[k] b[k] = decide (a[k] = b[k])) := Lib.hid rfl
        generalize eqFl a[k] b[k] = r at *
        go_wp2_with fail
        go_region_held3 (fun w' => w'.cell? ⟨g, o + k * 6, none⟩ = some (.int .i64 a[k].op) ∧ w'.cell? ⟨g, o + k * 6 + 1, none⟩ = some (.int .i64 a[k].dO) ∧ w'.cell? ⟨g, o + k * 6 + 2, none⟩ = some (.int .i64 a[k].dst) ∧ w'.cell? ⟨g, o + k * 6 + 3, none⟩ = some (.int .i64 a[k].a) ∧ w'.cell? ⟨g, o + k * 6 + 4, none⟩ = some (.int .i64 a[k].b) ∧ w'.cell? ⟨g, o + k * 6 + 5, none⟩ = some (.int .i64 a[k].n) ∧
          w'.cell? ⟨g2, o2 + k * 6, none⟩ = some (.int .i64 b[k].op) ∧ w'.cell? ⟨g2, o2 + k * 6 + 1, none⟩ = some (.int .i64 b[k].dO) ∧ w'.cell? ⟨g2, o2 + k * 6 + 2, none⟩ = some (.int .i64 b[k].dst) ∧ w'.cell? ⟨g2, o2 + k * 6 + 3, none⟩ = some (.int .i64 b[k].a) ∧ w'.cell? ⟨g2, o2 + k * 6 + 4, none⟩ = some (.int .i64 b[k].b) ∧ w'.cell? ⟨g2, o2 + k * 6 + 5, none⟩ = some (.int .i64 b[k].n))
          (first | go_keep | (go_split_ands; refine ⟨?_, ?_, ?_, ?_, ?_, ?_, ?_, ?_, ?_, ?_, ?_, ?_⟩ <;> exact cell_below hb1 (by assumption)))
          ((go_at_call 140; refine (HC.out _).mono ?_; rintro e w1 ⟨rfl, hb1⟩))
        have HB1 : Below w.heap.size w w1 := by first | exact below_then HB hb1 | exact below_then (below_drew HB) hb1 | exact below_then (below_drewN HB _) hb1
        clear hb1
        cases r
        · go_wp2
          go_ret
          exact ⟨ret_bool (by rw [eq_comm, decide_eq_false_iff_not]; exact ne_of_get hlt hlt2 (of_decide_eq_false HE.out.symm)), HB1⟩
        · go_wp2
          go_roundw
          case rel => exact ⟨k + 1, by omega, by go_num, Lib.hid (take_succ_eq hlt hlt2 HT.out (of_decide_eq_true HE.out.symm)), HB1⟩
          case measure => simp [intOf]; omega
      · obtain rfl : k = a.length := by omega
        go_wp2
        go_ret
        refine ⟨ret_bool ?_, HB⟩
        have := HT.out
        rw [List.take_length, HL.out, List.take_length] at this
        rw [eq_comm, decide_eq_true_eq]; exact this
  · have ht1 : ((a.length : Int) != (b.length : Int)) = true := by rw [bne_iff_ne]; omega
    have hn : a ≠ b := fun h => hl (by rw [h])
    have HN := Lib.hid hn
    clear hl hn hra hrb
    go_enter Tryz.func94, Tryz.ntmps94
    go_wp2
    go_ret
    exact ⟨ret_bool (by rw [eq_comm, decide_eq_false_iff_not]; exact HN.out), Below.refl _ _⟩
end Go.Proofs.YtnfaibenekninaaGreat.L

set_option linter.unusedVariables false
namespace Go.Proofs.YtnfaibenekninaaGreat.L
open Go.RowKit
def eqIl (x y : List Int) : Bool := decide (x = y)
set_option maxHeartbeats 2000000 in
theorem eqIntSS_calls {F G : Nat → Prop} (va vb : Value) (a b : List (List Int)) (w : World) (ha : Rp.Rd (Rp.sl Rp.int) w F va a) (hb : Rp.Rd (Rp.sl Rp.int) w G vb b) :
    Calls Tryz.prog 118 #[va, vb] w fun e w' => e = .returned (.bool (decide (a = b))) ∧ Below w.heap.size w w' := by
  obtain ⟨A, c, rfl, hlc, hcm, hra⟩ := rd_ints ha
  obtain ⟨B, d, rfl, hld, hdm, hrb⟩ := rd_ints hb
  by_cases hl : a.length = b.length
  · have HL := Lib.hid hl
    have hle1 : a.length ≤ b.length := by omega
    have hle2 : b.length ≤ a.length := by omega
    have ht1 : ((a.length : Int) != (b.length : Int)) = false := by rw [bne_eq_false_iff_eq]; omega
    clear hl
    go_enter Tryz.func118, Tryz.ntmps118
    go_wp2
    go_loopw [5] (fun i wr => ∃ k : Nat, k ≤ a.length ∧ i = .int .i64 k ∧ Hid (a.take k = b.take k) ∧ Below w.heap.size w wr) (fun i _ => a.length - (intOf i).toNat)
    case atStart => exact ⟨0, Nat.zero_le _, rfl, Lib.hid rfl, Below.refl _ _⟩
    case round =>
      obtain ⟨k, hk, rfl, HT, HB⟩ := hrel
      by_cases hlt : k < a.length
      · have hlt2 : k < b.length := by omega
        rcases hra with rfl | ⟨g, o, rfl, hg, hca⟩
        · simp at hlt
        rcases hrb with rfl | ⟨g2, o2, rfl, hg2, hcb⟩
        · simp at hlt2
        obtain ⟨u, c1, hu⟩ := hca k hlt
        obtain ⟨v, c2, hv⟩ := hcb k hlt2
        replace c1 := cell_below HB c1
        replace c2 := cell_below HB c2
        replace hu := hu.below HB
        replace hv := hv.below HB
        clear hca hcb
        have ⟨A0, k0, hv0, _⟩ := hu
        have ⟨A2, k2, hv2, _⟩ := hv
        subst hv0 hv2
        have i0 : (0 : Int) ≤ (k : Int) := Int.natCast_nonneg _
        have i1 : (k : Int) < (a.length : Int) := by omega
        have i2 : (k : Int) < (b.length : Int) := by omega
        have HC := Lib.hid (fun W (hb : Below wr.heap.size wr W) => eqIntS_calls _ _ a[k] b[k] W (hu.below hb) (hv.below hb))
        clear hu hv
        have HE : Hid (decide (a[k] = b[k]) = decide (a[k] = b[k])) := Lib.hid rfl
        have HE : Hid (eqIl a[k] b[k] = decide (a[k] = b[k])) := Lib.hid rfl
        change Hid (∀ W (hb : Below wr.heap.size wr W), Calls Tryz.prog 95 #[.slice A0 a[k].length k0, .slice A2 b[k].length k2] W fun e w' => e = .returned (.bool (eqIl a[k] b[k])) ∧ Below W.heap.size W w') at HC
        generalize eqIl a[k] b[k] = r at *
        go_wp2_with fail
        go_region_held3 (fun w' => w'.cell? ⟨g, o + k, none⟩ = some (.slice A0 a[k].length k0) ∧ w'.cell? ⟨g2, o2 + k, none⟩ = some (.slice A2 b[k].length k2))
          (first | go_keep | (go_split_ands; refine ⟨?_, ?_⟩ <;> exact cell_below hb1 (by assumption)))
          ((go_at_call 95; refine (HC.out _ (by first | exact Below.refl _ _ | exact below_drew (Below.refl _ _) | exact below_drewN (Below.refl _ _) _)).mono ?_; rintro e w1 ⟨rfl, hb1⟩))
        have HB1 : Below w.heap.size w w1 := by first | exact below_then HB hb1 | exact below_then (below_drew HB) hb1 | exact below_then (below_drewN HB _) hb1
        clear hb1 HC
        cases r
        · go_wp2
          go_ret
          exact ⟨ret_bool (by rw [eq_comm, decide_eq_false_iff_not]; exact ne_of_get hlt hlt2 (of_decide_eq_false HE.out.symm)), HB1⟩
        · go_wp2
          go_roundw
          case rel => exact ⟨k + 1, by omega, by go_num, Lib.hid (take_succ_eq hlt hlt2 HT.out (of_decide_eq_true HE.out.symm)), HB1⟩
          case measure => simp [intOf]; omega
      · obtain rfl : k = a.length := by omega
        go_wp2
        go_ret
        refine ⟨ret_bool ?_, HB⟩
        have := HT.out
        rw [List.take_length, HL.out, List.take_length] at this
        rw [eq_comm, decide_eq_true_eq]; exact this
  · have ht1 : ((a.length : Int) != (b.length : Int)) = true := by rw [bne_iff_ne]; omega
    have hn : a ≠ b := fun h => hl (by rw [h])
    have HN := Lib.hid hn
    clear hl hn hra hrb
    go_enter Tryz.func118, Tryz.ntmps118
    go_wp2
    go_ret
    exact ⟨ret_bool (by rw [eq_comm, decide_eq_false_iff_not]; exact HN.out), Below.refl _ _⟩
end Go.Proofs.YtnfaibenekninaaGreat.L

set_option linter.unusedVariables false
set_option linter.unusedSimpArgs false
namespace Go.Proofs.YtnfaibenekninaaGreat.L
open Go.RowKit
def eqPt (x y : Pt) : Bool := decide (x = y)
set_option maxHeartbeats 4000000 in
theorem eqPart_calls {F G : Nat → Prop} (x y : Pt) (vparams vcode vnext vargs uparams ucode unext uargs : Value) (w : World) (hparams : Rp.Rd Rp.int w F vparams x.params) (hcode : Rp.Rd flat w F vcode x.code) (hnext : Rp.Rd Rp.int w F vnext x.next) (hargs : Rp.Rd (Rp.sl Rp.int) w F vargs x.args) (gparams : Rp.Rd Rp.int w G uparams y.params) (gcode : Rp.Rd flat w G ucode y.code) (gnext : Rp.Rd Rp.int w G unext y.next) (gargs : Rp.Rd (Rp.sl Rp.int) w G uargs y.args) :
    Calls Tryz.prog 73 #[ptV x vparams vcode vnext vargs, ptV y uparams ucode unext uargs] w fun e w' => e = .returned (.bool (eqPt x y)) ∧ Below w.heap.size w w' := by
  have HP : eqPt x y = (decide (x.params = y.params) && decide (x.code = y.code) && x.go == y.go && x.test == y.test && decide (x.next = y.next) && decide (x.args = y.args)) := by
    unfold eqPt
    rw [Bool.eq_iff_iff]
    obtain ⟨a0, a1, a2, a3, a4, a5⟩ := x
    obtain ⟨b0, b1, b2, b3, b4, b5⟩ := y
    simp [and_assoc]
  have HP := Lib.hid HP
  have Hparams := fun W (hW : Below w.heap.size w W) => eqIntS_calls vparams uparams x.params y.params W (hparams.below hW) (gparams.below hW)
  have Hcode := fun W (hW : Below w.heap.size w W) => eqFlatS_calls vcode ucode x.code y.code W (hcode.below hW) (gcode.below hW)
  have Hnext := fun W (hW : Below w.heap.size w W) => eqIntS_calls vnext unext x.next y.next W (hnext.below hW) (gnext.below hW)
  have Hargs := fun W (hW : Below w.heap.size w W) => eqIntSS_calls vargs uargs x.args y.args W (hargs.below hW) (gargs.below hW)
  generalize decide (x.params = y.params) = rparams at *
  have Hparams := Lib.hid Hparams
  generalize decide (x.code = y.code) = rcode at *
  have Hcode := Lib.hid Hcode
  generalize decide (x.next = y.next) = rnext at *
  have Hnext := Lib.hid Hnext
  generalize decide (x.args = y.args) = rargs at *
  have Hargs := Lib.hid Hargs
  have ⟨Aparams, kparams, yparams, _⟩ := hparams
  have ⟨Bparams, dparams, zparams, _⟩ := gparams
  have ⟨Acode, kcode, ycode, _⟩ := hcode
  have ⟨Bcode, dcode, zcode, _⟩ := gcode
  have ⟨Anext, knext, ynext, _⟩ := hnext
  have ⟨Bnext, dnext, znext, _⟩ := gnext
  have ⟨Aargs, kargs, yargs, _⟩ := hargs
  have ⟨Bargs, dargs, zargs, _⟩ := gargs
  subst yparams ycode ynext yargs zparams zcode znext zargs
  clear hparams gparams hcode gcode hnext gnext hargs gargs
  unfold ptV
  go_enter Tryz.func73, Tryz.ntmps73
  go_wp2_with fail
  have HB : Below w.heap.size w ((w.alloc (.cells #[.slice Aparams x.params.length kparams, .slice Acode x.code.length kcode, .int .i64 x.go, .int .i64 x.test, .slice Anext x.next.length knext, .slice Aargs x.args.length kargs] 67)).alloc (.cells #[.slice Bparams y.params.length dparams, .slice Bcode y.code.length dcode, .int .i64 y.go, .int .i64 y.test, .slice Bnext y.next.length dnext, .slice Bargs y.args.length dargs] 67)) := (below_new _).alloc (by simp) _
  have b1 := heap_alloc2_old w (.cells #[.slice Aparams x.params.length kparams, .slice Acode x.code.length kcode, .int .i64 x.go, .int .i64 x.test, .slice Anext x.next.length knext, .slice Aargs x.args.length kargs] 67) (.cells #[.slice Bparams y.params.length dparams, .slice Bcode y.code.length dcode, .int .i64 y.go, .int .i64 y.test, .slice Bnext y.next.length dnext, .slice Bargs y.args.length dargs] 67)
  have b2 := heap_alloc2_new w (.cells #[.slice Aparams x.params.length kparams, .slice Acode x.code.length kcode, .int .i64 x.go, .int .i64 x.test, .slice Anext x.next.length knext, .slice Aargs x.args.length kargs] 67) (.cells #[.slice Bparams y.params.length dparams, .slice Bcode y.code.length dcode, .int .i64 y.go, .int .i64 y.test, .slice Bnext y.next.length dnext, .slice Bargs y.args.length dargs] 67)
  refine (Hparams.out _ HB).mono ?_
  rintro e w0 ⟨rfl, hb⟩
  replace b1 := blk_below b1 hb; replace b2 := blk_below b2 hb; replace HB := below_then HB hb
  clear hb
  obtain ⟨c1, f1⟩ := cell_of_block b1; obtain ⟨c2, f2⟩ := cell_of_block b2
  have s1 := blk_lt b1; have s2 := blk_lt b2
  cases rparams
  · go_wp2
    go_ret
    refine ⟨ret_bool ?_, HB⟩
    rw [HP.out]
    clear HP Hparams Hcode Hnext Hargs c1 f1 c2 f2
    simp_all
  go_wp2_with fail
  all_goals try (go_ret; refine ⟨ret_bool ?_, HB⟩; rw [HP.out]; clear HP Hparams Hcode Hnext Hargs c1 f1 c2 f2; simp_all; done)
  refine (Hcode.out _ HB).mono ?_
  rintro e w1 ⟨rfl, hb⟩
  replace b1 := blk_below b1 hb; replace b2 := blk_below b2 hb; replace HB := below_then HB hb
  clear hb c1 f1 c2 f2
  obtain ⟨c1, f1⟩ := cell_of_block b1; obtain ⟨c2, f2⟩ := cell_of_block b2
  replace s1 := blk_lt b1; replace s2 := blk_lt b2
  cases rcode
  · go_wp2
    go_ret
    refine ⟨ret_bool ?_, HB⟩
    rw [HP.out]
    clear HP Hparams Hcode Hnext Hargs c1 f1 c2 f2
    simp_all
  go_wp2_with fail
  all_goals try (go_ret; refine ⟨ret_bool ?_, HB⟩; rw [HP.out]; clear HP Hparams Hcode Hnext Hargs c1 f1 c2 f2; simp_all; done)
  refine (Hnext.out _ HB).mono ?_
  rintro e w2 ⟨rfl, hb⟩
  replace b1 := blk_below b1 hb; replace b2 := blk_below b2 hb; replace HB := below_then HB hb
  clear hb c1 f1 c2 f2
  obtain ⟨c1, f1⟩ := cell_of_block b1; obtain ⟨c2, f2⟩ := cell_of_block b2
  replace s1 := blk_lt b1; replace s2 := blk_lt b2
  cases rnext
  · go_wp2
    go_ret
    refine ⟨ret_bool ?_, HB⟩
    rw [HP.out]
    clear HP Hparams Hcode Hnext Hargs c1 f1 c2 f2
    simp_all
  go_wp2_with fail
  all_goals try (go_ret; refine ⟨ret_bool ?_, HB⟩; rw [HP.out]; clear HP Hparams Hcode Hnext Hargs c1 f1 c2 f2; simp_all; done)
  refine (Hargs.out _ HB).mono ?_
  rintro e w3 ⟨rfl, hb⟩
  replace b1 := blk_below b1 hb; replace b2 := blk_below b2 hb; replace HB := below_then HB hb
  clear hb c1 f1 c2 f2
  obtain ⟨c1, f1⟩ := cell_of_block b1; obtain ⟨c2, f2⟩ := cell_of_block b2
  replace s1 := blk_lt b1; replace s2 := blk_lt b2
  cases rargs
  all_goals
    go_wp2_with fail
  all_goals
    go_ret
    refine ⟨ret_bool ?_, HB⟩
    rw [HP.out]
    clear HP Hparams Hcode Hnext Hargs c1 f1 c2 f2
    simp_all
end Go.Proofs.YtnfaibenekninaaGreat.L

set_option linter.unusedVariables false
set_option linter.unusedSimpArgs false
namespace Go.Proofs.YtnfaibenekninaaGreat.L
open Go.RowKit
set_option maxHeartbeats 2000000 in
theorem eqPartS_calls {F G : Nat → Prop} (va vb : Value) (a b : List Pt) (w : World) (ha : Rp.Rd part w F va a) (hb : Rp.Rd part w G vb b) :
    Calls Tryz.prog 28 #[va, vb] w fun e w' => e = .returned (.bool (decide (a = b))) ∧ Below w.heap.size w w' := by
  obtain ⟨A, c, rfl, hlc, hcm, hra⟩ := rd_part ha
  obtain ⟨B, d, rfl, hld, hdm, hrb⟩ := rd_part hb
  by_cases hl : a.length = b.length
  · have HL := Lib.hid hl
    have hle1 : a.length ≤ b.length := by omega
    have hle2 : b.length ≤ a.length := by omega
    have ht1 : ((a.length : Int) != (b.length : Int)) = false := by rw [bne_eq_false_iff_eq]; omega
    clear hl
    go_enter Tryz.func28, Tryz.ntmps28
    go_wp2
    go_loopw [5] (fun i wr => ∃ k : Nat, k ≤ a.length ∧ i = .int .i64 k ∧ Hid (a.take k = b.take k) ∧ Below w.heap.size w wr) (fun i _ => a.length - (intOf i).toNat)
    case atStart => exact ⟨0, Nat.zero_le _, rfl, Lib.hid rfl, Below.refl _ _⟩
    case round =>
      obtain ⟨k, hk, rfl, HT, HB⟩ := hrel
      by_cases hlt : k < a.length
      · have hlt2 : k < b.length := by omega
        rcases hra with rfl | ⟨g, o, rfl, hg, hca⟩
        · simp at hlt
        rcases hrb with rfl | ⟨g2, o2, rfl, hg2, hcb⟩
        · simp at hlt2
        obtain ⟨vparams, vcode, vnext, vargs, c1, hparams, hcode, hnext, hargs⟩ := hca k hlt
        obtain ⟨uparams, ucode, unext, uargs, c2, gparams, gcode, gnext, gargs⟩ := hcb k hlt2
        replace c1 := partAt_below c1 HB
        replace c2 := partAt_below c2 HB
        replace hparams := hparams.below HB
        replace gparams := gparams.below HB
        replace hcode := hcode.below HB
        replace gcode := gcode.below HB
        replace hnext := hnext.below HB
        replace gnext := gnext.below HB
        replace hargs := hargs.below HB
        replace gargs := gargs.below HB
        clear hca hcb
        obtain ⟨p0, p1, p2, p3, p4, p5⟩ := c1
        obtain ⟨q0, q1, q2, q3, q4, q5⟩ := c2
        have ⟨Aparams, kparams, yparams, _⟩ := hparams
        have ⟨Bparams, dparams, zparams, _⟩ := gparams
        have ⟨Acode, kcode, ycode, _⟩ := hcode
        have ⟨Bcode, dcode, zcode, _⟩ := gcode
        have ⟨Anext, knext, ynext, _⟩ := hnext
        have ⟨Bnext, dnext, znext, _⟩ := gnext
        have ⟨Aargs, kargs, yargs, _⟩ := hargs
        have ⟨Bargs, dargs, zargs, _⟩ := gargs
        subst yparams ycode ynext yargs zparams zcode znext zargs
        have i0 : (0 : Int) ≤ (k : Int) := Int.natCast_nonneg _
        have i1 : (k : Int) < (a.length : Int) := by omega
        have i2 : (k : Int) < (b.length : Int) := by omega
        have HC := Lib.hid (fun W (hb : Below wr.heap.size wr W) => eqPart_calls a[k] b[k] _ _ _ _ _ _ _ _ W (hparams.below hb) (hcode.below hb) (hnext.below hb) (hargs.below hb) (gparams.below hb) (gcode.below hb) (gnext.below hb) (gargs.below hb))
        unfold ptV at HC
        clear hparams gparams hcode gcode hnext gnext hargs gargs
        have HE : Hid (eqPt a[k] b[k] = decide (a[k] = b[k])) := Lib.hid rfl
        generalize eqPt a[k] b[k] = r at *
        go_wp2_with fail
        go_region_held3 (fun w' => w'.cell? ⟨g, o + k * 6, none⟩ = some (.slice Aparams a[k].params.length kparams) ∧ w'.cell? ⟨g, o + k * 6 + 1, none⟩ = some (.slice Acode a[k].code.length kcode) ∧ w'.cell? ⟨g, o + k * 6 + 2, none⟩ = some (.int .i64 a[k].go) ∧ w'.cell? ⟨g, o + k * 6 + 3, none⟩ = some (.int .i64 a[k].test) ∧ w'.cell? ⟨g, o + k * 6 + 4, none⟩ = some (.slice Anext a[k].next.length knext) ∧ w'.cell? ⟨g, o + k * 6 + 5, none⟩ = some (.slice Aargs a[k].args.length kargs) ∧
          w'.cell? ⟨g2, o2 + k * 6, none⟩ = some (.slice Bparams b[k].params.length dparams) ∧ w'.cell? ⟨g2, o2 + k * 6 + 1, none⟩ = some (.slice Bcode b[k].code.length dcode) ∧ w'.cell? ⟨g2, o2 + k * 6 + 2, none⟩ = some (.int .i64 b[k].go) ∧ w'.cell? ⟨g2, o2 + k * 6 + 3, none⟩ = some (.int .i64 b[k].test) ∧ w'.cell? ⟨g2, o2 + k * 6 + 4, none⟩ = some (.slice Bnext b[k].next.length dnext) ∧ w'.cell? ⟨g2, o2 + k * 6 + 5, none⟩ = some (.slice Bargs b[k].args.length dargs))
          (first | go_keep | (go_split_ands; refine ⟨?_, ?_, ?_, ?_, ?_, ?_, ?_, ?_, ?_, ?_, ?_, ?_⟩ <;> exact cell_below hb1 (by assumption)))
          ((go_at_call 73; refine (HC.out _ (by first | exact Below.refl _ _ | exact below_drew (Below.refl _ _) | exact below_drewN (Below.refl _ _) _)).mono ?_; rintro e w1 ⟨rfl, hb1⟩))
        have HB1 : Below w.heap.size w w1 := by first | exact below_then HB hb1 | exact below_then (below_drew HB) hb1 | exact below_then (below_drewN HB _) hb1
        clear hb1 HC
        cases r
        · go_wp2
          go_ret
          exact ⟨ret_bool (by rw [eq_comm, decide_eq_false_iff_not]; exact ne_of_get hlt hlt2 (of_decide_eq_false HE.out.symm)), HB1⟩
        · go_wp2
          go_roundw
          case rel => exact ⟨k + 1, by omega, by go_num, Lib.hid (take_succ_eq hlt hlt2 HT.out (of_decide_eq_true HE.out.symm)), HB1⟩
          case measure => simp [intOf]; omega
      · obtain rfl : k = a.length := by omega
        go_wp2
        go_ret
        refine ⟨ret_bool ?_, HB⟩
        have := HT.out
        rw [List.take_length, HL.out, List.take_length] at this
        rw [eq_comm, decide_eq_true_eq]; exact this
  · have ht1 : ((a.length : Int) != (b.length : Int)) = true := by rw [bne_iff_ne]; omega
    have hn : a ≠ b := fun h => hl (by rw [h])
    have HN := Lib.hid hn
    clear hl hn hra hrb
    go_enter Tryz.func28, Tryz.ntmps28
    go_wp2
    go_ret
    exact ⟨ret_bool (by rw [eq_comm, decide_eq_false_iff_not]; exact HN.out), Below.refl _ _⟩
end Go.Proofs.YtnfaibenekninaaGreat.L

set_option linter.unusedVariables false
set_option linter.unusedSimpArgs false
namespace Go.Proofs.YtnfaibenekninaaGreat.L
open Go.RowKit
def eqSa (x y : Sa) : Bool := decide (x = y)
set_option maxHeartbeats 4000000 in
theorem eqSsa_calls {F G : Nat → Prop} (x y : Sa) (vparts uparts : Value) (w : World) (hparts : Rp.Rd part w F vparts x.parts) (gparts : Rp.Rd part w G uparts y.parts) :
    Calls Tryz.prog 10 #[saV x vparts, saV y uparts] w fun e w' => e = .returned (.bool (eqSa x y)) ∧ Below w.heap.size w w' := by
  have HP : eqSa x y = (decide (x.parts = y.parts) && x.values == y.values) := by
    unfold eqSa
    rw [Bool.eq_iff_iff]
    obtain ⟨a0, a1⟩ := x
    obtain ⟨b0, b1⟩ := y
    simp [and_assoc]
  have HP := Lib.hid HP
  have Hparts := fun W (hW : Below w.heap.size w W) => eqPartS_calls vparts uparts x.parts y.parts W (hparts.below hW) (gparts.below hW)
  generalize decide (x.parts = y.parts) = rparts at *
  have Hparts := Lib.hid Hparts
  have ⟨Aparts, kparts, yparts, _⟩ := hparts
  have ⟨Bparts, dparts, zparts, _⟩ := gparts
  subst yparts zparts
  clear hparts gparts
  unfold saV
  go_enter Tryz.func10, Tryz.ntmps10
  go_wp2_with fail
  have HB : Below w.heap.size w ((w.alloc (.cells #[.slice Aparts x.parts.length kparts, .int .i64 x.values] 28)).alloc (.cells #[.slice Bparts y.parts.length dparts, .int .i64 y.values] 28)) := (below_new _).alloc (by simp) _
  have b1 := heap_alloc2_old w (.cells #[.slice Aparts x.parts.length kparts, .int .i64 x.values] 28) (.cells #[.slice Bparts y.parts.length dparts, .int .i64 y.values] 28)
  have b2 := heap_alloc2_new w (.cells #[.slice Aparts x.parts.length kparts, .int .i64 x.values] 28) (.cells #[.slice Bparts y.parts.length dparts, .int .i64 y.values] 28)
  refine (Hparts.out _ HB).mono ?_
  rintro e w0 ⟨rfl, hb⟩
  replace b1 := blk_below b1 hb; replace b2 := blk_below b2 hb; replace HB := below_then HB hb
  clear hb
  obtain ⟨c1, f1⟩ := cell_of_block b1; obtain ⟨c2, f2⟩ := cell_of_block b2
  have s1 := blk_lt b1; have s2 := blk_lt b2
  cases rparts
  all_goals
    go_wp2_with fail
  all_goals
    go_ret
    refine ⟨ret_bool ?_, HB⟩
    rw [HP.out]
    clear HP Hparts c1 f1 c2 f2
    simp_all
end Go.Proofs.YtnfaibenekninaaGreat.L
