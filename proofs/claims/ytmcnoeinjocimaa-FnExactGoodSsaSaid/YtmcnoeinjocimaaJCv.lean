/- Cv6 Cv7: joined. -/
import Derived.Test.YtmcnoeinjocimaaCv5
import Derived.Test.YtmcnoeinjocimaaTy4
set_option linter.unusedVariables false
set_option linter.unusedSimpArgs false
namespace Go.Proofs.Ytmcnoeinjocimaa.L
open Go.RowKit
def zPt : Pt := ⟨[], [], 0, 0, [], []⟩
theorem zPt_mk (w : World) : partA.K w (fun _ => False) zPt [.slice none 0 0, .slice none 0 0, .int .i64 0, .int .i64 0, .slice none 0 0, .slice none 0 0] :=
  partA_mk (G0 := fun _ => False) (G1 := fun _ => False) (G2 := fun _ => False) (G3 := fun _ => False) (fun _ h => h) (fun _ h => h) (fun _ h => h) (fun _ h => h) (fun _ h _ => h) (fun _ h _ => h) (fun _ h _ => h) (fun _ h _ => h) (fun _ h _ => h) (fun _ h _ => h) (Ow.nil _ _ _ _ _) (Ow.nil _ _ _ _ _) (Ow.nil _ _ _ _ _) (Ow.nil _ _ _ _ _)
theorem Ow.part_at {e g n c : Nat} {w : World} {F : Nat → Prop} {l : List Pt} (h : Ow true e partA w F (.slice (some ⟨g, 0, none⟩) n c) l) {k : Nat} (hk : k < l.length) :
    ∃ vparams vcode vnext vargs, partAt w g (k * 6) l[k] vparams vcode vnext vargs ∧ ∀ o, w.frozen? ⟨g, o, none⟩ = false := by
  obtain ⟨g', c', cs, he, _, _, hK, hc, hf⟩ := h.at_ (List.getElem?_eq_getElem hk)
  injection he with he _ _
  injection he with he
  injection he with he _
  subst he
  obtain ⟨_, _, _, _, _, _, _, _, _, _, _, _, _, _, vparams, vcode, vnext, vargs, rfl, _, _, _, _⟩ := partA_open hK
  exact ⟨vparams, vcode, vnext, vargs, partAt_of hc, hf⟩
set_option maxHeartbeats 1000000 in
theorem toPartS_calls {F : Nat → Prop} (v : Value) (l : List Pt) (w : World) (h : Rp.Rd part w F v l) (hl : l.length ≤ 1048576) (hx : ∀ x ∈ l, PtLim x) :
    Calls Try.prog 51 #[v] w fun e w' => ∃ v', e = .returned v' ∧ Ow true 54 partA w' (fun k => w.heap.size ≤ k) v' l ∧ Below w.heap.size w w' := by
  obtain ⟨A, c, rfl, hlc, hcm, hrow⟩ := rd_part h
  have hmk := mk_all Try.underlying27 infoPart l.length (by omega) (by omega)
  go_enter Try.func51, Try.ntmps51
  go_wp2
  have hstart : Ow true 54 partA (w.alloc (.cells (madeCells #[.slice none 0 0, .slice none 0 0, .int .i64 0, .int .i64 0, .slice none 0 0, .slice none 0 0] (l.length * 6)) 54)) (fun k => w.heap.size ≤ k) (.slice (some ⟨w.heap.size, 0, none⟩) l.length l.length) (List.replicate l.length zPt) :=
    (ow_alloc (r := partA) w (by omega) rfl (by decide) zPt_mk).mono (fun k hk => by omega)
  go_loopw [4] (fun i wr => ∃ k : Nat, k ≤ l.length ∧ i = .int .i64 k ∧ Ow true 54 partA wr (fun k => w.heap.size ≤ k) (.slice (some ⟨w.heap.size, 0, none⟩) l.length l.length) (l.take k ++ List.replicate (l.length - k) zPt) ∧ Below w.heap.size w wr) (fun i _ => l.length - (intOf i).toNat)
  case atStart =>
    exact ⟨0, Nat.zero_le _, rfl, by simpa using hstart, below_new _⟩
  case round =>
    obtain ⟨k, hk, rfl, HO, HB⟩ := hrel
    by_cases hlt : k < l.length
    · rcases hrow with rfl | ⟨b, o, rfl, hb, hcell⟩
      · simp at hlt
      obtain ⟨vparams, vcode, vnext, vargs, c1, hparams, hcode, hnext, hargs⟩ := hcell k hlt
      replace c1 := partAt_below c1 HB
      replace hparams := hparams.below HB
      replace hcode := hcode.below HB
      replace hnext := hnext.below HB
      replace hargs := hargs.below HB
      clear hcell hstart
      obtain ⟨q0, q1, q2, q3, q4, q5⟩ := c1
      have ⟨Bparams, dparams, yparams, _⟩ := hparams
      have ⟨Bcode, dcode, ycode, _⟩ := hcode
      have ⟨Bnext, dnext, ynext, _⟩ := hnext
      have ⟨Bargs, dargs, yargs, _⟩ := hargs
      subst yparams ycode ynext yargs
      have hy := hx l[k] (List.getElem_mem hlt)
      go_wp2_with fail
      refine (toPart_calls l[k] _ _ _ _ _ hparams hcode hnext hargs hy).mono ?_
      rintro e w1 ⟨vparams', vcode', vnext', vargs', rfl, HK, hb1⟩
      unfold ptV
      have HO1 := HO.bound.below hb1
      obtain ⟨pparams, pcode, pnext, pargs, ⟨r0, r1, r2, r3, r4, r5⟩, f2⟩ := HO1.part_at (k := k) (by simp; omega)
      obtain ⟨_, _, _, _, _, _, _, _, _, _, _, _, _, _, _, _, _, _, he, hhparams, hhcode, hhnext, hhargs⟩ := partA_open HK
      simp only [List.cons.injEq, true_and, and_true] at he
      obtain ⟨rfl, rfl, rfl, rfl⟩ := he
      obtain ⟨Aparams, kparams, rfl, _, _⟩ := hhparams.form
      obtain ⟨Acode, kcode, rfl, _, _⟩ := hhcode.form
      obtain ⟨Anext, knext, rfl, _, _⟩ := hhnext.form
      obtain ⟨Aargs, kargs, rfl, _, _⟩ := hhargs.form
      clear hhparams hhcode hhnext hhargs
      go_wp2_with fail
      go_roundw
      case rel =>
        refine ⟨k + 1, by omega, by go_num, ?_, putRow_below (g := w.heap.size) (below_then HB hb1) (Nat.le_refl _) [.slice Aparams l[k].params.length kparams, .slice Acode l[k].code.length kcode, .int .i64 l[k].go, .int .i64 l[k].test, .slice Anext l[k].next.length knext, .slice Aargs l[k].args.length kargs] (k * 6)⟩
        rw [← set_take_rep _ hlt]
        exact (HO1.put rfl (by simp; omega) HK (fun q hq hq2 => by omega)).mono (fun q hq => by have := HB.size; omega)
      case measure => simp [intOf]; omega
    · obtain rfl : k = l.length := by omega
      clear hstart
      go_wp2
      go_ret
      exact ⟨_, rfl, by simpa using HO, HB⟩
end Go.Proofs.Ytmcnoeinjocimaa.L

set_option linter.unusedVariables false
set_option linter.unusedSimpArgs false
namespace Go.Proofs.Ytmcnoeinjocimaa.L
open Go.RowKit
theorem infoSsa : (Try.prog.info? 29).map (fun i => (i.zero, i.size, i.bytes)) = some (some (.agg #[.slice none 0 0, .int .i64 0]), 2, 32) := by kernel_rfl
def SaLim (x : Sa) : Prop := x.parts.length ≤ 1048576 ∧ (∀ p ∈ x.parts, PtLim p)
set_option maxHeartbeats 4000000 in
theorem toSsa_calls {F : Nat → Prop} (x : Sa) (vparts : Value) (w : World) (hparts : Rp.Rd part w F vparts x.parts) (hx : SaLim x) :
    Calls Try.prog 14 #[saV x vparts] w fun e w' => ∃ vparts', e = .returned (saV x vparts') ∧ ssaA.K w' (fun k => w.heap.size ≤ k) x [vparts', .int .i64 x.values] ∧ Below w.heap.size w w' := by
  obtain ⟨l0, l1⟩ := hx
  unfold saV
  go_enter Try.func14, Try.ntmps14
  go_wp2_with fail
  have M : Mk w (.cells #[vparts, .int .i64 x.values] 24 (0, 0)) (.cells #[.slice none 0 0, .int .i64 0] 29 (0, 0)) 29 _ #[.slice none 0 0, .int .i64 0] := Mk.start (c3 := #[.slice none 0 0, .int .i64 0])
  refine (toPartS_calls vparts x.parts _ (hparts.below M.below) l0 l1).mono ?_
  rintro e w1 ⟨Vparts, rfl, Oparts, hb⟩
  have n0 := M.size
  replace M := M.call hb
  replace Oparts := Oparts.bound
  obtain ⟨Aparts, kparts, rfl, _, _⟩ := Oparts.form
  have z0 := hb.size
  simp only [World.size_alloc, World.size_setCell] at z0 n0 Oparts
  clear hb
  obtain ⟨c1, f1⟩ := cell_of_block M.b1; obtain ⟨c2, f2⟩ := cell_of_block M.b2; obtain ⟨c3, f3⟩ := cell_of_block M.b3
  have s1 := blk_lt M.b1; have s2 := blk_lt M.b2; have s3 := blk_lt M.b3
  go_wp2_with fail
  replace M := M.set 0 (.slice Aparts x.parts.length kparts)
  replace Oparts := ow_set3 (w := w) Oparts (by intro k hk; omega) 0 (.slice Aparts x.parts.length kparts)
  replace M := M.set 1 (.int .i64 x.values)
  replace Oparts := ow_set3 (w := w) Oparts (by intro k hk; omega) 1 (.int .i64 x.values)
  replace Oparts := ow_row3 (w := w) Oparts (by intro k hk; omega) [.slice Aparts x.parts.length kparts, .int .i64 x.values]
  have cF := (cell_of_block (blk_put (blk_put M.b2 0 (.slice Aparts x.parts.length kparts)) 1 (.int .i64 x.values))).1
  have HB := putRow_below M.below (g := w.heap.size + 1) (by omega) [.slice Aparts x.parts.length kparts, .int .i64 x.values] 0
  refine bodyPost_ret (v := .agg #[.slice Aparts x.parts.length kparts, .int .i64 x.values]) (by simp [results, Try.results14, go_sem, cF]) rfl ⟨_, rfl, ?_, HB⟩
  exact ssaA_mk (fun k hk => by omega) Oparts
end Go.Proofs.Ytmcnoeinjocimaa.L
