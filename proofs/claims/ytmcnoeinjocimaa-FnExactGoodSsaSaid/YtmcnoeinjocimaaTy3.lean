/- The kind of a part of an ssa. -/
import Derived.Test.YtmcnoeinjocimaaTy1
set_option linter.unusedVariables false
namespace Go.Proofs.Ytmcnoeinjocimaa.L
open Go.RowKit
structure Pt where
  params : List Int
  code : List Fl
  go : Int
  test : Int
  next : List Int
  args : List (List Int)
deriving DecidableEq
def Pt.t (x : Pt) : List Int × List Fl × Int × Int × List Int × List (List Int) := (x.params, x.code, x.go, x.test, x.next, x.args)
def ptV (x : Pt) (vparams vcode vnext vargs : Value) : Value := .agg #[vparams, vcode, .int .i64 x.go, .int .i64 x.test, vnext, vargs]
def part : Rp Pt := (((Rp.sl Rp.int).pair ((Rp.sl flat).pair (Rp.int.pair (Rp.int.pair ((Rp.sl Rp.int).pair (Rp.sl (Rp.sl Rp.int)))))))).iso Pt.t
theorem part_open {w : World} {F : Nat → Prop} {x : Pt} {cs : List Value} (h : part.K w F x cs) : ∃ vparams vcode vnext vargs, cs = [vparams, vcode, .int .i64 x.go, .int .i64 x.test, vnext, vargs] ∧ Rp.Rd Rp.int w F vparams x.params ∧ Rp.Rd flat w F vcode x.code ∧ Rp.Rd Rp.int w F vnext x.next ∧ Rp.Rd (Rp.sl Rp.int) w F vargs x.args := by
  obtain ⟨_, _, rfl, ⟨vparams, rfl, hparams⟩, _, _, rfl, ⟨vcode, rfl, hcode⟩, _, _, rfl, rfl, _, _, rfl, rfl, _, _, rfl, ⟨vnext, rfl, hnext⟩, ⟨vargs, rfl, hargs⟩⟩ := h
  exact ⟨vparams, vcode, vnext, vargs, rfl, hparams, hcode, hnext, hargs⟩
theorem part_mk {w : World} {F : Nat → Prop} {x : Pt} {vparams vcode vnext vargs : Value} (hparams : Rp.Rd Rp.int w F vparams x.params) (hcode : Rp.Rd flat w F vcode x.code) (hnext : Rp.Rd Rp.int w F vnext x.next) (hargs : Rp.Rd (Rp.sl Rp.int) w F vargs x.args) : part.K w F x [vparams, vcode, .int .i64 x.go, .int .i64 x.test, vnext, vargs] := ⟨[_], _, rfl, ⟨vparams, rfl, hparams⟩, ⟨[_], _, rfl, ⟨vcode, rfl, hcode⟩, ⟨[_], _, rfl, rfl, ⟨[_], _, rfl, rfl, ⟨[_], _, rfl, ⟨vnext, rfl, hnext⟩, ⟨vargs, rfl, hargs⟩⟩⟩⟩⟩⟩
def partA : Rp Pt := (((Rp.ow true 3 Rp.int).pairA ((Rp.ow true 61 flat).pairA (Rp.int.pair (Rp.int.pair ((Rp.ow true 3 Rp.int).pairA (Rp.ow true 35 (Rp.ow true 3 Rp.int)))))))).iso Pt.t
theorem partA_open {w : World} {F : Nat → Prop} {x : Pt} {cs : List Value} (h : partA.K w F x cs) : ∃ G0 G1 G2 G3 : Nat → Prop, (∀ k, G0 k → F k) ∧ (∀ k, G1 k → F k) ∧ (∀ k, G2 k → F k) ∧ (∀ k, G3 k → F k) ∧ (∀ k, G0 k → ¬ G1 k) ∧ (∀ k, G0 k → ¬ G2 k) ∧ (∀ k, G0 k → ¬ G3 k) ∧ (∀ k, G1 k → ¬ G2 k) ∧ (∀ k, G1 k → ¬ G3 k) ∧ (∀ k, G2 k → ¬ G3 k) ∧ ∃ vparams vcode vnext vargs, cs = [vparams, vcode, .int .i64 x.go, .int .i64 x.test, vnext, vargs] ∧ Ow true 3 Rp.int w G0 vparams x.params ∧ Ow true 61 flat w G1 vcode x.code ∧ Ow true 3 Rp.int w G2 vnext x.next ∧ Ow true 35 (Rp.ow true 3 Rp.int) w G3 vargs x.args := by
  obtain ⟨P0, R0, a0, b0, d0, _, _, rfl, ⟨vparams, rfl, hparams⟩, P1, R1, a1, b1, d1, _, _, rfl, ⟨vcode, rfl, hcode⟩, _, _, rfl, rfl, _, _, rfl, rfl, P2, R2, a2, b2, d2, _, _, rfl, ⟨vnext, rfl, hnext⟩, ⟨vargs, rfl, hargs⟩⟩ := h
  exact ⟨P0, P1, P2, R2, fun _ h => a0 _ h, fun _ h => b0 _ (a1 _ h), fun _ h => b0 _ (b1 _ (a2 _ h)), fun _ h => b0 _ (b1 _ (b2 _ h)), fun _ h h' => d0 _ h (a1 _ h'), fun _ h h' => d0 _ h (b1 _ (a2 _ h')), fun _ h h' => d0 _ h (b1 _ (b2 _ h')), fun _ h h' => d1 _ h (a2 _ h'), fun _ h h' => d1 _ h (b2 _ h'), fun _ h h' => d2 _ h h', vparams, vcode, vnext, vargs, rfl, hparams, hcode, hnext, hargs⟩
theorem partA_mk {w : World} {F G0 G1 G2 G3 : Nat → Prop} {x : Pt} {vparams vcode vnext vargs : Value} (iG0 : ∀ k, G0 k → F k) (iG1 : ∀ k, G1 k → F k) (iG2 : ∀ k, G2 k → F k) (iG3 : ∀ k, G3 k → F k) (sG0G1 : ∀ k, G0 k → ¬ G1 k) (sG0G2 : ∀ k, G0 k → ¬ G2 k) (sG0G3 : ∀ k, G0 k → ¬ G3 k) (sG1G2 : ∀ k, G1 k → ¬ G2 k) (sG1G3 : ∀ k, G1 k → ¬ G3 k) (sG2G3 : ∀ k, G2 k → ¬ G3 k) (hparams : Ow true 3 Rp.int w G0 vparams x.params) (hcode : Ow true 61 flat w G1 vcode x.code) (hnext : Ow true 3 Rp.int w G2 vnext x.next) (hargs : Ow true 35 (Rp.ow true 3 Rp.int) w G3 vargs x.args) : partA.K w F x [vparams, vcode, .int .i64 x.go, .int .i64 x.test, vnext, vargs] := by
  refine ⟨G0, (fun k => G1 k ∨ G2 k ∨ G3 k), iG0, (fun k h => by rcases h with h | h | h <;> first | exact iG1 k h | exact iG2 k h | exact iG3 k h), (fun k h h' => by rcases h' with h' | h' | h' <;> first | exact sG0G1 k h h' | exact sG0G2 k h h' | exact sG0G3 k h h'), [_], _, rfl, ⟨vparams, rfl, hparams⟩, ?_⟩
  replace iG1 : ∀ k, G1 k → (fun k => G1 k ∨ G2 k ∨ G3 k) k := fun k h => Or.inl h
  replace iG2 : ∀ k, G2 k → (fun k => G1 k ∨ G2 k ∨ G3 k) k := fun k h => Or.inr (Or.inl h)
  replace iG3 : ∀ k, G3 k → (fun k => G1 k ∨ G2 k ∨ G3 k) k := fun k h => Or.inr (Or.inr (h))
  refine ⟨G1, (fun k => G2 k ∨ G3 k), iG1, (fun k h => by rcases h with h | h <;> first | exact iG2 k h | exact iG3 k h), (fun k h h' => by rcases h' with h' | h' <;> first | exact sG1G2 k h h' | exact sG1G3 k h h'), [_], _, rfl, ⟨vcode, rfl, hcode⟩, ?_⟩
  replace iG2 : ∀ k, G2 k → (fun k => G2 k ∨ G3 k) k := fun k h => Or.inl h
  replace iG3 : ∀ k, G3 k → (fun k => G2 k ∨ G3 k) k := fun k h => Or.inr (h)
  refine ⟨[_], _, rfl, rfl, ?_⟩
  refine ⟨[_], _, rfl, rfl, ?_⟩
  refine ⟨G2, G3, iG2, iG3, sG2G3, [_], _, rfl, ⟨vnext, rfl, hnext⟩, ?_⟩
  exact ⟨vargs, rfl, hargs⟩
theorem partA_le : Rp.Le partA part := Rp.Le.iso (Rp.Le.pairA (Rp.Le.ow (Rp.Le.refl _)) (Rp.Le.pairA (Rp.Le.ow (Rp.Le.refl _)) (Rp.Le.pair (Rp.Le.refl _) (Rp.Le.pair (Rp.Le.refl _) (Rp.Le.pairA (Rp.Le.ow (Rp.Le.refl _)) (Rp.Le.ow (Rp.Le.ow (Rp.Le.refl _)))))))) _
def partAt (w : World) (b o : Nat) (x : Pt) (vparams vcode vnext vargs : Value) : Prop := w.cell? ⟨b, o, none⟩ = some (vparams) ∧ w.cell? ⟨b, o + 1, none⟩ = some (vcode) ∧ w.cell? ⟨b, o + 2, none⟩ = some (.int .i64 x.go) ∧ w.cell? ⟨b, o + 3, none⟩ = some (.int .i64 x.test) ∧ w.cell? ⟨b, o + 4, none⟩ = some (vnext) ∧ w.cell? ⟨b, o + 5, none⟩ = some (vargs)
theorem partAt_below {w w1 : World} {b o : Nat} {x : Pt} {vparams vcode vnext vargs : Value} (h : partAt w b o x vparams vcode vnext vargs) (hb : Below w.heap.size w w1) : partAt w1 b o x vparams vcode vnext vargs := ⟨cell_below hb h.1, cell_below hb h.2.1, cell_below hb h.2.2.1, cell_below hb h.2.2.2.1, cell_below hb h.2.2.2.2.1, cell_below hb h.2.2.2.2.2⟩
theorem partAt_of {w : World} {b o : Nat} {x : Pt} {vparams vcode vnext vargs : Value} (h : ∀ j u, ([vparams, vcode, .int .i64 x.go, .int .i64 x.test, vnext, vargs] : List Value)[j]? = some u → w.cell? ⟨b, o + j, none⟩ = some u) : partAt w b o x vparams vcode vnext vargs := ⟨h 0 _ rfl, h 1 _ rfl, h 2 _ rfl, h 3 _ rfl, h 4 _ rfl, h 5 _ rfl⟩
theorem rd_part {w : World} {F : Nat → Prop} {v : Value} {l : List Pt} (h : Rp.Rd part w F v l) : ∃ A c, v = .slice A l.length c ∧ l.length ≤ c ∧ c ≤ 9223372036854775807 ∧
    (l = [] ∨ ∃ b o, A = some ⟨b, o, none⟩ ∧ b < w.heap.size ∧ ∀ (k : Nat) (hk : k < l.length), ∃ vparams vcode vnext vargs, partAt w b (o + k * 6) l[k] vparams vcode vnext vargs ∧ Rp.Rd Rp.int w F vparams l[k].params ∧ Rp.Rd flat w F vcode l[k].code ∧ Rp.Rd Rp.int w F vnext l[k].next ∧ Rp.Rd (Rp.sl Rp.int) w F vargs l[k].args) := by
  obtain ⟨A, c, rfl, hl, hm, h⟩ := h
  refine ⟨A, c, rfl, hl, hm, ?_⟩
  rcases h with h | ⟨b, o, rfl, _, hb, h⟩
  · exact .inl h
  · refine .inr ⟨b, o, rfl, hb, fun k hk => ?_⟩
    obtain ⟨cs, hK, hc⟩ := h k l[k] (List.getElem?_eq_getElem hk)
    obtain ⟨vparams, vcode, vnext, vargs, rfl, hparams, hcode, hnext, hargs⟩ := part_open hK
    refine ⟨vparams, vcode, vnext, vargs, partAt_of fun j u hu => ?_, hparams, hcode, hnext, hargs⟩
    rw [Nat.add_assoc]
    exact hc j u hu
end Go.Proofs.Ytmcnoeinjocimaa.L
