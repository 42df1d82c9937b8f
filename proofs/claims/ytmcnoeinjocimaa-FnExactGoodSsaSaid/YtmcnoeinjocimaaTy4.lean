/- The kind of an ssa. -/
import Derived.Test.YtmcnoeinjocimaaTy3
set_option linter.unusedVariables false
namespace Go.Proofs.Ytmcnoeinjocimaa.L
open Go.RowKit
structure Sa where
  parts : List Pt
  values : Int
deriving DecidableEq
def Sa.t (x : Sa) : List Pt × Int := (x.parts, x.values)
def saV (x : Sa) (vparts : Value) : Value := .agg #[vparts, .int .i64 x.values]
def ssa : Rp Sa := (((Rp.sl part).pair Rp.int)).iso Sa.t
theorem ssa_open {w : World} {F : Nat → Prop} {x : Sa} {cs : List Value} (h : ssa.K w F x cs) : ∃ vparts, cs = [vparts, .int .i64 x.values] ∧ Rp.Rd part w F vparts x.parts := by
  obtain ⟨_, _, rfl, ⟨vparts, rfl, hparts⟩, rfl⟩ := h
  exact ⟨vparts, rfl, hparts⟩
theorem ssa_mk {w : World} {F : Nat → Prop} {x : Sa} {vparts : Value} (hparts : Rp.Rd part w F vparts x.parts) : ssa.K w F x [vparts, .int .i64 x.values] := ⟨[_], _, rfl, ⟨vparts, rfl, hparts⟩, rfl⟩
def ssaA : Rp Sa := (((Rp.ow true 54 partA).pair Rp.int)).iso Sa.t
theorem ssaA_open {w : World} {F : Nat → Prop} {x : Sa} {cs : List Value} (h : ssaA.K w F x cs) : ∃ G0 : Nat → Prop, (∀ k, G0 k → F k) ∧ ∃ vparts, cs = [vparts, .int .i64 x.values] ∧ Ow true 54 partA w G0 vparts x.parts := by
  obtain ⟨_, _, rfl, ⟨vparts, rfl, hparts⟩, rfl⟩ := h
  exact ⟨F, fun _ h => h, vparts, rfl, hparts⟩
theorem ssaA_mk {w : World} {F G0 : Nat → Prop} {x : Sa} {vparts : Value} (iG0 : ∀ k, G0 k → F k)  (hparts : Ow true 54 partA w G0 vparts x.parts) : ssaA.K w F x [vparts, .int .i64 x.values] := by
  refine ⟨[_], _, rfl, ⟨vparts, rfl, hparts.mono iG0⟩, ?_⟩
  exact rfl
theorem ssaA_le : Rp.Le ssaA ssa := Rp.Le.iso (Rp.Le.pair (Rp.Le.ow partA_le) (Rp.Le.refl _)) _
def ssaAt (w : World) (b o : Nat) (x : Sa) (vparts : Value) : Prop := w.cell? ⟨b, o, none⟩ = some (vparts) ∧ w.cell? ⟨b, o + 1, none⟩ = some (.int .i64 x.values)
theorem ssaAt_below {w w1 : World} {b o : Nat} {x : Sa} {vparts : Value} (h : ssaAt w b o x vparts) (hb : Below w.heap.size w w1) : ssaAt w1 b o x vparts := ⟨cell_below hb h.1, cell_below hb h.2⟩
theorem ssaAt_of {w : World} {b o : Nat} {x : Sa} {vparts : Value} (h : ∀ j u, ([vparts, .int .i64 x.values] : List Value)[j]? = some u → w.cell? ⟨b, o + j, none⟩ = some u) : ssaAt w b o x vparts := ⟨h 0 _ rfl, h 1 _ rfl⟩
theorem rd_ssa {w : World} {F : Nat → Prop} {v : Value} {l : List Sa} (h : Rp.Rd ssa w F v l) : ∃ A c, v = .slice A l.length c ∧ l.length ≤ c ∧ c ≤ 9223372036854775807 ∧
    (l = [] ∨ ∃ b o, A = some ⟨b, o, none⟩ ∧ b < w.heap.size ∧ ∀ (k : Nat) (hk : k < l.length), ∃ vparts, ssaAt w b (o + k * 2) l[k] vparts ∧ Rp.Rd part w F vparts l[k].parts) := by
  obtain ⟨A, c, rfl, hl, hm, h⟩ := h
  refine ⟨A, c, rfl, hl, hm, ?_⟩
  rcases h with h | ⟨b, o, rfl, _, hb, h⟩
  · exact .inl h
  · refine .inr ⟨b, o, rfl, hb, fun k hk => ?_⟩
    obtain ⟨cs, hK, hc⟩ := h k l[k] (List.getElem?_eq_getElem hk)
    obtain ⟨vparts, rfl, hparts⟩ := ssa_open hK
    refine ⟨vparts, ssaAt_of fun j u hu => ?_, hparts⟩
    rw [Nat.add_assoc]
    exact hc j u hu
end Go.Proofs.Ytmcnoeinjocimaa.L
