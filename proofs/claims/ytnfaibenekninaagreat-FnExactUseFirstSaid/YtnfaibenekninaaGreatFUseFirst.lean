/- For every ssa the law FnExactUseFirst answers true: the program's UseFirst is the reference's, and what it gives is its own. No condition. -/
import Derived.Test.YtnfaibenekninaaGreatRows
import Derived.Test.YtnfaibenekninaaGreatFUseFirst11
import Derived.Test.YtnfaibenekninaaGreatB10
import Derived.OpenShut
import Derived.ChangeOld
import Derived.ShutString
namespace Go.Proofs.YtnfaibenekninaaGreat.fnExactUseFirst
open Go.ChangeShapes Go.WideShapes Go.ChangeAt Go.RowKit L
open Go.ChangeMaps (open_string shut_string)
set_option linter.unusedVariables false
theorem own : ownKnob Tryz.prog.godebug = none := by kernel_rfl
theorem laidOut : laidOutB Tryz.prog = true := by kernel_rfl
set_option maxRecDepth 100000 in
theorem lifted (os : Os) (started : os.Started) (H : Type) (enc : TypeId × Value → H) :
    ReturnsInHanded {} Tryz.checked os 3 .any (Rows.fnExactUseFirstSpec.pre6 enc Tryz.prog Tryz.f3 Rows.fnExactUseFirstRow.domain false) (Rows.fnExactUseFirstSpec.post enc Tryz.prog Tryz.f3 false true false false) := by
  refine returnsInHanded_of_change (C := Tryz.checked) own started (by kernel_rfl) Tryz.func3
    (ChangeSpec.witness6 (enc := enc) (C := Tryz.checked) false ⟨#[], #[.agg #[.slice none 0 0, .int .i64 0]], []⟩ 8 (by kernel_rfl) (by kernel_rfl) (by kernel_rfl) (by kernel_rfl)) ?_
  intro W base args ds gs before hval0 hW hcnd _
  have hval : ∀ (j : Nat) t v, Tryz.f3.params[j]? = some t → args[j]? = some v → Value.okWide Tryz.prog W .any base t v := hval0
  have hW' := hW
  obtain ⟨p, q, hA0, hV, rfl, hfz, hnd⟩ := hW
  have hA : DataW.TrodAll enc Tryz.prog W 0 (fun _ => true) true Tryz.f3.params.toList args.toList ds p := hA0
  rw [Tryz.params3] at hA hval
  obtain ⟨v0, vs0, d0, ds0, p0, q0, hargs, rfl, rfl, h0, r0⟩ := trodAll_cons hA
  obtain ⟨rfl, rfl, rfl⟩ := trodAll_nil r0
  obtain rfl : args = #[v0] := by cases args; simp_all
  obtain ⟨rfl, rfl⟩ := trodVars_none hV
  have k0 := h0
  have lt0 : ∀ x ∈ p0, x.block < W.heap.size := by obtain ⟨m, hm⟩ := k0; exact DataW.trod_lt m _ _ _ hm
  obtain ⟨x, u, rfl, w0⟩ : ∃ (x : Sa) (u : Value), v0 = saV x u ∧ Rp.Rd L.part W (fun _ => True) u x.parts := by
    have hv := hval 0 24 v0 rfl rfl
    simp only [Value.okWide, Tryz.underlying24] at hv
    obtain ⟨cs, rfl, _⟩ := hv
    obtain ⟨m, hm⟩ := k0
    obtain ⟨y, hy⟩ := opensSsa.out enc W m _ _ hm
    obtain ⟨u, h, hu⟩ := ssa_open hy
    refine ⟨y, u, ?_, hu⟩
    simp only [Value.cells] at h
    unfold saV
    rw [← h]
  clear hA0 hval0
  refine (lawUseFirst_calls x u W w0).mono fun e W' ⟨he, bel⟩ => ?_
  subst he
  exact ⟨_, rfl, _, _, _, [], _, [], hW', trodAll_mk1 (shut_bool Tryz.underlying4 _), (trodAll_cons_mk (Below.trod laidOut (by kernel_rfl) (of_decide_eq_true (by kernel_rfl)) k0 bel lt0) trodAll_mk0), rfl, bel.frame _, fun h => by cases h⟩
theorem over : Rows.fnExactUseFirstRow.holds Tryz.pinned (OpenSpec.ofChange Rows.fnExactUseFirstSpec) :=
  OpenClaim.holds_of_wide 3 Tryz.f3 rfl rfl rfl rfl rfl rfl rfl ⟨rfl, rfl, rfl, rfl, rfl⟩ rfl rfl rfl rfl rfl (by kernel_rfl) Tryz.func3 (by kernel_rfl)
    (of_decide_eq_true (by kernel_rfl)) (by unfold Func.isWrapper; first | (rw [if_pos (by decide +kernel)]; kernel_rfl) | (rw [if_neg (by decide +kernel)]; exact ⟨rfl, rfl⟩))
    (fun os started H enc _ => lifted os started H enc)
theorem proved : Rows.FnExactUseFirstSaid := over
end Go.Proofs.YtnfaibenekninaaGreat.fnExactUseFirst
namespace Go.Proofs.YtnfaibenekninaaGreat
theorem fnExactUseFirst_holds : Rows.FnExactUseFirstSaid := fnExactUseFirst.proved
#print axioms fnExactUseFirst_holds
end Go.Proofs.YtnfaibenekninaaGreat
