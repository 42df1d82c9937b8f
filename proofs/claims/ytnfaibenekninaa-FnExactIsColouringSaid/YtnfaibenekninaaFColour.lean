/- For every ssa and every list the law FnExactIsColouring answers true: the program's answer is the reference's, and the arguments stay as they were. No condition. -/
import Derived.Test.YtnfaibenekninaaRows
import Derived.Test.YtnfaibenekninaaFColour10
import Derived.Test.YtnfaibenekninaaB10
import Derived.OpenShut
import Derived.ChangeOld
import Derived.ShutString
namespace Go.Proofs.Ytnfaibenekninaa.fnExactIsColouring
open Go.ChangeShapes Go.WideShapes Go.ChangeAt Go.RowKit L
open Go.ChangeMaps (open_string shut_string)
set_option linter.unusedVariables false
theorem own : ownKnob Try.prog.godebug = none := by kernel_rfl
theorem laidOut : laidOutB Try.prog = true := by kernel_rfl
set_option maxRecDepth 100000 in
theorem lifted (os : Os) (started : os.Started) (H : Type) (enc : TypeId × Value → H) :
    ReturnsInHanded {} Try.checked os 3 .any (Rows.fnExactIsColouringSpec.pre6 enc Try.prog Try.f3 Rows.fnExactIsColouringRow.domain false) (Rows.fnExactIsColouringSpec.post enc Try.prog Try.f3 false true false false) := by
  refine returnsInHanded_of_change (C := Try.checked) own started (by kernel_rfl) Try.func3
    (ChangeSpec.witness6 (enc := enc) (C := Try.checked) false ⟨#[], #[.agg #[.slice none 0 0, .int .i64 0], .slice none 0 0], []⟩ 8 (by kernel_rfl) (by kernel_rfl) (by kernel_rfl) (by kernel_rfl)) ?_
  intro W base args ds gs before hval0 hW hcnd _
  have hval : ∀ (j : Nat) t v, Try.f3.params[j]? = some t → args[j]? = some v → Value.okWide Try.prog W .any base t v := hval0
  have hW' := hW
  obtain ⟨p, q, hA0, hV, rfl, hfz, hnd⟩ := hW
  have hA : DataW.TrodAll enc Try.prog W 0 (fun _ => true) true Try.f3.params.toList args.toList ds p := hA0
  rw [Try.params3] at hA hval
  obtain ⟨v0, vs0, d0, ds0, p0, q0, hargs, rfl, rfl, h0, r0⟩ := trodAll_cons hA
  obtain ⟨v1, vs1, d1, ds1, p1, q1, rfl, rfl, rfl, h1, r1⟩ := trodAll_cons r0
  obtain ⟨rfl, rfl, rfl⟩ := trodAll_nil r1
  obtain rfl : args = #[v0, v1] := by cases args; simp_all
  obtain ⟨rfl, rfl⟩ := trodVars_none hV
  have k0 := h0
  have lt0 : ∀ x ∈ p0, x.block < W.heap.size := by obtain ⟨m, hm⟩ := k0; exact DataW.trod_lt m _ _ _ hm
  have k1 := h1
  have lt1 : ∀ x ∈ p1, x.block < W.heap.size := by obtain ⟨m, hm⟩ := k1; exact DataW.trod_lt m _ _ _ hm
  obtain ⟨x, u, rfl, w0⟩ : ∃ (x : Sa) (u : Value), v0 = saV x u ∧ Rp.Rd L.part W (fun _ => True) u x.parts := by
    have hv := hval 0 24 v0 rfl rfl
    simp only [Value.okWide, Try.underlying24] at hv
    obtain ⟨cs, rfl, _⟩ := hv
    obtain ⟨m, hm⟩ := k0
    obtain ⟨y, hy⟩ := opensSsa.out enc W m _ _ hm
    obtain ⟨u, h, hu⟩ := ssa_open hy
    refine ⟨y, u, ?_, hu⟩
    simp only [Value.cells] at h
    unfold saV
    rw [← h]
  obtain ⟨gl, w1⟩ : ∃ gl : List Int, Rp.Rd Rp.int W (fun _ => True) v1 gl := by
    obtain ⟨A1, n1, c1, rfl⟩ := Go.WideShapes.okWide_slice Try.underlying25 (hval 1 25 v1 rfl rfl)
    obtain ⟨m, hm⟩ := k1
    obtain ⟨y, u, hu, hy⟩ := opensInts.out enc W m _ _ hm
    simp only [Value.cells] at hu
    obtain rfl : u = .slice A1 n1 c1 := by simpa using hu.symm
    exact ⟨y, hy⟩
  clear hA0 hval0
  refine (lawColour_calls x u gl _ W w0 w1).mono fun e W' ⟨he, bel⟩ => ?_
  subst he
  exact ⟨_, rfl, _, _, _, [], _, [], hW', trodAll_mk1 (shut_bool Try.underlying4 _), (trodAll_cons_mk (Below.trod laidOut (by kernel_rfl) (of_decide_eq_true (by kernel_rfl)) k0 bel lt0) (trodAll_cons_mk (Below.trod laidOut (by kernel_rfl) (of_decide_eq_true (by kernel_rfl)) k1 bel lt1) trodAll_mk0)), rfl, bel.frame _, fun h => by cases h⟩
theorem over : Rows.fnExactIsColouringRow.holds Try.pinned (OpenSpec.ofChange Rows.fnExactIsColouringSpec) :=
  OpenClaim.holds_of_wide 3 Try.f3 rfl rfl rfl rfl rfl rfl rfl ⟨rfl, rfl, rfl, rfl, rfl⟩ rfl rfl rfl rfl rfl (by kernel_rfl) Try.func3 (by kernel_rfl)
    (of_decide_eq_true (by kernel_rfl)) (by unfold Func.isWrapper; first | (rw [if_pos (by decide +kernel)]; kernel_rfl) | (rw [if_neg (by decide +kernel)]; exact ⟨rfl, rfl⟩))
    (fun os started H enc _ => lifted os started H enc)
theorem proved : Rows.FnExactIsColouringSaid := over
end Go.Proofs.Ytnfaibenekninaa.fnExactIsColouring
namespace Go.Proofs.Ytnfaibenekninaa
theorem fnExactIsColouring_holds : Rows.FnExactIsColouringSaid := fnExactIsColouring.proved
#print axioms fnExactIsColouring_holds
end Go.Proofs.Ytnfaibenekninaa
