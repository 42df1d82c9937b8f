/-
  No cell of these rows narrows 'for every input' (looked for: loops, veiled, ifaces, maps, wideKeys, modest, calm, conditions, laid).
  DERIVED. THE GIVEN ROWS OF THIS SEAT. 3 by the template 'for every input the law returns true; each argument reads behind the call as it read before'; 0 by the template 'total and deterministic' (their statements: YtnfaibenekninaaGreatTotals.lean).
  GIVEN WITH THE SEED: the statements are not yours to turn. If you find one false, say at which input.
  Laid BY PROGRAM, IN A SANDBOX (cutbox-rows.mjs): the forced cells as the released guide's own fill.sh prints them over the translation 23abeef2dc28d162… (all of the seat's roots in one cut). By AI agents, Wed Nov 11 2026. No macro, syntax, notation, axiom, sorry.
-/
import Derived.Test.YtnfaibenekninaaGreatChecked
import GoSem.Claim
import GoSem.ClaimJoined
import GoSem.ClaimMapViews
import Derived.JoinedTies
import Derived.KernelRfl
namespace Go.Proofs.YtnfaibenekninaaGreat
/- THE CELL 'sum', in the pinned program and in every row, IS THE sha256 OF THE DUMP (.gsa) THAT YtnfaibenekninaaGreatProg.lean LOADS. Nothing in Lean hashes anything: it is a label: what it is worth is what the hold of that sum in a sandbox is worth. -/
noncomputable def Tryz.pinned : Pinned := { name := "ytnfaibenekninaagreat", sum := "23abeef2dc28d1620a9ce98fa11e35cf71c8f3b27dfcf6ec5309b3d883925233", checked := Tryz.checked }
namespace Rows
def none {H : Type} : Left H := { results := [], args := [] }

/-- 'laws.FnExactUseFirst': WHATEVER THE INPUT: true; the input reads as it did. -/
def fnExactUseFirstSpec : ChangeSpec := { name := "fnExactUseFirst", fn := fun _ => fun
  | [d] => { results := [.lit (.bool true)], args := [d] }
  | _ => none }
def fnExactUseFirstRow : OpenClaim := { program := "ytnfaibenekninaagreat", sum := "23abeef2dc28d1620a9ce98fa11e35cf71c8f3b27dfcf6ec5309b3d883925233", func := "loop.example/g00373/laws.FnExactUseFirst", spec := "fnExactUseFirst", unfollowed := true, recurses := true, plainKeys := false, apart := false }
def FnExactUseFirstSaid : Prop := fnExactUseFirstRow.holds Tryz.pinned (OpenSpec.ofChange fnExactUseFirstSpec)

/-- ITS FALSE NEIGHBOUR: 'it returns false'. Refute it at one input. -/
def fnExactUseFirstWrong : ChangeSpec := { name := "fnExactUseFirst", fn := fun _ => fun
  | [d] => { results := [.lit (.bool false)], args := [d] }
  | _ => none }
def FnExactUseFirstWrongFalsely : Prop := fnExactUseFirstRow.holds Tryz.pinned (OpenSpec.ofChange fnExactUseFirstWrong)

/-- 'laws.FnExactDropUnused': WHATEVER THE INPUT: true; the input reads as it did. -/
def fnExactDropUnusedSpec : ChangeSpec := { name := "fnExactDropUnused", fn := fun _ => fun
  | [d] => { results := [.lit (.bool true)], args := [d] }
  | _ => none }
def fnExactDropUnusedRow : OpenClaim := { program := "ytnfaibenekninaagreat", sum := "23abeef2dc28d1620a9ce98fa11e35cf71c8f3b27dfcf6ec5309b3d883925233", func := "loop.example/g00373/laws.FnExactDropUnused", spec := "fnExactDropUnused", unfollowed := true, recurses := true, plainKeys := false, apart := false }
def FnExactDropUnusedSaid : Prop := fnExactDropUnusedRow.holds Tryz.pinned (OpenSpec.ofChange fnExactDropUnusedSpec)

/-- ITS FALSE NEIGHBOUR: 'it returns false'. Refute it at one input. -/
def fnExactDropUnusedWrong : ChangeSpec := { name := "fnExactDropUnused", fn := fun _ => fun
  | [d] => { results := [.lit (.bool false)], args := [d] }
  | _ => none }
def FnExactDropUnusedWrongFalsely : Prop := fnExactDropUnusedRow.holds Tryz.pinned (OpenSpec.ofChange fnExactDropUnusedWrong)

/-- 'laws.FnExactMakeSsa': WHATEVER THE INPUT: true; the input reads as it did. -/
def fnExactMakeSsaSpec : ChangeSpec := { name := "fnExactMakeSsa", fn := fun _ => fun
  | [d] => { results := [.lit (.bool true)], args := [d] }
  | _ => none }
def fnExactMakeSsaRow : OpenClaim := { program := "ytnfaibenekninaagreat", sum := "23abeef2dc28d1620a9ce98fa11e35cf71c8f3b27dfcf6ec5309b3d883925233", func := "loop.example/g00373/laws.FnExactMakeSsa", spec := "fnExactMakeSsa", unfollowed := true, recurses := true, plainKeys := false, apart := false }
def FnExactMakeSsaSaid : Prop := fnExactMakeSsaRow.holds Tryz.pinned (OpenSpec.ofChange fnExactMakeSsaSpec)

/-- ITS FALSE NEIGHBOUR: 'it returns false'. Refute it at one input. -/
def fnExactMakeSsaWrong : ChangeSpec := { name := "fnExactMakeSsa", fn := fun _ => fun
  | [d] => { results := [.lit (.bool false)], args := [d] }
  | _ => none }
def FnExactMakeSsaWrongFalsely : Prop := fnExactMakeSsaRow.holds Tryz.pinned (OpenSpec.ofChange fnExactMakeSsaWrong)

/- THE SECOND FORM. 'bulk': how many values and letters a reading holds, each counted each time it is reached (what is shared counts as often as it is met; a slice's spare places count too). A statement '..UptoSaid' is the law's where the arguments, and the package variables that the reading takes, are together of bulk at most 1048576: NARROWER than '..Said'. Prove '..Said' where nothing that the law and all that it calls make is longer than what came in: it says more and counts as full. Else prove '..UptoSaid'. A law counts once. -/
mutual
def uptoBulk {H : Type} : DataW H → Nat
  | .lit (.string bytes) => bytes.length + 1
  | .lit _ => 1
  | .nil => 1
  | .ptr d => uptoBulk d + 1
  | .slice elems spare => uptoBulkAll elems + uptoBulkAll spare + 1
  | .agg parts => uptoBulkAll parts + 1
  | .iface _ d => uptoBulk d + 1
  | .map entries => uptoBulkEntries entries + 1
  | .held _ => 1
def uptoBulkAll {H : Type} : List (DataW H) → Nat
  | [] => 0
  | d :: r => uptoBulk d + uptoBulkAll r
def uptoBulkEntries {H : Type} : List (Lit × DataW H) → Nat
  | [] => 0
  | x :: r => uptoBulkEntry x + uptoBulkEntries r
def uptoBulkEntry {H : Type} : Lit × DataW H → Nat
  | (.string bytes, d) => bytes.length + uptoBulk d + 1
  | (_, d) => uptoBulk d + 1
 end
def uptoSmall : (H : Type) → List (DataW H) → Bool := fun _ ds => decide (uptoBulkAll ds ≤ 1048576)
def OpenSpec.upto (s : _root_.Go.ChangeSpec) : _root_.Go.OpenSpec := { _root_.Go.OpenSpec.ofChange s with cond := some uptoSmall }

/-- 'laws.FnExactUseFirst', WHERE WHAT IT READS IS OF BULK AT MOST 1048576: true; the input reads as it did. -/
def fnExactUseFirstUptoRow : OpenClaim := { program := "ytnfaibenekninaagreat", sum := "23abeef2dc28d1620a9ce98fa11e35cf71c8f3b27dfcf6ec5309b3d883925233", func := "loop.example/g00373/laws.FnExactUseFirst", spec := "fnExactUseFirst", unfollowed := true, recurses := true, plainKeys := false, apart := false, narrowed := true }
def FnExactUseFirstUptoSaid : Prop := fnExactUseFirstUptoRow.holds Tryz.pinned (OpenSpec.upto fnExactUseFirstSpec)

/-- 'laws.FnExactDropUnused', WHERE WHAT IT READS IS OF BULK AT MOST 1048576: true; the input reads as it did. -/
def fnExactDropUnusedUptoRow : OpenClaim := { program := "ytnfaibenekninaagreat", sum := "23abeef2dc28d1620a9ce98fa11e35cf71c8f3b27dfcf6ec5309b3d883925233", func := "loop.example/g00373/laws.FnExactDropUnused", spec := "fnExactDropUnused", unfollowed := true, recurses := true, plainKeys := false, apart := false, narrowed := true }
def FnExactDropUnusedUptoSaid : Prop := fnExactDropUnusedUptoRow.holds Tryz.pinned (OpenSpec.upto fnExactDropUnusedSpec)

/-- 'laws.FnExactMakeSsa', WHERE WHAT IT READS IS OF BULK AT MOST 1048576: true; the input reads as it did. -/
def fnExactMakeSsaUptoRow : OpenClaim := { program := "ytnfaibenekninaagreat", sum := "23abeef2dc28d1620a9ce98fa11e35cf71c8f3b27dfcf6ec5309b3d883925233", func := "loop.example/g00373/laws.FnExactMakeSsa", spec := "fnExactMakeSsa", unfollowed := true, recurses := true, plainKeys := false, apart := false, narrowed := true }
def FnExactMakeSsaUptoSaid : Prop := fnExactMakeSsaUptoRow.holds Tryz.pinned (OpenSpec.upto fnExactMakeSsaSpec)

end Rows
end Go.Proofs.YtnfaibenekninaaGreat
