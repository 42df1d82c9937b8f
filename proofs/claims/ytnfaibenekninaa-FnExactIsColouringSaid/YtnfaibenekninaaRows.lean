/-
  No cell of these rows narrows 'for every input' (looked for: loops, veiled, ifaces, maps, wideKeys, modest, calm, conditions, laid).
  DERIVED. THE GIVEN ROWS OF THIS SEAT. 8 by the template 'for every input the law returns true; each argument reads behind the call as it read before'; 0 by the template 'total and deterministic' (their statements: YtnfaibenekninaaTotals.lean).
  GIVEN WITH THE SEED: the statements are not yours to turn. If you find one false, say at which input.
  Laid BY PROGRAM, IN A SANDBOX (cutbox-rows.mjs): the forced cells as the released guide's own fill.sh prints them over the translation a94860b4a89f7b66… (all of the seat's roots in one cut). By AI agents, Wed Nov 11 2026. No macro, syntax, notation, axiom, sorry.
-/
import Derived.Test.YtnfaibenekninaaChecked
import GoSem.Claim
import GoSem.ClaimJoined
import GoSem.ClaimMapViews
import Derived.JoinedTies
import Derived.KernelRfl
namespace Go.Proofs.Ytnfaibenekninaa
/- THE CELL 'sum', in the pinned program and in every row, IS THE sha256 OF THE DUMP (.gsa) THAT YtnfaibenekninaaProg.lean LOADS. Nothing in Lean hashes anything: it is a label: what it is worth is what the hold of that sum in a sandbox is worth. -/
noncomputable def Try.pinned : Pinned := { name := "ytnfaibenekninaa", sum := "a94860b4a89f7b66282e869b4f4ccc0b5b399209e57f8875de20ac713272144c", checked := Try.checked }
namespace Rows
def none {H : Type} : Left H := { results := [], args := [] }

/-- 'laws.FnExactIsColouring': WHATEVER THE INPUT: true; the input reads as it did. -/
def fnExactIsColouringSpec : ChangeSpec := { name := "fnExactIsColouring", fn := fun _ => fun
  | [d1, d2] => { results := [.lit (.bool true)], args := [d1, d2] }
  | _ => none }
def fnExactIsColouringRow : OpenClaim := { program := "ytnfaibenekninaa", sum := "a94860b4a89f7b66282e869b4f4ccc0b5b399209e57f8875de20ac713272144c", func := "loop.example/g00373/laws.FnExactIsColouring", spec := "fnExactIsColouring", unfollowed := true, recurses := true, plainKeys := false, apart := false }
def FnExactIsColouringSaid : Prop := fnExactIsColouringRow.holds Try.pinned (OpenSpec.ofChange fnExactIsColouringSpec)

/-- ITS FALSE NEIGHBOUR: 'it returns false'. Refute it at one input. -/
def fnExactIsColouringWrong : ChangeSpec := { name := "fnExactIsColouring", fn := fun _ => fun
  | [d1, d2] => { results := [.lit (.bool false)], args := [d1, d2] }
  | _ => none }
def FnExactIsColouringWrongFalsely : Prop := fnExactIsColouringRow.holds Try.pinned (OpenSpec.ofChange fnExactIsColouringWrong)

/-- 'laws.FnExactIsStablePartition': WHATEVER THE INPUT: true; the input reads as it did. -/
def fnExactIsStablePartitionSpec : ChangeSpec := { name := "fnExactIsStablePartition", fn := fun _ => fun
  | [d1, d2] => { results := [.lit (.bool true)], args := [d1, d2] }
  | _ => none }
def fnExactIsStablePartitionRow : OpenClaim := { program := "ytnfaibenekninaa", sum := "a94860b4a89f7b66282e869b4f4ccc0b5b399209e57f8875de20ac713272144c", func := "loop.example/g00373/laws.FnExactIsStablePartition", spec := "fnExactIsStablePartition", unfollowed := true, recurses := true, plainKeys := false, apart := false }
def FnExactIsStablePartitionSaid : Prop := fnExactIsStablePartitionRow.holds Try.pinned (OpenSpec.ofChange fnExactIsStablePartitionSpec)

/-- ITS FALSE NEIGHBOUR: 'it returns false'. Refute it at one input. -/
def fnExactIsStablePartitionWrong : ChangeSpec := { name := "fnExactIsStablePartition", fn := fun _ => fun
  | [d1, d2] => { results := [.lit (.bool false)], args := [d1, d2] }
  | _ => none }
def FnExactIsStablePartitionWrongFalsely : Prop := fnExactIsStablePartitionRow.holds Try.pinned (OpenSpec.ofChange fnExactIsStablePartitionWrong)

/-- 'laws.FnExactRoundsOf': WHATEVER THE INPUT: true; the input reads as it did. -/
def fnExactRoundsOfSpec : ChangeSpec := { name := "fnExactRoundsOf", fn := fun _ => fun
  | [d] => { results := [.lit (.bool true)], args := [d] }
  | _ => none }
def fnExactRoundsOfRow : OpenClaim := { program := "ytnfaibenekninaa", sum := "a94860b4a89f7b66282e869b4f4ccc0b5b399209e57f8875de20ac713272144c", func := "loop.example/g00373/laws.FnExactRoundsOf", spec := "fnExactRoundsOf", unfollowed := true, recurses := true, plainKeys := false, apart := false }
def FnExactRoundsOfSaid : Prop := fnExactRoundsOfRow.holds Try.pinned (OpenSpec.ofChange fnExactRoundsOfSpec)

/-- ITS FALSE NEIGHBOUR: 'it returns false'. Refute it at one input. -/
def fnExactRoundsOfWrong : ChangeSpec := { name := "fnExactRoundsOf", fn := fun _ => fun
  | [d] => { results := [.lit (.bool false)], args := [d] }
  | _ => none }
def FnExactRoundsOfWrongFalsely : Prop := fnExactRoundsOfRow.holds Try.pinned (OpenSpec.ofChange fnExactRoundsOfWrong)

/-- 'laws.FnExactGroupsOf': WHATEVER THE INPUT: true; the input reads as it did. -/
def fnExactGroupsOfSpec : ChangeSpec := { name := "fnExactGroupsOf", fn := fun _ => fun
  | [d] => { results := [.lit (.bool true)], args := [d] }
  | _ => none }
def fnExactGroupsOfRow : OpenClaim := { program := "ytnfaibenekninaa", sum := "a94860b4a89f7b66282e869b4f4ccc0b5b399209e57f8875de20ac713272144c", func := "loop.example/g00373/laws.FnExactGroupsOf", spec := "fnExactGroupsOf", unfollowed := true, recurses := true, plainKeys := false, apart := false }
def FnExactGroupsOfSaid : Prop := fnExactGroupsOfRow.holds Try.pinned (OpenSpec.ofChange fnExactGroupsOfSpec)

/-- ITS FALSE NEIGHBOUR: 'it returns false'. Refute it at one input. -/
def fnExactGroupsOfWrong : ChangeSpec := { name := "fnExactGroupsOf", fn := fun _ => fun
  | [d] => { results := [.lit (.bool false)], args := [d] }
  | _ => none }
def FnExactGroupsOfWrongFalsely : Prop := fnExactGroupsOfRow.holds Try.pinned (OpenSpec.ofChange fnExactGroupsOfWrong)

/-- 'laws.FnExactGroupCount': WHATEVER THE INPUT: true; the input reads as it did. -/
def fnExactGroupCountSpec : ChangeSpec := { name := "fnExactGroupCount", fn := fun _ => fun
  | [d] => { results := [.lit (.bool true)], args := [d] }
  | _ => none }
def fnExactGroupCountRow : OpenClaim := { program := "ytnfaibenekninaa", sum := "a94860b4a89f7b66282e869b4f4ccc0b5b399209e57f8875de20ac713272144c", func := "loop.example/g00373/laws.FnExactGroupCount", spec := "fnExactGroupCount", unfollowed := true, recurses := true, plainKeys := false, apart := false }
def FnExactGroupCountSaid : Prop := fnExactGroupCountRow.holds Try.pinned (OpenSpec.ofChange fnExactGroupCountSpec)

/-- ITS FALSE NEIGHBOUR: 'it returns false'. Refute it at one input. -/
def fnExactGroupCountWrong : ChangeSpec := { name := "fnExactGroupCount", fn := fun _ => fun
  | [d] => { results := [.lit (.bool false)], args := [d] }
  | _ => none }
def FnExactGroupCountWrongFalsely : Prop := fnExactGroupCountRow.holds Try.pinned (OpenSpec.ofChange fnExactGroupCountWrong)

/-- 'laws.FnExactSameGroup': WHATEVER THE INPUT: true; the input reads as it did. -/
def fnExactSameGroupSpec : ChangeSpec := { name := "fnExactSameGroup", fn := fun _ => fun
  | [d1, d2, d3] => { results := [.lit (.bool true)], args := [d1, d2, d3] }
  | _ => none }
def fnExactSameGroupRow : OpenClaim := { program := "ytnfaibenekninaa", sum := "a94860b4a89f7b66282e869b4f4ccc0b5b399209e57f8875de20ac713272144c", func := "loop.example/g00373/laws.FnExactSameGroup", spec := "fnExactSameGroup", unfollowed := true, recurses := true, plainKeys := false, apart := false }
def FnExactSameGroupSaid : Prop := fnExactSameGroupRow.holds Try.pinned (OpenSpec.ofChange fnExactSameGroupSpec)

/-- ITS FALSE NEIGHBOUR: 'it returns false'. Refute it at one input. -/
def fnExactSameGroupWrong : ChangeSpec := { name := "fnExactSameGroup", fn := fun _ => fun
  | [d1, d2, d3] => { results := [.lit (.bool false)], args := [d1, d2, d3] }
  | _ => none }
def FnExactSameGroupWrongFalsely : Prop := fnExactSameGroupRow.holds Try.pinned (OpenSpec.ofChange fnExactSameGroupWrong)

/-- 'laws.FnExactLayMoves': WHATEVER THE INPUT: true; the input reads as it did. -/
def fnExactLayMovesSpec : ChangeSpec := { name := "fnExactLayMoves", fn := fun _ => fun
  | [d1, d2, d3] => { results := [.lit (.bool true)], args := [d1, d2, d3] }
  | _ => none }
def fnExactLayMovesRow : OpenClaim := { program := "ytnfaibenekninaa", sum := "a94860b4a89f7b66282e869b4f4ccc0b5b399209e57f8875de20ac713272144c", func := "loop.example/g00373/laws.FnExactLayMoves", spec := "fnExactLayMoves", unfollowed := true, recurses := true, plainKeys := false, apart := false }
def FnExactLayMovesSaid : Prop := fnExactLayMovesRow.holds Try.pinned (OpenSpec.ofChange fnExactLayMovesSpec)

/-- ITS FALSE NEIGHBOUR: 'it returns false'. Refute it at one input. -/
def fnExactLayMovesWrong : ChangeSpec := { name := "fnExactLayMoves", fn := fun _ => fun
  | [d1, d2, d3] => { results := [.lit (.bool false)], args := [d1, d2, d3] }
  | _ => none }
def FnExactLayMovesWrongFalsely : Prop := fnExactLayMovesRow.holds Try.pinned (OpenSpec.ofChange fnExactLayMovesWrong)

/-- 'laws.FnExactLiftSteps': WHATEVER THE INPUT: true; the input reads as it did. -/
def fnExactLiftStepsSpec : ChangeSpec := { name := "fnExactLiftSteps", fn := fun _ => fun
  | [d] => { results := [.lit (.bool true)], args := [d] }
  | _ => none }
def fnExactLiftStepsRow : OpenClaim := { program := "ytnfaibenekninaa", sum := "a94860b4a89f7b66282e869b4f4ccc0b5b399209e57f8875de20ac713272144c", func := "loop.example/g00373/laws.FnExactLiftSteps", spec := "fnExactLiftSteps", unfollowed := true, recurses := true, plainKeys := false, apart := false }
def FnExactLiftStepsSaid : Prop := fnExactLiftStepsRow.holds Try.pinned (OpenSpec.ofChange fnExactLiftStepsSpec)

/-- ITS FALSE NEIGHBOUR: 'it returns false'. Refute it at one input. -/
def fnExactLiftStepsWrong : ChangeSpec := { name := "fnExactLiftSteps", fn := fun _ => fun
  | [d] => { results := [.lit (.bool false)], args := [d] }
  | _ => none }
def FnExactLiftStepsWrongFalsely : Prop := fnExactLiftStepsRow.holds Try.pinned (OpenSpec.ofChange fnExactLiftStepsWrong)

/- THE SECOND FORM. 'bulk': how many values and letters a reading holds, each counted each time it is reached (what is shared counts as often as it is met; a slice's spare places count too). A statement '..UptoSaid' is the law's where the arguments, and the package variables that the reading takes, are together of bulk at most 1048576: NARROWER than '..Said'. Prove '..Said' where nothing that the law and all that it calls make is longer than what came in: it says more and counts as full. Else prove '..UptoSaid'. A law counts once. -/
mutual
def uptoBulk {H : Type} : DataW H → Nat
  | .lit (.string bytes) => bytes.length + 1
  | .lit _ => 1
  | .nil => 1
  | .ptr d => uptoBulk d + 1
  | .slice elems spare => uptoBulkAll elems + uptoBulkAll spare + 1
  | .agg parts => uptoBulkAll parts + 1
  | .iface _ d => uptoBulk d + 1
  | .map entries => uptoBulkEntries entries + 1
  | .held _ => 1
def uptoBulkAll {H : Type} : List (DataW H) → Nat
  | [] => 0
  | d :: r => uptoBulk d + uptoBulkAll r
def uptoBulkEntries {H : Type} : List (Lit × DataW H) → Nat
  | [] => 0
  | x :: r => uptoBulkEntry x + uptoBulkEntries r
def uptoBulkEntry {H : Type} : Lit × DataW H → Nat
  | (.string bytes, d) => bytes.length + uptoBulk d + 1
  | (_, d) => uptoBulk d + 1
 end
def uptoSmall : (H : Type) → List (DataW H) → Bool := fun _ ds => decide (uptoBulkAll ds ≤ 1048576)
def OpenSpec.upto (s : _root_.Go.ChangeSpec) : _root_.Go.OpenSpec := { _root_.Go.OpenSpec.ofChange s with cond := some uptoSmall }

/-- 'laws.FnExactIsColouring', WHERE WHAT IT READS IS OF BULK AT MOST 1048576: true; the input reads as it did. -/
def fnExactIsColouringUptoRow : OpenClaim := { program := "ytnfaibenekninaa", sum := "a94860b4a89f7b66282e869b4f4ccc0b5b399209e57f8875de20ac713272144c", func := "loop.example/g00373/laws.FnExactIsColouring", spec := "fnExactIsColouring", unfollowed := true, recurses := true, plainKeys := false, apart := false, narrowed := true }
def FnExactIsColouringUptoSaid : Prop := fnExactIsColouringUptoRow.holds Try.pinned (OpenSpec.upto fnExactIsColouringSpec)

/-- 'laws.FnExactIsStablePartition', WHERE WHAT IT READS IS OF BULK AT MOST 1048576: true; the input reads as it did. -/
def fnExactIsStablePartitionUptoRow : OpenClaim := { program := "ytnfaibenekninaa", sum := "a94860b4a89f7b66282e869b4f4ccc0b5b399209e57f8875de20ac713272144c", func := "loop.example/g00373/laws.FnExactIsStablePartition", spec := "fnExactIsStablePartition", unfollowed := true, recurses := true, plainKeys := false, apart := false, narrowed := true }
def FnExactIsStablePartitionUptoSaid : Prop := fnExactIsStablePartitionUptoRow.holds Try.pinned (OpenSpec.upto fnExactIsStablePartitionSpec)

/-- 'laws.FnExactRoundsOf', WHERE WHAT IT READS IS OF BULK AT MOST 1048576: true; the input reads as it did. -/
def fnExactRoundsOfUptoRow : OpenClaim := { program := "ytnfaibenekninaa", sum := "a94860b4a89f7b66282e869b4f4ccc0b5b399209e57f8875de20ac713272144c", func := "loop.example/g00373/laws.FnExactRoundsOf", spec := "fnExactRoundsOf", unfollowed := true, recurses := true, plainKeys := false, apart := false, narrowed := true }
def FnExactRoundsOfUptoSaid : Prop := fnExactRoundsOfUptoRow.holds Try.pinned (OpenSpec.upto fnExactRoundsOfSpec)

/-- 'laws.FnExactGroupsOf', WHERE WHAT IT READS IS OF BULK AT MOST 1048576: true; the input reads as it did. -/
def fnExactGroupsOfUptoRow : OpenClaim := { program := "ytnfaibenekninaa", sum := "a94860b4a89f7b66282e869b4f4ccc0b5b399209e57f8875de20ac713272144c", func := "loop.example/g00373/laws.FnExactGroupsOf", spec := "fnExactGroupsOf", unfollowed := true, recurses := true, plainKeys := false, apart := false, narrowed := true }
def FnExactGroupsOfUptoSaid : Prop := fnExactGroupsOfUptoRow.holds Try.pinned (OpenSpec.upto fnExactGroupsOfSpec)

/-- 'laws.FnExactGroupCount', WHERE WHAT IT READS IS OF BULK AT MOST 1048576: true; the input reads as it did. -/
def fnExactGroupCountUptoRow : OpenClaim := { program := "ytnfaibenekninaa", sum := "a94860b4a89f7b66282e869b4f4ccc0b5b399209e57f8875de20ac713272144c", func := "loop.example/g00373/laws.FnExactGroupCount", spec := "fnExactGroupCount", unfollowed := true, recurses := true, plainKeys := false, apart := false, narrowed := true }
def FnExactGroupCountUptoSaid : Prop := fnExactGroupCountUptoRow.holds Try.pinned (OpenSpec.upto fnExactGroupCountSpec)

/-- 'laws.FnExactSameGroup', WHERE WHAT IT READS IS OF BULK AT MOST 1048576: true; the input reads as it did. -/
def fnExactSameGroupUptoRow : OpenClaim := { program := "ytnfaibenekninaa", sum := "a94860b4a89f7b66282e869b4f4ccc0b5b399209e57f8875de20ac713272144c", func := "loop.example/g00373/laws.FnExactSameGroup", spec := "fnExactSameGroup", unfollowed := true, recurses := true, plainKeys := false, apart := false, narrowed := true }
def FnExactSameGroupUptoSaid : Prop := fnExactSameGroupUptoRow.holds Try.pinned (OpenSpec.upto fnExactSameGroupSpec)

/-- 'laws.FnExactLayMoves', WHERE WHAT IT READS IS OF BULK AT MOST 1048576: true; the input reads as it did. -/
def fnExactLayMovesUptoRow : OpenClaim := { program := "ytnfaibenekninaa", sum := "a94860b4a89f7b66282e869b4f4ccc0b5b399209e57f8875de20ac713272144c", func := "loop.example/g00373/laws.FnExactLayMoves", spec := "fnExactLayMoves", unfollowed := true, recurses := true, plainKeys := false, apart := false, narrowed := true }
def FnExactLayMovesUptoSaid : Prop := fnExactLayMovesUptoRow.holds Try.pinned (OpenSpec.upto fnExactLayMovesSpec)

/-- 'laws.FnExactLiftSteps', WHERE WHAT IT READS IS OF BULK AT MOST 1048576: true; the input reads as it did. -/
def fnExactLiftStepsUptoRow : OpenClaim := { program := "ytnfaibenekninaa", sum := "a94860b4a89f7b66282e869b4f4ccc0b5b399209e57f8875de20ac713272144c", func := "loop.example/g00373/laws.FnExactLiftSteps", spec := "fnExactLiftSteps", unfollowed := true, recurses := true, plainKeys := false, apart := false, narrowed := true }
def FnExactLiftStepsUptoSaid : Prop := fnExactLiftStepsUptoRow.holds Try.pinned (OpenSpec.upto fnExactLiftStepsSpec)

end Rows
end Go.Proofs.Ytnfaibenekninaa
