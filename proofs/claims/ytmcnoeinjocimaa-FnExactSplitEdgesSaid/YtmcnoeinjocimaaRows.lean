/-
  No cell of these rows narrows 'for every input' (looked for: loops, veiled, ifaces, maps, wideKeys, modest, calm, conditions, laid).
  DERIVED. THE GIVEN ROWS OF THIS SEAT. 9 by the template 'for every input the law returns true; each argument reads behind the call as it read before'; 0 by the template 'total and deterministic' (their statements: YtmcnoeinjocimaaTotals.lean).
  GIVEN WITH THE SEED: the statements are not yours to turn. If you find one false, say at which input.
  Laid BY PROGRAM, IN A SANDBOX (cutbox-rows.mjs): the forced cells as the released guide's own fill.sh prints them over the translation fa37bc6d3e7c9691… (all of the seat's roots in one cut). By AI agents, Wed Nov 11 2026. No macro, syntax, notation, axiom, sorry.
-/
import Derived.Test.YtmcnoeinjocimaaChecked
import GoSem.Claim
import GoSem.ClaimJoined
import GoSem.ClaimMapViews
import Derived.JoinedTies
import Derived.KernelRfl
namespace Go.Proofs.Ytmcnoeinjocimaa
/- THE CELL 'sum', in the pinned program and in every row, IS THE sha256 OF THE DUMP (.gsa) THAT YtmcnoeinjocimaaProg.lean LOADS. Nothing in Lean hashes anything: it is a label: what it is worth is what the hold of that sum in a sandbox is worth. -/
noncomputable def Try.pinned : Pinned := { name := "ytmcnoeinjocimaa", sum := "fa37bc6d3e7c96914dd7833696ee303a074cfd9388fdbe4fb579e6834502e260", checked := Try.checked }
namespace Rows
def none {H : Type} : Left H := { results := [], args := [] }

/-- 'laws.FnExactGoodSsa': WHATEVER THE INPUT: true; the input reads as it did. -/
def fnExactGoodSsaSpec : ChangeSpec := { name := "fnExactGoodSsa", fn := fun _ => fun
  | [d] => { results := [.lit (.bool true)], args := [d] }
  | _ => none }
def fnExactGoodSsaRow : OpenClaim := { program := "ytmcnoeinjocimaa", sum := "fa37bc6d3e7c96914dd7833696ee303a074cfd9388fdbe4fb579e6834502e260", func := "loop.example/g00373/laws.FnExactGoodSsa", spec := "fnExactGoodSsa", unfollowed := true, recurses := true, apart := false }
def FnExactGoodSsaSaid : Prop := fnExactGoodSsaRow.holds Try.pinned (OpenSpec.ofChange fnExactGoodSsaSpec)

/-- ITS FALSE NEIGHBOUR: 'it returns false'. Refute it at one input. -/
def fnExactGoodSsaWrong : ChangeSpec := { name := "fnExactGoodSsa", fn := fun _ => fun
  | [d] => { results := [.lit (.bool false)], args := [d] }
  | _ => none }
def FnExactGoodSsaWrongFalsely : Prop := fnExactGoodSsaRow.holds Try.pinned (OpenSpec.ofChange fnExactGoodSsaWrong)

/-- 'laws.FnExactIsSplit': WHATEVER THE INPUT: true; the input reads as it did. -/
def fnExactIsSplitSpec : ChangeSpec := { name := "fnExactIsSplit", fn := fun _ => fun
  | [d] => { results := [.lit (.bool true)], args := [d] }
  | _ => none }
def fnExactIsSplitRow : OpenClaim := { program := "ytmcnoeinjocimaa", sum := "fa37bc6d3e7c96914dd7833696ee303a074cfd9388fdbe4fb579e6834502e260", func := "loop.example/g00373/laws.FnExactIsSplit", spec := "fnExactIsSplit", unfollowed := true, recurses := true, apart := false }
def FnExactIsSplitSaid : Prop := fnExactIsSplitRow.holds Try.pinned (OpenSpec.ofChange fnExactIsSplitSpec)

/-- ITS FALSE NEIGHBOUR: 'it returns false'. Refute it at one input. -/
def fnExactIsSplitWrong : ChangeSpec := { name := "fnExactIsSplit", fn := fun _ => fun
  | [d] => { results := [.lit (.bool false)], args := [d] }
  | _ => none }
def FnExactIsSplitWrongFalsely : Prop := fnExactIsSplitRow.holds Try.pinned (OpenSpec.ofChange fnExactIsSplitWrong)

/-- 'laws.FnExactDefsOf': WHATEVER THE INPUT: true; the input reads as it did. -/
def fnExactDefsOfSpec : ChangeSpec := { name := "fnExactDefsOf", fn := fun _ => fun
  | [d] => { results := [.lit (.bool true)], args := [d] }
  | _ => none }
def fnExactDefsOfRow : OpenClaim := { program := "ytmcnoeinjocimaa", sum := "fa37bc6d3e7c96914dd7833696ee303a074cfd9388fdbe4fb579e6834502e260", func := "loop.example/g00373/laws.FnExactDefsOf", spec := "fnExactDefsOf", unfollowed := true, recurses := true, apart := false }
def FnExactDefsOfSaid : Prop := fnExactDefsOfRow.holds Try.pinned (OpenSpec.ofChange fnExactDefsOfSpec)

/-- ITS FALSE NEIGHBOUR: 'it returns false'. Refute it at one input. -/
def fnExactDefsOfWrong : ChangeSpec := { name := "fnExactDefsOf", fn := fun _ => fun
  | [d] => { results := [.lit (.bool false)], args := [d] }
  | _ => none }
def FnExactDefsOfWrongFalsely : Prop := fnExactDefsOfRow.holds Try.pinned (OpenSpec.ofChange fnExactDefsOfWrong)

/-- 'laws.FnExactUsesOf': WHATEVER THE INPUT: true; the input reads as it did. -/
def fnExactUsesOfSpec : ChangeSpec := { name := "fnExactUsesOf", fn := fun _ => fun
  | [d] => { results := [.lit (.bool true)], args := [d] }
  | _ => none }
def fnExactUsesOfRow : OpenClaim := { program := "ytmcnoeinjocimaa", sum := "fa37bc6d3e7c96914dd7833696ee303a074cfd9388fdbe4fb579e6834502e260", func := "loop.example/g00373/laws.FnExactUsesOf", spec := "fnExactUsesOf", unfollowed := true, recurses := true, apart := false }
def FnExactUsesOfSaid : Prop := fnExactUsesOfRow.holds Try.pinned (OpenSpec.ofChange fnExactUsesOfSpec)

/-- ITS FALSE NEIGHBOUR: 'it returns false'. Refute it at one input. -/
def fnExactUsesOfWrong : ChangeSpec := { name := "fnExactUsesOf", fn := fun _ => fun
  | [d] => { results := [.lit (.bool false)], args := [d] }
  | _ => none }
def FnExactUsesOfWrongFalsely : Prop := fnExactUsesOfRow.holds Try.pinned (OpenSpec.ofChange fnExactUsesOfWrong)

/-- 'laws.FnExactLiveIn': WHATEVER THE INPUT: true; the input reads as it did. -/
def fnExactLiveInSpec : ChangeSpec := { name := "fnExactLiveIn", fn := fun _ => fun
  | [d] => { results := [.lit (.bool true)], args := [d] }
  | _ => none }
def fnExactLiveInRow : OpenClaim := { program := "ytmcnoeinjocimaa", sum := "fa37bc6d3e7c96914dd7833696ee303a074cfd9388fdbe4fb579e6834502e260", func := "loop.example/g00373/laws.FnExactLiveIn", spec := "fnExactLiveIn", unfollowed := true, recurses := true, apart := false }
def FnExactLiveInSaid : Prop := fnExactLiveInRow.holds Try.pinned (OpenSpec.ofChange fnExactLiveInSpec)

/-- ITS FALSE NEIGHBOUR: 'it returns false'. Refute it at one input. -/
def fnExactLiveInWrong : ChangeSpec := { name := "fnExactLiveIn", fn := fun _ => fun
  | [d] => { results := [.lit (.bool false)], args := [d] }
  | _ => none }
def FnExactLiveInWrongFalsely : Prop := fnExactLiveInRow.holds Try.pinned (OpenSpec.ofChange fnExactLiveInWrong)

/-- 'laws.FnExactLiveOut': WHATEVER THE INPUT: true; the input reads as it did. -/
def fnExactLiveOutSpec : ChangeSpec := { name := "fnExactLiveOut", fn := fun _ => fun
  | [d] => { results := [.lit (.bool true)], args := [d] }
  | _ => none }
def fnExactLiveOutRow : OpenClaim := { program := "ytmcnoeinjocimaa", sum := "fa37bc6d3e7c96914dd7833696ee303a074cfd9388fdbe4fb579e6834502e260", func := "loop.example/g00373/laws.FnExactLiveOut", spec := "fnExactLiveOut", unfollowed := true, recurses := true, apart := false }
def FnExactLiveOutSaid : Prop := fnExactLiveOutRow.holds Try.pinned (OpenSpec.ofChange fnExactLiveOutSpec)

/-- ITS FALSE NEIGHBOUR: 'it returns false'. Refute it at one input. -/
def fnExactLiveOutWrong : ChangeSpec := { name := "fnExactLiveOut", fn := fun _ => fun
  | [d] => { results := [.lit (.bool false)], args := [d] }
  | _ => none }
def FnExactLiveOutWrongFalsely : Prop := fnExactLiveOutRow.holds Try.pinned (OpenSpec.ofChange fnExactLiveOutWrong)

/-- 'laws.FnExactMostLive': WHATEVER THE INPUT: true; the input reads as it did. -/
def fnExactMostLiveSpec : ChangeSpec := { name := "fnExactMostLive", fn := fun _ => fun
  | [d] => { results := [.lit (.bool true)], args := [d] }
  | _ => none }
def fnExactMostLiveRow : OpenClaim := { program := "ytmcnoeinjocimaa", sum := "fa37bc6d3e7c96914dd7833696ee303a074cfd9388fdbe4fb579e6834502e260", func := "loop.example/g00373/laws.FnExactMostLive", spec := "fnExactMostLive", unfollowed := true, recurses := true, apart := false }
def FnExactMostLiveSaid : Prop := fnExactMostLiveRow.holds Try.pinned (OpenSpec.ofChange fnExactMostLiveSpec)

/-- ITS FALSE NEIGHBOUR: 'it returns false'. Refute it at one input. -/
def fnExactMostLiveWrong : ChangeSpec := { name := "fnExactMostLive", fn := fun _ => fun
  | [d] => { results := [.lit (.bool false)], args := [d] }
  | _ => none }
def FnExactMostLiveWrongFalsely : Prop := fnExactMostLiveRow.holds Try.pinned (OpenSpec.ofChange fnExactMostLiveWrong)

/-- 'laws.FnExactSplitEdges': WHATEVER THE INPUT: true; the input reads as it did. -/
def fnExactSplitEdgesSpec : ChangeSpec := { name := "fnExactSplitEdges", fn := fun _ => fun
  | [d] => { results := [.lit (.bool true)], args := [d] }
  | _ => none }
def fnExactSplitEdgesRow : OpenClaim := { program := "ytmcnoeinjocimaa", sum := "fa37bc6d3e7c96914dd7833696ee303a074cfd9388fdbe4fb579e6834502e260", func := "loop.example/g00373/laws.FnExactSplitEdges", spec := "fnExactSplitEdges", unfollowed := true, recurses := true, apart := false }
def FnExactSplitEdgesSaid : Prop := fnExactSplitEdgesRow.holds Try.pinned (OpenSpec.ofChange fnExactSplitEdgesSpec)

/-- ITS FALSE NEIGHBOUR: 'it returns false'. Refute it at one input. -/
def fnExactSplitEdgesWrong : ChangeSpec := { name := "fnExactSplitEdges", fn := fun _ => fun
  | [d] => { results := [.lit (.bool false)], args := [d] }
  | _ => none }
def FnExactSplitEdgesWrongFalsely : Prop := fnExactSplitEdgesRow.holds Try.pinned (OpenSpec.ofChange fnExactSplitEdgesWrong)

/-- 'laws.FnExactClashesOf': WHATEVER THE INPUT: true; the input reads as it did. -/
def fnExactClashesOfSpec : ChangeSpec := { name := "fnExactClashesOf", fn := fun _ => fun
  | [d] => { results := [.lit (.bool true)], args := [d] }
  | _ => none }
def fnExactClashesOfRow : OpenClaim := { program := "ytmcnoeinjocimaa", sum := "fa37bc6d3e7c96914dd7833696ee303a074cfd9388fdbe4fb579e6834502e260", func := "loop.example/g00373/laws.FnExactClashesOf", spec := "fnExactClashesOf", unfollowed := true, recurses := true, apart := false }
def FnExactClashesOfSaid : Prop := fnExactClashesOfRow.holds Try.pinned (OpenSpec.ofChange fnExactClashesOfSpec)

/-- ITS FALSE NEIGHBOUR: 'it returns false'. Refute it at one input. -/
def fnExactClashesOfWrong : ChangeSpec := { name := "fnExactClashesOf", fn := fun _ => fun
  | [d] => { results := [.lit (.bool false)], args := [d] }
  | _ => none }
def FnExactClashesOfWrongFalsely : Prop := fnExactClashesOfRow.holds Try.pinned (OpenSpec.ofChange fnExactClashesOfWrong)

/- THE SECOND FORM. 'bulk': how many values and letters a reading holds, each counted each time it is reached (what is shared counts as often as it is met; a slice's spare places count too). A statement '..UptoSaid' is the law's where the arguments, and the package variables that the reading takes, are together of bulk at most 1048576: NARROWER than '..Said'. Prove '..Said' where nothing that the law and all that it calls make is longer than what came in: it says more and counts as full. Else prove '..UptoSaid'. A law counts once. -/
mutual
def uptoBulk {H : Type} : DataW H → Nat
  | .lit (.string bytes) => bytes.length + 1
  | .lit _ => 1
  | .nil => 1
  | .ptr d => uptoBulk d + 1
  | .slice elems spare => uptoBulkAll elems + uptoBulkAll spare + 1
  | .agg parts => uptoBulkAll parts + 1
  | .iface _ d => uptoBulk d + 1
  | .map entries => uptoBulkEntries entries + 1
  | .held _ => 1
def uptoBulkAll {H : Type} : List (DataW H) → Nat
  | [] => 0
  | d :: r => uptoBulk d + uptoBulkAll r
def uptoBulkEntries {H : Type} : List (Lit × DataW H) → Nat
  | [] => 0
  | x :: r => uptoBulkEntry x + uptoBulkEntries r
def uptoBulkEntry {H : Type} : Lit × DataW H → Nat
  | (.string bytes, d) => bytes.length + uptoBulk d + 1
  | (_, d) => uptoBulk d + 1
 end
def uptoSmall : (H : Type) → List (DataW H) → Bool := fun _ ds => decide (uptoBulkAll ds ≤ 1048576)
def OpenSpec.upto (s : _root_.Go.ChangeSpec) : _root_.Go.OpenSpec := { _root_.Go.OpenSpec.ofChange s with cond := some uptoSmall }

/-- 'laws.FnExactGoodSsa', WHERE WHAT IT READS IS OF BULK AT MOST 1048576: true; the input reads as it did. -/
def fnExactGoodSsaUptoRow : OpenClaim := { program := "ytmcnoeinjocimaa", sum := "fa37bc6d3e7c96914dd7833696ee303a074cfd9388fdbe4fb579e6834502e260", func := "loop.example/g00373/laws.FnExactGoodSsa", spec := "fnExactGoodSsa", unfollowed := true, recurses := true, apart := false, narrowed := true }
def FnExactGoodSsaUptoSaid : Prop := fnExactGoodSsaUptoRow.holds Try.pinned (OpenSpec.upto fnExactGoodSsaSpec)

/-- 'laws.FnExactIsSplit', WHERE WHAT IT READS IS OF BULK AT MOST 1048576: true; the input reads as it did. -/
def fnExactIsSplitUptoRow : OpenClaim := { program := "ytmcnoeinjocimaa", sum := "fa37bc6d3e7c96914dd7833696ee303a074cfd9388fdbe4fb579e6834502e260", func := "loop.example/g00373/laws.FnExactIsSplit", spec := "fnExactIsSplit", unfollowed := true, recurses := true, apart := false, narrowed := true }
def FnExactIsSplitUptoSaid : Prop := fnExactIsSplitUptoRow.holds Try.pinned (OpenSpec.upto fnExactIsSplitSpec)

/-- 'laws.FnExactDefsOf', WHERE WHAT IT READS IS OF BULK AT MOST 1048576: true; the input reads as it did. -/
def fnExactDefsOfUptoRow : OpenClaim := { program := "ytmcnoeinjocimaa", sum := "fa37bc6d3e7c96914dd7833696ee303a074cfd9388fdbe4fb579e6834502e260", func := "loop.example/g00373/laws.FnExactDefsOf", spec := "fnExactDefsOf", unfollowed := true, recurses := true, apart := false, narrowed := true }
def FnExactDefsOfUptoSaid : Prop := fnExactDefsOfUptoRow.holds Try.pinned (OpenSpec.upto fnExactDefsOfSpec)

/-- 'laws.FnExactUsesOf', WHERE WHAT IT READS IS OF BULK AT MOST 1048576: true; the input reads as it did. -/
def fnExactUsesOfUptoRow : OpenClaim := { program := "ytmcnoeinjocimaa", sum := "fa37bc6d3e7c96914dd7833696ee303a074cfd9388fdbe4fb579e6834502e260", func := "loop.example/g00373/laws.FnExactUsesOf", spec := "fnExactUsesOf", unfollowed := true, recurses := true, apart := false, narrowed := true }
def FnExactUsesOfUptoSaid : Prop := fnExactUsesOfUptoRow.holds Try.pinned (OpenSpec.upto fnExactUsesOfSpec)

/-- 'laws.FnExactLiveIn', WHERE WHAT IT READS IS OF BULK AT MOST 1048576: true; the input reads as it did. -/
def fnExactLiveInUptoRow : OpenClaim := { program := "ytmcnoeinjocimaa", sum := "fa37bc6d3e7c96914dd7833696ee303a074cfd9388fdbe4fb579e6834502e260", func := "loop.example/g00373/laws.FnExactLiveIn", spec := "fnExactLiveIn", unfollowed := true, recurses := true, apart := false, narrowed := true }
def FnExactLiveInUptoSaid : Prop := fnExactLiveInUptoRow.holds Try.pinned (OpenSpec.upto fnExactLiveInSpec)

/-- 'laws.FnExactLiveOut', WHERE WHAT IT READS IS OF BULK AT MOST 1048576: true; the input reads as it did. -/
def fnExactLiveOutUptoRow : OpenClaim := { program := "ytmcnoeinjocimaa", sum := "fa37bc6d3e7c96914dd7833696ee303a074cfd9388fdbe4fb579e6834502e260", func := "loop.example/g00373/laws.FnExactLiveOut", spec := "fnExactLiveOut", unfollowed := true, recurses := true, apart := false, narrowed := true }
def FnExactLiveOutUptoSaid : Prop := fnExactLiveOutUptoRow.holds Try.pinned (OpenSpec.upto fnExactLiveOutSpec)

/-- 'laws.FnExactMostLive', WHERE WHAT IT READS IS OF BULK AT MOST 1048576: true; the input reads as it did. -/
def fnExactMostLiveUptoRow : OpenClaim := { program := "ytmcnoeinjocimaa", sum := "fa37bc6d3e7c96914dd7833696ee303a074cfd9388fdbe4fb579e6834502e260", func := "loop.example/g00373/laws.FnExactMostLive", spec := "fnExactMostLive", unfollowed := true, recurses := true, apart := false, narrowed := true }
def FnExactMostLiveUptoSaid : Prop := fnExactMostLiveUptoRow.holds Try.pinned (OpenSpec.upto fnExactMostLiveSpec)

/-- 'laws.FnExactSplitEdges', WHERE WHAT IT READS IS OF BULK AT MOST 1048576: true; the input reads as it did. -/
def fnExactSplitEdgesUptoRow : OpenClaim := { program := "ytmcnoeinjocimaa", sum := "fa37bc6d3e7c96914dd7833696ee303a074cfd9388fdbe4fb579e6834502e260", func := "loop.example/g00373/laws.FnExactSplitEdges", spec := "fnExactSplitEdges", unfollowed := true, recurses := true, apart := false, narrowed := true }
def FnExactSplitEdgesUptoSaid : Prop := fnExactSplitEdgesUptoRow.holds Try.pinned (OpenSpec.upto fnExactSplitEdgesSpec)

/-- 'laws.FnExactClashesOf', WHERE WHAT IT READS IS OF BULK AT MOST 1048576: true; the input reads as it did. -/
def fnExactClashesOfUptoRow : OpenClaim := { program := "ytmcnoeinjocimaa", sum := "fa37bc6d3e7c96914dd7833696ee303a074cfd9388fdbe4fb579e6834502e260", func := "loop.example/g00373/laws.FnExactClashesOf", spec := "fnExactClashesOf", unfollowed := true, recurses := true, apart := false, narrowed := true }
def FnExactClashesOfUptoSaid : Prop := fnExactClashesOfUptoRow.holds Try.pinned (OpenSpec.upto fnExactClashesOfSpec)

end Rows
end Go.Proofs.Ytmcnoeinjocimaa
