/-
  No cell of these rows narrows 'for every input' (looked for: loops, veiled, ifaces, maps, wideKeys, modest, calm, conditions, laid).
  DERIVED. THE GIVEN ROWS OF THIS SEAT. 3 by the template 'for every input the law returns true; each argument reads behind the call as it read before'; 0 by the template 'total and deterministic' (their statements: YteiekdolbnkihaaTotals.lean).
  GIVEN WITH THE SEED: the statements are not yours to turn. If you find one false, say at which input.
  Laid BY PROGRAM, IN A SANDBOX (cutbox-rows.mjs): the forced cells as the released guide's own fill.sh prints them over the translation c8d43752fae2422a… (all of the seat's roots in one cut). By AI agents, Wed Nov 11 2026. No macro, syntax, notation, axiom, sorry.
-/
import Derived.Test.YteiekdolbnkihaaChecked
import GoSem.Claim
import GoSem.ClaimJoined
import GoSem.ClaimMapViews
import Derived.JoinedTies
import Derived.KernelRfl
namespace Go.Proofs.Yteiekdolbnkihaa
/- THE CELL 'sum', in the pinned program and in every row, IS THE sha256 OF THE DUMP (.gsa) THAT YteiekdolbnkihaaProg.lean LOADS. Nothing in Lean hashes anything: it is a label: what it is worth is what the hold of that sum in a sandbox is worth. -/
noncomputable def Try.pinned : Pinned := { name := "yteiekdolbnkihaa", sum := "c8d43752fae2422a20e94d2ad9ac58808d899ddba3e0e47594a45140c0e48d6d", checked := Try.checked }
namespace Rows
def none {H : Type} : Left H := { results := [], args := [] }

/-- 'laws.FnExactIsPure': WHATEVER THE INPUT: true; the input reads as it did. -/
def fnExactIsPureSpec : ChangeSpec := { name := "fnExactIsPure", fn := fun _ => fun
  | [d] => { results := [.lit (.bool true)], args := [d] }
  | _ => none }
def fnExactIsPureRow : OpenClaim := { program := "yteiekdolbnkihaa", sum := "c8d43752fae2422a20e94d2ad9ac58808d899ddba3e0e47594a45140c0e48d6d", func := "loop.example/g00373/laws.FnExactIsPure", spec := "fnExactIsPure", unfollowed := true, recurses := true, apart := false }
def FnExactIsPureSaid : Prop := fnExactIsPureRow.holds Try.pinned (OpenSpec.ofChange fnExactIsPureSpec)

/-- ITS FALSE NEIGHBOUR: 'it returns false'. Refute it at one input. -/
def fnExactIsPureWrong : ChangeSpec := { name := "fnExactIsPure", fn := fun _ => fun
  | [d] => { results := [.lit (.bool false)], args := [d] }
  | _ => none }
def FnExactIsPureWrongFalsely : Prop := fnExactIsPureRow.holds Try.pinned (OpenSpec.ofChange fnExactIsPureWrong)

/-- 'laws.FnExactLayMoves': WHATEVER THE INPUT: true; the input reads as it did. -/
def fnExactLayMovesSpec : ChangeSpec := { name := "fnExactLayMoves", fn := fun _ => fun
  | [d1, d2, d3] => { results := [.lit (.bool true)], args := [d1, d2, d3] }
  | _ => none }
def fnExactLayMovesRow : OpenClaim := { program := "yteiekdolbnkihaa", sum := "c8d43752fae2422a20e94d2ad9ac58808d899ddba3e0e47594a45140c0e48d6d", func := "loop.example/g00373/laws.FnExactLayMoves", spec := "fnExactLayMoves", unfollowed := true, recurses := true, apart := false }
def FnExactLayMovesSaid : Prop := fnExactLayMovesRow.holds Try.pinned (OpenSpec.ofChange fnExactLayMovesSpec)

/-- ITS FALSE NEIGHBOUR: 'it returns false'. Refute it at one input. -/
def fnExactLayMovesWrong : ChangeSpec := { name := "fnExactLayMoves", fn := fun _ => fun
  | [d1, d2, d3] => { results := [.lit (.bool false)], args := [d1, d2, d3] }
  | _ => none }
def FnExactLayMovesWrongFalsely : Prop := fnExactLayMovesRow.holds Try.pinned (OpenSpec.ofChange fnExactLayMovesWrong)

/-- 'laws.FnExactCopiesIn': WHATEVER THE INPUT: true; the input reads as it did. -/
def fnExactCopiesInSpec : ChangeSpec := { name := "fnExactCopiesIn", fn := fun _ => fun
  | [d] => { results := [.lit (.bool true)], args := [d] }
  | _ => none }
def fnExactCopiesInRow : OpenClaim := { program := "yteiekdolbnkihaa", sum := "c8d43752fae2422a20e94d2ad9ac58808d899ddba3e0e47594a45140c0e48d6d", func := "loop.example/g00373/laws.FnExactCopiesIn", spec := "fnExactCopiesIn", unfollowed := true, recurses := true, apart := false }
def FnExactCopiesInSaid : Prop := fnExactCopiesInRow.holds Try.pinned (OpenSpec.ofChange fnExactCopiesInSpec)

/-- ITS FALSE NEIGHBOUR: 'it returns false'. Refute it at one input. -/
def fnExactCopiesInWrong : ChangeSpec := { name := "fnExactCopiesIn", fn := fun _ => fun
  | [d] => { results := [.lit (.bool false)], args := [d] }
  | _ => none }
def FnExactCopiesInWrongFalsely : Prop := fnExactCopiesInRow.holds Try.pinned (OpenSpec.ofChange fnExactCopiesInWrong)

/- THE SECOND FORM. 'bulk': how many values and letters a reading holds, each counted each time it is reached (what is shared counts as often as it is met; a slice's spare places count too). A statement '..UptoSaid' is the law's where the arguments, and the package variables that the reading takes, are together of bulk at most 1048576: NARROWER than '..Said'. Prove '..Said' where nothing that the law and all that it calls make is longer than what came in: it says more and counts as full. Else prove '..UptoSaid'. A law counts once. -/
mutual
def uptoBulk {H : Type} : DataW H → Nat
  | .lit (.string bytes) => bytes.length + 1
  | .lit _ => 1
  | .nil => 1
  | .ptr d => uptoBulk d + 1
  | .slice elems spare => uptoBulkAll elems + uptoBulkAll spare + 1
  | .agg parts => uptoBulkAll parts + 1
  | .iface _ d => uptoBulk d + 1
  | .map entries => uptoBulkEntries entries + 1
  | .held _ => 1
def uptoBulkAll {H : Type} : List (DataW H) → Nat
  | [] => 0
  | d :: r => uptoBulk d + uptoBulkAll r
def uptoBulkEntries {H : Type} : List (Lit × DataW H) → Nat
  | [] => 0
  | x :: r => uptoBulkEntry x + uptoBulkEntries r
def uptoBulkEntry {H : Type} : Lit × DataW H → Nat
  | (.string bytes, d) => bytes.length + uptoBulk d + 1
  | (_, d) => uptoBulk d + 1
 end
def uptoSmall : (H : Type) → List (DataW H) → Bool := fun _ ds => decide (uptoBulkAll ds ≤ 1048576)
def OpenSpec.upto (s : _root_.Go.ChangeSpec) : _root_.Go.OpenSpec := { _root_.Go.OpenSpec.ofChange s with cond := some uptoSmall }

/-- 'laws.FnExactIsPure', WHERE WHAT IT READS IS OF BULK AT MOST 1048576: true; the input reads as it did. -/
def fnExactIsPureUptoRow : OpenClaim := { program := "yteiekdolbnkihaa", sum := "c8d43752fae2422a20e94d2ad9ac58808d899ddba3e0e47594a45140c0e48d6d", func := "loop.example/g00373/laws.FnExactIsPure", spec := "fnExactIsPure", unfollowed := true, recurses := true, apart := false, narrowed := true }
def FnExactIsPureUptoSaid : Prop := fnExactIsPureUptoRow.holds Try.pinned (OpenSpec.upto fnExactIsPureSpec)

/-- 'laws.FnExactLayMoves', WHERE WHAT IT READS IS OF BULK AT MOST 1048576: true; the input reads as it did. -/
def fnExactLayMovesUptoRow : OpenClaim := { program := "yteiekdolbnkihaa", sum := "c8d43752fae2422a20e94d2ad9ac58808d899ddba3e0e47594a45140c0e48d6d", func := "loop.example/g00373/laws.FnExactLayMoves", spec := "fnExactLayMoves", unfollowed := true, recurses := true, apart := false, narrowed := true }
def FnExactLayMovesUptoSaid : Prop := fnExactLayMovesUptoRow.holds Try.pinned (OpenSpec.upto fnExactLayMovesSpec)

/-- 'laws.FnExactCopiesIn', WHERE WHAT IT READS IS OF BULK AT MOST 1048576: true; the input reads as it did. -/
def fnExactCopiesInUptoRow : OpenClaim := { program := "yteiekdolbnkihaa", sum := "c8d43752fae2422a20e94d2ad9ac58808d899ddba3e0e47594a45140c0e48d6d", func := "loop.example/g00373/laws.FnExactCopiesIn", spec := "fnExactCopiesIn", unfollowed := true, recurses := true, apart := false, narrowed := true }
def FnExactCopiesInUptoSaid : Prop := fnExactCopiesInUptoRow.holds Try.pinned (OpenSpec.upto fnExactCopiesInSpec)

end Rows
end Go.Proofs.Yteiekdolbnkihaa
