/-
  NARROWER THAN 'FOR EVERY INPUT', by the rows' own cells (each row's printed sentence says how): FnExactNameOf: laid · FnExactGoodSections: laid · FnExactSectionAt: laid · FnExactModuleBytes: laid · FnExactReadModule: laid · FnExactDropCustom: laid · FnNames: laid · FnExactPutSection: laid · FnSections: laid.
  DERIVED. THE GIVEN ROWS OF THIS SEAT. 9 by the template 'for every input the law returns true; each argument reads behind the call as it read before'; 0 by the template 'total and deterministic' (their statements: YteiekdolbnkihaaDoorTotals.lean).
  GIVEN WITH THE SEED: the statements are not yours to turn. If you find one false, say at which input.
  Laid BY PROGRAM, IN A SANDBOX (cutbox-rows.mjs): the forced cells as the released guide's own fill.sh prints them over the translation 9a549e5ab77727b5… (all of the seat's roots in one cut). By AI agents, Wed Nov 11 2026. No macro, syntax, notation, axiom, sorry.
-/
import Derived.Test.YteiekdolbnkihaaDoorChecked
import GoSem.PinnedTables
import GoSem.Claim
import GoSem.ClaimJoined
import GoSem.ClaimMapViews
import Derived.JoinedTies
import Derived.KernelRfl
namespace Go.Proofs.YteiekdolbnkihaaDoor
/- THE CELL 'sum', in the pinned program and in every row, IS THE sha256 OF THE DUMP (.gsa) THAT YteiekdolbnkihaaDoorProg.lean LOADS. Nothing in Lean hashes anything: it is a label: what it is worth is what the hold of that sum in a sandbox is worth. -/
noncomputable def Tryd.pinned : Pinned := { name := "yteiekdolbnkihaadoor", sum := "9a549e5ab77727b52c1ac613b924925f6e993794c49706dddb7ead1437a4918f", checked := Tryd.checked }
namespace Rows
def none {H : Type} : Left H := { results := [], args := [] }

/- WHAT THE LISTED PACKAGE-LEVEL VARIABLES READ AS WHEN THE CALL BEGINS. Each datum BY PROGRAM (the guide's laid-datum.mjs) off the statement by which the dump's own 'gosem.cut.vars' lays the variable. In a bare row this is a premise. The card (YteiekdolbnkihaaDoorCards.lean) ties it to the program's text. -/
def laid_unicode_utf8_acceptRanges {H : Type} : DataW H := .agg [.agg [.lit (.int .u8 128), .lit (.int .u8 191)], .agg [.lit (.int .u8 160), .lit (.int .u8 191)], .agg [.lit (.int .u8 128), .lit (.int .u8 159)], .agg [.lit (.int .u8 144), .lit (.int .u8 191)], .agg [.lit (.int .u8 128), .lit (.int .u8 143)], .agg [.lit (.int .u8 0), .lit (.int .u8 0)], .agg [.lit (.int .u8 0), .lit (.int .u8 0)], .agg [.lit (.int .u8 0), .lit (.int .u8 0)], .agg [.lit (.int .u8 0), .lit (.int .u8 0)], .agg [.lit (.int .u8 0), .lit (.int .u8 0)], .agg [.lit (.int .u8 0), .lit (.int .u8 0)], .agg [.lit (.int .u8 0), .lit (.int .u8 0)], .agg [.lit (.int .u8 0), .lit (.int .u8 0)], .agg [.lit (.int .u8 0), .lit (.int .u8 0)], .agg [.lit (.int .u8 0), .lit (.int .u8 0)], .agg [.lit (.int .u8 0), .lit (.int .u8 0)]]
/-- One of Go's own tables, pinned by name: the form's constant. -/
def laid_unicode_utf8_first : DataW Unit := Go.Pinned.utf8First

/-- 'laws.FnExactNameOf': WHATEVER THE INPUT: true; the input reads as it did. -/
def fnExactNameOfSpec : ChangeSpec := { name := "fnExactNameOf", fn := fun _ => fun
  | [d] => { results := [.lit (.bool true)], args := [d] }
  | _ => none }
def fnExactNameOfRow : OpenClaim := { program := "yteiekdolbnkihaadoor", sum := "9a549e5ab77727b52c1ac613b924925f6e993794c49706dddb7ead1437a4918f", func := "loop.example/g00373/laws.FnExactNameOf", spec := "fnExactNameOf", named := ["unicode/utf8.first", "unicode/utf8.acceptRanges"], apart := false, laid := [("unicode/utf8.acceptRanges", laid_unicode_utf8_acceptRanges), ("unicode/utf8.first", laid_unicode_utf8_first)] }
def FnExactNameOfSaid : Prop := fnExactNameOfRow.holds Tryd.pinned (OpenSpec.ofChange fnExactNameOfSpec)

/-- ITS FALSE NEIGHBOUR: 'it returns false'. Refute it at one input. -/
def fnExactNameOfWrong : ChangeSpec := { name := "fnExactNameOf", fn := fun _ => fun
  | [d] => { results := [.lit (.bool false)], args := [d] }
  | _ => none }
def FnExactNameOfWrongFalsely : Prop := fnExactNameOfRow.holds Tryd.pinned (OpenSpec.ofChange fnExactNameOfWrong)

/-- 'laws.FnExactGoodSections': WHATEVER THE INPUT: true; the input reads as it did. -/
def fnExactGoodSectionsSpec : ChangeSpec := { name := "fnExactGoodSections", fn := fun _ => fun
  | [d] => { results := [.lit (.bool true)], args := [d] }
  | _ => none }
def fnExactGoodSectionsRow : OpenClaim := { program := "yteiekdolbnkihaadoor", sum := "9a549e5ab77727b52c1ac613b924925f6e993794c49706dddb7ead1437a4918f", func := "loop.example/g00373/laws.FnExactGoodSections", spec := "fnExactGoodSections", named := ["unicode/utf8.first", "unicode/utf8.acceptRanges"], apart := false, laid := [("unicode/utf8.acceptRanges", laid_unicode_utf8_acceptRanges), ("unicode/utf8.first", laid_unicode_utf8_first)] }
def FnExactGoodSectionsSaid : Prop := fnExactGoodSectionsRow.holds Tryd.pinned (OpenSpec.ofChange fnExactGoodSectionsSpec)

/-- ITS FALSE NEIGHBOUR: 'it returns false'. Refute it at one input. -/
def fnExactGoodSectionsWrong : ChangeSpec := { name := "fnExactGoodSections", fn := fun _ => fun
  | [d] => { results := [.lit (.bool false)], args := [d] }
  | _ => none }
def FnExactGoodSectionsWrongFalsely : Prop := fnExactGoodSectionsRow.holds Tryd.pinned (OpenSpec.ofChange fnExactGoodSectionsWrong)

/-- 'laws.FnExactSectionAt': WHATEVER THE INPUT: true; the input reads as it did. -/
def fnExactSectionAtSpec : ChangeSpec := { name := "fnExactSectionAt", fn := fun _ => fun
  | [d1, d2] => { results := [.lit (.bool true)], args := [d1, d2] }
  | _ => none }
def fnExactSectionAtRow : OpenClaim := { program := "yteiekdolbnkihaadoor", sum := "9a549e5ab77727b52c1ac613b924925f6e993794c49706dddb7ead1437a4918f", func := "loop.example/g00373/laws.FnExactSectionAt", spec := "fnExactSectionAt", unfollowed := true, recurses := true, named := ["unicode/utf8.first", "unicode/utf8.acceptRanges"], apart := false, laid := [("unicode/utf8.acceptRanges", laid_unicode_utf8_acceptRanges), ("unicode/utf8.first", laid_unicode_utf8_first)] }
def FnExactSectionAtSaid : Prop := fnExactSectionAtRow.holds Tryd.pinned (OpenSpec.ofChange fnExactSectionAtSpec)

/-- ITS FALSE NEIGHBOUR: 'it returns false'. Refute it at one input. -/
def fnExactSectionAtWrong : ChangeSpec := { name := "fnExactSectionAt", fn := fun _ => fun
  | [d1, d2] => { results := [.lit (.bool false)], args := [d1, d2] }
  | _ => none }
def FnExactSectionAtWrongFalsely : Prop := fnExactSectionAtRow.holds Tryd.pinned (OpenSpec.ofChange fnExactSectionAtWrong)

/-- 'laws.FnExactModuleBytes': WHATEVER THE INPUT: true; the input reads as it did. -/
def fnExactModuleBytesSpec : ChangeSpec := { name := "fnExactModuleBytes", fn := fun _ => fun
  | [d] => { results := [.lit (.bool true)], args := [d] }
  | _ => none }
def fnExactModuleBytesRow : OpenClaim := { program := "yteiekdolbnkihaadoor", sum := "9a549e5ab77727b52c1ac613b924925f6e993794c49706dddb7ead1437a4918f", func := "loop.example/g00373/laws.FnExactModuleBytes", spec := "fnExactModuleBytes", named := ["unicode/utf8.first", "unicode/utf8.acceptRanges"], apart := false, laid := [("unicode/utf8.acceptRanges", laid_unicode_utf8_acceptRanges), ("unicode/utf8.first", laid_unicode_utf8_first)] }
def FnExactModuleBytesSaid : Prop := fnExactModuleBytesRow.holds Tryd.pinned (OpenSpec.ofChange fnExactModuleBytesSpec)

/-- ITS FALSE NEIGHBOUR: 'it returns false'. Refute it at one input. -/
def fnExactModuleBytesWrong : ChangeSpec := { name := "fnExactModuleBytes", fn := fun _ => fun
  | [d] => { results := [.lit (.bool false)], args := [d] }
  | _ => none }
def FnExactModuleBytesWrongFalsely : Prop := fnExactModuleBytesRow.holds Tryd.pinned (OpenSpec.ofChange fnExactModuleBytesWrong)

/-- 'laws.FnExactReadModule': WHATEVER THE INPUT: true; the input reads as it did. -/
def fnExactReadModuleSpec : ChangeSpec := { name := "fnExactReadModule", fn := fun _ => fun
  | [d] => { results := [.lit (.bool true)], args := [d] }
  | _ => none }
def fnExactReadModuleRow : OpenClaim := { program := "yteiekdolbnkihaadoor", sum := "9a549e5ab77727b52c1ac613b924925f6e993794c49706dddb7ead1437a4918f", func := "loop.example/g00373/laws.FnExactReadModule", spec := "fnExactReadModule", named := ["unicode/utf8.first", "unicode/utf8.acceptRanges"], apart := false, laid := [("unicode/utf8.acceptRanges", laid_unicode_utf8_acceptRanges), ("unicode/utf8.first", laid_unicode_utf8_first)] }
def FnExactReadModuleSaid : Prop := fnExactReadModuleRow.holds Tryd.pinned (OpenSpec.ofChange fnExactReadModuleSpec)

/-- ITS FALSE NEIGHBOUR: 'it returns false'. Refute it at one input. -/
def fnExactReadModuleWrong : ChangeSpec := { name := "fnExactReadModule", fn := fun _ => fun
  | [d] => { results := [.lit (.bool false)], args := [d] }
  | _ => none }
def FnExactReadModuleWrongFalsely : Prop := fnExactReadModuleRow.holds Tryd.pinned (OpenSpec.ofChange fnExactReadModuleWrong)

/-- 'laws.FnExactDropCustom': WHATEVER THE INPUT: true; the input reads as it did. -/
def fnExactDropCustomSpec : ChangeSpec := { name := "fnExactDropCustom", fn := fun _ => fun
  | [d] => { results := [.lit (.bool true)], args := [d] }
  | _ => none }
def fnExactDropCustomRow : OpenClaim := { program := "yteiekdolbnkihaadoor", sum := "9a549e5ab77727b52c1ac613b924925f6e993794c49706dddb7ead1437a4918f", func := "loop.example/g00373/laws.FnExactDropCustom", spec := "fnExactDropCustom", unfollowed := true, recurses := true, named := ["unicode/utf8.first", "unicode/utf8.acceptRanges"], apart := false, laid := [("unicode/utf8.acceptRanges", laid_unicode_utf8_acceptRanges), ("unicode/utf8.first", laid_unicode_utf8_first)] }
def FnExactDropCustomSaid : Prop := fnExactDropCustomRow.holds Tryd.pinned (OpenSpec.ofChange fnExactDropCustomSpec)

/-- ITS FALSE NEIGHBOUR: 'it returns false'. Refute it at one input. -/
def fnExactDropCustomWrong : ChangeSpec := { name := "fnExactDropCustom", fn := fun _ => fun
  | [d] => { results := [.lit (.bool false)], args := [d] }
  | _ => none }
def FnExactDropCustomWrongFalsely : Prop := fnExactDropCustomRow.holds Tryd.pinned (OpenSpec.ofChange fnExactDropCustomWrong)

/-- 'laws.FnNames': WHATEVER THE INPUT: true; the input reads as it did. -/
def fnNamesSpec : ChangeSpec := { name := "fnNames", fn := fun _ => fun
  | [d1, d2] => { results := [.lit (.bool true)], args := [d1, d2] }
  | _ => none }
def fnNamesRow : OpenClaim := { program := "yteiekdolbnkihaadoor", sum := "9a549e5ab77727b52c1ac613b924925f6e993794c49706dddb7ead1437a4918f", func := "loop.example/g00373/laws.FnNames", spec := "fnNames", unfollowed := true, recurses := true, named := ["unicode/utf8.first", "unicode/utf8.acceptRanges"], apart := false, laid := [("unicode/utf8.acceptRanges", laid_unicode_utf8_acceptRanges), ("unicode/utf8.first", laid_unicode_utf8_first)] }
def FnNamesSaid : Prop := fnNamesRow.holds Tryd.pinned (OpenSpec.ofChange fnNamesSpec)

/-- ITS FALSE NEIGHBOUR: 'it returns false'. Refute it at one input. -/
def fnNamesWrong : ChangeSpec := { name := "fnNames", fn := fun _ => fun
  | [d1, d2] => { results := [.lit (.bool false)], args := [d1, d2] }
  | _ => none }
def FnNamesWrongFalsely : Prop := fnNamesRow.holds Tryd.pinned (OpenSpec.ofChange fnNamesWrong)

/-- 'laws.FnExactPutSection': WHATEVER THE INPUT: true; the input reads as it did. -/
def fnExactPutSectionSpec : ChangeSpec := { name := "fnExactPutSection", fn := fun _ => fun
  | [d1, d2, d3] => { results := [.lit (.bool true)], args := [d1, d2, d3] }
  | _ => none }
def fnExactPutSectionRow : OpenClaim := { program := "yteiekdolbnkihaadoor", sum := "9a549e5ab77727b52c1ac613b924925f6e993794c49706dddb7ead1437a4918f", func := "loop.example/g00373/laws.FnExactPutSection", spec := "fnExactPutSection", inPlace := ["slices.overlaps[loop.example/g00373/impl.Section]"], unfollowed := true, recurses := true, named := ["unicode/utf8.first", "unicode/utf8.acceptRanges"], apart := false, laid := [("unicode/utf8.acceptRanges", laid_unicode_utf8_acceptRanges), ("unicode/utf8.first", laid_unicode_utf8_first)] }
def FnExactPutSectionSaid : Prop := fnExactPutSectionRow.holds Tryd.pinned (OpenSpec.ofChange fnExactPutSectionSpec)

/-- ITS FALSE NEIGHBOUR: 'it returns false'. Refute it at one input. -/
def fnExactPutSectionWrong : ChangeSpec := { name := "fnExactPutSection", fn := fun _ => fun
  | [d1, d2, d3] => { results := [.lit (.bool false)], args := [d1, d2, d3] }
  | _ => none }
def FnExactPutSectionWrongFalsely : Prop := fnExactPutSectionRow.holds Tryd.pinned (OpenSpec.ofChange fnExactPutSectionWrong)

/-- 'laws.FnSections': WHATEVER THE INPUT: true; the input reads as it did. -/
def fnSectionsSpec : ChangeSpec := { name := "fnSections", fn := fun _ => fun
  | [d1, d2] => { results := [.lit (.bool true)], args := [d1, d2] }
  | _ => none }
def fnSectionsRow : OpenClaim := { program := "yteiekdolbnkihaadoor", sum := "9a549e5ab77727b52c1ac613b924925f6e993794c49706dddb7ead1437a4918f", func := "loop.example/g00373/laws.FnSections", spec := "fnSections", inPlace := ["slices.overlaps[loop.example/g00373/impl.Section]"], unfollowed := true, recurses := true, named := ["unicode/utf8.first", "unicode/utf8.acceptRanges"], apart := false, laid := [("unicode/utf8.acceptRanges", laid_unicode_utf8_acceptRanges), ("unicode/utf8.first", laid_unicode_utf8_first)] }
def FnSectionsSaid : Prop := fnSectionsRow.holds Tryd.pinned (OpenSpec.ofChange fnSectionsSpec)

/-- ITS FALSE NEIGHBOUR: 'it returns false'. Refute it at one input. -/
def fnSectionsWrong : ChangeSpec := { name := "fnSections", fn := fun _ => fun
  | [d1, d2] => { results := [.lit (.bool false)], args := [d1, d2] }
  | _ => none }
def FnSectionsWrongFalsely : Prop := fnSectionsRow.holds Tryd.pinned (OpenSpec.ofChange fnSectionsWrong)

/- THE SECOND FORM. 'bulk': how many values and letters a reading holds, each counted each time it is reached (what is shared counts as often as it is met; a slice's spare places count too). A statement '..UptoSaid' is the law's where the arguments, and the package variables that the reading takes, are together of bulk at most 1048576: NARROWER than '..Said'. Prove '..Said' where nothing that the law and all that it calls make is longer than what came in: it says more and counts as full. Else prove '..UptoSaid'. A law counts once. -/
mutual
def uptoBulk {H : Type} : DataW H → Nat
  | .lit (.string bytes) => bytes.length + 1
  | .lit _ => 1
  | .nil => 1
  | .ptr d => uptoBulk d + 1
  | .slice elems spare => uptoBulkAll elems + uptoBulkAll spare + 1
  | .agg parts => uptoBulkAll parts + 1
  | .iface _ d => uptoBulk d + 1
  | .map entries => uptoBulkEntries entries + 1
  | .held _ => 1
def uptoBulkAll {H : Type} : List (DataW H) → Nat
  | [] => 0
  | d :: r => uptoBulk d + uptoBulkAll r
def uptoBulkEntries {H : Type} : List (Lit × DataW H) → Nat
  | [] => 0
  | x :: r => uptoBulkEntry x + uptoBulkEntries r
def uptoBulkEntry {H : Type} : Lit × DataW H → Nat
  | (.string bytes, d) => bytes.length + uptoBulk d + 1
  | (_, d) => uptoBulk d + 1
 end
def uptoSmall : (H : Type) → List (DataW H) → Bool := fun _ ds => decide (uptoBulkAll ds ≤ 1048576)
def OpenSpec.upto (s : _root_.Go.ChangeSpec) : _root_.Go.OpenSpec := { _root_.Go.OpenSpec.ofChange s with cond := some uptoSmall }

/-- 'laws.FnExactNameOf', WHERE WHAT IT READS IS OF BULK AT MOST 1048576: true; the input reads as it did. -/
def fnExactNameOfUptoRow : OpenClaim := { program := "yteiekdolbnkihaadoor", sum := "9a549e5ab77727b52c1ac613b924925f6e993794c49706dddb7ead1437a4918f", func := "loop.example/g00373/laws.FnExactNameOf", spec := "fnExactNameOf", named := ["unicode/utf8.first", "unicode/utf8.acceptRanges"], apart := false, laid := [("unicode/utf8.acceptRanges", laid_unicode_utf8_acceptRanges), ("unicode/utf8.first", laid_unicode_utf8_first)], narrowed := true }
def FnExactNameOfUptoSaid : Prop := fnExactNameOfUptoRow.holds Tryd.pinned (OpenSpec.upto fnExactNameOfSpec)

/-- 'laws.FnExactGoodSections', WHERE WHAT IT READS IS OF BULK AT MOST 1048576: true; the input reads as it did. -/
def fnExactGoodSectionsUptoRow : OpenClaim := { program := "yteiekdolbnkihaadoor", sum := "9a549e5ab77727b52c1ac613b924925f6e993794c49706dddb7ead1437a4918f", func := "loop.example/g00373/laws.FnExactGoodSections", spec := "fnExactGoodSections", named := ["unicode/utf8.first", "unicode/utf8.acceptRanges"], apart := false, laid := [("unicode/utf8.acceptRanges", laid_unicode_utf8_acceptRanges), ("unicode/utf8.first", laid_unicode_utf8_first)], narrowed := true }
def FnExactGoodSectionsUptoSaid : Prop := fnExactGoodSectionsUptoRow.holds Tryd.pinned (OpenSpec.upto fnExactGoodSectionsSpec)

/-- 'laws.FnExactSectionAt', WHERE WHAT IT READS IS OF BULK AT MOST 1048576: true; the input reads as it did. -/
def fnExactSectionAtUptoRow : OpenClaim := { program := "yteiekdolbnkihaadoor", sum := "9a549e5ab77727b52c1ac613b924925f6e993794c49706dddb7ead1437a4918f", func := "loop.example/g00373/laws.FnExactSectionAt", spec := "fnExactSectionAt", unfollowed := true, recurses := true, named := ["unicode/utf8.first", "unicode/utf8.acceptRanges"], apart := false, laid := [("unicode/utf8.acceptRanges", laid_unicode_utf8_acceptRanges), ("unicode/utf8.first", laid_unicode_utf8_first)], narrowed := true }
def FnExactSectionAtUptoSaid : Prop := fnExactSectionAtUptoRow.holds Tryd.pinned (OpenSpec.upto fnExactSectionAtSpec)

/-- 'laws.FnExactModuleBytes', WHERE WHAT IT READS IS OF BULK AT MOST 1048576: true; the input reads as it did. -/
def fnExactModuleBytesUptoRow : OpenClaim := { program := "yteiekdolbnkihaadoor", sum := "9a549e5ab77727b52c1ac613b924925f6e993794c49706dddb7ead1437a4918f", func := "loop.example/g00373/laws.FnExactModuleBytes", spec := "fnExactModuleBytes", named := ["unicode/utf8.first", "unicode/utf8.acceptRanges"], apart := false, laid := [("unicode/utf8.acceptRanges", laid_unicode_utf8_acceptRanges), ("unicode/utf8.first", laid_unicode_utf8_first)], narrowed := true }
def FnExactModuleBytesUptoSaid : Prop := fnExactModuleBytesUptoRow.holds Tryd.pinned (OpenSpec.upto fnExactModuleBytesSpec)

/-- 'laws.FnExactReadModule', WHERE WHAT IT READS IS OF BULK AT MOST 1048576: true; the input reads as it did. -/
def fnExactReadModuleUptoRow : OpenClaim := { program := "yteiekdolbnkihaadoor", sum := "9a549e5ab77727b52c1ac613b924925f6e993794c49706dddb7ead1437a4918f", func := "loop.example/g00373/laws.FnExactReadModule", spec := "fnExactReadModule", named := ["unicode/utf8.first", "unicode/utf8.acceptRanges"], apart := false, laid := [("unicode/utf8.acceptRanges", laid_unicode_utf8_acceptRanges), ("unicode/utf8.first", laid_unicode_utf8_first)], narrowed := true }
def FnExactReadModuleUptoSaid : Prop := fnExactReadModuleUptoRow.holds Tryd.pinned (OpenSpec.upto fnExactReadModuleSpec)

/-- 'laws.FnExactDropCustom', WHERE WHAT IT READS IS OF BULK AT MOST 1048576: true; the input reads as it did. -/
def fnExactDropCustomUptoRow : OpenClaim := { program := "yteiekdolbnkihaadoor", sum := "9a549e5ab77727b52c1ac613b924925f6e993794c49706dddb7ead1437a4918f", func := "loop.example/g00373/laws.FnExactDropCustom", spec := "fnExactDropCustom", unfollowed := true, recurses := true, named := ["unicode/utf8.first", "unicode/utf8.acceptRanges"], apart := false, laid := [("unicode/utf8.acceptRanges", laid_unicode_utf8_acceptRanges), ("unicode/utf8.first", laid_unicode_utf8_first)], narrowed := true }
def FnExactDropCustomUptoSaid : Prop := fnExactDropCustomUptoRow.holds Tryd.pinned (OpenSpec.upto fnExactDropCustomSpec)

/-- 'laws.FnNames', WHERE WHAT IT READS IS OF BULK AT MOST 1048576: true; the input reads as it did. -/
def fnNamesUptoRow : OpenClaim := { program := "yteiekdolbnkihaadoor", sum := "9a549e5ab77727b52c1ac613b924925f6e993794c49706dddb7ead1437a4918f", func := "loop.example/g00373/laws.FnNames", spec := "fnNames", unfollowed := true, recurses := true, named := ["unicode/utf8.first", "unicode/utf8.acceptRanges"], apart := false, laid := [("unicode/utf8.acceptRanges", laid_unicode_utf8_acceptRanges), ("unicode/utf8.first", laid_unicode_utf8_first)], narrowed := true }
def FnNamesUptoSaid : Prop := fnNamesUptoRow.holds Tryd.pinned (OpenSpec.upto fnNamesSpec)

/-- 'laws.FnExactPutSection', WHERE WHAT IT READS IS OF BULK AT MOST 1048576: true; the input reads as it did. -/
def fnExactPutSectionUptoRow : OpenClaim := { program := "yteiekdolbnkihaadoor", sum := "9a549e5ab77727b52c1ac613b924925f6e993794c49706dddb7ead1437a4918f", func := "loop.example/g00373/laws.FnExactPutSection", spec := "fnExactPutSection", inPlace := ["slices.overlaps[loop.example/g00373/impl.Section]"], unfollowed := true, recurses := true, named := ["unicode/utf8.first", "unicode/utf8.acceptRanges"], apart := false, laid := [("unicode/utf8.acceptRanges", laid_unicode_utf8_acceptRanges), ("unicode/utf8.first", laid_unicode_utf8_first)], narrowed := true }
def FnExactPutSectionUptoSaid : Prop := fnExactPutSectionUptoRow.holds Tryd.pinned (OpenSpec.upto fnExactPutSectionSpec)

/-- 'laws.FnSections', WHERE WHAT IT READS IS OF BULK AT MOST 1048576: true; the input reads as it did. -/
def fnSectionsUptoRow : OpenClaim := { program := "yteiekdolbnkihaadoor", sum := "9a549e5ab77727b52c1ac613b924925f6e993794c49706dddb7ead1437a4918f", func := "loop.example/g00373/laws.FnSections", spec := "fnSections", inPlace := ["slices.overlaps[loop.example/g00373/impl.Section]"], unfollowed := true, recurses := true, named := ["unicode/utf8.first", "unicode/utf8.acceptRanges"], apart := false, laid := [("unicode/utf8.acceptRanges", laid_unicode_utf8_acceptRanges), ("unicode/utf8.first", laid_unicode_utf8_first)], narrowed := true }
def FnSectionsUptoSaid : Prop := fnSectionsUptoRow.holds Tryd.pinned (OpenSpec.upto fnSectionsSpec)

end Rows
end Go.Proofs.YteiekdolbnkihaaDoor
