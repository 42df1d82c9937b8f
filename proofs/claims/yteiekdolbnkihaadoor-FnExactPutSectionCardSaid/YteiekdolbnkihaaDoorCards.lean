/-
  DERIVED. GIVEN WITH THE SEED: THE CARDS: each row of YteiekdolbnkihaaDoorRows.lean that lists a variable, with what it lists TIED to the program's text (the seventh form; the later family's looks); each row that meets fmt, with fmt's text TOLD by the authors' own Lean function (tested against real Go, not proved from fmt's source: count such statements apart). THE CARD IS WHAT COUNTS. Prove the row's statement (the work); the ties are given (YteiekdolbnkihaaDoorTie.lean); close each card by the builder's one call (the guide's Derived/Test/ToyasCard.lean, 'card_holds'). Laid BY PROGRAM, IN A SANDBOX (cutbox-door.mjs). By AI agents, Wed Nov 11 2026. No macro, syntax, notation, axiom, sorry.
-/
import Derived.Test.YteiekdolbnkihaaDoorRows
import GoSem.ClaimSeven
namespace Go.Proofs.YteiekdolbnkihaaDoor
namespace Rows

/-- THE TIED CARD OF 'laws.FnExactNameOf'. -/
def fnExactNameOfCard : Claim7 := { stood := { row := fnExactNameOfRow, standIns := [], harness := (true, "a2ce362dcc921e5225b725ae40714f12f78047f36786cc1c7a4deb3ae2acf871"), looks := false }, kinds := [], alts := [], laidByText := true, laidKinds := [.data, .pinned], laidTests := true, laidLooks := .later }
def FnExactNameOfCardSaid : Prop := Claim7.holds Tryd.pinned (.plain (OpenSpec.ofChange fnExactNameOfSpec)) fnExactNameOfCard

/-- THE TIED CARD OF 'laws.FnExactGoodSections'. -/
def fnExactGoodSectionsCard : Claim7 := { stood := { row := fnExactGoodSectionsRow, standIns := [], harness := (true, "a2ce362dcc921e5225b725ae40714f12f78047f36786cc1c7a4deb3ae2acf871"), looks := false }, kinds := [], alts := [], laidByText := true, laidKinds := [.data, .pinned], laidTests := true, laidLooks := .later }
def FnExactGoodSectionsCardSaid : Prop := Claim7.holds Tryd.pinned (.plain (OpenSpec.ofChange fnExactGoodSectionsSpec)) fnExactGoodSectionsCard

/-- THE TIED CARD OF 'laws.FnExactSectionAt'. -/
def fnExactSectionAtCard : Claim7 := { stood := { row := fnExactSectionAtRow, standIns := [], harness := (true, "a2ce362dcc921e5225b725ae40714f12f78047f36786cc1c7a4deb3ae2acf871"), looks := false }, kinds := [], alts := [], laidByText := true, laidKinds := [.data, .pinned], laidTests := true, laidLooks := .later }
def FnExactSectionAtCardSaid : Prop := Claim7.holds Tryd.pinned (.plain (OpenSpec.ofChange fnExactSectionAtSpec)) fnExactSectionAtCard

/-- THE TIED CARD OF 'laws.FnExactModuleBytes'. -/
def fnExactModuleBytesCard : Claim7 := { stood := { row := fnExactModuleBytesRow, standIns := [], harness := (true, "a2ce362dcc921e5225b725ae40714f12f78047f36786cc1c7a4deb3ae2acf871"), looks := false }, kinds := [], alts := [], laidByText := true, laidKinds := [.data, .pinned], laidTests := true, laidLooks := .later }
def FnExactModuleBytesCardSaid : Prop := Claim7.holds Tryd.pinned (.plain (OpenSpec.ofChange fnExactModuleBytesSpec)) fnExactModuleBytesCard

/-- THE TIED CARD OF 'laws.FnExactReadModule'. -/
def fnExactReadModuleCard : Claim7 := { stood := { row := fnExactReadModuleRow, standIns := [], harness := (true, "a2ce362dcc921e5225b725ae40714f12f78047f36786cc1c7a4deb3ae2acf871"), looks := false }, kinds := [], alts := [], laidByText := true, laidKinds := [.data, .pinned], laidTests := true, laidLooks := .later }
def FnExactReadModuleCardSaid : Prop := Claim7.holds Tryd.pinned (.plain (OpenSpec.ofChange fnExactReadModuleSpec)) fnExactReadModuleCard

/-- THE TIED CARD OF 'laws.FnExactDropCustom'. -/
def fnExactDropCustomCard : Claim7 := { stood := { row := fnExactDropCustomRow, standIns := [], harness := (true, "a2ce362dcc921e5225b725ae40714f12f78047f36786cc1c7a4deb3ae2acf871"), looks := false }, kinds := [], alts := [], laidByText := true, laidKinds := [.data, .pinned], laidTests := true, laidLooks := .later }
def FnExactDropCustomCardSaid : Prop := Claim7.holds Tryd.pinned (.plain (OpenSpec.ofChange fnExactDropCustomSpec)) fnExactDropCustomCard

/-- THE TIED CARD OF 'laws.FnNames'. -/
def fnNamesCard : Claim7 := { stood := { row := fnNamesRow, standIns := [], harness := (true, "a2ce362dcc921e5225b725ae40714f12f78047f36786cc1c7a4deb3ae2acf871"), looks := false }, kinds := [], alts := [], laidByText := true, laidKinds := [.data, .pinned], laidTests := true, laidLooks := .later }
def FnNamesCardSaid : Prop := Claim7.holds Tryd.pinned (.plain (OpenSpec.ofChange fnNamesSpec)) fnNamesCard

/-- THE TIED CARD OF 'laws.FnExactPutSection'. -/
def fnExactPutSectionCard : Claim7 := { stood := { row := fnExactPutSectionRow, standIns := [], harness := (true, "a2ce362dcc921e5225b725ae40714f12f78047f36786cc1c7a4deb3ae2acf871"), looks := false }, kinds := [], alts := [], laidByText := true, laidKinds := [.data, .pinned], laidTests := true, laidLooks := .later }
def FnExactPutSectionCardSaid : Prop := Claim7.holds Tryd.pinned (.plain (OpenSpec.ofChange fnExactPutSectionSpec)) fnExactPutSectionCard

/-- THE TIED CARD OF 'laws.FnSections'. -/
def fnSectionsCard : Claim7 := { stood := { row := fnSectionsRow, standIns := [], harness := (true, "a2ce362dcc921e5225b725ae40714f12f78047f36786cc1c7a4deb3ae2acf871"), looks := false }, kinds := [], alts := [], laidByText := true, laidKinds := [.data, .pinned], laidTests := true, laidLooks := .later }
def FnSectionsCardSaid : Prop := Claim7.holds Tryd.pinned (.plain (OpenSpec.ofChange fnSectionsSpec)) fnSectionsCard

/-- THE SECOND FORM's CARD OF 'laws.FnExactNameOf'. -/
def fnExactNameOfUptoCard : Claim7 := { stood := { row := fnExactNameOfUptoRow, standIns := [], harness := (true, "a2ce362dcc921e5225b725ae40714f12f78047f36786cc1c7a4deb3ae2acf871"), looks := false }, kinds := [], alts := [], laidByText := true, laidKinds := [.data, .pinned], laidTests := true, laidLooks := .later }
def FnExactNameOfUptoCardSaid : Prop := Claim7.holds Tryd.pinned (.plain (OpenSpec.upto fnExactNameOfSpec)) fnExactNameOfUptoCard

/-- THE SECOND FORM's CARD OF 'laws.FnExactGoodSections'. -/
def fnExactGoodSectionsUptoCard : Claim7 := { stood := { row := fnExactGoodSectionsUptoRow, standIns := [], harness := (true, "a2ce362dcc921e5225b725ae40714f12f78047f36786cc1c7a4deb3ae2acf871"), looks := false }, kinds := [], alts := [], laidByText := true, laidKinds := [.data, .pinned], laidTests := true, laidLooks := .later }
def FnExactGoodSectionsUptoCardSaid : Prop := Claim7.holds Tryd.pinned (.plain (OpenSpec.upto fnExactGoodSectionsSpec)) fnExactGoodSectionsUptoCard

/-- THE SECOND FORM's CARD OF 'laws.FnExactSectionAt'. -/
def fnExactSectionAtUptoCard : Claim7 := { stood := { row := fnExactSectionAtUptoRow, standIns := [], harness := (true, "a2ce362dcc921e5225b725ae40714f12f78047f36786cc1c7a4deb3ae2acf871"), looks := false }, kinds := [], alts := [], laidByText := true, laidKinds := [.data, .pinned], laidTests := true, laidLooks := .later }
def FnExactSectionAtUptoCardSaid : Prop := Claim7.holds Tryd.pinned (.plain (OpenSpec.upto fnExactSectionAtSpec)) fnExactSectionAtUptoCard

/-- THE SECOND FORM's CARD OF 'laws.FnExactModuleBytes'. -/
def fnExactModuleBytesUptoCard : Claim7 := { stood := { row := fnExactModuleBytesUptoRow, standIns := [], harness := (true, "a2ce362dcc921e5225b725ae40714f12f78047f36786cc1c7a4deb3ae2acf871"), looks := false }, kinds := [], alts := [], laidByText := true, laidKinds := [.data, .pinned], laidTests := true, laidLooks := .later }
def FnExactModuleBytesUptoCardSaid : Prop := Claim7.holds Tryd.pinned (.plain (OpenSpec.upto fnExactModuleBytesSpec)) fnExactModuleBytesUptoCard

/-- THE SECOND FORM's CARD OF 'laws.FnExactReadModule'. -/
def fnExactReadModuleUptoCard : Claim7 := { stood := { row := fnExactReadModuleUptoRow, standIns := [], harness := (true, "a2ce362dcc921e5225b725ae40714f12f78047f36786cc1c7a4deb3ae2acf871"), looks := false }, kinds := [], alts := [], laidByText := true, laidKinds := [.data, .pinned], laidTests := true, laidLooks := .later }
def FnExactReadModuleUptoCardSaid : Prop := Claim7.holds Tryd.pinned (.plain (OpenSpec.upto fnExactReadModuleSpec)) fnExactReadModuleUptoCard

/-- THE SECOND FORM's CARD OF 'laws.FnExactDropCustom'. -/
def fnExactDropCustomUptoCard : Claim7 := { stood := { row := fnExactDropCustomUptoRow, standIns := [], harness := (true, "a2ce362dcc921e5225b725ae40714f12f78047f36786cc1c7a4deb3ae2acf871"), looks := false }, kinds := [], alts := [], laidByText := true, laidKinds := [.data, .pinned], laidTests := true, laidLooks := .later }
def FnExactDropCustomUptoCardSaid : Prop := Claim7.holds Tryd.pinned (.plain (OpenSpec.upto fnExactDropCustomSpec)) fnExactDropCustomUptoCard

/-- THE SECOND FORM's CARD OF 'laws.FnNames'. -/
def fnNamesUptoCard : Claim7 := { stood := { row := fnNamesUptoRow, standIns := [], harness := (true, "a2ce362dcc921e5225b725ae40714f12f78047f36786cc1c7a4deb3ae2acf871"), looks := false }, kinds := [], alts := [], laidByText := true, laidKinds := [.data, .pinned], laidTests := true, laidLooks := .later }
def FnNamesUptoCardSaid : Prop := Claim7.holds Tryd.pinned (.plain (OpenSpec.upto fnNamesSpec)) fnNamesUptoCard

/-- THE SECOND FORM's CARD OF 'laws.FnExactPutSection'. -/
def fnExactPutSectionUptoCard : Claim7 := { stood := { row := fnExactPutSectionUptoRow, standIns := [], harness := (true, "a2ce362dcc921e5225b725ae40714f12f78047f36786cc1c7a4deb3ae2acf871"), looks := false }, kinds := [], alts := [], laidByText := true, laidKinds := [.data, .pinned], laidTests := true, laidLooks := .later }
def FnExactPutSectionUptoCardSaid : Prop := Claim7.holds Tryd.pinned (.plain (OpenSpec.upto fnExactPutSectionSpec)) fnExactPutSectionUptoCard

/-- THE SECOND FORM's CARD OF 'laws.FnSections'. -/
def fnSectionsUptoCard : Claim7 := { stood := { row := fnSectionsUptoRow, standIns := [], harness := (true, "a2ce362dcc921e5225b725ae40714f12f78047f36786cc1c7a4deb3ae2acf871"), looks := false }, kinds := [], alts := [], laidByText := true, laidKinds := [.data, .pinned], laidTests := true, laidLooks := .later }
def FnSectionsUptoCardSaid : Prop := Claim7.holds Tryd.pinned (.plain (OpenSpec.upto fnSectionsSpec)) fnSectionsUptoCard
end Rows
end Go.Proofs.YteiekdolbnkihaaDoor
