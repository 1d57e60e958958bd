/-
  DERIVED. GIVEN WITH THE SEED: THE CARDS: each row of YtjkljnflaifbhaaGreatDoorRows.lean that lists a variable, with what it lists TIED to the program's text (the seventh form; the later family's looks); each row that meets fmt, with fmt's text TOLD by the authors' own Lean function (tested against real Go, not proved from fmt's source: count such statements apart). THE CARD IS WHAT COUNTS. Prove the row's statement (the work); the ties are given (YtjkljnflaifbhaaGreatDoorTie.lean); close each card by the builder's one call (the guide's Derived/Test/ToyasCard.lean, 'card_holds'). Laid BY PROGRAM, IN A SANDBOX (cutbox-door.mjs). By AI agents, Wed Nov 11 2026. No macro, syntax, notation, axiom, sorry.
-/
import Derived.Test.YtjkljnflaifbhaaGreatDoorRows
import GoSem.ClaimSeven
namespace Go.Proofs.YtjkljnflaifbhaaGreatDoor
namespace Rows

/-- THE TIED CARD OF 'laws.FnExactReadConstruction'. -/
def fnExactReadConstructionCard : Claim7 := { stood := { row := fnExactReadConstructionRow, standIns := [], harness := (true, "7c7a850c821f7f577627136bcc1a1390587941bc40992893542e03712ad8ef42"), looks := true }, kinds := [], alts := [], laidByText := true, laidKinds := [.data, .data, .data, .data, .sentinel, .sentinel, .widerDeep, .pinned], laidTests := true, laidLooks := .later }
def FnExactReadConstructionCardSaid : Prop := Claim7.holds Tryz.pinned (.plain (OpenSpec.ofChange fnExactReadConstructionSpec)) fnExactReadConstructionCard

/-- THE TIED CARD OF 'laws.FnExactConstructOne'. -/
def fnExactConstructOneCard : Claim7 := { stood := { row := fnExactConstructOneRow, standIns := [], harness := (true, "7c7a850c821f7f577627136bcc1a1390587941bc40992893542e03712ad8ef42"), looks := true }, kinds := [], alts := [], laidByText := true, laidKinds := [.data, .data, .widerDeep, .pinned], laidTests := true, laidLooks := .later }
def FnExactConstructOneCardSaid : Prop := Claim7.holds Tryz.pinned (.plain (OpenSpec.ofChange fnExactConstructOneSpec)) fnExactConstructOneCard

/-- THE TIED CARD OF 'laws.FnExactConstructAll'. -/
def fnExactConstructAllCard : Claim7 := { stood := { row := fnExactConstructAllRow, standIns := [], harness := (true, "7c7a850c821f7f577627136bcc1a1390587941bc40992893542e03712ad8ef42"), looks := true }, kinds := [], alts := [], laidByText := true, laidKinds := [.data, .data, .widerDeep, .pinned], laidTests := true, laidLooks := .later }
def FnExactConstructAllCardSaid : Prop := Claim7.holds Tryz.pinned (.plain (OpenSpec.ofChange fnExactConstructAllSpec)) fnExactConstructAllCard

/-- THE TIED CARD OF 'laws.FnAllAlignments'. -/
def fnAllAlignmentsCard : Claim7 := { stood := { row := fnAllAlignmentsRow, standIns := [], harness := (true, "7c7a850c821f7f577627136bcc1a1390587941bc40992893542e03712ad8ef42"), looks := true }, kinds := [], alts := [], laidByText := true, laidKinds := [.data], laidTests := true, laidLooks := .later }
def FnAllAlignmentsCardSaid : Prop := Claim7.holds Tryz.pinned (.plain (OpenSpec.ofChange fnAllAlignmentsSpec)) fnAllAlignmentsCard

/-- THE SECOND FORM's CARD OF 'laws.FnExactReadConstruction'. -/
def fnExactReadConstructionUptoCard : Claim7 := { stood := { row := fnExactReadConstructionUptoRow, standIns := [], harness := (true, "7c7a850c821f7f577627136bcc1a1390587941bc40992893542e03712ad8ef42"), looks := true }, kinds := [], alts := [], laidByText := true, laidKinds := [.data, .data, .data, .data, .sentinel, .sentinel, .widerDeep, .pinned], laidTests := true, laidLooks := .later }
def FnExactReadConstructionUptoCardSaid : Prop := Claim7.holds Tryz.pinned (.plain (OpenSpec.upto fnExactReadConstructionSpec)) fnExactReadConstructionUptoCard

/-- THE SECOND FORM's CARD OF 'laws.FnExactConstructOne'. -/
def fnExactConstructOneUptoCard : Claim7 := { stood := { row := fnExactConstructOneUptoRow, standIns := [], harness := (true, "7c7a850c821f7f577627136bcc1a1390587941bc40992893542e03712ad8ef42"), looks := true }, kinds := [], alts := [], laidByText := true, laidKinds := [.data, .data, .widerDeep, .pinned], laidTests := true, laidLooks := .later }
def FnExactConstructOneUptoCardSaid : Prop := Claim7.holds Tryz.pinned (.plain (OpenSpec.upto fnExactConstructOneSpec)) fnExactConstructOneUptoCard

/-- THE SECOND FORM's CARD OF 'laws.FnExactConstructAll'. -/
def fnExactConstructAllUptoCard : Claim7 := { stood := { row := fnExactConstructAllUptoRow, standIns := [], harness := (true, "7c7a850c821f7f577627136bcc1a1390587941bc40992893542e03712ad8ef42"), looks := true }, kinds := [], alts := [], laidByText := true, laidKinds := [.data, .data, .widerDeep, .pinned], laidTests := true, laidLooks := .later }
def FnExactConstructAllUptoCardSaid : Prop := Claim7.holds Tryz.pinned (.plain (OpenSpec.upto fnExactConstructAllSpec)) fnExactConstructAllUptoCard

/-- THE SECOND FORM's CARD OF 'laws.FnAllAlignments'. -/
def fnAllAlignmentsUptoCard : Claim7 := { stood := { row := fnAllAlignmentsUptoRow, standIns := [], harness := (true, "7c7a850c821f7f577627136bcc1a1390587941bc40992893542e03712ad8ef42"), looks := true }, kinds := [], alts := [], laidByText := true, laidKinds := [.data], laidTests := true, laidLooks := .later }
def FnAllAlignmentsUptoCardSaid : Prop := Claim7.holds Tryz.pinned (.plain (OpenSpec.upto fnAllAlignmentsSpec)) fnAllAlignmentsUptoCard
end Rows
end Go.Proofs.YtjkljnflaifbhaaGreatDoor
