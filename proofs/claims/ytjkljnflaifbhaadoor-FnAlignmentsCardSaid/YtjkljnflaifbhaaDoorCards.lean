/-
  DERIVED. GIVEN WITH THE SEED: THE CARDS: each row of YtjkljnflaifbhaaDoorRows.lean that lists a variable, with what it lists TIED to the program's text (the seventh form; the later family's looks); each row that meets fmt, with fmt's text TOLD by the authors' own Lean function (tested against real Go, not proved from fmt's source: count such statements apart). THE CARD IS WHAT COUNTS. Prove the row's statement (the work); the ties are given (YtjkljnflaifbhaaDoorTie.lean); close each card by the builder's one call (the guide's Derived/Test/ToyasCard.lean, 'card_holds'). Laid BY PROGRAM, IN A SANDBOX (cutbox-door.mjs). By AI agents, Wed Nov 11 2026. No macro, syntax, notation, axiom, sorry.
-/
import Derived.Test.YtjkljnflaifbhaaDoorRows
import GoSem.ClaimSeven
namespace Go.Proofs.YtjkljnflaifbhaaDoor
namespace Rows

/-- THE TIED CARD OF 'laws.FnExactValidItems'. -/
def fnExactValidItemsCard : Claim7 := { stood := { row := fnExactValidItemsRow, standIns := [], harness := (true, "324db13ecccdfac483e05e065876ba90583797c1c7bd9926a61deb09269fb5d6"), looks := false }, kinds := [], alts := [], laidByText := true, laidKinds := [.data, .pinned], laidTests := true, laidLooks := .later }
def FnExactValidItemsCardSaid : Prop := Claim7.holds Tryd.pinned (.plain (OpenSpec.ofChange fnExactValidItemsSpec)) fnExactValidItemsCard

/-- THE TIED CARD OF 'laws.FnExactValidConstruction'. -/
def fnExactValidConstructionCard : Claim7 := { stood := { row := fnExactValidConstructionRow, standIns := [], harness := (true, "324db13ecccdfac483e05e065876ba90583797c1c7bd9926a61deb09269fb5d6"), looks := false }, kinds := [], alts := [], laidByText := true, laidKinds := [.data, .widerDeep, .pinned], laidTests := true, laidLooks := .later }
def FnExactValidConstructionCardSaid : Prop := Claim7.holds Tryd.pinned (.plain (OpenSpec.ofChange fnExactValidConstructionSpec)) fnExactValidConstructionCard

/-- THE TIED CARD OF 'laws.FnExactFindItem'. -/
def fnExactFindItemCard : Claim7 := { stood := { row := fnExactFindItemRow, standIns := [], harness := (true, "324db13ecccdfac483e05e065876ba90583797c1c7bd9926a61deb09269fb5d6"), looks := false }, kinds := [], alts := [], laidByText := true, laidKinds := [.data, .pinned], laidTests := true, laidLooks := .later }
def FnExactFindItemCardSaid : Prop := Claim7.holds Tryd.pinned (.plain (OpenSpec.ofChange fnExactFindItemSpec)) fnExactFindItemCard

/-- THE TIED CARD OF 'laws.FnExactConstructionText'. -/
def fnExactConstructionTextCard : Claim7 := { stood := { row := fnExactConstructionTextRow, standIns := [], harness := (true, "324db13ecccdfac483e05e065876ba90583797c1c7bd9926a61deb09269fb5d6"), looks := false }, kinds := [], alts := [], laidByText := true, laidKinds := [.data, .data, .data, .data, .widerDeep, .pinned], laidTests := true, laidLooks := .later }
def FnExactConstructionTextCardSaid : Prop := Claim7.holds Tryd.pinned (.plain (OpenSpec.ofChange fnExactConstructionTextSpec)) fnExactConstructionTextCard

/-- THE TIED CARD OF 'laws.FnAlignments'. -/
def fnAlignmentsCard : Claim7 := { stood := { row := fnAlignmentsRow, standIns := [], harness := (true, "324db13ecccdfac483e05e065876ba90583797c1c7bd9926a61deb09269fb5d6"), looks := false }, kinds := [], alts := [], laidByText := true, laidKinds := [.data], laidTests := true, laidLooks := .later }
def FnAlignmentsCardSaid : Prop := Claim7.holds Tryd.pinned (.plain (OpenSpec.ofChange fnAlignmentsSpec)) fnAlignmentsCard

/-- THE SECOND FORM's CARD OF 'laws.FnExactValidItems'. -/
def fnExactValidItemsUptoCard : Claim7 := { stood := { row := fnExactValidItemsUptoRow, standIns := [], harness := (true, "324db13ecccdfac483e05e065876ba90583797c1c7bd9926a61deb09269fb5d6"), looks := false }, kinds := [], alts := [], laidByText := true, laidKinds := [.data, .pinned], laidTests := true, laidLooks := .later }
def FnExactValidItemsUptoCardSaid : Prop := Claim7.holds Tryd.pinned (.plain (OpenSpec.upto fnExactValidItemsSpec)) fnExactValidItemsUptoCard

/-- THE SECOND FORM's CARD OF 'laws.FnExactValidConstruction'. -/
def fnExactValidConstructionUptoCard : Claim7 := { stood := { row := fnExactValidConstructionUptoRow, standIns := [], harness := (true, "324db13ecccdfac483e05e065876ba90583797c1c7bd9926a61deb09269fb5d6"), looks := false }, kinds := [], alts := [], laidByText := true, laidKinds := [.data, .widerDeep, .pinned], laidTests := true, laidLooks := .later }
def FnExactValidConstructionUptoCardSaid : Prop := Claim7.holds Tryd.pinned (.plain (OpenSpec.upto fnExactValidConstructionSpec)) fnExactValidConstructionUptoCard

/-- THE SECOND FORM's CARD OF 'laws.FnExactFindItem'. -/
def fnExactFindItemUptoCard : Claim7 := { stood := { row := fnExactFindItemUptoRow, standIns := [], harness := (true, "324db13ecccdfac483e05e065876ba90583797c1c7bd9926a61deb09269fb5d6"), looks := false }, kinds := [], alts := [], laidByText := true, laidKinds := [.data, .pinned], laidTests := true, laidLooks := .later }
def FnExactFindItemUptoCardSaid : Prop := Claim7.holds Tryd.pinned (.plain (OpenSpec.upto fnExactFindItemSpec)) fnExactFindItemUptoCard

/-- THE SECOND FORM's CARD OF 'laws.FnExactConstructionText'. -/
def fnExactConstructionTextUptoCard : Claim7 := { stood := { row := fnExactConstructionTextUptoRow, standIns := [], harness := (true, "324db13ecccdfac483e05e065876ba90583797c1c7bd9926a61deb09269fb5d6"), looks := false }, kinds := [], alts := [], laidByText := true, laidKinds := [.data, .data, .data, .data, .widerDeep, .pinned], laidTests := true, laidLooks := .later }
def FnExactConstructionTextUptoCardSaid : Prop := Claim7.holds Tryd.pinned (.plain (OpenSpec.upto fnExactConstructionTextSpec)) fnExactConstructionTextUptoCard

/-- THE SECOND FORM's CARD OF 'laws.FnAlignments'. -/
def fnAlignmentsUptoCard : Claim7 := { stood := { row := fnAlignmentsUptoRow, standIns := [], harness := (true, "324db13ecccdfac483e05e065876ba90583797c1c7bd9926a61deb09269fb5d6"), looks := false }, kinds := [], alts := [], laidByText := true, laidKinds := [.data], laidTests := true, laidLooks := .later }
def FnAlignmentsUptoCardSaid : Prop := Claim7.holds Tryd.pinned (.plain (OpenSpec.upto fnAlignmentsSpec)) fnAlignmentsUptoCard
end Rows
end Go.Proofs.YtjkljnflaifbhaaDoor
