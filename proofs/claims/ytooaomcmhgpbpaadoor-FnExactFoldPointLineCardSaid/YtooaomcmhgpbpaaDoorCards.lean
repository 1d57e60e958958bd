/-
  DERIVED. GIVEN WITH THE SEED: THE CARDS: each row of YtooaomcmhgpbpaaDoorRows.lean that lists a variable, with what it lists TIED to the program's text (the seventh form; the later family's looks); each row that meets fmt, with fmt's text TOLD by the authors' own Lean function (tested against real Go, not proved from fmt's source: count such statements apart). THE CARD IS WHAT COUNTS. Prove the row's statement (the work); the ties are given (YtooaomcmhgpbpaaDoorTie.lean); close each card by the builder's one call (the guide's Derived/Test/ToyasCard.lean, 'card_holds'). Laid BY PROGRAM, IN A SANDBOX (cutbox-door.mjs). By AI agents, Wed Nov 11 2026. No macro, syntax, notation, axiom, sorry.
-/
import Derived.Test.YtooaomcmhgpbpaaDoorRows
import GoSem.ClaimSeven
namespace Go.Proofs.YtooaomcmhgpbpaaDoor
namespace Rows

/-- THE TIED CARD OF 'laws.FnExactStartItems'. -/
def fnExactStartItemsCard : Claim7 := { stood := { row := fnExactStartItemsRow, standIns := [], harness := (true, "f1fca13b0e6f44d6c30530ffdc44dd755424cd273c18b7d2096c63ec041b0747"), looks := false }, kinds := [], alts := [], laidByText := true, laidKinds := [.data], laidTests := true, laidLooks := .later }
def FnExactStartItemsCardSaid : Prop := Claim7.holds Tryd.pinned (.plain (OpenSpec.ofChange fnExactStartItemsSpec)) fnExactStartItemsCard

/-- THE TIED CARD OF 'laws.FnExactFoldTwo'. -/
def fnExactFoldTwoCard : Claim7 := { stood := { row := fnExactFoldTwoRow, standIns := [], harness := (true, "f1fca13b0e6f44d6c30530ffdc44dd755424cd273c18b7d2096c63ec041b0747"), looks := false }, kinds := [], alts := [], laidByText := true, laidKinds := [.data], laidTests := true, laidLooks := .later }
def FnExactFoldTwoCardSaid : Prop := Claim7.holds Tryd.pinned (.plain (OpenSpec.ofChange fnExactFoldTwoSpec)) fnExactFoldTwoCard

/-- THE TIED CARD OF 'laws.FnExactFoldPointLine'. -/
def fnExactFoldPointLineCard : Claim7 := { stood := { row := fnExactFoldPointLineRow, standIns := [], harness := (true, "f1fca13b0e6f44d6c30530ffdc44dd755424cd273c18b7d2096c63ec041b0747"), looks := false }, kinds := [], alts := [], laidByText := true, laidKinds := [.data], laidTests := true, laidLooks := .later }
def FnExactFoldPointLineCardSaid : Prop := Claim7.holds Tryd.pinned (.plain (OpenSpec.ofChange fnExactFoldPointLineSpec)) fnExactFoldPointLineCard

/-- THE TIED CARD OF 'laws.FnExactFoldLines'. -/
def fnExactFoldLinesCard : Claim7 := { stood := { row := fnExactFoldLinesRow, standIns := [], harness := (true, "f1fca13b0e6f44d6c30530ffdc44dd755424cd273c18b7d2096c63ec041b0747"), looks := false }, kinds := [], alts := [], laidByText := true, laidKinds := [.data], laidTests := true, laidLooks := .later }
def FnExactFoldLinesCardSaid : Prop := Claim7.holds Tryd.pinned (.plain (OpenSpec.ofChange fnExactFoldLinesSpec)) fnExactFoldLinesCard

/-- THE TIED CARD OF 'laws.FnAlignments'. -/
def fnAlignmentsCard : Claim7 := { stood := { row := fnAlignmentsRow, standIns := [], harness := (true, "f1fca13b0e6f44d6c30530ffdc44dd755424cd273c18b7d2096c63ec041b0747"), looks := false }, kinds := [], alts := [], laidByText := true, laidKinds := [.data], laidTests := true, laidLooks := .later }
def FnAlignmentsCardSaid : Prop := Claim7.holds Tryd.pinned (.plain (OpenSpec.ofChange fnAlignmentsSpec)) fnAlignmentsCard

/-- THE SECOND FORM's CARD OF 'laws.FnExactStartItems'. -/
def fnExactStartItemsUptoCard : Claim7 := { stood := { row := fnExactStartItemsUptoRow, standIns := [], harness := (true, "f1fca13b0e6f44d6c30530ffdc44dd755424cd273c18b7d2096c63ec041b0747"), looks := false }, kinds := [], alts := [], laidByText := true, laidKinds := [.data], laidTests := true, laidLooks := .later }
def FnExactStartItemsUptoCardSaid : Prop := Claim7.holds Tryd.pinned (.plain (OpenSpec.upto fnExactStartItemsSpec)) fnExactStartItemsUptoCard

/-- THE SECOND FORM's CARD OF 'laws.FnExactFoldTwo'. -/
def fnExactFoldTwoUptoCard : Claim7 := { stood := { row := fnExactFoldTwoUptoRow, standIns := [], harness := (true, "f1fca13b0e6f44d6c30530ffdc44dd755424cd273c18b7d2096c63ec041b0747"), looks := false }, kinds := [], alts := [], laidByText := true, laidKinds := [.data], laidTests := true, laidLooks := .later }
def FnExactFoldTwoUptoCardSaid : Prop := Claim7.holds Tryd.pinned (.plain (OpenSpec.upto fnExactFoldTwoSpec)) fnExactFoldTwoUptoCard

/-- THE SECOND FORM's CARD OF 'laws.FnExactFoldPointLine'. -/
def fnExactFoldPointLineUptoCard : Claim7 := { stood := { row := fnExactFoldPointLineUptoRow, standIns := [], harness := (true, "f1fca13b0e6f44d6c30530ffdc44dd755424cd273c18b7d2096c63ec041b0747"), looks := false }, kinds := [], alts := [], laidByText := true, laidKinds := [.data], laidTests := true, laidLooks := .later }
def FnExactFoldPointLineUptoCardSaid : Prop := Claim7.holds Tryd.pinned (.plain (OpenSpec.upto fnExactFoldPointLineSpec)) fnExactFoldPointLineUptoCard

/-- THE SECOND FORM's CARD OF 'laws.FnExactFoldLines'. -/
def fnExactFoldLinesUptoCard : Claim7 := { stood := { row := fnExactFoldLinesUptoRow, standIns := [], harness := (true, "f1fca13b0e6f44d6c30530ffdc44dd755424cd273c18b7d2096c63ec041b0747"), looks := false }, kinds := [], alts := [], laidByText := true, laidKinds := [.data], laidTests := true, laidLooks := .later }
def FnExactFoldLinesUptoCardSaid : Prop := Claim7.holds Tryd.pinned (.plain (OpenSpec.upto fnExactFoldLinesSpec)) fnExactFoldLinesUptoCard

/-- THE SECOND FORM's CARD OF 'laws.FnAlignments'. -/
def fnAlignmentsUptoCard : Claim7 := { stood := { row := fnAlignmentsUptoRow, standIns := [], harness := (true, "f1fca13b0e6f44d6c30530ffdc44dd755424cd273c18b7d2096c63ec041b0747"), looks := false }, kinds := [], alts := [], laidByText := true, laidKinds := [.data], laidTests := true, laidLooks := .later }
def FnAlignmentsUptoCardSaid : Prop := Claim7.holds Tryd.pinned (.plain (OpenSpec.upto fnAlignmentsSpec)) fnAlignmentsUptoCard
end Rows
end Go.Proofs.YtooaomcmhgpbpaaDoor
