/-
  DERIVED. GIVEN WITH THE SEED: THE CARDS: each row of YtocobkbckingoaaDoorRows.lean that lists a variable, with what it lists TIED to the program's text (the seventh form; the later family's looks); each row that meets fmt, with fmt's text TOLD by the authors' own Lean function (tested against real Go, not proved from fmt's source: count such statements apart). THE CARD IS WHAT COUNTS. Prove the row's statement (the work); the ties are given (YtocobkbckingoaaDoorTie.lean); close each card by the builder's one call (the guide's Derived/Test/ToyasCard.lean, 'card_holds'). Laid BY PROGRAM, IN A SANDBOX (cutbox-door.mjs). By AI agents, Wed Nov 11 2026. No macro, syntax, notation, axiom, sorry.
-/
import Derived.Test.YtocobkbckingoaaDoorRows
import GoSem.ClaimSeven
namespace Go.Proofs.YtocobkbckingoaaDoor
namespace Rows

/-- THE TIED CARD OF 'laws.FnExactAlignsPoint'. -/
def fnExactAlignsPointCard : Claim7 := { stood := { row := fnExactAlignsPointRow, standIns := [], harness := (true, "af0f8c106f0d1d7506c53de39ee49b0b0ade3996183b68a27215b2f83211c901"), looks := false }, kinds := [], alts := [], laidByText := true, laidKinds := [.data], laidTests := true, laidLooks := .later }
def FnExactAlignsPointCardSaid : Prop := Claim7.holds Tryd.pinned (.plain (OpenSpec.ofChange fnExactAlignsPointSpec)) fnExactAlignsPointCard

/-- THE TIED CARD OF 'laws.FnExactFoldAcross'. -/
def fnExactFoldAcrossCard : Claim7 := { stood := { row := fnExactFoldAcrossRow, standIns := [], harness := (true, "af0f8c106f0d1d7506c53de39ee49b0b0ade3996183b68a27215b2f83211c901"), looks := false }, kinds := [], alts := [], laidByText := true, laidKinds := [.data], laidTests := true, laidLooks := .later }
def FnExactFoldAcrossCardSaid : Prop := Claim7.holds Tryd.pinned (.plain (OpenSpec.ofChange fnExactFoldAcrossSpec)) fnExactFoldAcrossCard

/-- THE TIED CARD OF 'laws.FnExactFoldThrough'. -/
def fnExactFoldThroughCard : Claim7 := { stood := { row := fnExactFoldThroughRow, standIns := [], harness := (true, "af0f8c106f0d1d7506c53de39ee49b0b0ade3996183b68a27215b2f83211c901"), looks := false }, kinds := [], alts := [], laidByText := true, laidKinds := [.data], laidTests := true, laidLooks := .later }
def FnExactFoldThroughCardSaid : Prop := Claim7.holds Tryd.pinned (.plain (OpenSpec.ofChange fnExactFoldThroughSpec)) fnExactFoldThroughCard

/-- THE TIED CARD OF 'laws.FnExactFoldOnto'. -/
def fnExactFoldOntoCard : Claim7 := { stood := { row := fnExactFoldOntoRow, standIns := [], harness := (true, "af0f8c106f0d1d7506c53de39ee49b0b0ade3996183b68a27215b2f83211c901"), looks := false }, kinds := [], alts := [], laidByText := true, laidKinds := [.data], laidTests := true, laidLooks := .later }
def FnExactFoldOntoCardSaid : Prop := Claim7.holds Tryd.pinned (.plain (OpenSpec.ofChange fnExactFoldOntoSpec)) fnExactFoldOntoCard

/-- THE TIED CARD OF 'laws.FnExactStripText'. -/
def fnExactStripTextCard : Claim7 := { stood := { row := fnExactStripTextRow, standIns := [], harness := (true, "af0f8c106f0d1d7506c53de39ee49b0b0ade3996183b68a27215b2f83211c901"), looks := false }, kinds := [], alts := [], laidByText := true, laidKinds := [.data, .data, .data], laidTests := true, laidLooks := .later }
def FnExactStripTextCardSaid : Prop := Claim7.holds Tryd.pinned (.plain (OpenSpec.ofChange fnExactStripTextSpec)) fnExactStripTextCard

/-- THE TIED CARD OF 'laws.FnExactStartItems'. -/
def fnExactStartItemsCard : Claim7 := { stood := { row := fnExactStartItemsRow, standIns := [], harness := (true, "af0f8c106f0d1d7506c53de39ee49b0b0ade3996183b68a27215b2f83211c901"), looks := false }, kinds := [], alts := [], laidByText := true, laidKinds := [.data], laidTests := true, laidLooks := .later }
def FnExactStartItemsCardSaid : Prop := Claim7.holds Tryd.pinned (.plain (OpenSpec.ofChange fnExactStartItemsSpec)) fnExactStartItemsCard

/-- THE TIED CARD OF 'laws.FnExactValidItems'. -/
def fnExactValidItemsCard : Claim7 := { stood := { row := fnExactValidItemsRow, standIns := [], harness := (true, "af0f8c106f0d1d7506c53de39ee49b0b0ade3996183b68a27215b2f83211c901"), looks := false }, kinds := [], alts := [], laidByText := true, laidKinds := [.data, .pinned], laidTests := true, laidLooks := .later }
def FnExactValidItemsCardSaid : Prop := Claim7.holds Tryd.pinned (.plain (OpenSpec.ofChange fnExactValidItemsSpec)) fnExactValidItemsCard

/-- THE SECOND FORM's CARD OF 'laws.FnExactAlignsPoint'. -/
def fnExactAlignsPointUptoCard : Claim7 := { stood := { row := fnExactAlignsPointUptoRow, standIns := [], harness := (true, "af0f8c106f0d1d7506c53de39ee49b0b0ade3996183b68a27215b2f83211c901"), looks := false }, kinds := [], alts := [], laidByText := true, laidKinds := [.data], laidTests := true, laidLooks := .later }
def FnExactAlignsPointUptoCardSaid : Prop := Claim7.holds Tryd.pinned (.plain (OpenSpec.upto fnExactAlignsPointSpec)) fnExactAlignsPointUptoCard

/-- THE SECOND FORM's CARD OF 'laws.FnExactFoldAcross'. -/
def fnExactFoldAcrossUptoCard : Claim7 := { stood := { row := fnExactFoldAcrossUptoRow, standIns := [], harness := (true, "af0f8c106f0d1d7506c53de39ee49b0b0ade3996183b68a27215b2f83211c901"), looks := false }, kinds := [], alts := [], laidByText := true, laidKinds := [.data], laidTests := true, laidLooks := .later }
def FnExactFoldAcrossUptoCardSaid : Prop := Claim7.holds Tryd.pinned (.plain (OpenSpec.upto fnExactFoldAcrossSpec)) fnExactFoldAcrossUptoCard

/-- THE SECOND FORM's CARD OF 'laws.FnExactFoldThrough'. -/
def fnExactFoldThroughUptoCard : Claim7 := { stood := { row := fnExactFoldThroughUptoRow, standIns := [], harness := (true, "af0f8c106f0d1d7506c53de39ee49b0b0ade3996183b68a27215b2f83211c901"), looks := false }, kinds := [], alts := [], laidByText := true, laidKinds := [.data], laidTests := true, laidLooks := .later }
def FnExactFoldThroughUptoCardSaid : Prop := Claim7.holds Tryd.pinned (.plain (OpenSpec.upto fnExactFoldThroughSpec)) fnExactFoldThroughUptoCard

/-- THE SECOND FORM's CARD OF 'laws.FnExactFoldOnto'. -/
def fnExactFoldOntoUptoCard : Claim7 := { stood := { row := fnExactFoldOntoUptoRow, standIns := [], harness := (true, "af0f8c106f0d1d7506c53de39ee49b0b0ade3996183b68a27215b2f83211c901"), looks := false }, kinds := [], alts := [], laidByText := true, laidKinds := [.data], laidTests := true, laidLooks := .later }
def FnExactFoldOntoUptoCardSaid : Prop := Claim7.holds Tryd.pinned (.plain (OpenSpec.upto fnExactFoldOntoSpec)) fnExactFoldOntoUptoCard

/-- THE SECOND FORM's CARD OF 'laws.FnExactStripText'. -/
def fnExactStripTextUptoCard : Claim7 := { stood := { row := fnExactStripTextUptoRow, standIns := [], harness := (true, "af0f8c106f0d1d7506c53de39ee49b0b0ade3996183b68a27215b2f83211c901"), looks := false }, kinds := [], alts := [], laidByText := true, laidKinds := [.data, .data, .data], laidTests := true, laidLooks := .later }
def FnExactStripTextUptoCardSaid : Prop := Claim7.holds Tryd.pinned (.plain (OpenSpec.upto fnExactStripTextSpec)) fnExactStripTextUptoCard

/-- THE SECOND FORM's CARD OF 'laws.FnExactStartItems'. -/
def fnExactStartItemsUptoCard : Claim7 := { stood := { row := fnExactStartItemsUptoRow, standIns := [], harness := (true, "af0f8c106f0d1d7506c53de39ee49b0b0ade3996183b68a27215b2f83211c901"), looks := false }, kinds := [], alts := [], laidByText := true, laidKinds := [.data], laidTests := true, laidLooks := .later }
def FnExactStartItemsUptoCardSaid : Prop := Claim7.holds Tryd.pinned (.plain (OpenSpec.upto fnExactStartItemsSpec)) fnExactStartItemsUptoCard

/-- THE SECOND FORM's CARD OF 'laws.FnExactValidItems'. -/
def fnExactValidItemsUptoCard : Claim7 := { stood := { row := fnExactValidItemsUptoRow, standIns := [], harness := (true, "af0f8c106f0d1d7506c53de39ee49b0b0ade3996183b68a27215b2f83211c901"), looks := false }, kinds := [], alts := [], laidByText := true, laidKinds := [.data, .pinned], laidTests := true, laidLooks := .later }
def FnExactValidItemsUptoCardSaid : Prop := Claim7.holds Tryd.pinned (.plain (OpenSpec.upto fnExactValidItemsSpec)) fnExactValidItemsUptoCard
end Rows
end Go.Proofs.YtocobkbckingoaaDoor
