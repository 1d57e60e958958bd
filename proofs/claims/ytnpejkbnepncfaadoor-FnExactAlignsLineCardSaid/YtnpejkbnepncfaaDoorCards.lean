/-
  DERIVED. GIVEN WITH THE SEED: THE CARDS: each row of YtnpejkbnepncfaaDoorRows.lean that lists a variable, with what it lists TIED to the program's text (the seventh form; the later family's looks); each row that meets fmt, with fmt's text TOLD by the authors' own Lean function (tested against real Go, not proved from fmt's source: count such statements apart). THE CARD IS WHAT COUNTS. Prove the row's statement (the work); the ties are given (YtnpejkbnepncfaaDoorTie.lean); close each card by the builder's one call (the guide's Derived/Test/ToyasCard.lean, 'card_holds'). Laid BY PROGRAM, IN A SANDBOX (cutbox-door.mjs). By AI agents, Wed Nov 11 2026. No macro, syntax, notation, axiom, sorry.
-/
import Derived.Test.YtnpejkbnepncfaaDoorRows
import GoSem.ClaimSeven
namespace Go.Proofs.YtnpejkbnepncfaaDoor
namespace Rows

/-- THE TIED CARD OF 'laws.FnExactFoldPerpendicular'. -/
def fnExactFoldPerpendicularCard : Claim7 := { stood := { row := fnExactFoldPerpendicularRow, standIns := [], harness := (true, "224af97ee1cd4f5d30f40dd2ba107ac70d2d25fa4e3418a1402b2acdfe2a8d10"), looks := false }, kinds := [], alts := [], laidByText := true, laidKinds := [.data], laidTests := true, laidLooks := .later }
def FnExactFoldPerpendicularCardSaid : Prop := Claim7.holds Tryd.pinned (.plain (OpenSpec.ofChange fnExactFoldPerpendicularSpec)) fnExactFoldPerpendicularCard

/-- THE TIED CARD OF 'laws.FnExactAlignsLine'. -/
def fnExactAlignsLineCard : Claim7 := { stood := { row := fnExactAlignsLineRow, standIns := [], harness := (true, "224af97ee1cd4f5d30f40dd2ba107ac70d2d25fa4e3418a1402b2acdfe2a8d10"), looks := false }, kinds := [], alts := [], laidByText := true, laidKinds := [.data], laidTests := true, laidLooks := .later }
def FnExactAlignsLineCardSaid : Prop := Claim7.holds Tryd.pinned (.plain (OpenSpec.ofChange fnExactAlignsLineSpec)) fnExactAlignsLineCard

/-- THE SECOND FORM's CARD OF 'laws.FnExactFoldPerpendicular'. -/
def fnExactFoldPerpendicularUptoCard : Claim7 := { stood := { row := fnExactFoldPerpendicularUptoRow, standIns := [], harness := (true, "224af97ee1cd4f5d30f40dd2ba107ac70d2d25fa4e3418a1402b2acdfe2a8d10"), looks := false }, kinds := [], alts := [], laidByText := true, laidKinds := [.data], laidTests := true, laidLooks := .later }
def FnExactFoldPerpendicularUptoCardSaid : Prop := Claim7.holds Tryd.pinned (.plain (OpenSpec.upto fnExactFoldPerpendicularSpec)) fnExactFoldPerpendicularUptoCard

/-- THE SECOND FORM's CARD OF 'laws.FnExactAlignsLine'. -/
def fnExactAlignsLineUptoCard : Claim7 := { stood := { row := fnExactAlignsLineUptoRow, standIns := [], harness := (true, "224af97ee1cd4f5d30f40dd2ba107ac70d2d25fa4e3418a1402b2acdfe2a8d10"), looks := false }, kinds := [], alts := [], laidByText := true, laidKinds := [.data], laidTests := true, laidLooks := .later }
def FnExactAlignsLineUptoCardSaid : Prop := Claim7.holds Tryd.pinned (.plain (OpenSpec.upto fnExactAlignsLineSpec)) fnExactAlignsLineUptoCard
end Rows
end Go.Proofs.YtnpejkbnepncfaaDoor
