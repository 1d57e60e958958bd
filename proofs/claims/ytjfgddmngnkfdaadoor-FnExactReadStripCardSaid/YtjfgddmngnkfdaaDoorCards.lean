/-
  DERIVED. GIVEN WITH THE SEED: THE CARDS: each row of YtjfgddmngnkfdaaDoorRows.lean that lists a variable, with what it lists TIED to the program's text (the seventh form; the later family's looks); each row that meets fmt, with fmt's text TOLD by the authors' own Lean function (tested against real Go, not proved from fmt's source: count such statements apart). THE CARD IS WHAT COUNTS. Prove the row's statement (the work); the ties are given (YtjfgddmngnkfdaaDoorTie.lean); close each card by the builder's one call (the guide's Derived/Test/ToyasCard.lean, 'card_holds'). Laid BY PROGRAM, IN A SANDBOX (cutbox-door.mjs). By AI agents, Wed Nov 11 2026. No macro, syntax, notation, axiom, sorry.
-/
import Derived.Test.YtjfgddmngnkfdaaDoorRows
import GoSem.ClaimSeven
namespace Go.Proofs.YtjfgddmngnkfdaaDoor
namespace Rows

/-- THE TIED CARD OF 'laws.FnExactStripText'. -/
def fnExactStripTextCard : Claim7 := { stood := { row := fnExactStripTextRow, standIns := [], harness := (true, "87b2a2b93a58f20d33690ba052129631e4a7588e8fedcf092c4b91fcabda7886"), looks := true }, kinds := [], alts := [], laidByText := true, laidKinds := [.data, .data, .data], laidTests := true, laidLooks := .later }
def FnExactStripTextCardSaid : Prop := Claim7.holds Tryd.pinned (.plain (OpenSpec.ofChange fnExactStripTextSpec)) fnExactStripTextCard

/-- THE TIED CARD OF 'laws.FnExactReadStrip'. -/
def fnExactReadStripCard : Claim7 := { stood := { row := fnExactReadStripRow, standIns := [], harness := (true, "87b2a2b93a58f20d33690ba052129631e4a7588e8fedcf092c4b91fcabda7886"), looks := true }, kinds := [], alts := [], laidByText := true, laidKinds := [.data, .data, .data, .sentinel, .sentinel], laidTests := true, laidLooks := .later }
def FnExactReadStripCardSaid : Prop := Claim7.holds Tryd.pinned (.plain (OpenSpec.ofChange fnExactReadStripSpec)) fnExactReadStripCard

/-- THE SECOND FORM's CARD OF 'laws.FnExactStripText'. -/
def fnExactStripTextUptoCard : Claim7 := { stood := { row := fnExactStripTextUptoRow, standIns := [], harness := (true, "87b2a2b93a58f20d33690ba052129631e4a7588e8fedcf092c4b91fcabda7886"), looks := true }, kinds := [], alts := [], laidByText := true, laidKinds := [.data, .data, .data], laidTests := true, laidLooks := .later }
def FnExactStripTextUptoCardSaid : Prop := Claim7.holds Tryd.pinned (.plain (OpenSpec.upto fnExactStripTextSpec)) fnExactStripTextUptoCard

/-- THE SECOND FORM's CARD OF 'laws.FnExactReadStrip'. -/
def fnExactReadStripUptoCard : Claim7 := { stood := { row := fnExactReadStripUptoRow, standIns := [], harness := (true, "87b2a2b93a58f20d33690ba052129631e4a7588e8fedcf092c4b91fcabda7886"), looks := true }, kinds := [], alts := [], laidByText := true, laidKinds := [.data, .data, .data, .sentinel, .sentinel], laidTests := true, laidLooks := .later }
def FnExactReadStripUptoCardSaid : Prop := Claim7.holds Tryd.pinned (.plain (OpenSpec.upto fnExactReadStripSpec)) fnExactReadStripUptoCard
end Rows
end Go.Proofs.YtjfgddmngnkfdaaDoor
