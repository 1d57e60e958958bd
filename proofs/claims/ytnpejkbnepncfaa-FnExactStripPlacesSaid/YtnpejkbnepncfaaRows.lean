/-
  No cell of these rows narrows 'for every input' (looked for: loops, veiled, ifaces, maps, wideKeys, modest, calm, conditions, laid).
  DERIVED. THE GIVEN ROWS OF THIS SEAT. 5 by the template 'for every input the law returns true; each argument reads behind the call as it read before'; 0 by the template 'total and deterministic' (their statements: YtnpejkbnepncfaaTotals.lean).
  GIVEN WITH THE SEED: the statements are not yours to turn. If you find one false, say at which input.
  Laid BY PROGRAM, IN A SANDBOX (cutbox-rows.mjs): the forced cells as the released guide's own fill.sh prints them over the translation 8a5d15a144685897… (all of the seat's roots in one cut). By AI agents, Wed Nov 11 2026. No macro, syntax, notation, axiom, sorry.
-/
import Derived.Test.YtnpejkbnepncfaaChecked
import GoSem.Claim
import GoSem.ClaimJoined
import GoSem.ClaimMapViews
import Derived.JoinedTies
import Derived.KernelRfl
namespace Go.Proofs.Ytnpejkbnepncfaa
/- THE CELL 'sum', in the pinned program and in every row, IS THE sha256 OF THE DUMP (.gsa) THAT YtnpejkbnepncfaaProg.lean LOADS. Nothing in Lean hashes anything: it is a label: what it is worth is what the hold of that sum in a sandbox is worth. -/
noncomputable def Try.pinned : Pinned := { name := "ytnpejkbnepncfaa", sum := "8a5d15a144685897109c9ad7b04e352cf24aba8fbf114e16b44cbd3053044b4b", checked := Try.checked }
namespace Rows
def none {H : Type} : Left H := { results := [], args := [] }

/-- 'laws.FnExactValidStrip': WHATEVER THE INPUT: true; the input reads as it did. -/
def fnExactValidStripSpec : ChangeSpec := { name := "fnExactValidStrip", fn := fun _ => fun
  | [d] => { results := [.lit (.bool true)], args := [d] }
  | _ => none }
def fnExactValidStripRow : OpenClaim := { program := "ytnpejkbnepncfaa", sum := "8a5d15a144685897109c9ad7b04e352cf24aba8fbf114e16b44cbd3053044b4b", func := "loop.example/g00857/laws.FnExactValidStrip", spec := "fnExactValidStrip", unfollowed := true, recurses := true, apart := false }
def FnExactValidStripSaid : Prop := fnExactValidStripRow.holds Try.pinned (OpenSpec.ofChange fnExactValidStripSpec)

/-- ITS FALSE NEIGHBOUR: 'it returns false'. Refute it at one input. -/
def fnExactValidStripWrong : ChangeSpec := { name := "fnExactValidStrip", fn := fun _ => fun
  | [d] => { results := [.lit (.bool false)], args := [d] }
  | _ => none }
def FnExactValidStripWrongFalsely : Prop := fnExactValidStripRow.holds Try.pinned (OpenSpec.ofChange fnExactValidStripWrong)

/-- 'laws.FnExactSectorPlaces': WHATEVER THE INPUT: true; the input reads as it did. -/
def fnExactSectorPlacesSpec : ChangeSpec := { name := "fnExactSectorPlaces", fn := fun _ => fun
  | [d] => { results := [.lit (.bool true)], args := [d] }
  | _ => none }
def fnExactSectorPlacesRow : OpenClaim := { program := "ytnpejkbnepncfaa", sum := "8a5d15a144685897109c9ad7b04e352cf24aba8fbf114e16b44cbd3053044b4b", func := "loop.example/g00857/laws.FnExactSectorPlaces", spec := "fnExactSectorPlaces", unfollowed := true, recurses := true, apart := false }
def FnExactSectorPlacesSaid : Prop := fnExactSectorPlacesRow.holds Try.pinned (OpenSpec.ofChange fnExactSectorPlacesSpec)

/-- ITS FALSE NEIGHBOUR: 'it returns false'. Refute it at one input. -/
def fnExactSectorPlacesWrong : ChangeSpec := { name := "fnExactSectorPlaces", fn := fun _ => fun
  | [d] => { results := [.lit (.bool false)], args := [d] }
  | _ => none }
def FnExactSectorPlacesWrongFalsely : Prop := fnExactSectorPlacesRow.holds Try.pinned (OpenSpec.ofChange fnExactSectorPlacesWrong)

/-- 'laws.FnExactSameConstruction': WHATEVER THE INPUT: true; the input reads as it did. -/
def fnExactSameConstructionSpec : ChangeSpec := { name := "fnExactSameConstruction", fn := fun _ => fun
  | [d1, d2] => { results := [.lit (.bool true)], args := [d1, d2] }
  | _ => none }
def fnExactSameConstructionRow : OpenClaim := { program := "ytnpejkbnepncfaa", sum := "8a5d15a144685897109c9ad7b04e352cf24aba8fbf114e16b44cbd3053044b4b", func := "loop.example/g00857/laws.FnExactSameConstruction", spec := "fnExactSameConstruction", apart := false }
def FnExactSameConstructionSaid : Prop := fnExactSameConstructionRow.holds Try.pinned (OpenSpec.ofChange fnExactSameConstructionSpec)

/-- ITS FALSE NEIGHBOUR: 'it returns false'. Refute it at one input. -/
def fnExactSameConstructionWrong : ChangeSpec := { name := "fnExactSameConstruction", fn := fun _ => fun
  | [d1, d2] => { results := [.lit (.bool false)], args := [d1, d2] }
  | _ => none }
def FnExactSameConstructionWrongFalsely : Prop := fnExactSameConstructionRow.holds Try.pinned (OpenSpec.ofChange fnExactSameConstructionWrong)

/-- 'laws.FnExactStripPlaces': WHATEVER THE INPUT: true; the input reads as it did. -/
def fnExactStripPlacesSpec : ChangeSpec := { name := "fnExactStripPlaces", fn := fun _ => fun
  | [d] => { results := [.lit (.bool true)], args := [d] }
  | _ => none }
def fnExactStripPlacesRow : OpenClaim := { program := "ytnpejkbnepncfaa", sum := "8a5d15a144685897109c9ad7b04e352cf24aba8fbf114e16b44cbd3053044b4b", func := "loop.example/g00857/laws.FnExactStripPlaces", spec := "fnExactStripPlaces", unfollowed := true, recurses := true, apart := false }
def FnExactStripPlacesSaid : Prop := fnExactStripPlacesRow.holds Try.pinned (OpenSpec.ofChange fnExactStripPlacesSpec)

/-- ITS FALSE NEIGHBOUR: 'it returns false'. Refute it at one input. -/
def fnExactStripPlacesWrong : ChangeSpec := { name := "fnExactStripPlaces", fn := fun _ => fun
  | [d] => { results := [.lit (.bool false)], args := [d] }
  | _ => none }
def FnExactStripPlacesWrongFalsely : Prop := fnExactStripPlacesRow.holds Try.pinned (OpenSpec.ofChange fnExactStripPlacesWrong)

/-- 'laws.FnExactStepsOf': WHATEVER THE INPUT: true; the input reads as it did. -/
def fnExactStepsOfSpec : ChangeSpec := { name := "fnExactStepsOf", fn := fun _ => fun
  | [d] => { results := [.lit (.bool true)], args := [d] }
  | _ => none }
def fnExactStepsOfRow : OpenClaim := { program := "ytnpejkbnepncfaa", sum := "8a5d15a144685897109c9ad7b04e352cf24aba8fbf114e16b44cbd3053044b4b", func := "loop.example/g00857/laws.FnExactStepsOf", spec := "fnExactStepsOf", unfollowed := true, recurses := true, apart := false }
def FnExactStepsOfSaid : Prop := fnExactStepsOfRow.holds Try.pinned (OpenSpec.ofChange fnExactStepsOfSpec)

/-- ITS FALSE NEIGHBOUR: 'it returns false'. Refute it at one input. -/
def fnExactStepsOfWrong : ChangeSpec := { name := "fnExactStepsOf", fn := fun _ => fun
  | [d] => { results := [.lit (.bool false)], args := [d] }
  | _ => none }
def FnExactStepsOfWrongFalsely : Prop := fnExactStepsOfRow.holds Try.pinned (OpenSpec.ofChange fnExactStepsOfWrong)

/- THE SECOND FORM. 'bulk': how many values and letters a reading holds, each counted each time it is reached (what is shared counts as often as it is met; a slice's spare places count too). A statement '..UptoSaid' is the law's where the arguments, and the package variables that the reading takes, are together of bulk at most 1048576: NARROWER than '..Said'. Prove '..Said' where nothing that the law and all that it calls make is longer than what came in: it says more and counts as full. Else prove '..UptoSaid'. A law counts once. -/
mutual
def uptoBulk {H : Type} : DataW H → Nat
  | .lit (.string bytes) => bytes.length + 1
  | .lit _ => 1
  | .nil => 1
  | .ptr d => uptoBulk d + 1
  | .slice elems spare => uptoBulkAll elems + uptoBulkAll spare + 1
  | .agg parts => uptoBulkAll parts + 1
  | .iface _ d => uptoBulk d + 1
  | .map entries => uptoBulkEntries entries + 1
  | .held _ => 1
def uptoBulkAll {H : Type} : List (DataW H) → Nat
  | [] => 0
  | d :: r => uptoBulk d + uptoBulkAll r
def uptoBulkEntries {H : Type} : List (Lit × DataW H) → Nat
  | [] => 0
  | x :: r => uptoBulkEntry x + uptoBulkEntries r
def uptoBulkEntry {H : Type} : Lit × DataW H → Nat
  | (.string bytes, d) => bytes.length + uptoBulk d + 1
  | (_, d) => uptoBulk d + 1
 end
def uptoSmall : (H : Type) → List (DataW H) → Bool := fun _ ds => decide (uptoBulkAll ds ≤ 1048576)
def OpenSpec.upto (s : _root_.Go.ChangeSpec) : _root_.Go.OpenSpec := { _root_.Go.OpenSpec.ofChange s with cond := some uptoSmall }

/-- 'laws.FnExactValidStrip', WHERE WHAT IT READS IS OF BULK AT MOST 1048576: true; the input reads as it did. -/
def fnExactValidStripUptoRow : OpenClaim := { program := "ytnpejkbnepncfaa", sum := "8a5d15a144685897109c9ad7b04e352cf24aba8fbf114e16b44cbd3053044b4b", func := "loop.example/g00857/laws.FnExactValidStrip", spec := "fnExactValidStrip", unfollowed := true, recurses := true, apart := false, narrowed := true }
def FnExactValidStripUptoSaid : Prop := fnExactValidStripUptoRow.holds Try.pinned (OpenSpec.upto fnExactValidStripSpec)

/-- 'laws.FnExactSectorPlaces', WHERE WHAT IT READS IS OF BULK AT MOST 1048576: true; the input reads as it did. -/
def fnExactSectorPlacesUptoRow : OpenClaim := { program := "ytnpejkbnepncfaa", sum := "8a5d15a144685897109c9ad7b04e352cf24aba8fbf114e16b44cbd3053044b4b", func := "loop.example/g00857/laws.FnExactSectorPlaces", spec := "fnExactSectorPlaces", unfollowed := true, recurses := true, apart := false, narrowed := true }
def FnExactSectorPlacesUptoSaid : Prop := fnExactSectorPlacesUptoRow.holds Try.pinned (OpenSpec.upto fnExactSectorPlacesSpec)

/-- 'laws.FnExactSameConstruction', WHERE WHAT IT READS IS OF BULK AT MOST 1048576: true; the input reads as it did. -/
def fnExactSameConstructionUptoRow : OpenClaim := { program := "ytnpejkbnepncfaa", sum := "8a5d15a144685897109c9ad7b04e352cf24aba8fbf114e16b44cbd3053044b4b", func := "loop.example/g00857/laws.FnExactSameConstruction", spec := "fnExactSameConstruction", apart := false, narrowed := true }
def FnExactSameConstructionUptoSaid : Prop := fnExactSameConstructionUptoRow.holds Try.pinned (OpenSpec.upto fnExactSameConstructionSpec)

/-- 'laws.FnExactStripPlaces', WHERE WHAT IT READS IS OF BULK AT MOST 1048576: true; the input reads as it did. -/
def fnExactStripPlacesUptoRow : OpenClaim := { program := "ytnpejkbnepncfaa", sum := "8a5d15a144685897109c9ad7b04e352cf24aba8fbf114e16b44cbd3053044b4b", func := "loop.example/g00857/laws.FnExactStripPlaces", spec := "fnExactStripPlaces", unfollowed := true, recurses := true, apart := false, narrowed := true }
def FnExactStripPlacesUptoSaid : Prop := fnExactStripPlacesUptoRow.holds Try.pinned (OpenSpec.upto fnExactStripPlacesSpec)

/-- 'laws.FnExactStepsOf', WHERE WHAT IT READS IS OF BULK AT MOST 1048576: true; the input reads as it did. -/
def fnExactStepsOfUptoRow : OpenClaim := { program := "ytnpejkbnepncfaa", sum := "8a5d15a144685897109c9ad7b04e352cf24aba8fbf114e16b44cbd3053044b4b", func := "loop.example/g00857/laws.FnExactStepsOf", spec := "fnExactStepsOf", unfollowed := true, recurses := true, apart := false, narrowed := true }
def FnExactStepsOfUptoSaid : Prop := fnExactStepsOfUptoRow.holds Try.pinned (OpenSpec.upto fnExactStepsOfSpec)

end Rows
end Go.Proofs.Ytnpejkbnepncfaa
