/-
  No cell of these rows narrows 'for every input' (looked for: loops, veiled, ifaces, maps, wideKeys, modest, calm, conditions, laid).
  DERIVED. THE GIVEN ROWS OF THIS SEAT. 7 by the template 'for every input the law returns true; each argument reads behind the call as it read before'; 0 by the template 'total and deterministic' (their statements: YtpabholjoblkbaaTotals.lean).
  GIVEN WITH THE SEED: the statements are not yours to turn. If you find one false, say at which input.
  Laid BY PROGRAM, IN A SANDBOX (cutbox-rows.mjs): the forced cells as the released guide's own fill.sh prints them over the translation 0e6db369fc200868… (all of the seat's roots in one cut). By AI agents, Wed Nov 11 2026. No macro, syntax, notation, axiom, sorry.
-/
import Derived.Test.YtpabholjoblkbaaChecked
import GoSem.Claim
import GoSem.ClaimJoined
import GoSem.ClaimMapViews
import Derived.JoinedTies
import Derived.KernelRfl
namespace Go.Proofs.Ytpabholjoblkbaa
/- THE CELL 'sum', in the pinned program and in every row, IS THE sha256 OF THE DUMP (.gsa) THAT YtpabholjoblkbaaProg.lean LOADS. Nothing in Lean hashes anything: it is a label: what it is worth is what the hold of that sum in a sandbox is worth. -/
noncomputable def Try.pinned : Pinned := { name := "ytpabholjoblkbaa", sum := "0e6db369fc2008689ee5d48625da7e04499330059af7815eb08c33ea51146b31", checked := Try.checked }
namespace Rows
def none {H : Type} : Left H := { results := [], args := [] }

/-- 'laws.FnExactStepsOf': WHATEVER THE INPUT: true; the input reads as it did. -/
def fnExactStepsOfSpec : ChangeSpec := { name := "fnExactStepsOf", fn := fun _ => fun
  | [d] => { results := [.lit (.bool true)], args := [d] }
  | _ => none }
def fnExactStepsOfRow : OpenClaim := { program := "ytpabholjoblkbaa", sum := "0e6db369fc2008689ee5d48625da7e04499330059af7815eb08c33ea51146b31", func := "loop.example/g00857/laws.FnExactStepsOf", spec := "fnExactStepsOf", unfollowed := true, recurses := true, apart := false }
def FnExactStepsOfSaid : Prop := fnExactStepsOfRow.holds Try.pinned (OpenSpec.ofChange fnExactStepsOfSpec)

/-- ITS FALSE NEIGHBOUR: 'it returns false'. Refute it at one input. -/
def fnExactStepsOfWrong : ChangeSpec := { name := "fnExactStepsOf", fn := fun _ => fun
  | [d] => { results := [.lit (.bool false)], args := [d] }
  | _ => none }
def FnExactStepsOfWrongFalsely : Prop := fnExactStepsOfRow.holds Try.pinned (OpenSpec.ofChange fnExactStepsOfWrong)

/-- 'laws.FnExactApplyStrip': WHATEVER THE INPUT: true; the input reads as it did. -/
def fnExactApplyStripSpec : ChangeSpec := { name := "fnExactApplyStrip", fn := fun _ => fun
  | [d1, d2] => { results := [.lit (.bool true)], args := [d1, d2] }
  | _ => none }
def fnExactApplyStripRow : OpenClaim := { program := "ytpabholjoblkbaa", sum := "0e6db369fc2008689ee5d48625da7e04499330059af7815eb08c33ea51146b31", func := "loop.example/g00857/laws.FnExactApplyStrip", spec := "fnExactApplyStrip", inPlace := ["slices.overlaps[int64]"], unfollowed := true, recurses := true, apart := false }
def FnExactApplyStripSaid : Prop := fnExactApplyStripRow.holds Try.pinned (OpenSpec.ofChange fnExactApplyStripSpec)

/-- ITS FALSE NEIGHBOUR: 'it returns false'. Refute it at one input. -/
def fnExactApplyStripWrong : ChangeSpec := { name := "fnExactApplyStrip", fn := fun _ => fun
  | [d1, d2] => { results := [.lit (.bool false)], args := [d1, d2] }
  | _ => none }
def FnExactApplyStripWrongFalsely : Prop := fnExactApplyStripRow.holds Try.pinned (OpenSpec.ofChange fnExactApplyStripWrong)

/-- 'laws.FnExactCountFlat': WHATEVER THE INPUT: true; the input reads as it did. -/
def fnExactCountFlatSpec : ChangeSpec := { name := "fnExactCountFlat", fn := fun _ => fun
  | [d] => { results := [.lit (.bool true)], args := [d] }
  | _ => none }
def fnExactCountFlatRow : OpenClaim := { program := "ytpabholjoblkbaa", sum := "0e6db369fc2008689ee5d48625da7e04499330059af7815eb08c33ea51146b31", func := "loop.example/g00857/laws.FnExactCountFlat", spec := "fnExactCountFlat", inPlace := ["slices.overlaps[int64]"], unfollowed := true, recurses := true, apart := false }
def FnExactCountFlatSaid : Prop := fnExactCountFlatRow.holds Try.pinned (OpenSpec.ofChange fnExactCountFlatSpec)

/-- ITS FALSE NEIGHBOUR: 'it returns false'. Refute it at one input. -/
def fnExactCountFlatWrong : ChangeSpec := { name := "fnExactCountFlat", fn := fun _ => fun
  | [d] => { results := [.lit (.bool false)], args := [d] }
  | _ => none }
def FnExactCountFlatWrongFalsely : Prop := fnExactCountFlatRow.holds Try.pinned (OpenSpec.ofChange fnExactCountFlatWrong)

/-- 'laws.FnExactCheckReduction': WHATEVER THE INPUT: true; the input reads as it did. -/
def fnExactCheckReductionSpec : ChangeSpec := { name := "fnExactCheckReduction", fn := fun _ => fun
  | [d1, d2] => { results := [.lit (.bool true)], args := [d1, d2] }
  | _ => none }
def fnExactCheckReductionRow : OpenClaim := { program := "ytpabholjoblkbaa", sum := "0e6db369fc2008689ee5d48625da7e04499330059af7815eb08c33ea51146b31", func := "loop.example/g00857/laws.FnExactCheckReduction", spec := "fnExactCheckReduction", inPlace := ["slices.overlaps[int64]"], unfollowed := true, recurses := true, apart := false }
def FnExactCheckReductionSaid : Prop := fnExactCheckReductionRow.holds Try.pinned (OpenSpec.ofChange fnExactCheckReductionSpec)

/-- ITS FALSE NEIGHBOUR: 'it returns false'. Refute it at one input. -/
def fnExactCheckReductionWrong : ChangeSpec := { name := "fnExactCheckReduction", fn := fun _ => fun
  | [d1, d2] => { results := [.lit (.bool false)], args := [d1, d2] }
  | _ => none }
def FnExactCheckReductionWrongFalsely : Prop := fnExactCheckReductionRow.holds Try.pinned (OpenSpec.ofChange fnExactCheckReductionWrong)

/-- 'laws.FnExactStripFlat': WHATEVER THE INPUT: true; the input reads as it did. -/
def fnExactStripFlatSpec : ChangeSpec := { name := "fnExactStripFlat", fn := fun _ => fun
  | [d] => { results := [.lit (.bool true)], args := [d] }
  | _ => none }
def fnExactStripFlatRow : OpenClaim := { program := "ytpabholjoblkbaa", sum := "0e6db369fc2008689ee5d48625da7e04499330059af7815eb08c33ea51146b31", func := "loop.example/g00857/laws.FnExactStripFlat", spec := "fnExactStripFlat", inPlace := ["slices.overlaps[int64]"], unfollowed := true, recurses := true, apart := false }
def FnExactStripFlatSaid : Prop := fnExactStripFlatRow.holds Try.pinned (OpenSpec.ofChange fnExactStripFlatSpec)

/-- ITS FALSE NEIGHBOUR: 'it returns false'. Refute it at one input. -/
def fnExactStripFlatWrong : ChangeSpec := { name := "fnExactStripFlat", fn := fun _ => fun
  | [d] => { results := [.lit (.bool false)], args := [d] }
  | _ => none }
def FnExactStripFlatWrongFalsely : Prop := fnExactStripFlatRow.holds Try.pinned (OpenSpec.ofChange fnExactStripFlatWrong)

/-- 'laws.FnExactReduceStrip': WHATEVER THE INPUT: true; the input reads as it did. -/
def fnExactReduceStripSpec : ChangeSpec := { name := "fnExactReduceStrip", fn := fun _ => fun
  | [d] => { results := [.lit (.bool true)], args := [d] }
  | _ => none }
def fnExactReduceStripRow : OpenClaim := { program := "ytpabholjoblkbaa", sum := "0e6db369fc2008689ee5d48625da7e04499330059af7815eb08c33ea51146b31", func := "loop.example/g00857/laws.FnExactReduceStrip", spec := "fnExactReduceStrip", inPlace := ["slices.overlaps[int64]"], unfollowed := true, recurses := true, apart := false }
def FnExactReduceStripSaid : Prop := fnExactReduceStripRow.holds Try.pinned (OpenSpec.ofChange fnExactReduceStripSpec)

/-- ITS FALSE NEIGHBOUR: 'it returns false'. Refute it at one input. -/
def fnExactReduceStripWrong : ChangeSpec := { name := "fnExactReduceStrip", fn := fun _ => fun
  | [d] => { results := [.lit (.bool false)], args := [d] }
  | _ => none }
def FnExactReduceStripWrongFalsely : Prop := fnExactReduceStripRow.holds Try.pinned (OpenSpec.ofChange fnExactReduceStripWrong)

/-- 'laws.FnExactCheckLayers': WHATEVER THE INPUT: true; the input reads as it did. -/
def fnExactCheckLayersSpec : ChangeSpec := { name := "fnExactCheckLayers", fn := fun _ => fun
  | [d1, d2] => { results := [.lit (.bool true)], args := [d1, d2] }
  | _ => none }
def fnExactCheckLayersRow : OpenClaim := { program := "ytpabholjoblkbaa", sum := "0e6db369fc2008689ee5d48625da7e04499330059af7815eb08c33ea51146b31", func := "loop.example/g00857/laws.FnExactCheckLayers", spec := "fnExactCheckLayers", unfollowed := true, recurses := true, apart := false }
def FnExactCheckLayersSaid : Prop := fnExactCheckLayersRow.holds Try.pinned (OpenSpec.ofChange fnExactCheckLayersSpec)

/-- ITS FALSE NEIGHBOUR: 'it returns false'. Refute it at one input. -/
def fnExactCheckLayersWrong : ChangeSpec := { name := "fnExactCheckLayers", fn := fun _ => fun
  | [d1, d2] => { results := [.lit (.bool false)], args := [d1, d2] }
  | _ => none }
def FnExactCheckLayersWrongFalsely : Prop := fnExactCheckLayersRow.holds Try.pinned (OpenSpec.ofChange fnExactCheckLayersWrong)

/- THE SECOND FORM. 'bulk': how many values and letters a reading holds, each counted each time it is reached (what is shared counts as often as it is met; a slice's spare places count too). A statement '..UptoSaid' is the law's where the arguments, and the package variables that the reading takes, are together of bulk at most 1048576: NARROWER than '..Said'. Prove '..Said' where nothing that the law and all that it calls make is longer than what came in: it says more and counts as full. Else prove '..UptoSaid'. A law counts once. -/
mutual
def uptoBulk {H : Type} : DataW H → Nat
  | .lit (.string bytes) => bytes.length + 1
  | .lit _ => 1
  | .nil => 1
  | .ptr d => uptoBulk d + 1
  | .slice elems spare => uptoBulkAll elems + uptoBulkAll spare + 1
  | .agg parts => uptoBulkAll parts + 1
  | .iface _ d => uptoBulk d + 1
  | .map entries => uptoBulkEntries entries + 1
  | .held _ => 1
def uptoBulkAll {H : Type} : List (DataW H) → Nat
  | [] => 0
  | d :: r => uptoBulk d + uptoBulkAll r
def uptoBulkEntries {H : Type} : List (Lit × DataW H) → Nat
  | [] => 0
  | x :: r => uptoBulkEntry x + uptoBulkEntries r
def uptoBulkEntry {H : Type} : Lit × DataW H → Nat
  | (.string bytes, d) => bytes.length + uptoBulk d + 1
  | (_, d) => uptoBulk d + 1
 end
def uptoSmall : (H : Type) → List (DataW H) → Bool := fun _ ds => decide (uptoBulkAll ds ≤ 1048576)
def OpenSpec.upto (s : _root_.Go.ChangeSpec) : _root_.Go.OpenSpec := { _root_.Go.OpenSpec.ofChange s with cond := some uptoSmall }

/-- 'laws.FnExactStepsOf', WHERE WHAT IT READS IS OF BULK AT MOST 1048576: true; the input reads as it did. -/
def fnExactStepsOfUptoRow : OpenClaim := { program := "ytpabholjoblkbaa", sum := "0e6db369fc2008689ee5d48625da7e04499330059af7815eb08c33ea51146b31", func := "loop.example/g00857/laws.FnExactStepsOf", spec := "fnExactStepsOf", unfollowed := true, recurses := true, apart := false, narrowed := true }
def FnExactStepsOfUptoSaid : Prop := fnExactStepsOfUptoRow.holds Try.pinned (OpenSpec.upto fnExactStepsOfSpec)

/-- 'laws.FnExactApplyStrip', WHERE WHAT IT READS IS OF BULK AT MOST 1048576: true; the input reads as it did. -/
def fnExactApplyStripUptoRow : OpenClaim := { program := "ytpabholjoblkbaa", sum := "0e6db369fc2008689ee5d48625da7e04499330059af7815eb08c33ea51146b31", func := "loop.example/g00857/laws.FnExactApplyStrip", spec := "fnExactApplyStrip", inPlace := ["slices.overlaps[int64]"], unfollowed := true, recurses := true, apart := false, narrowed := true }
def FnExactApplyStripUptoSaid : Prop := fnExactApplyStripUptoRow.holds Try.pinned (OpenSpec.upto fnExactApplyStripSpec)

/-- 'laws.FnExactCountFlat', WHERE WHAT IT READS IS OF BULK AT MOST 1048576: true; the input reads as it did. -/
def fnExactCountFlatUptoRow : OpenClaim := { program := "ytpabholjoblkbaa", sum := "0e6db369fc2008689ee5d48625da7e04499330059af7815eb08c33ea51146b31", func := "loop.example/g00857/laws.FnExactCountFlat", spec := "fnExactCountFlat", inPlace := ["slices.overlaps[int64]"], unfollowed := true, recurses := true, apart := false, narrowed := true }
def FnExactCountFlatUptoSaid : Prop := fnExactCountFlatUptoRow.holds Try.pinned (OpenSpec.upto fnExactCountFlatSpec)

/-- 'laws.FnExactCheckReduction', WHERE WHAT IT READS IS OF BULK AT MOST 1048576: true; the input reads as it did. -/
def fnExactCheckReductionUptoRow : OpenClaim := { program := "ytpabholjoblkbaa", sum := "0e6db369fc2008689ee5d48625da7e04499330059af7815eb08c33ea51146b31", func := "loop.example/g00857/laws.FnExactCheckReduction", spec := "fnExactCheckReduction", inPlace := ["slices.overlaps[int64]"], unfollowed := true, recurses := true, apart := false, narrowed := true }
def FnExactCheckReductionUptoSaid : Prop := fnExactCheckReductionUptoRow.holds Try.pinned (OpenSpec.upto fnExactCheckReductionSpec)

/-- 'laws.FnExactStripFlat', WHERE WHAT IT READS IS OF BULK AT MOST 1048576: true; the input reads as it did. -/
def fnExactStripFlatUptoRow : OpenClaim := { program := "ytpabholjoblkbaa", sum := "0e6db369fc2008689ee5d48625da7e04499330059af7815eb08c33ea51146b31", func := "loop.example/g00857/laws.FnExactStripFlat", spec := "fnExactStripFlat", inPlace := ["slices.overlaps[int64]"], unfollowed := true, recurses := true, apart := false, narrowed := true }
def FnExactStripFlatUptoSaid : Prop := fnExactStripFlatUptoRow.holds Try.pinned (OpenSpec.upto fnExactStripFlatSpec)

/-- 'laws.FnExactReduceStrip', WHERE WHAT IT READS IS OF BULK AT MOST 1048576: true; the input reads as it did. -/
def fnExactReduceStripUptoRow : OpenClaim := { program := "ytpabholjoblkbaa", sum := "0e6db369fc2008689ee5d48625da7e04499330059af7815eb08c33ea51146b31", func := "loop.example/g00857/laws.FnExactReduceStrip", spec := "fnExactReduceStrip", inPlace := ["slices.overlaps[int64]"], unfollowed := true, recurses := true, apart := false, narrowed := true }
def FnExactReduceStripUptoSaid : Prop := fnExactReduceStripUptoRow.holds Try.pinned (OpenSpec.upto fnExactReduceStripSpec)

/-- 'laws.FnExactCheckLayers', WHERE WHAT IT READS IS OF BULK AT MOST 1048576: true; the input reads as it did. -/
def fnExactCheckLayersUptoRow : OpenClaim := { program := "ytpabholjoblkbaa", sum := "0e6db369fc2008689ee5d48625da7e04499330059af7815eb08c33ea51146b31", func := "loop.example/g00857/laws.FnExactCheckLayers", spec := "fnExactCheckLayers", unfollowed := true, recurses := true, apart := false, narrowed := true }
def FnExactCheckLayersUptoSaid : Prop := fnExactCheckLayersUptoRow.holds Try.pinned (OpenSpec.upto fnExactCheckLayersSpec)

end Rows
end Go.Proofs.Ytpabholjoblkbaa
