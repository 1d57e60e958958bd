/-
  NARROWER THAN 'FOR EVERY INPUT', by the rows' own cells (each row's printed sentence says how): FnExactStartItems: laid · FnExactFoldTwo: laid · FnExactFoldPointLine: laid · FnExactFoldLines: laid · FnAlignments: laid.
  DERIVED. THE GIVEN ROWS OF THIS SEAT. 5 by the template 'for every input the law returns true; each argument reads behind the call as it read before'; 0 by the template 'total and deterministic' (their statements: YtooaomcmhgpbpaaDoorTotals.lean).
  GIVEN WITH THE SEED: the statements are not yours to turn. If you find one false, say at which input.
  Laid BY PROGRAM, IN A SANDBOX (cutbox-rows.mjs): the forced cells as the released guide's own fill.sh prints them over the translation 94d7aac0bc4d0b84… (all of the seat's roots in one cut). By AI agents, Wed Nov 11 2026. No macro, syntax, notation, axiom, sorry.
-/
import Derived.Test.YtooaomcmhgpbpaaDoorChecked
import GoSem.Claim
import GoSem.ClaimJoined
import GoSem.ClaimMapViews
import Derived.JoinedTies
import Derived.KernelRfl
namespace Go.Proofs.YtooaomcmhgpbpaaDoor
/- THE CELL 'sum', in the pinned program and in every row, IS THE sha256 OF THE DUMP (.gsa) THAT YtooaomcmhgpbpaaDoorProg.lean LOADS. Nothing in Lean hashes anything: it is a label: what it is worth is what the hold of that sum in a sandbox is worth. -/
noncomputable def Tryd.pinned : Pinned := { name := "ytooaomcmhgpbpaadoor", sum := "94d7aac0bc4d0b84935e934ca9203cc03c9a22a8acbb484ebb8e88353a2cfb5f", checked := Tryd.checked }
namespace Rows
def none {H : Type} : Left H := { results := [], args := [] }

/- WHAT THE LISTED PACKAGE-LEVEL VARIABLES READ AS WHEN THE CALL BEGINS. Each datum BY PROGRAM (the guide's laid-datum.mjs) off the statement by which the dump's own 'gosem.cut.vars' lays the variable. In a bare row this is a premise. The card (YtooaomcmhgpbpaaDoorCards.lean) ties it to the program's text. -/
def laid_loop_example_g00857_impl_vectors {H : Type} : DataW H := .agg [.agg [.agg [.lit (.int .i64 1), .lit (.int .i64 0), .lit (.int .i64 0)], .agg [.lit (.int .i64 0), .lit (.int .i64 0), .lit (.int .i64 0)]], .agg [.agg [.lit (.int .i64 1), .lit (.int .i64 0), .lit (.int .i64 0)], .agg [.lit (.int .i64 (-1)), .lit (.int .i64 1), .lit (.int .i64 0)]], .agg [.agg [.lit (.int .i64 1), .lit (.int .i64 0), .lit (.int .i64 0)], .agg [.lit (.int .i64 1), .lit (.int .i64 0), .lit (.int .i64 0)]], .agg [.agg [.lit (.int .i64 (-1)), .lit (.int .i64 1), .lit (.int .i64 0)], .agg [.lit (.int .i64 1), .lit (.int .i64 0), .lit (.int .i64 0)]], .agg [.agg [.lit (.int .i64 0), .lit (.int .i64 0), .lit (.int .i64 0)], .agg [.lit (.int .i64 1), .lit (.int .i64 0), .lit (.int .i64 0)]], .agg [.agg [.lit (.int .i64 1), .lit (.int .i64 (-1)), .lit (.int .i64 0)], .agg [.lit (.int .i64 1), .lit (.int .i64 0), .lit (.int .i64 0)]], .agg [.agg [.lit (.int .i64 (-1)), .lit (.int .i64 0), .lit (.int .i64 0)], .agg [.lit (.int .i64 1), .lit (.int .i64 0), .lit (.int .i64 0)]], .agg [.agg [.lit (.int .i64 (-1)), .lit (.int .i64 0), .lit (.int .i64 0)], .agg [.lit (.int .i64 (-1)), .lit (.int .i64 1), .lit (.int .i64 0)]]]

/-- 'laws.FnExactStartItems': WHATEVER THE INPUT: true; the input reads as it did. -/
def fnExactStartItemsSpec : ChangeSpec := { name := "fnExactStartItems", vars := ["loop.example/g00857/impl.vectors"], fn := fun _ => fun
  | [d, g1] => { results := [.lit (.bool true)], args := [d], vars := [g1] }
  | _ => none }
def fnExactStartItemsRow : OpenClaim := { program := "ytooaomcmhgpbpaadoor", sum := "94d7aac0bc4d0b84935e934ca9203cc03c9a22a8acbb484ebb8e88353a2cfb5f", func := "loop.example/g00857/laws.FnExactStartItems", spec := "fnExactStartItems", named := ["loop.example/g00857/impl.vectors"], apart := false, laid := [("loop.example/g00857/impl.vectors", laid_loop_example_g00857_impl_vectors)] }
def FnExactStartItemsSaid : Prop := fnExactStartItemsRow.holds Tryd.pinned (OpenSpec.ofChange fnExactStartItemsSpec)

/-- ITS FALSE NEIGHBOUR: 'it returns false'. Refute it at one input. -/
def fnExactStartItemsWrong : ChangeSpec := { name := "fnExactStartItems", vars := ["loop.example/g00857/impl.vectors"], fn := fun _ => fun
  | [d, g1] => { results := [.lit (.bool false)], args := [d], vars := [g1] }
  | _ => none }
def FnExactStartItemsWrongFalsely : Prop := fnExactStartItemsRow.holds Tryd.pinned (OpenSpec.ofChange fnExactStartItemsWrong)

/-- 'laws.FnExactFoldTwo': WHATEVER THE INPUT: true; the input reads as it did. -/
def fnExactFoldTwoSpec : ChangeSpec := { name := "fnExactFoldTwo", vars := ["loop.example/g00857/impl.vectors"], fn := fun _ => fun
  | [d1, d2, d3, d4, g1] => { results := [.lit (.bool true)], args := [d1, d2, d3, d4], vars := [g1] }
  | _ => none }
def fnExactFoldTwoRow : OpenClaim := { program := "ytooaomcmhgpbpaadoor", sum := "94d7aac0bc4d0b84935e934ca9203cc03c9a22a8acbb484ebb8e88353a2cfb5f", func := "loop.example/g00857/laws.FnExactFoldTwo", spec := "fnExactFoldTwo", unfollowed := true, recurses := true, named := ["loop.example/g00857/impl.vectors"], apart := false, laid := [("loop.example/g00857/impl.vectors", laid_loop_example_g00857_impl_vectors)] }
def FnExactFoldTwoSaid : Prop := fnExactFoldTwoRow.holds Tryd.pinned (OpenSpec.ofChange fnExactFoldTwoSpec)

/-- ITS FALSE NEIGHBOUR: 'it returns false'. Refute it at one input. -/
def fnExactFoldTwoWrong : ChangeSpec := { name := "fnExactFoldTwo", vars := ["loop.example/g00857/impl.vectors"], fn := fun _ => fun
  | [d1, d2, d3, d4, g1] => { results := [.lit (.bool false)], args := [d1, d2, d3, d4], vars := [g1] }
  | _ => none }
def FnExactFoldTwoWrongFalsely : Prop := fnExactFoldTwoRow.holds Tryd.pinned (OpenSpec.ofChange fnExactFoldTwoWrong)

/-- 'laws.FnExactFoldPointLine': WHATEVER THE INPUT: true; the input reads as it did. -/
def fnExactFoldPointLineSpec : ChangeSpec := { name := "fnExactFoldPointLine", vars := ["loop.example/g00857/impl.vectors"], fn := fun _ => fun
  | [d1, d2, d3, g1] => { results := [.lit (.bool true)], args := [d1, d2, d3], vars := [g1] }
  | _ => none }
def fnExactFoldPointLineRow : OpenClaim := { program := "ytooaomcmhgpbpaadoor", sum := "94d7aac0bc4d0b84935e934ca9203cc03c9a22a8acbb484ebb8e88353a2cfb5f", func := "loop.example/g00857/laws.FnExactFoldPointLine", spec := "fnExactFoldPointLine", unfollowed := true, recurses := true, named := ["loop.example/g00857/impl.vectors"], apart := false, laid := [("loop.example/g00857/impl.vectors", laid_loop_example_g00857_impl_vectors)] }
def FnExactFoldPointLineSaid : Prop := fnExactFoldPointLineRow.holds Tryd.pinned (OpenSpec.ofChange fnExactFoldPointLineSpec)

/-- ITS FALSE NEIGHBOUR: 'it returns false'. Refute it at one input. -/
def fnExactFoldPointLineWrong : ChangeSpec := { name := "fnExactFoldPointLine", vars := ["loop.example/g00857/impl.vectors"], fn := fun _ => fun
  | [d1, d2, d3, g1] => { results := [.lit (.bool false)], args := [d1, d2, d3], vars := [g1] }
  | _ => none }
def FnExactFoldPointLineWrongFalsely : Prop := fnExactFoldPointLineRow.holds Tryd.pinned (OpenSpec.ofChange fnExactFoldPointLineWrong)

/-- 'laws.FnExactFoldLines': WHATEVER THE INPUT: true; the input reads as it did. -/
def fnExactFoldLinesSpec : ChangeSpec := { name := "fnExactFoldLines", vars := ["loop.example/g00857/impl.vectors"], fn := fun _ => fun
  | [d1, d2, g1] => { results := [.lit (.bool true)], args := [d1, d2], vars := [g1] }
  | _ => none }
def fnExactFoldLinesRow : OpenClaim := { program := "ytooaomcmhgpbpaadoor", sum := "94d7aac0bc4d0b84935e934ca9203cc03c9a22a8acbb484ebb8e88353a2cfb5f", func := "loop.example/g00857/laws.FnExactFoldLines", spec := "fnExactFoldLines", unfollowed := true, recurses := true, named := ["loop.example/g00857/impl.vectors"], apart := false, laid := [("loop.example/g00857/impl.vectors", laid_loop_example_g00857_impl_vectors)] }
def FnExactFoldLinesSaid : Prop := fnExactFoldLinesRow.holds Tryd.pinned (OpenSpec.ofChange fnExactFoldLinesSpec)

/-- ITS FALSE NEIGHBOUR: 'it returns false'. Refute it at one input. -/
def fnExactFoldLinesWrong : ChangeSpec := { name := "fnExactFoldLines", vars := ["loop.example/g00857/impl.vectors"], fn := fun _ => fun
  | [d1, d2, g1] => { results := [.lit (.bool false)], args := [d1, d2], vars := [g1] }
  | _ => none }
def FnExactFoldLinesWrongFalsely : Prop := fnExactFoldLinesRow.holds Tryd.pinned (OpenSpec.ofChange fnExactFoldLinesWrong)

/-- 'laws.FnAlignments': WHATEVER THE INPUT: true; the input reads as it did. -/
def fnAlignmentsSpec : ChangeSpec := { name := "fnAlignments", vars := ["loop.example/g00857/impl.vectors"], fn := fun _ => fun
  | [d1, d2, g1] => { results := [.lit (.bool true)], args := [d1, d2], vars := [g1] }
  | _ => none }
def fnAlignmentsRow : OpenClaim := { program := "ytooaomcmhgpbpaadoor", sum := "94d7aac0bc4d0b84935e934ca9203cc03c9a22a8acbb484ebb8e88353a2cfb5f", func := "loop.example/g00857/laws.FnAlignments", spec := "fnAlignments", unfollowed := true, recurses := true, named := ["loop.example/g00857/impl.vectors"], apart := false, laid := [("loop.example/g00857/impl.vectors", laid_loop_example_g00857_impl_vectors)] }
def FnAlignmentsSaid : Prop := fnAlignmentsRow.holds Tryd.pinned (OpenSpec.ofChange fnAlignmentsSpec)

/-- ITS FALSE NEIGHBOUR: 'it returns false'. Refute it at one input. -/
def fnAlignmentsWrong : ChangeSpec := { name := "fnAlignments", vars := ["loop.example/g00857/impl.vectors"], fn := fun _ => fun
  | [d1, d2, g1] => { results := [.lit (.bool false)], args := [d1, d2], vars := [g1] }
  | _ => none }
def FnAlignmentsWrongFalsely : Prop := fnAlignmentsRow.holds Tryd.pinned (OpenSpec.ofChange fnAlignmentsWrong)

/- THE SECOND FORM. 'bulk': how many values and letters a reading holds, each counted each time it is reached (what is shared counts as often as it is met; a slice's spare places count too). A statement '..UptoSaid' is the law's where the arguments, and the package variables that the reading takes, are together of bulk at most 1048576: NARROWER than '..Said'. Prove '..Said' where nothing that the law and all that it calls make is longer than what came in: it says more and counts as full. Else prove '..UptoSaid'. A law counts once. -/
mutual
def uptoBulk {H : Type} : DataW H → Nat
  | .lit (.string bytes) => bytes.length + 1
  | .lit _ => 1
  | .nil => 1
  | .ptr d => uptoBulk d + 1
  | .slice elems spare => uptoBulkAll elems + uptoBulkAll spare + 1
  | .agg parts => uptoBulkAll parts + 1
  | .iface _ d => uptoBulk d + 1
  | .map entries => uptoBulkEntries entries + 1
  | .held _ => 1
def uptoBulkAll {H : Type} : List (DataW H) → Nat
  | [] => 0
  | d :: r => uptoBulk d + uptoBulkAll r
def uptoBulkEntries {H : Type} : List (Lit × DataW H) → Nat
  | [] => 0
  | x :: r => uptoBulkEntry x + uptoBulkEntries r
def uptoBulkEntry {H : Type} : Lit × DataW H → Nat
  | (.string bytes, d) => bytes.length + uptoBulk d + 1
  | (_, d) => uptoBulk d + 1
 end
def uptoSmall : (H : Type) → List (DataW H) → Bool := fun _ ds => decide (uptoBulkAll ds ≤ 1048576)
def OpenSpec.upto (s : _root_.Go.ChangeSpec) : _root_.Go.OpenSpec := { _root_.Go.OpenSpec.ofChange s with cond := some uptoSmall }

/-- 'laws.FnExactStartItems', WHERE WHAT IT READS IS OF BULK AT MOST 1048576: true; the input reads as it did. -/
def fnExactStartItemsUptoRow : OpenClaim := { program := "ytooaomcmhgpbpaadoor", sum := "94d7aac0bc4d0b84935e934ca9203cc03c9a22a8acbb484ebb8e88353a2cfb5f", func := "loop.example/g00857/laws.FnExactStartItems", spec := "fnExactStartItems", named := ["loop.example/g00857/impl.vectors"], apart := false, laid := [("loop.example/g00857/impl.vectors", laid_loop_example_g00857_impl_vectors)], narrowed := true }
def FnExactStartItemsUptoSaid : Prop := fnExactStartItemsUptoRow.holds Tryd.pinned (OpenSpec.upto fnExactStartItemsSpec)

/-- 'laws.FnExactFoldTwo', WHERE WHAT IT READS IS OF BULK AT MOST 1048576: true; the input reads as it did. -/
def fnExactFoldTwoUptoRow : OpenClaim := { program := "ytooaomcmhgpbpaadoor", sum := "94d7aac0bc4d0b84935e934ca9203cc03c9a22a8acbb484ebb8e88353a2cfb5f", func := "loop.example/g00857/laws.FnExactFoldTwo", spec := "fnExactFoldTwo", unfollowed := true, recurses := true, named := ["loop.example/g00857/impl.vectors"], apart := false, laid := [("loop.example/g00857/impl.vectors", laid_loop_example_g00857_impl_vectors)], narrowed := true }
def FnExactFoldTwoUptoSaid : Prop := fnExactFoldTwoUptoRow.holds Tryd.pinned (OpenSpec.upto fnExactFoldTwoSpec)

/-- 'laws.FnExactFoldPointLine', WHERE WHAT IT READS IS OF BULK AT MOST 1048576: true; the input reads as it did. -/
def fnExactFoldPointLineUptoRow : OpenClaim := { program := "ytooaomcmhgpbpaadoor", sum := "94d7aac0bc4d0b84935e934ca9203cc03c9a22a8acbb484ebb8e88353a2cfb5f", func := "loop.example/g00857/laws.FnExactFoldPointLine", spec := "fnExactFoldPointLine", unfollowed := true, recurses := true, named := ["loop.example/g00857/impl.vectors"], apart := false, laid := [("loop.example/g00857/impl.vectors", laid_loop_example_g00857_impl_vectors)], narrowed := true }
def FnExactFoldPointLineUptoSaid : Prop := fnExactFoldPointLineUptoRow.holds Tryd.pinned (OpenSpec.upto fnExactFoldPointLineSpec)

/-- 'laws.FnExactFoldLines', WHERE WHAT IT READS IS OF BULK AT MOST 1048576: true; the input reads as it did. -/
def fnExactFoldLinesUptoRow : OpenClaim := { program := "ytooaomcmhgpbpaadoor", sum := "94d7aac0bc4d0b84935e934ca9203cc03c9a22a8acbb484ebb8e88353a2cfb5f", func := "loop.example/g00857/laws.FnExactFoldLines", spec := "fnExactFoldLines", unfollowed := true, recurses := true, named := ["loop.example/g00857/impl.vectors"], apart := false, laid := [("loop.example/g00857/impl.vectors", laid_loop_example_g00857_impl_vectors)], narrowed := true }
def FnExactFoldLinesUptoSaid : Prop := fnExactFoldLinesUptoRow.holds Tryd.pinned (OpenSpec.upto fnExactFoldLinesSpec)

/-- 'laws.FnAlignments', WHERE WHAT IT READS IS OF BULK AT MOST 1048576: true; the input reads as it did. -/
def fnAlignmentsUptoRow : OpenClaim := { program := "ytooaomcmhgpbpaadoor", sum := "94d7aac0bc4d0b84935e934ca9203cc03c9a22a8acbb484ebb8e88353a2cfb5f", func := "loop.example/g00857/laws.FnAlignments", spec := "fnAlignments", unfollowed := true, recurses := true, named := ["loop.example/g00857/impl.vectors"], apart := false, laid := [("loop.example/g00857/impl.vectors", laid_loop_example_g00857_impl_vectors)], narrowed := true }
def FnAlignmentsUptoSaid : Prop := fnAlignmentsUptoRow.holds Tryd.pinned (OpenSpec.upto fnAlignmentsSpec)

end Rows
end Go.Proofs.YtooaomcmhgpbpaaDoor
