/-
  NARROWER THAN 'FOR EVERY INPUT', by the rows' own cells (each row's printed sentence says how): FnExactReadConstruction: laid · FnExactConstructOne: laid · FnExactConstructAll: laid · FnAllAlignments: laid.
  DERIVED. THE GIVEN ROWS OF THIS SEAT. 4 by the template 'for every input the law returns true; each argument reads behind the call as it read before'; 0 by the template 'total and deterministic' (their statements: YtjkljnflaifbhaaGreatDoorTotals.lean).
  GIVEN WITH THE SEED: the statements are not yours to turn. If you find one false, say at which input.
  Laid BY PROGRAM, IN A SANDBOX (cutbox-rows.mjs): the forced cells as the released guide's own fill.sh prints them over the translation cd1bfadfe6d27db3… (all of the seat's roots in one cut). By AI agents, Wed Nov 11 2026. No macro, syntax, notation, axiom, sorry.
-/
import Derived.Test.YtjkljnflaifbhaaGreatDoorChecked
import GoSem.PinnedTables
import GoSem.Claim
import GoSem.ClaimJoined
import GoSem.ClaimMapViews
import Derived.JoinedTies
import Derived.KernelRfl
namespace Go.Proofs.YtjkljnflaifbhaaGreatDoor
/- THE CELL 'sum', in the pinned program and in every row, IS THE sha256 OF THE DUMP (.gsa) THAT YtjkljnflaifbhaaGreatDoorProg.lean LOADS. Nothing in Lean hashes anything: it is a label: what it is worth is what the hold of that sum in a sandbox is worth. -/
noncomputable def Tryz.pinned : Pinned := { name := "ytjkljnflaifbhaagreatdoor", sum := "cd1bfadfe6d27db361a113a4e4cf88d1ede0c06eca78244d130b9d8d85dff4dd", checked := Tryz.checked }
namespace Rows
def none {H : Type} : Left H := { results := [], args := [] }

/- WHAT THE LISTED PACKAGE-LEVEL VARIABLES READ AS WHEN THE CALL BEGINS. Each datum BY PROGRAM (the guide's laid-datum.mjs) off the statement by which the dump's own 'gosem.cut.vars' lays the variable. In a bare row this is a premise. The card (YtjkljnflaifbhaaGreatDoorCards.lean) ties it to the program's text. -/
def laid_math_bits_deBruijn32tab {H : Type} : DataW H := .agg [.lit (.int .u8 0), .lit (.int .u8 1), .lit (.int .u8 28), .lit (.int .u8 2), .lit (.int .u8 29), .lit (.int .u8 14), .lit (.int .u8 24), .lit (.int .u8 3), .lit (.int .u8 30), .lit (.int .u8 22), .lit (.int .u8 20), .lit (.int .u8 15), .lit (.int .u8 25), .lit (.int .u8 17), .lit (.int .u8 4), .lit (.int .u8 8), .lit (.int .u8 31), .lit (.int .u8 27), .lit (.int .u8 13), .lit (.int .u8 23), .lit (.int .u8 21), .lit (.int .u8 19), .lit (.int .u8 16), .lit (.int .u8 7), .lit (.int .u8 26), .lit (.int .u8 12), .lit (.int .u8 18), .lit (.int .u8 6), .lit (.int .u8 11), .lit (.int .u8 5), .lit (.int .u8 10), .lit (.int .u8 9)]
def laid_math_bits_deBruijn64tab {H : Type} : DataW H := .agg [.lit (.int .u8 0), .lit (.int .u8 1), .lit (.int .u8 56), .lit (.int .u8 2), .lit (.int .u8 57), .lit (.int .u8 49), .lit (.int .u8 28), .lit (.int .u8 3), .lit (.int .u8 61), .lit (.int .u8 58), .lit (.int .u8 42), .lit (.int .u8 50), .lit (.int .u8 38), .lit (.int .u8 29), .lit (.int .u8 17), .lit (.int .u8 4), .lit (.int .u8 62), .lit (.int .u8 47), .lit (.int .u8 59), .lit (.int .u8 36), .lit (.int .u8 45), .lit (.int .u8 43), .lit (.int .u8 51), .lit (.int .u8 22), .lit (.int .u8 53), .lit (.int .u8 39), .lit (.int .u8 33), .lit (.int .u8 30), .lit (.int .u8 24), .lit (.int .u8 18), .lit (.int .u8 12), .lit (.int .u8 5), .lit (.int .u8 63), .lit (.int .u8 55), .lit (.int .u8 48), .lit (.int .u8 27), .lit (.int .u8 60), .lit (.int .u8 41), .lit (.int .u8 37), .lit (.int .u8 16), .lit (.int .u8 46), .lit (.int .u8 35), .lit (.int .u8 44), .lit (.int .u8 21), .lit (.int .u8 52), .lit (.int .u8 32), .lit (.int .u8 23), .lit (.int .u8 11), .lit (.int .u8 54), .lit (.int .u8 26), .lit (.int .u8 40), .lit (.int .u8 15), .lit (.int .u8 34), .lit (.int .u8 20), .lit (.int .u8 31), .lit (.int .u8 10), .lit (.int .u8 25), .lit (.int .u8 14), .lit (.int .u8 19), .lit (.int .u8 9), .lit (.int .u8 13), .lit (.int .u8 8), .lit (.int .u8 7), .lit (.int .u8 6)]
def laid_internal_strconv_uint64pow10 {H : Type} : DataW H := .agg [.lit (.int .u64 1), .lit (.int .u64 10), .lit (.int .u64 100), .lit (.int .u64 1000), .lit (.int .u64 10000), .lit (.int .u64 100000), .lit (.int .u64 1000000), .lit (.int .u64 10000000), .lit (.int .u64 100000000), .lit (.int .u64 1000000000), .lit (.int .u64 10000000000), .lit (.int .u64 100000000000), .lit (.int .u64 1000000000000), .lit (.int .u64 10000000000000), .lit (.int .u64 100000000000000), .lit (.int .u64 1000000000000000), .lit (.int .u64 10000000000000000), .lit (.int .u64 100000000000000000), .lit (.int .u64 1000000000000000000), .lit (.int .u64 10000000000000000000)]
def laid_unicode_utf8_acceptRanges {H : Type} : DataW H := .agg [.agg [.lit (.int .u8 128), .lit (.int .u8 191)], .agg [.lit (.int .u8 160), .lit (.int .u8 191)], .agg [.lit (.int .u8 128), .lit (.int .u8 159)], .agg [.lit (.int .u8 144), .lit (.int .u8 191)], .agg [.lit (.int .u8 128), .lit (.int .u8 143)], .agg [.lit (.int .u8 0), .lit (.int .u8 0)], .agg [.lit (.int .u8 0), .lit (.int .u8 0)], .agg [.lit (.int .u8 0), .lit (.int .u8 0)], .agg [.lit (.int .u8 0), .lit (.int .u8 0)], .agg [.lit (.int .u8 0), .lit (.int .u8 0)], .agg [.lit (.int .u8 0), .lit (.int .u8 0)], .agg [.lit (.int .u8 0), .lit (.int .u8 0)], .agg [.lit (.int .u8 0), .lit (.int .u8 0)], .agg [.lit (.int .u8 0), .lit (.int .u8 0)], .agg [.lit (.int .u8 0), .lit (.int .u8 0)], .agg [.lit (.int .u8 0), .lit (.int .u8 0)]]
def laid_strconv_ErrRange {H : Type} : DataW H := .iface "*errors.errorString" (.ptr (.agg [.lit (.string [118, 97, 108, 117, 101, 32, 111, 117, 116, 32, 111, 102, 32, 114, 97, 110, 103, 101])]))
def laid_strconv_ErrSyntax {H : Type} : DataW H := .iface "*errors.errorString" (.ptr (.agg [.lit (.string [105, 110, 118, 97, 108, 105, 100, 32, 115, 121, 110, 116, 97, 120])]))
def laid_loop_example_g00857_impl_constructs {H : Type} : DataW H := .agg [.agg [.lit (.string []), .lit (.string []), .lit (.bool false)], .agg [.lit (.string [112, 111, 105, 110, 116]), .lit (.string []), .lit (.bool false)], .agg [.lit (.string [108, 105, 110, 101]), .lit (.string []), .lit (.bool false)], .agg [.lit (.string [109, 101, 101, 116]), .lit (.string [108, 108]), .lit (.bool false)], .agg [.lit (.string [109, 105, 100, 100, 108, 101]), .lit (.string [112, 112]), .lit (.bool false)], .agg [.lit (.string [109, 105, 114, 114, 111, 114]), .lit (.string [108, 120]), .lit (.bool false)], .agg [.lit (.string [116, 104, 114, 111, 117, 103, 104]), .lit (.string [112, 112]), .lit (.bool false)], .agg [.lit (.string [111, 110, 116, 111]), .lit (.string [112, 112]), .lit (.bool false)], .agg [.lit (.string [98, 105, 115, 101, 99, 116]), .lit (.string [108, 108]), .lit (.bool true)], .agg [.lit (.string [115, 113, 117, 97, 114, 101]), .lit (.string [108, 112]), .lit (.bool false)], .agg [.lit (.string [102, 111, 108, 100]), .lit (.string [112, 108, 112]), .lit (.bool true)], .agg [.lit (.string [116, 119, 111]), .lit (.string [112, 108, 112, 108]), .lit (.bool true)], .agg [.lit (.string [97, 99, 114, 111, 115, 115]), .lit (.string [112, 108, 108]), .lit (.bool false)]]
/-- One of Go's own tables, pinned by name: the form's constant. -/
def laid_unicode_utf8_first : DataW Unit := Go.Pinned.utf8First
def laid_loop_example_g00857_impl_vectors {H : Type} : DataW H := .agg [.agg [.agg [.lit (.int .i64 1), .lit (.int .i64 0), .lit (.int .i64 0)], .agg [.lit (.int .i64 0), .lit (.int .i64 0), .lit (.int .i64 0)]], .agg [.agg [.lit (.int .i64 1), .lit (.int .i64 0), .lit (.int .i64 0)], .agg [.lit (.int .i64 (-1)), .lit (.int .i64 1), .lit (.int .i64 0)]], .agg [.agg [.lit (.int .i64 1), .lit (.int .i64 0), .lit (.int .i64 0)], .agg [.lit (.int .i64 1), .lit (.int .i64 0), .lit (.int .i64 0)]], .agg [.agg [.lit (.int .i64 (-1)), .lit (.int .i64 1), .lit (.int .i64 0)], .agg [.lit (.int .i64 1), .lit (.int .i64 0), .lit (.int .i64 0)]], .agg [.agg [.lit (.int .i64 0), .lit (.int .i64 0), .lit (.int .i64 0)], .agg [.lit (.int .i64 1), .lit (.int .i64 0), .lit (.int .i64 0)]], .agg [.agg [.lit (.int .i64 1), .lit (.int .i64 (-1)), .lit (.int .i64 0)], .agg [.lit (.int .i64 1), .lit (.int .i64 0), .lit (.int .i64 0)]], .agg [.agg [.lit (.int .i64 (-1)), .lit (.int .i64 0), .lit (.int .i64 0)], .agg [.lit (.int .i64 1), .lit (.int .i64 0), .lit (.int .i64 0)]], .agg [.agg [.lit (.int .i64 (-1)), .lit (.int .i64 0), .lit (.int .i64 0)], .agg [.lit (.int .i64 (-1)), .lit (.int .i64 1), .lit (.int .i64 0)]]]

/-- 'laws.FnExactReadConstruction': WHATEVER THE INPUT: true; the input reads as it did. -/
def fnExactReadConstructionSpec : ChangeSpec := { name := "fnExactReadConstruction", vars := ["loop.example/g00857/impl.constructs"], fn := fun _ => fun
  | [d, g1] => { results := [.lit (.bool true)], args := [d], vars := [g1] }
  | _ => none }
def fnExactReadConstructionRow : OpenClaim := { program := "ytjkljnflaifbhaagreatdoor", sum := "cd1bfadfe6d27db361a113a4e4cf88d1ede0c06eca78244d130b9d8d85dff4dd", func := "loop.example/g00857/laws.FnExactReadConstruction", spec := "fnExactReadConstruction", inPlace := ["internal/bytealg.CountString", "internal/bytealg.IndexByteString", "internal/bytealg.IndexString", "internal/abi.NoEscape", "internal/bytealg.MakeNoZero"], unfollowed := true, recurses := true, named := ["unicode/utf8.first", "unicode/utf8.acceptRanges", "internal/bytealg.MaxLen", "loop.example/g00857/impl.constructs", "strconv.ErrSyntax", "strconv.ErrRange", "internal/strconv.uint64pow10", "math/bits.deBruijn32tab", "math/bits.deBruijn64tab"], apart := false, laid := [("math/bits.deBruijn32tab", laid_math_bits_deBruijn32tab), ("math/bits.deBruijn64tab", laid_math_bits_deBruijn64tab), ("internal/strconv.uint64pow10", laid_internal_strconv_uint64pow10), ("unicode/utf8.acceptRanges", laid_unicode_utf8_acceptRanges), ("strconv.ErrRange", laid_strconv_ErrRange), ("strconv.ErrSyntax", laid_strconv_ErrSyntax), ("loop.example/g00857/impl.constructs", laid_loop_example_g00857_impl_constructs), ("unicode/utf8.first", laid_unicode_utf8_first)] }
def FnExactReadConstructionSaid : Prop := fnExactReadConstructionRow.holds Tryz.pinned (OpenSpec.ofChange fnExactReadConstructionSpec)

/-- ITS FALSE NEIGHBOUR: 'it returns false'. Refute it at one input. -/
def fnExactReadConstructionWrong : ChangeSpec := { name := "fnExactReadConstruction", vars := ["loop.example/g00857/impl.constructs"], fn := fun _ => fun
  | [d, g1] => { results := [.lit (.bool false)], args := [d], vars := [g1] }
  | _ => none }
def FnExactReadConstructionWrongFalsely : Prop := fnExactReadConstructionRow.holds Tryz.pinned (OpenSpec.ofChange fnExactReadConstructionWrong)

/-- 'laws.FnExactConstructOne': WHATEVER THE INPUT: true; the input reads as it did. -/
def fnExactConstructOneSpec : ChangeSpec := { name := "fnExactConstructOne", vars := ["loop.example/g00857/impl.constructs", "loop.example/g00857/impl.vectors"], fn := fun _ => fun
  | [d1, d2, g1, g2] => { results := [.lit (.bool true)], args := [d1, d2], vars := [g1, g2] }
  | _ => none }
def fnExactConstructOneRow : OpenClaim := { program := "ytjkljnflaifbhaagreatdoor", sum := "cd1bfadfe6d27db361a113a4e4cf88d1ede0c06eca78244d130b9d8d85dff4dd", func := "loop.example/g00857/laws.FnExactConstructOne", spec := "fnExactConstructOne", inPlace := ["internal/bytealg.IndexByteString", "internal/bytealg.IndexString"], unfollowed := true, recurses := true, named := ["unicode/utf8.first", "unicode/utf8.acceptRanges", "loop.example/g00857/impl.constructs", "loop.example/g00857/impl.vectors", "internal/bytealg.MaxLen"], apart := false, laid := [("unicode/utf8.acceptRanges", laid_unicode_utf8_acceptRanges), ("loop.example/g00857/impl.vectors", laid_loop_example_g00857_impl_vectors), ("loop.example/g00857/impl.constructs", laid_loop_example_g00857_impl_constructs), ("unicode/utf8.first", laid_unicode_utf8_first)] }
def FnExactConstructOneSaid : Prop := fnExactConstructOneRow.holds Tryz.pinned (OpenSpec.ofChange fnExactConstructOneSpec)

/-- ITS FALSE NEIGHBOUR: 'it returns false'. Refute it at one input. -/
def fnExactConstructOneWrong : ChangeSpec := { name := "fnExactConstructOne", vars := ["loop.example/g00857/impl.constructs", "loop.example/g00857/impl.vectors"], fn := fun _ => fun
  | [d1, d2, g1, g2] => { results := [.lit (.bool false)], args := [d1, d2], vars := [g1, g2] }
  | _ => none }
def FnExactConstructOneWrongFalsely : Prop := fnExactConstructOneRow.holds Tryz.pinned (OpenSpec.ofChange fnExactConstructOneWrong)

/-- 'laws.FnExactConstructAll': WHATEVER THE INPUT: true; the input reads as it did. -/
def fnExactConstructAllSpec : ChangeSpec := { name := "fnExactConstructAll", vars := ["loop.example/g00857/impl.constructs", "loop.example/g00857/impl.vectors"], fn := fun _ => fun
  | [d1, d2, g1, g2] => { results := [.lit (.bool true)], args := [d1, d2], vars := [g1, g2] }
  | _ => none }
def fnExactConstructAllRow : OpenClaim := { program := "ytjkljnflaifbhaagreatdoor", sum := "cd1bfadfe6d27db361a113a4e4cf88d1ede0c06eca78244d130b9d8d85dff4dd", func := "loop.example/g00857/laws.FnExactConstructAll", spec := "fnExactConstructAll", inPlace := ["internal/bytealg.IndexByteString", "internal/bytealg.IndexString"], unfollowed := true, recurses := true, named := ["unicode/utf8.first", "unicode/utf8.acceptRanges", "loop.example/g00857/impl.constructs", "loop.example/g00857/impl.vectors", "internal/bytealg.MaxLen"], apart := false, laid := [("unicode/utf8.acceptRanges", laid_unicode_utf8_acceptRanges), ("loop.example/g00857/impl.vectors", laid_loop_example_g00857_impl_vectors), ("loop.example/g00857/impl.constructs", laid_loop_example_g00857_impl_constructs), ("unicode/utf8.first", laid_unicode_utf8_first)] }
def FnExactConstructAllSaid : Prop := fnExactConstructAllRow.holds Tryz.pinned (OpenSpec.ofChange fnExactConstructAllSpec)

/-- ITS FALSE NEIGHBOUR: 'it returns false'. Refute it at one input. -/
def fnExactConstructAllWrong : ChangeSpec := { name := "fnExactConstructAll", vars := ["loop.example/g00857/impl.constructs", "loop.example/g00857/impl.vectors"], fn := fun _ => fun
  | [d1, d2, g1, g2] => { results := [.lit (.bool false)], args := [d1, d2], vars := [g1, g2] }
  | _ => none }
def FnExactConstructAllWrongFalsely : Prop := fnExactConstructAllRow.holds Tryz.pinned (OpenSpec.ofChange fnExactConstructAllWrong)

/-- 'laws.FnAllAlignments': WHATEVER THE INPUT: true; the input reads as it did. -/
def fnAllAlignmentsSpec : ChangeSpec := { name := "fnAllAlignments", vars := ["loop.example/g00857/impl.vectors"], fn := fun _ => fun
  | [d1, d2, g1] => { results := [.lit (.bool true)], args := [d1, d2], vars := [g1] }
  | _ => none }
def fnAllAlignmentsRow : OpenClaim := { program := "ytjkljnflaifbhaagreatdoor", sum := "cd1bfadfe6d27db361a113a4e4cf88d1ede0c06eca78244d130b9d8d85dff4dd", func := "loop.example/g00857/laws.FnAllAlignments", spec := "fnAllAlignments", unfollowed := true, recurses := true, named := ["loop.example/g00857/impl.vectors"], apart := false, laid := [("loop.example/g00857/impl.vectors", laid_loop_example_g00857_impl_vectors)] }
def FnAllAlignmentsSaid : Prop := fnAllAlignmentsRow.holds Tryz.pinned (OpenSpec.ofChange fnAllAlignmentsSpec)

/-- ITS FALSE NEIGHBOUR: 'it returns false'. Refute it at one input. -/
def fnAllAlignmentsWrong : ChangeSpec := { name := "fnAllAlignments", vars := ["loop.example/g00857/impl.vectors"], fn := fun _ => fun
  | [d1, d2, g1] => { results := [.lit (.bool false)], args := [d1, d2], vars := [g1] }
  | _ => none }
def FnAllAlignmentsWrongFalsely : Prop := fnAllAlignmentsRow.holds Tryz.pinned (OpenSpec.ofChange fnAllAlignmentsWrong)

/- THE SECOND FORM. 'bulk': how many values and letters a reading holds, each counted each time it is reached (what is shared counts as often as it is met; a slice's spare places count too). A statement '..UptoSaid' is the law's where the arguments, and the package variables that the reading takes, are together of bulk at most 1048576: NARROWER than '..Said'. Prove '..Said' where nothing that the law and all that it calls make is longer than what came in: it says more and counts as full. Else prove '..UptoSaid'. A law counts once. -/
mutual
def uptoBulk {H : Type} : DataW H → Nat
  | .lit (.string bytes) => bytes.length + 1
  | .lit _ => 1
  | .nil => 1
  | .ptr d => uptoBulk d + 1
  | .slice elems spare => uptoBulkAll elems + uptoBulkAll spare + 1
  | .agg parts => uptoBulkAll parts + 1
  | .iface _ d => uptoBulk d + 1
  | .map entries => uptoBulkEntries entries + 1
  | .held _ => 1
def uptoBulkAll {H : Type} : List (DataW H) → Nat
  | [] => 0
  | d :: r => uptoBulk d + uptoBulkAll r
def uptoBulkEntries {H : Type} : List (Lit × DataW H) → Nat
  | [] => 0
  | x :: r => uptoBulkEntry x + uptoBulkEntries r
def uptoBulkEntry {H : Type} : Lit × DataW H → Nat
  | (.string bytes, d) => bytes.length + uptoBulk d + 1
  | (_, d) => uptoBulk d + 1
 end
def uptoSmall : (H : Type) → List (DataW H) → Bool := fun _ ds => decide (uptoBulkAll ds ≤ 1048576)
def OpenSpec.upto (s : _root_.Go.ChangeSpec) : _root_.Go.OpenSpec := { _root_.Go.OpenSpec.ofChange s with cond := some uptoSmall }

/-- 'laws.FnExactReadConstruction', WHERE WHAT IT READS IS OF BULK AT MOST 1048576: true; the input reads as it did. -/
def fnExactReadConstructionUptoRow : OpenClaim := { program := "ytjkljnflaifbhaagreatdoor", sum := "cd1bfadfe6d27db361a113a4e4cf88d1ede0c06eca78244d130b9d8d85dff4dd", func := "loop.example/g00857/laws.FnExactReadConstruction", spec := "fnExactReadConstruction", inPlace := ["internal/bytealg.CountString", "internal/bytealg.IndexByteString", "internal/bytealg.IndexString", "internal/abi.NoEscape", "internal/bytealg.MakeNoZero"], unfollowed := true, recurses := true, named := ["unicode/utf8.first", "unicode/utf8.acceptRanges", "internal/bytealg.MaxLen", "loop.example/g00857/impl.constructs", "strconv.ErrSyntax", "strconv.ErrRange", "internal/strconv.uint64pow10", "math/bits.deBruijn32tab", "math/bits.deBruijn64tab"], apart := false, laid := [("math/bits.deBruijn32tab", laid_math_bits_deBruijn32tab), ("math/bits.deBruijn64tab", laid_math_bits_deBruijn64tab), ("internal/strconv.uint64pow10", laid_internal_strconv_uint64pow10), ("unicode/utf8.acceptRanges", laid_unicode_utf8_acceptRanges), ("strconv.ErrRange", laid_strconv_ErrRange), ("strconv.ErrSyntax", laid_strconv_ErrSyntax), ("loop.example/g00857/impl.constructs", laid_loop_example_g00857_impl_constructs), ("unicode/utf8.first", laid_unicode_utf8_first)], narrowed := true }
def FnExactReadConstructionUptoSaid : Prop := fnExactReadConstructionUptoRow.holds Tryz.pinned (OpenSpec.upto fnExactReadConstructionSpec)

/-- 'laws.FnExactConstructOne', WHERE WHAT IT READS IS OF BULK AT MOST 1048576: true; the input reads as it did. -/
def fnExactConstructOneUptoRow : OpenClaim := { program := "ytjkljnflaifbhaagreatdoor", sum := "cd1bfadfe6d27db361a113a4e4cf88d1ede0c06eca78244d130b9d8d85dff4dd", func := "loop.example/g00857/laws.FnExactConstructOne", spec := "fnExactConstructOne", inPlace := ["internal/bytealg.IndexByteString", "internal/bytealg.IndexString"], unfollowed := true, recurses := true, named := ["unicode/utf8.first", "unicode/utf8.acceptRanges", "loop.example/g00857/impl.constructs", "loop.example/g00857/impl.vectors", "internal/bytealg.MaxLen"], apart := false, laid := [("unicode/utf8.acceptRanges", laid_unicode_utf8_acceptRanges), ("loop.example/g00857/impl.vectors", laid_loop_example_g00857_impl_vectors), ("loop.example/g00857/impl.constructs", laid_loop_example_g00857_impl_constructs), ("unicode/utf8.first", laid_unicode_utf8_first)], narrowed := true }
def FnExactConstructOneUptoSaid : Prop := fnExactConstructOneUptoRow.holds Tryz.pinned (OpenSpec.upto fnExactConstructOneSpec)

/-- 'laws.FnExactConstructAll', WHERE WHAT IT READS IS OF BULK AT MOST 1048576: true; the input reads as it did. -/
def fnExactConstructAllUptoRow : OpenClaim := { program := "ytjkljnflaifbhaagreatdoor", sum := "cd1bfadfe6d27db361a113a4e4cf88d1ede0c06eca78244d130b9d8d85dff4dd", func := "loop.example/g00857/laws.FnExactConstructAll", spec := "fnExactConstructAll", inPlace := ["internal/bytealg.IndexByteString", "internal/bytealg.IndexString"], unfollowed := true, recurses := true, named := ["unicode/utf8.first", "unicode/utf8.acceptRanges", "loop.example/g00857/impl.constructs", "loop.example/g00857/impl.vectors", "internal/bytealg.MaxLen"], apart := false, laid := [("unicode/utf8.acceptRanges", laid_unicode_utf8_acceptRanges), ("loop.example/g00857/impl.vectors", laid_loop_example_g00857_impl_vectors), ("loop.example/g00857/impl.constructs", laid_loop_example_g00857_impl_constructs), ("unicode/utf8.first", laid_unicode_utf8_first)], narrowed := true }
def FnExactConstructAllUptoSaid : Prop := fnExactConstructAllUptoRow.holds Tryz.pinned (OpenSpec.upto fnExactConstructAllSpec)

/-- 'laws.FnAllAlignments', WHERE WHAT IT READS IS OF BULK AT MOST 1048576: true; the input reads as it did. -/
def fnAllAlignmentsUptoRow : OpenClaim := { program := "ytjkljnflaifbhaagreatdoor", sum := "cd1bfadfe6d27db361a113a4e4cf88d1ede0c06eca78244d130b9d8d85dff4dd", func := "loop.example/g00857/laws.FnAllAlignments", spec := "fnAllAlignments", unfollowed := true, recurses := true, named := ["loop.example/g00857/impl.vectors"], apart := false, laid := [("loop.example/g00857/impl.vectors", laid_loop_example_g00857_impl_vectors)], narrowed := true }
def FnAllAlignmentsUptoSaid : Prop := fnAllAlignmentsUptoRow.holds Tryz.pinned (OpenSpec.upto fnAllAlignmentsSpec)

end Rows
end Go.Proofs.YtjkljnflaifbhaaGreatDoor
