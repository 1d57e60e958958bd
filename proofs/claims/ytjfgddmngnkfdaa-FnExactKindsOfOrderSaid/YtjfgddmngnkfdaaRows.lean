/-
  No cell of these rows narrows 'for every input' (looked for: loops, veiled, ifaces, maps, wideKeys, modest, calm, conditions, laid).
  DERIVED. THE GIVEN ROWS OF THIS SEAT. 4 by the template 'for every input the law returns true; each argument reads behind the call as it read before'; 0 by the template 'total and deterministic' (their statements: YtjfgddmngnkfdaaTotals.lean).
  GIVEN WITH THE SEED: the statements are not yours to turn. If you find one false, say at which input.
  Laid BY PROGRAM, IN A SANDBOX (cutbox-rows.mjs): the forced cells as the released guide's own fill.sh prints them over the translation ba5781bd33427b1a… (all of the seat's roots in one cut). By AI agents, Wed Nov 11 2026. No macro, syntax, notation, axiom, sorry.
-/
import Derived.Test.YtjfgddmngnkfdaaChecked
import GoSem.Claim
import GoSem.ClaimJoined
import GoSem.ClaimMapViews
import Derived.JoinedTies
import Derived.KernelRfl
namespace Go.Proofs.Ytjfgddmngnkfdaa
/- THE CELL 'sum', in the pinned program and in every row, IS THE sha256 OF THE DUMP (.gsa) THAT YtjfgddmngnkfdaaProg.lean LOADS. Nothing in Lean hashes anything: it is a label: what it is worth is what the hold of that sum in a sandbox is worth. -/
noncomputable def Try.pinned : Pinned := { name := "ytjfgddmngnkfdaa", sum := "ba5781bd33427b1a1a5badb6a773bbb2d63dbd4643a01d6316015ac7ee8b8d51", checked := Try.checked }
namespace Rows
def none {H : Type} : Left H := { results := [], args := [] }

/-- 'laws.FnStrips': WHATEVER THE INPUT: true; the input reads as it did. -/
def fnStripsSpec : ChangeSpec := { name := "fnStrips", fn := fun _ => fun
  | [d1, d2] => { results := [.lit (.bool true)], args := [d1, d2] }
  | _ => none }
def fnStripsRow : OpenClaim := { program := "ytjfgddmngnkfdaa", sum := "ba5781bd33427b1a1a5badb6a773bbb2d63dbd4643a01d6316015ac7ee8b8d51", func := "loop.example/g00857/laws.FnStrips", spec := "fnStrips", inPlace := ["slices.overlaps[int64]"], unfollowed := true, recurses := true, apart := false }
def FnStripsSaid : Prop := fnStripsRow.holds Try.pinned (OpenSpec.ofChange fnStripsSpec)

/-- ITS FALSE NEIGHBOUR: 'it returns false'. Refute it at one input. -/
def fnStripsWrong : ChangeSpec := { name := "fnStrips", fn := fun _ => fun
  | [d1, d2] => { results := [.lit (.bool false)], args := [d1, d2] }
  | _ => none }
def FnStripsWrongFalsely : Prop := fnStripsRow.holds Try.pinned (OpenSpec.ofChange fnStripsWrong)

/-- 'laws.FnExactStripOrders': WHATEVER THE INPUT: true; the input reads as it did. -/
def fnExactStripOrdersSpec : ChangeSpec := { name := "fnExactStripOrders", fn := fun _ => fun
  | [d1, d2] => { results := [.lit (.bool true)], args := [d1, d2] }
  | _ => none }
def fnExactStripOrdersRow : OpenClaim := { program := "ytjfgddmngnkfdaa", sum := "ba5781bd33427b1a1a5badb6a773bbb2d63dbd4643a01d6316015ac7ee8b8d51", func := "loop.example/g00857/laws.FnExactStripOrders", spec := "fnExactStripOrders", unfollowed := true, recurses := true, apart := false }
def FnExactStripOrdersSaid : Prop := fnExactStripOrdersRow.holds Try.pinned (OpenSpec.ofChange fnExactStripOrdersSpec)

/-- ITS FALSE NEIGHBOUR: 'it returns false'. Refute it at one input. -/
def fnExactStripOrdersWrong : ChangeSpec := { name := "fnExactStripOrders", fn := fun _ => fun
  | [d1, d2] => { results := [.lit (.bool false)], args := [d1, d2] }
  | _ => none }
def FnExactStripOrdersWrongFalsely : Prop := fnExactStripOrdersRow.holds Try.pinned (OpenSpec.ofChange fnExactStripOrdersWrong)

/-- 'laws.FnExactGoodSectorOrder': WHATEVER THE INPUT: true; the input reads as it did. -/
def fnExactGoodSectorOrderSpec : ChangeSpec := { name := "fnExactGoodSectorOrder", fn := fun _ => fun
  | [d1, d2, d3] => { results := [.lit (.bool true)], args := [d1, d2, d3] }
  | _ => none }
def fnExactGoodSectorOrderRow : OpenClaim := { program := "ytjfgddmngnkfdaa", sum := "ba5781bd33427b1a1a5badb6a773bbb2d63dbd4643a01d6316015ac7ee8b8d51", func := "loop.example/g00857/laws.FnExactGoodSectorOrder", spec := "fnExactGoodSectorOrder", unfollowed := true, recurses := true, apart := false }
def FnExactGoodSectorOrderSaid : Prop := fnExactGoodSectorOrderRow.holds Try.pinned (OpenSpec.ofChange fnExactGoodSectorOrderSpec)

/-- ITS FALSE NEIGHBOUR: 'it returns false'. Refute it at one input. -/
def fnExactGoodSectorOrderWrong : ChangeSpec := { name := "fnExactGoodSectorOrder", fn := fun _ => fun
  | [d1, d2, d3] => { results := [.lit (.bool false)], args := [d1, d2, d3] }
  | _ => none }
def FnExactGoodSectorOrderWrongFalsely : Prop := fnExactGoodSectorOrderRow.holds Try.pinned (OpenSpec.ofChange fnExactGoodSectorOrderWrong)

/-- 'laws.FnExactKindsOfOrder': WHATEVER THE INPUT: true; the input reads as it did. -/
def fnExactKindsOfOrderSpec : ChangeSpec := { name := "fnExactKindsOfOrder", fn := fun _ => fun
  | [d1, d2] => { results := [.lit (.bool true)], args := [d1, d2] }
  | _ => none }
def fnExactKindsOfOrderRow : OpenClaim := { program := "ytjfgddmngnkfdaa", sum := "ba5781bd33427b1a1a5badb6a773bbb2d63dbd4643a01d6316015ac7ee8b8d51", func := "loop.example/g00857/laws.FnExactKindsOfOrder", spec := "fnExactKindsOfOrder", unfollowed := true, recurses := true, apart := false }
def FnExactKindsOfOrderSaid : Prop := fnExactKindsOfOrderRow.holds Try.pinned (OpenSpec.ofChange fnExactKindsOfOrderSpec)

/-- ITS FALSE NEIGHBOUR: 'it returns false'. Refute it at one input. -/
def fnExactKindsOfOrderWrong : ChangeSpec := { name := "fnExactKindsOfOrder", fn := fun _ => fun
  | [d1, d2] => { results := [.lit (.bool false)], args := [d1, d2] }
  | _ => none }
def FnExactKindsOfOrderWrongFalsely : Prop := fnExactKindsOfOrderRow.holds Try.pinned (OpenSpec.ofChange fnExactKindsOfOrderWrong)

/- THE SECOND FORM. 'bulk': how many values and letters a reading holds, each counted each time it is reached (what is shared counts as often as it is met; a slice's spare places count too). A statement '..UptoSaid' is the law's where the arguments, and the package variables that the reading takes, are together of bulk at most 1048576: NARROWER than '..Said'. Prove '..Said' where nothing that the law and all that it calls make is longer than what came in: it says more and counts as full. Else prove '..UptoSaid'. A law counts once. -/
mutual
def uptoBulk {H : Type} : DataW H → Nat
  | .lit (.string bytes) => bytes.length + 1
  | .lit _ => 1
  | .nil => 1
  | .ptr d => uptoBulk d + 1
  | .slice elems spare => uptoBulkAll elems + uptoBulkAll spare + 1
  | .agg parts => uptoBulkAll parts + 1
  | .iface _ d => uptoBulk d + 1
  | .map entries => uptoBulkEntries entries + 1
  | .held _ => 1
def uptoBulkAll {H : Type} : List (DataW H) → Nat
  | [] => 0
  | d :: r => uptoBulk d + uptoBulkAll r
def uptoBulkEntries {H : Type} : List (Lit × DataW H) → Nat
  | [] => 0
  | x :: r => uptoBulkEntry x + uptoBulkEntries r
def uptoBulkEntry {H : Type} : Lit × DataW H → Nat
  | (.string bytes, d) => bytes.length + uptoBulk d + 1
  | (_, d) => uptoBulk d + 1
 end
def uptoSmall : (H : Type) → List (DataW H) → Bool := fun _ ds => decide (uptoBulkAll ds ≤ 1048576)
def OpenSpec.upto (s : _root_.Go.ChangeSpec) : _root_.Go.OpenSpec := { _root_.Go.OpenSpec.ofChange s with cond := some uptoSmall }

/-- 'laws.FnStrips', WHERE WHAT IT READS IS OF BULK AT MOST 1048576: true; the input reads as it did. -/
def fnStripsUptoRow : OpenClaim := { program := "ytjfgddmngnkfdaa", sum := "ba5781bd33427b1a1a5badb6a773bbb2d63dbd4643a01d6316015ac7ee8b8d51", func := "loop.example/g00857/laws.FnStrips", spec := "fnStrips", inPlace := ["slices.overlaps[int64]"], unfollowed := true, recurses := true, apart := false, narrowed := true }
def FnStripsUptoSaid : Prop := fnStripsUptoRow.holds Try.pinned (OpenSpec.upto fnStripsSpec)

/-- 'laws.FnExactStripOrders', WHERE WHAT IT READS IS OF BULK AT MOST 1048576: true; the input reads as it did. -/
def fnExactStripOrdersUptoRow : OpenClaim := { program := "ytjfgddmngnkfdaa", sum := "ba5781bd33427b1a1a5badb6a773bbb2d63dbd4643a01d6316015ac7ee8b8d51", func := "loop.example/g00857/laws.FnExactStripOrders", spec := "fnExactStripOrders", unfollowed := true, recurses := true, apart := false, narrowed := true }
def FnExactStripOrdersUptoSaid : Prop := fnExactStripOrdersUptoRow.holds Try.pinned (OpenSpec.upto fnExactStripOrdersSpec)

/-- 'laws.FnExactGoodSectorOrder', WHERE WHAT IT READS IS OF BULK AT MOST 1048576: true; the input reads as it did. -/
def fnExactGoodSectorOrderUptoRow : OpenClaim := { program := "ytjfgddmngnkfdaa", sum := "ba5781bd33427b1a1a5badb6a773bbb2d63dbd4643a01d6316015ac7ee8b8d51", func := "loop.example/g00857/laws.FnExactGoodSectorOrder", spec := "fnExactGoodSectorOrder", unfollowed := true, recurses := true, apart := false, narrowed := true }
def FnExactGoodSectorOrderUptoSaid : Prop := fnExactGoodSectorOrderUptoRow.holds Try.pinned (OpenSpec.upto fnExactGoodSectorOrderSpec)

/-- 'laws.FnExactKindsOfOrder', WHERE WHAT IT READS IS OF BULK AT MOST 1048576: true; the input reads as it did. -/
def fnExactKindsOfOrderUptoRow : OpenClaim := { program := "ytjfgddmngnkfdaa", sum := "ba5781bd33427b1a1a5badb6a773bbb2d63dbd4643a01d6316015ac7ee8b8d51", func := "loop.example/g00857/laws.FnExactKindsOfOrder", spec := "fnExactKindsOfOrder", unfollowed := true, recurses := true, apart := false, narrowed := true }
def FnExactKindsOfOrderUptoSaid : Prop := fnExactKindsOfOrderUptoRow.holds Try.pinned (OpenSpec.upto fnExactKindsOfOrderSpec)

end Rows
end Go.Proofs.Ytjfgddmngnkfdaa
