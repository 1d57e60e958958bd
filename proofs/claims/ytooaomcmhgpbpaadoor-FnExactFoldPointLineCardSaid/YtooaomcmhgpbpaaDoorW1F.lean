/- The seat's program, as the interpreter is told it. No conditions. -/
import Derived.Test.YtooaomcmhgpbpaaDoorVaiM
import Derived.Test.YtooaomcmhgpbpaaDoorRows
import Derived.ProofKit
namespace Go.Proofs.YtooaomcmhgpbpaaDoor
open Go.Vai
set_option maxRecDepth 100000

theorem mixed : Tryd.prog.follows .mixedOrders = true := by kernel_rfl
/-- The listed variable's cells. -/
def vecCells : List Int := [1, 0, 0, 0, 0, 0, 1, 0, 0, -1, 1, 0, 1, 0, 0, 1, 0, 0, -1, 1, 0, 1, 0, 0, 0, 0, 0, 1, 0, 0, 1, -1, 0, 1, 0, 0, -1, 0, 0, 1, 0, 0, -1, 0, 0, -1, 1, 0]
noncomputable def C0 : Ctx := ⟨Tryd.prog, fun _ => none, fun h => match h with | 0 => some (vecCells.map fun n => .v (.int .i64 n)) | _ => none⟩

end Go.Proofs.YtooaomcmhgpbpaaDoor
