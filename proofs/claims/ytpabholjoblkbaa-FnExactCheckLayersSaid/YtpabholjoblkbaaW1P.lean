/- The seat's program, as the interpreter is told it. No conditions. -/
import Derived.Test.YtpabholjoblkbaaVaiM
import Derived.Test.YtpabholjoblkbaaRows
import Derived.ProofKit
namespace Go.Proofs.Ytpabholjoblkbaa
open Go.Vai
set_option maxRecDepth 100000

theorem mixed : Try.prog.follows .mixedOrders = true := by kernel_rfl
noncomputable def C0 : Ctx := ⟨Try.prog, fun _ => none, fun _ => none⟩

theorem C0_glob : ∀ h, C0.glob h = none := fun _ => rfl

end Go.Proofs.Ytpabholjoblkbaa
