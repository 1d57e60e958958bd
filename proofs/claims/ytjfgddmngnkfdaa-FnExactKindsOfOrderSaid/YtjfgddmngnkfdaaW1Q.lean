/- The seat's program, as the interpreter is told it. No conditions. -/
import Derived.Test.YtjfgddmngnkfdaaVaiJ
import Derived.Test.YtjfgddmngnkfdaaVaiP
import Derived.Test.YtjfgddmngnkfdaaRows
import Derived.ProofKit
namespace Go.Proofs.Ytjfgddmngnkfdaa
open Go.Vai
set_option maxRecDepth 100000

theorem mixed : Try.prog.follows .mixedOrders = true := by kernel_rfl
noncomputable def C0 : Ctx := { P := Try.prog, ρ := fun _ => none, glob := fun _ => none }

theorem C0_glob : ∀ h, C0.glob h = none := fun _ => rfl

end Go.Proofs.Ytjfgddmngnkfdaa
