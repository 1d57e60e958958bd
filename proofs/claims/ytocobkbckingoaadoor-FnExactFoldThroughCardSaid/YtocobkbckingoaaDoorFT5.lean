/- The plain law on FoldThrough. No conditions. -/
import Derived.Test.YtocobkbckingoaaDoorFT4
namespace Go.Proofs.YtocobkbckingoaaDoor
open Go.Vai
theorem law_FoldThrough (p q : Pt) : g_laws_FnExactFoldThrough p q = some true := by
  rw [g_laws_FnExactFoldThrough, t_laws_FnExactFoldThrough]
  have h1 : g_spec_FoldThrough p q = some (thruN p q) := by rw [g_spec_FoldThrough, t_spec_FoldThrough, spec_thru]; rfl
  have h2 : g_impl_FoldThrough p q = some (thruN p q) := by rw [g_impl_FoldThrough, t_impl_FoldThrough, impl_thru]; rfl
  simp only [toPoint_id, Option.bind_some, h1, h2, eqLine_self]
  simp

end Go.Proofs.YtocobkbckingoaaDoor
