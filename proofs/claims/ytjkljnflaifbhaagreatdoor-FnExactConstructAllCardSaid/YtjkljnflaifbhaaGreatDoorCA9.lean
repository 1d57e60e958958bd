/- No conditions. -/
import Derived.Test.YtjkljnflaifbhaaGreatDoorVaiR
import Derived.Test.YtjkljnflaifbhaaGreatDoorRows
import Derived.ProofKit
namespace Go.Proofs.YtjkljnflaifbhaaGreatDoor
open Go.ChangeShapes Go.WideShapes Go.ChangeAt Go.RowKit Go.Vai
theorem bt{a b:Bool}(ha:a=true)(hb:b=true):(a&&b)=true:=by rw[ha,hb];rfl
set_option maxRecDepth 100000 in
set_option maxHeartbeats 0 in
theorem closed:joinedFacts Tryz.pinned.checked.prog 5 Tryz.f5 Rows.fnExactConstructAllSpec Rows.fnExactConstructAllRow=true:=by
 unfold joinedFacts
 repeat' (refine bt ?_ ?_)
 all_goals(as_aux_lemma=>kernel_rfl)
end Go.Proofs.YtjkljnflaifbhaaGreatDoor
