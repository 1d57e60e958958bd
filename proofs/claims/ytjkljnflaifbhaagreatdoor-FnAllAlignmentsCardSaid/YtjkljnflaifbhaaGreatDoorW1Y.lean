/- No conditions. -/
import Derived.Test.YtjkljnflaifbhaaGreatDoorVaiP
import Derived.Test.YtjkljnflaifbhaaGreatDoorVaiJ
import Derived.Test.YtjkljnflaifbhaaGreatDoorRows
import Derived.ProofKit
namespace Go.Proofs.YtjkljnflaifbhaaGreatDoor
open Go.Vai
set_option maxRecDepth 100000
theorem mixed:Tryz.prog.follows .mixedOrders=true:=by kernel_rfl
def LK:List Value:=[.int .i64 1, .int .i64 0, .int .i64 0, .int .i64 0, .int .i64 0, .int .i64 0, .int .i64 1, .int .i64 0, .int .i64 0, .int .i64 (-1), .int .i64 1, .int .i64 0, .int .i64 1, .int .i64 0, .int .i64 0, .int .i64 1, .int .i64 0, .int .i64 0, .int .i64 (-1), .int .i64 1, .int .i64 0, .int .i64 1, .int .i64 0, .int .i64 0, .int .i64 0, .int .i64 0, .int .i64 0, .int .i64 1, .int .i64 0, .int .i64 0, .int .i64 1, .int .i64 (-1), .int .i64 0, .int .i64 1, .int .i64 0, .int .i64 0, .int .i64 (-1), .int .i64 0, .int .i64 0, .int .i64 1, .int .i64 0, .int .i64 0, .int .i64 (-1), .int .i64 0, .int .i64 0, .int .i64 (-1), .int .i64 1, .int .i64 0]
noncomputable def C0:eo:={P:=Tryz.prog,ρ:=fun _=>none,glob:=fun h=>match h with|1=>some (LK.map .v)|_=>none}
theorem NR{k:Nat}(h:k≠1):C0.glob k=none:=by
 match k,h with
 |0,_=>rfl
 |1,h=>exact absurd rfl h
 |_+2,_=>rfl
end Go.Proofs.YtjkljnflaifbhaaGreatDoor
