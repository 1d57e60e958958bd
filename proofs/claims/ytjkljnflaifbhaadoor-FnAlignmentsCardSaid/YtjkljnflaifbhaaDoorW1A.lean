/- No conditions. -/
import Derived.Test.YtjkljnflaifbhaaDoorVaiP
import Derived.Test.YtjkljnflaifbhaaDoorVaiJ
import Derived.Test.YtjkljnflaifbhaaDoorRows
import Derived.ProofKit
namespace Go.Proofs.YtjkljnflaifbhaaDoor
open Go.Vai
set_option maxRecDepth 100000
theorem mixed:Tryd.prog.follows .mixedOrders=true:=by kernel_rfl
def KG:List Value:=[.int .i64 1, .int .i64 0, .int .i64 0, .int .i64 0, .int .i64 0, .int .i64 0, .int .i64 1, .int .i64 0, .int .i64 0, .int .i64 (-1), .int .i64 1, .int .i64 0, .int .i64 1, .int .i64 0, .int .i64 0, .int .i64 1, .int .i64 0, .int .i64 0, .int .i64 (-1), .int .i64 1, .int .i64 0, .int .i64 1, .int .i64 0, .int .i64 0, .int .i64 0, .int .i64 0, .int .i64 0, .int .i64 1, .int .i64 0, .int .i64 0, .int .i64 1, .int .i64 (-1), .int .i64 0, .int .i64 1, .int .i64 0, .int .i64 0, .int .i64 (-1), .int .i64 0, .int .i64 0, .int .i64 1, .int .i64 0, .int .i64 0, .int .i64 (-1), .int .i64 0, .int .i64 0, .int .i64 (-1), .int .i64 1, .int .i64 0]
noncomputable def C0:ew:={P:=Tryd.prog,ρ:=fun _=>none,glob:=fun h=>match h with|1=>some (KG.map .v)|_=>none}
theorem ML{k:Nat}(h:k≠1):C0.glob k=none:=by
 match k,h with
 |0,_=>rfl
 |1,h=>exact absurd rfl h
 |_+2,_=>rfl
end Go.Proofs.YtjkljnflaifbhaaDoor
