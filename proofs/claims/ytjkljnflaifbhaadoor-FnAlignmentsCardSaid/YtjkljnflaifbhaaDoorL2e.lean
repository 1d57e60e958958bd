/- No conditions. -/
import Derived.Test.YtjkljnflaifbhaaDoorL2d
namespace Go.Proofs.YtjkljnflaifbhaaDoor
open Go.Vai
set_option maxRecDepth 100000
theorem zg:ag C0 7 sU:=
 ag.fx (e:=false) (t:=ed) (.cons GS (.cons DG (.cons GT (.cons Aa (.cons GP (.cons DE (.cons ze (.cons uC (.cons Bm (.cons Bn (.cons zZ (.cons CE (.cons xX (.cons EX (.nil))))))))))))))) mixed Tryd.func7 (by kernel_rfl) (by kernel_rfl) ef 1 yr (fun z=>(by kernel_rfl:_=jd (fun b=>some (sU.enc b)) z.1 z.2.1).trans (xT _ z.1 z.2.1))
end Go.Proofs.YtjkljnflaifbhaaDoor
