/- No conditions. -/
import Derived.Test.YtjkljnflaifbhaaGreatDoorZ6
import Derived.Test.YtjkljnflaifbhaaGreatDoorVaiW
import Derived.WalkKit
import Derived.WalkMore
import Derived.Deep.LoopGhost
import Derived.Laws.MakeOwn
import Derived.Laws.Rows
namespace Go.Proofs.YtjkljnflaifbhaaGreatDoor
open Go.Vai
set_option maxRecDepth 100000
noncomputable section
def oe:List (FuncId×af):=[(13,tQ)]
abbrev cO:LS:=⟨[(false,[(.sl (.pair .str (.pair (.int .i64) (.pair (.slice .str) (.pair (.int .i64) (.pair (.pair (.pair (.int .i64) (.pair (.int .i64) (.int .i64))) (.pair (.int .i64) (.pair (.int .i64) (.int .i64)))) (.pair (.int .i64) (.pair (.int .i64) (.pair (.int .i64) (.int .i64))))))))))]),(false,[(.int .i64)]),(false,[(.int .i64)])],[],[]⟩
abbrev uD:LS:=⟨[(false,[(.int .i64)]),(false,[(.int .i64)])],[],[]⟩
abbrev uz(v0:Int)(v1:Int):=((((v0,()),(v1,()),()),(),()):uD.T)
abbrev uE:LS:=⟨[(false,[(.int .i64)]),(false,[.undef])],[],[]⟩
abbrev uA(v0:Int):=((((v0,()),((),()),()),(),()):uE.T)
abbrev dj:List (Ex×LS):=[(.ret,uD),(.exit 0,uE)]
abbrev eY x0(x1:Int)(x5:Int):=((((x0,()),(x1,()),(x5,()),()),(),()):cO.T)
def fl{R:Type}(nx:cO.T->Option R)(hx:mA R dj)(x0:List (ByteArray×(Int×((List ByteArray)×(Int×(((Int×(Int×Int))×(Int×(Int×Int)))×(Int×(Int×(Int×Int)))))))))(x1:Int)(x5:Int):Option R:=
 cond (decide (x5<((List.length x0:Nat):Int)))
 (Option.bind (gq x0 x5) fun y5=>
  Option.bind (jj y5 x1) fun y6=>
  cond (decide (y6<(0:Int)))
  (hx.1 (uz y6 (-(1:Int))))
  (nx (eY x0 y6 (IntKind.wrap .i64 (x5+(1:Int))))))
 (hx.2.1 (uA x1))
def qM{R:Type}(nx:cO.T->Option R)(hx:mA R dj)(z:cO.T):Option R:=fl nx hx z.1.1.1 z.1.2.1.1 z.1.2.2.1.1
theorem uP:cK @qM:=fun R nx hx z=>by
 show fl nx hx z.1.1.1 z.1.2.1.1 z.1.2.2.1.1=(fl (fun y=>some (.inl y)) (oI dj fun x=>some (.inr x)) z.1.1.1 z.1.2.1.1 z.1.2.2.1.1).bind (oH nx hx)
 unfold fl
 exact ae (ac fun _=>ac fun _=>ae rfl rfl) rfl
def dh:cO.T->Option (yH dj):=BU @qM
theorem wt x0 x1 x5:dh (eY x0 x1 x5)=fl dh (oI dj some) x0 x1 x5:=dR uP _
def lB:bN:=⟨[0,1,5],[],[1,4],[]⟩
def oj:fq Rv:=⟨fun k=>match k with|6=>lB|_=>⟨[],[],[],[]⟩,fun k=>match k with|6=>some (ce cO dj dh)|_=>none⟩
theorem E1(n:Nat)(z:cO.T)(k:Ex->iV->Option Rv):bJ ⟨27,27⟩ lB (mU (gN C0 oe) ⟨27,27⟩ oj 1 (aG Tryz.f21 5)) (n+1) (cO.enc z) k=
 qM (fun y=>bJ ⟨27,27⟩ lB (mU (gN C0 oe) ⟨27,27⟩ oj 1 (aG Tryz.f21 5)) n (cO.enc y) k) (hK k dj) z:=by kernel_rfl
theorem Hb:ak (gN C0 oe) ⟨27,27⟩ oj 1 (ca (aX Tryz.f21)):=by
 have hl:ca (aX Tryz.f21)=[aG Tryz.f21 5]:=by kernel_rfl
 rw[hl]
 exact ak.cons (n:=6) (lh:=lB) (S:=ce cO dj dh) (by kernel_rfl) rfl rfl (cl uP E1)
  (ak.nil)
def kP{R:Type}(kx:Int->Option R)(a0:(List (ByteArray×(Int×((List ByteArray)×(Int×(((Int×(Int×Int))×(Int×(Int×Int)))×(Int×(Int×(Int×Int))))))))))(a1:Int):Option R:=
 cond (decide ((IntKind.wrap .i64 (a1-((List.length a0:Nat):Int)))<(0:Int)))
 (kx (-(1:Int)))
 (Option.bind (dh (eY a0 (IntKind.wrap .i64 (a1-((List.length a0:Nat):Int))) (0:Int))) (qi dj
  (fun e7=>
   kx (e7.1.2.1.1:Int),fun e10=>
   kx (e10.1.1.1:Int),())))
def iL(a0:(List (ByteArray×(Int×((List ByteArray)×(Int×(((Int×(Int×Int))×(Int×(Int×Int)))×(Int×(Int×(Int×Int))))))))))(a1:Int):Option (Int):=kP some a0 a1
theorem Gx{R} kx a0 a1: @kP R kx a0 a1=(iL a0 a1).bind kx:=by
 unfold iL kP
 exact ae rfl (cq ⟨fun _=>rfl,fun _=>rfl,trivial⟩)
abbrev zi:af:=.fx [.val false (.slice (.pair .str (.pair (.int .i64) (.pair (.slice .str) (.pair (.int .i64) (.pair (.pair (.pair (.int .i64) (.pair (.int .i64) (.int .i64))) (.pair (.int .i64) (.pair (.int .i64) (.int .i64)))) (.pair (.int .i64) (.pair (.int .i64) (.pair (.int .i64) (.int .i64)))))))))), .val false (.int .i64)] (Int) (fun z=>iL z.1 z.2.1) (fun b=>(.one ⟨false,[(.v (.int .i64 b))]⟩,[]))
theorem HV:ag C0 21 zi:=
 ag.fx (e:=false) (t:=oe) (.cons IL (.nil)) mixed Tryz.func21 (by kernel_rfl) (by kernel_rfl) oj 1 Hb (fun z=>(by kernel_rfl:_=kP (fun b=>some (zi.enc b)) z.1 z.2.1).trans (Gx _ z.1 z.2.1))
def qR:List (FuncId×af):=[(56,B8),(14,wD)]
abbrev dr:LS:=⟨[(false,[(.sl (.pair .str (.pair (.int .i64) (.pair (.slice .str) (.pair (.int .i64) (.pair (.pair (.pair (.int .i64) (.pair (.int .i64) (.int .i64))) (.pair (.int .i64) (.pair (.int .i64) (.int .i64)))) (.pair (.int .i64) (.pair (.int .i64) (.pair (.int .i64) (.int .i64))))))))))]),(false,[(.own (.pair .str (.pair .bool (.pair (.pair (.pair (.int .i64) (.pair (.int .i64) (.int .i64))) (.pair (.int .i64) (.pair (.int .i64) (.int .i64)))) (.pair (.int .i64) (.pair (.int .i64) (.pair (.int .i64) (.int .i64))))))))]),(false,[(.int .i64)])],[],[]⟩
abbrev yr:LS:=⟨[(false,[(.sl (.pair .str (.pair (.int .i64) (.pair (.slice .str) (.pair (.int .i64) (.pair (.pair (.pair (.int .i64) (.pair (.int .i64) (.int .i64))) (.pair (.int .i64) (.pair (.int .i64) (.int .i64)))) (.pair (.int .i64) (.pair (.int .i64) (.pair (.int .i64) (.int .i64))))))))))]),(false,[(.own (.pair .str (.pair .bool (.pair (.pair (.pair (.int .i64) (.pair (.int .i64) (.int .i64))) (.pair (.int .i64) (.pair (.int .i64) (.int .i64)))) (.pair (.int .i64) (.pair (.int .i64) (.pair (.int .i64) (.int .i64))))))))]),(false,[(.int .i64)]),(false,[(.int .i64)]),(false,[(.own (.pair .str (.pair .bool (.pair (.pair (.pair (.int .i64) (.pair (.int .i64) (.int .i64))) (.pair (.int .i64) (.pair (.int .i64) (.int .i64)))) (.pair (.int .i64) (.pair (.int .i64) (.pair (.int .i64) (.int .i64))))))))])],[],[]⟩
abbrev yl v0 v1(v2:Int)(v3:Int) v4:=((((v0,()),(v1,()),(v2,()),(v3,()),(v4,()),()),(),()):yr.T)
abbrev yu:LS:=⟨[(false,[(.sl (.pair .str (.pair (.int .i64) (.pair (.slice .str) (.pair (.int .i64) (.pair (.pair (.pair (.int .i64) (.pair (.int .i64) (.int .i64))) (.pair (.int .i64) (.pair (.int .i64) (.int .i64)))) (.pair (.int .i64) (.pair (.int .i64) (.pair (.int .i64) (.int .i64))))))))))]),(false,[.undef]),(false,[.undef]),(false,[.undef]),(false,[(.own (.pair .str (.pair .bool (.pair (.pair (.pair (.int .i64) (.pair (.int .i64) (.int .i64))) (.pair (.int .i64) (.pair (.int .i64) (.int .i64)))) (.pair (.int .i64) (.pair (.int .i64) (.pair (.int .i64) (.int .i64))))))))])],[],[]⟩
abbrev ym v0 v1:=((((v0,()),((),()),((),()),((),()),(v1,()),()),(),()):yu.T)
abbrev dP:List (Ex×LS):=[(.ret,yr),(.exit 0,yu)]
abbrev lJ x1 x7(x8:Int):=((((x1,()),(x7,()),(x8,()),()),(),()):dr.T)
def fy{R:Type}(nx:dr.T->Option R)(hx:mA R dP)(x1:List (ByteArray×(Int×((List ByteArray)×(Int×(((Int×(Int×Int))×(Int×(Int×Int)))×(Int×(Int×(Int×Int)))))))))(x7:List (ByteArray×(Bool×(((Int×(Int×Int))×(Int×(Int×Int)))×(Int×(Int×(Int×Int)))))))(x8:Int):Option R:=
 cond (decide (x8<((List.length x1:Nat):Int)))
 (Option.bind (gq x1 x8) fun y18=>
  Option.bind (gJ x7 y18) fun y19=>
  cond (y19.2 !=(0:Int))
  (hx.1 (yl x1 [] x8 y19.2 x7))
  (nx (lJ x1 y19.1 (IntKind.wrap .i64 (x8+(1:Int))))))
 (hx.2.1 (ym x1 x7))
def tT{R:Type}(nx:dr.T->Option R)(hx:mA R dP)(z:dr.T):Option R:=fy nx hx z.1.1.1 z.1.2.1.1 z.1.2.2.1.1
theorem yA:cK @tT:=fun R nx hx z=>by
 show fy nx hx z.1.1.1 z.1.2.1.1 z.1.2.2.1.1=(fy (fun y=>some (.inl y)) (oI dP fun x=>some (.inr x)) z.1.1.1 z.1.2.1.1 z.1.2.2.1.1).bind (oH nx hx)
 unfold fy
 exact ae (ac fun _=>ac fun _=>ae rfl rfl) rfl
def gQ:dr.T->Option (yH dP):=BU @tT
theorem sQ x1 x7 x8:gQ (lJ x1 x7 x8)=fy gQ (oI dP some) x1 x7 x8:=dR yA _
def om:bN:=⟨[1,7,8],[],[1,4,5,6,7],[]⟩
def qV:fq Rv:=⟨fun k=>match k with|6=>om|_=>⟨[],[],[],[]⟩,fun k=>match k with|6=>some (ce dr dP gQ)|_=>none⟩
theorem IP(n:Nat)(z:dr.T)(k:Ex->iV->Option Rv):bJ ⟨45,45⟩ om (mU (gN C0 qR) ⟨45,45⟩ qV 1 (aG Tryz.f22 5)) (n+1) (dr.enc z) k=
 tT (fun y=>bJ ⟨45,45⟩ om (mU (gN C0 qR) ⟨45,45⟩ qV 1 (aG Tryz.f22 5)) n (dr.enc y) k) (hK k dP) z:=by kernel_rfl
theorem J1:ak (gN C0 qR) ⟨45,45⟩ qV 1 (ca (aX Tryz.f22)):=by
 have hl:ca (aX Tryz.f22)=[aG Tryz.f22 5]:=by kernel_rfl
 rw[hl]
 exact ak.cons (n:=6) (lh:=om) (S:=ce dr dP gQ) (by kernel_rfl) rfl rfl (cl yA IP)
  (ak.nil)
def nZ{R:Type}(kx:(List (ByteArray×(Bool×(((Int×(Int×Int))×(Int×(Int×Int)))×(Int×(Int×(Int×Int)))))))×Int×Int->Option R)(a0:(List (ByteArray×(Bool×(((Int×(Int×Int))×(Int×(Int×Int)))×(Int×(Int×(Int×Int))))))))(a1:(List (ByteArray×(Int×((List ByteArray)×(Int×(((Int×(Int×Int))×(Int×(Int×Int)))×(Int×(Int×(Int×Int)))))))))):Option R:=
 Option.bind (nC a0) fun y14=>
 cond (!y14)
 (kx ([],((0:Int),(1:Int))))
 (cond (decide (((List.length a1:Nat):Int)>(30:Int)))
  (kx ([],((0:Int),(1:Int))))
  (cond (decide ((((List.length ([]:List Int))+(List.length a0))*104)<=70368744177664))
   (cond (decide (((List.length ([]:List Int))+(List.length a0))<=70368744177664))
    (Option.bind (gQ (lJ a1 ([]++a0) (0:Int))) (qi dP
     (fun e20=>
      kx ((e20.1.2.1.1:List (ByteArray×(Bool×(((Int×(Int×Int))×(Int×(Int×Int)))×(Int×(Int×(Int×Int))))))),((e20.1.2.2.1.1:Int),(e20.1.2.2.2.1.1:Int))),fun e26=>
      kx ((e26.1.2.2.2.2.1.1:List (ByteArray×(Bool×(((Int×(Int×Int))×(Int×(Int×Int)))×(Int×(Int×(Int×Int))))))),((((List.length (e26.1.1.1:List (ByteArray×(Int×((List ByteArray)×(Int×(((Int×(Int×Int))×(Int×(Int×Int)))×(Int×(Int×(Int×Int)))))))))):Nat):Int),(0:Int))),())))
    none)
   none))
def iY(a0:(List (ByteArray×(Bool×(((Int×(Int×Int))×(Int×(Int×Int)))×(Int×(Int×(Int×Int))))))))(a1:(List (ByteArray×(Int×((List ByteArray)×(Int×(((Int×(Int×Int))×(Int×(Int×Int)))×(Int×(Int×(Int×Int)))))))))):Option ((List (ByteArray×(Bool×(((Int×(Int×Int))×(Int×(Int×Int)))×(Int×(Int×(Int×Int)))))))×Int×Int):=nZ some a0 a1
theorem Jz{R} kx a0 a1: @nZ R kx a0 a1=(iY a0 a1).bind kx:=by
 unfold iY nZ
 exact ac fun _=>ae rfl (ae rfl (ae (ae (cq ⟨fun _=>rfl,fun _=>rfl,trivial⟩) rfl) rfl))
abbrev CD:af:=.fx [.val false (.slice (.pair .str (.pair .bool (.pair (.pair (.pair (.int .i64) (.pair (.int .i64) (.int .i64))) (.pair (.int .i64) (.pair (.int .i64) (.int .i64)))) (.pair (.int .i64) (.pair (.int .i64) (.pair (.int .i64) (.int .i64)))))))), .val false (.slice (.pair .str (.pair (.int .i64) (.pair (.slice .str) (.pair (.int .i64) (.pair (.pair (.pair (.int .i64) (.pair (.int .i64) (.int .i64))) (.pair (.int .i64) (.pair (.int .i64) (.int .i64)))) (.pair (.int .i64) (.pair (.int .i64) (.pair (.int .i64) (.int .i64))))))))))] ((List (ByteArray×(Bool×(((Int×(Int×Int))×(Int×(Int×Int)))×(Int×(Int×(Int×Int)))))))×Int×Int) (fun z=>iY z.1 z.2.1) (fun b=>(.tup [⟨false,[(.own (.pair .str (.pair .bool (.pair (.pair (.pair (.int .i64) (.pair (.int .i64) (.int .i64))) (.pair (.int .i64) (.pair (.int .i64) (.int .i64)))) (.pair (.int .i64) (.pair (.int .i64) (.pair (.int .i64) (.int .i64))))))) b.1)]⟩,⟨false,[(.v (.int .i64 b.2.1))]⟩,⟨false,[(.v (.int .i64 b.2.2))]⟩],[]))
theorem KV:ag C0 22 CD:=
 ag.fx (e:=false) (t:=qR) (.cons HY (.cons KW (.nil))) mixed Tryz.func22 (by kernel_rfl) (by kernel_rfl) qV 1 J1 (fun z=>(by kernel_rfl:_=nZ (fun b=>some (CD.enc b)) z.1 z.2.1).trans (Jz _ z.1 z.2.1))
def ic{R:Type}(kx:Int->Option R)(a0:(List (ByteArray×(Int×((List ByteArray)×(Int×(((Int×(Int×Int))×(Int×(Int×Int)))×(Int×(Int×(Int×Int)))))))))):Option R:=
 kx ((List.length a0:Nat):Int)
def hY(a0:(List (ByteArray×(Int×((List ByteArray)×(Int×(((Int×(Int×Int))×(Int×(Int×Int)))×(Int×(Int×(Int×Int)))))))))):Option (Int):=ic some a0
theorem yJ{R} kx a0: @ic R kx a0=(hY a0).bind kx:=by
 unfold hY ic
 exact rfl
abbrev lu:af:=.fx [.val false (.slice (.pair .str (.pair (.int .i64) (.pair (.slice .str) (.pair (.int .i64) (.pair (.pair (.pair (.int .i64) (.pair (.int .i64) (.int .i64))) (.pair (.int .i64) (.pair (.int .i64) (.int .i64)))) (.pair (.int .i64) (.pair (.int .i64) (.pair (.int .i64) (.int .i64))))))))))] (Int) (fun z=>hY z.1) (fun b=>(.one ⟨false,[(.v (.int .i64 b))]⟩,[]))
theorem zA:ag C0 70 lu:=
 ag.fx (e:=false) (.nil) mixed Tryz.func70 (by kernel_rfl) (by kernel_rfl) al 1 ai (fun z=>(by kernel_rfl:_=ic (fun b=>some (lu.enc b)) z.1).trans (yJ _ z.1))
def qQ:List (FuncId×af):=[(63,zg),(67,ow),(17,wB),(70,lu)]
abbrev dq:LS:=⟨[(false,[(.sl (.pair .str (.pair (.int .i64) (.pair (.slice .str) (.pair (.int .i64) (.pair (.pair (.pair (.int .i64) (.pair (.int .i64) (.int .i64))) (.pair (.int .i64) (.pair (.int .i64) (.int .i64)))) (.pair (.int .i64) (.pair (.int .i64) (.pair (.int .i64) (.int .i64))))))))))]),(false,[(.own (.pair .str (.pair .bool (.pair (.pair (.pair (.int .i64) (.pair (.int .i64) (.int .i64))) (.pair (.int .i64) (.pair (.int .i64) (.int .i64)))) (.pair (.int .i64) (.pair (.int .i64) (.pair (.int .i64) (.int .i64))))))))]),(false,[(.sl (.pair .str (.pair (.int .i64) (.pair (.slice .str) (.pair (.int .i64) (.pair (.pair (.pair (.int .i64) (.pair (.int .i64) (.int .i64))) (.pair (.int .i64) (.pair (.int .i64) (.int .i64)))) (.pair (.int .i64) (.pair (.int .i64) (.pair (.int .i64) (.int .i64))))))))))]),(false,[(.int .i64)]),(false,[(.int .i64)])],[],[]⟩
abbrev yp:LS:=⟨[(false,[(.sl (.pair .str (.pair (.int .i64) (.pair (.slice .str) (.pair (.int .i64) (.pair (.pair (.pair (.int .i64) (.pair (.int .i64) (.int .i64))) (.pair (.int .i64) (.pair (.int .i64) (.int .i64)))) (.pair (.int .i64) (.pair (.int .i64) (.pair (.int .i64) (.int .i64))))))))))]),(false,[(.own (.pair .str (.pair .bool (.pair (.pair (.pair (.int .i64) (.pair (.int .i64) (.int .i64))) (.pair (.int .i64) (.pair (.int .i64) (.int .i64)))) (.pair (.int .i64) (.pair (.int .i64) (.pair (.int .i64) (.int .i64))))))))]),(false,[(.int .i64)]),(false,[(.int .i64)]),(false,[(.own (.pair .str (.pair .bool (.pair (.pair (.pair (.int .i64) (.pair (.int .i64) (.int .i64))) (.pair (.int .i64) (.pair (.int .i64) (.int .i64)))) (.pair (.int .i64) (.pair (.int .i64) (.pair (.int .i64) (.int .i64))))))))])],[],[]⟩
abbrev yj v0 v1(v2:Int)(v3:Int) v4:=((((v0,()),(v1,()),(v2,()),(v3,()),(v4,()),()),(),()):yp.T)
abbrev yq:LS:=⟨[(false,[(.sl (.pair .str (.pair (.int .i64) (.pair (.slice .str) (.pair (.int .i64) (.pair (.pair (.pair (.int .i64) (.pair (.int .i64) (.int .i64))) (.pair (.int .i64) (.pair (.int .i64) (.int .i64)))) (.pair (.int .i64) (.pair (.int .i64) (.pair (.int .i64) (.int .i64))))))))))]),(false,[.undef]),(false,[.undef]),(false,[.undef]),(false,[(.own (.pair .str (.pair .bool (.pair (.pair (.pair (.int .i64) (.pair (.int .i64) (.int .i64))) (.pair (.int .i64) (.pair (.int .i64) (.int .i64)))) (.pair (.int .i64) (.pair (.int .i64) (.pair (.int .i64) (.int .i64))))))))])],[],[]⟩
abbrev yk v0 v1:=((((v0,()),((),()),((),()),((),()),(v1,()),()),(),()):yq.T)
abbrev dO:List (Ex×LS):=[(.ret,yp),(.exit 0,yq)]
abbrev lI x1 x7 x22(x23:Int)(x24:Int):=((((x1,()),(x7,()),(x22,()),(x23,()),(x24,()),()),(),()):dq.T)
def fw{R:Type}(nx:dq.T->Option R)(hx:mA R dO)(x1:List (ByteArray×(Int×((List ByteArray)×(Int×(((Int×(Int×Int))×(Int×(Int×Int)))×(Int×(Int×(Int×Int)))))))))(x7:List (ByteArray×(Bool×(((Int×(Int×Int))×(Int×(Int×Int)))×(Int×(Int×(Int×Int)))))))(x22:List (ByteArray×(Int×((List ByteArray)×(Int×(((Int×(Int×Int))×(Int×(Int×Int)))×(Int×(Int×(Int×Int)))))))))(x23:Int)(x24:Int):Option R:=
 cond (decide (x24<x23))
 (Option.bind (gq x22 x24) fun y38=>
  Option.bind (gI x7 y38) fun y39=>
  cond (y39.2 !=(0:Int))
  (hx.1 (yj x1 [] x24 y39.2 x7))
  (nx (lI x1 y39.1 x22 x23 (IntKind.wrap .i64 (x24+(1:Int))))))
 (hx.2.1 (yk x1 x7))
def tS{R:Type}(nx:dq.T->Option R)(hx:mA R dO)(z:dq.T):Option R:=fw nx hx z.1.1.1 z.1.2.1.1 z.1.2.2.1.1 z.1.2.2.2.1.1 z.1.2.2.2.2.1.1
theorem yz:cK @tS:=fun R nx hx z=>by
 show fw nx hx z.1.1.1 z.1.2.1.1 z.1.2.2.1.1 z.1.2.2.2.1.1 z.1.2.2.2.2.1.1=(fw (fun y=>some (.inl y)) (oI dO fun x=>some (.inr x)) z.1.1.1 z.1.2.1.1 z.1.2.2.1.1 z.1.2.2.2.1.1 z.1.2.2.2.2.1.1).bind (oH nx hx)
 unfold fw
 exact ae (ac fun _=>ac fun _=>ae rfl rfl) rfl
def gP:dq.T->Option (yH dO):=BU @tS
theorem sP x1 x7 x22 x23 x24:gP (lI x1 x7 x22 x23 x24)=fw gP (oI dO some) x1 x7 x22 x23 x24:=dR yz _
def ol:bN:=⟨[1,7,22,23,24],[],[1,4,5,6,7],[]⟩
def qU:fq Rv:=⟨fun k=>match k with|6=>ol|_=>⟨[],[],[],[]⟩,fun k=>match k with|6=>some (ce dq dO gP)|_=>none⟩
theorem IN(n:Nat)(z:dq.T)(k:Ex->iV->Option Rv):bJ ⟨44,44⟩ ol (mU (gN C0 qQ) ⟨44,44⟩ qU 1 (aG Tryz.f24 5)) (n+1) (dq.enc z) k=
 tS (fun y=>bJ ⟨44,44⟩ ol (mU (gN C0 qQ) ⟨44,44⟩ qU 1 (aG Tryz.f24 5)) n (dq.enc y) k) (hK k dO) z:=by kernel_rfl
theorem J0:ak (gN C0 qQ) ⟨44,44⟩ qU 1 (ca (aX Tryz.f24)):=by
 have hl:ca (aX Tryz.f24)=[aG Tryz.f24 5]:=by kernel_rfl
 rw[hl]
 exact ak.cons (n:=6) (lh:=ol) (S:=ce dq dO gP) (by kernel_rfl) rfl rfl (cl yz IN)
  (ak.nil)
def nW{R:Type}(kx:(List (ByteArray×(Bool×(((Int×(Int×Int))×(Int×(Int×Int)))×(Int×(Int×(Int×Int)))))))×Int×Int->Option R)(a0:(List (ByteArray×(Bool×(((Int×(Int×Int))×(Int×(Int×Int)))×(Int×(Int×(Int×Int))))))))(a1:(List (ByteArray×(Int×((List ByteArray)×(Int×(((Int×(Int×Int))×(Int×(Int×Int)))×(Int×(Int×(Int×Int)))))))))):Option R:=
 Option.bind (kA a0) fun y31=>
 cond (!y31)
 (kx ([],((0:Int),(1:Int))))
 (cond (decide (((List.length a1:Nat):Int)>(30:Int)))
  (kx ([],((0:Int),(1:Int))))
  (Option.bind (bd a0) fun y32=>
   Option.bind (gP (lI a1 y32 a1 ((List.length a1:Nat):Int) (0:Int))) (qi dO
   (fun e40=>
    kx ((e40.1.2.1.1:List (ByteArray×(Bool×(((Int×(Int×Int))×(Int×(Int×Int)))×(Int×(Int×(Int×Int))))))),((e40.1.2.2.1.1:Int),(e40.1.2.2.2.1.1:Int))),fun e46=>
    Option.bind (hY (e46.1.1.1:List (ByteArray×(Int×((List ByteArray)×(Int×(((Int×(Int×Int))×(Int×(Int×Int)))×(Int×(Int×(Int×Int)))))))))) fun y50=>
    kx ((e46.1.2.2.2.2.1.1:List (ByteArray×(Bool×(((Int×(Int×Int))×(Int×(Int×Int)))×(Int×(Int×(Int×Int))))))),(y50,(0:Int))),()))))
def iW(a0:(List (ByteArray×(Bool×(((Int×(Int×Int))×(Int×(Int×Int)))×(Int×(Int×(Int×Int))))))))(a1:(List (ByteArray×(Int×((List ByteArray)×(Int×(((Int×(Int×Int))×(Int×(Int×Int)))×(Int×(Int×(Int×Int)))))))))):Option ((List (ByteArray×(Bool×(((Int×(Int×Int))×(Int×(Int×Int)))×(Int×(Int×(Int×Int)))))))×Int×Int):=nW some a0 a1
theorem Jv{R} kx a0 a1: @nW R kx a0 a1=(iW a0 a1).bind kx:=by
 unfold iW nW
 exact ac fun _=>ae rfl (ae rfl (ac fun _=>cq ⟨fun _=>rfl,fun _=>(by dsimp only;exact ac fun _=>rfl),trivial⟩))
abbrev CB:af:=.fx [.val false (.slice (.pair .str (.pair .bool (.pair (.pair (.pair (.int .i64) (.pair (.int .i64) (.int .i64))) (.pair (.int .i64) (.pair (.int .i64) (.int .i64)))) (.pair (.int .i64) (.pair (.int .i64) (.pair (.int .i64) (.int .i64)))))))), .val false (.slice (.pair .str (.pair (.int .i64) (.pair (.slice .str) (.pair (.int .i64) (.pair (.pair (.pair (.int .i64) (.pair (.int .i64) (.int .i64))) (.pair (.int .i64) (.pair (.int .i64) (.int .i64)))) (.pair (.int .i64) (.pair (.int .i64) (.pair (.int .i64) (.int .i64))))))))))] ((List (ByteArray×(Bool×(((Int×(Int×Int))×(Int×(Int×Int)))×(Int×(Int×(Int×Int)))))))×Int×Int) (fun z=>iW z.1 z.2.1) (fun b=>(.tup [⟨false,[(.own (.pair .str (.pair .bool (.pair (.pair (.pair (.int .i64) (.pair (.int .i64) (.int .i64))) (.pair (.int .i64) (.pair (.int .i64) (.int .i64)))) (.pair (.int .i64) (.pair (.int .i64) (.pair (.int .i64) (.int .i64))))))) b.1)]⟩,⟨false,[(.v (.int .i64 b.2.1))]⟩,⟨false,[(.v (.int .i64 b.2.2))]⟩],[]))
theorem KP:ag C0 24 CB:=
 ag.fx (e:=false) (t:=qQ) (.cons EE (.cons nU (.cons KQ (.cons zA (.nil))))) mixed Tryz.func24 (by kernel_rfl) (by kernel_rfl) qU 1 J0 (fun z=>(by kernel_rfl:_=nW (fun b=>some (CB.enc b)) z.1 z.2.1).trans (Jv _ z.1 z.2.1))
def oc:List (FuncId×af):=[(9,tP)]
abbrev cN:LS:=⟨[(false,[(.sl (.pair .str (.pair (.int .i64) (.pair (.slice .str) (.pair (.int .i64) (.pair (.pair (.pair (.int .i64) (.pair (.int .i64) (.int .i64))) (.pair (.int .i64) (.pair (.int .i64) (.int .i64)))) (.pair (.int .i64) (.pair (.int .i64) (.pair (.int .i64) (.int .i64))))))))))]),(false,[(.sl (.pair .str (.pair (.int .i64) (.pair (.slice .str) (.pair (.int .i64) (.pair (.pair (.pair (.int .i64) (.pair (.int .i64) (.int .i64))) (.pair (.int .i64) (.pair (.int .i64) (.int .i64)))) (.pair (.int .i64) (.pair (.int .i64) (.pair (.int .i64) (.int .i64))))))))))]),(false,[(.int .i64)])],[],[]⟩
abbrev uB:LS:=⟨[(false,[.bool])],[],[]⟩
abbrev DF(v0:Bool):=((((v0,()),()),(),()):uB.T)
abbrev uC:LS:=⟨[(false,[.undef])],[],[]⟩
abbrev uy:=(((((),()),()),(),()):uC.T)
abbrev di:List (Ex×LS):=[(.ret,uB),(.exit 0,uC)]
abbrev jq x0 x1(x5:Int):=((((x0,()),(x1,()),(x5,()),()),(),()):cN.T)
def fk{R:Type}(nx:cN.T->Option R)(hx:mA R di)(x0:List (ByteArray×(Int×((List ByteArray)×(Int×(((Int×(Int×Int))×(Int×(Int×Int)))×(Int×(Int×(Int×Int)))))))))(x1:List (ByteArray×(Int×((List ByteArray)×(Int×(((Int×(Int×Int))×(Int×(Int×Int)))×(Int×(Int×(Int×Int)))))))))(x5:Int):Option R:=
 cond (decide (x5<((List.length x0:Nat):Int)))
 (Option.bind (gq x0 x5) fun y56=>
  Option.bind (gq x1 x5) fun y57=>
  Option.bind (ji y56 y57) fun y58=>
  cond (!y58)
  (hx.1 (DF Bool.false))
  (nx (jq x0 x1 (IntKind.wrap .i64 (x5+(1:Int))))))
 (hx.2.1 (uy))
def qL{R:Type}(nx:cN.T->Option R)(hx:mA R di)(z:cN.T):Option R:=fk nx hx z.1.1.1 z.1.2.1.1 z.1.2.2.1.1
theorem uO:cK @qL:=fun R nx hx z=>by
 show fk nx hx z.1.1.1 z.1.2.1.1 z.1.2.2.1.1=(fk (fun y=>some (.inl y)) (oI di fun x=>some (.inr x)) z.1.1.1 z.1.2.1.1 z.1.2.2.1.1).bind (oH nx hx)
 unfold fk
 exact ae (ac fun _=>ac fun _=>ac fun _=>ae rfl rfl) rfl
def fm:cN.T->Option (yH di):=BU @qL
theorem ws x0 x1 x5:fm (jq x0 x1 x5)=fk fm (oI di some) x0 x1 x5:=dR uO _
def lA:bN:=⟨[0,1,5],[],[4],[]⟩
def oi:fq Rv:=⟨fun k=>match k with|5=>lA|_=>⟨[],[],[],[]⟩,fun k=>match k with|5=>some (ce cN di fm)|_=>none⟩
theorem E0(n:Nat)(z:cN.T)(k:Ex->iV->Option Rv):bJ ⟨27,27⟩ lA (mU (gN C0 oc) ⟨27,27⟩ oi 1 (aG Tryz.f25 4)) (n+1) (cN.enc z) k=
 qL (fun y=>bJ ⟨27,27⟩ lA (mU (gN C0 oc) ⟨27,27⟩ oi 1 (aG Tryz.f25 4)) n (cN.enc y) k) (hK k di) z:=by kernel_rfl
theorem Ha:ak (gN C0 oc) ⟨27,27⟩ oi 1 (ca (aX Tryz.f25)):=by
 have hl:ca (aX Tryz.f25)=[aG Tryz.f25 4]:=by kernel_rfl
 rw[hl]
 exact ak.cons (n:=5) (lh:=lA) (S:=ce cN di fm) (by kernel_rfl) rfl rfl (cl uO E0)
  (ak.nil)
def kO{R:Type}(kx:Bool->Option R)(a0:(List (ByteArray×(Int×((List ByteArray)×(Int×(((Int×(Int×Int))×(Int×(Int×Int)))×(Int×(Int×(Int×Int))))))))))(a1:(List (ByteArray×(Int×((List ByteArray)×(Int×(((Int×(Int×Int))×(Int×(Int×Int)))×(Int×(Int×(Int×Int)))))))))):Option R:=
 cond (((List.length a0:Nat):Int) !=((List.length a1:Nat):Int))
 (kx Bool.false)
 (Option.bind (fm (jq a0 a1 (0:Int))) (qi di
  (fun e59=>
   kx (e59.1.1.1:Bool),fun _=>
   kx Bool.true,())))
def kB(a0:(List (ByteArray×(Int×((List ByteArray)×(Int×(((Int×(Int×Int))×(Int×(Int×Int)))×(Int×(Int×(Int×Int))))))))))(a1:(List (ByteArray×(Int×((List ByteArray)×(Int×(((Int×(Int×Int))×(Int×(Int×Int)))×(Int×(Int×(Int×Int)))))))))):Option (Bool):=kO some a0 a1
theorem Gw{R} kx a0 a1: @kO R kx a0 a1=(kB a0 a1).bind kx:=by
 unfold kB kO
 exact ae rfl (cq ⟨fun _=>rfl,fun _=>rfl,trivial⟩)
abbrev zh:af:=.fx [.val false (.slice (.pair .str (.pair (.int .i64) (.pair (.slice .str) (.pair (.int .i64) (.pair (.pair (.pair (.int .i64) (.pair (.int .i64) (.int .i64))) (.pair (.int .i64) (.pair (.int .i64) (.int .i64)))) (.pair (.int .i64) (.pair (.int .i64) (.pair (.int .i64) (.int .i64)))))))))), .val false (.slice (.pair .str (.pair (.int .i64) (.pair (.slice .str) (.pair (.int .i64) (.pair (.pair (.pair (.int .i64) (.pair (.int .i64) (.int .i64))) (.pair (.int .i64) (.pair (.int .i64) (.int .i64)))) (.pair (.int .i64) (.pair (.int .i64) (.pair (.int .i64) (.int .i64))))))))))] (Bool) (fun z=>kB z.1 z.2.1) (fun b=>(.one ⟨false,[(.v (.bool b))]⟩,[]))
theorem HU:ag C0 25 zh:=
 ag.fx (e:=false) (t:=oc) (.cons IK (.nil)) mixed Tryz.func25 (by kernel_rfl) (by kernel_rfl) oi 1 Ha (fun z=>(by kernel_rfl:_=kO (fun b=>some (zh.enc b)) z.1 z.2.1).trans (Gw _ z.1 z.2.1))
end
end Go.Proofs.YtjkljnflaifbhaaGreatDoor
namespace Go.Proofs.YtjkljnflaifbhaaGreatDoor
open Go.Vai Go.RowKit
theorem aeR:(Tryz.prog.info? 30).map (fun i=>(i.zero.isSome,i.size,decide (i.bytes<=1000)))=some (true,14,true):=by kernel_rfl
theorem aeV(n:Nat)(hn:n<=1048576):∃z:Array Value,∀w:World,(Instr.makeSlice 58 (.int .i64 (n:Int)) (.int .i64 (n:Int))).run Tryz.prog w= .ok (.slice (some ⟨w.heap.size,0,none⟩) n n) (w.alloc (.cells (madeCells z (n*14)) 30)):=by
 obtain⟨i,hi,hz⟩:=Option.map_eq_some_iff.1 aeR
 simp only[Prod.mk.injEq,decide_eq_true_eq]at hz
 obtain⟨h1,h2,h3⟩:=hz
 obtain⟨z,hz⟩:=Option.isSome_iff_exists.1 h1
 refine⟨z.cells,fun w=> ?_⟩
 have hb:(i.bytes:Int)*(n:Int)<=281474976710656:=by
  have h:i.bytes*n<=1000*1048576:=Nat.mul_le_mul h3 hn
  have h':((i.bytes*n:Nat):Int)<=281474976710656:=by omega
  rwa [Int.natCast_mul]at h'
 have:=run_make (P:=Tryz.prog) w 58 30 i z Tryz.underlying58 hi hz .i64 .i64 (n:Int) (n:Int) (by omega) (Int.le_refl _) hb (by omega)
 rw[h2,Int.toNat_natCast]at this
 exact this
theorem ada{w wr:World}{I:Nat->Prop}{c:Cn}{vs:List Value}(ha:c.2.2.1.length<=1048576)(hI:∀n,I n->n<w.heap.size)(hT:∀h cs,C0.glob h=some cs->I h/\∃vs e fz,w.heap[h]?=some (.cells vs e fz)/\cs=vs.toList.map .v)(hG:Grown (fun _=>False) w wr)(h:ER I w yC c vs):
 Calls Tryz.prog 16 #[.agg vs.toArray] wr fun e w'=>∃vs S,e= .returned (.agg vs)/\Grown (fun _=>False) wr w'/\OR w' yC c vs.toList S/\S.Nodup/\∀b,b∈S->wr.heap.size<=b:=by
 have h':=hG.er (fun n hn=>⟨hI n hn,id⟩) h
 obtain⟨ms,h1,h2⟩:=abl (fun n hn=>Nat.lt_of_lt_of_le (hI n hn) hG.size) h'
 have hg:jk c=some c:=adb c ha
 exact adt (C:=C0) (I:=I) zC rfl (args:=[.agg vs.toArray]) (vals:=[⟨true,yC.cells c⟩]) (ms:=ms++ []) (sR.cons h2 sR.nil) (by rw[List.append_nil];exact h1) (fun k cs hk=>by
  obtain⟨k1,vs',e,fz,k2,k3⟩:=hT k cs hk
  exact⟨k1,vs',e,fz,by rw[hG.block k (hI k k1) id];exact k2,k3⟩) (x:=c) (ex (ax:=[.val true yC]) (z:=(c,())) (by kernel_rfl) hg) (t:=yC) rfl rfl
set_option maxHeartbeats 3200000 in
set_option maxRecDepth 1000000 in
theorem afl{w:World}{l:List Cn}{v:Value}{I:Nat->Prop}(hI:∀n,I n->n<w.heap.size)(hT:∀h cs,C0.glob h=some cs->I h/\∃vs e fz,w.heap[h]?=some (.cells vs e fz)/\cs=vs.toList.map .v)(h:ER I w (.slice yC) l [v])(hl:l.length<=1048576)(ha:∀c∈l,c.2.2.1.length<=1048576):
 Calls Tryz.prog 23 #[v] w fun e w'=>e= .returned (.slice (some ⟨w.heap.size,0,none⟩) l.length l.length)/\Grown (fun _=>False) w w'/\∃lo arr,tL w' w.heap.size l.length lo yC l arr 30:=by
 obtain⟨A,cap,hv,hcap,hel⟩:=h
 obtain⟨rfl,_⟩:=List.cons.inj hv
 obtain⟨z,hmk⟩:=aeV l.length hl
 have HE:Aside (l=[]\/∃b off cs e fz,A=some ⟨b,off,none⟩/\I b/\w.heap[b]?=some (.cells cs e fz)/\∀(i:Nat) (x:yC.T),l[i]?=some x->ER I w yC x (nS cs (off+i*yC.size) yC.size)):=hel
 have HA:Aside (∀c∈l,c.2.2.1.length<=1048576):=ha
 have HI:Aside (∀n,I n->n<w.heap.size):=hI
 have HT:Aside (∀h cs,C0.glob h=some cs->I h/\∃vs e fz,w.heap[h]?=some (.cells vs e fz)/\cs=vs.toList.map .v):=hT
 clear hel ha hI hv hT
 go_enter Tryz.func23,Tryz.ntmps23
 go_wp2
 go_loopg [4] l.length (fun g s4 wr=>∃(i:Nat) (lo:Nat->Nat) (arr:Array Value),i+g=l.length/\s4= .int .i64 i/\Aside (Grown (fun _=>False) w wr/\tL wr w.heap.size l.length lo yC (l.take i) arr 30))
 case atStart=>
  refine⟨0,fun _=>w.heap.size+1,madeCells z (l.length*14),by omega,rfl, ?_, ?_⟩
  ·exact⟨rfl,rfl,rfl,by simp,fun n hn _=>heap_alloc_old _ _ hn⟩
  ·refine⟨heap_alloc_new w _,by rw[size_madeCells];rfl,by simp,by simp,fun j hj=>by simp at hj,by simp,fun j x hj=>by simp at hj⟩
 case round=>
  obtain⟨i,lo,arr,hig,rfl,HD⟩:=hrel
  cases gk with
  |zero=>
   obtain rfl:i=l.length:=by omega
   have hiz:¬((l.length:Int)<(l.length:Int)):=by omega
   go_wp2
   go_ret
   obtain⟨hG,hD⟩:=HD.out
   rw[List.take_length]at hD
   exact⟨rfl,hG,lo,arr,hD⟩
  |succ g=>
   have hiz:(i:Int)<(l.length:Int):=by omega
   have hi:i<l.length:=by omega
   obtain⟨b,off,cs,e,fz,rfl,hb,hh,hx⟩:=HE.out.resolve_left (fun e=>by rw[e]at hi;cases hi)
   obtain⟨x,hxl⟩:∃x,l[i]?=some x:=⟨l[i],List.getElem?_eq_getElem hi⟩
   have hxe:=hx i x hxl
   have hlen:(nS cs (off+i*yC.size) yC.size).length=14:=hxe.length
   obtain⟨hG,hD⟩:=HD.out
   have hbw:=HI.out b hb
   have hhr:wr.heap[b]?=some (.cells cs e fz):=by rw[hG.block b hbw id];exact hh
   have hload:(Instr.loadAt 43 (.pointer (some ⟨b,off+i*14,none⟩))).run Tryz.prog wr= .ok (.agg (nS cs (off+i*14) 14).toArray) wr:=
    Jc (by kernel_rfl) (by kernel_rfl) hhr hlen
   have eF:∀args w,(callFunc 16 args).run Tryz.prog w= .ok (.enter 16 args) w:=fun args w=>(zC.enters).run args w
   go_wp2_with (first|refine Sh rfl 43 _ rfl rfl hload ?_)
   refine(ada (HA.out x (List.mem_of_getElem? hxl)) HI.out HT.out hG hxe).mono ?_
   rintro e1 w1 ⟨vs,S,rfl,h1,h2,h3,h4⟩
   have hlen:vs.toList.length=14:=h2.length
   have hD1:=hD.push rfl h1 h2 h3 h4 (by rw[List.length_take];omega)
   have hN:w1.heap[w.heap.size]?=some (.cells arr 30 (0,0)):=by
    rw[h1.block _ (Array.getElem?_eq_some_iff.1 hD.heap).1 id];exact hD.heap
   have hti:(l.take i).length=i:=by rw[List.length_take];omega
   have hroom:=hD.room
   have hst:(Instr.storeAt 30 (.pointer (some ⟨w.heap.size,i*14,none⟩)) (.agg vs)).run Tryz.prog w1= .ok () (w1.setRow w.heap.size (Ta arr (i*14) vs.toList)):=by
    have hsz:vs.size=14:=by simpa using hlen
    have hr:i*14+(Value.agg vs).cells.size<=arr.size:=by
     rw[hroom];show i*14+vs.size<=l.length*14;omega
    exact xL (v:=.agg vs) (by rw[show(Value.agg vs).cells.size=14 from hsz];kernel_rfl) hN (.inl hr) (fun y hy=>OR.one h2 y hy)
   go_wp2_with (first|refine Dj rfl 30 _ _ rfl rfl rfl hst ?_)
   rw[show((i:Int)+1)=((i+1:Nat):Int) by omega]
   rw[hti]at hD1
   have htk:l.take (i+1)=l.take i++ [x]:=by rw[List.take_add_one,hxl];rfl
   rw[<-htk]at hD1
   go_roundg g
   case measure=>omega
   case rel=>
    exact⟨i+1,_,_,by omega,rfl,((hG.none.trans h1.none).trans (II w1 w.heap.size _)).fresh (fun n (e:n=w.heap.size)=>.inl (by omega)),hD1⟩
end Go.Proofs.YtjkljnflaifbhaaGreatDoor
