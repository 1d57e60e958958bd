/- No conditions. -/
import Derived.Test.YtjkljnflaifbhaaDoorL2a
namespace Go.Proofs.YtjkljnflaifbhaaDoor
open Go.Vai
set_option maxRecDepth 100000
noncomputable section
def bd{R:Type}(kx:Bool->Option R)(a0:(List Ln)):Option R:=
 Option.bind (bi a0) fun y469=>
 kx (decide (y469>=(0:Int)))
def aP(a0:(List Ln)):Option (Bool):=bd some a0
theorem fE{R} kx a0: @bd R kx a0=(aP a0).bind kx:=by
 unfold aP bd
 exact ac fun _=>rfl
abbrev dq:af:=.fx [.val false (.slice yL), .clo 123 []] (Bool) (fun z=>aP z.1) (fun b=>(.one ⟨false,[(.v (.bool b))]⟩,[]))
theorem fI:ag C0 122 dq:=
 ag.fx (e:=false) (.cons gw (.nil)) mixed Tryd.func122 (by kernel_rfl) (by kernel_rfl) aW 1 aq (fun z=>(by kernel_rfl:_=bd (fun b=>some (dq.enc b)) z.1).trans (fE _ z.1))
def mE{R:Type}(kx:Int->Option R)(a0:Int):Option R:=
 cond (decide (a0>=(4294967296:Int)))
 (cond (decide ((Int.fdiv a0 ((2:Int)^(Min.min (Int.toNat (32:Int)) 64)))>=(65536:Int)))
  (cond (decide ((Int.fdiv (Int.fdiv a0 ((2:Int)^(Min.min (Int.toNat (32:Int)) 64))) ((2:Int)^(Min.min (Int.toNat (16:Int)) 64)))>=(256:Int)))
   (Option.bind (Hl (ByteArray.mk (Array.mk (List.append (List.append [0,1,2,2,3,3,3,3,4,4,4,4,4,4,4,4,5,5,5,5,5,5,5,5,5,5,5,5,5,5,5,5,6,6,6,6,6,6,6,6,6,6,6,6,6,6,6,6,6,6,6,6,6,6,6,6,6,6,6,6,6,6,6,6] [7,7,7,7,7,7,7,7,7,7,7,7,7,7,7,7,7,7,7,7,7,7,7,7,7,7,7,7,7,7,7,7,7,7,7,7,7,7,7,7,7,7,7,7,7,7,7,7,7,7,7,7,7,7,7,7,7,7,7,7,7,7,7,7]) (List.append [8,8,8,8,8,8,8,8,8,8,8,8,8,8,8,8,8,8,8,8,8,8,8,8,8,8,8,8,8,8,8,8,8,8,8,8,8,8,8,8,8,8,8,8,8,8,8,8,8,8,8,8,8,8,8,8,8,8,8,8,8,8,8,8] [8,8,8,8,8,8,8,8,8,8,8,8,8,8,8,8,8,8,8,8,8,8,8,8,8,8,8,8,8,8,8,8,8,8,8,8,8,8,8,8,8,8,8,8,8,8,8,8,8,8,8,8,8,8,8,8,8,8,8,8,8,8,8,8])))) (IntKind.wrap IntKind.u8 (Int.fdiv (Int.fdiv (Int.fdiv a0 ((2:Int)^(Min.min (Int.toNat (32:Int)) 64))) ((2:Int)^(Min.min (Int.toNat (16:Int)) 64))) ((2:Int)^(Min.min (Int.toNat (8:Int)) 64))))) fun y474=>
    kx (IntKind.wrap .i64 ((IntKind.wrap .i64 ((IntKind.wrap .i64 ((32:Int)+(16:Int)))+(8:Int)))+(IntKind.wrap .i64 (((UInt8.toNat y474):Nat):Int)))))
   (Option.bind (Hl (ByteArray.mk (Array.mk (List.append (List.append [0,1,2,2,3,3,3,3,4,4,4,4,4,4,4,4,5,5,5,5,5,5,5,5,5,5,5,5,5,5,5,5,6,6,6,6,6,6,6,6,6,6,6,6,6,6,6,6,6,6,6,6,6,6,6,6,6,6,6,6,6,6,6,6] [7,7,7,7,7,7,7,7,7,7,7,7,7,7,7,7,7,7,7,7,7,7,7,7,7,7,7,7,7,7,7,7,7,7,7,7,7,7,7,7,7,7,7,7,7,7,7,7,7,7,7,7,7,7,7,7,7,7,7,7,7,7,7,7]) (List.append [8,8,8,8,8,8,8,8,8,8,8,8,8,8,8,8,8,8,8,8,8,8,8,8,8,8,8,8,8,8,8,8,8,8,8,8,8,8,8,8,8,8,8,8,8,8,8,8,8,8,8,8,8,8,8,8,8,8,8,8,8,8,8,8] [8,8,8,8,8,8,8,8,8,8,8,8,8,8,8,8,8,8,8,8,8,8,8,8,8,8,8,8,8,8,8,8,8,8,8,8,8,8,8,8,8,8,8,8,8,8,8,8,8,8,8,8,8,8,8,8,8,8,8,8,8,8,8,8])))) (IntKind.wrap IntKind.u8 (Int.fdiv (Int.fdiv a0 ((2:Int)^(Min.min (Int.toNat (32:Int)) 64))) ((2:Int)^(Min.min (Int.toNat (16:Int)) 64))))) fun y475=>
    kx (IntKind.wrap .i64 ((IntKind.wrap .i64 ((32:Int)+(16:Int)))+(IntKind.wrap .i64 (((UInt8.toNat y475):Nat):Int))))))
  (cond (decide ((Int.fdiv a0 ((2:Int)^(Min.min (Int.toNat (32:Int)) 64)))>=(256:Int)))
   (Option.bind (Hl (ByteArray.mk (Array.mk (List.append (List.append [0,1,2,2,3,3,3,3,4,4,4,4,4,4,4,4,5,5,5,5,5,5,5,5,5,5,5,5,5,5,5,5,6,6,6,6,6,6,6,6,6,6,6,6,6,6,6,6,6,6,6,6,6,6,6,6,6,6,6,6,6,6,6,6] [7,7,7,7,7,7,7,7,7,7,7,7,7,7,7,7,7,7,7,7,7,7,7,7,7,7,7,7,7,7,7,7,7,7,7,7,7,7,7,7,7,7,7,7,7,7,7,7,7,7,7,7,7,7,7,7,7,7,7,7,7,7,7,7]) (List.append [8,8,8,8,8,8,8,8,8,8,8,8,8,8,8,8,8,8,8,8,8,8,8,8,8,8,8,8,8,8,8,8,8,8,8,8,8,8,8,8,8,8,8,8,8,8,8,8,8,8,8,8,8,8,8,8,8,8,8,8,8,8,8,8] [8,8,8,8,8,8,8,8,8,8,8,8,8,8,8,8,8,8,8,8,8,8,8,8,8,8,8,8,8,8,8,8,8,8,8,8,8,8,8,8,8,8,8,8,8,8,8,8,8,8,8,8,8,8,8,8,8,8,8,8,8,8,8,8])))) (IntKind.wrap IntKind.u8 (Int.fdiv (Int.fdiv a0 ((2:Int)^(Min.min (Int.toNat (32:Int)) 64))) ((2:Int)^(Min.min (Int.toNat (8:Int)) 64))))) fun y476=>
    kx (IntKind.wrap .i64 ((IntKind.wrap .i64 ((32:Int)+(8:Int)))+(IntKind.wrap .i64 (((UInt8.toNat y476):Nat):Int)))))
   (Option.bind (Hl (ByteArray.mk (Array.mk (List.append (List.append [0,1,2,2,3,3,3,3,4,4,4,4,4,4,4,4,5,5,5,5,5,5,5,5,5,5,5,5,5,5,5,5,6,6,6,6,6,6,6,6,6,6,6,6,6,6,6,6,6,6,6,6,6,6,6,6,6,6,6,6,6,6,6,6] [7,7,7,7,7,7,7,7,7,7,7,7,7,7,7,7,7,7,7,7,7,7,7,7,7,7,7,7,7,7,7,7,7,7,7,7,7,7,7,7,7,7,7,7,7,7,7,7,7,7,7,7,7,7,7,7,7,7,7,7,7,7,7,7]) (List.append [8,8,8,8,8,8,8,8,8,8,8,8,8,8,8,8,8,8,8,8,8,8,8,8,8,8,8,8,8,8,8,8,8,8,8,8,8,8,8,8,8,8,8,8,8,8,8,8,8,8,8,8,8,8,8,8,8,8,8,8,8,8,8,8] [8,8,8,8,8,8,8,8,8,8,8,8,8,8,8,8,8,8,8,8,8,8,8,8,8,8,8,8,8,8,8,8,8,8,8,8,8,8,8,8,8,8,8,8,8,8,8,8,8,8,8,8,8,8,8,8,8,8,8,8,8,8,8,8])))) (IntKind.wrap IntKind.u8 (Int.fdiv a0 ((2:Int)^(Min.min (Int.toNat (32:Int)) 64))))) fun y477=>
    kx (IntKind.wrap .i64 ((32:Int)+(IntKind.wrap .i64 (((UInt8.toNat y477):Nat):Int)))))))
 (cond (decide (a0>=(65536:Int)))
  (cond (decide ((Int.fdiv a0 ((2:Int)^(Min.min (Int.toNat (16:Int)) 64)))>=(256:Int)))
   (Option.bind (Hl (ByteArray.mk (Array.mk (List.append (List.append [0,1,2,2,3,3,3,3,4,4,4,4,4,4,4,4,5,5,5,5,5,5,5,5,5,5,5,5,5,5,5,5,6,6,6,6,6,6,6,6,6,6,6,6,6,6,6,6,6,6,6,6,6,6,6,6,6,6,6,6,6,6,6,6] [7,7,7,7,7,7,7,7,7,7,7,7,7,7,7,7,7,7,7,7,7,7,7,7,7,7,7,7,7,7,7,7,7,7,7,7,7,7,7,7,7,7,7,7,7,7,7,7,7,7,7,7,7,7,7,7,7,7,7,7,7,7,7,7]) (List.append [8,8,8,8,8,8,8,8,8,8,8,8,8,8,8,8,8,8,8,8,8,8,8,8,8,8,8,8,8,8,8,8,8,8,8,8,8,8,8,8,8,8,8,8,8,8,8,8,8,8,8,8,8,8,8,8,8,8,8,8,8,8,8,8] [8,8,8,8,8,8,8,8,8,8,8,8,8,8,8,8,8,8,8,8,8,8,8,8,8,8,8,8,8,8,8,8,8,8,8,8,8,8,8,8,8,8,8,8,8,8,8,8,8,8,8,8,8,8,8,8,8,8,8,8,8,8,8,8])))) (IntKind.wrap IntKind.u8 (Int.fdiv (Int.fdiv a0 ((2:Int)^(Min.min (Int.toNat (16:Int)) 64))) ((2:Int)^(Min.min (Int.toNat (8:Int)) 64))))) fun y478=>
    kx (IntKind.wrap .i64 ((IntKind.wrap .i64 ((IntKind.wrap .i64 ((0:Int)+(16:Int)))+(8:Int)))+(IntKind.wrap .i64 (((UInt8.toNat y478):Nat):Int)))))
   (Option.bind (Hl (ByteArray.mk (Array.mk (List.append (List.append [0,1,2,2,3,3,3,3,4,4,4,4,4,4,4,4,5,5,5,5,5,5,5,5,5,5,5,5,5,5,5,5,6,6,6,6,6,6,6,6,6,6,6,6,6,6,6,6,6,6,6,6,6,6,6,6,6,6,6,6,6,6,6,6] [7,7,7,7,7,7,7,7,7,7,7,7,7,7,7,7,7,7,7,7,7,7,7,7,7,7,7,7,7,7,7,7,7,7,7,7,7,7,7,7,7,7,7,7,7,7,7,7,7,7,7,7,7,7,7,7,7,7,7,7,7,7,7,7]) (List.append [8,8,8,8,8,8,8,8,8,8,8,8,8,8,8,8,8,8,8,8,8,8,8,8,8,8,8,8,8,8,8,8,8,8,8,8,8,8,8,8,8,8,8,8,8,8,8,8,8,8,8,8,8,8,8,8,8,8,8,8,8,8,8,8] [8,8,8,8,8,8,8,8,8,8,8,8,8,8,8,8,8,8,8,8,8,8,8,8,8,8,8,8,8,8,8,8,8,8,8,8,8,8,8,8,8,8,8,8,8,8,8,8,8,8,8,8,8,8,8,8,8,8,8,8,8,8,8,8])))) (IntKind.wrap IntKind.u8 (Int.fdiv a0 ((2:Int)^(Min.min (Int.toNat (16:Int)) 64))))) fun y479=>
    kx (IntKind.wrap .i64 ((IntKind.wrap .i64 ((0:Int)+(16:Int)))+(IntKind.wrap .i64 (((UInt8.toNat y479):Nat):Int))))))
  (cond (decide (a0>=(256:Int)))
   (Option.bind (Hl (ByteArray.mk (Array.mk (List.append (List.append [0,1,2,2,3,3,3,3,4,4,4,4,4,4,4,4,5,5,5,5,5,5,5,5,5,5,5,5,5,5,5,5,6,6,6,6,6,6,6,6,6,6,6,6,6,6,6,6,6,6,6,6,6,6,6,6,6,6,6,6,6,6,6,6] [7,7,7,7,7,7,7,7,7,7,7,7,7,7,7,7,7,7,7,7,7,7,7,7,7,7,7,7,7,7,7,7,7,7,7,7,7,7,7,7,7,7,7,7,7,7,7,7,7,7,7,7,7,7,7,7,7,7,7,7,7,7,7,7]) (List.append [8,8,8,8,8,8,8,8,8,8,8,8,8,8,8,8,8,8,8,8,8,8,8,8,8,8,8,8,8,8,8,8,8,8,8,8,8,8,8,8,8,8,8,8,8,8,8,8,8,8,8,8,8,8,8,8,8,8,8,8,8,8,8,8] [8,8,8,8,8,8,8,8,8,8,8,8,8,8,8,8,8,8,8,8,8,8,8,8,8,8,8,8,8,8,8,8,8,8,8,8,8,8,8,8,8,8,8,8,8,8,8,8,8,8,8,8,8,8,8,8,8,8,8,8,8,8,8,8])))) (IntKind.wrap IntKind.u8 (Int.fdiv a0 ((2:Int)^(Min.min (Int.toNat (8:Int)) 64))))) fun y480=>
    kx (IntKind.wrap .i64 ((IntKind.wrap .i64 ((0:Int)+(8:Int)))+(IntKind.wrap .i64 (((UInt8.toNat y480):Nat):Int)))))
   (Option.bind (Hl (ByteArray.mk (Array.mk (List.append (List.append [0,1,2,2,3,3,3,3,4,4,4,4,4,4,4,4,5,5,5,5,5,5,5,5,5,5,5,5,5,5,5,5,6,6,6,6,6,6,6,6,6,6,6,6,6,6,6,6,6,6,6,6,6,6,6,6,6,6,6,6,6,6,6,6] [7,7,7,7,7,7,7,7,7,7,7,7,7,7,7,7,7,7,7,7,7,7,7,7,7,7,7,7,7,7,7,7,7,7,7,7,7,7,7,7,7,7,7,7,7,7,7,7,7,7,7,7,7,7,7,7,7,7,7,7,7,7,7,7]) (List.append [8,8,8,8,8,8,8,8,8,8,8,8,8,8,8,8,8,8,8,8,8,8,8,8,8,8,8,8,8,8,8,8,8,8,8,8,8,8,8,8,8,8,8,8,8,8,8,8,8,8,8,8,8,8,8,8,8,8,8,8,8,8,8,8] [8,8,8,8,8,8,8,8,8,8,8,8,8,8,8,8,8,8,8,8,8,8,8,8,8,8,8,8,8,8,8,8,8,8,8,8,8,8,8,8,8,8,8,8,8,8,8,8,8,8,8,8,8,8,8,8,8,8,8,8,8,8,8,8])))) (IntKind.wrap IntKind.u8 a0)) fun y481=>
    kx (IntKind.wrap .i64 ((0:Int)+(IntKind.wrap .i64 (((UInt8.toNat y481):Nat):Int)))))))
def mu(a0:Int):Option (Int):=mE some a0
theorem zW{R} kx a0: @mE R kx a0=(mu a0).bind kx:=by
 unfold mu mE
 exact ae (ae (ae (ac fun _=>rfl) (ac fun _=>rfl)) (ae (ac fun _=>rfl) (ac fun _=>rfl))) (ae (ae (ac fun _=>rfl) (ac fun _=>rfl)) (ae (ac fun _=>rfl) (ac fun _=>rfl)))
abbrev ve:af:=.fx [.val false (.int .u64)] (Int) (fun z=>mu z.1) (fun b=>(.one ⟨false,[(.v (.int .i64 b))]⟩,[]))
theorem Bo:ag C0 179 ve:=
 ag.fx (e:=false) (.nil) mixed Tryd.func179 (by kernel_rfl) (by kernel_rfl) aW 1 aq (fun z=>(by kernel_rfl:_=mE (fun b=>some (ve.enc b)) z.1).trans (zW _ z.1))
def pi{R:Type}(kx:Int->Option R)(a0:Int):Option R:=
 Option.bind (mu a0) fun y482=>
 kx y482
def lL(a0:Int):Option (Int):=pi some a0
theorem Ci{R} kx a0: @pi R kx a0=(lL a0).bind kx:=by
 unfold lL pi
 exact ac fun _=>rfl
abbrev xA:af:=.fx [.val false (.int .u64)] (Int) (fun z=>lL z.1) (fun b=>(.one ⟨false,[(.v (.int .i64 b))]⟩,[]))
theorem DF:ag C0 158 xA:=
 ag.fx (e:=false) (.cons Bo (.nil)) mixed Tryd.func158 (by kernel_rfl) (by kernel_rfl) aW 1 aq (fun z=>(by kernel_rfl:_=pi (fun b=>some (xA.enc b)) z.1).trans (Ci _ z.1))
def iH{R:Type}(kx:Bool->Option R)(a0:Int):Option R:=
 kx (a0 !=a0)
def fL(a0:Int):Option (Bool):=iH some a0
theorem zQ{R} kx a0: @iH R kx a0=(fL a0).bind kx:=by
 unfold fL iH
 exact rfl
abbrev uY:af:=.fx [.val false (.int .i64)] (Bool) (fun z=>fL z.1) (fun b=>(.one ⟨false,[(.v (.bool b))]⟩,[]))
theorem Bl:ag C0 159 uY:=
 ag.fx (e:=false) (.nil) mixed Tryd.func159 (by kernel_rfl) (by kernel_rfl) aW 1 aq (fun z=>(by kernel_rfl:_=iH (fun b=>some (uY.enc b)) z.1).trans (zQ _ z.1))
def ja{R:Type}(kx:Int->Option R)(a0:Int)(a1:Int):Option R:=
 Option.bind (fL a0) fun y516=>
 Option.bind (fL a1) fun y517=>
 cond y516
 (cond y517
  (kx (0:Int))
  (kx (-(1:Int))))
 (cond y517
  (kx (1:Int))
  (cond (decide (a0<a1))
   (kx (-(1:Int)))
   (cond (decide (a0>a1))
    (kx (1:Int))
    (kx (0:Int)))))
def fZ(a0:Int)(a1:Int):Option (Int):=ja some a0 a1
theorem xQ{R} kx a0 a1: @ja R kx a0 a1=(fZ a0 a1).bind kx:=by
 unfold fZ ja
 exact ac fun _=>ac fun _=>ae (ae rfl rfl) (ae rfl (ae rfl (ae rfl rfl)))
abbrev sT:af:=.fx [.val false (.int .i64), .val false (.int .i64)] (Int) (fun z=>fZ z.1 z.2.1) (fun b=>(.one ⟨false,[(.v (.int .i64 b))]⟩,[]))
theorem zd:ag C0 127 sT:=
 ag.fx (e:=false) (.cons Bl (.nil)) mixed Tryd.func127 (by kernel_rfl) (by kernel_rfl) aW 1 aq (fun z=>(by kernel_rfl:_=ja (fun b=>some (sT.enc b)) z.1 z.2.1).trans (xQ _ z.1 z.2.1))
def jD{R:Type}(kx:Int->Option R)(a0:Nm)(a1:Nm):Option R:=
 Option.bind (bS a0 a1) fun y521=>
 Option.bind (dk y521) fun y522=>
 kx y522
def gJ(a0:Nm)(a1:Nm):Option (Int):=jD some a0 a1
theorem yQ{R} kx a0 a1: @jD R kx a0 a1=(gJ a0 a1).bind kx:=by
 unfold gJ jD
 exact ac fun _=>ac fun _=>rfl
abbrev ud:af:=.fx [.val true yN, .val true yN] (Int) (fun z=>gJ z.1 z.2.1) (fun b=>(.one ⟨false,[(.v (.int .i64 b))]⟩,[]))
theorem Ad:ag C0 128 ud:=
 ag.fx (e:=false) (.cons fU (.cons rh (.nil))) mixed Tryd.func128 (by kernel_rfl) (by kernel_rfl) aW 1 aq (fun z=>(by kernel_rfl:_=jD (fun b=>some (ud.enc b)) z.1 z.2.1).trans (yQ _ z.1 z.2.1))
def ta:List (FuncId×af):=[]
abbrev eY:LS:=⟨[(false,[(.int .i64)]),(false,[(.sl (.int .i64))]),(false,[(.int .i64)]),(false,[(.int .i64)])],[],[]⟩
abbrev wc:LS:=⟨[(false,[(.int .i64)]),(false,[(.int .i64)])],[],[]⟩
abbrev C7(v0:Int)(v1:Int):=((((v0,()),(v1,()),()),(),()):wc.T)
abbrev we:LS:=⟨[(false,[.undef]),(false,[(.int .i64)])],[],[]⟩
abbrev C8(v0:Int):=(((((),()),(v0,()),()),(),()):we.T)
abbrev fY:List (Ex×LS):=[(.ret,wc),(.exit 0,we)]
abbrev ug(x3:Int)(x6:List Int)(x7:Int)(x8:Int):=((((x3,()),(x6,()),(x7,()),(x8,()),()),(),()):eY.T)
def lg{R:Type}(nx:eY.T->Option R)(hx:mJ R fY)(x3:Int)(x6:List Int)(x7:Int)(x8:Int):Option R:=
 cond (decide (x8<x7))
 (Option.bind (xd x6 x8) fun y529=>
  cond (y529 !=x3)
  (hx.1 (C7 y529 x3))
  (nx (ug x3 x6 x7 (IntKind.wrap .i64 (x8+(1:Int))))))
 (hx.2.1 (C8 x3))
def uy{R:Type}(nx:eY.T->Option R)(hx:mJ R fY)(z:eY.T):Option R:=lg nx hx z.1.1.1 z.1.2.1.1 z.1.2.2.1.1 z.1.2.2.2.1.1
theorem wt:fe @uy:=fun R nx hx z=>by
 show lg nx hx z.1.1.1 z.1.2.1.1 z.1.2.2.1.1 z.1.2.2.2.1.1=(lg (fun y=>some (.inl y)) (sj fY fun x=>some (.inr x)) z.1.1.1 z.1.2.1.1 z.1.2.2.1.1 z.1.2.2.2.1.1).bind (rV nx hx)
 unfold lg
 exact ae (ac fun _=>ae rfl rfl) rfl
def nc:eY.T->Option (wO fY):=Bt @uy
theorem E0 x3 x6 x7 x8:nc (ug x3 x6 x7 x8)=lg nc (sj fY some) x3 x6 x7 x8:=jL wt _
def oW:eo:=⟨[3,6,7,8],[],[2,3],[]⟩
def tf:kF Rv:=⟨fun k=>match k with|4=>oW|_=>⟨[],[],[],[]⟩,fun k=>match k with|4=>some (ie eY fY nc)|_=>none⟩
theorem EY(n:Nat)(z:eY.T)(k:Ex->kp->Option Rv):dG ⟨18,18⟩ oW (uO (pL C0 ta) ⟨18,18⟩ tf 1 (cP Tryd.f126 3)) (n+1) (eY.enc z) k=
 uy (fun y=>dG ⟨18,18⟩ oW (uO (pL C0 ta) ⟨18,18⟩ tf 1 (cP Tryd.f126 3)) n (eY.enc y) k) (hK k fY) z:=by kernel_rfl
theorem Hk:bP (pL C0 ta) ⟨18,18⟩ tf 1 (fF (dl Tryd.f126)):=by
 have hl:fF (dl Tryd.f126)=[cP Tryd.f126 3]:=by kernel_rfl
 rw[hl]
 exact bP.cons (n:=4) (lh:=oW) (S:=ie eY fY nc) (by kernel_rfl) rfl rfl (iX wt EY)
  (bP.nil)
def qz{R:Type}(kx:Int->Option R)(a0:(List Int)):Option R:=
 Option.bind (nc (ug (0:Int) a0 ((List.length a0:Nat):Int) (0:Int))) (jP fY
 (fun e530=>
  kx (e530.1.1.1:Int),fun e533=>
  kx (e533.1.2.1.1:Int),()))
def qg(a0:(List Int)):Option (Int):=qz some a0
theorem Gk{R} kx a0: @qz R kx a0=(qg a0).bind kx:=by
 unfold qg qz
 exact bh ⟨fun _=>rfl,fun _=>rfl,trivial⟩
abbrev BY:af:=.fx [.val false (.slice (.int .i64))] (Int) (fun z=>qg z.1) (fun b=>(.one ⟨false,[(.v (.int .i64 b))]⟩,[]))
theorem Hu:ag C0 126 BY:=
 ag.fx (e:=false) (t:=ta) (.nil) mixed Tryd.func126 (by kernel_rfl) (by kernel_rfl) tf 1 Hk (fun z=>(by kernel_rfl:_=qz (fun b=>some (BY.enc b)) z.1).trans (Gk _ z.1))
def iq{R:Type}(kx:Int->Option R)(a0:Ln)(a1:Ln):Option R:=
 Option.bind (fZ a0.1 a1.1) fun y518=>
 Option.bind (gJ a0.2 a1.2) fun y523=>
 Option.bind (qg [y518,y523]) fun y535=>
 kx y535
def fp(a0:Ln)(a1:Ln):Option (Int):=iq some a0 a1
theorem xl{R} kx a0 a1: @iq R kx a0 a1=(fp a0 a1).bind kx:=by
 unfold fp iq
 exact ac fun _=>ac fun _=>ac fun _=>rfl
abbrev mS:af:=.fx [.val true yL, .val true yL] (Int) (fun z=>fp z.1 z.2.1) (fun b=>(.one ⟨false,[(.v (.int .i64 b))]⟩,[]))
theorem yc:ag C0 125 mS:=
 ag.fx (e:=false) (.cons zd (.cons Ad (.cons Hu (.nil)))) mixed Tryd.func125 (by kernel_rfl) (by kernel_rfl) aW 1 aq (fun z=>(by kernel_rfl:_=iq (fun b=>some (mS.enc b)) z.1 z.2.1).trans (xl _ z.1 z.2.1))
def aR:List (FuncId×af):=[(125,mS)]
abbrev al:LS:=⟨[(false,[(.view (.arg 0) true 0 yL)]),(false,[(.int .i64)]),(false,[(.int .i64)]),(false,[(.fn 125 [])]),(false,[(.int .i64)]),(false,[(.int .i64)])],[],[(.own yL)]⟩
abbrev de:LS:=⟨[(false,[(.view (.arg 0) true 0 yL)]),(false,[(.int .i64)]),(false,[(.int .i64)]),(false,[(.fn 125 [])]),(false,[(.int .i64)])],[],[(.own yL)]⟩
abbrev cY v0(v1:Int)(v2:Int)(v3:Int) v4:=((((v0,()),(v1,()),(v2,()),((),()),(v3,()),()),(),(v4,())):de.T)
abbrev au:List (Ex×LS):=[(.exit 2,de)]
abbrev cj x0(x1:Int)(x2:Int)(x8:Int)(x9:Int) o:=((((x0,()),(x1,()),(x2,()),((),()),(x8,()),(x9,()),()),(),(o,())):al.T)
def aA{R:Type}(nx:al.T->Option R)(hx:mJ R au)(x0:List Ln)(x1:Int)(x2:Int)(x8:Int)(x9:Int)(o:List Ln):Option R:=
 cond (decide (x9>x1))
 (Option.bind (xd x0 x9) fun y509=>
  Option.bind (xd x0 (IntKind.wrap .i64 (x9-(1:Int)))) fun y510=>
  Option.bind (fp y509 y510) fun y536=>
  cond (decide (y536<(0:Int)))
  (Option.bind (xd x0 (IntKind.wrap .i64 (x9-(1:Int)))) fun y537=>
   Option.bind (xd x0 x9) fun y538=>
   Option.bind (xd x0 x9) fun _=>
   Option.bind (xd (List.set x0 (0+(Int.toNat x9)) y537) (IntKind.wrap .i64 (x9-(1:Int)))) fun _=>
   nx (cj (List.set (List.set x0 (0+(Int.toNat x9)) y537) (0+(Int.toNat (IntKind.wrap .i64 (x9-(1:Int))))) y538) x1 x2 x8 (IntKind.wrap .i64 (x9-(1:Int))) (List.set (List.set o (0+(Int.toNat x9)) y537) (0+(Int.toNat (IntKind.wrap .i64 (x9-(1:Int))))) y538)))
  (hx.1 (cY x0 x1 x2 x8 o)))
 (hx.1 (cY x0 x1 x2 x8 o))
def cm{R:Type}(nx:al.T->Option R)(hx:mJ R au)(z:al.T):Option R:=aA nx hx z.1.1.1 z.1.2.1.1 z.1.2.2.1.1 z.1.2.2.2.2.1.1 z.1.2.2.2.2.2.1.1 z.2.2.1
theorem dh:fe @cm:=fun R nx hx z=>by
 show aA nx hx z.1.1.1 z.1.2.1.1 z.1.2.2.1.1 z.1.2.2.2.2.1.1 z.1.2.2.2.2.2.1.1 z.2.2.1=(aA (fun y=>some (.inl y)) (sj au fun x=>some (.inr x)) z.1.1.1 z.1.2.1.1 z.1.2.2.1.1 z.1.2.2.2.2.1.1 z.1.2.2.2.2.2.1.1 z.2.2.1).bind (rV nx hx)
 unfold aA
 exact ae (ac fun _=>ac fun _=>ac fun _=>ae (ac fun _=>ac fun _=>ac fun _=>ac fun _=>rfl) rfl) rfl
def bg:al.T->Option (wO au):=Bt @cm
theorem ch x0 x1 x2 x8 x9 o:bg (cj x0 x1 x2 x8 x9 o)=aA bg (sj au some) x0 x1 x2 x8 x9 o:=jL dh _
def bE:eo:=⟨[0,1,2,3,8,9],[],[0,1,2,3,8],[]⟩
abbrev ak:LS:=⟨[(false,[(.view (.arg 0) true 0 yL)]),(false,[(.int .i64)]),(false,[(.int .i64)]),(false,[(.fn 125 [])]),(false,[(.int .i64)])],[],[(.own yL)]⟩
abbrev dd:LS:=⟨[],[],[(.own yL)]⟩
abbrev cc v0:=(((),(),(v0,())):dd.T)
abbrev ar:List (Ex×LS):=[(.exit 0,dd)]
abbrev az x0(x1:Int)(x2:Int)(x8:Int) o:=((((x0,()),(x1,()),(x2,()),((),()),(x8,()),()),(),(o,())):ak.T)
def am{R:Type}(nx:ak.T->Option R)(hx:mJ R ar)(x0:List Ln)(x1:Int)(x2:Int)(x8:Int)(o:List Ln):Option R:=
 cond (decide (x8<x2))
 (Option.bind (bg (cj x0 x1 x2 x8 x8 o)) (jP au
  (fun e541=>
   nx (az (e541.1.1.1:List Ln) (e541.1.2.1.1:Int) (e541.1.2.2.1.1:Int) (IntKind.wrap .i64 ((e541.1.2.2.2.2.1.1:Int)+(1:Int))) (e541.2.2.1:List Ln)),())))
 (hx.1 (cc o))
def cl{R:Type}(nx:ak.T->Option R)(hx:mJ R ar)(z:ak.T):Option R:=am nx hx z.1.1.1 z.1.2.1.1 z.1.2.2.1.1 z.1.2.2.2.2.1.1 z.2.2.1
theorem dg:fe @cl:=fun R nx hx z=>by
 show am nx hx z.1.1.1 z.1.2.1.1 z.1.2.2.1.1 z.1.2.2.2.2.1.1 z.2.2.1=(am (fun y=>some (.inl y)) (sj ar fun x=>some (.inr x)) z.1.1.1 z.1.2.1.1 z.1.2.2.1.1 z.1.2.2.2.2.1.1 z.2.2.1).bind (rV nx hx)
 unfold am
 exact ae (bh ⟨fun _=>rfl,trivial⟩) rfl
def an:ak.T->Option (wO ar):=Bt @cl
theorem be x0 x1 x2 x8 o:an (az x0 x1 x2 x8 o)=am an (sj ar some) x0 x1 x2 x8 o:=jL dg _
def bD:eo:=⟨[0,1,2,3,8],[],[],[]⟩
def aT:kF Rv:=⟨fun k=>match k with|5=>bE|2=>bD|_=>⟨[],[],[],[]⟩,fun k=>match k with|5=>some (ie al au bg)|2=>some (ie ak ar an)|_=>none⟩
theorem fX(n:Nat)(z:al.T)(k:Ex->kp->Option Rv):dG ⟨53,53⟩ bE (uO (pL C0 aR) ⟨53,53⟩ aT 1 (cP Tryd.f170 4)) (n+1) (al.enc z) k=
 cm (fun y=>dG ⟨53,53⟩ bE (uO (pL C0 aR) ⟨53,53⟩ aT 1 (cP Tryd.f170 4)) n (al.enc y) k) (hK k au) z:=by kernel_rfl
theorem fW(n:Nat)(z:ak.T)(k:Ex->kp->Option Rv):dG ⟨53,53⟩ bD (uO (pL C0 aR) ⟨53,53⟩ aT 1 (cP Tryd.f170 1)) (n+1) (ak.enc z) k=
 cl (fun y=>dG ⟨53,53⟩ bD (uO (pL C0 aR) ⟨53,53⟩ aT 1 (cP Tryd.f170 1)) n (ak.enc y) k) (hK k ar) z:=by kernel_rfl
theorem gr:bP (pL C0 aR) ⟨53,53⟩ aT 1 (fF (dl Tryd.f170)):=by
 have hl:fF (dl Tryd.f170)=[cP Tryd.f170 1,cP Tryd.f170 4]:=by kernel_rfl
 rw[hl]
 exact bP.cons (n:=2) (lh:=bD) (S:=ie ak ar an) (by kernel_rfl) rfl rfl (iX dg fW)
  (bP.cons (n:=5) (lh:=bE) (S:=ie al au bg) (by kernel_rfl) rfl rfl (iX dh fX)
  (bP.nil))
def bn{R:Type}(kx:(List Ln)->Option R)(a0:List Ln)(a1:Int)(a2:Int):Option R:=
 Option.bind (an (az a0 a1 a2 (IntKind.wrap .i64 (a1+(1:Int))) a0)) (jP ar
 (fun e547=>
  kx (e547.2.2.1:List Ln),()))
def aS(a0:List Ln)(a1:Int)(a2:Int):Option ((List Ln)):=bn some a0 a1 a2
theorem gh{R} kx a0 a1 a2: @bn R kx a0 a1 a2=(aS a0 a1 a2).bind kx:=by
 unfold aS bn
 exact bh ⟨fun _=>rfl,trivial⟩
abbrev cn:af:=.fx [.io yL, .val false (.int .i64), .val false (.int .i64), .clo 125 []] ((List Ln)) (fun z=>aS z.1 z.2.1 z.2.2.1) (fun b=>(.tup [],[(.own yL b)]))
theorem gx:ag C0 170 cn:=
 ag.fx (e:=false) (t:=aR) (.cons yc (.nil)) mixed Tryd.func170 (by kernel_rfl) (by kernel_rfl) aT 1 gr (fun z=>(by kernel_rfl:_=bn (fun b=>some (cn.enc b)) z.1 z.2.1 z.2.2.1).trans (gh _ z.1 z.2.1 z.2.2.1))
def bW:List (FuncId×af):=[(170,cn)]
abbrev aw:LS:=⟨[(false,[(.view (.arg 0) true 0 yL)]),(false,[(.int .i64)]),(false,[(.int .i64)]),(false,[(.int .i64)]),(false,[(.fn 125 [])]),(false,[.bool]),(false,[.bool])],[],[(.own yL)]⟩
abbrev dE:LS:=⟨[],[],[(.own yL)]⟩
abbrev gV v0:=(((),(),(v0,())):dE.T)
abbrev aB:List (Ex×LS):=[(.ret,dE)]
abbrev dS x0(x1:Int)(x2:Int)(x3:Int)(x10:Bool)(x11:Bool) o:=((((x0,()),(x1,()),(x2,()),(x3,()),((),()),(x10,()),(x11,()),()),(),(o,())):aw.T)
def bc{R:Type}(_nx:aw.T->Option R)(hx:mJ R aB)(x0:List Ln)(x1:Int)(x2:Int)(x3:Int)(x10:Bool)(_x11:Bool)(o:List Ln):Option R:=
 cond (decide ((IntKind.wrap .i64 (x2-x1))<=(12:Int)))
 (cond (decide ((List.length o)=(List.length x0)))
  (Option.bind (aS x0 x1 x2) fun y549=>
   cond (decide ((List.length x0)=(List.length x0)))
   (cond (decide ((List.length x0)=(List.length x0)))
    (hx.1 (gV y549))
    none)
   none)
  none)
 (cond (x3==(0:Int))
  none
  (cond (!x10)
   none
   none))
def cD{R:Type}(nx:aw.T->Option R)(hx:mJ R aB)(z:aw.T):Option R:=bc nx hx z.1.1.1 z.1.2.1.1 z.1.2.2.1.1 z.1.2.2.2.1.1 z.1.2.2.2.2.2.1.1 z.1.2.2.2.2.2.2.1.1 z.2.2.1
theorem dH:fe @cD:=fun R nx hx z=>by
 show bc nx hx z.1.1.1 z.1.2.1.1 z.1.2.2.1.1 z.1.2.2.2.1.1 z.1.2.2.2.2.2.1.1 z.1.2.2.2.2.2.2.1.1 z.2.2.1=(bc (fun y=>some (.inl y)) (sj aB fun x=>some (.inr x)) z.1.1.1 z.1.2.1.1 z.1.2.2.1.1 z.1.2.2.2.1.1 z.1.2.2.2.2.2.1.1 z.1.2.2.2.2.2.2.1.1 z.2.2.1).bind (rV nx hx)
 unfold bc
 exact ae (ae (ac fun _=>ae (ae rfl rfl) rfl) rfl) (ae rfl (ae rfl rfl))
def bw:aw.T->Option (wO aB):=Bt @cD
theorem it x0 x1 x2 x3 x10 x11 o:bw (dS x0 x1 x2 x3 x10 x11 o)=bc bw (sj aB some) x0 x1 x2 x3 x10 x11 o:=jL dH _
def bR:eo:=⟨[0,1,2,3,4,10,11],[],[],[]⟩
def bY:kF Rv:=⟨fun k=>match k with|3=>bR|_=>⟨[],[],[],[]⟩,fun k=>match k with|3=>some (ie aw aB bw)|_=>none⟩
theorem ii(n:Nat)(z:aw.T)(k:Ex->kp->Option Rv):dG ⟨148,148⟩ bR (uO (pL C0 bW) ⟨148,148⟩ bY 1 (cP Tryd.f157 2)) (n+1) (aw.enc z) k=
 cD (fun y=>dG ⟨148,148⟩ bR (uO (pL C0 bW) ⟨148,148⟩ bY 1 (cP Tryd.f157 2)) n (aw.enc y) k) (hK k aB) z:=by kernel_rfl
theorem iN:bP (pL C0 bW) ⟨148,148⟩ bY 1 (fF (dl Tryd.f157)):=by
 have hl:fF (dl Tryd.f157)=[cP Tryd.f157 2]:=by kernel_rfl
 rw[hl]
 exact bP.cons (n:=3) (lh:=bR) (S:=ie aw aB bw) (by kernel_rfl) rfl rfl (iX dH ii)
  (bP.nil)
def bB{R:Type}(kx:(List Ln)->Option R)(a0:List Ln)(a1:Int)(a2:Int)(a3:Int):Option R:=
 Option.bind (bw (dS a0 a1 a2 a3 Bool.true Bool.true a0)) (jP aB
 (fun e550=>
  kx (e550.2.2.1:List Ln),()))
def bA(a0:List Ln)(a1:Int)(a2:Int)(a3:Int):Option ((List Ln)):=bB some a0 a1 a2 a3
theorem iu{R} kx a0 a1 a2 a3: @bB R kx a0 a1 a2 a3=(bA a0 a1 a2 a3).bind kx:=by
 unfold bA bB
 exact bh ⟨fun _=>rfl,trivial⟩
abbrev eg:af:=.fx [.io yL, .val false (.int .i64), .val false (.int .i64), .val false (.int .i64), .clo 125 []] ((List Ln)) (fun z=>bA z.1 z.2.1 z.2.2.1 z.2.2.2.1) (fun b=>(.tup [],[(.own yL b)]))
theorem iO:ag C0 157 eg:=
 ag.fx (e:=false) (t:=bW) (.cons gx (.nil)) mixed Tryd.func157 (by kernel_rfl) (by kernel_rfl) bY 1 iN (fun z=>(by kernel_rfl:_=bB (fun b=>some (eg.enc b)) z.1 z.2.1 z.2.2.1 z.2.2.2.1).trans (iu _ z.1 z.2.1 z.2.2.1 z.2.2.2.1))
def bu{R:Type}(kx:(List Ln)->Option R)(a0:List Ln):Option R:=
 Option.bind (lL (IntKind.wrap IntKind.u64 ((List.length a0:Nat):Int))) fun y483=>
 cond (decide ((List.length a0)=(List.length a0)))
 (Option.bind (bA a0 (0:Int) ((List.length a0:Nat):Int) y483) fun y552=>
  cond (decide ((List.length a0)=(List.length a0)))
  (cond (decide ((List.length a0)=(List.length a0)))
   (cond (decide ((List.length a0)=(List.length a0)))
    (kx y552)
    none)
   none)
  none)
 none
def aU(a0:List Ln):Option ((List Ln)):=bu some a0
theorem gv{R} kx a0: @bu R kx a0=(aU a0).bind kx:=by
 unfold aU bu
 exact ac fun _=>ae (ac fun _=>ae (ae (ae rfl rfl) rfl) rfl) rfl
abbrev dB:af:=.fx [.io yL, .clo 125 []] ((List Ln)) (fun z=>aU z.1) (fun b=>(.tup [],[(.own yL b)]))
theorem gD:ag C0 124 dB:=
 ag.fx (e:=false) (.cons DF (.cons iO (.nil))) mixed Tryd.func124 (by kernel_rfl) (by kernel_rfl) aW 1 aq (fun z=>(by kernel_rfl:_=bu (fun b=>some (dB.enc b)) z.1).trans (gv _ z.1))
def gQ{R:Type}(kx:(List Ln)×Int->Option R)(a0:List Ln):Option R:=
 Option.bind (aP a0) fun y470=>
 cond y470
 (kx ([],(2:Int)))
 (cond (decide ((List.length a0)=(List.length a0)))
  (Option.bind (aU a0) fun y553=>
   cond (decide ((List.length a0)=(List.length a0)))
   (cond (decide ((List.length a0)=(List.length a0)))
    (cond (decide ((List.length a0)=(List.length a0)))
     (kx (y553,(0:Int)))
     none)
    none)
   none)
  none)
def ce(a0:List Ln):Option ((List Ln)×Int):=gQ some a0
theorem yV{R} kx a0: @gQ R kx a0=(ce a0).bind kx:=by
 unfold ce gQ
 exact ac fun _=>ae rfl (ae (ac fun _=>ae (ae (ae rfl rfl) rfl) rfl) rfl)
abbrev lw:af:=.fx [.io yL] ((List Ln)×Int) (fun z=>ce z.1) (fun b=>(.tup [⟨false,[(.own yL b.1)]⟩,⟨false,[(.v (.int .i64 b.2))]⟩],[.undef]))
theorem nO:ag C0 75 lw:=
 ag.fxTake (e:=false) (.cons fI (.cons gD (.nil))) mixed Tryd.func75 (by kernel_rfl) (by kernel_rfl) aW 1 aq (fun z=>(by kernel_rfl:_=gQ (fun b=>some (lw.enc b)) z.1).trans (yV _ z.1))
def kT{R:Type}(kx:Pt×Bool->Option R)(a0:Ln)(a1:Ln):Option R:=
 Option.bind (bH a0) fun y557=>
 Option.bind (bH a1) fun y558=>
 Option.bind (ey y557 y558) fun y559=>
 Option.bind (bZ a0.2 y558.2) fun y560=>
 Option.bind (bZ a1.2 y557.2) fun y561=>
 Option.bind (bS y560 y561) fun y562=>
 Option.bind (dU y562 y559) fun y563=>
 Option.bind (bZ a1.2 y557.1) fun y564=>
 Option.bind (bZ a0.2 y558.1) fun y565=>
 Option.bind (bS y564 y565) fun y566=>
 Option.bind (dU y566 y559) fun y567=>
 cond y563.2
 (kx ((y563.1,y567.1),y567.2))
 (kx ((y563.1,y567.1),Bool.false))
def gI(a0:Ln)(a1:Ln):Option (Pt×Bool):=kT some a0 a1
theorem A5{R} kx a0 a1: @kT R kx a0 a1=(gI a0 a1).bind kx:=by
 unfold gI kT
 exact ac fun _=>ac fun _=>ac fun _=>ac fun _=>ac fun _=>ac fun _=>ac fun _=>ac fun _=>ac fun _=>ac fun _=>ac fun _=>ae rfl rfl
abbrev wl:af:=.fx [.val true yL, .val true yL] (Pt×Bool) (fun z=>gI z.1 z.2.1) (fun b=>(.tup [⟨true,[(.v (.int .i64 b.1.1.1)),(.v (.int .i64 b.1.1.2.1)),(.v (.int .i64 b.1.1.2.2)),(.v (.int .i64 b.1.2.1)),(.v (.int .i64 b.1.2.2.1)),(.v (.int .i64 b.1.2.2.2))]⟩,⟨false,[(.v (.bool b.2))]⟩],[]))
theorem CG:ag C0 78 wl:=
 ag.fx (e:=false) (.cons gd (.cons sX (.cons iF (.cons fU (.cons nw (.nil)))))) mixed Tryd.func78 (by kernel_rfl) (by kernel_rfl) aW 1 aq (fun z=>(by kernel_rfl:_=kT (fun b=>some (wl.enc b)) z.1 z.2.1).trans (A5 _ z.1 z.2.1))
def kR{R:Type}(kx:(List Ln)×Int->Option R)(a0:Ln)(a1:Ln):Option R:=
 Option.bind (aX a0) fun y452=>
 cond (!y452)
 (kx ([],(1:Int)))
 (Option.bind (aX a1) fun y453=>
  cond (!y453)
  (kx ([],(1:Int)))
  (cond ((a0.1==a1.1)&&(((a0.2.1==a1.2.1)&&((a0.2.2.1==a1.2.2.1)&&((a0.2.2.2==a1.2.2.2)&&Bool.true)))&&Bool.true))
   (kx ([],(7:Int)))
   (cond ((Int.tmod (IntKind.wrap .i64 (a0.1+a1.1)) (2:Int))==(1:Int))
    (kx ([],(0:Int)))
    (cond (a0.1==a1.1)
     (Option.bind (dj a0.2 a1.2) fun y454=>
      Option.bind (gj y454) fun y455=>
      Option.bind (ce [(a0.1,y455)]) fun y554=>
      kx y554)
     (Option.bind (gI a0 a1) fun y568=>
      cond (!y568.2)
      (kx ([],(2:Int)))
      (Option.bind (dF y568.1 (IntKind.wrap .i64 (Int.tdiv (IntKind.wrap .i64 (a0.1+a1.1)) (2:Int)))) fun y569=>
       Option.bind (dF y568.1 (Int.tmod (IntKind.wrap .i64 ((IntKind.wrap .i64 (Int.tdiv (IntKind.wrap .i64 (a0.1+a1.1)) (2:Int)))+(4:Int))) (8:Int))) fun y570=>
       Option.bind (ce [y569,y570]) fun y571=>
       kx y571))))))
def bv(a0:Ln)(a1:Ln):Option ((List Ln)×Int):=kR some a0 a1
theorem AZ{R} kx a0 a1: @kR R kx a0 a1=(bv a0 a1).bind kx:=by
 unfold bv kR
 exact ac fun _=>ae rfl (ac fun _=>ae rfl (ae rfl (ae rfl (ae (ac fun _=>ac fun _=>ac fun _=>rfl) (ac fun _=>ae rfl (ac fun _=>ac fun _=>ac fun _=>rfl))))))
abbrev qX:af:=.fx [.val true yL, .val true yL] ((List Ln)×Int) (fun z=>bv z.1 z.2.1) (fun b=>(.tup [⟨false,[(.own yL b.1)]⟩,⟨false,[(.v (.int .i64 b.2))]⟩],[]))
theorem CE:ag C0 34 qX:=
 ag.fx (e:=false) (.cons dr (.cons jm (.cons wA (.cons nO (.cons CG (.cons kP (.nil))))))) mixed Tryd.func34 (by kernel_rfl) (by kernel_rfl) aW 1 aq (fun z=>(by kernel_rfl:_=kR (fun b=>some (qX.enc b)) z.1 z.2.1).trans (AZ _ z.1 z.2.1))
def jZ:List (FuncId×af):=[(51,my),(52,nm),(69,vL),(71,nL),(66,qY),(75,lw)]
abbrev cx:LS:=⟨[(false,[(.ptr 3 0)]),(false,[(.ptr 4 0)]),(false,[(.ptr 5 0)]),(false,[(.own yL)]),(false,[(.int .i64)])],[(false,[(.int .i64),(.int .i64),(.int .i64),(.int .i64),(.int .i64),(.int .i64)]),(false,[(.int .i64),(.int .i64),(.int .i64),(.int .i64)]),(false,[(.int .i64),(.int .i64),(.int .i64),(.int .i64),(.int .i64),(.int .i64)])],[]⟩
abbrev nZ:LS:=⟨[(false,[(.own yL)])],[],[]⟩
abbrev nR v0:=((((v0,()),()),(),()):nZ.T)
abbrev cJ:List (Ex×LS):=[(.exit 0,nZ)]
abbrev fQ x8(x24:Int)(b0_0:Int)(b0_1:Int)(b0_2:Int)(b0_3:Int)(b0_4:Int)(b0_5:Int)(b1_0:Int)(b1_1:Int)(b1_2:Int)(b1_3:Int)(b2_0:Int)(b2_1:Int)(b2_2:Int)(b2_3:Int)(b2_4:Int)(b2_5:Int):=(((((),()),((),()),((),()),(x8,()),(x24,()),()),((b0_0,b0_1,b0_2,b0_3,b0_4,b0_5,()),(b1_0,b1_1,b1_2,b1_3,()),(b2_0,b2_1,b2_2,b2_3,b2_4,b2_5,()),()),()):cx.T)
def dM{R:Type}(nx:cx.T->Option R)(hx:mJ R cJ)(x8:List Ln)(x24:Int)(b0_0:Int)(b0_1:Int)(b0_2:Int)(b0_3:Int)(b0_4:Int)(b0_5:Int)(b1_0:Int)(b1_1:Int)(b1_2:Int)(b1_3:Int)(b2_0:Int)(b2_1:Int)(b2_2:Int)(b2_3:Int)(b2_4:Int)(b2_5:Int):Option R:=
 cond (decide (x24<(8:Int)))
 (Option.bind (dF ((b2_0,(b2_1,b2_2)),(b2_3,(b2_4,b2_5))) x24) fun y666=>
  Option.bind (cu y666 ((b0_0,(b0_1,b0_2)),(b0_3,(b0_4,b0_5)))) fun y667=>
  Option.bind (dX (b1_0,(b1_1,(b1_2,b1_3))) y667) fun y668=>
  cond (y668==(0:Int))
  (cond (decide ((((List.length x8)+(List.length [y666]))*32)<=70368744177664))
   (cond (decide (((List.length x8)+(List.length [y666]))<=70368744177664))
    (nx (fQ (x8++ [y666]) (IntKind.wrap .i64 (x24+(1:Int))) b0_0 b0_1 b0_2 b0_3 b0_4 b0_5 b1_0 b1_1 b1_2 b1_3 b2_0 b2_1 b2_2 b2_3 b2_4 b2_5))
    none)
   none)
  (nx (fQ x8 (IntKind.wrap .i64 (x24+(1:Int))) b0_0 b0_1 b0_2 b0_3 b0_4 b0_5 b1_0 b1_1 b1_2 b1_3 b2_0 b2_1 b2_2 b2_3 b2_4 b2_5)))
 (hx.1 (nR x8))
def lD{R:Type}(nx:cx.T->Option R)(hx:mJ R cJ)(z:cx.T):Option R:=dM nx hx z.1.2.2.2.1.1 z.1.2.2.2.2.1.1 z.2.1.1.1 z.2.1.1.2.1 z.2.1.1.2.2.1 z.2.1.1.2.2.2.1 z.2.1.1.2.2.2.2.1 z.2.1.1.2.2.2.2.2.1 z.2.1.2.1.1 z.2.1.2.1.2.1 z.2.1.2.1.2.2.1 z.2.1.2.1.2.2.2.1 z.2.1.2.2.1.1 z.2.1.2.2.1.2.1 z.2.1.2.2.1.2.2.1 z.2.1.2.2.1.2.2.2.1 z.2.1.2.2.1.2.2.2.2.1 z.2.1.2.2.1.2.2.2.2.2.1
theorem oo:fe @lD:=fun R nx hx z=>by
 show dM nx hx z.1.2.2.2.1.1 z.1.2.2.2.2.1.1 z.2.1.1.1 z.2.1.1.2.1 z.2.1.1.2.2.1 z.2.1.1.2.2.2.1 z.2.1.1.2.2.2.2.1 z.2.1.1.2.2.2.2.2.1 z.2.1.2.1.1 z.2.1.2.1.2.1 z.2.1.2.1.2.2.1 z.2.1.2.1.2.2.2.1 z.2.1.2.2.1.1 z.2.1.2.2.1.2.1 z.2.1.2.2.1.2.2.1 z.2.1.2.2.1.2.2.2.1 z.2.1.2.2.1.2.2.2.2.1 z.2.1.2.2.1.2.2.2.2.2.1=(dM (fun y=>some (.inl y)) (sj cJ fun x=>some (.inr x)) z.1.2.2.2.1.1 z.1.2.2.2.2.1.1 z.2.1.1.1 z.2.1.1.2.1 z.2.1.1.2.2.1 z.2.1.1.2.2.2.1 z.2.1.1.2.2.2.2.1 z.2.1.1.2.2.2.2.2.1 z.2.1.2.1.1 z.2.1.2.1.2.1 z.2.1.2.1.2.2.1 z.2.1.2.1.2.2.2.1 z.2.1.2.2.1.1 z.2.1.2.2.1.2.1 z.2.1.2.2.1.2.2.1 z.2.1.2.2.1.2.2.2.1 z.2.1.2.2.1.2.2.2.2.1 z.2.1.2.2.1.2.2.2.2.2.1).bind (rV nx hx)
 unfold dM
 exact ae (ac fun _=>ac fun _=>ac fun _=>ae (ae (ae rfl rfl) rfl) rfl) rfl
def eM:cx.T->Option (wO cJ):=Bt @lD
theorem pV x8 x24 b0_0 b0_1 b0_2 b0_3 b0_4 b0_5 b1_0 b1_1 b1_2 b1_3 b2_0 b2_1 b2_2 b2_3 b2_4 b2_5:eM (fQ x8 x24 b0_0 b0_1 b0_2 b0_3 b0_4 b0_5 b1_0 b1_1 b1_2 b1_3 b2_0 b2_1 b2_2 b2_3 b2_4 b2_5)=dM eM (sj cJ some) x8 x24 b0_0 b0_1 b0_2 b0_3 b0_4 b0_5 b1_0 b1_1 b1_2 b1_3 b2_0 b2_1 b2_2 b2_3 b2_4 b2_5:=jL oo _
def iA:eo:=⟨[3,4,5,8,24],[3,4,5],[8],[]⟩
def kd:kF Rv:=⟨fun k=>match k with|6=>iA|_=>⟨[],[],[],[]⟩,fun k=>match k with|6=>some (ie cx cJ eM)|_=>none⟩
theorem wD(n:Nat)(z:cx.T)(k:Ex->kp->Option Rv):dG ⟨45,45⟩ iA (uO (pL C0 jZ) ⟨45,45⟩ kd 1 (cP Tryd.f35 5)) (n+1) (cx.enc z) k=
 lD (fun y=>dG ⟨45,45⟩ iA (uO (pL C0 jZ) ⟨45,45⟩ kd 1 (cP Tryd.f35 5)) n (cx.enc y) k) (hK k cJ) z:=by kernel_rfl
theorem xN:bP (pL C0 jZ) ⟨45,45⟩ kd 1 (fF (dl Tryd.f35)):=by
 have hl:fF (dl Tryd.f35)=[cP Tryd.f35 5]:=by kernel_rfl
 rw[hl]
 exact bP.cons (n:=6) (lh:=iA) (S:=ie cx cJ eM) (by kernel_rfl) rfl rfl (iX oo wD)
  (bP.nil)
def ij{R:Type}(kx:(List Ln)×Int->Option R)(a0:Pt)(a1:Ln)(a2:Pt):Option R:=
 Option.bind (bz a0) fun y645=>
 cond (!y645)
 (kx ([],(1:Int)))
 (Option.bind (aX a1) fun y646=>
  cond (!y646)
  (kx ([],(1:Int)))
  (Option.bind (bz a2) fun y647=>
   cond (!y647)
   (kx ([],(1:Int)))
   (Option.bind (eM (fQ [] (0:Int) a0.1.1 a0.1.2.1 a0.1.2.2 a0.2.1 a0.2.2.1 a0.2.2.2 a1.1 a1.2.1 a1.2.2.1 a1.2.2.2 a2.1.1 a2.1.2.1 a2.1.2.2 a2.2.1 a2.2.2.1 a2.2.2.2)) (jP cJ
    (fun e669=>
     cond (decide ((List.length (e669.1.1.1:List Ln))=(List.length (e669.1.1.1:List Ln))))
     (Option.bind (ce (e669.1.1.1:List Ln)) fun y671=>
      kx y671)
     none,())))))
def aQ(a0:Pt)(a1:Ln)(a2:Pt):Option ((List Ln)×Int):=ij some a0 a1 a2
theorem xi{R} kx a0 a1 a2: @ij R kx a0 a1 a2=(aQ a0 a1 a2).bind kx:=by
 unfold aQ ij
 exact ac fun _=>ae rfl (ac fun _=>ae rfl (ac fun _=>ae rfl (bh ⟨fun _=>ae (ac fun _=>rfl) rfl,trivial⟩)))
abbrev mQ:af:=.fx [.val true yP, .val true yL, .val true yP] ((List Ln)×Int) (fun z=>aQ z.1 z.2.1 z.2.2.1) (fun b=>(.tup [⟨false,[(.own yL b.1)]⟩,⟨false,[(.v (.int .i64 b.2))]⟩],[]))
theorem xX:ag C0 35 mQ:=
 ag.fx (e:=false) (t:=jZ) (.cons dL (.cons dr (.cons kP (.cons kg (.cons qx (.cons nO (.nil))))))) mixed Tryd.func35 (by kernel_rfl) (by kernel_rfl) kd 1 xN (fun z=>(by kernel_rfl:_=ij (fun b=>some (mQ.enc b)) z.1 z.2.1 z.2.2.1).trans (xi _ z.1 z.2.1 z.2.2.1))
def qc:List (FuncId×af):=[(51,my),(52,nm),(74,sx),(75,lw)]
abbrev dC:LS:=⟨[(false,[(.ptr 4 0)]),(false,[(.ptr 5 0)]),(false,[(.ptr 6 0)]),(false,[(.ptr 7 0)]),(false,[(.own yL)]),(false,[(.int .i64)])],[(false,[(.int .i64),(.int .i64),(.int .i64),(.int .i64),(.int .i64),(.int .i64)]),(false,[(.int .i64),(.int .i64),(.int .i64),(.int .i64)]),(false,[(.int .i64),(.int .i64),(.int .i64),(.int .i64),(.int .i64),(.int .i64)]),(false,[(.int .i64),(.int .i64),(.int .i64),(.int .i64)])],[]⟩
abbrev tQ:LS:=⟨[(false,[(.own yL)]),(false,[(.int .i64)]),(false,[(.own yL)])],[],[]⟩
abbrev lm v0(v1:Int) v2:=((((v0,()),(v1,()),(v2,()),()),(),()):tQ.T)
abbrev tR:LS:=⟨[(false,[.undef]),(false,[.undef]),(false,[(.own yL)])],[],[]⟩
abbrev tL v0:=(((((),()),((),()),(v0,()),()),(),()):tR.T)
abbrev ec:List (Ex×LS):=[(.ret,tQ),(.exit 0,tR)]
abbrev cq x10(x34:Int)(b0_0:Int)(b0_1:Int)(b0_2:Int)(b0_3:Int)(b0_4:Int)(b0_5:Int)(b1_0:Int)(b1_1:Int)(b1_2:Int)(b1_3:Int)(b2_0:Int)(b2_1:Int)(b2_2:Int)(b2_3:Int)(b2_4:Int)(b2_5:Int)(b3_0:Int)(b3_1:Int)(b3_2:Int)(b3_3:Int):=(((((),()),((),()),((),()),((),()),(x10,()),(x34,()),()),((b0_0,b0_1,b0_2,b0_3,b0_4,b0_5,()),(b1_0,b1_1,b1_2,b1_3,()),(b2_0,b2_1,b2_2,b2_3,b2_4,b2_5,()),(b3_0,b3_1,b3_2,b3_3,()),()),()):dC.T)
def fw{R:Type}(nx:dC.T->Option R)(hx:mJ R ec)(x10:List Ln)(x34:Int)(b0_0:Int)(b0_1:Int)(b0_2:Int)(b0_3:Int)(b0_4:Int)(b0_5:Int)(b1_0:Int)(b1_1:Int)(b1_2:Int)(b1_3:Int)(b2_0:Int)(b2_1:Int)(b2_2:Int)(b2_3:Int)(b2_4:Int)(b2_5:Int)(b3_0:Int)(b3_1:Int)(b3_2:Int)(b3_3:Int):Option R:=
 cond (decide (x34<(8:Int)))
 (Option.bind (gk x34 ((b0_0,(b0_1,b0_2)),(b0_3,(b0_4,b0_5))) (b1_0,(b1_1,(b1_2,b1_3)))) fun y772=>
  Option.bind (gk x34 ((b2_0,(b2_1,b2_2)),(b2_3,(b2_4,b2_5))) (b3_0,(b3_1,(b3_2,b3_3)))) fun y773=>
  cond (y772.2==(0:Int))
  (nx (cq x10 (IntKind.wrap .i64 (x34+(1:Int))) b0_0 b0_1 b0_2 b0_3 b0_4 b0_5 b1_0 b1_1 b1_2 b1_3 b2_0 b2_1 b2_2 b2_3 b2_4 b2_5 b3_0 b3_1 b3_2 b3_3))
  (cond (y773.2==(0:Int))
   (nx (cq x10 (IntKind.wrap .i64 (x34+(1:Int))) b0_0 b0_1 b0_2 b0_3 b0_4 b0_5 b1_0 b1_1 b1_2 b1_3 b2_0 b2_1 b2_2 b2_3 b2_4 b2_5 b3_0 b3_1 b3_2 b3_3))
   (cond (y772.2==(2:Int))
    (cond (y773.2==(2:Int))
     (nx (cq x10 (IntKind.wrap .i64 (x34+(1:Int))) b0_0 b0_1 b0_2 b0_3 b0_4 b0_5 b1_0 b1_1 b1_2 b1_3 b2_0 b2_1 b2_2 b2_3 b2_4 b2_5 b3_0 b3_1 b3_2 b3_3))
     (cond (y772.2==(3:Int))
      (hx.1 (lm [] (2:Int) x10))
      (cond (y773.2==(3:Int))
       (hx.1 (lm [] (2:Int) x10))
       (cond (y772.2==(2:Int))
        (cond (decide ((((List.length x10)+(List.length [y773.1]))*32)<=70368744177664))
         (cond (decide (((List.length x10)+(List.length [y773.1]))<=70368744177664))
          (nx (cq (x10++ [y773.1]) (IntKind.wrap .i64 (x34+(1:Int))) b0_0 b0_1 b0_2 b0_3 b0_4 b0_5 b1_0 b1_1 b1_2 b1_3 b2_0 b2_1 b2_2 b2_3 b2_4 b2_5 b3_0 b3_1 b3_2 b3_3))
          none)
         none)
        (cond (y773.2==(2:Int))
         (cond (decide ((((List.length x10)+(List.length [y772.1]))*32)<=70368744177664))
          (cond (decide (((List.length x10)+(List.length [y772.1]))<=70368744177664))
           (nx (cq (x10++ [y772.1]) (IntKind.wrap .i64 (x34+(1:Int))) b0_0 b0_1 b0_2 b0_3 b0_4 b0_5 b1_0 b1_1 b1_2 b1_3 b2_0 b2_1 b2_2 b2_3 b2_4 b2_5 b3_0 b3_1 b3_2 b3_3))
           none)
          none)
         (cond ((y772.1.1==y773.1.1)&&(((y772.1.2.1==y773.1.2.1)&&((y772.1.2.2.1==y773.1.2.2.1)&&((y772.1.2.2.2==y773.1.2.2.2)&&Bool.true)))&&Bool.true))
          (cond (decide ((((List.length x10)+(List.length [y772.1]))*32)<=70368744177664))
           (cond (decide (((List.length x10)+(List.length [y772.1]))<=70368744177664))
            (nx (cq (x10++ [y772.1]) (IntKind.wrap .i64 (x34+(1:Int))) b0_0 b0_1 b0_2 b0_3 b0_4 b0_5 b1_0 b1_1 b1_2 b1_3 b2_0 b2_1 b2_2 b2_3 b2_4 b2_5 b3_0 b3_1 b3_2 b3_3))
            none)
           none)
          (nx (cq x10 (IntKind.wrap .i64 (x34+(1:Int))) b0_0 b0_1 b0_2 b0_3 b0_4 b0_5 b1_0 b1_1 b1_2 b1_3 b2_0 b2_1 b2_2 b2_3 b2_4 b2_5 b3_0 b3_1 b3_2 b3_3))))))))
    (cond (y772.2==(3:Int))
     (hx.1 (lm [] (2:Int) x10))
     (cond (y773.2==(3:Int))
      (hx.1 (lm [] (2:Int) x10))
      (cond (y772.2==(2:Int))
       (cond (decide ((((List.length x10)+(List.length [y773.1]))*32)<=70368744177664))
        (cond (decide (((List.length x10)+(List.length [y773.1]))<=70368744177664))
         (nx (cq (x10++ [y773.1]) (IntKind.wrap .i64 (x34+(1:Int))) b0_0 b0_1 b0_2 b0_3 b0_4 b0_5 b1_0 b1_1 b1_2 b1_3 b2_0 b2_1 b2_2 b2_3 b2_4 b2_5 b3_0 b3_1 b3_2 b3_3))
         none)
        none)
       (cond (y773.2==(2:Int))
        (cond (decide ((((List.length x10)+(List.length [y772.1]))*32)<=70368744177664))
         (cond (decide (((List.length x10)+(List.length [y772.1]))<=70368744177664))
          (nx (cq (x10++ [y772.1]) (IntKind.wrap .i64 (x34+(1:Int))) b0_0 b0_1 b0_2 b0_3 b0_4 b0_5 b1_0 b1_1 b1_2 b1_3 b2_0 b2_1 b2_2 b2_3 b2_4 b2_5 b3_0 b3_1 b3_2 b3_3))
          none)
         none)
        (cond ((y772.1.1==y773.1.1)&&(((y772.1.2.1==y773.1.2.1)&&((y772.1.2.2.1==y773.1.2.2.1)&&((y772.1.2.2.2==y773.1.2.2.2)&&Bool.true)))&&Bool.true))
         (cond (decide ((((List.length x10)+(List.length [y772.1]))*32)<=70368744177664))
          (cond (decide (((List.length x10)+(List.length [y772.1]))<=70368744177664))
           (nx (cq (x10++ [y772.1]) (IntKind.wrap .i64 (x34+(1:Int))) b0_0 b0_1 b0_2 b0_3 b0_4 b0_5 b1_0 b1_1 b1_2 b1_3 b2_0 b2_1 b2_2 b2_3 b2_4 b2_5 b3_0 b3_1 b3_2 b3_3))
           none)
          none)
         (nx (cq x10 (IntKind.wrap .i64 (x34+(1:Int))) b0_0 b0_1 b0_2 b0_3 b0_4 b0_5 b1_0 b1_1 b1_2 b1_3 b2_0 b2_1 b2_2 b2_3 b2_4 b2_5 b3_0 b3_1 b3_2 b3_3))))))))))
 (hx.2.1 (tL x10))
def ri{R:Type}(nx:dC.T->Option R)(hx:mJ R ec)(z:dC.T):Option R:=fw nx hx z.1.2.2.2.2.1.1 z.1.2.2.2.2.2.1.1 z.2.1.1.1 z.2.1.1.2.1 z.2.1.1.2.2.1 z.2.1.1.2.2.2.1 z.2.1.1.2.2.2.2.1 z.2.1.1.2.2.2.2.2.1 z.2.1.2.1.1 z.2.1.2.1.2.1 z.2.1.2.1.2.2.1 z.2.1.2.1.2.2.2.1 z.2.1.2.2.1.1 z.2.1.2.2.1.2.1 z.2.1.2.2.1.2.2.1 z.2.1.2.2.1.2.2.2.1 z.2.1.2.2.1.2.2.2.2.1 z.2.1.2.2.1.2.2.2.2.2.1 z.2.1.2.2.2.1.1 z.2.1.2.2.2.1.2.1 z.2.1.2.2.2.1.2.2.1 z.2.1.2.2.2.1.2.2.2.1
theorem ui:fe @ri:=fun R nx hx z=>by
 show fw nx hx z.1.2.2.2.2.1.1 z.1.2.2.2.2.2.1.1 z.2.1.1.1 z.2.1.1.2.1 z.2.1.1.2.2.1 z.2.1.1.2.2.2.1 z.2.1.1.2.2.2.2.1 z.2.1.1.2.2.2.2.2.1 z.2.1.2.1.1 z.2.1.2.1.2.1 z.2.1.2.1.2.2.1 z.2.1.2.1.2.2.2.1 z.2.1.2.2.1.1 z.2.1.2.2.1.2.1 z.2.1.2.2.1.2.2.1 z.2.1.2.2.1.2.2.2.1 z.2.1.2.2.1.2.2.2.2.1 z.2.1.2.2.1.2.2.2.2.2.1 z.2.1.2.2.2.1.1 z.2.1.2.2.2.1.2.1 z.2.1.2.2.2.1.2.2.1 z.2.1.2.2.2.1.2.2.2.1=(fw (fun y=>some (.inl y)) (sj ec fun x=>some (.inr x)) z.1.2.2.2.2.1.1 z.1.2.2.2.2.2.1.1 z.2.1.1.1 z.2.1.1.2.1 z.2.1.1.2.2.1 z.2.1.1.2.2.2.1 z.2.1.1.2.2.2.2.1 z.2.1.1.2.2.2.2.2.1 z.2.1.2.1.1 z.2.1.2.1.2.1 z.2.1.2.1.2.2.1 z.2.1.2.1.2.2.2.1 z.2.1.2.2.1.1 z.2.1.2.2.1.2.1 z.2.1.2.2.1.2.2.1 z.2.1.2.2.1.2.2.2.1 z.2.1.2.2.1.2.2.2.2.1 z.2.1.2.2.1.2.2.2.2.2.1 z.2.1.2.2.2.1.1 z.2.1.2.2.2.1.2.1 z.2.1.2.2.2.1.2.2.1 z.2.1.2.2.2.1.2.2.2.1).bind (rV nx hx)
 unfold fw
 exact ae (ac fun _=>ac fun _=>ae rfl (ae rfl (ae (ae rfl (ae rfl (ae rfl (ae (ae (ae rfl rfl) rfl) (ae (ae (ae rfl rfl) rfl) (ae (ae (ae rfl rfl) rfl) rfl)))))) (ae rfl (ae rfl (ae (ae (ae rfl rfl) rfl) (ae (ae (ae rfl rfl) rfl) (ae (ae (ae rfl rfl) rfl) rfl)))))))) rfl
def jp:dC.T->Option (wO ec):=Bt @ri
theorem vE x10 x34 b0_0 b0_1 b0_2 b0_3 b0_4 b0_5 b1_0 b1_1 b1_2 b1_3 b2_0 b2_1 b2_2 b2_3 b2_4 b2_5 b3_0 b3_1 b3_2 b3_3:jp (cq x10 x34 b0_0 b0_1 b0_2 b0_3 b0_4 b0_5 b1_0 b1_1 b1_2 b1_3 b2_0 b2_1 b2_2 b2_3 b2_4 b2_5 b3_0 b3_1 b3_2 b3_3)=fw jp (sj ec some) x10 x34 b0_0 b0_1 b0_2 b0_3 b0_4 b0_5 b1_0 b1_1 b1_2 b1_3 b2_0 b2_1 b2_2 b2_3 b2_4 b2_5 b3_0 b3_1 b3_2 b3_3:=jL ui _
def mz:eo:=⟨[4,5,6,7,10,34],[4,5,6,7],[8,9,10],[]⟩
def qk:kF Rv:=⟨fun k=>match k with|6=>mz|_=>⟨[],[],[],[]⟩,fun k=>match k with|6=>some (ie dC ec jp)|_=>none⟩
theorem CN(n:Nat)(z:dC.T)(k:Ex->kp->Option Rv):dG ⟨97,97⟩ mz (uO (pL C0 qc) ⟨97,97⟩ qk 1 (cP Tryd.f36 5)) (n+1) (dC.enc z) k=
 ri (fun y=>dG ⟨97,97⟩ mz (uO (pL C0 qc) ⟨97,97⟩ qk 1 (cP Tryd.f36 5)) n (dC.enc y) k) (hK k ec) z:=by kernel_rfl
theorem EB:bP (pL C0 qc) ⟨97,97⟩ qk 1 (fF (dl Tryd.f36)):=by
 have hl:fF (dl Tryd.f36)=[cP Tryd.f36 5]:=by kernel_rfl
 rw[hl]
 exact bP.cons (n:=6) (lh:=mz) (S:=ie dC ec jp) (by kernel_rfl) rfl rfl (iX ui CN)
  (bP.nil)
def mV{R:Type}(kx:(List Ln)×Int->Option R)(a0:Pt)(a1:Ln)(a2:Pt)(a3:Ln):Option R:=
 Option.bind (bz a0) fun y746=>
 cond (!y746)
 (kx ([],(1:Int)))
 (Option.bind (aX a1) fun y747=>
  cond (!y747)
  (kx ([],(1:Int)))
  (Option.bind (bz a2) fun y748=>
   cond (!y748)
   (kx ([],(1:Int)))
   (Option.bind (aX a3) fun y749=>
    cond (!y749)
    (kx ([],(1:Int)))
    (Option.bind (jp (cq [] (0:Int) a0.1.1 a0.1.2.1 a0.1.2.2 a0.2.1 a0.2.2.1 a0.2.2.2 a1.1 a1.2.1 a1.2.2.1 a1.2.2.2 a2.1.1 a2.1.2.1 a2.1.2.2 a2.2.1 a2.2.2.1 a2.2.2.2 a3.1 a3.2.1 a3.2.2.1 a3.2.2.2)) (jP ec
     (fun e774=>
      kx ((e774.1.1.1:List Ln),(e774.1.2.1.1:Int)),fun e778=>
      cond (decide ((List.length (e778.1.2.2.1.1:List Ln))=(List.length (e778.1.2.2.1.1:List Ln))))
      (Option.bind (ce (e778.1.2.2.1.1:List Ln)) fun y780=>
       kx y780)
      none,()))))))
def bN(a0:Pt)(a1:Ln)(a2:Pt)(a3:Ln):Option ((List Ln)×Int):=mV some a0 a1 a2 a3
theorem Dp{R} kx a0 a1 a2 a3: @mV R kx a0 a1 a2 a3=(bN a0 a1 a2 a3).bind kx:=by
 unfold bN mV
 exact ac fun _=>ae rfl (ac fun _=>ae rfl (ac fun _=>ae rfl (ac fun _=>ae rfl (bh ⟨fun _=>rfl,fun _=>ae (ac fun _=>rfl) rfl,trivial⟩))))
abbrev tZ:af:=.fx [.val true yP, .val true yL, .val true yP, .val true yL] ((List Ln)×Int) (fun z=>bN z.1 z.2.1 z.2.2.1 z.2.2.2.1) (fun b=>(.tup [⟨false,[(.own yL b.1)]⟩,⟨false,[(.v (.int .i64 b.2))]⟩],[]))
theorem EX:ag C0 36 tZ:=
 ag.fx (e:=false) (t:=qc) (.cons dL (.cons dr (.cons wB (.cons nO (.nil))))) mixed Tryd.func36 (by kernel_rfl) (by kernel_rfl) qk 1 EB (fun z=>(by kernel_rfl:_=mV (fun b=>some (tZ.enc b)) z.1 z.2.1 z.2.2.1 z.2.2.2.1).trans (Dp _ z.1 z.2.1 z.2.2.1 z.2.2.2.1))
end
end Go.Proofs.YtjkljnflaifbhaaDoor
