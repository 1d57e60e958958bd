/- No conditions. -/
import Derived.Test.YtjkljnflaifbhaaGreatDoorA2a
namespace Go.Proofs.YtjkljnflaifbhaaGreatDoor
open Go.Vai
set_option maxRecDepth 100000
noncomputable section
def jT{R:Type}(kx:Ln×Bool->Option R)(a0:Ln)(a1:Ln):Option R:=
 Option.bind (bh a0) fun y401=>
 cond (!y401)
 (kx (((0:Int),((0:Int),((0:Int),(0:Int)))),Bool.false))
 (Option.bind (bh a1) fun y402=>
  cond (!y402)
  (kx (((0:Int),((0:Int),((0:Int),(0:Int)))),Bool.false))
  (Option.bind (jy a1) fun y432=>
   Option.bind (cP a0 y432) fun y447=>
   Option.bind (dL y447 (IntKind.wrap .i64 (((BitVec.toNat ((BitVec.ofInt 64 (IntKind.wrap .i64 ((IntKind.wrap .i64 ((2:Int)*a0.1))-a1.1)))&&&(BitVec.ofInt 64 (7:Int)))):Nat):Int))) fun y448=>
   Option.bind (cx y448.2) fun y449=>
   cond (!y449)
   (kx (((0:Int),((0:Int),((0:Int),(0:Int)))),Bool.false))
   (kx (y448,Bool.true))))
def fo(a0:Ln)(a1:Ln):Option (Ln×Bool):=jT some a0 a1
theorem zO{R} kx a0 a1: @jT R kx a0 a1=(fo a0 a1).bind kx:=by
 unfold fo jT
 exact ac fun _=>ae rfl (ac fun _=>ae rfl (ac fun _=>ac fun _=>ac fun _=>ac fun _=>ae rfl rfl))
abbrev pO:af:=.fx [.val true yL, .val true yL] (Ln×Bool) (fun z=>fo z.1 z.2.1) (fun b=>(.tup [⟨true,[(.v (.int .i64 b.1.1)),(.v (.int .i64 b.1.2.1)),(.v (.int .i64 b.1.2.2.1)),(.v (.int .i64 b.1.2.2.2))]⟩,⟨false,[(.v (.bool b.2))]⟩],[]))
theorem Bi:ag C0 32 pO:=
 ag.fx (e:=false) (.cons gi (.cons DQ (.cons nw (.cons ll (.cons gV (.nil)))))) mixed Tryz.func32 (by kernel_rfl) (by kernel_rfl) aG 1 ai (fun z=>(by kernel_rfl:_=jT (fun b=>some (pO.enc b)) z.1 z.2.1).trans (zO _ z.1 z.2.1))
def ml{R:Type}(kx:Nm->Option R)(a0:Nm):Option R:=
 Option.bind (cw (a0.1,(a0.2.1,(IntKind.wrap .i64 (a0.2.2+(1:Int)))))) fun y457=>
 kx y457
def gw(a0:Nm):Option (Nm):=ml some a0
theorem Dl{R} kx a0: @ml R kx a0=(gw a0).bind kx:=by
 unfold gw ml
 exact ac fun _=>rfl
abbrev yn:af:=.fx [.val true yN] (Nm) (fun z=>gw z.1) (fun b=>(.one ⟨true,[(.v (.int .i64 b.1)),(.v (.int .i64 b.2.1)),(.v (.int .i64 b.2.2))]⟩,[]))
theorem xq:ag C0 86 yn:=
 ag.fx (e:=false) (.cons jh (.nil)) mixed Tryz.func86 (by kernel_rfl) (by kernel_rfl) aG 1 ai (fun z=>(by kernel_rfl:_=ml (fun b=>some (yn.enc b)) z.1).trans (Dl _ z.1))
def iB{R:Type}(kx:Bool->Option R)(a0:Ln):Option R:=
 Option.bind (bh a0) fun y467=>
 kx (!y467)
def iq(a0:Ln):Option (Bool):=iB some a0
theorem xU{R} kx a0: @iB R kx a0=(iq a0).bind kx:=by
 unfold iq iB
 exact ac fun _=>rfl
abbrev nq:af:=.fx [.val true yL] (Bool) (fun z=>iq z.1) (fun b=>(.one ⟨false,[(.v (.bool b))]⟩,[]))
theorem yY:ag C0 156 nq:=
 ag.fx (e:=false) (.cons gi (.nil)) mixed Tryz.func156 (by kernel_rfl) (by kernel_rfl) aG 1 ai (fun z=>(by kernel_rfl:_=iB (fun b=>some (nq.enc b)) z.1).trans (xU _ z.1))
def bA:List (FuncId×af):=[(156,nq)]
abbrev ak:LS:=⟨[(false,[(.sl yL)]),(false,[(.fn 156 [])]),(false,[(.int .i64)]),(false,[(.int .i64)])],[],[]⟩
abbrev cT:LS:=⟨[(false,[(.int .i64)])],[],[]⟩
abbrev fL(v0:Int):=((((v0,()),()),(),()):cT.T)
abbrev cU:LS:=⟨[(false,[.undef])],[],[]⟩
abbrev fM:=(((((),()),()),(),()):cU.T)
abbrev ap:List (Ex×LS):=[(.ret,cT),(.exit 0,cU)]
abbrev aS x0(x7:Int)(x8:Int):=((((x0,()),((),()),(x7,()),(x8,()),()),(),()):ak.T)
def aE{R:Type}(nx:ak.T->Option R)(hx:ma R ap)(x0:List Ln)(x7:Int)(x8:Int):Option R:=
 cond (decide (x8<x7))
 (Option.bind (vu x0 x8) fun y465=>
  Option.bind (iq y465) fun y468=>
  cond y468
  (hx.1 (fL x8))
  (nx (aS x0 x7 (IntKind.wrap .i64 (x8+(1:Int))))))
 (hx.2.1 (fM))
def cb{R:Type}(nx:ak.T->Option R)(hx:ma R ap)(z:ak.T):Option R:=aE nx hx z.1.1.1 z.1.2.2.1.1 z.1.2.2.2.1.1
theorem cX:fR @cb:=fun R nx hx z=>by
 show aE nx hx z.1.1.1 z.1.2.2.1.1 z.1.2.2.2.1.1=(aE (fun y=>some (.inl y)) (rf ap fun x=>some (.inr x)) z.1.1.1 z.1.2.2.1.1 z.1.2.2.2.1.1).bind (tE nx hx)
 unfold aE
 exact ae (ac fun _=>ac fun _=>ae rfl rfl) rfl
def aF:ak.T->Option (wL ap):=D4 @cb
theorem dk x0 x7 x8:aF (aS x0 x7 x8)=aE aF (rf ap some) x0 x7 x8:=kU cX _
def bn:dz:=⟨[0,1,7,8],[],[4],[]⟩
def bB:iG Rv:=⟨fun k=>match k with|3=>bn|_=>⟨[],[],[],[]⟩,fun k=>match k with|3=>some (fZ ak ap aF)|_=>none⟩
theorem gj(n:Nat)(z:ak.T)(k:Ex->kf->Option Rv):eg ⟨19,19⟩ bn (vt (om C0 bA) ⟨19,19⟩ bB 1 (dt Tryz.f220 2)) (n+1) (ak.enc z) k=
 cb (fun y=>eg ⟨19,19⟩ bn (vt (om C0 bA) ⟨19,19⟩ bB 1 (dt Tryz.f220 2)) n (ak.enc y) k) (hK k ap) z:=by kernel_rfl
theorem gz:bC (om C0 bA) ⟨19,19⟩ bB 1 (fe (cu Tryz.f220)):=by
 have hl:fe (cu Tryz.f220)=[dt Tryz.f220 2]:=by kernel_rfl
 rw[hl]
 exact bC.cons (n:=3) (lh:=bn) (S:=fZ ak ap aF) (by kernel_rfl) rfl rfl (ky cX gj)
  (bC.nil)
def aV{R:Type}(kx:Int->Option R)(a0:(List Ln)):Option R:=
 Option.bind (aF (aS a0 ((List.length a0:Nat):Int) (0:Int))) (sj ap
 (fun e469=>
  kx (e469.1.1.1:Int),fun _=>
  kx (-(1:Int)),()))
def aU(a0:(List Ln)):Option (Int):=aV some a0
theorem gu{R} kx a0: @aV R kx a0=(aU a0).bind kx:=by
 unfold aU aV
 exact dM ⟨fun _=>rfl,fun _=>rfl,trivial⟩
abbrev dx:af:=.fx [.val false (.slice yL), .clo 156 []] (Int) (fun z=>aU z.1) (fun b=>(.one ⟨false,[(.v (.int .i64 b))]⟩,[]))
theorem gD:ag C0 220 dx:=
 ag.fx (e:=false) (t:=bA) (.cons yY (.nil)) mixed Tryz.func220 (by kernel_rfl) (by kernel_rfl) bB 1 gz (fun z=>(by kernel_rfl:_=aV (fun b=>some (dx.enc b)) z.1).trans (gu _ z.1))
def aQ{R:Type}(kx:Bool->Option R)(a0:(List Ln)):Option R:=
 Option.bind (aU a0) fun y472=>
 kx (decide (y472>=(0:Int)))
def aH(a0:(List Ln)):Option (Bool):=aQ some a0
theorem fK{R} kx a0: @aQ R kx a0=(aH a0).bind kx:=by
 unfold aH aQ
 exact ac fun _=>rfl
abbrev di:af:=.fx [.val false (.slice yL), .clo 156 []] (Bool) (fun z=>aH z.1) (fun b=>(.one ⟨false,[(.v (.bool b))]⟩,[]))
theorem fN:ag C0 155 di:=
 ag.fx (e:=false) (.cons gD (.nil)) mixed Tryz.func155 (by kernel_rfl) (by kernel_rfl) aG 1 ai (fun z=>(by kernel_rfl:_=aQ (fun b=>some (di.enc b)) z.1).trans (fK _ z.1))
def na{R:Type}(kx:Int->Option R)(a0:Int):Option R:=
 cond (decide (a0>=(4294967296:Int)))
 (cond (decide ((Int.fdiv a0 ((2:Int)^(Min.min (Int.toNat (32:Int)) 64)))>=(65536:Int)))
  (cond (decide ((Int.fdiv (Int.fdiv a0 ((2:Int)^(Min.min (Int.toNat (32:Int)) 64))) ((2:Int)^(Min.min (Int.toNat (16:Int)) 64)))>=(256:Int)))
   (Option.bind (IF (ByteArray.mk (Array.mk (List.append (List.append [0,1,2,2,3,3,3,3,4,4,4,4,4,4,4,4,5,5,5,5,5,5,5,5,5,5,5,5,5,5,5,5,6,6,6,6,6,6,6,6,6,6,6,6,6,6,6,6,6,6,6,6,6,6,6,6,6,6,6,6,6,6,6,6] [7,7,7,7,7,7,7,7,7,7,7,7,7,7,7,7,7,7,7,7,7,7,7,7,7,7,7,7,7,7,7,7,7,7,7,7,7,7,7,7,7,7,7,7,7,7,7,7,7,7,7,7,7,7,7,7,7,7,7,7,7,7,7,7]) (List.append [8,8,8,8,8,8,8,8,8,8,8,8,8,8,8,8,8,8,8,8,8,8,8,8,8,8,8,8,8,8,8,8,8,8,8,8,8,8,8,8,8,8,8,8,8,8,8,8,8,8,8,8,8,8,8,8,8,8,8,8,8,8,8,8] [8,8,8,8,8,8,8,8,8,8,8,8,8,8,8,8,8,8,8,8,8,8,8,8,8,8,8,8,8,8,8,8,8,8,8,8,8,8,8,8,8,8,8,8,8,8,8,8,8,8,8,8,8,8,8,8,8,8,8,8,8,8,8,8])))) (IntKind.wrap IntKind.u8 (Int.fdiv (Int.fdiv (Int.fdiv a0 ((2:Int)^(Min.min (Int.toNat (32:Int)) 64))) ((2:Int)^(Min.min (Int.toNat (16:Int)) 64))) ((2:Int)^(Min.min (Int.toNat (8:Int)) 64))))) fun y477=>
    kx (IntKind.wrap .i64 ((IntKind.wrap .i64 ((IntKind.wrap .i64 ((32:Int)+(16:Int)))+(8:Int)))+(IntKind.wrap .i64 (((UInt8.toNat y477):Nat):Int)))))
   (Option.bind (IF (ByteArray.mk (Array.mk (List.append (List.append [0,1,2,2,3,3,3,3,4,4,4,4,4,4,4,4,5,5,5,5,5,5,5,5,5,5,5,5,5,5,5,5,6,6,6,6,6,6,6,6,6,6,6,6,6,6,6,6,6,6,6,6,6,6,6,6,6,6,6,6,6,6,6,6] [7,7,7,7,7,7,7,7,7,7,7,7,7,7,7,7,7,7,7,7,7,7,7,7,7,7,7,7,7,7,7,7,7,7,7,7,7,7,7,7,7,7,7,7,7,7,7,7,7,7,7,7,7,7,7,7,7,7,7,7,7,7,7,7]) (List.append [8,8,8,8,8,8,8,8,8,8,8,8,8,8,8,8,8,8,8,8,8,8,8,8,8,8,8,8,8,8,8,8,8,8,8,8,8,8,8,8,8,8,8,8,8,8,8,8,8,8,8,8,8,8,8,8,8,8,8,8,8,8,8,8] [8,8,8,8,8,8,8,8,8,8,8,8,8,8,8,8,8,8,8,8,8,8,8,8,8,8,8,8,8,8,8,8,8,8,8,8,8,8,8,8,8,8,8,8,8,8,8,8,8,8,8,8,8,8,8,8,8,8,8,8,8,8,8,8])))) (IntKind.wrap IntKind.u8 (Int.fdiv (Int.fdiv a0 ((2:Int)^(Min.min (Int.toNat (32:Int)) 64))) ((2:Int)^(Min.min (Int.toNat (16:Int)) 64))))) fun y478=>
    kx (IntKind.wrap .i64 ((IntKind.wrap .i64 ((32:Int)+(16:Int)))+(IntKind.wrap .i64 (((UInt8.toNat y478):Nat):Int))))))
  (cond (decide ((Int.fdiv a0 ((2:Int)^(Min.min (Int.toNat (32:Int)) 64)))>=(256:Int)))
   (Option.bind (IF (ByteArray.mk (Array.mk (List.append (List.append [0,1,2,2,3,3,3,3,4,4,4,4,4,4,4,4,5,5,5,5,5,5,5,5,5,5,5,5,5,5,5,5,6,6,6,6,6,6,6,6,6,6,6,6,6,6,6,6,6,6,6,6,6,6,6,6,6,6,6,6,6,6,6,6] [7,7,7,7,7,7,7,7,7,7,7,7,7,7,7,7,7,7,7,7,7,7,7,7,7,7,7,7,7,7,7,7,7,7,7,7,7,7,7,7,7,7,7,7,7,7,7,7,7,7,7,7,7,7,7,7,7,7,7,7,7,7,7,7]) (List.append [8,8,8,8,8,8,8,8,8,8,8,8,8,8,8,8,8,8,8,8,8,8,8,8,8,8,8,8,8,8,8,8,8,8,8,8,8,8,8,8,8,8,8,8,8,8,8,8,8,8,8,8,8,8,8,8,8,8,8,8,8,8,8,8] [8,8,8,8,8,8,8,8,8,8,8,8,8,8,8,8,8,8,8,8,8,8,8,8,8,8,8,8,8,8,8,8,8,8,8,8,8,8,8,8,8,8,8,8,8,8,8,8,8,8,8,8,8,8,8,8,8,8,8,8,8,8,8,8])))) (IntKind.wrap IntKind.u8 (Int.fdiv (Int.fdiv a0 ((2:Int)^(Min.min (Int.toNat (32:Int)) 64))) ((2:Int)^(Min.min (Int.toNat (8:Int)) 64))))) fun y479=>
    kx (IntKind.wrap .i64 ((IntKind.wrap .i64 ((32:Int)+(8:Int)))+(IntKind.wrap .i64 (((UInt8.toNat y479):Nat):Int)))))
   (Option.bind (IF (ByteArray.mk (Array.mk (List.append (List.append [0,1,2,2,3,3,3,3,4,4,4,4,4,4,4,4,5,5,5,5,5,5,5,5,5,5,5,5,5,5,5,5,6,6,6,6,6,6,6,6,6,6,6,6,6,6,6,6,6,6,6,6,6,6,6,6,6,6,6,6,6,6,6,6] [7,7,7,7,7,7,7,7,7,7,7,7,7,7,7,7,7,7,7,7,7,7,7,7,7,7,7,7,7,7,7,7,7,7,7,7,7,7,7,7,7,7,7,7,7,7,7,7,7,7,7,7,7,7,7,7,7,7,7,7,7,7,7,7]) (List.append [8,8,8,8,8,8,8,8,8,8,8,8,8,8,8,8,8,8,8,8,8,8,8,8,8,8,8,8,8,8,8,8,8,8,8,8,8,8,8,8,8,8,8,8,8,8,8,8,8,8,8,8,8,8,8,8,8,8,8,8,8,8,8,8] [8,8,8,8,8,8,8,8,8,8,8,8,8,8,8,8,8,8,8,8,8,8,8,8,8,8,8,8,8,8,8,8,8,8,8,8,8,8,8,8,8,8,8,8,8,8,8,8,8,8,8,8,8,8,8,8,8,8,8,8,8,8,8,8])))) (IntKind.wrap IntKind.u8 (Int.fdiv a0 ((2:Int)^(Min.min (Int.toNat (32:Int)) 64))))) fun y480=>
    kx (IntKind.wrap .i64 ((32:Int)+(IntKind.wrap .i64 (((UInt8.toNat y480):Nat):Int)))))))
 (cond (decide (a0>=(65536:Int)))
  (cond (decide ((Int.fdiv a0 ((2:Int)^(Min.min (Int.toNat (16:Int)) 64)))>=(256:Int)))
   (Option.bind (IF (ByteArray.mk (Array.mk (List.append (List.append [0,1,2,2,3,3,3,3,4,4,4,4,4,4,4,4,5,5,5,5,5,5,5,5,5,5,5,5,5,5,5,5,6,6,6,6,6,6,6,6,6,6,6,6,6,6,6,6,6,6,6,6,6,6,6,6,6,6,6,6,6,6,6,6] [7,7,7,7,7,7,7,7,7,7,7,7,7,7,7,7,7,7,7,7,7,7,7,7,7,7,7,7,7,7,7,7,7,7,7,7,7,7,7,7,7,7,7,7,7,7,7,7,7,7,7,7,7,7,7,7,7,7,7,7,7,7,7,7]) (List.append [8,8,8,8,8,8,8,8,8,8,8,8,8,8,8,8,8,8,8,8,8,8,8,8,8,8,8,8,8,8,8,8,8,8,8,8,8,8,8,8,8,8,8,8,8,8,8,8,8,8,8,8,8,8,8,8,8,8,8,8,8,8,8,8] [8,8,8,8,8,8,8,8,8,8,8,8,8,8,8,8,8,8,8,8,8,8,8,8,8,8,8,8,8,8,8,8,8,8,8,8,8,8,8,8,8,8,8,8,8,8,8,8,8,8,8,8,8,8,8,8,8,8,8,8,8,8,8,8])))) (IntKind.wrap IntKind.u8 (Int.fdiv (Int.fdiv a0 ((2:Int)^(Min.min (Int.toNat (16:Int)) 64))) ((2:Int)^(Min.min (Int.toNat (8:Int)) 64))))) fun y481=>
    kx (IntKind.wrap .i64 ((IntKind.wrap .i64 ((IntKind.wrap .i64 ((0:Int)+(16:Int)))+(8:Int)))+(IntKind.wrap .i64 (((UInt8.toNat y481):Nat):Int)))))
   (Option.bind (IF (ByteArray.mk (Array.mk (List.append (List.append [0,1,2,2,3,3,3,3,4,4,4,4,4,4,4,4,5,5,5,5,5,5,5,5,5,5,5,5,5,5,5,5,6,6,6,6,6,6,6,6,6,6,6,6,6,6,6,6,6,6,6,6,6,6,6,6,6,6,6,6,6,6,6,6] [7,7,7,7,7,7,7,7,7,7,7,7,7,7,7,7,7,7,7,7,7,7,7,7,7,7,7,7,7,7,7,7,7,7,7,7,7,7,7,7,7,7,7,7,7,7,7,7,7,7,7,7,7,7,7,7,7,7,7,7,7,7,7,7]) (List.append [8,8,8,8,8,8,8,8,8,8,8,8,8,8,8,8,8,8,8,8,8,8,8,8,8,8,8,8,8,8,8,8,8,8,8,8,8,8,8,8,8,8,8,8,8,8,8,8,8,8,8,8,8,8,8,8,8,8,8,8,8,8,8,8] [8,8,8,8,8,8,8,8,8,8,8,8,8,8,8,8,8,8,8,8,8,8,8,8,8,8,8,8,8,8,8,8,8,8,8,8,8,8,8,8,8,8,8,8,8,8,8,8,8,8,8,8,8,8,8,8,8,8,8,8,8,8,8,8])))) (IntKind.wrap IntKind.u8 (Int.fdiv a0 ((2:Int)^(Min.min (Int.toNat (16:Int)) 64))))) fun y482=>
    kx (IntKind.wrap .i64 ((IntKind.wrap .i64 ((0:Int)+(16:Int)))+(IntKind.wrap .i64 (((UInt8.toNat y482):Nat):Int))))))
  (cond (decide (a0>=(256:Int)))
   (Option.bind (IF (ByteArray.mk (Array.mk (List.append (List.append [0,1,2,2,3,3,3,3,4,4,4,4,4,4,4,4,5,5,5,5,5,5,5,5,5,5,5,5,5,5,5,5,6,6,6,6,6,6,6,6,6,6,6,6,6,6,6,6,6,6,6,6,6,6,6,6,6,6,6,6,6,6,6,6] [7,7,7,7,7,7,7,7,7,7,7,7,7,7,7,7,7,7,7,7,7,7,7,7,7,7,7,7,7,7,7,7,7,7,7,7,7,7,7,7,7,7,7,7,7,7,7,7,7,7,7,7,7,7,7,7,7,7,7,7,7,7,7,7]) (List.append [8,8,8,8,8,8,8,8,8,8,8,8,8,8,8,8,8,8,8,8,8,8,8,8,8,8,8,8,8,8,8,8,8,8,8,8,8,8,8,8,8,8,8,8,8,8,8,8,8,8,8,8,8,8,8,8,8,8,8,8,8,8,8,8] [8,8,8,8,8,8,8,8,8,8,8,8,8,8,8,8,8,8,8,8,8,8,8,8,8,8,8,8,8,8,8,8,8,8,8,8,8,8,8,8,8,8,8,8,8,8,8,8,8,8,8,8,8,8,8,8,8,8,8,8,8,8,8,8])))) (IntKind.wrap IntKind.u8 (Int.fdiv a0 ((2:Int)^(Min.min (Int.toNat (8:Int)) 64))))) fun y483=>
    kx (IntKind.wrap .i64 ((IntKind.wrap .i64 ((0:Int)+(8:Int)))+(IntKind.wrap .i64 (((UInt8.toNat y483):Nat):Int)))))
   (Option.bind (IF (ByteArray.mk (Array.mk (List.append (List.append [0,1,2,2,3,3,3,3,4,4,4,4,4,4,4,4,5,5,5,5,5,5,5,5,5,5,5,5,5,5,5,5,6,6,6,6,6,6,6,6,6,6,6,6,6,6,6,6,6,6,6,6,6,6,6,6,6,6,6,6,6,6,6,6] [7,7,7,7,7,7,7,7,7,7,7,7,7,7,7,7,7,7,7,7,7,7,7,7,7,7,7,7,7,7,7,7,7,7,7,7,7,7,7,7,7,7,7,7,7,7,7,7,7,7,7,7,7,7,7,7,7,7,7,7,7,7,7,7]) (List.append [8,8,8,8,8,8,8,8,8,8,8,8,8,8,8,8,8,8,8,8,8,8,8,8,8,8,8,8,8,8,8,8,8,8,8,8,8,8,8,8,8,8,8,8,8,8,8,8,8,8,8,8,8,8,8,8,8,8,8,8,8,8,8,8] [8,8,8,8,8,8,8,8,8,8,8,8,8,8,8,8,8,8,8,8,8,8,8,8,8,8,8,8,8,8,8,8,8,8,8,8,8,8,8,8,8,8,8,8,8,8,8,8,8,8,8,8,8,8,8,8,8,8,8,8,8,8,8,8])))) (IntKind.wrap IntKind.u8 a0)) fun y484=>
    kx (IntKind.wrap .i64 ((0:Int)+(IntKind.wrap .i64 (((UInt8.toNat y484):Nat):Int)))))))
def mQ(a0:Int):Option (Int):=na some a0
theorem Ba{R} kx a0: @na R kx a0=(mQ a0).bind kx:=by
 unfold mQ na
 exact ae (ae (ae (ac fun _=>rfl) (ac fun _=>rfl)) (ae (ac fun _=>rfl) (ac fun _=>rfl))) (ae (ae (ac fun _=>rfl) (ac fun _=>rfl)) (ae (ac fun _=>rfl) (ac fun _=>rfl)))
abbrev vW:af:=.fx [.val false (.int .u64)] (Int) (fun z=>mQ z.1) (fun b=>(.one ⟨false,[(.v (.int .i64 b))]⟩,[]))
theorem Cy:ag C0 237 vW:=
 ag.fx (e:=false) (.nil) mixed Tryz.func237 (by kernel_rfl) (by kernel_rfl) aG 1 ai (fun z=>(by kernel_rfl:_=na (fun b=>some (vW.enc b)) z.1).trans (Ba _ z.1))
def pz{R:Type}(kx:Int->Option R)(a0:Int):Option R:=
 Option.bind (mQ a0) fun y485=>
 kx y485
def md(a0:Int):Option (Int):=pz some a0
theorem Ds{R} kx a0: @pz R kx a0=(md a0).bind kx:=by
 unfold md pz
 exact ac fun _=>rfl
abbrev yr:af:=.fx [.val false (.int .u64)] (Int) (fun z=>md z.1) (fun b=>(.one ⟨false,[(.v (.int .i64 b))]⟩,[]))
theorem EQ:ag C0 222 yr:=
 ag.fx (e:=false) (.cons Cy (.nil)) mixed Tryz.func222 (by kernel_rfl) (by kernel_rfl) aG 1 ai (fun z=>(by kernel_rfl:_=pz (fun b=>some (yr.enc b)) z.1).trans (Ds _ z.1))
def iN{R:Type}(kx:Bool->Option R)(a0:Int):Option R:=
 kx (a0 !=a0)
def fS(a0:Int):Option (Bool):=iN some a0
theorem AU{R} kx a0: @iN R kx a0=(fS a0).bind kx:=by
 unfold fS iN
 exact rfl
abbrev vT:af:=.fx [.val false (.int .i64)] (Bool) (fun z=>fS z.1) (fun b=>(.one ⟨false,[(.v (.bool b))]⟩,[]))
theorem Cv:ag C0 223 vT:=
 ag.fx (e:=false) (.nil) mixed Tryz.func223 (by kernel_rfl) (by kernel_rfl) aG 1 ai (fun z=>(by kernel_rfl:_=iN (fun b=>some (vT.enc b)) z.1).trans (AU _ z.1))
def ji{R:Type}(kx:Int->Option R)(a0:Int)(a1:Int):Option R:=
 Option.bind (fS a0) fun y519=>
 Option.bind (fS a1) fun y520=>
 cond y519
 (cond y520
  (kx (0:Int))
  (kx (-(1:Int))))
 (cond y520
  (kx (1:Int))
  (cond (decide (a0<a1))
   (kx (-(1:Int)))
   (cond (decide (a0>a1))
    (kx (1:Int))
    (kx (0:Int)))))
def gq(a0:Int)(a1:Int):Option (Int):=ji some a0 a1
theorem yO{R} kx a0 a1: @ji R kx a0 a1=(gq a0 a1).bind kx:=by
 unfold gq ji
 exact ac fun _=>ac fun _=>ae (ae rfl rfl) (ae rfl (ae rfl (ae rfl rfl)))
abbrev tj:af:=.fx [.val false (.int .i64), .val false (.int .i64)] (Int) (fun z=>gq z.1 z.2.1) (fun b=>(.one ⟨false,[(.v (.int .i64 b))]⟩,[]))
theorem zZ:ag C0 160 tj:=
 ag.fx (e:=false) (.cons Cv (.nil)) mixed Tryz.func160 (by kernel_rfl) (by kernel_rfl) aG 1 ai (fun z=>(by kernel_rfl:_=ji (fun b=>some (tj.enc b)) z.1 z.2.1).trans (yO _ z.1 z.2.1))
def jP{R:Type}(kx:Int->Option R)(a0:Nm)(a1:Nm):Option R:=
 Option.bind (bJ a0 a1) fun y524=>
 Option.bind (df y524) fun y525=>
 kx y525
def fl(a0:Nm)(a1:Nm):Option (Int):=jP some a0 a1
theorem zJ{R} kx a0 a1: @jP R kx a0 a1=(fl a0 a1).bind kx:=by
 unfold fl jP
 exact ac fun _=>ac fun _=>rfl
abbrev uG:af:=.fx [.val true yN, .val true yN] (Int) (fun z=>fl z.1 z.2.1) (fun b=>(.one ⟨false,[(.v (.int .i64 b))]⟩,[]))
theorem tq:ag C0 161 uG:=
 ag.fx (e:=false) (.cons iM (.cons rB (.nil))) mixed Tryz.func161 (by kernel_rfl) (by kernel_rfl) aG 1 ai (fun z=>(by kernel_rfl:_=jP (fun b=>some (uG.enc b)) z.1 z.2.1).trans (zJ _ z.1 z.2.1))
def tw:List (FuncId×af):=[]
abbrev fh:LS:=⟨[(false,[(.int .i64)]),(false,[(.sl (.int .i64))]),(false,[(.int .i64)]),(false,[(.int .i64)])],[],[]⟩
abbrev wR:LS:=⟨[(false,[(.int .i64)]),(false,[(.int .i64)])],[],[]⟩
abbrev Ef(v0:Int)(v1:Int):=((((v0,()),(v1,()),()),(),()):wR.T)
abbrev wS:LS:=⟨[(false,[.undef]),(false,[(.int .i64)])],[],[]⟩
abbrev Eg(v0:Int):=(((((),()),(v0,()),()),(),()):wS.T)
abbrev gn:List (Ex×LS):=[(.ret,wR),(.exit 0,wS)]
abbrev uN(x3:Int)(x6:List Int)(x7:Int)(x8:Int):=((((x3,()),(x6,()),(x7,()),(x8,()),()),(),()):fh.T)
def lC{R:Type}(nx:fh.T->Option R)(hx:ma R gn)(x3:Int)(x6:List Int)(x7:Int)(x8:Int):Option R:=
 cond (decide (x8<x7))
 (Option.bind (vu x6 x8) fun y532=>
  cond (y532 !=x3)
  (hx.1 (Ef y532 x3))
  (nx (uN x3 x6 x7 (IntKind.wrap .i64 (x8+(1:Int))))))
 (hx.2.1 (Eg x3))
def vo{R:Type}(nx:fh.T->Option R)(hx:ma R gn)(z:fh.T):Option R:=lC nx hx z.1.1.1 z.1.2.1.1 z.1.2.2.1.1 z.1.2.2.2.1.1
theorem xj:fR @vo:=fun R nx hx z=>by
 show lC nx hx z.1.1.1 z.1.2.1.1 z.1.2.2.1.1 z.1.2.2.2.1.1=(lC (fun y=>some (.inl y)) (rf gn fun x=>some (.inr x)) z.1.1.1 z.1.2.1.1 z.1.2.2.1.1 z.1.2.2.2.1.1).bind (tE nx hx)
 unfold lC
 exact ae (ac fun _=>ae rfl rfl) rfl
def nJ:fh.T->Option (wL gn):=D4 @vo
theorem Gv x3 x6 x7 x8:nJ (uN x3 x6 x7 x8)=lC nJ (rf gn some) x3 x6 x7 x8:=kU xj _
def pm:dz:=⟨[3,6,7,8],[],[2,3],[]⟩
def tF:iG Rv:=⟨fun k=>match k with|4=>pm|_=>⟨[],[],[],[]⟩,fun k=>match k with|4=>some (fZ fh gn nJ)|_=>none⟩
theorem Gt(n:Nat)(z:fh.T)(k:Ex->kf->Option Rv):eg ⟨18,18⟩ pm (vt (om C0 tw) ⟨18,18⟩ tF 1 (dt Tryz.f159 3)) (n+1) (fh.enc z) k=
 vo (fun y=>eg ⟨18,18⟩ pm (vt (om C0 tw) ⟨18,18⟩ tF 1 (dt Tryz.f159 3)) n (fh.enc y) k) (hK k gn) z:=by kernel_rfl
theorem IE:bC (om C0 tw) ⟨18,18⟩ tF 1 (fe (cu Tryz.f159)):=by
 have hl:fe (cu Tryz.f159)=[dt Tryz.f159 3]:=by kernel_rfl
 rw[hl]
 exact bC.cons (n:=4) (lh:=pm) (S:=fZ fh gn nJ) (by kernel_rfl) rfl rfl (ky xj Gt)
  (bC.nil)
def qJ{R:Type}(kx:Int->Option R)(a0:(List Int)):Option R:=
 Option.bind (nJ (uN (0:Int) a0 ((List.length a0:Nat):Int) (0:Int))) (sj gn
 (fun e533=>
  kx (e533.1.1.1:Int),fun e536=>
  kx (e536.1.2.1.1:Int),()))
def qp(a0:(List Int)):Option (Int):=qJ some a0
theorem Hy{R} kx a0: @qJ R kx a0=(qp a0).bind kx:=by
 unfold qp qJ
 exact dM ⟨fun _=>rfl,fun _=>rfl,trivial⟩
abbrev C8:af:=.fx [.val false (.slice (.int .i64))] (Int) (fun z=>qp z.1) (fun b=>(.one ⟨false,[(.v (.int .i64 b))]⟩,[]))
theorem IM:ag C0 159 C8:=
 ag.fx (e:=false) (t:=tw) (.nil) mixed Tryz.func159 (by kernel_rfl) (by kernel_rfl) tF 1 IE (fun z=>(by kernel_rfl:_=qJ (fun b=>some (C8.enc b)) z.1).trans (Hy _ z.1))
def iC{R:Type}(kx:Int->Option R)(a0:Ln)(a1:Ln):Option R:=
 Option.bind (gq a0.1 a1.1) fun y521=>
 Option.bind (fl a0.2 a1.2) fun y526=>
 Option.bind (qp [y521,y526]) fun y538=>
 kx y538
def fv(a0:Ln)(a1:Ln):Option (Int):=iC some a0 a1
theorem xV{R} kx a0 a1: @iC R kx a0 a1=(fv a0 a1).bind kx:=by
 unfold fv iC
 exact ac fun _=>ac fun _=>ac fun _=>rfl
abbrev nr:af:=.fx [.val true yL, .val true yL] (Int) (fun z=>fv z.1 z.2.1) (fun b=>(.one ⟨false,[(.v (.int .i64 b))]⟩,[]))
theorem yZ:ag C0 158 nr:=
 ag.fx (e:=false) (.cons zZ (.cons tq (.cons IM (.nil)))) mixed Tryz.func158 (by kernel_rfl) (by kernel_rfl) aG 1 ai (fun z=>(by kernel_rfl:_=iC (fun b=>some (nr.enc b)) z.1 z.2.1).trans (xV _ z.1 z.2.1))
def aI:List (FuncId×af):=[(158,nr)]
abbrev am:LS:=⟨[(false,[(.view (.arg 0) true 0 yL)]),(false,[(.int .i64)]),(false,[(.int .i64)]),(false,[(.fn 158 [])]),(false,[(.int .i64)]),(false,[(.int .i64)])],[],[(.own yL)]⟩
abbrev cW:LS:=⟨[(false,[(.view (.arg 0) true 0 yL)]),(false,[(.int .i64)]),(false,[(.int .i64)]),(false,[(.fn 158 [])]),(false,[(.int .i64)])],[],[(.own yL)]⟩
abbrev cS v0(v1:Int)(v2:Int)(v3:Int) v4:=((((v0,()),(v1,()),(v2,()),((),()),(v3,()),()),(),(v4,())):cW.T)
abbrev aw:List (Ex×LS):=[(.exit 2,cW)]
abbrev ca x0(x1:Int)(x2:Int)(x8:Int)(x9:Int) o:=((((x0,()),(x1,()),(x2,()),((),()),(x8,()),(x9,()),()),(),(o,())):am.T)
def aB{R:Type}(nx:am.T->Option R)(hx:ma R aw)(x0:List Ln)(x1:Int)(x2:Int)(x8:Int)(x9:Int)(o:List Ln):Option R:=
 cond (decide (x9>x1))
 (Option.bind (vu x0 x9) fun y512=>
  Option.bind (vu x0 (IntKind.wrap .i64 (x9-(1:Int)))) fun y513=>
  Option.bind (fv y512 y513) fun y539=>
  cond (decide (y539<(0:Int)))
  (Option.bind (vu x0 (IntKind.wrap .i64 (x9-(1:Int)))) fun y540=>
   Option.bind (vu x0 x9) fun y541=>
   Option.bind (vu x0 x9) fun _=>
   Option.bind (vu (List.set x0 (0+(Int.toNat x9)) y540) (IntKind.wrap .i64 (x9-(1:Int)))) fun _=>
   nx (ca (List.set (List.set x0 (0+(Int.toNat x9)) y540) (0+(Int.toNat (IntKind.wrap .i64 (x9-(1:Int))))) y541) x1 x2 x8 (IntKind.wrap .i64 (x9-(1:Int))) (List.set (List.set o (0+(Int.toNat x9)) y540) (0+(Int.toNat (IntKind.wrap .i64 (x9-(1:Int))))) y541)))
  (hx.1 (cS x0 x1 x2 x8 o)))
 (hx.1 (cS x0 x1 x2 x8 o))
def cd{R:Type}(nx:am.T->Option R)(hx:ma R aw)(z:am.T):Option R:=aB nx hx z.1.1.1 z.1.2.1.1 z.1.2.2.1.1 z.1.2.2.2.2.1.1 z.1.2.2.2.2.2.1.1 z.2.2.1
theorem cZ:fR @cd:=fun R nx hx z=>by
 show aB nx hx z.1.1.1 z.1.2.1.1 z.1.2.2.1.1 z.1.2.2.2.2.1.1 z.1.2.2.2.2.2.1.1 z.2.2.1=(aB (fun y=>some (.inl y)) (rf aw fun x=>some (.inr x)) z.1.1.1 z.1.2.1.1 z.1.2.2.1.1 z.1.2.2.2.2.1.1 z.1.2.2.2.2.2.1.1 z.2.2.1).bind (tE nx hx)
 unfold aB
 exact ae (ac fun _=>ac fun _=>ac fun _=>ae (ac fun _=>ac fun _=>ac fun _=>ac fun _=>rfl) rfl) rfl
def aT:am.T->Option (wL aw):=D4 @cd
theorem bY x0 x1 x2 x8 x9 o:aT (ca x0 x1 x2 x8 x9 o)=aB aT (rf aw some) x0 x1 x2 x8 x9 o:=kU cZ _
def br:dz:=⟨[0,1,2,3,8,9],[],[0,1,2,3,8],[]⟩
abbrev al:LS:=⟨[(false,[(.view (.arg 0) true 0 yL)]),(false,[(.int .i64)]),(false,[(.int .i64)]),(false,[(.fn 158 [])]),(false,[(.int .i64)])],[],[(.own yL)]⟩
abbrev cV:LS:=⟨[],[],[(.own yL)]⟩
abbrev bU v0:=(((),(),(v0,())):cV.T)
abbrev au:List (Ex×LS):=[(.exit 0,cV)]
abbrev aA x0(x1:Int)(x2:Int)(x8:Int) o:=((((x0,()),(x1,()),(x2,()),((),()),(x8,()),()),(),(o,())):al.T)
def an{R:Type}(nx:al.T->Option R)(hx:ma R au)(x0:List Ln)(x1:Int)(x2:Int)(x8:Int)(o:List Ln):Option R:=
 cond (decide (x8<x2))
 (Option.bind (aT (ca x0 x1 x2 x8 x8 o)) (sj aw
  (fun e544=>
   nx (aA (e544.1.1.1:List Ln) (e544.1.2.1.1:Int) (e544.1.2.2.1.1:Int) (IntKind.wrap .i64 ((e544.1.2.2.2.2.1.1:Int)+(1:Int))) (e544.2.2.1:List Ln)),())))
 (hx.1 (bU o))
def cc{R:Type}(nx:al.T->Option R)(hx:ma R au)(z:al.T):Option R:=an nx hx z.1.1.1 z.1.2.1.1 z.1.2.2.1.1 z.1.2.2.2.2.1.1 z.2.2.1
theorem cY:fR @cc:=fun R nx hx z=>by
 show an nx hx z.1.1.1 z.1.2.1.1 z.1.2.2.1.1 z.1.2.2.2.2.1.1 z.2.2.1=(an (fun y=>some (.inl y)) (rf au fun x=>some (.inr x)) z.1.1.1 z.1.2.1.1 z.1.2.2.1.1 z.1.2.2.2.2.1.1 z.2.2.1).bind (tE nx hx)
 unfold an
 exact ae (dM ⟨fun _=>rfl,trivial⟩) rfl
def ao:al.T->Option (wL au):=D4 @cc
theorem aR x0 x1 x2 x8 o:ao (aA x0 x1 x2 x8 o)=an ao (rf au some) x0 x1 x2 x8 o:=kU cY _
def bo:dz:=⟨[0,1,2,3,8],[],[],[]⟩
def aK:iG Rv:=⟨fun k=>match k with|5=>br|2=>bo|_=>⟨[],[],[],[]⟩,fun k=>match k with|5=>some (fZ am aw aT)|2=>some (fZ al au ao)|_=>none⟩
theorem gl(n:Nat)(z:am.T)(k:Ex->kf->Option Rv):eg ⟨53,53⟩ br (vt (om C0 aI) ⟨53,53⟩ aK 1 (dt Tryz.f269 4)) (n+1) (am.enc z) k=
 cd (fun y=>eg ⟨53,53⟩ br (vt (om C0 aI) ⟨53,53⟩ aK 1 (dt Tryz.f269 4)) n (am.enc y) k) (hK k aw) z:=by kernel_rfl
theorem gk(n:Nat)(z:al.T)(k:Ex->kf->Option Rv):eg ⟨53,53⟩ bo (vt (om C0 aI) ⟨53,53⟩ aK 1 (dt Tryz.f269 1)) (n+1) (al.enc z) k=
 cc (fun y=>eg ⟨53,53⟩ bo (vt (om C0 aI) ⟨53,53⟩ aK 1 (dt Tryz.f269 1)) n (al.enc y) k) (hK k au) z:=by kernel_rfl
theorem gA:bC (om C0 aI) ⟨53,53⟩ aK 1 (fe (cu Tryz.f269)):=by
 have hl:fe (cu Tryz.f269)=[dt Tryz.f269 1,dt Tryz.f269 4]:=by kernel_rfl
 rw[hl]
 exact bC.cons (n:=2) (lh:=bo) (S:=fZ al au ao) (by kernel_rfl) rfl rfl (ky cY gk)
  (bC.cons (n:=5) (lh:=br) (S:=fZ am aw aT) (by kernel_rfl) rfl rfl (ky cZ gl)
  (bC.nil))
def aW{R:Type}(kx:(List Ln)->Option R)(a0:List Ln)(a1:Int)(a2:Int):Option R:=
 Option.bind (ao (aA a0 a1 a2 (IntKind.wrap .i64 (a1+(1:Int))) a0)) (sj au
 (fun e550=>
  kx (e550.2.2.1:List Ln),()))
def aJ(a0:List Ln)(a1:Int)(a2:Int):Option ((List Ln)):=aW some a0 a1 a2
theorem gv{R} kx a0 a1 a2: @aW R kx a0 a1 a2=(aJ a0 a1 a2).bind kx:=by
 unfold aJ aW
 exact dM ⟨fun _=>rfl,trivial⟩
abbrev cf:af:=.fx [.io yL, .val false (.int .i64), .val false (.int .i64), .clo 158 []] ((List Ln)) (fun z=>aJ z.1 z.2.1 z.2.2.1) (fun b=>(.tup [],[(.own yL b)]))
theorem gE:ag C0 269 cf:=
 ag.fx (e:=false) (t:=aI) (.cons yZ (.nil)) mixed Tryz.func269 (by kernel_rfl) (by kernel_rfl) aK 1 gA (fun z=>(by kernel_rfl:_=aW (fun b=>some (cf.enc b)) z.1 z.2.1 z.2.2.1).trans (gv _ z.1 z.2.1 z.2.2.1))
def bP:List (FuncId×af):=[(269,cf)]
abbrev az:LS:=⟨[(false,[(.view (.arg 0) true 0 yL)]),(false,[(.int .i64)]),(false,[(.int .i64)]),(false,[(.int .i64)]),(false,[(.fn 158 [])]),(false,[.bool]),(false,[.bool])],[],[(.own yL)]⟩
abbrev dK:LS:=⟨[],[],[(.own yL)]⟩
abbrev ic v0:=(((),(),(v0,())):dK.T)
abbrev aC:List (Ex×LS):=[(.ret,dK)]
abbrev dV x0(x1:Int)(x2:Int)(x3:Int)(x10:Bool)(x11:Bool) o:=((((x0,()),(x1,()),(x2,()),(x3,()),((),()),(x10,()),(x11,()),()),(),(o,())):az.T)
def aP{R:Type}(_nx:az.T->Option R)(hx:ma R aC)(x0:List Ln)(x1:Int)(x2:Int)(x3:Int)(x10:Bool)(_x11:Bool)(o:List Ln):Option R:=
 cond (decide ((IntKind.wrap .i64 (x2-x1))<=(12:Int)))
 (cond (decide ((List.length o)=(List.length x0)))
  (Option.bind (aJ x0 x1 x2) fun y552=>
   cond (decide ((List.length x0)=(List.length x0)))
   (cond (decide ((List.length x0)=(List.length x0)))
    (hx.1 (ic y552))
    none)
   none)
  none)
 (cond (x3==(0:Int))
  none
  (cond (!x10)
   none
   none))
def cn{R:Type}(nx:az.T->Option R)(hx:ma R aC)(z:az.T):Option R:=aP nx hx z.1.1.1 z.1.2.1.1 z.1.2.2.1.1 z.1.2.2.2.1.1 z.1.2.2.2.2.2.1.1 z.1.2.2.2.2.2.2.1.1 z.2.2.1
theorem dN:fR @cn:=fun R nx hx z=>by
 show aP nx hx z.1.1.1 z.1.2.1.1 z.1.2.2.1.1 z.1.2.2.2.1.1 z.1.2.2.2.2.2.1.1 z.1.2.2.2.2.2.2.1.1 z.2.2.1=(aP (fun y=>some (.inl y)) (rf aC fun x=>some (.inr x)) z.1.1.1 z.1.2.1.1 z.1.2.2.1.1 z.1.2.2.2.1.1 z.1.2.2.2.2.2.1.1 z.1.2.2.2.2.2.2.1.1 z.2.2.1).bind (tE nx hx)
 unfold aP
 exact ae (ae (ac fun _=>ae (ae rfl rfl) rfl) rfl) (ae rfl (ae rfl rfl))
def bg:az.T->Option (wL aC):=D4 @cn
theorem iD x0 x1 x2 x3 x10 x11 o:bg (dV x0 x1 x2 x3 x10 x11 o)=aP bg (rf aC some) x0 x1 x2 x3 x10 x11 o:=kU dN _
def bH:dz:=⟨[0,1,2,3,4,10,11],[],[],[]⟩
def bQ:iG Rv:=⟨fun k=>match k with|3=>bH|_=>⟨[],[],[],[]⟩,fun k=>match k with|3=>some (fZ az aC bg)|_=>none⟩
theorem iy(n:Nat)(z:az.T)(k:Ex->kf->Option Rv):eg ⟨148,148⟩ bH (vt (om C0 bP) ⟨148,148⟩ bQ 1 (dt Tryz.f221 2)) (n+1) (az.enc z) k=
 cn (fun y=>eg ⟨148,148⟩ bH (vt (om C0 bP) ⟨148,148⟩ bQ 1 (dt Tryz.f221 2)) n (az.enc y) k) (hK k aC) z:=by kernel_rfl
theorem iV:bC (om C0 bP) ⟨148,148⟩ bQ 1 (fe (cu Tryz.f221)):=by
 have hl:fe (cu Tryz.f221)=[dt Tryz.f221 2]:=by kernel_rfl
 rw[hl]
 exact bC.cons (n:=3) (lh:=bH) (S:=fZ az aC bg) (by kernel_rfl) rfl rfl (ky dN iy)
  (bC.nil)
def bj{R:Type}(kx:(List Ln)->Option R)(a0:List Ln)(a1:Int)(a2:Int)(a3:Int):Option R:=
 Option.bind (bg (dV a0 a1 a2 a3 Bool.true Bool.true a0)) (sj aC
 (fun e553=>
  kx (e553.2.2.1:List Ln),()))
def bi(a0:List Ln)(a1:Int)(a2:Int)(a3:Int):Option ((List Ln)):=bj some a0 a1 a2 a3
theorem iF{R} kx a0 a1 a2 a3: @bj R kx a0 a1 a2 a3=(bi a0 a1 a2 a3).bind kx:=by
 unfold bi bj
 exact dM ⟨fun _=>rfl,trivial⟩
abbrev ef:af:=.fx [.io yL, .val false (.int .i64), .val false (.int .i64), .val false (.int .i64), .clo 158 []] ((List Ln)) (fun z=>bi z.1 z.2.1 z.2.2.1 z.2.2.2.1) (fun b=>(.tup [],[(.own yL b)]))
theorem iW:ag C0 221 ef:=
 ag.fx (e:=false) (t:=bP) (.cons gE (.nil)) mixed Tryz.func221 (by kernel_rfl) (by kernel_rfl) bQ 1 iV (fun z=>(by kernel_rfl:_=bj (fun b=>some (ef.enc b)) z.1 z.2.1 z.2.2.1 z.2.2.2.1).trans (iF _ z.1 z.2.1 z.2.2.1 z.2.2.2.1))
def bc{R:Type}(kx:(List Ln)->Option R)(a0:List Ln):Option R:=
 Option.bind (md (IntKind.wrap IntKind.u64 ((List.length a0:Nat):Int))) fun y486=>
 cond (decide ((List.length a0)=(List.length a0)))
 (Option.bind (bi a0 (0:Int) ((List.length a0:Nat):Int) y486) fun y555=>
  cond (decide ((List.length a0)=(List.length a0)))
  (cond (decide ((List.length a0)=(List.length a0)))
   (cond (decide ((List.length a0)=(List.length a0)))
    (kx y555)
    none)
   none)
  none)
 none
def aL(a0:List Ln):Option ((List Ln)):=bc some a0
theorem gC{R} kx a0: @bc R kx a0=(aL a0).bind kx:=by
 unfold aL bc
 exact ac fun _=>ae (ac fun _=>ae (ae (ae rfl rfl) rfl) rfl) rfl
abbrev dB:af:=.fx [.io yL, .clo 158 []] ((List Ln)) (fun z=>aL z.1) (fun b=>(.tup [],[(.own yL b)]))
theorem gJ:ag C0 157 dB:=
 ag.fx (e:=false) (.cons EQ (.cons iW (.nil))) mixed Tryz.func157 (by kernel_rfl) (by kernel_rfl) aG 1 ai (fun z=>(by kernel_rfl:_=bc (fun b=>some (dB.enc b)) z.1).trans (gC _ z.1))
def gX{R:Type}(kx:(List Ln)×Int->Option R)(a0:List Ln):Option R:=
 Option.bind (aH a0) fun y473=>
 cond y473
 (kx ([],(2:Int)))
 (cond (decide ((List.length a0)=(List.length a0)))
  (Option.bind (aL a0) fun y556=>
   cond (decide ((List.length a0)=(List.length a0)))
   (cond (decide ((List.length a0)=(List.length a0)))
    (cond (decide ((List.length a0)=(List.length a0)))
     (kx (y556,(0:Int)))
     none)
    none)
   none)
  none)
def bV(a0:List Ln):Option ((List Ln)×Int):=gX some a0
theorem zP{R} kx a0: @gX R kx a0=(bV a0).bind kx:=by
 unfold bV gX
 exact ac fun _=>ae rfl (ae (ac fun _=>ae (ae (ae rfl rfl) rfl) rfl) rfl)
abbrev pP:af:=.fx [.io yL] ((List Ln)×Int) (fun z=>bV z.1) (fun b=>(.tup [⟨false,[(.own yL b.1)]⟩,⟨false,[(.v (.int .i64 b.2))]⟩],[.undef]))
theorem tu:ag C0 84 pP:=
 ag.fxTake (e:=false) (.cons fN (.cons gJ (.nil))) mixed Tryz.func84 (by kernel_rfl) (by kernel_rfl) aG 1 ai (fun z=>(by kernel_rfl:_=gX (fun b=>some (pP.enc b)) z.1).trans (zP _ z.1))
def lq{R:Type}(kx:Pt×Bool->Option R)(a0:Ln)(a1:Ln):Option R:=
 Option.bind (bv a0) fun y560=>
 Option.bind (bv a1) fun y561=>
 Option.bind (eD y560 y561) fun y562=>
 Option.bind (bR a0.2 y561.2) fun y563=>
 Option.bind (bR a1.2 y560.2) fun y564=>
 Option.bind (bJ y563 y564) fun y565=>
 Option.bind (dX y565 y562) fun y566=>
 Option.bind (bR a1.2 y560.1) fun y567=>
 Option.bind (bR a0.2 y561.1) fun y568=>
 Option.bind (bJ y567 y568) fun y569=>
 Option.bind (dX y569 y562) fun y570=>
 cond y566.2
 (kx ((y566.1,y570.1),y570.2))
 (kx ((y566.1,y570.1),Bool.false))
def gN(a0:Ln)(a1:Ln):Option (Pt×Bool):=lq some a0 a1
theorem Cd{R} kx a0 a1: @lq R kx a0 a1=(gN a0 a1).bind kx:=by
 unfold gN lq
 exact ac fun _=>ac fun _=>ac fun _=>ac fun _=>ac fun _=>ac fun _=>ac fun _=>ac fun _=>ac fun _=>ac fun _=>ac fun _=>ae rfl rfl
abbrev xc:af:=.fx [.val true yL, .val true yL] (Pt×Bool) (fun z=>gN z.1 z.2.1) (fun b=>(.tup [⟨true,[(.v (.int .i64 b.1.1.1)),(.v (.int .i64 b.1.1.2.1)),(.v (.int .i64 b.1.1.2.2)),(.v (.int .i64 b.1.2.1)),(.v (.int .i64 b.1.2.2.1)),(.v (.int .i64 b.1.2.2.2))]⟩,⟨false,[(.v (.bool b.2))]⟩],[]))
theorem DR:ag C0 87 xc:=
 ag.fx (e:=false) (.cons jg (.cons tr (.cons kB (.cons iM (.cons rA (.nil)))))) mixed Tryz.func87 (by kernel_rfl) (by kernel_rfl) aG 1 ai (fun z=>(by kernel_rfl:_=lq (fun b=>some (xc.enc b)) z.1 z.2.1).trans (Cd _ z.1 z.2.1))
def ln{R:Type}(kx:(List Ln)×Int->Option R)(a0:Ln)(a1:Ln):Option R:=
 Option.bind (bh a0) fun y453=>
 cond (!y453)
 (kx ([],(1:Int)))
 (Option.bind (bh a1) fun y454=>
  cond (!y454)
  (kx ([],(1:Int)))
  (cond ((a0.1==a1.1)&&(((a0.2.1==a1.2.1)&&((a0.2.2.1==a1.2.2.1)&&((a0.2.2.2==a1.2.2.2)&&Bool.true)))&&Bool.true))
   (kx ([],(7:Int)))
   (cond ((Int.tmod (IntKind.wrap .i64 (a0.1+a1.1)) (2:Int))==(1:Int))
    (kx ([],(0:Int)))
    (cond (a0.1==a1.1)
     (Option.bind (de a0.2 a1.2) fun y455=>
      Option.bind (gw y455) fun y458=>
      Option.bind (bV [(a0.1,y458)]) fun y557=>
      kx y557)
     (Option.bind (gN a0 a1) fun y571=>
      cond (!y571.2)
      (kx ([],(2:Int)))
      (Option.bind (dL y571.1 (IntKind.wrap .i64 (Int.tdiv (IntKind.wrap .i64 (a0.1+a1.1)) (2:Int)))) fun y572=>
       Option.bind (dL y571.1 (Int.tmod (IntKind.wrap .i64 ((IntKind.wrap .i64 (Int.tdiv (IntKind.wrap .i64 (a0.1+a1.1)) (2:Int)))+(4:Int))) (8:Int))) fun y573=>
       Option.bind (bV [y572,y573]) fun y574=>
       kx y574))))))
def jx(a0:Ln)(a1:Ln):Option ((List Ln)×Int):=ln some a0 a1
theorem Ca{R} kx a0 a1: @ln R kx a0 a1=(jx a0 a1).bind kx:=by
 unfold jx ln
 exact ac fun _=>ae rfl (ac fun _=>ae rfl (ae rfl (ae rfl (ae (ac fun _=>ac fun _=>ac fun _=>rfl) (ac fun _=>ae rfl (ac fun _=>ac fun _=>ac fun _=>rfl))))))
abbrev rl:af:=.fx [.val true yL, .val true yL] ((List Ln)×Int) (fun z=>jx z.1 z.2.1) (fun b=>(.tup [⟨false,[(.own yL b.1)]⟩,⟨false,[(.v (.int .i64 b.2))]⟩],[]))
theorem DP:ag C0 33 rl:=
 ag.fx (e:=false) (.cons gi (.cons lk (.cons xq (.cons tu (.cons DR (.cons ll (.nil))))))) mixed Tryz.func33 (by kernel_rfl) (by kernel_rfl) aG 1 ai (fun z=>(by kernel_rfl:_=ln (fun b=>some (rl.enc b)) z.1 z.2.1).trans (Ca _ z.1 z.2.1))
def qM{R:Type}(kx:Bool->Option R)(a0:Nm)(a1:Nm):Option R:=
 Option.bind (cx a0) fun y595=>
 cond y595
 (Option.bind (cx a1) fun y596=>
  kx y596)
 (kx Bool.false)
def qs(a0:Nm)(a1:Nm):Option (Bool):=qM some a0 a1
theorem Ez{R} kx a0 a1: @qM R kx a0 a1=(qs a0 a1).bind kx:=by
 unfold qs qM
 exact ac fun _=>ae (ac fun _=>rfl) rfl
abbrev zu:af:=.fx [.val true yN, .val true yN] (Bool) (fun z=>qs z.1 z.2.1) (fun b=>(.one ⟨false,[(.v (.bool b))]⟩,[]))
theorem Gn:ag C0 165 zu:=
 ag.fx (e:=false) (.cons gV (.nil)) mixed Tryz.func165 (by kernel_rfl) (by kernel_rfl) aG 1 ai (fun z=>(by kernel_rfl:_=qM (fun b=>some (zu.enc b)) z.1 z.2.1).trans (Ez _ z.1 z.2.1))
def mY{R:Type}(kx:Int->Option R)(a0:Nm)(a1:Nm):Option R:=
 Option.bind (qs a0 a1) fun y597=>
 cond (!y597)
 (kx (0:Int))
 (Option.bind (fl a0 a1) fun y598=>
  kx y598)
def mO(a0:Nm)(a1:Nm):Option (Int):=mY some a0 a1
theorem AW{R} kx a0 a1: @mY R kx a0 a1=(mO a0 a1).bind kx:=by
 unfold mO mY
 exact ac fun _=>ae rfl (ac fun _=>rfl)
abbrev qx:af:=.fx [.val true yN, .val true yN] (Int) (fun z=>mO z.1 z.2.1) (fun b=>(.one ⟨false,[(.v (.int .i64 b))]⟩,[]))
theorem Cw:ag C0 88 qx:=
 ag.fx (e:=false) (.cons Gn (.cons tq (.nil))) mixed Tryz.func88 (by kernel_rfl) (by kernel_rfl) aG 1 ai (fun z=>(by kernel_rfl:_=mY (fun b=>some (qx.enc b)) z.1 z.2.1).trans (AW _ z.1 z.2.1))
def qk:List (FuncId×af):=[(88,qx)]
abbrev ed:LS:=⟨[(false,[(.sl yL)]),(false,[(.ptr 3 0)]),(false,[.bool]),(false,[(.int .i64)])],[(false,[(.int .i64),(.int .i64),(.int .i64),(.int .i64)])],[]⟩
abbrev uv:LS:=⟨[(false,[.bool]),(false,[.bool])],[],[]⟩
abbrev um(v0:Bool)(v1:Bool):=((((v0,()),(v1,()),()),(),()):uv.T)
abbrev uw:LS:=⟨[(false,[.undef]),(false,[.bool])],[],[]⟩
abbrev pH(v0:Bool):=(((((),()),(v0,()),()),(),()):uw.T)
abbrev eS:List (Ex×LS):=[(.ret,uv),(.exit 0,uw)]
abbrev dE x0(x5:Bool)(x6:Int)(b0_0:Int)(b0_1:Int)(b0_2:Int)(b0_3:Int):=((((x0,()),((),()),(x5,()),(x6,()),()),((b0_0,b0_1,b0_2,b0_3,()),()),()):ed.T)
def gY{R:Type}(nx:ed.T->Option R)(hx:ma R eS)(x0:List Ln)(x5:Bool)(x6:Int)(b0_0:Int)(b0_1:Int)(b0_2:Int)(b0_3:Int):Option R:=
 cond (decide (x6<((List.length x0:Nat):Int)))
 (cond (decide (x6>(0:Int)))
  (Option.bind (vu x0 (IntKind.wrap .i64 (x6-(1:Int)))) fun y585=>
   Option.bind (vu x0 x6) fun y586=>
   cond (decide (y585.1>y586.1))
   (hx.1 (um Bool.false x5))
   (Option.bind (vu x0 (IntKind.wrap .i64 (x6-(1:Int)))) fun y587=>
    Option.bind (vu x0 x6) fun y588=>
    cond (y587.1==y588.1)
    (Option.bind (vu x0 (IntKind.wrap .i64 (x6-(1:Int)))) fun y589=>
     Option.bind (vu x0 x6) fun y590=>
     Option.bind (mO y589.2 y590.2) fun y599=>
     cond (decide (y599>=(0:Int)))
     (hx.1 (um Bool.false x5))
     (cond x5
      (nx (dE x0 Bool.true (IntKind.wrap .i64 (x6+(1:Int))) b0_0 b0_1 b0_2 b0_3))
      (Option.bind (vu x0 x6) fun y600=>
       nx (dE x0 ((y600.1==b0_0)&&(((y600.2.1==b0_1)&&((y600.2.2.1==b0_2)&&((y600.2.2.2==b0_3)&&Bool.true)))&&Bool.true)) (IntKind.wrap .i64 (x6+(1:Int))) b0_0 b0_1 b0_2 b0_3))))
    (cond x5
     (nx (dE x0 Bool.true (IntKind.wrap .i64 (x6+(1:Int))) b0_0 b0_1 b0_2 b0_3))
     (Option.bind (vu x0 x6) fun y601=>
      nx (dE x0 ((y601.1==b0_0)&&(((y601.2.1==b0_1)&&((y601.2.2.1==b0_2)&&((y601.2.2.2==b0_3)&&Bool.true)))&&Bool.true)) (IntKind.wrap .i64 (x6+(1:Int))) b0_0 b0_1 b0_2 b0_3)))))
  (cond x5
   (nx (dE x0 Bool.true (IntKind.wrap .i64 (x6+(1:Int))) b0_0 b0_1 b0_2 b0_3))
   (Option.bind (vu x0 x6) fun y602=>
    nx (dE x0 ((y602.1==b0_0)&&(((y602.2.1==b0_1)&&((y602.2.2.1==b0_2)&&((y602.2.2.2==b0_3)&&Bool.true)))&&Bool.true)) (IntKind.wrap .i64 (x6+(1:Int))) b0_0 b0_1 b0_2 b0_3))))
 (hx.2.1 (pH x5))
def rD{R:Type}(nx:ed.T->Option R)(hx:ma R eS)(z:ed.T):Option R:=gY nx hx z.1.1.1 z.1.2.2.1.1 z.1.2.2.2.1.1 z.2.1.1.1 z.2.1.1.2.1 z.2.1.1.2.2.1 z.2.1.1.2.2.2.1
theorem uO:fR @rD:=fun R nx hx z=>by
 show gY nx hx z.1.1.1 z.1.2.2.1.1 z.1.2.2.2.1.1 z.2.1.1.1 z.2.1.1.2.1 z.2.1.1.2.2.1 z.2.1.1.2.2.2.1=(gY (fun y=>some (.inl y)) (rf eS fun x=>some (.inr x)) z.1.1.1 z.1.2.2.1.1 z.1.2.2.2.1.1 z.2.1.1.1 z.2.1.1.2.1 z.2.1.1.2.2.1 z.2.1.1.2.2.2.1).bind (tE nx hx)
 unfold gY
 exact ae (ae (ac fun _=>ac fun _=>ae rfl (ac fun _=>ac fun _=>ae (ac fun _=>ac fun _=>ac fun _=>ae rfl (ae rfl (ac fun _=>rfl))) (ae rfl (ac fun _=>rfl)))) (ae rfl (ac fun _=>rfl))) rfl
def fG:ed.T->Option (wL eS):=D4 @rD
theorem wm x0 x5 x6 b0_0 b0_1 b0_2 b0_3:fG (dE x0 x5 x6 b0_0 b0_1 b0_2 b0_3)=gY fG (rf eS some) x0 x5 x6 b0_0 b0_1 b0_2 b0_3:=kU uO _
def mT:dz:=⟨[0,3,5,6],[3],[4,5],[]⟩
def qw:iG Rv:=⟨fun k=>match k with|4=>mT|_=>⟨[],[],[],[]⟩,fun k=>match k with|4=>some (fZ ed eS fG)|_=>none⟩
theorem DZ(n:Nat)(z:ed.T)(k:Ex->kf->Option Rv):eg ⟨68,68⟩ mT (vt (om C0 qk) ⟨68,68⟩ qw 1 (dt Tryz.f34 3)) (n+1) (ed.enc z) k=
 rD (fun y=>eg ⟨68,68⟩ mT (vt (om C0 qk) ⟨68,68⟩ qw 1 (dt Tryz.f34 3)) n (ed.enc y) k) (hK k eS) z:=by kernel_rfl
theorem FO:bC (om C0 qk) ⟨68,68⟩ qw 1 (fe (cu Tryz.f34)):=by
 have hl:fe (cu Tryz.f34)=[dt Tryz.f34 3]:=by kernel_rfl
 rw[hl]
 exact bC.cons (n:=4) (lh:=mT) (S:=fZ ed eS fG) (by kernel_rfl) rfl rfl (ky uO DZ)
  (bC.nil)
def nC{R:Type}(kx:Bool->Option R)(a0:(List Ln))(a1:Ln):Option R:=
 Option.bind (fG (dE a0 Bool.false (0:Int) a1.1 a1.2.1 a1.2.2.1 a1.2.2.2)) (sj eS
 (fun e603=>
  kx (e603.1.1.1:Bool),fun e606=>
  kx (e606.1.2.1.1:Bool),()))
def fV(a0:(List Ln))(a1:Ln):Option (Bool):=nC some a0 a1
theorem EA{R} kx a0 a1: @nC R kx a0 a1=(fV a0 a1).bind kx:=by
 unfold fV nC
 exact dM ⟨fun _=>rfl,fun _=>rfl,trivial⟩
abbrev uI:af:=.fx [.val false (.slice yL), .val true yL] (Bool) (fun z=>fV z.1 z.2.1) (fun b=>(.one ⟨false,[(.v (.bool b))]⟩,[]))
theorem Gp:ag C0 34 uI:=
 ag.fx (e:=false) (t:=qk) (.cons Cw (.nil)) mixed Tryz.func34 (by kernel_rfl) (by kernel_rfl) qw 1 FO (fun z=>(by kernel_rfl:_=nC (fun b=>some (uI.enc b)) z.1 z.2.1).trans (EA _ z.1 z.2.1))
def jO{R:Type}(kx:Nm×Bool->Option R)(a0:Nm):Option R:=
 Option.bind (cw a0) fun y637=>
 Option.bind (cx y637) fun y638=>
 cond (!y638)
 (kx (((0:Int),((0:Int),(0:Int))),Bool.false))
 (kx (y637,Bool.true))
def fk(a0:Nm):Option (Nm×Bool):=jO some a0
theorem zI{R} kx a0: @jO R kx a0=(fk a0).bind kx:=by
 unfold fk jO
 exact ac fun _=>ac fun _=>ae rfl rfl
abbrev uF:af:=.fx [.val true yN] (Nm×Bool) (fun z=>fk z.1) (fun b=>(.tup [⟨true,[(.v (.int .i64 b.1.1)),(.v (.int .i64 b.1.2.1)),(.v (.int .i64 b.1.2.2))]⟩,⟨false,[(.v (.bool b.2))]⟩],[]))
theorem Bg:ag C0 166 uF:=
 ag.fx (e:=false) (.cons jh (.cons gV (.nil))) mixed Tryz.func166 (by kernel_rfl) (by kernel_rfl) aG 1 ai (fun z=>(by kernel_rfl:_=jO (fun b=>some (uF.enc b)) z.1).trans (zI _ z.1))
def iA{R:Type}(kx:Pt×Bool->Option R)(a0:Pt):Option R:=
 Option.bind (fk a0.1) fun y639=>
 Option.bind (fk a0.2) fun y640=>
 cond (!y639.2)
 (kx ((((0:Int),((0:Int),(0:Int))),((0:Int),((0:Int),(0:Int)))),Bool.false))
 (cond (!y640.2)
  (kx ((((0:Int),((0:Int),(0:Int))),((0:Int),((0:Int),(0:Int)))),Bool.false))
  (kx ((y639.1,y640.1),Bool.true)))
def dg(a0:Pt):Option (Pt×Bool):=iA some a0
theorem xT{R} kx a0: @iA R kx a0=(dg a0).bind kx:=by
 unfold dg iA
 exact ac fun _=>ac fun _=>ae rfl (ae rfl rfl)
abbrev sk:af:=.fx [.val true yP] (Pt×Bool) (fun z=>dg z.1) (fun b=>(.tup [⟨true,[(.v (.int .i64 b.1.1.1)),(.v (.int .i64 b.1.1.2.1)),(.v (.int .i64 b.1.1.2.2)),(.v (.int .i64 b.1.2.1)),(.v (.int .i64 b.1.2.2.1)),(.v (.int .i64 b.1.2.2.2))]⟩,⟨false,[(.v (.bool b.2))]⟩],[]))
theorem yX:ag C0 89 sk:=
 ag.fx (e:=false) (.cons Bg (.nil)) mixed Tryz.func89 (by kernel_rfl) (by kernel_rfl) aG 1 ai (fun z=>(by kernel_rfl:_=iA (fun b=>some (sk.enc b)) z.1).trans (xT _ z.1))
def jk{R:Type}(kx:Pt×Bool->Option R)(a0:Ln)(a1:Pt):Option R:=
 Option.bind (bh a0) fun y632=>
 cond (!y632)
 (kx ((((0:Int),((0:Int),(0:Int))),((0:Int),((0:Int),(0:Int)))),Bool.false))
 (Option.bind (bf a1) fun y633=>
  cond (!y633)
  (kx ((((0:Int),((0:Int),(0:Int))),((0:Int),((0:Int),(0:Int)))),Bool.false))
  (Option.bind (cP a0 a1) fun y634=>
   Option.bind (dg y634) fun y641=>
   kx y641))
def dy(a0:Ln)(a1:Pt):Option (Pt×Bool):=jk some a0 a1
theorem yR{R} kx a0 a1: @jk R kx a0 a1=(dy a0 a1).bind kx:=by
 unfold dy jk
 exact ac fun _=>ae rfl (ac fun _=>ae rfl (ac fun _=>ac fun _=>rfl))
abbrev ot:af:=.fx [.val true yL, .val true yP] (Pt×Bool) (fun z=>dy z.1 z.2.1) (fun b=>(.tup [⟨true,[(.v (.int .i64 b.1.1.1)),(.v (.int .i64 b.1.1.2.1)),(.v (.int .i64 b.1.1.2.2)),(.v (.int .i64 b.1.2.1)),(.v (.int .i64 b.1.2.2.1)),(.v (.int .i64 b.1.2.2.2))]⟩,⟨false,[(.v (.bool b.2))]⟩],[]))
theorem Aa:ag C0 35 ot:=
 ag.fx (e:=false) (.cons gi (.cons fq (.cons nw (.cons yX (.nil))))) mixed Tryz.func35 (by kernel_rfl) (by kernel_rfl) aG 1 ai (fun z=>(by kernel_rfl:_=jk (fun b=>some (ot.enc b)) z.1 z.2.1).trans (yR _ z.1 z.2.1))
def mF{R:Type}(kx:Pt->Option R)(a0:Pt)(a1:Pt):Option R:=
 Option.bind (fT a0 a1) fun y652=>
 Option.bind (gw y652.1) fun y653=>
 Option.bind (gw y652.2) fun y654=>
 kx (y653,y654)
def kL(a0:Pt)(a1:Pt):Option (Pt):=mF some a0 a1
theorem FU{R} kx a0 a1: @mF R kx a0 a1=(kL a0 a1).bind kx:=by
 unfold kL mF
 exact ac fun _=>ac fun _=>ac fun _=>rfl
abbrev Bt:af:=.fx [.val true yP, .val true yP] (Pt) (fun z=>kL z.1 z.2.1) (fun b=>(.one ⟨true,[(.v (.int .i64 b.1.1)),(.v (.int .i64 b.1.2.1)),(.v (.int .i64 b.1.2.2)),(.v (.int .i64 b.2.1)),(.v (.int .i64 b.2.2.1)),(.v (.int .i64 b.2.2.2))]⟩,[]))
theorem H9:ag C0 92 Bt:=
 ag.fx (e:=false) (.cons uY (.cons xq (.nil))) mixed Tryz.func92 (by kernel_rfl) (by kernel_rfl) aG 1 ai (fun z=>(by kernel_rfl:_=mF (fun b=>some (Bt.enc b)) z.1 z.2.1).trans (FU _ z.1 z.2.1))
def kG{R:Type}(kx:Ln×Int->Option R)(a0:Ln)(a1:Bool):Option R:=
 cond (!a1)
 (kx (((0:Int),((0:Int),((0:Int),(0:Int)))),(2:Int)))
 (Option.bind (bh a0) fun y659=>
  cond (!y659)
  (kx (((0:Int),((0:Int),((0:Int),(0:Int)))),(2:Int)))
  (kx (a0,(0:Int))))
def eY(a0:Ln)(a1:Bool):Option (Ln×Int):=kG some a0 a1
theorem A9{R} kx a0 a1: @kG R kx a0 a1=(eY a0 a1).bind kx:=by
 unfold eY kG
 exact ae rfl (ac fun _=>ae rfl rfl)
abbrev vV:af:=.fx [.val true yL, .val false .bool] (Ln×Int) (fun z=>eY z.1 z.2.1) (fun b=>(.tup [⟨true,[(.v (.int .i64 b.1.1)),(.v (.int .i64 b.1.2.1)),(.v (.int .i64 b.1.2.2.1)),(.v (.int .i64 b.1.2.2.2))]⟩,⟨false,[(.v (.int .i64 b.2))]⟩],[]))
theorem Cx:ag C0 91 vV:=
 ag.fx (e:=false) (.cons gi (.nil)) mixed Tryz.func91 (by kernel_rfl) (by kernel_rfl) aG 1 ai (fun z=>(by kernel_rfl:_=kG (fun b=>some (vV.enc b)) z.1 z.2.1).trans (A9 _ z.1 z.2.1))
def mj{R:Type}(kx:Ln×Int->Option R)(a0:Pt)(a1:Pt):Option R:=
 Option.bind (bf a0) fun y647=>
 cond (!y647)
 (kx (((0:Int),((0:Int),((0:Int),(0:Int)))),(1:Int)))
 (Option.bind (bf a1) fun y648=>
  cond (!y648)
  (kx (((0:Int),((0:Int),((0:Int),(0:Int)))),(1:Int)))
  (Option.bind (gO a0 a1) fun y649=>
   cond (decide (y649<(0:Int)))
   (kx (((0:Int),((0:Int),((0:Int),(0:Int)))),(7:Int)))
   (Option.bind (kL a0 a1) fun y655=>
    Option.bind (dL y655 (Int.tmod (IntKind.wrap .i64 (y649+(4:Int))) (8:Int))) fun y656=>
    Option.bind (eY y656 Bool.true) fun y660=>
    kx y660)))
def kh(a0:Pt)(a1:Pt):Option (Ln×Int):=mj some a0 a1
theorem Dk{R} kx a0 a1: @mj R kx a0 a1=(kh a0 a1).bind kx:=by
 unfold kh mj
 exact ac fun _=>ae rfl (ac fun _=>ae rfl (ac fun _=>ae rfl (ac fun _=>ac fun _=>ac fun _=>rfl)))
abbrev sG:af:=.fx [.val true yP, .val true yP] (Ln×Int) (fun z=>kh z.1 z.2.1) (fun b=>(.tup [⟨true,[(.v (.int .i64 b.1.1)),(.v (.int .i64 b.1.2.1)),(.v (.int .i64 b.1.2.2.1)),(.v (.int .i64 b.1.2.2.2))]⟩,⟨false,[(.v (.int .i64 b.2))]⟩],[]))
theorem EP:ag C0 37 sG:=
 ag.fx (e:=false) (.cons fq (.cons wj (.cons H9 (.cons ll (.cons Cx (.nil)))))) mixed Tryz.func37 (by kernel_rfl) (by kernel_rfl) aG 1 ai (fun z=>(by kernel_rfl:_=mj (fun b=>some (sG.enc b)) z.1 z.2.1).trans (Dk _ z.1 z.2.1))
def oN{R:Type}(kx:Int->Option R)(a0:(List Int))(a1:Int)(a2:Int):Option R:=
 cond (decide (a1>=((List.length a0:Nat):Int)))
 (kx (0:Int))
 (Option.bind (vu a0 a1) fun y688=>
  cond (decide (a2=(0:Int)))
  none
  (kx (Int.tmod (IntKind.wrap .i64 y688) a2)))
def mz(a0:(List Int))(a1:Int)(a2:Int):Option (Int):=oN some a0 a1 a2
theorem FZ{R} kx a0 a1 a2: @oN R kx a0 a1 a2=(mz a0 a1 a2).bind kx:=by
 unfold mz oN
 exact ae rfl (ac fun _=>ae rfl rfl)
abbrev wy:af:=.fx [.val false (.slice (.int .u8)), .val false (.int .i64), .val false (.int .i64)] (Int) (fun z=>mz z.1 z.2.1 z.2.2.1) (fun b=>(.one ⟨false,[(.v (.int .i64 b))]⟩,[]))
theorem Ib:ag C0 39 wy:=
 ag.fx (e:=false) (.nil) mixed Tryz.func39 (by kernel_rfl) (by kernel_rfl) aG 1 ai (fun z=>(by kernel_rfl:_=oN (fun b=>some (wy.enc b)) z.1 z.2.1 z.2.2.1).trans (FZ _ z.1 z.2.1 z.2.2.1))
def oJ{R:Type}(kx:Ln×Bool->Option R)(a0:Pt)(a1:Int):Option R:=
 Option.bind (bf a0) fun y692=>
 cond (!y692)
 (kx (((0:Int),((0:Int),((0:Int),(0:Int)))),Bool.false))
 (Option.bind (fO a1 (0:Int) (7:Int)) fun y693=>
  cond (!y693)
  (kx (((0:Int),((0:Int),((0:Int),(0:Int)))),Bool.false))
  (Option.bind (dL a0 a1) fun y694=>
   Option.bind (cx y694.2) fun y695=>
   cond (!y695)
   (kx (((0:Int),((0:Int),((0:Int),(0:Int)))),Bool.false))
   (kx (y694,Bool.true))))
def kJ(a0:Pt)(a1:Int):Option (Ln×Bool):=oJ some a0 a1
theorem FR{R} kx a0 a1: @oJ R kx a0 a1=(kJ a0 a1).bind kx:=by
 unfold kJ oJ
 exact ac fun _=>ae rfl (ac fun _=>ae rfl (ac fun _=>ac fun _=>ae rfl rfl))
abbrev wu:af:=.fx [.val true yP, .val false (.int .i64)] (Ln×Bool) (fun z=>kJ z.1 z.2.1) (fun b=>(.tup [⟨true,[(.v (.int .i64 b.1.1)),(.v (.int .i64 b.1.2.1)),(.v (.int .i64 b.1.2.2.1)),(.v (.int .i64 b.1.2.2.2))]⟩,⟨false,[(.v (.bool b.2))]⟩],[]))
theorem H7:ag C0 38 wu:=
 ag.fx (e:=false) (.cons fq (.cons uZ (.cons ll (.cons gV (.nil))))) mixed Tryz.func38 (by kernel_rfl) (by kernel_rfl) aG 1 ai (fun z=>(by kernel_rfl:_=oJ (fun b=>some (wu.enc b)) z.1 z.2.1).trans (FR _ z.1 z.2.1))
def lr{R:Type}(kx:Int->Option R)(a0:Ln)(a1:Pt):Option R:=
 Option.bind (bv a0) fun y703=>
 Option.bind (bS y703 a1) fun y704=>
 Option.bind (bJ y704 a0.2) fun y705=>
 Option.bind (df y705) fun y706=>
 kx y706
def eM(a0:Ln)(a1:Pt):Option (Int):=lr some a0 a1
theorem Ce{R} kx a0 a1: @lr R kx a0 a1=(eM a0 a1).bind kx:=by
 unfold eM lr
 exact ac fun _=>ac fun _=>ac fun _=>ac fun _=>rfl
abbrev rm:af:=.fx [.val true yL, .val true yP] (Int) (fun z=>eM z.1 z.2.1) (fun b=>(.one ⟨false,[(.v (.int .i64 b))]⟩,[]))
theorem wi:ag C0 94 rm:=
 ag.fx (e:=false) (.cons jg (.cons kC (.cons iM (.cons rB (.nil))))) mixed Tryz.func94 (by kernel_rfl) (by kernel_rfl) aG 1 ai (fun z=>(by kernel_rfl:_=lr (fun b=>some (rm.enc b)) z.1 z.2.1).trans (Ce _ z.1 z.2.1))
def mE{R:Type}(kx:Int->Option R)(a0:Ln)(a1:Pt):Option R:=
 Option.bind (bh a0) fun y699=>
 cond (!y699)
 (kx (0:Int))
 (Option.bind (bf a1) fun y700=>
  cond (!y700)
  (kx (0:Int))
  (Option.bind (eM a0 a1) fun y707=>
   kx y707))
def ig(a0:Ln)(a1:Pt):Option (Int):=mE some a0 a1
theorem FS{R} kx a0 a1: @mE R kx a0 a1=(ig a0 a1).bind kx:=by
 unfold ig mE
 exact ac fun _=>ae rfl (ac fun _=>ae rfl (ac fun _=>rfl))
abbrev wv:af:=.fx [.val true yL, .val true yP] (Int) (fun z=>ig z.1 z.2.1) (fun b=>(.one ⟨false,[(.v (.int .i64 b))]⟩,[]))
theorem H8:ag C0 40 wv:=
 ag.fx (e:=false) (.cons gi (.cons fq (.cons wi (.nil)))) mixed Tryz.func40 (by kernel_rfl) (by kernel_rfl) aG 1 ai (fun z=>(by kernel_rfl:_=mE (fun b=>some (wv.enc b)) z.1 z.2.1).trans (FS _ z.1 z.2.1))
def ks:List (FuncId×af):=[(36,mS),(79,rq),(80,ww),(81,oq),(94,rm),(84,pP)]
abbrev cj:LS:=⟨[(false,[(.ptr 3 0)]),(false,[(.ptr 4 0)]),(false,[(.ptr 5 0)]),(false,[(.own yL)]),(false,[(.int .i64)])],[(false,[(.int .i64),(.int .i64),(.int .i64),(.int .i64),(.int .i64),(.int .i64)]),(false,[(.int .i64),(.int .i64),(.int .i64),(.int .i64)]),(false,[(.int .i64),(.int .i64),(.int .i64),(.int .i64),(.int .i64),(.int .i64)])],[]⟩
abbrev oC:LS:=⟨[(false,[(.own yL)])],[],[]⟩
abbrev oA v0:=((((v0,()),()),(),()):oC.T)
abbrev cD:List (Ex×LS):=[(.exit 0,oC)]
abbrev ga x8(x24:Int)(b0_0:Int)(b0_1:Int)(b0_2:Int)(b0_3:Int)(b0_4:Int)(b0_5:Int)(b1_0:Int)(b1_1:Int)(b1_2:Int)(b1_3:Int)(b2_0:Int)(b2_1:Int)(b2_2:Int)(b2_3:Int)(b2_4:Int)(b2_5:Int):=(((((),()),((),()),((),()),(x8,()),(x24,()),()),((b0_0,b0_1,b0_2,b0_3,b0_4,b0_5,()),(b1_0,b1_1,b1_2,b1_3,()),(b2_0,b2_1,b2_2,b2_3,b2_4,b2_5,()),()),()):cj.T)
def dS{R:Type}(nx:cj.T->Option R)(hx:ma R cD)(x8:List Ln)(x24:Int)(b0_0:Int)(b0_1:Int)(b0_2:Int)(b0_3:Int)(b0_4:Int)(b0_5:Int)(b1_0:Int)(b1_1:Int)(b1_2:Int)(b1_3:Int)(b2_0:Int)(b2_1:Int)(b2_2:Int)(b2_3:Int)(b2_4:Int)(b2_5:Int):Option R:=
 cond (decide (x24<(8:Int)))
 (Option.bind (dL ((b2_0,(b2_1,b2_2)),(b2_3,(b2_4,b2_5))) x24) fun y733=>
  Option.bind (cP y733 ((b0_0,(b0_1,b0_2)),(b0_3,(b0_4,b0_5)))) fun y734=>
  Option.bind (eM (b1_0,(b1_1,(b1_2,b1_3))) y734) fun y735=>
  cond (y735==(0:Int))
  (cond (decide ((((List.length x8)+(List.length [y733]))*32)<=70368744177664))
   (cond (decide (((List.length x8)+(List.length [y733]))<=70368744177664))
    (nx (ga (x8++ [y733]) (IntKind.wrap .i64 (x24+(1:Int))) b0_0 b0_1 b0_2 b0_3 b0_4 b0_5 b1_0 b1_1 b1_2 b1_3 b2_0 b2_1 b2_2 b2_3 b2_4 b2_5))
    none)
   none)
  (nx (ga x8 (IntKind.wrap .i64 (x24+(1:Int))) b0_0 b0_1 b0_2 b0_3 b0_4 b0_5 b1_0 b1_1 b1_2 b1_3 b2_0 b2_1 b2_2 b2_3 b2_4 b2_5)))
 (hx.1 (oA x8))
def lT{R:Type}(nx:cj.T->Option R)(hx:ma R cD)(z:cj.T):Option R:=dS nx hx z.1.2.2.2.1.1 z.1.2.2.2.2.1.1 z.2.1.1.1 z.2.1.1.2.1 z.2.1.1.2.2.1 z.2.1.1.2.2.2.1 z.2.1.1.2.2.2.2.1 z.2.1.1.2.2.2.2.2.1 z.2.1.2.1.1 z.2.1.2.1.2.1 z.2.1.2.1.2.2.1 z.2.1.2.1.2.2.2.1 z.2.1.2.2.1.1 z.2.1.2.2.1.2.1 z.2.1.2.2.1.2.2.1 z.2.1.2.2.1.2.2.2.1 z.2.1.2.2.1.2.2.2.2.1 z.2.1.2.2.1.2.2.2.2.2.1
theorem oG:fR @lT:=fun R nx hx z=>by
 show dS nx hx z.1.2.2.2.1.1 z.1.2.2.2.2.1.1 z.2.1.1.1 z.2.1.1.2.1 z.2.1.1.2.2.1 z.2.1.1.2.2.2.1 z.2.1.1.2.2.2.2.1 z.2.1.1.2.2.2.2.2.1 z.2.1.2.1.1 z.2.1.2.1.2.1 z.2.1.2.1.2.2.1 z.2.1.2.1.2.2.2.1 z.2.1.2.2.1.1 z.2.1.2.2.1.2.1 z.2.1.2.2.1.2.2.1 z.2.1.2.2.1.2.2.2.1 z.2.1.2.2.1.2.2.2.2.1 z.2.1.2.2.1.2.2.2.2.2.1=(dS (fun y=>some (.inl y)) (rf cD fun x=>some (.inr x)) z.1.2.2.2.1.1 z.1.2.2.2.2.1.1 z.2.1.1.1 z.2.1.1.2.1 z.2.1.1.2.2.1 z.2.1.1.2.2.2.1 z.2.1.1.2.2.2.2.1 z.2.1.1.2.2.2.2.2.1 z.2.1.2.1.1 z.2.1.2.1.2.1 z.2.1.2.1.2.2.1 z.2.1.2.1.2.2.2.1 z.2.1.2.2.1.1 z.2.1.2.2.1.2.1 z.2.1.2.2.1.2.2.1 z.2.1.2.2.1.2.2.2.1 z.2.1.2.2.1.2.2.2.2.1 z.2.1.2.2.1.2.2.2.2.2.1).bind (tE nx hx)
 unfold dS
 exact ae (ac fun _=>ac fun _=>ac fun _=>ae (ae (ae rfl rfl) rfl) rfl) rfl
def eR:cj.T->Option (wL cD):=D4 @lT
theorem qg x8 x24 b0_0 b0_1 b0_2 b0_3 b0_4 b0_5 b1_0 b1_1 b1_2 b1_3 b2_0 b2_1 b2_2 b2_3 b2_4 b2_5:eR (ga x8 x24 b0_0 b0_1 b0_2 b0_3 b0_4 b0_5 b1_0 b1_1 b1_2 b1_3 b2_0 b2_1 b2_2 b2_3 b2_4 b2_5)=dS eR (rf cD some) x8 x24 b0_0 b0_1 b0_2 b0_3 b0_4 b0_5 b1_0 b1_1 b1_2 b1_3 b2_0 b2_1 b2_2 b2_3 b2_4 b2_5:=kU oG _
def iK:dz:=⟨[3,4,5,8,24],[3,4,5],[8],[]⟩
def kw:iG Rv:=⟨fun k=>match k with|6=>iK|_=>⟨[],[],[],[]⟩,fun k=>match k with|6=>some (fZ cj cD eR)|_=>none⟩
theorem xv(n:Nat)(z:cj.T)(k:Ex->kf->Option Rv):eg ⟨45,45⟩ iK (vt (om C0 ks) ⟨45,45⟩ kw 1 (dt Tryz.f41 5)) (n+1) (cj.enc z) k=
 lT (fun y=>eg ⟨45,45⟩ iK (vt (om C0 ks) ⟨45,45⟩ kw 1 (dt Tryz.f41 5)) n (cj.enc y) k) (hK k cD) z:=by kernel_rfl
theorem yK:bC (om C0 ks) ⟨45,45⟩ kw 1 (fe (cu Tryz.f41)):=by
 have hl:fe (cu Tryz.f41)=[dt Tryz.f41 5]:=by kernel_rfl
 rw[hl]
 exact bC.cons (n:=6) (lh:=iK) (S:=fZ cj cD eR) (by kernel_rfl) rfl rfl (ky oG xv)
  (bC.nil)
def iz{R:Type}(kx:(List Ln)×Int->Option R)(a0:Pt)(a1:Ln)(a2:Pt):Option R:=
 Option.bind (bf a0) fun y712=>
 cond (!y712)
 (kx ([],(1:Int)))
 (Option.bind (bh a1) fun y713=>
  cond (!y713)
  (kx ([],(1:Int)))
  (Option.bind (bf a2) fun y714=>
   cond (!y714)
   (kx ([],(1:Int)))
   (Option.bind (eR (ga [] (0:Int) a0.1.1 a0.1.2.1 a0.1.2.2 a0.2.1 a0.2.2.1 a0.2.2.2 a1.1 a1.2.1 a1.2.2.1 a1.2.2.2 a2.1.1 a2.1.2.1 a2.1.2.2 a2.2.1 a2.2.2.1 a2.2.2.2)) (sj cD
    (fun e736=>
     cond (decide ((List.length (e736.1.1.1:List Ln))=(List.length (e736.1.1.1:List Ln))))
     (Option.bind (bV (e736.1.1.1:List Ln)) fun y738=>
      kx y738)
     none,())))))
def eC(a0:Pt)(a1:Ln)(a2:Pt):Option ((List Ln)×Int):=iz some a0 a1 a2
theorem xS{R} kx a0 a1 a2: @iz R kx a0 a1 a2=(eC a0 a1 a2).bind kx:=by
 unfold eC iz
 exact ac fun _=>ae rfl (ac fun _=>ae rfl (ac fun _=>ae rfl (dM ⟨fun _=>ae (ac fun _=>rfl) rfl,trivial⟩)))
abbrev nn:af:=.fx [.val true yP, .val true yL, .val true yP] ((List Ln)×Int) (fun z=>eC z.1 z.2.1 z.2.2.1) (fun b=>(.tup [⟨false,[(.own yL b.1)]⟩,⟨false,[(.v (.int .i64 b.2))]⟩],[]))
theorem yW:ag C0 41 nn:=
 ag.fx (e:=false) (t:=ks) (.cons fq (.cons gi (.cons ll (.cons nw (.cons wi (.cons tu (.nil))))))) mixed Tryz.func41 (by kernel_rfl) (by kernel_rfl) kw 1 yK (fun z=>(by kernel_rfl:_=iz (fun b=>some (nn.enc b)) z.1 z.2.1 z.2.2.1).trans (xS _ z.1 z.2.1 z.2.2.1))
def eL:List (FuncId×af):=[(27,wz),(28,sI),(29,pK),(30,pQ),(31,wA),(32,pO),(33,rl),(34,uI),(35,ot),(36,mS),(37,sG),(39,wy),(38,wu),(40,wv),(41,nn)]
abbrev cL:LS:=⟨[(false,[(.sl (.int .u8))]),(false,[(.ptr 6 0)]),(false,[(.ptr 7 0)]),(false,[(.ptr 16 0)]),(false,[(.ptr 17 0)])],[(false,[(.int .i64),(.int .i64),(.int .i64),(.int .i64),(.int .i64),(.int .i64)]),(false,[(.int .i64),(.int .i64),(.int .i64),(.int .i64)]),(false,[(.int .i64),(.int .i64),(.int .i64),(.int .i64),(.int .i64),(.int .i64)]),(false,[(.int .i64),(.int .i64),(.int .i64),(.int .i64),(.int .i64),(.int .i64)])],[]⟩
abbrev lZ:LS:=⟨[(false,[.bool])],[],[]⟩
abbrev dW(v0:Bool):=((((v0,()),()),(),()):lZ.T)
abbrev bw:List (Ex×LS):=[(.ret,lZ)]
abbrev gd(x1:List Int)(b0_0:Int)(b0_1:Int)(b0_2:Int)(b0_3:Int)(b0_4:Int)(b0_5:Int)(b1_0:Int)(b1_1:Int)(b1_2:Int)(b1_3:Int)(b2_0:Int)(b2_1:Int)(b2_2:Int)(b2_3:Int)(b2_4:Int)(b2_5:Int)(b3_0:Int)(b3_1:Int)(b3_2:Int)(b3_3:Int)(b3_4:Int)(b3_5:Int):=((((x1,()),((),()),((),()),((),()),((),()),()),((b0_0,b0_1,b0_2,b0_3,b0_4,b0_5,()),(b1_0,b1_1,b1_2,b1_3,()),(b2_0,b2_1,b2_2,b2_3,b2_4,b2_5,()),(b3_0,b3_1,b3_2,b3_3,b3_4,b3_5,()),()),()):cL.T)
def dI{R:Type}(hx:ma R bw)(x1:List Int)(b0_0:Int)(b0_1:Int)(b0_2:Int)(b0_3:Int)(b0_4:Int)(b0_5:Int)(b1_0:Int)(b1_1:Int)(b1_2:Int)(b1_3:Int)(b2_0:Int)(b2_1:Int)(b2_2:Int)(b2_3:Int)(b2_4:Int)(b2_5:Int)(b3_0:Int)(b3_1:Int)(b3_2:Int)(b3_3:Int)(b3_4:Int)(b3_5:Int):Option R:=
 Option.bind (mz x1 (0:Int) (8:Int)) fun y689=>
 Option.bind (kJ ((b3_0,(b3_1,b3_2)),(b3_3,(b3_4,b3_5))) y689) fun y696=>
 cond (!y696.2)
 (hx.1 (dW Bool.true))
 (Option.bind (ig (b1_0,(b1_1,(b1_2,b1_3))) ((b0_0,(b0_1,b0_2)),(b0_3,(b0_4,b0_5)))) fun y708=>
  cond (y708 !=(0:Int))
  (hx.1 (dW Bool.true))
  (Option.bind (eC ((b2_0,(b2_1,b2_2)),(b2_3,(b2_4,b2_5))) y696.1 ((b0_0,(b0_1,b0_2)),(b0_3,(b0_4,b0_5)))) fun y739=>
   cond (y739.2==(2:Int))
   (hx.1 (dW Bool.true))
   (Option.bind (fV y739.1 (b1_0,(b1_1,(b1_2,b1_3)))) fun y740=>
    hx.1 (dW y740))))
def jW{R:Type}(hx:ma R bw)(z:cL.T):Option R:=dI hx z.1.1.1 z.2.1.1.1 z.2.1.1.2.1 z.2.1.1.2.2.1 z.2.1.1.2.2.2.1 z.2.1.1.2.2.2.2.1 z.2.1.1.2.2.2.2.2.1 z.2.1.2.1.1 z.2.1.2.1.2.1 z.2.1.2.1.2.2.1 z.2.1.2.1.2.2.2.1 z.2.1.2.2.1.1 z.2.1.2.2.1.2.1 z.2.1.2.2.1.2.2.1 z.2.1.2.2.1.2.2.2.1 z.2.1.2.2.1.2.2.2.2.1 z.2.1.2.2.1.2.2.2.2.2.1 z.2.1.2.2.2.1.1 z.2.1.2.2.2.1.2.1 z.2.1.2.2.2.1.2.2.1 z.2.1.2.2.2.1.2.2.2.1 z.2.1.2.2.2.1.2.2.2.2.1 z.2.1.2.2.2.1.2.2.2.2.2.1
theorem sP:CD @jW:=fun R hx z=>by
 show dI hx z.1.1.1 z.2.1.1.1 z.2.1.1.2.1 z.2.1.1.2.2.1 z.2.1.1.2.2.2.1 z.2.1.1.2.2.2.2.1 z.2.1.1.2.2.2.2.2.1 z.2.1.2.1.1 z.2.1.2.1.2.1 z.2.1.2.1.2.2.1 z.2.1.2.1.2.2.2.1 z.2.1.2.2.1.1 z.2.1.2.2.1.2.1 z.2.1.2.2.1.2.2.1 z.2.1.2.2.1.2.2.2.1 z.2.1.2.2.1.2.2.2.2.1 z.2.1.2.2.1.2.2.2.2.2.1 z.2.1.2.2.2.1.1 z.2.1.2.2.2.1.2.1 z.2.1.2.2.2.1.2.2.1 z.2.1.2.2.2.1.2.2.2.1 z.2.1.2.2.2.1.2.2.2.2.1 z.2.1.2.2.2.1.2.2.2.2.2.1=(dI (rf bw some) z.1.1.1 z.2.1.1.1 z.2.1.1.2.1 z.2.1.1.2.2.1 z.2.1.1.2.2.2.1 z.2.1.1.2.2.2.2.1 z.2.1.1.2.2.2.2.2.1 z.2.1.2.1.1 z.2.1.2.1.2.1 z.2.1.2.1.2.2.1 z.2.1.2.1.2.2.2.1 z.2.1.2.2.1.1 z.2.1.2.2.1.2.1 z.2.1.2.2.1.2.2.1 z.2.1.2.2.1.2.2.2.1 z.2.1.2.2.1.2.2.2.2.1 z.2.1.2.2.1.2.2.2.2.2.1 z.2.1.2.2.2.1.1 z.2.1.2.2.2.1.2.1 z.2.1.2.2.2.1.2.2.1 z.2.1.2.2.2.1.2.2.2.1 z.2.1.2.2.2.1.2.2.2.2.1 z.2.1.2.2.2.1.2.2.2.2.2.1).bind (sj bw hx)
 unfold dI
 exact ac fun _=>ac fun _=>ae rfl (ac fun _=>ae rfl (ac fun _=>ae rfl (ac fun _=>rfl)))
def dJ:cL.T->Option (wL bw):=Sk @jW
theorem tR x1 b0_0 b0_1 b0_2 b0_3 b0_4 b0_5 b1_0 b1_1 b1_2 b1_3 b2_0 b2_1 b2_2 b2_3 b2_4 b2_5 b3_0 b3_1 b3_2 b3_3 b3_4 b3_5:dJ (gd x1 b0_0 b0_1 b0_2 b0_3 b0_4 b0_5 b1_0 b1_1 b1_2 b1_3 b2_0 b2_1 b2_2 b2_3 b2_4 b2_5 b3_0 b3_1 b3_2 b3_3 b3_4 b3_5)=dI (rf bw some) x1 b0_0 b0_1 b0_2 b0_3 b0_4 b0_5 b1_0 b1_1 b1_2 b1_3 b2_0 b2_1 b2_2 b2_3 b2_4 b2_5 b3_0 b3_1 b3_2 b3_3 b3_4 b3_5:=rfl
def dr:dz:=⟨[1,6,7,16,17],[6,7,16,17],[4],[]⟩
abbrev cK:LS:=⟨[(false,[(.sl (.int .u8))]),(false,[(.ptr 5 0)]),(false,[(.ptr 6 0)]),(false,[(.ptr 7 0)]),(false,[(.ptr 11 0)])],[(false,[(.int .i64),(.int .i64),(.int .i64),(.int .i64),(.int .i64),(.int .i64)]),(false,[(.int .i64),(.int .i64),(.int .i64),(.int .i64),(.int .i64),(.int .i64)]),(false,[(.int .i64),(.int .i64),(.int .i64),(.int .i64)]),(false,[(.int .i64),(.int .i64),(.int .i64),(.int .i64)])],[]⟩
abbrev lY:LS:=⟨[(false,[.bool])],[],[]⟩
abbrev ce(v0:Bool):=((((v0,()),()),(),()):lY.T)
abbrev be:List (Ex×LS):=[(.ret,lY)]
abbrev dD(x1:List Int)(b0_0:Int)(b0_1:Int)(b0_2:Int)(b0_3:Int)(b0_4:Int)(b0_5:Int)(b1_0:Int)(b1_1:Int)(b1_2:Int)(b1_3:Int)(b1_4:Int)(b1_5:Int)(b2_0:Int)(b2_1:Int)(b2_2:Int)(b2_3:Int)(b3_0:Int)(b3_1:Int)(b3_2:Int)(b3_3:Int):=((((x1,()),((),()),((),()),((),()),((),()),()),((b0_0,b0_1,b0_2,b0_3,b0_4,b0_5,()),(b1_0,b1_1,b1_2,b1_3,b1_4,b1_5,()),(b2_0,b2_1,b2_2,b2_3,()),(b3_0,b3_1,b3_2,b3_3,()),()),()):cK.T)
def dH{R:Type}(hx:ma R be)(x1:List Int)(b0_0:Int)(b0_1:Int)(b0_2:Int)(b0_3:Int)(b0_4:Int)(b0_5:Int)(b1_0:Int)(b1_1:Int)(b1_2:Int)(b1_3:Int)(b1_4:Int)(b1_5:Int)(b2_0:Int)(b2_1:Int)(b2_2:Int)(b2_3:Int)(b3_0:Int)(b3_1:Int)(b3_2:Int)(b3_3:Int):Option R:=
 Option.bind (dy (b3_0,(b3_1,(b3_2,b3_3))) ((b0_0,(b0_1,b0_2)),(b0_3,(b0_4,b0_5)))) fun y642=>
 cond (!y642.2)
 (hx.1 (ce Bool.true))
 (Option.bind (bf y642.1) fun y643=>
  cond (!y643)
  (hx.1 (ce Bool.true))
  (Option.bind (dy (b2_0,(b2_1,(b2_2,b2_3))) y642.1) fun y644=>
   cond (!y644.2)
   (hx.1 (ce Bool.true))
   (cond (!(((y644.1.1.1==y642.1.1.1)&&((y644.1.1.2.1==y642.1.1.2.1)&&((y644.1.1.2.2==y642.1.1.2.2)&&Bool.true)))&&(((y644.1.2.1==y642.1.2.1)&&((y644.1.2.2.1==y642.1.2.2.1)&&((y644.1.2.2.2==y642.1.2.2.2)&&Bool.true)))&&Bool.true)))
    (Option.bind (kh y642.1 y644.1) fun y661=>
     cond (y661.2 !=(0:Int))
     (hx.1 (ce Bool.false))
     (cond (!((y661.1.1==b2_0)&&(((y661.1.2.1==b2_1)&&((y661.1.2.2.1==b2_2)&&((y661.1.2.2.2==b2_3)&&Bool.true)))&&Bool.true)))
      (hx.1 (ce Bool.false))
      (Option.bind (dJ (gd x1 b1_0 b1_1 b1_2 b1_3 b1_4 b1_5 b2_0 b2_1 b2_2 b2_3 y642.1.1.1 y642.1.1.2.1 y642.1.1.2.2 y642.1.2.1 y642.1.2.2.1 y642.1.2.2.2 y644.1.1.1 y644.1.1.2.1 y644.1.1.2.2 y644.1.2.1 y644.1.2.2.1 y644.1.2.2.2)) (sj bw
       (fun e741=>
        hx.1 (ce (e741.1.1.1:Bool)),())))))
    (Option.bind (dJ (gd x1 b1_0 b1_1 b1_2 b1_3 b1_4 b1_5 b2_0 b2_1 b2_2 b2_3 y642.1.1.1 y642.1.1.2.1 y642.1.1.2.2 y642.1.2.1 y642.1.2.2.1 y642.1.2.2.2 y644.1.1.1 y644.1.1.2.1 y644.1.1.2.2 y644.1.2.1 y644.1.2.2.1 y644.1.2.2.2)) (sj bw
     (fun e743=>
      hx.1 (ce (e743.1.1.1:Bool)),()))))))
def jV{R:Type}(hx:ma R be)(z:cK.T):Option R:=dH hx z.1.1.1 z.2.1.1.1 z.2.1.1.2.1 z.2.1.1.2.2.1 z.2.1.1.2.2.2.1 z.2.1.1.2.2.2.2.1 z.2.1.1.2.2.2.2.2.1 z.2.1.2.1.1 z.2.1.2.1.2.1 z.2.1.2.1.2.2.1 z.2.1.2.1.2.2.2.1 z.2.1.2.1.2.2.2.2.1 z.2.1.2.1.2.2.2.2.2.1 z.2.1.2.2.1.1 z.2.1.2.2.1.2.1 z.2.1.2.2.1.2.2.1 z.2.1.2.2.1.2.2.2.1 z.2.1.2.2.2.1.1 z.2.1.2.2.2.1.2.1 z.2.1.2.2.2.1.2.2.1 z.2.1.2.2.2.1.2.2.2.1
theorem sO:CD @jV:=fun R hx z=>by
 show dH hx z.1.1.1 z.2.1.1.1 z.2.1.1.2.1 z.2.1.1.2.2.1 z.2.1.1.2.2.2.1 z.2.1.1.2.2.2.2.1 z.2.1.1.2.2.2.2.2.1 z.2.1.2.1.1 z.2.1.2.1.2.1 z.2.1.2.1.2.2.1 z.2.1.2.1.2.2.2.1 z.2.1.2.1.2.2.2.2.1 z.2.1.2.1.2.2.2.2.2.1 z.2.1.2.2.1.1 z.2.1.2.2.1.2.1 z.2.1.2.2.1.2.2.1 z.2.1.2.2.1.2.2.2.1 z.2.1.2.2.2.1.1 z.2.1.2.2.2.1.2.1 z.2.1.2.2.2.1.2.2.1 z.2.1.2.2.2.1.2.2.2.1=(dH (rf be some) z.1.1.1 z.2.1.1.1 z.2.1.1.2.1 z.2.1.1.2.2.1 z.2.1.1.2.2.2.1 z.2.1.1.2.2.2.2.1 z.2.1.1.2.2.2.2.2.1 z.2.1.2.1.1 z.2.1.2.1.2.1 z.2.1.2.1.2.2.1 z.2.1.2.1.2.2.2.1 z.2.1.2.1.2.2.2.2.1 z.2.1.2.1.2.2.2.2.2.1 z.2.1.2.2.1.1 z.2.1.2.2.1.2.1 z.2.1.2.2.1.2.2.1 z.2.1.2.2.1.2.2.2.1 z.2.1.2.2.2.1.1 z.2.1.2.2.2.1.2.1 z.2.1.2.2.2.1.2.2.1 z.2.1.2.2.2.1.2.2.2.1).bind (sj be hx)
 unfold dH
 exact ac fun _=>ae rfl (ac fun _=>ae rfl (ac fun _=>ae rfl (ae (ac fun _=>ae rfl (ae rfl (dM ⟨fun _=>rfl,trivial⟩))) (dM ⟨fun _=>rfl,trivial⟩))))
def cm:cK.T->Option (wL be):=Sk @jV
theorem tQ x1 b0_0 b0_1 b0_2 b0_3 b0_4 b0_5 b1_0 b1_1 b1_2 b1_3 b1_4 b1_5 b2_0 b2_1 b2_2 b2_3 b3_0 b3_1 b3_2 b3_3:cm (dD x1 b0_0 b0_1 b0_2 b0_3 b0_4 b0_5 b1_0 b1_1 b1_2 b1_3 b1_4 b1_5 b2_0 b2_1 b2_2 b2_3 b3_0 b3_1 b3_2 b3_3)=dH (rf be some) x1 b0_0 b0_1 b0_2 b0_3 b0_4 b0_5 b1_0 b1_1 b1_2 b1_3 b1_4 b1_5 b2_0 b2_1 b2_2 b2_3 b3_0 b3_1 b3_2 b3_3:=rfl
def dq:dz:=⟨[1,5,6,7,11],[5,6,7,11],[4],[]⟩
abbrev cJ:LS:=⟨[(false,[(.sl (.int .u8))]),(false,[(.sl (.int .u8))]),(false,[(.ptr 5 0)]),(false,[(.ptr 6 0)]),(false,[(.ptr 7 0)])],[(false,[(.int .i64),(.int .i64),(.int .i64),(.int .i64),(.int .i64),(.int .i64)]),(false,[(.int .i64),(.int .i64),(.int .i64),(.int .i64),(.int .i64),(.int .i64)]),(false,[(.int .i64),(.int .i64),(.int .i64),(.int .i64)])],[]⟩
abbrev lX:LS:=⟨[(false,[.bool])],[],[]⟩
abbrev dd(v0:Bool):=((((v0,()),()),(),()):lX.T)
abbrev bd:List (Ex×LS):=[(.ret,lX)]
abbrev dC(x0:List Int)(x1:List Int)(b0_0:Int)(b0_1:Int)(b0_2:Int)(b0_3:Int)(b0_4:Int)(b0_5:Int)(b1_0:Int)(b1_1:Int)(b1_2:Int)(b1_3:Int)(b1_4:Int)(b1_5:Int)(b2_0:Int)(b2_1:Int)(b2_2:Int)(b2_3:Int):=((((x0,()),(x1,()),((),()),((),()),((),()),()),((b0_0,b0_1,b0_2,b0_3,b0_4,b0_5,()),(b1_0,b1_1,b1_2,b1_3,b1_4,b1_5,()),(b2_0,b2_1,b2_2,b2_3,()),()),()):cJ.T)
def dG{R:Type}(hx:ma R bd)(x0:List Int)(x1:List Int)(b0_0:Int)(b0_1:Int)(b0_2:Int)(b0_3:Int)(b0_4:Int)(b0_5:Int)(b1_0:Int)(b1_1:Int)(b1_2:Int)(b1_3:Int)(b1_4:Int)(b1_5:Int)(b2_0:Int)(b2_1:Int)(b2_2:Int)(b2_3:Int):Option R:=
 Option.bind (ju x0) fun y395=>
 Option.bind (fo (b2_0,(b2_1,(b2_2,b2_3))) y395) fun y450=>
 cond y450.2
 (cond (!((y450.1.1==y395.1)&&(((y450.1.2.1==y395.2.1)&&((y450.1.2.2.1==y395.2.2.1)&&((y450.1.2.2.2==y395.2.2.2)&&Bool.true)))&&Bool.true)))
  (Option.bind (jx y395 y450.1) fun y575=>
   cond (y575.2 !=(2:Int))
   (Option.bind (fV y575.1 (b2_0,(b2_1,(b2_2,b2_3)))) fun y608=>
    cond (!y608)
    (hx.1 (dd Bool.false))
    (Option.bind (cm (dD x1 b0_0 b0_1 b0_2 b0_3 b0_4 b0_5 b1_0 b1_1 b1_2 b1_3 b1_4 b1_5 b2_0 b2_1 b2_2 b2_3 y395.1 y395.2.1 y395.2.2.1 y395.2.2.2)) (sj be
     (fun e745=>
      hx.1 (dd (e745.1.1.1:Bool)),()))))
   (Option.bind (cm (dD x1 b0_0 b0_1 b0_2 b0_3 b0_4 b0_5 b1_0 b1_1 b1_2 b1_3 b1_4 b1_5 b2_0 b2_1 b2_2 b2_3 y395.1 y395.2.1 y395.2.2.1 y395.2.2.2)) (sj be
    (fun e747=>
     hx.1 (dd (e747.1.1.1:Bool)),()))))
  (Option.bind (cm (dD x1 b0_0 b0_1 b0_2 b0_3 b0_4 b0_5 b1_0 b1_1 b1_2 b1_3 b1_4 b1_5 b2_0 b2_1 b2_2 b2_3 y395.1 y395.2.1 y395.2.2.1 y395.2.2.2)) (sj be
   (fun e749=>
    hx.1 (dd (e749.1.1.1:Bool)),()))))
 (Option.bind (cm (dD x1 b0_0 b0_1 b0_2 b0_3 b0_4 b0_5 b1_0 b1_1 b1_2 b1_3 b1_4 b1_5 b2_0 b2_1 b2_2 b2_3 y395.1 y395.2.1 y395.2.2.1 y395.2.2.2)) (sj be
  (fun e751=>
   hx.1 (dd (e751.1.1.1:Bool)),())))
def jU{R:Type}(hx:ma R bd)(z:cJ.T):Option R:=dG hx z.1.1.1 z.1.2.1.1 z.2.1.1.1 z.2.1.1.2.1 z.2.1.1.2.2.1 z.2.1.1.2.2.2.1 z.2.1.1.2.2.2.2.1 z.2.1.1.2.2.2.2.2.1 z.2.1.2.1.1 z.2.1.2.1.2.1 z.2.1.2.1.2.2.1 z.2.1.2.1.2.2.2.1 z.2.1.2.1.2.2.2.2.1 z.2.1.2.1.2.2.2.2.2.1 z.2.1.2.2.1.1 z.2.1.2.2.1.2.1 z.2.1.2.2.1.2.2.1 z.2.1.2.2.1.2.2.2.1
theorem sN:CD @jU:=fun R hx z=>by
 show dG hx z.1.1.1 z.1.2.1.1 z.2.1.1.1 z.2.1.1.2.1 z.2.1.1.2.2.1 z.2.1.1.2.2.2.1 z.2.1.1.2.2.2.2.1 z.2.1.1.2.2.2.2.2.1 z.2.1.2.1.1 z.2.1.2.1.2.1 z.2.1.2.1.2.2.1 z.2.1.2.1.2.2.2.1 z.2.1.2.1.2.2.2.2.1 z.2.1.2.1.2.2.2.2.2.1 z.2.1.2.2.1.1 z.2.1.2.2.1.2.1 z.2.1.2.2.1.2.2.1 z.2.1.2.2.1.2.2.2.1=(dG (rf bd some) z.1.1.1 z.1.2.1.1 z.2.1.1.1 z.2.1.1.2.1 z.2.1.1.2.2.1 z.2.1.1.2.2.2.1 z.2.1.1.2.2.2.2.1 z.2.1.1.2.2.2.2.2.1 z.2.1.2.1.1 z.2.1.2.1.2.1 z.2.1.2.1.2.2.1 z.2.1.2.1.2.2.2.1 z.2.1.2.1.2.2.2.2.1 z.2.1.2.1.2.2.2.2.2.1 z.2.1.2.2.1.1 z.2.1.2.2.1.2.1 z.2.1.2.2.1.2.2.1 z.2.1.2.2.1.2.2.2.1).bind (sj bd hx)
 unfold dG
 exact ac fun _=>ac fun _=>ae (ae (ac fun _=>ae (ac fun _=>ae rfl (dM ⟨fun _=>rfl,trivial⟩)) (dM ⟨fun _=>rfl,trivial⟩)) (dM ⟨fun _=>rfl,trivial⟩)) (dM ⟨fun _=>rfl,trivial⟩)
def cl:cJ.T->Option (wL bd):=Sk @jU
theorem tP x0 x1 b0_0 b0_1 b0_2 b0_3 b0_4 b0_5 b1_0 b1_1 b1_2 b1_3 b1_4 b1_5 b2_0 b2_1 b2_2 b2_3:cl (dC x0 x1 b0_0 b0_1 b0_2 b0_3 b0_4 b0_5 b1_0 b1_1 b1_2 b1_3 b1_4 b1_5 b2_0 b2_1 b2_2 b2_3)=dG (rf bd some) x0 x1 b0_0 b0_1 b0_2 b0_3 b0_4 b0_5 b1_0 b1_1 b1_2 b1_3 b1_4 b1_5 b2_0 b2_1 b2_2 b2_3:=rfl
def dn:dz:=⟨[0,1,5,6,7],[5,6,7],[4],[]⟩
def eP:iG Rv:=⟨fun k=>match k with|1000027=>dr|1000017=>dq|1000011=>dn|_=>⟨[],[],[],[]⟩,fun k=>match k with|1000027=>some (fZ cL bw dJ)|1000017=>some (fZ cK be cm)|1000011=>some (fZ cJ bd cl)|_=>none⟩
theorem tN(z:cL.T)(k:Ex->kf->Option Rv):vt (om C0 eL) ⟨153,153⟩ eP 1 (EO Tryz.f6 27) (zc.back ⟨153,153⟩ dr.s dr.b (cL.enc z)) (fun e st=>k e (st.live dr.s' dr.b'))=
 jW (hK k bw) z:=by kernel_rfl
theorem tM(z:cK.T)(k:Ex->kf->Option Rv):vt (om C0 eL) ⟨153,153⟩ eP 1 (EO Tryz.f6 17) (zc.back ⟨153,153⟩ dq.s dq.b (cK.enc z)) (fun e st=>k e (st.live dq.s' dq.b'))=
 jV (hK k be) z:=by kernel_rfl
theorem tL(z:cJ.T)(k:Ex->kf->Option Rv):vt (om C0 eL) ⟨153,153⟩ eP 1 (EO Tryz.f6 11) (zc.back ⟨153,153⟩ dn.s dn.b (cJ.enc z)) (fun e st=>k e (st.live dn.s' dn.b'))=
 jU (hK k bd) z:=by kernel_rfl
theorem wZ:bC (om C0 eL) ⟨153,153⟩ eP 1 (fe (cu Tryz.f6)):=by
 have hl:fe (cu Tryz.f6)=[]:=by kernel_rfl
 rw[hl]
 exact bC.nil
theorem wY:ep (om C0 eL) ⟨153,153⟩ eP 1 (ti (cu Tryz.f6)):=
 ep.pick (ls':=[EO Tryz.f6 11,EO Tryz.f6 17,EO Tryz.f6 27]) (by kernel_rfl) (ep.cons (n:=1000011) (lh:=dn) (S:=fZ cJ bd cl) (by kernel_rfl) rfl rfl (Hj sN tL)
  (ep.cons (n:=1000017) (lh:=dq) (S:=fZ cK be cm) (by kernel_rfl) rfl rfl (Hj sO tM)
  (ep.cons (n:=1000027) (lh:=dr) (S:=fZ cL bw dJ) (by kernel_rfl) rfl rfl (Hj sP tN)
  (ep.nil))))
def gm{R:Type}(kx:Bool->Option R)(a0:(List Int))(a1:(List Int)):Option R:=
 Option.bind (mA a0 a1) fun y4=>
 cond y4
 (kx Bool.true)
 (Option.bind (ki a0) fun y182=>
  Option.bind (gL y182.2 y182.1) fun y298=>
  Option.bind (gP y182.2 y182.1) fun y367=>
  cond (y298.2 !=y367.2)
  (kx Bool.false)
  (cond (y298.2==(0:Int))
   (cond (!((y298.1.1==y367.1.1)&&(((y298.1.2.1==y367.1.2.1)&&((y298.1.2.2.1==y367.1.2.2.1)&&((y298.1.2.2.2==y367.1.2.2.2)&&Bool.true)))&&Bool.true)))
    (kx Bool.false)
    (cond (y298.2 !=(0:Int))
     (Option.bind (ju a1) fun y376=>
      Option.bind (cl (dC a0 a1 y182.1.1.1 y182.1.1.2.1 y182.1.1.2.2 y182.1.2.1 y182.1.2.2.1 y182.1.2.2.2 y182.2.1.1 y182.2.1.2.1 y182.2.1.2.2 y182.2.2.1 y182.2.2.2.1 y182.2.2.2.2 y376.1 y376.2.1 y376.2.2.1 y376.2.2.2)) (sj bd
      (fun e753=>
       kx (e753.1.1.1:Bool),())))
     (Option.bind (cl (dC a0 a1 y182.1.1.1 y182.1.1.2.1 y182.1.1.2.2 y182.1.2.1 y182.1.2.2.1 y182.1.2.2.2 y182.2.1.1 y182.2.1.2.1 y182.2.1.2.2 y182.2.2.1 y182.2.2.2.1 y182.2.2.2.2 y298.1.1 y298.1.2.1 y298.1.2.2.1 y298.1.2.2.2)) (sj bd
      (fun e755=>
       kx (e755.1.1.1:Bool),())))))
   (cond (y298.2 !=(0:Int))
    (Option.bind (ju a1) fun y757=>
     Option.bind (cl (dC a0 a1 y182.1.1.1 y182.1.1.2.1 y182.1.1.2.2 y182.1.2.1 y182.1.2.2.1 y182.1.2.2.2 y182.2.1.1 y182.2.1.2.1 y182.2.1.2.2 y182.2.2.1 y182.2.2.2.1 y182.2.2.2.2 y757.1 y757.2.1 y757.2.2.1 y757.2.2.2)) (sj bd
     (fun e758=>
      kx (e758.1.1.1:Bool),())))
    (Option.bind (cl (dC a0 a1 y182.1.1.1 y182.1.1.2.1 y182.1.1.2.2 y182.1.2.1 y182.1.2.2.1 y182.1.2.2.2 y182.2.1.1 y182.2.1.2.1 y182.2.1.2.2 y182.2.2.1 y182.2.2.2.1 y182.2.2.2.2 y298.1.1 y298.1.2.1 y298.1.2.2.1 y298.1.2.2.2)) (sj bd
     (fun e760=>
      kx (e760.1.1.1:Bool),()))))))
def fU(a0:(List Int))(a1:(List Int)):Option (Bool):=gm some a0 a1
theorem wG{R} kx a0 a1: @gm R kx a0 a1=(fU a0 a1).bind kx:=by
 unfold fU gm
 exact ac fun _=>ae rfl (ac fun _=>ac fun _=>ac fun _=>ae rfl (ae (ae rfl (ae (ac fun _=>dM ⟨fun _=>rfl,trivial⟩) (dM ⟨fun _=>rfl,trivial⟩))) (ae (ac fun _=>dM ⟨fun _=>rfl,trivial⟩) (dM ⟨fun _=>rfl,trivial⟩))))
abbrev pW:List AX:=[.val false (.slice (.int .u8)), .val false (.slice (.int .u8))]
abbrev wV:Bool->AV×List CV:=fun b=>(.one ⟨false,[(.v (.bool b))]⟩,[])
abbrev qy:af:=.fx pW (Bool) (fun z=>fU z.1 z.2.1) wV
theorem xr:ag C0 6 qy:=
 ag.fx (e:=false) (t:=eL) (.cons Ic (.cons ES (.cons Be (.cons Bj (.cons Ie (.cons Bi (.cons DP (.cons Gp (.cons Aa (.cons fq (.cons EP (.cons Ib (.cons H7 (.cons H8 (.cons yW (.nil)))))))))))))))) mixed Tryz.func6 (by kernel_rfl) (by kernel_rfl) eP 1 wZ (fun z=>(by kernel_rfl:_=gm (fun b=>some (qy.enc b)) z.1 z.2.1).trans (wG _ z.1 z.2.1)) wY
end
end Go.Proofs.YtjkljnflaifbhaaGreatDoor
