/- No conditions. -/
import Derived.Test.YtjkljnflaifbhaaGreatDoorZ2c
namespace Go.Proofs.YtjkljnflaifbhaaGreatDoor
open Go.Vai
set_option maxRecDepth 100000
noncomputable section
def gy{R:Type}(kx:Int->Option R)(a0:(List Ln)):Option R:=
 kx ((List.length a0:Nat):Int)
def gw(a0:(List Ln)):Option (Int):=gy some a0
theorem Dg{R} kx a0: @gy R kx a0=(gw a0).bind kx:=by
 unfold gw gy
 exact rfl
abbrev wF:af:=.fx [.val false (.slice yL)] (Int) (fun z=>gw z.1) (fun b=>(.one ⟨false,[(.v (.int .i64 b))]⟩,[]))
theorem EI:ag C0 266 wF:=
 ag.fx (e:=false) (.nil) mixed Tryz.func266 (by kernel_rfl) (by kernel_rfl) aj 1 ai (fun z=>(by kernel_rfl:_=gy (fun b=>some (wF.enc b)) z.1).trans (Dg _ z.1))
def pw{R:Type}(kx:It×Int->Option R)(a0:Cn)(a1:(List Ln))(a2:Int):Option R:=
 cond (a2 !=(0:Int))
 (kx (((ByteArray.mk (Array.mk [])),(Bool.false,((((0:Int),((0:Int),(0:Int))),((0:Int),((0:Int),(0:Int)))),((0:Int),((0:Int),((0:Int),(0:Int))))))),a2))
 (Option.bind (gw a1) fun y1583=>
  cond (decide (a0.2.2.2.1>=y1583))
  (kx (((ByteArray.mk (Array.mk [])),(Bool.false,((((0:Int),((0:Int),(0:Int))),((0:Int),((0:Int),(0:Int)))),((0:Int),((0:Int),((0:Int),(0:Int))))))),(3:Int)))
  (Option.bind (fY a1 a0.2.2.2.1) fun y1584=>
   Option.bind (cx a0.1 y1584 (0:Int)) fun y1585=>
   kx y1585))
def ej(a0:Cn)(a1:(List Ln))(a2:Int):Option (It×Int):=pw some a0 a1 a2
theorem Jg{R} kx a0 a1 a2: @pw R kx a0 a1 a2=(ej a0 a1 a2).bind kx:=by
 unfold ej pw
 exact ae rfl (ac fun _=>ae rfl (ac fun _=>ac fun _=>rfl))
abbrev DS:af:=.fx [.val true yC, .val false (.slice yL), .val false (.int .i64)] (It×Int) (fun z=>ej z.1 z.2.1 z.2.2.1) (fun b=>(.tup [⟨true,[(.v (.string b.1.1)),(.v (.bool b.1.2.1)),(.v (.int .i64 b.1.2.2.1.1.1)),(.v (.int .i64 b.1.2.2.1.1.2.1)),(.v (.int .i64 b.1.2.2.1.1.2.2)),(.v (.int .i64 b.1.2.2.1.2.1)),(.v (.int .i64 b.1.2.2.1.2.2.1)),(.v (.int .i64 b.1.2.2.1.2.2.2)),(.v (.int .i64 b.1.2.2.2.1)),(.v (.int .i64 b.1.2.2.2.2.1)),(.v (.int .i64 b.1.2.2.2.2.2.1)),(.v (.int .i64 b.1.2.2.2.2.2.2))]⟩,⟨false,[(.v (.int .i64 b.2))]⟩],[]))
theorem K8:ag C0 208 DS:=
 ag.fx (e:=false) (.cons EI (.cons yx (.nil))) mixed Tryz.func208 (by kernel_rfl) (by kernel_rfl) aj 1 ai (fun z=>(by kernel_rfl:_=pw (fun b=>some (DS.enc b)) z.1 z.2.1 z.2.2.1).trans (Jg _ z.1 z.2.1 z.2.2.1))
def qp{R:Type}(kx:Int->Option R)(a0:Ln)(a1:Pt):Option R:=
 Option.bind (ca a0) fun y1618=>
 Option.bind (cG y1618 a1) fun y1619=>
 Option.bind (cq y1619 a0.2) fun y1620=>
 Option.bind (ee y1620) fun y1621=>
 kx y1621
def jx(a0:Ln)(a1:Pt):Option (Int):=qp some a0 a1
theorem KA{R} kx a0 a1: @qp R kx a0 a1=(jx a0 a1).bind kx:=by
 unfold jx qp
 exact ac fun _=>ac fun _=>ac fun _=>ac fun _=>rfl
abbrev yl:af:=.fx [.val true yL, .val true yP] (Int) (fun z=>jx z.1 z.2.1) (fun b=>(.one ⟨false,[(.v (.int .i64 b))]⟩,[]))
theorem MI:ag C0 94 yl:=
 ag.fx (e:=false) (.cons kr (.cons mn (.cons kc (.cons yw (.nil))))) mixed Tryz.func94 (by kernel_rfl) (by kernel_rfl) aj 1 ai (fun z=>(by kernel_rfl:_=qp (fun b=>some (yl.enc b)) z.1 z.2.1).trans (KA _ z.1 z.2.1))
def oY:List (FuncId×af):=[(36,sE),(79,ua),(80,Ew),(81,uD),(94,yl),(84,qZ)]
abbrev dd:LS:=⟨[(false,[(.ptr 3 0)]),(false,[(.ptr 4 0)]),(false,[(.ptr 5 0)]),(false,[(.own yL)]),(false,[(.int .i64)])],[(false,[(.int .i64),(.int .i64),(.int .i64),(.int .i64),(.int .i64),(.int .i64)]),(false,[(.int .i64),(.int .i64),(.int .i64),(.int .i64)]),(false,[(.int .i64),(.int .i64),(.int .i64),(.int .i64),(.int .i64),(.int .i64)])],[]⟩
abbrev uN:LS:=⟨[(false,[(.own yL)])],[],[]⟩
abbrev uL v0:=((((v0,()),()),(),()):uN.T)
abbrev du:List (Ex×LS):=[(.exit 0,uN)]
abbrev jZ x8(x24:Int)(b0_0:Int)(b0_1:Int)(b0_2:Int)(b0_3:Int)(b0_4:Int)(b0_5:Int)(b1_0:Int)(b1_1:Int)(b1_2:Int)(b1_3:Int)(b2_0:Int)(b2_1:Int)(b2_2:Int)(b2_3:Int)(b2_4:Int)(b2_5:Int):=(((((),()),((),()),((),()),(x8,()),(x24,()),()),((b0_0,b0_1,b0_2,b0_3,b0_4,b0_5,()),(b1_0,b1_1,b1_2,b1_3,()),(b2_0,b2_1,b2_2,b2_3,b2_4,b2_5,()),()),()):dd.T)
def fF{R:Type}(nx:dd.T->Option R)(hx:lF R du)(x8:List Ln)(x24:Int)(b0_0:Int)(b0_1:Int)(b0_2:Int)(b0_3:Int)(b0_4:Int)(b0_5:Int)(b1_0:Int)(b1_1:Int)(b1_2:Int)(b1_3:Int)(b2_0:Int)(b2_1:Int)(b2_2:Int)(b2_3:Int)(b2_4:Int)(b2_5:Int):Option R:=
 cond (decide (x24<(8:Int)))
 (Option.bind (fX ((b2_0,(b2_1,b2_2)),(b2_3,(b2_4,b2_5))) x24) fun y1614=>
  Option.bind (dJ y1614 ((b0_0,(b0_1,b0_2)),(b0_3,(b0_4,b0_5)))) fun y1615=>
  Option.bind (jx (b1_0,(b1_1,(b1_2,b1_3))) y1615) fun y1622=>
  cond (y1622==(0:Int))
  (cond (decide ((((List.length x8)+(List.length [y1614]))*32)<=70368744177664))
   (cond (decide (((List.length x8)+(List.length [y1614]))<=70368744177664))
    (nx (jZ (x8++ [y1614]) (IntKind.wrap .i64 (x24+(1:Int))) b0_0 b0_1 b0_2 b0_3 b0_4 b0_5 b1_0 b1_1 b1_2 b1_3 b2_0 b2_1 b2_2 b2_3 b2_4 b2_5))
    none)
   none)
  (nx (jZ x8 (IntKind.wrap .i64 (x24+(1:Int))) b0_0 b0_1 b0_2 b0_3 b0_4 b0_5 b1_0 b1_1 b1_2 b1_3 b2_0 b2_1 b2_2 b2_3 b2_4 b2_5)))
 (hx.1 (uL x8))
def rj{R:Type}(nx:dd.T->Option R)(hx:lF R du)(z:dd.T):Option R:=fF nx hx z.1.2.2.2.1.1 z.1.2.2.2.2.1.1 z.2.1.1.1 z.2.1.1.2.1 z.2.1.1.2.2.1 z.2.1.1.2.2.2.1 z.2.1.1.2.2.2.2.1 z.2.1.1.2.2.2.2.2.1 z.2.1.2.1.1 z.2.1.2.1.2.1 z.2.1.2.1.2.2.1 z.2.1.2.1.2.2.2.1 z.2.1.2.2.1.1 z.2.1.2.2.1.2.1 z.2.1.2.2.1.2.2.1 z.2.1.2.2.1.2.2.2.1 z.2.1.2.2.1.2.2.2.2.1 z.2.1.2.2.1.2.2.2.2.2.1
theorem uW:cY @rj:=fun R nx hx z=>by
 show fF nx hx z.1.2.2.2.1.1 z.1.2.2.2.2.1.1 z.2.1.1.1 z.2.1.1.2.1 z.2.1.1.2.2.1 z.2.1.1.2.2.2.1 z.2.1.1.2.2.2.2.1 z.2.1.1.2.2.2.2.2.1 z.2.1.2.1.1 z.2.1.2.1.2.1 z.2.1.2.1.2.2.1 z.2.1.2.1.2.2.2.1 z.2.1.2.2.1.1 z.2.1.2.2.1.2.1 z.2.1.2.2.1.2.2.1 z.2.1.2.2.1.2.2.2.1 z.2.1.2.2.1.2.2.2.2.1 z.2.1.2.2.1.2.2.2.2.2.1=(fF (fun y=>some (.inl y)) (oM du fun x=>some (.inr x)) z.1.2.2.2.1.1 z.1.2.2.2.2.1.1 z.2.1.1.1 z.2.1.1.2.1 z.2.1.1.2.2.1 z.2.1.1.2.2.2.1 z.2.1.1.2.2.2.2.1 z.2.1.1.2.2.2.2.2.1 z.2.1.2.1.1 z.2.1.2.1.2.1 z.2.1.2.1.2.2.1 z.2.1.2.1.2.2.2.1 z.2.1.2.2.1.1 z.2.1.2.2.1.2.1 z.2.1.2.2.1.2.2.1 z.2.1.2.2.1.2.2.2.1 z.2.1.2.2.1.2.2.2.2.1 z.2.1.2.2.1.2.2.2.2.2.1).bind (oH nx hx)
 unfold fF
 exact ae (ac fun _=>ac fun _=>ac fun _=>ae (ae (ae rfl rfl) rfl) rfl) rfl
def ik:dd.T->Option (xb du):=BJ @rj
theorem wK x8 x24 b0_0 b0_1 b0_2 b0_3 b0_4 b0_5 b1_0 b1_1 b1_2 b1_3 b2_0 b2_1 b2_2 b2_3 b2_4 b2_5:ik (jZ x8 x24 b0_0 b0_1 b0_2 b0_3 b0_4 b0_5 b1_0 b1_1 b1_2 b1_3 b2_0 b2_1 b2_2 b2_3 b2_4 b2_5)=fF ik (oM du some) x8 x24 b0_0 b0_1 b0_2 b0_3 b0_4 b0_5 b1_0 b1_1 b1_2 b1_3 b2_0 b2_1 b2_2 b2_3 b2_4 b2_5:=eU uW _
def mh:bQ:=⟨[3,4,5,8,24],[3,4,5],[8],[]⟩
def pg:fQ Rv:=⟨fun k=>match k with|6=>mh|_=>⟨[],[],[],[]⟩,fun k=>match k with|6=>some (cu dd du ik)|_=>none⟩
theorem FM(n:Nat)(z:dd.T)(k:Ex->hZ->Option Rv):bL ⟨45,45⟩ mh (nG (ii C0 oY) ⟨45,45⟩ pg 1 (aL Tryz.f41 5)) (n+1) (dd.enc z) k=
 rj (fun y=>bL ⟨45,45⟩ mh (nG (ii C0 oY) ⟨45,45⟩ pg 1 (aL Tryz.f41 5)) n (dd.enc y) k) (hK k du) z:=by kernel_rfl
theorem G4:aw (ii C0 oY) ⟨45,45⟩ pg 1 (cp (bh Tryz.f41)):=by
 have hl:cp (bh Tryz.f41)=[aL Tryz.f41 5]:=by kernel_rfl
 rw[hl]
 exact aw.cons (n:=6) (lh:=mh) (S:=cu dd du ik) (by kernel_rfl) rfl rfl (cy uW FM)
  (aw.nil)
def lS{R:Type}(kx:(List Ln)×Int->Option R)(a0:Pt)(a1:Ln)(a2:Pt):Option R:=
 Option.bind (aG a0) fun y1593=>
 cond (!y1593)
 (kx ([],(1:Int)))
 (Option.bind (aH a1) fun y1594=>
  cond (!y1594)
  (kx ([],(1:Int)))
  (Option.bind (aG a2) fun y1595=>
   cond (!y1595)
   (kx ([],(1:Int)))
   (Option.bind (ik (jZ [] (0:Int) a0.1.1 a0.1.2.1 a0.1.2.2 a0.2.1 a0.2.2.1 a0.2.2.2 a1.1 a1.2.1 a1.2.2.1 a1.2.2.2 a2.1.1 a2.1.2.1 a2.1.2.2 a2.2.1 a2.2.2.1 a2.2.2.2)) (pD du
    (fun e1623=>
     cond (decide ((List.length (e1623.1.1.1:List Ln))=(List.length (e1623.1.1.1:List Ln))))
     (Option.bind (cK (e1623.1.1.1:List Ln)) fun y1625=>
      kx y1625)
     none,())))))
def gB(a0:Pt)(a1:Ln)(a2:Pt):Option ((List Ln)×Int):=lS some a0 a1 a2
theorem Gj{R} kx a0 a1 a2: @lS R kx a0 a1 a2=(gB a0 a1 a2).bind kx:=by
 unfold gB lS
 exact ac fun _=>ae rfl (ac fun _=>ae rfl (ac fun _=>ae rfl (cE ⟨fun _=>ae (ac fun _=>rfl) rfl,trivial⟩)))
abbrev zM:af:=.fx [.val true yP, .val true yL, .val true yP] ((List Ln)×Int) (fun z=>gB z.1 z.2.1 z.2.2.1) (fun b=>(.tup [⟨false,[(.own yL b.1)]⟩,⟨false,[(.v (.int .i64 b.2))]⟩],[]))
theorem Hg:ag C0 41 zM:=
 ag.fx (e:=false) (t:=oY) (.cons eR (.cons dD (.cons qi (.cons tj (.cons MI (.cons uE (.nil))))))) mixed Tryz.func41 (by kernel_rfl) (by kernel_rfl) pg 1 G4 (fun z=>(by kernel_rfl:_=lS (fun b=>some (zM.enc b)) z.1 z.2.1 z.2.2.1).trans (Gj _ z.1 z.2.1 z.2.2.1))
def rF{R:Type}(kx:Ln×Int->Option R)(a0:Int)(a1:Pt)(a2:Ln):Option R:=
 Option.bind (pH (IntKind.wrap .i64 (a0+(4:Int)))) fun y1665=>
 Option.bind (ca a2) fun y1666=>
 Option.bind (cG y1666 y1665) fun y1667=>
 Option.bind (cG y1666 a1) fun y1668=>
 Option.bind (cq a2.2 y1668) fun y1669=>
 cond ((y1667.1==(0:Int))&&((y1667.2.1==(0:Int))&&((y1667.2.2==(0:Int))&&Bool.true)))
 (cond ((y1669.1==(0:Int))&&((y1669.2.1==(0:Int))&&((y1669.2.2==(0:Int))&&Bool.true)))
  (kx (((0:Int),((0:Int),((0:Int),(0:Int)))),(2:Int)))
  (kx (((0:Int),((0:Int),((0:Int),(0:Int)))),(0:Int))))
 (Option.bind (cG y1665 y1665) fun y1670=>
  Option.bind (cF y1669 y1670) fun y1671=>
  Option.bind (ed y1667 y1667) fun y1672=>
  Option.bind (fS y1671 y1672) fun y1673=>
  cond (!y1673.2)
  (kx (((0:Int),((0:Int),((0:Int),(0:Int)))),(3:Int)))
  (Option.bind (cG y1665 a1) fun y1674=>
   Option.bind (ed y1674 y1673.1) fun y1675=>
   kx ((a0,y1675),(1:Int))))
def ky(a0:Int)(a1:Pt)(a2:Ln):Option (Ln×Int):=rF some a0 a1 a2
theorem Mh{R} kx a0 a1 a2: @rF R kx a0 a1 a2=(ky a0 a1 a2).bind kx:=by
 unfold ky rF
 exact ac fun _=>ac fun _=>ac fun _=>ac fun _=>ac fun _=>ae (ae rfl rfl) (ac fun _=>ac fun _=>ac fun _=>ac fun _=>ae rfl (ac fun _=>ac fun _=>rfl))
abbrev Ao:af:=.fx [.val false (.int .i64), .val true yP, .val true yL] (Ln×Int) (fun z=>ky z.1 z.2.1 z.2.2.1) (fun b=>(.tup [⟨true,[(.v (.int .i64 b.1.1)),(.v (.int .i64 b.1.2.1)),(.v (.int .i64 b.1.2.2.1)),(.v (.int .i64 b.1.2.2.2))]⟩,⟨false,[(.v (.int .i64 b.2))]⟩],[]))
theorem FK:ag C0 209 Ao:=
 ag.fx (e:=false) (.cons C2 (.cons kr (.cons mn (.cons kc (.cons mm (.cons nz (.cons uo (.nil)))))))) mixed Tryz.func209 (by kernel_rfl) (by kernel_rfl) aj 1 ai (fun z=>(by kernel_rfl:_=rF (fun b=>some (Ao.enc b)) z.1 z.2.1 z.2.2.1).trans (Mh _ z.1 z.2.1 z.2.2.1))
def wO:List (FuncId×af):=[(36,sE),(79,ua),(209,Ao),(84,qZ)]
abbrev fh:LS:=⟨[(false,[(.ptr 4 0)]),(false,[(.ptr 5 0)]),(false,[(.ptr 6 0)]),(false,[(.ptr 7 0)]),(false,[(.own yL)]),(false,[(.int .i64)])],[(false,[(.int .i64),(.int .i64),(.int .i64),(.int .i64),(.int .i64),(.int .i64)]),(false,[(.int .i64),(.int .i64),(.int .i64),(.int .i64)]),(false,[(.int .i64),(.int .i64),(.int .i64),(.int .i64),(.int .i64),(.int .i64)]),(false,[(.int .i64),(.int .i64),(.int .i64),(.int .i64)])],[]⟩
abbrev B9:LS:=⟨[(false,[(.own yL)]),(false,[(.int .i64)]),(false,[(.own yL)])],[],[]⟩
abbrev qS v0(v1:Int) v2:=((((v0,()),(v1,()),(v2,()),()),(),()):B9.T)
abbrev Ca:LS:=⟨[(false,[.undef]),(false,[.undef]),(false,[(.own yL)])],[],[]⟩
abbrev B4 v0:=(((((),()),((),()),(v0,()),()),(),()):Ca.T)
abbrev ge:List (Ex×LS):=[(.ret,B9),(.exit 0,Ca)]
abbrev cZ x10(x34:Int)(b0_0:Int)(b0_1:Int)(b0_2:Int)(b0_3:Int)(b0_4:Int)(b0_5:Int)(b1_0:Int)(b1_1:Int)(b1_2:Int)(b1_3:Int)(b2_0:Int)(b2_1:Int)(b2_2:Int)(b2_3:Int)(b2_4:Int)(b2_5:Int)(b3_0:Int)(b3_1:Int)(b3_2:Int)(b3_3:Int):=(((((),()),((),()),((),()),((),()),(x10,()),(x34,()),()),((b0_0,b0_1,b0_2,b0_3,b0_4,b0_5,()),(b1_0,b1_1,b1_2,b1_3,()),(b2_0,b2_1,b2_2,b2_3,b2_4,b2_5,()),(b3_0,b3_1,b3_2,b3_3,()),()),()):fh.T)
def jF{R:Type}(nx:fh.T->Option R)(hx:lF R ge)(x10:List Ln)(x34:Int)(b0_0:Int)(b0_1:Int)(b0_2:Int)(b0_3:Int)(b0_4:Int)(b0_5:Int)(b1_0:Int)(b1_1:Int)(b1_2:Int)(b1_3:Int)(b2_0:Int)(b2_1:Int)(b2_2:Int)(b2_3:Int)(b2_4:Int)(b2_5:Int)(b3_0:Int)(b3_1:Int)(b3_2:Int)(b3_3:Int):Option R:=
 cond (decide (x34<(8:Int)))
 (Option.bind (ky x34 ((b0_0,(b0_1,b0_2)),(b0_3,(b0_4,b0_5))) (b1_0,(b1_1,(b1_2,b1_3)))) fun y1676=>
  Option.bind (ky x34 ((b2_0,(b2_1,b2_2)),(b2_3,(b2_4,b2_5))) (b3_0,(b3_1,(b3_2,b3_3)))) fun y1677=>
  cond (y1676.2==(0:Int))
  (nx (cZ x10 (IntKind.wrap .i64 (x34+(1:Int))) b0_0 b0_1 b0_2 b0_3 b0_4 b0_5 b1_0 b1_1 b1_2 b1_3 b2_0 b2_1 b2_2 b2_3 b2_4 b2_5 b3_0 b3_1 b3_2 b3_3))
  (cond (y1677.2==(0:Int))
   (nx (cZ x10 (IntKind.wrap .i64 (x34+(1:Int))) b0_0 b0_1 b0_2 b0_3 b0_4 b0_5 b1_0 b1_1 b1_2 b1_3 b2_0 b2_1 b2_2 b2_3 b2_4 b2_5 b3_0 b3_1 b3_2 b3_3))
   (cond (y1676.2==(2:Int))
    (cond (y1677.2==(2:Int))
     (nx (cZ x10 (IntKind.wrap .i64 (x34+(1:Int))) b0_0 b0_1 b0_2 b0_3 b0_4 b0_5 b1_0 b1_1 b1_2 b1_3 b2_0 b2_1 b2_2 b2_3 b2_4 b2_5 b3_0 b3_1 b3_2 b3_3))
     (cond (y1676.2==(3:Int))
      (hx.1 (qS [] (2:Int) x10))
      (cond (y1677.2==(3:Int))
       (hx.1 (qS [] (2:Int) x10))
       (cond (y1676.2==(2:Int))
        (cond (decide ((((List.length x10)+(List.length [y1677.1]))*32)<=70368744177664))
         (cond (decide (((List.length x10)+(List.length [y1677.1]))<=70368744177664))
          (nx (cZ (x10++ [y1677.1]) (IntKind.wrap .i64 (x34+(1:Int))) b0_0 b0_1 b0_2 b0_3 b0_4 b0_5 b1_0 b1_1 b1_2 b1_3 b2_0 b2_1 b2_2 b2_3 b2_4 b2_5 b3_0 b3_1 b3_2 b3_3))
          none)
         none)
        (cond (y1677.2==(2:Int))
         (cond (decide ((((List.length x10)+(List.length [y1676.1]))*32)<=70368744177664))
          (cond (decide (((List.length x10)+(List.length [y1676.1]))<=70368744177664))
           (nx (cZ (x10++ [y1676.1]) (IntKind.wrap .i64 (x34+(1:Int))) b0_0 b0_1 b0_2 b0_3 b0_4 b0_5 b1_0 b1_1 b1_2 b1_3 b2_0 b2_1 b2_2 b2_3 b2_4 b2_5 b3_0 b3_1 b3_2 b3_3))
           none)
          none)
         (cond ((y1676.1.1==y1677.1.1)&&(((y1676.1.2.1==y1677.1.2.1)&&((y1676.1.2.2.1==y1677.1.2.2.1)&&((y1676.1.2.2.2==y1677.1.2.2.2)&&Bool.true)))&&Bool.true))
          (cond (decide ((((List.length x10)+(List.length [y1676.1]))*32)<=70368744177664))
           (cond (decide (((List.length x10)+(List.length [y1676.1]))<=70368744177664))
            (nx (cZ (x10++ [y1676.1]) (IntKind.wrap .i64 (x34+(1:Int))) b0_0 b0_1 b0_2 b0_3 b0_4 b0_5 b1_0 b1_1 b1_2 b1_3 b2_0 b2_1 b2_2 b2_3 b2_4 b2_5 b3_0 b3_1 b3_2 b3_3))
            none)
           none)
          (nx (cZ x10 (IntKind.wrap .i64 (x34+(1:Int))) b0_0 b0_1 b0_2 b0_3 b0_4 b0_5 b1_0 b1_1 b1_2 b1_3 b2_0 b2_1 b2_2 b2_3 b2_4 b2_5 b3_0 b3_1 b3_2 b3_3))))))))
    (cond (y1676.2==(3:Int))
     (hx.1 (qS [] (2:Int) x10))
     (cond (y1677.2==(3:Int))
      (hx.1 (qS [] (2:Int) x10))
      (cond (y1676.2==(2:Int))
       (cond (decide ((((List.length x10)+(List.length [y1677.1]))*32)<=70368744177664))
        (cond (decide (((List.length x10)+(List.length [y1677.1]))<=70368744177664))
         (nx (cZ (x10++ [y1677.1]) (IntKind.wrap .i64 (x34+(1:Int))) b0_0 b0_1 b0_2 b0_3 b0_4 b0_5 b1_0 b1_1 b1_2 b1_3 b2_0 b2_1 b2_2 b2_3 b2_4 b2_5 b3_0 b3_1 b3_2 b3_3))
         none)
        none)
       (cond (y1677.2==(2:Int))
        (cond (decide ((((List.length x10)+(List.length [y1676.1]))*32)<=70368744177664))
         (cond (decide (((List.length x10)+(List.length [y1676.1]))<=70368744177664))
          (nx (cZ (x10++ [y1676.1]) (IntKind.wrap .i64 (x34+(1:Int))) b0_0 b0_1 b0_2 b0_3 b0_4 b0_5 b1_0 b1_1 b1_2 b1_3 b2_0 b2_1 b2_2 b2_3 b2_4 b2_5 b3_0 b3_1 b3_2 b3_3))
          none)
         none)
        (cond ((y1676.1.1==y1677.1.1)&&(((y1676.1.2.1==y1677.1.2.1)&&((y1676.1.2.2.1==y1677.1.2.2.1)&&((y1676.1.2.2.2==y1677.1.2.2.2)&&Bool.true)))&&Bool.true))
         (cond (decide ((((List.length x10)+(List.length [y1676.1]))*32)<=70368744177664))
          (cond (decide (((List.length x10)+(List.length [y1676.1]))<=70368744177664))
           (nx (cZ (x10++ [y1676.1]) (IntKind.wrap .i64 (x34+(1:Int))) b0_0 b0_1 b0_2 b0_3 b0_4 b0_5 b1_0 b1_1 b1_2 b1_3 b2_0 b2_1 b2_2 b2_3 b2_4 b2_5 b3_0 b3_1 b3_2 b3_3))
           none)
          none)
         (nx (cZ x10 (IntKind.wrap .i64 (x34+(1:Int))) b0_0 b0_1 b0_2 b0_3 b0_4 b0_5 b1_0 b1_1 b1_2 b1_3 b2_0 b2_1 b2_2 b2_3 b2_4 b2_5 b3_0 b3_1 b3_2 b3_3))))))))))
 (hx.2.1 (B4 x10))
def yB{R:Type}(nx:fh.T->Option R)(hx:lF R ge)(z:fh.T):Option R:=jF nx hx z.1.2.2.2.2.1.1 z.1.2.2.2.2.2.1.1 z.2.1.1.1 z.2.1.1.2.1 z.2.1.1.2.2.1 z.2.1.1.2.2.2.1 z.2.1.1.2.2.2.2.1 z.2.1.1.2.2.2.2.2.1 z.2.1.2.1.1 z.2.1.2.1.2.1 z.2.1.2.1.2.2.1 z.2.1.2.1.2.2.2.1 z.2.1.2.2.1.1 z.2.1.2.2.1.2.1 z.2.1.2.2.1.2.2.1 z.2.1.2.2.1.2.2.2.1 z.2.1.2.2.1.2.2.2.2.1 z.2.1.2.2.1.2.2.2.2.2.1 z.2.1.2.2.2.1.1 z.2.1.2.2.2.1.2.1 z.2.1.2.2.2.1.2.2.1 z.2.1.2.2.2.1.2.2.2.1
theorem CG:cY @yB:=fun R nx hx z=>by
 show jF nx hx z.1.2.2.2.2.1.1 z.1.2.2.2.2.2.1.1 z.2.1.1.1 z.2.1.1.2.1 z.2.1.1.2.2.1 z.2.1.1.2.2.2.1 z.2.1.1.2.2.2.2.1 z.2.1.1.2.2.2.2.2.1 z.2.1.2.1.1 z.2.1.2.1.2.1 z.2.1.2.1.2.2.1 z.2.1.2.1.2.2.2.1 z.2.1.2.2.1.1 z.2.1.2.2.1.2.1 z.2.1.2.2.1.2.2.1 z.2.1.2.2.1.2.2.2.1 z.2.1.2.2.1.2.2.2.2.1 z.2.1.2.2.1.2.2.2.2.2.1 z.2.1.2.2.2.1.1 z.2.1.2.2.2.1.2.1 z.2.1.2.2.2.1.2.2.1 z.2.1.2.2.2.1.2.2.2.1=(jF (fun y=>some (.inl y)) (oM ge fun x=>some (.inr x)) z.1.2.2.2.2.1.1 z.1.2.2.2.2.2.1.1 z.2.1.1.1 z.2.1.1.2.1 z.2.1.1.2.2.1 z.2.1.1.2.2.2.1 z.2.1.1.2.2.2.2.1 z.2.1.1.2.2.2.2.2.1 z.2.1.2.1.1 z.2.1.2.1.2.1 z.2.1.2.1.2.2.1 z.2.1.2.1.2.2.2.1 z.2.1.2.2.1.1 z.2.1.2.2.1.2.1 z.2.1.2.2.1.2.2.1 z.2.1.2.2.1.2.2.2.1 z.2.1.2.2.1.2.2.2.2.1 z.2.1.2.2.1.2.2.2.2.2.1 z.2.1.2.2.2.1.1 z.2.1.2.2.2.1.2.1 z.2.1.2.2.2.1.2.2.1 z.2.1.2.2.2.1.2.2.2.1).bind (oH nx hx)
 unfold jF
 exact ae (ac fun _=>ac fun _=>ae rfl (ae rfl (ae (ae rfl (ae rfl (ae rfl (ae (ae (ae rfl rfl) rfl) (ae (ae (ae rfl rfl) rfl) (ae (ae (ae rfl rfl) rfl) rfl)))))) (ae rfl (ae rfl (ae (ae (ae rfl rfl) rfl) (ae (ae (ae rfl rfl) rfl) (ae (ae (ae rfl rfl) rfl) rfl)))))))) rfl
def nD:fh.T->Option (xb ge):=BJ @yB
theorem Em x10 x34 b0_0 b0_1 b0_2 b0_3 b0_4 b0_5 b1_0 b1_1 b1_2 b1_3 b2_0 b2_1 b2_2 b2_3 b2_4 b2_5 b3_0 b3_1 b3_2 b3_3:nD (cZ x10 x34 b0_0 b0_1 b0_2 b0_3 b0_4 b0_5 b1_0 b1_1 b1_2 b1_3 b2_0 b2_1 b2_2 b2_3 b2_4 b2_5 b3_0 b3_1 b3_2 b3_3)=jF nD (oM ge some) x10 x34 b0_0 b0_1 b0_2 b0_3 b0_4 b0_5 b1_0 b1_1 b1_2 b1_3 b2_0 b2_1 b2_2 b2_3 b2_4 b2_5 b3_0 b3_1 b3_2 b3_3:=eU CG _
def sF:bQ:=⟨[4,5,6,7,10,34],[4,5,6,7],[8,9,10],[]⟩
def xd:fQ Rv:=⟨fun k=>match k with|6=>sF|_=>⟨[],[],[],[]⟩,fun k=>match k with|6=>some (cu fh ge nD)|_=>none⟩
theorem MZ(n:Nat)(z:fh.T)(k:Ex->hZ->Option Rv):bL ⟨97,97⟩ sF (nG (ii C0 wO) ⟨97,97⟩ xd 1 (aL Tryz.f207 5)) (n+1) (fh.enc z) k=
 yB (fun y=>bL ⟨97,97⟩ sF (nG (ii C0 wO) ⟨97,97⟩ xd 1 (aL Tryz.f207 5)) n (fh.enc y) k) (hK k ge) z:=by kernel_rfl
theorem Pu:aw (ii C0 wO) ⟨97,97⟩ xd 1 (cp (bh Tryz.f207)):=by
 have hl:cp (bh Tryz.f207)=[aL Tryz.f207 5]:=by kernel_rfl
 rw[hl]
 exact aw.cons (n:=6) (lh:=sF) (S:=cu fh ge nD) (by kernel_rfl) rfl rfl (cy CG MZ)
  (aw.nil)
def tp{R:Type}(kx:(List Ln)×Int->Option R)(a0:Pt)(a1:Ln)(a2:Pt)(a3:Ln):Option R:=
 Option.bind (aG a0) fun y1636=>
 cond (!y1636)
 (kx ([],(1:Int)))
 (Option.bind (aH a1) fun y1637=>
  cond (!y1637)
  (kx ([],(1:Int)))
  (Option.bind (aG a2) fun y1638=>
   cond (!y1638)
   (kx ([],(1:Int)))
   (Option.bind (aH a3) fun y1639=>
    cond (!y1639)
    (kx ([],(1:Int)))
    (Option.bind (nD (cZ [] (0:Int) a0.1.1 a0.1.2.1 a0.1.2.2 a0.2.1 a0.2.2.1 a0.2.2.2 a1.1 a1.2.1 a1.2.2.1 a1.2.2.2 a2.1.1 a2.1.2.1 a2.1.2.2 a2.2.1 a2.2.2.1 a2.2.2.2 a3.1 a3.2.1 a3.2.2.1 a3.2.2.2)) (pD ge
     (fun e1678=>
      kx ((e1678.1.1.1:List Ln),(e1678.1.2.1.1:Int)),fun e1682=>
      cond (decide ((List.length (e1682.1.2.2.1.1:List Ln))=(List.length (e1682.1.2.2.1.1:List Ln))))
      (Option.bind (cK (e1682.1.2.2.1.1:List Ln)) fun y1684=>
       kx y1684)
      none,()))))))
def nJ(a0:Pt)(a1:Ln)(a2:Pt)(a3:Ln):Option ((List Ln)×Int):=tp some a0 a1 a2 a3
theorem NJ{R} kx a0 a1 a2 a3: @tp R kx a0 a1 a2 a3=(nJ a0 a1 a2 a3).bind kx:=by
 unfold nJ tp
 exact ac fun _=>ae rfl (ac fun _=>ae rfl (ac fun _=>ae rfl (ac fun _=>ae rfl (cE ⟨fun _=>rfl,fun _=>ae (ac fun _=>rfl) rfl,trivial⟩))))
abbrev HI:af:=.fx [.val true yP, .val true yL, .val true yP, .val true yL] ((List Ln)×Int) (fun z=>nJ z.1 z.2.1 z.2.2.1 z.2.2.2.1) (fun b=>(.tup [⟨false,[(.own yL b.1)]⟩,⟨false,[(.v (.int .i64 b.2))]⟩],[]))
theorem P9:ag C0 207 HI:=
 ag.fx (e:=false) (t:=wO) (.cons eR (.cons dD (.cons FK (.cons uE (.nil))))) mixed Tryz.func207 (by kernel_rfl) (by kernel_rfl) xd 1 Pu (fun z=>(by kernel_rfl:_=tp (fun b=>some (HI.enc b)) z.1 z.2.1 z.2.2.1 z.2.2.2.1).trans (NJ _ z.1 z.2.1 z.2.2.1 z.2.2.2.1))
def sO{R:Type}(kx:It×Int->Option R)(a0:Cn)(a1:(List It)):Option R:=
 cond (a0.2.1==(8:Int))
 (Option.bind (fY a1 (0:Int)) fun y1451=>
  Option.bind (fY a1 (1:Int)) fun y1452=>
  Option.bind (kW y1451.2.2.2 y1452.2.2.2) fun y1578=>
  Option.bind (ej a0 y1578.1 y1578.2) fun y1586=>
  kx y1586)
 (cond (a0.2.1==(10:Int))
  (Option.bind (fY a1 (0:Int)) fun y1587=>
   Option.bind (fY a1 (1:Int)) fun y1588=>
   Option.bind (fY a1 (2:Int)) fun y1589=>
   Option.bind (gB y1587.2.2.1 y1588.2.2.2 y1589.2.2.1) fun y1626=>
   Option.bind (ej a0 y1626.1 y1626.2) fun y1627=>
   kx y1627)
  (Option.bind (fY a1 (0:Int)) fun y1628=>
   Option.bind (fY a1 (1:Int)) fun y1629=>
   Option.bind (fY a1 (2:Int)) fun y1630=>
   Option.bind (fY a1 (3:Int)) fun y1631=>
   Option.bind (nJ y1628.2.2.1 y1629.2.2.2 y1630.2.2.1 y1631.2.2.2) fun y1685=>
   Option.bind (ej a0 y1685.1 y1685.2) fun y1686=>
   kx y1686))
def me(a0:Cn)(a1:(List It)):Option (It×Int):=sO some a0 a1
theorem Jh{R} kx a0 a1: @sO R kx a0 a1=(me a0 a1).bind kx:=by
 unfold me sO
 exact ae (ac fun _=>ac fun _=>ac fun _=>ac fun _=>rfl) (ae (ac fun _=>ac fun _=>ac fun _=>ac fun _=>ac fun _=>rfl) (ac fun _=>ac fun _=>ac fun _=>ac fun _=>ac fun _=>ac fun _=>rfl))
abbrev DT:af:=.fx [.val true yC, .val false (.slice yI)] (It×Int) (fun z=>me z.1 z.2.1) (fun b=>(.tup [⟨true,[(.v (.string b.1.1)),(.v (.bool b.1.2.1)),(.v (.int .i64 b.1.2.2.1.1.1)),(.v (.int .i64 b.1.2.2.1.1.2.1)),(.v (.int .i64 b.1.2.2.1.1.2.2)),(.v (.int .i64 b.1.2.2.1.2.1)),(.v (.int .i64 b.1.2.2.1.2.2.1)),(.v (.int .i64 b.1.2.2.1.2.2.2)),(.v (.int .i64 b.1.2.2.2.1)),(.v (.int .i64 b.1.2.2.2.2.1)),(.v (.int .i64 b.1.2.2.2.2.2.1)),(.v (.int .i64 b.1.2.2.2.2.2.2))]⟩,⟨false,[(.v (.int .i64 b.2))]⟩],[]))
theorem K9:ag C0 134 DT:=
 ag.fx (e:=false) (.cons MG (.cons K8 (.cons Hg (.cons P9 (.nil))))) mixed Tryz.func134 (by kernel_rfl) (by kernel_rfl) aj 1 ai (fun z=>(by kernel_rfl:_=sO (fun b=>some (DT.enc b)) z.1 z.2.1).trans (Jh _ z.1 z.2.1))
def og{R:Type}(kx:Pt->Option R)(a0:Pt)(a1:Pt):Option R:=
 Option.bind (cq a0.1 a1.1) fun y1703=>
 Option.bind (cq a0.2 a1.2) fun y1704=>
 kx (y1703,y1704)
def nK(a0:Pt)(a1:Pt):Option (Pt):=og some a0 a1
theorem If{R} kx a0 a1: @og R kx a0 a1=(nK a0 a1).bind kx:=by
 unfold nK og
 exact ac fun _=>ac fun _=>rfl
abbrev wm:af:=.fx [.val true yP, .val true yP] (Pt) (fun z=>nK z.1 z.2.1) (fun b=>(.one ⟨true,[(.v (.int .i64 b.1.1)),(.v (.int .i64 b.1.2.1)),(.v (.int .i64 b.1.2.2)),(.v (.int .i64 b.2.1)),(.v (.int .i64 b.2.2.1)),(.v (.int .i64 b.2.2.2))]⟩,[]))
theorem Jw:ag C0 167 wm:=
 ag.fx (e:=false) (.cons kc (.nil)) mixed Tryz.func167 (by kernel_rfl) (by kernel_rfl) aj 1 ai (fun z=>(by kernel_rfl:_=og (fun b=>some (wm.enc b)) z.1 z.2.1).trans (If _ z.1 z.2.1))
def tM:List (FuncId×af):=[(167,wm),(168,Ey),(163,wl),(150,yn),(169,An)]
abbrev eL:LS:=⟨[(false,[(.ptr 5 0)]),(false,[(.int .i64)])],[(false,[(.int .i64),(.int .i64),(.int .i64),(.int .i64),(.int .i64),(.int .i64)])],[]⟩
abbrev zB:LS:=⟨[(false,[(.int .i64)])],[],[]⟩
abbrev zq(v0:Int):=((((v0,()),()),(),()):zB.T)
abbrev zC:LS:=⟨[(false,[.undef])],[],[]⟩
abbrev zr:=(((((),()),()),(),()):zC.T)
abbrev fK:List (Ex×LS):=[(.ret,zB),(.exit 0,zC)]
abbrev lu(x11:Int)(b0_0:Int)(b0_1:Int)(b0_2:Int)(b0_3:Int)(b0_4:Int)(b0_5:Int):=(((((),()),(x11,()),()),((b0_0,b0_1,b0_2,b0_3,b0_4,b0_5,()),()),()):eL.T)
def jm{R:Type}(nx:eL.T->Option R)(hx:lF R fK)(x11:Int)(b0_0:Int)(b0_1:Int)(b0_2:Int)(b0_3:Int)(b0_4:Int)(b0_5:Int):Option R:=
 cond (decide (x11<(16:Int)))
 (Option.bind (pH x11) fun y1713=>
  Option.bind (gC y1713 ((b0_0,(b0_1,b0_2)),(b0_3,(b0_4,b0_5)))) fun y1714=>
  cond ((y1714.1==(0:Int))&&((y1714.2.1==(0:Int))&&((y1714.2.2==(0:Int))&&Bool.true)))
  (Option.bind (cG y1713 ((b0_0,(b0_1,b0_2)),(b0_3,(b0_4,b0_5)))) fun y1715=>
   Option.bind (ee y1715) fun y1716=>
   cond (decide (y1716>(0:Int)))
   (hx.1 (zq x11))
   (nx (lu (IntKind.wrap .i64 (x11+(1:Int))) b0_0 b0_1 b0_2 b0_3 b0_4 b0_5)))
  (nx (lu (IntKind.wrap .i64 (x11+(1:Int))) b0_0 b0_1 b0_2 b0_3 b0_4 b0_5)))
 (hx.2.1 (zr))
def wu{R:Type}(nx:eL.T->Option R)(hx:lF R fK)(z:eL.T):Option R:=jm nx hx z.1.2.1.1 z.2.1.1.1 z.2.1.1.2.1 z.2.1.1.2.2.1 z.2.1.1.2.2.2.1 z.2.1.1.2.2.2.2.1 z.2.1.1.2.2.2.2.2.1
theorem zU:cY @wu:=fun R nx hx z=>by
 show jm nx hx z.1.2.1.1 z.2.1.1.1 z.2.1.1.2.1 z.2.1.1.2.2.1 z.2.1.1.2.2.2.1 z.2.1.1.2.2.2.2.1 z.2.1.1.2.2.2.2.2.1=(jm (fun y=>some (.inl y)) (oM fK fun x=>some (.inr x)) z.1.2.1.1 z.2.1.1.1 z.2.1.1.2.1 z.2.1.1.2.2.1 z.2.1.1.2.2.2.1 z.2.1.1.2.2.2.2.1 z.2.1.1.2.2.2.2.2.1).bind (oH nx hx)
 unfold jm
 exact ae (ac fun _=>ac fun _=>ae (ac fun _=>ac fun _=>ae rfl rfl) rfl) rfl
def js:eL.T->Option (xb fK):=BJ @wu
theorem Bi x11 b0_0 b0_1 b0_2 b0_3 b0_4 b0_5:js (lu x11 b0_0 b0_1 b0_2 b0_3 b0_4 b0_5)=jm js (oM fK some) x11 b0_0 b0_1 b0_2 b0_3 b0_4 b0_5:=eU zU _
def pT:bQ:=⟨[5,11],[5],[4],[]⟩
def tT:fQ Rv:=⟨fun k=>match k with|4=>pT|_=>⟨[],[],[],[]⟩,fun k=>match k with|4=>some (cu eL fK js)|_=>none⟩
theorem JF(n:Nat)(z:eL.T)(k:Ex->hZ->Option Rv):bL ⟨30,30⟩ pT (nG (ii C0 tM) ⟨30,30⟩ tT 1 (aL Tryz.f90 3)) (n+1) (eL.enc z) k=
 wu (fun y=>bL ⟨30,30⟩ pT (nG (ii C0 tM) ⟨30,30⟩ tT 1 (aL Tryz.f90 3)) n (eL.enc y) k) (hK k fK) z:=by kernel_rfl
theorem LL:aw (ii C0 tM) ⟨30,30⟩ tT 1 (cp (bh Tryz.f90)):=by
 have hl:cp (bh Tryz.f90)=[aL Tryz.f90 3]:=by kernel_rfl
 rw[hl]
 exact aw.cons (n:=4) (lh:=pT) (S:=cu eL fK js) (by kernel_rfl) rfl rfl (cy zU JF)
  (aw.nil)
def qw{R:Type}(kx:Int->Option R)(a0:Pt)(a1:Pt):Option R:=
 Option.bind (nK a1 a0) fun y1705=>
 Option.bind (js (lu (0:Int) y1705.1.1 y1705.1.2.1 y1705.1.2.2 y1705.2.1 y1705.2.2.1 y1705.2.2.2)) (pD fK
 (fun e1717=>
  kx (e1717.1.1.1:Int),fun _=>
  kx (-(1:Int)),()))
def le(a0:Pt)(a1:Pt):Option (Int):=qw some a0 a1
theorem KI{R} kx a0 a1: @qw R kx a0 a1=(le a0 a1).bind kx:=by
 unfold le qw
 exact ac fun _=>cE ⟨fun _=>rfl,fun _=>rfl,trivial⟩
abbrev Fh:af:=.fx [.val true yP, .val true yP] (Int) (fun z=>le z.1 z.2.1) (fun b=>(.one ⟨false,[(.v (.int .i64 b))]⟩,[]))
theorem Eh:ag C0 90 Fh:=
 ag.fx (e:=false) (t:=tM) (.cons Jw (.cons C2 (.cons Bf (.cons mn (.cons yw (.nil)))))) mixed Tryz.func90 (by kernel_rfl) (by kernel_rfl) tT 1 LL (fun z=>(by kernel_rfl:_=qw (fun b=>some (Fh.enc b)) z.1 z.2.1).trans (KI _ z.1 z.2.1))
def oa{R:Type}(kx:Ln×Int->Option R)(a0:Pt)(a1:Pt):Option R:=
 Option.bind (aG a0) fun y1697=>
 cond (!y1697)
 (kx (((0:Int),((0:Int),((0:Int),(0:Int)))),(1:Int)))
 (Option.bind (aG a1) fun y1698=>
  cond (!y1698)
  (kx (((0:Int),((0:Int),((0:Int),(0:Int)))),(1:Int)))
  (Option.bind (le a0 a1) fun y1720=>
   cond (decide (y1720<(0:Int)))
   (kx (((0:Int),((0:Int),((0:Int),(0:Int)))),(7:Int)))
   (Option.bind (fX a0 (Int.tmod y1720 (8:Int))) fun y1721=>
    Option.bind (fd y1721.2) fun y1722=>
    cond (!y1722)
    (kx (((0:Int),((0:Int),((0:Int),(0:Int)))),(2:Int)))
    (kx (y1721,(0:Int))))))
def kY(a0:Pt)(a1:Pt):Option (Ln×Int):=oa some a0 a1
theorem H9{R} kx a0 a1: @oa R kx a0 a1=(kY a0 a1).bind kx:=by
 unfold kY oa
 exact ac fun _=>ae rfl (ac fun _=>ae rfl (ac fun _=>ae rfl (ac fun _=>ac fun _=>ae rfl rfl)))
abbrev Cm:af:=.fx [.val true yP, .val true yP] (Ln×Int) (fun z=>kY z.1 z.2.1) (fun b=>(.tup [⟨true,[(.v (.int .i64 b.1.1)),(.v (.int .i64 b.1.2.1)),(.v (.int .i64 b.1.2.2.1)),(.v (.int .i64 b.1.2.2.2))]⟩,⟨false,[(.v (.int .i64 b.2))]⟩],[]))
theorem Jt:ag C0 76 Cm:=
 ag.fx (e:=false) (.cons eR (.cons Eh (.cons qi (.cons qh (.nil))))) mixed Tryz.func76 (by kernel_rfl) (by kernel_rfl) aj 1 ai (fun z=>(by kernel_rfl:_=oa (fun b=>some (Cm.enc b)) z.1 z.2.1).trans (H9 _ z.1 z.2.1))
def nZ{R:Type}(kx:Ln×Int->Option R)(a0:Pt)(a1:Pt):Option R:=
 Option.bind (kY a0 a1) fun y1723=>
 kx y1723
def kX(a0:Pt)(a1:Pt):Option (Ln×Int):=nZ some a0 a1
theorem H8{R} kx a0 a1: @nZ R kx a0 a1=(kX a0 a1).bind kx:=by
 unfold kX nZ
 exact ac fun _=>rfl
abbrev Cl:af:=.fx [.val true yP, .val true yP] (Ln×Int) (fun z=>kX z.1 z.2.1) (fun b=>(.tup [⟨true,[(.v (.int .i64 b.1.1)),(.v (.int .i64 b.1.2.1)),(.v (.int .i64 b.1.2.2.1)),(.v (.int .i64 b.1.2.2.2))]⟩,⟨false,[(.v (.int .i64 b.2))]⟩],[]))
theorem Js:ag C0 29 Cl:=
 ag.fx (e:=false) (.cons Jt (.nil)) mixed Tryz.func29 (by kernel_rfl) (by kernel_rfl) aj 1 ai (fun z=>(by kernel_rfl:_=nZ (fun b=>some (Cl.enc b)) z.1 z.2.1).trans (H8 _ z.1 z.2.1))
def py{R:Type}(kx:Ln×Int->Option R)(a0:Ln)(a1:Bool):Option R:=
 cond (!a1)
 (kx (((0:Int),((0:Int),((0:Int),(0:Int)))),(2:Int)))
 (Option.bind (aH a0) fun y1737=>
  cond (!y1737)
  (kx (((0:Int),((0:Int),((0:Int),(0:Int)))),(2:Int)))
  (kx (a0,(0:Int))))
def iH(a0:Ln)(a1:Bool):Option (Ln×Int):=py some a0 a1
theorem Ji{R} kx a0 a1: @py R kx a0 a1=(iH a0 a1).bind kx:=by
 unfold iH py
 exact ae rfl (ac fun _=>ae rfl rfl)
abbrev DU:af:=.fx [.val true yL, .val false .bool] (Ln×Int) (fun z=>iH z.1 z.2.1) (fun b=>(.tup [⟨true,[(.v (.int .i64 b.1.1)),(.v (.int .i64 b.1.2.1)),(.v (.int .i64 b.1.2.2.1)),(.v (.int .i64 b.1.2.2.2))]⟩,⟨false,[(.v (.int .i64 b.2))]⟩],[]))
theorem wq:ag C0 91 DU:=
 ag.fx (e:=false) (.cons dD (.nil)) mixed Tryz.func91 (by kernel_rfl) (by kernel_rfl) aj 1 ai (fun z=>(by kernel_rfl:_=py (fun b=>some (DU.enc b)) z.1 z.2.1).trans (Ji _ z.1 z.2.1))
def rz{R:Type}(kx:Ln×Int->Option R)(a0:Pt)(a1:Pt):Option R:=
 Option.bind (aG a0) fun y1730=>
 cond (!y1730)
 (kx (((0:Int),((0:Int),((0:Int),(0:Int)))),(1:Int)))
 (Option.bind (aG a1) fun y1731=>
  cond (!y1731)
  (kx (((0:Int),((0:Int),((0:Int),(0:Int)))),(1:Int)))
  (Option.bind (le a0 a1) fun y1732=>
   cond (decide (y1732<(0:Int)))
   (kx (((0:Int),((0:Int),((0:Int),(0:Int)))),(7:Int)))
   (Option.bind (pF a0 a1) fun y1733=>
    Option.bind (fX y1733 (Int.tmod (IntKind.wrap .i64 (y1732+(4:Int))) (8:Int))) fun y1734=>
    Option.bind (iH y1734 Bool.true) fun y1738=>
    kx y1738)))
def mB(a0:Pt)(a1:Pt):Option (Ln×Int):=rz some a0 a1
theorem Ma{R} kx a0 a1: @rz R kx a0 a1=(mB a0 a1).bind kx:=by
 unfold mB rz
 exact ac fun _=>ae rfl (ac fun _=>ae rfl (ac fun _=>ae rfl (ac fun _=>ac fun _=>ac fun _=>rfl)))
abbrev GB:af:=.fx [.val true yP, .val true yP] (Ln×Int) (fun z=>mB z.1 z.2.1) (fun b=>(.tup [⟨true,[(.v (.int .i64 b.1.1)),(.v (.int .i64 b.1.2.1)),(.v (.int .i64 b.1.2.2.1)),(.v (.int .i64 b.1.2.2.2))]⟩,⟨false,[(.v (.int .i64 b.2))]⟩],[]))
theorem Of:ag C0 37 GB:=
 ag.fx (e:=false) (.cons eR (.cons Eh (.cons Iw (.cons qi (.cons wq (.nil)))))) mixed Tryz.func37 (by kernel_rfl) (by kernel_rfl) aj 1 ai (fun z=>(by kernel_rfl:_=rz (fun b=>some (GB.enc b)) z.1 z.2.1).trans (Ma _ z.1 z.2.1))
def iW{R:Type}(kx:Ln×Int->Option R)(a0:Ln)(a1:Pt):Option R:=
 Option.bind (aH a0) fun y1745=>
 cond (!y1745)
 (kx (((0:Int),((0:Int),((0:Int),(0:Int)))),(1:Int)))
 (Option.bind (aG a1) fun y1746=>
  cond (!y1746)
  (kx (((0:Int),((0:Int),((0:Int),(0:Int)))),(1:Int)))
  (Option.bind (fX a1 (Int.tmod (IntKind.wrap .i64 (a0.1+(4:Int))) (8:Int))) fun y1747=>
   Option.bind (iH y1747 Bool.true) fun y1748=>
   kx y1748))
def eF(a0:Ln)(a1:Pt):Option (Ln×Int):=iW some a0 a1
theorem CF{R} kx a0 a1: @iW R kx a0 a1=(eF a0 a1).bind kx:=by
 unfold eF iW
 exact ac fun _=>ae rfl (ac fun _=>ae rfl (ac fun _=>ac fun _=>rfl))
abbrev uR:af:=.fx [.val true yL, .val true yP] (Ln×Int) (fun z=>eF z.1 z.2.1) (fun b=>(.tup [⟨true,[(.v (.int .i64 b.1.1)),(.v (.int .i64 b.1.2.1)),(.v (.int .i64 b.1.2.2.1)),(.v (.int .i64 b.1.2.2.2))]⟩,⟨false,[(.v (.int .i64 b.2))]⟩],[]))
theorem Dj:ag C0 135 uR:=
 ag.fx (e:=false) (.cons dD (.cons eR (.cons qi (.cons wq (.nil))))) mixed Tryz.func135 (by kernel_rfl) (by kernel_rfl) aj 1 ai (fun z=>(by kernel_rfl:_=iW (fun b=>some (uR.enc b)) z.1 z.2.1).trans (CF _ z.1 z.2.1))
def pp{R:Type}(kx:Ln×Int->Option R)(a0:Pt)(a1:Ln)(a2:Ln):Option R:=
 Option.bind (aG a0) fun y1757=>
 cond (!y1757)
 (kx (((0:Int),((0:Int),((0:Int),(0:Int)))),(1:Int)))
 (Option.bind (aH a1) fun y1758=>
  cond (!y1758)
  (kx (((0:Int),((0:Int),((0:Int),(0:Int)))),(1:Int)))
  (Option.bind (aH a2) fun y1759=>
   cond (!y1759)
   (kx (((0:Int),((0:Int),((0:Int),(0:Int)))),(1:Int)))
   (cond (a1.1==a2.1)
    (kx (((0:Int),((0:Int),((0:Int),(0:Int)))),(7:Int)))
    (Option.bind (ky (Int.tmod (IntKind.wrap .i64 (a2.1+(4:Int))) (8:Int)) a0 a1) fun y1760=>
     Option.bind (iH y1760.1 (y1760.2==(1:Int))) fun y1761=>
     kx y1761))))
def jT(a0:Pt)(a1:Ln)(a2:Ln):Option (Ln×Int):=pp some a0 a1 a2
theorem Jc{R} kx a0 a1 a2: @pp R kx a0 a1 a2=(jT a0 a1 a2).bind kx:=by
 unfold jT pp
 exact ac fun _=>ae rfl (ac fun _=>ae rfl (ac fun _=>ae rfl (ae rfl (ac fun _=>ac fun _=>rfl))))
abbrev DP:af:=.fx [.val true yP, .val true yL, .val true yL] (Ln×Int) (fun z=>jT z.1 z.2.1 z.2.2.1) (fun b=>(.tup [⟨true,[(.v (.int .i64 b.1.1)),(.v (.int .i64 b.1.2.1)),(.v (.int .i64 b.1.2.2.1)),(.v (.int .i64 b.1.2.2.2))]⟩,⟨false,[(.v (.int .i64 b.2))]⟩],[]))
theorem K6:ag C0 136 DP:=
 ag.fx (e:=false) (.cons eR (.cons dD (.cons FK (.cons wq (.nil))))) mixed Tryz.func136 (by kernel_rfl) (by kernel_rfl) aj 1 ai (fun z=>(by kernel_rfl:_=pp (fun b=>some (DP.enc b)) z.1 z.2.1 z.2.2.1).trans (Jc _ z.1 z.2.1 z.2.2.1))
def BH{R:Type}(kx:It×Int->Option R)(a0:Cn)(a1:(List It)):Option R:=
 cond (a0.2.1==(1:Int))
 (Option.bind (dA a0.1 a0.2.2.2.2.1 (0:Int)) fun y1270=>
  kx y1270)
 (cond (a0.2.1==(3:Int))
  (Option.bind (fY a1 (0:Int)) fun y1271=>
   Option.bind (fY a1 (1:Int)) fun y1272=>
   Option.bind (la y1271.2.2.2 y1272.2.2.2) fun y1367=>
   Option.bind (dA a0.1 y1367.1 y1367.2) fun y1368=>
   kx y1368)
  (cond (a0.2.1==(4:Int))
   (Option.bind (fY a1 (0:Int)) fun y1369=>
    Option.bind (fY a1 (1:Int)) fun y1370=>
    Option.bind (mC y1369.2.2.1 y1370.2.2.1) fun y1388=>
    Option.bind (fe y1388.2) fun y1390=>
    Option.bind (dA a0.1 y1388.1 y1390) fun y1391=>
    kx y1391)
   (cond (a0.2.1==(5:Int))
    (Option.bind (fY a1 (0:Int)) fun y1392=>
     Option.bind (fY a1 (1:Int)) fun y1393=>
     Option.bind (sB a0.1 y1392.2.2.2 y1393) fun y1448=>
     kx y1448)
    (cond (a0.2.1==(8:Int))
     (Option.bind (me a0 a1) fun y1687=>
      kx y1687)
     (cond (a0.2.1==(10:Int))
      (Option.bind (me a0 a1) fun y1688=>
       kx y1688)
      (cond (a0.2.1==(11:Int))
       (Option.bind (me a0 a1) fun y1689=>
        kx y1689)
       (cond (a0.2.1==(2:Int))
        (Option.bind (cx a0.1 a0.2.2.2.2.2 (0:Int)) fun y1690=>
         kx y1690)
        (cond (a0.2.1==(6:Int))
         (Option.bind (fY a1 (0:Int)) fun y1691=>
          Option.bind (fY a1 (1:Int)) fun y1692=>
          Option.bind (kX y1691.2.2.1 y1692.2.2.1) fun y1724=>
          Option.bind (cx a0.1 y1724.1 y1724.2) fun y1725=>
          kx y1725)
         (cond (a0.2.1==(7:Int))
          (Option.bind (fY a1 (0:Int)) fun y1726=>
           Option.bind (fY a1 (1:Int)) fun y1727=>
           Option.bind (mB y1726.2.2.1 y1727.2.2.1) fun y1739=>
           Option.bind (cx a0.1 y1739.1 y1739.2) fun y1740=>
           kx y1740)
          (cond (a0.2.1==(9:Int))
           (Option.bind (fY a1 (0:Int)) fun y1741=>
            Option.bind (fY a1 (1:Int)) fun y1742=>
            Option.bind (eF y1741.2.2.2 y1742.2.2.1) fun y1749=>
            Option.bind (cx a0.1 y1749.1 y1749.2) fun y1750=>
            kx y1750)
           (cond (a0.2.1==(12:Int))
            (Option.bind (fY a1 (0:Int)) fun y1751=>
             Option.bind (fY a1 (1:Int)) fun y1752=>
             Option.bind (fY a1 (2:Int)) fun y1753=>
             Option.bind (jT y1751.2.2.1 y1752.2.2.2 y1753.2.2.2) fun y1762=>
             Option.bind (cx a0.1 y1762.1 y1762.2) fun y1763=>
             kx y1763)
            (Option.bind (cx a0.1 ((0:Int),((0:Int),((0:Int),(0:Int)))) (0:Int)) fun y1764=>
             kx y1764))))))))))))
def ei(a0:Cn)(a1:(List It)):Option (It×Int):=BH some a0 a1
theorem RL{R} kx a0 a1: @BH R kx a0 a1=(ei a0 a1).bind kx:=by
 unfold ei BH
 exact ae (ac fun _=>rfl) (ae (ac fun _=>ac fun _=>ac fun _=>ac fun _=>rfl) (ae (ac fun _=>ac fun _=>ac fun _=>ac fun _=>ac fun _=>rfl) (ae (ac fun _=>ac fun _=>ac fun _=>rfl) (ae (ac fun _=>rfl) (ae (ac fun _=>rfl) (ae (ac fun _=>rfl) (ae (ac fun _=>rfl) (ae (ac fun _=>ac fun _=>ac fun _=>ac fun _=>rfl) (ae (ac fun _=>ac fun _=>ac fun _=>ac fun _=>rfl) (ae (ac fun _=>ac fun _=>ac fun _=>ac fun _=>rfl) (ae (ac fun _=>ac fun _=>ac fun _=>ac fun _=>ac fun _=>rfl) (ac fun _=>rfl))))))))))))
abbrev LW:af:=.fx [.val true yC, .val false (.slice yI)] (It×Int) (fun z=>ei z.1 z.2.1) (fun b=>(.tup [⟨true,[(.v (.string b.1.1)),(.v (.bool b.1.2.1)),(.v (.int .i64 b.1.2.2.1.1.1)),(.v (.int .i64 b.1.2.2.1.1.2.1)),(.v (.int .i64 b.1.2.2.1.1.2.2)),(.v (.int .i64 b.1.2.2.1.2.1)),(.v (.int .i64 b.1.2.2.1.2.2.1)),(.v (.int .i64 b.1.2.2.1.2.2.2)),(.v (.int .i64 b.1.2.2.2.1)),(.v (.int .i64 b.1.2.2.2.2.1)),(.v (.int .i64 b.1.2.2.2.2.2.1)),(.v (.int .i64 b.1.2.2.2.2.2.2))]⟩,⟨false,[(.v (.int .i64 b.2))]⟩],[]))
theorem S6:ag C0 66 LW:=
 ag.fx (e:=false) (.cons Ei (.cons MJ (.cons Og (.cons Ej (.cons La (.cons K9 (.cons yx (.cons Js (.cons Of (.cons Dj (.cons K6 (.nil)))))))))))) mixed Tryz.func66 (by kernel_rfl) (by kernel_rfl) aj 1 ai (fun z=>(by kernel_rfl:_=BH (fun b=>some (LW.enc b)) z.1 z.2.1).trans (RL _ z.1 z.2.1))
def dh{R:Type}(kx:(List It)->Option R)(a0:(List It)):Option R:=
 cond (decide (0<(List.length a0)))
 (cond (decide ((((List.length ([]:List Int))+(List.length a0))*104)<=70368744177664))
  (cond (decide (((List.length ([]:List Int))+(List.length a0))<=70368744177664))
   (kx ([]++a0))
   none)
  none)
 none
def dg(a0:(List It)):Option ((List It)):=dh some a0
theorem sU{R} kx a0: @dh R kx a0=(dg a0).bind kx:=by
 unfold dg dh
 exact ae (ae (ae rfl rfl) rfl) rfl
abbrev sY:List AX:=[.val false (.slice yI)]
abbrev sZ:(List It)->AV×List CV:=fun b=>(.one ⟨false,[(.own yI b)]⟩,[])
abbrev mg:af:=.fx sY ((List It)) (fun z=>dg z.1) sZ
theorem tk:ag C0 67 mg:=
 ag.fx (e:=false) (.nil) mixed Tryz.func67 (by kernel_rfl) (by kernel_rfl) aj 1 ai (fun z=>(by kernel_rfl:_=dh (fun b=>some (mg.enc b)) z.1).trans (sU _ z.1))
theorem uO:ag C0 67 (af.emptyS yI):=
 ag.emptyRun mixed Tryz.func67 (by kernel_rfl) (by kernel_rfl) (fun _=>rfl) (fun A c=>by cases A<;>kernel_rfl)
def cU(a0:(List It)):Option ((List It)):=cond (decide (List.length a0<=4000000)) (some a0) none
abbrev uy:List AX:=[.val false (.slice yI)]
abbrev uC:(List It)->AV×List CV:=fun b=>(.one ⟨false,[(.own yI b)]⟩,[])
abbrev uT:af:=.fx uy ((List It)) (fun z=>cU z.1) uC
theorem uF:ag C0 67 uT:=by
 refine ag.orEmpty tk (g':=cU) (fun l y h hne=> ?_) (fun y h=> ?_) uO
 ·show dg l=some y
  unfold cU at h
  cases hd:decide (List.length l<=4000000)with
  |false=>rw[hd]at h;cases h
  |true=>
   rw[hd]at h;cases h
   have h1:=of_decide_eq_true hd
   have h2:0<List.length l:=List.length_pos_iff.2 hne
   unfold dg dh
   simp only[List.length_nil,Nat.zero_add,List.nil_append]
   rw[decide_eq_true h2,decide_eq_true (by omega),decide_eq_true (by omega)];rfl
 ·cases h;rfl
def mY{R:Type}(kx:(List It)×Int->Option R)(a0:(List It))(a1:Cn):Option R:=
 Option.bind (md a0) fun y1125=>
 cond (!y1125)
 (kx ([],(1:Int)))
 (Option.bind (ak a1) fun y1177=>
  cond (!y1177)
  (kx ([],(1:Int)))
  (Option.bind (jy a0 a1.1) fun y1178=>
   cond (decide (y1178>=(0:Int)))
   (kx ([],(4:Int)))
   (cond (((List.length a0:Nat):Int)==(40:Int))
    (kx ([],(5:Int)))
    (Option.bind (nq a0 a1) fun y1264=>
     cond (y1264.2 !=(0:Int))
     (kx ([],y1264.2))
     (Option.bind (ei a1 y1264.1) fun y1765=>
      cond (y1765.2 !=(0:Int))
      (kx ([],y1765.2))
      (Option.bind (cU a0) fun y1767=>
       cond (decide ((((List.length y1767)+(List.length [y1765.1]))*104)<=70368744177664))
       (cond (decide (((List.length y1767)+(List.length [y1765.1]))<=70368744177664))
        (kx ((y1767++ [y1765.1]),(0:Int)))
        none)
       none))))))
def iy(a0:(List It))(a1:Cn):Option ((List It)×Int):=mY some a0 a1
theorem G9{R} kx a0 a1: @mY R kx a0 a1=(iy a0 a1).bind kx:=by
 unfold iy mY
 exact ac fun _=>ae rfl (ac fun _=>ae rfl (ac fun _=>ae rfl (ae rfl (ac fun _=>ae rfl (ac fun _=>ae rfl (ac fun _=>ae (ae rfl rfl) rfl))))))
abbrev AY:af:=.fx [.val false (.slice yI), .val true yC] ((List It)×Int) (fun z=>iy z.1 z.2.1) (fun b=>(.tup [⟨false,[(.own yI b.1)]⟩,⟨false,[(.v (.int .i64 b.2))]⟩],[]))
theorem Iu:ag C0 17 AY:=
 ag.fx (e:=false) (.cons K7 (.cons Dk (.cons xz (.cons MK (.cons S6 (.cons uF (.nil))))))) mixed Tryz.func17 (by kernel_rfl) (by kernel_rfl) aj 1 ai (fun z=>(by kernel_rfl:_=mY (fun b=>some (AY.enc b)) z.1 z.2.1).trans (G9 _ z.1 z.2.1))
def uq{R:Type}(kx:Bool->Option R)(a0:Nm)(a1:Nm):Option R:=
 cond (a0.1 !=a1.1)
 (kx Bool.false)
 (cond (a0.2.1 !=a1.2.1)
  (kx Bool.false)
  (cond (a0.2.2 !=a1.2.2)
   (kx Bool.false)
   (kx Bool.true)))
def lJ(a0:Nm)(a1:Nm):Option (Bool):=uq some a0 a1
theorem RM{R} kx a0 a1: @uq R kx a0 a1=(lJ a0 a1).bind kx:=by
 unfold lJ uq
 exact ae rfl (ae rfl (ae rfl rfl))
abbrev LX:af:=.fx [.val true yN, .val true yN] (Bool) (fun z=>lJ z.1 z.2.1) (fun b=>(.one ⟨false,[(.v (.bool b))]⟩,[]))
theorem Kc:ag C0 115 LX:=
 ag.fx (e:=false) (.nil) mixed Tryz.func115 (by kernel_rfl) (by kernel_rfl) aj 1 ai (fun z=>(by kernel_rfl:_=uq (fun b=>some (LX.enc b)) z.1 z.2.1).trans (RM _ z.1 z.2.1))
def tt{R:Type}(kx:Bool->Option R)(a0:Pt)(a1:Pt):Option R:=
 Option.bind (lJ a0.1 a1.1) fun y1782=>
 cond (!y1782)
 (kx Bool.false)
 (Option.bind (lJ a0.2 a1.2) fun y1783=>
  cond (!y1783)
  (kx Bool.false)
  (kx Bool.true))
def nM(a0:Pt)(a1:Pt):Option (Bool):=tt some a0 a1
theorem NM{R} kx a0 a1: @tt R kx a0 a1=(nM a0 a1).bind kx:=by
 unfold nM tt
 exact ac fun _=>ae rfl (ac fun _=>ae rfl rfl)
abbrev HL:af:=.fx [.val true yP, .val true yP] (Bool) (fun z=>nM z.1 z.2.1) (fun b=>(.one ⟨false,[(.v (.bool b))]⟩,[]))
theorem GT:ag C0 50 HL:=
 ag.fx (e:=false) (.cons Kc (.nil)) mixed Tryz.func50 (by kernel_rfl) (by kernel_rfl) aj 1 ai (fun z=>(by kernel_rfl:_=tt (fun b=>some (HL.enc b)) z.1 z.2.1).trans (NM _ z.1 z.2.1))
def vp{R:Type}(kx:Bool->Option R)(a0:Ln)(a1:Ln):Option R:=
 cond (a0.1 !=a1.1)
 (kx Bool.false)
 (Option.bind (lJ a0.2 a1.2) fun y1787=>
  cond (!y1787)
  (kx Bool.false)
  (kx Bool.true))
def pI(a0:Ln)(a1:Ln):Option (Bool):=vp some a0 a1
theorem PJ{R} kx a0 a1: @vp R kx a0 a1=(pI a0 a1).bind kx:=by
 unfold pI vp
 exact ae rfl (ac fun _=>ae rfl rfl)
abbrev JW:af:=.fx [.val true yL, .val true yL] (Bool) (fun z=>pI z.1 z.2.1) (fun b=>(.one ⟨false,[(.v (.bool b))]⟩,[]))
theorem Ix:ag C0 51 JW:=
 ag.fx (e:=false) (.cons Kc (.nil)) mixed Tryz.func51 (by kernel_rfl) (by kernel_rfl) aj 1 ai (fun z=>(by kernel_rfl:_=vp (fun b=>some (JW.enc b)) z.1 z.2.1).trans (PJ _ z.1 z.2.1))
def vo{R:Type}(kx:Bool->Option R)(a0:It)(a1:It):Option R:=
 cond (!((ByteArray.toList a0.1)==(ByteArray.toList a1.1)))
 (kx Bool.false)
 (cond (!(a0.2.1==a1.2.1))
  (kx Bool.false)
  (Option.bind (nM a0.2.2.1 a1.2.2.1) fun y1784=>
   cond (!y1784)
   (kx Bool.false)
   (Option.bind (pI a0.2.2.2 a1.2.2.2) fun y1788=>
    cond (!y1788)
    (kx Bool.false)
    (kx Bool.true))))
def rS(a0:It)(a1:It):Option (Bool):=vo some a0 a1
theorem PI{R} kx a0 a1: @vo R kx a0 a1=(rS a0 a1).bind kx:=by
 unfold rS vo
 exact ae rfl (ae rfl (ac fun _=>ae rfl (ac fun _=>ae rfl rfl)))
abbrev Ez:af:=.fx [.val true yI, .val true yI] (Bool) (fun z=>rS z.1 z.2.1) (fun b=>(.one ⟨false,[(.v (.bool b))]⟩,[]))
theorem Sk:ag C0 68 Ez:=
 ag.fx (e:=false) (.cons GT (.cons Ix (.nil))) mixed Tryz.func68 (by kernel_rfl) (by kernel_rfl) aj 1 ai (fun z=>(by kernel_rfl:_=vo (fun b=>some (Ez.enc b)) z.1 z.2.1).trans (PI _ z.1 z.2.1))
def wP:List (FuncId×af):=[(68,Ez)]
abbrev fZ:LS:=⟨[(false,[(.sl yI)]),(false,[(.sl yI)]),(false,[(.int .i64)])],[],[]⟩
abbrev Cb:LS:=⟨[(false,[.bool])],[],[]⟩
abbrev Kq(v0:Bool):=((((v0,()),()),(),()):Cb.T)
abbrev Cc:LS:=⟨[(false,[.undef])],[],[]⟩
abbrev wg:=(((((),()),()),(),()):Cc.T)
abbrev it:List (Ex×LS):=[(.ret,Cb),(.exit 0,Cc)]
abbrev lv x0 x1(x5:Int):=((((x0,()),(x1,()),(x5,()),()),(),()):fZ.T)
def ij{R:Type}(nx:fZ.T->Option R)(hx:lF R it)(x0:List It)(x1:List It)(x5:Int):Option R:=
 cond (decide (x5<((List.length x0:Nat):Int)))
 (Option.bind (fY x0 x5) fun y1774=>
  Option.bind (fY x1 x5) fun y1775=>
  Option.bind (rS y1774 y1775) fun y1789=>
  cond (!y1789)
  (hx.1 (Kq Bool.false))
  (nx (lv x0 x1 (IntKind.wrap .i64 (x5+(1:Int))))))
 (hx.2.1 (wg))
def yE{R:Type}(nx:fZ.T->Option R)(hx:lF R it)(z:fZ.T):Option R:=ij nx hx z.1.1.1 z.1.2.1.1 z.1.2.2.1.1
theorem CI:cY @yE:=fun R nx hx z=>by
 show ij nx hx z.1.1.1 z.1.2.1.1 z.1.2.2.1.1=(ij (fun y=>some (.inl y)) (oM it fun x=>some (.inr x)) z.1.1.1 z.1.2.1.1 z.1.2.2.1.1).bind (oH nx hx)
 unfold ij
 exact ae (ac fun _=>ac fun _=>ac fun _=>ae rfl rfl) rfl
def il:fZ.T->Option (xb it):=BJ @yE
theorem sT x0 x1 x5:il (lv x0 x1 x5)=ij il (oM it some) x0 x1 x5:=eU CI _
def sG:bQ:=⟨[0,1,5],[],[4],[]⟩
def xe:fQ Rv:=⟨fun k=>match k with|5=>sG|_=>⟨[],[],[],[]⟩,fun k=>match k with|5=>some (cu fZ it il)|_=>none⟩
theorem M0(n:Nat)(z:fZ.T)(k:Ex->hZ->Option Rv):bL ⟨27,27⟩ sG (nG (ii C0 wP) ⟨27,27⟩ xe 1 (aL Tryz.f18 4)) (n+1) (fZ.enc z) k=
 yE (fun y=>bL ⟨27,27⟩ sG (nG (ii C0 wP) ⟨27,27⟩ xe 1 (aL Tryz.f18 4)) n (fZ.enc y) k) (hK k it) z:=by kernel_rfl
theorem Pv:aw (ii C0 wP) ⟨27,27⟩ xe 1 (cp (bh Tryz.f18)):=by
 have hl:cp (bh Tryz.f18)=[aL Tryz.f18 4]:=by kernel_rfl
 rw[hl]
 exact aw.cons (n:=5) (lh:=sG) (S:=cu fZ it il) (by kernel_rfl) rfl rfl (cy CI M0)
  (aw.nil)
def qz{R:Type}(kx:Bool->Option R)(a0:(List It))(a1:(List It)):Option R:=
 cond (((List.length a0:Nat):Int) !=((List.length a1:Nat):Int))
 (kx Bool.false)
 (Option.bind (il (lv a0 a1 (0:Int))) (pD it
  (fun e1790=>
   kx (e1790.1.1.1:Bool),fun _=>
   kx Bool.true,())))
def gF(a0:(List It))(a1:(List It)):Option (Bool):=qz some a0 a1
theorem NL{R} kx a0 a1: @qz R kx a0 a1=(gF a0 a1).bind kx:=by
 unfold gF qz
 exact ae rfl (cE ⟨fun _=>rfl,fun _=>rfl,trivial⟩)
abbrev HK:af:=.fx [.val false (.slice yI), .val false (.slice yI)] (Bool) (fun z=>gF z.1 z.2.1) (fun b=>(.one ⟨false,[(.v (.bool b))]⟩,[]))
theorem Qa:ag C0 18 HK:=
 ag.fx (e:=false) (t:=wP) (.cons Sk (.nil)) mixed Tryz.func18 (by kernel_rfl) (by kernel_rfl) xe 1 Pv (fun z=>(by kernel_rfl:_=qz (fun b=>some (HK.enc b)) z.1 z.2.1).trans (NL _ z.1 z.2.1))
def tN:List (FuncId×af):=[]
abbrev eM:LS:=⟨[(false,[(.sl .str)]),(false,[(.sl .str)]),(false,[(.int .i64)])],[],[]⟩
abbrev zD:LS:=⟨[(false,[.bool])],[],[]⟩
abbrev Hv(v0:Bool):=((((v0,()),()),(),()):zD.T)
abbrev zE:LS:=⟨[(false,[.undef])],[],[]⟩
abbrev zs:=(((((),()),()),(),()):zE.T)
abbrev fL:List (Ex×LS):=[(.ret,zD),(.exit 0,zE)]
abbrev nR(x0:List ByteArray)(x1:List ByteArray)(x5:Int):=((((x0,()),(x1,()),(x5,()),()),(),()):eM.T)
def jn{R:Type}(nx:eM.T->Option R)(hx:lF R fL)(x0:List ByteArray)(x1:List ByteArray)(x5:Int):Option R:=
 cond (decide (x5<((List.length x0:Nat):Int)))
 (Option.bind (fY x0 x5) fun y1804=>
  Option.bind (fY x1 x5) fun y1805=>
  cond (!((ByteArray.toList y1804)==(ByteArray.toList y1805)))
  (hx.1 (Hv Bool.false))
  (nx (nR x0 x1 (IntKind.wrap .i64 (x5+(1:Int))))))
 (hx.2.1 (zs))
def wv{R:Type}(nx:eM.T->Option R)(hx:lF R fL)(z:eM.T):Option R:=jn nx hx z.1.1.1 z.1.2.1.1 z.1.2.2.1.1
theorem zV:cY @wv:=fun R nx hx z=>by
 show jn nx hx z.1.1.1 z.1.2.1.1 z.1.2.2.1.1=(jn (fun y=>some (.inl y)) (oM fL fun x=>some (.inr x)) z.1.1.1 z.1.2.1.1 z.1.2.2.1.1).bind (oH nx hx)
 unfold jn
 exact ae (ac fun _=>ac fun _=>ae rfl rfl) rfl
def jt:eM.T->Option (xb fL):=BJ @wv
theorem Bj x0 x1 x5:jt (nR x0 x1 x5)=jn jt (oM fL some) x0 x1 x5:=eU zV _
def pU:bQ:=⟨[0,1,5],[],[4],[]⟩
def tU:fQ Rv:=⟨fun k=>match k with|5=>pU|_=>⟨[],[],[],[]⟩,fun k=>match k with|5=>some (cu eM fL jt)|_=>none⟩
theorem JG(n:Nat)(z:eM.T)(k:Ex->hZ->Option Rv):bL ⟨26,26⟩ pU (nG (ii C0 tN) ⟨26,26⟩ tU 1 (aL Tryz.f49 4)) (n+1) (eM.enc z) k=
 wv (fun y=>bL ⟨26,26⟩ pU (nG (ii C0 tN) ⟨26,26⟩ tU 1 (aL Tryz.f49 4)) n (eM.enc y) k) (hK k fL) z:=by kernel_rfl
theorem LM:aw (ii C0 tN) ⟨26,26⟩ tU 1 (cp (bh Tryz.f49)):=by
 have hl:cp (bh Tryz.f49)=[aL Tryz.f49 4]:=by kernel_rfl
 rw[hl]
 exact aw.cons (n:=5) (lh:=pU) (S:=cu eM fL jt) (by kernel_rfl) rfl rfl (cy zV JG)
  (aw.nil)
def qA{R:Type}(kx:Bool->Option R)(a0:(List ByteArray))(a1:(List ByteArray)):Option R:=
 cond (((List.length a0:Nat):Int) !=((List.length a1:Nat):Int))
 (kx Bool.false)
 (Option.bind (jt (nR a0 a1 (0:Int))) (pD fL
  (fun e1806=>
   kx (e1806.1.1.1:Bool),fun _=>
   kx Bool.true,())))
def nr(a0:(List ByteArray))(a1:(List ByteArray)):Option (Bool):=qA some a0 a1
theorem KN{R} kx a0 a1: @qA R kx a0 a1=(nr a0 a1).bind kx:=by
 unfold nr qA
 exact ae rfl (cE ⟨fun _=>rfl,fun _=>rfl,trivial⟩)
abbrev Fl:af:=.fx [.val false (.slice .str), .val false (.slice .str)] (Bool) (fun z=>nr z.1 z.2.1) (fun b=>(.one ⟨false,[(.v (.bool b))]⟩,[]))
theorem MM:ag C0 49 Fl:=
 ag.fx (e:=false) (t:=tN) (.nil) mixed Tryz.func49 (by kernel_rfl) (by kernel_rfl) tU 1 LM (fun z=>(by kernel_rfl:_=qA (fun b=>some (Fl.enc b)) z.1 z.2.1).trans (KN _ z.1 z.2.1))
def kS{R:Type}(kx:Bool->Option R)(a0:Cn)(a1:Cn):Option R:=
 cond (!((ByteArray.toList a0.1)==(ByteArray.toList a1.1)))
 (kx Bool.false)
 (cond (a0.2.1 !=a1.2.1)
  (kx Bool.false)
  (Option.bind (nr a0.2.2.1 a1.2.2.1) fun y1809=>
   cond (!y1809)
   (kx Bool.false)
   (cond (a0.2.2.2.1 !=a1.2.2.2.1)
    (kx Bool.false)
    (Option.bind (nM a0.2.2.2.2.1 a1.2.2.2.2.1) fun y1810=>
     cond (!y1810)
     (kx Bool.false)
     (Option.bind (pI a0.2.2.2.2.2 a1.2.2.2.2.2) fun y1811=>
      cond (!y1811)
      (kx Bool.false)
      (kx Bool.true))))))
def iL(a0:Cn)(a1:Cn):Option (Bool):=kS some a0 a1
theorem Fz{R} kx a0 a1: @kS R kx a0 a1=(iL a0 a1).bind kx:=by
 unfold iL kS
 exact ae rfl (ae rfl (ac fun _=>ae rfl (ae rfl (ac fun _=>ae rfl (ac fun _=>ae rfl rfl)))))
abbrev xY:af:=.fx [.val true yC, .val true yC] (Bool) (fun z=>iL z.1 z.2.1) (fun b=>(.one ⟨false,[(.v (.bool b))]⟩,[]))
theorem Gr:ag C0 9 xY:=
 ag.fx (e:=false) (.cons MM (.cons GT (.cons Ix (.nil)))) mixed Tryz.func9 (by kernel_rfl) (by kernel_rfl) aj 1 ai (fun z=>(by kernel_rfl:_=kS (fun b=>some (xY.enc b)) z.1 z.2.1).trans (Fz _ z.1 z.2.1))
def vK:List (FuncId×af):=[]
abbrev fv:LS:=⟨[(false,[(.int .i64)]),(false,[.str])],[],[]⟩
abbrev AP:LS:=⟨[(false,[.str])],[],[]⟩
abbrev AM(v0:ByteArray):=((((v0,()),()),(),()):AP.T)
abbrev gq:List (Ex×LS):=[(.exit 0,AP)]
abbrev sN(x0:Int)(x3:ByteArray):=((((x0,()),(x3,()),()),(),()):fv.T)
def mw{R:Type}(nx:fv.T->Option R)(hx:lF R gq)(x0:Int)(x3:ByteArray):Option R:=
 cond (decide (x0>(0:Int)))
 (cond (decide (((((ByteArray.size (ByteArray.mk (Array.mk [(UInt8.ofNat (Int.toNat (IntKind.wrap IntKind.u8 (IntKind.wrap .i64 ((48:Int)+(Int.tmod x0 (10:Int)))))))])))+(ByteArray.size x3)):Nat):Int)>(if(Bool.true=Bool.true)then(((2:Int)^(64-1))-(1:Int))else(((2:Int)^64)-(1:Int)))))
  none
  (nx (sN (IntKind.wrap .i64 (Int.tdiv x0 (10:Int))) ((ByteArray.mk (Array.mk [(UInt8.ofNat (Int.toNat (IntKind.wrap IntKind.u8 (IntKind.wrap .i64 ((48:Int)+(Int.tmod x0 (10:Int)))))))]))++x3))))
 (hx.1 (AM x3))
def xI{R:Type}(nx:fv.T->Option R)(hx:lF R gq)(z:fv.T):Option R:=mw nx hx z.1.1.1 z.1.2.1.1
theorem Bb:cY @xI:=fun R nx hx z=>by
 show mw nx hx z.1.1.1 z.1.2.1.1=(mw (fun y=>some (.inl y)) (oM gq fun x=>some (.inr x)) z.1.1.1 z.1.2.1.1).bind (oH nx hx)
 unfold mw
 exact ae (ae rfl rfl) rfl
def mz:fv.T->Option (xb gq):=BJ @xI
theorem Ll x0 x3:mz (sN x0 x3)=mw mz (oM gq some) x0 x3:=eU Bb _
def rd:bQ:=⟨[0,3],[],[3],[]⟩
def vO:fQ Rv:=⟨fun k=>match k with|5=>rd|_=>⟨[],[],[],[]⟩,fun k=>match k with|5=>some (cu fv gq mz)|_=>none⟩
theorem Lh(n:Nat)(z:fv.T)(k:Ex->hZ->Option Rv):bL ⟨20,20⟩ rd (nG (ii C0 vK) ⟨20,20⟩ vO 1 (aL Tryz.f69 4)) (n+1) (fv.enc z) k=
 xI (fun y=>bL ⟨20,20⟩ rd (nG (ii C0 vK) ⟨20,20⟩ vO 1 (aL Tryz.f69 4)) n (fv.enc y) k) (hK k gq) z:=by kernel_rfl
theorem Ns:aw (ii C0 vK) ⟨20,20⟩ vO 1 (cp (bh Tryz.f69)):=by
 have hl:cp (bh Tryz.f69)=[aL Tryz.f69 4]:=by kernel_rfl
 rw[hl]
 exact aw.cons (n:=5) (lh:=rd) (S:=cu fv gq mz) (by kernel_rfl) rfl rfl (cy Bb Lh)
  (aw.nil)
def rH{R:Type}(kx:ByteArray->Option R)(a0:Int):Option R:=
 cond (decide (a0<=(0:Int)))
 (kx (ByteArray.mk (Array.mk [109,48])))
 (Option.bind (mz (sN a0 (ByteArray.mk (Array.mk [])))) (pD gq
  (fun e1822=>
   cond (decide (((((ByteArray.size (ByteArray.mk (Array.mk [109])))+(ByteArray.size (e1822.1.1.1:ByteArray))):Nat):Int)>(if(Bool.true=Bool.true)then(((2:Int)^(64-1))-(1:Int))else(((2:Int)^64)-(1:Int)))))
   none
   (kx ((ByteArray.mk (Array.mk [109]))++(e1822.1.1.1:ByteArray))),())))
def gN(a0:Int):Option (ByteArray):=rH some a0
theorem Mj{R} kx a0: @rH R kx a0=(gN a0).bind kx:=by
 unfold gN rH
 exact ae rfl (cE ⟨fun _=>ae rfl rfl,trivial⟩)
abbrev rt:af:=.fx [.val false (.int .i64)] (ByteArray) (fun z=>gN z.1) (fun b=>(.one ⟨false,[(.v (.string b))]⟩,[]))
theorem yy:ag C0 69 rt:=
 ag.fx (e:=false) (t:=vK) (.nil) mixed Tryz.func69 (by kernel_rfl) (by kernel_rfl) vO 1 Ns (fun z=>(by kernel_rfl:_=rH (fun b=>some (rt.enc b)) z.1).trans (Mj _ z.1))
def tP:List (FuncId×af):=[(69,rt)]
abbrev eO:LS:=⟨[(false,[(.view (.arg 0) true 0 yI)]),(false,[(.int .i64)]),(false,[(.int .i64)])],[],[(.own yI)]⟩
abbrev zH:LS:=⟨[(false,[(.int .i64)])],[],[(.own yI)]⟩
abbrev zu(v0:Int) v1:=((((v0,()),()),(),(v1,())):zH.T)
abbrev fN:List (Ex×LS):=[(.exit 0,zH)]
abbrev nT x0(x1:Int)(x5:Int) o:=((((x0,()),(x1,()),(x5,()),()),(),(o,())):eO.T)
def jp{R:Type}(nx:eO.T->Option R)(hx:lF R fN)(x0:List It)(x1:Int)(x5:Int)(o:List It):Option R:=
 cond (decide (x5<((List.length x0:Nat):Int)))
 (Option.bind (gN x1) fun y1824=>
  Option.bind (fY x0 x5) fun y1825=>
  Option.bind (fY (List.set x0 (0+(Int.toNat x5)) (y1824,y1825.2)) x5) fun y1826=>
  Option.bind (fY (List.set (List.set x0 (0+(Int.toNat x5)) (y1824,y1825.2)) (0+(Int.toNat x5)) (y1826.1,(((Int.tmod (IntKind.wrap .i64 (x1+(1:Int))) (3:Int))==(0:Int)),y1826.2.2))) x5) fun y1827=>
  Option.bind (fY (List.set (List.set (List.set x0 (0+(Int.toNat x5)) (y1824,y1825.2)) (0+(Int.toNat x5)) (y1826.1,(((Int.tmod (IntKind.wrap .i64 (x1+(1:Int))) (3:Int))==(0:Int)),y1826.2.2))) (0+(Int.toNat x5)) (y1827.1,(y1827.2.1,((((IntKind.wrap .i64 ((IntKind.wrap .i64 (x1+(1:Int)))+(1:Int))),y1827.2.2.1.1.2),y1827.2.2.1.2),y1827.2.2.2)))) x5) fun y1828=>
  Option.bind (fY (List.set (List.set (List.set (List.set x0 (0+(Int.toNat x5)) (y1824,y1825.2)) (0+(Int.toNat x5)) (y1826.1,(((Int.tmod (IntKind.wrap .i64 (x1+(1:Int))) (3:Int))==(0:Int)),y1826.2.2))) (0+(Int.toNat x5)) (y1827.1,(y1827.2.1,((((IntKind.wrap .i64 ((IntKind.wrap .i64 (x1+(1:Int)))+(1:Int))),y1827.2.2.1.1.2),y1827.2.2.1.2),y1827.2.2.2)))) (0+(Int.toNat x5)) (y1828.1,(y1828.2.1,(((y1828.2.2.1.1.1,((IntKind.wrap .i64 ((IntKind.wrap .i64 ((IntKind.wrap .i64 (x1+(1:Int)))+(1:Int)))+(1:Int))),y1828.2.2.1.1.2.2)),y1828.2.2.1.2),y1828.2.2.2)))) x5) fun y1829=>
  Option.bind (fY (List.set (List.set (List.set (List.set (List.set x0 (0+(Int.toNat x5)) (y1824,y1825.2)) (0+(Int.toNat x5)) (y1826.1,(((Int.tmod (IntKind.wrap .i64 (x1+(1:Int))) (3:Int))==(0:Int)),y1826.2.2))) (0+(Int.toNat x5)) (y1827.1,(y1827.2.1,((((IntKind.wrap .i64 ((IntKind.wrap .i64 (x1+(1:Int)))+(1:Int))),y1827.2.2.1.1.2),y1827.2.2.1.2),y1827.2.2.2)))) (0+(Int.toNat x5)) (y1828.1,(y1828.2.1,(((y1828.2.2.1.1.1,((IntKind.wrap .i64 ((IntKind.wrap .i64 ((IntKind.wrap .i64 (x1+(1:Int)))+(1:Int)))+(1:Int))),y1828.2.2.1.1.2.2)),y1828.2.2.1.2),y1828.2.2.2)))) (0+(Int.toNat x5)) (y1829.1,(y1829.2.1,(((y1829.2.2.1.1.1,(y1829.2.2.1.1.2.1,(IntKind.wrap .i64 ((IntKind.wrap .i64 ((IntKind.wrap .i64 ((IntKind.wrap .i64 (x1+(1:Int)))+(1:Int)))+(1:Int)))+(1:Int))))),y1829.2.2.1.2),y1829.2.2.2)))) x5) fun y1830=>
  Option.bind (fY (List.set (List.set (List.set (List.set (List.set (List.set x0 (0+(Int.toNat x5)) (y1824,y1825.2)) (0+(Int.toNat x5)) (y1826.1,(((Int.tmod (IntKind.wrap .i64 (x1+(1:Int))) (3:Int))==(0:Int)),y1826.2.2))) (0+(Int.toNat x5)) (y1827.1,(y1827.2.1,((((IntKind.wrap .i64 ((IntKind.wrap .i64 (x1+(1:Int)))+(1:Int))),y1827.2.2.1.1.2),y1827.2.2.1.2),y1827.2.2.2)))) (0+(Int.toNat x5)) (y1828.1,(y1828.2.1,(((y1828.2.2.1.1.1,((IntKind.wrap .i64 ((IntKind.wrap .i64 ((IntKind.wrap .i64 (x1+(1:Int)))+(1:Int)))+(1:Int))),y1828.2.2.1.1.2.2)),y1828.2.2.1.2),y1828.2.2.2)))) (0+(Int.toNat x5)) (y1829.1,(y1829.2.1,(((y1829.2.2.1.1.1,(y1829.2.2.1.1.2.1,(IntKind.wrap .i64 ((IntKind.wrap .i64 ((IntKind.wrap .i64 ((IntKind.wrap .i64 (x1+(1:Int)))+(1:Int)))+(1:Int)))+(1:Int))))),y1829.2.2.1.2),y1829.2.2.2)))) (0+(Int.toNat x5)) (y1830.1,(y1830.2.1,((y1830.2.2.1.1,((IntKind.wrap .i64 ((IntKind.wrap .i64 ((IntKind.wrap .i64 ((IntKind.wrap .i64 ((IntKind.wrap .i64 (x1+(1:Int)))+(1:Int)))+(1:Int)))+(1:Int)))+(1:Int))),y1830.2.2.1.2.2)),y1830.2.2.2)))) x5) fun y1831=>
  Option.bind (fY (List.set (List.set (List.set (List.set (List.set (List.set (List.set x0 (0+(Int.toNat x5)) (y1824,y1825.2)) (0+(Int.toNat x5)) (y1826.1,(((Int.tmod (IntKind.wrap .i64 (x1+(1:Int))) (3:Int))==(0:Int)),y1826.2.2))) (0+(Int.toNat x5)) (y1827.1,(y1827.2.1,((((IntKind.wrap .i64 ((IntKind.wrap .i64 (x1+(1:Int)))+(1:Int))),y1827.2.2.1.1.2),y1827.2.2.1.2),y1827.2.2.2)))) (0+(Int.toNat x5)) (y1828.1,(y1828.2.1,(((y1828.2.2.1.1.1,((IntKind.wrap .i64 ((IntKind.wrap .i64 ((IntKind.wrap .i64 (x1+(1:Int)))+(1:Int)))+(1:Int))),y1828.2.2.1.1.2.2)),y1828.2.2.1.2),y1828.2.2.2)))) (0+(Int.toNat x5)) (y1829.1,(y1829.2.1,(((y1829.2.2.1.1.1,(y1829.2.2.1.1.2.1,(IntKind.wrap .i64 ((IntKind.wrap .i64 ((IntKind.wrap .i64 ((IntKind.wrap .i64 (x1+(1:Int)))+(1:Int)))+(1:Int)))+(1:Int))))),y1829.2.2.1.2),y1829.2.2.2)))) (0+(Int.toNat x5)) (y1830.1,(y1830.2.1,((y1830.2.2.1.1,((IntKind.wrap .i64 ((IntKind.wrap .i64 ((IntKind.wrap .i64 ((IntKind.wrap .i64 ((IntKind.wrap .i64 (x1+(1:Int)))+(1:Int)))+(1:Int)))+(1:Int)))+(1:Int))),y1830.2.2.1.2.2)),y1830.2.2.2)))) (0+(Int.toNat x5)) (y1831.1,(y1831.2.1,((y1831.2.2.1.1,(y1831.2.2.1.2.1,((IntKind.wrap .i64 ((IntKind.wrap .i64 ((IntKind.wrap .i64 ((IntKind.wrap .i64 ((IntKind.wrap .i64 ((IntKind.wrap .i64 (x1+(1:Int)))+(1:Int)))+(1:Int)))+(1:Int)))+(1:Int)))+(1:Int))),y1831.2.2.1.2.2.2))),y1831.2.2.2)))) x5) fun y1832=>
  Option.bind (fY (List.set (List.set (List.set (List.set (List.set (List.set (List.set (List.set x0 (0+(Int.toNat x5)) (y1824,y1825.2)) (0+(Int.toNat x5)) (y1826.1,(((Int.tmod (IntKind.wrap .i64 (x1+(1:Int))) (3:Int))==(0:Int)),y1826.2.2))) (0+(Int.toNat x5)) (y1827.1,(y1827.2.1,((((IntKind.wrap .i64 ((IntKind.wrap .i64 (x1+(1:Int)))+(1:Int))),y1827.2.2.1.1.2),y1827.2.2.1.2),y1827.2.2.2)))) (0+(Int.toNat x5)) (y1828.1,(y1828.2.1,(((y1828.2.2.1.1.1,((IntKind.wrap .i64 ((IntKind.wrap .i64 ((IntKind.wrap .i64 (x1+(1:Int)))+(1:Int)))+(1:Int))),y1828.2.2.1.1.2.2)),y1828.2.2.1.2),y1828.2.2.2)))) (0+(Int.toNat x5)) (y1829.1,(y1829.2.1,(((y1829.2.2.1.1.1,(y1829.2.2.1.1.2.1,(IntKind.wrap .i64 ((IntKind.wrap .i64 ((IntKind.wrap .i64 ((IntKind.wrap .i64 (x1+(1:Int)))+(1:Int)))+(1:Int)))+(1:Int))))),y1829.2.2.1.2),y1829.2.2.2)))) (0+(Int.toNat x5)) (y1830.1,(y1830.2.1,((y1830.2.2.1.1,((IntKind.wrap .i64 ((IntKind.wrap .i64 ((IntKind.wrap .i64 ((IntKind.wrap .i64 ((IntKind.wrap .i64 (x1+(1:Int)))+(1:Int)))+(1:Int)))+(1:Int)))+(1:Int))),y1830.2.2.1.2.2)),y1830.2.2.2)))) (0+(Int.toNat x5)) (y1831.1,(y1831.2.1,((y1831.2.2.1.1,(y1831.2.2.1.2.1,((IntKind.wrap .i64 ((IntKind.wrap .i64 ((IntKind.wrap .i64 ((IntKind.wrap .i64 ((IntKind.wrap .i64 ((IntKind.wrap .i64 (x1+(1:Int)))+(1:Int)))+(1:Int)))+(1:Int)))+(1:Int)))+(1:Int))),y1831.2.2.1.2.2.2))),y1831.2.2.2)))) (0+(Int.toNat x5)) (y1832.1,(y1832.2.1,((y1832.2.2.1.1,(y1832.2.2.1.2.1,(y1832.2.2.1.2.2.1,(IntKind.wrap .i64 ((IntKind.wrap .i64 ((IntKind.wrap .i64 ((IntKind.wrap .i64 ((IntKind.wrap .i64 ((IntKind.wrap .i64 ((IntKind.wrap .i64 (x1+(1:Int)))+(1:Int)))+(1:Int)))+(1:Int)))+(1:Int)))+(1:Int)))+(1:Int)))))),y1832.2.2.2)))) x5) fun y1833=>
  Option.bind (fY (List.set (List.set (List.set (List.set (List.set (List.set (List.set (List.set (List.set x0 (0+(Int.toNat x5)) (y1824,y1825.2)) (0+(Int.toNat x5)) (y1826.1,(((Int.tmod (IntKind.wrap .i64 (x1+(1:Int))) (3:Int))==(0:Int)),y1826.2.2))) (0+(Int.toNat x5)) (y1827.1,(y1827.2.1,((((IntKind.wrap .i64 ((IntKind.wrap .i64 (x1+(1:Int)))+(1:Int))),y1827.2.2.1.1.2),y1827.2.2.1.2),y1827.2.2.2)))) (0+(Int.toNat x5)) (y1828.1,(y1828.2.1,(((y1828.2.2.1.1.1,((IntKind.wrap .i64 ((IntKind.wrap .i64 ((IntKind.wrap .i64 (x1+(1:Int)))+(1:Int)))+(1:Int))),y1828.2.2.1.1.2.2)),y1828.2.2.1.2),y1828.2.2.2)))) (0+(Int.toNat x5)) (y1829.1,(y1829.2.1,(((y1829.2.2.1.1.1,(y1829.2.2.1.1.2.1,(IntKind.wrap .i64 ((IntKind.wrap .i64 ((IntKind.wrap .i64 ((IntKind.wrap .i64 (x1+(1:Int)))+(1:Int)))+(1:Int)))+(1:Int))))),y1829.2.2.1.2),y1829.2.2.2)))) (0+(Int.toNat x5)) (y1830.1,(y1830.2.1,((y1830.2.2.1.1,((IntKind.wrap .i64 ((IntKind.wrap .i64 ((IntKind.wrap .i64 ((IntKind.wrap .i64 ((IntKind.wrap .i64 (x1+(1:Int)))+(1:Int)))+(1:Int)))+(1:Int)))+(1:Int))),y1830.2.2.1.2.2)),y1830.2.2.2)))) (0+(Int.toNat x5)) (y1831.1,(y1831.2.1,((y1831.2.2.1.1,(y1831.2.2.1.2.1,((IntKind.wrap .i64 ((IntKind.wrap .i64 ((IntKind.wrap .i64 ((IntKind.wrap .i64 ((IntKind.wrap .i64 ((IntKind.wrap .i64 (x1+(1:Int)))+(1:Int)))+(1:Int)))+(1:Int)))+(1:Int)))+(1:Int))),y1831.2.2.1.2.2.2))),y1831.2.2.2)))) (0+(Int.toNat x5)) (y1832.1,(y1832.2.1,((y1832.2.2.1.1,(y1832.2.2.1.2.1,(y1832.2.2.1.2.2.1,(IntKind.wrap .i64 ((IntKind.wrap .i64 ((IntKind.wrap .i64 ((IntKind.wrap .i64 ((IntKind.wrap .i64 ((IntKind.wrap .i64 ((IntKind.wrap .i64 (x1+(1:Int)))+(1:Int)))+(1:Int)))+(1:Int)))+(1:Int)))+(1:Int)))+(1:Int)))))),y1832.2.2.2)))) (0+(Int.toNat x5)) (y1833.1,(y1833.2.1,(y1833.2.2.1,((IntKind.wrap .i64 ((IntKind.wrap .i64 ((IntKind.wrap .i64 ((IntKind.wrap .i64 ((IntKind.wrap .i64 ((IntKind.wrap .i64 ((IntKind.wrap .i64 ((IntKind.wrap .i64 (x1+(1:Int)))+(1:Int)))+(1:Int)))+(1:Int)))+(1:Int)))+(1:Int)))+(1:Int)))+(1:Int))),y1833.2.2.2.2))))) x5) fun y1834=>
  Option.bind (fY (List.set (List.set (List.set (List.set (List.set (List.set (List.set (List.set (List.set (List.set x0 (0+(Int.toNat x5)) (y1824,y1825.2)) (0+(Int.toNat x5)) (y1826.1,(((Int.tmod (IntKind.wrap .i64 (x1+(1:Int))) (3:Int))==(0:Int)),y1826.2.2))) (0+(Int.toNat x5)) (y1827.1,(y1827.2.1,((((IntKind.wrap .i64 ((IntKind.wrap .i64 (x1+(1:Int)))+(1:Int))),y1827.2.2.1.1.2),y1827.2.2.1.2),y1827.2.2.2)))) (0+(Int.toNat x5)) (y1828.1,(y1828.2.1,(((y1828.2.2.1.1.1,((IntKind.wrap .i64 ((IntKind.wrap .i64 ((IntKind.wrap .i64 (x1+(1:Int)))+(1:Int)))+(1:Int))),y1828.2.2.1.1.2.2)),y1828.2.2.1.2),y1828.2.2.2)))) (0+(Int.toNat x5)) (y1829.1,(y1829.2.1,(((y1829.2.2.1.1.1,(y1829.2.2.1.1.2.1,(IntKind.wrap .i64 ((IntKind.wrap .i64 ((IntKind.wrap .i64 ((IntKind.wrap .i64 (x1+(1:Int)))+(1:Int)))+(1:Int)))+(1:Int))))),y1829.2.2.1.2),y1829.2.2.2)))) (0+(Int.toNat x5)) (y1830.1,(y1830.2.1,((y1830.2.2.1.1,((IntKind.wrap .i64 ((IntKind.wrap .i64 ((IntKind.wrap .i64 ((IntKind.wrap .i64 ((IntKind.wrap .i64 (x1+(1:Int)))+(1:Int)))+(1:Int)))+(1:Int)))+(1:Int))),y1830.2.2.1.2.2)),y1830.2.2.2)))) (0+(Int.toNat x5)) (y1831.1,(y1831.2.1,((y1831.2.2.1.1,(y1831.2.2.1.2.1,((IntKind.wrap .i64 ((IntKind.wrap .i64 ((IntKind.wrap .i64 ((IntKind.wrap .i64 ((IntKind.wrap .i64 ((IntKind.wrap .i64 (x1+(1:Int)))+(1:Int)))+(1:Int)))+(1:Int)))+(1:Int)))+(1:Int))),y1831.2.2.1.2.2.2))),y1831.2.2.2)))) (0+(Int.toNat x5)) (y1832.1,(y1832.2.1,((y1832.2.2.1.1,(y1832.2.2.1.2.1,(y1832.2.2.1.2.2.1,(IntKind.wrap .i64 ((IntKind.wrap .i64 ((IntKind.wrap .i64 ((IntKind.wrap .i64 ((IntKind.wrap .i64 ((IntKind.wrap .i64 ((IntKind.wrap .i64 (x1+(1:Int)))+(1:Int)))+(1:Int)))+(1:Int)))+(1:Int)))+(1:Int)))+(1:Int)))))),y1832.2.2.2)))) (0+(Int.toNat x5)) (y1833.1,(y1833.2.1,(y1833.2.2.1,((IntKind.wrap .i64 ((IntKind.wrap .i64 ((IntKind.wrap .i64 ((IntKind.wrap .i64 ((IntKind.wrap .i64 ((IntKind.wrap .i64 ((IntKind.wrap .i64 ((IntKind.wrap .i64 (x1+(1:Int)))+(1:Int)))+(1:Int)))+(1:Int)))+(1:Int)))+(1:Int)))+(1:Int)))+(1:Int))),y1833.2.2.2.2))))) (0+(Int.toNat x5)) (y1834.1,(y1834.2.1,(y1834.2.2.1,(y1834.2.2.2.1,((IntKind.wrap .i64 ((IntKind.wrap .i64 ((IntKind.wrap .i64 ((IntKind.wrap .i64 ((IntKind.wrap .i64 ((IntKind.wrap .i64 ((IntKind.wrap .i64 ((IntKind.wrap .i64 ((IntKind.wrap .i64 (x1+(1:Int)))+(1:Int)))+(1:Int)))+(1:Int)))+(1:Int)))+(1:Int)))+(1:Int)))+(1:Int)))+(1:Int))),y1834.2.2.2.2.2)))))) x5) fun y1835=>
  Option.bind (fY (List.set (List.set (List.set (List.set (List.set (List.set (List.set (List.set (List.set (List.set (List.set x0 (0+(Int.toNat x5)) (y1824,y1825.2)) (0+(Int.toNat x5)) (y1826.1,(((Int.tmod (IntKind.wrap .i64 (x1+(1:Int))) (3:Int))==(0:Int)),y1826.2.2))) (0+(Int.toNat x5)) (y1827.1,(y1827.2.1,((((IntKind.wrap .i64 ((IntKind.wrap .i64 (x1+(1:Int)))+(1:Int))),y1827.2.2.1.1.2),y1827.2.2.1.2),y1827.2.2.2)))) (0+(Int.toNat x5)) (y1828.1,(y1828.2.1,(((y1828.2.2.1.1.1,((IntKind.wrap .i64 ((IntKind.wrap .i64 ((IntKind.wrap .i64 (x1+(1:Int)))+(1:Int)))+(1:Int))),y1828.2.2.1.1.2.2)),y1828.2.2.1.2),y1828.2.2.2)))) (0+(Int.toNat x5)) (y1829.1,(y1829.2.1,(((y1829.2.2.1.1.1,(y1829.2.2.1.1.2.1,(IntKind.wrap .i64 ((IntKind.wrap .i64 ((IntKind.wrap .i64 ((IntKind.wrap .i64 (x1+(1:Int)))+(1:Int)))+(1:Int)))+(1:Int))))),y1829.2.2.1.2),y1829.2.2.2)))) (0+(Int.toNat x5)) (y1830.1,(y1830.2.1,((y1830.2.2.1.1,((IntKind.wrap .i64 ((IntKind.wrap .i64 ((IntKind.wrap .i64 ((IntKind.wrap .i64 ((IntKind.wrap .i64 (x1+(1:Int)))+(1:Int)))+(1:Int)))+(1:Int)))+(1:Int))),y1830.2.2.1.2.2)),y1830.2.2.2)))) (0+(Int.toNat x5)) (y1831.1,(y1831.2.1,((y1831.2.2.1.1,(y1831.2.2.1.2.1,((IntKind.wrap .i64 ((IntKind.wrap .i64 ((IntKind.wrap .i64 ((IntKind.wrap .i64 ((IntKind.wrap .i64 ((IntKind.wrap .i64 (x1+(1:Int)))+(1:Int)))+(1:Int)))+(1:Int)))+(1:Int)))+(1:Int))),y1831.2.2.1.2.2.2))),y1831.2.2.2)))) (0+(Int.toNat x5)) (y1832.1,(y1832.2.1,((y1832.2.2.1.1,(y1832.2.2.1.2.1,(y1832.2.2.1.2.2.1,(IntKind.wrap .i64 ((IntKind.wrap .i64 ((IntKind.wrap .i64 ((IntKind.wrap .i64 ((IntKind.wrap .i64 ((IntKind.wrap .i64 ((IntKind.wrap .i64 (x1+(1:Int)))+(1:Int)))+(1:Int)))+(1:Int)))+(1:Int)))+(1:Int)))+(1:Int)))))),y1832.2.2.2)))) (0+(Int.toNat x5)) (y1833.1,(y1833.2.1,(y1833.2.2.1,((IntKind.wrap .i64 ((IntKind.wrap .i64 ((IntKind.wrap .i64 ((IntKind.wrap .i64 ((IntKind.wrap .i64 ((IntKind.wrap .i64 ((IntKind.wrap .i64 ((IntKind.wrap .i64 (x1+(1:Int)))+(1:Int)))+(1:Int)))+(1:Int)))+(1:Int)))+(1:Int)))+(1:Int)))+(1:Int))),y1833.2.2.2.2))))) (0+(Int.toNat x5)) (y1834.1,(y1834.2.1,(y1834.2.2.1,(y1834.2.2.2.1,((IntKind.wrap .i64 ((IntKind.wrap .i64 ((IntKind.wrap .i64 ((IntKind.wrap .i64 ((IntKind.wrap .i64 ((IntKind.wrap .i64 ((IntKind.wrap .i64 ((IntKind.wrap .i64 ((IntKind.wrap .i64 (x1+(1:Int)))+(1:Int)))+(1:Int)))+(1:Int)))+(1:Int)))+(1:Int)))+(1:Int)))+(1:Int)))+(1:Int))),y1834.2.2.2.2.2)))))) (0+(Int.toNat x5)) (y1835.1,(y1835.2.1,(y1835.2.2.1,(y1835.2.2.2.1,(y1835.2.2.2.2.1,((IntKind.wrap .i64 ((IntKind.wrap .i64 ((IntKind.wrap .i64 ((IntKind.wrap .i64 ((IntKind.wrap .i64 ((IntKind.wrap .i64 ((IntKind.wrap .i64 ((IntKind.wrap .i64 ((IntKind.wrap .i64 ((IntKind.wrap .i64 (x1+(1:Int)))+(1:Int)))+(1:Int)))+(1:Int)))+(1:Int)))+(1:Int)))+(1:Int)))+(1:Int)))+(1:Int)))+(1:Int))),y1835.2.2.2.2.2.2))))))) x5) fun y1836=>
  nx (nT (List.set (List.set (List.set (List.set (List.set (List.set (List.set (List.set (List.set (List.set (List.set (List.set x0 (0+(Int.toNat x5)) (y1824,y1825.2)) (0+(Int.toNat x5)) (y1826.1,(((Int.tmod (IntKind.wrap .i64 (x1+(1:Int))) (3:Int))==(0:Int)),y1826.2.2))) (0+(Int.toNat x5)) (y1827.1,(y1827.2.1,((((IntKind.wrap .i64 ((IntKind.wrap .i64 (x1+(1:Int)))+(1:Int))),y1827.2.2.1.1.2),y1827.2.2.1.2),y1827.2.2.2)))) (0+(Int.toNat x5)) (y1828.1,(y1828.2.1,(((y1828.2.2.1.1.1,((IntKind.wrap .i64 ((IntKind.wrap .i64 ((IntKind.wrap .i64 (x1+(1:Int)))+(1:Int)))+(1:Int))),y1828.2.2.1.1.2.2)),y1828.2.2.1.2),y1828.2.2.2)))) (0+(Int.toNat x5)) (y1829.1,(y1829.2.1,(((y1829.2.2.1.1.1,(y1829.2.2.1.1.2.1,(IntKind.wrap .i64 ((IntKind.wrap .i64 ((IntKind.wrap .i64 ((IntKind.wrap .i64 (x1+(1:Int)))+(1:Int)))+(1:Int)))+(1:Int))))),y1829.2.2.1.2),y1829.2.2.2)))) (0+(Int.toNat x5)) (y1830.1,(y1830.2.1,((y1830.2.2.1.1,((IntKind.wrap .i64 ((IntKind.wrap .i64 ((IntKind.wrap .i64 ((IntKind.wrap .i64 ((IntKind.wrap .i64 (x1+(1:Int)))+(1:Int)))+(1:Int)))+(1:Int)))+(1:Int))),y1830.2.2.1.2.2)),y1830.2.2.2)))) (0+(Int.toNat x5)) (y1831.1,(y1831.2.1,((y1831.2.2.1.1,(y1831.2.2.1.2.1,((IntKind.wrap .i64 ((IntKind.wrap .i64 ((IntKind.wrap .i64 ((IntKind.wrap .i64 ((IntKind.wrap .i64 ((IntKind.wrap .i64 (x1+(1:Int)))+(1:Int)))+(1:Int)))+(1:Int)))+(1:Int)))+(1:Int))),y1831.2.2.1.2.2.2))),y1831.2.2.2)))) (0+(Int.toNat x5)) (y1832.1,(y1832.2.1,((y1832.2.2.1.1,(y1832.2.2.1.2.1,(y1832.2.2.1.2.2.1,(IntKind.wrap .i64 ((IntKind.wrap .i64 ((IntKind.wrap .i64 ((IntKind.wrap .i64 ((IntKind.wrap .i64 ((IntKind.wrap .i64 ((IntKind.wrap .i64 (x1+(1:Int)))+(1:Int)))+(1:Int)))+(1:Int)))+(1:Int)))+(1:Int)))+(1:Int)))))),y1832.2.2.2)))) (0+(Int.toNat x5)) (y1833.1,(y1833.2.1,(y1833.2.2.1,((IntKind.wrap .i64 ((IntKind.wrap .i64 ((IntKind.wrap .i64 ((IntKind.wrap .i64 ((IntKind.wrap .i64 ((IntKind.wrap .i64 ((IntKind.wrap .i64 ((IntKind.wrap .i64 (x1+(1:Int)))+(1:Int)))+(1:Int)))+(1:Int)))+(1:Int)))+(1:Int)))+(1:Int)))+(1:Int))),y1833.2.2.2.2))))) (0+(Int.toNat x5)) (y1834.1,(y1834.2.1,(y1834.2.2.1,(y1834.2.2.2.1,((IntKind.wrap .i64 ((IntKind.wrap .i64 ((IntKind.wrap .i64 ((IntKind.wrap .i64 ((IntKind.wrap .i64 ((IntKind.wrap .i64 ((IntKind.wrap .i64 ((IntKind.wrap .i64 ((IntKind.wrap .i64 (x1+(1:Int)))+(1:Int)))+(1:Int)))+(1:Int)))+(1:Int)))+(1:Int)))+(1:Int)))+(1:Int)))+(1:Int))),y1834.2.2.2.2.2)))))) (0+(Int.toNat x5)) (y1835.1,(y1835.2.1,(y1835.2.2.1,(y1835.2.2.2.1,(y1835.2.2.2.2.1,((IntKind.wrap .i64 ((IntKind.wrap .i64 ((IntKind.wrap .i64 ((IntKind.wrap .i64 ((IntKind.wrap .i64 ((IntKind.wrap .i64 ((IntKind.wrap .i64 ((IntKind.wrap .i64 ((IntKind.wrap .i64 ((IntKind.wrap .i64 (x1+(1:Int)))+(1:Int)))+(1:Int)))+(1:Int)))+(1:Int)))+(1:Int)))+(1:Int)))+(1:Int)))+(1:Int)))+(1:Int))),y1835.2.2.2.2.2.2))))))) (0+(Int.toNat x5)) (y1836.1,(y1836.2.1,(y1836.2.2.1,(y1836.2.2.2.1,(y1836.2.2.2.2.1,(y1836.2.2.2.2.2.1,(IntKind.wrap .i64 ((IntKind.wrap .i64 ((IntKind.wrap .i64 ((IntKind.wrap .i64 ((IntKind.wrap .i64 ((IntKind.wrap .i64 ((IntKind.wrap .i64 ((IntKind.wrap .i64 ((IntKind.wrap .i64 ((IntKind.wrap .i64 ((IntKind.wrap .i64 (x1+(1:Int)))+(1:Int)))+(1:Int)))+(1:Int)))+(1:Int)))+(1:Int)))+(1:Int)))+(1:Int)))+(1:Int)))+(1:Int)))+(1:Int)))))))))) (IntKind.wrap .i64 ((IntKind.wrap .i64 ((IntKind.wrap .i64 ((IntKind.wrap .i64 ((IntKind.wrap .i64 ((IntKind.wrap .i64 ((IntKind.wrap .i64 ((IntKind.wrap .i64 ((IntKind.wrap .i64 ((IntKind.wrap .i64 ((IntKind.wrap .i64 ((IntKind.wrap .i64 (x1+(1:Int)))+(1:Int)))+(1:Int)))+(1:Int)))+(1:Int)))+(1:Int)))+(1:Int)))+(1:Int)))+(1:Int)))+(1:Int)))+(1:Int)))+(1:Int))) (IntKind.wrap .i64 (x5+(1:Int))) (List.set (List.set (List.set (List.set (List.set (List.set (List.set (List.set (List.set (List.set (List.set (List.set o (0+(Int.toNat x5)) (y1824,y1825.2)) (0+(Int.toNat x5)) (y1826.1,(((Int.tmod (IntKind.wrap .i64 (x1+(1:Int))) (3:Int))==(0:Int)),y1826.2.2))) (0+(Int.toNat x5)) (y1827.1,(y1827.2.1,((((IntKind.wrap .i64 ((IntKind.wrap .i64 (x1+(1:Int)))+(1:Int))),y1827.2.2.1.1.2),y1827.2.2.1.2),y1827.2.2.2)))) (0+(Int.toNat x5)) (y1828.1,(y1828.2.1,(((y1828.2.2.1.1.1,((IntKind.wrap .i64 ((IntKind.wrap .i64 ((IntKind.wrap .i64 (x1+(1:Int)))+(1:Int)))+(1:Int))),y1828.2.2.1.1.2.2)),y1828.2.2.1.2),y1828.2.2.2)))) (0+(Int.toNat x5)) (y1829.1,(y1829.2.1,(((y1829.2.2.1.1.1,(y1829.2.2.1.1.2.1,(IntKind.wrap .i64 ((IntKind.wrap .i64 ((IntKind.wrap .i64 ((IntKind.wrap .i64 (x1+(1:Int)))+(1:Int)))+(1:Int)))+(1:Int))))),y1829.2.2.1.2),y1829.2.2.2)))) (0+(Int.toNat x5)) (y1830.1,(y1830.2.1,((y1830.2.2.1.1,((IntKind.wrap .i64 ((IntKind.wrap .i64 ((IntKind.wrap .i64 ((IntKind.wrap .i64 ((IntKind.wrap .i64 (x1+(1:Int)))+(1:Int)))+(1:Int)))+(1:Int)))+(1:Int))),y1830.2.2.1.2.2)),y1830.2.2.2)))) (0+(Int.toNat x5)) (y1831.1,(y1831.2.1,((y1831.2.2.1.1,(y1831.2.2.1.2.1,((IntKind.wrap .i64 ((IntKind.wrap .i64 ((IntKind.wrap .i64 ((IntKind.wrap .i64 ((IntKind.wrap .i64 ((IntKind.wrap .i64 (x1+(1:Int)))+(1:Int)))+(1:Int)))+(1:Int)))+(1:Int)))+(1:Int))),y1831.2.2.1.2.2.2))),y1831.2.2.2)))) (0+(Int.toNat x5)) (y1832.1,(y1832.2.1,((y1832.2.2.1.1,(y1832.2.2.1.2.1,(y1832.2.2.1.2.2.1,(IntKind.wrap .i64 ((IntKind.wrap .i64 ((IntKind.wrap .i64 ((IntKind.wrap .i64 ((IntKind.wrap .i64 ((IntKind.wrap .i64 ((IntKind.wrap .i64 (x1+(1:Int)))+(1:Int)))+(1:Int)))+(1:Int)))+(1:Int)))+(1:Int)))+(1:Int)))))),y1832.2.2.2)))) (0+(Int.toNat x5)) (y1833.1,(y1833.2.1,(y1833.2.2.1,((IntKind.wrap .i64 ((IntKind.wrap .i64 ((IntKind.wrap .i64 ((IntKind.wrap .i64 ((IntKind.wrap .i64 ((IntKind.wrap .i64 ((IntKind.wrap .i64 ((IntKind.wrap .i64 (x1+(1:Int)))+(1:Int)))+(1:Int)))+(1:Int)))+(1:Int)))+(1:Int)))+(1:Int)))+(1:Int))),y1833.2.2.2.2))))) (0+(Int.toNat x5)) (y1834.1,(y1834.2.1,(y1834.2.2.1,(y1834.2.2.2.1,((IntKind.wrap .i64 ((IntKind.wrap .i64 ((IntKind.wrap .i64 ((IntKind.wrap .i64 ((IntKind.wrap .i64 ((IntKind.wrap .i64 ((IntKind.wrap .i64 ((IntKind.wrap .i64 ((IntKind.wrap .i64 (x1+(1:Int)))+(1:Int)))+(1:Int)))+(1:Int)))+(1:Int)))+(1:Int)))+(1:Int)))+(1:Int)))+(1:Int))),y1834.2.2.2.2.2)))))) (0+(Int.toNat x5)) (y1835.1,(y1835.2.1,(y1835.2.2.1,(y1835.2.2.2.1,(y1835.2.2.2.2.1,((IntKind.wrap .i64 ((IntKind.wrap .i64 ((IntKind.wrap .i64 ((IntKind.wrap .i64 ((IntKind.wrap .i64 ((IntKind.wrap .i64 ((IntKind.wrap .i64 ((IntKind.wrap .i64 ((IntKind.wrap .i64 ((IntKind.wrap .i64 (x1+(1:Int)))+(1:Int)))+(1:Int)))+(1:Int)))+(1:Int)))+(1:Int)))+(1:Int)))+(1:Int)))+(1:Int)))+(1:Int))),y1835.2.2.2.2.2.2))))))) (0+(Int.toNat x5)) (y1836.1,(y1836.2.1,(y1836.2.2.1,(y1836.2.2.2.1,(y1836.2.2.2.2.1,(y1836.2.2.2.2.2.1,(IntKind.wrap .i64 ((IntKind.wrap .i64 ((IntKind.wrap .i64 ((IntKind.wrap .i64 ((IntKind.wrap .i64 ((IntKind.wrap .i64 ((IntKind.wrap .i64 ((IntKind.wrap .i64 ((IntKind.wrap .i64 ((IntKind.wrap .i64 ((IntKind.wrap .i64 (x1+(1:Int)))+(1:Int)))+(1:Int)))+(1:Int)))+(1:Int)))+(1:Int)))+(1:Int)))+(1:Int)))+(1:Int)))+(1:Int)))+(1:Int))))))))))))
 (hx.1 (zu x1 o))
def wx{R:Type}(nx:eO.T->Option R)(hx:lF R fN)(z:eO.T):Option R:=jp nx hx z.1.1.1 z.1.2.1.1 z.1.2.2.1.1 z.2.2.1
theorem zX:cY @wx:=fun R nx hx z=>by
 show jp nx hx z.1.1.1 z.1.2.1.1 z.1.2.2.1.1 z.2.2.1=(jp (fun y=>some (.inl y)) (oM fN fun x=>some (.inr x)) z.1.1.1 z.1.2.1.1 z.1.2.2.1.1 z.2.2.1).bind (oH nx hx)
 unfold jp
 exact ae (ac fun _=>ac fun _=>ac fun _=>ac fun _=>ac fun _=>ac fun _=>ac fun _=>ac fun _=>ac fun _=>ac fun _=>ac fun _=>ac fun _=>ac fun _=>rfl) rfl
def jv:eO.T->Option (xb fN):=BJ @wx
theorem Bl x0 x1 x5 o:jv (nT x0 x1 x5 o)=jp jv (oM fN some) x0 x1 x5 o:=eU zX _
def pW:bQ:=⟨[0,1,5],[],[1],[]⟩
def tW:fQ Rv:=⟨fun k=>match k with|3=>pW|_=>⟨[],[],[],[]⟩,fun k=>match k with|3=>some (cu eO fN jv)|_=>none⟩
theorem JI(n:Nat)(z:eO.T)(k:Ex->hZ->Option Rv):bL ⟨119,119⟩ pW (nG (ii C0 tP) ⟨119,119⟩ tW 1 (aL Tryz.f19 2)) (n+1) (eO.enc z) k=
 wx (fun y=>bL ⟨119,119⟩ pW (nG (ii C0 tP) ⟨119,119⟩ tW 1 (aL Tryz.f19 2)) n (eO.enc y) k) (hK k fN) z:=by kernel_rfl
theorem LO:aw (ii C0 tP) ⟨119,119⟩ tW 1 (cp (bh Tryz.f19)):=by
 have hl:cp (bh Tryz.f19)=[aL Tryz.f19 2]:=by kernel_rfl
 rw[hl]
 exact aw.cons (n:=3) (lh:=pW) (S:=cu eO fN jv) (by kernel_rfl) rfl rfl (cy zX JI)
  (aw.nil)
def qC{R:Type}(kx:Int×(List It)->Option R)(a0:List It)(a1:Int):Option R:=
 Option.bind (jv (nT a0 a1 (0:Int) a0)) (pD fN
 (fun e1837=>
  kx ((e1837.1.1.1:Int),(e1837.2.2.1:List It)),()))
def lg(a0:List It)(a1:Int):Option (Int×(List It)):=qC some a0 a1
theorem KP{R} kx a0 a1: @qC R kx a0 a1=(lg a0 a1).bind kx:=by
 unfold lg qC
 exact cE ⟨fun _=>rfl,trivial⟩
abbrev Fo:af:=.fx [.io yI, .val false (.int .i64)] (Int×(List It)) (fun z=>lg z.1 z.2.1) (fun b=>(.one ⟨false,[(.v (.int .i64 b.1))]⟩,[(.own yI b.2)]))
theorem MO:ag C0 19 Fo:=
 ag.fx (e:=false) (t:=tP) (.cons yy (.nil)) mixed Tryz.func19 (by kernel_rfl) (by kernel_rfl) tW 1 LO (fun z=>(by kernel_rfl:_=qC (fun b=>some (Fo.enc b)) z.1 z.2.1).trans (KP _ z.1 z.2.1))
def qR:List (FuncId×af):=[(69,rt)]
abbrev dy:LS:=⟨[(false,[(.view (.arg 0) true 0 .str)]),(false,[(.int .i64)]),(false,[(.int .i64)])],[],[(.own .str)]⟩
abbrev wZ:LS:=⟨[(false,[(.int .i64)])],[],[(.own .str)]⟩
abbrev wV(v0:Int)(v1:List ByteArray):=((((v0,()),()),(),(v1,())):wZ.T)
abbrev ev:List (Ex×LS):=[(.exit 0,wZ)]
abbrev lO(x0:List ByteArray)(x1:Int)(x5:Int)(o:List ByteArray):=((((x0,()),(x1,()),(x5,()),()),(),(o,())):dy.T)
def gL{R:Type}(nx:dy.T->Option R)(hx:lF R ev)(x0:List ByteArray)(x1:Int)(x5:Int)(o:List ByteArray):Option R:=
 cond (decide (x5<((List.length x0:Nat):Int)))
 (Option.bind (gN x1) fun y1862=>
  Option.bind (fY x0 x5) fun _=>
  nx (lO (List.set x0 (0+(Int.toNat x5)) y1862) (IntKind.wrap .i64 (x1+(1:Int))) (IntKind.wrap .i64 (x5+(1:Int))) (List.set o (0+(Int.toNat x5)) y1862)))
 (hx.1 (wV x1 o))
def tu{R:Type}(nx:dy.T->Option R)(hx:lF R ev)(z:dy.T):Option R:=gL nx hx z.1.1.1 z.1.2.1.1 z.1.2.2.1.1 z.2.2.1
theorem xt:cY @tu:=fun R nx hx z=>by
 show gL nx hx z.1.1.1 z.1.2.1.1 z.1.2.2.1.1 z.2.2.1=(gL (fun y=>some (.inl y)) (oM ev fun x=>some (.inr x)) z.1.1.1 z.1.2.1.1 z.1.2.2.1.1 z.2.2.1).bind (oH nx hx)
 unfold gL
 exact ae (ac fun _=>ac fun _=>rfl) rfl
def gM:dy.T->Option (xb ev):=BJ @tu
theorem yh x0 x1 x5 o:gM (lO x0 x1 x5 o)=gL gM (oM ev some) x0 x1 x5 o:=eU xt _
def oD:bQ:=⟨[0,1,5],[],[1],[]⟩
def qX:fQ Rv:=⟨fun k=>match k with|3=>oD|_=>⟨[],[],[],[]⟩,fun k=>match k with|3=>some (cu dy ev gM)|_=>none⟩
theorem Hl(n:Nat)(z:dy.T)(k:Ex->hZ->Option Rv):bL ⟨20,20⟩ oD (nG (ii C0 qR) ⟨20,20⟩ qX 1 (aL Tryz.f52 2)) (n+1) (dy.enc z) k=
 tu (fun y=>bL ⟨20,20⟩ oD (nG (ii C0 qR) ⟨20,20⟩ qX 1 (aL Tryz.f52 2)) n (dy.enc y) k) (hK k ev) z:=by kernel_rfl
theorem I8:aw (ii C0 qR) ⟨20,20⟩ qX 1 (cp (bh Tryz.f52)):=by
 have hl:cp (bh Tryz.f52)=[aL Tryz.f52 2]:=by kernel_rfl
 rw[hl]
 exact aw.cons (n:=3) (lh:=oD) (S:=cu dy ev gM) (by kernel_rfl) rfl rfl (cy xt Hl)
  (aw.nil)
def ol{R:Type}(kx:Int×(List ByteArray)->Option R)(a0:List ByteArray)(a1:Int):Option R:=
 Option.bind (gM (lO a0 a1 (0:Int) a0)) (pD ev
 (fun e1864=>
  kx ((e1864.1.1.1:Int),(e1864.2.2.1:List ByteArray)),()))
def li(a0:List ByteArray)(a1:Int):Option (Int×(List ByteArray)):=ol some a0 a1
theorem Ik{R} kx a0 a1: @ol R kx a0 a1=(li a0 a1).bind kx:=by
 unfold li ol
 exact cE ⟨fun _=>rfl,trivial⟩
abbrev Ct:af:=.fx [.io .str, .val false (.int .i64)] (Int×(List ByteArray)) (fun z=>li z.1 z.2.1) (fun b=>(.one ⟨false,[(.v (.int .i64 b.1))]⟩,[(.own .str b.2)]))
theorem Jz:ag C0 52 Ct:=
 ag.fx (e:=false) (t:=qR) (.cons yy (.nil)) mixed Tryz.func52 (by kernel_rfl) (by kernel_rfl) qX 1 I8 (fun z=>(by kernel_rfl:_=ol (fun b=>some (Ct.enc b)) z.1 z.2.1).trans (Ik _ z.1 z.2.1))
def jE{R:Type}(kx:Int×(List ByteArray)->Option R)(_a0_0:ByteArray)(_a0_1:Int)(a0_2:List ByteArray)(_a0_3:Int)(_a0_4:Int)(_a0_5:Int)(_a0_6:Int)(_a0_7:Int)(_a0_8:Int)(_a0_9:Int)(_a0_10:Int)(_a0_11:Int)(_a0_12:Int)(_a0_13:Int)(a1:Int):Option R:=
 cond (decide ((List.length a0_2)=(List.length a0_2)))
 (Option.bind (li a0_2 a1) fun y1867=>
  cond (decide ((List.length a0_2)=(List.length a0_2)))
  (cond (decide ((List.length a0_2)=(List.length a0_2)))
   (kx y1867)
   none)
  none)
 none
def gx(a0_0:ByteArray)(a0_1:Int)(a0_2:List ByteArray)(a0_3:Int)(a0_4:Int)(a0_5:Int)(a0_6:Int)(a0_7:Int)(a0_8:Int)(a0_9:Int)(a0_10:Int)(a0_11:Int)(a0_12:Int)(a0_13:Int)(a1:Int):Option (Int×(List ByteArray)):=jE some a0_0 a0_1 a0_2 a0_3 a0_4 a0_5 a0_6 a0_7 a0_8 a0_9 a0_10 a0_11 a0_12 a0_13 a1
theorem Dh{R} kx a0_0 a0_1 a0_2 a0_3 a0_4 a0_5 a0_6 a0_7 a0_8 a0_9 a0_10 a0_11 a0_12 a0_13 a1: @jE R kx a0_0 a0_1 a0_2 a0_3 a0_4 a0_5 a0_6 a0_7 a0_8 a0_9 a0_10 a0_11 a0_12 a0_13 a1=(gx a0_0 a0_1 a0_2 a0_3 a0_4 a0_5 a0_6 a0_7 a0_8 a0_9 a0_10 a0_11 a0_12 a0_13 a1).bind kx:=by
 unfold gx jE
 exact ae (ac fun _=>ae (ae rfl rfl) rfl) rfl
abbrev wG:af:=.fx [.mix true [.str,(.int .i64),(.own .str),(.int .i64),(.int .i64),(.int .i64),(.int .i64),(.int .i64),(.int .i64),(.int .i64),(.int .i64),(.int .i64),(.int .i64),(.int .i64)], .val false (.int .i64)] (Int×(List ByteArray)) (fun z=>gx z.1.1 z.1.2.1 z.1.2.2.1 z.1.2.2.2.1 z.1.2.2.2.2.1 z.1.2.2.2.2.2.1 z.1.2.2.2.2.2.2.1 z.1.2.2.2.2.2.2.2.1 z.1.2.2.2.2.2.2.2.2.1 z.1.2.2.2.2.2.2.2.2.2.1 z.1.2.2.2.2.2.2.2.2.2.2.1 z.1.2.2.2.2.2.2.2.2.2.2.2.1 z.1.2.2.2.2.2.2.2.2.2.2.2.2.1 z.1.2.2.2.2.2.2.2.2.2.2.2.2.2.1 z.2.1) (fun b=>(.one ⟨false,[(.v (.int .i64 b.1))]⟩,[(.own .str b.2)]))
theorem EJ:ag C0 10 wG:=
 ag.fx (e:=false) (.cons Jz (.nil)) mixed Tryz.func10 (by kernel_rfl) (by kernel_rfl) aj 1 ai (fun z=>(by kernel_rfl:_=jE (fun b=>some (wG.enc b)) z.1.1 z.1.2.1 z.1.2.2.1 z.1.2.2.2.1 z.1.2.2.2.2.1 z.1.2.2.2.2.2.1 z.1.2.2.2.2.2.2.1 z.1.2.2.2.2.2.2.2.1 z.1.2.2.2.2.2.2.2.2.1 z.1.2.2.2.2.2.2.2.2.2.1 z.1.2.2.2.2.2.2.2.2.2.2.1 z.1.2.2.2.2.2.2.2.2.2.2.2.1 z.1.2.2.2.2.2.2.2.2.2.2.2.2.1 z.1.2.2.2.2.2.2.2.2.2.2.2.2.2.1 z.2.1).trans (Dh _ z.1.1 z.1.2.1 z.1.2.2.1 z.1.2.2.2.1 z.1.2.2.2.2.1 z.1.2.2.2.2.2.1 z.1.2.2.2.2.2.2.1 z.1.2.2.2.2.2.2.2.1 z.1.2.2.2.2.2.2.2.2.1 z.1.2.2.2.2.2.2.2.2.2.1 z.1.2.2.2.2.2.2.2.2.2.2.1 z.1.2.2.2.2.2.2.2.2.2.2.2.1 z.1.2.2.2.2.2.2.2.2.2.2.2.2.1 z.1.2.2.2.2.2.2.2.2.2.2.2.2.2.1 z.2.1))
def tO:List (FuncId×af):=[(69,rt)]
abbrev eN:LS:=⟨[(false,[(.sl yI)]),(false,[(.int .i64)]),(false,[(.int .i64)])],[],[]⟩
abbrev zF:LS:=⟨[(false,[(.int .i64)]),(false,[(.int .i64)])],[],[]⟩
abbrev cT(v0:Int)(v1:Int):=((((v0,()),(v1,()),()),(),()):zF.T)
abbrev zG:LS:=⟨[(false,[(.int .i64)]),(false,[.undef])],[],[]⟩
abbrev zt(v0:Int):=((((v0,()),((),()),()),(),()):zG.T)
abbrev fM:List (Ex×LS):=[(.ret,zF),(.exit 0,zG)]
abbrev nS x0(x1:Int)(x5:Int):=((((x0,()),(x1,()),(x5,()),()),(),()):eN.T)
def jo{R:Type}(nx:eN.T->Option R)(hx:lF R fM)(x0:List It)(x1:Int)(x5:Int):Option R:=
 cond (decide (x5<((List.length x0:Nat):Int)))
 (Option.bind (fY x0 x5) fun y1876=>
  Option.bind (gN x1) fun y1877=>
  cond (!((ByteArray.toList y1876.1)==(ByteArray.toList y1877)))
  (hx.1 (cT x1 (-(1:Int))))
  (Option.bind (fY x0 x5) fun y1878=>
   cond (!(y1878.2.1==((Int.tmod (IntKind.wrap .i64 (x1+(1:Int))) (3:Int))==(0:Int))))
   (hx.1 (cT (IntKind.wrap .i64 (x1+(1:Int))) (-(1:Int))))
   (Option.bind (fY x0 x5) fun y1879=>
    cond (y1879.2.2.1.1.1 !=(IntKind.wrap .i64 ((IntKind.wrap .i64 (x1+(1:Int)))+(1:Int))))
    (hx.1 (cT (IntKind.wrap .i64 ((IntKind.wrap .i64 (x1+(1:Int)))+(1:Int))) (-(1:Int))))
    (Option.bind (fY x0 x5) fun y1880=>
     cond (y1880.2.2.1.1.2.1 !=(IntKind.wrap .i64 ((IntKind.wrap .i64 ((IntKind.wrap .i64 (x1+(1:Int)))+(1:Int)))+(1:Int))))
     (hx.1 (cT (IntKind.wrap .i64 ((IntKind.wrap .i64 ((IntKind.wrap .i64 (x1+(1:Int)))+(1:Int)))+(1:Int))) (-(1:Int))))
     (Option.bind (fY x0 x5) fun y1881=>
      cond (y1881.2.2.1.1.2.2 !=(IntKind.wrap .i64 ((IntKind.wrap .i64 ((IntKind.wrap .i64 ((IntKind.wrap .i64 (x1+(1:Int)))+(1:Int)))+(1:Int)))+(1:Int))))
      (hx.1 (cT (IntKind.wrap .i64 ((IntKind.wrap .i64 ((IntKind.wrap .i64 ((IntKind.wrap .i64 (x1+(1:Int)))+(1:Int)))+(1:Int)))+(1:Int))) (-(1:Int))))
      (Option.bind (fY x0 x5) fun y1882=>
       cond (y1882.2.2.1.2.1 !=(IntKind.wrap .i64 ((IntKind.wrap .i64 ((IntKind.wrap .i64 ((IntKind.wrap .i64 ((IntKind.wrap .i64 (x1+(1:Int)))+(1:Int)))+(1:Int)))+(1:Int)))+(1:Int))))
       (hx.1 (cT (IntKind.wrap .i64 ((IntKind.wrap .i64 ((IntKind.wrap .i64 ((IntKind.wrap .i64 ((IntKind.wrap .i64 (x1+(1:Int)))+(1:Int)))+(1:Int)))+(1:Int)))+(1:Int))) (-(1:Int))))
       (Option.bind (fY x0 x5) fun y1883=>
        cond (y1883.2.2.1.2.2.1 !=(IntKind.wrap .i64 ((IntKind.wrap .i64 ((IntKind.wrap .i64 ((IntKind.wrap .i64 ((IntKind.wrap .i64 ((IntKind.wrap .i64 (x1+(1:Int)))+(1:Int)))+(1:Int)))+(1:Int)))+(1:Int)))+(1:Int))))
        (hx.1 (cT (IntKind.wrap .i64 ((IntKind.wrap .i64 ((IntKind.wrap .i64 ((IntKind.wrap .i64 ((IntKind.wrap .i64 ((IntKind.wrap .i64 (x1+(1:Int)))+(1:Int)))+(1:Int)))+(1:Int)))+(1:Int)))+(1:Int))) (-(1:Int))))
        (Option.bind (fY x0 x5) fun y1884=>
         cond (y1884.2.2.1.2.2.2 !=(IntKind.wrap .i64 ((IntKind.wrap .i64 ((IntKind.wrap .i64 ((IntKind.wrap .i64 ((IntKind.wrap .i64 ((IntKind.wrap .i64 ((IntKind.wrap .i64 (x1+(1:Int)))+(1:Int)))+(1:Int)))+(1:Int)))+(1:Int)))+(1:Int)))+(1:Int))))
         (hx.1 (cT (IntKind.wrap .i64 ((IntKind.wrap .i64 ((IntKind.wrap .i64 ((IntKind.wrap .i64 ((IntKind.wrap .i64 ((IntKind.wrap .i64 ((IntKind.wrap .i64 (x1+(1:Int)))+(1:Int)))+(1:Int)))+(1:Int)))+(1:Int)))+(1:Int)))+(1:Int))) (-(1:Int))))
         (Option.bind (fY x0 x5) fun y1885=>
          cond (y1885.2.2.2.1 !=(IntKind.wrap .i64 ((IntKind.wrap .i64 ((IntKind.wrap .i64 ((IntKind.wrap .i64 ((IntKind.wrap .i64 ((IntKind.wrap .i64 ((IntKind.wrap .i64 ((IntKind.wrap .i64 (x1+(1:Int)))+(1:Int)))+(1:Int)))+(1:Int)))+(1:Int)))+(1:Int)))+(1:Int)))+(1:Int))))
          (hx.1 (cT (IntKind.wrap .i64 ((IntKind.wrap .i64 ((IntKind.wrap .i64 ((IntKind.wrap .i64 ((IntKind.wrap .i64 ((IntKind.wrap .i64 ((IntKind.wrap .i64 ((IntKind.wrap .i64 (x1+(1:Int)))+(1:Int)))+(1:Int)))+(1:Int)))+(1:Int)))+(1:Int)))+(1:Int)))+(1:Int))) (-(1:Int))))
          (Option.bind (fY x0 x5) fun y1886=>
           cond (y1886.2.2.2.2.1 !=(IntKind.wrap .i64 ((IntKind.wrap .i64 ((IntKind.wrap .i64 ((IntKind.wrap .i64 ((IntKind.wrap .i64 ((IntKind.wrap .i64 ((IntKind.wrap .i64 ((IntKind.wrap .i64 ((IntKind.wrap .i64 (x1+(1:Int)))+(1:Int)))+(1:Int)))+(1:Int)))+(1:Int)))+(1:Int)))+(1:Int)))+(1:Int)))+(1:Int))))
           (hx.1 (cT (IntKind.wrap .i64 ((IntKind.wrap .i64 ((IntKind.wrap .i64 ((IntKind.wrap .i64 ((IntKind.wrap .i64 ((IntKind.wrap .i64 ((IntKind.wrap .i64 ((IntKind.wrap .i64 ((IntKind.wrap .i64 (x1+(1:Int)))+(1:Int)))+(1:Int)))+(1:Int)))+(1:Int)))+(1:Int)))+(1:Int)))+(1:Int)))+(1:Int))) (-(1:Int))))
           (Option.bind (fY x0 x5) fun y1887=>
            cond (y1887.2.2.2.2.2.1 !=(IntKind.wrap .i64 ((IntKind.wrap .i64 ((IntKind.wrap .i64 ((IntKind.wrap .i64 ((IntKind.wrap .i64 ((IntKind.wrap .i64 ((IntKind.wrap .i64 ((IntKind.wrap .i64 ((IntKind.wrap .i64 ((IntKind.wrap .i64 (x1+(1:Int)))+(1:Int)))+(1:Int)))+(1:Int)))+(1:Int)))+(1:Int)))+(1:Int)))+(1:Int)))+(1:Int)))+(1:Int))))
            (hx.1 (cT (IntKind.wrap .i64 ((IntKind.wrap .i64 ((IntKind.wrap .i64 ((IntKind.wrap .i64 ((IntKind.wrap .i64 ((IntKind.wrap .i64 ((IntKind.wrap .i64 ((IntKind.wrap .i64 ((IntKind.wrap .i64 ((IntKind.wrap .i64 (x1+(1:Int)))+(1:Int)))+(1:Int)))+(1:Int)))+(1:Int)))+(1:Int)))+(1:Int)))+(1:Int)))+(1:Int)))+(1:Int))) (-(1:Int))))
            (Option.bind (fY x0 x5) fun y1888=>
             cond (y1888.2.2.2.2.2.2 !=(IntKind.wrap .i64 ((IntKind.wrap .i64 ((IntKind.wrap .i64 ((IntKind.wrap .i64 ((IntKind.wrap .i64 ((IntKind.wrap .i64 ((IntKind.wrap .i64 ((IntKind.wrap .i64 ((IntKind.wrap .i64 ((IntKind.wrap .i64 ((IntKind.wrap .i64 (x1+(1:Int)))+(1:Int)))+(1:Int)))+(1:Int)))+(1:Int)))+(1:Int)))+(1:Int)))+(1:Int)))+(1:Int)))+(1:Int)))+(1:Int))))
             (hx.1 (cT (IntKind.wrap .i64 ((IntKind.wrap .i64 ((IntKind.wrap .i64 ((IntKind.wrap .i64 ((IntKind.wrap .i64 ((IntKind.wrap .i64 ((IntKind.wrap .i64 ((IntKind.wrap .i64 ((IntKind.wrap .i64 ((IntKind.wrap .i64 ((IntKind.wrap .i64 (x1+(1:Int)))+(1:Int)))+(1:Int)))+(1:Int)))+(1:Int)))+(1:Int)))+(1:Int)))+(1:Int)))+(1:Int)))+(1:Int)))+(1:Int))) (-(1:Int))))
             (nx (nS x0 (IntKind.wrap .i64 ((IntKind.wrap .i64 ((IntKind.wrap .i64 ((IntKind.wrap .i64 ((IntKind.wrap .i64 ((IntKind.wrap .i64 ((IntKind.wrap .i64 ((IntKind.wrap .i64 ((IntKind.wrap .i64 ((IntKind.wrap .i64 ((IntKind.wrap .i64 ((IntKind.wrap .i64 (x1+(1:Int)))+(1:Int)))+(1:Int)))+(1:Int)))+(1:Int)))+(1:Int)))+(1:Int)))+(1:Int)))+(1:Int)))+(1:Int)))+(1:Int)))+(1:Int))) (IntKind.wrap .i64 (x5+(1:Int)))))))))))))))))
 (hx.2.1 (zt x1))
def ww{R:Type}(nx:eN.T->Option R)(hx:lF R fM)(z:eN.T):Option R:=jo nx hx z.1.1.1 z.1.2.1.1 z.1.2.2.1.1
theorem zW:cY @ww:=fun R nx hx z=>by
 show jo nx hx z.1.1.1 z.1.2.1.1 z.1.2.2.1.1=(jo (fun y=>some (.inl y)) (oM fM fun x=>some (.inr x)) z.1.1.1 z.1.2.1.1 z.1.2.2.1.1).bind (oH nx hx)
 unfold jo
 exact ae (ac fun _=>ac fun _=>ae rfl (ac fun _=>ae rfl (ac fun _=>ae rfl (ac fun _=>ae rfl (ac fun _=>ae rfl (ac fun _=>ae rfl (ac fun _=>ae rfl (ac fun _=>ae rfl (ac fun _=>ae rfl (ac fun _=>ae rfl (ac fun _=>ae rfl (ac fun _=>ae rfl rfl)))))))))))) rfl
def ju:eN.T->Option (xb fM):=BJ @ww
theorem Bk x0 x1 x5:ju (nS x0 x1 x5)=jo ju (oM fM some) x0 x1 x5:=eU zW _
def pV:bQ:=⟨[0,1,5],[],[1,4],[]⟩
def tV:fQ Rv:=⟨fun k=>match k with|3=>pV|_=>⟨[],[],[],[]⟩,fun k=>match k with|3=>some (cu eN fM ju)|_=>none⟩
theorem JH(n:Nat)(z:eN.T)(k:Ex->hZ->Option Rv):bL ⟨143,143⟩ pV (nG (ii C0 tO) ⟨143,143⟩ tV 1 (aL Tryz.f20 2)) (n+1) (eN.enc z) k=
 ww (fun y=>bL ⟨143,143⟩ pV (nG (ii C0 tO) ⟨143,143⟩ tV 1 (aL Tryz.f20 2)) n (eN.enc y) k) (hK k fM) z:=by kernel_rfl
theorem LN:aw (ii C0 tO) ⟨143,143⟩ tV 1 (cp (bh Tryz.f20)):=by
 have hl:cp (bh Tryz.f20)=[aL Tryz.f20 2]:=by kernel_rfl
 rw[hl]
 exact aw.cons (n:=3) (lh:=pV) (S:=cu eN fM ju) (by kernel_rfl) rfl rfl (cy zW JH)
  (aw.nil)
def qB{R:Type}(kx:Int->Option R)(a0:(List It))(a1:Int):Option R:=
 Option.bind (ju (nS a0 a1 (0:Int))) (pD fM
 (fun e1889=>
  kx (e1889.1.2.1.1:Int),fun e1892=>
  kx (e1892.1.1.1:Int),()))
def lf(a0:(List It))(a1:Int):Option (Int):=qB some a0 a1
theorem KO{R} kx a0 a1: @qB R kx a0 a1=(lf a0 a1).bind kx:=by
 unfold lf qB
 exact cE ⟨fun _=>rfl,fun _=>rfl,trivial⟩
abbrev Fm:af:=.fx [.val false (.slice yI), .val false (.int .i64)] (Int) (fun z=>lf z.1 z.2.1) (fun b=>(.one ⟨false,[(.v (.int .i64 b))]⟩,[]))
theorem MN:ag C0 20 Fm:=
 ag.fx (e:=false) (t:=tO) (.cons yy (.nil)) mixed Tryz.func20 (by kernel_rfl) (by kernel_rfl) tV 1 LN (fun z=>(by kernel_rfl:_=qB (fun b=>some (Fm.enc b)) z.1 z.2.1).trans (KO _ z.1 z.2.1))
def gJ{R:Type}(kx:Bool->Option R)(a0:(List It))(a1:Cn):Option R:=
 Option.bind (nN a0 (1048576:Int)) fun y16=>
 cond (decide (y16<(0:Int)))
 (kx Bool.true)
 (Option.bind (gk a1 y16) fun y31=>
  cond (decide (y31<(0:Int)))
  (kx Bool.true)
  (Option.bind (jV a0) fun y50=>
   Option.bind (dG a1) fun y63=>
   Option.bind (kq y50 y63) fun y1068=>
   Option.bind (jV a0) fun y1069=>
   Option.bind (dG a1) fun y1070=>
   Option.bind (iy y1069 y1070) fun y1768=>
   Option.bind (gF y1768.1 y1068.1) fun y1793=>
   cond (!y1793)
   (kx Bool.false)
   (cond (y1768.2 !=y1068.2)
    (kx Bool.false)
    (Option.bind (jV a0) fun y1794=>
     Option.bind (gF y1069 y1794) fun y1795=>
     cond (!y1795)
     (kx Bool.false)
     (Option.bind (dG a1) fun y1796=>
      Option.bind (iL y1070 y1796) fun y1812=>
      cond (!y1812)
      (kx Bool.false)
      (cond (decide ((List.length y1069)=(List.length y1069)))
       (Option.bind (lg y1069 (1:Int)) fun y1840=>
        cond (decide ((List.length y1070.2.2.1)=(List.length y1070.2.2.1)))
        (Option.bind (gx y1070.1 y1070.2.1 y1070.2.2.1 y1070.2.2.2.1 y1070.2.2.2.2.1.1.1 y1070.2.2.2.2.1.1.2.1 y1070.2.2.2.2.1.1.2.2 y1070.2.2.2.2.1.2.1 y1070.2.2.2.2.1.2.2.1 y1070.2.2.2.2.1.2.2.2 y1070.2.2.2.2.2.1 y1070.2.2.2.2.2.2.1 y1070.2.2.2.2.2.2.2.1 y1070.2.2.2.2.2.2.2.2 y1840.1) fun y1868=>
         cond (decide (y1868.1<(0:Int)))
         (kx Bool.false)
         (Option.bind (gF y1768.1 y1068.1) fun y1869=>
          cond (!y1869)
          (kx Bool.false)
          (cond (y1768.2 !=y1068.2)
           (kx Bool.false)
           (cond (decide ((List.length y1768.1)=(List.length y1768.1)))
            (Option.bind (lg y1768.1 (1:Int)) fun y1870=>
             Option.bind (lf y1870.2 (1:Int)) fun y1894=>
             cond (decide (y1894<(0:Int)))
             (kx Bool.false)
             (cond (y1894 !=y1870.1)
              (kx Bool.false)
              (Option.bind (jV a0) fun y1895=>
               Option.bind (dG a1) fun y1896=>
               Option.bind (iy y1895 y1896) fun y1897=>
               Option.bind (gF y1897.1 y1068.1) fun y1898=>
               cond (!y1898)
               (kx Bool.false)
               (cond (y1897.2 !=y1068.2)
                (kx Bool.false)
                (Option.bind (lf y1870.2 (1:Int)) fun y1899=>
                 cond (decide (y1899<(0:Int)))
                 (kx Bool.false)
                 (cond (y1899 !=y1870.1)
                  (kx Bool.false)
                  (kx Bool.true)))))))
            none))))
        none)
       none))))))
def gE(a0:(List It))(a1:Cn):Option (Bool):=gJ some a0 a1
theorem Aw{R} kx a0 a1: @gJ R kx a0 a1=(gE a0 a1).bind kx:=by
 unfold gE gJ
 exact ac fun _=>ae rfl (ac fun _=>ae rfl (ac fun _=>ac fun _=>ac fun _=>ac fun _=>ac fun _=>ac fun _=>ac fun _=>ae rfl (ae rfl (ac fun _=>ac fun _=>ae rfl (ac fun _=>ac fun _=>ae rfl (ae (ac fun _=>ae (ac fun _=>ae rfl (ac fun _=>ae rfl (ae rfl (ae (ac fun _=>ac fun _=>ae rfl (ae rfl (ac fun _=>ac fun _=>ac fun _=>ac fun _=>ae rfl (ae rfl (ac fun _=>ae rfl (ae rfl rfl)))))) rfl)))) rfl) rfl))))))
abbrev sx:List AX:=[.val false (.slice yI), .val true yC]
abbrev Bu:Bool->AV×List CV:=fun b=>(.one ⟨false,[(.v (.bool b))]⟩,[])
abbrev te:af:=.fx sx (Bool) (fun z=>gE z.1 z.2.1) Bu
theorem BF:ag C0 4 te:=
 ag.fx (e:=false) (.cons Qb (.cons Gs (.cons Qc (.cons Gt (.cons Iz (.cons Iu (.cons Qa (.cons Gr (.cons MO (.cons EJ (.cons MN (.nil)))))))))))) mixed Tryz.func4 (by kernel_rfl) (by kernel_rfl) aj 1 ai (fun z=>(by kernel_rfl:_=gJ (fun b=>some (te.enc b)) z.1 z.2.1).trans (Aw _ z.1 z.2.1))
end
end Go.Proofs.YtjkljnflaifbhaaGreatDoor
