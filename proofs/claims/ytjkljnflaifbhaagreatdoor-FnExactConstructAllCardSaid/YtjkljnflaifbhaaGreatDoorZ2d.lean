/- No conditions. -/
import Derived.Test.YtjkljnflaifbhaaGreatDoorZ2c
namespace Go.Proofs.YtjkljnflaifbhaaGreatDoor
open Go.Vai
set_option maxRecDepth 100000
noncomputable section
def hQ{R:Type}(kx:Int->Option R)(a0:(List Ln)):Option R:=
 kx ((List.length a0:Nat):Int)
def gZ(a0:(List Ln)):Option (Int):=hQ some a0
theorem EV{R} kx a0: @hQ R kx a0=(gZ a0).bind kx:=by
 unfold gZ hQ
 exact rfl
abbrev yy:af:=.fx [.val false (.slice yL)] (Int) (fun z=>gZ z.1) (fun b=>(.one ⟨false,[(.v (.int .i64 b))]⟩,[]))
theorem GB:ag C0 266 yy:=
 ag.fx (e:=false) (.nil) mixed Tryz.func266 (by kernel_rfl) (by kernel_rfl) al 1 ai (fun z=>(by kernel_rfl:_=hQ (fun b=>some (yy.enc b)) z.1).trans (EV _ z.1))
def qw{R:Type}(kx:It×Int->Option R)(a0:Cn)(a1:(List Ln))(a2:Int):Option R:=
 cond (a2 !=(0:Int))
 (kx (((ByteArray.mk (Array.mk [])),(Bool.false,((((0:Int),((0:Int),(0:Int))),((0:Int),((0:Int),(0:Int)))),((0:Int),((0:Int),((0:Int),(0:Int))))))),a2))
 (Option.bind (gZ a1) fun y1583=>
  cond (decide (a0.2.2.2.1>=y1583))
  (kx (((ByteArray.mk (Array.mk [])),(Bool.false,((((0:Int),((0:Int),(0:Int))),((0:Int),((0:Int),(0:Int)))),((0:Int),((0:Int),((0:Int),(0:Int))))))),(3:Int)))
  (Option.bind (gq a1 a0.2.2.2.1) fun y1584=>
   Option.bind (cB a0.1 y1584 (0:Int)) fun y1585=>
   kx y1585))
def eD(a0:Cn)(a1:(List Ln))(a2:Int):Option (It×Int):=qw some a0 a1 a2
theorem LO{R} kx a0 a1 a2: @qw R kx a0 a1 a2=(eD a0 a1 a2).bind kx:=by
 unfold eD qw
 exact ae rfl (ac fun _=>ae rfl (ac fun _=>ac fun _=>rfl))
abbrev Fz:af:=.fx [.val true yC, .val false (.slice yL), .val false (.int .i64)] (It×Int) (fun z=>eD z.1 z.2.1 z.2.2.1) (fun b=>(.tup [⟨true,[(.v (.string b.1.1)),(.v (.bool b.1.2.1)),(.v (.int .i64 b.1.2.2.1.1.1)),(.v (.int .i64 b.1.2.2.1.1.2.1)),(.v (.int .i64 b.1.2.2.1.1.2.2)),(.v (.int .i64 b.1.2.2.1.2.1)),(.v (.int .i64 b.1.2.2.1.2.2.1)),(.v (.int .i64 b.1.2.2.1.2.2.2)),(.v (.int .i64 b.1.2.2.2.1)),(.v (.int .i64 b.1.2.2.2.2.1)),(.v (.int .i64 b.1.2.2.2.2.2.1)),(.v (.int .i64 b.1.2.2.2.2.2.2))]⟩,⟨false,[(.v (.int .i64 b.2))]⟩],[]))
theorem NT:ag C0 208 Fz:=
 ag.fx (e:=false) (.cons GB (.cons Az (.nil))) mixed Tryz.func208 (by kernel_rfl) (by kernel_rfl) al 1 ai (fun z=>(by kernel_rfl:_=qw (fun b=>some (Fz.enc b)) z.1 z.2.1 z.2.2.1).trans (LO _ z.1 z.2.1 z.2.2.1))
def rJ{R:Type}(kx:Int->Option R)(a0:Ln)(a1:Pt):Option R:=
 Option.bind (cd a0) fun y1618=>
 Option.bind (cH y1618 a1) fun y1619=>
 Option.bind (cy y1619 a0.2) fun y1620=>
 Option.bind (ew y1620) fun y1621=>
 kx y1621
def ka(a0:Ln)(a1:Pt):Option (Int):=rJ some a0 a1
theorem Nn{R} kx a0 a1: @rJ R kx a0 a1=(ka a0 a1).bind kx:=by
 unfold ka rJ
 exact ac fun _=>ac fun _=>ac fun _=>ac fun _=>rfl
abbrev Ao:af:=.fx [.val true yL, .val true yP] (Int) (fun z=>ka z.1 z.2.1) (fun b=>(.one ⟨false,[(.v (.int .i64 b))]⟩,[]))
theorem PB:ag C0 94 Ao:=
 ag.fx (e:=false) (.cons kY (.cons nh (.cons kI (.cons Ay (.nil))))) mixed Tryz.func94 (by kernel_rfl) (by kernel_rfl) al 1 ai (fun z=>(by kernel_rfl:_=rJ (fun b=>some (Ao.enc b)) z.1 z.2.1).trans (Nn _ z.1 z.2.1))
def qe:List (FuncId×af):=[(36,ub),(79,vV),(80,Gm),(81,wC),(94,Ao),(84,sD)]
abbrev df:LS:=⟨[(false,[(.ptr 3 0)]),(false,[(.ptr 4 0)]),(false,[(.ptr 5 0)]),(false,[(.own yL)]),(false,[(.int .i64)])],[(false,[(.int .i64),(.int .i64),(.int .i64),(.int .i64),(.int .i64),(.int .i64)]),(false,[(.int .i64),(.int .i64),(.int .i64),(.int .i64)]),(false,[(.int .i64),(.int .i64),(.int .i64),(.int .i64),(.int .i64),(.int .i64)])],[]⟩
abbrev wN:LS:=⟨[(false,[(.own yL)])],[],[]⟩
abbrev wL v0:=((((v0,()),()),(),()):wN.T)
abbrev dB:List (Ex×LS):=[(.exit 0,wN)]
abbrev kF x8(x24:Int)(b0_0:Int)(b0_1:Int)(b0_2:Int)(b0_3:Int)(b0_4:Int)(b0_5:Int)(b1_0:Int)(b1_1:Int)(b1_2:Int)(b1_3:Int)(b2_0:Int)(b2_1:Int)(b2_2:Int)(b2_3:Int)(b2_4:Int)(b2_5:Int):=(((((),()),((),()),((),()),(x8,()),(x24,()),()),((b0_0,b0_1,b0_2,b0_3,b0_4,b0_5,()),(b1_0,b1_1,b1_2,b1_3,()),(b2_0,b2_1,b2_2,b2_3,b2_4,b2_5,()),()),()):df.T)
def fZ{R:Type}(nx:df.T->Option R)(hx:mA R dB)(x8:List Ln)(x24:Int)(b0_0:Int)(b0_1:Int)(b0_2:Int)(b0_3:Int)(b0_4:Int)(b0_5:Int)(b1_0:Int)(b1_1:Int)(b1_2:Int)(b1_3:Int)(b2_0:Int)(b2_1:Int)(b2_2:Int)(b2_3:Int)(b2_4:Int)(b2_5:Int):Option R:=
 cond (decide (x24<(8:Int)))
 (Option.bind (gz ((b2_0,(b2_1,b2_2)),(b2_3,(b2_4,b2_5))) x24) fun y1614=>
  Option.bind (dS y1614 ((b0_0,(b0_1,b0_2)),(b0_3,(b0_4,b0_5)))) fun y1615=>
  Option.bind (ka (b1_0,(b1_1,(b1_2,b1_3))) y1615) fun y1622=>
  cond (y1622==(0:Int))
  (cond (decide ((((List.length x8)+(List.length [y1614]))*32)<=70368744177664))
   (cond (decide (((List.length x8)+(List.length [y1614]))<=70368744177664))
    (nx (kF (x8++ [y1614]) (IntKind.wrap .i64 (x24+(1:Int))) b0_0 b0_1 b0_2 b0_3 b0_4 b0_5 b1_0 b1_1 b1_2 b1_3 b2_0 b2_1 b2_2 b2_3 b2_4 b2_5))
    none)
   none)
  (nx (kF x8 (IntKind.wrap .i64 (x24+(1:Int))) b0_0 b0_1 b0_2 b0_3 b0_4 b0_5 b1_0 b1_1 b1_2 b1_3 b2_0 b2_1 b2_2 b2_3 b2_4 b2_5)))
 (hx.1 (wL x8))
def sM{R:Type}(nx:df.T->Option R)(hx:mA R dB)(z:df.T):Option R:=fZ nx hx z.1.2.2.2.1.1 z.1.2.2.2.2.1.1 z.2.1.1.1 z.2.1.1.2.1 z.2.1.1.2.2.1 z.2.1.1.2.2.2.1 z.2.1.1.2.2.2.2.1 z.2.1.1.2.2.2.2.2.1 z.2.1.2.1.1 z.2.1.2.1.2.1 z.2.1.2.1.2.2.1 z.2.1.2.1.2.2.2.1 z.2.1.2.2.1.1 z.2.1.2.2.1.2.1 z.2.1.2.2.1.2.2.1 z.2.1.2.2.1.2.2.2.1 z.2.1.2.2.1.2.2.2.2.1 z.2.1.2.2.1.2.2.2.2.2.1
theorem wW:cK @sM:=fun R nx hx z=>by
 show fZ nx hx z.1.2.2.2.1.1 z.1.2.2.2.2.1.1 z.2.1.1.1 z.2.1.1.2.1 z.2.1.1.2.2.1 z.2.1.1.2.2.2.1 z.2.1.1.2.2.2.2.1 z.2.1.1.2.2.2.2.2.1 z.2.1.2.1.1 z.2.1.2.1.2.1 z.2.1.2.1.2.2.1 z.2.1.2.1.2.2.2.1 z.2.1.2.2.1.1 z.2.1.2.2.1.2.1 z.2.1.2.2.1.2.2.1 z.2.1.2.2.1.2.2.2.1 z.2.1.2.2.1.2.2.2.2.1 z.2.1.2.2.1.2.2.2.2.2.1=(fZ (fun y=>some (.inl y)) (oI dB fun x=>some (.inr x)) z.1.2.2.2.1.1 z.1.2.2.2.2.1.1 z.2.1.1.1 z.2.1.1.2.1 z.2.1.1.2.2.1 z.2.1.1.2.2.2.1 z.2.1.1.2.2.2.2.1 z.2.1.1.2.2.2.2.2.1 z.2.1.2.1.1 z.2.1.2.1.2.1 z.2.1.2.1.2.2.1 z.2.1.2.1.2.2.2.1 z.2.1.2.2.1.1 z.2.1.2.2.1.2.1 z.2.1.2.2.1.2.2.1 z.2.1.2.2.1.2.2.2.1 z.2.1.2.2.1.2.2.2.2.1 z.2.1.2.2.1.2.2.2.2.2.1).bind (oH nx hx)
 unfold fZ
 exact ae (ac fun _=>ac fun _=>ac fun _=>ae (ae (ae rfl rfl) rfl) rfl) rfl
def iO:df.T->Option (yH dB):=BU @sM
theorem yE x8 x24 b0_0 b0_1 b0_2 b0_3 b0_4 b0_5 b1_0 b1_1 b1_2 b1_3 b2_0 b2_1 b2_2 b2_3 b2_4 b2_5:iO (kF x8 x24 b0_0 b0_1 b0_2 b0_3 b0_4 b0_5 b1_0 b1_1 b1_2 b1_3 b2_0 b2_1 b2_2 b2_3 b2_4 b2_5)=fZ iO (oI dB some) x8 x24 b0_0 b0_1 b0_2 b0_3 b0_4 b0_5 b1_0 b1_1 b1_2 b1_3 b2_0 b2_1 b2_2 b2_3 b2_4 b2_5:=dR wW _
def mZ:bN:=⟨[3,4,5,8,24],[3,4,5],[8],[]⟩
def qk:fq Rv:=⟨fun k=>match k with|6=>mZ|_=>⟨[],[],[],[]⟩,fun k=>match k with|6=>some (ce df dB iO)|_=>none⟩
theorem H0(n:Nat)(z:df.T)(k:Ex->iV->Option Rv):bJ ⟨45,45⟩ mZ (mU (gN C0 qe) ⟨45,45⟩ qk 1 (aG Tryz.f41 5)) (n+1) (df.enc z) k=
 sM (fun y=>bJ ⟨45,45⟩ mZ (mU (gN C0 qe) ⟨45,45⟩ qk 1 (aG Tryz.f41 5)) n (df.enc y) k) (hK k dB) z:=by kernel_rfl
theorem Jq:ak (gN C0 qe) ⟨45,45⟩ qk 1 (ca (aX Tryz.f41)):=by
 have hl:ca (aX Tryz.f41)=[aG Tryz.f41 5]:=by kernel_rfl
 rw[hl]
 exact ak.cons (n:=6) (lh:=mZ) (S:=ce df dB iO) (by kernel_rfl) rfl rfl (cl wW H0)
  (ak.nil)
def mN{R:Type}(kx:(List Ln)×Int->Option R)(a0:Pt)(a1:Ln)(a2:Pt):Option R:=
 Option.bind (aH a0) fun y1593=>
 cond (!y1593)
 (kx ([],(1:Int)))
 (Option.bind (aI a1) fun y1594=>
  cond (!y1594)
  (kx ([],(1:Int)))
  (Option.bind (aH a2) fun y1595=>
   cond (!y1595)
   (kx ([],(1:Int)))
   (Option.bind (iO (kF [] (0:Int) a0.1.1 a0.1.2.1 a0.1.2.2 a0.2.1 a0.2.2.1 a0.2.2.2 a1.1 a1.2.1 a1.2.2.1 a1.2.2.2 a2.1.1 a2.1.2.1 a2.1.2.2 a2.2.1 a2.2.2.1 a2.2.2.2)) (qi dB
    (fun e1623=>
     cond (decide ((List.length (e1623.1.1.1:List Ln))=(List.length (e1623.1.1.1:List Ln))))
     (Option.bind (cP (e1623.1.1.1:List Ln)) fun y1625=>
      kx y1625)
     none,())))))
def ie(a0:Pt)(a1:Ln)(a2:Pt):Option ((List Ln)×Int):=mN some a0 a1 a2
theorem IB{R} kx a0 a1 a2: @mN R kx a0 a1 a2=(ie a0 a1 a2).bind kx:=by
 unfold ie mN
 exact ac fun _=>ae rfl (ac fun _=>ae rfl (ac fun _=>ae rfl (cq ⟨fun _=>ae (ac fun _=>rfl) rfl,trivial⟩)))
abbrev BF:af:=.fx [.val true yP, .val true yL, .val true yP] ((List Ln)×Int) (fun z=>ie z.1 z.2.1 z.2.2.1) (fun b=>(.tup [⟨false,[(.own yL b.1)]⟩,⟨false,[(.v (.int .i64 b.2))]⟩],[]))
theorem JE:ag C0 41 BF:=
 ag.fx (e:=false) (t:=qe) (.cons fj (.cons dK (.cons rB (.cons uS (.cons PB (.cons wE (.nil))))))) mixed Tryz.func41 (by kernel_rfl) (by kernel_rfl) qk 1 Jq (fun z=>(by kernel_rfl:_=mN (fun b=>some (BF.enc b)) z.1 z.2.1 z.2.2.1).trans (IB _ z.1 z.2.1 z.2.2.1))
def tg{R:Type}(kx:Ln×Int->Option R)(a0:Int)(a1:Pt)(a2:Ln):Option R:=
 Option.bind (qF (IntKind.wrap .i64 (a0+(4:Int)))) fun y1665=>
 Option.bind (cd a2) fun y1666=>
 Option.bind (cH y1666 y1665) fun y1667=>
 Option.bind (cH y1666 a1) fun y1668=>
 Option.bind (cy a2.2 y1668) fun y1669=>
 cond ((y1667.1==(0:Int))&&((y1667.2.1==(0:Int))&&((y1667.2.2==(0:Int))&&Bool.true)))
 (cond ((y1669.1==(0:Int))&&((y1669.2.1==(0:Int))&&((y1669.2.2==(0:Int))&&Bool.true)))
  (kx (((0:Int),((0:Int),((0:Int),(0:Int)))),(2:Int)))
  (kx (((0:Int),((0:Int),((0:Int),(0:Int)))),(0:Int))))
 (Option.bind (cH y1665 y1665) fun y1670=>
  Option.bind (cG y1669 y1670) fun y1671=>
  Option.bind (ev y1667 y1667) fun y1672=>
  Option.bind (gu y1671 y1672) fun y1673=>
  cond (!y1673.2)
  (kx (((0:Int),((0:Int),((0:Int),(0:Int)))),(3:Int)))
  (Option.bind (cH y1665 a1) fun y1674=>
   Option.bind (ev y1674 y1673.1) fun y1675=>
   kx ((a0,y1675),(1:Int))))
def lk(a0:Int)(a1:Pt)(a2:Ln):Option (Ln×Int):=tg some a0 a1 a2
theorem O7{R} kx a0 a1 a2: @tg R kx a0 a1 a2=(lk a0 a1 a2).bind kx:=by
 unfold lk tg
 exact ac fun _=>ac fun _=>ac fun _=>ac fun _=>ac fun _=>ae (ae rfl rfl) (ac fun _=>ac fun _=>ac fun _=>ac fun _=>ae rfl (ac fun _=>ac fun _=>rfl))
abbrev B5:af:=.fx [.val false (.int .i64), .val true yP, .val true yL] (Ln×Int) (fun z=>lk z.1 z.2.1 z.2.2.1) (fun b=>(.tup [⟨true,[(.v (.int .i64 b.1.1)),(.v (.int .i64 b.1.2.1)),(.v (.int .i64 b.1.2.2.1)),(.v (.int .i64 b.1.2.2.2))]⟩,⟨false,[(.v (.int .i64 b.2))]⟩],[]))
theorem HP:ag C0 209 B5:=
 ag.fx (e:=false) (.cons EF (.cons kY (.cons nh (.cons kI (.cons ng (.cons oK (.cons wj (.nil)))))))) mixed Tryz.func209 (by kernel_rfl) (by kernel_rfl) al 1 ai (fun z=>(by kernel_rfl:_=tg (fun b=>some (B5.enc b)) z.1 z.2.1 z.2.2.1).trans (O7 _ z.1 z.2.1 z.2.2.1))
def yO:List (FuncId×af):=[(36,ub),(79,vV),(209,B5),(84,sD)]
abbrev fG:LS:=⟨[(false,[(.ptr 4 0)]),(false,[(.ptr 5 0)]),(false,[(.ptr 6 0)]),(false,[(.ptr 7 0)]),(false,[(.own yL)]),(false,[(.int .i64)])],[(false,[(.int .i64),(.int .i64),(.int .i64),(.int .i64),(.int .i64),(.int .i64)]),(false,[(.int .i64),(.int .i64),(.int .i64),(.int .i64)]),(false,[(.int .i64),(.int .i64),(.int .i64),(.int .i64),(.int .i64),(.int .i64)]),(false,[(.int .i64),(.int .i64),(.int .i64),(.int .i64)])],[]⟩
abbrev DL:LS:=⟨[(false,[(.own yL)]),(false,[(.int .i64)]),(false,[(.own yL)])],[],[]⟩
abbrev su v0(v1:Int) v2:=((((v0,()),(v1,()),(v2,()),()),(),()):DL.T)
abbrev DM:LS:=⟨[(false,[.undef]),(false,[.undef]),(false,[(.own yL)])],[],[]⟩
abbrev DE v0:=(((((),()),((),()),(v0,()),()),(),()):DM.T)
abbrev gF:List (Ex×LS):=[(.ret,DL),(.exit 0,DM)]
abbrev dd x10(x34:Int)(b0_0:Int)(b0_1:Int)(b0_2:Int)(b0_3:Int)(b0_4:Int)(b0_5:Int)(b1_0:Int)(b1_1:Int)(b1_2:Int)(b1_3:Int)(b2_0:Int)(b2_1:Int)(b2_2:Int)(b2_3:Int)(b2_4:Int)(b2_5:Int)(b3_0:Int)(b3_1:Int)(b3_2:Int)(b3_3:Int):=(((((),()),((),()),((),()),((),()),(x10,()),(x34,()),()),((b0_0,b0_1,b0_2,b0_3,b0_4,b0_5,()),(b1_0,b1_1,b1_2,b1_3,()),(b2_0,b2_1,b2_2,b2_3,b2_4,b2_5,()),(b3_0,b3_1,b3_2,b3_3,()),()),()):fG.T)
def kh{R:Type}(nx:fG.T->Option R)(hx:mA R gF)(x10:List Ln)(x34:Int)(b0_0:Int)(b0_1:Int)(b0_2:Int)(b0_3:Int)(b0_4:Int)(b0_5:Int)(b1_0:Int)(b1_1:Int)(b1_2:Int)(b1_3:Int)(b2_0:Int)(b2_1:Int)(b2_2:Int)(b2_3:Int)(b2_4:Int)(b2_5:Int)(b3_0:Int)(b3_1:Int)(b3_2:Int)(b3_3:Int):Option R:=
 cond (decide (x34<(8:Int)))
 (Option.bind (lk x34 ((b0_0,(b0_1,b0_2)),(b0_3,(b0_4,b0_5))) (b1_0,(b1_1,(b1_2,b1_3)))) fun y1676=>
  Option.bind (lk x34 ((b2_0,(b2_1,b2_2)),(b2_3,(b2_4,b2_5))) (b3_0,(b3_1,(b3_2,b3_3)))) fun y1677=>
  cond (y1676.2==(0:Int))
  (nx (dd x10 (IntKind.wrap .i64 (x34+(1:Int))) b0_0 b0_1 b0_2 b0_3 b0_4 b0_5 b1_0 b1_1 b1_2 b1_3 b2_0 b2_1 b2_2 b2_3 b2_4 b2_5 b3_0 b3_1 b3_2 b3_3))
  (cond (y1677.2==(0:Int))
   (nx (dd x10 (IntKind.wrap .i64 (x34+(1:Int))) b0_0 b0_1 b0_2 b0_3 b0_4 b0_5 b1_0 b1_1 b1_2 b1_3 b2_0 b2_1 b2_2 b2_3 b2_4 b2_5 b3_0 b3_1 b3_2 b3_3))
   (cond (y1676.2==(2:Int))
    (cond (y1677.2==(2:Int))
     (nx (dd x10 (IntKind.wrap .i64 (x34+(1:Int))) b0_0 b0_1 b0_2 b0_3 b0_4 b0_5 b1_0 b1_1 b1_2 b1_3 b2_0 b2_1 b2_2 b2_3 b2_4 b2_5 b3_0 b3_1 b3_2 b3_3))
     (cond (y1676.2==(3:Int))
      (hx.1 (su [] (2:Int) x10))
      (cond (y1677.2==(3:Int))
       (hx.1 (su [] (2:Int) x10))
       (cond (y1676.2==(2:Int))
        (cond (decide ((((List.length x10)+(List.length [y1677.1]))*32)<=70368744177664))
         (cond (decide (((List.length x10)+(List.length [y1677.1]))<=70368744177664))
          (nx (dd (x10++ [y1677.1]) (IntKind.wrap .i64 (x34+(1:Int))) b0_0 b0_1 b0_2 b0_3 b0_4 b0_5 b1_0 b1_1 b1_2 b1_3 b2_0 b2_1 b2_2 b2_3 b2_4 b2_5 b3_0 b3_1 b3_2 b3_3))
          none)
         none)
        (cond (y1677.2==(2:Int))
         (cond (decide ((((List.length x10)+(List.length [y1676.1]))*32)<=70368744177664))
          (cond (decide (((List.length x10)+(List.length [y1676.1]))<=70368744177664))
           (nx (dd (x10++ [y1676.1]) (IntKind.wrap .i64 (x34+(1:Int))) b0_0 b0_1 b0_2 b0_3 b0_4 b0_5 b1_0 b1_1 b1_2 b1_3 b2_0 b2_1 b2_2 b2_3 b2_4 b2_5 b3_0 b3_1 b3_2 b3_3))
           none)
          none)
         (cond ((y1676.1.1==y1677.1.1)&&(((y1676.1.2.1==y1677.1.2.1)&&((y1676.1.2.2.1==y1677.1.2.2.1)&&((y1676.1.2.2.2==y1677.1.2.2.2)&&Bool.true)))&&Bool.true))
          (cond (decide ((((List.length x10)+(List.length [y1676.1]))*32)<=70368744177664))
           (cond (decide (((List.length x10)+(List.length [y1676.1]))<=70368744177664))
            (nx (dd (x10++ [y1676.1]) (IntKind.wrap .i64 (x34+(1:Int))) b0_0 b0_1 b0_2 b0_3 b0_4 b0_5 b1_0 b1_1 b1_2 b1_3 b2_0 b2_1 b2_2 b2_3 b2_4 b2_5 b3_0 b3_1 b3_2 b3_3))
            none)
           none)
          (nx (dd x10 (IntKind.wrap .i64 (x34+(1:Int))) b0_0 b0_1 b0_2 b0_3 b0_4 b0_5 b1_0 b1_1 b1_2 b1_3 b2_0 b2_1 b2_2 b2_3 b2_4 b2_5 b3_0 b3_1 b3_2 b3_3))))))))
    (cond (y1676.2==(3:Int))
     (hx.1 (su [] (2:Int) x10))
     (cond (y1677.2==(3:Int))
      (hx.1 (su [] (2:Int) x10))
      (cond (y1676.2==(2:Int))
       (cond (decide ((((List.length x10)+(List.length [y1677.1]))*32)<=70368744177664))
        (cond (decide (((List.length x10)+(List.length [y1677.1]))<=70368744177664))
         (nx (dd (x10++ [y1677.1]) (IntKind.wrap .i64 (x34+(1:Int))) b0_0 b0_1 b0_2 b0_3 b0_4 b0_5 b1_0 b1_1 b1_2 b1_3 b2_0 b2_1 b2_2 b2_3 b2_4 b2_5 b3_0 b3_1 b3_2 b3_3))
         none)
        none)
       (cond (y1677.2==(2:Int))
        (cond (decide ((((List.length x10)+(List.length [y1676.1]))*32)<=70368744177664))
         (cond (decide (((List.length x10)+(List.length [y1676.1]))<=70368744177664))
          (nx (dd (x10++ [y1676.1]) (IntKind.wrap .i64 (x34+(1:Int))) b0_0 b0_1 b0_2 b0_3 b0_4 b0_5 b1_0 b1_1 b1_2 b1_3 b2_0 b2_1 b2_2 b2_3 b2_4 b2_5 b3_0 b3_1 b3_2 b3_3))
          none)
         none)
        (cond ((y1676.1.1==y1677.1.1)&&(((y1676.1.2.1==y1677.1.2.1)&&((y1676.1.2.2.1==y1677.1.2.2.1)&&((y1676.1.2.2.2==y1677.1.2.2.2)&&Bool.true)))&&Bool.true))
         (cond (decide ((((List.length x10)+(List.length [y1676.1]))*32)<=70368744177664))
          (cond (decide (((List.length x10)+(List.length [y1676.1]))<=70368744177664))
           (nx (dd (x10++ [y1676.1]) (IntKind.wrap .i64 (x34+(1:Int))) b0_0 b0_1 b0_2 b0_3 b0_4 b0_5 b1_0 b1_1 b1_2 b1_3 b2_0 b2_1 b2_2 b2_3 b2_4 b2_5 b3_0 b3_1 b3_2 b3_3))
           none)
          none)
         (nx (dd x10 (IntKind.wrap .i64 (x34+(1:Int))) b0_0 b0_1 b0_2 b0_3 b0_4 b0_5 b1_0 b1_1 b1_2 b1_3 b2_0 b2_1 b2_2 b2_3 b2_4 b2_5 b3_0 b3_1 b3_2 b3_3))))))))))
 (hx.2.1 (DE x10))
def AC{R:Type}(nx:fG.T->Option R)(hx:mA R gF)(z:fG.T):Option R:=kh nx hx z.1.2.2.2.2.1.1 z.1.2.2.2.2.2.1.1 z.2.1.1.1 z.2.1.1.2.1 z.2.1.1.2.2.1 z.2.1.1.2.2.2.1 z.2.1.1.2.2.2.2.1 z.2.1.1.2.2.2.2.2.1 z.2.1.2.1.1 z.2.1.2.1.2.1 z.2.1.2.1.2.2.1 z.2.1.2.1.2.2.2.1 z.2.1.2.2.1.1 z.2.1.2.2.1.2.1 z.2.1.2.2.1.2.2.1 z.2.1.2.2.1.2.2.2.1 z.2.1.2.2.1.2.2.2.2.1 z.2.1.2.2.1.2.2.2.2.2.1 z.2.1.2.2.2.1.1 z.2.1.2.2.2.1.2.1 z.2.1.2.2.2.1.2.2.1 z.2.1.2.2.2.1.2.2.2.1
theorem Ej:cK @AC:=fun R nx hx z=>by
 show kh nx hx z.1.2.2.2.2.1.1 z.1.2.2.2.2.2.1.1 z.2.1.1.1 z.2.1.1.2.1 z.2.1.1.2.2.1 z.2.1.1.2.2.2.1 z.2.1.1.2.2.2.2.1 z.2.1.1.2.2.2.2.2.1 z.2.1.2.1.1 z.2.1.2.1.2.1 z.2.1.2.1.2.2.1 z.2.1.2.1.2.2.2.1 z.2.1.2.2.1.1 z.2.1.2.2.1.2.1 z.2.1.2.2.1.2.2.1 z.2.1.2.2.1.2.2.2.1 z.2.1.2.2.1.2.2.2.2.1 z.2.1.2.2.1.2.2.2.2.2.1 z.2.1.2.2.2.1.1 z.2.1.2.2.2.1.2.1 z.2.1.2.2.2.1.2.2.1 z.2.1.2.2.2.1.2.2.2.1=(kh (fun y=>some (.inl y)) (oI gF fun x=>some (.inr x)) z.1.2.2.2.2.1.1 z.1.2.2.2.2.2.1.1 z.2.1.1.1 z.2.1.1.2.1 z.2.1.1.2.2.1 z.2.1.1.2.2.2.1 z.2.1.1.2.2.2.2.1 z.2.1.1.2.2.2.2.2.1 z.2.1.2.1.1 z.2.1.2.1.2.1 z.2.1.2.1.2.2.1 z.2.1.2.1.2.2.2.1 z.2.1.2.2.1.1 z.2.1.2.2.1.2.1 z.2.1.2.2.1.2.2.1 z.2.1.2.2.1.2.2.2.1 z.2.1.2.2.1.2.2.2.2.1 z.2.1.2.2.1.2.2.2.2.2.1 z.2.1.2.2.2.1.1 z.2.1.2.2.2.1.2.1 z.2.1.2.2.2.1.2.2.1 z.2.1.2.2.2.1.2.2.2.1).bind (oH nx hx)
 unfold kh
 exact ae (ac fun _=>ac fun _=>ae rfl (ae rfl (ae (ae rfl (ae rfl (ae rfl (ae (ae (ae rfl rfl) rfl) (ae (ae (ae rfl rfl) rfl) (ae (ae (ae rfl rfl) rfl) rfl)))))) (ae rfl (ae rfl (ae (ae (ae rfl rfl) rfl) (ae (ae (ae rfl rfl) rfl) (ae (ae (ae rfl rfl) rfl) rfl)))))))) rfl
def oO:fG.T->Option (yH gF):=BU @AC
theorem Ga x10 x34 b0_0 b0_1 b0_2 b0_3 b0_4 b0_5 b1_0 b1_1 b1_2 b1_3 b2_0 b2_1 b2_2 b2_3 b2_4 b2_5 b3_0 b3_1 b3_2 b3_3:oO (dd x10 x34 b0_0 b0_1 b0_2 b0_3 b0_4 b0_5 b1_0 b1_1 b1_2 b1_3 b2_0 b2_1 b2_2 b2_3 b2_4 b2_5 b3_0 b3_1 b3_2 b3_3)=kh oO (oI gF some) x10 x34 b0_0 b0_1 b0_2 b0_3 b0_4 b0_5 b1_0 b1_1 b1_2 b1_3 b2_0 b2_1 b2_2 b2_3 b2_4 b2_5 b3_0 b3_1 b3_2 b3_3:=dR Ej _
def uc:bN:=⟨[4,5,6,7,10,34],[4,5,6,7],[8,9,10],[]⟩
def za:fq Rv:=⟨fun k=>match k with|6=>uc|_=>⟨[],[],[],[]⟩,fun k=>match k with|6=>some (ce fG gF oO)|_=>none⟩
theorem PT(n:Nat)(z:fG.T)(k:Ex->iV->Option Rv):bJ ⟨97,97⟩ uc (mU (gN C0 yO) ⟨97,97⟩ za 1 (aG Tryz.f207 5)) (n+1) (fG.enc z) k=
 AC (fun y=>bJ ⟨97,97⟩ uc (mU (gN C0 yO) ⟨97,97⟩ za 1 (aG Tryz.f207 5)) n (fG.enc y) k) (hK k gF) z:=by kernel_rfl
theorem Sn:ak (gN C0 yO) ⟨97,97⟩ za 1 (ca (aX Tryz.f207)):=by
 have hl:ca (aX Tryz.f207)=[aG Tryz.f207 5]:=by kernel_rfl
 rw[hl]
 exact ak.cons (n:=6) (lh:=uc) (S:=ce fG gF oO) (by kernel_rfl) rfl rfl (cl Ej PT)
  (ak.nil)
def uV{R:Type}(kx:(List Ln)×Int->Option R)(a0:Pt)(a1:Ln)(a2:Pt)(a3:Ln):Option R:=
 Option.bind (aH a0) fun y1636=>
 cond (!y1636)
 (kx ([],(1:Int)))
 (Option.bind (aI a1) fun y1637=>
  cond (!y1637)
  (kx ([],(1:Int)))
  (Option.bind (aH a2) fun y1638=>
   cond (!y1638)
   (kx ([],(1:Int)))
   (Option.bind (aI a3) fun y1639=>
    cond (!y1639)
    (kx ([],(1:Int)))
    (Option.bind (oO (dd [] (0:Int) a0.1.1 a0.1.2.1 a0.1.2.2 a0.2.1 a0.2.2.1 a0.2.2.2 a1.1 a1.2.1 a1.2.2.1 a1.2.2.2 a2.1.1 a2.1.2.1 a2.1.2.2 a2.2.1 a2.2.2.1 a2.2.2.2 a3.1 a3.2.1 a3.2.2.1 a3.2.2.2)) (qi gF
     (fun e1678=>
      kx ((e1678.1.1.1:List Ln),(e1678.1.2.1.1:Int)),fun e1682=>
      cond (decide ((List.length (e1682.1.2.2.1.1:List Ln))=(List.length (e1682.1.2.2.1.1:List Ln))))
      (Option.bind (cP (e1682.1.2.2.1.1:List Ln)) fun y1684=>
       kx y1684)
      none,()))))))
def oT(a0:Pt)(a1:Ln)(a2:Pt)(a3:Ln):Option ((List Ln)×Int):=uV some a0 a1 a2 a3
theorem QG{R} kx a0 a1 a2 a3: @uV R kx a0 a1 a2 a3=(oT a0 a1 a2 a3).bind kx:=by
 unfold oT uV
 exact ac fun _=>ae rfl (ac fun _=>ae rfl (ac fun _=>ae rfl (ac fun _=>ae rfl (cq ⟨fun _=>rfl,fun _=>ae (ac fun _=>rfl) rfl,trivial⟩))))
abbrev J7:af:=.fx [.val true yP, .val true yL, .val true yP, .val true yL] ((List Ln)×Int) (fun z=>oT z.1 z.2.1 z.2.2.1 z.2.2.2.1) (fun b=>(.tup [⟨false,[(.own yL b.1)]⟩,⟨false,[(.v (.int .i64 b.2))]⟩],[]))
theorem Tb:ag C0 207 J7:=
 ag.fx (e:=false) (t:=yO) (.cons fj (.cons dK (.cons HP (.cons wE (.nil))))) mixed Tryz.func207 (by kernel_rfl) (by kernel_rfl) za 1 Sn (fun z=>(by kernel_rfl:_=uV (fun b=>some (J7.enc b)) z.1 z.2.1 z.2.2.1 z.2.2.2.1).trans (QG _ z.1 z.2.1 z.2.2.1 z.2.2.2.1))
def ul{R:Type}(kx:It×Int->Option R)(a0:Cn)(a1:(List It)):Option R:=
 cond (a0.2.1==(8:Int))
 (Option.bind (gq a1 (0:Int)) fun y1451=>
  Option.bind (gq a1 (1:Int)) fun y1452=>
  Option.bind (lQ y1451.2.2.2 y1452.2.2.2) fun y1578=>
  Option.bind (eD a0 y1578.1 y1578.2) fun y1586=>
  kx y1586)
 (cond (a0.2.1==(10:Int))
  (Option.bind (gq a1 (0:Int)) fun y1587=>
   Option.bind (gq a1 (1:Int)) fun y1588=>
   Option.bind (gq a1 (2:Int)) fun y1589=>
   Option.bind (ie y1587.2.2.1 y1588.2.2.2 y1589.2.2.1) fun y1626=>
   Option.bind (eD a0 y1626.1 y1626.2) fun y1627=>
   kx y1627)
  (Option.bind (gq a1 (0:Int)) fun y1628=>
   Option.bind (gq a1 (1:Int)) fun y1629=>
   Option.bind (gq a1 (2:Int)) fun y1630=>
   Option.bind (gq a1 (3:Int)) fun y1631=>
   Option.bind (oT y1628.2.2.1 y1629.2.2.2 y1630.2.2.1 y1631.2.2.2) fun y1685=>
   Option.bind (eD a0 y1685.1 y1685.2) fun y1686=>
   kx y1686))
def mW(a0:Cn)(a1:(List It)):Option (It×Int):=ul some a0 a1
theorem LP{R} kx a0 a1: @ul R kx a0 a1=(mW a0 a1).bind kx:=by
 unfold mW ul
 exact ae (ac fun _=>ac fun _=>ac fun _=>ac fun _=>rfl) (ae (ac fun _=>ac fun _=>ac fun _=>ac fun _=>ac fun _=>rfl) (ac fun _=>ac fun _=>ac fun _=>ac fun _=>ac fun _=>ac fun _=>rfl))
abbrev FA:af:=.fx [.val true yC, .val false (.slice yI)] (It×Int) (fun z=>mW z.1 z.2.1) (fun b=>(.tup [⟨true,[(.v (.string b.1.1)),(.v (.bool b.1.2.1)),(.v (.int .i64 b.1.2.2.1.1.1)),(.v (.int .i64 b.1.2.2.1.1.2.1)),(.v (.int .i64 b.1.2.2.1.1.2.2)),(.v (.int .i64 b.1.2.2.1.2.1)),(.v (.int .i64 b.1.2.2.1.2.2.1)),(.v (.int .i64 b.1.2.2.1.2.2.2)),(.v (.int .i64 b.1.2.2.2.1)),(.v (.int .i64 b.1.2.2.2.2.1)),(.v (.int .i64 b.1.2.2.2.2.2.1)),(.v (.int .i64 b.1.2.2.2.2.2.2))]⟩,⟨false,[(.v (.int .i64 b.2))]⟩],[]))
theorem NU:ag C0 134 FA:=
 ag.fx (e:=false) (.cons Pz (.cons NT (.cons JE (.cons Tb (.nil))))) mixed Tryz.func134 (by kernel_rfl) (by kernel_rfl) al 1 ai (fun z=>(by kernel_rfl:_=ul (fun b=>some (FA.enc b)) z.1 z.2.1).trans (LP _ z.1 z.2.1))
def pw{R:Type}(kx:Pt->Option R)(a0:Pt)(a1:Pt):Option R:=
 Option.bind (cy a0.1 a1.1) fun y1703=>
 Option.bind (cy a0.2 a1.2) fun y1704=>
 kx (y1703,y1704)
def oU(a0:Pt)(a1:Pt):Option (Pt):=pw some a0 a1
theorem KA{R} kx a0 a1: @pw R kx a0 a1=(oU a0 a1).bind kx:=by
 unfold oU pw
 exact ac fun _=>ac fun _=>rfl
abbrev xV:af:=.fx [.val true yP, .val true yP] (Pt) (fun z=>oU z.1 z.2.1) (fun b=>(.one ⟨true,[(.v (.int .i64 b.1.1)),(.v (.int .i64 b.1.2.1)),(.v (.int .i64 b.1.2.2)),(.v (.int .i64 b.2.1)),(.v (.int .i64 b.2.2.1)),(.v (.int .i64 b.2.2.2))]⟩,[]))
theorem L9:ag C0 167 xV:=
 ag.fx (e:=false) (.cons kI (.nil)) mixed Tryz.func167 (by kernel_rfl) (by kernel_rfl) al 1 ai (fun z=>(by kernel_rfl:_=pw (fun b=>some (xV.enc b)) z.1 z.2.1).trans (KA _ z.1 z.2.1))
def vH:List (FuncId×af):=[(167,xV),(168,Gn),(163,xU),(150,Aq),(169,B4)]
abbrev fa:LS:=⟨[(false,[(.ptr 5 0)]),(false,[(.int .i64)])],[(false,[(.int .i64),(.int .i64),(.int .i64),(.int .i64),(.int .i64),(.int .i64)])],[]⟩
abbrev Bv:LS:=⟨[(false,[(.int .i64)])],[],[]⟩
abbrev Bl(v0:Int):=((((v0,()),()),(),()):Bv.T)
abbrev Bw:LS:=⟨[(false,[.undef])],[],[]⟩
abbrev Bm:=(((((),()),()),(),()):Bw.T)
abbrev gh:List (Ex×LS):=[(.ret,Bv),(.exit 0,Bw)]
abbrev mh(x11:Int)(b0_0:Int)(b0_1:Int)(b0_2:Int)(b0_3:Int)(b0_4:Int)(b0_5:Int):=(((((),()),(x11,()),()),((b0_0,b0_1,b0_2,b0_3,b0_4,b0_5,()),()),()):fa.T)
def jP{R:Type}(nx:fa.T->Option R)(hx:mA R gh)(x11:Int)(b0_0:Int)(b0_1:Int)(b0_2:Int)(b0_3:Int)(b0_4:Int)(b0_5:Int):Option R:=
 cond (decide (x11<(16:Int)))
 (Option.bind (qF x11) fun y1713=>
  Option.bind (ig y1713 ((b0_0,(b0_1,b0_2)),(b0_3,(b0_4,b0_5)))) fun y1714=>
  cond ((y1714.1==(0:Int))&&((y1714.2.1==(0:Int))&&((y1714.2.2==(0:Int))&&Bool.true)))
  (Option.bind (cH y1713 ((b0_0,(b0_1,b0_2)),(b0_3,(b0_4,b0_5)))) fun y1715=>
   Option.bind (ew y1715) fun y1716=>
   cond (decide (y1716>(0:Int)))
   (hx.1 (Bl x11))
   (nx (mh (IntKind.wrap .i64 (x11+(1:Int))) b0_0 b0_1 b0_2 b0_3 b0_4 b0_5)))
  (nx (mh (IntKind.wrap .i64 (x11+(1:Int))) b0_0 b0_1 b0_2 b0_3 b0_4 b0_5)))
 (hx.2.1 (Bm))
def yd{R:Type}(nx:fa.T->Option R)(hx:mA R gh)(z:fa.T):Option R:=jP nx hx z.1.2.1.1 z.2.1.1.1 z.2.1.1.2.1 z.2.1.1.2.2.1 z.2.1.1.2.2.2.1 z.2.1.1.2.2.2.2.1 z.2.1.1.2.2.2.2.2.1
theorem BK:cK @yd:=fun R nx hx z=>by
 show jP nx hx z.1.2.1.1 z.2.1.1.1 z.2.1.1.2.1 z.2.1.1.2.2.1 z.2.1.1.2.2.2.1 z.2.1.1.2.2.2.2.1 z.2.1.1.2.2.2.2.2.1=(jP (fun y=>some (.inl y)) (oI gh fun x=>some (.inr x)) z.1.2.1.1 z.2.1.1.1 z.2.1.1.2.1 z.2.1.1.2.2.1 z.2.1.1.2.2.2.1 z.2.1.1.2.2.2.2.1 z.2.1.1.2.2.2.2.2.1).bind (oH nx hx)
 unfold jP
 exact ae (ac fun _=>ac fun _=>ae (ac fun _=>ac fun _=>ae rfl rfl) rfl) rfl
def jV:fa.T->Option (yH gh):=BU @yd
theorem CT x11 b0_0 b0_1 b0_2 b0_3 b0_4 b0_5:jV (mh x11 b0_0 b0_1 b0_2 b0_3 b0_4 b0_5)=jP jV (oI gh some) x11 b0_0 b0_1 b0_2 b0_3 b0_4 b0_5:=dR BK _
def qY:bN:=⟨[5,11],[5],[4],[]⟩
def vO:fq Rv:=⟨fun k=>match k with|4=>qY|_=>⟨[],[],[],[]⟩,fun k=>match k with|4=>some (ce fa gh jV)|_=>none⟩
theorem Mh(n:Nat)(z:fa.T)(k:Ex->iV->Option Rv):bJ ⟨30,30⟩ qY (mU (gN C0 vH) ⟨30,30⟩ vO 1 (aG Tryz.f90 3)) (n+1) (fa.enc z) k=
 yd (fun y=>bJ ⟨30,30⟩ qY (mU (gN C0 vH) ⟨30,30⟩ vO 1 (aG Tryz.f90 3)) n (fa.enc y) k) (hK k gh) z:=by kernel_rfl
theorem OB:ak (gN C0 vH) ⟨30,30⟩ vO 1 (ca (aX Tryz.f90)):=by
 have hl:ca (aX Tryz.f90)=[aG Tryz.f90 3]:=by kernel_rfl
 rw[hl]
 exact ak.cons (n:=4) (lh:=qY) (S:=ce fa gh jV) (by kernel_rfl) rfl rfl (cl BK Mh)
  (ak.nil)
def rQ{R:Type}(kx:Int->Option R)(a0:Pt)(a1:Pt):Option R:=
 Option.bind (oU a1 a0) fun y1705=>
 Option.bind (jV (mh (0:Int) y1705.1.1 y1705.1.2.1 y1705.1.2.2 y1705.2.1 y1705.2.2.1 y1705.2.2.2)) (qi gh
 (fun e1717=>
  kx (e1717.1.1.1:Int),fun _=>
  kx (-(1:Int)),()))
def lW(a0:Pt)(a1:Pt):Option (Int):=rQ some a0 a1
theorem Nu{R} kx a0 a1: @rQ R kx a0 a1=(lW a0 a1).bind kx:=by
 unfold lW rQ
 exact ac fun _=>cq ⟨fun _=>rfl,fun _=>rfl,trivial⟩
abbrev Hi:af:=.fx [.val true yP, .val true yP] (Int) (fun z=>lW z.1 z.2.1) (fun b=>(.one ⟨false,[(.v (.int .i64 b))]⟩,[]))
theorem FZ:ag C0 90 Hi:=
 ag.fx (e:=false) (t:=vH) (.cons L9 (.cons EF (.cons CO (.cons nh (.cons Ay (.nil)))))) mixed Tryz.func90 (by kernel_rfl) (by kernel_rfl) vO 1 OB (fun z=>(by kernel_rfl:_=rQ (fun b=>some (Hi.enc b)) z.1 z.2.1).trans (Nu _ z.1 z.2.1))
def pp{R:Type}(kx:Ln×Int->Option R)(a0:Pt)(a1:Pt):Option R:=
 Option.bind (aH a0) fun y1697=>
 cond (!y1697)
 (kx (((0:Int),((0:Int),((0:Int),(0:Int)))),(1:Int)))
 (Option.bind (aH a1) fun y1698=>
  cond (!y1698)
  (kx (((0:Int),((0:Int),((0:Int),(0:Int)))),(1:Int)))
  (Option.bind (lW a0 a1) fun y1720=>
   cond (decide (y1720<(0:Int)))
   (kx (((0:Int),((0:Int),((0:Int),(0:Int)))),(7:Int)))
   (Option.bind (gz a0 (Int.tmod y1720 (8:Int))) fun y1721=>
    Option.bind (fD y1721.2) fun y1722=>
    cond (!y1722)
    (kx (((0:Int),((0:Int),((0:Int),(0:Int)))),(2:Int)))
    (kx (y1721,(0:Int))))))
def lS(a0:Pt)(a1:Pt):Option (Ln×Int):=pp some a0 a1
theorem Ku{R} kx a0 a1: @pp R kx a0 a1=(lS a0 a1).bind kx:=by
 unfold lS pp
 exact ac fun _=>ae rfl (ac fun _=>ae rfl (ac fun _=>ae rfl (ac fun _=>ac fun _=>ae rfl rfl)))
abbrev DY:af:=.fx [.val true yP, .val true yP] (Ln×Int) (fun z=>lS z.1 z.2.1) (fun b=>(.tup [⟨true,[(.v (.int .i64 b.1.1)),(.v (.int .i64 b.1.2.1)),(.v (.int .i64 b.1.2.2.1)),(.v (.int .i64 b.1.2.2.2))]⟩,⟨false,[(.v (.int .i64 b.2))]⟩],[]))
theorem L5:ag C0 76 DY:=
 ag.fx (e:=false) (.cons fj (.cons FZ (.cons rB (.cons rA (.nil))))) mixed Tryz.func76 (by kernel_rfl) (by kernel_rfl) al 1 ai (fun z=>(by kernel_rfl:_=pp (fun b=>some (DY.enc b)) z.1 z.2.1).trans (Ku _ z.1 z.2.1))
def po{R:Type}(kx:Ln×Int->Option R)(a0:Pt)(a1:Pt):Option R:=
 Option.bind (lS a0 a1) fun y1723=>
 kx y1723
def lR(a0:Pt)(a1:Pt):Option (Ln×Int):=po some a0 a1
theorem Kt{R} kx a0 a1: @po R kx a0 a1=(lR a0 a1).bind kx:=by
 unfold lR po
 exact ac fun _=>rfl
abbrev DX:af:=.fx [.val true yP, .val true yP] (Ln×Int) (fun z=>lR z.1 z.2.1) (fun b=>(.tup [⟨true,[(.v (.int .i64 b.1.1)),(.v (.int .i64 b.1.2.1)),(.v (.int .i64 b.1.2.2.1)),(.v (.int .i64 b.1.2.2.2))]⟩,⟨false,[(.v (.int .i64 b.2))]⟩],[]))
theorem L4:ag C0 29 DX:=
 ag.fx (e:=false) (.cons L5 (.nil)) mixed Tryz.func29 (by kernel_rfl) (by kernel_rfl) al 1 ai (fun z=>(by kernel_rfl:_=po (fun b=>some (DX.enc b)) z.1 z.2.1).trans (Kt _ z.1 z.2.1))
def qx{R:Type}(kx:Ln×Int->Option R)(a0:Ln)(a1:Bool):Option R:=
 cond (!a1)
 (kx (((0:Int),((0:Int),((0:Int),(0:Int)))),(2:Int)))
 (Option.bind (aI a0) fun y1737=>
  cond (!y1737)
  (kx (((0:Int),((0:Int),((0:Int),(0:Int)))),(2:Int)))
  (kx (a0,(0:Int))))
def jf(a0:Ln)(a1:Bool):Option (Ln×Int):=qx some a0 a1
theorem LQ{R} kx a0 a1: @qx R kx a0 a1=(jf a0 a1).bind kx:=by
 unfold jf qx
 exact ae rfl (ac fun _=>ae rfl rfl)
abbrev FB:af:=.fx [.val true yL, .val false .bool] (Ln×Int) (fun z=>jf z.1 z.2.1) (fun b=>(.tup [⟨true,[(.v (.int .i64 b.1.1)),(.v (.int .i64 b.1.2.1)),(.v (.int .i64 b.1.2.2.1)),(.v (.int .i64 b.1.2.2.2))]⟩,⟨false,[(.v (.int .i64 b.2))]⟩],[]))
theorem xY:ag C0 91 FB:=
 ag.fx (e:=false) (.cons dK (.nil)) mixed Tryz.func91 (by kernel_rfl) (by kernel_rfl) al 1 ai (fun z=>(by kernel_rfl:_=qx (fun b=>some (FB.enc b)) z.1 z.2.1).trans (LQ _ z.1 z.2.1))
def sZ{R:Type}(kx:Ln×Int->Option R)(a0:Pt)(a1:Pt):Option R:=
 Option.bind (aH a0) fun y1730=>
 cond (!y1730)
 (kx (((0:Int),((0:Int),((0:Int),(0:Int)))),(1:Int)))
 (Option.bind (aH a1) fun y1731=>
  cond (!y1731)
  (kx (((0:Int),((0:Int),((0:Int),(0:Int)))),(1:Int)))
  (Option.bind (lW a0 a1) fun y1732=>
   cond (decide (y1732<(0:Int)))
   (kx (((0:Int),((0:Int),((0:Int),(0:Int)))),(7:Int)))
   (Option.bind (qD a0 a1) fun y1733=>
    Option.bind (gz y1733 (Int.tmod (IntKind.wrap .i64 (y1732+(4:Int))) (8:Int))) fun y1734=>
    Option.bind (jf y1734 Bool.true) fun y1738=>
    kx y1738)))
def nw(a0:Pt)(a1:Pt):Option (Ln×Int):=sZ some a0 a1
theorem OX{R} kx a0 a1: @sZ R kx a0 a1=(nw a0 a1).bind kx:=by
 unfold nw sZ
 exact ac fun _=>ae rfl (ac fun _=>ae rfl (ac fun _=>ae rfl (ac fun _=>ac fun _=>ac fun _=>rfl)))
abbrev IW:af:=.fx [.val true yP, .val true yP] (Ln×Int) (fun z=>nw z.1 z.2.1) (fun b=>(.tup [⟨true,[(.v (.int .i64 b.1.1)),(.v (.int .i64 b.1.2.1)),(.v (.int .i64 b.1.2.2.1)),(.v (.int .i64 b.1.2.2.2))]⟩,⟨false,[(.v (.int .i64 b.2))]⟩],[]))
theorem Ra:ag C0 37 IW:=
 ag.fx (e:=false) (.cons fj (.cons FZ (.cons KS (.cons rB (.cons xY (.nil)))))) mixed Tryz.func37 (by kernel_rfl) (by kernel_rfl) al 1 ai (fun z=>(by kernel_rfl:_=sZ (fun b=>some (IW.enc b)) z.1 z.2.1).trans (OX _ z.1 z.2.1))
def jx{R:Type}(kx:Ln×Int->Option R)(a0:Ln)(a1:Pt):Option R:=
 Option.bind (aI a0) fun y1745=>
 cond (!y1745)
 (kx (((0:Int),((0:Int),((0:Int),(0:Int)))),(1:Int)))
 (Option.bind (aH a1) fun y1746=>
  cond (!y1746)
  (kx (((0:Int),((0:Int),((0:Int),(0:Int)))),(1:Int)))
  (Option.bind (gz a1 (Int.tmod (IntKind.wrap .i64 (a0.1+(4:Int))) (8:Int))) fun y1747=>
   Option.bind (jf y1747 Bool.true) fun y1748=>
   kx y1748))
def eT(a0:Ln)(a1:Pt):Option (Ln×Int):=jx some a0 a1
theorem Ei{R} kx a0 a1: @jx R kx a0 a1=(eT a0 a1).bind kx:=by
 unfold eT jx
 exact ac fun _=>ae rfl (ac fun _=>ae rfl (ac fun _=>ac fun _=>rfl))
abbrev wR:af:=.fx [.val true yL, .val true yP] (Ln×Int) (fun z=>eT z.1 z.2.1) (fun b=>(.tup [⟨true,[(.v (.int .i64 b.1.1)),(.v (.int .i64 b.1.2.1)),(.v (.int .i64 b.1.2.2.1)),(.v (.int .i64 b.1.2.2.2))]⟩,⟨false,[(.v (.int .i64 b.2))]⟩],[]))
theorem EX:ag C0 135 wR:=
 ag.fx (e:=false) (.cons dK (.cons fj (.cons rB (.cons xY (.nil))))) mixed Tryz.func135 (by kernel_rfl) (by kernel_rfl) al 1 ai (fun z=>(by kernel_rfl:_=jx (fun b=>some (wR.enc b)) z.1 z.2.1).trans (Ei _ z.1 z.2.1))
def qs{R:Type}(kx:Ln×Int->Option R)(a0:Pt)(a1:Ln)(a2:Ln):Option R:=
 Option.bind (aH a0) fun y1757=>
 cond (!y1757)
 (kx (((0:Int),((0:Int),((0:Int),(0:Int)))),(1:Int)))
 (Option.bind (aI a1) fun y1758=>
  cond (!y1758)
  (kx (((0:Int),((0:Int),((0:Int),(0:Int)))),(1:Int)))
  (Option.bind (aI a2) fun y1759=>
   cond (!y1759)
   (kx (((0:Int),((0:Int),((0:Int),(0:Int)))),(1:Int)))
   (cond (a1.1==a2.1)
    (kx (((0:Int),((0:Int),((0:Int),(0:Int)))),(7:Int)))
    (Option.bind (lk (Int.tmod (IntKind.wrap .i64 (a2.1+(4:Int))) (8:Int)) a0 a1) fun y1760=>
     Option.bind (jf y1760.1 (y1760.2==(1:Int))) fun y1761=>
     kx y1761))))
def ky(a0:Pt)(a1:Ln)(a2:Ln):Option (Ln×Int):=qs some a0 a1 a2
theorem LK{R} kx a0 a1 a2: @qs R kx a0 a1 a2=(ky a0 a1 a2).bind kx:=by
 unfold ky qs
 exact ac fun _=>ae rfl (ac fun _=>ae rfl (ac fun _=>ae rfl (ae rfl (ac fun _=>ac fun _=>rfl))))
abbrev Fx:af:=.fx [.val true yP, .val true yL, .val true yL] (Ln×Int) (fun z=>ky z.1 z.2.1 z.2.2.1) (fun b=>(.tup [⟨true,[(.v (.int .i64 b.1.1)),(.v (.int .i64 b.1.2.1)),(.v (.int .i64 b.1.2.2.1)),(.v (.int .i64 b.1.2.2.2))]⟩,⟨false,[(.v (.int .i64 b.2))]⟩],[]))
theorem NS:ag C0 136 Fx:=
 ag.fx (e:=false) (.cons fj (.cons dK (.cons HP (.cons xY (.nil))))) mixed Tryz.func136 (by kernel_rfl) (by kernel_rfl) al 1 ai (fun z=>(by kernel_rfl:_=qs (fun b=>some (Fx.enc b)) z.1 z.2.1 z.2.2.1).trans (LK _ z.1 z.2.1 z.2.2.1))
def Dg{R:Type}(kx:It×Int->Option R)(a0:Cn)(a1:(List It)):Option R:=
 cond (a0.2.1==(1:Int))
 (Option.bind (dH a0.1 a0.2.2.2.2.1 (0:Int)) fun y1270=>
  kx y1270)
 (cond (a0.2.1==(3:Int))
  (Option.bind (gq a1 (0:Int)) fun y1271=>
   Option.bind (gq a1 (1:Int)) fun y1272=>
   Option.bind (lU y1271.2.2.2 y1272.2.2.2) fun y1367=>
   Option.bind (dH a0.1 y1367.1 y1367.2) fun y1368=>
   kx y1368)
  (cond (a0.2.1==(4:Int))
   (Option.bind (gq a1 (0:Int)) fun y1369=>
    Option.bind (gq a1 (1:Int)) fun y1370=>
    Option.bind (ny y1369.2.2.1 y1370.2.2.1) fun y1388=>
    Option.bind (gA y1388.2) fun y1390=>
    Option.bind (dH a0.1 y1388.1 y1390) fun y1391=>
    kx y1391)
   (cond (a0.2.1==(5:Int))
    (Option.bind (gq a1 (0:Int)) fun y1392=>
     Option.bind (gq a1 (1:Int)) fun y1393=>
     Option.bind (tY a0.1 y1392.2.2.2 y1393) fun y1448=>
     kx y1448)
    (cond (a0.2.1==(8:Int))
     (Option.bind (mW a0 a1) fun y1687=>
      kx y1687)
     (cond (a0.2.1==(10:Int))
      (Option.bind (mW a0 a1) fun y1688=>
       kx y1688)
      (cond (a0.2.1==(11:Int))
       (Option.bind (mW a0 a1) fun y1689=>
        kx y1689)
       (cond (a0.2.1==(2:Int))
        (Option.bind (cB a0.1 a0.2.2.2.2.2 (0:Int)) fun y1690=>
         kx y1690)
        (cond (a0.2.1==(6:Int))
         (Option.bind (gq a1 (0:Int)) fun y1691=>
          Option.bind (gq a1 (1:Int)) fun y1692=>
          Option.bind (lR y1691.2.2.1 y1692.2.2.1) fun y1724=>
          Option.bind (cB a0.1 y1724.1 y1724.2) fun y1725=>
          kx y1725)
         (cond (a0.2.1==(7:Int))
          (Option.bind (gq a1 (0:Int)) fun y1726=>
           Option.bind (gq a1 (1:Int)) fun y1727=>
           Option.bind (nw y1726.2.2.1 y1727.2.2.1) fun y1739=>
           Option.bind (cB a0.1 y1739.1 y1739.2) fun y1740=>
           kx y1740)
          (cond (a0.2.1==(9:Int))
           (Option.bind (gq a1 (0:Int)) fun y1741=>
            Option.bind (gq a1 (1:Int)) fun y1742=>
            Option.bind (eT y1741.2.2.2 y1742.2.2.1) fun y1749=>
            Option.bind (cB a0.1 y1749.1 y1749.2) fun y1750=>
            kx y1750)
           (cond (a0.2.1==(12:Int))
            (Option.bind (gq a1 (0:Int)) fun y1751=>
             Option.bind (gq a1 (1:Int)) fun y1752=>
             Option.bind (gq a1 (2:Int)) fun y1753=>
             Option.bind (ky y1751.2.2.1 y1752.2.2.2 y1753.2.2.2) fun y1762=>
             Option.bind (cB a0.1 y1762.1 y1762.2) fun y1763=>
             kx y1763)
            (Option.bind (cB a0.1 ((0:Int),((0:Int),((0:Int),(0:Int)))) (0:Int)) fun y1764=>
             kx y1764))))))))))))
def eC(a0:Cn)(a1:(List It)):Option (It×Int):=Dg some a0 a1
theorem UO{R} kx a0 a1: @Dg R kx a0 a1=(eC a0 a1).bind kx:=by
 unfold eC Dg
 exact ae (ac fun _=>rfl) (ae (ac fun _=>ac fun _=>ac fun _=>ac fun _=>rfl) (ae (ac fun _=>ac fun _=>ac fun _=>ac fun _=>ac fun _=>rfl) (ae (ac fun _=>ac fun _=>ac fun _=>rfl) (ae (ac fun _=>rfl) (ae (ac fun _=>rfl) (ae (ac fun _=>rfl) (ae (ac fun _=>rfl) (ae (ac fun _=>ac fun _=>ac fun _=>ac fun _=>rfl) (ae (ac fun _=>ac fun _=>ac fun _=>ac fun _=>rfl) (ae (ac fun _=>ac fun _=>ac fun _=>ac fun _=>rfl) (ae (ac fun _=>ac fun _=>ac fun _=>ac fun _=>ac fun _=>rfl) (ac fun _=>rfl))))))))))))
abbrev OK:af:=.fx [.val true yC, .val false (.slice yI)] (It×Int) (fun z=>eC z.1 z.2.1) (fun b=>(.tup [⟨true,[(.v (.string b.1.1)),(.v (.bool b.1.2.1)),(.v (.int .i64 b.1.2.2.1.1.1)),(.v (.int .i64 b.1.2.2.1.1.2.1)),(.v (.int .i64 b.1.2.2.1.1.2.2)),(.v (.int .i64 b.1.2.2.1.2.1)),(.v (.int .i64 b.1.2.2.1.2.2.1)),(.v (.int .i64 b.1.2.2.1.2.2.2)),(.v (.int .i64 b.1.2.2.2.1)),(.v (.int .i64 b.1.2.2.2.2.1)),(.v (.int .i64 b.1.2.2.2.2.2.1)),(.v (.int .i64 b.1.2.2.2.2.2.2))]⟩,⟨false,[(.v (.int .i64 b.2))]⟩],[]))
theorem V3:ag C0 66 OK:=
 ag.fx (e:=false) (.cons F4 (.cons PC (.cons Rb (.cons F5 (.cons NW (.cons NU (.cons Az (.cons L4 (.cons Ra (.cons EX (.cons NS (.nil)))))))))))) mixed Tryz.func66 (by kernel_rfl) (by kernel_rfl) al 1 ai (fun z=>(by kernel_rfl:_=Dg (fun b=>some (OK.enc b)) z.1 z.2.1).trans (UO _ z.1 z.2.1))
def dm{R:Type}(kx:(List It)->Option R)(a0:(List It)):Option R:=
 cond (decide (0<(List.length a0)))
 (cond (decide ((((List.length ([]:List Int))+(List.length a0))*104)<=70368744177664))
  (cond (decide (((List.length ([]:List Int))+(List.length a0))<=70368744177664))
   (kx ([]++a0))
   none)
  none)
 none
def dl(a0:(List It)):Option ((List It)):=dm some a0
theorem ut{R} kx a0: @dm R kx a0=(dl a0).bind kx:=by
 unfold dl dm
 exact ae (ae (ae rfl rfl) rfl) rfl
abbrev ux:List AX:=[.val false (.slice yI)]
abbrev uF:(List It)->AV×List CV:=fun b=>(.one ⟨false,[(.own yI b)]⟩,[])
abbrev mY:af:=.fx ux ((List It)) (fun z=>dl z.1) uF
theorem uT:ag C0 67 mY:=
 ag.fx (e:=false) (.nil) mixed Tryz.func67 (by kernel_rfl) (by kernel_rfl) al 1 ai (fun z=>(by kernel_rfl:_=dm (fun b=>some (mY.enc b)) z.1).trans (ut _ z.1))
theorem wO:ag C0 67 (af.emptyS yI):=
 ag.emptyRun mixed Tryz.func67 (by kernel_rfl) (by kernel_rfl) (fun _=>rfl) (fun A c=>by cases A<;>kernel_rfl)
def bd(a0:(List It)):Option ((List It)):=cond (decide (List.length a0<=4000000)) (some a0) none
abbrev ww:List AX:=[.val false (.slice yI)]
abbrev wA:(List It)->AV×List CV:=fun b=>(.one ⟨false,[(.own yI b)]⟩,[])
abbrev ow:af:=.fx ww ((List It)) (fun z=>bd z.1) wA
theorem nU:ag C0 67 ow:=by
 refine ag.orEmpty uT (g':=bd) (fun l y h hne=> ?_) (fun y h=> ?_) wO
 ·show dl l=some y
  unfold bd at h
  cases hd:decide (List.length l<=4000000)with
  |false=>rw[hd]at h;cases h
  |true=>
   rw[hd]at h;cases h
   have h1:=of_decide_eq_true hd
   have h2:0<List.length l:=List.length_pos_iff.2 hne
   unfold dl dm
   simp only[List.length_nil,Nat.zero_add,List.nil_append]
   rw[decide_eq_true h2,decide_eq_true (by omega),decide_eq_true (by omega)];rfl
 ·cases h;rfl
def kZ{R:Type}(kx:(List It)×Int->Option R)(a0:(List It))(a1:Cn):Option R:=
 Option.bind (kA a0) fun y1125=>
 cond (!y1125)
 (kx ([],(1:Int)))
 (Option.bind (am a1) fun y1177=>
  cond (!y1177)
  (kx ([],(1:Int)))
  (Option.bind (kb a0 a1.1) fun y1178=>
   cond (decide (y1178>=(0:Int)))
   (kx ([],(4:Int)))
   (cond (((List.length a0:Nat):Int)==(40:Int))
    (kx ([],(5:Int)))
    (Option.bind (oD a0 a1) fun y1264=>
     cond (y1264.2 !=(0:Int))
     (kx ([],y1264.2))
     (Option.bind (eC a1 y1264.1) fun y1765=>
      cond (y1765.2 !=(0:Int))
      (kx ([],y1765.2))
      (Option.bind (bd a0) fun y1767=>
       cond (decide ((((List.length y1767)+(List.length [y1765.1]))*104)<=70368744177664))
       (cond (decide (((List.length y1767)+(List.length [y1765.1]))<=70368744177664))
        (kx ((y1767++ [y1765.1]),(0:Int)))
        none)
       none))))))
def gI(a0:(List It))(a1:Cn):Option ((List It)×Int):=kZ some a0 a1
theorem Jw{R} kx a0 a1: @kZ R kx a0 a1=(gI a0 a1).bind kx:=by
 unfold gI kZ
 exact ac fun _=>ae rfl (ac fun _=>ae rfl (ac fun _=>ae rfl (ae rfl (ac fun _=>ae rfl (ac fun _=>ae rfl (ac fun _=>ae (ae rfl rfl) rfl))))))
abbrev wB:af:=.fx [.val false (.slice yI), .val true yC] ((List It)×Int) (fun z=>gI z.1 z.2.1) (fun b=>(.tup [⟨false,[(.own yI b.1)]⟩,⟨false,[(.v (.int .i64 b.2))]⟩],[]))
theorem KQ:ag C0 17 wB:=
 ag.fx (e:=false) (.cons EE (.cons EY (.cons zy (.cons PD (.cons V3 (.cons nU (.nil))))))) mixed Tryz.func17 (by kernel_rfl) (by kernel_rfl) al 1 ai (fun z=>(by kernel_rfl:_=kZ (fun b=>some (wB.enc b)) z.1 z.2.1).trans (Jw _ z.1 z.2.1))
def zK{R:Type}(kx:Bool->Option R)(a0:Nm)(a1:Nm):Option R:=
 cond (a0.1 !=a1.1)
 (kx Bool.false)
 (cond (a0.2.1 !=a1.2.1)
  (kx Bool.false)
  (cond (a0.2.2 !=a1.2.2)
   (kx Bool.false)
   (kx Bool.true)))
def qj(a0:Nm)(a1:Nm):Option (Bool):=zK some a0 a1
theorem UP{R} kx a0 a1: @zK R kx a0 a1=(qj a0 a1).bind kx:=by
 unfold qj zK
 exact ae rfl (ae rfl (ae rfl rfl))
abbrev OL:af:=.fx [.val true yN, .val true yN] (Bool) (fun z=>qj z.1 z.2.1) (fun b=>(.one ⟨false,[(.v (.bool b))]⟩,[]))
theorem MN:ag C0 115 OL:=
 ag.fx (e:=false) (.nil) mixed Tryz.func115 (by kernel_rfl) (by kernel_rfl) al 1 ai (fun z=>(by kernel_rfl:_=zK (fun b=>some (OL.enc b)) z.1 z.2.1).trans (UP _ z.1 z.2.1))
def uZ{R:Type}(kx:Bool->Option R)(a0:Pt)(a1:Pt):Option R:=
 Option.bind (qj a0.1 a1.1) fun y1782=>
 cond (!y1782)
 (kx Bool.false)
 (Option.bind (qj a0.2 a1.2) fun y1783=>
  cond (!y1783)
  (kx Bool.false)
  (kx Bool.true))
def oW(a0:Pt)(a1:Pt):Option (Bool):=uZ some a0 a1
theorem QJ{R} kx a0 a1: @uZ R kx a0 a1=(oW a0 a1).bind kx:=by
 unfold oW uZ
 exact ac fun _=>ae rfl (ac fun _=>ae rfl rfl)
abbrev Ka:af:=.fx [.val true yP, .val true yP] (Bool) (fun z=>oW z.1 z.2.1) (fun b=>(.one ⟨false,[(.v (.bool b))]⟩,[]))
theorem Jf:ag C0 50 Ka:=
 ag.fx (e:=false) (.cons MN (.nil)) mixed Tryz.func50 (by kernel_rfl) (by kernel_rfl) al 1 ai (fun z=>(by kernel_rfl:_=uZ (fun b=>some (Ka.enc b)) z.1 z.2.1).trans (QJ _ z.1 z.2.1))
def xg{R:Type}(kx:Bool->Option R)(a0:Ln)(a1:Ln):Option R:=
 cond (a0.1 !=a1.1)
 (kx Bool.false)
 (Option.bind (qj a0.2 a1.2) fun y1787=>
  cond (!y1787)
  (kx Bool.false)
  (kx Bool.true))
def qG(a0:Ln)(a1:Ln):Option (Bool):=xg some a0 a1
theorem SE{R} kx a0 a1: @xg R kx a0 a1=(qG a0 a1).bind kx:=by
 unfold qG xg
 exact ae rfl (ac fun _=>ae rfl rfl)
abbrev Mx:af:=.fx [.val true yL, .val true yL] (Bool) (fun z=>qG z.1 z.2.1) (fun b=>(.one ⟨false,[(.v (.bool b))]⟩,[]))
theorem KT:ag C0 51 Mx:=
 ag.fx (e:=false) (.cons MN (.nil)) mixed Tryz.func51 (by kernel_rfl) (by kernel_rfl) al 1 ai (fun z=>(by kernel_rfl:_=xg (fun b=>some (Mx.enc b)) z.1 z.2.1).trans (SE _ z.1 z.2.1))
def xf{R:Type}(kx:Bool->Option R)(a0:It)(a1:It):Option R:=
 cond (!((ByteArray.toList a0.1)==(ByteArray.toList a1.1)))
 (kx Bool.false)
 (cond (!(a0.2.1==a1.2.1))
  (kx Bool.false)
  (Option.bind (oW a0.2.2.1 a1.2.2.1) fun y1784=>
   cond (!y1784)
   (kx Bool.false)
   (Option.bind (qG a0.2.2.2 a1.2.2.2) fun y1788=>
    cond (!y1788)
    (kx Bool.false)
    (kx Bool.true))))
def tx(a0:It)(a1:It):Option (Bool):=xf some a0 a1
theorem SD{R} kx a0 a1: @xf R kx a0 a1=(tx a0 a1).bind kx:=by
 unfold tx xf
 exact ae rfl (ae rfl (ac fun _=>ae rfl (ac fun _=>ae rfl rfl)))
abbrev Gp:af:=.fx [.val true yI, .val true yI] (Bool) (fun z=>tx z.1 z.2.1) (fun b=>(.one ⟨false,[(.v (.bool b))]⟩,[]))
theorem Vm:ag C0 68 Gp:=
 ag.fx (e:=false) (.cons Jf (.cons KT (.nil))) mixed Tryz.func68 (by kernel_rfl) (by kernel_rfl) al 1 ai (fun z=>(by kernel_rfl:_=xf (fun b=>some (Gp.enc b)) z.1 z.2.1).trans (SD _ z.1 z.2.1))
def yQ:List (FuncId×af):=[(68,Gp)]
abbrev gB:LS:=⟨[(false,[(.sl yI)]),(false,[(.sl yI)]),(false,[(.int .i64)])],[],[]⟩
abbrev DN:LS:=⟨[(false,[.bool])],[],[]⟩
abbrev Na(v0:Bool):=((((v0,()),()),(),()):DN.T)
abbrev DO:LS:=⟨[(false,[.undef])],[],[]⟩
abbrev DG:=(((((),()),()),(),()):DO.T)
abbrev iR:List (Ex×LS):=[(.ret,DN),(.exit 0,DO)]
abbrev rq x0 x1(x5:Int):=((((x0,()),(x1,()),(x5,()),()),(),()):gB.T)
def mp{R:Type}(nx:gB.T->Option R)(hx:mA R iR)(x0:List It)(x1:List It)(x5:Int):Option R:=
 cond (decide (x5<((List.length x0:Nat):Int)))
 (Option.bind (gq x0 x5) fun y1774=>
  Option.bind (gq x1 x5) fun y1775=>
  Option.bind (tx y1774 y1775) fun y1789=>
  cond (!y1789)
  (hx.1 (Na Bool.false))
  (nx (rq x0 x1 (IntKind.wrap .i64 (x5+(1:Int))))))
 (hx.2.1 (DG))
def AE{R:Type}(nx:gB.T->Option R)(hx:mA R iR)(z:gB.T):Option R:=mp nx hx z.1.1.1 z.1.2.1.1 z.1.2.2.1.1
theorem El:cK @AE:=fun R nx hx z=>by
 show mp nx hx z.1.1.1 z.1.2.1.1 z.1.2.2.1.1=(mp (fun y=>some (.inl y)) (oI iR fun x=>some (.inr x)) z.1.1.1 z.1.2.1.1 z.1.2.2.1.1).bind (oH nx hx)
 unfold mp
 exact ae (ac fun _=>ac fun _=>ac fun _=>ae rfl rfl) rfl
def mw:gB.T->Option (yH iR):=BU @AE
theorem Gb x0 x1 x5:mw (rq x0 x1 x5)=mp mw (oI iR some) x0 x1 x5:=dR El _
def ud:bN:=⟨[0,1,5],[],[4],[]⟩
def zb:fq Rv:=⟨fun k=>match k with|5=>ud|_=>⟨[],[],[],[]⟩,fun k=>match k with|5=>some (ce gB iR mw)|_=>none⟩
theorem PU(n:Nat)(z:gB.T)(k:Ex->iV->Option Rv):bJ ⟨27,27⟩ ud (mU (gN C0 yQ) ⟨27,27⟩ zb 1 (aG Tryz.f18 4)) (n+1) (gB.enc z) k=
 AE (fun y=>bJ ⟨27,27⟩ ud (mU (gN C0 yQ) ⟨27,27⟩ zb 1 (aG Tryz.f18 4)) n (gB.enc y) k) (hK k iR) z:=by kernel_rfl
theorem So:ak (gN C0 yQ) ⟨27,27⟩ zb 1 (ca (aX Tryz.f18)):=by
 have hl:ca (aX Tryz.f18)=[aG Tryz.f18 4]:=by kernel_rfl
 rw[hl]
 exact ak.cons (n:=5) (lh:=ud) (S:=ce gB iR mw) (by kernel_rfl) rfl rfl (cl El PU)
  (ak.nil)
def uY{R:Type}(kx:Bool->Option R)(a0:(List It))(a1:(List It)):Option R:=
 cond (((List.length a0:Nat):Int) !=((List.length a1:Nat):Int))
 (kx Bool.false)
 (Option.bind (mw (rq a0 a1 (0:Int))) (qi iR
  (fun e1790=>
   kx (e1790.1.1.1:Bool),fun _=>
   kx Bool.true,())))
def uG(a0:(List It))(a1:(List It)):Option (Bool):=uY some a0 a1
theorem QI{R} kx a0 a1: @uY R kx a0 a1=(uG a0 a1).bind kx:=by
 unfold uG uY
 exact ae rfl (cq ⟨fun _=>rfl,fun _=>rfl,trivial⟩)
abbrev J9:af:=.fx [.val false (.slice yI), .val false (.slice yI)] (Bool) (fun z=>uG z.1 z.2.1) (fun b=>(.one ⟨false,[(.v (.bool b))]⟩,[]))
theorem Tc:ag C0 18 J9:=
 ag.fx (e:=false) (t:=yQ) (.cons Vm (.nil)) mixed Tryz.func18 (by kernel_rfl) (by kernel_rfl) zb 1 So (fun z=>(by kernel_rfl:_=uY (fun b=>some (J9.enc b)) z.1 z.2.1).trans (QI _ z.1 z.2.1))
def vI:List (FuncId×af):=[]
abbrev fe:LS:=⟨[(false,[(.sl .str)]),(false,[(.sl .str)]),(false,[(.int .i64)])],[],[]⟩
abbrev Bx:LS:=⟨[(false,[.bool])],[],[]⟩
abbrev JT(v0:Bool):=((((v0,()),()),(),()):Bx.T)
abbrev By:LS:=⟨[(false,[.undef])],[],[]⟩
abbrev Bn:=(((((),()),()),(),()):By.T)
abbrev gi:List (Ex×LS):=[(.ret,Bx),(.exit 0,By)]
abbrev pe(x0:List ByteArray)(x1:List ByteArray)(x5:Int):=((((x0,()),(x1,()),(x5,()),()),(),()):fe.T)
def jQ{R:Type}(nx:fe.T->Option R)(hx:mA R gi)(x0:List ByteArray)(x1:List ByteArray)(x5:Int):Option R:=
 cond (decide (x5<((List.length x0:Nat):Int)))
 (Option.bind (gq x0 x5) fun y1804=>
  Option.bind (gq x1 x5) fun y1805=>
  cond (!((ByteArray.toList y1804)==(ByteArray.toList y1805)))
  (hx.1 (JT Bool.false))
  (nx (pe x0 x1 (IntKind.wrap .i64 (x5+(1:Int))))))
 (hx.2.1 (Bn))
def ye{R:Type}(nx:fe.T->Option R)(hx:mA R gi)(z:fe.T):Option R:=jQ nx hx z.1.1.1 z.1.2.1.1 z.1.2.2.1.1
theorem BL:cK @ye:=fun R nx hx z=>by
 show jQ nx hx z.1.1.1 z.1.2.1.1 z.1.2.2.1.1=(jQ (fun y=>some (.inl y)) (oI gi fun x=>some (.inr x)) z.1.1.1 z.1.2.1.1 z.1.2.2.1.1).bind (oH nx hx)
 unfold jQ
 exact ae (ac fun _=>ac fun _=>ae rfl rfl) rfl
def jW:fe.T->Option (yH gi):=BU @ye
theorem CU x0 x1 x5:jW (pe x0 x1 x5)=jQ jW (oI gi some) x0 x1 x5:=dR BL _
def qZ:bN:=⟨[0,1,5],[],[4],[]⟩
def vP:fq Rv:=⟨fun k=>match k with|5=>qZ|_=>⟨[],[],[],[]⟩,fun k=>match k with|5=>some (ce fe gi jW)|_=>none⟩
theorem Mi(n:Nat)(z:fe.T)(k:Ex->iV->Option Rv):bJ ⟨26,26⟩ qZ (mU (gN C0 vI) ⟨26,26⟩ vP 1 (aG Tryz.f49 4)) (n+1) (fe.enc z) k=
 ye (fun y=>bJ ⟨26,26⟩ qZ (mU (gN C0 vI) ⟨26,26⟩ vP 1 (aG Tryz.f49 4)) n (fe.enc y) k) (hK k gi) z:=by kernel_rfl
theorem OC:ak (gN C0 vI) ⟨26,26⟩ vP 1 (ca (aX Tryz.f49)):=by
 have hl:ca (aX Tryz.f49)=[aG Tryz.f49 4]:=by kernel_rfl
 rw[hl]
 exact ak.cons (n:=5) (lh:=qZ) (S:=ce fe gi jW) (by kernel_rfl) rfl rfl (cl BL Mi)
  (ak.nil)
def rT{R:Type}(kx:Bool->Option R)(a0:(List ByteArray))(a1:(List ByteArray)):Option R:=
 cond (((List.length a0:Nat):Int) !=((List.length a1:Nat):Int))
 (kx Bool.false)
 (Option.bind (jW (pe a0 a1 (0:Int))) (qi gi
  (fun e1806=>
   kx (e1806.1.1.1:Bool),fun _=>
   kx Bool.true,())))
def oE(a0:(List ByteArray))(a1:(List ByteArray)):Option (Bool):=rT some a0 a1
theorem Nz{R} kx a0 a1: @rT R kx a0 a1=(oE a0 a1).bind kx:=by
 unfold oE rT
 exact ae rfl (cq ⟨fun _=>rfl,fun _=>rfl,trivial⟩)
abbrev Hm:af:=.fx [.val false (.slice .str), .val false (.slice .str)] (Bool) (fun z=>oE z.1 z.2.1) (fun b=>(.one ⟨false,[(.v (.bool b))]⟩,[]))
theorem PF:ag C0 49 Hm:=
 ag.fx (e:=false) (t:=vI) (.nil) mixed Tryz.func49 (by kernel_rfl) (by kernel_rfl) vP 1 OC (fun z=>(by kernel_rfl:_=rT (fun b=>some (Hm.enc b)) z.1 z.2.1).trans (Nz _ z.1 z.2.1))
def lM{R:Type}(kx:Bool->Option R)(a0:Cn)(a1:Cn):Option R:=
 cond (!((ByteArray.toList a0.1)==(ByteArray.toList a1.1)))
 (kx Bool.false)
 (cond (a0.2.1 !=a1.2.1)
  (kx Bool.false)
  (Option.bind (oE a0.2.2.1 a1.2.2.1) fun y1809=>
   cond (!y1809)
   (kx Bool.false)
   (cond (a0.2.2.2.1 !=a1.2.2.2.1)
    (kx Bool.false)
    (Option.bind (oW a0.2.2.2.2.1 a1.2.2.2.2.1) fun y1810=>
     cond (!y1810)
     (kx Bool.false)
     (Option.bind (qG a0.2.2.2.2.2 a1.2.2.2.2.2) fun y1811=>
      cond (!y1811)
      (kx Bool.false)
      (kx Bool.true))))))
def ji(a0:Cn)(a1:Cn):Option (Bool):=lM some a0 a1
theorem Hy{R} kx a0 a1: @lM R kx a0 a1=(ji a0 a1).bind kx:=by
 unfold ji lM
 exact ae rfl (ae rfl (ac fun _=>ae rfl (ae rfl (ac fun _=>ae rfl (ac fun _=>ae rfl rfl)))))
abbrev tP:af:=.fx [.val true yC, .val true yC] (Bool) (fun z=>ji z.1 z.2.1) (fun b=>(.one ⟨false,[(.v (.bool b))]⟩,[]))
theorem IK:ag C0 9 tP:=
 ag.fx (e:=false) (.cons PF (.cons Jf (.cons KT (.nil)))) mixed Tryz.func9 (by kernel_rfl) (by kernel_rfl) al 1 ai (fun z=>(by kernel_rfl:_=lM (fun b=>some (tP.enc b)) z.1 z.2.1).trans (Hy _ z.1 z.2.1))
def xw:List (FuncId×af):=[]
abbrev fR:LS:=⟨[(false,[(.int .i64)]),(false,[.str])],[],[]⟩
abbrev Cv:LS:=⟨[(false,[.str])],[],[]⟩
abbrev Cs(v0:ByteArray):=((((v0,()),()),(),()):Cv.T)
abbrev gT:List (Ex×LS):=[(.exit 0,Cv)]
abbrev uj(x0:Int)(x3:ByteArray):=((((x0,()),(x3,()),()),(),()):fR.T)
def nn{R:Type}(nx:fR.T->Option R)(hx:mA R gT)(x0:Int)(x3:ByteArray):Option R:=
 cond (decide (x0>(0:Int)))
 (cond (decide (((((ByteArray.size (ByteArray.mk (Array.mk [(UInt8.ofNat (Int.toNat (IntKind.wrap IntKind.u8 (IntKind.wrap .i64 ((48:Int)+(Int.tmod x0 (10:Int)))))))])))+(ByteArray.size x3)):Nat):Int)>(if(Bool.true=Bool.true)then(((2:Int)^(64-1))-(1:Int))else(((2:Int)^64)-(1:Int)))))
  none
  (nx (uj (IntKind.wrap .i64 (Int.tdiv x0 (10:Int))) ((ByteArray.mk (Array.mk [(UInt8.ofNat (Int.toNat (IntKind.wrap IntKind.u8 (IntKind.wrap .i64 ((48:Int)+(Int.tmod x0 (10:Int)))))))]))++x3))))
 (hx.1 (Cs x3))
def zM{R:Type}(nx:fR.T->Option R)(hx:mA R gT)(z:fR.T):Option R:=nn nx hx z.1.1.1 z.1.2.1.1
theorem CL:cK @zM:=fun R nx hx z=>by
 show nn nx hx z.1.1.1 z.1.2.1.1=(nn (fun y=>some (.inl y)) (oI gT fun x=>some (.inr x)) z.1.1.1 z.1.2.1.1).bind (oH nx hx)
 unfold nn
 exact ae (ae rfl rfl) rfl
def nr:fR.T->Option (yH gT):=BU @zM
theorem Oc x0 x3:nr (uj x0 x3)=nn nr (oI gT some) x0 x3:=dR CL _
def sF:bN:=⟨[0,3],[],[3],[]⟩
def xA:fq Rv:=⟨fun k=>match k with|5=>sF|_=>⟨[],[],[],[]⟩,fun k=>match k with|5=>some (ce fR gT nr)|_=>none⟩
theorem N7(n:Nat)(z:fR.T)(k:Ex->iV->Option Rv):bJ ⟨20,20⟩ sF (mU (gN C0 xw) ⟨20,20⟩ xA 1 (aG Tryz.f69 4)) (n+1) (fR.enc z) k=
 zM (fun y=>bJ ⟨20,20⟩ sF (mU (gN C0 xw) ⟨20,20⟩ xA 1 (aG Tryz.f69 4)) n (fR.enc y) k) (hK k gT) z:=by kernel_rfl
theorem Qs:ak (gN C0 xw) ⟨20,20⟩ xA 1 (ca (aX Tryz.f69)):=by
 have hl:ca (aX Tryz.f69)=[aG Tryz.f69 4]:=by kernel_rfl
 rw[hl]
 exact ak.cons (n:=5) (lh:=sF) (S:=ce fR gT nr) (by kernel_rfl) rfl rfl (cl CL N7)
  (ak.nil)
def ti{R:Type}(kx:ByteArray->Option R)(a0:Int):Option R:=
 cond (decide (a0<=(0:Int)))
 (kx (ByteArray.mk (Array.mk [109,48])))
 (Option.bind (nr (uj a0 (ByteArray.mk (Array.mk [])))) (qi gT
  (fun e1822=>
   cond (decide (((((ByteArray.size (ByteArray.mk (Array.mk [109])))+(ByteArray.size (e1822.1.1.1:ByteArray))):Nat):Int)>(if(Bool.true=Bool.true)then(((2:Int)^(64-1))-(1:Int))else(((2:Int)^64)-(1:Int)))))
   none
   (kx ((ByteArray.mk (Array.mk [109]))++(e1822.1.1.1:ByteArray))),())))
def iu(a0:Int):Option (ByteArray):=ti some a0
theorem Pa{R} kx a0: @ti R kx a0=(iu a0).bind kx:=by
 unfold iu ti
 exact ae rfl (cq ⟨fun _=>ae rfl rfl,trivial⟩)
abbrev sU:af:=.fx [.val false (.int .i64)] (ByteArray) (fun z=>iu z.1) (fun b=>(.one ⟨false,[(.v (.string b))]⟩,[]))
theorem rC:ag C0 69 sU:=
 ag.fx (e:=false) (t:=xw) (.nil) mixed Tryz.func69 (by kernel_rfl) (by kernel_rfl) xA 1 Qs (fun z=>(by kernel_rfl:_=ti (fun b=>some (sU.enc b)) z.1).trans (Pa _ z.1))
def vK:List (FuncId×af):=[(69,sU)]
abbrev fg:LS:=⟨[(false,[(.view (.arg 0) true 0 yI)]),(false,[(.int .i64)]),(false,[(.int .i64)])],[],[(.own yI)]⟩
abbrev BB:LS:=⟨[(false,[(.int .i64)])],[],[(.own yI)]⟩
abbrev Bp(v0:Int) v1:=((((v0,()),()),(),(v1,())):BB.T)
abbrev gl:List (Ex×LS):=[(.exit 0,BB)]
abbrev pg x0(x1:Int)(x5:Int) o:=((((x0,()),(x1,()),(x5,()),()),(),(o,())):fg.T)
def jS{R:Type}(nx:fg.T->Option R)(hx:mA R gl)(x0:List It)(x1:Int)(x5:Int)(o:List It):Option R:=
 cond (decide (x5<((List.length x0:Nat):Int)))
 (Option.bind (iu x1) fun y1824=>
  Option.bind (gq x0 x5) fun y1825=>
  Option.bind (gq (List.set x0 (0+(Int.toNat x5)) (y1824,y1825.2)) x5) fun y1826=>
  Option.bind (gq (List.set (List.set x0 (0+(Int.toNat x5)) (y1824,y1825.2)) (0+(Int.toNat x5)) (y1826.1,(((Int.tmod (IntKind.wrap .i64 (x1+(1:Int))) (3:Int))==(0:Int)),y1826.2.2))) x5) fun y1827=>
  Option.bind (gq (List.set (List.set (List.set x0 (0+(Int.toNat x5)) (y1824,y1825.2)) (0+(Int.toNat x5)) (y1826.1,(((Int.tmod (IntKind.wrap .i64 (x1+(1:Int))) (3:Int))==(0:Int)),y1826.2.2))) (0+(Int.toNat x5)) (y1827.1,(y1827.2.1,((((IntKind.wrap .i64 ((IntKind.wrap .i64 (x1+(1:Int)))+(1:Int))),y1827.2.2.1.1.2),y1827.2.2.1.2),y1827.2.2.2)))) x5) fun y1828=>
  Option.bind (gq (List.set (List.set (List.set (List.set x0 (0+(Int.toNat x5)) (y1824,y1825.2)) (0+(Int.toNat x5)) (y1826.1,(((Int.tmod (IntKind.wrap .i64 (x1+(1:Int))) (3:Int))==(0:Int)),y1826.2.2))) (0+(Int.toNat x5)) (y1827.1,(y1827.2.1,((((IntKind.wrap .i64 ((IntKind.wrap .i64 (x1+(1:Int)))+(1:Int))),y1827.2.2.1.1.2),y1827.2.2.1.2),y1827.2.2.2)))) (0+(Int.toNat x5)) (y1828.1,(y1828.2.1,(((y1828.2.2.1.1.1,((IntKind.wrap .i64 ((IntKind.wrap .i64 ((IntKind.wrap .i64 (x1+(1:Int)))+(1:Int)))+(1:Int))),y1828.2.2.1.1.2.2)),y1828.2.2.1.2),y1828.2.2.2)))) x5) fun y1829=>
  Option.bind (gq (List.set (List.set (List.set (List.set (List.set x0 (0+(Int.toNat x5)) (y1824,y1825.2)) (0+(Int.toNat x5)) (y1826.1,(((Int.tmod (IntKind.wrap .i64 (x1+(1:Int))) (3:Int))==(0:Int)),y1826.2.2))) (0+(Int.toNat x5)) (y1827.1,(y1827.2.1,((((IntKind.wrap .i64 ((IntKind.wrap .i64 (x1+(1:Int)))+(1:Int))),y1827.2.2.1.1.2),y1827.2.2.1.2),y1827.2.2.2)))) (0+(Int.toNat x5)) (y1828.1,(y1828.2.1,(((y1828.2.2.1.1.1,((IntKind.wrap .i64 ((IntKind.wrap .i64 ((IntKind.wrap .i64 (x1+(1:Int)))+(1:Int)))+(1:Int))),y1828.2.2.1.1.2.2)),y1828.2.2.1.2),y1828.2.2.2)))) (0+(Int.toNat x5)) (y1829.1,(y1829.2.1,(((y1829.2.2.1.1.1,(y1829.2.2.1.1.2.1,(IntKind.wrap .i64 ((IntKind.wrap .i64 ((IntKind.wrap .i64 ((IntKind.wrap .i64 (x1+(1:Int)))+(1:Int)))+(1:Int)))+(1:Int))))),y1829.2.2.1.2),y1829.2.2.2)))) x5) fun y1830=>
  Option.bind (gq (List.set (List.set (List.set (List.set (List.set (List.set x0 (0+(Int.toNat x5)) (y1824,y1825.2)) (0+(Int.toNat x5)) (y1826.1,(((Int.tmod (IntKind.wrap .i64 (x1+(1:Int))) (3:Int))==(0:Int)),y1826.2.2))) (0+(Int.toNat x5)) (y1827.1,(y1827.2.1,((((IntKind.wrap .i64 ((IntKind.wrap .i64 (x1+(1:Int)))+(1:Int))),y1827.2.2.1.1.2),y1827.2.2.1.2),y1827.2.2.2)))) (0+(Int.toNat x5)) (y1828.1,(y1828.2.1,(((y1828.2.2.1.1.1,((IntKind.wrap .i64 ((IntKind.wrap .i64 ((IntKind.wrap .i64 (x1+(1:Int)))+(1:Int)))+(1:Int))),y1828.2.2.1.1.2.2)),y1828.2.2.1.2),y1828.2.2.2)))) (0+(Int.toNat x5)) (y1829.1,(y1829.2.1,(((y1829.2.2.1.1.1,(y1829.2.2.1.1.2.1,(IntKind.wrap .i64 ((IntKind.wrap .i64 ((IntKind.wrap .i64 ((IntKind.wrap .i64 (x1+(1:Int)))+(1:Int)))+(1:Int)))+(1:Int))))),y1829.2.2.1.2),y1829.2.2.2)))) (0+(Int.toNat x5)) (y1830.1,(y1830.2.1,((y1830.2.2.1.1,((IntKind.wrap .i64 ((IntKind.wrap .i64 ((IntKind.wrap .i64 ((IntKind.wrap .i64 ((IntKind.wrap .i64 (x1+(1:Int)))+(1:Int)))+(1:Int)))+(1:Int)))+(1:Int))),y1830.2.2.1.2.2)),y1830.2.2.2)))) x5) fun y1831=>
  Option.bind (gq (List.set (List.set (List.set (List.set (List.set (List.set (List.set x0 (0+(Int.toNat x5)) (y1824,y1825.2)) (0+(Int.toNat x5)) (y1826.1,(((Int.tmod (IntKind.wrap .i64 (x1+(1:Int))) (3:Int))==(0:Int)),y1826.2.2))) (0+(Int.toNat x5)) (y1827.1,(y1827.2.1,((((IntKind.wrap .i64 ((IntKind.wrap .i64 (x1+(1:Int)))+(1:Int))),y1827.2.2.1.1.2),y1827.2.2.1.2),y1827.2.2.2)))) (0+(Int.toNat x5)) (y1828.1,(y1828.2.1,(((y1828.2.2.1.1.1,((IntKind.wrap .i64 ((IntKind.wrap .i64 ((IntKind.wrap .i64 (x1+(1:Int)))+(1:Int)))+(1:Int))),y1828.2.2.1.1.2.2)),y1828.2.2.1.2),y1828.2.2.2)))) (0+(Int.toNat x5)) (y1829.1,(y1829.2.1,(((y1829.2.2.1.1.1,(y1829.2.2.1.1.2.1,(IntKind.wrap .i64 ((IntKind.wrap .i64 ((IntKind.wrap .i64 ((IntKind.wrap .i64 (x1+(1:Int)))+(1:Int)))+(1:Int)))+(1:Int))))),y1829.2.2.1.2),y1829.2.2.2)))) (0+(Int.toNat x5)) (y1830.1,(y1830.2.1,((y1830.2.2.1.1,((IntKind.wrap .i64 ((IntKind.wrap .i64 ((IntKind.wrap .i64 ((IntKind.wrap .i64 ((IntKind.wrap .i64 (x1+(1:Int)))+(1:Int)))+(1:Int)))+(1:Int)))+(1:Int))),y1830.2.2.1.2.2)),y1830.2.2.2)))) (0+(Int.toNat x5)) (y1831.1,(y1831.2.1,((y1831.2.2.1.1,(y1831.2.2.1.2.1,((IntKind.wrap .i64 ((IntKind.wrap .i64 ((IntKind.wrap .i64 ((IntKind.wrap .i64 ((IntKind.wrap .i64 ((IntKind.wrap .i64 (x1+(1:Int)))+(1:Int)))+(1:Int)))+(1:Int)))+(1:Int)))+(1:Int))),y1831.2.2.1.2.2.2))),y1831.2.2.2)))) x5) fun y1832=>
  Option.bind (gq (List.set (List.set (List.set (List.set (List.set (List.set (List.set (List.set x0 (0+(Int.toNat x5)) (y1824,y1825.2)) (0+(Int.toNat x5)) (y1826.1,(((Int.tmod (IntKind.wrap .i64 (x1+(1:Int))) (3:Int))==(0:Int)),y1826.2.2))) (0+(Int.toNat x5)) (y1827.1,(y1827.2.1,((((IntKind.wrap .i64 ((IntKind.wrap .i64 (x1+(1:Int)))+(1:Int))),y1827.2.2.1.1.2),y1827.2.2.1.2),y1827.2.2.2)))) (0+(Int.toNat x5)) (y1828.1,(y1828.2.1,(((y1828.2.2.1.1.1,((IntKind.wrap .i64 ((IntKind.wrap .i64 ((IntKind.wrap .i64 (x1+(1:Int)))+(1:Int)))+(1:Int))),y1828.2.2.1.1.2.2)),y1828.2.2.1.2),y1828.2.2.2)))) (0+(Int.toNat x5)) (y1829.1,(y1829.2.1,(((y1829.2.2.1.1.1,(y1829.2.2.1.1.2.1,(IntKind.wrap .i64 ((IntKind.wrap .i64 ((IntKind.wrap .i64 ((IntKind.wrap .i64 (x1+(1:Int)))+(1:Int)))+(1:Int)))+(1:Int))))),y1829.2.2.1.2),y1829.2.2.2)))) (0+(Int.toNat x5)) (y1830.1,(y1830.2.1,((y1830.2.2.1.1,((IntKind.wrap .i64 ((IntKind.wrap .i64 ((IntKind.wrap .i64 ((IntKind.wrap .i64 ((IntKind.wrap .i64 (x1+(1:Int)))+(1:Int)))+(1:Int)))+(1:Int)))+(1:Int))),y1830.2.2.1.2.2)),y1830.2.2.2)))) (0+(Int.toNat x5)) (y1831.1,(y1831.2.1,((y1831.2.2.1.1,(y1831.2.2.1.2.1,((IntKind.wrap .i64 ((IntKind.wrap .i64 ((IntKind.wrap .i64 ((IntKind.wrap .i64 ((IntKind.wrap .i64 ((IntKind.wrap .i64 (x1+(1:Int)))+(1:Int)))+(1:Int)))+(1:Int)))+(1:Int)))+(1:Int))),y1831.2.2.1.2.2.2))),y1831.2.2.2)))) (0+(Int.toNat x5)) (y1832.1,(y1832.2.1,((y1832.2.2.1.1,(y1832.2.2.1.2.1,(y1832.2.2.1.2.2.1,(IntKind.wrap .i64 ((IntKind.wrap .i64 ((IntKind.wrap .i64 ((IntKind.wrap .i64 ((IntKind.wrap .i64 ((IntKind.wrap .i64 ((IntKind.wrap .i64 (x1+(1:Int)))+(1:Int)))+(1:Int)))+(1:Int)))+(1:Int)))+(1:Int)))+(1:Int)))))),y1832.2.2.2)))) x5) fun y1833=>
  Option.bind (gq (List.set (List.set (List.set (List.set (List.set (List.set (List.set (List.set (List.set x0 (0+(Int.toNat x5)) (y1824,y1825.2)) (0+(Int.toNat x5)) (y1826.1,(((Int.tmod (IntKind.wrap .i64 (x1+(1:Int))) (3:Int))==(0:Int)),y1826.2.2))) (0+(Int.toNat x5)) (y1827.1,(y1827.2.1,((((IntKind.wrap .i64 ((IntKind.wrap .i64 (x1+(1:Int)))+(1:Int))),y1827.2.2.1.1.2),y1827.2.2.1.2),y1827.2.2.2)))) (0+(Int.toNat x5)) (y1828.1,(y1828.2.1,(((y1828.2.2.1.1.1,((IntKind.wrap .i64 ((IntKind.wrap .i64 ((IntKind.wrap .i64 (x1+(1:Int)))+(1:Int)))+(1:Int))),y1828.2.2.1.1.2.2)),y1828.2.2.1.2),y1828.2.2.2)))) (0+(Int.toNat x5)) (y1829.1,(y1829.2.1,(((y1829.2.2.1.1.1,(y1829.2.2.1.1.2.1,(IntKind.wrap .i64 ((IntKind.wrap .i64 ((IntKind.wrap .i64 ((IntKind.wrap .i64 (x1+(1:Int)))+(1:Int)))+(1:Int)))+(1:Int))))),y1829.2.2.1.2),y1829.2.2.2)))) (0+(Int.toNat x5)) (y1830.1,(y1830.2.1,((y1830.2.2.1.1,((IntKind.wrap .i64 ((IntKind.wrap .i64 ((IntKind.wrap .i64 ((IntKind.wrap .i64 ((IntKind.wrap .i64 (x1+(1:Int)))+(1:Int)))+(1:Int)))+(1:Int)))+(1:Int))),y1830.2.2.1.2.2)),y1830.2.2.2)))) (0+(Int.toNat x5)) (y1831.1,(y1831.2.1,((y1831.2.2.1.1,(y1831.2.2.1.2.1,((IntKind.wrap .i64 ((IntKind.wrap .i64 ((IntKind.wrap .i64 ((IntKind.wrap .i64 ((IntKind.wrap .i64 ((IntKind.wrap .i64 (x1+(1:Int)))+(1:Int)))+(1:Int)))+(1:Int)))+(1:Int)))+(1:Int))),y1831.2.2.1.2.2.2))),y1831.2.2.2)))) (0+(Int.toNat x5)) (y1832.1,(y1832.2.1,((y1832.2.2.1.1,(y1832.2.2.1.2.1,(y1832.2.2.1.2.2.1,(IntKind.wrap .i64 ((IntKind.wrap .i64 ((IntKind.wrap .i64 ((IntKind.wrap .i64 ((IntKind.wrap .i64 ((IntKind.wrap .i64 ((IntKind.wrap .i64 (x1+(1:Int)))+(1:Int)))+(1:Int)))+(1:Int)))+(1:Int)))+(1:Int)))+(1:Int)))))),y1832.2.2.2)))) (0+(Int.toNat x5)) (y1833.1,(y1833.2.1,(y1833.2.2.1,((IntKind.wrap .i64 ((IntKind.wrap .i64 ((IntKind.wrap .i64 ((IntKind.wrap .i64 ((IntKind.wrap .i64 ((IntKind.wrap .i64 ((IntKind.wrap .i64 ((IntKind.wrap .i64 (x1+(1:Int)))+(1:Int)))+(1:Int)))+(1:Int)))+(1:Int)))+(1:Int)))+(1:Int)))+(1:Int))),y1833.2.2.2.2))))) x5) fun y1834=>
  Option.bind (gq (List.set (List.set (List.set (List.set (List.set (List.set (List.set (List.set (List.set (List.set x0 (0+(Int.toNat x5)) (y1824,y1825.2)) (0+(Int.toNat x5)) (y1826.1,(((Int.tmod (IntKind.wrap .i64 (x1+(1:Int))) (3:Int))==(0:Int)),y1826.2.2))) (0+(Int.toNat x5)) (y1827.1,(y1827.2.1,((((IntKind.wrap .i64 ((IntKind.wrap .i64 (x1+(1:Int)))+(1:Int))),y1827.2.2.1.1.2),y1827.2.2.1.2),y1827.2.2.2)))) (0+(Int.toNat x5)) (y1828.1,(y1828.2.1,(((y1828.2.2.1.1.1,((IntKind.wrap .i64 ((IntKind.wrap .i64 ((IntKind.wrap .i64 (x1+(1:Int)))+(1:Int)))+(1:Int))),y1828.2.2.1.1.2.2)),y1828.2.2.1.2),y1828.2.2.2)))) (0+(Int.toNat x5)) (y1829.1,(y1829.2.1,(((y1829.2.2.1.1.1,(y1829.2.2.1.1.2.1,(IntKind.wrap .i64 ((IntKind.wrap .i64 ((IntKind.wrap .i64 ((IntKind.wrap .i64 (x1+(1:Int)))+(1:Int)))+(1:Int)))+(1:Int))))),y1829.2.2.1.2),y1829.2.2.2)))) (0+(Int.toNat x5)) (y1830.1,(y1830.2.1,((y1830.2.2.1.1,((IntKind.wrap .i64 ((IntKind.wrap .i64 ((IntKind.wrap .i64 ((IntKind.wrap .i64 ((IntKind.wrap .i64 (x1+(1:Int)))+(1:Int)))+(1:Int)))+(1:Int)))+(1:Int))),y1830.2.2.1.2.2)),y1830.2.2.2)))) (0+(Int.toNat x5)) (y1831.1,(y1831.2.1,((y1831.2.2.1.1,(y1831.2.2.1.2.1,((IntKind.wrap .i64 ((IntKind.wrap .i64 ((IntKind.wrap .i64 ((IntKind.wrap .i64 ((IntKind.wrap .i64 ((IntKind.wrap .i64 (x1+(1:Int)))+(1:Int)))+(1:Int)))+(1:Int)))+(1:Int)))+(1:Int))),y1831.2.2.1.2.2.2))),y1831.2.2.2)))) (0+(Int.toNat x5)) (y1832.1,(y1832.2.1,((y1832.2.2.1.1,(y1832.2.2.1.2.1,(y1832.2.2.1.2.2.1,(IntKind.wrap .i64 ((IntKind.wrap .i64 ((IntKind.wrap .i64 ((IntKind.wrap .i64 ((IntKind.wrap .i64 ((IntKind.wrap .i64 ((IntKind.wrap .i64 (x1+(1:Int)))+(1:Int)))+(1:Int)))+(1:Int)))+(1:Int)))+(1:Int)))+(1:Int)))))),y1832.2.2.2)))) (0+(Int.toNat x5)) (y1833.1,(y1833.2.1,(y1833.2.2.1,((IntKind.wrap .i64 ((IntKind.wrap .i64 ((IntKind.wrap .i64 ((IntKind.wrap .i64 ((IntKind.wrap .i64 ((IntKind.wrap .i64 ((IntKind.wrap .i64 ((IntKind.wrap .i64 (x1+(1:Int)))+(1:Int)))+(1:Int)))+(1:Int)))+(1:Int)))+(1:Int)))+(1:Int)))+(1:Int))),y1833.2.2.2.2))))) (0+(Int.toNat x5)) (y1834.1,(y1834.2.1,(y1834.2.2.1,(y1834.2.2.2.1,((IntKind.wrap .i64 ((IntKind.wrap .i64 ((IntKind.wrap .i64 ((IntKind.wrap .i64 ((IntKind.wrap .i64 ((IntKind.wrap .i64 ((IntKind.wrap .i64 ((IntKind.wrap .i64 ((IntKind.wrap .i64 (x1+(1:Int)))+(1:Int)))+(1:Int)))+(1:Int)))+(1:Int)))+(1:Int)))+(1:Int)))+(1:Int)))+(1:Int))),y1834.2.2.2.2.2)))))) x5) fun y1835=>
  Option.bind (gq (List.set (List.set (List.set (List.set (List.set (List.set (List.set (List.set (List.set (List.set (List.set x0 (0+(Int.toNat x5)) (y1824,y1825.2)) (0+(Int.toNat x5)) (y1826.1,(((Int.tmod (IntKind.wrap .i64 (x1+(1:Int))) (3:Int))==(0:Int)),y1826.2.2))) (0+(Int.toNat x5)) (y1827.1,(y1827.2.1,((((IntKind.wrap .i64 ((IntKind.wrap .i64 (x1+(1:Int)))+(1:Int))),y1827.2.2.1.1.2),y1827.2.2.1.2),y1827.2.2.2)))) (0+(Int.toNat x5)) (y1828.1,(y1828.2.1,(((y1828.2.2.1.1.1,((IntKind.wrap .i64 ((IntKind.wrap .i64 ((IntKind.wrap .i64 (x1+(1:Int)))+(1:Int)))+(1:Int))),y1828.2.2.1.1.2.2)),y1828.2.2.1.2),y1828.2.2.2)))) (0+(Int.toNat x5)) (y1829.1,(y1829.2.1,(((y1829.2.2.1.1.1,(y1829.2.2.1.1.2.1,(IntKind.wrap .i64 ((IntKind.wrap .i64 ((IntKind.wrap .i64 ((IntKind.wrap .i64 (x1+(1:Int)))+(1:Int)))+(1:Int)))+(1:Int))))),y1829.2.2.1.2),y1829.2.2.2)))) (0+(Int.toNat x5)) (y1830.1,(y1830.2.1,((y1830.2.2.1.1,((IntKind.wrap .i64 ((IntKind.wrap .i64 ((IntKind.wrap .i64 ((IntKind.wrap .i64 ((IntKind.wrap .i64 (x1+(1:Int)))+(1:Int)))+(1:Int)))+(1:Int)))+(1:Int))),y1830.2.2.1.2.2)),y1830.2.2.2)))) (0+(Int.toNat x5)) (y1831.1,(y1831.2.1,((y1831.2.2.1.1,(y1831.2.2.1.2.1,((IntKind.wrap .i64 ((IntKind.wrap .i64 ((IntKind.wrap .i64 ((IntKind.wrap .i64 ((IntKind.wrap .i64 ((IntKind.wrap .i64 (x1+(1:Int)))+(1:Int)))+(1:Int)))+(1:Int)))+(1:Int)))+(1:Int))),y1831.2.2.1.2.2.2))),y1831.2.2.2)))) (0+(Int.toNat x5)) (y1832.1,(y1832.2.1,((y1832.2.2.1.1,(y1832.2.2.1.2.1,(y1832.2.2.1.2.2.1,(IntKind.wrap .i64 ((IntKind.wrap .i64 ((IntKind.wrap .i64 ((IntKind.wrap .i64 ((IntKind.wrap .i64 ((IntKind.wrap .i64 ((IntKind.wrap .i64 (x1+(1:Int)))+(1:Int)))+(1:Int)))+(1:Int)))+(1:Int)))+(1:Int)))+(1:Int)))))),y1832.2.2.2)))) (0+(Int.toNat x5)) (y1833.1,(y1833.2.1,(y1833.2.2.1,((IntKind.wrap .i64 ((IntKind.wrap .i64 ((IntKind.wrap .i64 ((IntKind.wrap .i64 ((IntKind.wrap .i64 ((IntKind.wrap .i64 ((IntKind.wrap .i64 ((IntKind.wrap .i64 (x1+(1:Int)))+(1:Int)))+(1:Int)))+(1:Int)))+(1:Int)))+(1:Int)))+(1:Int)))+(1:Int))),y1833.2.2.2.2))))) (0+(Int.toNat x5)) (y1834.1,(y1834.2.1,(y1834.2.2.1,(y1834.2.2.2.1,((IntKind.wrap .i64 ((IntKind.wrap .i64 ((IntKind.wrap .i64 ((IntKind.wrap .i64 ((IntKind.wrap .i64 ((IntKind.wrap .i64 ((IntKind.wrap .i64 ((IntKind.wrap .i64 ((IntKind.wrap .i64 (x1+(1:Int)))+(1:Int)))+(1:Int)))+(1:Int)))+(1:Int)))+(1:Int)))+(1:Int)))+(1:Int)))+(1:Int))),y1834.2.2.2.2.2)))))) (0+(Int.toNat x5)) (y1835.1,(y1835.2.1,(y1835.2.2.1,(y1835.2.2.2.1,(y1835.2.2.2.2.1,((IntKind.wrap .i64 ((IntKind.wrap .i64 ((IntKind.wrap .i64 ((IntKind.wrap .i64 ((IntKind.wrap .i64 ((IntKind.wrap .i64 ((IntKind.wrap .i64 ((IntKind.wrap .i64 ((IntKind.wrap .i64 ((IntKind.wrap .i64 (x1+(1:Int)))+(1:Int)))+(1:Int)))+(1:Int)))+(1:Int)))+(1:Int)))+(1:Int)))+(1:Int)))+(1:Int)))+(1:Int))),y1835.2.2.2.2.2.2))))))) x5) fun y1836=>
  nx (pg (List.set (List.set (List.set (List.set (List.set (List.set (List.set (List.set (List.set (List.set (List.set (List.set x0 (0+(Int.toNat x5)) (y1824,y1825.2)) (0+(Int.toNat x5)) (y1826.1,(((Int.tmod (IntKind.wrap .i64 (x1+(1:Int))) (3:Int))==(0:Int)),y1826.2.2))) (0+(Int.toNat x5)) (y1827.1,(y1827.2.1,((((IntKind.wrap .i64 ((IntKind.wrap .i64 (x1+(1:Int)))+(1:Int))),y1827.2.2.1.1.2),y1827.2.2.1.2),y1827.2.2.2)))) (0+(Int.toNat x5)) (y1828.1,(y1828.2.1,(((y1828.2.2.1.1.1,((IntKind.wrap .i64 ((IntKind.wrap .i64 ((IntKind.wrap .i64 (x1+(1:Int)))+(1:Int)))+(1:Int))),y1828.2.2.1.1.2.2)),y1828.2.2.1.2),y1828.2.2.2)))) (0+(Int.toNat x5)) (y1829.1,(y1829.2.1,(((y1829.2.2.1.1.1,(y1829.2.2.1.1.2.1,(IntKind.wrap .i64 ((IntKind.wrap .i64 ((IntKind.wrap .i64 ((IntKind.wrap .i64 (x1+(1:Int)))+(1:Int)))+(1:Int)))+(1:Int))))),y1829.2.2.1.2),y1829.2.2.2)))) (0+(Int.toNat x5)) (y1830.1,(y1830.2.1,((y1830.2.2.1.1,((IntKind.wrap .i64 ((IntKind.wrap .i64 ((IntKind.wrap .i64 ((IntKind.wrap .i64 ((IntKind.wrap .i64 (x1+(1:Int)))+(1:Int)))+(1:Int)))+(1:Int)))+(1:Int))),y1830.2.2.1.2.2)),y1830.2.2.2)))) (0+(Int.toNat x5)) (y1831.1,(y1831.2.1,((y1831.2.2.1.1,(y1831.2.2.1.2.1,((IntKind.wrap .i64 ((IntKind.wrap .i64 ((IntKind.wrap .i64 ((IntKind.wrap .i64 ((IntKind.wrap .i64 ((IntKind.wrap .i64 (x1+(1:Int)))+(1:Int)))+(1:Int)))+(1:Int)))+(1:Int)))+(1:Int))),y1831.2.2.1.2.2.2))),y1831.2.2.2)))) (0+(Int.toNat x5)) (y1832.1,(y1832.2.1,((y1832.2.2.1.1,(y1832.2.2.1.2.1,(y1832.2.2.1.2.2.1,(IntKind.wrap .i64 ((IntKind.wrap .i64 ((IntKind.wrap .i64 ((IntKind.wrap .i64 ((IntKind.wrap .i64 ((IntKind.wrap .i64 ((IntKind.wrap .i64 (x1+(1:Int)))+(1:Int)))+(1:Int)))+(1:Int)))+(1:Int)))+(1:Int)))+(1:Int)))))),y1832.2.2.2)))) (0+(Int.toNat x5)) (y1833.1,(y1833.2.1,(y1833.2.2.1,((IntKind.wrap .i64 ((IntKind.wrap .i64 ((IntKind.wrap .i64 ((IntKind.wrap .i64 ((IntKind.wrap .i64 ((IntKind.wrap .i64 ((IntKind.wrap .i64 ((IntKind.wrap .i64 (x1+(1:Int)))+(1:Int)))+(1:Int)))+(1:Int)))+(1:Int)))+(1:Int)))+(1:Int)))+(1:Int))),y1833.2.2.2.2))))) (0+(Int.toNat x5)) (y1834.1,(y1834.2.1,(y1834.2.2.1,(y1834.2.2.2.1,((IntKind.wrap .i64 ((IntKind.wrap .i64 ((IntKind.wrap .i64 ((IntKind.wrap .i64 ((IntKind.wrap .i64 ((IntKind.wrap .i64 ((IntKind.wrap .i64 ((IntKind.wrap .i64 ((IntKind.wrap .i64 (x1+(1:Int)))+(1:Int)))+(1:Int)))+(1:Int)))+(1:Int)))+(1:Int)))+(1:Int)))+(1:Int)))+(1:Int))),y1834.2.2.2.2.2)))))) (0+(Int.toNat x5)) (y1835.1,(y1835.2.1,(y1835.2.2.1,(y1835.2.2.2.1,(y1835.2.2.2.2.1,((IntKind.wrap .i64 ((IntKind.wrap .i64 ((IntKind.wrap .i64 ((IntKind.wrap .i64 ((IntKind.wrap .i64 ((IntKind.wrap .i64 ((IntKind.wrap .i64 ((IntKind.wrap .i64 ((IntKind.wrap .i64 ((IntKind.wrap .i64 (x1+(1:Int)))+(1:Int)))+(1:Int)))+(1:Int)))+(1:Int)))+(1:Int)))+(1:Int)))+(1:Int)))+(1:Int)))+(1:Int))),y1835.2.2.2.2.2.2))))))) (0+(Int.toNat x5)) (y1836.1,(y1836.2.1,(y1836.2.2.1,(y1836.2.2.2.1,(y1836.2.2.2.2.1,(y1836.2.2.2.2.2.1,(IntKind.wrap .i64 ((IntKind.wrap .i64 ((IntKind.wrap .i64 ((IntKind.wrap .i64 ((IntKind.wrap .i64 ((IntKind.wrap .i64 ((IntKind.wrap .i64 ((IntKind.wrap .i64 ((IntKind.wrap .i64 ((IntKind.wrap .i64 ((IntKind.wrap .i64 (x1+(1:Int)))+(1:Int)))+(1:Int)))+(1:Int)))+(1:Int)))+(1:Int)))+(1:Int)))+(1:Int)))+(1:Int)))+(1:Int)))+(1:Int)))))))))) (IntKind.wrap .i64 ((IntKind.wrap .i64 ((IntKind.wrap .i64 ((IntKind.wrap .i64 ((IntKind.wrap .i64 ((IntKind.wrap .i64 ((IntKind.wrap .i64 ((IntKind.wrap .i64 ((IntKind.wrap .i64 ((IntKind.wrap .i64 ((IntKind.wrap .i64 ((IntKind.wrap .i64 (x1+(1:Int)))+(1:Int)))+(1:Int)))+(1:Int)))+(1:Int)))+(1:Int)))+(1:Int)))+(1:Int)))+(1:Int)))+(1:Int)))+(1:Int)))+(1:Int))) (IntKind.wrap .i64 (x5+(1:Int))) (List.set (List.set (List.set (List.set (List.set (List.set (List.set (List.set (List.set (List.set (List.set (List.set o (0+(Int.toNat x5)) (y1824,y1825.2)) (0+(Int.toNat x5)) (y1826.1,(((Int.tmod (IntKind.wrap .i64 (x1+(1:Int))) (3:Int))==(0:Int)),y1826.2.2))) (0+(Int.toNat x5)) (y1827.1,(y1827.2.1,((((IntKind.wrap .i64 ((IntKind.wrap .i64 (x1+(1:Int)))+(1:Int))),y1827.2.2.1.1.2),y1827.2.2.1.2),y1827.2.2.2)))) (0+(Int.toNat x5)) (y1828.1,(y1828.2.1,(((y1828.2.2.1.1.1,((IntKind.wrap .i64 ((IntKind.wrap .i64 ((IntKind.wrap .i64 (x1+(1:Int)))+(1:Int)))+(1:Int))),y1828.2.2.1.1.2.2)),y1828.2.2.1.2),y1828.2.2.2)))) (0+(Int.toNat x5)) (y1829.1,(y1829.2.1,(((y1829.2.2.1.1.1,(y1829.2.2.1.1.2.1,(IntKind.wrap .i64 ((IntKind.wrap .i64 ((IntKind.wrap .i64 ((IntKind.wrap .i64 (x1+(1:Int)))+(1:Int)))+(1:Int)))+(1:Int))))),y1829.2.2.1.2),y1829.2.2.2)))) (0+(Int.toNat x5)) (y1830.1,(y1830.2.1,((y1830.2.2.1.1,((IntKind.wrap .i64 ((IntKind.wrap .i64 ((IntKind.wrap .i64 ((IntKind.wrap .i64 ((IntKind.wrap .i64 (x1+(1:Int)))+(1:Int)))+(1:Int)))+(1:Int)))+(1:Int))),y1830.2.2.1.2.2)),y1830.2.2.2)))) (0+(Int.toNat x5)) (y1831.1,(y1831.2.1,((y1831.2.2.1.1,(y1831.2.2.1.2.1,((IntKind.wrap .i64 ((IntKind.wrap .i64 ((IntKind.wrap .i64 ((IntKind.wrap .i64 ((IntKind.wrap .i64 ((IntKind.wrap .i64 (x1+(1:Int)))+(1:Int)))+(1:Int)))+(1:Int)))+(1:Int)))+(1:Int))),y1831.2.2.1.2.2.2))),y1831.2.2.2)))) (0+(Int.toNat x5)) (y1832.1,(y1832.2.1,((y1832.2.2.1.1,(y1832.2.2.1.2.1,(y1832.2.2.1.2.2.1,(IntKind.wrap .i64 ((IntKind.wrap .i64 ((IntKind.wrap .i64 ((IntKind.wrap .i64 ((IntKind.wrap .i64 ((IntKind.wrap .i64 ((IntKind.wrap .i64 (x1+(1:Int)))+(1:Int)))+(1:Int)))+(1:Int)))+(1:Int)))+(1:Int)))+(1:Int)))))),y1832.2.2.2)))) (0+(Int.toNat x5)) (y1833.1,(y1833.2.1,(y1833.2.2.1,((IntKind.wrap .i64 ((IntKind.wrap .i64 ((IntKind.wrap .i64 ((IntKind.wrap .i64 ((IntKind.wrap .i64 ((IntKind.wrap .i64 ((IntKind.wrap .i64 ((IntKind.wrap .i64 (x1+(1:Int)))+(1:Int)))+(1:Int)))+(1:Int)))+(1:Int)))+(1:Int)))+(1:Int)))+(1:Int))),y1833.2.2.2.2))))) (0+(Int.toNat x5)) (y1834.1,(y1834.2.1,(y1834.2.2.1,(y1834.2.2.2.1,((IntKind.wrap .i64 ((IntKind.wrap .i64 ((IntKind.wrap .i64 ((IntKind.wrap .i64 ((IntKind.wrap .i64 ((IntKind.wrap .i64 ((IntKind.wrap .i64 ((IntKind.wrap .i64 ((IntKind.wrap .i64 (x1+(1:Int)))+(1:Int)))+(1:Int)))+(1:Int)))+(1:Int)))+(1:Int)))+(1:Int)))+(1:Int)))+(1:Int))),y1834.2.2.2.2.2)))))) (0+(Int.toNat x5)) (y1835.1,(y1835.2.1,(y1835.2.2.1,(y1835.2.2.2.1,(y1835.2.2.2.2.1,((IntKind.wrap .i64 ((IntKind.wrap .i64 ((IntKind.wrap .i64 ((IntKind.wrap .i64 ((IntKind.wrap .i64 ((IntKind.wrap .i64 ((IntKind.wrap .i64 ((IntKind.wrap .i64 ((IntKind.wrap .i64 ((IntKind.wrap .i64 (x1+(1:Int)))+(1:Int)))+(1:Int)))+(1:Int)))+(1:Int)))+(1:Int)))+(1:Int)))+(1:Int)))+(1:Int)))+(1:Int))),y1835.2.2.2.2.2.2))))))) (0+(Int.toNat x5)) (y1836.1,(y1836.2.1,(y1836.2.2.1,(y1836.2.2.2.1,(y1836.2.2.2.2.1,(y1836.2.2.2.2.2.1,(IntKind.wrap .i64 ((IntKind.wrap .i64 ((IntKind.wrap .i64 ((IntKind.wrap .i64 ((IntKind.wrap .i64 ((IntKind.wrap .i64 ((IntKind.wrap .i64 ((IntKind.wrap .i64 ((IntKind.wrap .i64 ((IntKind.wrap .i64 ((IntKind.wrap .i64 (x1+(1:Int)))+(1:Int)))+(1:Int)))+(1:Int)))+(1:Int)))+(1:Int)))+(1:Int)))+(1:Int)))+(1:Int)))+(1:Int)))+(1:Int))))))))))))
 (hx.1 (Bp x1 o))
def yg{R:Type}(nx:fg.T->Option R)(hx:mA R gl)(z:fg.T):Option R:=jS nx hx z.1.1.1 z.1.2.1.1 z.1.2.2.1.1 z.2.2.1
theorem BN:cK @yg:=fun R nx hx z=>by
 show jS nx hx z.1.1.1 z.1.2.1.1 z.1.2.2.1.1 z.2.2.1=(jS (fun y=>some (.inl y)) (oI gl fun x=>some (.inr x)) z.1.1.1 z.1.2.1.1 z.1.2.2.1.1 z.2.2.1).bind (oH nx hx)
 unfold jS
 exact ae (ac fun _=>ac fun _=>ac fun _=>ac fun _=>ac fun _=>ac fun _=>ac fun _=>ac fun _=>ac fun _=>ac fun _=>ac fun _=>ac fun _=>ac fun _=>rfl) rfl
def jY:fg.T->Option (yH gl):=BU @yg
theorem CX x0 x1 x5 o:jY (pg x0 x1 x5 o)=jS jY (oI gl some) x0 x1 x5 o:=dR BN _
def re:bN:=⟨[0,1,5],[],[1],[]⟩
def vR:fq Rv:=⟨fun k=>match k with|3=>re|_=>⟨[],[],[],[]⟩,fun k=>match k with|3=>some (ce fg gl jY)|_=>none⟩
theorem Mk(n:Nat)(z:fg.T)(k:Ex->iV->Option Rv):bJ ⟨119,119⟩ re (mU (gN C0 vK) ⟨119,119⟩ vR 1 (aG Tryz.f19 2)) (n+1) (fg.enc z) k=
 yg (fun y=>bJ ⟨119,119⟩ re (mU (gN C0 vK) ⟨119,119⟩ vR 1 (aG Tryz.f19 2)) n (fg.enc y) k) (hK k gl) z:=by kernel_rfl
theorem OE:ak (gN C0 vK) ⟨119,119⟩ vR 1 (ca (aX Tryz.f19)):=by
 have hl:ca (aX Tryz.f19)=[aG Tryz.f19 2]:=by kernel_rfl
 rw[hl]
 exact ak.cons (n:=3) (lh:=re) (S:=ce fg gl jY) (by kernel_rfl) rfl rfl (cl BN Mk)
  (ak.nil)
def rV{R:Type}(kx:Int×(List It)->Option R)(a0:List It)(a1:Int):Option R:=
 Option.bind (jY (pg a0 a1 (0:Int) a0)) (qi gl
 (fun e1837=>
  kx ((e1837.1.1.1:Int),(e1837.2.2.1:List It)),()))
def rk(a0:List It)(a1:Int):Option (Int×(List It)):=rV some a0 a1
theorem NB{R} kx a0 a1: @rV R kx a0 a1=(rk a0 a1).bind kx:=by
 unfold rk rV
 exact cq ⟨fun _=>rfl,trivial⟩
abbrev Hp:af:=.fx [.io yI, .val false (.int .i64)] (Int×(List It)) (fun z=>rk z.1 z.2.1) (fun b=>(.one ⟨false,[(.v (.int .i64 b.1))]⟩,[(.own yI b.2)]))
theorem PH:ag C0 19 Hp:=
 ag.fx (e:=false) (t:=vK) (.cons rC (.nil)) mixed Tryz.func19 (by kernel_rfl) (by kernel_rfl) vR 1 OE (fun z=>(by kernel_rfl:_=rV (fun b=>some (Hp.enc b)) z.1 z.2.1).trans (NB _ z.1 z.2.1))
def sp:List (FuncId×af):=[(69,sU)]
abbrev dE:LS:=⟨[(false,[(.view (.arg 0) true 0 .str)]),(false,[(.int .i64)]),(false,[(.int .i64)])],[],[(.own .str)]⟩
abbrev yY:LS:=⟨[(false,[(.int .i64)])],[],[(.own .str)]⟩
abbrev yU(v0:Int)(v1:List ByteArray):=((((v0,()),()),(),(v1,())):yY.T)
abbrev eN:List (Ex×LS):=[(.exit 0,yY)]
abbrev mJ(x0:List ByteArray)(x1:Int)(x5:Int)(o:List ByteArray):=((((x0,()),(x1,()),(x5,()),()),(),(o,())):dE.T)
def iq{R:Type}(nx:dE.T->Option R)(hx:mA R eN)(x0:List ByteArray)(x1:Int)(x5:Int)(o:List ByteArray):Option R:=
 cond (decide (x5<((List.length x0:Nat):Int)))
 (Option.bind (iu x1) fun y1862=>
  Option.bind (gq x0 x5) fun _=>
  nx (mJ (List.set x0 (0+(Int.toNat x5)) y1862) (IntKind.wrap .i64 (x1+(1:Int))) (IntKind.wrap .i64 (x5+(1:Int))) (List.set o (0+(Int.toNat x5)) y1862)))
 (hx.1 (yU x1 o))
def vd{R:Type}(nx:dE.T->Option R)(hx:mA R eN)(z:dE.T):Option R:=iq nx hx z.1.1.1 z.1.2.1.1 z.1.2.2.1.1 z.2.2.1
theorem zt:cK @vd:=fun R nx hx z=>by
 show iq nx hx z.1.1.1 z.1.2.1.1 z.1.2.2.1.1 z.2.2.1=(iq (fun y=>some (.inl y)) (oI eN fun x=>some (.inr x)) z.1.1.1 z.1.2.1.1 z.1.2.2.1.1 z.2.2.1).bind (oH nx hx)
 unfold iq
 exact ae (ac fun _=>ac fun _=>rfl) rfl
def it:dE.T->Option (yH eN):=BU @vd
theorem Ai x0 x1 x5 o:it (mJ x0 x1 x5 o)=iq it (oI eN some) x0 x1 x5 o:=dR zt _
def pM:bN:=⟨[0,1,5],[],[1],[]⟩
def sB:fq Rv:=⟨fun k=>match k with|3=>pM|_=>⟨[],[],[],[]⟩,fun k=>match k with|3=>some (ce dE eN it)|_=>none⟩
theorem JJ(n:Nat)(z:dE.T)(k:Ex->iV->Option Rv):bJ ⟨20,20⟩ pM (mU (gN C0 sp) ⟨20,20⟩ sB 1 (aG Tryz.f52 2)) (n+1) (dE.enc z) k=
 vd (fun y=>bJ ⟨20,20⟩ pM (mU (gN C0 sp) ⟨20,20⟩ sB 1 (aG Tryz.f52 2)) n (dE.enc y) k) (hK k eN) z:=by kernel_rfl
theorem LG:ak (gN C0 sp) ⟨20,20⟩ sB 1 (ca (aX Tryz.f52)):=by
 have hl:ca (aX Tryz.f52)=[aG Tryz.f52 2]:=by kernel_rfl
 rw[hl]
 exact ak.cons (n:=3) (lh:=pM) (S:=ce dE eN it) (by kernel_rfl) rfl rfl (cl zt JJ)
  (ak.nil)
def pB{R:Type}(kx:Int×(List ByteArray)->Option R)(a0:List ByteArray)(a1:Int):Option R:=
 Option.bind (it (mJ a0 a1 (0:Int) a0)) (qi eN
 (fun e1864=>
  kx ((e1864.1.1.1:Int),(e1864.2.2.1:List ByteArray)),()))
def oX(a0:List ByteArray)(a1:Int):Option (Int×(List ByteArray)):=pB some a0 a1
theorem KG{R} kx a0 a1: @pB R kx a0 a1=(oX a0 a1).bind kx:=by
 unfold oX pB
 exact cq ⟨fun _=>rfl,trivial⟩
abbrev D5:af:=.fx [.io .str, .val false (.int .i64)] (Int×(List ByteArray)) (fun z=>oX z.1 z.2.1) (fun b=>(.one ⟨false,[(.v (.int .i64 b.1))]⟩,[(.own .str b.2)]))
theorem CQ:ag C0 52 D5:=
 ag.fx (e:=false) (t:=sp) (.cons rC (.nil)) mixed Tryz.func52 (by kernel_rfl) (by kernel_rfl) sB 1 LG (fun z=>(by kernel_rfl:_=pB (fun b=>some (D5.enc b)) z.1 z.2.1).trans (KG _ z.1 z.2.1))
def vJ:List (FuncId×af):=[(69,sU)]
abbrev ff:LS:=⟨[(false,[(.sl yI)]),(false,[(.int .i64)]),(false,[(.int .i64)])],[],[]⟩
abbrev Bz:LS:=⟨[(false,[(.int .i64)]),(false,[(.int .i64)])],[],[]⟩
abbrev cX(v0:Int)(v1:Int):=((((v0,()),(v1,()),()),(),()):Bz.T)
abbrev BA:LS:=⟨[(false,[(.int .i64)]),(false,[.undef])],[],[]⟩
abbrev Bo(v0:Int):=((((v0,()),((),()),()),(),()):BA.T)
abbrev gj:List (Ex×LS):=[(.ret,Bz),(.exit 0,BA)]
abbrev pf x0(x1:Int)(x5:Int):=((((x0,()),(x1,()),(x5,()),()),(),()):ff.T)
def jR{R:Type}(nx:ff.T->Option R)(hx:mA R gj)(x0:List It)(x1:Int)(x5:Int):Option R:=
 cond (decide (x5<((List.length x0:Nat):Int)))
 (Option.bind (gq x0 x5) fun y1876=>
  Option.bind (iu x1) fun y1877=>
  cond (!((ByteArray.toList y1876.1)==(ByteArray.toList y1877)))
  (hx.1 (cX x1 (-(1:Int))))
  (Option.bind (gq x0 x5) fun y1878=>
   cond (!(y1878.2.1==((Int.tmod (IntKind.wrap .i64 (x1+(1:Int))) (3:Int))==(0:Int))))
   (hx.1 (cX (IntKind.wrap .i64 (x1+(1:Int))) (-(1:Int))))
   (Option.bind (gq x0 x5) fun y1879=>
    cond (y1879.2.2.1.1.1 !=(IntKind.wrap .i64 ((IntKind.wrap .i64 (x1+(1:Int)))+(1:Int))))
    (hx.1 (cX (IntKind.wrap .i64 ((IntKind.wrap .i64 (x1+(1:Int)))+(1:Int))) (-(1:Int))))
    (Option.bind (gq x0 x5) fun y1880=>
     cond (y1880.2.2.1.1.2.1 !=(IntKind.wrap .i64 ((IntKind.wrap .i64 ((IntKind.wrap .i64 (x1+(1:Int)))+(1:Int)))+(1:Int))))
     (hx.1 (cX (IntKind.wrap .i64 ((IntKind.wrap .i64 ((IntKind.wrap .i64 (x1+(1:Int)))+(1:Int)))+(1:Int))) (-(1:Int))))
     (Option.bind (gq x0 x5) fun y1881=>
      cond (y1881.2.2.1.1.2.2 !=(IntKind.wrap .i64 ((IntKind.wrap .i64 ((IntKind.wrap .i64 ((IntKind.wrap .i64 (x1+(1:Int)))+(1:Int)))+(1:Int)))+(1:Int))))
      (hx.1 (cX (IntKind.wrap .i64 ((IntKind.wrap .i64 ((IntKind.wrap .i64 ((IntKind.wrap .i64 (x1+(1:Int)))+(1:Int)))+(1:Int)))+(1:Int))) (-(1:Int))))
      (Option.bind (gq x0 x5) fun y1882=>
       cond (y1882.2.2.1.2.1 !=(IntKind.wrap .i64 ((IntKind.wrap .i64 ((IntKind.wrap .i64 ((IntKind.wrap .i64 ((IntKind.wrap .i64 (x1+(1:Int)))+(1:Int)))+(1:Int)))+(1:Int)))+(1:Int))))
       (hx.1 (cX (IntKind.wrap .i64 ((IntKind.wrap .i64 ((IntKind.wrap .i64 ((IntKind.wrap .i64 ((IntKind.wrap .i64 (x1+(1:Int)))+(1:Int)))+(1:Int)))+(1:Int)))+(1:Int))) (-(1:Int))))
       (Option.bind (gq x0 x5) fun y1883=>
        cond (y1883.2.2.1.2.2.1 !=(IntKind.wrap .i64 ((IntKind.wrap .i64 ((IntKind.wrap .i64 ((IntKind.wrap .i64 ((IntKind.wrap .i64 ((IntKind.wrap .i64 (x1+(1:Int)))+(1:Int)))+(1:Int)))+(1:Int)))+(1:Int)))+(1:Int))))
        (hx.1 (cX (IntKind.wrap .i64 ((IntKind.wrap .i64 ((IntKind.wrap .i64 ((IntKind.wrap .i64 ((IntKind.wrap .i64 ((IntKind.wrap .i64 (x1+(1:Int)))+(1:Int)))+(1:Int)))+(1:Int)))+(1:Int)))+(1:Int))) (-(1:Int))))
        (Option.bind (gq x0 x5) fun y1884=>
         cond (y1884.2.2.1.2.2.2 !=(IntKind.wrap .i64 ((IntKind.wrap .i64 ((IntKind.wrap .i64 ((IntKind.wrap .i64 ((IntKind.wrap .i64 ((IntKind.wrap .i64 ((IntKind.wrap .i64 (x1+(1:Int)))+(1:Int)))+(1:Int)))+(1:Int)))+(1:Int)))+(1:Int)))+(1:Int))))
         (hx.1 (cX (IntKind.wrap .i64 ((IntKind.wrap .i64 ((IntKind.wrap .i64 ((IntKind.wrap .i64 ((IntKind.wrap .i64 ((IntKind.wrap .i64 ((IntKind.wrap .i64 (x1+(1:Int)))+(1:Int)))+(1:Int)))+(1:Int)))+(1:Int)))+(1:Int)))+(1:Int))) (-(1:Int))))
         (Option.bind (gq x0 x5) fun y1885=>
          cond (y1885.2.2.2.1 !=(IntKind.wrap .i64 ((IntKind.wrap .i64 ((IntKind.wrap .i64 ((IntKind.wrap .i64 ((IntKind.wrap .i64 ((IntKind.wrap .i64 ((IntKind.wrap .i64 ((IntKind.wrap .i64 (x1+(1:Int)))+(1:Int)))+(1:Int)))+(1:Int)))+(1:Int)))+(1:Int)))+(1:Int)))+(1:Int))))
          (hx.1 (cX (IntKind.wrap .i64 ((IntKind.wrap .i64 ((IntKind.wrap .i64 ((IntKind.wrap .i64 ((IntKind.wrap .i64 ((IntKind.wrap .i64 ((IntKind.wrap .i64 ((IntKind.wrap .i64 (x1+(1:Int)))+(1:Int)))+(1:Int)))+(1:Int)))+(1:Int)))+(1:Int)))+(1:Int)))+(1:Int))) (-(1:Int))))
          (Option.bind (gq x0 x5) fun y1886=>
           cond (y1886.2.2.2.2.1 !=(IntKind.wrap .i64 ((IntKind.wrap .i64 ((IntKind.wrap .i64 ((IntKind.wrap .i64 ((IntKind.wrap .i64 ((IntKind.wrap .i64 ((IntKind.wrap .i64 ((IntKind.wrap .i64 ((IntKind.wrap .i64 (x1+(1:Int)))+(1:Int)))+(1:Int)))+(1:Int)))+(1:Int)))+(1:Int)))+(1:Int)))+(1:Int)))+(1:Int))))
           (hx.1 (cX (IntKind.wrap .i64 ((IntKind.wrap .i64 ((IntKind.wrap .i64 ((IntKind.wrap .i64 ((IntKind.wrap .i64 ((IntKind.wrap .i64 ((IntKind.wrap .i64 ((IntKind.wrap .i64 ((IntKind.wrap .i64 (x1+(1:Int)))+(1:Int)))+(1:Int)))+(1:Int)))+(1:Int)))+(1:Int)))+(1:Int)))+(1:Int)))+(1:Int))) (-(1:Int))))
           (Option.bind (gq x0 x5) fun y1887=>
            cond (y1887.2.2.2.2.2.1 !=(IntKind.wrap .i64 ((IntKind.wrap .i64 ((IntKind.wrap .i64 ((IntKind.wrap .i64 ((IntKind.wrap .i64 ((IntKind.wrap .i64 ((IntKind.wrap .i64 ((IntKind.wrap .i64 ((IntKind.wrap .i64 ((IntKind.wrap .i64 (x1+(1:Int)))+(1:Int)))+(1:Int)))+(1:Int)))+(1:Int)))+(1:Int)))+(1:Int)))+(1:Int)))+(1:Int)))+(1:Int))))
            (hx.1 (cX (IntKind.wrap .i64 ((IntKind.wrap .i64 ((IntKind.wrap .i64 ((IntKind.wrap .i64 ((IntKind.wrap .i64 ((IntKind.wrap .i64 ((IntKind.wrap .i64 ((IntKind.wrap .i64 ((IntKind.wrap .i64 ((IntKind.wrap .i64 (x1+(1:Int)))+(1:Int)))+(1:Int)))+(1:Int)))+(1:Int)))+(1:Int)))+(1:Int)))+(1:Int)))+(1:Int)))+(1:Int))) (-(1:Int))))
            (Option.bind (gq x0 x5) fun y1888=>
             cond (y1888.2.2.2.2.2.2 !=(IntKind.wrap .i64 ((IntKind.wrap .i64 ((IntKind.wrap .i64 ((IntKind.wrap .i64 ((IntKind.wrap .i64 ((IntKind.wrap .i64 ((IntKind.wrap .i64 ((IntKind.wrap .i64 ((IntKind.wrap .i64 ((IntKind.wrap .i64 ((IntKind.wrap .i64 (x1+(1:Int)))+(1:Int)))+(1:Int)))+(1:Int)))+(1:Int)))+(1:Int)))+(1:Int)))+(1:Int)))+(1:Int)))+(1:Int)))+(1:Int))))
             (hx.1 (cX (IntKind.wrap .i64 ((IntKind.wrap .i64 ((IntKind.wrap .i64 ((IntKind.wrap .i64 ((IntKind.wrap .i64 ((IntKind.wrap .i64 ((IntKind.wrap .i64 ((IntKind.wrap .i64 ((IntKind.wrap .i64 ((IntKind.wrap .i64 ((IntKind.wrap .i64 (x1+(1:Int)))+(1:Int)))+(1:Int)))+(1:Int)))+(1:Int)))+(1:Int)))+(1:Int)))+(1:Int)))+(1:Int)))+(1:Int)))+(1:Int))) (-(1:Int))))
             (nx (pf x0 (IntKind.wrap .i64 ((IntKind.wrap .i64 ((IntKind.wrap .i64 ((IntKind.wrap .i64 ((IntKind.wrap .i64 ((IntKind.wrap .i64 ((IntKind.wrap .i64 ((IntKind.wrap .i64 ((IntKind.wrap .i64 ((IntKind.wrap .i64 ((IntKind.wrap .i64 ((IntKind.wrap .i64 (x1+(1:Int)))+(1:Int)))+(1:Int)))+(1:Int)))+(1:Int)))+(1:Int)))+(1:Int)))+(1:Int)))+(1:Int)))+(1:Int)))+(1:Int)))+(1:Int))) (IntKind.wrap .i64 (x5+(1:Int)))))))))))))))))
 (hx.2.1 (Bo x1))
def yf{R:Type}(nx:ff.T->Option R)(hx:mA R gj)(z:ff.T):Option R:=jR nx hx z.1.1.1 z.1.2.1.1 z.1.2.2.1.1
theorem BM:cK @yf:=fun R nx hx z=>by
 show jR nx hx z.1.1.1 z.1.2.1.1 z.1.2.2.1.1=(jR (fun y=>some (.inl y)) (oI gj fun x=>some (.inr x)) z.1.1.1 z.1.2.1.1 z.1.2.2.1.1).bind (oH nx hx)
 unfold jR
 exact ae (ac fun _=>ac fun _=>ae rfl (ac fun _=>ae rfl (ac fun _=>ae rfl (ac fun _=>ae rfl (ac fun _=>ae rfl (ac fun _=>ae rfl (ac fun _=>ae rfl (ac fun _=>ae rfl (ac fun _=>ae rfl (ac fun _=>ae rfl (ac fun _=>ae rfl (ac fun _=>ae rfl rfl)))))))))))) rfl
def jX:ff.T->Option (yH gj):=BU @yf
theorem CW x0 x1 x5:jX (pf x0 x1 x5)=jR jX (oI gj some) x0 x1 x5:=dR BM _
def rc:bN:=⟨[0,1,5],[],[1,4],[]⟩
def vQ:fq Rv:=⟨fun k=>match k with|3=>rc|_=>⟨[],[],[],[]⟩,fun k=>match k with|3=>some (ce ff gj jX)|_=>none⟩
theorem Mj(n:Nat)(z:ff.T)(k:Ex->iV->Option Rv):bJ ⟨143,143⟩ rc (mU (gN C0 vJ) ⟨143,143⟩ vQ 1 (aG Tryz.f20 2)) (n+1) (ff.enc z) k=
 yf (fun y=>bJ ⟨143,143⟩ rc (mU (gN C0 vJ) ⟨143,143⟩ vQ 1 (aG Tryz.f20 2)) n (ff.enc y) k) (hK k gj) z:=by kernel_rfl
theorem OD:ak (gN C0 vJ) ⟨143,143⟩ vQ 1 (ca (aX Tryz.f20)):=by
 have hl:ca (aX Tryz.f20)=[aG Tryz.f20 2]:=by kernel_rfl
 rw[hl]
 exact ak.cons (n:=3) (lh:=rc) (S:=ce ff gj jX) (by kernel_rfl) rfl rfl (cl BM Mj)
  (ak.nil)
def rU{R:Type}(kx:Int->Option R)(a0:(List It))(a1:Int):Option R:=
 Option.bind (jX (pf a0 a1 (0:Int))) (qi gj
 (fun e1889=>
  kx (e1889.1.2.1.1:Int),fun e1892=>
  kx (e1892.1.1.1:Int),()))
def rj(a0:(List It))(a1:Int):Option (Int):=rU some a0 a1
theorem NA{R} kx a0 a1: @rU R kx a0 a1=(rj a0 a1).bind kx:=by
 unfold rj rU
 exact cq ⟨fun _=>rfl,fun _=>rfl,trivial⟩
abbrev Hn:af:=.fx [.val false (.slice yI), .val false (.int .i64)] (Int) (fun z=>rj z.1 z.2.1) (fun b=>(.one ⟨false,[(.v (.int .i64 b))]⟩,[]))
theorem PG:ag C0 20 Hn:=
 ag.fx (e:=false) (t:=vJ) (.cons rC (.nil)) mixed Tryz.func20 (by kernel_rfl) (by kernel_rfl) vQ 1 OD (fun z=>(by kernel_rfl:_=rU (fun b=>some (Hn.enc b)) z.1 z.2.1).trans (NA _ z.1 z.2.1))
end
end Go.Proofs.YtjkljnflaifbhaaGreatDoor
