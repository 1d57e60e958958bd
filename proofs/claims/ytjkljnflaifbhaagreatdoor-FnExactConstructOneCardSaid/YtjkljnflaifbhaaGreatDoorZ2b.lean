/- No conditions. -/
import Derived.Test.YtjkljnflaifbhaaGreatDoorZ2a
namespace Go.Proofs.YtjkljnflaifbhaaGreatDoor
open Go.Vai
set_option maxRecDepth 100000
noncomputable section
def qH{R:Type}(kx:Bool->Option R)(a0:Int)(a1:Int):Option R:=
 Option.bind (ie a0) fun y818=>
 Option.bind (ie a1) fun y819=>
 cond (decide (y818.1<(IntKind.wrap IntKind.u64 ((IntKind.wrap IntKind.u64 (y819.1*(2:Int)))+(Int.fdiv y819.2 ((2:Int)^(Min.min (Int.toNat (63:Int)) 64)))))))
 (kx Bool.true)
 (cond (y818.1==(IntKind.wrap IntKind.u64 ((IntKind.wrap IntKind.u64 (y819.1*(2:Int)))+(Int.fdiv y819.2 ((2:Int)^(Min.min (Int.toNat (63:Int)) 64))))))
  (kx (decide (y818.2<(IntKind.wrap IntKind.u64 (y819.2*(2:Int))))))
  (kx Bool.false))
def dn(a0:Int)(a1:Int):Option (Bool):=qH some a0 a1
theorem NR{R} kx a0 a1: @qH R kx a0 a1=(dn a0 a1).bind kx:=by
 unfold dn qH
 exact ac fun _=>ac fun _=>ae rfl (ae rfl rfl)
abbrev HQ:af:=.fx [.val false (.int .i64), .val false (.int .i64)] (Bool) (fun z=>dn z.1 z.2.1) (fun b=>(.one ⟨false,[(.v (.bool b))]⟩,[]))
theorem Qe:ag C0 267 HQ:=
 ag.fx (e:=false) (.cons MU (.nil)) mixed Tryz.func267 (by kernel_rfl) (by kernel_rfl) aj 1 ai (fun z=>(by kernel_rfl:_=qH (fun b=>some (HQ.enc b)) z.1 z.2.1).trans (NR _ z.1 z.2.1))
def tA{R:Type}(kx:Int->Option R)(a0:Nm):Option R:=
 cond (a0.1==(0:Int))
 (cond (a0.2.1==(0:Int))
  (kx (0:Int))
  (cond (decide (a0.1>=(0:Int)))
   (cond (decide (a0.2.1>=(0:Int)))
    (kx (1:Int))
    (cond (decide (a0.1<=(0:Int)))
     (cond (decide (a0.2.1<=(0:Int)))
      (kx (-(1:Int)))
      (Option.bind (dn a0.1 a0.2.1) fun y820=>
       cond (y820==(decide (a0.2.1>(0:Int))))
       (kx (1:Int))
       (kx (-(1:Int)))))
     (Option.bind (dn a0.1 a0.2.1) fun y821=>
      cond (y821==(decide (a0.2.1>(0:Int))))
      (kx (1:Int))
      (kx (-(1:Int))))))
   (cond (decide (a0.1<=(0:Int)))
    (cond (decide (a0.2.1<=(0:Int)))
     (kx (-(1:Int)))
     (Option.bind (dn a0.1 a0.2.1) fun y822=>
      cond (y822==(decide (a0.2.1>(0:Int))))
      (kx (1:Int))
      (kx (-(1:Int)))))
    (Option.bind (dn a0.1 a0.2.1) fun y823=>
     cond (y823==(decide (a0.2.1>(0:Int))))
     (kx (1:Int))
     (kx (-(1:Int)))))))
 (cond (decide (a0.1>=(0:Int)))
  (cond (decide (a0.2.1>=(0:Int)))
   (kx (1:Int))
   (cond (decide (a0.1<=(0:Int)))
    (cond (decide (a0.2.1<=(0:Int)))
     (kx (-(1:Int)))
     (Option.bind (dn a0.1 a0.2.1) fun y824=>
      cond (y824==(decide (a0.2.1>(0:Int))))
      (kx (1:Int))
      (kx (-(1:Int)))))
    (Option.bind (dn a0.1 a0.2.1) fun y825=>
     cond (y825==(decide (a0.2.1>(0:Int))))
     (kx (1:Int))
     (kx (-(1:Int))))))
  (cond (decide (a0.1<=(0:Int)))
   (cond (decide (a0.2.1<=(0:Int)))
    (kx (-(1:Int)))
    (Option.bind (dn a0.1 a0.2.1) fun y826=>
     cond (y826==(decide (a0.2.1>(0:Int))))
     (kx (1:Int))
     (kx (-(1:Int)))))
   (Option.bind (dn a0.1 a0.2.1) fun y827=>
    cond (y827==(decide (a0.2.1>(0:Int))))
    (kx (1:Int))
    (kx (-(1:Int))))))
def ff(a0:Nm):Option (Int):=tA some a0
theorem NS{R} kx a0: @tA R kx a0=(ff a0).bind kx:=by
 unfold ff tA
 exact ae (ae rfl (ae (ae rfl (ae (ae rfl (ac fun _=>ae rfl rfl)) (ac fun _=>ae rfl rfl))) (ae (ae rfl (ac fun _=>ae rfl rfl)) (ac fun _=>ae rfl rfl)))) (ae (ae rfl (ae (ae rfl (ac fun _=>ae rfl rfl)) (ac fun _=>ae rfl rfl))) (ae (ae rfl (ac fun _=>ae rfl rfl)) (ac fun _=>ae rfl rfl)))
abbrev xj:af:=.fx [.val true yN] (Int) (fun z=>ff z.1) (fun b=>(.one ⟨false,[(.v (.int .i64 b))]⟩,[]))
theorem Ay:ag C0 217 xj:=
 ag.fx (e:=false) (.cons Qe (.nil)) mixed Tryz.func217 (by kernel_rfl) (by kernel_rfl) aj 1 ai (fun z=>(by kernel_rfl:_=tA (fun b=>some (xj.enc b)) z.1).trans (NS _ z.1))
def pP:List (FuncId×af):=[(216,ED),(215,xl),(217,xj)]
abbrev dj:LS:=⟨[(false,[(.ptr 1 0)]),(false,[(.int .i64)])],[(false,[(.int .i64),(.int .i64),(.int .i64),(.int .i64),(.int .i64),(.int .i64)])],[]⟩
abbrev wC:LS:=⟨[(false,[(.int .i64)])],[],[]⟩
abbrev wA(v0:Int):=((((v0,()),()),(),()):wC.T)
abbrev wD:LS:=⟨[(false,[.undef])],[],[]⟩
abbrev wB:=(((((),()),()),(),()):wD.T)
abbrev dI:List (Ex×LS):=[(.ret,wC),(.exit 0,wD)]
abbrev iM(x3:Int)(b0_0:Int)(b0_1:Int)(b0_2:Int)(b0_3:Int)(b0_4:Int)(b0_5:Int):=(((((),()),(x3,()),()),((b0_0,b0_1,b0_2,b0_3,b0_4,b0_5,()),()),()):dj.T)
def gl{R:Type}(nx:dj.T->Option R)(hx:lF R dI)(x3:Int)(b0_0:Int)(b0_1:Int)(b0_2:Int)(b0_3:Int)(b0_4:Int)(b0_5:Int):Option R:=
 cond (decide (x3<(16:Int)))
 (Option.bind (dc (IntKind.wrap .i64 (x3+(4:Int))) ((b0_0,(b0_1,b0_2)),(b0_3,(b0_4,b0_5)))) fun y810=>
  Option.bind (fT y810) fun y812=>
  cond y812
  (Option.bind (dc x3 ((b0_0,(b0_1,b0_2)),(b0_3,(b0_4,b0_5)))) fun y813=>
   Option.bind (ff y813) fun y828=>
   cond (decide (y828>(0:Int)))
   (hx.1 (wA x3))
   (nx (iM (IntKind.wrap .i64 (x3+(1:Int))) b0_0 b0_1 b0_2 b0_3 b0_4 b0_5)))
  (nx (iM (IntKind.wrap .i64 (x3+(1:Int))) b0_0 b0_1 b0_2 b0_3 b0_4 b0_5)))
 (hx.2.1 (wB))
def sv{R:Type}(nx:dj.T->Option R)(hx:lF R dI)(z:dj.T):Option R:=gl nx hx z.1.2.1.1 z.2.1.1.1 z.2.1.1.2.1 z.2.1.1.2.2.1 z.2.1.1.2.2.2.1 z.2.1.1.2.2.2.2.1 z.2.1.1.2.2.2.2.2.1
theorem wH:cY @sv:=fun R nx hx z=>by
 show gl nx hx z.1.2.1.1 z.2.1.1.1 z.2.1.1.2.1 z.2.1.1.2.2.1 z.2.1.1.2.2.2.1 z.2.1.1.2.2.2.2.1 z.2.1.1.2.2.2.2.2.1=(gl (fun y=>some (.inl y)) (oM dI fun x=>some (.inr x)) z.1.2.1.1 z.2.1.1.1 z.2.1.1.2.1 z.2.1.1.2.2.1 z.2.1.1.2.2.2.1 z.2.1.1.2.2.2.2.1 z.2.1.1.2.2.2.2.2.1).bind (oH nx hx)
 unfold gl
 exact ae (ac fun _=>ac fun _=>ae (ac fun _=>ac fun _=>ae rfl rfl) rfl) rfl
def gm:dj.T->Option (xb dI):=BJ @sv
theorem xS x3 b0_0 b0_1 b0_2 b0_3 b0_4 b0_5:gm (iM x3 b0_0 b0_1 b0_2 b0_3 b0_4 b0_5)=gl gm (oM dI some) x3 b0_0 b0_1 b0_2 b0_3 b0_4 b0_5:=eU wH _
def ni:bQ:=⟨[1,3],[1],[2],[]⟩
def pR:fQ Rv:=⟨fun k=>match k with|3=>ni|_=>⟨[],[],[],[]⟩,fun k=>match k with|3=>some (cu dj dI gm)|_=>none⟩
theorem Gv(n:Nat)(z:dj.T)(k:Ex->hZ->Option Rv):bL ⟨21,21⟩ ni (nG (ii C0 pP) ⟨21,21⟩ pR 1 (aL Tryz.f146 2)) (n+1) (dj.enc z) k=
 sv (fun y=>bL ⟨21,21⟩ ni (nG (ii C0 pP) ⟨21,21⟩ pR 1 (aL Tryz.f146 2)) n (dj.enc y) k) (hK k dI) z:=by kernel_rfl
theorem HD:aw (ii C0 pP) ⟨21,21⟩ pR 1 (cp (bh Tryz.f146)):=by
 have hl:cp (bh Tryz.f146)=[aL Tryz.f146 2]:=by kernel_rfl
 rw[hl]
 exact aw.cons (n:=3) (lh:=ni) (S:=cu dj dI gm) (by kernel_rfl) rfl rfl (cy wH Gv)
  (aw.nil)
def nf{R:Type}(kx:Int->Option R)(a0:Pt):Option R:=
 Option.bind (gm (iM (0:Int) a0.1.1 a0.1.2.1 a0.1.2.2 a0.2.1 a0.2.2.1 a0.2.2.2)) (pD dI
 (fun e829=>
  kx (e829.1.1.1:Int),fun _=>
  kx (-(1:Int)),()))
def iB(a0:Pt):Option (Int):=nf some a0
theorem He{R} kx a0: @nf R kx a0=(iB a0).bind kx:=by
 unfold iB nf
 exact cE ⟨fun _=>rfl,fun _=>rfl,trivial⟩
abbrev A6:af:=.fx [.val true yP] (Int) (fun z=>iB z.1) (fun b=>(.one ⟨false,[(.v (.int .i64 b))]⟩,[]))
theorem Ad:ag C0 146 A6:=
 ag.fx (e:=false) (t:=pP) (.cons qk (.cons Az (.cons Ay (.nil)))) mixed Tryz.func146 (by kernel_rfl) (by kernel_rfl) pR 1 HD (fun z=>(by kernel_rfl:_=nf (fun b=>some (A6.enc b)) z.1).trans (He _ z.1))
def vw{R:Type}(kx:Ln×Bool->Option R)(a0:Pt)(a1:Int):Option R:=
 Option.bind (be a0) fun y835=>
 cond (!y835)
 (kx (((0:Int),((0:Int),((0:Int),(0:Int)))),Bool.false))
 (Option.bind (cH a1 (0:Int) (7:Int)) fun y836=>
  cond (!y836)
  (kx (((0:Int),((0:Int),((0:Int),(0:Int)))),Bool.false))
  (Option.bind (bj a0) fun y837=>
   Option.bind (dc (IntKind.wrap .i64 (a1+(4:Int))) y837) fun y838=>
   Option.bind (eI y838) fun y839=>
   cond (!y839.2)
   (kx (((0:Int),((0:Int),((0:Int),(0:Int)))),Bool.false))
   (kx ((a1,y839.1),Bool.true))))
def uQ(a0:Pt)(a1:Int):Option (Ln×Bool):=vw some a0 a1
theorem PP{R} kx a0 a1: @vw R kx a0 a1=(uQ a0 a1).bind kx:=by
 unfold uQ vw
 exact ac fun _=>ae rfl (ac fun _=>ae rfl (ac fun _=>ac fun _=>ac fun _=>ae rfl rfl))
abbrev JY:af:=.fx [.val true yP, .val false (.int .i64)] (Ln×Bool) (fun z=>uQ z.1 z.2.1) (fun b=>(.tup [⟨true,[(.v (.int .i64 b.1.1)),(.v (.int .i64 b.1.2.1)),(.v (.int .i64 b.1.2.2.1)),(.v (.int .i64 b.1.2.2.2))]⟩,⟨false,[(.v (.bool b.2))]⟩],[]))
theorem Sn:ag C0 148 JY:=
 ag.fx (e:=false) (.cons fj (.cons zj (.cons fA (.cons qk (.cons xD (.nil)))))) mixed Tryz.func148 (by kernel_rfl) (by kernel_rfl) aj 1 ai (fun z=>(by kernel_rfl:_=vw (fun b=>some (JY.enc b)) z.1 z.2.1).trans (PP _ z.1 z.2.1))
def oo{R:Type}(kx:Ln×Int->Option R)(a0:Pt)(a1:Pt):Option R:=
 Option.bind (be a0) fun y797=>
 cond (!y797)
 (kx (((0:Int),((0:Int),((0:Int),(0:Int)))),(1:Int)))
 (Option.bind (be a1) fun y798=>
  cond (!y798)
  (kx (((0:Int),((0:Int),((0:Int),(0:Int)))),(1:Int)))
  (Option.bind (bj a1) fun y799=>
   Option.bind (bj a0) fun y800=>
   Option.bind (iZ y799 y800) fun y801=>
   Option.bind (iB y801) fun y832=>
   cond (decide (y832<(0:Int)))
   (kx (((0:Int),((0:Int),((0:Int),(0:Int)))),(7:Int)))
   (Option.bind (uQ a0 (Int.tmod y832 (8:Int))) fun y840=>
    cond (!y840.2)
    (kx (((0:Int),((0:Int),((0:Int),(0:Int)))),(2:Int)))
    (kx (y840.1,(0:Int))))))
def ll(a0:Pt)(a1:Pt):Option (Ln×Int):=oo some a0 a1
theorem Im{R} kx a0 a1: @oo R kx a0 a1=(ll a0 a1).bind kx:=by
 unfold ll oo
 exact ac fun _=>ae rfl (ac fun _=>ae rfl (ac fun _=>ac fun _=>ac fun _=>ac fun _=>ae rfl (ac fun _=>ae rfl rfl)))
abbrev Cv:af:=.fx [.val true yP, .val true yP] (Ln×Int) (fun z=>ll z.1 z.2.1) (fun b=>(.tup [⟨true,[(.v (.int .i64 b.1.1)),(.v (.int .i64 b.1.2.1)),(.v (.int .i64 b.1.2.2.1)),(.v (.int .i64 b.1.2.2.2))]⟩,⟨false,[(.v (.int .i64 b.2))]⟩],[]))
theorem JB:ag C0 77 Cv:=
 ag.fx (e:=false) (.cons fj (.cons fA (.cons yz (.cons Ad (.cons Sn (.nil)))))) mixed Tryz.func77 (by kernel_rfl) (by kernel_rfl) aj 1 ai (fun z=>(by kernel_rfl:_=oo (fun b=>some (Cv.enc b)) z.1 z.2.1).trans (Im _ z.1 z.2.1))
def om{R:Type}(kx:Ln×Int->Option R)(a0:Pt)(a1:Pt):Option R:=
 Option.bind (ll a0 a1) fun y841=>
 kx y841
def lk(a0:Pt)(a1:Pt):Option (Ln×Int):=om some a0 a1
theorem Il{R} kx a0 a1: @om R kx a0 a1=(lk a0 a1).bind kx:=by
 unfold lk om
 exact ac fun _=>rfl
abbrev Cu:af:=.fx [.val true yP, .val true yP] (Ln×Int) (fun z=>lk z.1 z.2.1) (fun b=>(.tup [⟨true,[(.v (.int .i64 b.1.1)),(.v (.int .i64 b.1.2.1)),(.v (.int .i64 b.1.2.2.1)),(.v (.int .i64 b.1.2.2.2))]⟩,⟨false,[(.v (.int .i64 b.2))]⟩],[]))
theorem JA:ag C0 30 Cu:=
 ag.fx (e:=false) (.cons JB (.nil)) mixed Tryz.func30 (by kernel_rfl) (by kernel_rfl) aj 1 ai (fun z=>(by kernel_rfl:_=om (fun b=>some (Cu.enc b)) z.1 z.2.1).trans (Il _ z.1 z.2.1))
def tG{R:Type}(kx:Nm->Option R)(a0:Nm):Option R:=
 kx (a0.1,(a0.2.1,(IntKind.wrap .i64 (a0.2.2+(1:Int)))))
def jX(a0:Nm):Option (Nm):=tG some a0
theorem NZ{R} kx a0: @tG R kx a0=(jX a0).bind kx:=by
 unfold jX tG
 exact rfl
abbrev HX:af:=.fx [.val true yN] (Nm) (fun z=>jX z.1) (fun b=>(.one ⟨true,[(.v (.int .i64 b.1)),(.v (.int .i64 b.2.1)),(.v (.int .i64 b.2.2))]⟩,[]))
theorem AA:ag C0 260 HX:=
 ag.fx (e:=false) (.nil) mixed Tryz.func260 (by kernel_rfl) (by kernel_rfl) aj 1 ai (fun z=>(by kernel_rfl:_=tG (fun b=>some (HX.enc b)) z.1).trans (NZ _ z.1))
def ot{R:Type}(kx:Ln×Bool->Option R)(a0:Ln):Option R:=
 Option.bind (eI a0.2) fun y862=>
 cond (!y862.2)
 (kx (((0:Int),((0:Int),((0:Int),(0:Int)))),Bool.false))
 (kx ((a0.1,y862.1),Bool.true))
def iP(a0:Ln):Option (Ln×Bool):=ot some a0
theorem N1{R} kx a0: @ot R kx a0=(iP a0).bind kx:=by
 unfold iP ot
 exact ac fun _=>ae rfl rfl
abbrev Cx:af:=.fx [.val true yL] (Ln×Bool) (fun z=>iP z.1) (fun b=>(.tup [⟨true,[(.v (.int .i64 b.1.1)),(.v (.int .i64 b.1.2.1)),(.v (.int .i64 b.1.2.2.1)),(.v (.int .i64 b.1.2.2.2))]⟩,⟨false,[(.v (.bool b.2))]⟩],[]))
theorem GW:ag C0 305 Cx:=
 ag.fx (e:=false) (.cons xD (.nil)) mixed Tryz.func305 (by kernel_rfl) (by kernel_rfl) aj 1 ai (fun z=>(by kernel_rfl:_=ot (fun b=>some (Cx.enc b)) z.1).trans (N1 _ z.1))
def vI{R:Type}(kx:Ln×Int->Option R)(a0:Ln):Option R:=
 Option.bind (iP a0) fun y863=>
 cond (!y863.2)
 (kx (((0:Int),((0:Int),((0:Int),(0:Int)))),(2:Int)))
 (kx (y863.1,(0:Int)))
def nk(a0:Ln):Option (Ln×Int):=vI some a0
theorem P4{R} kx a0: @vI R kx a0=(nk a0).bind kx:=by
 unfold nk vI
 exact ac fun _=>ae rfl rfl
abbrev J7:af:=.fx [.val true yL] (Ln×Int) (fun z=>nk z.1) (fun b=>(.tup [⟨true,[(.v (.int .i64 b.1.1)),(.v (.int .i64 b.1.2.1)),(.v (.int .i64 b.1.2.2.1)),(.v (.int .i64 b.1.2.2.2))]⟩,⟨false,[(.v (.int .i64 b.2))]⟩],[]))
theorem C5:ag C0 261 J7:=
 ag.fx (e:=false) (.cons GW (.nil)) mixed Tryz.func261 (by kernel_rfl) (by kernel_rfl) aj 1 ai (fun z=>(by kernel_rfl:_=vI (fun b=>some (J7.enc b)) z.1).trans (P4 _ z.1))
def rI{R:Type}(kx:Ln×Int->Option R)(a0:Pt)(a1:Pt):Option R:=
 Option.bind (be a0) fun y848=>
 cond (!y848)
 (kx (((0:Int),((0:Int),((0:Int),(0:Int)))),(1:Int)))
 (Option.bind (be a1) fun y849=>
  cond (!y849)
  (kx (((0:Int),((0:Int),((0:Int),(0:Int)))),(1:Int)))
  (Option.bind (bj a0) fun y850=>
   Option.bind (bj a1) fun y851=>
   Option.bind (iZ y851 y850) fun y852=>
   Option.bind (iB y852) fun y853=>
   cond (decide (y853<(0:Int)))
   (kx (((0:Int),((0:Int),((0:Int),(0:Int)))),(7:Int)))
   (Option.bind (eH y850.1 y851.1) fun y854=>
    Option.bind (jX y854) fun y856=>
    Option.bind (eH y850.2 y851.2) fun y857=>
    Option.bind (jX y857) fun y858=>
    Option.bind (dC (y856,y858) (IntKind.wrap .i64 (y853+(4:Int)))) fun y859=>
    Option.bind (nk y859) fun y864=>
    kx y864)))
def mD(a0:Pt)(a1:Pt):Option (Ln×Int):=rI some a0 a1
theorem Ml{R} kx a0 a1: @rI R kx a0 a1=(mD a0 a1).bind kx:=by
 unfold mD rI
 exact ac fun _=>ae rfl (ac fun _=>ae rfl (ac fun _=>ac fun _=>ac fun _=>ac fun _=>ae rfl (ac fun _=>ac fun _=>ac fun _=>ac fun _=>ac fun _=>ac fun _=>rfl)))
abbrev GJ:af:=.fx [.val true yP, .val true yP] (Ln×Int) (fun z=>mD z.1 z.2.1) (fun b=>(.tup [⟨true,[(.v (.int .i64 b.1.1)),(.v (.int .i64 b.1.2.1)),(.v (.int .i64 b.1.2.2.1)),(.v (.int .i64 b.1.2.2.2))]⟩,⟨false,[(.v (.int .i64 b.2))]⟩],[]))
theorem Oi:ag C0 200 GJ:=
 ag.fx (e:=false) (.cons fj (.cons fA (.cons yz (.cons Ad (.cons lQ (.cons AA (.cons nY (.cons C5 (.nil))))))))) mixed Tryz.func200 (by kernel_rfl) (by kernel_rfl) aj 1 ai (fun z=>(by kernel_rfl:_=rI (fun b=>some (GJ.enc b)) z.1 z.2.1).trans (Ml _ z.1 z.2.1))
def yS:List (FuncId×af):=[(305,Cx)]
abbrev gU:LS:=⟨[(false,[(.sl yL)]),(false,[(.own yL)]),(false,[(.int .i64)])],[],[]⟩
abbrev DF:LS:=⟨[(false,[(.own yL)]),(false,[(.int .i64)]),(false,[(.own yL)])],[],[]⟩
abbrev Ly v0(v1:Int) v2:=((((v0,()),(v1,()),(v2,()),()),(),()):DF.T)
abbrev DG:LS:=⟨[(false,[.undef]),(false,[.undef]),(false,[(.own yL)])],[],[]⟩
abbrev Lz v0:=(((((),()),((),()),(v0,()),()),(),()):DG.T)
abbrev hY:List (Ex×LS):=[(.ret,DF),(.exit 0,DG)]
abbrev vW x0 x4(x5:Int):=((((x0,()),(x4,()),(x5,()),()),(),()):gU.T)
def ja{R:Type}(nx:gU.T->Option R)(hx:lF R hY)(x0:List Ln)(x4:List Ln)(x5:Int):Option R:=
 cond (decide (x5<((List.length x0:Nat):Int)))
 (Option.bind (fY x0 x5) fun y881=>
  Option.bind (iP y881) fun y882=>
  cond (!y882.2)
  (hx.1 (Ly [] (2:Int) x4))
  (cond (decide ((((List.length x4)+(List.length [y882.1]))*32)<=70368744177664))
   (cond (decide (((List.length x4)+(List.length [y882.1]))<=70368744177664))
    (nx (vW x0 (x4++ [y882.1]) (IntKind.wrap .i64 (x5+(1:Int)))))
    none)
   none))
 (hx.2.1 (Lz x4))
def AH{R:Type}(nx:gU.T->Option R)(hx:lF R hY)(z:gU.T):Option R:=ja nx hx z.1.1.1 z.1.2.1.1 z.1.2.2.1.1
theorem Ea:cY @AH:=fun R nx hx z=>by
 show ja nx hx z.1.1.1 z.1.2.1.1 z.1.2.2.1.1=(ja (fun y=>some (.inl y)) (oM hY fun x=>some (.inr x)) z.1.1.1 z.1.2.1.1 z.1.2.2.1.1).bind (oH nx hx)
 unfold ja
 exact ae (ac fun _=>ac fun _=>ae rfl (ae (ae rfl rfl) rfl)) rfl
def oV:gU.T->Option (xb hY):=BJ @AH
theorem ur x0 x4 x5:oV (vW x0 x4 x5)=ja oV (oM hY some) x0 x4 x5:=eU Ea _
def ui:bQ:=⟨[0,4,5],[],[2,3,4],[]⟩
def yZ:fQ Rv:=⟨fun k=>match k with|4=>ui|_=>⟨[],[],[],[]⟩,fun k=>match k with|4=>some (cu gU hY oV)|_=>none⟩
theorem Ow(n:Nat)(z:gU.T)(k:Ex->hZ->Option Rv):bL ⟨30,30⟩ ui (nG (ii C0 yS) ⟨30,30⟩ yZ 1 (aL Tryz.f263 3)) (n+1) (gU.enc z) k=
 AH (fun y=>bL ⟨30,30⟩ ui (nG (ii C0 yS) ⟨30,30⟩ yZ 1 (aL Tryz.f263 3)) n (gU.enc y) k) (hK k hY) z:=by kernel_rfl
theorem Rh:aw (ii C0 yS) ⟨30,30⟩ yZ 1 (cp (bh Tryz.f263)):=by
 have hl:cp (bh Tryz.f263)=[aL Tryz.f263 3]:=by kernel_rfl
 rw[hl]
 exact aw.cons (n:=4) (lh:=ui) (S:=cu gU hY oV) (by kernel_rfl) rfl rfl (cy Ea Ow)
  (aw.nil)
def sf{R:Type}(kx:(List Ln)×Int->Option R)(a0:(List Ln)):Option R:=
 Option.bind (oV (vW a0 [] (0:Int))) (pD hY
 (fun e883=>
  kx ((e883.1.1.1:List Ln),(e883.1.2.1.1:Int)),fun e887=>
  kx ((e887.1.2.2.1.1:List Ln),(0:Int)),()))
def fq(a0:(List Ln)):Option ((List Ln)×Int):=sf some a0
theorem P3{R} kx a0: @sf R kx a0=(fq a0).bind kx:=by
 unfold fq sf
 exact cE ⟨fun _=>rfl,fun _=>rfl,trivial⟩
abbrev zd:af:=.fx [.val false (.slice yL)] ((List Ln)×Int) (fun z=>fq z.1) (fun b=>(.tup [⟨false,[(.own yL b.1)]⟩,⟨false,[(.v (.int .i64 b.2))]⟩],[]))
theorem C4:ag C0 263 zd:=
 ag.fx (e:=false) (t:=yS) (.cons GW (.nil)) mixed Tryz.func263 (by kernel_rfl) (by kernel_rfl) yZ 1 Rh (fun z=>(by kernel_rfl:_=sf (fun b=>some (zd.enc b)) z.1).trans (P3 _ z.1))
def yT:List (FuncId×af):=[(218,zc),(217,xj)]
abbrev gV:LS:=⟨[(false,[(.sl yL)]),(false,[(.ptr 3 0)]),(false,[(.int .i64)])],[(false,[(.int .i64),(.int .i64),(.int .i64),(.int .i64)])],[]⟩
abbrev DH:LS:=⟨[(false,[(.sl yL)]),(false,[(.ptr 3 0)]),(false,[(.int .i64)])],[(false,[(.int .i64),(.int .i64),(.int .i64),(.int .i64)])],[]⟩
abbrev wW v0(v1:Int)(v2:Int)(v3:Int)(v4:Int)(v5:Int):=((((v0,()),((),()),(v1,()),()),((v2,v3,v4,v5,()),()),()):DH.T)
abbrev jc:List (Ex×LS):=[(.exit 0,DH)]
abbrev vX x0(x5:Int)(b0_0:Int)(b0_1:Int)(b0_2:Int)(b0_3:Int):=((((x0,()),((),()),(x5,()),()),((b0_0,b0_1,b0_2,b0_3,()),()),()):gV.T)
def kB{R:Type}(nx:gV.T->Option R)(hx:lF R jc)(x0:List Ln)(x5:Int)(b0_0:Int)(b0_1:Int)(b0_2:Int)(b0_3:Int):Option R:=
 cond (decide (x5>(0:Int)))
 (Option.bind (fY x0 (IntKind.wrap .i64 (x5-(1:Int)))) fun y900=>
  cond (decide (y900.1>b0_0))
  (nx (vX x0 (IntKind.wrap .i64 (x5-(1:Int))) b0_0 b0_1 b0_2 b0_3))
  (Option.bind (fY x0 (IntKind.wrap .i64 (x5-(1:Int)))) fun y901=>
   cond (y901.1==b0_0)
   (Option.bind (fY x0 (IntKind.wrap .i64 (x5-(1:Int)))) fun y902=>
    Option.bind (di y902.2 (b0_1,(b0_2,b0_3))) fun y903=>
    Option.bind (ff y903) fun y904=>
    cond (decide (y904>(0:Int)))
    (nx (vX x0 (IntKind.wrap .i64 (x5-(1:Int))) b0_0 b0_1 b0_2 b0_3))
    (hx.1 (wW x0 x5 b0_0 b0_1 b0_2 b0_3)))
   (hx.1 (wW x0 x5 b0_0 b0_1 b0_2 b0_3))))
 (hx.1 (wW x0 x5 b0_0 b0_1 b0_2 b0_3))
def AI{R:Type}(nx:gV.T->Option R)(hx:lF R jc)(z:gV.T):Option R:=kB nx hx z.1.1.1 z.1.2.2.1.1 z.2.1.1.1 z.2.1.1.2.1 z.2.1.1.2.2.1 z.2.1.1.2.2.2.1
theorem Eb:cY @AI:=fun R nx hx z=>by
 show kB nx hx z.1.1.1 z.1.2.2.1.1 z.2.1.1.1 z.2.1.1.2.1 z.2.1.1.2.2.1 z.2.1.1.2.2.2.1=(kB (fun y=>some (.inl y)) (oM jc fun x=>some (.inr x)) z.1.1.1 z.1.2.2.1.1 z.2.1.1.1 z.2.1.1.2.1 z.2.1.1.2.2.1 z.2.1.1.2.2.2.1).bind (oH nx hx)
 unfold kB
 exact ae (ac fun _=>ae rfl (ac fun _=>ae (ac fun _=>ac fun _=>ac fun _=>ae rfl rfl) rfl)) rfl
def rO:gV.T->Option (xb jc):=BJ @AI
theorem yO x0 x5 b0_0 b0_1 b0_2 b0_3:rO (vX x0 x5 b0_0 b0_1 b0_2 b0_3)=kB rO (oM jc some) x0 x5 b0_0 b0_1 b0_2 b0_3:=eU Eb _
def uj:bQ:=⟨[0,3,5],[3],[0,3,5],[3]⟩
def za:fQ Rv:=⟨fun k=>match k with|3=>uj|_=>⟨[],[],[],[]⟩,fun k=>match k with|3=>some (cu gV jc rO)|_=>none⟩
theorem Ox(n:Nat)(z:gV.T)(k:Ex->hZ->Option Rv):bL ⟨62,62⟩ uj (nG (ii C0 yT) ⟨62,62⟩ za 1 (aL Tryz.f262 2)) (n+1) (gV.enc z) k=
 AI (fun y=>bL ⟨62,62⟩ uj (nG (ii C0 yT) ⟨62,62⟩ za 1 (aL Tryz.f262 2)) n (gV.enc y) k) (hK k jc) z:=by kernel_rfl
theorem Ri:aw (ii C0 yT) ⟨62,62⟩ za 1 (cp (bh Tryz.f262)):=by
 have hl:cp (bh Tryz.f262)=[aL Tryz.f262 2]:=by kernel_rfl
 rw[hl]
 exact aw.cons (n:=3) (lh:=uj) (S:=cu gV jc rO) (by kernel_rfl) rfl rfl (cy Eb Ox)
  (aw.nil)
def sg{R:Type}(kx:(List Ln)->Option R)(a0:(List Ln))(a1:Ln):Option R:=
 Option.bind (rO (vX a0 ((List.length a0:Nat):Int) a1.1 a1.2.1 a1.2.2.1 a1.2.2.2)) (pD jc
 (fun e905=>
  cond (decide ((0:Int)<=(e905.1.2.2.1.1:Int)))
  (cond (decide ((e905.1.2.2.1.1:Int)<=(((List.length (e905.1.1.1:List Ln)):Nat):Int)))
   (cond (decide ((((List.length ([]:List Int))+(List.length (List.drop 0 (List.take (Int.toNat (e905.1.2.2.1.1:Int)) (e905.1.1.1:List Ln)))))*32)<=70368744177664))
    (cond (decide (((List.length ([]:List Int))+(List.length (List.drop 0 (List.take (Int.toNat (e905.1.2.2.1.1:Int)) (e905.1.1.1:List Ln)))))<=70368744177664))
     (cond (decide ((((List.length ([]++(List.drop 0 (List.take (Int.toNat (e905.1.2.2.1.1:Int)) (e905.1.1.1:List Ln)))))+(List.length [((e905.2.1.1.1:Int),((e905.2.1.1.2.1:Int),((e905.2.1.1.2.2.1:Int),(e905.2.1.1.2.2.2.1:Int))))]))*32)<=70368744177664))
      (cond (decide (((List.length ([]++(List.drop 0 (List.take (Int.toNat (e905.1.2.2.1.1:Int)) (e905.1.1.1:List Ln)))))+(List.length [((e905.2.1.1.1:Int),((e905.2.1.1.2.1:Int),((e905.2.1.1.2.2.1:Int),(e905.2.1.1.2.2.2.1:Int))))]))<=70368744177664))
       (cond (decide ((0:Int)<=(e905.1.2.2.1.1:Int)))
        (cond (decide ((e905.1.2.2.1.1:Int)<=(((List.length (e905.1.1.1:List Ln)):Nat):Int)))
         (cond (decide ((((List.length (([]++(List.drop 0 (List.take (Int.toNat (e905.1.2.2.1.1:Int)) (e905.1.1.1:List Ln))))++ [((e905.2.1.1.1:Int),((e905.2.1.1.2.1:Int),((e905.2.1.1.2.2.1:Int),(e905.2.1.1.2.2.2.1:Int))))]))+(List.length (List.drop (Int.toNat (e905.1.2.2.1.1:Int)) (List.take (List.length (e905.1.1.1:List Ln)) (e905.1.1.1:List Ln)))))*32)<=70368744177664))
          (cond (decide (((List.length (([]++(List.drop 0 (List.take (Int.toNat (e905.1.2.2.1.1:Int)) (e905.1.1.1:List Ln))))++ [((e905.2.1.1.1:Int),((e905.2.1.1.2.1:Int),((e905.2.1.1.2.2.1:Int),(e905.2.1.1.2.2.2.1:Int))))]))+(List.length (List.drop (Int.toNat (e905.1.2.2.1.1:Int)) (List.take (List.length (e905.1.1.1:List Ln)) (e905.1.1.1:List Ln)))))<=70368744177664))
           (kx ((([]++(List.drop 0 (List.take (Int.toNat (e905.1.2.2.1.1:Int)) (e905.1.1.1:List Ln))))++ [((e905.2.1.1.1:Int),((e905.2.1.1.2.1:Int),((e905.2.1.1.2.2.1:Int),(e905.2.1.1.2.2.2.1:Int))))])++(List.drop (Int.toNat (e905.1.2.2.1.1:Int)) (List.take (List.length (e905.1.1.1:List Ln)) (e905.1.1.1:List Ln)))))
           none)
          none)
         none)
        none)
       none)
      none)
     none)
    none)
   none)
  none,()))
def lL(a0:(List Ln))(a1:Ln):Option ((List Ln)):=sg some a0 a1
theorem P5{R} kx a0 a1: @sg R kx a0 a1=(lL a0 a1).bind kx:=by
 unfold lL sg
 exact cE ⟨fun _=>ae (ae (ae (ae (ae (ae (ae (ae (ae (ae rfl rfl) rfl) rfl) rfl) rfl) rfl) rfl) rfl) rfl) rfl,trivial⟩
abbrev J8:af:=.fx [.val false (.slice yL), .val true yL] ((List Ln)) (fun z=>lL z.1 z.2.1) (fun b=>(.one ⟨false,[(.own yL b)]⟩,[]))
theorem Sq:ag C0 262 J8:=
 ag.fx (e:=false) (t:=yT) (.cons nX (.cons Ay (.nil))) mixed Tryz.func262 (by kernel_rfl) (by kernel_rfl) za 1 Ri (fun z=>(by kernel_rfl:_=sg (fun b=>some (J8.enc b)) z.1 z.2.1).trans (P5 _ z.1 z.2.1))
def qF{R:Type}(kx:(List Ln)×Int->Option R)(a0:Ln)(a1:Ln):Option R:=
 Option.bind (bG a0) fun y871=>
 cond (!y871)
 (kx ([],(1:Int)))
 (Option.bind (bG a1) fun y872=>
  cond (!y872)
  (kx ([],(1:Int)))
  (cond ((a0.1==a1.1)&&(((a0.2.1==a1.2.1)&&((a0.2.2.1==a1.2.2.1)&&((a0.2.2.2==a1.2.2.2)&&Bool.true)))&&Bool.true))
   (kx ([],(7:Int)))
   (Option.bind (bP a0) fun y873=>
    Option.bind (bP a1) fun y874=>
    cond (a0.1==a1.1)
    (Option.bind (eH y873.2 y874.2) fun y875=>
     Option.bind (jX y875) fun y876=>
     Option.bind (fq ([]++ [(a0.1,y876)])) fun y889=>
     kx y889)
    (cond ((Int.tmod (IntKind.wrap .i64 (a0.1+a1.1)) (2:Int))==(0:Int))
     (Option.bind (lN y873 y874) fun y890=>
      Option.bind (dC y890 (IntKind.wrap .i64 (Int.tdiv (IntKind.wrap .i64 (a0.1+a1.1)) (2:Int)))) fun y891=>
      Option.bind (lL [] y891) fun y912=>
      Option.bind (dC y890 (IntKind.wrap .i64 ((IntKind.wrap .i64 (Int.tdiv (IntKind.wrap .i64 (a0.1+a1.1)) (2:Int)))+(4:Int)))) fun y913=>
      Option.bind (lL y912 y913) fun y914=>
      Option.bind (fq y914) fun y915=>
      kx y915)
     (Option.bind (fq []) fun y916=>
      kx y916)))))
def lj(a0:Ln)(a1:Ln):Option ((List Ln)×Int):=qF some a0 a1
theorem KS{R} kx a0 a1: @qF R kx a0 a1=(lj a0 a1).bind kx:=by
 unfold lj qF
 exact ac fun _=>ae rfl (ac fun _=>ae rfl (ae rfl (ac fun _=>ac fun _=>ae (ac fun _=>ac fun _=>ac fun _=>rfl) (ae (ac fun _=>ac fun _=>ac fun _=>ac fun _=>ac fun _=>ac fun _=>rfl) (ac fun _=>rfl)))))
abbrev Fs:af:=.fx [.val true yL, .val true yL] ((List Ln)×Int) (fun z=>lj z.1 z.2.1) (fun b=>(.tup [⟨false,[(.own yL b.1)]⟩,⟨false,[(.v (.int .i64 b.2))]⟩],[]))
theorem MR:ag C0 201 Fs:=
 ag.fx (e:=false) (.cons gX (.cons kd (.cons lQ (.cons AA (.cons C4 (.cons GV (.cons nY (.cons Sq (.nil))))))))) mixed Tryz.func201 (by kernel_rfl) (by kernel_rfl) aj 1 ai (fun z=>(by kernel_rfl:_=qF (fun b=>some (Fs.enc b)) z.1 z.2.1).trans (KS _ z.1 z.2.1))
def rN{R:Type}(kx:It×Int->Option R)(a0:(List Ln))(a1:Int)(a2:Int):Option R:=
 cond (a1==(0:Int))
 (cond (decide (a2>=((List.length a0:Nat):Int)))
  (kx (((ByteArray.mk (Array.mk [])),(Bool.false,((((0:Int),((0:Int),(0:Int))),((0:Int),((0:Int),(0:Int)))),((0:Int),((0:Int),((0:Int),(0:Int))))))),(3:Int)))
  (cond (a1 !=(0:Int))
   (kx (((ByteArray.mk (Array.mk [])),(Bool.false,((((0:Int),((0:Int),(0:Int))),((0:Int),((0:Int),(0:Int)))),((0:Int),((0:Int),((0:Int),(0:Int))))))),a1))
   (Option.bind (fY a0 a2) fun y921=>
    kx (((ByteArray.mk (Array.mk [])),(Bool.true,((((0:Int),((0:Int),(0:Int))),((0:Int),((0:Int),(0:Int)))),y921))),(0:Int)))))
 (cond (a1 !=(0:Int))
  (kx (((ByteArray.mk (Array.mk [])),(Bool.false,((((0:Int),((0:Int),(0:Int))),((0:Int),((0:Int),(0:Int)))),((0:Int),((0:Int),((0:Int),(0:Int))))))),a1))
  (Option.bind (fY a0 a2) fun y922=>
   kx (((ByteArray.mk (Array.mk [])),(Bool.true,((((0:Int),((0:Int),(0:Int))),((0:Int),((0:Int),(0:Int)))),y922))),(0:Int))))
def fU(a0:(List Ln))(a1:Int)(a2:Int):Option (It×Int):=rN some a0 a1 a2
theorem Ms{R} kx a0 a1 a2: @rN R kx a0 a1 a2=(fU a0 a1 a2).bind kx:=by
 unfold fU rN
 exact ae (ae rfl (ae rfl (ac fun _=>rfl))) (ae rfl (ac fun _=>rfl))
abbrev GN:af:=.fx [.val false (.slice yL), .val false (.int .i64), .val false (.int .i64)] (It×Int) (fun z=>fU z.1 z.2.1 z.2.2.1) (fun b=>(.tup [⟨true,[(.v (.string b.1.1)),(.v (.bool b.1.2.1)),(.v (.int .i64 b.1.2.2.1.1.1)),(.v (.int .i64 b.1.2.2.1.1.2.1)),(.v (.int .i64 b.1.2.2.1.1.2.2)),(.v (.int .i64 b.1.2.2.1.2.1)),(.v (.int .i64 b.1.2.2.1.2.2.1)),(.v (.int .i64 b.1.2.2.1.2.2.2)),(.v (.int .i64 b.1.2.2.2.1)),(.v (.int .i64 b.1.2.2.2.2.1)),(.v (.int .i64 b.1.2.2.2.2.2.1)),(.v (.int .i64 b.1.2.2.2.2.2.2))]⟩,⟨false,[(.v (.int .i64 b.2))]⟩],[]))
theorem Om:ag C0 202 GN:=
 ag.fx (e:=false) (.nil) mixed Tryz.func202 (by kernel_rfl) (by kernel_rfl) aj 1 ai (fun z=>(by kernel_rfl:_=rN (fun b=>some (GN.enc b)) z.1 z.2.1 z.2.2.1).trans (Ms _ z.1 z.2.1 z.2.2.1))
def iX{R:Type}(kx:Ln×Int->Option R)(a0:Ln)(a1:Pt):Option R:=
 Option.bind (bG a0) fun y928=>
 cond (!y928)
 (kx (((0:Int),((0:Int),((0:Int),(0:Int)))),(1:Int)))
 (Option.bind (be a1) fun y929=>
  cond (!y929)
  (kx (((0:Int),((0:Int),((0:Int),(0:Int)))),(1:Int)))
  (Option.bind (bj a1) fun y930=>
   Option.bind (dC y930 (IntKind.wrap .i64 (a0.1+(4:Int)))) fun y931=>
   Option.bind (nk y931) fun y932=>
   kx y932))
def eG(a0:Ln)(a1:Pt):Option (Ln×Int):=iX some a0 a1
theorem CL{R} kx a0 a1: @iX R kx a0 a1=(eG a0 a1).bind kx:=by
 unfold eG iX
 exact ac fun _=>ae rfl (ac fun _=>ae rfl (ac fun _=>ac fun _=>ac fun _=>rfl))
abbrev uU:af:=.fx [.val true yL, .val true yP] (Ln×Int) (fun z=>eG z.1 z.2.1) (fun b=>(.tup [⟨true,[(.v (.int .i64 b.1.1)),(.v (.int .i64 b.1.2.1)),(.v (.int .i64 b.1.2.2.1)),(.v (.int .i64 b.1.2.2.2))]⟩,⟨false,[(.v (.int .i64 b.2))]⟩],[]))
theorem Dl:ag C0 203 uU:=
 ag.fx (e:=false) (.cons gX (.cons fj (.cons fA (.cons nY (.cons C5 (.nil)))))) mixed Tryz.func203 (by kernel_rfl) (by kernel_rfl) aj 1 ai (fun z=>(by kernel_rfl:_=iX (fun b=>some (uU.enc b)) z.1 z.2.1).trans (CL _ z.1 z.2.1))
def tE{R:Type}(kx:Int->Option R)(a0:Ln)(a1:Pt):Option R:=
 Option.bind (dc (IntKind.wrap .i64 (a0.1+(4:Int))) a1) fun y972=>
 Option.bind (di y972 a0.2) fun y973=>
 Option.bind (ff y973) fun y974=>
 kx y974
def qb(a0:Ln)(a1:Pt):Option (Int):=tE some a0 a1
theorem NX{R} kx a0 a1: @tE R kx a0 a1=(qb a0 a1).bind kx:=by
 unfold qb tE
 exact ac fun _=>ac fun _=>ac fun _=>rfl
abbrev HV:af:=.fx [.val true yL, .val true yP] (Int) (fun z=>qb z.1 z.2.1) (fun b=>(.one ⟨false,[(.v (.int .i64 b))]⟩,[]))
theorem Qg:ag C0 306 HV:=
 ag.fx (e:=false) (.cons qk (.cons nX (.cons Ay (.nil)))) mixed Tryz.func306 (by kernel_rfl) (by kernel_rfl) aj 1 ai (fun z=>(by kernel_rfl:_=tE (fun b=>some (HV.enc b)) z.1 z.2.1).trans (NX _ z.1 z.2.1))
def pC{R:Type}(kx:Bool->Option R)(a0:Ln)(a1:Pt)(a2:Ln):Option R:=
 Option.bind (iI a0 a1) fun y969=>
 Option.bind (qb a2 y969) fun y975=>
 kx (y975==(0:Int))
def mf(a0:Ln)(a1:Pt)(a2:Ln):Option (Bool):=pC some a0 a1 a2
theorem Jp{R} kx a0 a1 a2: @pC R kx a0 a1 a2=(mf a0 a1 a2).bind kx:=by
 unfold mf pC
 exact ac fun _=>ac fun _=>rfl
abbrev xm:af:=.fx [.val true yL, .val true yP, .val true yL] (Bool) (fun z=>mf z.1 z.2.1 z.2.2.1) (fun b=>(.one ⟨false,[(.v (.bool b))]⟩,[]))
theorem Le:ag C0 264 xm:=
 ag.fx (e:=false) (.cons ws (.cons Qg (.nil))) mixed Tryz.func264 (by kernel_rfl) (by kernel_rfl) aj 1 ai (fun z=>(by kernel_rfl:_=pC (fun b=>some (xm.enc b)) z.1 z.2.1 z.2.2.1).trans (Jp _ z.1 z.2.1 z.2.2.1))
def oZ:List (FuncId×af):=[(120,ru),(121,tf),(140,By),(259,xk),(256,uc),(264,xm),(263,zd)]
abbrev de:LS:=⟨[(false,[(.ptr 3 0)]),(false,[(.ptr 4 0)]),(false,[(.ptr 5 0)]),(false,[(.own yL)]),(false,[(.int .i64)])],[(false,[(.int .i64),(.int .i64),(.int .i64),(.int .i64),(.int .i64),(.int .i64)]),(false,[(.int .i64),(.int .i64),(.int .i64),(.int .i64)]),(false,[(.int .i64),(.int .i64),(.int .i64),(.int .i64),(.int .i64),(.int .i64)])],[]⟩
abbrev uP:LS:=⟨[(false,[(.own yL)])],[],[]⟩
abbrev uM v0:=((((v0,()),()),(),()):uP.T)
abbrev dw:List (Ex×LS):=[(.exit 0,uP)]
abbrev ka x8(x9:Int)(b0_0:Int)(b0_1:Int)(b0_2:Int)(b0_3:Int)(b0_4:Int)(b0_5:Int)(b1_0:Int)(b1_1:Int)(b1_2:Int)(b1_3:Int)(b2_0:Int)(b2_1:Int)(b2_2:Int)(b2_3:Int)(b2_4:Int)(b2_5:Int):=(((((),()),((),()),((),()),(x8,()),(x9,()),()),((b0_0,b0_1,b0_2,b0_3,b0_4,b0_5,()),(b1_0,b1_1,b1_2,b1_3,()),(b2_0,b2_1,b2_2,b2_3,b2_4,b2_5,()),()),()):de.T)
def fG{R:Type}(nx:de.T->Option R)(hx:lF R dw)(x8:List Ln)(x9:Int)(b0_0:Int)(b0_1:Int)(b0_2:Int)(b0_3:Int)(b0_4:Int)(b0_5:Int)(b1_0:Int)(b1_1:Int)(b1_2:Int)(b1_3:Int)(b2_0:Int)(b2_1:Int)(b2_2:Int)(b2_3:Int)(b2_4:Int)(b2_5:Int):Option R:=
 cond (decide (x9<(8:Int)))
 (Option.bind (bj ((b2_0,(b2_1,b2_2)),(b2_3,(b2_4,b2_5)))) fun y962=>
  Option.bind (dC y962 x9) fun y963=>
  Option.bind (bj ((b0_0,(b0_1,b0_2)),(b0_3,(b0_4,b0_5)))) fun y964=>
  Option.bind (bP (b1_0,(b1_1,(b1_2,b1_3)))) fun y965=>
  Option.bind (mf y963 y964 y965) fun y976=>
  cond y976
  (cond (decide ((((List.length x8)+(List.length [y963]))*32)<=70368744177664))
   (cond (decide (((List.length x8)+(List.length [y963]))<=70368744177664))
    (nx (ka (x8++ [y963]) (IntKind.wrap .i64 (x9+(1:Int))) b0_0 b0_1 b0_2 b0_3 b0_4 b0_5 b1_0 b1_1 b1_2 b1_3 b2_0 b2_1 b2_2 b2_3 b2_4 b2_5))
    none)
   none)
  (nx (ka x8 (IntKind.wrap .i64 (x9+(1:Int))) b0_0 b0_1 b0_2 b0_3 b0_4 b0_5 b1_0 b1_1 b1_2 b1_3 b2_0 b2_1 b2_2 b2_3 b2_4 b2_5)))
 (hx.1 (uM x8))
def rk{R:Type}(nx:de.T->Option R)(hx:lF R dw)(z:de.T):Option R:=fG nx hx z.1.2.2.2.1.1 z.1.2.2.2.2.1.1 z.2.1.1.1 z.2.1.1.2.1 z.2.1.1.2.2.1 z.2.1.1.2.2.2.1 z.2.1.1.2.2.2.2.1 z.2.1.1.2.2.2.2.2.1 z.2.1.2.1.1 z.2.1.2.1.2.1 z.2.1.2.1.2.2.1 z.2.1.2.1.2.2.2.1 z.2.1.2.2.1.1 z.2.1.2.2.1.2.1 z.2.1.2.2.1.2.2.1 z.2.1.2.2.1.2.2.2.1 z.2.1.2.2.1.2.2.2.2.1 z.2.1.2.2.1.2.2.2.2.2.1
theorem uX:cY @rk:=fun R nx hx z=>by
 show fG nx hx z.1.2.2.2.1.1 z.1.2.2.2.2.1.1 z.2.1.1.1 z.2.1.1.2.1 z.2.1.1.2.2.1 z.2.1.1.2.2.2.1 z.2.1.1.2.2.2.2.1 z.2.1.1.2.2.2.2.2.1 z.2.1.2.1.1 z.2.1.2.1.2.1 z.2.1.2.1.2.2.1 z.2.1.2.1.2.2.2.1 z.2.1.2.2.1.1 z.2.1.2.2.1.2.1 z.2.1.2.2.1.2.2.1 z.2.1.2.2.1.2.2.2.1 z.2.1.2.2.1.2.2.2.2.1 z.2.1.2.2.1.2.2.2.2.2.1=(fG (fun y=>some (.inl y)) (oM dw fun x=>some (.inr x)) z.1.2.2.2.1.1 z.1.2.2.2.2.1.1 z.2.1.1.1 z.2.1.1.2.1 z.2.1.1.2.2.1 z.2.1.1.2.2.2.1 z.2.1.1.2.2.2.2.1 z.2.1.1.2.2.2.2.2.1 z.2.1.2.1.1 z.2.1.2.1.2.1 z.2.1.2.1.2.2.1 z.2.1.2.1.2.2.2.1 z.2.1.2.2.1.1 z.2.1.2.2.1.2.1 z.2.1.2.2.1.2.2.1 z.2.1.2.2.1.2.2.2.1 z.2.1.2.2.1.2.2.2.2.1 z.2.1.2.2.1.2.2.2.2.2.1).bind (oH nx hx)
 unfold fG
 exact ae (ac fun _=>ac fun _=>ac fun _=>ac fun _=>ac fun _=>ae (ae (ae rfl rfl) rfl) rfl) rfl
def iq:de.T->Option (xb dw):=BJ @rk
theorem wL x8 x9 b0_0 b0_1 b0_2 b0_3 b0_4 b0_5 b1_0 b1_1 b1_2 b1_3 b2_0 b2_1 b2_2 b2_3 b2_4 b2_5:iq (ka x8 x9 b0_0 b0_1 b0_2 b0_3 b0_4 b0_5 b1_0 b1_1 b1_2 b1_3 b2_0 b2_1 b2_2 b2_3 b2_4 b2_5)=fG iq (oM dw some) x8 x9 b0_0 b0_1 b0_2 b0_3 b0_4 b0_5 b1_0 b1_1 b1_2 b1_3 b2_0 b2_1 b2_2 b2_3 b2_4 b2_5:=eU uX _
def mi:bQ:=⟨[3,4,5,8,9],[3,4,5],[8],[]⟩
def pi:fQ Rv:=⟨fun k=>match k with|6=>mi|_=>⟨[],[],[],[]⟩,fun k=>match k with|6=>some (cu de dw iq)|_=>none⟩
theorem FN(n:Nat)(z:de.T)(k:Ex->hZ->Option Rv):bL ⟨47,47⟩ mi (nG (ii C0 oZ) ⟨47,47⟩ pi 1 (aL Tryz.f204 5)) (n+1) (de.enc z) k=
 rk (fun y=>bL ⟨47,47⟩ mi (nG (ii C0 oZ) ⟨47,47⟩ pi 1 (aL Tryz.f204 5)) n (de.enc y) k) (hK k dw) z:=by kernel_rfl
theorem G5:aw (ii C0 oZ) ⟨47,47⟩ pi 1 (cp (bh Tryz.f204)):=by
 have hl:cp (bh Tryz.f204)=[aL Tryz.f204 5]:=by kernel_rfl
 rw[hl]
 exact aw.cons (n:=6) (lh:=mi) (S:=cu de dw iq) (by kernel_rfl) rfl rfl (cy uX FN)
  (aw.nil)
def lW{R:Type}(kx:(List Ln)×Int->Option R)(a0:Pt)(a1:Ln)(a2:Pt):Option R:=
 Option.bind (be a0) fun y941=>
 cond (!y941)
 (kx ([],(1:Int)))
 (Option.bind (bG a1) fun y942=>
  cond (!y942)
  (kx ([],(1:Int)))
  (Option.bind (be a2) fun y943=>
   cond (!y943)
   (kx ([],(1:Int)))
   (Option.bind (iq (ka [] (0:Int) a0.1.1 a0.1.2.1 a0.1.2.2 a0.2.1 a0.2.2.1 a0.2.2.2 a1.1 a1.2.1 a1.2.2.1 a1.2.2.2 a2.1.1 a2.1.2.1 a2.1.2.2 a2.2.1 a2.2.2.1 a2.2.2.2)) (pD dw
    (fun e977=>
     Option.bind (fq (e977.1.1.1:List Ln)) fun y979=>
     kx y979,())))))
def gG(a0:Pt)(a1:Ln)(a2:Pt):Option ((List Ln)×Int):=lW some a0 a1 a2
theorem Gn{R} kx a0 a1 a2: @lW R kx a0 a1 a2=(gG a0 a1 a2).bind kx:=by
 unfold gG lW
 exact ac fun _=>ae rfl (ac fun _=>ae rfl (ac fun _=>ae rfl (cE ⟨fun _=>ac fun _=>rfl,trivial⟩)))
abbrev zQ:af:=.fx [.val true yP, .val true yL, .val true yP] ((List Ln)×Int) (fun z=>gG z.1 z.2.1 z.2.2.1) (fun b=>(.tup [⟨false,[(.own yL b.1)]⟩,⟨false,[(.v (.int .i64 b.2))]⟩],[]))
theorem Hj:ag C0 204 zQ:=
 ag.fx (e:=false) (t:=oZ) (.cons fj (.cons gX (.cons fA (.cons nY (.cons kd (.cons Le (.cons C4 (.nil)))))))) mixed Tryz.func204 (by kernel_rfl) (by kernel_rfl) pi 1 G5 (fun z=>(by kernel_rfl:_=lW (fun b=>some (zQ.enc b)) z.1 z.2.1 z.2.2.1).trans (Gn _ z.1 z.2.1 z.2.2.1))
def tH{R:Type}(kx:Ln×Int->Option R)(a0:Int)(a1:Pt)(a2:Ln):Option R:=
 Option.bind (eJ (IntKind.wrap .i64 (a0+(4:Int)))) fun y1021=>
 Option.bind (bj y1021) fun y1022=>
 Option.bind (dc (IntKind.wrap .i64 (a2.1+(4:Int))) y1022) fun y1023=>
 Option.bind (dc (IntKind.wrap .i64 (a2.1+(4:Int))) a1) fun y1024=>
 Option.bind (di a2.2 y1024) fun y1025=>
 Option.bind (fT y1023) fun y1026=>
 cond y1026
 (Option.bind (fT y1025) fun y1027=>
  cond y1027
  (kx (((0:Int),((0:Int),((0:Int),(0:Int)))),(2:Int)))
  (kx (((0:Int),((0:Int),((0:Int),(0:Int)))),(0:Int))))
 (Option.bind (jA (IntKind.wrap .i64 (a0+(4:Int)))) fun y1028=>
  Option.bind (cJ y1025 y1028) fun y1029=>
  Option.bind (iO y1029 y1023) fun y1030=>
  Option.bind (dc (IntKind.wrap .i64 (a0+(4:Int))) a1) fun y1031=>
  Option.bind (jX y1030.1) fun y1032=>
  Option.bind (eH y1031 y1032) fun y1033=>
  kx ((a0,y1033),(1:Int)))
def jY(a0:Int)(a1:Pt)(a2:Ln):Option (Ln×Int):=tH some a0 a1 a2
theorem N2{R} kx a0 a1 a2: @tH R kx a0 a1 a2=(jY a0 a1 a2).bind kx:=by
 unfold jY tH
 exact ac fun _=>ac fun _=>ac fun _=>ac fun _=>ac fun _=>ac fun _=>ae (ac fun _=>ae rfl rfl) (ac fun _=>ac fun _=>ac fun _=>ac fun _=>ac fun _=>ac fun _=>rfl)
abbrev Cy:af:=.fx [.val false (.int .i64), .val true yP, .val true yL] (Ln×Int) (fun z=>jY z.1 z.2.1 z.2.2.1) (fun b=>(.tup [⟨true,[(.v (.int .i64 b.1.1)),(.v (.int .i64 b.1.2.1)),(.v (.int .i64 b.1.2.2.1)),(.v (.int .i64 b.1.2.2.2))]⟩,⟨false,[(.v (.int .i64 b.2))]⟩],[]))
theorem GX:ag C0 265 Cy:=
 ag.fx (e:=false) (.cons ql (.cons fA (.cons qk (.cons nX (.cons Az (.cons xE (.cons qj (.cons xB (.cons AA (.cons lQ (.nil))))))))))) mixed Tryz.func265 (by kernel_rfl) (by kernel_rfl) aj 1 ai (fun z=>(by kernel_rfl:_=tH (fun b=>some (Cy.enc b)) z.1 z.2.1 z.2.2.1).trans (N2 _ z.1 z.2.1 z.2.2.1))
def wS:List (FuncId×af):=[(120,ru),(121,tf),(140,By),(256,uc),(265,Cy),(218,zc),(215,xl),(263,zd)]
abbrev fi:LS:=⟨[(false,[(.ptr 4 0)]),(false,[(.ptr 5 0)]),(false,[(.ptr 6 0)]),(false,[(.ptr 7 0)]),(false,[(.own yL)]),(false,[(.int .i64)])],[(false,[(.int .i64),(.int .i64),(.int .i64),(.int .i64),(.int .i64),(.int .i64)]),(false,[(.int .i64),(.int .i64),(.int .i64),(.int .i64)]),(false,[(.int .i64),(.int .i64),(.int .i64),(.int .i64),(.int .i64),(.int .i64)]),(false,[(.int .i64),(.int .i64),(.int .i64),(.int .i64)])],[]⟩
abbrev Cg:LS:=⟨[(false,[(.own yL)])],[],[]⟩
abbrev B7 v0:=((((v0,()),()),(),()):Cg.T)
abbrev gf:List (Ex×LS):=[(.exit 0,Cg)]
abbrev bH x10(x11:Int)(b0_0:Int)(b0_1:Int)(b0_2:Int)(b0_3:Int)(b0_4:Int)(b0_5:Int)(b1_0:Int)(b1_1:Int)(b1_2:Int)(b1_3:Int)(b2_0:Int)(b2_1:Int)(b2_2:Int)(b2_3:Int)(b2_4:Int)(b2_5:Int)(b3_0:Int)(b3_1:Int)(b3_2:Int)(b3_3:Int):=(((((),()),((),()),((),()),((),()),(x10,()),(x11,()),()),((b0_0,b0_1,b0_2,b0_3,b0_4,b0_5,()),(b1_0,b1_1,b1_2,b1_3,()),(b2_0,b2_1,b2_2,b2_3,b2_4,b2_5,()),(b3_0,b3_1,b3_2,b3_3,()),()),()):fi.T)
def jG{R:Type}(nx:fi.T->Option R)(hx:lF R gf)(x10:List Ln)(x11:Int)(b0_0:Int)(b0_1:Int)(b0_2:Int)(b0_3:Int)(b0_4:Int)(b0_5:Int)(b1_0:Int)(b1_1:Int)(b1_2:Int)(b1_3:Int)(b2_0:Int)(b2_1:Int)(b2_2:Int)(b2_3:Int)(b2_4:Int)(b2_5:Int)(b3_0:Int)(b3_1:Int)(b3_2:Int)(b3_3:Int):Option R:=
 cond (decide (x11<(8:Int)))
 (Option.bind (bj ((b0_0,(b0_1,b0_2)),(b0_3,(b0_4,b0_5)))) fun y1016=>
  Option.bind (bP (b1_0,(b1_1,(b1_2,b1_3)))) fun y1017=>
  Option.bind (jY x11 y1016 y1017) fun y1034=>
  Option.bind (bj ((b2_0,(b2_1,b2_2)),(b2_3,(b2_4,b2_5)))) fun y1035=>
  Option.bind (bP (b3_0,(b3_1,(b3_2,b3_3)))) fun y1036=>
  Option.bind (jY x11 y1035 y1036) fun y1037=>
  cond (y1034.2==(1:Int))
  (cond (y1037.2==(2:Int))
   (cond (decide ((((List.length x10)+(List.length [y1034.1]))*32)<=70368744177664))
    (cond (decide (((List.length x10)+(List.length [y1034.1]))<=70368744177664))
     (nx (bH (x10++ [y1034.1]) (IntKind.wrap .i64 (x11+(1:Int))) b0_0 b0_1 b0_2 b0_3 b0_4 b0_5 b1_0 b1_1 b1_2 b1_3 b2_0 b2_1 b2_2 b2_3 b2_4 b2_5 b3_0 b3_1 b3_2 b3_3))
     none)
    none)
   (cond (y1034.2==(2:Int))
    (cond (y1037.2==(1:Int))
     (cond (decide ((((List.length x10)+(List.length [y1037.1]))*32)<=70368744177664))
      (cond (decide (((List.length x10)+(List.length [y1037.1]))<=70368744177664))
       (nx (bH (x10++ [y1037.1]) (IntKind.wrap .i64 (x11+(1:Int))) b0_0 b0_1 b0_2 b0_3 b0_4 b0_5 b1_0 b1_1 b1_2 b1_3 b2_0 b2_1 b2_2 b2_3 b2_4 b2_5 b3_0 b3_1 b3_2 b3_3))
       none)
      none)
     (cond (y1034.2==(1:Int))
      (cond (y1037.2==(1:Int))
       (Option.bind (di y1034.1.2 y1037.1.2) fun y1038=>
        Option.bind (fT y1038) fun y1039=>
        cond y1039
        (cond (decide ((((List.length x10)+(List.length [y1034.1]))*32)<=70368744177664))
         (cond (decide (((List.length x10)+(List.length [y1034.1]))<=70368744177664))
          (nx (bH (x10++ [y1034.1]) (IntKind.wrap .i64 (x11+(1:Int))) b0_0 b0_1 b0_2 b0_3 b0_4 b0_5 b1_0 b1_1 b1_2 b1_3 b2_0 b2_1 b2_2 b2_3 b2_4 b2_5 b3_0 b3_1 b3_2 b3_3))
          none)
         none)
        (nx (bH x10 (IntKind.wrap .i64 (x11+(1:Int))) b0_0 b0_1 b0_2 b0_3 b0_4 b0_5 b1_0 b1_1 b1_2 b1_3 b2_0 b2_1 b2_2 b2_3 b2_4 b2_5 b3_0 b3_1 b3_2 b3_3)))
       (nx (bH x10 (IntKind.wrap .i64 (x11+(1:Int))) b0_0 b0_1 b0_2 b0_3 b0_4 b0_5 b1_0 b1_1 b1_2 b1_3 b2_0 b2_1 b2_2 b2_3 b2_4 b2_5 b3_0 b3_1 b3_2 b3_3)))
      (nx (bH x10 (IntKind.wrap .i64 (x11+(1:Int))) b0_0 b0_1 b0_2 b0_3 b0_4 b0_5 b1_0 b1_1 b1_2 b1_3 b2_0 b2_1 b2_2 b2_3 b2_4 b2_5 b3_0 b3_1 b3_2 b3_3))))
    (cond (y1034.2==(1:Int))
     (cond (y1037.2==(1:Int))
      (Option.bind (di y1034.1.2 y1037.1.2) fun y1040=>
       Option.bind (fT y1040) fun y1041=>
       cond y1041
       (cond (decide ((((List.length x10)+(List.length [y1034.1]))*32)<=70368744177664))
        (cond (decide (((List.length x10)+(List.length [y1034.1]))<=70368744177664))
         (nx (bH (x10++ [y1034.1]) (IntKind.wrap .i64 (x11+(1:Int))) b0_0 b0_1 b0_2 b0_3 b0_4 b0_5 b1_0 b1_1 b1_2 b1_3 b2_0 b2_1 b2_2 b2_3 b2_4 b2_5 b3_0 b3_1 b3_2 b3_3))
         none)
        none)
       (nx (bH x10 (IntKind.wrap .i64 (x11+(1:Int))) b0_0 b0_1 b0_2 b0_3 b0_4 b0_5 b1_0 b1_1 b1_2 b1_3 b2_0 b2_1 b2_2 b2_3 b2_4 b2_5 b3_0 b3_1 b3_2 b3_3)))
      (nx (bH x10 (IntKind.wrap .i64 (x11+(1:Int))) b0_0 b0_1 b0_2 b0_3 b0_4 b0_5 b1_0 b1_1 b1_2 b1_3 b2_0 b2_1 b2_2 b2_3 b2_4 b2_5 b3_0 b3_1 b3_2 b3_3)))
     (nx (bH x10 (IntKind.wrap .i64 (x11+(1:Int))) b0_0 b0_1 b0_2 b0_3 b0_4 b0_5 b1_0 b1_1 b1_2 b1_3 b2_0 b2_1 b2_2 b2_3 b2_4 b2_5 b3_0 b3_1 b3_2 b3_3)))))
  (cond (y1034.2==(2:Int))
   (cond (y1037.2==(1:Int))
    (cond (decide ((((List.length x10)+(List.length [y1037.1]))*32)<=70368744177664))
     (cond (decide (((List.length x10)+(List.length [y1037.1]))<=70368744177664))
      (nx (bH (x10++ [y1037.1]) (IntKind.wrap .i64 (x11+(1:Int))) b0_0 b0_1 b0_2 b0_3 b0_4 b0_5 b1_0 b1_1 b1_2 b1_3 b2_0 b2_1 b2_2 b2_3 b2_4 b2_5 b3_0 b3_1 b3_2 b3_3))
      none)
     none)
    (cond (y1034.2==(1:Int))
     (cond (y1037.2==(1:Int))
      (Option.bind (di y1034.1.2 y1037.1.2) fun y1042=>
       Option.bind (fT y1042) fun y1043=>
       cond y1043
       (cond (decide ((((List.length x10)+(List.length [y1034.1]))*32)<=70368744177664))
        (cond (decide (((List.length x10)+(List.length [y1034.1]))<=70368744177664))
         (nx (bH (x10++ [y1034.1]) (IntKind.wrap .i64 (x11+(1:Int))) b0_0 b0_1 b0_2 b0_3 b0_4 b0_5 b1_0 b1_1 b1_2 b1_3 b2_0 b2_1 b2_2 b2_3 b2_4 b2_5 b3_0 b3_1 b3_2 b3_3))
         none)
        none)
       (nx (bH x10 (IntKind.wrap .i64 (x11+(1:Int))) b0_0 b0_1 b0_2 b0_3 b0_4 b0_5 b1_0 b1_1 b1_2 b1_3 b2_0 b2_1 b2_2 b2_3 b2_4 b2_5 b3_0 b3_1 b3_2 b3_3)))
      (nx (bH x10 (IntKind.wrap .i64 (x11+(1:Int))) b0_0 b0_1 b0_2 b0_3 b0_4 b0_5 b1_0 b1_1 b1_2 b1_3 b2_0 b2_1 b2_2 b2_3 b2_4 b2_5 b3_0 b3_1 b3_2 b3_3)))
     (nx (bH x10 (IntKind.wrap .i64 (x11+(1:Int))) b0_0 b0_1 b0_2 b0_3 b0_4 b0_5 b1_0 b1_1 b1_2 b1_3 b2_0 b2_1 b2_2 b2_3 b2_4 b2_5 b3_0 b3_1 b3_2 b3_3))))
   (cond (y1034.2==(1:Int))
    (cond (y1037.2==(1:Int))
     (Option.bind (di y1034.1.2 y1037.1.2) fun y1044=>
      Option.bind (fT y1044) fun y1045=>
      cond y1045
      (cond (decide ((((List.length x10)+(List.length [y1034.1]))*32)<=70368744177664))
       (cond (decide (((List.length x10)+(List.length [y1034.1]))<=70368744177664))
        (nx (bH (x10++ [y1034.1]) (IntKind.wrap .i64 (x11+(1:Int))) b0_0 b0_1 b0_2 b0_3 b0_4 b0_5 b1_0 b1_1 b1_2 b1_3 b2_0 b2_1 b2_2 b2_3 b2_4 b2_5 b3_0 b3_1 b3_2 b3_3))
        none)
       none)
      (nx (bH x10 (IntKind.wrap .i64 (x11+(1:Int))) b0_0 b0_1 b0_2 b0_3 b0_4 b0_5 b1_0 b1_1 b1_2 b1_3 b2_0 b2_1 b2_2 b2_3 b2_4 b2_5 b3_0 b3_1 b3_2 b3_3)))
     (nx (bH x10 (IntKind.wrap .i64 (x11+(1:Int))) b0_0 b0_1 b0_2 b0_3 b0_4 b0_5 b1_0 b1_1 b1_2 b1_3 b2_0 b2_1 b2_2 b2_3 b2_4 b2_5 b3_0 b3_1 b3_2 b3_3)))
    (nx (bH x10 (IntKind.wrap .i64 (x11+(1:Int))) b0_0 b0_1 b0_2 b0_3 b0_4 b0_5 b1_0 b1_1 b1_2 b1_3 b2_0 b2_1 b2_2 b2_3 b2_4 b2_5 b3_0 b3_1 b3_2 b3_3)))))
 (hx.1 (B7 x10))
def yH{R:Type}(nx:fi.T->Option R)(hx:lF R gf)(z:fi.T):Option R:=jG nx hx z.1.2.2.2.2.1.1 z.1.2.2.2.2.2.1.1 z.2.1.1.1 z.2.1.1.2.1 z.2.1.1.2.2.1 z.2.1.1.2.2.2.1 z.2.1.1.2.2.2.2.1 z.2.1.1.2.2.2.2.2.1 z.2.1.2.1.1 z.2.1.2.1.2.1 z.2.1.2.1.2.2.1 z.2.1.2.1.2.2.2.1 z.2.1.2.2.1.1 z.2.1.2.2.1.2.1 z.2.1.2.2.1.2.2.1 z.2.1.2.2.1.2.2.2.1 z.2.1.2.2.1.2.2.2.2.1 z.2.1.2.2.1.2.2.2.2.2.1 z.2.1.2.2.2.1.1 z.2.1.2.2.2.1.2.1 z.2.1.2.2.2.1.2.2.1 z.2.1.2.2.2.1.2.2.2.1
theorem CM:cY @yH:=fun R nx hx z=>by
 show jG nx hx z.1.2.2.2.2.1.1 z.1.2.2.2.2.2.1.1 z.2.1.1.1 z.2.1.1.2.1 z.2.1.1.2.2.1 z.2.1.1.2.2.2.1 z.2.1.1.2.2.2.2.1 z.2.1.1.2.2.2.2.2.1 z.2.1.2.1.1 z.2.1.2.1.2.1 z.2.1.2.1.2.2.1 z.2.1.2.1.2.2.2.1 z.2.1.2.2.1.1 z.2.1.2.2.1.2.1 z.2.1.2.2.1.2.2.1 z.2.1.2.2.1.2.2.2.1 z.2.1.2.2.1.2.2.2.2.1 z.2.1.2.2.1.2.2.2.2.2.1 z.2.1.2.2.2.1.1 z.2.1.2.2.2.1.2.1 z.2.1.2.2.2.1.2.2.1 z.2.1.2.2.2.1.2.2.2.1=(jG (fun y=>some (.inl y)) (oM gf fun x=>some (.inr x)) z.1.2.2.2.2.1.1 z.1.2.2.2.2.2.1.1 z.2.1.1.1 z.2.1.1.2.1 z.2.1.1.2.2.1 z.2.1.1.2.2.2.1 z.2.1.1.2.2.2.2.1 z.2.1.1.2.2.2.2.2.1 z.2.1.2.1.1 z.2.1.2.1.2.1 z.2.1.2.1.2.2.1 z.2.1.2.1.2.2.2.1 z.2.1.2.2.1.1 z.2.1.2.2.1.2.1 z.2.1.2.2.1.2.2.1 z.2.1.2.2.1.2.2.2.1 z.2.1.2.2.1.2.2.2.2.1 z.2.1.2.2.1.2.2.2.2.2.1 z.2.1.2.2.2.1.1 z.2.1.2.2.2.1.2.1 z.2.1.2.2.2.1.2.2.1 z.2.1.2.2.2.1.2.2.2.1).bind (oH nx hx)
 unfold jG
 exact ae (ac fun _=>ac fun _=>ac fun _=>ac fun _=>ac fun _=>ac fun _=>ae (ae (ae (ae rfl rfl) rfl) (ae (ae (ae (ae rfl rfl) rfl) (ae (ae (ac fun _=>ac fun _=>ae (ae (ae rfl rfl) rfl) rfl) rfl) rfl)) (ae (ae (ac fun _=>ac fun _=>ae (ae (ae rfl rfl) rfl) rfl) rfl) rfl))) (ae (ae (ae (ae rfl rfl) rfl) (ae (ae (ac fun _=>ac fun _=>ae (ae (ae rfl rfl) rfl) rfl) rfl) rfl)) (ae (ae (ac fun _=>ac fun _=>ae (ae (ae rfl rfl) rfl) rfl) rfl) rfl))) rfl
def nE:fi.T->Option (xb gf):=BJ @yH
theorem Ep x10 x11 b0_0 b0_1 b0_2 b0_3 b0_4 b0_5 b1_0 b1_1 b1_2 b1_3 b2_0 b2_1 b2_2 b2_3 b2_4 b2_5 b3_0 b3_1 b3_2 b3_3:nE (bH x10 x11 b0_0 b0_1 b0_2 b0_3 b0_4 b0_5 b1_0 b1_1 b1_2 b1_3 b2_0 b2_1 b2_2 b2_3 b2_4 b2_5 b3_0 b3_1 b3_2 b3_3)=jG nE (oM gf some) x10 x11 b0_0 b0_1 b0_2 b0_3 b0_4 b0_5 b1_0 b1_1 b1_2 b1_3 b2_0 b2_1 b2_2 b2_3 b2_4 b2_5 b3_0 b3_1 b3_2 b3_3:=eU CM _
def sJ:bQ:=⟨[4,5,6,7,10,11],[4,5,6,7],[10],[]⟩
def xh:fQ Rv:=⟨fun k=>match k with|6=>sJ|_=>⟨[],[],[],[]⟩,fun k=>match k with|6=>some (cu fi gf nE)|_=>none⟩
theorem M3(n:Nat)(z:fi.T)(k:Ex->hZ->Option Rv):bL ⟨102,102⟩ sJ (nG (ii C0 wS) ⟨102,102⟩ xh 1 (aL Tryz.f205 5)) (n+1) (fi.enc z) k=
 yH (fun y=>bL ⟨102,102⟩ sJ (nG (ii C0 wS) ⟨102,102⟩ xh 1 (aL Tryz.f205 5)) n (fi.enc y) k) (hK k gf) z:=by kernel_rfl
theorem Py:aw (ii C0 wS) ⟨102,102⟩ xh 1 (cp (bh Tryz.f205)):=by
 have hl:cp (bh Tryz.f205)=[aL Tryz.f205 5]:=by kernel_rfl
 rw[hl]
 exact aw.cons (n:=6) (lh:=sJ) (S:=cu fi gf nE) (by kernel_rfl) rfl rfl (cy CM M3)
  (aw.nil)
def tz{R:Type}(kx:(List Ln)×Int->Option R)(a0:Pt)(a1:Ln)(a2:Pt)(a3:Ln):Option R:=
 Option.bind (be a0) fun y990=>
 cond (!y990)
 (kx ([],(1:Int)))
 (Option.bind (bG a1) fun y991=>
  cond (!y991)
  (kx ([],(1:Int)))
  (Option.bind (be a2) fun y992=>
   cond (!y992)
   (kx ([],(1:Int)))
   (Option.bind (bG a3) fun y993=>
    cond (!y993)
    (kx ([],(1:Int)))
    (Option.bind (nE (bH [] (0:Int) a0.1.1 a0.1.2.1 a0.1.2.2 a0.2.1 a0.2.2.1 a0.2.2.2 a1.1 a1.2.1 a1.2.2.1 a1.2.2.2 a2.1.1 a2.1.2.1 a2.1.2.2 a2.2.1 a2.2.2.1 a2.2.2.2 a3.1 a3.2.1 a3.2.2.1 a3.2.2.2)) (pD gf
     (fun e1046=>
      Option.bind (fq (e1046.1.1.1:List Ln)) fun y1048=>
      kx y1048,()))))))
def nP(a0:Pt)(a1:Ln)(a2:Pt)(a3:Ln):Option ((List Ln)×Int):=tz some a0 a1 a2 a3
theorem NQ{R} kx a0 a1 a2 a3: @tz R kx a0 a1 a2 a3=(nP a0 a1 a2 a3).bind kx:=by
 unfold nP tz
 exact ac fun _=>ae rfl (ac fun _=>ae rfl (ac fun _=>ae rfl (ac fun _=>ae rfl (cE ⟨fun _=>ac fun _=>rfl,trivial⟩))))
abbrev HP:af:=.fx [.val true yP, .val true yL, .val true yP, .val true yL] ((List Ln)×Int) (fun z=>nP z.1 z.2.1 z.2.2.1 z.2.2.2.1) (fun b=>(.tup [⟨false,[(.own yL b.1)]⟩,⟨false,[(.v (.int .i64 b.2))]⟩],[]))
theorem Qd:ag C0 205 HP:=
 ag.fx (e:=false) (t:=wS) (.cons fj (.cons gX (.cons fA (.cons kd (.cons GX (.cons nX (.cons Az (.cons C4 (.nil))))))))) mixed Tryz.func205 (by kernel_rfl) (by kernel_rfl) xh 1 Py (fun z=>(by kernel_rfl:_=tz (fun b=>some (HP.enc b)) z.1 z.2.1 z.2.2.1 z.2.2.2.1).trans (NQ _ z.1 z.2.1 z.2.2.1 z.2.2.2.1))
def pz{R:Type}(kx:Ln×Int->Option R)(a0:Pt)(a1:Ln)(a2:Ln):Option R:=
 Option.bind (be a0) fun y1057=>
 cond (!y1057)
 (kx (((0:Int),((0:Int),((0:Int),(0:Int)))),(1:Int)))
 (Option.bind (bG a1) fun y1058=>
  cond (!y1058)
  (kx (((0:Int),((0:Int),((0:Int),(0:Int)))),(1:Int)))
  (Option.bind (bG a2) fun y1059=>
   cond (!y1059)
   (kx (((0:Int),((0:Int),((0:Int),(0:Int)))),(1:Int)))
   (cond (a1.1==a2.1)
    (kx (((0:Int),((0:Int),((0:Int),(0:Int)))),(7:Int)))
    (Option.bind (bj a0) fun y1060=>
     Option.bind (bP a1) fun y1061=>
     Option.bind (jY (Int.tmod (IntKind.wrap .i64 (a2.1+(4:Int))) (8:Int)) y1060 y1061) fun y1062=>
     Option.bind (nk y1062.1) fun y1063=>
     kx y1063))))
def jW(a0:Pt)(a1:Ln)(a2:Ln):Option (Ln×Int):=pz some a0 a1 a2
theorem Jm{R} kx a0 a1 a2: @pz R kx a0 a1 a2=(jW a0 a1 a2).bind kx:=by
 unfold jW pz
 exact ac fun _=>ae rfl (ac fun _=>ae rfl (ac fun _=>ae rfl (ae rfl (ac fun _=>ac fun _=>ac fun _=>ac fun _=>rfl))))
abbrev DY:af:=.fx [.val true yP, .val true yL, .val true yL] (Ln×Int) (fun z=>jW z.1 z.2.1 z.2.2.1) (fun b=>(.tup [⟨true,[(.v (.int .i64 b.1.1)),(.v (.int .i64 b.1.2.1)),(.v (.int .i64 b.1.2.2.1)),(.v (.int .i64 b.1.2.2.2))]⟩,⟨false,[(.v (.int .i64 b.2))]⟩],[]))
theorem Ld:ag C0 206 DY:=
 ag.fx (e:=false) (.cons fj (.cons gX (.cons fA (.cons kd (.cons GX (.cons C5 (.nil))))))) mixed Tryz.func206 (by kernel_rfl) (by kernel_rfl) aj 1 ai (fun z=>(by kernel_rfl:_=pz (fun b=>some (DY.enc b)) z.1 z.2.1 z.2.2.1).trans (Jm _ z.1 z.2.1 z.2.2.1))
def xQ{R:Type}(kx:It×Int->Option R)(a0:Cn)(a1:(List It)):Option R:=
 cond (a0.2.1==(1:Int))
 (Option.bind (dl a0.2.2.2.2.1 (0:Int)) fun y548=>
  kx y548)
 (cond (a0.2.1==(2:Int))
  (Option.bind (cC a0.2.2.2.2.2 (0:Int)) fun y551=>
   kx y551)
  (cond (a0.2.1==(3:Int))
   (Option.bind (fY a1 (0:Int)) fun y552=>
    Option.bind (fY a1 (1:Int)) fun y553=>
    Option.bind (lm y552.2.2.2 y553.2.2.2) fun y703=>
    Option.bind (dl y703.1 y703.2) fun y704=>
    kx y704)
   (cond (a0.2.1==(4:Int))
    (Option.bind (fY a1 (0:Int)) fun y705=>
     Option.bind (fY a1 (1:Int)) fun y706=>
     Option.bind (mE y705.2.2.1 y706.2.2.1) fun y718=>
     Option.bind (gH y718.2) fun y720=>
     Option.bind (dl y718.1 y720) fun y721=>
     kx y721)
    (cond (a0.2.1==(5:Int))
     (Option.bind (fY a1 (1:Int)) fun y722=>
      cond y722.2.1
      (Option.bind (fY a1 (0:Int)) fun y723=>
       Option.bind (fY a1 (1:Int)) fun y724=>
       Option.bind (jh y723.2.2.2 y724.2.2.2) fun y775=>
       Option.bind (gH y775.2) fun y776=>
       Option.bind (cC y775.1 y776) fun y777=>
       kx y777)
      (Option.bind (fY a1 (0:Int)) fun y778=>
       Option.bind (fY a1 (1:Int)) fun y779=>
       Option.bind (iA y778.2.2.2 y779.2.2.1) fun y788=>
       Option.bind (gH y788.2) fun y789=>
       Option.bind (dl y788.1 y789) fun y790=>
       kx y790))
     (cond (a0.2.1==(6:Int))
      (Option.bind (fY a1 (0:Int)) fun y791=>
       Option.bind (fY a1 (1:Int)) fun y792=>
       Option.bind (lk y791.2.2.1 y792.2.2.1) fun y842=>
       Option.bind (cC y842.1 y842.2) fun y843=>
       kx y843)
      (cond (a0.2.1==(7:Int))
       (Option.bind (fY a1 (0:Int)) fun y844=>
        Option.bind (fY a1 (1:Int)) fun y845=>
        Option.bind (mD y844.2.2.1 y845.2.2.1) fun y865=>
        Option.bind (cC y865.1 y865.2) fun y866=>
        kx y866)
       (cond (a0.2.1==(8:Int))
        (Option.bind (fY a1 (0:Int)) fun y867=>
         Option.bind (fY a1 (1:Int)) fun y868=>
         Option.bind (lj y867.2.2.2 y868.2.2.2) fun y917=>
         Option.bind (fU y917.1 y917.2 a0.2.2.2.1) fun y923=>
         kx y923)
        (cond (a0.2.1==(9:Int))
         (Option.bind (fY a1 (0:Int)) fun y924=>
          Option.bind (fY a1 (1:Int)) fun y925=>
          Option.bind (eG y924.2.2.2 y925.2.2.1) fun y933=>
          Option.bind (cC y933.1 y933.2) fun y934=>
          kx y934)
         (cond (a0.2.1==(10:Int))
          (Option.bind (fY a1 (0:Int)) fun y935=>
           Option.bind (fY a1 (1:Int)) fun y936=>
           Option.bind (fY a1 (2:Int)) fun y937=>
           Option.bind (gG y935.2.2.1 y936.2.2.2 y937.2.2.1) fun y980=>
           Option.bind (fU y980.1 y980.2 a0.2.2.2.1) fun y981=>
           kx y981)
          (cond (a0.2.1==(11:Int))
           (Option.bind (fY a1 (0:Int)) fun y982=>
            Option.bind (fY a1 (1:Int)) fun y983=>
            Option.bind (fY a1 (2:Int)) fun y984=>
            Option.bind (fY a1 (3:Int)) fun y985=>
            Option.bind (nP y982.2.2.1 y983.2.2.2 y984.2.2.1 y985.2.2.2) fun y1049=>
            Option.bind (fU y1049.1 y1049.2 a0.2.2.2.1) fun y1050=>
            kx y1050)
           (Option.bind (fY a1 (0:Int)) fun y1051=>
            Option.bind (fY a1 (1:Int)) fun y1052=>
            Option.bind (fY a1 (2:Int)) fun y1053=>
            Option.bind (jW y1051.2.2.1 y1052.2.2.2 y1053.2.2.2) fun y1064=>
            Option.bind (cC y1064.1 y1064.2) fun y1065=>
            kx y1065)))))))))))
def cL(a0:Cn)(a1:(List It)):Option (It×Int):=xQ some a0 a1
theorem N6{R} kx a0 a1: @xQ R kx a0 a1=(cL a0 a1).bind kx:=by
 unfold cL xQ
 exact ae (ac fun _=>rfl) (ae (ac fun _=>rfl) (ae (ac fun _=>ac fun _=>ac fun _=>ac fun _=>rfl) (ae (ac fun _=>ac fun _=>ac fun _=>ac fun _=>ac fun _=>rfl) (ae (ac fun _=>ae (ac fun _=>ac fun _=>ac fun _=>ac fun _=>ac fun _=>rfl) (ac fun _=>ac fun _=>ac fun _=>ac fun _=>ac fun _=>rfl)) (ae (ac fun _=>ac fun _=>ac fun _=>ac fun _=>rfl) (ae (ac fun _=>ac fun _=>ac fun _=>ac fun _=>rfl) (ae (ac fun _=>ac fun _=>ac fun _=>ac fun _=>rfl) (ae (ac fun _=>ac fun _=>ac fun _=>ac fun _=>rfl) (ae (ac fun _=>ac fun _=>ac fun _=>ac fun _=>ac fun _=>rfl) (ae (ac fun _=>ac fun _=>ac fun _=>ac fun _=>ac fun _=>ac fun _=>rfl) (ac fun _=>ac fun _=>ac fun _=>ac fun _=>ac fun _=>rfl)))))))))))
abbrev CB:af:=.fx [.ptr yC, .val false (.slice yI)] (It×Int) (fun z=>cL z.1 z.2.1) (fun b=>(.tup [⟨true,[(.v (.string b.1.1)),(.v (.bool b.1.2.1)),(.v (.int .i64 b.1.2.2.1.1.1)),(.v (.int .i64 b.1.2.2.1.1.2.1)),(.v (.int .i64 b.1.2.2.1.1.2.2)),(.v (.int .i64 b.1.2.2.1.2.1)),(.v (.int .i64 b.1.2.2.1.2.2.1)),(.v (.int .i64 b.1.2.2.1.2.2.2)),(.v (.int .i64 b.1.2.2.2.1)),(.v (.int .i64 b.1.2.2.2.2.1)),(.v (.int .i64 b.1.2.2.2.2.2.1)),(.v (.int .i64 b.1.2.2.2.2.2.2))]⟩,⟨false,[(.v (.int .i64 b.2))]⟩],[]))
theorem Qk:ag C0 124 CB:=
 ag.fx (e:=false) (.cons JD (.cons Lf (.cons MS (.cons Oj (.cons Qi (.cons JC (.cons IB (.cons JA (.cons Oi (.cons MR (.cons Om (.cons Dl (.cons Hj (.cons Qd (.cons Ld (.nil)))))))))))))))) mixed Tryz.func124 (by kernel_rfl) (by kernel_rfl) aj 1 ai (fun z=>(by kernel_rfl:_=xQ (fun b=>some (CB.enc b)) z.1 z.2.1).trans (N6 _ z.1 z.2.1))
def tS:List (FuncId×af):=[(122,Gf),(123,Aq),(124,CB)]
abbrev iU:LS:=⟨[(false,[(.sl yI)]),(false,[(.ptr 107 0)]),(false,[(.own yI)]),(false,[(.int .i64)])],[(true,[.str,(.int .i64),(.sl .str),(.int .i64),(.int .i64),(.int .i64),(.int .i64),(.int .i64),(.int .i64),(.int .i64),(.int .i64),(.int .i64),(.int .i64),(.int .i64)])],[]⟩
abbrev E5:LS:=⟨[(false,[(.sl yI)]),(false,[(.ptr 107 0)]),(false,[(.own yI)]),(false,[(.int .i64)]),(false,[(.own yI)])],[(true,[.str,(.int .i64),(.sl .str),(.int .i64),(.int .i64),(.int .i64),(.int .i64),(.int .i64),(.int .i64),(.int .i64),(.int .i64),(.int .i64),(.int .i64),(.int .i64)])],[]⟩
abbrev EX v0 v1(v2:Int) v3(v4:ByteArray)(v5:Int)(v6:List ByteArray)(v7:Int)(v8:Int)(v9:Int)(v10:Int)(v11:Int)(v12:Int)(v13:Int)(v14:Int)(v15:Int)(v16:Int)(v17:Int):=((((v0,()),((),()),(v1,()),(v2,()),(v3,()),()),((v4,v5,v6,v7,v8,v9,v10,v11,v12,v13,v14,v15,v16,v17,()),()),()):E5.T)
abbrev E6:LS:=⟨[(false,[(.sl yI)]),(false,[(.ptr 107 0)]),(false,[.undef]),(false,[.undef]),(false,[(.own yI)])],[(true,[.str,(.int .i64),(.sl .str),(.int .i64),(.int .i64),(.int .i64),(.int .i64),(.int .i64),(.int .i64),(.int .i64),(.int .i64),(.int .i64),(.int .i64),(.int .i64)])],[]⟩
abbrev EY v0 v1(v2:ByteArray)(v3:Int)(v4:List ByteArray)(v5:Int)(v6:Int)(v7:Int)(v8:Int)(v9:Int)(v10:Int)(v11:Int)(v12:Int)(v13:Int)(v14:Int)(v15:Int):=((((v0,()),((),()),((),()),((),()),(v1,()),()),((v2,v3,v4,v5,v6,v7,v8,v9,v10,v11,v12,v13,v14,v15,()),()),()):E6.T)
abbrev ko:List (Ex×LS):=[(.ret,E5),(.exit 0,E6)]
abbrev nV x0 x6(x7:Int)(b0_0:ByteArray)(b0_1:Int)(b0_2:List ByteArray)(b0_3:Int)(b0_4:Int)(b0_5:Int)(b0_6:Int)(b0_7:Int)(b0_8:Int)(b0_9:Int)(b0_10:Int)(b0_11:Int)(b0_12:Int)(b0_13:Int):=((((x0,()),((),()),(x6,()),(x7,()),()),((b0_0,b0_1,b0_2,b0_3,b0_4,b0_5,b0_6,b0_7,b0_8,b0_9,b0_10,b0_11,b0_12,b0_13,()),()),()):iU.T)
def ov{R:Type}(nx:iU.T->Option R)(hx:lF R ko)(x0:List It)(x6:List It)(x7:Int)(b0_0:ByteArray)(b0_1:Int)(b0_2:List ByteArray)(b0_3:Int)(b0_4:Int)(b0_5:Int)(b0_6:Int)(b0_7:Int)(b0_8:Int)(b0_9:Int)(b0_10:Int)(b0_11:Int)(b0_12:Int)(b0_13:Int):Option R:=
 cond (decide (x7<((List.length b0_2:Nat):Int)))
 (Option.bind (fY b0_2 x7) fun y446=>
  Option.bind (qV x0 y446) fun y447=>
  cond (decide (y447<(0:Int)))
  (hx.1 (EX x0 [] (3:Int) x6 b0_0 b0_1 b0_2 b0_3 b0_4 b0_5 b0_6 b0_7 b0_8 b0_9 b0_10 b0_11 b0_12 b0_13))
  (Option.bind (fY x0 y447) fun y448=>
   cond (decide ((((List.length x6)+(List.length [y448]))*104)<=70368744177664))
   (cond (decide (((List.length x6)+(List.length [y448]))<=70368744177664))
    (nx (nV x0 (x6++ [y448]) (IntKind.wrap .i64 (x7+(1:Int))) b0_0 b0_1 b0_2 b0_3 b0_4 b0_5 b0_6 b0_7 b0_8 b0_9 b0_10 b0_11 b0_12 b0_13))
    none)
   none))
 (hx.2.1 (EY x0 x6 b0_0 b0_1 b0_2 b0_3 b0_4 b0_5 b0_6 b0_7 b0_8 b0_9 b0_10 b0_11 b0_12 b0_13))
def C9{R:Type}(nx:iU.T->Option R)(hx:lF R ko)(z:iU.T):Option R:=ov nx hx z.1.1.1 z.1.2.2.1.1 z.1.2.2.2.1.1 z.2.1.1.1 z.2.1.1.2.1 z.2.1.1.2.2.1 z.2.1.1.2.2.2.1 z.2.1.1.2.2.2.2.1 z.2.1.1.2.2.2.2.2.1 z.2.1.1.2.2.2.2.2.2.1 z.2.1.1.2.2.2.2.2.2.2.1 z.2.1.1.2.2.2.2.2.2.2.2.1 z.2.1.1.2.2.2.2.2.2.2.2.2.1 z.2.1.1.2.2.2.2.2.2.2.2.2.2.1 z.2.1.1.2.2.2.2.2.2.2.2.2.2.2.1 z.2.1.1.2.2.2.2.2.2.2.2.2.2.2.2.1 z.2.1.1.2.2.2.2.2.2.2.2.2.2.2.2.2.1
theorem FD:cY @C9:=fun R nx hx z=>by
 show ov nx hx z.1.1.1 z.1.2.2.1.1 z.1.2.2.2.1.1 z.2.1.1.1 z.2.1.1.2.1 z.2.1.1.2.2.1 z.2.1.1.2.2.2.1 z.2.1.1.2.2.2.2.1 z.2.1.1.2.2.2.2.2.1 z.2.1.1.2.2.2.2.2.2.1 z.2.1.1.2.2.2.2.2.2.2.1 z.2.1.1.2.2.2.2.2.2.2.2.1 z.2.1.1.2.2.2.2.2.2.2.2.2.1 z.2.1.1.2.2.2.2.2.2.2.2.2.2.1 z.2.1.1.2.2.2.2.2.2.2.2.2.2.2.1 z.2.1.1.2.2.2.2.2.2.2.2.2.2.2.2.1 z.2.1.1.2.2.2.2.2.2.2.2.2.2.2.2.2.1=(ov (fun y=>some (.inl y)) (oM ko fun x=>some (.inr x)) z.1.1.1 z.1.2.2.1.1 z.1.2.2.2.1.1 z.2.1.1.1 z.2.1.1.2.1 z.2.1.1.2.2.1 z.2.1.1.2.2.2.1 z.2.1.1.2.2.2.2.1 z.2.1.1.2.2.2.2.2.1 z.2.1.1.2.2.2.2.2.2.1 z.2.1.1.2.2.2.2.2.2.2.1 z.2.1.1.2.2.2.2.2.2.2.2.1 z.2.1.1.2.2.2.2.2.2.2.2.2.1 z.2.1.1.2.2.2.2.2.2.2.2.2.2.1 z.2.1.1.2.2.2.2.2.2.2.2.2.2.2.1 z.2.1.1.2.2.2.2.2.2.2.2.2.2.2.2.1 z.2.1.1.2.2.2.2.2.2.2.2.2.2.2.2.2.1).bind (oH nx hx)
 unfold ov
 exact ae (ac fun _=>ac fun _=>ae rfl (ac fun _=>ae (ae rfl rfl) rfl)) rfl
def kk:iU.T->Option (xb ko):=BJ @C9
theorem G1 x0 x6 x7 b0_0 b0_1 b0_2 b0_3 b0_4 b0_5 b0_6 b0_7 b0_8 b0_9 b0_10 b0_11 b0_12 b0_13:kk (nV x0 x6 x7 b0_0 b0_1 b0_2 b0_3 b0_4 b0_5 b0_6 b0_7 b0_8 b0_9 b0_10 b0_11 b0_12 b0_13)=ov kk (oM ko some) x0 x6 x7 b0_0 b0_1 b0_2 b0_3 b0_4 b0_5 b0_6 b0_7 b0_8 b0_9 b0_10 b0_11 b0_12 b0_13:=eU FD _
def vR:bQ:=⟨[0,1,6,7],[107],[0,1,4,5,6],[107]⟩
abbrev gW:LS:=⟨[(false,[(.sl yI)]),(false,[(.ptr 107 0)]),(false,[(.own yI)]),(false,[(.int .i64)])],[(true,[.str,(.int .i64),(.sl .str),(.int .i64),(.int .i64),(.int .i64),(.int .i64),(.int .i64),(.int .i64),(.int .i64),(.int .i64),(.int .i64),(.int .i64),(.int .i64)])],[]⟩
abbrev DI:LS:=⟨[(false,[(.sl yI)]),(false,[(.ptr 107 0)]),(false,[(.own yI)]),(false,[(.int .i64)]),(false,[(.own yI)])],[(true,[.str,(.int .i64),(.sl .str),(.int .i64),(.int .i64),(.int .i64),(.int .i64),(.int .i64),(.int .i64),(.int .i64),(.int .i64),(.int .i64),(.int .i64),(.int .i64)])],[]⟩
abbrev pe v0 v1(v2:Int) v3(v4:ByteArray)(v5:Int)(v6:List ByteArray)(v7:Int)(v8:Int)(v9:Int)(v10:Int)(v11:Int)(v12:Int)(v13:Int)(v14:Int)(v15:Int)(v16:Int)(v17:Int):=((((v0,()),((),()),(v1,()),(v2,()),(v3,()),()),((v4,v5,v6,v7,v8,v9,v10,v11,v12,v13,v14,v15,v16,v17,()),()),()):DI.T)
abbrev DJ:LS:=⟨[(false,[(.sl yI)]),(false,[(.ptr 107 0)]),(false,[.undef]),(false,[.undef]),(false,[(.own yI)])],[(true,[.str,(.int .i64),(.sl .str),(.int .i64),(.int .i64),(.int .i64),(.int .i64),(.int .i64),(.int .i64),(.int .i64),(.int .i64),(.int .i64),(.int .i64),(.int .i64)])],[]⟩
abbrev wX v0 v1(v2:ByteArray)(v3:Int)(v4:List ByteArray)(v5:Int)(v6:Int)(v7:Int)(v8:Int)(v9:Int)(v10:Int)(v11:Int)(v12:Int)(v13:Int)(v14:Int)(v15:Int):=((((v0,()),((),()),((),()),((),()),(v1,()),()),((v2,v3,v4,v5,v6,v7,v8,v9,v10,v11,v12,v13,v14,v15,()),()),()):DJ.T)
abbrev jd:List (Ex×LS):=[(.ret,DI),(.exit 2,DJ)]
abbrev kz x0 x6(x9:Int)(b0_0:ByteArray)(b0_1:Int)(b0_2:List ByteArray)(b0_3:Int)(b0_4:Int)(b0_5:Int)(b0_6:Int)(b0_7:Int)(b0_8:Int)(b0_9:Int)(b0_10:Int)(b0_11:Int)(b0_12:Int)(b0_13:Int):=((((x0,()),((),()),(x6,()),(x9,()),()),((b0_0,b0_1,b0_2,b0_3,b0_4,b0_5,b0_6,b0_7,b0_8,b0_9,b0_10,b0_11,b0_12,b0_13,()),()),()):gW.T)
def mO{R:Type}(nx:gW.T->Option R)(hx:lF R jd)(x0:List It)(x6:List It)(x9:Int)(b0_0:ByteArray)(b0_1:Int)(b0_2:List ByteArray)(b0_3:Int)(b0_4:Int)(b0_5:Int)(b0_6:Int)(b0_7:Int)(b0_8:Int)(b0_9:Int)(b0_10:Int)(b0_11:Int)(b0_12:Int)(b0_13:Int):Option R:=
 cond (decide (x9<((List.length x6:Nat):Int)))
 (Option.bind mF fun y502=>
  Option.bind (fY y502 b0_1) fun y503=>
  Option.bind (Am y503 x9) fun y504=>
  cond ((((UInt8.toNat y504):Nat):Int)==(112:Int))
  (Option.bind (fY x6 x9) fun y505=>
   cond y505.2.1
   (hx.1 (pe x0 [] (6:Int) x6 b0_0 b0_1 b0_2 b0_3 b0_4 b0_5 b0_6 b0_7 b0_8 b0_9 b0_10 b0_11 b0_12 b0_13))
   (cond ((((UInt8.toNat y504):Nat):Int)==(108:Int))
    (Option.bind (fY x6 x9) fun y506=>
     cond (!y506.2.1)
     (hx.1 (pe x0 [] (6:Int) x6 b0_0 b0_1 b0_2 b0_3 b0_4 b0_5 b0_6 b0_7 b0_8 b0_9 b0_10 b0_11 b0_12 b0_13))
     (nx (kz x0 x6 (IntKind.wrap .i64 (x9+(1:Int))) b0_0 b0_1 b0_2 b0_3 b0_4 b0_5 b0_6 b0_7 b0_8 b0_9 b0_10 b0_11 b0_12 b0_13)))
    (nx (kz x0 x6 (IntKind.wrap .i64 (x9+(1:Int))) b0_0 b0_1 b0_2 b0_3 b0_4 b0_5 b0_6 b0_7 b0_8 b0_9 b0_10 b0_11 b0_12 b0_13))))
  (cond ((((UInt8.toNat y504):Nat):Int)==(108:Int))
   (Option.bind (fY x6 x9) fun y507=>
    cond (!y507.2.1)
    (hx.1 (pe x0 [] (6:Int) x6 b0_0 b0_1 b0_2 b0_3 b0_4 b0_5 b0_6 b0_7 b0_8 b0_9 b0_10 b0_11 b0_12 b0_13))
    (nx (kz x0 x6 (IntKind.wrap .i64 (x9+(1:Int))) b0_0 b0_1 b0_2 b0_3 b0_4 b0_5 b0_6 b0_7 b0_8 b0_9 b0_10 b0_11 b0_12 b0_13)))
   (nx (kz x0 x6 (IntKind.wrap .i64 (x9+(1:Int))) b0_0 b0_1 b0_2 b0_3 b0_4 b0_5 b0_6 b0_7 b0_8 b0_9 b0_10 b0_11 b0_12 b0_13))))
 (hx.2.1 (wX x0 x6 b0_0 b0_1 b0_2 b0_3 b0_4 b0_5 b0_6 b0_7 b0_8 b0_9 b0_10 b0_11 b0_12 b0_13))
def AJ{R:Type}(nx:gW.T->Option R)(hx:lF R jd)(z:gW.T):Option R:=mO nx hx z.1.1.1 z.1.2.2.1.1 z.1.2.2.2.1.1 z.2.1.1.1 z.2.1.1.2.1 z.2.1.1.2.2.1 z.2.1.1.2.2.2.1 z.2.1.1.2.2.2.2.1 z.2.1.1.2.2.2.2.2.1 z.2.1.1.2.2.2.2.2.2.1 z.2.1.1.2.2.2.2.2.2.2.1 z.2.1.1.2.2.2.2.2.2.2.2.1 z.2.1.1.2.2.2.2.2.2.2.2.2.1 z.2.1.1.2.2.2.2.2.2.2.2.2.2.1 z.2.1.1.2.2.2.2.2.2.2.2.2.2.2.1 z.2.1.1.2.2.2.2.2.2.2.2.2.2.2.2.1 z.2.1.1.2.2.2.2.2.2.2.2.2.2.2.2.2.1
theorem Ec:cY @AJ:=fun R nx hx z=>by
 show mO nx hx z.1.1.1 z.1.2.2.1.1 z.1.2.2.2.1.1 z.2.1.1.1 z.2.1.1.2.1 z.2.1.1.2.2.1 z.2.1.1.2.2.2.1 z.2.1.1.2.2.2.2.1 z.2.1.1.2.2.2.2.2.1 z.2.1.1.2.2.2.2.2.2.1 z.2.1.1.2.2.2.2.2.2.2.1 z.2.1.1.2.2.2.2.2.2.2.2.1 z.2.1.1.2.2.2.2.2.2.2.2.2.1 z.2.1.1.2.2.2.2.2.2.2.2.2.2.1 z.2.1.1.2.2.2.2.2.2.2.2.2.2.2.1 z.2.1.1.2.2.2.2.2.2.2.2.2.2.2.2.1 z.2.1.1.2.2.2.2.2.2.2.2.2.2.2.2.2.1=(mO (fun y=>some (.inl y)) (oM jd fun x=>some (.inr x)) z.1.1.1 z.1.2.2.1.1 z.1.2.2.2.1.1 z.2.1.1.1 z.2.1.1.2.1 z.2.1.1.2.2.1 z.2.1.1.2.2.2.1 z.2.1.1.2.2.2.2.1 z.2.1.1.2.2.2.2.2.1 z.2.1.1.2.2.2.2.2.2.1 z.2.1.1.2.2.2.2.2.2.2.1 z.2.1.1.2.2.2.2.2.2.2.2.1 z.2.1.1.2.2.2.2.2.2.2.2.2.1 z.2.1.1.2.2.2.2.2.2.2.2.2.2.1 z.2.1.1.2.2.2.2.2.2.2.2.2.2.2.1 z.2.1.1.2.2.2.2.2.2.2.2.2.2.2.2.1 z.2.1.1.2.2.2.2.2.2.2.2.2.2.2.2.2.1).bind (oH nx hx)
 unfold mO
 exact ae (ac fun _=>ac fun _=>ac fun _=>ae (ac fun _=>ae rfl (ae (ac fun _=>ae rfl rfl) rfl)) (ae (ac fun _=>ae rfl rfl) rfl)) rfl
def mR:gW.T->Option (xb jd):=BJ @AJ
theorem FT x0 x6 x9 b0_0 b0_1 b0_2 b0_3 b0_4 b0_5 b0_6 b0_7 b0_8 b0_9 b0_10 b0_11 b0_12 b0_13:mR (kz x0 x6 x9 b0_0 b0_1 b0_2 b0_3 b0_4 b0_5 b0_6 b0_7 b0_8 b0_9 b0_10 b0_11 b0_12 b0_13)=mO mR (oM jd some) x0 x6 x9 b0_0 b0_1 b0_2 b0_3 b0_4 b0_5 b0_6 b0_7 b0_8 b0_9 b0_10 b0_11 b0_12 b0_13:=eU Ec _
def uk:bQ:=⟨[0,1,6,9],[107],[0,1,4,5,6],[107]⟩
def tZ:fQ Rv:=⟨fun k=>match k with|8=>vR|15=>uk|_=>⟨[],[],[],[]⟩,fun k=>match k with|8=>some (cu iU ko kk)|15=>some (cu gW jd mR)|_=>none⟩
theorem Qo(n:Nat)(z:iU.T)(k:Ex->hZ->Option Rv):bL ⟨107,108⟩ vR (nG (ii C0 tS) ⟨107,108⟩ tZ 1 (aL Tryz.f58 7)) (n+1) (iU.enc z) k=
 C9 (fun y=>bL ⟨107,108⟩ vR (nG (ii C0 tS) ⟨107,108⟩ tZ 1 (aL Tryz.f58 7)) n (iU.enc y) k) (hK k ko) z:=by kernel_rfl
theorem Oy(n:Nat)(z:gW.T)(k:Ex->hZ->Option Rv):bL ⟨107,108⟩ uk (nG (ii C0 tS) ⟨107,108⟩ tZ 1 (aL Tryz.f58 14)) (n+1) (gW.enc z) k=
 AJ (fun y=>bL ⟨107,108⟩ uk (nG (ii C0 tS) ⟨107,108⟩ tZ 1 (aL Tryz.f58 14)) n (gW.enc y) k) (hK k jd) z:=by kernel_rfl
theorem SQ:aw (ii C0 tS) ⟨107,108⟩ tZ 1 (cp (bh Tryz.f58)):=by
 have hl:cp (bh Tryz.f58)=[aL Tryz.f58 7,aL Tryz.f58 14]:=by kernel_rfl
 rw[hl]
 exact aw.cons (n:=8) (lh:=vR) (S:=cu iU ko kk) (by kernel_rfl) rfl rfl (cy FD Qo)
  (aw.cons (n:=15) (lh:=uk) (S:=cu gW jd mR) (by kernel_rfl) rfl rfl (cy Ec Oy)
  (aw.nil))
def rm{R:Type}(kx:(List It)×Int->Option R)(a0:(List It))(a1:Cn):Option R:=
 Option.bind (qV a0 a1.1) fun y428=>
 cond (decide (y428>=(0:Int)))
 (kx ([],(4:Int)))
 (cond (decide (((List.length a0:Nat):Int)>=(40:Int)))
  (kx ([],(5:Int)))
  (Option.bind (kk (nV a0 [] (0:Int) a1.1 a1.2.1 a1.2.2.1 a1.2.2.2.1 a1.2.2.2.2.1.1.1 a1.2.2.2.2.1.1.2.1 a1.2.2.2.2.1.1.2.2 a1.2.2.2.2.1.2.1 a1.2.2.2.2.1.2.2.1 a1.2.2.2.2.1.2.2.2 a1.2.2.2.2.2.1 a1.2.2.2.2.2.2.1 a1.2.2.2.2.2.2.2.1 a1.2.2.2.2.2.2.2.2)) (pD ko
   (fun e449=>
    kx ((e449.1.2.2.1.1:List It),(e449.1.2.2.2.1.1:Int)),fun e468=>
    Option.bind (mR (kz (e468.1.1.1:List It) (e468.1.2.2.2.2.1.1:List It) (0:Int) (e468.2.1.1.1:ByteArray) (e468.2.1.1.2.1:Int) (e468.2.1.1.2.2.1:List ByteArray) (e468.2.1.1.2.2.2.1:Int) (e468.2.1.1.2.2.2.2.1:Int) (e468.2.1.1.2.2.2.2.2.1:Int) (e468.2.1.1.2.2.2.2.2.2.1:Int) (e468.2.1.1.2.2.2.2.2.2.2.1:Int) (e468.2.1.1.2.2.2.2.2.2.2.2.1:Int) (e468.2.1.1.2.2.2.2.2.2.2.2.2.1:Int) (e468.2.1.1.2.2.2.2.2.2.2.2.2.2.1:Int) (e468.2.1.1.2.2.2.2.2.2.2.2.2.2.2.1:Int) (e468.2.1.1.2.2.2.2.2.2.2.2.2.2.2.2.1:Int) (e468.2.1.1.2.2.2.2.2.2.2.2.2.2.2.2.2.1:Int))) (pD jd
    (fun e508=>
     kx ((e508.1.2.2.1.1:List It),(e508.1.2.2.2.1.1:Int)),fun e527=>
     Option.bind (cL ((e527.2.1.1.1:ByteArray),((e527.2.1.1.2.1:Int),((e527.2.1.1.2.2.1:List ByteArray),((e527.2.1.1.2.2.2.1:Int),((((e527.2.1.1.2.2.2.2.1:Int),((e527.2.1.1.2.2.2.2.2.1:Int),(e527.2.1.1.2.2.2.2.2.2.1:Int))),((e527.2.1.1.2.2.2.2.2.2.2.1:Int),((e527.2.1.1.2.2.2.2.2.2.2.2.1:Int),(e527.2.1.1.2.2.2.2.2.2.2.2.2.1:Int)))),((e527.2.1.1.2.2.2.2.2.2.2.2.2.2.1:Int),((e527.2.1.1.2.2.2.2.2.2.2.2.2.2.2.1:Int),((e527.2.1.1.2.2.2.2.2.2.2.2.2.2.2.2.1:Int),(e527.2.1.1.2.2.2.2.2.2.2.2.2.2.2.2.2.1:Int))))))))) (e527.1.2.2.2.2.1.1:List It)) fun y1066=>
     cond (y1066.2 !=(0:Int))
     (kx ([],y1066.2))
     (cond (decide (((List.length (e527.1.1.1:List It))*104)<=70368744177664))
      (cond (decide ((List.length (e527.1.1.1:List It))<=70368744177664))
       (cond (decide ((((List.length (e527.1.1.1:List It))+(List.length [((e527.2.1.1.1:ByteArray),y1066.1.2)]))*104)<=70368744177664))
        (cond (decide (((List.length (e527.1.1.1:List It))+(List.length [((e527.2.1.1.1:ByteArray),y1066.1.2)]))<=70368744177664))
         (kx (((e527.1.1.1:List It)++ [((e527.2.1.1.1:ByteArray),y1066.1.2)]),(0:Int)))
         none)
        none)
       none)
      none),())),()))))
def pf(a0:(List It))(a1:Cn):Option ((List It)×Int):=rm some a0 a1
theorem RT{R} kx a0 a1: @rm R kx a0 a1=(pf a0 a1).bind kx:=by
 unfold pf rm
 exact ac fun _=>ae rfl (ae rfl (cE ⟨fun _=>rfl,fun _=>cE ⟨fun _=>rfl,fun _=>ac fun _=>ae rfl (ae (ae (ae (ae rfl rfl) rfl) rfl) rfl),trivial⟩,trivial⟩))
abbrev L3:af:=.fx [.val false (.slice yI), .ptr yC] ((List It)×Int) (fun z=>pf z.1 z.2.1) (fun b=>(.tup [⟨false,[(.own yI b.1)]⟩,⟨false,[(.v (.int .i64 b.2))]⟩],[]))
theorem S8:ag C0 58 L3:=
 ag.fx (e:=false) (t:=tS) (.cons S7 (.cons yA (.cons Qk (.nil)))) mixed Tryz.func58 (by kernel_rfl) (by kernel_rfl) tZ 1 SQ (fun z=>(by kernel_rfl:_=rm (fun b=>some (L3.enc b)) z.1 z.2.1).trans (RT _ z.1 z.2.1))
def nc{R:Type}(kx:(List It)×Int->Option R)(a0:(List It))(a1:Cn):Option R:=
 Option.bind (oL a0) fun y120=>
 cond (!y120)
 (kx ([],(1:Int)))
 (Option.bind (bO a1) fun y416=>
  cond (!y416)
  (kx ([],(1:Int)))
  (Option.bind (pf a0 a1) fun y1067=>
   kx y1067))
def kq(a0:(List It))(a1:Cn):Option ((List It)×Int):=nc some a0 a1
theorem Hc{R} kx a0 a1: @nc R kx a0 a1=(kq a0 a1).bind kx:=by
 unfold kq nc
 exact ac fun _=>ae rfl (ac fun _=>ae rfl (ac fun _=>rfl))
abbrev A4:af:=.fx [.val false (.slice yI), .val true yC] ((List It)×Int) (fun z=>kq z.1 z.2.1) (fun b=>(.tup [⟨false,[(.own yI b.1)]⟩,⟨false,[(.v (.int .i64 b.2))]⟩],[]))
theorem Iz:ag C0 14 A4:=
 ag.fx (e:=false) (.cons Ol (.cons S9 (.cons S8 (.nil)))) mixed Tryz.func14 (by kernel_rfl) (by kernel_rfl) aj 1 ai (fun z=>(by kernel_rfl:_=nc (fun b=>some (A4.enc b)) z.1 z.2.1).trans (Hc _ z.1 z.2.1))
def sc{R:Type}(kx:Bool->Option R)(a0:Int)(a1:Int)(a2:Int):Option R:=
 cond (decide (a0>=a1))
 (kx (decide (a0<=a2)))
 (kx Bool.false)
def bX(a0:Int)(a1:Int)(a2:Int):Option (Bool):=sc some a0 a1 a2
theorem PH{R} kx a0 a1 a2: @sc R kx a0 a1 a2=(bX a0 a1 a2).bind kx:=by
 unfold bX sc
 exact ae rfl rfl
abbrev JV:af:=.fx [.val false (.int .i64), .val false (.int .i64), .val false (.int .i64)] (Bool) (fun z=>bX z.1 z.2.1 z.2.2.1) (fun b=>(.one ⟨false,[(.v (.bool b))]⟩,[]))
theorem xA:ag C0 93 JV:=
 ag.fx (e:=false) (.nil) mixed Tryz.func93 (by kernel_rfl) (by kernel_rfl) aj 1 ai (fun z=>(by kernel_rfl:_=sc (fun b=>some (JV.enc b)) z.1 z.2.1 z.2.2.1).trans (PH _ z.1 z.2.1 z.2.2.1))
def vd{R:Type}(kx:Bool->Option R)(a0:ByteArray):Option R:=
 Option.bind (bX (((ByteArray.size a0):Nat):Int) (1:Int) (12:Int)) fun y1084=>
 cond y1084
 (Option.bind (ta a0 (ByteArray.mk (Array.mk [97,98,99,100,101,102,103,104,105,106,107,108,109,110,111,112,113,114,115,116,117,118,119,120,121,122,65,66,67,68,69,70,71,72,73,74,75,76,77,78,79,80,81,82,83,84,85,86,87,88,89,90,48,49,50,51,52,53,54,55,56,57,95]))) fun y1085=>
  cond ((ByteArray.toList y1085)==(ByteArray.toList (ByteArray.mk (Array.mk []))))
  (Option.bind (Am a0 (0:Int)) fun y1086=>
   Option.bind (pQ (ByteArray.mk (Array.mk [97,98,99,100,101,102,103,104,105,106,107,108,109,110,111,112,113,114,115,116,117,118,119,120,121,122,65,66,67,68,69,70,71,72,73,74,75,76,77,78,79,80,81,82,83,84,85,86,87,88,89,90])) (((UInt8.toNat y1086):Nat):Int)) fun y1087=>
   kx (decide (y1087>=(0:Int))))
  (kx Bool.false))
 (kx Bool.false)
def lI(a0:ByteArray):Option (Bool):=vd some a0
theorem PB{R} kx a0: @vd R kx a0=(lI a0).bind kx:=by
 unfold lI vd
 exact ac fun _=>ae (ac fun _=>ae (ac fun _=>ac fun _=>rfl) rfl) rfl
abbrev JS:af:=.fx [.val false .str] (Bool) (fun z=>lI z.1) (fun b=>(.one ⟨false,[(.v (.bool b))]⟩,[]))
theorem CZ:ag C0 108 JS:=
 ag.fx (e:=false) (.cons xA (.cons Ql (.cons ID (.nil)))) mixed Tryz.func108 (by kernel_rfl) (by kernel_rfl) aj 1 ai (fun z=>(by kernel_rfl:_=vd (fun b=>some (JS.enc b)) z.1).trans (PB _ z.1))
def rE{R:Type}(kx:Bool->Option R)(a0:Nm):Option R:=
 Option.bind (bX a0.1 (-(131072:Int)) (131072:Int)) fun y1092=>
 cond y1092
 (Option.bind (bX a0.2.1 (-(131072:Int)) (131072:Int)) fun y1093=>
  cond y1093
  (Option.bind (bX a0.2.2 (0:Int) (10:Int)) fun y1094=>
   cond y1094
   (cond (a0.2.2==(0:Int))
    (kx Bool.true)
    (cond ((IntKind.wrap .i64 (((BitVec.toNat ((BitVec.ofInt 64 a0.1)&&&(BitVec.ofInt 64 (1:Int)))):Nat):Int))==(1:Int))
     (kx Bool.true)
     (kx ((IntKind.wrap .i64 (((BitVec.toNat ((BitVec.ofInt 64 a0.2.1)&&&(BitVec.ofInt 64 (1:Int)))):Nat):Int))==(1:Int)))))
   (kx Bool.false))
  (kx Bool.false))
 (kx Bool.false)
def fd(a0:Nm):Option (Bool):=rE some a0
theorem Mg{R} kx a0: @rE R kx a0=(fd a0).bind kx:=by
 unfold fd rE
 exact ac fun _=>ae (ac fun _=>ae (ac fun _=>ae (ae rfl (ae rfl rfl)) rfl) rfl) rfl
abbrev GG:af:=.fx [.val true yN] (Bool) (fun z=>fd z.1) (fun b=>(.one ⟨false,[(.v (.bool b))]⟩,[]))
theorem qh:ag C0 83 GG:=
 ag.fx (e:=false) (.cons xA (.nil)) mixed Tryz.func83 (by kernel_rfl) (by kernel_rfl) aj 1 ai (fun z=>(by kernel_rfl:_=rE (fun b=>some (GG.enc b)) z.1).trans (Mg _ z.1))
def qu{R:Type}(kx:Bool->Option R)(a0:Ln):Option R:=
 Option.bind (bX a0.1 (0:Int) (7:Int)) fun y1090=>
 cond y1090
 (Option.bind (fd a0.2) fun y1095=>
  kx y1095)
 (kx Bool.false)
def aH(a0:Ln):Option (Bool):=qu some a0
theorem KG{R} kx a0: @qu R kx a0=(aH a0).bind kx:=by
 unfold aH qu
 exact ac fun _=>ae (ac fun _=>rfl) rfl
abbrev ua:af:=.fx [.val true yL] (Bool) (fun z=>aH z.1) (fun b=>(.one ⟨false,[(.v (.bool b))]⟩,[]))
theorem dD:ag C0 79 ua:=
 ag.fx (e:=false) (.cons xA (.cons qh (.nil))) mixed Tryz.func79 (by kernel_rfl) (by kernel_rfl) aj 1 ai (fun z=>(by kernel_rfl:_=qu (fun b=>some (ua.enc b)) z.1).trans (KG _ z.1))
def pv{R:Type}(kx:Bool->Option R)(a0:Pt):Option R:=
 Option.bind (fd a0.1) fun y1099=>
 cond y1099
 (Option.bind (fd a0.2) fun y1100=>
  kx y1100)
 (kx Bool.false)
def aG(a0:Pt):Option (Bool):=pv some a0
theorem Jf{R} kx a0: @pv R kx a0=(aG a0).bind kx:=by
 unfold aG pv
 exact ac fun _=>ae (ac fun _=>rfl) rfl
abbrev sE:af:=.fx [.val true yP] (Bool) (fun z=>aG z.1) (fun b=>(.one ⟨false,[(.v (.bool b))]⟩,[]))
theorem eR:ag C0 36 sE:=
 ag.fx (e:=false) (.cons qh (.nil)) mixed Tryz.func36 (by kernel_rfl) (by kernel_rfl) aj 1 ai (fun z=>(by kernel_rfl:_=pv (fun b=>some (sE.enc b)) z.1).trans (Jf _ z.1))
def ve{R:Type}(kx:Bool->Option R)(a0:It):Option R:=
 cond a0.2.1
 (Option.bind (lI a0.1) fun y1088=>
  cond y1088
  (Option.bind (aH a0.2.2.2) fun y1096=>
   cond y1096
   (kx (((a0.2.2.1.1.1==(0:Int))&&((a0.2.2.1.1.2.1==(0:Int))&&((a0.2.2.1.1.2.2==(0:Int))&&Bool.true)))&&(((a0.2.2.1.2.1==(0:Int))&&((a0.2.2.1.2.2.1==(0:Int))&&((a0.2.2.1.2.2.2==(0:Int))&&Bool.true)))&&Bool.true)))
   (kx Bool.false))
  (kx Bool.false))
 (Option.bind (lI a0.1) fun y1097=>
  cond y1097
  (Option.bind (aG a0.2.2.1) fun y1101=>
   cond y1101
   (kx ((a0.2.2.2.1==(0:Int))&&(((a0.2.2.2.2.1==(0:Int))&&((a0.2.2.2.2.2.1==(0:Int))&&((a0.2.2.2.2.2.2==(0:Int))&&Bool.true)))&&Bool.true)))
   (kx Bool.false))
  (kx Bool.false))
def rR(a0:It):Option (Bool):=ve some a0
theorem PC{R} kx a0: @ve R kx a0=(rR a0).bind kx:=by
 unfold rR ve
 exact ae (ac fun _=>ae (ac fun _=>ae rfl rfl) rfl) (ac fun _=>ae (ac fun _=>ae rfl rfl) rfl)
abbrev Ev:af:=.fx [.val true yI] (Bool) (fun z=>rR z.1) (fun b=>(.one ⟨false,[(.v (.bool b))]⟩,[]))
theorem Si:ag C0 126 Ev:=
 ag.fx (e:=false) (.cons CZ (.cons dD (.cons eR (.nil)))) mixed Tryz.func126 (by kernel_rfl) (by kernel_rfl) aj 1 ai (fun z=>(by kernel_rfl:_=ve (fun b=>some (Ev.enc b)) z.1).trans (PC _ z.1))
def oj{R:Type}(kx:Bool->Option R)(a0:It)(a1:ByteArray):Option R:=
 kx ((ByteArray.toList a0.1)==(ByteArray.toList a1))
def nL(a0:It)(a1:ByteArray):Option (Bool):=oj some a0 a1
theorem Ii{R} kx a0 a1: @oj R kx a0 a1=(nL a0 a1).bind kx:=by
 unfold nL oj
 exact rfl
abbrev wn:af:=.fx [.val true yI, .ptr .str] (Bool) (fun z=>nL z.1 z.2.1) (fun b=>(.one ⟨false,[(.v (.bool b))]⟩,[]))
theorem Jy:ag C0 128 wn:=
 ag.fx (e:=false) (.nil) mixed Tryz.func128 (by kernel_rfl) (by kernel_rfl) aj 1 ai (fun z=>(by kernel_rfl:_=oj (fun b=>some (wn.enc b)) z.1 z.2.1).trans (Ii _ z.1 z.2.1))
def ck:List (FuncId×af):=[(128,wn)]
abbrev az:LS:=⟨[(false,[(.sl yI)]),(false,[(.fn 128 [(19,0)])]),(false,[(.int .i64)]),(false,[(.int .i64)])],[(true,[.str])],[]⟩
abbrev eC:LS:=⟨[(false,[(.int .i64)])],[],[]⟩
abbrev ew(v0:Int):=((((v0,()),()),(),()):eC.T)
abbrev eD:LS:=⟨[(false,[.undef])],[],[]⟩
abbrev ex:=(((((),()),()),(),()):eD.T)
abbrev aF:List (Ex×LS):=[(.ret,eC),(.exit 0,eD)]
abbrev bC x0(x7:Int)(x8:Int)(b0:ByteArray):=((((x0,()),((),()),(x7,()),(x8,()),()),((b0,()),()),()):az.T)
def aR{R:Type}(nx:az.T->Option R)(hx:lF R aF)(x0:List It)(x7:Int)(x8:Int)(b0:ByteArray):Option R:=
 cond (decide (x8<x7))
 (Option.bind (fY x0 x8) fun y1111=>
  Option.bind (nL y1111 b0) fun y1114=>
  cond y1114
  (hx.1 (ew x8))
  (nx (bC x0 x7 (IntKind.wrap .i64 (x8+(1:Int))) b0)))
 (hx.2.1 (ex))
def cX{R:Type}(nx:az.T->Option R)(hx:lF R aF)(z:az.T):Option R:=aR nx hx z.1.1.1 z.1.2.2.1.1 z.1.2.2.2.1.1 z.2.1.1.1
theorem eE:cY @cX:=fun R nx hx z=>by
 show aR nx hx z.1.1.1 z.1.2.2.1.1 z.1.2.2.2.1.1 z.2.1.1.1=(aR (fun y=>some (.inl y)) (oM aF fun x=>some (.inr x)) z.1.1.1 z.1.2.2.1.1 z.1.2.2.2.1.1 z.2.1.1.1).bind (oH nx hx)
 unfold aR
 exact ae (ac fun _=>ac fun _=>ae rfl rfl) rfl
def aS:az.T->Option (xb aF):=BJ @cX
theorem eT x0 x7 x8 b0:aS (bC x0 x7 x8 b0)=aR aS (oM aF some) x0 x7 x8 b0:=eU eE _
def bZ:bQ:=⟨[0,1,7,8],[19],[4],[]⟩
def cl:fQ Rv:=⟨fun k=>match k with|3=>bZ|_=>⟨[],[],[],[]⟩,fun k=>match k with|3=>some (cu az aF aS)|_=>none⟩
theorem kJ(n:Nat)(z:az.T)(k:Ex->hZ->Option Rv):bL ⟨19,20⟩ bZ (nG (ii C0 ck) ⟨19,20⟩ cl 1 (aL Tryz.f127 2)) (n+1) (az.enc z) k=
 cX (fun y=>bL ⟨19,20⟩ bZ (nG (ii C0 ck) ⟨19,20⟩ cl 1 (aL Tryz.f127 2)) n (az.enc y) k) (hK k aF) z:=by kernel_rfl
theorem lp:aw (ii C0 ck) ⟨19,20⟩ cl 1 (cp (bh Tryz.f127)):=by
 have hl:cp (bh Tryz.f127)=[aL Tryz.f127 2]:=by kernel_rfl
 rw[hl]
 exact aw.cons (n:=3) (lh:=bZ) (S:=cu az aF aS) (by kernel_rfl) rfl rfl (cy eE kJ)
  (aw.nil)
def bK{R:Type}(kx:Int->Option R)(a0:(List It))(a1_0:ByteArray):Option R:=
 Option.bind (aS (bC a0 ((List.length a0:Nat):Int) (0:Int) a1_0)) (pD aF
 (fun e1115=>
  kx (e1115.1.1.1:Int),fun _=>
  kx (-(1:Int)),()))
def bJ(a0:(List It))(a1_0:ByteArray):Option (Int):=bK some a0 a1_0
theorem kQ{R} kx a0 a1_0: @bK R kx a0 a1_0=(bJ a0 a1_0).bind kx:=by
 unfold bJ bK
 exact cE ⟨fun _=>rfl,fun _=>rfl,trivial⟩
abbrev fr:af:=.fx [.val false (.slice yI), .clo 128 [.str]] (Int) (fun z=>bJ z.1 z.2.1.1) (fun b=>(.one ⟨false,[(.v (.int .i64 b))]⟩,[]))
theorem lx:ag C0 127 fr:=
 ag.fx (e:=false) (t:=ck) (.cons Jy (.nil)) mixed Tryz.func127 (by kernel_rfl) (by kernel_rfl) cl 1 lp (fun z=>(by kernel_rfl:_=bK (fun b=>some (fr.enc b)) z.1 z.2.1.1).trans (kQ _ z.1 z.2.1.1))
def qx{R:Type}(kx:Int->Option R)(a0:(List It))(a1:ByteArray):Option R:=
 Option.bind (bJ a0 a1) fun y1118=>
 kx y1118
def jy(a0:(List It))(a1:ByteArray):Option (Int):=qx some a0 a1
theorem KK{R} kx a0 a1: @qx R kx a0 a1=(jy a0 a1).bind kx:=by
 unfold jy qx
 exact ac fun _=>rfl
abbrev ub:af:=.fx [.val false (.slice yI), .val false .str] (Int) (fun z=>jy z.1 z.2.1) (fun b=>(.one ⟨false,[(.v (.int .i64 b))]⟩,[]))
theorem xz:ag C0 64 ub:=
 ag.fx (e:=false) (.cons lx (.nil)) mixed Tryz.func64 (by kernel_rfl) (by kernel_rfl) aj 1 ai (fun z=>(by kernel_rfl:_=qx (fun b=>some (ub.enc b)) z.1 z.2.1).trans (KK _ z.1 z.2.1))
def sw:List (FuncId×af):=[(126,Ev),(64,ub)]
abbrev dK:LS:=⟨[(false,[(.sl yI)]),(false,[(.sl yI)]),(false,[(.int .i64)]),(false,[(.int .i64)])],[],[]⟩
abbrev xU:LS:=⟨[(false,[(.sl yI)]),(false,[.bool])],[],[]⟩
abbrev si v0(v1:Bool):=((((v0,()),(v1,()),()),(),()):xU.T)
abbrev xV:LS:=⟨[(false,[(.sl yI)]),(false,[.undef])],[],[]⟩
abbrev xT v0:=((((v0,()),((),()),()),(),()):xV.T)
abbrev eZ:List (Ex×LS):=[(.ret,xU),(.exit 0,xV)]
abbrev mU x0 x5(x6:Int)(x7:Int):=((((x0,()),(x5,()),(x6,()),(x7,()),()),(),()):dK.T)
def iC{R:Type}(nx:dK.T->Option R)(hx:lF R eZ)(x0:List It)(x5:List It)(x6:Int)(x7:Int):Option R:=
 cond (decide (x7<x6))
 (Option.bind (fY x5 x7) fun y1078=>
  Option.bind (rR y1078) fun y1102=>
  cond (!y1102)
  (hx.1 (si x0 Bool.false))
  (cond (decide ((0:Int)<=x7))
   (cond (decide (x7<=((List.length x0:Nat):Int)))
    (Option.bind (jy (List.drop 0 (List.take (Int.toNat x7) x0)) y1078.1) fun y1119=>
     cond (decide (y1119>=(0:Int)))
     (hx.1 (si x0 Bool.false))
     (nx (mU x0 x5 x6 (IntKind.wrap .i64 (x7+(1:Int))))))
    none)
   none))
 (hx.2.1 (xT x0))
def uG{R:Type}(nx:dK.T->Option R)(hx:lF R eZ)(z:dK.T):Option R:=iC nx hx z.1.1.1 z.1.2.1.1 z.1.2.2.1.1 z.1.2.2.2.1.1
theorem ye:cY @uG:=fun R nx hx z=>by
 show iC nx hx z.1.1.1 z.1.2.1.1 z.1.2.2.1.1 z.1.2.2.2.1.1=(iC (fun y=>some (.inl y)) (oM eZ fun x=>some (.inr x)) z.1.1.1 z.1.2.1.1 z.1.2.2.1.1 z.1.2.2.2.1.1).bind (oH nx hx)
 unfold iC
 exact ae (ac fun _=>ac fun _=>ae rfl (ae (ae (ac fun _=>ae rfl rfl) rfl) rfl)) rfl
def iE:dK.T->Option (xb eZ):=BJ @uG
theorem Af x0 x5 x6 x7:iE (mU x0 x5 x6 x7)=iC iE (oM eZ some) x0 x5 x6 x7:=eU ye _
def pj:bQ:=⟨[0,5,6,7],[],[0,2],[]⟩
def sD:fQ Rv:=⟨fun k=>match k with|3=>pj|_=>⟨[],[],[],[]⟩,fun k=>match k with|3=>some (cu dK eZ iE)|_=>none⟩
theorem IJ(n:Nat)(z:dK.T)(k:Ex->hZ->Option Rv):bL ⟨28,28⟩ pj (nG (ii C0 sw) ⟨28,28⟩ sD 1 (aL Tryz.f63 2)) (n+1) (dK.enc z) k=
 uG (fun y=>bL ⟨28,28⟩ pj (nG (ii C0 sw) ⟨28,28⟩ sD 1 (aL Tryz.f63 2)) n (dK.enc y) k) (hK k eZ) z:=by kernel_rfl
theorem Kt:aw (ii C0 sw) ⟨28,28⟩ sD 1 (cp (bh Tryz.f63)):=by
 have hl:cp (bh Tryz.f63)=[aL Tryz.f63 2]:=by kernel_rfl
 rw[hl]
 exact aw.cons (n:=3) (lh:=pj) (S:=cu dK eZ iE) (by kernel_rfl) rfl rfl (cy ye IJ)
  (aw.nil)
def pu{R:Type}(kx:Bool->Option R)(a0:(List It)):Option R:=
 Option.bind (iE (mU a0 a0 ((List.length a0:Nat):Int) (0:Int))) (pD eZ
 (fun e1120=>
  kx (e1120.1.2.1.1:Bool),fun e1123=>
  kx (decide ((((List.length (e1123.1.1.1:List It)):Nat):Int)<=(40:Int))),()))
def md(a0:(List It)):Option (Bool):=pu some a0
theorem Je{R} kx a0: @pu R kx a0=(md a0).bind kx:=by
 unfold md pu
 exact cE ⟨fun _=>rfl,fun _=>rfl,trivial⟩
abbrev DR:af:=.fx [.val false (.slice yI)] (Bool) (fun z=>md z.1) (fun b=>(.one ⟨false,[(.v (.bool b))]⟩,[]))
theorem K7:ag C0 63 DR:=
 ag.fx (e:=false) (t:=sw) (.cons Si (.cons xz (.nil))) mixed Tryz.func63 (by kernel_rfl) (by kernel_rfl) sD 1 Kt (fun z=>(by kernel_rfl:_=pu (fun b=>some (DR.enc b)) z.1).trans (Je _ z.1))
def gI{R:Type}(kx:Bool->Option R)(a0:ByteArray):Option R:=
 Option.bind (lI a0) fun y1137=>
 kx (!y1137)
def gD(a0:ByteArray):Option (Bool):=gI some a0
theorem Av{R} kx a0: @gI R kx a0=(gD a0).bind kx:=by
 unfold gD gI
 exact ac fun _=>rfl
abbrev nQ:af:=.fx [.val false .str] (Bool) (fun z=>gD z.1) (fun b=>(.one ⟨false,[(.v (.bool b))]⟩,[]))
theorem BE:ag C0 110 nQ:=
 ag.fx (e:=false) (.cons CZ (.nil)) mixed Tryz.func110 (by kernel_rfl) (by kernel_rfl) aj 1 ai (fun z=>(by kernel_rfl:_=gI (fun b=>some (nQ.enc b)) z.1).trans (Av _ z.1))
def cd:List (FuncId×af):=[(110,nQ)]
abbrev an:LS:=⟨[(false,[(.sl .str)]),(false,[(.fn 110 [])]),(false,[(.int .i64)]),(false,[(.int .i64)])],[],[]⟩
abbrev dR:LS:=⟨[(false,[(.int .i64)])],[],[]⟩
abbrev dM(v0:Int):=((((v0,()),()),(),()):dR.T)
abbrev dS:LS:=⟨[(false,[.undef])],[],[]⟩
abbrev dN:=(((((),()),()),(),()):dS.T)
abbrev aB:List (Ex×LS):=[(.ret,dR),(.exit 0,dS)]
abbrev bw(x0:List ByteArray)(x7:Int)(x8:Int):=((((x0,()),((),()),(x7,()),(x8,()),()),(),()):an.T)
def aO{R:Type}(nx:an.T->Option R)(hx:lF R aB)(x0:List ByteArray)(x7:Int)(x8:Int):Option R:=
 cond (decide (x8<x7))
 (Option.bind (fY x0 x8) fun y1135=>
  Option.bind (gD y1135) fun y1138=>
  cond y1138
  (hx.1 (dM x8))
  (nx (bw x0 x7 (IntKind.wrap .i64 (x8+(1:Int))))))
 (hx.2.1 (dN))
def cQ{R:Type}(nx:an.T->Option R)(hx:lF R aB)(z:an.T):Option R:=aO nx hx z.1.1.1 z.1.2.2.1.1 z.1.2.2.2.1.1
theorem dW:cY @cQ:=fun R nx hx z=>by
 show aO nx hx z.1.1.1 z.1.2.2.1.1 z.1.2.2.2.1.1=(aO (fun y=>some (.inl y)) (oM aB fun x=>some (.inr x)) z.1.1.1 z.1.2.2.1.1 z.1.2.2.2.1.1).bind (oH nx hx)
 unfold aO
 exact ae (ac fun _=>ac fun _=>ae rfl rfl) rfl
def aQ:an.T->Option (xb aB):=BJ @cQ
theorem eq x0 x7 x8:aQ (bw x0 x7 x8)=aO aQ (oM aB some) x0 x7 x8:=eU dW _
def bU:bQ:=⟨[0,1,7,8],[],[4],[]⟩
def cf:fQ Rv:=⟨fun k=>match k with|3=>bU|_=>⟨[],[],[],[]⟩,fun k=>match k with|3=>some (cu an aB aQ)|_=>none⟩
theorem kf(n:Nat)(z:an.T)(k:Ex->hZ->Option Rv):bL ⟨19,19⟩ bU (nG (ii C0 cd) ⟨19,19⟩ cf 1 (aL Tryz.f184 2)) (n+1) (an.enc z) k=
 cQ (fun y=>bL ⟨19,19⟩ bU (nG (ii C0 cd) ⟨19,19⟩ cf 1 (aL Tryz.f184 2)) n (an.enc y) k) (hK k aB) z:=by kernel_rfl
theorem kD:aw (ii C0 cd) ⟨19,19⟩ cf 1 (cp (bh Tryz.f184)):=by
 have hl:cp (bh Tryz.f184)=[aL Tryz.f184 2]:=by kernel_rfl
 rw[hl]
 exact aw.cons (n:=3) (lh:=bU) (S:=cu an aB aQ) (by kernel_rfl) rfl rfl (cy dW kf)
  (aw.nil)
def bE{R:Type}(kx:Int->Option R)(a0:(List ByteArray)):Option R:=
 Option.bind (aQ (bw a0 ((List.length a0:Nat):Int) (0:Int))) (pD aB
 (fun e1139=>
  kx (e1139.1.1.1:Int),fun _=>
  kx (-(1:Int)),()))
def bB(a0:(List ByteArray)):Option (Int):=bE some a0
theorem kt{R} kx a0: @bE R kx a0=(bB a0).bind kx:=by
 unfold bB bE
 exact cE ⟨fun _=>rfl,fun _=>rfl,trivial⟩
abbrev eX:af:=.fx [.val false (.slice .str), .clo 110 []] (Int) (fun z=>bB z.1) (fun b=>(.one ⟨false,[(.v (.int .i64 b))]⟩,[]))
theorem kH:ag C0 184 eX:=
 ag.fx (e:=false) (t:=cd) (.cons BE (.nil)) mixed Tryz.func184 (by kernel_rfl) (by kernel_rfl) cf 1 kD (fun z=>(by kernel_rfl:_=bE (fun b=>some (eX.enc b)) z.1).trans (kt _ z.1))
def br{R:Type}(kx:Bool->Option R)(a0:(List ByteArray)):Option R:=
 Option.bind (bB a0) fun y1142=>
 kx (decide (y1142>=(0:Int)))
def aV(a0:(List ByteArray)):Option (Bool):=br some a0
theorem jL{R} kx a0: @br R kx a0=(aV a0).bind kx:=by
 unfold aV br
 exact ac fun _=>rfl
abbrev el:af:=.fx [.val false (.slice .str), .clo 110 []] (Bool) (fun z=>aV z.1) (fun b=>(.one ⟨false,[(.v (.bool b))]⟩,[]))
theorem jP:ag C0 109 el:=
 ag.fx (e:=false) (.cons kH (.nil)) mixed Tryz.func109 (by kernel_rfl) (by kernel_rfl) aj 1 ai (fun z=>(by kernel_rfl:_=br (fun b=>some (el.enc b)) z.1).trans (jL _ z.1))
def bc{R:Type}(kx:Bool->Option R)(a0:Cn):Option R:=
 Option.bind (lI a0.1) fun y1127=>
 cond (!y1127)
 (kx Bool.false)
 (Option.bind (bX a0.2.1 (1:Int) (12:Int)) fun y1128=>
  cond (!y1128)
  (kx Bool.false)
  (Option.bind (fY [((ByteArray.mk (Array.mk [])),((ByteArray.mk (Array.mk [])),Bool.false)),((ByteArray.mk (Array.mk [112,111,105,110,116])),((ByteArray.mk (Array.mk [])),Bool.false)),((ByteArray.mk (Array.mk [108,105,110,101])),((ByteArray.mk (Array.mk [])),Bool.false)),((ByteArray.mk (Array.mk [109,101,101,116])),((ByteArray.mk (Array.mk [108,108])),Bool.false)),((ByteArray.mk (Array.mk [109,105,100,100,108,101])),((ByteArray.mk (Array.mk [112,112])),Bool.false)),((ByteArray.mk (Array.mk [109,105,114,114,111,114])),((ByteArray.mk (Array.mk [108,120])),Bool.false)),((ByteArray.mk (Array.mk [116,104,114,111,117,103,104])),((ByteArray.mk (Array.mk [112,112])),Bool.false)),((ByteArray.mk (Array.mk [111,110,116,111])),((ByteArray.mk (Array.mk [112,112])),Bool.false)),((ByteArray.mk (Array.mk [98,105,115,101,99,116])),((ByteArray.mk (Array.mk [108,108])),Bool.true)),((ByteArray.mk (Array.mk [115,113,117,97,114,101])),((ByteArray.mk (Array.mk [108,112])),Bool.false)),((ByteArray.mk (Array.mk [102,111,108,100])),((ByteArray.mk (Array.mk [112,108,112])),Bool.true)),((ByteArray.mk (Array.mk [116,119,111])),((ByteArray.mk (Array.mk [112,108,112,108])),Bool.true)),((ByteArray.mk (Array.mk [97,99,114,111,115,115])),((ByteArray.mk (Array.mk [112,108,108])),Bool.false))] a0.2.1) fun y1129=>
   cond ((((List.length a0.2.2.1):Nat):Int) !=(((ByteArray.size y1129.2.1):Nat):Int))
   (kx Bool.false)
   (Option.bind (aV a0.2.2.1) fun y1143=>
    cond y1143
    (kx Bool.false)
    (cond y1129.2.2
     (Option.bind (bX a0.2.2.2.1 (0:Int) (7:Int)) fun y1144=>
      cond (!y1144)
      (kx Bool.false)
      (cond (!y1129.2.2)
       (cond (a0.2.2.2.1 !=(0:Int))
        (kx Bool.false)
        (cond (((a0.2.2.2.2.1.1.1==(0:Int))&&((a0.2.2.2.2.1.1.2.1==(0:Int))&&((a0.2.2.2.2.1.1.2.2==(0:Int))&&Bool.true)))&&(((a0.2.2.2.2.1.2.1==(0:Int))&&((a0.2.2.2.2.1.2.2.1==(0:Int))&&((a0.2.2.2.2.1.2.2.2==(0:Int))&&Bool.true)))&&Bool.true))
         (cond ((a0.2.2.2.2.2.1==(0:Int))&&(((a0.2.2.2.2.2.2.1==(0:Int))&&((a0.2.2.2.2.2.2.2.1==(0:Int))&&((a0.2.2.2.2.2.2.2.2==(0:Int))&&Bool.true)))&&Bool.true))
          (Option.bind (aG a0.2.2.2.2.1) fun y1145=>
           cond y1145
           (Option.bind (aH a0.2.2.2.2.2) fun y1146=>
            kx y1146)
           (kx Bool.false))
          (cond (a0.2.1==(2:Int))
           (Option.bind (aG a0.2.2.2.2.1) fun y1147=>
            cond y1147
            (Option.bind (aH a0.2.2.2.2.2) fun y1148=>
             kx y1148)
            (kx Bool.false))
           (kx Bool.false)))
         (cond (a0.2.1==(1:Int))
          (cond ((a0.2.2.2.2.2.1==(0:Int))&&(((a0.2.2.2.2.2.2.1==(0:Int))&&((a0.2.2.2.2.2.2.2.1==(0:Int))&&((a0.2.2.2.2.2.2.2.2==(0:Int))&&Bool.true)))&&Bool.true))
           (Option.bind (aG a0.2.2.2.2.1) fun y1149=>
            cond y1149
            (Option.bind (aH a0.2.2.2.2.2) fun y1150=>
             kx y1150)
            (kx Bool.false))
           (cond (a0.2.1==(2:Int))
            (Option.bind (aG a0.2.2.2.2.1) fun y1151=>
             cond y1151
             (Option.bind (aH a0.2.2.2.2.2) fun y1152=>
              kx y1152)
             (kx Bool.false))
            (kx Bool.false)))
          (kx Bool.false))))
       (cond (((a0.2.2.2.2.1.1.1==(0:Int))&&((a0.2.2.2.2.1.1.2.1==(0:Int))&&((a0.2.2.2.2.1.1.2.2==(0:Int))&&Bool.true)))&&(((a0.2.2.2.2.1.2.1==(0:Int))&&((a0.2.2.2.2.1.2.2.1==(0:Int))&&((a0.2.2.2.2.1.2.2.2==(0:Int))&&Bool.true)))&&Bool.true))
        (cond ((a0.2.2.2.2.2.1==(0:Int))&&(((a0.2.2.2.2.2.2.1==(0:Int))&&((a0.2.2.2.2.2.2.2.1==(0:Int))&&((a0.2.2.2.2.2.2.2.2==(0:Int))&&Bool.true)))&&Bool.true))
         (Option.bind (aG a0.2.2.2.2.1) fun y1153=>
          cond y1153
          (Option.bind (aH a0.2.2.2.2.2) fun y1154=>
           kx y1154)
          (kx Bool.false))
         (cond (a0.2.1==(2:Int))
          (Option.bind (aG a0.2.2.2.2.1) fun y1155=>
           cond y1155
           (Option.bind (aH a0.2.2.2.2.2) fun y1156=>
            kx y1156)
           (kx Bool.false))
          (kx Bool.false)))
        (cond (a0.2.1==(1:Int))
         (cond ((a0.2.2.2.2.2.1==(0:Int))&&(((a0.2.2.2.2.2.2.1==(0:Int))&&((a0.2.2.2.2.2.2.2.1==(0:Int))&&((a0.2.2.2.2.2.2.2.2==(0:Int))&&Bool.true)))&&Bool.true))
          (Option.bind (aG a0.2.2.2.2.1) fun y1157=>
           cond y1157
           (Option.bind (aH a0.2.2.2.2.2) fun y1158=>
            kx y1158)
           (kx Bool.false))
          (cond (a0.2.1==(2:Int))
           (Option.bind (aG a0.2.2.2.2.1) fun y1159=>
            cond y1159
            (Option.bind (aH a0.2.2.2.2.2) fun y1160=>
             kx y1160)
            (kx Bool.false))
           (kx Bool.false)))
         (kx Bool.false)))))
     (cond (!y1129.2.2)
      (cond (a0.2.2.2.1 !=(0:Int))
       (kx Bool.false)
       (cond (((a0.2.2.2.2.1.1.1==(0:Int))&&((a0.2.2.2.2.1.1.2.1==(0:Int))&&((a0.2.2.2.2.1.1.2.2==(0:Int))&&Bool.true)))&&(((a0.2.2.2.2.1.2.1==(0:Int))&&((a0.2.2.2.2.1.2.2.1==(0:Int))&&((a0.2.2.2.2.1.2.2.2==(0:Int))&&Bool.true)))&&Bool.true))
        (cond ((a0.2.2.2.2.2.1==(0:Int))&&(((a0.2.2.2.2.2.2.1==(0:Int))&&((a0.2.2.2.2.2.2.2.1==(0:Int))&&((a0.2.2.2.2.2.2.2.2==(0:Int))&&Bool.true)))&&Bool.true))
         (Option.bind (aG a0.2.2.2.2.1) fun y1161=>
          cond y1161
          (Option.bind (aH a0.2.2.2.2.2) fun y1162=>
           kx y1162)
          (kx Bool.false))
         (cond (a0.2.1==(2:Int))
          (Option.bind (aG a0.2.2.2.2.1) fun y1163=>
           cond y1163
           (Option.bind (aH a0.2.2.2.2.2) fun y1164=>
            kx y1164)
           (kx Bool.false))
          (kx Bool.false)))
        (cond (a0.2.1==(1:Int))
         (cond ((a0.2.2.2.2.2.1==(0:Int))&&(((a0.2.2.2.2.2.2.1==(0:Int))&&((a0.2.2.2.2.2.2.2.1==(0:Int))&&((a0.2.2.2.2.2.2.2.2==(0:Int))&&Bool.true)))&&Bool.true))
          (Option.bind (aG a0.2.2.2.2.1) fun y1165=>
           cond y1165
           (Option.bind (aH a0.2.2.2.2.2) fun y1166=>
            kx y1166)
           (kx Bool.false))
          (cond (a0.2.1==(2:Int))
           (Option.bind (aG a0.2.2.2.2.1) fun y1167=>
            cond y1167
            (Option.bind (aH a0.2.2.2.2.2) fun y1168=>
             kx y1168)
            (kx Bool.false))
           (kx Bool.false)))
         (kx Bool.false))))
      (cond (((a0.2.2.2.2.1.1.1==(0:Int))&&((a0.2.2.2.2.1.1.2.1==(0:Int))&&((a0.2.2.2.2.1.1.2.2==(0:Int))&&Bool.true)))&&(((a0.2.2.2.2.1.2.1==(0:Int))&&((a0.2.2.2.2.1.2.2.1==(0:Int))&&((a0.2.2.2.2.1.2.2.2==(0:Int))&&Bool.true)))&&Bool.true))
       (cond ((a0.2.2.2.2.2.1==(0:Int))&&(((a0.2.2.2.2.2.2.1==(0:Int))&&((a0.2.2.2.2.2.2.2.1==(0:Int))&&((a0.2.2.2.2.2.2.2.2==(0:Int))&&Bool.true)))&&Bool.true))
        (Option.bind (aG a0.2.2.2.2.1) fun y1169=>
         cond y1169
         (Option.bind (aH a0.2.2.2.2.2) fun y1170=>
          kx y1170)
         (kx Bool.false))
        (cond (a0.2.1==(2:Int))
         (Option.bind (aG a0.2.2.2.2.1) fun y1171=>
          cond y1171
          (Option.bind (aH a0.2.2.2.2.2) fun y1172=>
           kx y1172)
          (kx Bool.false))
         (kx Bool.false)))
       (cond (a0.2.1==(1:Int))
        (cond ((a0.2.2.2.2.2.1==(0:Int))&&(((a0.2.2.2.2.2.2.1==(0:Int))&&((a0.2.2.2.2.2.2.2.1==(0:Int))&&((a0.2.2.2.2.2.2.2.2==(0:Int))&&Bool.true)))&&Bool.true))
         (Option.bind (aG a0.2.2.2.2.1) fun y1173=>
          cond y1173
          (Option.bind (aH a0.2.2.2.2.2) fun y1174=>
           kx y1174)
          (kx Bool.false))
         (cond (a0.2.1==(2:Int))
          (Option.bind (aG a0.2.2.2.2.1) fun y1175=>
           cond y1175
           (Option.bind (aH a0.2.2.2.2.2) fun y1176=>
            kx y1176)
           (kx Bool.false))
          (kx Bool.false)))
        (kx Bool.false))))))))
def ak(a0:Cn):Option (Bool):=bc some a0
theorem CH{R} kx a0: @bc R kx a0=(ak a0).bind kx:=by
 unfold ak bc
 exact ac fun _=>ae rfl (ac fun _=>ae rfl (ac fun _=>ae rfl (ac fun _=>ae rfl (ae (ac fun _=>ae rfl (ae (ae rfl (ae (ae (ac fun _=>ae (ac fun _=>rfl) rfl) (ae (ac fun _=>ae (ac fun _=>rfl) rfl) rfl)) (ae (ae (ac fun _=>ae (ac fun _=>rfl) rfl) (ae (ac fun _=>ae (ac fun _=>rfl) rfl) rfl)) rfl))) (ae (ae (ac fun _=>ae (ac fun _=>rfl) rfl) (ae (ac fun _=>ae (ac fun _=>rfl) rfl) rfl)) (ae (ae (ac fun _=>ae (ac fun _=>rfl) rfl) (ae (ac fun _=>ae (ac fun _=>rfl) rfl) rfl)) rfl)))) (ae (ae rfl (ae (ae (ac fun _=>ae (ac fun _=>rfl) rfl) (ae (ac fun _=>ae (ac fun _=>rfl) rfl) rfl)) (ae (ae (ac fun _=>ae (ac fun _=>rfl) rfl) (ae (ac fun _=>ae (ac fun _=>rfl) rfl) rfl)) rfl))) (ae (ae (ac fun _=>ae (ac fun _=>rfl) rfl) (ae (ac fun _=>ae (ac fun _=>rfl) rfl) rfl)) (ae (ae (ac fun _=>ae (ac fun _=>rfl) rfl) (ae (ac fun _=>ae (ac fun _=>rfl) rfl) rfl)) rfl)))))))
abbrev uS:af:=.fx [.val true yC] (Bool) (fun z=>ak z.1) (fun b=>(.one ⟨false,[(.v (.bool b))]⟩,[]))
theorem Dk:ag C0 47 uS:=
 ag.fx (e:=false) (.cons CZ (.cons xA (.cons jP (.cons eR (.cons dD (.nil)))))) mixed Tryz.func47 (by kernel_rfl) (by kernel_rfl) aj 1 ai (fun z=>(by kernel_rfl:_=bc (fun b=>some (uS.enc b)) z.1).trans (CH _ z.1))
end
end Go.Proofs.YtjkljnflaifbhaaGreatDoor
