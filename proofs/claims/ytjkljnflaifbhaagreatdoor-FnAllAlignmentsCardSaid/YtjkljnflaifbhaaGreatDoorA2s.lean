/- No conditions. -/
import Derived.Test.YtjkljnflaifbhaaGreatDoorA2b
namespace Go.Proofs.YtjkljnflaifbhaaGreatDoor
open Go.Vai
set_option maxRecDepth 100000
noncomputable section
def yf{R:Type}(kx:Nm->Option R)(a0:Nm):Option R:=
 kx a0
def nO(a0:Nm):Option (Nm):=yf some a0
theorem Pq{R} kx a0: @yf R kx a0=(nO a0).bind kx:=by
 unfold nO yf
 exact rfl
def tO{R:Type}(kx:Bool->Option R)(a0:Nm)(a1:Nm):Option R:=
 cond (a0.1 !=a1.1)
 (kx Bool.false)
 (cond (a0.2.1 !=a1.2.1)
  (kx Bool.false)
  (cond (a0.2.2 !=a1.2.2)
   (kx Bool.false)
   (kx Bool.true)))
def qt(a0:Nm)(a1:Nm):Option (Bool):=tO some a0 a1
theorem Pp{R} kx a0 a1: @tO R kx a0 a1=(qt a0 a1).bind kx:=by
 unfold qt tO
 exact ae rfl (ae rfl (ae rfl rfl))
def rV{R:Type}(kx:Bool->Option R)(a0:Ln)(a1:Ln):Option R:=
 cond (a0.1 !=a1.1)
 (kx Bool.false)
 (Option.bind (qt a0.2 a1.2) fun y1787=>
  cond (!y1787)
  (kx Bool.false)
  (kx Bool.true))
def rJ(a0:Ln)(a1:Ln):Option (Bool):=rV some a0 a1
theorem Ox{R} kx a0 a1: @rV R kx a0 a1=(rJ a0 a1).bind kx:=by
 unfold rJ rV
 exact ae rfl (ac fun _=>ae rfl rfl)
def qN{R:Type}(kx:Pt->Option R)(a0:Pt):Option R:=
 Option.bind (nO a0.1) fun y40=>
 Option.bind (nO a0.2) fun y41=>
 kx (y40,y41)
def qu(a0:Pt):Option (Pt):=qN some a0
theorem N3{R} kx a0: @qN R kx a0=(qu a0).bind kx:=by
 unfold qu qN
 exact ac fun _=>ac fun _=>rfl
def nf{R:Type}(kx:Ln->Option R)(a0:Pt)(a1:Int):Option R:=
 Option.bind (kO a1) fun y771=>
 Option.bind (ci (IntKind.wrap .i64 ((Int.tmod y771 (8:Int))+(4:Int))) a0) fun y772=>
 kx ((Int.tmod y771 (8:Int)),y772)
def dh(a0:Pt)(a1:Int):Option (Ln):=nf some a0 a1
theorem LW{R} kx a0 a1: @nf R kx a0 a1=(dh a0 a1).bind kx:=by
 unfold dh nf
 exact ac fun _=>ac fun _=>rfl
def lA{R:Type}(kx:Ln×Bool->Option R)(a0:Ln):Option R:=
 Option.bind (bz a0.2) fun y862=>
 cond (!y862.2)
 (kx (((0:Int),((0:Int),((0:Int),(0:Int)))),Bool.false))
 (kx ((a0.1,y862.1),Bool.true))
def fY(a0:Ln):Option (Ln×Bool):=lA some a0
theorem Oa{R} kx a0: @lA R kx a0=(fY a0).bind kx:=by
 unfold fY lA
 exact ac fun _=>ae rfl rfl
def rX{R:Type}(kx:Ln×Int->Option R)(a0:Ln):Option R:=
 Option.bind (fY a0) fun y863=>
 cond (!y863.2)
 (kx (((0:Int),((0:Int),((0:Int),(0:Int)))),(2:Int)))
 (kx (y863.1,(0:Int)))
def kP(a0:Ln):Option (Ln×Int):=rX some a0
theorem OB{R} kx a0: @rX R kx a0=(kP a0).bind kx:=by
 unfold kP rX
 exact ac fun _=>ae rfl rfl
def qX{R:Type}(kx:Nm->Option R)(a0:Nm):Option R:=
 kx (a0.1,(a0.2.1,(IntKind.wrap .i64 (a0.2.2+(1:Int)))))
def it(a0:Nm):Option (Nm):=qX some a0
theorem N9{R} kx a0: @qX R kx a0=(it a0).bind kx:=by
 unfold it qX
 exact rfl
def pA{R:Type}(kx:Ln×Int->Option R)(a0:Pt)(a1:Pt):Option R:=
 Option.bind (bN a0) fun y848=>
 cond (!y848)
 (kx (((0:Int),((0:Int),((0:Int),(0:Int)))),(1:Int)))
 (Option.bind (bN a1) fun y849=>
  cond (!y849)
  (kx (((0:Int),((0:Int),((0:Int),(0:Int)))),(1:Int)))
  (Option.bind (aM a0) fun y850=>
   Option.bind (aM a1) fun y851=>
   Option.bind (fi y851 y850) fun y852=>
   Option.bind (eV y852) fun y853=>
   cond (decide (y853<(0:Int)))
   (kx (((0:Int),((0:Int),((0:Int),(0:Int)))),(7:Int)))
   (Option.bind (cE y850.1 y851.1) fun y854=>
    Option.bind (it y854) fun y856=>
    Option.bind (cE y850.2 y851.2) fun y857=>
    Option.bind (it y857) fun y858=>
    Option.bind (dh (y856,y858) (IntKind.wrap .i64 (y853+(4:Int)))) fun y859=>
    Option.bind (kP y859) fun y864=>
    kx y864)))
def pi(a0:Pt)(a1:Pt):Option (Ln×Int):=pA some a0 a1
theorem Nh{R} kx a0 a1: @pA R kx a0 a1=(pi a0 a1).bind kx:=by
 unfold pi pA
 exact ac fun _=>ae rfl (ac fun _=>ae rfl (ac fun _=>ac fun _=>ac fun _=>ac fun _=>ae rfl (ac fun _=>ac fun _=>ac fun _=>ac fun _=>ac fun _=>ac fun _=>rfl)))
def qU{R:Type}(kx:Bool->Option R)(a0:Ln):Option R:=
 Option.bind (ij a0.1 (0:Int) (7:Int)) fun y91=>
 cond y91
 (Option.bind (jq a0.2) fun y96=>
  kx y96)
 (kx Bool.false)
def ck(a0:Ln):Option (Bool):=qU some a0
theorem N6{R} kx a0: @qU R kx a0=(ck a0).bind kx:=by
 unfold ck qU
 exact ac fun _=>ae (ac fun _=>rfl) rfl
def rW{R:Type}(kx:Ln->Option R)(a0:Ln):Option R:=
 Option.bind (nO a0.2) fun y44=>
 kx (a0.1,y44)
def rK(a0:Ln):Option (Ln):=rW some a0
theorem Oy{R} kx a0: @rW R kx a0=(rK a0).bind kx:=by
 unfold rK rW
 exact ac fun _=>rfl
abbrev mg:LS:=⟨[(false,[(.ptr 3 0)]),(false,[(.ptr 4 0)]),(false,[(.int .i64)]),(false,[(.ptr 7 0)])],[(false,[(.int .i64),(.int .i64),(.int .i64)]),(false,[(.int .i64),(.int .i64),(.int .i64)]),(false,[(.int .i64),(.int .i64),(.int .i64)])],[]⟩
abbrev vM:LS:=⟨[(false,[(.ptr 3 0)]),(false,[(.ptr 4 0)]),(false,[(.int .i64)]),(false,[(.ptr 7 0)])],[(false,[(.int .i64),(.int .i64),(.int .i64)]),(false,[(.int .i64),(.int .i64),(.int .i64)]),(false,[(.int .i64),(.int .i64),(.int .i64)])],[]⟩
abbrev vJ(v0:Int)(v1:Int)(v2:Int)(v3:Int)(v4:Int)(v5:Int)(v6:Int)(v7:Int)(v8:Int)(v9:Int):=(((((),()),((),()),(v0,()),((),()),()),((v1,v2,v3,()),(v4,v5,v6,()),(v7,v8,v9,()),()),()):vM.T)
abbrev jb:List (Ex×LS):=[(.exit 0,vM)]
abbrev pp(x6:Int)(b0_0:Int)(b0_1:Int)(b0_2:Int)(b1_0:Int)(b1_1:Int)(b1_2:Int)(b2_0:Int)(b2_1:Int)(b2_2:Int):=(((((),()),((),()),(x6,()),((),()),()),((b0_0,b0_1,b0_2,()),(b1_0,b1_1,b1_2,()),(b2_0,b2_1,b2_2,()),()),()):mg.T)
def kn{R:Type}(nx:mg.T->Option R)(hx:ma R jb)(x6:Int)(b0_0:Int)(b0_1:Int)(b0_2:Int)(b1_0:Int)(b1_1:Int)(b1_2:Int)(b2_0:Int)(b2_1:Int)(b2_2:Int):Option R:=
 cond ((Int.tmod x6 (2:Int))==(0:Int))
 (nx (pp (IntKind.wrap .i64 (Int.tdiv x6 (2:Int))) b0_0 b0_1 b0_2 b1_0 b1_1 b1_2 b2_0 b2_1 (IntKind.wrap .i64 (b2_2+(1:Int)))))
 (hx.1 (vJ x6 b0_0 b0_1 b0_2 b1_0 b1_1 b1_2 b2_0 b2_1 b2_2))
def yD{R:Type}(nx:mg.T->Option R)(hx:ma R jb)(z:mg.T):Option R:=kn nx hx z.1.2.2.1.1 z.2.1.1.1 z.2.1.1.2.1 z.2.1.1.2.2.1 z.2.1.2.1.1 z.2.1.2.1.2.1 z.2.1.2.1.2.2.1 z.2.1.2.2.1.1 z.2.1.2.2.1.2.1 z.2.1.2.2.1.2.2.1
theorem Du:fR @yD:=fun R nx hx z=>by
 show kn nx hx z.1.2.2.1.1 z.2.1.1.1 z.2.1.1.2.1 z.2.1.1.2.2.1 z.2.1.2.1.1 z.2.1.2.1.2.1 z.2.1.2.1.2.2.1 z.2.1.2.2.1.1 z.2.1.2.2.1.2.1 z.2.1.2.2.1.2.2.1=(kn (fun y=>some (.inl y)) (rf jb fun x=>some (.inr x)) z.1.2.2.1.1 z.2.1.1.1 z.2.1.1.2.1 z.2.1.1.2.2.1 z.2.1.2.1.1 z.2.1.2.1.2.1 z.2.1.2.1.2.2.1 z.2.1.2.2.1.1 z.2.1.2.2.1.2.1 z.2.1.2.2.1.2.2.1).bind (tE nx hx)
 unfold kn
 exact ae rfl rfl
def pC:mg.T->Option (wL jb):=D4 @yD
theorem E3 x6 b0_0 b0_1 b0_2 b1_0 b1_1 b1_2 b2_0 b2_1 b2_2:pC (pp x6 b0_0 b0_1 b0_2 b1_0 b1_1 b1_2 b2_0 b2_1 b2_2)=kn pC (rf jb some) x6 b0_0 b0_1 b0_2 b1_0 b1_1 b1_2 b2_0 b2_1 b2_2:=kU Du _
abbrev lj:LS:=⟨[(false,[(.ptr 4 0)]),(false,[(.ptr 7 0)]),(false,[(.int .i64)])],[(false,[(.int .i64),(.int .i64),(.int .i64)]),(false,[(.int .i64),(.int .i64),(.int .i64)])],[]⟩
abbrev uy:LS:=⟨[(false,[(.ptr 4 0)]),(false,[(.ptr 7 0)])],[(false,[(.int .i64),(.int .i64),(.int .i64)]),(false,[(.int .i64),(.int .i64),(.int .i64)])],[]⟩
abbrev up(v0:Int)(v1:Int)(v2:Int)(v3:Int)(v4:Int)(v5:Int):=(((((),()),((),()),()),((v0,v1,v2,()),(v3,v4,v5,()),()),()):uy.T)
abbrev hY:List (Ex×LS):=[(.exit 2,uy)]
abbrev lf(x8:Int)(b0_0:Int)(b0_1:Int)(b0_2:Int)(b1_0:Int)(b1_1:Int)(b1_2:Int):=(((((),()),((),()),(x8,()),()),((b0_0,b0_1,b0_2,()),(b1_0,b1_1,b1_2,()),()),()):lj.T)
def jE{R:Type}(nx:lj.T->Option R)(hx:ma R hY)(x8:Int)(b0_0:Int)(b0_1:Int)(b0_2:Int)(b1_0:Int)(b1_1:Int)(b1_2:Int):Option R:=
 cond (decide (x8>(0:Int)))
 (cond (decide (b1_2>(0:Int)))
  (nx (lf (IntKind.wrap .i64 (x8-(1:Int))) b0_0 b0_1 b0_2 b1_0 b1_1 (IntKind.wrap .i64 (b1_2-(1:Int)))))
  (nx (lf (IntKind.wrap .i64 (x8-(1:Int))) b0_0 b0_1 b0_2 (IntKind.wrap .i64 (b1_0*(2:Int))) (IntKind.wrap .i64 (b1_1*(2:Int))) b1_2)))
 (hx.1 (up b0_0 b0_1 b0_2 b1_0 b1_1 b1_2))
def xy{R:Type}(nx:lj.T->Option R)(hx:ma R hY)(z:lj.T):Option R:=jE nx hx z.1.2.2.1.1 z.2.1.1.1 z.2.1.1.2.1 z.2.1.1.2.2.1 z.2.1.2.1.1 z.2.1.2.1.2.1 z.2.1.2.1.2.2.1
theorem Cm:fR @xy:=fun R nx hx z=>by
 show jE nx hx z.1.2.2.1.1 z.2.1.1.1 z.2.1.1.2.1 z.2.1.1.2.2.1 z.2.1.2.1.1 z.2.1.2.1.2.1 z.2.1.2.1.2.2.1=(jE (fun y=>some (.inl y)) (rf hY fun x=>some (.inr x)) z.1.2.2.1.1 z.2.1.1.1 z.2.1.1.2.1 z.2.1.1.2.2.1 z.2.1.2.1.1 z.2.1.2.1.2.1 z.2.1.2.1.2.2.1).bind (tE nx hx)
 unfold jE
 exact ae (ae rfl rfl) rfl
def og:lj.T->Option (wL hY):=D4 @xy
theorem D3 x8 b0_0 b0_1 b0_2 b1_0 b1_1 b1_2:og (lf x8 b0_0 b0_1 b0_2 b1_0 b1_1 b1_2)=jE og (rf hY some) x8 b0_0 b0_1 b0_2 b1_0 b1_1 b1_2:=kU Cm _
def oS{R:Type}(kx:Nm×Bool->Option R)(a0:Nm)(a1:Nm):Option R:=
 cond ((IntKind.wrap .i64 ((IntKind.wrap .i64 (a1.1*a1.1))-(IntKind.wrap .i64 ((IntKind.wrap .i64 ((2:Int)*a1.2.1))*a1.2.1))))==(0:Int))
 (kx (((0:Int),((0:Int),(0:Int))),Bool.false))
 (Option.bind (pC (pp (IntKind.wrap .i64 ((IntKind.wrap .i64 (a1.1*a1.1))-(IntKind.wrap .i64 ((IntKind.wrap .i64 ((2:Int)*a1.2.1))*a1.2.1)))) a1.1 a1.2.1 a1.2.2 (0:Int) (0:Int) (0:Int) (IntKind.wrap .i64 ((IntKind.wrap .i64 (a0.1*a1.1))-(IntKind.wrap .i64 ((IntKind.wrap .i64 ((2:Int)*a0.2.1))*a1.2.1)))) (IntKind.wrap .i64 ((IntKind.wrap .i64 (a0.2.1*a1.1))-(IntKind.wrap .i64 (a0.1*a1.2.1)))) a0.2.2)) (sj jb
  (fun e664=>
   cond (decide ((e664.1.2.2.1.1:Int)=(0:Int)))
   none
   (cond ((Int.tmod (e664.2.1.2.2.1.1:Int) (e664.1.2.2.1.1:Int)) !=(0:Int))
    (kx (((0:Int),((0:Int),(0:Int))),Bool.false))
    (cond (decide ((e664.1.2.2.1.1:Int)=(0:Int)))
     none
     (cond ((Int.tmod (e664.2.1.2.2.1.2.1:Int) (e664.1.2.2.1.1:Int)) !=(0:Int))
      (kx (((0:Int),((0:Int),(0:Int))),Bool.false))
      (cond (decide ((e664.1.2.2.1.1:Int)=(0:Int)))
       none
       (cond (decide ((e664.1.2.2.1.1:Int)=(0:Int)))
        none
        (Option.bind (og (lf (e664.2.1.1.2.2.1:Int) (e664.2.1.2.1.1:Int) (e664.2.1.2.1.2.1:Int) (e664.2.1.2.1.2.2.1:Int) (IntKind.wrap .i64 (Int.tdiv (e664.2.1.2.2.1.1:Int) (e664.1.2.2.1.1:Int))) (IntKind.wrap .i64 (Int.tdiv (e664.2.1.2.2.1.2.1:Int) (e664.1.2.2.1.1:Int))) (e664.2.1.2.2.1.2.2.1:Int))) (sj hY
         (fun e682=>
          Option.bind (eF ((e682.2.1.2.1.1:Int),((e682.2.1.2.1.2.1:Int),(e682.2.1.2.1.2.2.1:Int)))) fun y689=>
          kx (y689,Bool.true),())))))))),())))
def fP(a0:Nm)(a1:Nm):Option (Nm×Bool):=oS some a0 a1
theorem Oz{R} kx a0 a1: @oS R kx a0 a1=(fP a0 a1).bind kx:=by
 unfold fP oS
 exact ae rfl (dM ⟨fun _=>ae rfl (ae rfl (ae rfl (ae rfl (ae rfl (ae rfl (dM ⟨fun _=>ac fun _=>rfl,trivial⟩)))))),trivial⟩)
def ob{R:Type}(kx:Nm->Option R)(a0:Int):Option R:=
 Option.bind (cQ a0) fun y735=>
 Option.bind (aM y735) fun y736=>
 Option.bind (bK y736.1 y736.1) fun y737=>
 Option.bind (bK y736.2 y736.2) fun y738=>
 Option.bind (cE y737 y738) fun y739=>
 kx y739
def gS(a0:Int):Option (Nm):=ob some a0
theorem MI{R} kx a0: @ob R kx a0=(gS a0).bind kx:=by
 unfold gS ob
 exact ac fun _=>ac fun _=>ac fun _=>ac fun _=>ac fun _=>rfl
def qY{R:Type}(kx:Ln×Int->Option R)(a0:Int)(a1:Pt)(a2:Ln):Option R:=
 Option.bind (cQ (IntKind.wrap .i64 (a0+(4:Int)))) fun y1021=>
 Option.bind (aM y1021) fun y1022=>
 Option.bind (ci (IntKind.wrap .i64 (a2.1+(4:Int))) y1022) fun y1023=>
 Option.bind (ci (IntKind.wrap .i64 (a2.1+(4:Int))) a1) fun y1024=>
 Option.bind (cp a2.2 y1024) fun y1025=>
 Option.bind (dY y1023) fun y1026=>
 cond y1026
 (Option.bind (dY y1025) fun y1027=>
  cond y1027
  (kx (((0:Int),((0:Int),((0:Int),(0:Int)))),(2:Int)))
  (kx (((0:Int),((0:Int),((0:Int),(0:Int)))),(0:Int))))
 (Option.bind (gS (IntKind.wrap .i64 (a0+(4:Int)))) fun y1028=>
  Option.bind (bK y1025 y1028) fun y1029=>
  Option.bind (fP y1029 y1023) fun y1030=>
  Option.bind (ci (IntKind.wrap .i64 (a0+(4:Int))) a1) fun y1031=>
  Option.bind (it y1030.1) fun y1032=>
  Option.bind (cE y1031 y1032) fun y1033=>
  kx ((a0,y1033),(1:Int)))
def iu(a0:Int)(a1:Pt)(a2:Ln):Option (Ln×Int):=qY some a0 a1 a2
theorem Ob{R} kx a0 a1 a2: @qY R kx a0 a1 a2=(iu a0 a1 a2).bind kx:=by
 unfold iu qY
 exact ac fun _=>ac fun _=>ac fun _=>ac fun _=>ac fun _=>ac fun _=>ae (ac fun _=>ae rfl rfl) (ac fun _=>ac fun _=>ac fun _=>ac fun _=>ac fun _=>ac fun _=>rfl)
def py{R:Type}(kx:Ln×Int->Option R)(a0:Int)(a1:Pt)(a2:Ln):Option R:=
 Option.bind (kN (IntKind.wrap .i64 (a0+(4:Int)))) fun y1665=>
 Option.bind (bv a2) fun y1666=>
 Option.bind (bS y1666 y1665) fun y1667=>
 Option.bind (bS y1666 a1) fun y1668=>
 Option.bind (bJ a2.2 y1668) fun y1669=>
 cond ((y1667.1==(0:Int))&&((y1667.2.1==(0:Int))&&((y1667.2.2==(0:Int))&&Bool.true)))
 (cond ((y1669.1==(0:Int))&&((y1669.2.1==(0:Int))&&((y1669.2.2==(0:Int))&&Bool.true)))
  (kx (((0:Int),((0:Int),((0:Int),(0:Int)))),(2:Int)))
  (kx (((0:Int),((0:Int),((0:Int),(0:Int)))),(0:Int))))
 (Option.bind (bS y1665 y1665) fun y1670=>
  Option.bind (bR y1669 y1670) fun y1671=>
  Option.bind (de y1667 y1667) fun y1672=>
  Option.bind (dX y1671 y1672) fun y1673=>
  cond (!y1673.2)
  (kx (((0:Int),((0:Int),((0:Int),(0:Int)))),(3:Int)))
  (Option.bind (bS y1665 a1) fun y1674=>
   Option.bind (de y1674 y1673.1) fun y1675=>
   kx ((a0,y1675),(1:Int))))
def iT(a0:Int)(a1:Pt)(a2:Ln):Option (Ln×Int):=py some a0 a1 a2
theorem Ng{R} kx a0 a1 a2: @py R kx a0 a1 a2=(iT a0 a1 a2).bind kx:=by
 unfold iT py
 exact ac fun _=>ac fun _=>ac fun _=>ac fun _=>ac fun _=>ae (ae rfl rfl) (ac fun _=>ac fun _=>ac fun _=>ac fun _=>ae rfl (ac fun _=>ac fun _=>rfl))
def ee{R:Type}(kx:Ln->Option R)(a0:Ln):Option R:=
 Option.bind (aX a0.2) fun y560=>
 kx (a0.1,y560)
def bu(a0:Ln):Option (Ln):=ee some a0
theorem MH{R} kx a0: @ee R kx a0=(bu a0).bind kx:=by
 unfold bu ee
 exact ac fun _=>rfl
def nc{R:Type}(kx:Ln×Int->Option R)(a0:Pt)(a1:Ln)(a2:Ln):Option R:=
 Option.bind (bN a0) fun y1057=>
 cond (!y1057)
 (kx (((0:Int),((0:Int),((0:Int),(0:Int)))),(1:Int)))
 (Option.bind (ck a1) fun y1058=>
  cond (!y1058)
  (kx (((0:Int),((0:Int),((0:Int),(0:Int)))),(1:Int)))
  (Option.bind (ck a2) fun y1059=>
   cond (!y1059)
   (kx (((0:Int),((0:Int),((0:Int),(0:Int)))),(1:Int)))
   (cond (a1.1==a2.1)
    (kx (((0:Int),((0:Int),((0:Int),(0:Int)))),(7:Int)))
    (Option.bind (aM a0) fun y1060=>
     Option.bind (bu a1) fun y1061=>
     Option.bind (iu (Int.tmod (IntKind.wrap .i64 (a2.1+(4:Int))) (8:Int)) y1060 y1061) fun y1062=>
     Option.bind (kP y1062.1) fun y1063=>
     kx y1063))))
def mR(a0:Pt)(a1:Ln)(a2:Ln):Option (Ln×Int):=nc some a0 a1 a2
theorem LU{R} kx a0 a1 a2: @nc R kx a0 a1 a2=(mR a0 a1 a2).bind kx:=by
 unfold mR nc
 exact ac fun _=>ae rfl (ac fun _=>ae rfl (ac fun _=>ae rfl (ae rfl (ac fun _=>ac fun _=>ac fun _=>ac fun _=>rfl))))
def mZ{R:Type}(kx:Ln×Int->Option R)(a0:Pt)(a1:Ln)(a2:Ln):Option R:=
 Option.bind (bf a0) fun y1757=>
 cond (!y1757)
 (kx (((0:Int),((0:Int),((0:Int),(0:Int)))),(1:Int)))
 (Option.bind (bh a1) fun y1758=>
  cond (!y1758)
  (kx (((0:Int),((0:Int),((0:Int),(0:Int)))),(1:Int)))
  (Option.bind (bh a2) fun y1759=>
   cond (!y1759)
   (kx (((0:Int),((0:Int),((0:Int),(0:Int)))),(1:Int)))
   (cond (a1.1==a2.1)
    (kx (((0:Int),((0:Int),((0:Int),(0:Int)))),(7:Int)))
    (Option.bind (iT (Int.tmod (IntKind.wrap .i64 (a2.1+(4:Int))) (8:Int)) a0 a1) fun y1760=>
     Option.bind (eY y1760.1 (y1760.2==(1:Int))) fun y1761=>
     kx y1761))))
def mP(a0:Pt)(a1:Ln)(a2:Ln):Option (Ln×Int):=mZ some a0 a1 a2
theorem LR{R} kx a0 a1 a2: @mZ R kx a0 a1 a2=(mP a0 a1 a2).bind kx:=by
 unfold mP mZ
 exact ac fun _=>ae rfl (ac fun _=>ae rfl (ac fun _=>ae rfl (ae rfl (ac fun _=>ac fun _=>rfl))))
def il{R:Type}(kx:Ln×Int->Option R)(a0:Ln)(a1:Pt):Option R:=
 Option.bind (ck a0) fun y928=>
 cond (!y928)
 (kx (((0:Int),((0:Int),((0:Int),(0:Int)))),(1:Int)))
 (Option.bind (bN a1) fun y929=>
  cond (!y929)
  (kx (((0:Int),((0:Int),((0:Int),(0:Int)))),(1:Int)))
  (Option.bind (aM a1) fun y930=>
   Option.bind (dh y930 (IntKind.wrap .i64 (a0.1+(4:Int)))) fun y931=>
   Option.bind (kP y931) fun y932=>
   kx y932))
def ii(a0:Ln)(a1:Pt):Option (Ln×Int):=il some a0 a1
theorem HA{R} kx a0 a1: @il R kx a0 a1=(ii a0 a1).bind kx:=by
 unfold ii il
 exact ac fun _=>ae rfl (ac fun _=>ae rfl (ac fun _=>ac fun _=>ac fun _=>rfl))
def ik{R:Type}(kx:Ln×Int->Option R)(a0:Ln)(a1:Pt):Option R:=
 Option.bind (bh a0) fun y1745=>
 cond (!y1745)
 (kx (((0:Int),((0:Int),((0:Int),(0:Int)))),(1:Int)))
 (Option.bind (bf a1) fun y1746=>
  cond (!y1746)
  (kx (((0:Int),((0:Int),((0:Int),(0:Int)))),(1:Int)))
  (Option.bind (dL a1 (Int.tmod (IntKind.wrap .i64 (a0.1+(4:Int))) (8:Int))) fun y1747=>
   Option.bind (eY y1747 Bool.true) fun y1748=>
   kx y1748))
def ie(a0:Ln)(a1:Pt):Option (Ln×Int):=ik some a0 a1
theorem Hz{R} kx a0 a1: @ik R kx a0 a1=(ie a0 a1).bind kx:=by
 unfold ie ik
 exact ac fun _=>ae rfl (ac fun _=>ae rfl (ac fun _=>ac fun _=>rfl))
abbrev mh:LS:=⟨[(false,[(.sl yL)]),(false,[(.own yL)]),(false,[(.int .i64)])],[],[]⟩
abbrev vO:LS:=⟨[(false,[(.own yL)]),(false,[(.int .i64)]),(false,[(.own yL)])],[],[]⟩
abbrev CN v0(v1:Int) v2:=((((v0,()),(v1,()),(v2,()),()),(),()):vO.T)
abbrev vP:LS:=⟨[(false,[.undef]),(false,[.undef]),(false,[(.own yL)])],[],[]⟩
abbrev CO v0:=(((((),()),((),()),(v0,()),()),(),()):vP.T)
abbrev jc:List (Ex×LS):=[(.ret,vO),(.exit 0,vP)]
abbrev pt x0 x4(x5:Int):=((((x0,()),(x4,()),(x5,()),()),(),()):mh.T)
def fj{R:Type}(nx:mh.T->Option R)(hx:ma R jc)(x0:List Ln)(x4:List Ln)(x5:Int):Option R:=
 cond (decide (x5<((List.length x0:Nat):Int)))
 (Option.bind (vu x0 x5) fun y881=>
  Option.bind (fY y881) fun y882=>
  cond (!y882.2)
  (hx.1 (CN [] (2:Int) x4))
  (cond (decide ((((List.length x4)+(List.length [y882.1]))*32)<=70368744177664))
   (cond (decide (((List.length x4)+(List.length [y882.1]))<=70368744177664))
    (nx (pt x0 (x4++ [y882.1]) (IntKind.wrap .i64 (x5+(1:Int)))))
    none)
   none))
 (hx.2.1 (CO x4))
def yE{R:Type}(nx:mh.T->Option R)(hx:ma R jc)(z:mh.T):Option R:=fj nx hx z.1.1.1 z.1.2.1.1 z.1.2.2.1.1
theorem Dx:fR @yE:=fun R nx hx z=>by
 show fj nx hx z.1.1.1 z.1.2.1.1 z.1.2.2.1.1=(fj (fun y=>some (.inl y)) (rf jc fun x=>some (.inr x)) z.1.1.1 z.1.2.1.1 z.1.2.2.1.1).bind (tE nx hx)
 unfold fj
 exact ae (ac fun _=>ac fun _=>ae rfl (ae (ae rfl rfl) rfl)) rfl
def pD:mh.T->Option (wL jc):=D4 @yE
theorem oh x0 x4 x5:pD (pt x0 x4 x5)=fj pD (rf jc some) x0 x4 x5:=kU Dx _
def oZ{R:Type}(kx:(List Ln)×Int->Option R)(a0:(List Ln)):Option R:=
 Option.bind (pD (pt a0 [] (0:Int))) (sj jc
 (fun e883=>
  kx ((e883.1.1.1:List Ln),(e883.1.2.1.1:Int)),fun e887=>
  kx ((e887.1.2.2.1.1:List Ln),(0:Int)),()))
def ec(a0:(List Ln)):Option ((List Ln)×Int):=oZ some a0
theorem OA{R} kx a0: @oZ R kx a0=(ec a0).bind kx:=by
 unfold ec oZ
 exact dM ⟨fun _=>rfl,fun _=>rfl,trivial⟩
def qV{R:Type}(kx:Pt->Option R)(a0:Ln)(a1:Ln):Option R:=
 Option.bind (cQ (IntKind.wrap .i64 (a0.1+(4:Int)))) fun y569=>
 Option.bind (aM y569) fun y573=>
 Option.bind (cQ (IntKind.wrap .i64 (a1.1+(4:Int)))) fun y574=>
 Option.bind (aM y574) fun y575=>
 Option.bind (bK y573.1 y575.2) fun y600=>
 Option.bind (bK y573.2 y575.1) fun y601=>
 Option.bind (cp y600 y601) fun y648=>
 Option.bind (bK a0.2 y575.2) fun y649=>
 Option.bind (bK a1.2 y573.2) fun y650=>
 Option.bind (cp y649 y650) fun y651=>
 Option.bind (fP y651 y648) fun y690=>
 Option.bind (bK a1.2 y573.1) fun y691=>
 Option.bind (bK a0.2 y575.1) fun y692=>
 Option.bind (cp y691 y692) fun y693=>
 Option.bind (fP y693 y648) fun y694=>
 kx (y690.1,y694.1)
def jK(a0:Ln)(a1:Ln):Option (Pt):=qV some a0 a1
theorem N7{R} kx a0 a1: @qV R kx a0 a1=(jK a0 a1).bind kx:=by
 unfold jK qV
 exact ac fun _=>ac fun _=>ac fun _=>ac fun _=>ac fun _=>ac fun _=>ac fun _=>ac fun _=>ac fun _=>ac fun _=>ac fun _=>ac fun _=>ac fun _=>ac fun _=>ac fun _=>rfl
abbrev mi:LS:=⟨[(false,[(.sl yL)]),(false,[(.ptr 3 0)]),(false,[(.int .i64)])],[(false,[(.int .i64),(.int .i64),(.int .i64),(.int .i64)])],[]⟩
abbrev vQ:LS:=⟨[(false,[(.sl yL)]),(false,[(.ptr 3 0)]),(false,[(.int .i64)])],[(false,[(.int .i64),(.int .i64),(.int .i64),(.int .i64)])],[]⟩
abbrev qn v0(v1:Int)(v2:Int)(v3:Int)(v4:Int)(v5:Int):=((((v0,()),((),()),(v1,()),()),((v2,v3,v4,v5,()),()),()):vQ.T)
abbrev kq:List (Ex×LS):=[(.exit 0,vQ)]
abbrev pu x0(x5:Int)(b0_0:Int)(b0_1:Int)(b0_2:Int)(b0_3:Int):=((((x0,()),((),()),(x5,()),()),((b0_0,b0_1,b0_2,b0_3,()),()),()):mi.T)
def gy{R:Type}(nx:mi.T->Option R)(hx:ma R kq)(x0:List Ln)(x5:Int)(b0_0:Int)(b0_1:Int)(b0_2:Int)(b0_3:Int):Option R:=
 cond (decide (x5>(0:Int)))
 (Option.bind (vu x0 (IntKind.wrap .i64 (x5-(1:Int)))) fun y900=>
  cond (decide (y900.1>b0_0))
  (nx (pu x0 (IntKind.wrap .i64 (x5-(1:Int))) b0_0 b0_1 b0_2 b0_3))
  (Option.bind (vu x0 (IntKind.wrap .i64 (x5-(1:Int)))) fun y901=>
   cond (y901.1==b0_0)
   (Option.bind (vu x0 (IntKind.wrap .i64 (x5-(1:Int)))) fun y902=>
    Option.bind (cp y902.2 (b0_1,(b0_2,b0_3))) fun y903=>
    Option.bind (dA y903) fun y904=>
    cond (decide (y904>(0:Int)))
    (nx (pu x0 (IntKind.wrap .i64 (x5-(1:Int))) b0_0 b0_1 b0_2 b0_3))
    (hx.1 (qn x0 x5 b0_0 b0_1 b0_2 b0_3)))
   (hx.1 (qn x0 x5 b0_0 b0_1 b0_2 b0_3))))
 (hx.1 (qn x0 x5 b0_0 b0_1 b0_2 b0_3))
def yF{R:Type}(nx:mi.T->Option R)(hx:ma R kq)(z:mi.T):Option R:=gy nx hx z.1.1.1 z.1.2.2.1.1 z.2.1.1.1 z.2.1.1.2.1 z.2.1.1.2.2.1 z.2.1.1.2.2.2.1
theorem Dz:fR @yF:=fun R nx hx z=>by
 show gy nx hx z.1.1.1 z.1.2.2.1.1 z.2.1.1.1 z.2.1.1.2.1 z.2.1.1.2.2.1 z.2.1.1.2.2.2.1=(gy (fun y=>some (.inl y)) (rf kq fun x=>some (.inr x)) z.1.1.1 z.1.2.2.1.1 z.2.1.1.1 z.2.1.1.2.1 z.2.1.1.2.2.1 z.2.1.1.2.2.2.1).bind (tE nx hx)
 unfold gy
 exact ae (ac fun _=>ae rfl (ac fun _=>ae (ac fun _=>ac fun _=>ac fun _=>ae rfl rfl) rfl)) rfl
def sY:mi.T->Option (wL kq):=D4 @yF
theorem rG x0 x5 b0_0 b0_1 b0_2 b0_3:sY (pu x0 x5 b0_0 b0_1 b0_2 b0_3)=gy sY (rf kq some) x0 x5 b0_0 b0_1 b0_2 b0_3:=kU Dz _
def pc{R:Type}(kx:(List Ln)->Option R)(a0:(List Ln))(a1:Ln):Option R:=
 Option.bind (sY (pu a0 ((List.length a0:Nat):Int) a1.1 a1.2.1 a1.2.2.1 a1.2.2.2)) (sj kq
 (fun e905=>
  cond (decide ((0:Int)<=(e905.1.2.2.1.1:Int)))
  (cond (decide ((e905.1.2.2.1.1:Int)<=(((List.length (e905.1.1.1:List Ln)):Nat):Int)))
   (cond (decide ((((List.length ([]:List Int))+(List.length (List.drop 0 (List.take (Int.toNat (e905.1.2.2.1.1:Int)) (e905.1.1.1:List Ln)))))*32)<=70368744177664))
    (cond (decide (((List.length ([]:List Int))+(List.length (List.drop 0 (List.take (Int.toNat (e905.1.2.2.1.1:Int)) (e905.1.1.1:List Ln)))))<=70368744177664))
     (cond (decide ((((List.length ([]++(List.drop 0 (List.take (Int.toNat (e905.1.2.2.1.1:Int)) (e905.1.1.1:List Ln)))))+(List.length [((e905.2.1.1.1:Int),((e905.2.1.1.2.1:Int),((e905.2.1.1.2.2.1:Int),(e905.2.1.1.2.2.2.1:Int))))]))*32)<=70368744177664))
      (cond (decide (((List.length ([]++(List.drop 0 (List.take (Int.toNat (e905.1.2.2.1.1:Int)) (e905.1.1.1:List Ln)))))+(List.length [((e905.2.1.1.1:Int),((e905.2.1.1.2.1:Int),((e905.2.1.1.2.2.1:Int),(e905.2.1.1.2.2.2.1:Int))))]))<=70368744177664))
       (cond (decide ((0:Int)<=(e905.1.2.2.1.1:Int)))
        (cond (decide ((e905.1.2.2.1.1:Int)<=(((List.length (e905.1.1.1:List Ln)):Nat):Int)))
         (cond (decide ((((List.length (([]++(List.drop 0 (List.take (Int.toNat (e905.1.2.2.1.1:Int)) (e905.1.1.1:List Ln))))++ [((e905.2.1.1.1:Int),((e905.2.1.1.2.1:Int),((e905.2.1.1.2.2.1:Int),(e905.2.1.1.2.2.2.1:Int))))]))+(List.length (List.drop (Int.toNat (e905.1.2.2.1.1:Int)) (List.take (List.length (e905.1.1.1:List Ln)) (e905.1.1.1:List Ln)))))*32)<=70368744177664))
          (cond (decide (((List.length (([]++(List.drop 0 (List.take (Int.toNat (e905.1.2.2.1.1:Int)) (e905.1.1.1:List Ln))))++ [((e905.2.1.1.1:Int),((e905.2.1.1.2.1:Int),((e905.2.1.1.2.2.1:Int),(e905.2.1.1.2.2.2.1:Int))))]))+(List.length (List.drop (Int.toNat (e905.1.2.2.1.1:Int)) (List.take (List.length (e905.1.1.1:List Ln)) (e905.1.1.1:List Ln)))))<=70368744177664))
           (kx ((([]++(List.drop 0 (List.take (Int.toNat (e905.1.2.2.1.1:Int)) (e905.1.1.1:List Ln))))++ [((e905.2.1.1.1:Int),((e905.2.1.1.2.1:Int),((e905.2.1.1.2.2.1:Int),(e905.2.1.1.2.2.2.1:Int))))])++(List.drop (Int.toNat (e905.1.2.2.1.1:Int)) (List.take (List.length (e905.1.1.1:List Ln)) (e905.1.1.1:List Ln)))))
           none)
          none)
         none)
        none)
       none)
      none)
     none)
    none)
   none)
  none,()))
def jv(a0:(List Ln))(a1:Ln):Option ((List Ln)):=pc some a0 a1
theorem OC{R} kx a0 a1: @pc R kx a0 a1=(jv a0 a1).bind kx:=by
 unfold jv pc
 exact dM ⟨fun _=>ae (ae (ae (ae (ae (ae (ae (ae (ae (ae rfl rfl) rfl) rfl) rfl) rfl) rfl) rfl) rfl) rfl) rfl,trivial⟩
def nZ{R:Type}(kx:(List Ln)×Int->Option R)(a0:Ln)(a1:Ln):Option R:=
 Option.bind (ck a0) fun y871=>
 cond (!y871)
 (kx ([],(1:Int)))
 (Option.bind (ck a1) fun y872=>
  cond (!y872)
  (kx ([],(1:Int)))
  (cond ((a0.1==a1.1)&&(((a0.2.1==a1.2.1)&&((a0.2.2.1==a1.2.2.1)&&((a0.2.2.2==a1.2.2.2)&&Bool.true)))&&Bool.true))
   (kx ([],(7:Int)))
   (Option.bind (bu a0) fun y873=>
    Option.bind (bu a1) fun y874=>
    cond (a0.1==a1.1)
    (Option.bind (cE y873.2 y874.2) fun y875=>
     Option.bind (it y875) fun y876=>
     Option.bind (ec ([]++ [(a0.1,y876)])) fun y889=>
     kx y889)
    (cond ((Int.tmod (IntKind.wrap .i64 (a0.1+a1.1)) (2:Int))==(0:Int))
     (Option.bind (jK y873 y874) fun y890=>
      Option.bind (dh y890 (IntKind.wrap .i64 (Int.tdiv (IntKind.wrap .i64 (a0.1+a1.1)) (2:Int)))) fun y891=>
      Option.bind (jv [] y891) fun y912=>
      Option.bind (dh y890 (IntKind.wrap .i64 ((IntKind.wrap .i64 (Int.tdiv (IntKind.wrap .i64 (a0.1+a1.1)) (2:Int)))+(4:Int)))) fun y913=>
      Option.bind (jv y912 y913) fun y914=>
      Option.bind (ec y914) fun y915=>
      kx y915)
     (Option.bind (ec []) fun y916=>
      kx y916)))))
def nP(a0:Ln)(a1:Ln):Option ((List Ln)×Int):=nZ some a0 a1
theorem MF{R} kx a0 a1: @nZ R kx a0 a1=(nP a0 a1).bind kx:=by
 unfold nP nZ
 exact ac fun _=>ae rfl (ac fun _=>ae rfl (ae rfl (ac fun _=>ac fun _=>ae (ac fun _=>ac fun _=>ac fun _=>rfl) (ae (ac fun _=>ac fun _=>ac fun _=>ac fun _=>ac fun _=>ac fun _=>rfl) (ac fun _=>rfl)))))
abbrev jB:LS:=⟨[(false,[(.ptr 4 0)]),(false,[(.ptr 5 0)]),(false,[(.ptr 6 0)]),(false,[(.ptr 7 0)]),(false,[(.own yL)]),(false,[(.int .i64)])],[(false,[(.int .i64),(.int .i64),(.int .i64),(.int .i64),(.int .i64),(.int .i64)]),(false,[(.int .i64),(.int .i64),(.int .i64),(.int .i64)]),(false,[(.int .i64),(.int .i64),(.int .i64),(.int .i64),(.int .i64),(.int .i64)]),(false,[(.int .i64),(.int .i64),(.int .i64),(.int .i64)])],[]⟩
abbrev ux:LS:=⟨[(false,[(.own yL)])],[],[]⟩
abbrev uo v0:=((((v0,()),()),(),()):ux.T)
abbrev hQ:List (Ex×LS):=[(.exit 0,ux)]
abbrev aZ x10(x11:Int)(b0_0:Int)(b0_1:Int)(b0_2:Int)(b0_3:Int)(b0_4:Int)(b0_5:Int)(b1_0:Int)(b1_1:Int)(b1_2:Int)(b1_3:Int)(b2_0:Int)(b2_1:Int)(b2_2:Int)(b2_3:Int)(b2_4:Int)(b2_5:Int)(b3_0:Int)(b3_1:Int)(b3_2:Int)(b3_3:Int):=(((((),()),((),()),((),()),((),()),(x10,()),(x11,()),()),((b0_0,b0_1,b0_2,b0_3,b0_4,b0_5,()),(b1_0,b1_1,b1_2,b1_3,()),(b2_0,b2_1,b2_2,b2_3,b2_4,b2_5,()),(b3_0,b3_1,b3_2,b3_3,()),()),()):jB.T)
def fE{R:Type}(nx:jB.T->Option R)(hx:ma R hQ)(x10:List Ln)(x11:Int)(b0_0:Int)(b0_1:Int)(b0_2:Int)(b0_3:Int)(b0_4:Int)(b0_5:Int)(b1_0:Int)(b1_1:Int)(b1_2:Int)(b1_3:Int)(b2_0:Int)(b2_1:Int)(b2_2:Int)(b2_3:Int)(b2_4:Int)(b2_5:Int)(b3_0:Int)(b3_1:Int)(b3_2:Int)(b3_3:Int):Option R:=
 cond (decide (x11<(8:Int)))
 (Option.bind (aM ((b0_0,(b0_1,b0_2)),(b0_3,(b0_4,b0_5)))) fun y1016=>
  Option.bind (bu (b1_0,(b1_1,(b1_2,b1_3)))) fun y1017=>
  Option.bind (iu x11 y1016 y1017) fun y1034=>
  Option.bind (aM ((b2_0,(b2_1,b2_2)),(b2_3,(b2_4,b2_5)))) fun y1035=>
  Option.bind (bu (b3_0,(b3_1,(b3_2,b3_3)))) fun y1036=>
  Option.bind (iu x11 y1035 y1036) fun y1037=>
  cond (y1034.2==(1:Int))
  (cond (y1037.2==(2:Int))
   (cond (decide ((((List.length x10)+(List.length [y1034.1]))*32)<=70368744177664))
    (cond (decide (((List.length x10)+(List.length [y1034.1]))<=70368744177664))
     (nx (aZ (x10++ [y1034.1]) (IntKind.wrap .i64 (x11+(1:Int))) b0_0 b0_1 b0_2 b0_3 b0_4 b0_5 b1_0 b1_1 b1_2 b1_3 b2_0 b2_1 b2_2 b2_3 b2_4 b2_5 b3_0 b3_1 b3_2 b3_3))
     none)
    none)
   (cond (y1034.2==(2:Int))
    (cond (y1037.2==(1:Int))
     (cond (decide ((((List.length x10)+(List.length [y1037.1]))*32)<=70368744177664))
      (cond (decide (((List.length x10)+(List.length [y1037.1]))<=70368744177664))
       (nx (aZ (x10++ [y1037.1]) (IntKind.wrap .i64 (x11+(1:Int))) b0_0 b0_1 b0_2 b0_3 b0_4 b0_5 b1_0 b1_1 b1_2 b1_3 b2_0 b2_1 b2_2 b2_3 b2_4 b2_5 b3_0 b3_1 b3_2 b3_3))
       none)
      none)
     (cond (y1034.2==(1:Int))
      (cond (y1037.2==(1:Int))
       (Option.bind (cp y1034.1.2 y1037.1.2) fun y1038=>
        Option.bind (dY y1038) fun y1039=>
        cond y1039
        (cond (decide ((((List.length x10)+(List.length [y1034.1]))*32)<=70368744177664))
         (cond (decide (((List.length x10)+(List.length [y1034.1]))<=70368744177664))
          (nx (aZ (x10++ [y1034.1]) (IntKind.wrap .i64 (x11+(1:Int))) b0_0 b0_1 b0_2 b0_3 b0_4 b0_5 b1_0 b1_1 b1_2 b1_3 b2_0 b2_1 b2_2 b2_3 b2_4 b2_5 b3_0 b3_1 b3_2 b3_3))
          none)
         none)
        (nx (aZ x10 (IntKind.wrap .i64 (x11+(1:Int))) b0_0 b0_1 b0_2 b0_3 b0_4 b0_5 b1_0 b1_1 b1_2 b1_3 b2_0 b2_1 b2_2 b2_3 b2_4 b2_5 b3_0 b3_1 b3_2 b3_3)))
       (nx (aZ x10 (IntKind.wrap .i64 (x11+(1:Int))) b0_0 b0_1 b0_2 b0_3 b0_4 b0_5 b1_0 b1_1 b1_2 b1_3 b2_0 b2_1 b2_2 b2_3 b2_4 b2_5 b3_0 b3_1 b3_2 b3_3)))
      (nx (aZ x10 (IntKind.wrap .i64 (x11+(1:Int))) b0_0 b0_1 b0_2 b0_3 b0_4 b0_5 b1_0 b1_1 b1_2 b1_3 b2_0 b2_1 b2_2 b2_3 b2_4 b2_5 b3_0 b3_1 b3_2 b3_3))))
    (cond (y1034.2==(1:Int))
     (cond (y1037.2==(1:Int))
      (Option.bind (cp y1034.1.2 y1037.1.2) fun y1040=>
       Option.bind (dY y1040) fun y1041=>
       cond y1041
       (cond (decide ((((List.length x10)+(List.length [y1034.1]))*32)<=70368744177664))
        (cond (decide (((List.length x10)+(List.length [y1034.1]))<=70368744177664))
         (nx (aZ (x10++ [y1034.1]) (IntKind.wrap .i64 (x11+(1:Int))) b0_0 b0_1 b0_2 b0_3 b0_4 b0_5 b1_0 b1_1 b1_2 b1_3 b2_0 b2_1 b2_2 b2_3 b2_4 b2_5 b3_0 b3_1 b3_2 b3_3))
         none)
        none)
       (nx (aZ x10 (IntKind.wrap .i64 (x11+(1:Int))) b0_0 b0_1 b0_2 b0_3 b0_4 b0_5 b1_0 b1_1 b1_2 b1_3 b2_0 b2_1 b2_2 b2_3 b2_4 b2_5 b3_0 b3_1 b3_2 b3_3)))
      (nx (aZ x10 (IntKind.wrap .i64 (x11+(1:Int))) b0_0 b0_1 b0_2 b0_3 b0_4 b0_5 b1_0 b1_1 b1_2 b1_3 b2_0 b2_1 b2_2 b2_3 b2_4 b2_5 b3_0 b3_1 b3_2 b3_3)))
     (nx (aZ x10 (IntKind.wrap .i64 (x11+(1:Int))) b0_0 b0_1 b0_2 b0_3 b0_4 b0_5 b1_0 b1_1 b1_2 b1_3 b2_0 b2_1 b2_2 b2_3 b2_4 b2_5 b3_0 b3_1 b3_2 b3_3)))))
  (cond (y1034.2==(2:Int))
   (cond (y1037.2==(1:Int))
    (cond (decide ((((List.length x10)+(List.length [y1037.1]))*32)<=70368744177664))
     (cond (decide (((List.length x10)+(List.length [y1037.1]))<=70368744177664))
      (nx (aZ (x10++ [y1037.1]) (IntKind.wrap .i64 (x11+(1:Int))) b0_0 b0_1 b0_2 b0_3 b0_4 b0_5 b1_0 b1_1 b1_2 b1_3 b2_0 b2_1 b2_2 b2_3 b2_4 b2_5 b3_0 b3_1 b3_2 b3_3))
      none)
     none)
    (cond (y1034.2==(1:Int))
     (cond (y1037.2==(1:Int))
      (Option.bind (cp y1034.1.2 y1037.1.2) fun y1042=>
       Option.bind (dY y1042) fun y1043=>
       cond y1043
       (cond (decide ((((List.length x10)+(List.length [y1034.1]))*32)<=70368744177664))
        (cond (decide (((List.length x10)+(List.length [y1034.1]))<=70368744177664))
         (nx (aZ (x10++ [y1034.1]) (IntKind.wrap .i64 (x11+(1:Int))) b0_0 b0_1 b0_2 b0_3 b0_4 b0_5 b1_0 b1_1 b1_2 b1_3 b2_0 b2_1 b2_2 b2_3 b2_4 b2_5 b3_0 b3_1 b3_2 b3_3))
         none)
        none)
       (nx (aZ x10 (IntKind.wrap .i64 (x11+(1:Int))) b0_0 b0_1 b0_2 b0_3 b0_4 b0_5 b1_0 b1_1 b1_2 b1_3 b2_0 b2_1 b2_2 b2_3 b2_4 b2_5 b3_0 b3_1 b3_2 b3_3)))
      (nx (aZ x10 (IntKind.wrap .i64 (x11+(1:Int))) b0_0 b0_1 b0_2 b0_3 b0_4 b0_5 b1_0 b1_1 b1_2 b1_3 b2_0 b2_1 b2_2 b2_3 b2_4 b2_5 b3_0 b3_1 b3_2 b3_3)))
     (nx (aZ x10 (IntKind.wrap .i64 (x11+(1:Int))) b0_0 b0_1 b0_2 b0_3 b0_4 b0_5 b1_0 b1_1 b1_2 b1_3 b2_0 b2_1 b2_2 b2_3 b2_4 b2_5 b3_0 b3_1 b3_2 b3_3))))
   (cond (y1034.2==(1:Int))
    (cond (y1037.2==(1:Int))
     (Option.bind (cp y1034.1.2 y1037.1.2) fun y1044=>
      Option.bind (dY y1044) fun y1045=>
      cond y1045
      (cond (decide ((((List.length x10)+(List.length [y1034.1]))*32)<=70368744177664))
       (cond (decide (((List.length x10)+(List.length [y1034.1]))<=70368744177664))
        (nx (aZ (x10++ [y1034.1]) (IntKind.wrap .i64 (x11+(1:Int))) b0_0 b0_1 b0_2 b0_3 b0_4 b0_5 b1_0 b1_1 b1_2 b1_3 b2_0 b2_1 b2_2 b2_3 b2_4 b2_5 b3_0 b3_1 b3_2 b3_3))
        none)
       none)
      (nx (aZ x10 (IntKind.wrap .i64 (x11+(1:Int))) b0_0 b0_1 b0_2 b0_3 b0_4 b0_5 b1_0 b1_1 b1_2 b1_3 b2_0 b2_1 b2_2 b2_3 b2_4 b2_5 b3_0 b3_1 b3_2 b3_3)))
     (nx (aZ x10 (IntKind.wrap .i64 (x11+(1:Int))) b0_0 b0_1 b0_2 b0_3 b0_4 b0_5 b1_0 b1_1 b1_2 b1_3 b2_0 b2_1 b2_2 b2_3 b2_4 b2_5 b3_0 b3_1 b3_2 b3_3)))
    (nx (aZ x10 (IntKind.wrap .i64 (x11+(1:Int))) b0_0 b0_1 b0_2 b0_3 b0_4 b0_5 b1_0 b1_1 b1_2 b1_3 b2_0 b2_1 b2_2 b2_3 b2_4 b2_5 b3_0 b3_1 b3_2 b3_3)))))
 (hx.1 (uo x10))
def xx{R:Type}(nx:jB.T->Option R)(hx:ma R hQ)(z:jB.T):Option R:=fE nx hx z.1.2.2.2.2.1.1 z.1.2.2.2.2.2.1.1 z.2.1.1.1 z.2.1.1.2.1 z.2.1.1.2.2.1 z.2.1.1.2.2.2.1 z.2.1.1.2.2.2.2.1 z.2.1.1.2.2.2.2.2.1 z.2.1.2.1.1 z.2.1.2.1.2.1 z.2.1.2.1.2.2.1 z.2.1.2.1.2.2.2.1 z.2.1.2.2.1.1 z.2.1.2.2.1.2.1 z.2.1.2.2.1.2.2.1 z.2.1.2.2.1.2.2.2.1 z.2.1.2.2.1.2.2.2.2.1 z.2.1.2.2.1.2.2.2.2.2.1 z.2.1.2.2.2.1.1 z.2.1.2.2.2.1.2.1 z.2.1.2.2.2.1.2.2.1 z.2.1.2.2.2.1.2.2.2.1
theorem Cl:fR @xx:=fun R nx hx z=>by
 show fE nx hx z.1.2.2.2.2.1.1 z.1.2.2.2.2.2.1.1 z.2.1.1.1 z.2.1.1.2.1 z.2.1.1.2.2.1 z.2.1.1.2.2.2.1 z.2.1.1.2.2.2.2.1 z.2.1.1.2.2.2.2.2.1 z.2.1.2.1.1 z.2.1.2.1.2.1 z.2.1.2.1.2.2.1 z.2.1.2.1.2.2.2.1 z.2.1.2.2.1.1 z.2.1.2.2.1.2.1 z.2.1.2.2.1.2.2.1 z.2.1.2.2.1.2.2.2.1 z.2.1.2.2.1.2.2.2.2.1 z.2.1.2.2.1.2.2.2.2.2.1 z.2.1.2.2.2.1.1 z.2.1.2.2.2.1.2.1 z.2.1.2.2.2.1.2.2.1 z.2.1.2.2.2.1.2.2.2.1=(fE (fun y=>some (.inl y)) (rf hQ fun x=>some (.inr x)) z.1.2.2.2.2.1.1 z.1.2.2.2.2.2.1.1 z.2.1.1.1 z.2.1.1.2.1 z.2.1.1.2.2.1 z.2.1.1.2.2.2.1 z.2.1.1.2.2.2.2.1 z.2.1.1.2.2.2.2.2.1 z.2.1.2.1.1 z.2.1.2.1.2.1 z.2.1.2.1.2.2.1 z.2.1.2.1.2.2.2.1 z.2.1.2.2.1.1 z.2.1.2.2.1.2.1 z.2.1.2.2.1.2.2.1 z.2.1.2.2.1.2.2.2.1 z.2.1.2.2.1.2.2.2.2.1 z.2.1.2.2.1.2.2.2.2.2.1 z.2.1.2.2.2.1.1 z.2.1.2.2.2.1.2.1 z.2.1.2.2.2.1.2.2.1 z.2.1.2.2.2.1.2.2.2.1).bind (tE nx hx)
 unfold fE
 exact ae (ac fun _=>ac fun _=>ac fun _=>ac fun _=>ac fun _=>ac fun _=>ae (ae (ae (ae rfl rfl) rfl) (ae (ae (ae (ae rfl rfl) rfl) (ae (ae (ac fun _=>ac fun _=>ae (ae (ae rfl rfl) rfl) rfl) rfl) rfl)) (ae (ae (ac fun _=>ac fun _=>ae (ae (ae rfl rfl) rfl) rfl) rfl) rfl))) (ae (ae (ae (ae rfl rfl) rfl) (ae (ae (ac fun _=>ac fun _=>ae (ae (ae rfl rfl) rfl) rfl) rfl) rfl)) (ae (ae (ac fun _=>ac fun _=>ae (ae (ae rfl rfl) rfl) rfl) rfl) rfl))) rfl
def oe:jB.T->Option (wL hQ):=D4 @xx
theorem wn x10 x11 b0_0 b0_1 b0_2 b0_3 b0_4 b0_5 b1_0 b1_1 b1_2 b1_3 b2_0 b2_1 b2_2 b2_3 b2_4 b2_5 b3_0 b3_1 b3_2 b3_3:oe (aZ x10 x11 b0_0 b0_1 b0_2 b0_3 b0_4 b0_5 b1_0 b1_1 b1_2 b1_3 b2_0 b2_1 b2_2 b2_3 b2_4 b2_5 b3_0 b3_1 b3_2 b3_3)=fE oe (rf hQ some) x10 x11 b0_0 b0_1 b0_2 b0_3 b0_4 b0_5 b1_0 b1_1 b1_2 b1_3 b2_0 b2_1 b2_2 b2_3 b2_4 b2_5 b3_0 b3_1 b3_2 b3_3:=kU Cl _
def qP{R:Type}(kx:(List Ln)×Int->Option R)(a0:Pt)(a1:Ln)(a2:Pt)(a3:Ln):Option R:=
 Option.bind (bN a0) fun y990=>
 cond (!y990)
 (kx ([],(1:Int)))
 (Option.bind (ck a1) fun y991=>
  cond (!y991)
  (kx ([],(1:Int)))
  (Option.bind (bN a2) fun y992=>
   cond (!y992)
   (kx ([],(1:Int)))
   (Option.bind (ck a3) fun y993=>
    cond (!y993)
    (kx ([],(1:Int)))
    (Option.bind (oe (aZ [] (0:Int) a0.1.1 a0.1.2.1 a0.1.2.2 a0.2.1 a0.2.2.1 a0.2.2.2 a1.1 a1.2.1 a1.2.2.1 a1.2.2.2 a2.1.1 a2.1.2.1 a2.1.2.2 a2.2.1 a2.2.2.1 a2.2.2.2 a3.1 a3.2.1 a3.2.2.1 a3.2.2.2)) (sj hQ
     (fun e1046=>
      Option.bind (ec (e1046.1.1.1:List Ln)) fun y1048=>
      kx y1048,()))))))
def qv(a0:Pt)(a1:Ln)(a2:Pt)(a3:Ln):Option ((List Ln)×Int):=qP some a0 a1 a2 a3
theorem N4{R} kx a0 a1 a2 a3: @qP R kx a0 a1 a2 a3=(qv a0 a1 a2 a3).bind kx:=by
 unfold qv qP
 exact ac fun _=>ae rfl (ac fun _=>ae rfl (ac fun _=>ae rfl (ac fun _=>ae rfl (dM ⟨fun _=>ac fun _=>rfl,trivial⟩))))
abbrev jA:LS:=⟨[(false,[(.ptr 4 0)]),(false,[(.ptr 5 0)]),(false,[(.ptr 6 0)]),(false,[(.ptr 7 0)]),(false,[(.own yL)]),(false,[(.int .i64)])],[(false,[(.int .i64),(.int .i64),(.int .i64),(.int .i64),(.int .i64),(.int .i64)]),(false,[(.int .i64),(.int .i64),(.int .i64),(.int .i64)]),(false,[(.int .i64),(.int .i64),(.int .i64),(.int .i64),(.int .i64),(.int .i64)]),(false,[(.int .i64),(.int .i64),(.int .i64),(.int .i64)])],[]⟩
abbrev ut:LS:=⟨[(false,[(.own yL)]),(false,[(.int .i64)]),(false,[(.own yL)])],[],[]⟩
abbrev lH v0(v1:Int) v2:=((((v0,()),(v1,()),(v2,()),()),(),()):ut.T)
abbrev uu:LS:=⟨[(false,[.undef]),(false,[.undef]),(false,[(.own yL)])],[],[]⟩
abbrev ul v0:=(((((),()),((),()),(v0,()),()),(),()):uu.T)
abbrev gZ:List (Ex×LS):=[(.ret,ut),(.exit 0,uu)]
abbrev ch x10(x34:Int)(b0_0:Int)(b0_1:Int)(b0_2:Int)(b0_3:Int)(b0_4:Int)(b0_5:Int)(b1_0:Int)(b1_1:Int)(b1_2:Int)(b1_3:Int)(b2_0:Int)(b2_1:Int)(b2_2:Int)(b2_3:Int)(b2_4:Int)(b2_5:Int)(b3_0:Int)(b3_1:Int)(b3_2:Int)(b3_3:Int):=(((((),()),((),()),((),()),((),()),(x10,()),(x34,()),()),((b0_0,b0_1,b0_2,b0_3,b0_4,b0_5,()),(b1_0,b1_1,b1_2,b1_3,()),(b2_0,b2_1,b2_2,b2_3,b2_4,b2_5,()),(b3_0,b3_1,b3_2,b3_3,()),()),()):jA.T)
def fD{R:Type}(nx:jA.T->Option R)(hx:ma R gZ)(x10:List Ln)(x34:Int)(b0_0:Int)(b0_1:Int)(b0_2:Int)(b0_3:Int)(b0_4:Int)(b0_5:Int)(b1_0:Int)(b1_1:Int)(b1_2:Int)(b1_3:Int)(b2_0:Int)(b2_1:Int)(b2_2:Int)(b2_3:Int)(b2_4:Int)(b2_5:Int)(b3_0:Int)(b3_1:Int)(b3_2:Int)(b3_3:Int):Option R:=
 cond (decide (x34<(8:Int)))
 (Option.bind (iT x34 ((b0_0,(b0_1,b0_2)),(b0_3,(b0_4,b0_5))) (b1_0,(b1_1,(b1_2,b1_3)))) fun y1676=>
  Option.bind (iT x34 ((b2_0,(b2_1,b2_2)),(b2_3,(b2_4,b2_5))) (b3_0,(b3_1,(b3_2,b3_3)))) fun y1677=>
  cond (y1676.2==(0:Int))
  (nx (ch x10 (IntKind.wrap .i64 (x34+(1:Int))) b0_0 b0_1 b0_2 b0_3 b0_4 b0_5 b1_0 b1_1 b1_2 b1_3 b2_0 b2_1 b2_2 b2_3 b2_4 b2_5 b3_0 b3_1 b3_2 b3_3))
  (cond (y1677.2==(0:Int))
   (nx (ch x10 (IntKind.wrap .i64 (x34+(1:Int))) b0_0 b0_1 b0_2 b0_3 b0_4 b0_5 b1_0 b1_1 b1_2 b1_3 b2_0 b2_1 b2_2 b2_3 b2_4 b2_5 b3_0 b3_1 b3_2 b3_3))
   (cond (y1676.2==(2:Int))
    (cond (y1677.2==(2:Int))
     (nx (ch x10 (IntKind.wrap .i64 (x34+(1:Int))) b0_0 b0_1 b0_2 b0_3 b0_4 b0_5 b1_0 b1_1 b1_2 b1_3 b2_0 b2_1 b2_2 b2_3 b2_4 b2_5 b3_0 b3_1 b3_2 b3_3))
     (cond (y1676.2==(3:Int))
      (hx.1 (lH [] (2:Int) x10))
      (cond (y1677.2==(3:Int))
       (hx.1 (lH [] (2:Int) x10))
       (cond (y1676.2==(2:Int))
        (cond (decide ((((List.length x10)+(List.length [y1677.1]))*32)<=70368744177664))
         (cond (decide (((List.length x10)+(List.length [y1677.1]))<=70368744177664))
          (nx (ch (x10++ [y1677.1]) (IntKind.wrap .i64 (x34+(1:Int))) b0_0 b0_1 b0_2 b0_3 b0_4 b0_5 b1_0 b1_1 b1_2 b1_3 b2_0 b2_1 b2_2 b2_3 b2_4 b2_5 b3_0 b3_1 b3_2 b3_3))
          none)
         none)
        (cond (y1677.2==(2:Int))
         (cond (decide ((((List.length x10)+(List.length [y1676.1]))*32)<=70368744177664))
          (cond (decide (((List.length x10)+(List.length [y1676.1]))<=70368744177664))
           (nx (ch (x10++ [y1676.1]) (IntKind.wrap .i64 (x34+(1:Int))) b0_0 b0_1 b0_2 b0_3 b0_4 b0_5 b1_0 b1_1 b1_2 b1_3 b2_0 b2_1 b2_2 b2_3 b2_4 b2_5 b3_0 b3_1 b3_2 b3_3))
           none)
          none)
         (cond ((y1676.1.1==y1677.1.1)&&(((y1676.1.2.1==y1677.1.2.1)&&((y1676.1.2.2.1==y1677.1.2.2.1)&&((y1676.1.2.2.2==y1677.1.2.2.2)&&Bool.true)))&&Bool.true))
          (cond (decide ((((List.length x10)+(List.length [y1676.1]))*32)<=70368744177664))
           (cond (decide (((List.length x10)+(List.length [y1676.1]))<=70368744177664))
            (nx (ch (x10++ [y1676.1]) (IntKind.wrap .i64 (x34+(1:Int))) b0_0 b0_1 b0_2 b0_3 b0_4 b0_5 b1_0 b1_1 b1_2 b1_3 b2_0 b2_1 b2_2 b2_3 b2_4 b2_5 b3_0 b3_1 b3_2 b3_3))
            none)
           none)
          (nx (ch x10 (IntKind.wrap .i64 (x34+(1:Int))) b0_0 b0_1 b0_2 b0_3 b0_4 b0_5 b1_0 b1_1 b1_2 b1_3 b2_0 b2_1 b2_2 b2_3 b2_4 b2_5 b3_0 b3_1 b3_2 b3_3))))))))
    (cond (y1676.2==(3:Int))
     (hx.1 (lH [] (2:Int) x10))
     (cond (y1677.2==(3:Int))
      (hx.1 (lH [] (2:Int) x10))
      (cond (y1676.2==(2:Int))
       (cond (decide ((((List.length x10)+(List.length [y1677.1]))*32)<=70368744177664))
        (cond (decide (((List.length x10)+(List.length [y1677.1]))<=70368744177664))
         (nx (ch (x10++ [y1677.1]) (IntKind.wrap .i64 (x34+(1:Int))) b0_0 b0_1 b0_2 b0_3 b0_4 b0_5 b1_0 b1_1 b1_2 b1_3 b2_0 b2_1 b2_2 b2_3 b2_4 b2_5 b3_0 b3_1 b3_2 b3_3))
         none)
        none)
       (cond (y1677.2==(2:Int))
        (cond (decide ((((List.length x10)+(List.length [y1676.1]))*32)<=70368744177664))
         (cond (decide (((List.length x10)+(List.length [y1676.1]))<=70368744177664))
          (nx (ch (x10++ [y1676.1]) (IntKind.wrap .i64 (x34+(1:Int))) b0_0 b0_1 b0_2 b0_3 b0_4 b0_5 b1_0 b1_1 b1_2 b1_3 b2_0 b2_1 b2_2 b2_3 b2_4 b2_5 b3_0 b3_1 b3_2 b3_3))
          none)
         none)
        (cond ((y1676.1.1==y1677.1.1)&&(((y1676.1.2.1==y1677.1.2.1)&&((y1676.1.2.2.1==y1677.1.2.2.1)&&((y1676.1.2.2.2==y1677.1.2.2.2)&&Bool.true)))&&Bool.true))
         (cond (decide ((((List.length x10)+(List.length [y1676.1]))*32)<=70368744177664))
          (cond (decide (((List.length x10)+(List.length [y1676.1]))<=70368744177664))
           (nx (ch (x10++ [y1676.1]) (IntKind.wrap .i64 (x34+(1:Int))) b0_0 b0_1 b0_2 b0_3 b0_4 b0_5 b1_0 b1_1 b1_2 b1_3 b2_0 b2_1 b2_2 b2_3 b2_4 b2_5 b3_0 b3_1 b3_2 b3_3))
           none)
          none)
         (nx (ch x10 (IntKind.wrap .i64 (x34+(1:Int))) b0_0 b0_1 b0_2 b0_3 b0_4 b0_5 b1_0 b1_1 b1_2 b1_3 b2_0 b2_1 b2_2 b2_3 b2_4 b2_5 b3_0 b3_1 b3_2 b3_3))))))))))
 (hx.2.1 (ul x10))
def xw{R:Type}(nx:jA.T->Option R)(hx:ma R gZ)(z:jA.T):Option R:=fD nx hx z.1.2.2.2.2.1.1 z.1.2.2.2.2.2.1.1 z.2.1.1.1 z.2.1.1.2.1 z.2.1.1.2.2.1 z.2.1.1.2.2.2.1 z.2.1.1.2.2.2.2.1 z.2.1.1.2.2.2.2.2.1 z.2.1.2.1.1 z.2.1.2.1.2.1 z.2.1.2.1.2.2.1 z.2.1.2.1.2.2.2.1 z.2.1.2.2.1.1 z.2.1.2.2.1.2.1 z.2.1.2.2.1.2.2.1 z.2.1.2.2.1.2.2.2.1 z.2.1.2.2.1.2.2.2.2.1 z.2.1.2.2.1.2.2.2.2.2.1 z.2.1.2.2.2.1.1 z.2.1.2.2.2.1.2.1 z.2.1.2.2.2.1.2.2.1 z.2.1.2.2.2.1.2.2.2.1
theorem Cb:fR @xw:=fun R nx hx z=>by
 show fD nx hx z.1.2.2.2.2.1.1 z.1.2.2.2.2.2.1.1 z.2.1.1.1 z.2.1.1.2.1 z.2.1.1.2.2.1 z.2.1.1.2.2.2.1 z.2.1.1.2.2.2.2.1 z.2.1.1.2.2.2.2.2.1 z.2.1.2.1.1 z.2.1.2.1.2.1 z.2.1.2.1.2.2.1 z.2.1.2.1.2.2.2.1 z.2.1.2.2.1.1 z.2.1.2.2.1.2.1 z.2.1.2.2.1.2.2.1 z.2.1.2.2.1.2.2.2.1 z.2.1.2.2.1.2.2.2.2.1 z.2.1.2.2.1.2.2.2.2.2.1 z.2.1.2.2.2.1.1 z.2.1.2.2.2.1.2.1 z.2.1.2.2.2.1.2.2.1 z.2.1.2.2.2.1.2.2.2.1=(fD (fun y=>some (.inl y)) (rf gZ fun x=>some (.inr x)) z.1.2.2.2.2.1.1 z.1.2.2.2.2.2.1.1 z.2.1.1.1 z.2.1.1.2.1 z.2.1.1.2.2.1 z.2.1.1.2.2.2.1 z.2.1.1.2.2.2.2.1 z.2.1.1.2.2.2.2.2.1 z.2.1.2.1.1 z.2.1.2.1.2.1 z.2.1.2.1.2.2.1 z.2.1.2.1.2.2.2.1 z.2.1.2.2.1.1 z.2.1.2.2.1.2.1 z.2.1.2.2.1.2.2.1 z.2.1.2.2.1.2.2.2.1 z.2.1.2.2.1.2.2.2.2.1 z.2.1.2.2.1.2.2.2.2.2.1 z.2.1.2.2.2.1.1 z.2.1.2.2.2.1.2.1 z.2.1.2.2.2.1.2.2.1 z.2.1.2.2.2.1.2.2.2.1).bind (tE nx hx)
 unfold fD
 exact ae (ac fun _=>ac fun _=>ae rfl (ae rfl (ae (ae rfl (ae rfl (ae rfl (ae (ae (ae rfl rfl) rfl) (ae (ae (ae rfl rfl) rfl) (ae (ae (ae rfl rfl) rfl) rfl)))))) (ae rfl (ae rfl (ae (ae (ae rfl rfl) rfl) (ae (ae (ae rfl rfl) rfl) (ae (ae (ae rfl rfl) rfl) rfl)))))))) rfl
def oc:jA.T->Option (wL gZ):=D4 @xw
theorem wl x10 x34 b0_0 b0_1 b0_2 b0_3 b0_4 b0_5 b1_0 b1_1 b1_2 b1_3 b2_0 b2_1 b2_2 b2_3 b2_4 b2_5 b3_0 b3_1 b3_2 b3_3:oc (ch x10 x34 b0_0 b0_1 b0_2 b0_3 b0_4 b0_5 b1_0 b1_1 b1_2 b1_3 b2_0 b2_1 b2_2 b2_3 b2_4 b2_5 b3_0 b3_1 b3_2 b3_3)=fD oc (rf gZ some) x10 x34 b0_0 b0_1 b0_2 b0_3 b0_4 b0_5 b1_0 b1_1 b1_2 b1_3 b2_0 b2_1 b2_2 b2_3 b2_4 b2_5 b3_0 b3_1 b3_2 b3_3:=kU Cb _
def qK{R:Type}(kx:(List Ln)×Int->Option R)(a0:Pt)(a1:Ln)(a2:Pt)(a3:Ln):Option R:=
 Option.bind (bf a0) fun y1636=>
 cond (!y1636)
 (kx ([],(1:Int)))
 (Option.bind (bh a1) fun y1637=>
  cond (!y1637)
  (kx ([],(1:Int)))
  (Option.bind (bf a2) fun y1638=>
   cond (!y1638)
   (kx ([],(1:Int)))
   (Option.bind (bh a3) fun y1639=>
    cond (!y1639)
    (kx ([],(1:Int)))
    (Option.bind (oc (ch [] (0:Int) a0.1.1 a0.1.2.1 a0.1.2.2 a0.2.1 a0.2.2.1 a0.2.2.2 a1.1 a1.2.1 a1.2.2.1 a1.2.2.2 a2.1.1 a2.1.2.1 a2.1.2.2 a2.2.1 a2.2.2.1 a2.2.2.2 a3.1 a3.2.1 a3.2.2.1 a3.2.2.2)) (sj gZ
     (fun e1678=>
      kx ((e1678.1.1.1:List Ln),(e1678.1.2.1.1:Int)),fun e1682=>
      cond (decide ((List.length (e1682.1.2.2.1.1:List Ln))=(List.length (e1682.1.2.2.1.1:List Ln))))
      (Option.bind (bV (e1682.1.2.2.1.1:List Ln)) fun y1684=>
       kx y1684)
      none,()))))))
def qq(a0:Pt)(a1:Ln)(a2:Pt)(a3:Ln):Option ((List Ln)×Int):=qK some a0 a1 a2 a3
theorem NZ{R} kx a0 a1 a2 a3: @qK R kx a0 a1 a2 a3=(qq a0 a1 a2 a3).bind kx:=by
 unfold qq qK
 exact ac fun _=>ae rfl (ac fun _=>ae rfl (ac fun _=>ae rfl (ac fun _=>ae rfl (dM ⟨fun _=>rfl,fun _=>ae (ac fun _=>rfl) rfl,trivial⟩))))
def nd{R:Type}(kx:Pt->Option R)(a0:Ln)(a1:Pt):Option R:=
 Option.bind (cQ (IntKind.wrap .i64 (a0.1+(4:Int)))) fun y747=>
 Option.bind (aM y747) fun y748=>
 Option.bind (ci (IntKind.wrap .i64 (a0.1+(4:Int))) a1) fun y756=>
 Option.bind (cp y756 a0.2) fun y757=>
 Option.bind (gS (IntKind.wrap .i64 (a0.1+(4:Int)))) fun y758=>
 Option.bind (fP y757 y758) fun y759=>
 Option.bind (cE y759.1 y759.1) fun y760=>
 Option.bind (bK y760 y748.1) fun y761=>
 Option.bind (bK y760 y748.2) fun y762=>
 Option.bind (fi a1 (y761,y762)) fun y767=>
 kx y767
def fX(a0:Ln)(a1:Pt):Option (Pt):=nd some a0 a1
theorem LV{R} kx a0 a1: @nd R kx a0 a1=(fX a0 a1).bind kx:=by
 unfold fX nd
 exact ac fun _=>ac fun _=>ac fun _=>ac fun _=>ac fun _=>ac fun _=>ac fun _=>ac fun _=>ac fun _=>ac fun _=>rfl
def qW{R:Type}(kx:Int->Option R)(a0:Ln)(a1:Pt):Option R:=
 Option.bind (ci (IntKind.wrap .i64 (a0.1+(4:Int))) a1) fun y972=>
 Option.bind (cp y972 a0.2) fun y973=>
 Option.bind (dA y973) fun y974=>
 kx y974
def nk(a0:Ln)(a1:Pt):Option (Int):=qW some a0 a1
theorem N8{R} kx a0 a1: @qW R kx a0 a1=(nk a0 a1).bind kx:=by
 unfold nk qW
 exact ac fun _=>ac fun _=>ac fun _=>rfl
def ng{R:Type}(kx:Bool->Option R)(a0:Ln)(a1:Pt)(a2:Ln):Option R:=
 Option.bind (fX a0 a1) fun y969=>
 Option.bind (nk a2 y969) fun y975=>
 kx (y975==(0:Int))
def kv(a0:Ln)(a1:Pt)(a2:Ln):Option (Bool):=ng some a0 a1 a2
theorem LX{R} kx a0 a1 a2: @ng R kx a0 a1 a2=(kv a0 a1 a2).bind kx:=by
 unfold kv ng
 exact ac fun _=>ac fun _=>rfl
abbrev gh:LS:=⟨[(false,[(.ptr 3 0)]),(false,[(.ptr 4 0)]),(false,[(.ptr 5 0)]),(false,[(.own yL)]),(false,[(.int .i64)])],[(false,[(.int .i64),(.int .i64),(.int .i64),(.int .i64),(.int .i64),(.int .i64)]),(false,[(.int .i64),(.int .i64),(.int .i64),(.int .i64)]),(false,[(.int .i64),(.int .i64),(.int .i64),(.int .i64),(.int .i64),(.int .i64)])],[]⟩
abbrev oD:LS:=⟨[(false,[(.own yL)])],[],[]⟩
abbrev oB v0:=((((v0,()),()),(),()):oD.T)
abbrev eT:List (Ex×LS):=[(.exit 0,oD)]
abbrev gf x8(x9:Int)(b0_0:Int)(b0_1:Int)(b0_2:Int)(b0_3:Int)(b0_4:Int)(b0_5:Int)(b1_0:Int)(b1_1:Int)(b1_2:Int)(b1_3:Int)(b2_0:Int)(b2_1:Int)(b2_2:Int)(b2_3:Int)(b2_4:Int)(b2_5:Int):=(((((),()),((),()),((),()),(x8,()),(x9,()),()),((b0_0,b0_1,b0_2,b0_3,b0_4,b0_5,()),(b1_0,b1_1,b1_2,b1_3,()),(b2_0,b2_1,b2_2,b2_3,b2_4,b2_5,()),()),()):gh.T)
def dT{R:Type}(nx:gh.T->Option R)(hx:ma R eT)(x8:List Ln)(x9:Int)(b0_0:Int)(b0_1:Int)(b0_2:Int)(b0_3:Int)(b0_4:Int)(b0_5:Int)(b1_0:Int)(b1_1:Int)(b1_2:Int)(b1_3:Int)(b2_0:Int)(b2_1:Int)(b2_2:Int)(b2_3:Int)(b2_4:Int)(b2_5:Int):Option R:=
 cond (decide (x9<(8:Int)))
 (Option.bind (aM ((b2_0,(b2_1,b2_2)),(b2_3,(b2_4,b2_5)))) fun y962=>
  Option.bind (dh y962 x9) fun y963=>
  Option.bind (aM ((b0_0,(b0_1,b0_2)),(b0_3,(b0_4,b0_5)))) fun y964=>
  Option.bind (bu (b1_0,(b1_1,(b1_2,b1_3)))) fun y965=>
  Option.bind (kv y963 y964 y965) fun y976=>
  cond y976
  (cond (decide ((((List.length x8)+(List.length [y963]))*32)<=70368744177664))
   (cond (decide (((List.length x8)+(List.length [y963]))<=70368744177664))
    (nx (gf (x8++ [y963]) (IntKind.wrap .i64 (x9+(1:Int))) b0_0 b0_1 b0_2 b0_3 b0_4 b0_5 b1_0 b1_1 b1_2 b1_3 b2_0 b2_1 b2_2 b2_3 b2_4 b2_5))
    none)
   none)
  (nx (gf x8 (IntKind.wrap .i64 (x9+(1:Int))) b0_0 b0_1 b0_2 b0_3 b0_4 b0_5 b1_0 b1_1 b1_2 b1_3 b2_0 b2_1 b2_2 b2_3 b2_4 b2_5)))
 (hx.1 (oB x8))
def qO{R:Type}(nx:gh.T->Option R)(hx:ma R eT)(z:gh.T):Option R:=dT nx hx z.1.2.2.2.1.1 z.1.2.2.2.2.1.1 z.2.1.1.1 z.2.1.1.2.1 z.2.1.1.2.2.1 z.2.1.1.2.2.2.1 z.2.1.1.2.2.2.2.1 z.2.1.1.2.2.2.2.2.1 z.2.1.2.1.1 z.2.1.2.1.2.1 z.2.1.2.1.2.2.1 z.2.1.2.1.2.2.2.1 z.2.1.2.2.1.1 z.2.1.2.2.1.2.1 z.2.1.2.2.1.2.2.1 z.2.1.2.2.1.2.2.2.1 z.2.1.2.2.1.2.2.2.2.1 z.2.1.2.2.1.2.2.2.2.2.1
theorem wH:fR @qO:=fun R nx hx z=>by
 show dT nx hx z.1.2.2.2.1.1 z.1.2.2.2.2.1.1 z.2.1.1.1 z.2.1.1.2.1 z.2.1.1.2.2.1 z.2.1.1.2.2.2.1 z.2.1.1.2.2.2.2.1 z.2.1.1.2.2.2.2.2.1 z.2.1.2.1.1 z.2.1.2.1.2.1 z.2.1.2.1.2.2.1 z.2.1.2.1.2.2.2.1 z.2.1.2.2.1.1 z.2.1.2.2.1.2.1 z.2.1.2.2.1.2.2.1 z.2.1.2.2.1.2.2.2.1 z.2.1.2.2.1.2.2.2.2.1 z.2.1.2.2.1.2.2.2.2.2.1=(dT (fun y=>some (.inl y)) (rf eT fun x=>some (.inr x)) z.1.2.2.2.1.1 z.1.2.2.2.2.1.1 z.2.1.1.1 z.2.1.1.2.1 z.2.1.1.2.2.1 z.2.1.1.2.2.2.1 z.2.1.1.2.2.2.2.1 z.2.1.1.2.2.2.2.2.1 z.2.1.2.1.1 z.2.1.2.1.2.1 z.2.1.2.1.2.2.1 z.2.1.2.1.2.2.2.1 z.2.1.2.2.1.1 z.2.1.2.2.1.2.1 z.2.1.2.2.1.2.2.1 z.2.1.2.2.1.2.2.2.1 z.2.1.2.2.1.2.2.2.2.1 z.2.1.2.2.1.2.2.2.2.2.1).bind (tE nx hx)
 unfold dT
 exact ae (ac fun _=>ac fun _=>ac fun _=>ac fun _=>ac fun _=>ae (ae (ae rfl rfl) rfl) rfl) rfl
def js:gh.T->Option (wL eT):=D4 @qO
theorem qh x8 x9 b0_0 b0_1 b0_2 b0_3 b0_4 b0_5 b1_0 b1_1 b1_2 b1_3 b2_0 b2_1 b2_2 b2_3 b2_4 b2_5:js (gf x8 x9 b0_0 b0_1 b0_2 b0_3 b0_4 b0_5 b1_0 b1_1 b1_2 b1_3 b2_0 b2_1 b2_2 b2_3 b2_4 b2_5)=dT js (rf eT some) x8 x9 b0_0 b0_1 b0_2 b0_3 b0_4 b0_5 b1_0 b1_1 b1_2 b1_3 b2_0 b2_1 b2_2 b2_3 b2_4 b2_5:=kU wH _
def kH{R:Type}(kx:(List Ln)×Int->Option R)(a0:Pt)(a1:Ln)(a2:Pt):Option R:=
 Option.bind (bN a0) fun y941=>
 cond (!y941)
 (kx ([],(1:Int)))
 (Option.bind (ck a1) fun y942=>
  cond (!y942)
  (kx ([],(1:Int)))
  (Option.bind (bN a2) fun y943=>
   cond (!y943)
   (kx ([],(1:Int)))
   (Option.bind (js (gf [] (0:Int) a0.1.1 a0.1.2.1 a0.1.2.2 a0.2.1 a0.2.2.1 a0.2.2.2 a1.1 a1.2.1 a1.2.2.1 a1.2.2.2 a2.1.1 a2.1.2.1 a2.1.2.2 a2.2.1 a2.2.2.1 a2.2.2.2)) (sj eT
    (fun e977=>
     Option.bind (ec (e977.1.1.1:List Ln)) fun y979=>
     kx y979,())))))
def ku(a0:Pt)(a1:Ln)(a2:Pt):Option ((List Ln)×Int):=kH some a0 a1 a2
theorem Kn{R} kx a0 a1 a2: @kH R kx a0 a1 a2=(ku a0 a1 a2).bind kx:=by
 unfold ku kH
 exact ac fun _=>ae rfl (ac fun _=>ae rfl (ac fun _=>ae rfl (dM ⟨fun _=>ac fun _=>rfl,trivial⟩)))
def qT{R:Type}(kx:Pt->Option R)(a0:Ln):Option R:=
 Option.bind (cQ (IntKind.wrap .i64 (a0.1+(4:Int)))) fun y732=>
 Option.bind (aM y732) fun y733=>
 Option.bind (gS (IntKind.wrap .i64 (a0.1+(4:Int)))) fun y740=>
 Option.bind (fP a0.2 y740) fun y741=>
 Option.bind (bK y741.1 y733.1) fun y742=>
 Option.bind (bK y741.1 y733.2) fun y743=>
 kx (y742,y743)
def nj(a0:Ln):Option (Pt):=qT some a0
theorem N5{R} kx a0: @qT R kx a0=(nj a0).bind kx:=by
 unfold nj qT
 exact ac fun _=>ac fun _=>ac fun _=>ac fun _=>ac fun _=>ac fun _=>rfl
def pB{R:Type}(kx:Pt×Bool->Option R)(a0:Pt)(a1:Pt):Option R:=
 Option.bind (bN a0) fun y709=>
 cond (!y709)
 (kx ((((0:Int),((0:Int),(0:Int))),((0:Int),((0:Int),(0:Int)))),Bool.false))
 (Option.bind (bN a1) fun y710=>
  cond (!y710)
  (kx ((((0:Int),((0:Int),(0:Int))),((0:Int),((0:Int),(0:Int)))),Bool.false))
  (Option.bind (aX a0.1) fun y711=>
   Option.bind (aX a1.1) fun y712=>
   Option.bind (cE y711 y712) fun y713=>
   Option.bind (aX a0.2) fun y714=>
   Option.bind (aX a1.2) fun y715=>
   Option.bind (cE y714 y715) fun y716=>
   Option.bind (fQ ((y713.1,(y713.2.1,(IntKind.wrap .i64 (y713.2.2+(1:Int))))),(y716.1,(y716.2.1,(IntKind.wrap .i64 (y716.2.2+(1:Int))))))) fun y717=>
   kx y717))
def pj(a0:Pt)(a1:Pt):Option (Pt×Bool):=pB some a0 a1
theorem Ni{R} kx a0 a1: @pB R kx a0 a1=(pj a0 a1).bind kx:=by
 unfold pj pB
 exact ac fun _=>ae rfl (ac fun _=>ae rfl (ac fun _=>ac fun _=>ac fun _=>ac fun _=>ac fun _=>ac fun _=>ac fun _=>rfl))
def pw{R:Type}(kx:Pt×Bool->Option R)(a0:Pt)(a1:Pt):Option R:=
 Option.bind (bf a0) fun y1373=>
 cond (!y1373)
 (kx ((((0:Int),((0:Int),(0:Int))),((0:Int),((0:Int),(0:Int)))),Bool.false))
 (Option.bind (bf a1) fun y1374=>
  cond (!y1374)
  (kx ((((0:Int),((0:Int),(0:Int))),((0:Int),((0:Int),(0:Int)))),Bool.false))
  (Option.bind (kL a0 a1) fun y1386=>
   Option.bind (dg y1386) fun y1387=>
   kx y1387))
def pg(a0:Pt)(a1:Pt):Option (Pt×Bool):=pw some a0 a1
theorem Nf{R} kx a0 a1: @pw R kx a0 a1=(pg a0 a1).bind kx:=by
 unfold pg pw
 exact ac fun _=>ae rfl (ac fun _=>ae rfl (ac fun _=>ac fun _=>rfl))
def ld{R:Type}(kx:Pt×Bool->Option R)(a0:Ln)(a1:Pt):Option R:=
 Option.bind (ck a0) fun y782=>
 cond (!y782)
 (kx ((((0:Int),((0:Int),(0:Int))),((0:Int),((0:Int),(0:Int)))),Bool.false))
 (Option.bind (bN a1) fun y783=>
  cond (!y783)
  (kx ((((0:Int),((0:Int),(0:Int))),((0:Int),((0:Int),(0:Int)))),Bool.false))
  (Option.bind (bu a0) fun y784=>
   Option.bind (aM a1) fun y785=>
   Option.bind (fX y784 y785) fun y786=>
   Option.bind (fQ y786) fun y787=>
   kx y787))
def kY(a0:Ln)(a1:Pt):Option (Pt×Bool):=ld some a0 a1
theorem KK{R} kx a0 a1: @ld R kx a0 a1=(kY a0 a1).bind kx:=by
 unfold kY ld
 exact ac fun _=>ae rfl (ac fun _=>ae rfl (ac fun _=>ac fun _=>ac fun _=>ac fun _=>rfl))
def lU{R:Type}(kx:Ln×Bool->Option R)(a0:Ln)(a1:Ln):Option R:=
 Option.bind (ck a0) fun y727=>
 cond (!y727)
 (kx (((0:Int),((0:Int),((0:Int),(0:Int)))),Bool.false))
 (Option.bind (ck a1) fun y728=>
  cond (!y728)
  (kx (((0:Int),((0:Int),((0:Int),(0:Int)))),Bool.false))
  (Option.bind (bu a0) fun y729=>
   Option.bind (bu a1) fun y730=>
   Option.bind (nj y730) fun y744=>
   Option.bind (fX y729 y744) fun y768=>
   Option.bind (dh y768 (IntKind.wrap .i64 ((IntKind.wrap .i64 ((2:Int)*a0.1))-a1.1))) fun y773=>
   Option.bind (bz y773.2) fun y774=>
   cond (!y774.2)
   (kx (((0:Int),((0:Int),((0:Int),(0:Int)))),Bool.false))
   (kx ((y773.1,y774.1),Bool.true))))
def lJ(a0:Ln)(a1:Ln):Option (Ln×Bool):=lU some a0 a1
theorem Lo{R} kx a0 a1: @lU R kx a0 a1=(lJ a0 a1).bind kx:=by
 unfold lJ lU
 exact ac fun _=>ae rfl (ac fun _=>ae rfl (ac fun _=>ac fun _=>ac fun _=>ac fun _=>ac fun _=>ac fun _=>ae rfl rfl))
def oa{R:Type}(kx:Pt×Int->Option R)(a0:Ln)(a1:Ln):Option R:=
 Option.bind (ck a0) fun y556=>
 cond (!y556)
 (kx ((((0:Int),((0:Int),(0:Int))),((0:Int),((0:Int),(0:Int)))),(1:Int)))
 (Option.bind (ck a1) fun y557=>
  cond (!y557)
  (kx ((((0:Int),((0:Int),(0:Int))),((0:Int),((0:Int),(0:Int)))),(1:Int)))
  (cond (a0.1==a1.1)
   (kx ((((0:Int),((0:Int),(0:Int))),((0:Int),((0:Int),(0:Int)))),(7:Int)))
   (Option.bind (bu a0) fun y561=>
    Option.bind (bu a1) fun y562=>
    Option.bind (jK y561 y562) fun y695=>
    Option.bind (fQ y695) fun y702=>
    cond (!y702.2)
    (kx ((((0:Int),((0:Int),(0:Int))),((0:Int),((0:Int),(0:Int)))),(2:Int)))
    (kx (y702.1,(0:Int))))))
def nQ(a0:Ln)(a1:Ln):Option (Pt×Int):=oa some a0 a1
theorem MG{R} kx a0 a1: @oa R kx a0 a1=(nQ a0 a1).bind kx:=by
 unfold nQ oa
 exact ac fun _=>ae rfl (ac fun _=>ae rfl (ae rfl (ac fun _=>ac fun _=>ac fun _=>ac fun _=>ae rfl rfl)))
def nY{R:Type}(kx:Pt×Int->Option R)(a0:Ln)(a1:Ln):Option R:=
 Option.bind (bh a0) fun y1275=>
 cond (!y1275)
 (kx ((((0:Int),((0:Int),(0:Int))),((0:Int),((0:Int),(0:Int)))),(1:Int)))
 (Option.bind (bh a1) fun y1276=>
  cond (!y1276)
  (kx ((((0:Int),((0:Int),(0:Int))),((0:Int),((0:Int),(0:Int)))),(1:Int)))
  (cond (a0.1==a1.1)
   (kx ((((0:Int),((0:Int),(0:Int))),((0:Int),((0:Int),(0:Int)))),(7:Int)))
   (Option.bind (gN a0 a1) fun y1359=>
    cond (!y1359.2)
    (kx ((((0:Int),((0:Int),(0:Int))),((0:Int),((0:Int),(0:Int)))),(2:Int)))
    (Option.bind (dg y1359.1) fun y1366=>
     cond (!y1366.2)
     (kx ((((0:Int),((0:Int),(0:Int))),((0:Int),((0:Int),(0:Int)))),(2:Int)))
     (kx (y1366.1,(0:Int)))))))
def nN(a0:Ln)(a1:Ln):Option (Pt×Int):=nY some a0 a1
theorem ME{R} kx a0 a1: @nY R kx a0 a1=(nN a0 a1).bind kx:=by
 unfold nN nY
 exact ac fun _=>ae rfl (ac fun _=>ae rfl (ae rfl (ac fun _=>ae rfl (ac fun _=>ae rfl rfl))))
end
end Go.Proofs.YtjkljnflaifbhaaGreatDoor
