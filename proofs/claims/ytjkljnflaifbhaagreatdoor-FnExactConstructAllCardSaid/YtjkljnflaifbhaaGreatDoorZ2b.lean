/- No conditions. -/
import Derived.Test.YtjkljnflaifbhaaGreatDoorZ2a
namespace Go.Proofs.YtjkljnflaifbhaaGreatDoor
open Go.Vai
set_option maxRecDepth 100000
noncomputable section
def sc{R:Type}(kx:Bool->Option R)(a0:Int)(a1:Int):Option R:=
 Option.bind (iM a0) fun y818=>
 Option.bind (iM a1) fun y819=>
 cond (decide (y818.1<(IntKind.wrap IntKind.u64 ((IntKind.wrap IntKind.u64 (y819.1*(2:Int)))+(Int.fdiv y819.2 ((2:Int)^(Min.min (Int.toNat (63:Int)) 64)))))))
 (kx Bool.true)
 (cond (y818.1==(IntKind.wrap IntKind.u64 ((IntKind.wrap IntKind.u64 (y819.1*(2:Int)))+(Int.fdiv y819.2 ((2:Int)^(Min.min (Int.toNat (63:Int)) 64))))))
  (kx (decide (y818.2<(IntKind.wrap IntKind.u64 (y819.2*(2:Int))))))
  (kx Bool.false))
def dy(a0:Int)(a1:Int):Option (Bool):=sc some a0 a1
theorem QO{R} kx a0 a1: @sc R kx a0 a1=(dy a0 a1).bind kx:=by
 unfold dy sc
 exact ac fun _=>ac fun _=>ae rfl (ae rfl rfl)
abbrev Kf:af:=.fx [.val false (.int .i64), .val false (.int .i64)] (Bool) (fun z=>dy z.1 z.2.1) (fun b=>(.one ⟨false,[(.v (.bool b))]⟩,[]))
theorem Tg:ag C0 267 Kf:=
 ag.fx (e:=false) (.cons PO (.nil)) mixed Tryz.func267 (by kernel_rfl) (by kernel_rfl) al 1 ai (fun z=>(by kernel_rfl:_=sc (fun b=>some (Kf.enc b)) z.1 z.2.1).trans (QO _ z.1 z.2.1))
def vp{R:Type}(kx:Int->Option R)(a0:Nm):Option R:=
 cond (a0.1==(0:Int))
 (cond (a0.2.1==(0:Int))
  (kx (0:Int))
  (cond (decide (a0.1>=(0:Int)))
   (cond (decide (a0.2.1>=(0:Int)))
    (kx (1:Int))
    (cond (decide (a0.1<=(0:Int)))
     (cond (decide (a0.2.1<=(0:Int)))
      (kx (-(1:Int)))
      (Option.bind (dy a0.1 a0.2.1) fun y820=>
       cond (y820==(decide (a0.2.1>(0:Int))))
       (kx (1:Int))
       (kx (-(1:Int)))))
     (Option.bind (dy a0.1 a0.2.1) fun y821=>
      cond (y821==(decide (a0.2.1>(0:Int))))
      (kx (1:Int))
      (kx (-(1:Int))))))
   (cond (decide (a0.1<=(0:Int)))
    (cond (decide (a0.2.1<=(0:Int)))
     (kx (-(1:Int)))
     (Option.bind (dy a0.1 a0.2.1) fun y822=>
      cond (y822==(decide (a0.2.1>(0:Int))))
      (kx (1:Int))
      (kx (-(1:Int)))))
    (Option.bind (dy a0.1 a0.2.1) fun y823=>
     cond (y823==(decide (a0.2.1>(0:Int))))
     (kx (1:Int))
     (kx (-(1:Int)))))))
 (cond (decide (a0.1>=(0:Int)))
  (cond (decide (a0.2.1>=(0:Int)))
   (kx (1:Int))
   (cond (decide (a0.1<=(0:Int)))
    (cond (decide (a0.2.1<=(0:Int)))
     (kx (-(1:Int)))
     (Option.bind (dy a0.1 a0.2.1) fun y824=>
      cond (y824==(decide (a0.2.1>(0:Int))))
      (kx (1:Int))
      (kx (-(1:Int)))))
    (Option.bind (dy a0.1 a0.2.1) fun y825=>
     cond (y825==(decide (a0.2.1>(0:Int))))
     (kx (1:Int))
     (kx (-(1:Int))))))
  (cond (decide (a0.1<=(0:Int)))
   (cond (decide (a0.2.1<=(0:Int)))
    (kx (-(1:Int)))
    (Option.bind (dy a0.1 a0.2.1) fun y826=>
     cond (y826==(decide (a0.2.1>(0:Int))))
     (kx (1:Int))
     (kx (-(1:Int)))))
   (Option.bind (dy a0.1 a0.2.1) fun y827=>
    cond (y827==(decide (a0.2.1>(0:Int))))
    (kx (1:Int))
    (kx (-(1:Int))))))
def fE(a0:Nm):Option (Int):=vp some a0
theorem QP{R} kx a0: @vp R kx a0=(fE a0).bind kx:=by
 unfold fE vp
 exact ae (ae rfl (ae (ae rfl (ae (ae rfl (ac fun _=>ae rfl rfl)) (ac fun _=>ae rfl rfl))) (ae (ae rfl (ac fun _=>ae rfl rfl)) (ac fun _=>ae rfl rfl)))) (ae (ae rfl (ae (ae rfl (ac fun _=>ae rfl rfl)) (ac fun _=>ae rfl rfl))) (ae (ae rfl (ac fun _=>ae rfl rfl)) (ac fun _=>ae rfl rfl)))
abbrev zj:af:=.fx [.val true yN] (Int) (fun z=>fE z.1) (fun b=>(.one ⟨false,[(.v (.int .i64 b))]⟩,[]))
theorem Cd:ag C0 217 zj:=
 ag.fx (e:=false) (.cons Tg (.nil)) mixed Tryz.func217 (by kernel_rfl) (by kernel_rfl) al 1 ai (fun z=>(by kernel_rfl:_=vp (fun b=>some (zj.enc b)) z.1).trans (QP _ z.1))
def qS:List (FuncId×af):=[(216,Gt),(215,zl),(217,zj)]
abbrev dt:LS:=⟨[(false,[(.ptr 1 0)]),(false,[(.int .i64)])],[(false,[(.int .i64),(.int .i64),(.int .i64),(.int .i64),(.int .i64),(.int .i64)])],[]⟩
abbrev yv:LS:=⟨[(false,[(.int .i64)])],[],[]⟩
abbrev yn(v0:Int):=((((v0,()),()),(),()):yv.T)
abbrev yw:LS:=⟨[(false,[.undef])],[],[]⟩
abbrev yo:=(((((),()),()),(),()):yw.T)
abbrev dQ:List (Ex×LS):=[(.ret,yv),(.exit 0,yw)]
abbrev jl(x3:Int)(b0_0:Int)(b0_1:Int)(b0_2:Int)(b0_3:Int)(b0_4:Int)(b0_5:Int):=(((((),()),(x3,()),()),((b0_0,b0_1,b0_2,b0_3,b0_4,b0_5,()),()),()):dt.T)
def gO{R:Type}(nx:dt.T->Option R)(hx:mA R dQ)(x3:Int)(b0_0:Int)(b0_1:Int)(b0_2:Int)(b0_3:Int)(b0_4:Int)(b0_5:Int):Option R:=
 cond (decide (x3<(16:Int)))
 (Option.bind (de (IntKind.wrap .i64 (x3+(4:Int))) ((b0_0,(b0_1,b0_2)),(b0_3,(b0_4,b0_5)))) fun y810=>
  Option.bind (gv y810) fun y812=>
  cond y812
  (Option.bind (de x3 ((b0_0,(b0_1,b0_2)),(b0_3,(b0_4,b0_5)))) fun y813=>
   Option.bind (fE y813) fun y828=>
   cond (decide (y828>(0:Int)))
   (hx.1 (yn x3))
   (nx (jl (IntKind.wrap .i64 (x3+(1:Int))) b0_0 b0_1 b0_2 b0_3 b0_4 b0_5)))
  (nx (jl (IntKind.wrap .i64 (x3+(1:Int))) b0_0 b0_1 b0_2 b0_3 b0_4 b0_5)))
 (hx.2.1 (yo))
def tU{R:Type}(nx:dt.T->Option R)(hx:mA R dQ)(z:dt.T):Option R:=gO nx hx z.1.2.1.1 z.2.1.1.1 z.2.1.1.2.1 z.2.1.1.2.2.1 z.2.1.1.2.2.2.1 z.2.1.1.2.2.2.2.1 z.2.1.1.2.2.2.2.2.1
theorem yB:cK @tU:=fun R nx hx z=>by
 show gO nx hx z.1.2.1.1 z.2.1.1.1 z.2.1.1.2.1 z.2.1.1.2.2.1 z.2.1.1.2.2.2.1 z.2.1.1.2.2.2.2.1 z.2.1.1.2.2.2.2.2.1=(gO (fun y=>some (.inl y)) (oI dQ fun x=>some (.inr x)) z.1.2.1.1 z.2.1.1.1 z.2.1.1.2.1 z.2.1.1.2.2.1 z.2.1.1.2.2.2.1 z.2.1.1.2.2.2.2.1 z.2.1.1.2.2.2.2.2.1).bind (oH nx hx)
 unfold gO
 exact ae (ac fun _=>ac fun _=>ae (ac fun _=>ac fun _=>ae rfl rfl) rfl) rfl
def gR:dt.T->Option (yH dQ):=BU @tU
theorem zX x3 b0_0 b0_1 b0_2 b0_3 b0_4 b0_5:gR (jl x3 b0_0 b0_1 b0_2 b0_3 b0_4 b0_5)=gO gR (oI dQ some) x3 b0_0 b0_1 b0_2 b0_3 b0_4 b0_5:=dR yB _
def oo:bN:=⟨[1,3],[1],[2],[]⟩
def qW:fq Rv:=⟨fun k=>match k with|3=>oo|_=>⟨[],[],[],[]⟩,fun k=>match k with|3=>some (ce dt dQ gR)|_=>none⟩
theorem IQ(n:Nat)(z:dt.T)(k:Ex->iV->Option Rv):bJ ⟨21,21⟩ oo (mU (gN C0 qS) ⟨21,21⟩ qW 1 (aG Tryz.f146 2)) (n+1) (dt.enc z) k=
 tU (fun y=>bJ ⟨21,21⟩ oo (mU (gN C0 qS) ⟨21,21⟩ qW 1 (aG Tryz.f146 2)) n (dt.enc y) k) (hK k dQ) z:=by kernel_rfl
theorem J2:ak (gN C0 qS) ⟨21,21⟩ qW 1 (ca (aX Tryz.f146)):=by
 have hl:ca (aX Tryz.f146)=[aG Tryz.f146 2]:=by kernel_rfl
 rw[hl]
 exact ak.cons (n:=3) (lh:=oo) (S:=ce dt dQ gR) (by kernel_rfl) rfl rfl (cl yB IQ)
  (ak.nil)
def ob{R:Type}(kx:Int->Option R)(a0:Pt):Option R:=
 Option.bind (gR (jl (0:Int) a0.1.1 a0.1.2.1 a0.1.2.2 a0.2.1 a0.2.2.1 a0.2.2.2)) (qi dQ
 (fun e829=>
  kx (e829.1.1.1:Int),fun _=>
  kx (-(1:Int)),()))
def ja(a0:Pt):Option (Int):=ob some a0
theorem JC{R} kx a0: @ob R kx a0=(ja a0).bind kx:=by
 unfold ja ob
 exact cq ⟨fun _=>rfl,fun _=>rfl,trivial⟩
abbrev CF:af:=.fx [.val true yP] (Int) (fun z=>ja z.1) (fun b=>(.one ⟨false,[(.v (.int .i64 b))]⟩,[]))
theorem BS:ag C0 146 CF:=
 ag.fx (e:=false) (t:=qS) (.cons rE (.cons Ce (.cons Cd (.nil)))) mixed Tryz.func146 (by kernel_rfl) (by kernel_rfl) qW 1 J2 (fun z=>(by kernel_rfl:_=ob (fun b=>some (CF.enc b)) z.1).trans (JC _ z.1))
def xl{R:Type}(kx:Ln×Bool->Option R)(a0:Pt)(a1:Int):Option R:=
 Option.bind (bh a0) fun y835=>
 cond (!y835)
 (kx (((0:Int),((0:Int),((0:Int),(0:Int)))),Bool.false))
 (Option.bind (cI a1 (0:Int) (7:Int)) fun y836=>
  cond (!y836)
  (kx (((0:Int),((0:Int),((0:Int),(0:Int)))),Bool.false))
  (Option.bind (bj a0) fun y837=>
   Option.bind (de (IntKind.wrap .i64 (a1+(4:Int))) y837) fun y838=>
   Option.bind (eW y838) fun y839=>
   cond (!y839.2)
   (kx (((0:Int),((0:Int),((0:Int),(0:Int)))),Bool.false))
   (kx ((a1,y839.1),Bool.true))))
def wQ(a0:Pt)(a1:Int):Option (Ln×Bool):=xl some a0 a1
theorem SJ{R} kx a0 a1: @xl R kx a0 a1=(wQ a0 a1).bind kx:=by
 unfold wQ xl
 exact ac fun _=>ae rfl (ac fun _=>ae rfl (ac fun _=>ac fun _=>ac fun _=>ae rfl rfl))
abbrev Mz:af:=.fx [.val true yP, .val false (.int .i64)] (Ln×Bool) (fun z=>wQ z.1 z.2.1) (fun b=>(.tup [⟨true,[(.v (.int .i64 b.1.1)),(.v (.int .i64 b.1.2.1)),(.v (.int .i64 b.1.2.2.1)),(.v (.int .i64 b.1.2.2.2))]⟩,⟨false,[(.v (.bool b.2))]⟩],[]))
theorem Vp:ag C0 148 Mz:=
 ag.fx (e:=false) (.cons fI (.cons Be (.cons fU (.cons rE (.cons zF (.nil)))))) mixed Tryz.func148 (by kernel_rfl) (by kernel_rfl) al 1 ai (fun z=>(by kernel_rfl:_=xl (fun b=>some (Mz.enc b)) z.1 z.2.1).trans (SJ _ z.1 z.2.1))
def pD{R:Type}(kx:Ln×Int->Option R)(a0:Pt)(a1:Pt):Option R:=
 Option.bind (bh a0) fun y797=>
 cond (!y797)
 (kx (((0:Int),((0:Int),((0:Int),(0:Int)))),(1:Int)))
 (Option.bind (bh a1) fun y798=>
  cond (!y798)
  (kx (((0:Int),((0:Int),((0:Int),(0:Int)))),(1:Int)))
  (Option.bind (bj a1) fun y799=>
   Option.bind (bj a0) fun y800=>
   Option.bind (jC y799 y800) fun y801=>
   Option.bind (ja y801) fun y832=>
   cond (decide (y832<(0:Int)))
   (kx (((0:Int),((0:Int),((0:Int),(0:Int)))),(7:Int)))
   (Option.bind (wQ a0 (Int.tmod y832 (8:Int))) fun y840=>
    cond (!y840.2)
    (kx (((0:Int),((0:Int),((0:Int),(0:Int)))),(2:Int)))
    (kx (y840.1,(0:Int))))))
def lZ(a0:Pt)(a1:Pt):Option (Ln×Int):=pD some a0 a1
theorem KI{R} kx a0 a1: @pD R kx a0 a1=(lZ a0 a1).bind kx:=by
 unfold lZ pD
 exact ac fun _=>ae rfl (ac fun _=>ae rfl (ac fun _=>ac fun _=>ac fun _=>ac fun _=>ae rfl (ac fun _=>ae rfl rfl)))
abbrev D8:af:=.fx [.val true yP, .val true yP] (Ln×Int) (fun z=>lZ z.1 z.2.1) (fun b=>(.tup [⟨true,[(.v (.int .i64 b.1.1)),(.v (.int .i64 b.1.2.1)),(.v (.int .i64 b.1.2.2.1)),(.v (.int .i64 b.1.2.2.2))]⟩,⟨false,[(.v (.int .i64 b.2))]⟩],[]))
theorem Md:ag C0 77 D8:=
 ag.fx (e:=false) (.cons fI (.cons fU (.cons AA (.cons BS (.cons Vp (.nil)))))) mixed Tryz.func77 (by kernel_rfl) (by kernel_rfl) al 1 ai (fun z=>(by kernel_rfl:_=pD (fun b=>some (D8.enc b)) z.1 z.2.1).trans (KI _ z.1 z.2.1))
def pC{R:Type}(kx:Ln×Int->Option R)(a0:Pt)(a1:Pt):Option R:=
 Option.bind (lZ a0 a1) fun y841=>
 kx y841
def lY(a0:Pt)(a1:Pt):Option (Ln×Int):=pC some a0 a1
theorem KH{R} kx a0 a1: @pC R kx a0 a1=(lY a0 a1).bind kx:=by
 unfold lY pC
 exact ac fun _=>rfl
abbrev D6:af:=.fx [.val true yP, .val true yP] (Ln×Int) (fun z=>lY z.1 z.2.1) (fun b=>(.tup [⟨true,[(.v (.int .i64 b.1.1)),(.v (.int .i64 b.1.2.1)),(.v (.int .i64 b.1.2.2.1)),(.v (.int .i64 b.1.2.2.2))]⟩,⟨false,[(.v (.int .i64 b.2))]⟩],[]))
theorem Mc:ag C0 30 D6:=
 ag.fx (e:=false) (.cons Md (.nil)) mixed Tryz.func30 (by kernel_rfl) (by kernel_rfl) al 1 ai (fun z=>(by kernel_rfl:_=pC (fun b=>some (D6.enc b)) z.1 z.2.1).trans (KH _ z.1 z.2.1))
def vz{R:Type}(kx:Nm->Option R)(a0:Nm):Option R:=
 kx (a0.1,(a0.2.1,(IntKind.wrap .i64 (a0.2.2+(1:Int)))))
def kD(a0:Nm):Option (Nm):=vz some a0
theorem QV{R} kx a0: @vz R kx a0=(kD a0).bind kx:=by
 unfold kD vz
 exact rfl
abbrev Kj:af:=.fx [.val true yN] (Nm) (fun z=>kD z.1) (fun b=>(.one ⟨true,[(.v (.int .i64 b.1)),(.v (.int .i64 b.2.1)),(.v (.int .i64 b.2.2))]⟩,[]))
theorem Cf:ag C0 260 Kj:=
 ag.fx (e:=false) (.nil) mixed Tryz.func260 (by kernel_rfl) (by kernel_rfl) al 1 ai (fun z=>(by kernel_rfl:_=vz (fun b=>some (Kj.enc b)) z.1).trans (QV _ z.1))
def pF{R:Type}(kx:Ln×Bool->Option R)(a0:Ln):Option R:=
 Option.bind (eW a0.2) fun y862=>
 cond (!y862.2)
 (kx (((0:Int),((0:Int),((0:Int),(0:Int)))),Bool.false))
 (kx ((a0.1,y862.1),Bool.true))
def jo(a0:Ln):Option (Ln×Bool):=pF some a0
theorem QW{R} kx a0: @pF R kx a0=(jo a0).bind kx:=by
 unfold jo pF
 exact ac fun _=>ae rfl rfl
abbrev Ea:af:=.fx [.val true yL] (Ln×Bool) (fun z=>jo z.1) (fun b=>(.tup [⟨true,[(.v (.int .i64 b.1.1)),(.v (.int .i64 b.1.2.1)),(.v (.int .i64 b.1.2.2.1)),(.v (.int .i64 b.1.2.2.2))]⟩,⟨false,[(.v (.bool b.2))]⟩],[]))
theorem Ji:ag C0 305 Ea:=
 ag.fx (e:=false) (.cons zF (.nil)) mixed Tryz.func305 (by kernel_rfl) (by kernel_rfl) al 1 ai (fun z=>(by kernel_rfl:_=pF (fun b=>some (Ea.enc b)) z.1).trans (QW _ z.1))
def xu{R:Type}(kx:Ln×Int->Option R)(a0:Ln):Option R:=
 Option.bind (jo a0) fun y863=>
 cond (!y863.2)
 (kx (((0:Int),((0:Int),((0:Int),(0:Int)))),(2:Int)))
 (kx (y863.1,(0:Int)))
def ov(a0:Ln):Option (Ln×Int):=xu some a0
theorem SX{R} kx a0: @xu R kx a0=(ov a0).bind kx:=by
 unfold ov xu
 exact ac fun _=>ae rfl rfl
abbrev MI:af:=.fx [.val true yL] (Ln×Int) (fun z=>ov z.1) (fun b=>(.tup [⟨true,[(.v (.int .i64 b.1.1)),(.v (.int .i64 b.1.2.1)),(.v (.int .i64 b.1.2.2.1)),(.v (.int .i64 b.1.2.2.2))]⟩,⟨false,[(.v (.int .i64 b.2))]⟩],[]))
theorem EI:ag C0 261 MI:=
 ag.fx (e:=false) (.cons Ji (.nil)) mixed Tryz.func261 (by kernel_rfl) (by kernel_rfl) al 1 ai (fun z=>(by kernel_rfl:_=xu (fun b=>some (MI.enc b)) z.1).trans (SX _ z.1))
def tj{R:Type}(kx:Ln×Int->Option R)(a0:Pt)(a1:Pt):Option R:=
 Option.bind (bh a0) fun y848=>
 cond (!y848)
 (kx (((0:Int),((0:Int),((0:Int),(0:Int)))),(1:Int)))
 (Option.bind (bh a1) fun y849=>
  cond (!y849)
  (kx (((0:Int),((0:Int),((0:Int),(0:Int)))),(1:Int)))
  (Option.bind (bj a0) fun y850=>
   Option.bind (bj a1) fun y851=>
   Option.bind (jC y851 y850) fun y852=>
   Option.bind (ja y852) fun y853=>
   cond (decide (y853<(0:Int)))
   (kx (((0:Int),((0:Int),((0:Int),(0:Int)))),(7:Int)))
   (Option.bind (eV y850.1 y851.1) fun y854=>
    Option.bind (kD y854) fun y856=>
    Option.bind (eV y850.2 y851.2) fun y857=>
    Option.bind (kD y857) fun y858=>
    Option.bind (dJ (y856,y858) (IntKind.wrap .i64 (y853+(4:Int)))) fun y859=>
    Option.bind (ov y859) fun y864=>
    kx y864)))
def nz(a0:Pt)(a1:Pt):Option (Ln×Int):=tj some a0 a1
theorem Pc{R} kx a0 a1: @tj R kx a0 a1=(nz a0 a1).bind kx:=by
 unfold nz tj
 exact ac fun _=>ae rfl (ac fun _=>ae rfl (ac fun _=>ac fun _=>ac fun _=>ac fun _=>ae rfl (ac fun _=>ac fun _=>ac fun _=>ac fun _=>ac fun _=>ac fun _=>rfl)))
abbrev I5:af:=.fx [.val true yP, .val true yP] (Ln×Int) (fun z=>nz z.1 z.2.1) (fun b=>(.tup [⟨true,[(.v (.int .i64 b.1.1)),(.v (.int .i64 b.1.2.1)),(.v (.int .i64 b.1.2.2.1)),(.v (.int .i64 b.1.2.2.2))]⟩,⟨false,[(.v (.int .i64 b.2))]⟩],[]))
theorem Rd:ag C0 200 I5:=
 ag.fx (e:=false) (.cons fI (.cons fU (.cons AA (.cons BS (.cons mL (.cons Cf (.cons pn (.cons EI (.nil))))))))) mixed Tryz.func200 (by kernel_rfl) (by kernel_rfl) al 1 ai (fun z=>(by kernel_rfl:_=tj (fun b=>some (I5.enc b)) z.1 z.2.1).trans (Pc _ z.1 z.2.1))
def AO:List (FuncId×af):=[(305,Ea)]
abbrev iC:LS:=⟨[(false,[(.sl yL)]),(false,[(.own yL)]),(false,[(.int .i64)])],[],[]⟩
abbrev Fj:LS:=⟨[(false,[(.own yL)]),(false,[(.int .i64)]),(false,[(.own yL)])],[],[]⟩
abbrev Oo v0(v1:Int) v2:=((((v0,()),(v1,()),(v2,()),()),(),()):Fj.T)
abbrev Fk:LS:=⟨[(false,[.undef]),(false,[.undef]),(false,[(.own yL)])],[],[]⟩
abbrev Oq v0:=(((((),()),((),()),(v0,()),()),(),()):Fk.T)
abbrev iJ:List (Ex×LS):=[(.ret,Fj),(.exit 0,Fk)]
abbrev xI x0 x4(x5:Int):=((((x0,()),(x4,()),(x5,()),()),(),()):iC.T)
def jD{R:Type}(nx:iC.T->Option R)(hx:mA R iJ)(x0:List Ln)(x4:List Ln)(x5:Int):Option R:=
 cond (decide (x5<((List.length x0:Nat):Int)))
 (Option.bind (gq x0 x5) fun y881=>
  Option.bind (jo y881) fun y882=>
  cond (!y882.2)
  (hx.1 (Oo [] (2:Int) x4))
  (cond (decide ((((List.length x4)+(List.length [y882.1]))*32)<=70368744177664))
   (cond (decide (((List.length x4)+(List.length [y882.1]))<=70368744177664))
    (nx (xI x0 (x4++ [y882.1]) (IntKind.wrap .i64 (x5+(1:Int)))))
    none)
   none))
 (hx.2.1 (Oq x4))
def Cm{R:Type}(nx:iC.T->Option R)(hx:mA R iJ)(z:iC.T):Option R:=jD nx hx z.1.1.1 z.1.2.1.1 z.1.2.2.1.1
theorem FR:cK @Cm:=fun R nx hx z=>by
 show jD nx hx z.1.1.1 z.1.2.1.1 z.1.2.2.1.1=(jD (fun y=>some (.inl y)) (oI iJ fun x=>some (.inr x)) z.1.1.1 z.1.2.1.1 z.1.2.2.1.1).bind (oH nx hx)
 unfold jD
 exact ae (ac fun _=>ac fun _=>ae rfl (ae (ae rfl rfl) rfl)) rfl
def qb:iC.T->Option (yH iJ):=BU @Cm
theorem wm x0 x4 x5:qb (xI x0 x4 x5)=jD qb (oI iJ some) x0 x4 x5:=dR FR _
def we:bN:=⟨[0,4,5],[],[2,3,4],[]⟩
def AY:fq Rv:=⟨fun k=>match k with|4=>we|_=>⟨[],[],[],[]⟩,fun k=>match k with|4=>some (ce iC iJ qb)|_=>none⟩
theorem Rn(n:Nat)(z:iC.T)(k:Ex->iV->Option Rv):bJ ⟨30,30⟩ we (mU (gN C0 AO) ⟨30,30⟩ AY 1 (aG Tryz.f263 3)) (n+1) (iC.enc z) k=
 Cm (fun y=>bJ ⟨30,30⟩ we (mU (gN C0 AO) ⟨30,30⟩ AY 1 (aG Tryz.f263 3)) n (iC.enc y) k) (hK k iJ) z:=by kernel_rfl
theorem Uo:ak (gN C0 AO) ⟨30,30⟩ AY 1 (ca (aX Tryz.f263)):=by
 have hl:ca (aX Tryz.f263)=[aG Tryz.f263 3]:=by kernel_rfl
 rw[hl]
 exact ak.cons (n:=4) (lh:=we) (S:=ce iC iJ qb) (by kernel_rfl) rfl rfl (cl FR Rn)
  (ak.nil)
def tJ{R:Type}(kx:(List Ln)×Int->Option R)(a0:(List Ln)):Option R:=
 Option.bind (qb (xI a0 [] (0:Int))) (qi iJ
 (fun e883=>
  kx ((e883.1.1.1:List Ln),(e883.1.2.1.1:Int)),fun e887=>
  kx ((e887.1.2.2.1.1:List Ln),(0:Int)),()))
def fN(a0:(List Ln)):Option ((List Ln)×Int):=tJ some a0
theorem SW{R} kx a0: @tJ R kx a0=(fN a0).bind kx:=by
 unfold fN tJ
 exact cq ⟨fun _=>rfl,fun _=>rfl,trivial⟩
abbrev A6:af:=.fx [.val false (.slice yL)] ((List Ln)×Int) (fun z=>fN z.1) (fun b=>(.tup [⟨false,[(.own yL b.1)]⟩,⟨false,[(.v (.int .i64 b.2))]⟩],[]))
theorem EH:ag C0 263 A6:=
 ag.fx (e:=false) (t:=AO) (.cons Ji (.nil)) mixed Tryz.func263 (by kernel_rfl) (by kernel_rfl) AY 1 Uo (fun z=>(by kernel_rfl:_=tJ (fun b=>some (A6.enc b)) z.1).trans (SW _ z.1))
def AP:List (FuncId×af):=[(218,A5),(217,zj)]
abbrev iD:LS:=⟨[(false,[(.sl yL)]),(false,[(.ptr 3 0)]),(false,[(.int .i64)])],[(false,[(.int .i64),(.int .i64),(.int .i64),(.int .i64)])],[]⟩
abbrev Fl:LS:=⟨[(false,[(.sl yL)]),(false,[(.ptr 3 0)]),(false,[(.int .i64)])],[(false,[(.int .i64),(.int .i64),(.int .i64),(.int .i64)])],[]⟩
abbrev yV v0(v1:Int)(v2:Int)(v3:Int)(v4:Int)(v5:Int):=((((v0,()),((),()),(v1,()),()),((v2,v3,v4,v5,()),()),()):Fl.T)
abbrev jF:List (Ex×LS):=[(.exit 0,Fl)]
abbrev xJ x0(x5:Int)(b0_0:Int)(b0_1:Int)(b0_2:Int)(b0_3:Int):=((((x0,()),((),()),(x5,()),()),((b0_0,b0_1,b0_2,b0_3,()),()),()):iD.T)
def ln{R:Type}(nx:iD.T->Option R)(hx:mA R jF)(x0:List Ln)(x5:Int)(b0_0:Int)(b0_1:Int)(b0_2:Int)(b0_3:Int):Option R:=
 cond (decide (x5>(0:Int)))
 (Option.bind (gq x0 (IntKind.wrap .i64 (x5-(1:Int)))) fun y900=>
  cond (decide (y900.1>b0_0))
  (nx (xJ x0 (IntKind.wrap .i64 (x5-(1:Int))) b0_0 b0_1 b0_2 b0_3))
  (Option.bind (gq x0 (IntKind.wrap .i64 (x5-(1:Int)))) fun y901=>
   cond (y901.1==b0_0)
   (Option.bind (gq x0 (IntKind.wrap .i64 (x5-(1:Int)))) fun y902=>
    Option.bind (dn y902.2 (b0_1,(b0_2,b0_3))) fun y903=>
    Option.bind (fE y903) fun y904=>
    cond (decide (y904>(0:Int)))
    (nx (xJ x0 (IntKind.wrap .i64 (x5-(1:Int))) b0_0 b0_1 b0_2 b0_3))
    (hx.1 (yV x0 x5 b0_0 b0_1 b0_2 b0_3)))
   (hx.1 (yV x0 x5 b0_0 b0_1 b0_2 b0_3))))
 (hx.1 (yV x0 x5 b0_0 b0_1 b0_2 b0_3))
def Co{R:Type}(nx:iD.T->Option R)(hx:mA R jF)(z:iD.T):Option R:=ln nx hx z.1.1.1 z.1.2.2.1.1 z.2.1.1.1 z.2.1.1.2.1 z.2.1.1.2.2.1 z.2.1.1.2.2.2.1
theorem FS:cK @Co:=fun R nx hx z=>by
 show ln nx hx z.1.1.1 z.1.2.2.1.1 z.2.1.1.1 z.2.1.1.2.1 z.2.1.1.2.2.1 z.2.1.1.2.2.2.1=(ln (fun y=>some (.inl y)) (oI jF fun x=>some (.inr x)) z.1.1.1 z.1.2.2.1.1 z.2.1.1.1 z.2.1.1.2.1 z.2.1.1.2.2.1 z.2.1.1.2.2.2.1).bind (oH nx hx)
 unfold ln
 exact ae (ac fun _=>ae rfl (ac fun _=>ae (ac fun _=>ac fun _=>ac fun _=>ae rfl rfl) rfl)) rfl
def tt:iD.T->Option (yH jF):=BU @Co
theorem AL x0 x5 b0_0 b0_1 b0_2 b0_3:tt (xJ x0 x5 b0_0 b0_1 b0_2 b0_3)=ln tt (oI jF some) x0 x5 b0_0 b0_1 b0_2 b0_3:=dR FS _
def wg:bN:=⟨[0,3,5],[3],[0,3,5],[3]⟩
def AZ:fq Rv:=⟨fun k=>match k with|3=>wg|_=>⟨[],[],[],[]⟩,fun k=>match k with|3=>some (ce iD jF tt)|_=>none⟩
theorem Ro(n:Nat)(z:iD.T)(k:Ex->iV->Option Rv):bJ ⟨62,62⟩ wg (mU (gN C0 AP) ⟨62,62⟩ AZ 1 (aG Tryz.f262 2)) (n+1) (iD.enc z) k=
 Co (fun y=>bJ ⟨62,62⟩ wg (mU (gN C0 AP) ⟨62,62⟩ AZ 1 (aG Tryz.f262 2)) n (iD.enc y) k) (hK k jF) z:=by kernel_rfl
theorem Up:ak (gN C0 AP) ⟨62,62⟩ AZ 1 (ca (aX Tryz.f262)):=by
 have hl:ca (aX Tryz.f262)=[aG Tryz.f262 2]:=by kernel_rfl
 rw[hl]
 exact ak.cons (n:=3) (lh:=wg) (S:=ce iD jF tt) (by kernel_rfl) rfl rfl (cl FS Ro)
  (ak.nil)
def tK{R:Type}(kx:(List Ln)->Option R)(a0:(List Ln))(a1:Ln):Option R:=
 Option.bind (tt (xJ a0 ((List.length a0:Nat):Int) a1.1 a1.2.1 a1.2.2.1 a1.2.2.2)) (qi jF
 (fun e905=>
  cond (decide ((0:Int)<=(e905.1.2.2.1.1:Int)))
  (cond (decide ((e905.1.2.2.1.1:Int)<=(((List.length (e905.1.1.1:List Ln)):Nat):Int)))
   (cond (decide ((((List.length ([]:List Int))+(List.length (List.drop 0 (List.take (Int.toNat (e905.1.2.2.1.1:Int)) (e905.1.1.1:List Ln)))))*32)<=70368744177664))
    (cond (decide (((List.length ([]:List Int))+(List.length (List.drop 0 (List.take (Int.toNat (e905.1.2.2.1.1:Int)) (e905.1.1.1:List Ln)))))<=70368744177664))
     (cond (decide ((((List.length ([]++(List.drop 0 (List.take (Int.toNat (e905.1.2.2.1.1:Int)) (e905.1.1.1:List Ln)))))+(List.length [((e905.2.1.1.1:Int),((e905.2.1.1.2.1:Int),((e905.2.1.1.2.2.1:Int),(e905.2.1.1.2.2.2.1:Int))))]))*32)<=70368744177664))
      (cond (decide (((List.length ([]++(List.drop 0 (List.take (Int.toNat (e905.1.2.2.1.1:Int)) (e905.1.1.1:List Ln)))))+(List.length [((e905.2.1.1.1:Int),((e905.2.1.1.2.1:Int),((e905.2.1.1.2.2.1:Int),(e905.2.1.1.2.2.2.1:Int))))]))<=70368744177664))
       (cond (decide ((0:Int)<=(e905.1.2.2.1.1:Int)))
        (cond (decide ((e905.1.2.2.1.1:Int)<=(((List.length (e905.1.1.1:List Ln)):Nat):Int)))
         (cond (decide ((((List.length (([]++(List.drop 0 (List.take (Int.toNat (e905.1.2.2.1.1:Int)) (e905.1.1.1:List Ln))))++ [((e905.2.1.1.1:Int),((e905.2.1.1.2.1:Int),((e905.2.1.1.2.2.1:Int),(e905.2.1.1.2.2.2.1:Int))))]))+(List.length (List.drop (Int.toNat (e905.1.2.2.1.1:Int)) (List.take (List.length (e905.1.1.1:List Ln)) (e905.1.1.1:List Ln)))))*32)<=70368744177664))
          (cond (decide (((List.length (([]++(List.drop 0 (List.take (Int.toNat (e905.1.2.2.1.1:Int)) (e905.1.1.1:List Ln))))++ [((e905.2.1.1.1:Int),((e905.2.1.1.2.1:Int),((e905.2.1.1.2.2.1:Int),(e905.2.1.1.2.2.2.1:Int))))]))+(List.length (List.drop (Int.toNat (e905.1.2.2.1.1:Int)) (List.take (List.length (e905.1.1.1:List Ln)) (e905.1.1.1:List Ln)))))<=70368744177664))
           (kx ((([]++(List.drop 0 (List.take (Int.toNat (e905.1.2.2.1.1:Int)) (e905.1.1.1:List Ln))))++ [((e905.2.1.1.1:Int),((e905.2.1.1.2.1:Int),((e905.2.1.1.2.2.1:Int),(e905.2.1.1.2.2.2.1:Int))))])++(List.drop (Int.toNat (e905.1.2.2.1.1:Int)) (List.take (List.length (e905.1.1.1:List Ln)) (e905.1.1.1:List Ln)))))
           none)
          none)
         none)
        none)
       none)
      none)
     none)
    none)
   none)
  none,()))
def mF(a0:(List Ln))(a1:Ln):Option ((List Ln)):=tK some a0 a1
theorem SY{R} kx a0 a1: @tK R kx a0 a1=(mF a0 a1).bind kx:=by
 unfold mF tK
 exact cq ⟨fun _=>ae (ae (ae (ae (ae (ae (ae (ae (ae (ae rfl rfl) rfl) rfl) rfl) rfl) rfl) rfl) rfl) rfl) rfl,trivial⟩
abbrev MJ:af:=.fx [.val false (.slice yL), .val true yL] ((List Ln)) (fun z=>mF z.1 z.2.1) (fun b=>(.one ⟨false,[(.own yL b)]⟩,[]))
theorem Vr:ag C0 262 MJ:=
 ag.fx (e:=false) (t:=AP) (.cons pm (.cons Cd (.nil))) mixed Tryz.func262 (by kernel_rfl) (by kernel_rfl) AZ 1 Up (fun z=>(by kernel_rfl:_=tK (fun b=>some (MJ.enc b)) z.1 z.2.1).trans (SY _ z.1 z.2.1))
def rY{R:Type}(kx:(List Ln)×Int->Option R)(a0:Ln)(a1:Ln):Option R:=
 Option.bind (bG a0) fun y871=>
 cond (!y871)
 (kx ([],(1:Int)))
 (Option.bind (bG a1) fun y872=>
  cond (!y872)
  (kx ([],(1:Int)))
  (cond ((a0.1==a1.1)&&(((a0.2.1==a1.2.1)&&((a0.2.2.1==a1.2.2.1)&&((a0.2.2.2==a1.2.2.2)&&Bool.true)))&&Bool.true))
   (kx ([],(7:Int)))
   (Option.bind (bR a0) fun y873=>
    Option.bind (bR a1) fun y874=>
    cond (a0.1==a1.1)
    (Option.bind (eV y873.2 y874.2) fun y875=>
     Option.bind (kD y875) fun y876=>
     Option.bind (fN ([]++ [(a0.1,y876)])) fun y889=>
     kx y889)
    (cond ((Int.tmod (IntKind.wrap .i64 (a0.1+a1.1)) (2:Int))==(0:Int))
     (Option.bind (mI y873 y874) fun y890=>
      Option.bind (dJ y890 (IntKind.wrap .i64 (Int.tdiv (IntKind.wrap .i64 (a0.1+a1.1)) (2:Int)))) fun y891=>
      Option.bind (mF [] y891) fun y912=>
      Option.bind (dJ y890 (IntKind.wrap .i64 ((IntKind.wrap .i64 (Int.tdiv (IntKind.wrap .i64 (a0.1+a1.1)) (2:Int)))+(4:Int)))) fun y913=>
      Option.bind (mF y912 y913) fun y914=>
      Option.bind (fN y914) fun y915=>
      kx y915)
     (Option.bind (fN []) fun y916=>
      kx y916)))))
def lX(a0:Ln)(a1:Ln):Option ((List Ln)×Int):=rY some a0 a1
theorem NE{R} kx a0 a1: @rY R kx a0 a1=(lX a0 a1).bind kx:=by
 unfold lX rY
 exact ac fun _=>ae rfl (ac fun _=>ae rfl (ae rfl (ac fun _=>ac fun _=>ae (ac fun _=>ac fun _=>ac fun _=>rfl) (ae (ac fun _=>ac fun _=>ac fun _=>ac fun _=>ac fun _=>ac fun _=>rfl) (ac fun _=>rfl)))))
abbrev Hs:af:=.fx [.val true yL, .val true yL] ((List Ln)×Int) (fun z=>lX z.1 z.2.1) (fun b=>(.tup [⟨false,[(.own yL b.1)]⟩,⟨false,[(.v (.int .i64 b.2))]⟩],[]))
theorem PL:ag C0 201 Hs:=
 ag.fx (e:=false) (.cons iF (.cons kJ (.cons mL (.cons Cf (.cons EH (.cons Jh (.cons pn (.cons Vr (.nil))))))))) mixed Tryz.func201 (by kernel_rfl) (by kernel_rfl) al 1 ai (fun z=>(by kernel_rfl:_=rY (fun b=>some (Hs.enc b)) z.1 z.2.1).trans (NE _ z.1 z.2.1))
def tr{R:Type}(kx:It×Int->Option R)(a0:(List Ln))(a1:Int)(a2:Int):Option R:=
 cond (a1==(0:Int))
 (cond (decide (a2>=((List.length a0:Nat):Int)))
  (kx (((ByteArray.mk (Array.mk [])),(Bool.false,((((0:Int),((0:Int),(0:Int))),((0:Int),((0:Int),(0:Int)))),((0:Int),((0:Int),((0:Int),(0:Int))))))),(3:Int)))
  (cond (a1 !=(0:Int))
   (kx (((ByteArray.mk (Array.mk [])),(Bool.false,((((0:Int),((0:Int),(0:Int))),((0:Int),((0:Int),(0:Int)))),((0:Int),((0:Int),((0:Int),(0:Int))))))),a1))
   (Option.bind (gq a0 a2) fun y921=>
    kx (((ByteArray.mk (Array.mk [])),(Bool.true,((((0:Int),((0:Int),(0:Int))),((0:Int),((0:Int),(0:Int)))),y921))),(0:Int)))))
 (cond (a1 !=(0:Int))
  (kx (((ByteArray.mk (Array.mk [])),(Bool.false,((((0:Int),((0:Int),(0:Int))),((0:Int),((0:Int),(0:Int)))),((0:Int),((0:Int),((0:Int),(0:Int))))))),a1))
  (Option.bind (gq a0 a2) fun y922=>
   kx (((ByteArray.mk (Array.mk [])),(Bool.true,((((0:Int),((0:Int),(0:Int))),((0:Int),((0:Int),(0:Int)))),y922))),(0:Int))))
def gw(a0:(List Ln))(a1:Int)(a2:Int):Option (It×Int):=tr some a0 a1 a2
theorem Pj{R} kx a0 a1 a2: @tr R kx a0 a1 a2=(gw a0 a1 a2).bind kx:=by
 unfold gw tr
 exact ae (ae rfl (ae rfl (ac fun _=>rfl))) (ae rfl (ac fun _=>rfl))
abbrev I8:af:=.fx [.val false (.slice yL), .val false (.int .i64), .val false (.int .i64)] (It×Int) (fun z=>gw z.1 z.2.1 z.2.2.1) (fun b=>(.tup [⟨true,[(.v (.string b.1.1)),(.v (.bool b.1.2.1)),(.v (.int .i64 b.1.2.2.1.1.1)),(.v (.int .i64 b.1.2.2.1.1.2.1)),(.v (.int .i64 b.1.2.2.1.1.2.2)),(.v (.int .i64 b.1.2.2.1.2.1)),(.v (.int .i64 b.1.2.2.1.2.2.1)),(.v (.int .i64 b.1.2.2.1.2.2.2)),(.v (.int .i64 b.1.2.2.2.1)),(.v (.int .i64 b.1.2.2.2.2.1)),(.v (.int .i64 b.1.2.2.2.2.2.1)),(.v (.int .i64 b.1.2.2.2.2.2.2))]⟩,⟨false,[(.v (.int .i64 b.2))]⟩],[]))
theorem Rg:ag C0 202 I8:=
 ag.fx (e:=false) (.nil) mixed Tryz.func202 (by kernel_rfl) (by kernel_rfl) al 1 ai (fun z=>(by kernel_rfl:_=tr (fun b=>some (I8.enc b)) z.1 z.2.1 z.2.2.1).trans (Pj _ z.1 z.2.1 z.2.2.1))
def jy{R:Type}(kx:Ln×Int->Option R)(a0:Ln)(a1:Pt):Option R:=
 Option.bind (bG a0) fun y928=>
 cond (!y928)
 (kx (((0:Int),((0:Int),((0:Int),(0:Int)))),(1:Int)))
 (Option.bind (bh a1) fun y929=>
  cond (!y929)
  (kx (((0:Int),((0:Int),((0:Int),(0:Int)))),(1:Int)))
  (Option.bind (bj a1) fun y930=>
   Option.bind (dJ y930 (IntKind.wrap .i64 (a0.1+(4:Int)))) fun y931=>
   Option.bind (ov y931) fun y932=>
   kx y932))
def eU(a0:Ln)(a1:Pt):Option (Ln×Int):=jy some a0 a1
theorem Eo{R} kx a0 a1: @jy R kx a0 a1=(eU a0 a1).bind kx:=by
 unfold eU jy
 exact ac fun _=>ae rfl (ac fun _=>ae rfl (ac fun _=>ac fun _=>ac fun _=>rfl))
abbrev wT:af:=.fx [.val true yL, .val true yP] (Ln×Int) (fun z=>eU z.1 z.2.1) (fun b=>(.tup [⟨true,[(.v (.int .i64 b.1.1)),(.v (.int .i64 b.1.2.1)),(.v (.int .i64 b.1.2.2.1)),(.v (.int .i64 b.1.2.2.2))]⟩,⟨false,[(.v (.int .i64 b.2))]⟩],[]))
theorem EZ:ag C0 203 wT:=
 ag.fx (e:=false) (.cons iF (.cons fI (.cons fU (.cons pn (.cons EI (.nil)))))) mixed Tryz.func203 (by kernel_rfl) (by kernel_rfl) al 1 ai (fun z=>(by kernel_rfl:_=jy (fun b=>some (wT.enc b)) z.1 z.2.1).trans (Eo _ z.1 z.2.1))
def vv{R:Type}(kx:Int->Option R)(a0:Ln)(a1:Pt):Option R:=
 Option.bind (de (IntKind.wrap .i64 (a0.1+(4:Int))) a1) fun y972=>
 Option.bind (dn y972 a0.2) fun y973=>
 Option.bind (fE y973) fun y974=>
 kx y974
def rn(a0:Ln)(a1:Pt):Option (Int):=vv some a0 a1
theorem QT{R} kx a0 a1: @vv R kx a0 a1=(rn a0 a1).bind kx:=by
 unfold rn vv
 exact ac fun _=>ac fun _=>ac fun _=>rfl
abbrev Ki:af:=.fx [.val true yL, .val true yP] (Int) (fun z=>rn z.1 z.2.1) (fun b=>(.one ⟨false,[(.v (.int .i64 b))]⟩,[]))
theorem Ti:ag C0 306 Ki:=
 ag.fx (e:=false) (.cons rE (.cons pm (.cons Cd (.nil)))) mixed Tryz.func306 (by kernel_rfl) (by kernel_rfl) al 1 ai (fun z=>(by kernel_rfl:_=vv (fun b=>some (Ki.enc b)) z.1 z.2.1).trans (QT _ z.1 z.2.1))
def qB{R:Type}(kx:Bool->Option R)(a0:Ln)(a1:Pt)(a2:Ln):Option R:=
 Option.bind (jg a0 a1) fun y969=>
 Option.bind (rn a2 y969) fun y975=>
 kx (y975==(0:Int))
def mX(a0:Ln)(a1:Pt)(a2:Ln):Option (Bool):=qB some a0 a1 a2
theorem LZ{R} kx a0 a1 a2: @qB R kx a0 a1 a2=(mX a0 a1 a2).bind kx:=by
 unfold mX qB
 exact ac fun _=>ac fun _=>rfl
abbrev zm:af:=.fx [.val true yL, .val true yP, .val true yL] (Bool) (fun z=>mX z.1 z.2.1 z.2.2.1) (fun b=>(.one ⟨false,[(.v (.bool b))]⟩,[]))
theorem N1:ag C0 264 zm:=
 ag.fx (e:=false) (.cons xZ (.cons Ti (.nil))) mixed Tryz.func264 (by kernel_rfl) (by kernel_rfl) al 1 ai (fun z=>(by kernel_rfl:_=qB (fun b=>some (zm.enc b)) z.1 z.2.1 z.2.2.1).trans (LZ _ z.1 z.2.1 z.2.2.1))
def qf:List (FuncId×af):=[(120,sV),(121,uL),(140,Da),(259,zk),(256,vX),(264,zm),(263,A6)]
abbrev dg:LS:=⟨[(false,[(.ptr 3 0)]),(false,[(.ptr 4 0)]),(false,[(.ptr 5 0)]),(false,[(.own yL)]),(false,[(.int .i64)])],[(false,[(.int .i64),(.int .i64),(.int .i64),(.int .i64),(.int .i64),(.int .i64)]),(false,[(.int .i64),(.int .i64),(.int .i64),(.int .i64)]),(false,[(.int .i64),(.int .i64),(.int .i64),(.int .i64),(.int .i64),(.int .i64)])],[]⟩
abbrev wP:LS:=⟨[(false,[(.own yL)])],[],[]⟩
abbrev wM v0:=((((v0,()),()),(),()):wP.T)
abbrev dC:List (Ex×LS):=[(.exit 0,wP)]
abbrev kG x8(x9:Int)(b0_0:Int)(b0_1:Int)(b0_2:Int)(b0_3:Int)(b0_4:Int)(b0_5:Int)(b1_0:Int)(b1_1:Int)(b1_2:Int)(b1_3:Int)(b2_0:Int)(b2_1:Int)(b2_2:Int)(b2_3:Int)(b2_4:Int)(b2_5:Int):=(((((),()),((),()),((),()),(x8,()),(x9,()),()),((b0_0,b0_1,b0_2,b0_3,b0_4,b0_5,()),(b1_0,b1_1,b1_2,b1_3,()),(b2_0,b2_1,b2_2,b2_3,b2_4,b2_5,()),()),()):dg.T)
def ga{R:Type}(nx:dg.T->Option R)(hx:mA R dC)(x8:List Ln)(x9:Int)(b0_0:Int)(b0_1:Int)(b0_2:Int)(b0_3:Int)(b0_4:Int)(b0_5:Int)(b1_0:Int)(b1_1:Int)(b1_2:Int)(b1_3:Int)(b2_0:Int)(b2_1:Int)(b2_2:Int)(b2_3:Int)(b2_4:Int)(b2_5:Int):Option R:=
 cond (decide (x9<(8:Int)))
 (Option.bind (bj ((b2_0,(b2_1,b2_2)),(b2_3,(b2_4,b2_5)))) fun y962=>
  Option.bind (dJ y962 x9) fun y963=>
  Option.bind (bj ((b0_0,(b0_1,b0_2)),(b0_3,(b0_4,b0_5)))) fun y964=>
  Option.bind (bR (b1_0,(b1_1,(b1_2,b1_3)))) fun y965=>
  Option.bind (mX y963 y964 y965) fun y976=>
  cond y976
  (cond (decide ((((List.length x8)+(List.length [y963]))*32)<=70368744177664))
   (cond (decide (((List.length x8)+(List.length [y963]))<=70368744177664))
    (nx (kG (x8++ [y963]) (IntKind.wrap .i64 (x9+(1:Int))) b0_0 b0_1 b0_2 b0_3 b0_4 b0_5 b1_0 b1_1 b1_2 b1_3 b2_0 b2_1 b2_2 b2_3 b2_4 b2_5))
    none)
   none)
  (nx (kG x8 (IntKind.wrap .i64 (x9+(1:Int))) b0_0 b0_1 b0_2 b0_3 b0_4 b0_5 b1_0 b1_1 b1_2 b1_3 b2_0 b2_1 b2_2 b2_3 b2_4 b2_5)))
 (hx.1 (wM x8))
def sN{R:Type}(nx:dg.T->Option R)(hx:mA R dC)(z:dg.T):Option R:=ga nx hx z.1.2.2.2.1.1 z.1.2.2.2.2.1.1 z.2.1.1.1 z.2.1.1.2.1 z.2.1.1.2.2.1 z.2.1.1.2.2.2.1 z.2.1.1.2.2.2.2.1 z.2.1.1.2.2.2.2.2.1 z.2.1.2.1.1 z.2.1.2.1.2.1 z.2.1.2.1.2.2.1 z.2.1.2.1.2.2.2.1 z.2.1.2.2.1.1 z.2.1.2.2.1.2.1 z.2.1.2.2.1.2.2.1 z.2.1.2.2.1.2.2.2.1 z.2.1.2.2.1.2.2.2.2.1 z.2.1.2.2.1.2.2.2.2.2.1
theorem wX:cK @sN:=fun R nx hx z=>by
 show ga nx hx z.1.2.2.2.1.1 z.1.2.2.2.2.1.1 z.2.1.1.1 z.2.1.1.2.1 z.2.1.1.2.2.1 z.2.1.1.2.2.2.1 z.2.1.1.2.2.2.2.1 z.2.1.1.2.2.2.2.2.1 z.2.1.2.1.1 z.2.1.2.1.2.1 z.2.1.2.1.2.2.1 z.2.1.2.1.2.2.2.1 z.2.1.2.2.1.1 z.2.1.2.2.1.2.1 z.2.1.2.2.1.2.2.1 z.2.1.2.2.1.2.2.2.1 z.2.1.2.2.1.2.2.2.2.1 z.2.1.2.2.1.2.2.2.2.2.1=(ga (fun y=>some (.inl y)) (oI dC fun x=>some (.inr x)) z.1.2.2.2.1.1 z.1.2.2.2.2.1.1 z.2.1.1.1 z.2.1.1.2.1 z.2.1.1.2.2.1 z.2.1.1.2.2.2.1 z.2.1.1.2.2.2.2.1 z.2.1.1.2.2.2.2.2.1 z.2.1.2.1.1 z.2.1.2.1.2.1 z.2.1.2.1.2.2.1 z.2.1.2.1.2.2.2.1 z.2.1.2.2.1.1 z.2.1.2.2.1.2.1 z.2.1.2.2.1.2.2.1 z.2.1.2.2.1.2.2.2.1 z.2.1.2.2.1.2.2.2.2.1 z.2.1.2.2.1.2.2.2.2.2.1).bind (oH nx hx)
 unfold ga
 exact ae (ac fun _=>ac fun _=>ac fun _=>ac fun _=>ac fun _=>ae (ae (ae rfl rfl) rfl) rfl) rfl
def iQ:dg.T->Option (yH dC):=BU @sN
theorem yF x8 x9 b0_0 b0_1 b0_2 b0_3 b0_4 b0_5 b1_0 b1_1 b1_2 b1_3 b2_0 b2_1 b2_2 b2_3 b2_4 b2_5:iQ (kG x8 x9 b0_0 b0_1 b0_2 b0_3 b0_4 b0_5 b1_0 b1_1 b1_2 b1_3 b2_0 b2_1 b2_2 b2_3 b2_4 b2_5)=ga iQ (oI dC some) x8 x9 b0_0 b0_1 b0_2 b0_3 b0_4 b0_5 b1_0 b1_1 b1_2 b1_3 b2_0 b2_1 b2_2 b2_3 b2_4 b2_5:=dR wX _
def na:bN:=⟨[3,4,5,8,9],[3,4,5],[8],[]⟩
def ql:fq Rv:=⟨fun k=>match k with|6=>na|_=>⟨[],[],[],[]⟩,fun k=>match k with|6=>some (ce dg dC iQ)|_=>none⟩
theorem H3(n:Nat)(z:dg.T)(k:Ex->iV->Option Rv):bJ ⟨47,47⟩ na (mU (gN C0 qf) ⟨47,47⟩ ql 1 (aG Tryz.f204 5)) (n+1) (dg.enc z) k=
 sN (fun y=>bJ ⟨47,47⟩ na (mU (gN C0 qf) ⟨47,47⟩ ql 1 (aG Tryz.f204 5)) n (dg.enc y) k) (hK k dC) z:=by kernel_rfl
theorem Jr:ak (gN C0 qf) ⟨47,47⟩ ql 1 (ca (aX Tryz.f204)):=by
 have hl:ca (aX Tryz.f204)=[aG Tryz.f204 5]:=by kernel_rfl
 rw[hl]
 exact ak.cons (n:=6) (lh:=na) (S:=ce dg dC iQ) (by kernel_rfl) rfl rfl (cl wX H3)
  (ak.nil)
def mR{R:Type}(kx:(List Ln)×Int->Option R)(a0:Pt)(a1:Ln)(a2:Pt):Option R:=
 Option.bind (bh a0) fun y941=>
 cond (!y941)
 (kx ([],(1:Int)))
 (Option.bind (bG a1) fun y942=>
  cond (!y942)
  (kx ([],(1:Int)))
  (Option.bind (bh a2) fun y943=>
   cond (!y943)
   (kx ([],(1:Int)))
   (Option.bind (iQ (kG [] (0:Int) a0.1.1 a0.1.2.1 a0.1.2.2 a0.2.1 a0.2.2.1 a0.2.2.2 a1.1 a1.2.1 a1.2.2.1 a1.2.2.2 a2.1.1 a2.1.2.1 a2.1.2.2 a2.2.1 a2.2.2.1 a2.2.2.2)) (qi dC
    (fun e977=>
     Option.bind (fN (e977.1.1.1:List Ln)) fun y979=>
     kx y979,())))))
def ij(a0:Pt)(a1:Ln)(a2:Pt):Option ((List Ln)×Int):=mR some a0 a1 a2
theorem IF{R} kx a0 a1 a2: @mR R kx a0 a1 a2=(ij a0 a1 a2).bind kx:=by
 unfold ij mR
 exact ac fun _=>ae rfl (ac fun _=>ae rfl (ac fun _=>ae rfl (cq ⟨fun _=>ac fun _=>rfl,trivial⟩)))
abbrev BH:af:=.fx [.val true yP, .val true yL, .val true yP] ((List Ln)×Int) (fun z=>ij z.1 z.2.1 z.2.2.1) (fun b=>(.tup [⟨false,[(.own yL b.1)]⟩,⟨false,[(.v (.int .i64 b.2))]⟩],[]))
theorem JH:ag C0 204 BH:=
 ag.fx (e:=false) (t:=qf) (.cons fI (.cons iF (.cons fU (.cons pn (.cons kJ (.cons N1 (.cons EH (.nil)))))))) mixed Tryz.func204 (by kernel_rfl) (by kernel_rfl) ql 1 Jr (fun z=>(by kernel_rfl:_=mR (fun b=>some (BH.enc b)) z.1 z.2.1 z.2.2.1).trans (IF _ z.1 z.2.1 z.2.2.1))
def vC{R:Type}(kx:Ln×Int->Option R)(a0:Int)(a1:Pt)(a2:Ln):Option R:=
 Option.bind (eX (IntKind.wrap .i64 (a0+(4:Int)))) fun y1021=>
 Option.bind (bj y1021) fun y1022=>
 Option.bind (de (IntKind.wrap .i64 (a2.1+(4:Int))) y1022) fun y1023=>
 Option.bind (de (IntKind.wrap .i64 (a2.1+(4:Int))) a1) fun y1024=>
 Option.bind (dn a2.2 y1024) fun y1025=>
 Option.bind (gv y1023) fun y1026=>
 cond y1026
 (Option.bind (gv y1025) fun y1027=>
  cond y1027
  (kx (((0:Int),((0:Int),((0:Int),(0:Int)))),(2:Int)))
  (kx (((0:Int),((0:Int),((0:Int),(0:Int)))),(0:Int))))
 (Option.bind (kd (IntKind.wrap .i64 (a0+(4:Int)))) fun y1028=>
  Option.bind (cM y1025 y1028) fun y1029=>
  Option.bind (jn y1029 y1023) fun y1030=>
  Option.bind (de (IntKind.wrap .i64 (a0+(4:Int))) a1) fun y1031=>
  Option.bind (kD y1030.1) fun y1032=>
  Option.bind (eV y1031 y1032) fun y1033=>
  kx ((a0,y1033),(1:Int)))
def kE(a0:Int)(a1:Pt)(a2:Ln):Option (Ln×Int):=vC some a0 a1 a2
theorem QX{R} kx a0 a1 a2: @vC R kx a0 a1 a2=(kE a0 a1 a2).bind kx:=by
 unfold kE vC
 exact ac fun _=>ac fun _=>ac fun _=>ac fun _=>ac fun _=>ac fun _=>ae (ac fun _=>ae rfl rfl) (ac fun _=>ac fun _=>ac fun _=>ac fun _=>ac fun _=>ac fun _=>rfl)
abbrev Eb:af:=.fx [.val false (.int .i64), .val true yP, .val true yL] (Ln×Int) (fun z=>kE z.1 z.2.1 z.2.2.1) (fun b=>(.tup [⟨true,[(.v (.int .i64 b.1.1)),(.v (.int .i64 b.1.2.1)),(.v (.int .i64 b.1.2.2.1)),(.v (.int .i64 b.1.2.2.2))]⟩,⟨false,[(.v (.int .i64 b.2))]⟩],[]))
theorem Jj:ag C0 265 Eb:=
 ag.fx (e:=false) (.cons rF (.cons fU (.cons rE (.cons pm (.cons Ce (.cons zG (.cons rD (.cons zD (.cons Cf (.cons mL (.nil))))))))))) mixed Tryz.func265 (by kernel_rfl) (by kernel_rfl) al 1 ai (fun z=>(by kernel_rfl:_=vC (fun b=>some (Eb.enc b)) z.1 z.2.1 z.2.2.1).trans (QX _ z.1 z.2.1 z.2.2.1))
def yT:List (FuncId×af):=[(120,sV),(121,uL),(140,Da),(256,vX),(265,Eb),(218,A5),(215,zl),(263,A6)]
abbrev fH:LS:=⟨[(false,[(.ptr 4 0)]),(false,[(.ptr 5 0)]),(false,[(.ptr 6 0)]),(false,[(.ptr 7 0)]),(false,[(.own yL)]),(false,[(.int .i64)])],[(false,[(.int .i64),(.int .i64),(.int .i64),(.int .i64),(.int .i64),(.int .i64)]),(false,[(.int .i64),(.int .i64),(.int .i64),(.int .i64)]),(false,[(.int .i64),(.int .i64),(.int .i64),(.int .i64),(.int .i64),(.int .i64)]),(false,[(.int .i64),(.int .i64),(.int .i64),(.int .i64)])],[]⟩
abbrev DS:LS:=⟨[(false,[(.own yL)])],[],[]⟩
abbrev DJ v0:=((((v0,()),()),(),()):DS.T)
abbrev gG:List (Ex×LS):=[(.exit 0,DS)]
abbrev bH x10(x11:Int)(b0_0:Int)(b0_1:Int)(b0_2:Int)(b0_3:Int)(b0_4:Int)(b0_5:Int)(b1_0:Int)(b1_1:Int)(b1_2:Int)(b1_3:Int)(b2_0:Int)(b2_1:Int)(b2_2:Int)(b2_3:Int)(b2_4:Int)(b2_5:Int)(b3_0:Int)(b3_1:Int)(b3_2:Int)(b3_3:Int):=(((((),()),((),()),((),()),((),()),(x10,()),(x11,()),()),((b0_0,b0_1,b0_2,b0_3,b0_4,b0_5,()),(b1_0,b1_1,b1_2,b1_3,()),(b2_0,b2_1,b2_2,b2_3,b2_4,b2_5,()),(b3_0,b3_1,b3_2,b3_3,()),()),()):fH.T)
def ki{R:Type}(nx:fH.T->Option R)(hx:mA R gG)(x10:List Ln)(x11:Int)(b0_0:Int)(b0_1:Int)(b0_2:Int)(b0_3:Int)(b0_4:Int)(b0_5:Int)(b1_0:Int)(b1_1:Int)(b1_2:Int)(b1_3:Int)(b2_0:Int)(b2_1:Int)(b2_2:Int)(b2_3:Int)(b2_4:Int)(b2_5:Int)(b3_0:Int)(b3_1:Int)(b3_2:Int)(b3_3:Int):Option R:=
 cond (decide (x11<(8:Int)))
 (Option.bind (bj ((b0_0,(b0_1,b0_2)),(b0_3,(b0_4,b0_5)))) fun y1016=>
  Option.bind (bR (b1_0,(b1_1,(b1_2,b1_3)))) fun y1017=>
  Option.bind (kE x11 y1016 y1017) fun y1034=>
  Option.bind (bj ((b2_0,(b2_1,b2_2)),(b2_3,(b2_4,b2_5)))) fun y1035=>
  Option.bind (bR (b3_0,(b3_1,(b3_2,b3_3)))) fun y1036=>
  Option.bind (kE x11 y1035 y1036) fun y1037=>
  cond (y1034.2==(1:Int))
  (cond (y1037.2==(2:Int))
   (cond (decide ((((List.length x10)+(List.length [y1034.1]))*32)<=70368744177664))
    (cond (decide (((List.length x10)+(List.length [y1034.1]))<=70368744177664))
     (nx (bH (x10++ [y1034.1]) (IntKind.wrap .i64 (x11+(1:Int))) b0_0 b0_1 b0_2 b0_3 b0_4 b0_5 b1_0 b1_1 b1_2 b1_3 b2_0 b2_1 b2_2 b2_3 b2_4 b2_5 b3_0 b3_1 b3_2 b3_3))
     none)
    none)
   (cond (y1034.2==(2:Int))
    (cond (y1037.2==(1:Int))
     (cond (decide ((((List.length x10)+(List.length [y1037.1]))*32)<=70368744177664))
      (cond (decide (((List.length x10)+(List.length [y1037.1]))<=70368744177664))
       (nx (bH (x10++ [y1037.1]) (IntKind.wrap .i64 (x11+(1:Int))) b0_0 b0_1 b0_2 b0_3 b0_4 b0_5 b1_0 b1_1 b1_2 b1_3 b2_0 b2_1 b2_2 b2_3 b2_4 b2_5 b3_0 b3_1 b3_2 b3_3))
       none)
      none)
     (cond (y1034.2==(1:Int))
      (cond (y1037.2==(1:Int))
       (Option.bind (dn y1034.1.2 y1037.1.2) fun y1038=>
        Option.bind (gv y1038) fun y1039=>
        cond y1039
        (cond (decide ((((List.length x10)+(List.length [y1034.1]))*32)<=70368744177664))
         (cond (decide (((List.length x10)+(List.length [y1034.1]))<=70368744177664))
          (nx (bH (x10++ [y1034.1]) (IntKind.wrap .i64 (x11+(1:Int))) b0_0 b0_1 b0_2 b0_3 b0_4 b0_5 b1_0 b1_1 b1_2 b1_3 b2_0 b2_1 b2_2 b2_3 b2_4 b2_5 b3_0 b3_1 b3_2 b3_3))
          none)
         none)
        (nx (bH x10 (IntKind.wrap .i64 (x11+(1:Int))) b0_0 b0_1 b0_2 b0_3 b0_4 b0_5 b1_0 b1_1 b1_2 b1_3 b2_0 b2_1 b2_2 b2_3 b2_4 b2_5 b3_0 b3_1 b3_2 b3_3)))
       (nx (bH x10 (IntKind.wrap .i64 (x11+(1:Int))) b0_0 b0_1 b0_2 b0_3 b0_4 b0_5 b1_0 b1_1 b1_2 b1_3 b2_0 b2_1 b2_2 b2_3 b2_4 b2_5 b3_0 b3_1 b3_2 b3_3)))
      (nx (bH x10 (IntKind.wrap .i64 (x11+(1:Int))) b0_0 b0_1 b0_2 b0_3 b0_4 b0_5 b1_0 b1_1 b1_2 b1_3 b2_0 b2_1 b2_2 b2_3 b2_4 b2_5 b3_0 b3_1 b3_2 b3_3))))
    (cond (y1034.2==(1:Int))
     (cond (y1037.2==(1:Int))
      (Option.bind (dn y1034.1.2 y1037.1.2) fun y1040=>
       Option.bind (gv y1040) fun y1041=>
       cond y1041
       (cond (decide ((((List.length x10)+(List.length [y1034.1]))*32)<=70368744177664))
        (cond (decide (((List.length x10)+(List.length [y1034.1]))<=70368744177664))
         (nx (bH (x10++ [y1034.1]) (IntKind.wrap .i64 (x11+(1:Int))) b0_0 b0_1 b0_2 b0_3 b0_4 b0_5 b1_0 b1_1 b1_2 b1_3 b2_0 b2_1 b2_2 b2_3 b2_4 b2_5 b3_0 b3_1 b3_2 b3_3))
         none)
        none)
       (nx (bH x10 (IntKind.wrap .i64 (x11+(1:Int))) b0_0 b0_1 b0_2 b0_3 b0_4 b0_5 b1_0 b1_1 b1_2 b1_3 b2_0 b2_1 b2_2 b2_3 b2_4 b2_5 b3_0 b3_1 b3_2 b3_3)))
      (nx (bH x10 (IntKind.wrap .i64 (x11+(1:Int))) b0_0 b0_1 b0_2 b0_3 b0_4 b0_5 b1_0 b1_1 b1_2 b1_3 b2_0 b2_1 b2_2 b2_3 b2_4 b2_5 b3_0 b3_1 b3_2 b3_3)))
     (nx (bH x10 (IntKind.wrap .i64 (x11+(1:Int))) b0_0 b0_1 b0_2 b0_3 b0_4 b0_5 b1_0 b1_1 b1_2 b1_3 b2_0 b2_1 b2_2 b2_3 b2_4 b2_5 b3_0 b3_1 b3_2 b3_3)))))
  (cond (y1034.2==(2:Int))
   (cond (y1037.2==(1:Int))
    (cond (decide ((((List.length x10)+(List.length [y1037.1]))*32)<=70368744177664))
     (cond (decide (((List.length x10)+(List.length [y1037.1]))<=70368744177664))
      (nx (bH (x10++ [y1037.1]) (IntKind.wrap .i64 (x11+(1:Int))) b0_0 b0_1 b0_2 b0_3 b0_4 b0_5 b1_0 b1_1 b1_2 b1_3 b2_0 b2_1 b2_2 b2_3 b2_4 b2_5 b3_0 b3_1 b3_2 b3_3))
      none)
     none)
    (cond (y1034.2==(1:Int))
     (cond (y1037.2==(1:Int))
      (Option.bind (dn y1034.1.2 y1037.1.2) fun y1042=>
       Option.bind (gv y1042) fun y1043=>
       cond y1043
       (cond (decide ((((List.length x10)+(List.length [y1034.1]))*32)<=70368744177664))
        (cond (decide (((List.length x10)+(List.length [y1034.1]))<=70368744177664))
         (nx (bH (x10++ [y1034.1]) (IntKind.wrap .i64 (x11+(1:Int))) b0_0 b0_1 b0_2 b0_3 b0_4 b0_5 b1_0 b1_1 b1_2 b1_3 b2_0 b2_1 b2_2 b2_3 b2_4 b2_5 b3_0 b3_1 b3_2 b3_3))
         none)
        none)
       (nx (bH x10 (IntKind.wrap .i64 (x11+(1:Int))) b0_0 b0_1 b0_2 b0_3 b0_4 b0_5 b1_0 b1_1 b1_2 b1_3 b2_0 b2_1 b2_2 b2_3 b2_4 b2_5 b3_0 b3_1 b3_2 b3_3)))
      (nx (bH x10 (IntKind.wrap .i64 (x11+(1:Int))) b0_0 b0_1 b0_2 b0_3 b0_4 b0_5 b1_0 b1_1 b1_2 b1_3 b2_0 b2_1 b2_2 b2_3 b2_4 b2_5 b3_0 b3_1 b3_2 b3_3)))
     (nx (bH x10 (IntKind.wrap .i64 (x11+(1:Int))) b0_0 b0_1 b0_2 b0_3 b0_4 b0_5 b1_0 b1_1 b1_2 b1_3 b2_0 b2_1 b2_2 b2_3 b2_4 b2_5 b3_0 b3_1 b3_2 b3_3))))
   (cond (y1034.2==(1:Int))
    (cond (y1037.2==(1:Int))
     (Option.bind (dn y1034.1.2 y1037.1.2) fun y1044=>
      Option.bind (gv y1044) fun y1045=>
      cond y1045
      (cond (decide ((((List.length x10)+(List.length [y1034.1]))*32)<=70368744177664))
       (cond (decide (((List.length x10)+(List.length [y1034.1]))<=70368744177664))
        (nx (bH (x10++ [y1034.1]) (IntKind.wrap .i64 (x11+(1:Int))) b0_0 b0_1 b0_2 b0_3 b0_4 b0_5 b1_0 b1_1 b1_2 b1_3 b2_0 b2_1 b2_2 b2_3 b2_4 b2_5 b3_0 b3_1 b3_2 b3_3))
        none)
       none)
      (nx (bH x10 (IntKind.wrap .i64 (x11+(1:Int))) b0_0 b0_1 b0_2 b0_3 b0_4 b0_5 b1_0 b1_1 b1_2 b1_3 b2_0 b2_1 b2_2 b2_3 b2_4 b2_5 b3_0 b3_1 b3_2 b3_3)))
     (nx (bH x10 (IntKind.wrap .i64 (x11+(1:Int))) b0_0 b0_1 b0_2 b0_3 b0_4 b0_5 b1_0 b1_1 b1_2 b1_3 b2_0 b2_1 b2_2 b2_3 b2_4 b2_5 b3_0 b3_1 b3_2 b3_3)))
    (nx (bH x10 (IntKind.wrap .i64 (x11+(1:Int))) b0_0 b0_1 b0_2 b0_3 b0_4 b0_5 b1_0 b1_1 b1_2 b1_3 b2_0 b2_1 b2_2 b2_3 b2_4 b2_5 b3_0 b3_1 b3_2 b3_3)))))
 (hx.1 (DJ x10))
def AH{R:Type}(nx:fH.T->Option R)(hx:mA R gG)(z:fH.T):Option R:=ki nx hx z.1.2.2.2.2.1.1 z.1.2.2.2.2.2.1.1 z.2.1.1.1 z.2.1.1.2.1 z.2.1.1.2.2.1 z.2.1.1.2.2.2.1 z.2.1.1.2.2.2.2.1 z.2.1.1.2.2.2.2.2.1 z.2.1.2.1.1 z.2.1.2.1.2.1 z.2.1.2.1.2.2.1 z.2.1.2.1.2.2.2.1 z.2.1.2.2.1.1 z.2.1.2.2.1.2.1 z.2.1.2.2.1.2.2.1 z.2.1.2.2.1.2.2.2.1 z.2.1.2.2.1.2.2.2.2.1 z.2.1.2.2.1.2.2.2.2.2.1 z.2.1.2.2.2.1.1 z.2.1.2.2.2.1.2.1 z.2.1.2.2.2.1.2.2.1 z.2.1.2.2.2.1.2.2.2.1
theorem Ep:cK @AH:=fun R nx hx z=>by
 show ki nx hx z.1.2.2.2.2.1.1 z.1.2.2.2.2.2.1.1 z.2.1.1.1 z.2.1.1.2.1 z.2.1.1.2.2.1 z.2.1.1.2.2.2.1 z.2.1.1.2.2.2.2.1 z.2.1.1.2.2.2.2.2.1 z.2.1.2.1.1 z.2.1.2.1.2.1 z.2.1.2.1.2.2.1 z.2.1.2.1.2.2.2.1 z.2.1.2.2.1.1 z.2.1.2.2.1.2.1 z.2.1.2.2.1.2.2.1 z.2.1.2.2.1.2.2.2.1 z.2.1.2.2.1.2.2.2.2.1 z.2.1.2.2.1.2.2.2.2.2.1 z.2.1.2.2.2.1.1 z.2.1.2.2.2.1.2.1 z.2.1.2.2.2.1.2.2.1 z.2.1.2.2.2.1.2.2.2.1=(ki (fun y=>some (.inl y)) (oI gG fun x=>some (.inr x)) z.1.2.2.2.2.1.1 z.1.2.2.2.2.2.1.1 z.2.1.1.1 z.2.1.1.2.1 z.2.1.1.2.2.1 z.2.1.1.2.2.2.1 z.2.1.1.2.2.2.2.1 z.2.1.1.2.2.2.2.2.1 z.2.1.2.1.1 z.2.1.2.1.2.1 z.2.1.2.1.2.2.1 z.2.1.2.1.2.2.2.1 z.2.1.2.2.1.1 z.2.1.2.2.1.2.1 z.2.1.2.2.1.2.2.1 z.2.1.2.2.1.2.2.2.1 z.2.1.2.2.1.2.2.2.2.1 z.2.1.2.2.1.2.2.2.2.2.1 z.2.1.2.2.2.1.1 z.2.1.2.2.2.1.2.1 z.2.1.2.2.2.1.2.2.1 z.2.1.2.2.2.1.2.2.2.1).bind (oH nx hx)
 unfold ki
 exact ae (ac fun _=>ac fun _=>ac fun _=>ac fun _=>ac fun _=>ac fun _=>ae (ae (ae (ae rfl rfl) rfl) (ae (ae (ae (ae rfl rfl) rfl) (ae (ae (ac fun _=>ac fun _=>ae (ae (ae rfl rfl) rfl) rfl) rfl) rfl)) (ae (ae (ac fun _=>ac fun _=>ae (ae (ae rfl rfl) rfl) rfl) rfl) rfl))) (ae (ae (ae (ae rfl rfl) rfl) (ae (ae (ac fun _=>ac fun _=>ae (ae (ae rfl rfl) rfl) rfl) rfl) rfl)) (ae (ae (ac fun _=>ac fun _=>ae (ae (ae rfl rfl) rfl) rfl) rfl) rfl))) rfl
def oP:fH.T->Option (yH gG):=BU @AH
theorem Ge x10 x11 b0_0 b0_1 b0_2 b0_3 b0_4 b0_5 b1_0 b1_1 b1_2 b1_3 b2_0 b2_1 b2_2 b2_3 b2_4 b2_5 b3_0 b3_1 b3_2 b3_3:oP (bH x10 x11 b0_0 b0_1 b0_2 b0_3 b0_4 b0_5 b1_0 b1_1 b1_2 b1_3 b2_0 b2_1 b2_2 b2_3 b2_4 b2_5 b3_0 b3_1 b3_2 b3_3)=ki oP (oI gG some) x10 x11 b0_0 b0_1 b0_2 b0_3 b0_4 b0_5 b1_0 b1_1 b1_2 b1_3 b2_0 b2_1 b2_2 b2_3 b2_4 b2_5 b3_0 b3_1 b3_2 b3_3:=dR Ep _
def ug:bN:=⟨[4,5,6,7,10,11],[4,5,6,7],[10],[]⟩
def ze:fq Rv:=⟨fun k=>match k with|6=>ug|_=>⟨[],[],[],[]⟩,fun k=>match k with|6=>some (ce fH gG oP)|_=>none⟩
theorem PX(n:Nat)(z:fH.T)(k:Ex->iV->Option Rv):bJ ⟨102,102⟩ ug (mU (gN C0 yT) ⟨102,102⟩ ze 1 (aG Tryz.f205 5)) (n+1) (fH.enc z) k=
 AH (fun y=>bJ ⟨102,102⟩ ug (mU (gN C0 yT) ⟨102,102⟩ ze 1 (aG Tryz.f205 5)) n (fH.enc y) k) (hK k gG) z:=by kernel_rfl
theorem Ss:ak (gN C0 yT) ⟨102,102⟩ ze 1 (ca (aX Tryz.f205)):=by
 have hl:ca (aX Tryz.f205)=[aG Tryz.f205 5]:=by kernel_rfl
 rw[hl]
 exact ak.cons (n:=6) (lh:=ug) (S:=ce fH gG oP) (by kernel_rfl) rfl rfl (cl Ep PX)
  (ak.nil)
def vo{R:Type}(kx:(List Ln)×Int->Option R)(a0:Pt)(a1:Ln)(a2:Pt)(a3:Ln):Option R:=
 Option.bind (bh a0) fun y990=>
 cond (!y990)
 (kx ([],(1:Int)))
 (Option.bind (bG a1) fun y991=>
  cond (!y991)
  (kx ([],(1:Int)))
  (Option.bind (bh a2) fun y992=>
   cond (!y992)
   (kx ([],(1:Int)))
   (Option.bind (bG a3) fun y993=>
    cond (!y993)
    (kx ([],(1:Int)))
    (Option.bind (oP (bH [] (0:Int) a0.1.1 a0.1.2.1 a0.1.2.2 a0.2.1 a0.2.2.1 a0.2.2.2 a1.1 a1.2.1 a1.2.2.1 a1.2.2.2 a2.1.1 a2.1.2.1 a2.1.2.2 a2.2.1 a2.2.2.1 a2.2.2.2 a3.1 a3.2.1 a3.2.2.1 a3.2.2.2)) (qi gG
     (fun e1046=>
      Option.bind (fN (e1046.1.1.1:List Ln)) fun y1048=>
      kx y1048,()))))))
def oZ(a0:Pt)(a1:Ln)(a2:Pt)(a3:Ln):Option ((List Ln)×Int):=vo some a0 a1 a2 a3
theorem QN{R} kx a0 a1 a2 a3: @vo R kx a0 a1 a2 a3=(oZ a0 a1 a2 a3).bind kx:=by
 unfold oZ vo
 exact ac fun _=>ae rfl (ac fun _=>ae rfl (ac fun _=>ae rfl (ac fun _=>ae rfl (cq ⟨fun _=>ac fun _=>rfl,trivial⟩))))
abbrev Ke:af:=.fx [.val true yP, .val true yL, .val true yP, .val true yL] ((List Ln)×Int) (fun z=>oZ z.1 z.2.1 z.2.2.1 z.2.2.2.1) (fun b=>(.tup [⟨false,[(.own yL b.1)]⟩,⟨false,[(.v (.int .i64 b.2))]⟩],[]))
theorem Tf:ag C0 205 Ke:=
 ag.fx (e:=false) (t:=yT) (.cons fI (.cons iF (.cons fU (.cons kJ (.cons Jj (.cons pm (.cons Ce (.cons EH (.nil))))))))) mixed Tryz.func205 (by kernel_rfl) (by kernel_rfl) ze 1 Ss (fun z=>(by kernel_rfl:_=vo (fun b=>some (Ke.enc b)) z.1 z.2.1 z.2.2.1 z.2.2.2.1).trans (QN _ z.1 z.2.1 z.2.2.1 z.2.2.2.1))
def qy{R:Type}(kx:Ln×Int->Option R)(a0:Pt)(a1:Ln)(a2:Ln):Option R:=
 Option.bind (bh a0) fun y1057=>
 cond (!y1057)
 (kx (((0:Int),((0:Int),((0:Int),(0:Int)))),(1:Int)))
 (Option.bind (bG a1) fun y1058=>
  cond (!y1058)
  (kx (((0:Int),((0:Int),((0:Int),(0:Int)))),(1:Int)))
  (Option.bind (bG a2) fun y1059=>
   cond (!y1059)
   (kx (((0:Int),((0:Int),((0:Int),(0:Int)))),(1:Int)))
   (cond (a1.1==a2.1)
    (kx (((0:Int),((0:Int),((0:Int),(0:Int)))),(7:Int)))
    (Option.bind (bj a0) fun y1060=>
     Option.bind (bR a1) fun y1061=>
     Option.bind (kE (Int.tmod (IntKind.wrap .i64 (a2.1+(4:Int))) (8:Int)) y1060 y1061) fun y1062=>
     Option.bind (ov y1062.1) fun y1063=>
     kx y1063))))
def kC(a0:Pt)(a1:Ln)(a2:Ln):Option (Ln×Int):=qy some a0 a1 a2
theorem LW{R} kx a0 a1 a2: @qy R kx a0 a1 a2=(kC a0 a1 a2).bind kx:=by
 unfold kC qy
 exact ac fun _=>ae rfl (ac fun _=>ae rfl (ac fun _=>ae rfl (ae rfl (ac fun _=>ac fun _=>ac fun _=>ac fun _=>rfl))))
abbrev FF:af:=.fx [.val true yP, .val true yL, .val true yL] (Ln×Int) (fun z=>kC z.1 z.2.1 z.2.2.1) (fun b=>(.tup [⟨true,[(.v (.int .i64 b.1.1)),(.v (.int .i64 b.1.2.1)),(.v (.int .i64 b.1.2.2.1)),(.v (.int .i64 b.1.2.2.2))]⟩,⟨false,[(.v (.int .i64 b.2))]⟩],[]))
theorem NZ:ag C0 206 FF:=
 ag.fx (e:=false) (.cons fI (.cons iF (.cons fU (.cons kJ (.cons Jj (.cons EI (.nil))))))) mixed Tryz.func206 (by kernel_rfl) (by kernel_rfl) al 1 ai (fun z=>(by kernel_rfl:_=qy (fun b=>some (FF.enc b)) z.1 z.2.1 z.2.2.1).trans (LW _ z.1 z.2.1 z.2.2.1))
def zW{R:Type}(kx:It×Int->Option R)(a0:Cn)(a1:(List It)):Option R:=
 cond (a0.2.1==(1:Int))
 (Option.bind (dw a0.2.2.2.2.1 (0:Int)) fun y548=>
  kx y548)
 (cond (a0.2.1==(2:Int))
  (Option.bind (cE a0.2.2.2.2.2 (0:Int)) fun y551=>
   kx y551)
  (cond (a0.2.1==(3:Int))
   (Option.bind (gq a1 (0:Int)) fun y552=>
    Option.bind (gq a1 (1:Int)) fun y553=>
    Option.bind (ma y552.2.2.2 y553.2.2.2) fun y703=>
    Option.bind (dw y703.1 y703.2) fun y704=>
    kx y704)
   (cond (a0.2.1==(4:Int))
    (Option.bind (gq a1 (0:Int)) fun y705=>
     Option.bind (gq a1 (1:Int)) fun y706=>
     Option.bind (nA y705.2.2.1 y706.2.2.1) fun y718=>
     Option.bind (jp y718.2) fun y720=>
     Option.bind (dw y718.1 y720) fun y721=>
     kx y721)
    (cond (a0.2.1==(5:Int))
     (Option.bind (gq a1 (1:Int)) fun y722=>
      cond y722.2.1
      (Option.bind (gq a1 (0:Int)) fun y723=>
       Option.bind (gq a1 (1:Int)) fun y724=>
       Option.bind (jK y723.2.2.2 y724.2.2.2) fun y775=>
       Option.bind (jp y775.2) fun y776=>
       Option.bind (cE y775.1 y776) fun y777=>
       kx y777)
      (Option.bind (gq a1 (0:Int)) fun y778=>
       Option.bind (gq a1 (1:Int)) fun y779=>
       Option.bind (iZ y778.2.2.2 y779.2.2.1) fun y788=>
       Option.bind (jp y788.2) fun y789=>
       Option.bind (dw y788.1 y789) fun y790=>
       kx y790))
     (cond (a0.2.1==(6:Int))
      (Option.bind (gq a1 (0:Int)) fun y791=>
       Option.bind (gq a1 (1:Int)) fun y792=>
       Option.bind (lY y791.2.2.1 y792.2.2.1) fun y842=>
       Option.bind (cE y842.1 y842.2) fun y843=>
       kx y843)
      (cond (a0.2.1==(7:Int))
       (Option.bind (gq a1 (0:Int)) fun y844=>
        Option.bind (gq a1 (1:Int)) fun y845=>
        Option.bind (nz y844.2.2.1 y845.2.2.1) fun y865=>
        Option.bind (cE y865.1 y865.2) fun y866=>
        kx y866)
       (cond (a0.2.1==(8:Int))
        (Option.bind (gq a1 (0:Int)) fun y867=>
         Option.bind (gq a1 (1:Int)) fun y868=>
         Option.bind (lX y867.2.2.2 y868.2.2.2) fun y917=>
         Option.bind (gw y917.1 y917.2 a0.2.2.2.1) fun y923=>
         kx y923)
        (cond (a0.2.1==(9:Int))
         (Option.bind (gq a1 (0:Int)) fun y924=>
          Option.bind (gq a1 (1:Int)) fun y925=>
          Option.bind (eU y924.2.2.2 y925.2.2.1) fun y933=>
          Option.bind (cE y933.1 y933.2) fun y934=>
          kx y934)
         (cond (a0.2.1==(10:Int))
          (Option.bind (gq a1 (0:Int)) fun y935=>
           Option.bind (gq a1 (1:Int)) fun y936=>
           Option.bind (gq a1 (2:Int)) fun y937=>
           Option.bind (ij y935.2.2.1 y936.2.2.2 y937.2.2.1) fun y980=>
           Option.bind (gw y980.1 y980.2 a0.2.2.2.1) fun y981=>
           kx y981)
          (cond (a0.2.1==(11:Int))
           (Option.bind (gq a1 (0:Int)) fun y982=>
            Option.bind (gq a1 (1:Int)) fun y983=>
            Option.bind (gq a1 (2:Int)) fun y984=>
            Option.bind (gq a1 (3:Int)) fun y985=>
            Option.bind (oZ y982.2.2.1 y983.2.2.2 y984.2.2.1 y985.2.2.2) fun y1049=>
            Option.bind (gw y1049.1 y1049.2 a0.2.2.2.1) fun y1050=>
            kx y1050)
           (Option.bind (gq a1 (0:Int)) fun y1051=>
            Option.bind (gq a1 (1:Int)) fun y1052=>
            Option.bind (gq a1 (2:Int)) fun y1053=>
            Option.bind (kC y1051.2.2.1 y1052.2.2.2 y1053.2.2.2) fun y1064=>
            Option.bind (cE y1064.1 y1064.2) fun y1065=>
            kx y1065)))))))))))
def cQ(a0:Cn)(a1:(List It)):Option (It×Int):=zW some a0 a1
theorem Q1{R} kx a0 a1: @zW R kx a0 a1=(cQ a0 a1).bind kx:=by
 unfold cQ zW
 exact ae (ac fun _=>rfl) (ae (ac fun _=>rfl) (ae (ac fun _=>ac fun _=>ac fun _=>ac fun _=>rfl) (ae (ac fun _=>ac fun _=>ac fun _=>ac fun _=>ac fun _=>rfl) (ae (ac fun _=>ae (ac fun _=>ac fun _=>ac fun _=>ac fun _=>ac fun _=>rfl) (ac fun _=>ac fun _=>ac fun _=>ac fun _=>ac fun _=>rfl)) (ae (ac fun _=>ac fun _=>ac fun _=>ac fun _=>rfl) (ae (ac fun _=>ac fun _=>ac fun _=>ac fun _=>rfl) (ae (ac fun _=>ac fun _=>ac fun _=>ac fun _=>rfl) (ae (ac fun _=>ac fun _=>ac fun _=>ac fun _=>rfl) (ae (ac fun _=>ac fun _=>ac fun _=>ac fun _=>ac fun _=>rfl) (ae (ac fun _=>ac fun _=>ac fun _=>ac fun _=>ac fun _=>ac fun _=>rfl) (ac fun _=>ac fun _=>ac fun _=>ac fun _=>ac fun _=>rfl)))))))))))
abbrev Ee:af:=.fx [.ptr yC, .val false (.slice yI)] (It×Int) (fun z=>cQ z.1 z.2.1) (fun b=>(.tup [⟨true,[(.v (.string b.1.1)),(.v (.bool b.1.2.1)),(.v (.int .i64 b.1.2.2.1.1.1)),(.v (.int .i64 b.1.2.2.1.1.2.1)),(.v (.int .i64 b.1.2.2.1.1.2.2)),(.v (.int .i64 b.1.2.2.1.2.1)),(.v (.int .i64 b.1.2.2.1.2.2.1)),(.v (.int .i64 b.1.2.2.1.2.2.2)),(.v (.int .i64 b.1.2.2.2.1)),(.v (.int .i64 b.1.2.2.2.2.1)),(.v (.int .i64 b.1.2.2.2.2.2.1)),(.v (.int .i64 b.1.2.2.2.2.2.2))]⟩,⟨false,[(.v (.int .i64 b.2))]⟩],[]))
theorem Tm:ag C0 124 Ee:=
 ag.fx (e:=false) (.cons Mf (.cons N2 (.cons PM (.cons Re (.cons Tk (.cons Me (.cons KY (.cons Mc (.cons Rd (.cons PL (.cons Rg (.cons EZ (.cons JH (.cons Tf (.cons NZ (.nil)))))))))))))))) mixed Tryz.func124 (by kernel_rfl) (by kernel_rfl) al 1 ai (fun z=>(by kernel_rfl:_=zW (fun b=>some (Ee.enc b)) z.1 z.2.1).trans (Q1 _ z.1 z.2.1))
def vN:List (FuncId×af):=[(122,Iv),(123,B7),(124,Ee)]
abbrev jv:LS:=⟨[(false,[(.sl yI)]),(false,[(.ptr 107 0)]),(false,[(.own yI)]),(false,[(.int .i64)])],[(true,[.str,(.int .i64),(.sl .str),(.int .i64),(.int .i64),(.int .i64),(.int .i64),(.int .i64),(.int .i64),(.int .i64),(.int .i64),(.int .i64),(.int .i64),(.int .i64)])],[]⟩
abbrev GV:LS:=⟨[(false,[(.sl yI)]),(false,[(.ptr 107 0)]),(false,[(.own yI)]),(false,[(.int .i64)]),(false,[(.own yI)])],[(true,[.str,(.int .i64),(.sl .str),(.int .i64),(.int .i64),(.int .i64),(.int .i64),(.int .i64),(.int .i64),(.int .i64),(.int .i64),(.int .i64),(.int .i64),(.int .i64)])],[]⟩
abbrev GN v0 v1(v2:Int) v3(v4:ByteArray)(v5:Int)(v6:List ByteArray)(v7:Int)(v8:Int)(v9:Int)(v10:Int)(v11:Int)(v12:Int)(v13:Int)(v14:Int)(v15:Int)(v16:Int)(v17:Int):=((((v0,()),((),()),(v1,()),(v2,()),(v3,()),()),((v4,v5,v6,v7,v8,v9,v10,v11,v12,v13,v14,v15,v16,v17,()),()),()):GV.T)
abbrev GW:LS:=⟨[(false,[(.sl yI)]),(false,[(.ptr 107 0)]),(false,[.undef]),(false,[.undef]),(false,[(.own yI)])],[(true,[.str,(.int .i64),(.sl .str),(.int .i64),(.int .i64),(.int .i64),(.int .i64),(.int .i64),(.int .i64),(.int .i64),(.int .i64),(.int .i64),(.int .i64),(.int .i64)])],[]⟩
abbrev GO v0 v1(v2:ByteArray)(v3:Int)(v4:List ByteArray)(v5:Int)(v6:Int)(v7:Int)(v8:Int)(v9:Int)(v10:Int)(v11:Int)(v12:Int)(v13:Int)(v14:Int)(v15:Int):=((((v0,()),((),()),((),()),((),()),(v1,()),()),((v2,v3,v4,v5,v6,v7,v8,v9,v10,v11,v12,v13,v14,v15,()),()),()):GW.T)
abbrev kW:List (Ex×LS):=[(.ret,GV),(.exit 0,GW)]
abbrev pj x0 x6(x7:Int)(b0_0:ByteArray)(b0_1:Int)(b0_2:List ByteArray)(b0_3:Int)(b0_4:Int)(b0_5:Int)(b0_6:Int)(b0_7:Int)(b0_8:Int)(b0_9:Int)(b0_10:Int)(b0_11:Int)(b0_12:Int)(b0_13:Int):=((((x0,()),((),()),(x6,()),(x7,()),()),((b0_0,b0_1,b0_2,b0_3,b0_4,b0_5,b0_6,b0_7,b0_8,b0_9,b0_10,b0_11,b0_12,b0_13,()),()),()):jv.T)
def pH{R:Type}(nx:jv.T->Option R)(hx:mA R kW)(x0:List It)(x6:List It)(x7:Int)(b0_0:ByteArray)(b0_1:Int)(b0_2:List ByteArray)(b0_3:Int)(b0_4:Int)(b0_5:Int)(b0_6:Int)(b0_7:Int)(b0_8:Int)(b0_9:Int)(b0_10:Int)(b0_11:Int)(b0_12:Int)(b0_13:Int):Option R:=
 cond (decide (x7<((List.length b0_2:Nat):Int)))
 (Option.bind (gq b0_2 x7) fun y446=>
  Option.bind (sy x0 y446) fun y447=>
  cond (decide (y447<(0:Int)))
  (hx.1 (GN x0 [] (3:Int) x6 b0_0 b0_1 b0_2 b0_3 b0_4 b0_5 b0_6 b0_7 b0_8 b0_9 b0_10 b0_11 b0_12 b0_13))
  (Option.bind (gq x0 y447) fun y448=>
   cond (decide ((((List.length x6)+(List.length [y448]))*104)<=70368744177664))
   (cond (decide (((List.length x6)+(List.length [y448]))<=70368744177664))
    (nx (pj x0 (x6++ [y448]) (IntKind.wrap .i64 (x7+(1:Int))) b0_0 b0_1 b0_2 b0_3 b0_4 b0_5 b0_6 b0_7 b0_8 b0_9 b0_10 b0_11 b0_12 b0_13))
    none)
   none))
 (hx.2.1 (GO x0 x6 b0_0 b0_1 b0_2 b0_3 b0_4 b0_5 b0_6 b0_7 b0_8 b0_9 b0_10 b0_11 b0_12 b0_13))
def EM{R:Type}(nx:jv.T->Option R)(hx:mA R kW)(z:jv.T):Option R:=pH nx hx z.1.1.1 z.1.2.2.1.1 z.1.2.2.2.1.1 z.2.1.1.1 z.2.1.1.2.1 z.2.1.1.2.2.1 z.2.1.1.2.2.2.1 z.2.1.1.2.2.2.2.1 z.2.1.1.2.2.2.2.2.1 z.2.1.1.2.2.2.2.2.2.1 z.2.1.1.2.2.2.2.2.2.2.1 z.2.1.1.2.2.2.2.2.2.2.2.1 z.2.1.1.2.2.2.2.2.2.2.2.2.1 z.2.1.1.2.2.2.2.2.2.2.2.2.2.1 z.2.1.1.2.2.2.2.2.2.2.2.2.2.2.1 z.2.1.1.2.2.2.2.2.2.2.2.2.2.2.2.1 z.2.1.1.2.2.2.2.2.2.2.2.2.2.2.2.2.1
theorem HG:cK @EM:=fun R nx hx z=>by
 show pH nx hx z.1.1.1 z.1.2.2.1.1 z.1.2.2.2.1.1 z.2.1.1.1 z.2.1.1.2.1 z.2.1.1.2.2.1 z.2.1.1.2.2.2.1 z.2.1.1.2.2.2.2.1 z.2.1.1.2.2.2.2.2.1 z.2.1.1.2.2.2.2.2.2.1 z.2.1.1.2.2.2.2.2.2.2.1 z.2.1.1.2.2.2.2.2.2.2.2.1 z.2.1.1.2.2.2.2.2.2.2.2.2.1 z.2.1.1.2.2.2.2.2.2.2.2.2.2.1 z.2.1.1.2.2.2.2.2.2.2.2.2.2.2.1 z.2.1.1.2.2.2.2.2.2.2.2.2.2.2.2.1 z.2.1.1.2.2.2.2.2.2.2.2.2.2.2.2.2.1=(pH (fun y=>some (.inl y)) (oI kW fun x=>some (.inr x)) z.1.1.1 z.1.2.2.1.1 z.1.2.2.2.1.1 z.2.1.1.1 z.2.1.1.2.1 z.2.1.1.2.2.1 z.2.1.1.2.2.2.1 z.2.1.1.2.2.2.2.1 z.2.1.1.2.2.2.2.2.1 z.2.1.1.2.2.2.2.2.2.1 z.2.1.1.2.2.2.2.2.2.2.1 z.2.1.1.2.2.2.2.2.2.2.2.1 z.2.1.1.2.2.2.2.2.2.2.2.2.1 z.2.1.1.2.2.2.2.2.2.2.2.2.2.1 z.2.1.1.2.2.2.2.2.2.2.2.2.2.2.1 z.2.1.1.2.2.2.2.2.2.2.2.2.2.2.2.1 z.2.1.1.2.2.2.2.2.2.2.2.2.2.2.2.2.1).bind (oH nx hx)
 unfold pH
 exact ae (ac fun _=>ac fun _=>ae rfl (ac fun _=>ae (ae rfl rfl) rfl)) rfl
def kS:jv.T->Option (yH kW):=BU @EM
theorem Jn x0 x6 x7 b0_0 b0_1 b0_2 b0_3 b0_4 b0_5 b0_6 b0_7 b0_8 b0_9 b0_10 b0_11 b0_12 b0_13:kS (pj x0 x6 x7 b0_0 b0_1 b0_2 b0_3 b0_4 b0_5 b0_6 b0_7 b0_8 b0_9 b0_10 b0_11 b0_12 b0_13)=pH kS (oI kW some) x0 x6 x7 b0_0 b0_1 b0_2 b0_3 b0_4 b0_5 b0_6 b0_7 b0_8 b0_9 b0_10 b0_11 b0_12 b0_13:=dR HG _
def xD:bN:=⟨[0,1,6,7],[107],[0,1,4,5,6],[107]⟩
abbrev iE:LS:=⟨[(false,[(.sl yI)]),(false,[(.ptr 107 0)]),(false,[(.own yI)]),(false,[(.int .i64)])],[(true,[.str,(.int .i64),(.sl .str),(.int .i64),(.int .i64),(.int .i64),(.int .i64),(.int .i64),(.int .i64),(.int .i64),(.int .i64),(.int .i64),(.int .i64),(.int .i64)])],[]⟩
abbrev Fm:LS:=⟨[(false,[(.sl yI)]),(false,[(.ptr 107 0)]),(false,[(.own yI)]),(false,[(.int .i64)]),(false,[(.own yI)])],[(true,[.str,(.int .i64),(.sl .str),(.int .i64),(.int .i64),(.int .i64),(.int .i64),(.int .i64),(.int .i64),(.int .i64),(.int .i64),(.int .i64),(.int .i64),(.int .i64)])],[]⟩
abbrev qh v0 v1(v2:Int) v3(v4:ByteArray)(v5:Int)(v6:List ByteArray)(v7:Int)(v8:Int)(v9:Int)(v10:Int)(v11:Int)(v12:Int)(v13:Int)(v14:Int)(v15:Int)(v16:Int)(v17:Int):=((((v0,()),((),()),(v1,()),(v2,()),(v3,()),()),((v4,v5,v6,v7,v8,v9,v10,v11,v12,v13,v14,v15,v16,v17,()),()),()):Fm.T)
abbrev Fo:LS:=⟨[(false,[(.sl yI)]),(false,[(.ptr 107 0)]),(false,[.undef]),(false,[.undef]),(false,[(.own yI)])],[(true,[.str,(.int .i64),(.sl .str),(.int .i64),(.int .i64),(.int .i64),(.int .i64),(.int .i64),(.int .i64),(.int .i64),(.int .i64),(.int .i64),(.int .i64),(.int .i64)])],[]⟩
abbrev yW v0 v1(v2:ByteArray)(v3:Int)(v4:List ByteArray)(v5:Int)(v6:Int)(v7:Int)(v8:Int)(v9:Int)(v10:Int)(v11:Int)(v12:Int)(v13:Int)(v14:Int)(v15:Int):=((((v0,()),((),()),((),()),((),()),(v1,()),()),((v2,v3,v4,v5,v6,v7,v8,v9,v10,v11,v12,v13,v14,v15,()),()),()):Fo.T)
abbrev jG:List (Ex×LS):=[(.ret,Fm),(.exit 2,Fo)]
abbrev ll x0 x6(x9:Int)(b0_0:ByteArray)(b0_1:Int)(b0_2:List ByteArray)(b0_3:Int)(b0_4:Int)(b0_5:Int)(b0_6:Int)(b0_7:Int)(b0_8:Int)(b0_9:Int)(b0_10:Int)(b0_11:Int)(b0_12:Int)(b0_13:Int):=((((x0,()),((),()),(x6,()),(x9,()),()),((b0_0,b0_1,b0_2,b0_3,b0_4,b0_5,b0_6,b0_7,b0_8,b0_9,b0_10,b0_11,b0_12,b0_13,()),()),()):iE.T)
def nM{R:Type}(nx:iE.T->Option R)(hx:mA R jG)(x0:List It)(x6:List It)(x9:Int)(b0_0:ByteArray)(b0_1:Int)(b0_2:List ByteArray)(b0_3:Int)(b0_4:Int)(b0_5:Int)(b0_6:Int)(b0_7:Int)(b0_8:Int)(b0_9:Int)(b0_10:Int)(b0_11:Int)(b0_12:Int)(b0_13:Int):Option R:=
 cond (decide (x9<((List.length x6:Nat):Int)))
 (Option.bind nB fun y502=>
  Option.bind (gq y502 b0_1) fun y503=>
  Option.bind (B3 y503 x9) fun y504=>
  cond ((((UInt8.toNat y504):Nat):Int)==(112:Int))
  (Option.bind (gq x6 x9) fun y505=>
   cond y505.2.1
   (hx.1 (qh x0 [] (6:Int) x6 b0_0 b0_1 b0_2 b0_3 b0_4 b0_5 b0_6 b0_7 b0_8 b0_9 b0_10 b0_11 b0_12 b0_13))
   (cond ((((UInt8.toNat y504):Nat):Int)==(108:Int))
    (Option.bind (gq x6 x9) fun y506=>
     cond (!y506.2.1)
     (hx.1 (qh x0 [] (6:Int) x6 b0_0 b0_1 b0_2 b0_3 b0_4 b0_5 b0_6 b0_7 b0_8 b0_9 b0_10 b0_11 b0_12 b0_13))
     (nx (ll x0 x6 (IntKind.wrap .i64 (x9+(1:Int))) b0_0 b0_1 b0_2 b0_3 b0_4 b0_5 b0_6 b0_7 b0_8 b0_9 b0_10 b0_11 b0_12 b0_13)))
    (nx (ll x0 x6 (IntKind.wrap .i64 (x9+(1:Int))) b0_0 b0_1 b0_2 b0_3 b0_4 b0_5 b0_6 b0_7 b0_8 b0_9 b0_10 b0_11 b0_12 b0_13))))
  (cond ((((UInt8.toNat y504):Nat):Int)==(108:Int))
   (Option.bind (gq x6 x9) fun y507=>
    cond (!y507.2.1)
    (hx.1 (qh x0 [] (6:Int) x6 b0_0 b0_1 b0_2 b0_3 b0_4 b0_5 b0_6 b0_7 b0_8 b0_9 b0_10 b0_11 b0_12 b0_13))
    (nx (ll x0 x6 (IntKind.wrap .i64 (x9+(1:Int))) b0_0 b0_1 b0_2 b0_3 b0_4 b0_5 b0_6 b0_7 b0_8 b0_9 b0_10 b0_11 b0_12 b0_13)))
   (nx (ll x0 x6 (IntKind.wrap .i64 (x9+(1:Int))) b0_0 b0_1 b0_2 b0_3 b0_4 b0_5 b0_6 b0_7 b0_8 b0_9 b0_10 b0_11 b0_12 b0_13))))
 (hx.2.1 (yW x0 x6 b0_0 b0_1 b0_2 b0_3 b0_4 b0_5 b0_6 b0_7 b0_8 b0_9 b0_10 b0_11 b0_12 b0_13))
def Cp{R:Type}(nx:iE.T->Option R)(hx:mA R jG)(z:iE.T):Option R:=nM nx hx z.1.1.1 z.1.2.2.1.1 z.1.2.2.2.1.1 z.2.1.1.1 z.2.1.1.2.1 z.2.1.1.2.2.1 z.2.1.1.2.2.2.1 z.2.1.1.2.2.2.2.1 z.2.1.1.2.2.2.2.2.1 z.2.1.1.2.2.2.2.2.2.1 z.2.1.1.2.2.2.2.2.2.2.1 z.2.1.1.2.2.2.2.2.2.2.2.1 z.2.1.1.2.2.2.2.2.2.2.2.2.1 z.2.1.1.2.2.2.2.2.2.2.2.2.2.1 z.2.1.1.2.2.2.2.2.2.2.2.2.2.2.1 z.2.1.1.2.2.2.2.2.2.2.2.2.2.2.2.1 z.2.1.1.2.2.2.2.2.2.2.2.2.2.2.2.2.1
theorem FT:cK @Cp:=fun R nx hx z=>by
 show nM nx hx z.1.1.1 z.1.2.2.1.1 z.1.2.2.2.1.1 z.2.1.1.1 z.2.1.1.2.1 z.2.1.1.2.2.1 z.2.1.1.2.2.2.1 z.2.1.1.2.2.2.2.1 z.2.1.1.2.2.2.2.2.1 z.2.1.1.2.2.2.2.2.2.1 z.2.1.1.2.2.2.2.2.2.2.1 z.2.1.1.2.2.2.2.2.2.2.2.1 z.2.1.1.2.2.2.2.2.2.2.2.2.1 z.2.1.1.2.2.2.2.2.2.2.2.2.2.1 z.2.1.1.2.2.2.2.2.2.2.2.2.2.2.1 z.2.1.1.2.2.2.2.2.2.2.2.2.2.2.2.1 z.2.1.1.2.2.2.2.2.2.2.2.2.2.2.2.2.1=(nM (fun y=>some (.inl y)) (oI jG fun x=>some (.inr x)) z.1.1.1 z.1.2.2.1.1 z.1.2.2.2.1.1 z.2.1.1.1 z.2.1.1.2.1 z.2.1.1.2.2.1 z.2.1.1.2.2.2.1 z.2.1.1.2.2.2.2.1 z.2.1.1.2.2.2.2.2.1 z.2.1.1.2.2.2.2.2.2.1 z.2.1.1.2.2.2.2.2.2.2.1 z.2.1.1.2.2.2.2.2.2.2.2.1 z.2.1.1.2.2.2.2.2.2.2.2.2.1 z.2.1.1.2.2.2.2.2.2.2.2.2.2.1 z.2.1.1.2.2.2.2.2.2.2.2.2.2.2.1 z.2.1.1.2.2.2.2.2.2.2.2.2.2.2.2.1 z.2.1.1.2.2.2.2.2.2.2.2.2.2.2.2.2.1).bind (oH nx hx)
 unfold nM
 exact ae (ac fun _=>ac fun _=>ac fun _=>ae (ac fun _=>ae rfl (ae (ac fun _=>ae rfl rfl) rfl)) (ae (ac fun _=>ae rfl rfl) rfl)) rfl
def nP:iE.T->Option (yH jG):=BU @Cp
theorem H9 x0 x6 x9 b0_0 b0_1 b0_2 b0_3 b0_4 b0_5 b0_6 b0_7 b0_8 b0_9 b0_10 b0_11 b0_12 b0_13:nP (ll x0 x6 x9 b0_0 b0_1 b0_2 b0_3 b0_4 b0_5 b0_6 b0_7 b0_8 b0_9 b0_10 b0_11 b0_12 b0_13)=nM nP (oI jG some) x0 x6 x9 b0_0 b0_1 b0_2 b0_3 b0_4 b0_5 b0_6 b0_7 b0_8 b0_9 b0_10 b0_11 b0_12 b0_13:=dR FT _
def wh:bN:=⟨[0,1,6,9],[107],[0,1,4,5,6],[107]⟩
def vU:fq Rv:=⟨fun k=>match k with|8=>xD|15=>wh|_=>⟨[],[],[],[]⟩,fun k=>match k with|8=>some (ce jv kW kS)|15=>some (ce iE jG nP)|_=>none⟩
theorem Tq(n:Nat)(z:jv.T)(k:Ex->iV->Option Rv):bJ ⟨107,108⟩ xD (mU (gN C0 vN) ⟨107,108⟩ vU 1 (aG Tryz.f58 7)) (n+1) (jv.enc z) k=
 EM (fun y=>bJ ⟨107,108⟩ xD (mU (gN C0 vN) ⟨107,108⟩ vU 1 (aG Tryz.f58 7)) n (jv.enc y) k) (hK k kW) z:=by kernel_rfl
theorem Rp(n:Nat)(z:iE.T)(k:Ex->iV->Option Rv):bJ ⟨107,108⟩ wh (mU (gN C0 vN) ⟨107,108⟩ vU 1 (aG Tryz.f58 14)) (n+1) (iE.enc z) k=
 Cp (fun y=>bJ ⟨107,108⟩ wh (mU (gN C0 vN) ⟨107,108⟩ vU 1 (aG Tryz.f58 14)) n (iE.enc y) k) (hK k jG) z:=by kernel_rfl
theorem VR:ak (gN C0 vN) ⟨107,108⟩ vU 1 (ca (aX Tryz.f58)):=by
 have hl:ca (aX Tryz.f58)=[aG Tryz.f58 7,aG Tryz.f58 14]:=by kernel_rfl
 rw[hl]
 exact ak.cons (n:=8) (lh:=xD) (S:=ce jv kW kS) (by kernel_rfl) rfl rfl (cl HG Tq)
  (ak.cons (n:=15) (lh:=wh) (S:=ce iE jG nP) (by kernel_rfl) rfl rfl (cl FT Rp)
  (ak.nil))
def ot{R:Type}(kx:(List It)×Int->Option R)(a0:(List It))(a1:Cn):Option R:=
 Option.bind (sy a0 a1.1) fun y428=>
 cond (decide (y428>=(0:Int)))
 (kx ([],(4:Int)))
 (cond (decide (((List.length a0:Nat):Int)>=(40:Int)))
  (kx ([],(5:Int)))
  (Option.bind (kS (pj a0 [] (0:Int) a1.1 a1.2.1 a1.2.2.1 a1.2.2.2.1 a1.2.2.2.2.1.1.1 a1.2.2.2.2.1.1.2.1 a1.2.2.2.2.1.1.2.2 a1.2.2.2.2.1.2.1 a1.2.2.2.2.1.2.2.1 a1.2.2.2.2.1.2.2.2 a1.2.2.2.2.2.1 a1.2.2.2.2.2.2.1 a1.2.2.2.2.2.2.2.1 a1.2.2.2.2.2.2.2.2)) (qi kW
   (fun e449=>
    kx ((e449.1.2.2.1.1:List It),(e449.1.2.2.2.1.1:Int)),fun e468=>
    Option.bind (nP (ll (e468.1.1.1:List It) (e468.1.2.2.2.2.1.1:List It) (0:Int) (e468.2.1.1.1:ByteArray) (e468.2.1.1.2.1:Int) (e468.2.1.1.2.2.1:List ByteArray) (e468.2.1.1.2.2.2.1:Int) (e468.2.1.1.2.2.2.2.1:Int) (e468.2.1.1.2.2.2.2.2.1:Int) (e468.2.1.1.2.2.2.2.2.2.1:Int) (e468.2.1.1.2.2.2.2.2.2.2.1:Int) (e468.2.1.1.2.2.2.2.2.2.2.2.1:Int) (e468.2.1.1.2.2.2.2.2.2.2.2.2.1:Int) (e468.2.1.1.2.2.2.2.2.2.2.2.2.2.1:Int) (e468.2.1.1.2.2.2.2.2.2.2.2.2.2.2.1:Int) (e468.2.1.1.2.2.2.2.2.2.2.2.2.2.2.2.1:Int) (e468.2.1.1.2.2.2.2.2.2.2.2.2.2.2.2.2.1:Int))) (qi jG
    (fun e508=>
     kx ((e508.1.2.2.1.1:List It),(e508.1.2.2.2.1.1:Int)),fun e527=>
     Option.bind (cQ ((e527.2.1.1.1:ByteArray),((e527.2.1.1.2.1:Int),((e527.2.1.1.2.2.1:List ByteArray),((e527.2.1.1.2.2.2.1:Int),((((e527.2.1.1.2.2.2.2.1:Int),((e527.2.1.1.2.2.2.2.2.1:Int),(e527.2.1.1.2.2.2.2.2.2.1:Int))),((e527.2.1.1.2.2.2.2.2.2.2.1:Int),((e527.2.1.1.2.2.2.2.2.2.2.2.1:Int),(e527.2.1.1.2.2.2.2.2.2.2.2.2.1:Int)))),((e527.2.1.1.2.2.2.2.2.2.2.2.2.2.1:Int),((e527.2.1.1.2.2.2.2.2.2.2.2.2.2.2.1:Int),((e527.2.1.1.2.2.2.2.2.2.2.2.2.2.2.2.1:Int),(e527.2.1.1.2.2.2.2.2.2.2.2.2.2.2.2.2.1:Int))))))))) (e527.1.2.2.2.2.1.1:List It)) fun y1066=>
     cond (y1066.2 !=(0:Int))
     (kx ([],y1066.2))
     (cond (decide (((List.length (e527.1.1.1:List It))*104)<=70368744177664))
      (cond (decide ((List.length (e527.1.1.1:List It))<=70368744177664))
       (cond (decide ((((List.length (e527.1.1.1:List It))+(List.length [((e527.2.1.1.1:ByteArray),y1066.1.2)]))*104)<=70368744177664))
        (cond (decide (((List.length (e527.1.1.1:List It))+(List.length [((e527.2.1.1.1:ByteArray),y1066.1.2)]))<=70368744177664))
         (kx (((e527.1.1.1:List It)++ [((e527.2.1.1.1:ByteArray),y1066.1.2)]),(0:Int)))
         none)
        none)
       none)
      none),())),()))))
def mG(a0:(List It))(a1:Cn):Option ((List It)×Int):=ot some a0 a1
theorem UW{R} kx a0 a1: @ot R kx a0 a1=(mG a0 a1).bind kx:=by
 unfold mG ot
 exact ac fun _=>ae rfl (ae rfl (cq ⟨fun _=>rfl,fun _=>cq ⟨fun _=>rfl,fun _=>ac fun _=>ae rfl (ae (ae (ae (ae rfl rfl) rfl) rfl) rfl),trivial⟩,trivial⟩))
abbrev OP:af:=.fx [.val false (.slice yI), .ptr yC] ((List It)×Int) (fun z=>mG z.1 z.2.1) (fun b=>(.tup [⟨false,[(.own yI b.1)]⟩,⟨false,[(.v (.int .i64 b.2))]⟩],[]))
theorem V5:ag C0 58 OP:=
 ag.fx (e:=false) (t:=vN) (.cons V4 (.cons AB (.cons Tm (.nil)))) mixed Tryz.func58 (by kernel_rfl) (by kernel_rfl) vU 1 VR (fun z=>(by kernel_rfl:_=ot (fun b=>some (OP.enc b)) z.1 z.2.1).trans (UW _ z.1 z.2.1))
def la{R:Type}(kx:(List It)×Int->Option R)(a0:(List It))(a1:Cn):Option R:=
 Option.bind (nC a0) fun y120=>
 cond (!y120)
 (kx ([],(1:Int)))
 (Option.bind (bQ a1) fun y416=>
  cond (!y416)
  (kx ([],(1:Int)))
  (Option.bind (mG a0 a1) fun y1067=>
   kx y1067))
def gJ(a0:(List It))(a1:Cn):Option ((List It)×Int):=la some a0 a1
theorem JA{R} kx a0 a1: @la R kx a0 a1=(gJ a0 a1).bind kx:=by
 unfold gJ la
 exact ac fun _=>ae rfl (ac fun _=>ae rfl (ac fun _=>rfl))
abbrev wD:af:=.fx [.val false (.slice yI), .val true yC] ((List It)×Int) (fun z=>gJ z.1 z.2.1) (fun b=>(.tup [⟨false,[(.own yI b.1)]⟩,⟨false,[(.v (.int .i64 b.2))]⟩],[]))
theorem KW:ag C0 14 wD:=
 ag.fx (e:=false) (.cons HY (.cons V6 (.cons V5 (.nil)))) mixed Tryz.func14 (by kernel_rfl) (by kernel_rfl) al 1 ai (fun z=>(by kernel_rfl:_=la (fun b=>some (wD.enc b)) z.1 z.2.1).trans (JA _ z.1 z.2.1))
def tG{R:Type}(kx:Bool->Option R)(a0:Int)(a1:Int)(a2:Int):Option R:=
 cond (decide (a0>=a1))
 (kx (decide (a0<=a2)))
 (kx Bool.false)
def bZ(a0:Int)(a1:Int)(a2:Int):Option (Bool):=tG some a0 a1 a2
theorem SC{R} kx a0 a1 a2: @tG R kx a0 a1 a2=(bZ a0 a1 a2).bind kx:=by
 unfold bZ tG
 exact ae rfl rfl
abbrev Mw:af:=.fx [.val false (.int .i64), .val false (.int .i64), .val false (.int .i64)] (Bool) (fun z=>bZ z.1 z.2.1 z.2.2.1) (fun b=>(.one ⟨false,[(.v (.bool b))]⟩,[]))
theorem zB:ag C0 93 Mw:=
 ag.fx (e:=false) (.nil) mixed Tryz.func93 (by kernel_rfl) (by kernel_rfl) al 1 ai (fun z=>(by kernel_rfl:_=tG (fun b=>some (Mw.enc b)) z.1 z.2.1 z.2.2.1).trans (SC _ z.1 z.2.1 z.2.2.1))
def xb{R:Type}(kx:Bool->Option R)(a0:ByteArray):Option R:=
 Option.bind (bZ (((ByteArray.size a0):Nat):Int) (1:Int) (12:Int)) fun y1084=>
 cond y1084
 (Option.bind (uI a0 (ByteArray.mk (Array.mk [97,98,99,100,101,102,103,104,105,106,107,108,109,110,111,112,113,114,115,116,117,118,119,120,121,122,65,66,67,68,69,70,71,72,73,74,75,76,77,78,79,80,81,82,83,84,85,86,87,88,89,90,48,49,50,51,52,53,54,55,56,57,95]))) fun y1085=>
  cond ((ByteArray.toList y1085)==(ByteArray.toList (ByteArray.mk (Array.mk []))))
  (Option.bind (B3 a0 (0:Int)) fun y1086=>
   Option.bind (qT (ByteArray.mk (Array.mk [97,98,99,100,101,102,103,104,105,106,107,108,109,110,111,112,113,114,115,116,117,118,119,120,121,122,65,66,67,68,69,70,71,72,73,74,75,76,77,78,79,80,81,82,83,84,85,86,87,88,89,90])) (((UInt8.toNat y1086):Nat):Int)) fun y1087=>
   kx (decide (y1087>=(0:Int))))
  (kx Bool.false))
 (kx Bool.false)
def mD(a0:ByteArray):Option (Bool):=xb some a0
theorem Sw{R} kx a0: @xb R kx a0=(mD a0).bind kx:=by
 unfold mD xb
 exact ac fun _=>ae (ac fun _=>ae (ac fun _=>ac fun _=>rfl) rfl) rfl
abbrev Mt:af:=.fx [.val false .str] (Bool) (fun z=>mD z.1) (fun b=>(.one ⟨false,[(.v (.bool b))]⟩,[]))
theorem EC:ag C0 108 Mt:=
 ag.fx (e:=false) (.cons zB (.cons Tn (.cons K0 (.nil)))) mixed Tryz.func108 (by kernel_rfl) (by kernel_rfl) al 1 ai (fun z=>(by kernel_rfl:_=xb (fun b=>some (Mt.enc b)) z.1).trans (Sw _ z.1))
def tf{R:Type}(kx:Bool->Option R)(a0:Nm):Option R:=
 Option.bind (bZ a0.1 (-(131072:Int)) (131072:Int)) fun y1092=>
 cond y1092
 (Option.bind (bZ a0.2.1 (-(131072:Int)) (131072:Int)) fun y1093=>
  cond y1093
  (Option.bind (bZ a0.2.2 (0:Int) (10:Int)) fun y1094=>
   cond y1094
   (cond (a0.2.2==(0:Int))
    (kx Bool.true)
    (cond ((IntKind.wrap .i64 (((BitVec.toNat ((BitVec.ofInt 64 a0.1)&&&(BitVec.ofInt 64 (1:Int)))):Nat):Int))==(1:Int))
     (kx Bool.true)
     (kx ((IntKind.wrap .i64 (((BitVec.toNat ((BitVec.ofInt 64 a0.2.1)&&&(BitVec.ofInt 64 (1:Int)))):Nat):Int))==(1:Int)))))
   (kx Bool.false))
  (kx Bool.false))
 (kx Bool.false)
def fD(a0:Nm):Option (Bool):=tf some a0
theorem O4{R} kx a0: @tf R kx a0=(fD a0).bind kx:=by
 unfold fD tf
 exact ac fun _=>ae (ac fun _=>ae (ac fun _=>ae (ae rfl (ae rfl rfl)) rfl) rfl) rfl
abbrev I2:af:=.fx [.val true yN] (Bool) (fun z=>fD z.1) (fun b=>(.one ⟨false,[(.v (.bool b))]⟩,[]))
theorem rA:ag C0 83 I2:=
 ag.fx (e:=false) (.cons zB (.nil)) mixed Tryz.func83 (by kernel_rfl) (by kernel_rfl) al 1 ai (fun z=>(by kernel_rfl:_=tf (fun b=>some (I2.enc b)) z.1).trans (O4 _ z.1))
def rO{R:Type}(kx:Bool->Option R)(a0:Ln):Option R:=
 Option.bind (bZ a0.1 (0:Int) (7:Int)) fun y1090=>
 cond y1090
 (Option.bind (fD a0.2) fun y1095=>
  kx y1095)
 (kx Bool.false)
def aI(a0:Ln):Option (Bool):=rO some a0
theorem Ns{R} kx a0: @rO R kx a0=(aI a0).bind kx:=by
 unfold aI rO
 exact ac fun _=>ae (ac fun _=>rfl) rfl
abbrev vV:af:=.fx [.val true yL] (Bool) (fun z=>aI z.1) (fun b=>(.one ⟨false,[(.v (.bool b))]⟩,[]))
theorem dK:ag C0 79 vV:=
 ag.fx (e:=false) (.cons zB (.cons rA (.nil))) mixed Tryz.func79 (by kernel_rfl) (by kernel_rfl) al 1 ai (fun z=>(by kernel_rfl:_=rO (fun b=>some (vV.enc b)) z.1).trans (Ns _ z.1))
def qv{R:Type}(kx:Bool->Option R)(a0:Pt):Option R:=
 Option.bind (fD a0.1) fun y1099=>
 cond y1099
 (Option.bind (fD a0.2) fun y1100=>
  kx y1100)
 (kx Bool.false)
def aH(a0:Pt):Option (Bool):=qv some a0
theorem LN{R} kx a0: @qv R kx a0=(aH a0).bind kx:=by
 unfold aH qv
 exact ac fun _=>ae (ac fun _=>rfl) rfl
abbrev ub:af:=.fx [.val true yP] (Bool) (fun z=>aH z.1) (fun b=>(.one ⟨false,[(.v (.bool b))]⟩,[]))
theorem fj:ag C0 36 ub:=
 ag.fx (e:=false) (.cons rA (.nil)) mixed Tryz.func36 (by kernel_rfl) (by kernel_rfl) al 1 ai (fun z=>(by kernel_rfl:_=qv (fun b=>some (ub.enc b)) z.1).trans (LN _ z.1))
def xc{R:Type}(kx:Bool->Option R)(a0:It):Option R:=
 cond a0.2.1
 (Option.bind (mD a0.1) fun y1088=>
  cond y1088
  (Option.bind (aI a0.2.2.2) fun y1096=>
   cond y1096
   (kx (((a0.2.2.1.1.1==(0:Int))&&((a0.2.2.1.1.2.1==(0:Int))&&((a0.2.2.1.1.2.2==(0:Int))&&Bool.true)))&&(((a0.2.2.1.2.1==(0:Int))&&((a0.2.2.1.2.2.1==(0:Int))&&((a0.2.2.1.2.2.2==(0:Int))&&Bool.true)))&&Bool.true)))
   (kx Bool.false))
  (kx Bool.false))
 (Option.bind (mD a0.1) fun y1097=>
  cond y1097
  (Option.bind (aH a0.2.2.1) fun y1101=>
   cond y1101
   (kx ((a0.2.2.2.1==(0:Int))&&(((a0.2.2.2.2.1==(0:Int))&&((a0.2.2.2.2.2.1==(0:Int))&&((a0.2.2.2.2.2.2==(0:Int))&&Bool.true)))&&Bool.true)))
   (kx Bool.false))
  (kx Bool.false))
def tw(a0:It):Option (Bool):=xc some a0
theorem Sx{R} kx a0: @xc R kx a0=(tw a0).bind kx:=by
 unfold tw xc
 exact ae (ac fun _=>ae (ac fun _=>ae rfl rfl) rfl) (ac fun _=>ae (ac fun _=>ae rfl rfl) rfl)
abbrev Gl:af:=.fx [.val true yI] (Bool) (fun z=>tw z.1) (fun b=>(.one ⟨false,[(.v (.bool b))]⟩,[]))
theorem Vk:ag C0 126 Gl:=
 ag.fx (e:=false) (.cons EC (.cons dK (.cons fj (.nil)))) mixed Tryz.func126 (by kernel_rfl) (by kernel_rfl) al 1 ai (fun z=>(by kernel_rfl:_=xc (fun b=>some (Gl.enc b)) z.1).trans (Sx _ z.1))
def pA{R:Type}(kx:Bool->Option R)(a0:It)(a1:ByteArray):Option R:=
 kx ((ByteArray.toList a0.1)==(ByteArray.toList a1))
def oV(a0:It)(a1:ByteArray):Option (Bool):=pA some a0 a1
theorem KE{R} kx a0 a1: @pA R kx a0 a1=(oV a0 a1).bind kx:=by
 unfold oV pA
 exact rfl
abbrev xW:af:=.fx [.val true yI, .ptr .str] (Bool) (fun z=>oV z.1 z.2.1) (fun b=>(.one ⟨false,[(.v (.bool b))]⟩,[]))
theorem Mb:ag C0 128 xW:=
 ag.fx (e:=false) (.nil) mixed Tryz.func128 (by kernel_rfl) (by kernel_rfl) al 1 ai (fun z=>(by kernel_rfl:_=pA (fun b=>some (xW.enc b)) z.1 z.2.1).trans (KE _ z.1 z.2.1))
def co:List (FuncId×af):=[(128,xW)]
abbrev aA:LS:=⟨[(false,[(.sl yI)]),(false,[(.fn 128 [(19,0)])]),(false,[(.int .i64)]),(false,[(.int .i64)])],[(true,[.str])],[]⟩
abbrev eQ:LS:=⟨[(false,[(.int .i64)])],[],[]⟩
abbrev eO(v0:Int):=((((v0,()),()),(),()):eQ.T)
abbrev eR:LS:=⟨[(false,[.undef])],[],[]⟩
abbrev eP:=(((((),()),()),(),()):eR.T)
abbrev aF:List (Ex×LS):=[(.ret,eQ),(.exit 0,eR)]
abbrev bC x0(x7:Int)(x8:Int)(b0:ByteArray):=((((x0,()),((),()),(x7,()),(x8,()),()),((b0,()),()),()):aA.T)
def aS{R:Type}(nx:aA.T->Option R)(hx:mA R aF)(x0:List It)(x7:Int)(x8:Int)(b0:ByteArray):Option R:=
 cond (decide (x8<x7))
 (Option.bind (gq x0 x8) fun y1111=>
  Option.bind (oV y1111 b0) fun y1114=>
  cond y1114
  (hx.1 (eO x8))
  (nx (bC x0 x7 (IntKind.wrap .i64 (x8+(1:Int))) b0)))
 (hx.2.1 (eP))
def dc{R:Type}(nx:aA.T->Option R)(hx:mA R aF)(z:aA.T):Option R:=aS nx hx z.1.1.1 z.1.2.2.1.1 z.1.2.2.2.1.1 z.2.1.1.1
theorem eS:cK @dc:=fun R nx hx z=>by
 show aS nx hx z.1.1.1 z.1.2.2.1.1 z.1.2.2.2.1.1 z.2.1.1.1=(aS (fun y=>some (.inl y)) (oI aF fun x=>some (.inr x)) z.1.1.1 z.1.2.2.1.1 z.1.2.2.2.1.1 z.2.1.1.1).bind (oH nx hx)
 unfold aS
 exact ae (ac fun _=>ac fun _=>ae rfl rfl) rfl
def aT:aA.T->Option (yH aF):=BU @dc
theorem fp x0 x7 x8 b0:aT (bC x0 x7 x8 b0)=aS aT (oI aF some) x0 x7 x8 b0:=dR eS _
def cc:bN:=⟨[0,1,7,8],[19],[4],[]⟩
def cp:fq Rv:=⟨fun k=>match k with|3=>cc|_=>⟨[],[],[],[]⟩,fun k=>match k with|3=>some (ce aA aF aT)|_=>none⟩
theorem lz(n:Nat)(z:aA.T)(k:Ex->iV->Option Rv):bJ ⟨19,20⟩ cc (mU (gN C0 co) ⟨19,20⟩ cp 1 (aG Tryz.f127 2)) (n+1) (aA.enc z) k=
 dc (fun y=>bJ ⟨19,20⟩ cc (mU (gN C0 co) ⟨19,20⟩ cp 1 (aG Tryz.f127 2)) n (aA.enc y) k) (hK k aF) z:=by kernel_rfl
theorem me:ak (gN C0 co) ⟨19,20⟩ cp 1 (ca (aX Tryz.f127)):=by
 have hl:ca (aX Tryz.f127)=[aG Tryz.f127 2]:=by kernel_rfl
 rw[hl]
 exact ak.cons (n:=3) (lh:=cc) (S:=ce aA aF aT) (by kernel_rfl) rfl rfl (cl eS lz)
  (ak.nil)
def bL{R:Type}(kx:Int->Option R)(a0:(List It))(a1_0:ByteArray):Option R:=
 Option.bind (aT (bC a0 ((List.length a0:Nat):Int) (0:Int) a1_0)) (qi aF
 (fun e1115=>
  kx (e1115.1.1.1:Int),fun _=>
  kx (-(1:Int)),()))
def bK(a0:(List It))(a1_0:ByteArray):Option (Int):=bL some a0 a1_0
theorem lK{R} kx a0 a1_0: @bL R kx a0 a1_0=(bK a0 a1_0).bind kx:=by
 unfold bK bL
 exact cq ⟨fun _=>rfl,fun _=>rfl,trivial⟩
abbrev fO:af:=.fx [.val false (.slice yI), .clo 128 [.str]] (Int) (fun z=>bK z.1 z.2.1.1) (fun b=>(.one ⟨false,[(.v (.int .i64 b))]⟩,[]))
theorem mj:ag C0 127 fO:=
 ag.fx (e:=false) (t:=co) (.cons Mb (.nil)) mixed Tryz.func127 (by kernel_rfl) (by kernel_rfl) cp 1 me (fun z=>(by kernel_rfl:_=bL (fun b=>some (fO.enc b)) z.1 z.2.1.1).trans (lK _ z.1 z.2.1.1))
def rR{R:Type}(kx:Int->Option R)(a0:(List It))(a1:ByteArray):Option R:=
 Option.bind (bK a0 a1) fun y1118=>
 kx y1118
def kb(a0:(List It))(a1:ByteArray):Option (Int):=rR some a0 a1
theorem Nw{R} kx a0 a1: @rR R kx a0 a1=(kb a0 a1).bind kx:=by
 unfold kb rR
 exact ac fun _=>rfl
abbrev vW:af:=.fx [.val false (.slice yI), .val false .str] (Int) (fun z=>kb z.1 z.2.1) (fun b=>(.one ⟨false,[(.v (.int .i64 b))]⟩,[]))
theorem zy:ag C0 64 vW:=
 ag.fx (e:=false) (.cons mj (.nil)) mixed Tryz.func64 (by kernel_rfl) (by kernel_rfl) al 1 ai (fun z=>(by kernel_rfl:_=rR (fun b=>some (vW.enc b)) z.1 z.2.1).trans (Nw _ z.1 z.2.1))
def tV:List (FuncId×af):=[(126,Gl),(64,vW)]
abbrev dT:LS:=⟨[(false,[(.sl yI)]),(false,[(.sl yI)]),(false,[(.int .i64)]),(false,[(.int .i64)])],[],[]⟩
abbrev Aa:LS:=⟨[(false,[(.sl yI)]),(false,[.bool])],[],[]⟩
abbrev tN v0(v1:Bool):=((((v0,()),(v1,()),()),(),()):Aa.T)
abbrev Ab:LS:=⟨[(false,[(.sl yI)]),(false,[.undef])],[],[]⟩
abbrev zZ v0:=((((v0,()),((),()),()),(),()):Ab.T)
abbrev fB:List (Ex×LS):=[(.ret,Aa),(.exit 0,Ab)]
abbrev nQ x0 x5(x6:Int)(x7:Int):=((((x0,()),(x5,()),(x6,()),(x7,()),()),(),()):dT.T)
def jb{R:Type}(nx:dT.T->Option R)(hx:mA R fB)(x0:List It)(x5:List It)(x6:Int)(x7:Int):Option R:=
 cond (decide (x7<x6))
 (Option.bind (gq x5 x7) fun y1078=>
  Option.bind (tw y1078) fun y1102=>
  cond (!y1102)
  (hx.1 (tN x0 Bool.false))
  (cond (decide ((0:Int)<=x7))
   (cond (decide (x7<=((List.length x0:Nat):Int)))
    (Option.bind (kb (List.drop 0 (List.take (Int.toNat x7) x0)) y1078.1) fun y1119=>
     cond (decide (y1119>=(0:Int)))
     (hx.1 (tN x0 Bool.false))
     (nx (nQ x0 x5 x6 (IntKind.wrap .i64 (x7+(1:Int))))))
    none)
   none))
 (hx.2.1 (zZ x0))
def wF{R:Type}(nx:dT.T->Option R)(hx:mA R fB)(z:dT.T):Option R:=jb nx hx z.1.1.1 z.1.2.1.1 z.1.2.2.1.1 z.1.2.2.2.1.1
theorem Af:cK @wF:=fun R nx hx z=>by
 show jb nx hx z.1.1.1 z.1.2.1.1 z.1.2.2.1.1 z.1.2.2.2.1.1=(jb (fun y=>some (.inl y)) (oI fB fun x=>some (.inr x)) z.1.1.1 z.1.2.1.1 z.1.2.2.1.1 z.1.2.2.2.1.1).bind (oH nx hx)
 unfold jb
 exact ae (ac fun _=>ac fun _=>ae rfl (ae (ae (ac fun _=>ae rfl rfl) rfl) rfl)) rfl
def jd:dT.T->Option (yH fB):=BU @wF
theorem BV x0 x5 x6 x7:jd (nQ x0 x5 x6 x7)=jb jd (oI fB some) x0 x5 x6 x7:=dR Af _
def qm:bN:=⟨[0,5,6,7],[],[0,2],[]⟩
def ua:fq Rv:=⟨fun k=>match k with|3=>qm|_=>⟨[],[],[],[]⟩,fun k=>match k with|3=>some (ce dT fB jd)|_=>none⟩
theorem Le(n:Nat)(z:dT.T)(k:Ex->iV->Option Rv):bJ ⟨28,28⟩ qm (mU (gN C0 tV) ⟨28,28⟩ ua 1 (aG Tryz.f63 2)) (n+1) (dT.enc z) k=
 wF (fun y=>bJ ⟨28,28⟩ qm (mU (gN C0 tV) ⟨28,28⟩ ua 1 (aG Tryz.f63 2)) n (dT.enc y) k) (hK k fB) z:=by kernel_rfl
theorem Nd:ak (gN C0 tV) ⟨28,28⟩ ua 1 (ca (aX Tryz.f63)):=by
 have hl:ca (aX Tryz.f63)=[aG Tryz.f63 2]:=by kernel_rfl
 rw[hl]
 exact ak.cons (n:=3) (lh:=qm) (S:=ce dT fB jd) (by kernel_rfl) rfl rfl (cl Af Le)
  (ak.nil)
def qu{R:Type}(kx:Bool->Option R)(a0:(List It)):Option R:=
 Option.bind (jd (nQ a0 a0 ((List.length a0:Nat):Int) (0:Int))) (qi fB
 (fun e1120=>
  kx (e1120.1.2.1.1:Bool),fun e1123=>
  kx (decide ((((List.length (e1123.1.1.1:List It)):Nat):Int)<=(40:Int))),()))
def kA(a0:(List It)):Option (Bool):=qu some a0
theorem LM{R} kx a0: @qu R kx a0=(kA a0).bind kx:=by
 unfold kA qu
 exact cq ⟨fun _=>rfl,fun _=>rfl,trivial⟩
abbrev zg:af:=.fx [.val false (.slice yI)] (Bool) (fun z=>kA z.1) (fun b=>(.one ⟨false,[(.v (.bool b))]⟩,[]))
theorem EE:ag C0 63 zg:=
 ag.fx (e:=false) (t:=tV) (.cons Vk (.cons zy (.nil))) mixed Tryz.func63 (by kernel_rfl) (by kernel_rfl) ua 1 Nd (fun z=>(by kernel_rfl:_=qu (fun b=>some (zg.enc b)) z.1).trans (LM _ z.1))
def ik{R:Type}(kx:Bool->Option R)(a0:ByteArray):Option R:=
 Option.bind (mD a0) fun y1137=>
 kx (!y1137)
def ii(a0:ByteArray):Option (Bool):=ik some a0
theorem Cb{R} kx a0: @ik R kx a0=(ii a0).bind kx:=by
 unfold ii ik
 exact ac fun _=>rfl
abbrev pc:af:=.fx [.val false .str] (Bool) (fun z=>ii z.1) (fun b=>(.one ⟨false,[(.v (.bool b))]⟩,[]))
theorem Df:ag C0 110 pc:=
 ag.fx (e:=false) (.cons EC (.nil)) mixed Tryz.func110 (by kernel_rfl) (by kernel_rfl) al 1 ai (fun z=>(by kernel_rfl:_=ik (fun b=>some (pc.enc b)) z.1).trans (Cb _ z.1))
def ci:List (FuncId×af):=[(110,pc)]
abbrev ap:LS:=⟨[(false,[(.sl .str)]),(false,[(.fn 110 [])]),(false,[(.int .i64)]),(false,[(.int .i64)])],[],[]⟩
abbrev ed:LS:=⟨[(false,[(.int .i64)])],[],[]⟩
abbrev dV(v0:Int):=((((v0,()),()),(),()):ed.T)
abbrev ee:LS:=⟨[(false,[.undef])],[],[]⟩
abbrev dW:=(((((),()),()),(),()):ee.T)
abbrev aB:List (Ex×LS):=[(.ret,ed),(.exit 0,ee)]
abbrev bw(x0:List ByteArray)(x7:Int)(x8:Int):=((((x0,()),((),()),(x7,()),(x8,()),()),(),()):ap.T)
def aO{R:Type}(nx:ap.T->Option R)(hx:mA R aB)(x0:List ByteArray)(x7:Int)(x8:Int):Option R:=
 cond (decide (x8<x7))
 (Option.bind (gq x0 x8) fun y1135=>
  Option.bind (ii y1135) fun y1138=>
  cond y1138
  (hx.1 (dV x8))
  (nx (bw x0 x7 (IntKind.wrap .i64 (x8+(1:Int))))))
 (hx.2.1 (dW))
def cU{R:Type}(nx:ap.T->Option R)(hx:mA R aB)(z:ap.T):Option R:=aO nx hx z.1.1.1 z.1.2.2.1.1 z.1.2.2.2.1.1
theorem ek:cK @cU:=fun R nx hx z=>by
 show aO nx hx z.1.1.1 z.1.2.2.1.1 z.1.2.2.2.1.1=(aO (fun y=>some (.inl y)) (oI aB fun x=>some (.inr x)) z.1.1.1 z.1.2.2.1.1 z.1.2.2.2.1.1).bind (oH nx hx)
 unfold aO
 exact ae (ac fun _=>ac fun _=>ae rfl rfl) rfl
def aQ:ap.T->Option (yH aB):=BU @cU
theorem eL x0 x7 x8:aQ (bw x0 x7 x8)=aO aQ (oI aB some) x0 x7 x8:=dR ek _
def bW:bN:=⟨[0,1,7,8],[],[4],[]⟩
def ck:fq Rv:=⟨fun k=>match k with|3=>bW|_=>⟨[],[],[],[]⟩,fun k=>match k with|3=>some (ce ap aB aQ)|_=>none⟩
theorem kL(n:Nat)(z:ap.T)(k:Ex->iV->Option Rv):bJ ⟨19,19⟩ bW (mU (gN C0 ci) ⟨19,19⟩ ck 1 (aG Tryz.f184 2)) (n+1) (ap.enc z) k=
 cU (fun y=>bJ ⟨19,19⟩ bW (mU (gN C0 ci) ⟨19,19⟩ ck 1 (aG Tryz.f184 2)) n (ap.enc y) k) (hK k aB) z:=by kernel_rfl
theorem lq:ak (gN C0 ci) ⟨19,19⟩ ck 1 (ca (aX Tryz.f184)):=by
 have hl:ca (aX Tryz.f184)=[aG Tryz.f184 2]:=by kernel_rfl
 rw[hl]
 exact ak.cons (n:=3) (lh:=bW) (S:=ce ap aB aQ) (by kernel_rfl) rfl rfl (cl ek kL)
  (ak.nil)
def bE{R:Type}(kx:Int->Option R)(a0:(List ByteArray)):Option R:=
 Option.bind (aQ (bw a0 ((List.length a0:Nat):Int) (0:Int))) (qi aB
 (fun e1139=>
  kx (e1139.1.1.1:Int),fun _=>
  kx (-(1:Int)),()))
def bB(a0:(List ByteArray)):Option (Int):=bE some a0
theorem lf{R} kx a0: @bE R kx a0=(bB a0).bind kx:=by
 unfold bB bE
 exact cq ⟨fun _=>rfl,fun _=>rfl,trivial⟩
abbrev fu:af:=.fx [.val false (.slice .str), .clo 110 []] (Int) (fun z=>bB z.1) (fun b=>(.one ⟨false,[(.v (.int .i64 b))]⟩,[]))
theorem lx:ag C0 184 fu:=
 ag.fx (e:=false) (t:=ci) (.cons Df (.nil)) mixed Tryz.func184 (by kernel_rfl) (by kernel_rfl) ck 1 lq (fun z=>(by kernel_rfl:_=bE (fun b=>some (fu.enc b)) z.1).trans (lf _ z.1))
def br{R:Type}(kx:Bool->Option R)(a0:(List ByteArray)):Option R:=
 Option.bind (bB a0) fun y1142=>
 kx (decide (y1142>=(0:Int)))
def aV(a0:(List ByteArray)):Option (Bool):=br some a0
theorem ko{R} kx a0: @br R kx a0=(aV a0).bind kx:=by
 unfold aV br
 exact ac fun _=>rfl
abbrev eH:af:=.fx [.val false (.slice .str), .clo 110 []] (Bool) (fun z=>aV z.1) (fun b=>(.one ⟨false,[(.v (.bool b))]⟩,[]))
theorem kt:ag C0 109 eH:=
 ag.fx (e:=false) (.cons lx (.nil)) mixed Tryz.func109 (by kernel_rfl) (by kernel_rfl) al 1 ai (fun z=>(by kernel_rfl:_=br (fun b=>some (eH.enc b)) z.1).trans (ko _ z.1))
def be{R:Type}(kx:Bool->Option R)(a0:Cn):Option R:=
 Option.bind (mD a0.1) fun y1127=>
 cond (!y1127)
 (kx Bool.false)
 (Option.bind (bZ a0.2.1 (1:Int) (12:Int)) fun y1128=>
  cond (!y1128)
  (kx Bool.false)
  (Option.bind (gq [((ByteArray.mk (Array.mk [])),((ByteArray.mk (Array.mk [])),Bool.false)),((ByteArray.mk (Array.mk [112,111,105,110,116])),((ByteArray.mk (Array.mk [])),Bool.false)),((ByteArray.mk (Array.mk [108,105,110,101])),((ByteArray.mk (Array.mk [])),Bool.false)),((ByteArray.mk (Array.mk [109,101,101,116])),((ByteArray.mk (Array.mk [108,108])),Bool.false)),((ByteArray.mk (Array.mk [109,105,100,100,108,101])),((ByteArray.mk (Array.mk [112,112])),Bool.false)),((ByteArray.mk (Array.mk [109,105,114,114,111,114])),((ByteArray.mk (Array.mk [108,120])),Bool.false)),((ByteArray.mk (Array.mk [116,104,114,111,117,103,104])),((ByteArray.mk (Array.mk [112,112])),Bool.false)),((ByteArray.mk (Array.mk [111,110,116,111])),((ByteArray.mk (Array.mk [112,112])),Bool.false)),((ByteArray.mk (Array.mk [98,105,115,101,99,116])),((ByteArray.mk (Array.mk [108,108])),Bool.true)),((ByteArray.mk (Array.mk [115,113,117,97,114,101])),((ByteArray.mk (Array.mk [108,112])),Bool.false)),((ByteArray.mk (Array.mk [102,111,108,100])),((ByteArray.mk (Array.mk [112,108,112])),Bool.true)),((ByteArray.mk (Array.mk [116,119,111])),((ByteArray.mk (Array.mk [112,108,112,108])),Bool.true)),((ByteArray.mk (Array.mk [97,99,114,111,115,115])),((ByteArray.mk (Array.mk [112,108,108])),Bool.false))] a0.2.1) fun y1129=>
   cond ((((List.length a0.2.2.1):Nat):Int) !=(((ByteArray.size y1129.2.1):Nat):Int))
   (kx Bool.false)
   (Option.bind (aV a0.2.2.1) fun y1143=>
    cond y1143
    (kx Bool.false)
    (cond y1129.2.2
     (Option.bind (bZ a0.2.2.2.1 (0:Int) (7:Int)) fun y1144=>
      cond (!y1144)
      (kx Bool.false)
      (cond (!y1129.2.2)
       (cond (a0.2.2.2.1 !=(0:Int))
        (kx Bool.false)
        (cond (((a0.2.2.2.2.1.1.1==(0:Int))&&((a0.2.2.2.2.1.1.2.1==(0:Int))&&((a0.2.2.2.2.1.1.2.2==(0:Int))&&Bool.true)))&&(((a0.2.2.2.2.1.2.1==(0:Int))&&((a0.2.2.2.2.1.2.2.1==(0:Int))&&((a0.2.2.2.2.1.2.2.2==(0:Int))&&Bool.true)))&&Bool.true))
         (cond ((a0.2.2.2.2.2.1==(0:Int))&&(((a0.2.2.2.2.2.2.1==(0:Int))&&((a0.2.2.2.2.2.2.2.1==(0:Int))&&((a0.2.2.2.2.2.2.2.2==(0:Int))&&Bool.true)))&&Bool.true))
          (Option.bind (aH a0.2.2.2.2.1) fun y1145=>
           cond y1145
           (Option.bind (aI a0.2.2.2.2.2) fun y1146=>
            kx y1146)
           (kx Bool.false))
          (cond (a0.2.1==(2:Int))
           (Option.bind (aH a0.2.2.2.2.1) fun y1147=>
            cond y1147
            (Option.bind (aI a0.2.2.2.2.2) fun y1148=>
             kx y1148)
            (kx Bool.false))
           (kx Bool.false)))
         (cond (a0.2.1==(1:Int))
          (cond ((a0.2.2.2.2.2.1==(0:Int))&&(((a0.2.2.2.2.2.2.1==(0:Int))&&((a0.2.2.2.2.2.2.2.1==(0:Int))&&((a0.2.2.2.2.2.2.2.2==(0:Int))&&Bool.true)))&&Bool.true))
           (Option.bind (aH a0.2.2.2.2.1) fun y1149=>
            cond y1149
            (Option.bind (aI a0.2.2.2.2.2) fun y1150=>
             kx y1150)
            (kx Bool.false))
           (cond (a0.2.1==(2:Int))
            (Option.bind (aH a0.2.2.2.2.1) fun y1151=>
             cond y1151
             (Option.bind (aI a0.2.2.2.2.2) fun y1152=>
              kx y1152)
             (kx Bool.false))
            (kx Bool.false)))
          (kx Bool.false))))
       (cond (((a0.2.2.2.2.1.1.1==(0:Int))&&((a0.2.2.2.2.1.1.2.1==(0:Int))&&((a0.2.2.2.2.1.1.2.2==(0:Int))&&Bool.true)))&&(((a0.2.2.2.2.1.2.1==(0:Int))&&((a0.2.2.2.2.1.2.2.1==(0:Int))&&((a0.2.2.2.2.1.2.2.2==(0:Int))&&Bool.true)))&&Bool.true))
        (cond ((a0.2.2.2.2.2.1==(0:Int))&&(((a0.2.2.2.2.2.2.1==(0:Int))&&((a0.2.2.2.2.2.2.2.1==(0:Int))&&((a0.2.2.2.2.2.2.2.2==(0:Int))&&Bool.true)))&&Bool.true))
         (Option.bind (aH a0.2.2.2.2.1) fun y1153=>
          cond y1153
          (Option.bind (aI a0.2.2.2.2.2) fun y1154=>
           kx y1154)
          (kx Bool.false))
         (cond (a0.2.1==(2:Int))
          (Option.bind (aH a0.2.2.2.2.1) fun y1155=>
           cond y1155
           (Option.bind (aI a0.2.2.2.2.2) fun y1156=>
            kx y1156)
           (kx Bool.false))
          (kx Bool.false)))
        (cond (a0.2.1==(1:Int))
         (cond ((a0.2.2.2.2.2.1==(0:Int))&&(((a0.2.2.2.2.2.2.1==(0:Int))&&((a0.2.2.2.2.2.2.2.1==(0:Int))&&((a0.2.2.2.2.2.2.2.2==(0:Int))&&Bool.true)))&&Bool.true))
          (Option.bind (aH a0.2.2.2.2.1) fun y1157=>
           cond y1157
           (Option.bind (aI a0.2.2.2.2.2) fun y1158=>
            kx y1158)
           (kx Bool.false))
          (cond (a0.2.1==(2:Int))
           (Option.bind (aH a0.2.2.2.2.1) fun y1159=>
            cond y1159
            (Option.bind (aI a0.2.2.2.2.2) fun y1160=>
             kx y1160)
            (kx Bool.false))
           (kx Bool.false)))
         (kx Bool.false)))))
     (cond (!y1129.2.2)
      (cond (a0.2.2.2.1 !=(0:Int))
       (kx Bool.false)
       (cond (((a0.2.2.2.2.1.1.1==(0:Int))&&((a0.2.2.2.2.1.1.2.1==(0:Int))&&((a0.2.2.2.2.1.1.2.2==(0:Int))&&Bool.true)))&&(((a0.2.2.2.2.1.2.1==(0:Int))&&((a0.2.2.2.2.1.2.2.1==(0:Int))&&((a0.2.2.2.2.1.2.2.2==(0:Int))&&Bool.true)))&&Bool.true))
        (cond ((a0.2.2.2.2.2.1==(0:Int))&&(((a0.2.2.2.2.2.2.1==(0:Int))&&((a0.2.2.2.2.2.2.2.1==(0:Int))&&((a0.2.2.2.2.2.2.2.2==(0:Int))&&Bool.true)))&&Bool.true))
         (Option.bind (aH a0.2.2.2.2.1) fun y1161=>
          cond y1161
          (Option.bind (aI a0.2.2.2.2.2) fun y1162=>
           kx y1162)
          (kx Bool.false))
         (cond (a0.2.1==(2:Int))
          (Option.bind (aH a0.2.2.2.2.1) fun y1163=>
           cond y1163
           (Option.bind (aI a0.2.2.2.2.2) fun y1164=>
            kx y1164)
           (kx Bool.false))
          (kx Bool.false)))
        (cond (a0.2.1==(1:Int))
         (cond ((a0.2.2.2.2.2.1==(0:Int))&&(((a0.2.2.2.2.2.2.1==(0:Int))&&((a0.2.2.2.2.2.2.2.1==(0:Int))&&((a0.2.2.2.2.2.2.2.2==(0:Int))&&Bool.true)))&&Bool.true))
          (Option.bind (aH a0.2.2.2.2.1) fun y1165=>
           cond y1165
           (Option.bind (aI a0.2.2.2.2.2) fun y1166=>
            kx y1166)
           (kx Bool.false))
          (cond (a0.2.1==(2:Int))
           (Option.bind (aH a0.2.2.2.2.1) fun y1167=>
            cond y1167
            (Option.bind (aI a0.2.2.2.2.2) fun y1168=>
             kx y1168)
            (kx Bool.false))
           (kx Bool.false)))
         (kx Bool.false))))
      (cond (((a0.2.2.2.2.1.1.1==(0:Int))&&((a0.2.2.2.2.1.1.2.1==(0:Int))&&((a0.2.2.2.2.1.1.2.2==(0:Int))&&Bool.true)))&&(((a0.2.2.2.2.1.2.1==(0:Int))&&((a0.2.2.2.2.1.2.2.1==(0:Int))&&((a0.2.2.2.2.1.2.2.2==(0:Int))&&Bool.true)))&&Bool.true))
       (cond ((a0.2.2.2.2.2.1==(0:Int))&&(((a0.2.2.2.2.2.2.1==(0:Int))&&((a0.2.2.2.2.2.2.2.1==(0:Int))&&((a0.2.2.2.2.2.2.2.2==(0:Int))&&Bool.true)))&&Bool.true))
        (Option.bind (aH a0.2.2.2.2.1) fun y1169=>
         cond y1169
         (Option.bind (aI a0.2.2.2.2.2) fun y1170=>
          kx y1170)
         (kx Bool.false))
        (cond (a0.2.1==(2:Int))
         (Option.bind (aH a0.2.2.2.2.1) fun y1171=>
          cond y1171
          (Option.bind (aI a0.2.2.2.2.2) fun y1172=>
           kx y1172)
          (kx Bool.false))
         (kx Bool.false)))
       (cond (a0.2.1==(1:Int))
        (cond ((a0.2.2.2.2.2.1==(0:Int))&&(((a0.2.2.2.2.2.2.1==(0:Int))&&((a0.2.2.2.2.2.2.2.1==(0:Int))&&((a0.2.2.2.2.2.2.2.2==(0:Int))&&Bool.true)))&&Bool.true))
         (Option.bind (aH a0.2.2.2.2.1) fun y1173=>
          cond y1173
          (Option.bind (aI a0.2.2.2.2.2) fun y1174=>
           kx y1174)
          (kx Bool.false))
         (cond (a0.2.1==(2:Int))
          (Option.bind (aH a0.2.2.2.2.1) fun y1175=>
           cond y1175
           (Option.bind (aI a0.2.2.2.2.2) fun y1176=>
            kx y1176)
           (kx Bool.false))
          (kx Bool.false)))
        (kx Bool.false))))))))
def am(a0:Cn):Option (Bool):=be some a0
theorem Ek{R} kx a0: @be R kx a0=(am a0).bind kx:=by
 unfold am be
 exact ac fun _=>ae rfl (ac fun _=>ae rfl (ac fun _=>ae rfl (ac fun _=>ae rfl (ae (ac fun _=>ae rfl (ae (ae rfl (ae (ae (ac fun _=>ae (ac fun _=>rfl) rfl) (ae (ac fun _=>ae (ac fun _=>rfl) rfl) rfl)) (ae (ae (ac fun _=>ae (ac fun _=>rfl) rfl) (ae (ac fun _=>ae (ac fun _=>rfl) rfl) rfl)) rfl))) (ae (ae (ac fun _=>ae (ac fun _=>rfl) rfl) (ae (ac fun _=>ae (ac fun _=>rfl) rfl) rfl)) (ae (ae (ac fun _=>ae (ac fun _=>rfl) rfl) (ae (ac fun _=>ae (ac fun _=>rfl) rfl) rfl)) rfl)))) (ae (ae rfl (ae (ae (ac fun _=>ae (ac fun _=>rfl) rfl) (ae (ac fun _=>ae (ac fun _=>rfl) rfl) rfl)) (ae (ae (ac fun _=>ae (ac fun _=>rfl) rfl) (ae (ac fun _=>ae (ac fun _=>rfl) rfl) rfl)) rfl))) (ae (ae (ac fun _=>ae (ac fun _=>rfl) rfl) (ae (ac fun _=>ae (ac fun _=>rfl) rfl) rfl)) (ae (ae (ac fun _=>ae (ac fun _=>rfl) rfl) (ae (ac fun _=>ae (ac fun _=>rfl) rfl) rfl)) rfl)))))))
abbrev wS:af:=.fx [.val true yC] (Bool) (fun z=>am z.1) (fun b=>(.one ⟨false,[(.v (.bool b))]⟩,[]))
theorem EY:ag C0 47 wS:=
 ag.fx (e:=false) (.cons EC (.cons zB (.cons kt (.cons fj (.cons dK (.nil)))))) mixed Tryz.func47 (by kernel_rfl) (by kernel_rfl) al 1 ai (fun z=>(by kernel_rfl:_=be (fun b=>some (wS.enc b)) z.1).trans (Ek _ z.1))
end
end Go.Proofs.YtjkljnflaifbhaaGreatDoor
