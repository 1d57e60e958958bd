/- No conditions. -/
import Derived.Test.YtjkljnflaifbhaaGreatDoorW1Y
import Derived.Test.YtjkljnflaifbhaaGreatDoorAL1
namespace Go.Proofs.YtjkljnflaifbhaaGreatDoor
open Go.Vai
set_option maxRecDepth 100000
noncomputable section
abbrev Ln:=(Int×Nm)
abbrev Pt:=(Nm×Nm)
abbrev yN:Ty:=.pair (.int .i64) (.pair (.int .i64) (.int .i64))
abbrev yP:Ty:=.pair yN yN
abbrev yL:Ty:=.pair (.int .i64) yN
def oO{R:Type}(kx:Bool->Option R)(a0:(List Int))(a1:(List Int)):Option R:=
 cond (decide (((List.length a0:Nat):Int)>(3000:Int)))
 (kx Bool.true)
 (kx (decide (((List.length a1:Nat):Int)>(3000:Int))))
def mA(a0:(List Int))(a1:(List Int)):Option (Bool):=oO some a0 a1
theorem F4{R} kx a0 a1: @oO R kx a0 a1=(mA a0 a1).bind kx:=by
 unfold mA oO
 exact ae rfl rfl
abbrev wz:af:=.fx [.val false (.slice (.int .u8)), .val false (.slice (.int .u8))] (Bool) (fun z=>mA z.1 z.2.1) (fun b=>(.one ⟨false,[(.v (.bool b))]⟩,[]))
theorem Ic:ag C0 27 wz:=
 ag.fx (e:=false) (.nil) mixed Tryz.func27 (by kernel_rfl) (by kernel_rfl) aG 1 ai (fun z=>(by kernel_rfl:_=oO (fun b=>some (wz.enc b)) z.1 z.2.1).trans (F4 _ z.1 z.2.1))
def qQ{R:Type}(kx:((List Int)×(Int×Int))->Option R)(a0:(List Int)):Option R:=
 kx (a0,((0:Int),(0:Int)))
def jI(a0:(List Int)):Option (((List Int)×(Int×Int))):=qQ some a0
theorem EB{R} kx a0: @qQ R kx a0=(jI a0).bind kx:=by
 unfold jI qQ
 exact rfl
abbrev zv:af:=.fx [.val false (.slice (.int .u8))] (((List Int)×(Int×Int))) (fun z=>jI z.1) (fun b=>(.one ⟨false,[(.np [(.sl (.int .u8) b.1),(.v (.int .i64 b.2.1)),(.v (.int .u64 b.2.2))])]⟩,[]))
theorem yC:ag C0 71 zv:=
 ag.fx (e:=false) (.nil) mixed Tryz.func71 (by kernel_rfl) (by kernel_rfl) aG 1 ai (fun z=>(by kernel_rfl:_=qQ (fun b=>some (zv.enc b)) z.1).trans (EB _ z.1))
def jZ{R:Type}(kx:Int×(List Int×(Int×Int))->Option R)(a0_0:List Int)(a0_1:Int)(a0_2:Int):Option R:=
 cond (decide (a0_1<((List.length a0_0:Nat):Int)))
 (Option.bind (vu a0_0 a0_1) fun y22=>
  cond (decide ((IntKind.wrap .i64 (a0_1+(1:Int)))<=((List.length a0_0:Nat):Int)))
  (kx ((IntKind.wrap .i64 y22),(a0_0,((IntKind.wrap .i64 (a0_1+(1:Int))),(IntKind.wrap IntKind.u64 ((IntKind.wrap IntKind.u64 ((IntKind.wrap IntKind.u64 (a0_2*(6364136223846793005:Int)))+(IntKind.wrap IntKind.u64 (IntKind.wrap .i64 y22))))+(1442695040888963407:Int)))))))
  (kx ((IntKind.wrap .i64 (IntKind.wrap IntKind.u64 (((BitVec.toNat ((BitVec.ofInt 64 (Int.fdiv (IntKind.wrap IntKind.u64 ((IntKind.wrap IntKind.u64 ((IntKind.wrap IntKind.u64 (a0_2*(6364136223846793005:Int)))+(IntKind.wrap IntKind.u64 (IntKind.wrap .i64 y22))))+(1442695040888963407:Int))) ((2:Int)^(Min.min (Int.toNat (40:Int)) 64))))&&&(BitVec.ofInt 64 (255:Int)))):Nat):Int))),(a0_0,((IntKind.wrap .i64 (a0_1+(1:Int))),(IntKind.wrap IntKind.u64 ((IntKind.wrap IntKind.u64 ((IntKind.wrap IntKind.u64 (a0_2*(6364136223846793005:Int)))+(IntKind.wrap IntKind.u64 (IntKind.wrap .i64 y22))))+(1442695040888963407:Int))))))))
 (cond (decide ((IntKind.wrap .i64 (a0_1+(1:Int)))<=((List.length a0_0:Nat):Int)))
  (kx ((0:Int),(a0_0,((IntKind.wrap .i64 (a0_1+(1:Int))),(IntKind.wrap IntKind.u64 ((IntKind.wrap IntKind.u64 ((IntKind.wrap IntKind.u64 (a0_2*(6364136223846793005:Int)))+(IntKind.wrap IntKind.u64 (0:Int))))+(1442695040888963407:Int)))))))
  (kx ((IntKind.wrap .i64 (IntKind.wrap IntKind.u64 (((BitVec.toNat ((BitVec.ofInt 64 (Int.fdiv (IntKind.wrap IntKind.u64 ((IntKind.wrap IntKind.u64 ((IntKind.wrap IntKind.u64 (a0_2*(6364136223846793005:Int)))+(IntKind.wrap IntKind.u64 (0:Int))))+(1442695040888963407:Int))) ((2:Int)^(Min.min (Int.toNat (40:Int)) 64))))&&&(BitVec.ofInt 64 (255:Int)))):Nat):Int))),(a0_0,((IntKind.wrap .i64 (a0_1+(1:Int))),(IntKind.wrap IntKind.u64 ((IntKind.wrap IntKind.u64 ((IntKind.wrap IntKind.u64 (a0_2*(6364136223846793005:Int)))+(IntKind.wrap IntKind.u64 (0:Int))))+(1442695040888963407:Int))))))))
def fp(a0_0:List Int)(a0_1:Int)(a0_2:Int):Option (Int×(List Int×(Int×Int))):=jZ some a0_0 a0_1 a0_2
theorem zS{R} kx a0_0 a0_1 a0_2: @jZ R kx a0_0 a0_1 a0_2=(fp a0_0 a0_1 a0_2).bind kx:=by
 unfold fp jZ
 exact ae (ac fun _=>ae rfl rfl) (ae rfl rfl)
abbrev td:Int×(List Int×(Int×Int))->AV×List (List CV):=fun b=>(.one ⟨false,[(.v (.int .i64 b.1))]⟩,[[(.sl (.int .u8) b.2.1),(.v (.int .i64 b.2.2.1)),(.v (.int .u64 b.2.2.2))]])
abbrev B4:af:=.fb [.rw [(.sl (.int .u8)),(.int .i64),(.int .u64)]] (Int×(List Int×(Int×Int))) (fun z=>fp z.1.1 z.1.2.1 z.1.2.2.1) td
theorem Bl:ag C0 210 B4:=
 ag.fb (e:=false) (.nil) mixed Tryz.func210 (by kernel_rfl) (by kernel_rfl) aG 1 ai (fun z=>(by kernel_rfl:_=jZ (fun b=>some (td b)) z.1.1 z.1.2.1 z.1.2.2.1).trans (zS _ z.1.1 z.1.2.1 z.1.2.2.1))
def ka{R:Type}(kx:Int×(List Int×(Int×Int))->Option R)(a0_0:List Int)(a0_1:Int)(a0_2:Int)(a1:Int):Option R:=
 cond (decide (a1<=(1:Int)))
 (kx ((0:Int),(a0_0,(a0_1,a0_2))))
 (Option.bind (fp a0_0 a0_1 a0_2) fun y23=>
  cond (decide (a1>(200:Int)))
  (Option.bind (fp y23.2.1 y23.2.2.1 y23.2.2.2) fun y24=>
   cond (decide (a1=(0:Int)))
   none
   (kx ((Int.tmod (IntKind.wrap .i64 ((IntKind.wrap .i64 (y23.1*(256:Int)))+y24.1)) a1),y24.2)))
  (cond (decide (a1=(0:Int)))
   none
   (kx ((Int.tmod y23.1 a1),y23.2))))
def aY(a0_0:List Int)(a0_1:Int)(a0_2:Int)(a1:Int):Option (Int×(List Int×(Int×Int))):=ka some a0_0 a0_1 a0_2 a1
theorem zT{R} kx a0_0 a0_1 a0_2 a1: @ka R kx a0_0 a0_1 a0_2 a1=(aY a0_0 a0_1 a0_2 a1).bind kx:=by
 unfold aY ka
 exact ae rfl (ac fun _=>ae (ac fun _=>ae rfl rfl) (ae rfl rfl))
abbrev te:Int×(List Int×(Int×Int))->AV×List (List CV):=fun b=>(.one ⟨false,[(.v (.int .i64 b.1))]⟩,[[(.sl (.int .u8) b.2.1),(.v (.int .i64 b.2.2.1)),(.v (.int .u64 b.2.2.2))]])
abbrev B5:af:=.fb [.rw [(.sl (.int .u8)),(.int .i64),(.int .u64)], .val false (.int .i64)] (Int×(List Int×(Int×Int))) (fun z=>aY z.1.1 z.1.2.1 z.1.2.2.1 z.2.1) te
theorem gr:ag C0 138 B5:=
 ag.fb (e:=false) (.cons Bl (.nil)) mixed Tryz.func138 (by kernel_rfl) (by kernel_rfl) aG 1 ai (fun z=>(by kernel_rfl:_=ka (fun b=>some (te b)) z.1.1 z.1.2.1 z.1.2.2.1 z.2.1).trans (zT _ z.1.1 z.1.2.1 z.1.2.2.1 z.2.1))
def kI{R:Type}(kx:Bool×(List Int×(Int×Int))->Option R)(a0_0:List Int)(a0_1:Int)(a0_2:Int)(a1:Int):Option R:=
 Option.bind (aY a0_0 a0_1 a0_2 a1) fun y25=>
 kx ((y25.1==(0:Int)),y25.2)
def cg(a0_0:List Int)(a0_1:Int)(a0_2:Int)(a1:Int):Option (Bool×(List Int×(Int×Int))):=kI some a0_0 a0_1 a0_2 a1
theorem Bc{R} kx a0_0 a0_1 a0_2 a1: @kI R kx a0_0 a0_1 a0_2 a1=(cg a0_0 a0_1 a0_2 a1).bind kx:=by
 unfold cg kI
 exact ac fun _=>rfl
abbrev uz:Bool×(List Int×(Int×Int))->AV×List (List CV):=fun b=>(.one ⟨false,[(.v (.bool b.1))]⟩,[[(.sl (.int .u8) b.2.1),(.v (.int .i64 b.2.2.1)),(.v (.int .u64 b.2.2.2))]])
abbrev Da:af:=.fb [.rw [(.sl (.int .u8)),(.int .i64),(.int .u64)], .val false (.int .i64)] (Bool×(List Int×(Int×Int))) (fun z=>cg z.1.1 z.1.2.1 z.1.2.2.1 z.2.1) uz
theorem pT:ag C0 73 Da:=
 ag.fb (e:=false) (.cons gr (.nil)) mixed Tryz.func73 (by kernel_rfl) (by kernel_rfl) aG 1 ai (fun z=>(by kernel_rfl:_=kI (fun b=>some (uz b)) z.1.1 z.1.2.1 z.1.2.2.1 z.2.1).trans (Bc _ z.1.1 z.1.2.1 z.1.2.2.1 z.2.1))
def jm{R:Type}(kx:Int×(List Int×(Int×Int))->Option R)(a0_0:List Int)(a0_1:Int)(a0_2:Int)(a1:(List Int)):Option R:=
 Option.bind (aY a0_0 a0_1 a0_2 ((List.length a1:Nat):Int)) fun y43=>
 Option.bind (vu a1 y43.1) fun y44=>
 kx (y44,y43.2)
def bZ(a0_0:List Int)(a0_1:Int)(a0_2:Int)(a1:(List Int)):Option (Int×(List Int×(Int×Int))):=jm some a0_0 a0_1 a0_2 a1
theorem yS{R} kx a0_0 a0_1 a0_2 a1: @jm R kx a0_0 a0_1 a0_2 a1=(bZ a0_0 a0_1 a0_2 a1).bind kx:=by
 unfold bZ jm
 exact ac fun _=>ac fun _=>rfl
abbrev sh:Int×(List Int×(Int×Int))->AV×List (List CV):=fun b=>(.one ⟨false,[(.v (.int .i64 b.1))]⟩,[[(.sl (.int .u8) b.2.1),(.v (.int .i64 b.2.2.1)),(.v (.int .u64 b.2.2.2))]])
abbrev AQ:af:=.fb [.rw [(.sl (.int .u8)),(.int .i64),(.int .u64)], .val false (.slice (.int .i64))] (Int×(List Int×(Int×Int))) (fun z=>bZ z.1.1 z.1.2.1 z.1.2.2.1 z.2.1) sh
theorem Ac:ag C0 211 AQ:=
 ag.fb (e:=false) (.cons gr (.nil)) mixed Tryz.func211 (by kernel_rfl) (by kernel_rfl) aG 1 ai (fun z=>(by kernel_rfl:_=jm (fun b=>some (sh b)) z.1.1 z.1.2.1 z.1.2.2.1 z.2.1).trans (yS _ z.1.1 z.1.2.1 z.1.2.2.1 z.2.1))
def rH:List (FuncId×af):=[]
abbrev eI:LS:=⟨[(false,[(.ptr 1 0)]),(false,[(.ptr 2 0)])],[(false,[(.int .i64),(.int .i64),(.int .i64)]),(false,[(.int .i64),(.int .i64),(.int .i64)])],[]⟩
abbrev vN:LS:=⟨[(false,[(.ptr 1 0)]),(false,[(.ptr 2 0)])],[(false,[(.int .i64),(.int .i64),(.int .i64)]),(false,[(.int .i64),(.int .i64),(.int .i64)])],[]⟩
abbrev mN(v0:Int)(v1:Int)(v2:Int)(v3:Int)(v4:Int)(v5:Int):=(((((),()),((),()),()),((v0,v1,v2,()),(v3,v4,v5,()),()),()):vN.T)
abbrev eK:List (Ex×LS):=[(.exit 0,vN)]
abbrev me(b0_0:Int)(b0_1:Int)(b0_2:Int)(b1_0:Int)(b1_1:Int)(b1_2:Int):=(((((),()),((),()),()),((b0_0,b0_1,b0_2,()),(b1_0,b1_1,b1_2,()),()),()):eI.T)
def iZ{R:Type}(nx:eI.T->Option R)(hx:ma R eK)(b0_0:Int)(b0_1:Int)(b0_2:Int)(b1_0:Int)(b1_1:Int)(b1_2:Int):Option R:=
 cond (decide (b0_2>(0:Int)))
 (cond ((Int.tmod b0_0 (2:Int))==(0:Int))
  (cond ((Int.tmod b0_1 (2:Int))==(0:Int))
   (nx (me (IntKind.wrap .i64 (Int.tdiv b0_0 (2:Int))) (IntKind.wrap .i64 (Int.tdiv b0_1 (2:Int))) (IntKind.wrap .i64 (b0_2-(1:Int))) b1_0 b1_1 b1_2))
   (hx.1 (mN b0_0 b0_1 b0_2 b1_0 b1_1 b1_2)))
  (hx.1 (mN b0_0 b0_1 b0_2 b1_0 b1_1 b1_2)))
 (hx.1 (mN b0_0 b0_1 b0_2 b1_0 b1_1 b1_2))
def sX{R:Type}(nx:eI.T->Option R)(hx:ma R eK)(z:eI.T):Option R:=iZ nx hx z.2.1.1.1 z.2.1.1.2.1 z.2.1.1.2.2.1 z.2.1.2.1.1 z.2.1.2.1.2.1 z.2.1.2.1.2.2.1
theorem wc:fR @sX:=fun R nx hx z=>by
 show iZ nx hx z.2.1.1.1 z.2.1.1.2.1 z.2.1.1.2.2.1 z.2.1.2.1.1 z.2.1.2.1.2.1 z.2.1.2.1.2.2.1=(iZ (fun y=>some (.inl y)) (rf eK fun x=>some (.inr x)) z.2.1.1.1 z.2.1.1.2.1 z.2.1.1.2.2.1 z.2.1.2.1.1 z.2.1.2.1.2.1 z.2.1.2.1.2.2.1).bind (tE nx hx)
 unfold iZ
 exact ae (ae (ae rfl rfl) rfl) rfl
def ja:eI.T->Option (wL eK):=D4 @sX
theorem xC b0_0 b0_1 b0_2 b1_0 b1_1 b1_2:ja (me b0_0 b0_1 b0_2 b1_0 b1_1 b1_2)=iZ ja (rf eK some) b0_0 b0_1 b0_2 b1_0 b1_1 b1_2:=kU wc _
def nU:dz:=⟨[1,2],[1,2],[1,2],[1,2]⟩
def rL:iG Rv:=⟨fun k=>match k with|4=>nU|_=>⟨[],[],[],[]⟩,fun k=>match k with|4=>some (fZ eI eK ja)|_=>none⟩
theorem EX(n:Nat)(z:eI.T)(k:Ex->kf->Option Rv):eg ⟨40,40⟩ nU (vt (om C0 rH) ⟨40,40⟩ rL 1 (dt Tryz.f214 3)) (n+1) (eI.enc z) k=
 sX (fun y=>eg ⟨40,40⟩ nU (vt (om C0 rH) ⟨40,40⟩ rL 1 (dt Tryz.f214 3)) n (eI.enc y) k) (hK k eK) z:=by kernel_rfl
theorem Hd:bC (om C0 rH) ⟨40,40⟩ rL 1 (fe (cu Tryz.f214)):=by
 have hl:fe (cu Tryz.f214)=[dt Tryz.f214 3]:=by kernel_rfl
 rw[hl]
 exact bC.cons (n:=4) (lh:=nU) (S:=fZ eI eK ja) (by kernel_rfl) rfl rfl (ky wc EX)
  (bC.nil)
def oT{R:Type}(kx:Nm->Option R)(a0:Nm):Option R:=
 cond (a0.1==(0:Int))
 (cond (a0.2.1==(0:Int))
  (kx ((0:Int),((0:Int),(0:Int))))
  (Option.bind (ja (me a0.1 a0.2.1 a0.2.2 (0:Int) (0:Int) (0:Int))) (sj eK
   (fun e56=>
    kx ((e56.2.1.1.1:Int),((e56.2.1.1.2.1:Int),(e56.2.1.1.2.2.1:Int))),()))))
 (Option.bind (ja (me a0.1 a0.2.1 a0.2.2 (0:Int) (0:Int) (0:Int))) (sj eK
  (fun e63=>
   kx ((e63.2.1.1.1:Int),((e63.2.1.1.2.1:Int),(e63.2.1.1.2.2.1:Int))),())))
def eF(a0:Nm):Option (Nm):=oT some a0
theorem F8{R} kx a0: @oT R kx a0=(eF a0).bind kx:=by
 unfold eF oT
 exact ae (ae rfl (dM ⟨fun _=>rfl,trivial⟩)) (dM ⟨fun _=>rfl,trivial⟩)
abbrev wB:af:=.fx [.val true yN] (Nm) (fun z=>eF z.1) (fun b=>(.one ⟨true,[(.v (.int .i64 b.1)),(.v (.int .i64 b.2.1)),(.v (.int .i64 b.2.2))]⟩,[]))
theorem ve:ag C0 214 wB:=
 ag.fx (e:=false) (t:=rH) (.nil) mixed Tryz.func214 (by kernel_rfl) (by kernel_rfl) rL 1 Hd (fun z=>(by kernel_rfl:_=oT (fun b=>some (wB.enc b)) z.1).trans (F8 _ z.1))
def qR{R:Type}(kx:Bool->Option R)(a0:Int)(a1:Int)(a2:Int):Option R:=
 cond (decide (a0>=a1))
 (kx (decide (a0<=a2)))
 (kx Bool.false)
def ij(a0:Int)(a1:Int)(a2:Int):Option (Bool):=qR some a0 a1 a2
theorem HB{R} kx a0 a1 a2: @qR R kx a0 a1 a2=(ij a0 a1 a2).bind kx:=by
 unfold ij qR
 exact ae rfl rfl
abbrev C9:af:=.fx [.val false (.int .i64), .val false (.int .i64), .val false (.int .i64)] (Bool) (fun z=>ij z.1 z.2.1 z.2.2.1) (fun b=>(.one ⟨false,[(.v (.bool b))]⟩,[]))
theorem BJ:ag C0 118 C9:=
 ag.fx (e:=false) (.nil) mixed Tryz.func118 (by kernel_rfl) (by kernel_rfl) aG 1 ai (fun z=>(by kernel_rfl:_=qR (fun b=>some (C9.enc b)) z.1 z.2.1 z.2.2.1).trans (HB _ z.1 z.2.1 z.2.2.1))
def qS{R:Type}(kx:Bool->Option R)(a0:Nm):Option R:=
 Option.bind (ij a0.1 (-(131072:Int)) (131072:Int)) fun y75=>
 cond (!y75)
 (kx Bool.false)
 (Option.bind (ij a0.2.1 (-(131072:Int)) (131072:Int)) fun y76=>
  cond (!y76)
  (kx Bool.false)
  (Option.bind (ij a0.2.2 (0:Int) (10:Int)) fun y77=>
   cond (!y77)
   (kx Bool.false)
   (cond (a0.2.2==(0:Int))
    (kx Bool.true)
    (cond ((Int.tmod a0.1 (2:Int)) !=(0:Int))
     (kx Bool.true)
     (kx ((Int.tmod a0.2.1 (2:Int)) !=(0:Int)))))))
def jq(a0:Nm):Option (Bool):=qS some a0
theorem HD{R} kx a0: @qS R kx a0=(jq a0).bind kx:=by
 unfold jq qS
 exact ac fun _=>ae rfl (ac fun _=>ae rfl (ac fun _=>ae rfl (ae rfl (ae rfl rfl))))
abbrev Dc:af:=.fx [.val true yN] (Bool) (fun z=>jq z.1) (fun b=>(.one ⟨false,[(.v (.bool b))]⟩,[]))
theorem BL:ag C0 192 Dc:=
 ag.fx (e:=false) (.cons BJ (.nil)) mixed Tryz.func192 (by kernel_rfl) (by kernel_rfl) aG 1 ai (fun z=>(by kernel_rfl:_=qS (fun b=>some (Dc.enc b)) z.1).trans (HD _ z.1))
def kS{R:Type}(kx:Nm×Bool->Option R)(a0:Nm):Option R:=
 Option.bind (eF a0) fun y70=>
 Option.bind (jq y70) fun y78=>
 cond (!y78)
 (kx (((0:Int),((0:Int),(0:Int))),Bool.false))
 (kx (y70,Bool.true))
def bz(a0:Nm):Option (Nm×Bool):=kS some a0
theorem Gb{R} kx a0: @kS R kx a0=(bz a0).bind kx:=by
 unfold bz kS
 exact ac fun _=>ac fun _=>ae rfl rfl
abbrev BA:af:=.fx [.val true yN] (Nm×Bool) (fun z=>bz z.1) (fun b=>(.tup [⟨true,[(.v (.int .i64 b.1.1)),(.v (.int .i64 b.1.2.1)),(.v (.int .i64 b.1.2.2))]⟩,⟨false,[(.v (.bool b.2))]⟩],[]))
theorem vj:ag C0 212 BA:=
 ag.fx (e:=false) (.cons ve (.cons BL (.nil))) mixed Tryz.func212 (by kernel_rfl) (by kernel_rfl) aG 1 ai (fun z=>(by kernel_rfl:_=kS (fun b=>some (BA.enc b)) z.1).trans (Gb _ z.1))
def nD{R:Type}(kx:Nm×(List Int×(Int×Int))->Option R)(a0_0:List Int)(a0_1:Int)(a0_2:Int):Option R:=
 Option.bind (aY a0_0 a0_1 a0_2 (9:Int)) fun y33=>
 Option.bind (cg y33.2.1 y33.2.2.1 y33.2.2.2 (3:Int)) fun y34=>
 cond y34.1
 (Option.bind (aY y34.2.1 y34.2.2.1 y34.2.2.2 (9:Int)) fun y35=>
  Option.bind (cg y35.2.1 y35.2.2.1 y35.2.2.2 (3:Int)) fun y36=>
  cond y36.1
  (Option.bind (aY y36.2.1 y36.2.2.1 y36.2.2.2 (4:Int)) fun y37=>
   Option.bind (cg y37.2.1 y37.2.2.1 y37.2.2.2 (12:Int)) fun y38=>
   cond y38.1
   (Option.bind (bZ y38.2.1 y38.2.2.1 y38.2.2.2 [(131072:Int),(-(131072:Int)),(99999:Int),(46341:Int),(1:Int)]) fun y45=>
    Option.bind (bZ y45.2.1 y45.2.2.1 y45.2.2.2 [(131072:Int),(-(131072:Int)),(-(92681:Int)),(-(70710:Int)),(32768:Int)]) fun y46=>
    Option.bind (aY y46.2.1 y46.2.2.1 y46.2.2.2 (11:Int)) fun y47=>
    Option.bind (bz (y45.1,(y46.1,y47.1))) fun y79=>
    cond (!y79.2)
    (kx (((1:Int),((0:Int),(0:Int))),y47.2))
    (kx (y79.1,y47.2)))
   (Option.bind (bz ((IntKind.wrap .i64 (y33.1-(4:Int))),((IntKind.wrap .i64 (y35.1-(4:Int))),y37.1))) fun y80=>
    cond (!y80.2)
    (kx (((1:Int),((0:Int),(0:Int))),y38.2))
    (kx (y80.1,y38.2))))
  (Option.bind (cg y36.2.1 y36.2.2.1 y36.2.2.2 (12:Int)) fun y81=>
   cond y81.1
   (Option.bind (bZ y81.2.1 y81.2.2.1 y81.2.2.2 [(131072:Int),(-(131072:Int)),(99999:Int),(46341:Int),(1:Int)]) fun y82=>
    Option.bind (bZ y82.2.1 y82.2.2.1 y82.2.2.2 [(131072:Int),(-(131072:Int)),(-(92681:Int)),(-(70710:Int)),(32768:Int)]) fun y83=>
    Option.bind (aY y83.2.1 y83.2.2.1 y83.2.2.2 (11:Int)) fun y84=>
    Option.bind (bz (y82.1,(y83.1,y84.1))) fun y85=>
    cond (!y85.2)
    (kx (((1:Int),((0:Int),(0:Int))),y84.2))
    (kx (y85.1,y84.2)))
   (Option.bind (bz ((IntKind.wrap .i64 (y33.1-(4:Int))),((IntKind.wrap .i64 (y35.1-(4:Int))),(0:Int)))) fun y86=>
    cond (!y86.2)
    (kx (((1:Int),((0:Int),(0:Int))),y81.2))
    (kx (y86.1,y81.2)))))
 (Option.bind (cg y34.2.1 y34.2.2.1 y34.2.2.2 (3:Int)) fun y87=>
  cond y87.1
  (Option.bind (aY y87.2.1 y87.2.2.1 y87.2.2.2 (4:Int)) fun y88=>
   Option.bind (cg y88.2.1 y88.2.2.1 y88.2.2.2 (12:Int)) fun y89=>
   cond y89.1
   (Option.bind (bZ y89.2.1 y89.2.2.1 y89.2.2.2 [(131072:Int),(-(131072:Int)),(99999:Int),(46341:Int),(1:Int)]) fun y90=>
    Option.bind (bZ y90.2.1 y90.2.2.1 y90.2.2.2 [(131072:Int),(-(131072:Int)),(-(92681:Int)),(-(70710:Int)),(32768:Int)]) fun y91=>
    Option.bind (aY y91.2.1 y91.2.2.1 y91.2.2.2 (11:Int)) fun y92=>
    Option.bind (bz (y90.1,(y91.1,y92.1))) fun y93=>
    cond (!y93.2)
    (kx (((1:Int),((0:Int),(0:Int))),y92.2))
    (kx (y93.1,y92.2)))
   (Option.bind (bz ((IntKind.wrap .i64 (y33.1-(4:Int))),((0:Int),y88.1))) fun y94=>
    cond (!y94.2)
    (kx (((1:Int),((0:Int),(0:Int))),y89.2))
    (kx (y94.1,y89.2))))
  (Option.bind (cg y87.2.1 y87.2.2.1 y87.2.2.2 (12:Int)) fun y95=>
   cond y95.1
   (Option.bind (bZ y95.2.1 y95.2.2.1 y95.2.2.2 [(131072:Int),(-(131072:Int)),(99999:Int),(46341:Int),(1:Int)]) fun y96=>
    Option.bind (bZ y96.2.1 y96.2.2.1 y96.2.2.2 [(131072:Int),(-(131072:Int)),(-(92681:Int)),(-(70710:Int)),(32768:Int)]) fun y97=>
    Option.bind (aY y97.2.1 y97.2.2.1 y97.2.2.2 (11:Int)) fun y98=>
    Option.bind (bz (y96.1,(y97.1,y98.1))) fun y99=>
    cond (!y99.2)
    (kx (((1:Int),((0:Int),(0:Int))),y98.2))
    (kx (y99.1,y98.2)))
   (Option.bind (bz ((IntKind.wrap .i64 (y33.1-(4:Int))),((0:Int),(0:Int)))) fun y100=>
    cond (!y100.2)
    (kx (((1:Int),((0:Int),(0:Int))),y95.2))
    (kx (y100.1,y95.2)))))
def fW(a0_0:List Int)(a0_1:Int)(a0_2:Int):Option (Nm×(List Int×(Int×Int))):=nD some a0_0 a0_1 a0_2
theorem EC{R} kx a0_0 a0_1 a0_2: @nD R kx a0_0 a0_1 a0_2=(fW a0_0 a0_1 a0_2).bind kx:=by
 unfold fW nD
 exact ac fun _=>ac fun _=>ae (ac fun _=>ac fun _=>ae (ac fun _=>ac fun _=>ae (ac fun _=>ac fun _=>ac fun _=>ac fun _=>ae rfl rfl) (ac fun _=>ae rfl rfl)) (ac fun _=>ae (ac fun _=>ac fun _=>ac fun _=>ac fun _=>ae rfl rfl) (ac fun _=>ae rfl rfl))) (ac fun _=>ae (ac fun _=>ac fun _=>ae (ac fun _=>ac fun _=>ac fun _=>ac fun _=>ae rfl rfl) (ac fun _=>ae rfl rfl)) (ac fun _=>ae (ac fun _=>ac fun _=>ac fun _=>ac fun _=>ae rfl rfl) (ac fun _=>ae rfl rfl)))
abbrev yk:Nm×(List Int×(Int×Int))->AV×List (List CV):=fun b=>(.one ⟨true,[(.v (.int .i64 b.1.1)),(.v (.int .i64 b.1.2.1)),(.v (.int .i64 b.1.2.2))]⟩,[[(.sl (.int .u8) b.2.1),(.v (.int .i64 b.2.2.1)),(.v (.int .u64 b.2.2.2))]])
abbrev Hl:af:=.fb [.rw [(.sl (.int .u8)),(.int .i64),(.int .u64)]] (Nm×(List Int×(Int×Int))) (fun z=>fW z.1.1 z.1.2.1 z.1.2.2.1) yk
theorem sT:ag C0 139 Hl:=
 ag.fb (e:=false) (.cons gr (.cons pT (.cons Ac (.cons vj (.nil))))) mixed Tryz.func139 (by kernel_rfl) (by kernel_rfl) aG 1 ai (fun z=>(by kernel_rfl:_=nD (fun b=>some (yk b)) z.1.1 z.1.2.1 z.1.2.2.1).trans (EC _ z.1.1 z.1.2.1 z.1.2.2.1))
def jo{R:Type}(kx:Pt×(List Int×(Int×Int))->Option R)(a0_0:List Int)(a0_1:Int)(a0_2:Int):Option R:=
 Option.bind (fW a0_0 a0_1 a0_2) fun y101=>
 Option.bind (fW y101.2.1 y101.2.2.1 y101.2.2.2) fun y102=>
 kx ((y101.1,y102.1),y102.2)
def eW(a0_0:List Int)(a0_1:Int)(a0_2:Int):Option (Pt×(List Int×(Int×Int))):=jo some a0_0 a0_1 a0_2
theorem yU{R} kx a0_0 a0_1 a0_2: @jo R kx a0_0 a0_1 a0_2=(eW a0_0 a0_1 a0_2).bind kx:=by
 unfold eW jo
 exact ac fun _=>ac fun _=>rfl
abbrev si:Pt×(List Int×(Int×Int))->AV×List (List CV):=fun b=>(.one ⟨true,[(.v (.int .i64 b.1.1.1)),(.v (.int .i64 b.1.1.2.1)),(.v (.int .i64 b.1.1.2.2)),(.v (.int .i64 b.1.2.1)),(.v (.int .i64 b.1.2.2.1)),(.v (.int .i64 b.1.2.2.2))]⟩,[[(.sl (.int .u8) b.2.1),(.v (.int .i64 b.2.2.1)),(.v (.int .u64 b.2.2.2))]])
abbrev AR:af:=.fb [.rw [(.sl (.int .u8)),(.int .i64),(.int .u64)]] (Pt×(List Int×(Int×Int))) (fun z=>eW z.1.1 z.1.2.1 z.1.2.2.1) si
theorem sA:ag C0 74 AR:=
 ag.fb (e:=false) (.cons sT (.nil)) mixed Tryz.func74 (by kernel_rfl) (by kernel_rfl) aG 1 ai (fun z=>(by kernel_rfl:_=jo (fun b=>some (si b)) z.1.1 z.1.2.1 z.1.2.2.1).trans (yU _ z.1.1 z.1.2.1 z.1.2.2.1))
def mw{R:Type}(kx:Pt×(List Int×(Int×Int))->Option R)(a0_0:List Int)(a0_1:Int)(a0_2:Int):Option R:=
 Option.bind (cg a0_0 a0_1 a0_2 (3:Int)) fun y26=>
 cond y26.1
 (Option.bind (eW y26.2.1 y26.2.2.1 y26.2.2.2) fun y103=>
  kx y103)
 (Option.bind (aY y26.2.1 y26.2.2.1 y26.2.2.2 (5:Int)) fun y104=>
  Option.bind (aY y104.2.1 y104.2.2.1 y104.2.2.2 (5:Int)) fun y105=>
  kx (((y104.1,((0:Int),(0:Int))),(y105.1,((0:Int),(0:Int)))),y105.2))
def kj(a0_0:List Int)(a0_1:Int)(a0_2:Int):Option (Pt×(List Int×(Int×Int))):=mw some a0_0 a0_1 a0_2
theorem Dy{R} kx a0_0 a0_1 a0_2: @mw R kx a0_0 a0_1 a0_2=(kj a0_0 a0_1 a0_2).bind kx:=by
 unfold kj mw
 exact ac fun _=>ae (ac fun _=>rfl) (ac fun _=>ac fun _=>rfl)
abbrev wW:Pt×(List Int×(Int×Int))->AV×List (List CV):=fun b=>(.one ⟨true,[(.v (.int .i64 b.1.1.1)),(.v (.int .i64 b.1.1.2.1)),(.v (.int .i64 b.1.1.2.2)),(.v (.int .i64 b.1.2.1)),(.v (.int .i64 b.1.2.2.1)),(.v (.int .i64 b.1.2.2.2))]⟩,[[(.sl (.int .u8) b.2.1),(.v (.int .i64 b.2.2.1)),(.v (.int .u64 b.2.2.2))]])
abbrev FQ:af:=.fb [.rw [(.sl (.int .u8)),(.int .i64),(.int .u64)]] (Pt×(List Int×(Int×Int))) (fun z=>kj z.1.1 z.1.2.1 z.1.2.2.1) wW
theorem EU:ag C0 72 FQ:=
 ag.fb (e:=false) (.cons pT (.cons sA (.cons gr (.nil)))) mixed Tryz.func72 (by kernel_rfl) (by kernel_rfl) aG 1 ai (fun z=>(by kernel_rfl:_=mw (fun b=>some (wW b)) z.1.1 z.1.2.1 z.1.2.2.1).trans (Dy _ z.1.1 z.1.2.1 z.1.2.2.1))
def oX{R:Type}(kx:Int->Option R)(a0:Int):Option R:=
 kx (Int.tmod (IntKind.wrap .i64 ((Int.tmod a0 (16:Int))+(16:Int))) (16:Int))
def kO(a0:Int):Option (Int):=oX some a0
theorem Ge{R} kx a0: @oX R kx a0=(kO a0).bind kx:=by
 unfold kO oX
 exact rfl
abbrev BC:af:=.fx [.val false (.int .i64)] (Int) (fun z=>kO z.1) (fun b=>(.one ⟨false,[(.v (.int .i64 b))]⟩,[]))
theorem Ii:ag C0 213 BC:=
 ag.fx (e:=false) (.nil) mixed Tryz.func213 (by kernel_rfl) (by kernel_rfl) aG 1 ai (fun z=>(by kernel_rfl:_=oX (fun b=>some (BC.enc b)) z.1).trans (Ge _ z.1))
def mG{R:Type}(kx:Pt->Option R)(a0:Int):Option R:=
 Option.bind (kO a0) fun y117=>
 Option.bind (vu [(((1:Int),((0:Int),(0:Int))),((0:Int),((0:Int),(0:Int)))),(((1:Int),((0:Int),(0:Int))),((-(1:Int)),((1:Int),(0:Int)))),(((1:Int),((0:Int),(0:Int))),((1:Int),((0:Int),(0:Int)))),(((-(1:Int)),((1:Int),(0:Int))),((1:Int),((0:Int),(0:Int)))),(((0:Int),((0:Int),(0:Int))),((1:Int),((0:Int),(0:Int)))),(((1:Int),((-(1:Int)),(0:Int))),((1:Int),((0:Int),(0:Int)))),(((-(1:Int)),((0:Int),(0:Int))),((1:Int),((0:Int),(0:Int)))),(((-(1:Int)),((0:Int),(0:Int))),((-(1:Int)),((1:Int),(0:Int))))] (Int.tmod y117 (8:Int))) fun y118=>
 cond (decide (y117>=(8:Int)))
 (kx (((IntKind.wrap .i64 ((0:Int)-y118.1.1)),((IntKind.wrap .i64 ((0:Int)-y118.1.2.1)),(0:Int))),((IntKind.wrap .i64 ((0:Int)-y118.2.1)),((IntKind.wrap .i64 ((0:Int)-y118.2.2.1)),(0:Int)))))
 (kx y118)
def cQ(a0:Int):Option (Pt):=mG some a0
theorem Gg{R} kx a0: @mG R kx a0=(cQ a0).bind kx:=by
 unfold cQ mG
 exact ac fun _=>ac fun _=>ae rfl rfl
abbrev BE:af:=.fx [.val false (.int .i64)] (Pt) (fun z=>cQ z.1) (fun b=>(.one ⟨true,[(.v (.int .i64 b.1.1)),(.v (.int .i64 b.1.2.1)),(.v (.int .i64 b.1.2.2)),(.v (.int .i64 b.2.1)),(.v (.int .i64 b.2.2.1)),(.v (.int .i64 b.2.2.2))]⟩,[]))
theorem Ag:ag C0 141 BE:=
 ag.fx (e:=false) (.cons Ii (.nil)) mixed Tryz.func141 (by kernel_rfl) (by kernel_rfl) aG 1 ai (fun z=>(by kernel_rfl:_=mG (fun b=>some (BE.enc b)) z.1).trans (Gg _ z.1))
def bX{R:Type}(kx:Nm->Option R)(a0:Nm):Option R:=
 kx a0
def aX(a0:Nm):Option (Nm):=bX some a0
theorem HC{R} kx a0: @bX R kx a0=(aX a0).bind kx:=by
 unfold aX bX
 exact rfl
abbrev Db:af:=.fx [.val true yN] (Nm) (fun z=>aX z.1) (fun b=>(.one ⟨true,[(.v (.int .i64 b.1)),(.v (.int .i64 b.2.1)),(.v (.int .i64 b.2.2))]⟩,[]))
theorem BK:ag C0 143 Db:=
 ag.fx (e:=false) (.nil) mixed Tryz.func143 (by kernel_rfl) (by kernel_rfl) aG 1 ai (fun z=>(by kernel_rfl:_=bX (fun b=>some (Db.enc b)) z.1).trans (HC _ z.1))
def cC{R:Type}(kx:Pt->Option R)(a0:Pt):Option R:=
 Option.bind (aX a0.1) fun y122=>
 Option.bind (aX a0.2) fun y123=>
 kx (y122,y123)
def aM(a0:Pt):Option (Pt):=cC some a0
theorem HE{R} kx a0: @cC R kx a0=(aM a0).bind kx:=by
 unfold aM cC
 exact ac fun _=>ac fun _=>rfl
abbrev Dd:af:=.fx [.val true yP] (Pt) (fun z=>aM z.1) (fun b=>(.one ⟨true,[(.v (.int .i64 b.1.1)),(.v (.int .i64 b.1.2.1)),(.v (.int .i64 b.1.2.2)),(.v (.int .i64 b.2.1)),(.v (.int .i64 b.2.2.1)),(.v (.int .i64 b.2.2.2))]⟩,[]))
theorem rS:ag C0 140 Dd:=
 ag.fx (e:=false) (.cons BK (.nil)) mixed Tryz.func140 (by kernel_rfl) (by kernel_rfl) aG 1 ai (fun z=>(by kernel_rfl:_=cC (fun b=>some (Dd.enc b)) z.1).trans (HE _ z.1))
def oU{R:Type}(kx:Nm->Option R)(a0:Nm)(a1:Nm):Option R:=
 Option.bind (eF ((IntKind.wrap .i64 ((IntKind.wrap .i64 (a0.1*a1.1))+(IntKind.wrap .i64 ((IntKind.wrap .i64 ((2:Int)*a0.2.1))*a1.2.1)))),((IntKind.wrap .i64 ((IntKind.wrap .i64 (a0.1*a1.2.1))+(IntKind.wrap .i64 (a0.2.1*a1.1)))),(IntKind.wrap .i64 (a0.2.2+a1.2.2))))) fun y129=>
 kx y129
def bK(a0:Nm)(a1:Nm):Option (Nm):=oU some a0 a1
theorem F9{R} kx a0 a1: @oU R kx a0 a1=(bK a0 a1).bind kx:=by
 unfold bK oU
 exact ac fun _=>rfl
abbrev By:af:=.fx [.val true yN, .val true yN] (Nm) (fun z=>bK z.1 z.2.1) (fun b=>(.one ⟨true,[(.v (.int .i64 b.1)),(.v (.int .i64 b.2.1)),(.v (.int .i64 b.2.2))]⟩,[]))
theorem Ad:ag C0 144 By:=
 ag.fx (e:=false) (.cons ve (.nil)) mixed Tryz.func144 (by kernel_rfl) (by kernel_rfl) aG 1 ai (fun z=>(by kernel_rfl:_=oU (fun b=>some (By.enc b)) z.1 z.2.1).trans (F9 _ z.1 z.2.1))
def my:List (FuncId×af):=[(214,wB)]
abbrev eG:LS:=⟨[(false,[(.ptr 2 0)]),(false,[(.ptr 3 0)]),(false,[(.ptr 4 0)])],[(false,[(.int .i64),(.int .i64),(.int .i64)]),(false,[(.int .i64),(.int .i64),(.int .i64)]),(false,[(.int .i64),(.int .i64),(.int .i64)])],[]⟩
abbrev vK:LS:=⟨[(false,[(.ptr 2 0)]),(false,[(.ptr 3 0)]),(false,[(.ptr 4 0)])],[(false,[(.int .i64),(.int .i64),(.int .i64)]),(false,[(.int .i64),(.int .i64),(.int .i64)]),(false,[(.int .i64),(.int .i64),(.int .i64)])],[]⟩
abbrev vH(v0:Int)(v1:Int)(v2:Int)(v3:Int)(v4:Int)(v5:Int)(v6:Int)(v7:Int)(v8:Int):=(((((),()),((),()),((),()),()),((v0,v1,v2,()),(v3,v4,v5,()),(v6,v7,v8,()),()),()):vK.T)
abbrev eJ:List (Ex×LS):=[(.exit 0,vK)]
abbrev pn(b0_0:Int)(b0_1:Int)(b0_2:Int)(b1_0:Int)(b1_1:Int)(b1_2:Int)(b2_0:Int)(b2_1:Int)(b2_2:Int):=(((((),()),((),()),((),()),()),((b0_0,b0_1,b0_2,()),(b1_0,b1_1,b1_2,()),(b2_0,b2_1,b2_2,()),()),()):eG.T)
def iX{R:Type}(nx:eG.T->Option R)(hx:ma R eJ)(b0_0:Int)(b0_1:Int)(b0_2:Int)(b1_0:Int)(b1_1:Int)(b1_2:Int)(b2_0:Int)(b2_1:Int)(b2_2:Int):Option R:=
 cond (decide (b0_2<b1_2))
 (nx (pn (IntKind.wrap .i64 (b0_0*(2:Int))) (IntKind.wrap .i64 (b0_1*(2:Int))) (IntKind.wrap .i64 (b0_2+(1:Int))) b1_0 b1_1 b1_2 b2_0 b2_1 b2_2))
 (hx.1 (vH b0_0 b0_1 b0_2 b1_0 b1_1 b1_2 b2_0 b2_1 b2_2))
def sV{R:Type}(nx:eG.T->Option R)(hx:ma R eJ)(z:eG.T):Option R:=iX nx hx z.2.1.1.1 z.2.1.1.2.1 z.2.1.1.2.2.1 z.2.1.2.1.1 z.2.1.2.1.2.1 z.2.1.2.1.2.2.1 z.2.1.2.2.1.1 z.2.1.2.2.1.2.1 z.2.1.2.2.1.2.2.1
theorem wa:fR @sV:=fun R nx hx z=>by
 show iX nx hx z.2.1.1.1 z.2.1.1.2.1 z.2.1.1.2.2.1 z.2.1.2.1.1 z.2.1.2.1.2.1 z.2.1.2.1.2.2.1 z.2.1.2.2.1.1 z.2.1.2.2.1.2.1 z.2.1.2.2.1.2.2.1=(iX (fun y=>some (.inl y)) (rf eJ fun x=>some (.inr x)) z.2.1.1.1 z.2.1.1.2.1 z.2.1.1.2.2.1 z.2.1.2.1.1 z.2.1.2.1.2.1 z.2.1.2.1.2.2.1 z.2.1.2.2.1.1 z.2.1.2.2.1.2.1 z.2.1.2.2.1.2.2.1).bind (tE nx hx)
 unfold iX
 exact ae rfl rfl
def ko:eG.T->Option (wL eJ):=D4 @sV
theorem xA b0_0 b0_1 b0_2 b1_0 b1_1 b1_2 b2_0 b2_1 b2_2:ko (pn b0_0 b0_1 b0_2 b1_0 b1_1 b1_2 b2_0 b2_1 b2_2)=iX ko (rf eJ some) b0_0 b0_1 b0_2 b1_0 b1_1 b1_2 b2_0 b2_1 b2_2:=kU wa _
def nS:dz:=⟨[2,3,4],[2,3,4],[2,3,4],[2,3,4]⟩
abbrev eH:LS:=⟨[(false,[(.ptr 2 0)]),(false,[(.ptr 3 0)]),(false,[(.ptr 4 0)])],[(false,[(.int .i64),(.int .i64),(.int .i64)]),(false,[(.int .i64),(.int .i64),(.int .i64)]),(false,[(.int .i64),(.int .i64),(.int .i64)])],[]⟩
abbrev vL:LS:=⟨[(false,[(.ptr 2 0)]),(false,[(.ptr 3 0)]),(false,[(.ptr 4 0)])],[(false,[(.int .i64),(.int .i64),(.int .i64)]),(false,[(.int .i64),(.int .i64),(.int .i64)]),(false,[(.int .i64),(.int .i64),(.int .i64)])],[]⟩
abbrev vI(v0:Int)(v1:Int)(v2:Int)(v3:Int)(v4:Int)(v5:Int)(v6:Int)(v7:Int)(v8:Int):=(((((),()),((),()),((),()),()),((v0,v1,v2,()),(v3,v4,v5,()),(v6,v7,v8,()),()),()):vL.T)
abbrev dZ:List (Ex×LS):=[(.exit 2,vL)]
abbrev po(b0_0:Int)(b0_1:Int)(b0_2:Int)(b1_0:Int)(b1_1:Int)(b1_2:Int)(b2_0:Int)(b2_1:Int)(b2_2:Int):=(((((),()),((),()),((),()),()),((b0_0,b0_1,b0_2,()),(b1_0,b1_1,b1_2,()),(b2_0,b2_1,b2_2,()),()),()):eH.T)
def iY{R:Type}(nx:eH.T->Option R)(hx:ma R dZ)(b0_0:Int)(b0_1:Int)(b0_2:Int)(b1_0:Int)(b1_1:Int)(b1_2:Int)(b2_0:Int)(b2_1:Int)(b2_2:Int):Option R:=
 cond (decide (b1_2<b0_2))
 (nx (po b0_0 b0_1 b0_2 (IntKind.wrap .i64 (b1_0*(2:Int))) (IntKind.wrap .i64 (b1_1*(2:Int))) (IntKind.wrap .i64 (b1_2+(1:Int))) b2_0 b2_1 b2_2))
 (hx.1 (vI b0_0 b0_1 b0_2 b1_0 b1_1 b1_2 b2_0 b2_1 b2_2))
def sW{R:Type}(nx:eH.T->Option R)(hx:ma R dZ)(z:eH.T):Option R:=iY nx hx z.2.1.1.1 z.2.1.1.2.1 z.2.1.1.2.2.1 z.2.1.2.1.1 z.2.1.2.1.2.1 z.2.1.2.1.2.2.1 z.2.1.2.2.1.1 z.2.1.2.2.1.2.1 z.2.1.2.2.1.2.2.1
theorem wb:fR @sW:=fun R nx hx z=>by
 show iY nx hx z.2.1.1.1 z.2.1.1.2.1 z.2.1.1.2.2.1 z.2.1.2.1.1 z.2.1.2.1.2.1 z.2.1.2.1.2.2.1 z.2.1.2.2.1.1 z.2.1.2.2.1.2.1 z.2.1.2.2.1.2.2.1=(iY (fun y=>some (.inl y)) (rf dZ fun x=>some (.inr x)) z.2.1.1.1 z.2.1.1.2.1 z.2.1.1.2.2.1 z.2.1.2.1.1 z.2.1.2.1.2.1 z.2.1.2.1.2.2.1 z.2.1.2.2.1.1 z.2.1.2.2.1.2.1 z.2.1.2.2.1.2.2.1).bind (tE nx hx)
 unfold iY
 exact ae rfl rfl
def kp:eH.T->Option (wL dZ):=D4 @sW
theorem xB b0_0 b0_1 b0_2 b1_0 b1_1 b1_2 b2_0 b2_1 b2_2:kp (po b0_0 b0_1 b0_2 b1_0 b1_1 b1_2 b2_0 b2_1 b2_2)=iY kp (rf dZ some) b0_0 b0_1 b0_2 b1_0 b1_1 b1_2 b2_0 b2_1 b2_2:=kU wb _
def nT:dz:=⟨[2,3,4],[2,3,4],[2,3,4],[2,3,4]⟩
def mC:iG Rv:=⟨fun k=>match k with|2=>nS|6=>nT|_=>⟨[],[],[],[]⟩,fun k=>match k with|2=>some (fZ eG eJ ko)|6=>some (fZ eH dZ kp)|_=>none⟩
theorem EV(n:Nat)(z:eG.T)(k:Ex->kf->Option Rv):eg ⟨53,53⟩ nS (vt (om C0 my) ⟨53,53⟩ mC 1 (dt Tryz.f142 1)) (n+1) (eG.enc z) k=
 sV (fun y=>eg ⟨53,53⟩ nS (vt (om C0 my) ⟨53,53⟩ mC 1 (dt Tryz.f142 1)) n (eG.enc y) k) (hK k eJ) z:=by kernel_rfl
theorem EW(n:Nat)(z:eH.T)(k:Ex->kf->Option Rv):eg ⟨53,53⟩ nT (vt (om C0 my) ⟨53,53⟩ mC 1 (dt Tryz.f142 5)) (n+1) (eH.enc z) k=
 sW (fun y=>eg ⟨53,53⟩ nT (vt (om C0 my) ⟨53,53⟩ mC 1 (dt Tryz.f142 5)) n (eH.enc y) k) (hK k dZ) z:=by kernel_rfl
theorem Hc:bC (om C0 my) ⟨53,53⟩ mC 1 (fe (cu Tryz.f142)):=by
 have hl:fe (cu Tryz.f142)=[dt Tryz.f142 1,dt Tryz.f142 5]:=by kernel_rfl
 rw[hl]
 exact bC.cons (n:=2) (lh:=nS) (S:=fZ eG eJ ko) (by kernel_rfl) rfl rfl (ky wa EV)
  (bC.cons (n:=6) (lh:=nT) (S:=fZ eH dZ kp) (by kernel_rfl) rfl rfl (ky wb EW)
  (bC.nil))
def oR{R:Type}(kx:Nm->Option R)(a0:Nm)(a1:Nm):Option R:=
 Option.bind (ko (pn a0.1 a0.2.1 a0.2.2 a1.1 a1.2.1 a1.2.2 (0:Int) (0:Int) (0:Int))) (sj eJ
 (fun e142=>
  Option.bind (kp (po (e142.2.1.1.1:Int) (e142.2.1.1.2.1:Int) (e142.2.1.1.2.2.1:Int) (e142.2.1.2.1.1:Int) (e142.2.1.2.1.2.1:Int) (e142.2.1.2.1.2.2.1:Int) (e142.2.1.2.2.1.1:Int) (e142.2.1.2.2.1.2.1:Int) (e142.2.1.2.2.1.2.2.1:Int))) (sj dZ
  (fun e161=>
   Option.bind (eF ((IntKind.wrap .i64 ((e161.2.1.1.1:Int)+(e161.2.1.2.1.1:Int))),((IntKind.wrap .i64 ((e161.2.1.1.2.1:Int)+(e161.2.1.2.1.2.1:Int))),(e161.2.1.1.2.2.1:Int)))) fun y171=>
   kx y171,())),()))
def cE(a0:Nm)(a1:Nm):Option (Nm):=oR some a0 a1
theorem F7{R} kx a0 a1: @oR R kx a0 a1=(cE a0 a1).bind kx:=by
 unfold cE oR
 exact dM ⟨fun _=>dM ⟨fun _=>ac fun _=>rfl,trivial⟩,trivial⟩
abbrev Bx:af:=.fx [.val true yN, .val true yN] (Nm) (fun z=>cE z.1 z.2.1) (fun b=>(.one ⟨true,[(.v (.int .i64 b.1)),(.v (.int .i64 b.2.1)),(.v (.int .i64 b.2.2))]⟩,[]))
theorem vd:ag C0 142 Bx:=
 ag.fx (e:=false) (t:=my) (.cons ve (.nil)) mixed Tryz.func142 (by kernel_rfl) (by kernel_rfl) mC 1 Hc (fun z=>(by kernel_rfl:_=oR (fun b=>some (Bx.enc b)) z.1 z.2.1).trans (F7 _ z.1 z.2.1))
def oY{R:Type}(kx:Pt×Bool->Option R)(a0:Pt):Option R:=
 Option.bind (bz a0.1) fun y178=>
 Option.bind (bz a0.2) fun y179=>
 cond (!y178.2)
 (kx ((((0:Int),((0:Int),(0:Int))),((0:Int),((0:Int),(0:Int)))),Bool.false))
 (cond (!y179.2)
  (kx ((((0:Int),((0:Int),(0:Int))),((0:Int),((0:Int),(0:Int)))),Bool.false))
  (kx ((y178.1,y179.1),Bool.true)))
def fQ(a0:Pt):Option (Pt×Bool):=oY some a0
theorem Gf{R} kx a0: @oY R kx a0=(fQ a0).bind kx:=by
 unfold fQ oY
 exact ac fun _=>ac fun _=>ae rfl (ae rfl rfl)
abbrev BD:af:=.fx [.val true yP] (Pt×Bool) (fun z=>fQ z.1) (fun b=>(.tup [⟨true,[(.v (.int .i64 b.1.1.1)),(.v (.int .i64 b.1.1.2.1)),(.v (.int .i64 b.1.1.2.2)),(.v (.int .i64 b.1.2.1)),(.v (.int .i64 b.1.2.2.1)),(.v (.int .i64 b.1.2.2.2))]⟩,⟨false,[(.v (.bool b.2))]⟩],[]))
theorem Ij:ag C0 145 BD:=
 ag.fx (e:=false) (.cons vj (.nil)) mixed Tryz.func145 (by kernel_rfl) (by kernel_rfl) aG 1 ai (fun z=>(by kernel_rfl:_=oY (fun b=>some (BD.enc b)) z.1).trans (Gf _ z.1))
def kc{R:Type}(kx:Pt×(List Int×(Int×Int))->Option R)(a0_0:List Int)(a0_1:Int)(a0_2:Int)(a1:Pt):Option R:=
 Option.bind (aY a0_0 a0_1 a0_2 (16:Int)) fun y113=>
 Option.bind (fW y113.2.1 y113.2.2.1 y113.2.2.2) fun y114=>
 Option.bind (cQ y113.1) fun y119=>
 Option.bind (aM y119) fun y124=>
 Option.bind (aX a1.1) fun y125=>
 Option.bind (aX y114.1) fun y126=>
 Option.bind (bK y126 y124.1) fun y130=>
 Option.bind (cE y125 y130) fun y172=>
 Option.bind (aX a1.2) fun y173=>
 Option.bind (aX y114.1) fun y174=>
 Option.bind (bK y174 y124.2) fun y175=>
 Option.bind (cE y173 y175) fun y176=>
 Option.bind (fQ (y172,y176)) fun y180=>
 cond (!y180.2)
 (kx (a1,y114.2))
 (kx (y180.1,y114.2))
def gR(a0_0:List Int)(a0_1:Int)(a0_2:Int)(a1:Pt):Option (Pt×(List Int×(Int×Int))):=kc some a0_0 a0_1 a0_2 a1
theorem zV{R} kx a0_0 a0_1 a0_2 a1: @kc R kx a0_0 a0_1 a0_2 a1=(gR a0_0 a0_1 a0_2 a1).bind kx:=by
 unfold gR kc
 exact ac fun _=>ac fun _=>ac fun _=>ac fun _=>ac fun _=>ac fun _=>ac fun _=>ac fun _=>ac fun _=>ac fun _=>ac fun _=>ac fun _=>ac fun _=>ae rfl rfl
abbrev tg:Pt×(List Int×(Int×Int))->AV×List (List CV):=fun b=>(.one ⟨true,[(.v (.int .i64 b.1.1.1)),(.v (.int .i64 b.1.1.2.1)),(.v (.int .i64 b.1.1.2.2)),(.v (.int .i64 b.1.2.1)),(.v (.int .i64 b.1.2.2.1)),(.v (.int .i64 b.1.2.2.2))]⟩,[[(.sl (.int .u8) b.2.1),(.v (.int .i64 b.2.2.1)),(.v (.int .u64 b.2.2.2))]])
abbrev B7:af:=.fb [.rw [(.sl (.int .u8)),(.int .i64),(.int .u64)], .val true yP] (Pt×(List Int×(Int×Int))) (fun z=>gR z.1.1 z.1.2.1 z.1.2.2.1 z.2.1) tg
theorem Bn:ag C0 75 B7:=
 ag.fb (e:=false) (.cons gr (.cons sT (.cons Ag (.cons rS (.cons BK (.cons Ad (.cons vd (.cons Ij (.nil))))))))) mixed Tryz.func75 (by kernel_rfl) (by kernel_rfl) aG 1 ai (fun z=>(by kernel_rfl:_=kc (fun b=>some (tg b)) z.1.1 z.1.2.1 z.1.2.2.1 z.2.1).trans (zV _ z.1.1 z.1.2.1 z.1.2.2.1 z.2.1))
def mq{R:Type}(kx:Pt×Pt->Option R)(a0:(List Int)):Option R:=
 Option.bind (jI a0) fun y7=>
 Option.bind (kj y7.1 y7.2.1 y7.2.2) fun y106=>
 Option.bind (cg y106.2.1 y106.2.2.1 y106.2.2.2 (4:Int)) fun y107=>
 cond y107.1
 (Option.bind (eW y107.2.1 y107.2.2.1 y107.2.2.2) fun y108=>
  kx (y106.1,y108.1))
 (Option.bind (gR y107.2.1 y107.2.2.1 y107.2.2.2 y106.1) fun y181=>
  kx (y106.1,y181.1))
def ki(a0:(List Int)):Option (Pt×Pt):=mq some a0
theorem Dt{R} kx a0: @mq R kx a0=(ki a0).bind kx:=by
 unfold ki mq
 exact ac fun _=>ac fun _=>ac fun _=>ae (ac fun _=>rfl) (ac fun _=>rfl)
abbrev sI:af:=.fx [.val false (.slice (.int .u8))] (Pt×Pt) (fun z=>ki z.1) (fun b=>(.tup [⟨true,[(.v (.int .i64 b.1.1.1)),(.v (.int .i64 b.1.1.2.1)),(.v (.int .i64 b.1.1.2.2)),(.v (.int .i64 b.1.2.1)),(.v (.int .i64 b.1.2.2.1)),(.v (.int .i64 b.1.2.2.2))]⟩,⟨true,[(.v (.int .i64 b.2.1.1)),(.v (.int .i64 b.2.1.2.1)),(.v (.int .i64 b.2.1.2.2)),(.v (.int .i64 b.2.2.1)),(.v (.int .i64 b.2.2.2.1)),(.v (.int .i64 b.2.2.2.2))]⟩],[]))
theorem ES:ag C0 28 sI:=
 ag.fx (e:=false) (.cons yC (.cons EU (.cons pT (.cons sA (.cons Bn (.nil)))))) mixed Tryz.func28 (by kernel_rfl) (by kernel_rfl) aG 1 ai (fun z=>(by kernel_rfl:_=mq (fun b=>some (sI.enc b)) z.1).trans (Dt _ z.1))
def oM{R:Type}(kx:Bool->Option R)(a0:Int)(a1:Int)(a2:Int):Option R:=
 cond (decide (a0>=a1))
 (kx (decide (a0<=a2)))
 (kx Bool.false)
def fO(a0:Int)(a1:Int)(a2:Int):Option (Bool):=oM some a0 a1 a2
theorem FY{R} kx a0 a1 a2: @oM R kx a0 a1 a2=(fO a0 a1 a2).bind kx:=by
 unfold fO oM
 exact ae rfl rfl
abbrev Bv:af:=.fx [.val false (.int .i64), .val false (.int .i64), .val false (.int .i64)] (Bool) (fun z=>fO z.1 z.2.1 z.2.2.1) (fun b=>(.one ⟨false,[(.v (.bool b))]⟩,[]))
theorem uZ:ag C0 93 Bv:=
 ag.fx (e:=false) (.nil) mixed Tryz.func93 (by kernel_rfl) (by kernel_rfl) aG 1 ai (fun z=>(by kernel_rfl:_=oM (fun b=>some (Bv.enc b)) z.1 z.2.1 z.2.2.1).trans (FY _ z.1 z.2.1 z.2.2.1))
def mp{R:Type}(kx:Bool->Option R)(a0:Nm):Option R:=
 Option.bind (fO a0.1 (-(131072:Int)) (131072:Int)) fun y192=>
 cond y192
 (Option.bind (fO a0.2.1 (-(131072:Int)) (131072:Int)) fun y193=>
  cond y193
  (Option.bind (fO a0.2.2 (0:Int) (10:Int)) fun y194=>
   cond y194
   (cond (a0.2.2==(0:Int))
    (kx Bool.true)
    (cond ((IntKind.wrap .i64 (((BitVec.toNat ((BitVec.ofInt 64 a0.1)&&&(BitVec.ofInt 64 (1:Int)))):Nat):Int))==(1:Int))
     (kx Bool.true)
     (kx ((IntKind.wrap .i64 (((BitVec.toNat ((BitVec.ofInt 64 a0.2.1)&&&(BitVec.ofInt 64 (1:Int)))):Nat):Int))==(1:Int)))))
   (kx Bool.false))
  (kx Bool.false))
 (kx Bool.false)
def cx(a0:Nm):Option (Bool):=mp some a0
theorem Dq{R} kx a0: @mp R kx a0=(cx a0).bind kx:=by
 unfold cx mp
 exact ac fun _=>ae (ac fun _=>ae (ac fun _=>ae (ae rfl (ae rfl rfl)) rfl) rfl) rfl
abbrev yq:af:=.fx [.val true yN] (Bool) (fun z=>cx z.1) (fun b=>(.one ⟨false,[(.v (.bool b))]⟩,[]))
theorem gV:ag C0 83 yq:=
 ag.fx (e:=false) (.cons uZ (.nil)) mixed Tryz.func83 (by kernel_rfl) (by kernel_rfl) aG 1 ai (fun z=>(by kernel_rfl:_=mp (fun b=>some (yq.enc b)) z.1).trans (Dq _ z.1))
def kF{R:Type}(kx:Bool->Option R)(a0:Pt):Option R:=
 Option.bind (cx a0.1) fun y195=>
 cond y195
 (Option.bind (cx a0.2) fun y196=>
  kx y196)
 (kx Bool.false)
def bf(a0:Pt):Option (Bool):=kF some a0
theorem AZ{R} kx a0: @kF R kx a0=(bf a0).bind kx:=by
 unfold bf kF
 exact ac fun _=>ae (ac fun _=>rfl) rfl
abbrev mS:af:=.fx [.val true yP] (Bool) (fun z=>bf z.1) (fun b=>(.one ⟨false,[(.v (.bool b))]⟩,[]))
theorem fq:ag C0 36 mS:=
 ag.fx (e:=false) (.cons gV (.nil)) mixed Tryz.func36 (by kernel_rfl) (by kernel_rfl) aG 1 ai (fun z=>(by kernel_rfl:_=kF (fun b=>some (mS.enc b)) z.1).trans (AZ _ z.1))
def nA{R:Type}(kx:Nm->Option R)(a0:Nm):Option R:=
 kx ((IntKind.wrap .i64 ((0:Int)-a0.1)),((IntKind.wrap .i64 ((0:Int)-a0.2.1)),a0.2.2))
def bE(a0:Nm):Option (Nm):=nA some a0
theorem Ey{R} kx a0: @nA R kx a0=(bE a0).bind kx:=by
 unfold bE nA
 exact rfl
abbrev zt:af:=.fx [.val true yN] (Nm) (fun z=>bE z.1) (fun b=>(.one ⟨true,[(.v (.int .i64 b.1)),(.v (.int .i64 b.2.1)),(.v (.int .i64 b.2.2))]⟩,[]))
theorem yz:ag C0 219 zt:=
 ag.fx (e:=false) (.nil) mixed Tryz.func219 (by kernel_rfl) (by kernel_rfl) aG 1 ai (fun z=>(by kernel_rfl:_=nA (fun b=>some (zt.enc b)) z.1).trans (Ey _ z.1))
def lG:List (FuncId×af):=[]
abbrev cF:LS:=⟨[(false,[(.ptr 1 0)]),(false,[(.ptr 2 0)])],[(false,[(.int .i64),(.int .i64),(.int .i64)]),(false,[(.int .i64),(.int .i64),(.int .i64)])],[]⟩
abbrev qo:LS:=⟨[(false,[(.ptr 1 0)]),(false,[(.ptr 2 0)])],[(false,[(.int .i64),(.int .i64),(.int .i64)]),(false,[(.int .i64),(.int .i64),(.int .i64)])],[]⟩
abbrev jp(v0:Int)(v1:Int)(v2:Int)(v3:Int)(v4:Int)(v5:Int):=(((((),()),((),()),()),((v0,v1,v2,()),(v3,v4,v5,()),()),()):qo.T)
abbrev dl:List (Ex×LS):=[(.exit 0,qo)]
abbrev fA(b0_0:Int)(b0_1:Int)(b0_2:Int)(b1_0:Int)(b1_1:Int)(b1_2:Int):=(((((),()),((),()),()),((b0_0,b0_1,b0_2,()),(b1_0,b1_1,b1_2,()),()),()):cF.T)
def eE{R:Type}(nx:cF.T->Option R)(hx:ma R dl)(b0_0:Int)(b0_1:Int)(b0_2:Int)(b1_0:Int)(b1_1:Int)(b1_2:Int):Option R:=
 cond (decide (b0_2>(0:Int)))
 (cond ((IntKind.wrap .i64 (((BitVec.toNat ((BitVec.ofInt 64 b0_0)&&&(BitVec.ofInt 64 (1:Int)))):Nat):Int))==(0:Int))
  (cond ((IntKind.wrap .i64 (((BitVec.toNat ((BitVec.ofInt 64 b0_1)&&&(BitVec.ofInt 64 (1:Int)))):Nat):Int))==(0:Int))
   (cond ((IntKind.wrap .i64 (Int.tdiv b0_0 (2:Int)))==(0:Int))
    (cond ((IntKind.wrap .i64 (Int.tdiv b0_1 (2:Int)))==(0:Int))
     (nx (fA (IntKind.wrap .i64 (Int.tdiv b0_0 (2:Int))) (IntKind.wrap .i64 (Int.tdiv b0_1 (2:Int))) (0:Int) b1_0 b1_1 b1_2))
     (nx (fA (IntKind.wrap .i64 (Int.tdiv b0_0 (2:Int))) (IntKind.wrap .i64 (Int.tdiv b0_1 (2:Int))) (IntKind.wrap .i64 (b0_2-(1:Int))) b1_0 b1_1 b1_2)))
    (nx (fA (IntKind.wrap .i64 (Int.tdiv b0_0 (2:Int))) (IntKind.wrap .i64 (Int.tdiv b0_1 (2:Int))) (IntKind.wrap .i64 (b0_2-(1:Int))) b1_0 b1_1 b1_2)))
   (hx.1 (jp b0_0 b0_1 b0_2 b1_0 b1_1 b1_2)))
  (hx.1 (jp b0_0 b0_1 b0_2 b1_0 b1_1 b1_2)))
 (hx.1 (jp b0_0 b0_1 b0_2 b1_0 b1_1 b1_2))
def nB{R:Type}(nx:cF.T->Option R)(hx:ma R dl)(z:cF.T):Option R:=eE nx hx z.2.1.1.1 z.2.1.1.2.1 z.2.1.1.2.2.1 z.2.1.2.1.1 z.2.1.2.1.2.1 z.2.1.2.1.2.2.1
theorem qC:fR @nB:=fun R nx hx z=>by
 show eE nx hx z.2.1.1.1 z.2.1.1.2.1 z.2.1.1.2.2.1 z.2.1.2.1.1 z.2.1.2.1.2.1 z.2.1.2.1.2.2.1=(eE (fun y=>some (.inl y)) (rf dl fun x=>some (.inr x)) z.2.1.1.1 z.2.1.1.2.1 z.2.1.1.2.2.1 z.2.1.2.1.1 z.2.1.2.1.2.1 z.2.1.2.1.2.2.1).bind (tE nx hx)
 unfold eE
 exact ae (ae (ae (ae (ae rfl rfl) rfl) rfl) rfl) rfl
def fF:cF.T->Option (wL dl):=D4 @nB
theorem rh b0_0 b0_1 b0_2 b1_0 b1_1 b1_2:fF (fA b0_0 b0_1 b0_2 b1_0 b1_1 b1_2)=eE fF (rf dl some) b0_0 b0_1 b0_2 b1_0 b1_1 b1_2:=kU qC _
def kd:dz:=⟨[1,2],[1,2],[1,2],[1,2]⟩
def lK:iG Rv:=⟨fun k=>match k with|2=>kd|_=>⟨[],[],[],[]⟩,fun k=>match k with|2=>some (fZ cF dl fF)|_=>none⟩
theorem za(n:Nat)(z:cF.T)(k:Ex->kf->Option Rv):eg ⟨40,40⟩ kd (vt (om C0 lG) ⟨40,40⟩ lK 1 (dt Tryz.f162 1)) (n+1) (cF.enc z) k=
 nB (fun y=>eg ⟨40,40⟩ kd (vt (om C0 lG) ⟨40,40⟩ lK 1 (dt Tryz.f162 1)) n (cF.enc y) k) (hK k dl) z:=by kernel_rfl
theorem AP:bC (om C0 lG) ⟨40,40⟩ lK 1 (fe (cu Tryz.f162)):=by
 have hl:fe (cu Tryz.f162)=[dt Tryz.f162 1]:=by kernel_rfl
 rw[hl]
 exact bC.cons (n:=2) (lh:=kd) (S:=fZ cF dl fF) (by kernel_rfl) rfl rfl (ky qC za)
  (bC.nil)
def jQ{R:Type}(kx:Nm->Option R)(a0:Nm):Option R:=
 Option.bind (fF (fA a0.1 a0.2.1 a0.2.2 (0:Int) (0:Int) (0:Int))) (sj dl
 (fun e216=>
  kx ((e216.2.1.1.1:Int),((e216.2.1.1.2.1:Int),(e216.2.1.1.2.2.1:Int))),()))
def cw(a0:Nm):Option (Nm):=jQ some a0
theorem zK{R} kx a0: @jQ R kx a0=(cw a0).bind kx:=by
 unfold cw jQ
 exact dM ⟨fun _=>rfl,trivial⟩
abbrev pL:af:=.fx [.val true yN] (Nm) (fun z=>cw z.1) (fun b=>(.one ⟨true,[(.v (.int .i64 b.1)),(.v (.int .i64 b.2.1)),(.v (.int .i64 b.2.2))]⟩,[]))
theorem jh:ag C0 162 pL:=
 ag.fx (e:=false) (t:=lG) (.nil) mixed Tryz.func162 (by kernel_rfl) (by kernel_rfl) lK 1 AP (fun z=>(by kernel_rfl:_=jQ (fun b=>some (pL.enc b)) z.1).trans (zK _ z.1))
def mm{R:Type}(kx:Nm->Option R)(a0:Nm)(a1:Nm):Option R:=
 cond (decide ((IntKind.wrap .i64 ((if(Bool.true=Bool.true)then(if(a1.2.2>a0.2.2)then a1.2.2 else a0.2.2)else(if(a1.2.2<a0.2.2)then a1.2.2 else a0.2.2))-a0.2.2))<(0:Int)))
 none
 (cond (decide ((IntKind.wrap .i64 ((if(Bool.true=Bool.true)then(if(a1.2.2>a0.2.2)then a1.2.2 else a0.2.2)else(if(a1.2.2<a0.2.2)then a1.2.2 else a0.2.2))-a1.2.2))<(0:Int)))
  none
  (cond (decide ((IntKind.wrap .i64 ((if(Bool.true=Bool.true)then(if(a1.2.2>a0.2.2)then a1.2.2 else a0.2.2)else(if(a1.2.2<a0.2.2)then a1.2.2 else a0.2.2))-a0.2.2))<(0:Int)))
   none
   (cond (decide ((IntKind.wrap .i64 ((if(Bool.true=Bool.true)then(if(a1.2.2>a0.2.2)then a1.2.2 else a0.2.2)else(if(a1.2.2<a0.2.2)then a1.2.2 else a0.2.2))-a1.2.2))<(0:Int)))
    none
    (Option.bind (cw ((IntKind.wrap .i64 ((IntKind.wrap .i64 (a0.1*((2:Int)^(Min.min (Int.toNat (IntKind.wrap .i64 ((if(Bool.true=Bool.true)then(if(a1.2.2>a0.2.2)then a1.2.2 else a0.2.2)else(if(a1.2.2<a0.2.2)then a1.2.2 else a0.2.2))-a0.2.2))) 64))))+(IntKind.wrap .i64 (a1.1*((2:Int)^(Min.min (Int.toNat (IntKind.wrap .i64 ((if(Bool.true=Bool.true)then(if(a1.2.2>a0.2.2)then a1.2.2 else a0.2.2)else(if(a1.2.2<a0.2.2)then a1.2.2 else a0.2.2))-a1.2.2))) 64)))))),((IntKind.wrap .i64 ((IntKind.wrap .i64 (a0.2.1*((2:Int)^(Min.min (Int.toNat (IntKind.wrap .i64 ((if(Bool.true=Bool.true)then(if(a1.2.2>a0.2.2)then a1.2.2 else a0.2.2)else(if(a1.2.2<a0.2.2)then a1.2.2 else a0.2.2))-a0.2.2))) 64))))+(IntKind.wrap .i64 (a1.2.1*((2:Int)^(Min.min (Int.toNat (IntKind.wrap .i64 ((if(Bool.true=Bool.true)then(if(a1.2.2>a0.2.2)then a1.2.2 else a0.2.2)else(if(a1.2.2<a0.2.2)then a1.2.2 else a0.2.2))-a1.2.2))) 64)))))),(if(Bool.true=Bool.true)then(if(a1.2.2>a0.2.2)then a1.2.2 else a0.2.2)else(if(a1.2.2<a0.2.2)then a1.2.2 else a0.2.2))))) fun y223=>
     kx y223))))
def de(a0:Nm)(a1:Nm):Option (Nm):=mm some a0 a1
theorem Do{R} kx a0 a1: @mm R kx a0 a1=(de a0 a1).bind kx:=by
 unfold de mm
 exact ae rfl (ae rfl (ae rfl (ae rfl (ac fun _=>rfl))))
abbrev yp:af:=.fx [.val true yN, .val true yN] (Nm) (fun z=>de z.1 z.2.1) (fun b=>(.one ⟨true,[(.v (.int .i64 b.1)),(.v (.int .i64 b.2.1)),(.v (.int .i64 b.2.2))]⟩,[]))
theorem lk:ag C0 85 yp:=
 ag.fx (e:=false) (.cons jh (.nil)) mixed Tryz.func85 (by kernel_rfl) (by kernel_rfl) aG 1 ai (fun z=>(by kernel_rfl:_=mm (fun b=>some (yp.enc b)) z.1 z.2.1).trans (Do _ z.1 z.2.1))
def lu{R:Type}(kx:Nm->Option R)(a0:Nm)(a1:Nm):Option R:=
 Option.bind (bE a1) fun y206=>
 Option.bind (de a0 y206) fun y224=>
 kx y224
def bJ(a0:Nm)(a1:Nm):Option (Nm):=lu some a0 a1
theorem Cf{R} kx a0 a1: @lu R kx a0 a1=(bJ a0 a1).bind kx:=by
 unfold bJ lu
 exact ac fun _=>ac fun _=>rfl
abbrev xd:af:=.fx [.val true yN, .val true yN] (Nm) (fun z=>bJ z.1 z.2.1) (fun b=>(.one ⟨true,[(.v (.int .i64 b.1)),(.v (.int .i64 b.2.1)),(.v (.int .i64 b.2.2))]⟩,[]))
theorem iM:ag C0 151 xd:=
 ag.fx (e:=false) (.cons yz (.cons lk (.nil))) mixed Tryz.func151 (by kernel_rfl) (by kernel_rfl) aG 1 ai (fun z=>(by kernel_rfl:_=lu (fun b=>some (xd.enc b)) z.1 z.2.1).trans (Cf _ z.1 z.2.1))
def jR{R:Type}(kx:Pt->Option R)(a0:Pt)(a1:Pt):Option R:=
 Option.bind (bJ a0.1 a1.1) fun y225=>
 Option.bind (bJ a0.2 a1.2) fun y226=>
 kx (y225,y226)
def jH(a0:Pt)(a1:Pt):Option (Pt):=jR some a0 a1
theorem zM{R} kx a0 a1: @jR R kx a0 a1=(jH a0 a1).bind kx:=by
 unfold jH jR
 exact ac fun _=>ac fun _=>rfl
abbrev pN:af:=.fx [.val true yP, .val true yP] (Pt) (fun z=>jH z.1 z.2.1) (fun b=>(.one ⟨true,[(.v (.int .i64 b.1.1)),(.v (.int .i64 b.1.2.1)),(.v (.int .i64 b.1.2.2)),(.v (.int .i64 b.2.1)),(.v (.int .i64 b.2.2.1)),(.v (.int .i64 b.2.2.2))]⟩,[]))
theorem Bh:ag C0 167 pN:=
 ag.fx (e:=false) (.cons iM (.nil)) mixed Tryz.func167 (by kernel_rfl) (by kernel_rfl) aG 1 ai (fun z=>(by kernel_rfl:_=jR (fun b=>some (pN.enc b)) z.1 z.2.1).trans (zM _ z.1 z.2.1))
def rU{R:Type}(kx:Pt->Option R)(a0:Int):Option R:=
 cond (decide (a0>=(8:Int)))
 (cond (decide ((IntKind.wrap .i64 (a0-(8:Int)))=((0:Nat):Int)))
  (Option.bind (bE ((1:Int),((0:Int),(0:Int)))) fun y236=>
   Option.bind (bE ((0:Int),((0:Int),(0:Int)))) fun y237=>
   kx (y236,y237))
  (cond (decide ((IntKind.wrap .i64 (a0-(8:Int)))=(((0+1):Nat):Int)))
   (Option.bind (bE ((1:Int),((0:Int),(0:Int)))) fun y238=>
    Option.bind (bE ((-(1:Int)),((1:Int),(0:Int)))) fun y239=>
    kx (y238,y239))
   (cond (decide ((IntKind.wrap .i64 (a0-(8:Int)))=((((0+1)+1):Nat):Int)))
    (Option.bind (bE ((1:Int),((0:Int),(0:Int)))) fun y240=>
     Option.bind (bE ((1:Int),((0:Int),(0:Int)))) fun y241=>
     kx (y240,y241))
    (cond (decide ((IntKind.wrap .i64 (a0-(8:Int)))=(((((0+1)+1)+1):Nat):Int)))
     (Option.bind (bE ((-(1:Int)),((1:Int),(0:Int)))) fun y242=>
      Option.bind (bE ((1:Int),((0:Int),(0:Int)))) fun y243=>
      kx (y242,y243))
     (cond (decide ((IntKind.wrap .i64 (a0-(8:Int)))=((((((0+1)+1)+1)+1):Nat):Int)))
      (Option.bind (bE ((0:Int),((0:Int),(0:Int)))) fun y244=>
       Option.bind (bE ((1:Int),((0:Int),(0:Int)))) fun y245=>
       kx (y244,y245))
      (cond (decide ((IntKind.wrap .i64 (a0-(8:Int)))=(((((((0+1)+1)+1)+1)+1):Nat):Int)))
       (Option.bind (bE ((1:Int),((-(1:Int)),(0:Int)))) fun y246=>
        Option.bind (bE ((1:Int),((0:Int),(0:Int)))) fun y247=>
        kx (y246,y247))
       (cond (decide ((IntKind.wrap .i64 (a0-(8:Int)))=((((((((0+1)+1)+1)+1)+1)+1):Nat):Int)))
        (Option.bind (bE ((-(1:Int)),((0:Int),(0:Int)))) fun y248=>
         Option.bind (bE ((1:Int),((0:Int),(0:Int)))) fun y249=>
         kx (y248,y249))
        (cond (decide ((IntKind.wrap .i64 (a0-(8:Int)))=(((((((((0+1)+1)+1)+1)+1)+1)+1):Nat):Int)))
         (Option.bind (bE ((-(1:Int)),((0:Int),(0:Int)))) fun y250=>
          Option.bind (bE ((-(1:Int)),((1:Int),(0:Int)))) fun y251=>
          kx (y250,y251))
         none))))))))
 (cond (decide (a0=((0:Nat):Int)))
  (kx (((1:Int),((0:Int),(0:Int))),((0:Int),((0:Int),(0:Int)))))
  (cond (decide (a0=(((0+1):Nat):Int)))
   (kx (((1:Int),((0:Int),(0:Int))),((-(1:Int)),((1:Int),(0:Int)))))
   (cond (decide (a0=((((0+1)+1):Nat):Int)))
    (kx (((1:Int),((0:Int),(0:Int))),((1:Int),((0:Int),(0:Int)))))
    (cond (decide (a0=(((((0+1)+1)+1):Nat):Int)))
     (kx (((-(1:Int)),((1:Int),(0:Int))),((1:Int),((0:Int),(0:Int)))))
     (cond (decide (a0=((((((0+1)+1)+1)+1):Nat):Int)))
      (kx (((0:Int),((0:Int),(0:Int))),((1:Int),((0:Int),(0:Int)))))
      (cond (decide (a0=(((((((0+1)+1)+1)+1)+1):Nat):Int)))
       (kx (((1:Int),((-(1:Int)),(0:Int))),((1:Int),((0:Int),(0:Int)))))
       (cond (decide (a0=((((((((0+1)+1)+1)+1)+1)+1):Nat):Int)))
        (kx (((-(1:Int)),((0:Int),(0:Int))),((1:Int),((0:Int),(0:Int)))))
        (cond (decide (a0=(((((((((0+1)+1)+1)+1)+1)+1)+1):Nat):Int)))
         (kx (((-(1:Int)),((0:Int),(0:Int))),((-(1:Int)),((1:Int),(0:Int)))))
         none))))))))
def kN(a0:Int):Option (Pt):=rU some a0
theorem FX{R} kx a0: @rU R kx a0=(kN a0).bind kx:=by
 unfold kN rU
 exact ae (ae (ac fun _=>ac fun _=>rfl) (ae (ac fun _=>ac fun _=>rfl) (ae (ac fun _=>ac fun _=>rfl) (ae (ac fun _=>ac fun _=>rfl) (ae (ac fun _=>ac fun _=>rfl) (ae (ac fun _=>ac fun _=>rfl) (ae (ac fun _=>ac fun _=>rfl) (ae (ac fun _=>ac fun _=>rfl) rfl)))))))) (ae rfl (ae rfl (ae rfl (ae rfl (ae rfl (ae rfl (ae rfl (ae rfl rfl))))))))
abbrev wx:af:=.fx [.val false (.int .i64)] (Pt) (fun z=>kN z.1) (fun b=>(.one ⟨true,[(.v (.int .i64 b.1.1)),(.v (.int .i64 b.1.2.1)),(.v (.int .i64 b.1.2.2)),(.v (.int .i64 b.2.1)),(.v (.int .i64 b.2.2.1)),(.v (.int .i64 b.2.2.2))]⟩,[]))
theorem Ab:ag C0 168 wx:=
 ag.fx (e:=false) (.cons yz (.nil)) mixed Tryz.func168 (by kernel_rfl) (by kernel_rfl) aG 1 ai (fun z=>(by kernel_rfl:_=rU (fun b=>some (wx.enc b)) z.1).trans (FX _ z.1))
def lv{R:Type}(kx:Nm->Option R)(a0:Nm)(a1:Nm):Option R:=
 Option.bind (cw ((IntKind.wrap .i64 ((IntKind.wrap .i64 (a0.1*a1.1))+(IntKind.wrap .i64 ((IntKind.wrap .i64 ((2:Int)*a0.2.1))*a1.2.1)))),((IntKind.wrap .i64 ((IntKind.wrap .i64 (a0.1*a1.2.1))+(IntKind.wrap .i64 (a0.2.1*a1.1)))),(IntKind.wrap .i64 (a0.2.2+a1.2.2))))) fun y257=>
 kx y257
def bR(a0:Nm)(a1:Nm):Option (Nm):=lv some a0 a1
theorem Cg{R} kx a0 a1: @lv R kx a0 a1=(bR a0 a1).bind kx:=by
 unfold bR lv
 exact ac fun _=>rfl
abbrev rn:af:=.fx [.val true yN, .val true yN] (Nm) (fun z=>bR z.1 z.2.1) (fun b=>(.one ⟨true,[(.v (.int .i64 b.1)),(.v (.int .i64 b.2.1)),(.v (.int .i64 b.2.2))]⟩,[]))
theorem kB:ag C0 164 rn:=
 ag.fx (e:=false) (.cons jh (.nil)) mixed Tryz.func164 (by kernel_rfl) (by kernel_rfl) aG 1 ai (fun z=>(by kernel_rfl:_=lv (fun b=>some (rn.enc b)) z.1 z.2.1).trans (Cg _ z.1 z.2.1))
def gW{R:Type}(kx:Nm->Option R)(a0:Pt)(a1:Pt):Option R:=
 Option.bind (bR a0.1 a1.2) fun y258=>
 Option.bind (bR a0.2 a1.1) fun y259=>
 Option.bind (bJ y258 y259) fun y260=>
 kx y260
def eD(a0:Pt)(a1:Pt):Option (Nm):=gW some a0 a1
theorem zL{R} kx a0 a1: @gW R kx a0 a1=(eD a0 a1).bind kx:=by
 unfold eD gW
 exact ac fun _=>ac fun _=>ac fun _=>rfl
abbrev pM:af:=.fx [.val true yP, .val true yP] (Nm) (fun z=>eD z.1 z.2.1) (fun b=>(.one ⟨true,[(.v (.int .i64 b.1)),(.v (.int .i64 b.2.1)),(.v (.int .i64 b.2.2))]⟩,[]))
theorem tr:ag C0 163 pM:=
 ag.fx (e:=false) (.cons kB (.cons iM (.nil))) mixed Tryz.func163 (by kernel_rfl) (by kernel_rfl) aG 1 ai (fun z=>(by kernel_rfl:_=gW (fun b=>some (pM.enc b)) z.1 z.2.1).trans (zL _ z.1 z.2.1))
def lw{R:Type}(kx:Nm->Option R)(a0:Pt)(a1:Pt):Option R:=
 Option.bind (bR a0.1 a1.1) fun y264=>
 Option.bind (bR a0.2 a1.2) fun y265=>
 Option.bind (de y264 y265) fun y266=>
 kx y266
def bS(a0:Pt)(a1:Pt):Option (Nm):=lw some a0 a1
theorem Ch{R} kx a0 a1: @lw R kx a0 a1=(bS a0 a1).bind kx:=by
 unfold bS lw
 exact ac fun _=>ac fun _=>ac fun _=>rfl
abbrev rp:af:=.fx [.val true yP, .val true yP] (Nm) (fun z=>bS z.1 z.2.1) (fun b=>(.one ⟨true,[(.v (.int .i64 b.1)),(.v (.int .i64 b.2.1)),(.v (.int .i64 b.2.2))]⟩,[]))
theorem kC:ag C0 150 rp:=
 ag.fx (e:=false) (.cons kB (.cons lk (.nil))) mixed Tryz.func150 (by kernel_rfl) (by kernel_rfl) aG 1 ai (fun z=>(by kernel_rfl:_=lw (fun b=>some (rp.enc b)) z.1 z.2.1).trans (Ch _ z.1 z.2.1))
def oL{R:Type}(kx:Int->Option R)(a0:Int):Option R:=
 kx (if(Bool.true=Bool.true)then(if((if(Bool.false=Bool.true)then(if(a0>(1:Int))then a0 else(1:Int))else(if(a0<(1:Int))then a0 else(1:Int)))>(-(1:Int)))then(if(Bool.false=Bool.true)then(if(a0>(1:Int))then a0 else(1:Int))else(if(a0<(1:Int))then a0 else(1:Int)))else(-(1:Int)))else(if((if(Bool.false=Bool.true)then(if(a0>(1:Int))then a0 else(1:Int))else(if(a0<(1:Int))then a0 else(1:Int)))<(-(1:Int)))then(if(Bool.false=Bool.true)then(if(a0>(1:Int))then a0 else(1:Int))else(if(a0<(1:Int))then a0 else(1:Int)))else(-(1:Int))))
def kM(a0:Int):Option (Int):=oL some a0
theorem FW{R} kx a0: @oL R kx a0=(kM a0).bind kx:=by
 unfold kM oL
 exact rfl
abbrev Bu:af:=.fx [.val false (.int .i64)] (Int) (fun z=>kM z.1) (fun b=>(.one ⟨false,[(.v (.int .i64 b))]⟩,[]))
theorem Ia:ag C0 224 Bu:=
 ag.fx (e:=false) (.nil) mixed Tryz.func224 (by kernel_rfl) (by kernel_rfl) aG 1 ai (fun z=>(by kernel_rfl:_=oL (fun b=>some (Bu.enc b)) z.1).trans (FW _ z.1))
def rC{R:Type}(kx:Int->Option R)(a0:Int):Option R:=
 kx (if(Bool.true=Bool.true)then(if((IntKind.wrap .i64 ((0:Int)-a0))>a0)then(IntKind.wrap .i64 ((0:Int)-a0))else a0)else(if((IntKind.wrap .i64 ((0:Int)-a0))<a0)then(IntKind.wrap .i64 ((0:Int)-a0))else a0))
def kK(a0:Int):Option (Int):=rC some a0
theorem Km{R} kx a0: @rC R kx a0=(kK a0).bind kx:=by
 unfold kK rC
 exact rfl
abbrev Hk:af:=.fx [.val false (.int .i64)] (Int) (fun z=>kK z.1) (fun b=>(.one ⟨false,[(.v (.int .i64 b))]⟩,[]))
theorem Lw:ag C0 251 Hk:=
 ag.fx (e:=false) (.nil) mixed Tryz.func251 (by kernel_rfl) (by kernel_rfl) aG 1 ai (fun z=>(by kernel_rfl:_=rC (fun b=>some (Hk.enc b)) z.1).trans (Km _ z.1))
def iO{R:Type}(kx:Int×Int->Option R)(a0:Int)(a1:Int):Option R:=
 kx ((IntKind.wrap IntKind.u64 ((IntKind.wrap IntKind.u64 ((IntKind.wrap IntKind.u64 ((Int.fdiv a0 ((2:Int)^(Min.min (Int.toNat (32:Int)) 64)))*(Int.fdiv a1 ((2:Int)^(Min.min (Int.toNat (32:Int)) 64)))))+(Int.fdiv (IntKind.wrap IntKind.u64 ((IntKind.wrap IntKind.u64 ((Int.fdiv a0 ((2:Int)^(Min.min (Int.toNat (32:Int)) 64)))*(IntKind.wrap IntKind.u64 (((BitVec.toNat ((BitVec.ofInt 64 a1)&&&(BitVec.ofInt 64 (4294967295:Int)))):Nat):Int))))+(Int.fdiv (IntKind.wrap IntKind.u64 ((IntKind.wrap IntKind.u64 (((BitVec.toNat ((BitVec.ofInt 64 a0)&&&(BitVec.ofInt 64 (4294967295:Int)))):Nat):Int))*(IntKind.wrap IntKind.u64 (((BitVec.toNat ((BitVec.ofInt 64 a1)&&&(BitVec.ofInt 64 (4294967295:Int)))):Nat):Int)))) ((2:Int)^(Min.min (Int.toNat (32:Int)) 64))))) ((2:Int)^(Min.min (Int.toNat (32:Int)) 64)))))+(Int.fdiv (IntKind.wrap IntKind.u64 ((IntKind.wrap IntKind.u64 (((BitVec.toNat ((BitVec.ofInt 64 (IntKind.wrap IntKind.u64 ((IntKind.wrap IntKind.u64 ((Int.fdiv a0 ((2:Int)^(Min.min (Int.toNat (32:Int)) 64)))*(IntKind.wrap IntKind.u64 (((BitVec.toNat ((BitVec.ofInt 64 a1)&&&(BitVec.ofInt 64 (4294967295:Int)))):Nat):Int))))+(Int.fdiv (IntKind.wrap IntKind.u64 ((IntKind.wrap IntKind.u64 (((BitVec.toNat ((BitVec.ofInt 64 a0)&&&(BitVec.ofInt 64 (4294967295:Int)))):Nat):Int))*(IntKind.wrap IntKind.u64 (((BitVec.toNat ((BitVec.ofInt 64 a1)&&&(BitVec.ofInt 64 (4294967295:Int)))):Nat):Int)))) ((2:Int)^(Min.min (Int.toNat (32:Int)) 64))))))&&&(BitVec.ofInt 64 (4294967295:Int)))):Nat):Int))+(IntKind.wrap IntKind.u64 ((IntKind.wrap IntKind.u64 (((BitVec.toNat ((BitVec.ofInt 64 a0)&&&(BitVec.ofInt 64 (4294967295:Int)))):Nat):Int))*(Int.fdiv a1 ((2:Int)^(Min.min (Int.toNat (32:Int)) 64))))))) ((2:Int)^(Min.min (Int.toNat (32:Int)) 64))))),(IntKind.wrap IntKind.u64 (a0*a1)))
def er(a0:Int)(a1:Int):Option (Int×Int):=iO some a0 a1
theorem Bb{R} kx a0 a1: @iO R kx a0 a1=(er a0 a1).bind kx:=by
 unfold er iO
 exact rfl
abbrev vX:af:=.fx [.val false (.int .u64), .val false (.int .u64)] (Int×Int) (fun z=>er z.1 z.2.1) (fun b=>(.tup [⟨false,[(.v (.int .u64 b.1))]⟩,⟨false,[(.v (.int .u64 b.2))]⟩],[]))
theorem Cz:ag C0 278 vX:=
 ag.fx (e:=false) (.nil) mixed Tryz.func278 (by kernel_rfl) (by kernel_rfl) aG 1 ai (fun z=>(by kernel_rfl:_=iO (fun b=>some (vX.enc b)) z.1 z.2.1).trans (Bb _ z.1 z.2.1))
def jC{R:Type}(kx:Bool->Option R)(a0:Int)(a1:Int):Option R:=
 Option.bind (kK a0) fun y275=>
 Option.bind (kK a0) fun y276=>
 Option.bind (er (IntKind.wrap IntKind.u64 y275) (IntKind.wrap IntKind.u64 y276)) fun y279=>
 Option.bind (kK a1) fun y280=>
 Option.bind (kK a1) fun y281=>
 Option.bind (er (IntKind.wrap IntKind.u64 y280) (IntKind.wrap IntKind.u64 y281)) fun y282=>
 cond (decide (y279.1>(IntKind.wrap IntKind.u64 (((BitVec.toNat ((BitVec.ofInt 64 (IntKind.wrap IntKind.u64 (y282.1*((2:Int)^(Min.min (Int.toNat (1:Int)) 64)))))|||(BitVec.ofInt 64 (Int.fdiv y282.2 ((2:Int)^(Min.min (Int.toNat (63:Int)) 64)))))):Nat):Int))))
 (kx Bool.true)
 (cond (y279.1==(IntKind.wrap IntKind.u64 (((BitVec.toNat ((BitVec.ofInt 64 (IntKind.wrap IntKind.u64 (y282.1*((2:Int)^(Min.min (Int.toNat (1:Int)) 64)))))|||(BitVec.ofInt 64 (Int.fdiv y282.2 ((2:Int)^(Min.min (Int.toNat (63:Int)) 64)))))):Nat):Int)))
  (kx (decide (y279.2>(IntKind.wrap IntKind.u64 (y282.2*((2:Int)^(Min.min (Int.toNat (1:Int)) 64)))))))
  (kx Bool.false))
def eN(a0:Int)(a1:Int):Option (Bool):=jC some a0 a1
theorem Ck{R} kx a0 a1: @jC R kx a0 a1=(eN a0 a1).bind kx:=by
 unfold eN jC
 exact ac fun _=>ac fun _=>ac fun _=>ac fun _=>ac fun _=>ac fun _=>ae rfl (ae rfl rfl)
abbrev xf:af:=.fx [.val false (.int .i64), .val false (.int .i64)] (Bool) (fun z=>eN z.1 z.2.1) (fun b=>(.one ⟨false,[(.v (.bool b))]⟩,[]))
theorem DS:ag C0 225 xf:=
 ag.fx (e:=false) (.cons Lw (.cons Cz (.nil))) mixed Tryz.func225 (by kernel_rfl) (by kernel_rfl) aG 1 ai (fun z=>(by kernel_rfl:_=jC (fun b=>some (xf.enc b)) z.1 z.2.1).trans (Ck _ z.1 z.2.1))
def mn{R:Type}(kx:Int->Option R)(a0:Nm):Option R:=
 Option.bind (kM a0.1) fun y270=>
 Option.bind (kM a0.2.1) fun y271=>
 cond (y270==y271)
 (kx y270)
 (cond (y271==(0:Int))
  (kx y270)
  (cond (y270==(0:Int))
   (kx y271)
   (Option.bind (eN a0.1 a0.2.1) fun y283=>
    cond (!y283)
    (kx y271)
    (kx y270))))
def df(a0:Nm):Option (Int):=mn some a0
theorem Dp{R} kx a0: @mn R kx a0=(df a0).bind kx:=by
 unfold df mn
 exact ac fun _=>ac fun _=>ae rfl (ae rfl (ae rfl (ac fun _=>ae rfl rfl)))
abbrev sH:af:=.fx [.val true yN] (Int) (fun z=>df z.1) (fun b=>(.one ⟨false,[(.v (.int .i64 b))]⟩,[]))
theorem rB:ag C0 169 sH:=
 ag.fx (e:=false) (.cons Ia (.cons DS (.nil))) mixed Tryz.func169 (by kernel_rfl) (by kernel_rfl) aG 1 ai (fun z=>(by kernel_rfl:_=mn (fun b=>some (sH.enc b)) z.1).trans (Dp _ z.1))
def nM:List (FuncId×af):=[(167,pN),(168,wx),(163,pM),(150,rp),(169,sH)]
abbrev dm:LS:=⟨[(false,[(.ptr 5 0)]),(false,[(.int .i64)])],[(false,[(.int .i64),(.int .i64),(.int .i64),(.int .i64),(.int .i64),(.int .i64)])],[]⟩
abbrev sf:LS:=⟨[(false,[(.int .i64)])],[],[]⟩
abbrev sc(v0:Int):=((((v0,()),()),(),()):sf.T)
abbrev sg:LS:=⟨[(false,[.undef])],[],[]⟩
abbrev se:=(((((),()),()),(),()):sg.T)
abbrev dU:List (Ex×LS):=[(.ret,sf),(.exit 0,sg)]
abbrev gU(x11:Int)(b0_0:Int)(b0_1:Int)(b0_2:Int)(b0_3:Int)(b0_4:Int)(b0_5:Int):=(((((),()),(x11,()),()),((b0_0,b0_1,b0_2,b0_3,b0_4,b0_5,()),()),()):dm.T)
def fr{R:Type}(nx:dm.T->Option R)(hx:ma R dU)(x11:Int)(b0_0:Int)(b0_1:Int)(b0_2:Int)(b0_3:Int)(b0_4:Int)(b0_5:Int):Option R:=
 cond (decide (x11<(16:Int)))
 (Option.bind (kN x11) fun y252=>
  Option.bind (eD y252 ((b0_0,(b0_1,b0_2)),(b0_3,(b0_4,b0_5)))) fun y261=>
  cond ((y261.1==(0:Int))&&((y261.2.1==(0:Int))&&((y261.2.2==(0:Int))&&Bool.true)))
  (Option.bind (bS y252 ((b0_0,(b0_1,b0_2)),(b0_3,(b0_4,b0_5)))) fun y267=>
   Option.bind (df y267) fun y284=>
   cond (decide (y284>(0:Int)))
   (hx.1 (sc x11))
   (nx (gU (IntKind.wrap .i64 (x11+(1:Int))) b0_0 b0_1 b0_2 b0_3 b0_4 b0_5)))
  (nx (gU (IntKind.wrap .i64 (x11+(1:Int))) b0_0 b0_1 b0_2 b0_3 b0_4 b0_5)))
 (hx.2.1 (se))
def pV{R:Type}(nx:dm.T->Option R)(hx:ma R dU)(z:dm.T):Option R:=fr nx hx z.1.2.1.1 z.2.1.1.1 z.2.1.1.2.1 z.2.1.1.2.2.1 z.2.1.1.2.2.2.1 z.2.1.1.2.2.2.2.1 z.2.1.1.2.2.2.2.2.1
theorem su:fR @pV:=fun R nx hx z=>by
 show fr nx hx z.1.2.1.1 z.2.1.1.1 z.2.1.1.2.1 z.2.1.1.2.2.1 z.2.1.1.2.2.2.1 z.2.1.1.2.2.2.2.1 z.2.1.1.2.2.2.2.2.1=(fr (fun y=>some (.inl y)) (rf dU fun x=>some (.inr x)) z.1.2.1.1 z.2.1.1.1 z.2.1.1.2.1 z.2.1.1.2.2.1 z.2.1.1.2.2.2.1 z.2.1.1.2.2.2.2.1 z.2.1.1.2.2.2.2.2.1).bind (tE nx hx)
 unfold fr
 exact ae (ac fun _=>ac fun _=>ae (ac fun _=>ac fun _=>ae rfl rfl) rfl) rfl
def ft:dm.T->Option (wL dU):=D4 @pV
theorem tv x11 b0_0 b0_1 b0_2 b0_3 b0_4 b0_5:ft (gU x11 b0_0 b0_1 b0_2 b0_3 b0_4 b0_5)=fr ft (rf dU some) x11 b0_0 b0_1 b0_2 b0_3 b0_4 b0_5:=kU su _
def la:dz:=⟨[5,11],[5],[4],[]⟩
def nR:iG Rv:=⟨fun k=>match k with|4=>la|_=>⟨[],[],[],[]⟩,fun k=>match k with|4=>some (fZ dm dU ft)|_=>none⟩
theorem Bo(n:Nat)(z:dm.T)(k:Ex->kf->Option Rv):eg ⟨30,30⟩ la (vt (om C0 nM) ⟨30,30⟩ nR 1 (dt Tryz.f90 3)) (n+1) (dm.enc z) k=
 pV (fun y=>eg ⟨30,30⟩ la (vt (om C0 nM) ⟨30,30⟩ nR 1 (dt Tryz.f90 3)) n (dm.enc y) k) (hK k dU) z:=by kernel_rfl
theorem C5:bC (om C0 nM) ⟨30,30⟩ nR 1 (fe (cu Tryz.f90)):=by
 have hl:fe (cu Tryz.f90)=[dt Tryz.f90 3]:=by kernel_rfl
 rw[hl]
 exact bC.cons (n:=4) (lh:=la) (S:=fZ dm dU ft) (by kernel_rfl) rfl rfl (ky su Bo)
  (bC.nil)
def ly{R:Type}(kx:Int->Option R)(a0:Pt)(a1:Pt):Option R:=
 Option.bind (jH a1 a0) fun y227=>
 Option.bind (ft (gU (0:Int) y227.1.1 y227.1.2.1 y227.1.2.2 y227.2.1 y227.2.2.1 y227.2.2.2)) (sj dU
 (fun e285=>
  kx (e285.1.1.1:Int),fun _=>
  kx (-(1:Int)),()))
def gO(a0:Pt)(a1:Pt):Option (Int):=ly some a0 a1
theorem Cj{R} kx a0 a1: @ly R kx a0 a1=(gO a0 a1).bind kx:=by
 unfold gO ly
 exact ac fun _=>dM ⟨fun _=>rfl,fun _=>rfl,trivial⟩
abbrev xe:af:=.fx [.val true yP, .val true yP] (Int) (fun z=>gO z.1 z.2.1) (fun b=>(.one ⟨false,[(.v (.int .i64 b))]⟩,[]))
theorem wj:ag C0 90 xe:=
 ag.fx (e:=false) (t:=nM) (.cons Bh (.cons Ab (.cons tr (.cons kC (.cons rB (.nil)))))) mixed Tryz.func90 (by kernel_rfl) (by kernel_rfl) nR 1 C5 (fun z=>(by kernel_rfl:_=ly (fun b=>some (xe.enc b)) z.1 z.2.1).trans (Cj _ z.1 z.2.1))
def cM{R:Type}(kx:Pt->Option R)(a0:Ln):Option R:=
 Option.bind (kN (IntKind.wrap .i64 (a0.1+(4:Int)))) fun y292=>
 kx y292
def bv(a0:Ln):Option (Pt):=cM some a0
theorem zH{R} kx a0: @cM R kx a0=(bv a0).bind kx:=by
 unfold bv cM
 exact ac fun _=>rfl
abbrev uE:af:=.fx [.val true yL] (Pt) (fun z=>bv z.1) (fun b=>(.one ⟨true,[(.v (.int .i64 b.1.1)),(.v (.int .i64 b.1.2.1)),(.v (.int .i64 b.1.2.2)),(.v (.int .i64 b.2.1)),(.v (.int .i64 b.2.2.1)),(.v (.int .i64 b.2.2.2))]⟩,[]))
theorem jg:ag C0 149 uE:=
 ag.fx (e:=false) (.cons Ab (.nil)) mixed Tryz.func149 (by kernel_rfl) (by kernel_rfl) aG 1 ai (fun z=>(by kernel_rfl:_=cM (fun b=>some (uE.enc b)) z.1).trans (zH _ z.1))
def oK{R:Type}(kx:Ln->Option R)(a0:Pt)(a1:Int):Option R:=
 Option.bind (bv (a1,((0:Int),((0:Int),(0:Int))))) fun y293=>
 Option.bind (bS y293 a0) fun y294=>
 kx (a1,y294)
def dL(a0:Pt)(a1:Int):Option (Ln):=oK some a0 a1
theorem FT{R} kx a0 a1: @oK R kx a0 a1=(dL a0 a1).bind kx:=by
 unfold dL oK
 exact ac fun _=>ac fun _=>rfl
abbrev ww:af:=.fx [.val true yP, .val false (.int .i64)] (Ln) (fun z=>dL z.1 z.2.1) (fun b=>(.one ⟨true,[(.v (.int .i64 b.1)),(.v (.int .i64 b.2.1)),(.v (.int .i64 b.2.2.1)),(.v (.int .i64 b.2.2.2))]⟩,[]))
theorem ll:ag C0 80 ww:=
 ag.fx (e:=false) (.cons jg (.cons kC (.nil))) mixed Tryz.func80 (by kernel_rfl) (by kernel_rfl) aG 1 ai (fun z=>(by kernel_rfl:_=oK (fun b=>some (ww.enc b)) z.1 z.2.1).trans (FT _ z.1 z.2.1))
def jN{R:Type}(kx:Ln×Int->Option R)(a0:Pt)(a1:Pt):Option R:=
 Option.bind (bf a0) fun y197=>
 cond (!y197)
 (kx (((0:Int),((0:Int),((0:Int),(0:Int)))),(1:Int)))
 (Option.bind (bf a1) fun y198=>
  cond (!y198)
  (kx (((0:Int),((0:Int),((0:Int),(0:Int)))),(1:Int)))
  (Option.bind (gO a0 a1) fun y288=>
   cond (decide (y288<(0:Int)))
   (kx (((0:Int),((0:Int),((0:Int),(0:Int)))),(7:Int)))
   (Option.bind (dL a0 (Int.tmod y288 (8:Int))) fun y295=>
    Option.bind (cx y295.2) fun y296=>
    cond (!y296)
    (kx (((0:Int),((0:Int),((0:Int),(0:Int)))),(2:Int)))
    (kx (y295,(0:Int))))))
def gM(a0:Pt)(a1:Pt):Option (Ln×Int):=jN some a0 a1
theorem zG{R} kx a0 a1: @jN R kx a0 a1=(gM a0 a1).bind kx:=by
 unfold gM jN
 exact ac fun _=>ae rfl (ac fun _=>ae rfl (ac fun _=>ae rfl (ac fun _=>ac fun _=>ae rfl rfl)))
abbrev uD:af:=.fx [.val true yP, .val true yP] (Ln×Int) (fun z=>gM z.1 z.2.1) (fun b=>(.tup [⟨true,[(.v (.int .i64 b.1.1)),(.v (.int .i64 b.1.2.1)),(.v (.int .i64 b.1.2.2.1)),(.v (.int .i64 b.1.2.2.2))]⟩,⟨false,[(.v (.int .i64 b.2))]⟩],[]))
theorem Bf:ag C0 76 uD:=
 ag.fx (e:=false) (.cons fq (.cons wj (.cons ll (.cons gV (.nil))))) mixed Tryz.func76 (by kernel_rfl) (by kernel_rfl) aG 1 ai (fun z=>(by kernel_rfl:_=jN (fun b=>some (uD.enc b)) z.1 z.2.1).trans (zG _ z.1 z.2.1))
def jM{R:Type}(kx:Ln×Int->Option R)(a0:Pt)(a1:Pt):Option R:=
 Option.bind (gM a0 a1) fun y297=>
 kx y297
def gL(a0:Pt)(a1:Pt):Option (Ln×Int):=jM some a0 a1
theorem zF{R} kx a0 a1: @jM R kx a0 a1=(gL a0 a1).bind kx:=by
 unfold gL jM
 exact ac fun _=>rfl
abbrev pK:af:=.fx [.val true yP, .val true yP] (Ln×Int) (fun z=>gL z.1 z.2.1) (fun b=>(.tup [⟨true,[(.v (.int .i64 b.1.1)),(.v (.int .i64 b.1.2.1)),(.v (.int .i64 b.1.2.2.1)),(.v (.int .i64 b.1.2.2.2))]⟩,⟨false,[(.v (.int .i64 b.2))]⟩],[]))
theorem Be:ag C0 29 pK:=
 ag.fx (e:=false) (.cons Bf (.nil)) mixed Tryz.func29 (by kernel_rfl) (by kernel_rfl) aG 1 ai (fun z=>(by kernel_rfl:_=jM (fun b=>some (pK.enc b)) z.1 z.2.1).trans (zF _ z.1 z.2.1))
def mu{R:Type}(kx:Bool->Option R)(a0:Pt):Option R:=
 Option.bind (jq a0.1) fun y304=>
 cond y304
 (Option.bind (jq a0.2) fun y305=>
  kx y305)
 (kx Bool.false)
def bN(a0:Pt):Option (Bool):=mu some a0
theorem Dw{R} kx a0: @mu R kx a0=(bN a0).bind kx:=by
 unfold bN mu
 exact ac fun _=>ae (ac fun _=>rfl) rfl
abbrev yv:af:=.fx [.val true yP] (Bool) (fun z=>bN z.1) (fun b=>(.one ⟨false,[(.v (.bool b))]⟩,[]))
theorem xt:ag C0 120 yv:=
 ag.fx (e:=false) (.cons BL (.nil)) mixed Tryz.func120 (by kernel_rfl) (by kernel_rfl) aG 1 ai (fun z=>(by kernel_rfl:_=mu (fun b=>some (yv.enc b)) z.1).trans (Dw _ z.1))
def oV{R:Type}(kx:Nm->Option R)(a0:Nm):Option R:=
 kx ((IntKind.wrap .i64 ((0:Int)-a0.1)),((IntKind.wrap .i64 ((0:Int)-a0.2.1)),a0.2.2))
def mB(a0:Nm):Option (Nm):=oV some a0
theorem Ga{R} kx a0: @oV R kx a0=(mB a0).bind kx:=by
 unfold mB oV
 exact rfl
abbrev Bz:af:=.fx [.val true yN] (Nm) (fun z=>mB z.1) (fun b=>(.one ⟨true,[(.v (.int .i64 b.1)),(.v (.int .i64 b.2.1)),(.v (.int .i64 b.2.2))]⟩,[]))
theorem Ig:ag C0 268 Bz:=
 ag.fx (e:=false) (.nil) mixed Tryz.func268 (by kernel_rfl) (by kernel_rfl) aG 1 ai (fun z=>(by kernel_rfl:_=oV (fun b=>some (Bz.enc b)) z.1).trans (Ga _ z.1))
def oW{R:Type}(kx:Nm->Option R)(a0:Nm)(a1:Nm):Option R:=
 Option.bind (mB a1) fun y315=>
 Option.bind (cE a0 y315) fun y316=>
 kx y316
def cp(a0:Nm)(a1:Nm):Option (Nm):=oW some a0 a1
theorem Gc{R} kx a0 a1: @oW R kx a0 a1=(cp a0 a1).bind kx:=by
 unfold cp oW
 exact ac fun _=>ac fun _=>rfl
abbrev BB:af:=.fx [.val true yN, .val true yN] (Nm) (fun z=>cp z.1 z.2.1) (fun b=>(.one ⟨true,[(.v (.int .i64 b.1)),(.v (.int .i64 b.2.1)),(.v (.int .i64 b.2.2))]⟩,[]))
theorem Ih:ag C0 218 BB:=
 ag.fx (e:=false) (.cons Ig (.cons vd (.nil))) mixed Tryz.func218 (by kernel_rfl) (by kernel_rfl) aG 1 ai (fun z=>(by kernel_rfl:_=oW (fun b=>some (BB.enc b)) z.1 z.2.1).trans (Gc _ z.1 z.2.1))
def km{R:Type}(kx:Pt->Option R)(a0:Pt)(a1:Pt):Option R:=
 Option.bind (cp a0.1 a1.1) fun y317=>
 Option.bind (cp a0.2 a1.2) fun y318=>
 kx (y317,y318)
def fi(a0:Pt)(a1:Pt):Option (Pt):=km some a0 a1
theorem Dv{R} kx a0 a1: @km R kx a0 a1=(fi a0 a1).bind kx:=by
 unfold fi km
 exact ac fun _=>ac fun _=>rfl
abbrev yu:af:=.fx [.val true yP, .val true yP] (Pt) (fun z=>fi z.1 z.2.1) (fun b=>(.one ⟨true,[(.v (.int .i64 b.1.1)),(.v (.int .i64 b.1.2.1)),(.v (.int .i64 b.1.2.2)),(.v (.int .i64 b.2.1)),(.v (.int .i64 b.2.2.1)),(.v (.int .i64 b.2.2.2))]⟩,[]))
theorem ET:ag C0 147 yu:=
 ag.fx (e:=false) (.cons Ih (.nil)) mixed Tryz.func147 (by kernel_rfl) (by kernel_rfl) aG 1 ai (fun z=>(by kernel_rfl:_=km (fun b=>some (yu.enc b)) z.1 z.2.1).trans (Dv _ z.1 z.2.1))
def kT{R:Type}(kx:Nm->Option R)(a0:Int)(a1:Pt):Option R:=
 Option.bind (cQ a0) fun y330=>
 Option.bind (aM y330) fun y331=>
 Option.bind (bK y331.1 a1.1) fun y332=>
 Option.bind (bK y331.2 a1.2) fun y333=>
 Option.bind (cE y332 y333) fun y334=>
 kx y334
def ci(a0:Int)(a1:Pt):Option (Nm):=kT some a0 a1
theorem Gd{R} kx a0 a1: @kT R kx a0 a1=(ci a0 a1).bind kx:=by
 unfold ci kT
 exact ac fun _=>ac fun _=>ac fun _=>ac fun _=>ac fun _=>rfl
abbrev wC:af:=.fx [.val false (.int .i64), .val true yP] (Nm) (fun z=>ci z.1 z.2.1) (fun b=>(.one ⟨true,[(.v (.int .i64 b.1)),(.v (.int .i64 b.2.1)),(.v (.int .i64 b.2.2))]⟩,[]))
theorem Af:ag C0 216 wC:=
 ag.fx (e:=false) (.cons Ag (.cons rS (.cons Ad (.cons vd (.nil))))) mixed Tryz.func216 (by kernel_rfl) (by kernel_rfl) aG 1 ai (fun z=>(by kernel_rfl:_=kT (fun b=>some (wC.enc b)) z.1 z.2.1).trans (Gd _ z.1 z.2.1))
def nF{R:Type}(kx:Bool->Option R)(a0:Nm):Option R:=
 cond (a0.1==(0:Int))
 (kx (a0.2.1==(0:Int)))
 (kx Bool.false)
def dY(a0:Nm):Option (Bool):=nF some a0
theorem EF{R} kx a0: @nF R kx a0=(dY a0).bind kx:=by
 unfold dY nF
 exact ae rfl rfl
abbrev uL:af:=.fx [.val true yN] (Bool) (fun z=>dY z.1) (fun b=>(.one ⟨false,[(.v (.bool b))]⟩,[]))
theorem Gs:ag C0 215 uL:=
 ag.fx (e:=false) (.nil) mixed Tryz.func215 (by kernel_rfl) (by kernel_rfl) aG 1 ai (fun z=>(by kernel_rfl:_=nF (fun b=>some (uL.enc b)) z.1).trans (EF _ z.1))
def jD{R:Type}(kx:Int×Int->Option R)(a0:Int):Option R:=
 cond (decide (a0<(0:Int)))
 (cond (decide ((IntKind.wrap IntKind.u64 ((IntKind.wrap IntKind.u64 ((IntKind.wrap IntKind.u64 (((BitVec.toNat ((BitVec.ofInt 64 (IntKind.wrap IntKind.u64 (IntKind.wrap .i64 ((0:Int)-a0))))&&&(BitVec.ofInt 64 (4294967295:Int)))):Nat):Int))*(IntKind.wrap IntKind.u64 (((BitVec.toNat ((BitVec.ofInt 64 (IntKind.wrap IntKind.u64 (IntKind.wrap .i64 ((0:Int)-a0))))&&&(BitVec.ofInt 64 (4294967295:Int)))):Nat):Int))))+(IntKind.wrap IntKind.u64 ((IntKind.wrap IntKind.u64 ((IntKind.wrap IntKind.u64 ((2:Int)*(IntKind.wrap IntKind.u64 (((BitVec.toNat ((BitVec.ofInt 64 (IntKind.wrap IntKind.u64 (IntKind.wrap .i64 ((0:Int)-a0))))&&&(BitVec.ofInt 64 (4294967295:Int)))):Nat):Int))))*(Int.fdiv (IntKind.wrap IntKind.u64 (IntKind.wrap .i64 ((0:Int)-a0))) ((2:Int)^(Min.min (Int.toNat (32:Int)) 64)))))*((2:Int)^(Min.min (Int.toNat (32:Int)) 64))))))<(IntKind.wrap IntKind.u64 ((IntKind.wrap IntKind.u64 (((BitVec.toNat ((BitVec.ofInt 64 (IntKind.wrap IntKind.u64 (IntKind.wrap .i64 ((0:Int)-a0))))&&&(BitVec.ofInt 64 (4294967295:Int)))):Nat):Int))*(IntKind.wrap IntKind.u64 (((BitVec.toNat ((BitVec.ofInt 64 (IntKind.wrap IntKind.u64 (IntKind.wrap .i64 ((0:Int)-a0))))&&&(BitVec.ofInt 64 (4294967295:Int)))):Nat):Int))))))
  (kx ((IntKind.wrap IntKind.u64 ((IntKind.wrap IntKind.u64 ((Int.fdiv (IntKind.wrap IntKind.u64 (IntKind.wrap .i64 ((0:Int)-a0))) ((2:Int)^(Min.min (Int.toNat (32:Int)) 64)))*(Int.fdiv (IntKind.wrap IntKind.u64 (IntKind.wrap .i64 ((0:Int)-a0))) ((2:Int)^(Min.min (Int.toNat (32:Int)) 64)))))+(IntKind.wrap IntKind.u64 ((Int.fdiv (IntKind.wrap IntKind.u64 ((IntKind.wrap IntKind.u64 ((2:Int)*(IntKind.wrap IntKind.u64 (((BitVec.toNat ((BitVec.ofInt 64 (IntKind.wrap IntKind.u64 (IntKind.wrap .i64 ((0:Int)-a0))))&&&(BitVec.ofInt 64 (4294967295:Int)))):Nat):Int))))*(Int.fdiv (IntKind.wrap IntKind.u64 (IntKind.wrap .i64 ((0:Int)-a0))) ((2:Int)^(Min.min (Int.toNat (32:Int)) 64))))) ((2:Int)^(Min.min (Int.toNat (32:Int)) 64)))+(1:Int))))),(IntKind.wrap IntKind.u64 ((IntKind.wrap IntKind.u64 ((IntKind.wrap IntKind.u64 (((BitVec.toNat ((BitVec.ofInt 64 (IntKind.wrap IntKind.u64 (IntKind.wrap .i64 ((0:Int)-a0))))&&&(BitVec.ofInt 64 (4294967295:Int)))):Nat):Int))*(IntKind.wrap IntKind.u64 (((BitVec.toNat ((BitVec.ofInt 64 (IntKind.wrap IntKind.u64 (IntKind.wrap .i64 ((0:Int)-a0))))&&&(BitVec.ofInt 64 (4294967295:Int)))):Nat):Int))))+(IntKind.wrap IntKind.u64 ((IntKind.wrap IntKind.u64 ((IntKind.wrap IntKind.u64 ((2:Int)*(IntKind.wrap IntKind.u64 (((BitVec.toNat ((BitVec.ofInt 64 (IntKind.wrap IntKind.u64 (IntKind.wrap .i64 ((0:Int)-a0))))&&&(BitVec.ofInt 64 (4294967295:Int)))):Nat):Int))))*(Int.fdiv (IntKind.wrap IntKind.u64 (IntKind.wrap .i64 ((0:Int)-a0))) ((2:Int)^(Min.min (Int.toNat (32:Int)) 64)))))*((2:Int)^(Min.min (Int.toNat (32:Int)) 64))))))))
  (kx ((IntKind.wrap IntKind.u64 ((IntKind.wrap IntKind.u64 ((Int.fdiv (IntKind.wrap IntKind.u64 (IntKind.wrap .i64 ((0:Int)-a0))) ((2:Int)^(Min.min (Int.toNat (32:Int)) 64)))*(Int.fdiv (IntKind.wrap IntKind.u64 (IntKind.wrap .i64 ((0:Int)-a0))) ((2:Int)^(Min.min (Int.toNat (32:Int)) 64)))))+(Int.fdiv (IntKind.wrap IntKind.u64 ((IntKind.wrap IntKind.u64 ((2:Int)*(IntKind.wrap IntKind.u64 (((BitVec.toNat ((BitVec.ofInt 64 (IntKind.wrap IntKind.u64 (IntKind.wrap .i64 ((0:Int)-a0))))&&&(BitVec.ofInt 64 (4294967295:Int)))):Nat):Int))))*(Int.fdiv (IntKind.wrap IntKind.u64 (IntKind.wrap .i64 ((0:Int)-a0))) ((2:Int)^(Min.min (Int.toNat (32:Int)) 64))))) ((2:Int)^(Min.min (Int.toNat (32:Int)) 64))))),(IntKind.wrap IntKind.u64 ((IntKind.wrap IntKind.u64 ((IntKind.wrap IntKind.u64 (((BitVec.toNat ((BitVec.ofInt 64 (IntKind.wrap IntKind.u64 (IntKind.wrap .i64 ((0:Int)-a0))))&&&(BitVec.ofInt 64 (4294967295:Int)))):Nat):Int))*(IntKind.wrap IntKind.u64 (((BitVec.toNat ((BitVec.ofInt 64 (IntKind.wrap IntKind.u64 (IntKind.wrap .i64 ((0:Int)-a0))))&&&(BitVec.ofInt 64 (4294967295:Int)))):Nat):Int))))+(IntKind.wrap IntKind.u64 ((IntKind.wrap IntKind.u64 ((IntKind.wrap IntKind.u64 ((2:Int)*(IntKind.wrap IntKind.u64 (((BitVec.toNat ((BitVec.ofInt 64 (IntKind.wrap IntKind.u64 (IntKind.wrap .i64 ((0:Int)-a0))))&&&(BitVec.ofInt 64 (4294967295:Int)))):Nat):Int))))*(Int.fdiv (IntKind.wrap IntKind.u64 (IntKind.wrap .i64 ((0:Int)-a0))) ((2:Int)^(Min.min (Int.toNat (32:Int)) 64)))))*((2:Int)^(Min.min (Int.toNat (32:Int)) 64)))))))))
 (cond (decide ((IntKind.wrap IntKind.u64 ((IntKind.wrap IntKind.u64 ((IntKind.wrap IntKind.u64 (((BitVec.toNat ((BitVec.ofInt 64 (IntKind.wrap IntKind.u64 a0))&&&(BitVec.ofInt 64 (4294967295:Int)))):Nat):Int))*(IntKind.wrap IntKind.u64 (((BitVec.toNat ((BitVec.ofInt 64 (IntKind.wrap IntKind.u64 a0))&&&(BitVec.ofInt 64 (4294967295:Int)))):Nat):Int))))+(IntKind.wrap IntKind.u64 ((IntKind.wrap IntKind.u64 ((IntKind.wrap IntKind.u64 ((2:Int)*(IntKind.wrap IntKind.u64 (((BitVec.toNat ((BitVec.ofInt 64 (IntKind.wrap IntKind.u64 a0))&&&(BitVec.ofInt 64 (4294967295:Int)))):Nat):Int))))*(Int.fdiv (IntKind.wrap IntKind.u64 a0) ((2:Int)^(Min.min (Int.toNat (32:Int)) 64)))))*((2:Int)^(Min.min (Int.toNat (32:Int)) 64))))))<(IntKind.wrap IntKind.u64 ((IntKind.wrap IntKind.u64 (((BitVec.toNat ((BitVec.ofInt 64 (IntKind.wrap IntKind.u64 a0))&&&(BitVec.ofInt 64 (4294967295:Int)))):Nat):Int))*(IntKind.wrap IntKind.u64 (((BitVec.toNat ((BitVec.ofInt 64 (IntKind.wrap IntKind.u64 a0))&&&(BitVec.ofInt 64 (4294967295:Int)))):Nat):Int))))))
  (kx ((IntKind.wrap IntKind.u64 ((IntKind.wrap IntKind.u64 ((Int.fdiv (IntKind.wrap IntKind.u64 a0) ((2:Int)^(Min.min (Int.toNat (32:Int)) 64)))*(Int.fdiv (IntKind.wrap IntKind.u64 a0) ((2:Int)^(Min.min (Int.toNat (32:Int)) 64)))))+(IntKind.wrap IntKind.u64 ((Int.fdiv (IntKind.wrap IntKind.u64 ((IntKind.wrap IntKind.u64 ((2:Int)*(IntKind.wrap IntKind.u64 (((BitVec.toNat ((BitVec.ofInt 64 (IntKind.wrap IntKind.u64 a0))&&&(BitVec.ofInt 64 (4294967295:Int)))):Nat):Int))))*(Int.fdiv (IntKind.wrap IntKind.u64 a0) ((2:Int)^(Min.min (Int.toNat (32:Int)) 64))))) ((2:Int)^(Min.min (Int.toNat (32:Int)) 64)))+(1:Int))))),(IntKind.wrap IntKind.u64 ((IntKind.wrap IntKind.u64 ((IntKind.wrap IntKind.u64 (((BitVec.toNat ((BitVec.ofInt 64 (IntKind.wrap IntKind.u64 a0))&&&(BitVec.ofInt 64 (4294967295:Int)))):Nat):Int))*(IntKind.wrap IntKind.u64 (((BitVec.toNat ((BitVec.ofInt 64 (IntKind.wrap IntKind.u64 a0))&&&(BitVec.ofInt 64 (4294967295:Int)))):Nat):Int))))+(IntKind.wrap IntKind.u64 ((IntKind.wrap IntKind.u64 ((IntKind.wrap IntKind.u64 ((2:Int)*(IntKind.wrap IntKind.u64 (((BitVec.toNat ((BitVec.ofInt 64 (IntKind.wrap IntKind.u64 a0))&&&(BitVec.ofInt 64 (4294967295:Int)))):Nat):Int))))*(Int.fdiv (IntKind.wrap IntKind.u64 a0) ((2:Int)^(Min.min (Int.toNat (32:Int)) 64)))))*((2:Int)^(Min.min (Int.toNat (32:Int)) 64))))))))
  (kx ((IntKind.wrap IntKind.u64 ((IntKind.wrap IntKind.u64 ((Int.fdiv (IntKind.wrap IntKind.u64 a0) ((2:Int)^(Min.min (Int.toNat (32:Int)) 64)))*(Int.fdiv (IntKind.wrap IntKind.u64 a0) ((2:Int)^(Min.min (Int.toNat (32:Int)) 64)))))+(Int.fdiv (IntKind.wrap IntKind.u64 ((IntKind.wrap IntKind.u64 ((2:Int)*(IntKind.wrap IntKind.u64 (((BitVec.toNat ((BitVec.ofInt 64 (IntKind.wrap IntKind.u64 a0))&&&(BitVec.ofInt 64 (4294967295:Int)))):Nat):Int))))*(Int.fdiv (IntKind.wrap IntKind.u64 a0) ((2:Int)^(Min.min (Int.toNat (32:Int)) 64))))) ((2:Int)^(Min.min (Int.toNat (32:Int)) 64))))),(IntKind.wrap IntKind.u64 ((IntKind.wrap IntKind.u64 ((IntKind.wrap IntKind.u64 (((BitVec.toNat ((BitVec.ofInt 64 (IntKind.wrap IntKind.u64 a0))&&&(BitVec.ofInt 64 (4294967295:Int)))):Nat):Int))*(IntKind.wrap IntKind.u64 (((BitVec.toNat ((BitVec.ofInt 64 (IntKind.wrap IntKind.u64 a0))&&&(BitVec.ofInt 64 (4294967295:Int)))):Nat):Int))))+(IntKind.wrap IntKind.u64 ((IntKind.wrap IntKind.u64 ((IntKind.wrap IntKind.u64 ((2:Int)*(IntKind.wrap IntKind.u64 (((BitVec.toNat ((BitVec.ofInt 64 (IntKind.wrap IntKind.u64 a0))&&&(BitVec.ofInt 64 (4294967295:Int)))):Nat):Int))))*(Int.fdiv (IntKind.wrap IntKind.u64 a0) ((2:Int)^(Min.min (Int.toNat (32:Int)) 64)))))*((2:Int)^(Min.min (Int.toNat (32:Int)) 64)))))))))
def eO(a0:Int):Option (Int×Int):=jD some a0
theorem Co{R} kx a0: @jD R kx a0=(eO a0).bind kx:=by
 unfold eO jD
 exact ae (ae rfl rfl) (ae rfl rfl)
abbrev xg:af:=.fx [.val false (.int .i64)] (Int×Int) (fun z=>eO z.1) (fun b=>(.tup [⟨false,[(.v (.int .u64 b.1))]⟩,⟨false,[(.v (.int .u64 b.2))]⟩],[]))
theorem DT:ag C0 307 xg:=
 ag.fx (e:=false) (.nil) mixed Tryz.func307 (by kernel_rfl) (by kernel_rfl) aG 1 ai (fun z=>(by kernel_rfl:_=jD (fun b=>some (xg.enc b)) z.1).trans (Co _ z.1))
def lz{R:Type}(kx:Bool->Option R)(a0:Int)(a1:Int):Option R:=
 Option.bind (eO a0) fun y343=>
 Option.bind (eO a1) fun y344=>
 cond (decide (y343.1<(IntKind.wrap IntKind.u64 ((IntKind.wrap IntKind.u64 (y344.1*(2:Int)))+(Int.fdiv y344.2 ((2:Int)^(Min.min (Int.toNat (63:Int)) 64)))))))
 (kx Bool.true)
 (cond (y343.1==(IntKind.wrap IntKind.u64 ((IntKind.wrap IntKind.u64 (y344.1*(2:Int)))+(Int.fdiv y344.2 ((2:Int)^(Min.min (Int.toNat (63:Int)) 64))))))
  (kx (decide (y343.2<(IntKind.wrap IntKind.u64 (y344.2*(2:Int))))))
  (kx Bool.false))
def cA(a0:Int)(a1:Int):Option (Bool):=lz some a0 a1
theorem ED{R} kx a0 a1: @lz R kx a0 a1=(cA a0 a1).bind kx:=by
 unfold cA lz
 exact ac fun _=>ac fun _=>ae rfl (ae rfl rfl)
abbrev zw:af:=.fx [.val false (.int .i64), .val false (.int .i64)] (Bool) (fun z=>cA z.1 z.2.1) (fun b=>(.one ⟨false,[(.v (.bool b))]⟩,[]))
theorem Gq:ag C0 267 zw:=
 ag.fx (e:=false) (.cons DT (.nil)) mixed Tryz.func267 (by kernel_rfl) (by kernel_rfl) aG 1 ai (fun z=>(by kernel_rfl:_=lz (fun b=>some (zw.enc b)) z.1 z.2.1).trans (ED _ z.1 z.2.1))
def nE{R:Type}(kx:Int->Option R)(a0:Nm):Option R:=
 cond (a0.1==(0:Int))
 (cond (a0.2.1==(0:Int))
  (kx (0:Int))
  (cond (decide (a0.1>=(0:Int)))
   (cond (decide (a0.2.1>=(0:Int)))
    (kx (1:Int))
    (cond (decide (a0.1<=(0:Int)))
     (cond (decide (a0.2.1<=(0:Int)))
      (kx (-(1:Int)))
      (Option.bind (cA a0.1 a0.2.1) fun y345=>
       cond (y345==(decide (a0.2.1>(0:Int))))
       (kx (1:Int))
       (kx (-(1:Int)))))
     (Option.bind (cA a0.1 a0.2.1) fun y346=>
      cond (y346==(decide (a0.2.1>(0:Int))))
      (kx (1:Int))
      (kx (-(1:Int))))))
   (cond (decide (a0.1<=(0:Int)))
    (cond (decide (a0.2.1<=(0:Int)))
     (kx (-(1:Int)))
     (Option.bind (cA a0.1 a0.2.1) fun y347=>
      cond (y347==(decide (a0.2.1>(0:Int))))
      (kx (1:Int))
      (kx (-(1:Int)))))
    (Option.bind (cA a0.1 a0.2.1) fun y348=>
     cond (y348==(decide (a0.2.1>(0:Int))))
     (kx (1:Int))
     (kx (-(1:Int)))))))
 (cond (decide (a0.1>=(0:Int)))
  (cond (decide (a0.2.1>=(0:Int)))
   (kx (1:Int))
   (cond (decide (a0.1<=(0:Int)))
    (cond (decide (a0.2.1<=(0:Int)))
     (kx (-(1:Int)))
     (Option.bind (cA a0.1 a0.2.1) fun y349=>
      cond (y349==(decide (a0.2.1>(0:Int))))
      (kx (1:Int))
      (kx (-(1:Int)))))
    (Option.bind (cA a0.1 a0.2.1) fun y350=>
     cond (y350==(decide (a0.2.1>(0:Int))))
     (kx (1:Int))
     (kx (-(1:Int))))))
  (cond (decide (a0.1<=(0:Int)))
   (cond (decide (a0.2.1<=(0:Int)))
    (kx (-(1:Int)))
    (Option.bind (cA a0.1 a0.2.1) fun y351=>
     cond (y351==(decide (a0.2.1>(0:Int))))
     (kx (1:Int))
     (kx (-(1:Int)))))
   (Option.bind (cA a0.1 a0.2.1) fun y352=>
    cond (y352==(decide (a0.2.1>(0:Int))))
    (kx (1:Int))
    (kx (-(1:Int))))))
def dA(a0:Nm):Option (Int):=nE some a0
theorem EE{R} kx a0: @nE R kx a0=(dA a0).bind kx:=by
 unfold dA nE
 exact ae (ae rfl (ae (ae rfl (ae (ae rfl (ac fun _=>ae rfl rfl)) (ac fun _=>ae rfl rfl))) (ae (ae rfl (ac fun _=>ae rfl rfl)) (ac fun _=>ae rfl rfl)))) (ae (ae rfl (ae (ae rfl (ac fun _=>ae rfl rfl)) (ac fun _=>ae rfl rfl))) (ae (ae rfl (ac fun _=>ae rfl rfl)) (ac fun _=>ae rfl rfl)))
abbrev uK:af:=.fx [.val true yN] (Int) (fun z=>dA z.1) (fun b=>(.one ⟨false,[(.v (.int .i64 b))]⟩,[]))
theorem Gr:ag C0 217 uK:=
 ag.fx (e:=false) (.cons Gq (.nil)) mixed Tryz.func217 (by kernel_rfl) (by kernel_rfl) aG 1 ai (fun z=>(by kernel_rfl:_=nE (fun b=>some (uK.enc b)) z.1).trans (EE _ z.1))
def kX:List (FuncId×af):=[(216,wC),(215,uL),(217,uK)]
abbrev cq:LS:=⟨[(false,[(.ptr 1 0)]),(false,[(.int .i64)])],[(false,[(.int .i64),(.int .i64),(.int .i64),(.int .i64),(.int .i64),(.int .i64)])],[]⟩
abbrev pZ:LS:=⟨[(false,[(.int .i64)])],[],[]⟩
abbrev pX(v0:Int):=((((v0,()),()),(),()):pZ.T)
abbrev qa:LS:=⟨[(false,[.undef])],[],[]⟩
abbrev pY:=(((((),()),()),(),()):qa.T)
abbrev cN:List (Ex×LS):=[(.ret,pZ),(.exit 0,qa)]
abbrev fa(x3:Int)(b0_0:Int)(b0_1:Int)(b0_2:Int)(b0_3:Int)(b0_4:Int)(b0_5:Int):=(((((),()),(x3,()),()),((b0_0,b0_1,b0_2,b0_3,b0_4,b0_5,()),()),()):cq.T)
def ek{R:Type}(nx:cq.T->Option R)(hx:ma R cN)(x3:Int)(b0_0:Int)(b0_1:Int)(b0_2:Int)(b0_3:Int)(b0_4:Int)(b0_5:Int):Option R:=
 cond (decide (x3<(16:Int)))
 (Option.bind (ci (IntKind.wrap .i64 (x3+(4:Int))) ((b0_0,(b0_1,b0_2)),(b0_3,(b0_4,b0_5)))) fun y335=>
  Option.bind (dY y335) fun y337=>
  cond y337
  (Option.bind (ci x3 ((b0_0,(b0_1,b0_2)),(b0_3,(b0_4,b0_5)))) fun y338=>
   Option.bind (dA y338) fun y353=>
   cond (decide (y353>(0:Int)))
   (hx.1 (pX x3))
   (nx (fa (IntKind.wrap .i64 (x3+(1:Int))) b0_0 b0_1 b0_2 b0_3 b0_4 b0_5)))
  (nx (fa (IntKind.wrap .i64 (x3+(1:Int))) b0_0 b0_1 b0_2 b0_3 b0_4 b0_5)))
 (hx.2.1 (pY))
def mK{R:Type}(nx:cq.T->Option R)(hx:ma R cN)(z:cq.T):Option R:=ek nx hx z.1.2.1.1 z.2.1.1.1 z.2.1.1.2.1 z.2.1.1.2.2.1 z.2.1.1.2.2.2.1 z.2.1.1.2.2.2.2.1 z.2.1.1.2.2.2.2.2.1
theorem qe:fR @mK:=fun R nx hx z=>by
 show ek nx hx z.1.2.1.1 z.2.1.1.1 z.2.1.1.2.1 z.2.1.1.2.2.1 z.2.1.1.2.2.2.1 z.2.1.1.2.2.2.2.1 z.2.1.1.2.2.2.2.2.1=(ek (fun y=>some (.inl y)) (rf cN fun x=>some (.inr x)) z.1.2.1.1 z.2.1.1.1 z.2.1.1.2.1 z.2.1.1.2.2.1 z.2.1.1.2.2.2.1 z.2.1.1.2.2.2.2.1 z.2.1.1.2.2.2.2.2.1).bind (tE nx hx)
 unfold ek
 exact ae (ac fun _=>ac fun _=>ae (ac fun _=>ac fun _=>ae rfl rfl) rfl) rfl
def en:cq.T->Option (wL cN):=D4 @mK
theorem rc x3 b0_0 b0_1 b0_2 b0_3 b0_4 b0_5:en (fa x3 b0_0 b0_1 b0_2 b0_3 b0_4 b0_5)=ek en (rf cN some) x3 b0_0 b0_1 b0_2 b0_3 b0_4 b0_5:=kU qe _
def jr:dz:=⟨[1,3],[1],[2],[]⟩
def kZ:iG Rv:=⟨fun k=>match k with|3=>jr|_=>⟨[],[],[],[]⟩,fun k=>match k with|3=>some (fZ cq cN en)|_=>none⟩
theorem yd(n:Nat)(z:cq.T)(k:Ex->kf->Option Rv):eg ⟨21,21⟩ jr (vt (om C0 kX) ⟨21,21⟩ kZ 1 (dt Tryz.f146 2)) (n+1) (cq.enc z) k=
 mK (fun y=>eg ⟨21,21⟩ jr (vt (om C0 kX) ⟨21,21⟩ kZ 1 (dt Tryz.f146 2)) n (cq.enc y) k) (hK k cN) z:=by kernel_rfl
theorem zp:bC (om C0 kX) ⟨21,21⟩ kZ 1 (fe (cu Tryz.f146)):=by
 have hl:fe (cu Tryz.f146)=[dt Tryz.f146 2]:=by kernel_rfl
 rw[hl]
 exact bC.cons (n:=3) (lh:=jr) (S:=fZ cq cN en) (by kernel_rfl) rfl rfl (ky qe yd)
  (bC.nil)
def jn{R:Type}(kx:Int->Option R)(a0:Pt):Option R:=
 Option.bind (en (fa (0:Int) a0.1.1 a0.1.2.1 a0.1.2.2 a0.2.1 a0.2.2.1 a0.2.2.2)) (sj cN
 (fun e354=>
  kx (e354.1.1.1:Int),fun _=>
  kx (-(1:Int)),()))
def eV(a0:Pt):Option (Int):=jn some a0
theorem yT{R} kx a0: @jn R kx a0=(eV a0).bind kx:=by
 unfold eV jn
 exact dM ⟨fun _=>rfl,fun _=>rfl,trivial⟩
abbrev tk:af:=.fx [.val true yP] (Int) (fun z=>eV z.1) (fun b=>(.one ⟨false,[(.v (.int .i64 b))]⟩,[]))
theorem Ae:ag C0 146 tk:=
 ag.fx (e:=false) (t:=kX) (.cons Af (.cons Gs (.cons Gr (.nil)))) mixed Tryz.func146 (by kernel_rfl) (by kernel_rfl) kZ 1 zp (fun z=>(by kernel_rfl:_=jn (fun b=>some (tk.enc b)) z.1).trans (yT _ z.1))
def oQ{R:Type}(kx:Ln×Bool->Option R)(a0:Pt)(a1:Int):Option R:=
 Option.bind (bN a0) fun y360=>
 cond (!y360)
 (kx (((0:Int),((0:Int),((0:Int),(0:Int)))),Bool.false))
 (Option.bind (ij a1 (0:Int) (7:Int)) fun y361=>
  cond (!y361)
  (kx (((0:Int),((0:Int),((0:Int),(0:Int)))),Bool.false))
  (Option.bind (aM a0) fun y362=>
   Option.bind (ci (IntKind.wrap .i64 (a1+(4:Int))) y362) fun y363=>
   Option.bind (bz y363) fun y364=>
   cond (!y364.2)
   (kx (((0:Int),((0:Int),((0:Int),(0:Int)))),Bool.false))
   (kx ((a1,y364.1),Bool.true))))
def oE(a0:Pt)(a1:Int):Option (Ln×Bool):=oQ some a0 a1
theorem F6{R} kx a0 a1: @oQ R kx a0 a1=(oE a0 a1).bind kx:=by
 unfold oE oQ
 exact ac fun _=>ae rfl (ac fun _=>ae rfl (ac fun _=>ac fun _=>ac fun _=>ae rfl rfl))
abbrev Bw:af:=.fx [.val true yP, .val false (.int .i64)] (Ln×Bool) (fun z=>oE z.1 z.2.1) (fun b=>(.tup [⟨true,[(.v (.int .i64 b.1.1)),(.v (.int .i64 b.1.2.1)),(.v (.int .i64 b.1.2.2.1)),(.v (.int .i64 b.1.2.2.2))]⟩,⟨false,[(.v (.bool b.2))]⟩],[]))
theorem If:ag C0 148 Bw:=
 ag.fx (e:=false) (.cons xt (.cons BJ (.cons rS (.cons Af (.cons vj (.nil)))))) mixed Tryz.func148 (by kernel_rfl) (by kernel_rfl) aG 1 ai (fun z=>(by kernel_rfl:_=oQ (fun b=>some (Bw.enc b)) z.1 z.2.1).trans (F6 _ z.1 z.2.1))
def jY{R:Type}(kx:Ln×Int->Option R)(a0:Pt)(a1:Pt):Option R:=
 Option.bind (bN a0) fun y306=>
 cond (!y306)
 (kx (((0:Int),((0:Int),((0:Int),(0:Int)))),(1:Int)))
 (Option.bind (bN a1) fun y307=>
  cond (!y307)
  (kx (((0:Int),((0:Int),((0:Int),(0:Int)))),(1:Int)))
  (Option.bind (aM a1) fun y308=>
   Option.bind (aM a0) fun y309=>
   Option.bind (fi y308 y309) fun y319=>
   Option.bind (eV y319) fun y357=>
   cond (decide (y357<(0:Int)))
   (kx (((0:Int),((0:Int),((0:Int),(0:Int)))),(7:Int)))
   (Option.bind (oE a0 (Int.tmod y357 (8:Int))) fun y365=>
    cond (!y365.2)
    (kx (((0:Int),((0:Int),((0:Int),(0:Int)))),(2:Int)))
    (kx (y365.1,(0:Int))))))
def gQ(a0:Pt)(a1:Pt):Option (Ln×Int):=jY some a0 a1
theorem zR{R} kx a0 a1: @jY R kx a0 a1=(gQ a0 a1).bind kx:=by
 unfold gQ jY
 exact ac fun _=>ae rfl (ac fun _=>ae rfl (ac fun _=>ac fun _=>ac fun _=>ac fun _=>ae rfl (ac fun _=>ae rfl rfl)))
abbrev uJ:af:=.fx [.val true yP, .val true yP] (Ln×Int) (fun z=>gQ z.1 z.2.1) (fun b=>(.tup [⟨true,[(.v (.int .i64 b.1.1)),(.v (.int .i64 b.1.2.1)),(.v (.int .i64 b.1.2.2.1)),(.v (.int .i64 b.1.2.2.2))]⟩,⟨false,[(.v (.int .i64 b.2))]⟩],[]))
theorem Bk:ag C0 77 uJ:=
 ag.fx (e:=false) (.cons xt (.cons rS (.cons ET (.cons Ae (.cons If (.nil)))))) mixed Tryz.func77 (by kernel_rfl) (by kernel_rfl) aG 1 ai (fun z=>(by kernel_rfl:_=jY (fun b=>some (uJ.enc b)) z.1 z.2.1).trans (zR _ z.1 z.2.1))
def jX{R:Type}(kx:Ln×Int->Option R)(a0:Pt)(a1:Pt):Option R:=
 Option.bind (gQ a0 a1) fun y366=>
 kx y366
def gP(a0:Pt)(a1:Pt):Option (Ln×Int):=jX some a0 a1
theorem zQ{R} kx a0 a1: @jX R kx a0 a1=(gP a0 a1).bind kx:=by
 unfold gP jX
 exact ac fun _=>rfl
abbrev pQ:af:=.fx [.val true yP, .val true yP] (Ln×Int) (fun z=>gP z.1 z.2.1) (fun b=>(.tup [⟨true,[(.v (.int .i64 b.1.1)),(.v (.int .i64 b.1.2.1)),(.v (.int .i64 b.1.2.2.1)),(.v (.int .i64 b.1.2.2.2))]⟩,⟨false,[(.v (.int .i64 b.2))]⟩],[]))
theorem Bj:ag C0 30 pQ:=
 ag.fx (e:=false) (.cons Bk (.nil)) mixed Tryz.func30 (by kernel_rfl) (by kernel_rfl) aG 1 ai (fun z=>(by kernel_rfl:_=jX (fun b=>some (pQ.enc b)) z.1 z.2.1).trans (zQ _ z.1 z.2.1))
def kb{R:Type}(kx:Ln×(List Int×(Int×Int))->Option R)(a0_0:List Int)(a0_1:Int)(a0_2:Int):Option R:=
 Option.bind (aY a0_0 a0_1 a0_2 (8:Int)) fun y373=>
 Option.bind (fW y373.2.1 y373.2.2.1 y373.2.2.2) fun y374=>
 kx ((y373.1,y374.1),y374.2)
def jJ(a0_0:List Int)(a0_1:Int)(a0_2:Int):Option (Ln×(List Int×(Int×Int))):=kb some a0_0 a0_1 a0_2
theorem zU{R} kx a0_0 a0_1 a0_2: @kb R kx a0_0 a0_1 a0_2=(jJ a0_0 a0_1 a0_2).bind kx:=by
 unfold jJ kb
 exact ac fun _=>ac fun _=>rfl
abbrev tf:Ln×(List Int×(Int×Int))->AV×List (List CV):=fun b=>(.one ⟨true,[(.v (.int .i64 b.1.1)),(.v (.int .i64 b.1.2.1)),(.v (.int .i64 b.1.2.2.1)),(.v (.int .i64 b.1.2.2.2))]⟩,[[(.sl (.int .u8) b.2.1),(.v (.int .i64 b.2.2.1)),(.v (.int .u64 b.2.2.2))]])
abbrev B6:af:=.fb [.rw [(.sl (.int .u8)),(.int .i64),(.int .u64)]] (Ln×(List Int×(Int×Int))) (fun z=>jJ z.1.1 z.1.2.1 z.1.2.2.1) tf
theorem Bm:ag C0 78 B6:=
 ag.fb (e:=false) (.cons gr (.cons sT (.nil))) mixed Tryz.func78 (by kernel_rfl) (by kernel_rfl) aG 1 ai (fun z=>(by kernel_rfl:_=kb (fun b=>some (tf b)) z.1.1 z.1.2.1 z.1.2.2.1).trans (zU _ z.1.1 z.1.2.1 z.1.2.2.1))
def oP{R:Type}(kx:Ln->Option R)(a0:(List Int)):Option R:=
 Option.bind (jI a0) fun y369=>
 Option.bind (jJ y369.1 y369.2.1 y369.2.2) fun y375=>
 kx y375.1
def ju(a0:(List Int)):Option (Ln):=oP some a0
theorem F5{R} kx a0: @oP R kx a0=(ju a0).bind kx:=by
 unfold ju oP
 exact ac fun _=>ac fun _=>rfl
abbrev wA:af:=.fx [.val false (.slice (.int .u8))] (Ln) (fun z=>ju z.1) (fun b=>(.one ⟨true,[(.v (.int .i64 b.1)),(.v (.int .i64 b.2.1)),(.v (.int .i64 b.2.2.1)),(.v (.int .i64 b.2.2.2))]⟩,[]))
theorem Ie:ag C0 31 wA:=
 ag.fx (e:=false) (.cons yC (.cons Bm (.nil))) mixed Tryz.func31 (by kernel_rfl) (by kernel_rfl) aG 1 ai (fun z=>(by kernel_rfl:_=oP (fun b=>some (wA.enc b)) z.1).trans (F5 _ z.1))
def lx{R:Type}(kx:Bool->Option R)(a0:Ln):Option R:=
 Option.bind (fO a0.1 (0:Int) (7:Int)) fun y399=>
 cond y399
 (Option.bind (cx a0.2) fun y400=>
  kx y400)
 (kx Bool.false)
def bh(a0:Ln):Option (Bool):=lx some a0
theorem Ci{R} kx a0: @lx R kx a0=(bh a0).bind kx:=by
 unfold bh lx
 exact ac fun _=>ae (ac fun _=>rfl) rfl
abbrev rq:af:=.fx [.val true yL] (Bool) (fun z=>bh z.1) (fun b=>(.one ⟨false,[(.v (.bool b))]⟩,[]))
theorem gi:ag C0 79 rq:=
 ag.fx (e:=false) (.cons uZ (.cons gV (.nil))) mixed Tryz.func79 (by kernel_rfl) (by kernel_rfl) aG 1 ai (fun z=>(by kernel_rfl:_=lx (fun b=>some (rq.enc b)) z.1).trans (Ci _ z.1))
def pf:List (FuncId×af):=[(164,rn),(162,pL)]
abbrev dO:LS:=⟨[(false,[(.ptr 4 0)]),(false,[(.int .i64)]),(false,[(.ptr 7 0)])],[(false,[(.int .i64),(.int .i64),(.int .i64)]),(false,[(.int .i64),(.int .i64),(.int .i64)])],[]⟩
abbrev tc:LS:=⟨[(false,[(.ptr 4 0)]),(false,[(.int .i64)]),(false,[(.ptr 7 0)])],[(false,[(.int .i64),(.int .i64),(.int .i64)]),(false,[(.int .i64),(.int .i64),(.int .i64)])],[]⟩
abbrev ta(v0:Int)(v1:Int)(v2:Int)(v3:Int)(v4:Int)(v5:Int)(v6:Int):=(((((),()),(v0,()),((),()),()),((v1,v2,v3,()),(v4,v5,v6,()),()),()):tc.T)
abbrev dQ:List (Ex×LS):=[(.exit 0,tc)]
abbrev mU(x6:Int)(b0_0:Int)(b0_1:Int)(b0_2:Int)(b1_0:Int)(b1_1:Int)(b1_2:Int):=(((((),()),(x6,()),((),()),()),((b0_0,b0_1,b0_2,()),(b1_0,b1_1,b1_2,()),()),()):dO.T)
def iQ{R:Type}(nx:dO.T->Option R)(hx:ma R dQ)(x6:Int)(b0_0:Int)(b0_1:Int)(b0_2:Int)(b1_0:Int)(b1_1:Int)(b1_2:Int):Option R:=
 cond ((IntKind.wrap .i64 (((BitVec.toNat ((BitVec.ofInt 64 x6)&&&(BitVec.ofInt 64 (1:Int)))):Nat):Int))==(0:Int))
 (nx (mU (IntKind.wrap .i64 (Int.tdiv x6 (2:Int))) b0_0 b0_1 b0_2 b1_0 b1_1 (IntKind.wrap .i64 (b1_2+(1:Int)))))
 (hx.1 (ta x6 b0_0 b0_1 b0_2 b1_0 b1_1 b1_2))
def qL{R:Type}(nx:dO.T->Option R)(hx:ma R dQ)(z:dO.T):Option R:=iQ nx hx z.1.2.1.1 z.2.1.1.1 z.2.1.1.2.1 z.2.1.1.2.2.1 z.2.1.2.1.1 z.2.1.2.1.2.1 z.2.1.2.1.2.2.1
theorem tp:fR @qL:=fun R nx hx z=>by
 show iQ nx hx z.1.2.1.1 z.2.1.1.1 z.2.1.1.2.1 z.2.1.1.2.2.1 z.2.1.2.1.1 z.2.1.2.1.2.1 z.2.1.2.1.2.2.1=(iQ (fun y=>some (.inl y)) (rf dQ fun x=>some (.inr x)) z.1.2.1.1 z.2.1.1.1 z.2.1.1.2.1 z.2.1.1.2.2.1 z.2.1.2.1.1 z.2.1.2.1.2.1 z.2.1.2.1.2.2.1).bind (tE nx hx)
 unfold iQ
 exact ae rfl rfl
def iR:dO.T->Option (wL dQ):=D4 @qL
theorem CB x6 b0_0 b0_1 b0_2 b1_0 b1_1 b1_2:iR (mU x6 b0_0 b0_1 b0_2 b1_0 b1_1 b1_2)=iQ iR (rf dQ some) x6 b0_0 b0_1 b0_2 b1_0 b1_1 b1_2:=kU tp _
def lM:dz:=⟨[4,6,7],[4,7],[4,6,7],[4,7]⟩
def pk:iG Rv:=⟨fun k=>match k with|7=>lM|_=>⟨[],[],[],[]⟩,fun k=>match k with|7=>some (fZ dO dQ iR)|_=>none⟩
theorem CA(n:Nat)(z:dO.T)(k:Ex->kf->Option Rv):eg ⟨89,89⟩ lM (vt (om C0 pf) ⟨89,89⟩ pk 1 (dt Tryz.f152 6)) (n+1) (dO.enc z) k=
 qL (fun y=>eg ⟨89,89⟩ lM (vt (om C0 pf) ⟨89,89⟩ pk 1 (dt Tryz.f152 6)) n (dO.enc y) k) (hK k dQ) z:=by kernel_rfl
theorem Ej:bC (om C0 pf) ⟨89,89⟩ pk 1 (fe (cu Tryz.f152)):=by
 have hl:fe (cu Tryz.f152)=[dt Tryz.f152 6]:=by kernel_rfl
 rw[hl]
 exact bC.cons (n:=7) (lh:=lM) (S:=fZ dO dQ iR) (by kernel_rfl) rfl rfl (ky tp CA)
  (bC.nil)
def kl{R:Type}(kx:Nm×Bool->Option R)(a0:Nm)(a1:Nm):Option R:=
 cond ((IntKind.wrap .i64 ((IntKind.wrap .i64 (a1.1*a1.1))-(IntKind.wrap .i64 ((IntKind.wrap .i64 ((2:Int)*a1.2.1))*a1.2.1))))==(0:Int))
 (kx (((0:Int),((0:Int),(0:Int))),Bool.false))
 (Option.bind (bR a0 (a1.1,((IntKind.wrap .i64 ((0:Int)-a1.2.1)),(0:Int)))) fun y408=>
  Option.bind (iR (mU (IntKind.wrap .i64 ((IntKind.wrap .i64 (a1.1*a1.1))-(IntKind.wrap .i64 ((IntKind.wrap .i64 ((2:Int)*a1.2.1))*a1.2.1)))) (0:Int) (0:Int) (0:Int) y408.1 y408.2.1 (IntKind.wrap .i64 (y408.2.2-a1.2.2)))) (sj dQ
  (fun e416=>
   cond (decide ((e416.1.2.1.1:Int)=(0:Int)))
   none
   (cond ((Int.tmod (e416.2.1.2.1.1:Int) (e416.1.2.1.1:Int)) !=(0:Int))
    (kx (((0:Int),((0:Int),(0:Int))),Bool.false))
    (cond (decide ((e416.1.2.1.1:Int)=(0:Int)))
     none
     (cond ((Int.tmod (e416.2.1.2.1.2.1:Int) (e416.1.2.1.1:Int)) !=(0:Int))
      (kx (((0:Int),((0:Int),(0:Int))),Bool.false))
      (cond (decide ((e416.1.2.1.1:Int)=(0:Int)))
       none
       (cond (decide ((e416.1.2.1.1:Int)=(0:Int)))
        none
        (cond (decide ((e416.2.1.2.1.2.2.1:Int)<(0:Int)))
         (cond (decide ((IntKind.wrap .i64 ((0:Int)-(e416.2.1.2.1.2.2.1:Int)))<(0:Int)))
          none
          (cond (decide ((IntKind.wrap .i64 ((0:Int)-(e416.2.1.2.1.2.2.1:Int)))<(0:Int)))
           none
           (Option.bind (cw ((IntKind.wrap .i64 ((IntKind.wrap .i64 (Int.tdiv (e416.2.1.2.1.1:Int) (e416.1.2.1.1:Int)))*((2:Int)^(Min.min (Int.toNat (IntKind.wrap .i64 ((0:Int)-(e416.2.1.2.1.2.2.1:Int)))) 64)))),((IntKind.wrap .i64 ((IntKind.wrap .i64 (Int.tdiv (e416.2.1.2.1.2.1:Int) (e416.1.2.1.1:Int)))*((2:Int)^(Min.min (Int.toNat (IntKind.wrap .i64 ((0:Int)-(e416.2.1.2.1.2.2.1:Int)))) 64)))),(0:Int)))) fun y424=>
            kx (y424,Bool.true))))
         (Option.bind (cw ((IntKind.wrap .i64 (Int.tdiv (e416.2.1.2.1.1:Int) (e416.1.2.1.1:Int))),((IntKind.wrap .i64 (Int.tdiv (e416.2.1.2.1.2.1:Int) (e416.1.2.1.1:Int))),(e416.2.1.2.1.2.2.1:Int)))) fun y425=>
          kx (y425,Bool.true)))))))),())))
def dX(a0:Nm)(a1:Nm):Option (Nm×Bool):=kl some a0 a1
theorem Dm{R} kx a0 a1: @kl R kx a0 a1=(dX a0 a1).bind kx:=by
 unfold dX kl
 exact ae rfl (ac fun _=>dM ⟨fun _=>ae rfl (ae rfl (ae rfl (ae rfl (ae rfl (ae rfl (ae (ae rfl (ae rfl (ac fun _=>rfl))) (ac fun _=>rfl))))))),trivial⟩)
abbrev yo:af:=.fx [.val true yN, .val true yN] (Nm×Bool) (fun z=>dX z.1 z.2.1) (fun b=>(.tup [⟨true,[(.v (.int .i64 b.1.1)),(.v (.int .i64 b.1.2.1)),(.v (.int .i64 b.1.2.2))]⟩,⟨false,[(.v (.bool b.2))]⟩],[]))
theorem rA:ag C0 152 yo:=
 ag.fx (e:=false) (t:=pf) (.cons kB (.cons jh (.nil))) mixed Tryz.func152 (by kernel_rfl) (by kernel_rfl) pk 1 Ej (fun z=>(by kernel_rfl:_=kl (fun b=>some (yo.enc b)) z.1 z.2.1).trans (Dm _ z.1 z.2.1))
def jS{R:Type}(kx:Pt->Option R)(a0:Pt)(a1:Nm):Option R:=
 Option.bind (bR a0.1 a1) fun y429=>
 Option.bind (bR a0.2 a1) fun y430=>
 kx (y429,y430)
def fm(a0:Pt)(a1:Nm):Option (Pt):=jS some a0 a1
theorem zN{R} kx a0 a1: @jS R kx a0 a1=(fm a0 a1).bind kx:=by
 unfold fm jS
 exact ac fun _=>ac fun _=>rfl
abbrev uH:af:=.fx [.val true yP, .val true yN] (Pt) (fun z=>fm z.1 z.2.1) (fun b=>(.one ⟨true,[(.v (.int .i64 b.1.1)),(.v (.int .i64 b.1.2.1)),(.v (.int .i64 b.1.2.2)),(.v (.int .i64 b.2.1)),(.v (.int .i64 b.2.2.1)),(.v (.int .i64 b.2.2.2))]⟩,[]))
theorem tt:ag C0 154 uH:=
 ag.fx (e:=false) (.cons kB (.nil)) mixed Tryz.func154 (by kernel_rfl) (by kernel_rfl) aG 1 ai (fun z=>(by kernel_rfl:_=jS (fun b=>some (uH.enc b)) z.1 z.2.1).trans (zN _ z.1 z.2.1))
def lp{R:Type}(kx:Pt->Option R)(a0:Ln):Option R:=
 Option.bind (bv a0) fun y404=>
 Option.bind (bS y404 y404) fun y405=>
 Option.bind (dX a0.2 y405) fun y426=>
 Option.bind (fm y404 y426.1) fun y431=>
 kx y431
def jy(a0:Ln):Option (Pt):=lp some a0
theorem Cc{R} kx a0: @lp R kx a0=(jy a0).bind kx:=by
 unfold jy lp
 exact ac fun _=>ac fun _=>ac fun _=>ac fun _=>rfl
abbrev xb:af:=.fx [.val true yL] (Pt) (fun z=>jy z.1) (fun b=>(.one ⟨true,[(.v (.int .i64 b.1.1)),(.v (.int .i64 b.1.2.1)),(.v (.int .i64 b.1.2.2)),(.v (.int .i64 b.2.1)),(.v (.int .i64 b.2.2.1)),(.v (.int .i64 b.2.2.2))]⟩,[]))
theorem DQ:ag C0 82 xb:=
 ag.fx (e:=false) (.cons jg (.cons kC (.cons rA (.cons tt (.nil))))) mixed Tryz.func82 (by kernel_rfl) (by kernel_rfl) aG 1 ai (fun z=>(by kernel_rfl:_=lp (fun b=>some (xb.enc b)) z.1).trans (Cc _ z.1))
def kE{R:Type}(kx:Pt->Option R)(a0:Pt)(a1:Pt):Option R:=
 Option.bind (de a0.1 a1.1) fun y444=>
 Option.bind (de a0.2 a1.2) fun y445=>
 kx (y444,y445)
def fT(a0:Pt)(a1:Pt):Option (Pt):=kE some a0 a1
theorem AY{R} kx a0 a1: @kE R kx a0 a1=(fT a0 a1).bind kx:=by
 unfold fT kE
 exact ac fun _=>ac fun _=>rfl
abbrev vU:af:=.fx [.val true yP, .val true yP] (Pt) (fun z=>fT z.1 z.2.1) (fun b=>(.one ⟨true,[(.v (.int .i64 b.1.1)),(.v (.int .i64 b.1.2.1)),(.v (.int .i64 b.1.2.2)),(.v (.int .i64 b.2.1)),(.v (.int .i64 b.2.2.1)),(.v (.int .i64 b.2.2.2))]⟩,[]))
theorem uY:ag C0 153 vU:=
 ag.fx (e:=false) (.cons lk (.nil)) mixed Tryz.func153 (by kernel_rfl) (by kernel_rfl) aG 1 ai (fun z=>(by kernel_rfl:_=kE (fun b=>some (vU.enc b)) z.1 z.2.1).trans (AY _ z.1 z.2.1))
def jj{R:Type}(kx:Pt->Option R)(a0:Ln)(a1:Pt):Option R:=
 Option.bind (bv a0) fun y435=>
 Option.bind (bS y435 a1) fun y436=>
 Option.bind (bJ a0.2 y436) fun y437=>
 Option.bind (bS y435 y435) fun y438=>
 Option.bind (dX y437 y438) fun y439=>
 Option.bind (de y439.1 y439.1) fun y440=>
 Option.bind (fm y435 y440) fun y441=>
 Option.bind (fT a1 y441) fun y446=>
 kx y446
def cP(a0:Ln)(a1:Pt):Option (Pt):=jj some a0 a1
theorem yQ{R} kx a0 a1: @jj R kx a0 a1=(cP a0 a1).bind kx:=by
 unfold cP jj
 exact ac fun _=>ac fun _=>ac fun _=>ac fun _=>ac fun _=>ac fun _=>ac fun _=>ac fun _=>rfl
abbrev oq:af:=.fx [.val true yL, .val true yP] (Pt) (fun z=>cP z.1 z.2.1) (fun b=>(.one ⟨true,[(.v (.int .i64 b.1.1)),(.v (.int .i64 b.1.2.1)),(.v (.int .i64 b.1.2.2)),(.v (.int .i64 b.2.1)),(.v (.int .i64 b.2.2.1)),(.v (.int .i64 b.2.2.2))]⟩,[]))
theorem nw:ag C0 81 oq:=
 ag.fx (e:=false) (.cons jg (.cons kC (.cons iM (.cons rA (.cons lk (.cons tt (.cons uY (.nil)))))))) mixed Tryz.func81 (by kernel_rfl) (by kernel_rfl) aG 1 ai (fun z=>(by kernel_rfl:_=jj (fun b=>some (oq.enc b)) z.1 z.2.1).trans (yQ _ z.1 z.2.1))
end
end Go.Proofs.YtjkljnflaifbhaaGreatDoor
