/- No conditions. -/
import Derived.Test.YtjkljnflaifbhaaGreatDoorW1Z
import Derived.Test.YtjkljnflaifbhaaGreatDoorAL1
namespace Go.Proofs.YtjkljnflaifbhaaGreatDoor
open Go.Vai
set_option maxRecDepth 100000
noncomputable section
abbrev Ln:=(Int×Nm)
abbrev Pt:=(Nm×Nm)
abbrev Cn:=(ByteArray×(Int×((List ByteArray)×(Int×(Pt×Ln)))))
abbrev It:=(ByteArray×(Bool×(Pt×Ln)))
abbrev yN:Ty:=.pair (.int .i64) (.pair (.int .i64) (.int .i64))
abbrev yP:Ty:=.pair yN yN
abbrev yL:Ty:=.pair (.int .i64) yN
abbrev yI:Ty:=.pair .str (.pair .bool (.pair yP yL))
abbrev yC:Ty:=.pair .str (.pair (.int .i64) (.pair (.slice .str) (.pair (.int .i64) (.pair yP yL))))
def vq{R:Type}(kx:Int->Option R)(a0:It)(a1:Int):Option R:=
 cond (decide ((IntKind.wrap .i64 (a1-(((ByteArray.size a0.1):Nat):Int)))<(0:Int)))
 (kx (-(1:Int)))
 (kx (IntKind.wrap .i64 (a1-(((ByteArray.size a0.1):Nat):Int))))
def rT(a0:It)(a1:Int):Option (Int):=vq some a0 a1
theorem PL{R} kx a0 a1: @vq R kx a0 a1=(rT a0 a1).bind kx:=by
 unfold rT vq
 exact ae rfl rfl
abbrev EA:af:=.fx [.val true yI, .val false (.int .i64)] (Int) (fun z=>rT z.1 z.2.1) (fun b=>(.one ⟨false,[(.v (.int .i64 b))]⟩,[]))
theorem Sl:ag C0 54 EA:=
 ag.fx (e:=false) (.nil) mixed Tryz.func54 (by kernel_rfl) (by kernel_rfl) aj 1 ai (fun z=>(by kernel_rfl:_=vq (fun b=>some (EA.enc b)) z.1 z.2.1).trans (PL _ z.1 z.2.1))
def wQ:List (FuncId×af):=[(54,EA)]
abbrev ga:LS:=⟨[(false,[(.sl yI)]),(false,[(.int .i64)]),(false,[(.int .i64)])],[],[]⟩
abbrev Cd:LS:=⟨[(false,[(.int .i64)]),(false,[(.int .i64)])],[],[]⟩
abbrev B5(v0:Int)(v1:Int):=((((v0,()),(v1,()),()),(),()):Cd.T)
abbrev Ce:LS:=⟨[(false,[(.int .i64)]),(false,[.undef])],[],[]⟩
abbrev wh(v0:Int):=((((v0,()),((),()),()),(),()):Ce.T)
abbrev iu:List (Ex×LS):=[(.ret,Cd),(.exit 0,Ce)]
abbrev lw x0(x1:Int)(x5:Int):=((((x0,()),(x1,()),(x5,()),()),(),()):ga.T)
def lB{R:Type}(nx:ga.T->Option R)(hx:lF R iu)(x0:List It)(x1:Int)(x5:Int):Option R:=
 cond (decide (x5<((List.length x0:Nat):Int)))
 (Option.bind (fY x0 x5) fun y7=>
  Option.bind (rT y7 x1) fun y10=>
  cond (decide (y10<(0:Int)))
  (hx.1 (B5 y10 (-(1:Int))))
  (nx (lw x0 y10 (IntKind.wrap .i64 (x5+(1:Int))))))
 (hx.2.1 (wh x1))
def yF{R:Type}(nx:ga.T->Option R)(hx:lF R iu)(z:ga.T):Option R:=lB nx hx z.1.1.1 z.1.2.1.1 z.1.2.2.1.1
theorem CJ:cY @yF:=fun R nx hx z=>by
 show lB nx hx z.1.1.1 z.1.2.1.1 z.1.2.2.1.1=(lB (fun y=>some (.inl y)) (oM iu fun x=>some (.inr x)) z.1.1.1 z.1.2.1.1 z.1.2.2.1.1).bind (oH nx hx)
 unfold lB
 exact ae (ac fun _=>ac fun _=>ae rfl rfl) rfl
def ip:ga.T->Option (xb iu):=BJ @yF
theorem En x0 x1 x5:ip (lw x0 x1 x5)=lB ip (oM iu some) x0 x1 x5:=eU CJ _
def sH:bQ:=⟨[0,1,5],[],[1,4],[]⟩
def xf:fQ Rv:=⟨fun k=>match k with|6=>sH|_=>⟨[],[],[],[]⟩,fun k=>match k with|6=>some (cu ga iu ip)|_=>none⟩
theorem M1(n:Nat)(z:ga.T)(k:Ex->hZ->Option Rv):bL ⟨27,27⟩ sH (nG (ii C0 wQ) ⟨27,27⟩ xf 1 (aL Tryz.f12 5)) (n+1) (ga.enc z) k=
 yF (fun y=>bL ⟨27,27⟩ sH (nG (ii C0 wQ) ⟨27,27⟩ xf 1 (aL Tryz.f12 5)) n (ga.enc y) k) (hK k iu) z:=by kernel_rfl
theorem Pw:aw (ii C0 wQ) ⟨27,27⟩ xf 1 (cp (bh Tryz.f12)):=by
 have hl:cp (bh Tryz.f12)=[aL Tryz.f12 5]:=by kernel_rfl
 rw[hl]
 exact aw.cons (n:=6) (lh:=sH) (S:=cu ga iu ip) (by kernel_rfl) rfl rfl (cy CJ M1)
  (aw.nil)
def tv{R:Type}(kx:Int->Option R)(a0:(List It))(a1:Int):Option R:=
 cond (decide ((IntKind.wrap .i64 (a1-((List.length a0:Nat):Int)))<(0:Int)))
 (kx (-(1:Int)))
 (Option.bind (ip (lw a0 (IntKind.wrap .i64 (a1-((List.length a0:Nat):Int))) (0:Int))) (pD iu
  (fun e11=>
   kx (e11.1.2.1.1:Int),fun e14=>
   kx (e14.1.1.1:Int),())))
def nN(a0:(List It))(a1:Int):Option (Int):=tv some a0 a1
theorem NN{R} kx a0 a1: @tv R kx a0 a1=(nN a0 a1).bind kx:=by
 unfold nN tv
 exact ae rfl (cE ⟨fun _=>rfl,fun _=>rfl,trivial⟩)
abbrev HM:af:=.fx [.val false (.slice yI), .val false (.int .i64)] (Int) (fun z=>nN z.1 z.2.1) (fun b=>(.one ⟨false,[(.v (.int .i64 b))]⟩,[]))
theorem Qb:ag C0 12 HM:=
 ag.fx (e:=false) (t:=wQ) (.cons Sl (.nil)) mixed Tryz.func12 (by kernel_rfl) (by kernel_rfl) xf 1 Pw (fun z=>(by kernel_rfl:_=tv (fun b=>some (HM.enc b)) z.1 z.2.1).trans (NN _ z.1 z.2.1))
def tQ:List (FuncId×af):=[]
abbrev eP:LS:=⟨[(false,[(.sl .str)]),(false,[(.int .i64)]),(false,[(.int .i64)])],[],[]⟩
abbrev zI:LS:=⟨[(false,[(.int .i64)]),(false,[(.int .i64)])],[],[]⟩
abbrev zv(v0:Int)(v1:Int):=((((v0,()),(v1,()),()),(),()):zI.T)
abbrev zJ:LS:=⟨[(false,[(.int .i64)]),(false,[.undef])],[],[]⟩
abbrev zw(v0:Int):=((((v0,()),((),()),()),(),()):zJ.T)
abbrev fO:List (Ex×LS):=[(.ret,zI),(.exit 0,zJ)]
abbrev jj(x0:List ByteArray)(x1:Int)(x5:Int):=((((x0,()),(x1,()),(x5,()),()),(),()):eP.T)
def jq{R:Type}(nx:eP.T->Option R)(hx:lF R fO)(x0:List ByteArray)(x1:Int)(x5:Int):Option R:=
 cond (decide (x5<((List.length x0:Nat):Int)))
 (Option.bind (fY x0 x5) fun y24=>
  cond (decide ((IntKind.wrap .i64 (x1-(((ByteArray.size y24):Nat):Int)))<(0:Int)))
  (hx.1 (zv (IntKind.wrap .i64 (x1-(((ByteArray.size y24):Nat):Int))) (-(1:Int))))
  (nx (jj x0 (IntKind.wrap .i64 (x1-(((ByteArray.size y24):Nat):Int))) (IntKind.wrap .i64 (x5+(1:Int))))))
 (hx.2.1 (zw x1))
def wy{R:Type}(nx:eP.T->Option R)(hx:lF R fO)(z:eP.T):Option R:=jq nx hx z.1.1.1 z.1.2.1.1 z.1.2.2.1.1
theorem zY:cY @wy:=fun R nx hx z=>by
 show jq nx hx z.1.1.1 z.1.2.1.1 z.1.2.2.1.1=(jq (fun y=>some (.inl y)) (oM fO fun x=>some (.inr x)) z.1.1.1 z.1.2.1.1 z.1.2.2.1.1).bind (oH nx hx)
 unfold jq
 exact ae (ac fun _=>ae rfl rfl) rfl
def fI:eP.T->Option (xb fO):=BJ @wy
theorem Bm x0 x1 x5:fI (jj x0 x1 x5)=jq fI (oM fO some) x0 x1 x5:=eU zY _
def pX:bQ:=⟨[0,1,5],[],[1,4],[]⟩
def tX:fQ Rv:=⟨fun k=>match k with|6=>pX|_=>⟨[],[],[],[]⟩,fun k=>match k with|6=>some (cu eP fO fI)|_=>none⟩
theorem JJ(n:Nat)(z:eP.T)(k:Ex->hZ->Option Rv):bL ⟨28,28⟩ pX (nG (ii C0 tQ) ⟨28,28⟩ tX 1 (aL Tryz.f55 5)) (n+1) (eP.enc z) k=
 wy (fun y=>bL ⟨28,28⟩ pX (nG (ii C0 tQ) ⟨28,28⟩ tX 1 (aL Tryz.f55 5)) n (eP.enc y) k) (hK k fO) z:=by kernel_rfl
theorem LP:aw (ii C0 tQ) ⟨28,28⟩ tX 1 (cp (bh Tryz.f55)):=by
 have hl:cp (bh Tryz.f55)=[aL Tryz.f55 5]:=by kernel_rfl
 rw[hl]
 exact aw.cons (n:=6) (lh:=pX) (S:=cu eP fO fI) (by kernel_rfl) rfl rfl (cy zY JJ)
  (aw.nil)
def qD{R:Type}(kx:Int->Option R)(a0:(List ByteArray))(a1:Int):Option R:=
 cond (decide ((IntKind.wrap .i64 (a1-((List.length a0:Nat):Int)))<(0:Int)))
 (kx (-(1:Int)))
 (Option.bind (fI (jj a0 (IntKind.wrap .i64 (a1-((List.length a0:Nat):Int))) (0:Int))) (pD fO
  (fun e25=>
   kx (e25.1.2.1.1:Int),fun e28=>
   kx (e28.1.1.1:Int),())))
def nu(a0:(List ByteArray))(a1:Int):Option (Int):=qD some a0 a1
theorem KQ{R} kx a0 a1: @qD R kx a0 a1=(nu a0 a1).bind kx:=by
 unfold nu qD
 exact ae rfl (cE ⟨fun _=>rfl,fun _=>rfl,trivial⟩)
abbrev Fp:af:=.fx [.val false (.slice .str), .val false (.int .i64)] (Int) (fun z=>nu z.1 z.2.1) (fun b=>(.one ⟨false,[(.v (.int .i64 b))]⟩,[]))
theorem MP:ag C0 55 Fp:=
 ag.fx (e:=false) (t:=tQ) (.nil) mixed Tryz.func55 (by kernel_rfl) (by kernel_rfl) tX 1 LP (fun z=>(by kernel_rfl:_=qD (fun b=>some (Fp.enc b)) z.1 z.2.1).trans (KQ _ z.1 z.2.1))
def kT{R:Type}(kx:Int->Option R)(a0:Cn)(a1:Int):Option R:=
 cond (decide ((IntKind.wrap .i64 (a1-(((ByteArray.size a0.1):Nat):Int)))<(0:Int)))
 (kx (-(1:Int)))
 (Option.bind (nu a0.2.2.1 (IntKind.wrap .i64 (a1-(((ByteArray.size a0.1):Nat):Int)))) fun y30=>
  cond (decide (y30<(0:Int)))
  (kx (-(1:Int)))
  (kx y30))
def gk(a0:Cn)(a1:Int):Option (Int):=kT some a0 a1
theorem FA{R} kx a0 a1: @kT R kx a0 a1=(gk a0 a1).bind kx:=by
 unfold gk kT
 exact ae rfl (ac fun _=>ae rfl rfl)
abbrev xZ:af:=.fx [.val true yC, .val false (.int .i64)] (Int) (fun z=>gk z.1 z.2.1) (fun b=>(.one ⟨false,[(.v (.int .i64 b))]⟩,[]))
theorem Gs:ag C0 13 xZ:=
 ag.fx (e:=false) (.cons MP (.nil)) mixed Tryz.func13 (by kernel_rfl) (by kernel_rfl) aj 1 ai (fun z=>(by kernel_rfl:_=kT (fun b=>some (xZ.enc b)) z.1 z.2.1).trans (FA _ z.1 z.2.1))
def BI{R:Type}(kx:Nm->Option R)(a0:Nm):Option R:=
 kx a0
def qU(a0:Nm):Option (Nm):=BI some a0
theorem RN{R} kx a0: @BI R kx a0=(qU a0).bind kx:=by
 unfold qU BI
 exact rfl
abbrev LY:af:=.fx [.val true yN] (Nm) (fun z=>qU z.1) (fun b=>(.one ⟨true,[(.v (.int .i64 b.1)),(.v (.int .i64 b.2.1)),(.v (.int .i64 b.2.2))]⟩,[]))
theorem Kd:ag C0 125 LY:=
 ag.fx (e:=false) (.nil) mixed Tryz.func125 (by kernel_rfl) (by kernel_rfl) aj 1 ai (fun z=>(by kernel_rfl:_=BI (fun b=>some (LY.enc b)) z.1).trans (RN _ z.1))
def tx{R:Type}(kx:Pt->Option R)(a0:Pt):Option R:=
 Option.bind (qU a0.1) fun y40=>
 Option.bind (qU a0.2) fun y41=>
 kx (y40,y41)
def nO(a0:Pt):Option (Pt):=tx some a0
theorem NP{R} kx a0: @tx R kx a0=(nO a0).bind kx:=by
 unfold nO tx
 exact ac fun _=>ac fun _=>rfl
abbrev HO:af:=.fx [.val true yP] (Pt) (fun z=>nO z.1) (fun b=>(.one ⟨true,[(.v (.int .i64 b.1.1)),(.v (.int .i64 b.1.2.1)),(.v (.int .i64 b.1.2.2)),(.v (.int .i64 b.2.1)),(.v (.int .i64 b.2.2.1)),(.v (.int .i64 b.2.2.2))]⟩,[]))
theorem GU:ag C0 61 HO:=
 ag.fx (e:=false) (.cons Kd (.nil)) mixed Tryz.func61 (by kernel_rfl) (by kernel_rfl) aj 1 ai (fun z=>(by kernel_rfl:_=tx (fun b=>some (HO.enc b)) z.1).trans (NP _ z.1))
def vu{R:Type}(kx:Ln->Option R)(a0:Ln):Option R:=
 Option.bind (qU a0.2) fun y44=>
 kx (a0.1,y44)
def pJ(a0:Ln):Option (Ln):=vu some a0
theorem PN{R} kx a0: @vu R kx a0=(pJ a0).bind kx:=by
 unfold pJ vu
 exact ac fun _=>rfl
abbrev JX:af:=.fx [.val true yL] (Ln) (fun z=>pJ z.1) (fun b=>(.one ⟨true,[(.v (.int .i64 b.1)),(.v (.int .i64 b.2.1)),(.v (.int .i64 b.2.2.1)),(.v (.int .i64 b.2.2.2))]⟩,[]))
theorem Iy:ag C0 62 JX:=
 ag.fx (e:=false) (.cons Kd (.nil)) mixed Tryz.func62 (by kernel_rfl) (by kernel_rfl) aj 1 ai (fun z=>(by kernel_rfl:_=vu (fun b=>some (JX.enc b)) z.1).trans (PN _ z.1))
def vt{R:Type}(kx:It->Option R)(a0:It):Option R:=
 Option.bind (nO a0.2.2.1) fun y42=>
 Option.bind (pJ a0.2.2.2) fun y45=>
 kx (a0.1,(a0.2.1,(y42,y45)))
def rU(a0:It):Option (It):=vt some a0
theorem PM{R} kx a0: @vt R kx a0=(rU a0).bind kx:=by
 unfold rU vt
 exact ac fun _=>ac fun _=>rfl
abbrev EB:af:=.fx [.val true yI] (It) (fun z=>rU z.1) (fun b=>(.one ⟨true,[(.v (.string b.1)),(.v (.bool b.2.1)),(.v (.int .i64 b.2.2.1.1.1)),(.v (.int .i64 b.2.2.1.1.2.1)),(.v (.int .i64 b.2.2.1.1.2.2)),(.v (.int .i64 b.2.2.1.2.1)),(.v (.int .i64 b.2.2.1.2.2.1)),(.v (.int .i64 b.2.2.1.2.2.2)),(.v (.int .i64 b.2.2.2.1)),(.v (.int .i64 b.2.2.2.2.1)),(.v (.int .i64 b.2.2.2.2.2.1)),(.v (.int .i64 b.2.2.2.2.2.2))]⟩,[]))
theorem Sm:ag C0 59 EB:=
 ag.fx (e:=false) (.cons GU (.cons Iy (.nil))) mixed Tryz.func59 (by kernel_rfl) (by kernel_rfl) aj 1 ai (fun z=>(by kernel_rfl:_=vt (fun b=>some (EB.enc b)) z.1).trans (PM _ z.1))
def wR:List (FuncId×af):=[(59,EB)]
abbrev gc:LS:=⟨[(false,[(.sl yI)]),(false,[(.own yI)]),(false,[(.int .i64)])],[],[]⟩
abbrev Cf:LS:=⟨[(false,[(.own yI)])],[],[]⟩
abbrev B6 v0:=((((v0,()),()),(),()):Cf.T)
abbrev iv:List (Ex×LS):=[(.exit 0,Cf)]
abbrev qd x0 x3(x4:Int):=((((x0,()),(x3,()),(x4,()),()),(),()):gc.T)
def lC{R:Type}(nx:gc.T->Option R)(hx:lF R iv)(x0:List It)(x3:List It)(x4:Int):Option R:=
 cond (decide (x4<((List.length x0:Nat):Int)))
 (Option.bind (fY x0 x4) fun y36=>
  Option.bind (rU y36) fun y46=>
  Option.bind (fY x3 x4) fun _=>
  nx (qd x0 (List.set x3 (0+(Int.toNat x4)) y46) (IntKind.wrap .i64 (x4+(1:Int)))))
 (hx.1 (B6 x3))
def yG{R:Type}(nx:gc.T->Option R)(hx:lF R iv)(z:gc.T):Option R:=lC nx hx z.1.1.1 z.1.2.1.1 z.1.2.2.1.1
theorem CK:cY @yG:=fun R nx hx z=>by
 show lC nx hx z.1.1.1 z.1.2.1.1 z.1.2.2.1.1=(lC (fun y=>some (.inl y)) (oM iv fun x=>some (.inr x)) z.1.1.1 z.1.2.1.1 z.1.2.2.1.1).bind (oH nx hx)
 unfold lC
 exact ae (ac fun _=>ac fun _=>ac fun _=>rfl) rfl
def lD:gc.T->Option (xb iv):=BJ @yG
theorem Eo x0 x3 x4:lD (qd x0 x3 x4)=lC lD (oM iv some) x0 x3 x4:=eU CK _
def sI:bQ:=⟨[0,3,4],[],[3],[]⟩
def xg:fQ Rv:=⟨fun k=>match k with|4=>sI|_=>⟨[],[],[],[]⟩,fun k=>match k with|4=>some (cu gc iv lD)|_=>none⟩
theorem M2(n:Nat)(z:gc.T)(k:Ex->hZ->Option Rv):bL ⟨23,23⟩ sI (nG (ii C0 wR) ⟨23,23⟩ xg 1 (aL Tryz.f15 3)) (n+1) (gc.enc z) k=
 yG (fun y=>bL ⟨23,23⟩ sI (nG (ii C0 wR) ⟨23,23⟩ xg 1 (aL Tryz.f15 3)) n (gc.enc y) k) (hK k iv) z:=by kernel_rfl
theorem Px:aw (ii C0 wR) ⟨23,23⟩ xg 1 (cp (bh Tryz.f15)):=by
 have hl:cp (bh Tryz.f15)=[aL Tryz.f15 3]:=by kernel_rfl
 rw[hl]
 exact aw.cons (n:=4) (lh:=sI) (S:=cu gc iv lD) (by kernel_rfl) rfl rfl (cy CK M2)
  (aw.nil)
def tw{R:Type}(kx:(List It)->Option R)(a0:(List It)):Option R:=
 cond (decide (((List.length a0:Nat):Int)<=((List.length a0:Nat):Int)))
 (cond (decide ((((List.length a0:Nat):Int)*((104:Nat):Int))<=(70368744177664:Int)))
  (cond (decide (((List.length a0:Nat):Int)<=(70368744177664:Int)))
   (Option.bind (lD (qd a0 (List.replicate (Int.toNat ((List.length a0:Nat):Int)) ((ByteArray.mk (Array.mk [])),(Bool.false,((((0:Int),((0:Int),(0:Int))),((0:Int),((0:Int),(0:Int)))),((0:Int),((0:Int),((0:Int),(0:Int)))))))) (0:Int))) (pD iv
    (fun e48=>
     kx (e48.1.1.1:List It),())))
   none)
  none)
 none
def jV(a0:(List It)):Option ((List It)):=tw some a0
theorem NO{R} kx a0: @tw R kx a0=(jV a0).bind kx:=by
 unfold jV tw
 exact ae (ae (ae (cE ⟨fun _=>rfl,trivial⟩) rfl) rfl) rfl
abbrev HN:af:=.fx [.val false (.slice yI)] ((List It)) (fun z=>jV z.1) (fun b=>(.one ⟨false,[(.own yI b)]⟩,[]))
theorem Qc:ag C0 15 HN:=
 ag.fx (e:=false) (t:=wR) (.cons Sm (.nil)) mixed Tryz.func15 (by kernel_rfl) (by kernel_rfl) xg 1 Px (fun z=>(by kernel_rfl:_=tw (fun b=>some (HN.enc b)) z.1).trans (NO _ z.1))
def tR:List (FuncId×af):=[]
abbrev eQ:LS:=⟨[(false,[(.sl .str)]),(false,[(.own .str)]),(false,[(.int .i64)])],[],[]⟩
abbrev zK:LS:=⟨[(false,[(.own .str)])],[],[]⟩
abbrev zx(v0:List ByteArray):=((((v0,()),()),(),()):zK.T)
abbrev fP:List (Ex×LS):=[(.exit 0,zK)]
abbrev nU(x0:List ByteArray)(x3:List ByteArray)(x4:Int):=((((x0,()),(x3,()),(x4,()),()),(),()):eQ.T)
def jr{R:Type}(nx:eQ.T->Option R)(hx:lF R fP)(x0:List ByteArray)(x3:List ByteArray)(x4:Int):Option R:=
 cond (decide (x4<((List.length x0:Nat):Int)))
 (Option.bind (fY x0 x4) fun y56=>
  Option.bind (fY x3 x4) fun _=>
  nx (nU x0 (List.set x3 (0+(Int.toNat x4)) y56) (IntKind.wrap .i64 (x4+(1:Int)))))
 (hx.1 (zx x3))
def wz{R:Type}(nx:eQ.T->Option R)(hx:lF R fP)(z:eQ.T):Option R:=jr nx hx z.1.1.1 z.1.2.1.1 z.1.2.2.1.1
theorem zZ:cY @wz:=fun R nx hx z=>by
 show jr nx hx z.1.1.1 z.1.2.1.1 z.1.2.2.1.1=(jr (fun y=>some (.inl y)) (oM fP fun x=>some (.inr x)) z.1.1.1 z.1.2.1.1 z.1.2.2.1.1).bind (oH nx hx)
 unfold jr
 exact ae (ac fun _=>ac fun _=>rfl) rfl
def jw:eQ.T->Option (xb fP):=BJ @wz
theorem Bn x0 x3 x4:jw (nU x0 x3 x4)=jr jw (oM fP some) x0 x3 x4:=eU zZ _
def pY:bQ:=⟨[0,3,4],[],[3],[]⟩
def tY:fQ Rv:=⟨fun k=>match k with|4=>pY|_=>⟨[],[],[],[]⟩,fun k=>match k with|4=>some (cu eQ fP jw)|_=>none⟩
theorem JK(n:Nat)(z:eQ.T)(k:Ex->hZ->Option Rv):bL ⟨22,22⟩ pY (nG (ii C0 tR) ⟨22,22⟩ tY 1 (aL Tryz.f60 3)) (n+1) (eQ.enc z) k=
 wz (fun y=>bL ⟨22,22⟩ pY (nG (ii C0 tR) ⟨22,22⟩ tY 1 (aL Tryz.f60 3)) n (eQ.enc y) k) (hK k fP) z:=by kernel_rfl
theorem LQ:aw (ii C0 tR) ⟨22,22⟩ tY 1 (cp (bh Tryz.f60)):=by
 have hl:cp (bh Tryz.f60)=[aL Tryz.f60 3]:=by kernel_rfl
 rw[hl]
 exact aw.cons (n:=4) (lh:=pY) (S:=cu eQ fP jw) (by kernel_rfl) rfl rfl (cy zZ JK)
  (aw.nil)
def qE{R:Type}(kx:(List ByteArray)->Option R)(a0:(List ByteArray)):Option R:=
 cond (decide (((List.length a0:Nat):Int)<=((List.length a0:Nat):Int)))
 (cond (decide ((((List.length a0:Nat):Int)*((16:Nat):Int))<=(70368744177664:Int)))
  (cond (decide (((List.length a0:Nat):Int)<=(70368744177664:Int)))
   (Option.bind (jw (nU a0 (List.replicate (Int.toNat ((List.length a0:Nat):Int)) (ByteArray.mk (Array.mk []))) (0:Int))) (pD fP
    (fun e58=>
     kx (e58.1.1.1:List ByteArray),())))
   none)
  none)
 none
def nv(a0:(List ByteArray)):Option ((List ByteArray)):=qE some a0
theorem KR{R} kx a0: @qE R kx a0=(nv a0).bind kx:=by
 unfold nv qE
 exact ae (ae (ae (cE ⟨fun _=>rfl,trivial⟩) rfl) rfl) rfl
abbrev Fq:af:=.fx [.val false (.slice .str)] ((List ByteArray)) (fun z=>nv z.1) (fun b=>(.one ⟨false,[(.own .str b)]⟩,[]))
theorem MQ:ag C0 60 Fq:=
 ag.fx (e:=false) (t:=tR) (.nil) mixed Tryz.func60 (by kernel_rfl) (by kernel_rfl) tY 1 LQ (fun z=>(by kernel_rfl:_=qE (fun b=>some (Fq.enc b)) z.1).trans (KR _ z.1))
def kU{R:Type}(kx:Cn->Option R)(a0:Cn):Option R:=
 Option.bind (nv a0.2.2.1) fun y60=>
 Option.bind (nO a0.2.2.2.2.1) fun y61=>
 Option.bind (pJ a0.2.2.2.2.2) fun y62=>
 kx (a0.1,(a0.2.1,(y60,(a0.2.2.2.1,(y61,y62)))))
def dG(a0:Cn):Option (Cn):=kU some a0
theorem FB{R} kx a0: @kU R kx a0=(dG a0).bind kx:=by
 unfold dG kU
 exact ac fun _=>ac fun _=>ac fun _=>rfl
abbrev yc:af:=.fx [.val true yC] (Cn) (fun z=>dG z.1) (fun b=>(.one ⟨true,[(.v (.string b.1)),(.v (.int .i64 b.2.1)),(.own .str b.2.2.1),(.v (.int .i64 b.2.2.2.1)),(.v (.int .i64 b.2.2.2.2.1.1.1)),(.v (.int .i64 b.2.2.2.2.1.1.2.1)),(.v (.int .i64 b.2.2.2.2.1.1.2.2)),(.v (.int .i64 b.2.2.2.2.1.2.1)),(.v (.int .i64 b.2.2.2.2.1.2.2.1)),(.v (.int .i64 b.2.2.2.2.1.2.2.2)),(.v (.int .i64 b.2.2.2.2.2.1)),(.v (.int .i64 b.2.2.2.2.2.2.1)),(.v (.int .i64 b.2.2.2.2.2.2.2.1)),(.v (.int .i64 b.2.2.2.2.2.2.2.2))]⟩,[]))
theorem Gt:ag C0 16 yc:=
 ag.fx (e:=false) (.cons MQ (.cons GU (.cons Iy (.nil)))) mixed Tryz.func16 (by kernel_rfl) (by kernel_rfl) aj 1 ai (fun z=>(by kernel_rfl:_=kU (fun b=>some (yc.enc b)) z.1).trans (FB _ z.1))
def qI{R:Type}(kx:Bool->Option R)(a0:Int):Option R:=
 cond (decide (a0>=(65:Int)))
 (cond (decide (a0<=(90:Int)))
  (kx Bool.true)
  (cond (decide (a0>=(97:Int)))
   (kx (decide (a0<=(122:Int))))
   (kx Bool.false)))
 (cond (decide (a0>=(97:Int)))
  (kx (decide (a0<=(122:Int))))
  (kx Bool.false))
def ln(a0:Int):Option (Bool):=qI some a0
theorem KU{R} kx a0: @qI R kx a0=(ln a0).bind kx:=by
 unfold ln qI
 exact ae (ae rfl (ae rfl rfl)) (ae rfl rfl)
abbrev yo:af:=.fx [.val false (.int .u8)] (Bool) (fun z=>ln z.1) (fun b=>(.one ⟨false,[(.v (.bool b))]⟩,[]))
theorem MT:ag C0 190 yo:=
 ag.fx (e:=false) (.nil) mixed Tryz.func190 (by kernel_rfl) (by kernel_rfl) aj 1 ai (fun z=>(by kernel_rfl:_=qI (fun b=>some (yo.enc b)) z.1).trans (KU _ z.1))
def rK{R:Type}(kx:Bool->Option R)(a0:Int):Option R:=
 cond (decide (a0>=(48:Int)))
 (kx (decide (a0<=(57:Int))))
 (kx Bool.false)
def oK(a0:Int):Option (Bool):=rK some a0
theorem Mn{R} kx a0: @rK R kx a0=(oK a0).bind kx:=by
 unfold oK rK
 exact ae rfl rfl
abbrev Ap:af:=.fx [.val false (.int .u8)] (Bool) (fun z=>oK z.1) (fun b=>(.one ⟨false,[(.v (.bool b))]⟩,[]))
theorem Ok:ag C0 191 Ap:=
 ag.fx (e:=false) (.nil) mixed Tryz.func191 (by kernel_rfl) (by kernel_rfl) aj 1 ai (fun z=>(by kernel_rfl:_=rK (fun b=>some (Ap.enc b)) z.1).trans (Mn _ z.1))
def yQ:List (FuncId×af):=[(190,yo),(191,Ap)]
abbrev gP:LS:=⟨[(false,[.str]),(false,[(.int .i64)])],[],[]⟩
abbrev Dz:LS:=⟨[(false,[.bool])],[],[]⟩
abbrev Du(v0:Bool):=((((v0,()),()),(),()):Dz.T)
abbrev DA:LS:=⟨[(false,[.undef])],[],[]⟩
abbrev Dv:=(((((),()),()),(),()):DA.T)
abbrev jb:List (Ex×LS):=[(.ret,Dz),(.exit 0,DA)]
abbrev mI(x0:ByteArray)(x3:Int):=((((x0,()),(x3,()),()),(),()):gP.T)
def mK{R:Type}(nx:gP.T->Option R)(hx:lF R jb)(x0:ByteArray)(x3:Int):Option R:=
 cond (decide (x3<(((ByteArray.size x0):Nat):Int)))
 (Option.bind (Am x0 x3) fun y77=>
  Option.bind (ln (((UInt8.toNat y77):Nat):Int)) fun y78=>
  cond (!y78)
  (Option.bind (Am x0 x3) fun y79=>
   Option.bind (oK (((UInt8.toNat y79):Nat):Int)) fun y81=>
   cond (!y81)
   (Option.bind (Am x0 x3) fun y82=>
    cond ((((UInt8.toNat y82):Nat):Int) !=(95:Int))
    (hx.1 (Du Bool.false))
    (nx (mI x0 (IntKind.wrap .i64 (x3+(1:Int))))))
   (nx (mI x0 (IntKind.wrap .i64 (x3+(1:Int))))))
  (nx (mI x0 (IntKind.wrap .i64 (x3+(1:Int))))))
 (hx.2.1 (Dv))
def AC{R:Type}(nx:gP.T->Option R)(hx:lF R jb)(z:gP.T):Option R:=mK nx hx z.1.1.1 z.1.2.1.1
theorem D5:cY @AC:=fun R nx hx z=>by
 show mK nx hx z.1.1.1 z.1.2.1.1=(mK (fun y=>some (.inl y)) (oM jb fun x=>some (.inr x)) z.1.1.1 z.1.2.1.1).bind (oH nx hx)
 unfold mK
 exact ae (ac fun _=>ac fun _=>ae (ac fun _=>ac fun _=>ae (ac fun _=>ae rfl rfl) rfl) rfl) rfl
def mP:gP.T->Option (xb jb):=BJ @AC
theorem FP x0 x3:mP (mI x0 x3)=mK mP (oM jb some) x0 x3:=eU D5 _
def ud:bQ:=⟨[0,3],[],[2],[]⟩
def yX:fQ Rv:=⟨fun k=>match k with|5=>ud|_=>⟨[],[],[],[]⟩,fun k=>match k with|5=>some (cu gP jb mP)|_=>none⟩
theorem Oo(n:Nat)(z:gP.T)(k:Ex->hZ->Option Rv):bL ⟨41,41⟩ ud (nG (ii C0 yQ) ⟨41,41⟩ yX 1 (aL Tryz.f117 4)) (n+1) (gP.enc z) k=
 AC (fun y=>bL ⟨41,41⟩ ud (nG (ii C0 yQ) ⟨41,41⟩ yX 1 (aL Tryz.f117 4)) n (gP.enc y) k) (hK k jb) z:=by kernel_rfl
theorem Rd:aw (ii C0 yQ) ⟨41,41⟩ yX 1 (cp (bh Tryz.f117)):=by
 have hl:cp (bh Tryz.f117)=[aL Tryz.f117 4]:=by kernel_rfl
 rw[hl]
 exact aw.cons (n:=5) (lh:=ud) (S:=cu gP jb mP) (by kernel_rfl) rfl rfl (cy D5 Oo)
  (aw.nil)
def vv{R:Type}(kx:Bool->Option R)(a0:ByteArray):Option R:=
 cond ((ByteArray.toList a0)==(ByteArray.toList (ByteArray.mk (Array.mk []))))
 (kx Bool.false)
 (cond (decide ((((ByteArray.size a0):Nat):Int)>(12:Int)))
  (kx Bool.false)
  (Option.bind (Am a0 (0:Int)) fun y72=>
   Option.bind (ln (((UInt8.toNat y72):Nat):Int)) fun y74=>
   cond (!y74)
   (kx Bool.false)
   (Option.bind (mP (mI a0 (0:Int))) (pD jb
    (fun e83=>
     kx (e83.1.1.1:Bool),fun _=>
     kx Bool.true,())))))
def nj(a0:ByteArray):Option (Bool):=vv some a0
theorem PO{R} kx a0: @vv R kx a0=(nj a0).bind kx:=by
 unfold nj vv
 exact ae rfl (ae rfl (ac fun _=>ac fun _=>ae rfl (cE ⟨fun _=>rfl,fun _=>rfl,trivial⟩)))
abbrev EC:af:=.fx [.val false .str] (Bool) (fun z=>nj z.1) (fun b=>(.one ⟨false,[(.v (.bool b))]⟩,[]))
theorem IA:ag C0 117 EC:=
 ag.fx (e:=false) (t:=yQ) (.cons MT (.cons Ok (.nil))) mixed Tryz.func117 (by kernel_rfl) (by kernel_rfl) yX 1 Rd (fun z=>(by kernel_rfl:_=vv (fun b=>some (EC.enc b)) z.1).trans (PO _ z.1))
def xJ{R:Type}(kx:Bool->Option R)(a0:Int)(a1:Int)(a2:Int):Option R:=
 cond (decide (a0>=a1))
 (kx (decide (a0<=a2)))
 (kx Bool.false)
def cH(a0:Int)(a1:Int)(a2:Int):Option (Bool):=xJ some a0 a1 a2
theorem RO{R} kx a0 a1 a2: @xJ R kx a0 a1 a2=(cH a0 a1 a2).bind kx:=by
 unfold cH xJ
 exact ae rfl rfl
abbrev Ge:af:=.fx [.val false (.int .i64), .val false (.int .i64), .val false (.int .i64)] (Bool) (fun z=>cH z.1 z.2.1 z.2.2.1) (fun b=>(.one ⟨false,[(.v (.bool b))]⟩,[]))
theorem zj:ag C0 118 Ge:=
 ag.fx (e:=false) (.nil) mixed Tryz.func118 (by kernel_rfl) (by kernel_rfl) aj 1 ai (fun z=>(by kernel_rfl:_=xJ (fun b=>some (Ge.enc b)) z.1 z.2.1 z.2.2.1).trans (RO _ z.1 z.2.1 z.2.2.1))
def xK{R:Type}(kx:Bool->Option R)(a0:Nm):Option R:=
 Option.bind (cH a0.1 (-(131072:Int)) (131072:Int)) fun y93=>
 cond (!y93)
 (kx Bool.false)
 (Option.bind (cH a0.2.1 (-(131072:Int)) (131072:Int)) fun y94=>
  cond (!y94)
  (kx Bool.false)
  (Option.bind (cH a0.2.2 (0:Int) (10:Int)) fun y95=>
   cond (!y95)
   (kx Bool.false)
   (cond (a0.2.2==(0:Int))
    (kx Bool.true)
    (cond ((Int.tmod a0.1 (2:Int)) !=(0:Int))
     (kx Bool.true)
     (kx ((Int.tmod a0.2.1 (2:Int)) !=(0:Int)))))))
def nh(a0:Nm):Option (Bool):=xK some a0
theorem RQ{R} kx a0: @xK R kx a0=(nh a0).bind kx:=by
 unfold nh xK
 exact ac fun _=>ae rfl (ac fun _=>ae rfl (ac fun _=>ae rfl (ae rfl (ae rfl rfl))))
abbrev L0:af:=.fx [.val true yN] (Bool) (fun z=>nh z.1) (fun b=>(.one ⟨false,[(.v (.bool b))]⟩,[]))
theorem EL:ag C0 192 L0:=
 ag.fx (e:=false) (.cons zj (.nil)) mixed Tryz.func192 (by kernel_rfl) (by kernel_rfl) aj 1 ai (fun z=>(by kernel_rfl:_=xK (fun b=>some (L0.enc b)) z.1).trans (RQ _ z.1))
def tC{R:Type}(kx:Bool->Option R)(a0:Ln):Option R:=
 Option.bind (cH a0.1 (0:Int) (7:Int)) fun y91=>
 cond y91
 (Option.bind (nh a0.2) fun y96=>
  kx y96)
 (kx Bool.false)
def bG(a0:Ln):Option (Bool):=tC some a0
theorem NU{R} kx a0: @tC R kx a0=(bG a0).bind kx:=by
 unfold bG tC
 exact ac fun _=>ae (ac fun _=>rfl) rfl
abbrev tf:af:=.fx [.val true yL] (Bool) (fun z=>bG z.1) (fun b=>(.one ⟨false,[(.v (.bool b))]⟩,[]))
theorem gX:ag C0 121 tf:=
 ag.fx (e:=false) (.cons zj (.cons EL (.nil))) mixed Tryz.func121 (by kernel_rfl) (by kernel_rfl) aj 1 ai (fun z=>(by kernel_rfl:_=tC (fun b=>some (tf.enc b)) z.1).trans (NU _ z.1))
def rL{R:Type}(kx:Bool->Option R)(a0:Pt):Option R:=
 Option.bind (nh a0.1) fun y99=>
 cond y99
 (Option.bind (nh a0.2) fun y100=>
  kx y100)
 (kx Bool.false)
def be(a0:Pt):Option (Bool):=rL some a0
theorem Mp{R} kx a0: @rL R kx a0=(be a0).bind kx:=by
 unfold be rL
 exact ac fun _=>ae (ac fun _=>rfl) rfl
abbrev ru:af:=.fx [.val true yP] (Bool) (fun z=>be z.1) (fun b=>(.one ⟨false,[(.v (.bool b))]⟩,[]))
theorem fj:ag C0 120 ru:=
 ag.fx (e:=false) (.cons EL (.nil)) mixed Tryz.func120 (by kernel_rfl) (by kernel_rfl) aj 1 ai (fun z=>(by kernel_rfl:_=rL (fun b=>some (ru.enc b)) z.1).trans (Mp _ z.1))
def tI{R:Type}(kx:Bool->Option R)(a0:It):Option R:=
 Option.bind (nj a0.1) fun y86=>
 cond (!y86)
 (kx Bool.false)
 (cond a0.2.1
  (Option.bind (bG a0.2.2.2) fun y97=>
   cond y97
   (kx (((a0.2.2.1.1.1==(0:Int))&&((a0.2.2.1.1.2.1==(0:Int))&&((a0.2.2.1.1.2.2==(0:Int))&&Bool.true)))&&(((a0.2.2.1.2.1==(0:Int))&&((a0.2.2.1.2.2.1==(0:Int))&&((a0.2.2.1.2.2.2==(0:Int))&&Bool.true)))&&Bool.true)))
   (kx Bool.false))
  (Option.bind (be a0.2.2.1) fun y101=>
   cond y101
   (kx ((a0.2.2.2.1==(0:Int))&&(((a0.2.2.2.2.1==(0:Int))&&((a0.2.2.2.2.2.1==(0:Int))&&((a0.2.2.2.2.2.2==(0:Int))&&Bool.true)))&&Bool.true)))
   (kx Bool.false)))
def qc(a0:It):Option (Bool):=tI some a0
theorem N5{R} kx a0: @tI R kx a0=(qc a0).bind kx:=by
 unfold qc tI
 exact ac fun _=>ae rfl (ae (ac fun _=>ae rfl rfl) (ac fun _=>ae rfl rfl))
abbrev CA:af:=.fx [.val true yI] (Bool) (fun z=>qc z.1) (fun b=>(.one ⟨false,[(.v (.bool b))]⟩,[]))
theorem Qj:ag C0 116 CA:=
 ag.fx (e:=false) (.cons IA (.cons gX (.cons fj (.nil)))) mixed Tryz.func116 (by kernel_rfl) (by kernel_rfl) aj 1 ai (fun z=>(by kernel_rfl:_=tI (fun b=>some (CA.enc b)) z.1).trans (N5 _ z.1))
def oJ:List (FuncId×af):=[(116,CA)]
abbrev fy:LS:=⟨[(false,[(.sl yI)]),(false,[(.int .i64)]),(false,[(.int .i64)])],[],[]⟩
abbrev AS:LS:=⟨[(false,[(.sl yI)]),(false,[.bool]),(false,[(.int .i64)])],[],[]⟩
abbrev uA v0(v1:Bool)(v2:Int):=((((v0,()),(v1,()),(v2,()),()),(),()):AS.T)
abbrev AU:LS:=⟨[(false,[(.sl yI)]),(false,[.undef]),(false,[(.int .i64)])],[],[]⟩
abbrev uB v0(v1:Int):=((((v0,()),((),()),(v1,()),()),(),()):AU.T)
abbrev gt:List (Ex×LS):=[(.ret,AS),(.exit 2,AU)]
abbrev pm x0(x3:Int)(x4:Int):=((((x0,()),(x3,()),(x4,()),()),(),()):fy.T)
def kj{R:Type}(nx:fy.T->Option R)(hx:lF R gt)(x0:List It)(x3:Int)(x4:Int):Option R:=
 cond (decide (x4<x3))
 (Option.bind (fY x0 x4) fun y106=>
  Option.bind (fY x0 x3) fun y107=>
  cond ((ByteArray.toList y106.1)==(ByteArray.toList y107.1))
  (hx.1 (uA x0 Bool.false x3))
  (nx (pm x0 x3 (IntKind.wrap .i64 (x4+(1:Int))))))
 (hx.2.1 (uB x0 x3))
def xP{R:Type}(nx:fy.T->Option R)(hx:lF R gt)(z:fy.T):Option R:=kj nx hx z.1.1.1 z.1.2.1.1 z.1.2.2.1.1
theorem Be:cY @xP:=fun R nx hx z=>by
 show kj nx hx z.1.1.1 z.1.2.1.1 z.1.2.2.1.1=(kj (fun y=>some (.inl y)) (oM gt fun x=>some (.inr x)) z.1.1.1 z.1.2.1.1 z.1.2.2.1.1).bind (oH nx hx)
 unfold kj
 exact ae (ac fun _=>ac fun _=>ae rfl rfl) rfl
def kl:fy.T->Option (xb gt):=BJ @xP
theorem Dd x0 x3 x4:kl (pm x0 x3 x4)=kj kl (oM gt some) x0 x3 x4:=eU Be _
def rf:bQ:=⟨[0,3,4],[],[0,2,3],[]⟩
abbrev fw:LS:=⟨[(false,[(.sl yI)]),(false,[(.int .i64)])],[],[]⟩
abbrev AQ:LS:=⟨[(false,[(.sl yI)]),(false,[.bool])],[],[]⟩
abbrev uz v0(v1:Bool):=((((v0,()),(v1,()),()),(),()):AQ.T)
abbrev AR:LS:=⟨[(false,[(.sl yI)]),(false,[.undef])],[],[]⟩
abbrev AN v0:=((((v0,()),((),()),()),(),()):AR.T)
abbrev gr:List (Ex×LS):=[(.ret,AQ),(.exit 0,AR)]
abbrev mj x0(x3:Int):=((((x0,()),(x3,()),()),(),()):fw.T)
def ki{R:Type}(nx:fw.T->Option R)(hx:lF R gr)(x0:List It)(x3:Int):Option R:=
 cond (decide (x3<((List.length x0:Nat):Int)))
 (Option.bind (fY x0 x3) fun y69=>
  Option.bind (qc y69) fun y102=>
  cond (!y102)
  (hx.1 (uz x0 Bool.false))
  (Option.bind (kl (pm x0 x3 (0:Int))) (pD gt
   (fun e108=>
    hx.1 (uz (e108.1.1.1:List It) (e108.1.2.1.1:Bool)),fun e112=>
    nx (mj (e112.1.1.1:List It) (IntKind.wrap .i64 ((e112.1.2.2.1.1:Int)+(1:Int)))),()))))
 (hx.2.1 (AN x0))
def xO{R:Type}(nx:fw.T->Option R)(hx:lF R gr)(z:fw.T):Option R:=ki nx hx z.1.1.1 z.1.2.1.1
theorem Bc:cY @xO:=fun R nx hx z=>by
 show ki nx hx z.1.1.1 z.1.2.1.1=(ki (fun y=>some (.inl y)) (oM gr fun x=>some (.inr x)) z.1.1.1 z.1.2.1.1).bind (oH nx hx)
 unfold ki
 exact ae (ac fun _=>ac fun _=>ae rfl (cE ⟨fun _=>rfl,fun _=>rfl,trivial⟩)) rfl
def iK:fw.T->Option (xb gr):=BJ @xO
theorem Dc x0 x3:iK (mj x0 x3)=ki iK (oM gr some) x0 x3:=eU Bc _
def re:bQ:=⟨[0,3],[],[0,2],[]⟩
def oN:fQ Rv:=⟨fun k=>match k with|8=>rf|3=>re|_=>⟨[],[],[],[]⟩,fun k=>match k with|8=>some (cu fy gt kl)|3=>some (cu fw gr iK)|_=>none⟩
theorem Lj(n:Nat)(z:fy.T)(k:Ex->hZ->Option Rv):bL ⟨36,36⟩ rf (nG (ii C0 oJ) ⟨36,36⟩ oN 1 (aL Tryz.f56 7)) (n+1) (fy.enc z) k=
 xP (fun y=>bL ⟨36,36⟩ rf (nG (ii C0 oJ) ⟨36,36⟩ oN 1 (aL Tryz.f56 7)) n (fy.enc y) k) (hK k gt) z:=by kernel_rfl
theorem Li(n:Nat)(z:fw.T)(k:Ex->hZ->Option Rv):bL ⟨36,36⟩ re (nG (ii C0 oJ) ⟨36,36⟩ oN 1 (aL Tryz.f56 2)) (n+1) (fw.enc z) k=
 xO (fun y=>bL ⟨36,36⟩ re (nG (ii C0 oJ) ⟨36,36⟩ oN 1 (aL Tryz.f56 2)) n (fw.enc y) k) (hK k gr) z:=by kernel_rfl
theorem Nt:aw (ii C0 oJ) ⟨36,36⟩ oN 1 (cp (bh Tryz.f56)):=by
 have hl:cp (bh Tryz.f56)=[aL Tryz.f56 2,aL Tryz.f56 7]:=by kernel_rfl
 rw[hl]
 exact aw.cons (n:=3) (lh:=re) (S:=cu fw gr iK) (by kernel_rfl) rfl rfl (cy Bc Li)
  (aw.cons (n:=8) (lh:=rf) (S:=cu fy gt kl) (by kernel_rfl) rfl rfl (cy Be Lj)
  (aw.nil))
def rM{R:Type}(kx:Bool->Option R)(a0:(List It)):Option R:=
 Option.bind (iK (mj a0 (0:Int))) (pD gr
 (fun e115=>
  kx (e115.1.2.1.1:Bool),fun e118=>
  kx (decide ((((List.length (e118.1.1.1:List It)):Nat):Int)<=(40:Int))),()))
def oL(a0:(List It)):Option (Bool):=rM some a0
theorem Mr{R} kx a0: @rM R kx a0=(oL a0).bind kx:=by
 unfold oL rM
 exact cE ⟨fun _=>rfl,fun _=>rfl,trivial⟩
abbrev GM:af:=.fx [.val false (.slice yI)] (Bool) (fun z=>oL z.1) (fun b=>(.one ⟨false,[(.v (.bool b))]⟩,[]))
theorem Ol:ag C0 56 GM:=
 ag.fx (e:=false) (t:=oJ) (.cons Qj (.nil)) mixed Tryz.func56 (by kernel_rfl) (by kernel_rfl) oN 1 Nt (fun z=>(by kernel_rfl:_=rM (fun b=>some (GM.enc b)) z.1).trans (Mr _ z.1))
def wa{R:Type}(kx:(List ByteArray)->Option R):Option R:=
 kx [(ByteArray.mk (Array.mk [])),(ByteArray.mk (Array.mk [])),(ByteArray.mk (Array.mk [])),(ByteArray.mk (Array.mk [108,108])),(ByteArray.mk (Array.mk [112,112])),(ByteArray.mk (Array.mk [108,120])),(ByteArray.mk (Array.mk [112,112])),(ByteArray.mk (Array.mk [112,112])),(ByteArray.mk (Array.mk [108,108,107])),(ByteArray.mk (Array.mk [108,112])),(ByteArray.mk (Array.mk [112,108,112,107])),(ByteArray.mk (Array.mk [112,108,112,108,107])),(ByteArray.mk (Array.mk [112,108,108]))]
def mF:Option ((List ByteArray)):=wa some
theorem Mq{R} kx: @wa R kx=(mF).bind kx:=by
 unfold mF wa
 exact rfl
abbrev Aq:af:=.fx [] ((List ByteArray)) (fun z=>mF) (fun b=>(.one ⟨false,[(.own .str b)]⟩,[]))
theorem yA:ag C0 123 Aq:=
 ag.fx (e:=false) (.nil) mixed Tryz.func123 (by kernel_rfl) (by kernel_rfl) aj 1 ai (fun z=>(by kernel_rfl:_=wa (fun b=>some (Aq.enc b))).trans (Mq _))
def sR{R:Type}(kx:Bool->Option R)(a0:Int):Option R:=
 Option.bind mF fun y128=>
 Option.bind (fY y128 a0) fun y129=>
 cond (!((ByteArray.toList y129)==(ByteArray.toList (ByteArray.mk (Array.mk [])))))
 (Option.bind (Am y129 (IntKind.wrap .i64 ((((ByteArray.size y129):Nat):Int)-(1:Int)))) fun y130=>
  kx ((((UInt8.toNat y130):Nat):Int)==(107:Int)))
 (kx Bool.false)
def cn(a0:Int):Option (Bool):=sR some a0
theorem Jq{R} kx a0: @sR R kx a0=(cn a0).bind kx:=by
 unfold cn sR
 exact ac fun _=>ac fun _=>ae (ac fun _=>rfl) rfl
abbrev xn:af:=.fx [.val false (.int .i64)] (Bool) (fun z=>cn z.1) (fun b=>(.one ⟨false,[(.v (.bool b))]⟩,[]))
theorem C6:ag C0 98 xn:=
 ag.fx (e:=false) (.cons yA (.nil)) mixed Tryz.func98 (by kernel_rfl) (by kernel_rfl) aj 1 ai (fun z=>(by kernel_rfl:_=sR (fun b=>some (xn.enc b)) z.1).trans (Jq _ z.1))
def xL{R:Type}(kx:Int->Option R)(a0:Int):Option R:=
 Option.bind mF fun y125=>
 Option.bind (fY y125 a0) fun y126=>
 Option.bind (cn a0) fun y131=>
 cond y131
 (kx (IntKind.wrap .i64 ((((ByteArray.size y126):Nat):Int)-(1:Int))))
 (kx (((ByteArray.size y126):Nat):Int))
def dq(a0:Int):Option (Int):=xL some a0
theorem N3{R} kx a0: @xL R kx a0=(dq a0).bind kx:=by
 unfold dq xL
 exact ac fun _=>ac fun _=>ac fun _=>ae rfl rfl
abbrev Cz:af:=.fx [.val false (.int .i64)] (Int) (fun z=>dq z.1) (fun b=>(.one ⟨false,[(.v (.int .i64 b))]⟩,[]))
theorem Qh:ag C0 119 Cz:=
 ag.fx (e:=false) (.cons yA (.cons C6 (.nil))) mixed Tryz.func119 (by kernel_rfl) (by kernel_rfl) aj 1 ai (fun z=>(by kernel_rfl:_=xL (fun b=>some (Cz.enc b)) z.1).trans (N3 _ z.1))
def Bq:List (FuncId×af):=[(117,EC),(118,Ge),(119,Cz),(98,xn),(120,ru),(121,tf)]
abbrev iV:LS:=⟨[(false,[(.ptr 112 0)]),(false,[(.int .i64)])],[(true,[.str,(.int .i64),(.sl .str),(.int .i64),(.int .i64),(.int .i64),(.int .i64),(.int .i64),(.int .i64),(.int .i64),(.int .i64),(.int .i64),(.int .i64),(.int .i64)])],[]⟩
abbrev E7:LS:=⟨[(false,[(.ptr 112 0)]),(false,[.bool])],[(true,[.str,(.int .i64),(.sl .str),(.int .i64),(.int .i64),(.int .i64),(.int .i64),(.int .i64),(.int .i64),(.int .i64),(.int .i64),(.int .i64),(.int .i64),(.int .i64)])],[]⟩
abbrev EZ(v0:Bool)(v1:ByteArray)(v2:Int)(v3:List ByteArray)(v4:Int)(v5:Int)(v6:Int)(v7:Int)(v8:Int)(v9:Int)(v10:Int)(v11:Int)(v12:Int)(v13:Int)(v14:Int):=(((((),()),(v0,()),()),((v1,v2,v3,v4,v5,v6,v7,v8,v9,v10,v11,v12,v13,v14,()),()),()):E7.T)
abbrev E8:LS:=⟨[(false,[(.ptr 112 0)]),(false,[.undef])],[(true,[.str,(.int .i64),(.sl .str),(.int .i64),(.int .i64),(.int .i64),(.int .i64),(.int .i64),(.int .i64),(.int .i64),(.int .i64),(.int .i64),(.int .i64),(.int .i64)])],[]⟩
abbrev E0(v0:ByteArray)(v1:Int)(v2:List ByteArray)(v3:Int)(v4:Int)(v5:Int)(v6:Int)(v7:Int)(v8:Int)(v9:Int)(v10:Int)(v11:Int)(v12:Int)(v13:Int):=(((((),()),((),()),()),((v0,v1,v2,v3,v4,v5,v6,v7,v8,v9,v10,v11,v12,v13,()),()),()):E8.T)
abbrev dr:List (Ex×LS):=[(.ret,E7),(.exit 0,E8)]
abbrev cb(x3:Int)(b0_0:ByteArray)(b0_1:Int)(b0_2:List ByteArray)(b0_3:Int)(b0_4:Int)(b0_5:Int)(b0_6:Int)(b0_7:Int)(b0_8:Int)(b0_9:Int)(b0_10:Int)(b0_11:Int)(b0_12:Int)(b0_13:Int):=(((((),()),(x3,()),()),((b0_0,b0_1,b0_2,b0_3,b0_4,b0_5,b0_6,b0_7,b0_8,b0_9,b0_10,b0_11,b0_12,b0_13,()),()),()):iV.T)
def ow{R:Type}(nx:iV.T->Option R)(hx:lF R dr)(x3:Int)(b0_0:ByteArray)(b0_1:Int)(b0_2:List ByteArray)(b0_3:Int)(b0_4:Int)(b0_5:Int)(b0_6:Int)(b0_7:Int)(b0_8:Int)(b0_9:Int)(b0_10:Int)(b0_11:Int)(b0_12:Int)(b0_13:Int):Option R:=
 cond (decide (x3<((List.length b0_2:Nat):Int)))
 (Option.bind (fY b0_2 x3) fun y150=>
  Option.bind (nj y150) fun y151=>
  cond (!y151)
  (hx.1 (EZ Bool.false b0_0 b0_1 b0_2 b0_3 b0_4 b0_5 b0_6 b0_7 b0_8 b0_9 b0_10 b0_11 b0_12 b0_13))
  (nx (cb (IntKind.wrap .i64 (x3+(1:Int))) b0_0 b0_1 b0_2 b0_3 b0_4 b0_5 b0_6 b0_7 b0_8 b0_9 b0_10 b0_11 b0_12 b0_13)))
 (hx.2.1 (E0 b0_0 b0_1 b0_2 b0_3 b0_4 b0_5 b0_6 b0_7 b0_8 b0_9 b0_10 b0_11 b0_12 b0_13))
def Da{R:Type}(nx:iV.T->Option R)(hx:lF R dr)(z:iV.T):Option R:=ow nx hx z.1.2.1.1 z.2.1.1.1 z.2.1.1.2.1 z.2.1.1.2.2.1 z.2.1.1.2.2.2.1 z.2.1.1.2.2.2.2.1 z.2.1.1.2.2.2.2.2.1 z.2.1.1.2.2.2.2.2.2.1 z.2.1.1.2.2.2.2.2.2.2.1 z.2.1.1.2.2.2.2.2.2.2.2.1 z.2.1.1.2.2.2.2.2.2.2.2.2.1 z.2.1.1.2.2.2.2.2.2.2.2.2.2.1 z.2.1.1.2.2.2.2.2.2.2.2.2.2.2.1 z.2.1.1.2.2.2.2.2.2.2.2.2.2.2.2.1 z.2.1.1.2.2.2.2.2.2.2.2.2.2.2.2.2.1
theorem FE:cY @Da:=fun R nx hx z=>by
 show ow nx hx z.1.2.1.1 z.2.1.1.1 z.2.1.1.2.1 z.2.1.1.2.2.1 z.2.1.1.2.2.2.1 z.2.1.1.2.2.2.2.1 z.2.1.1.2.2.2.2.2.1 z.2.1.1.2.2.2.2.2.2.1 z.2.1.1.2.2.2.2.2.2.2.1 z.2.1.1.2.2.2.2.2.2.2.2.1 z.2.1.1.2.2.2.2.2.2.2.2.2.1 z.2.1.1.2.2.2.2.2.2.2.2.2.2.1 z.2.1.1.2.2.2.2.2.2.2.2.2.2.2.1 z.2.1.1.2.2.2.2.2.2.2.2.2.2.2.2.1 z.2.1.1.2.2.2.2.2.2.2.2.2.2.2.2.2.1=(ow (fun y=>some (.inl y)) (oM dr fun x=>some (.inr x)) z.1.2.1.1 z.2.1.1.1 z.2.1.1.2.1 z.2.1.1.2.2.1 z.2.1.1.2.2.2.1 z.2.1.1.2.2.2.2.1 z.2.1.1.2.2.2.2.2.1 z.2.1.1.2.2.2.2.2.2.1 z.2.1.1.2.2.2.2.2.2.2.1 z.2.1.1.2.2.2.2.2.2.2.2.1 z.2.1.1.2.2.2.2.2.2.2.2.2.1 z.2.1.1.2.2.2.2.2.2.2.2.2.2.1 z.2.1.1.2.2.2.2.2.2.2.2.2.2.2.1 z.2.1.1.2.2.2.2.2.2.2.2.2.2.2.2.1 z.2.1.1.2.2.2.2.2.2.2.2.2.2.2.2.2.1).bind (oH nx hx)
 unfold ow
 exact ae (ac fun _=>ac fun _=>ae rfl rfl) rfl
def bN:iV.T->Option (xb dr):=BJ @Da
theorem G2 x3 b0_0 b0_1 b0_2 b0_3 b0_4 b0_5 b0_6 b0_7 b0_8 b0_9 b0_10 b0_11 b0_12 b0_13:bN (cb x3 b0_0 b0_1 b0_2 b0_3 b0_4 b0_5 b0_6 b0_7 b0_8 b0_9 b0_10 b0_11 b0_12 b0_13)=ow bN (oM dr some) x3 b0_0 b0_1 b0_2 b0_3 b0_4 b0_5 b0_6 b0_7 b0_8 b0_9 b0_10 b0_11 b0_12 b0_13:=eU FE _
def vS:bQ:=⟨[0,3],[112],[0,2],[112]⟩
def Bx:fQ Rv:=⟨fun k=>match k with|7=>vS|_=>⟨[],[],[],[]⟩,fun k=>match k with|7=>some (cu iV dr bN)|_=>none⟩
theorem Qp(n:Nat)(z:iV.T)(k:Ex->hZ->Option Rv):bL ⟨112,113⟩ vS (nG (ii C0 Bq) ⟨112,113⟩ Bx 1 (aL Tryz.f57 6)) (n+1) (iV.enc z) k=
 Da (fun y=>bL ⟨112,113⟩ vS (nG (ii C0 Bq) ⟨112,113⟩ Bx 1 (aL Tryz.f57 6)) n (iV.enc y) k) (hK k dr) z:=by kernel_rfl
theorem SR:aw (ii C0 Bq) ⟨112,113⟩ Bx 1 (cp (bh Tryz.f57)):=by
 have hl:cp (bh Tryz.f57)=[aL Tryz.f57 6]:=by kernel_rfl
 rw[hl]
 exact aw.cons (n:=7) (lh:=vS) (S:=cu iV dr bN) (by kernel_rfl) rfl rfl (cy FE Qp)
  (aw.nil)
def eo{R:Type}(kx:Bool->Option R)(a0:Cn):Option R:=
 Option.bind (nj a0.1) fun y122=>
 cond (!y122)
 (kx Bool.false)
 (Option.bind (cH a0.2.1 (1:Int) (12:Int)) fun y123=>
  cond (!y123)
  (kx Bool.false)
  (Option.bind (dq a0.2.1) fun y132=>
   cond ((((List.length a0.2.2.1):Nat):Int) !=y132)
   (kx Bool.false)
   (Option.bind (cH a0.2.2.2.1 (0:Int) (7:Int)) fun y133=>
    cond (!y133)
    (kx Bool.false)
    (Option.bind (cn a0.2.1) fun y134=>
     cond (!y134)
     (cond (a0.2.2.2.1 !=(0:Int))
      (kx Bool.false)
      (cond (a0.2.1 !=(1:Int))
       (cond (!(((a0.2.2.2.2.1.1.1==(0:Int))&&((a0.2.2.2.2.1.1.2.1==(0:Int))&&((a0.2.2.2.2.1.1.2.2==(0:Int))&&Bool.true)))&&(((a0.2.2.2.2.1.2.1==(0:Int))&&((a0.2.2.2.2.1.2.2.1==(0:Int))&&((a0.2.2.2.2.1.2.2.2==(0:Int))&&Bool.true)))&&Bool.true)))
        (kx Bool.false)
        (cond (a0.2.1 !=(2:Int))
         (cond (!((a0.2.2.2.2.2.1==(0:Int))&&(((a0.2.2.2.2.2.2.1==(0:Int))&&((a0.2.2.2.2.2.2.2.1==(0:Int))&&((a0.2.2.2.2.2.2.2.2==(0:Int))&&Bool.true)))&&Bool.true)))
          (kx Bool.false)
          (Option.bind (bN (cb (0:Int) a0.1 a0.2.1 a0.2.2.1 a0.2.2.2.1 a0.2.2.2.2.1.1.1 a0.2.2.2.2.1.1.2.1 a0.2.2.2.2.1.1.2.2 a0.2.2.2.2.1.2.1 a0.2.2.2.2.1.2.2.1 a0.2.2.2.2.1.2.2.2 a0.2.2.2.2.2.1 a0.2.2.2.2.2.2.1 a0.2.2.2.2.2.2.2.1 a0.2.2.2.2.2.2.2.2)) (pD dr
           (fun e152=>
            kx (e152.1.2.1.1:Bool),fun e168=>
            Option.bind (be (((e168.2.1.1.2.2.2.2.1:Int),((e168.2.1.1.2.2.2.2.2.1:Int),(e168.2.1.1.2.2.2.2.2.2.1:Int))),((e168.2.1.1.2.2.2.2.2.2.2.1:Int),((e168.2.1.1.2.2.2.2.2.2.2.2.1:Int),(e168.2.1.1.2.2.2.2.2.2.2.2.2.1:Int))))) fun y183=>
            cond y183
            (Option.bind (bG ((e168.2.1.1.2.2.2.2.2.2.2.2.2.2.1:Int),((e168.2.1.1.2.2.2.2.2.2.2.2.2.2.2.1:Int),((e168.2.1.1.2.2.2.2.2.2.2.2.2.2.2.2.1:Int),(e168.2.1.1.2.2.2.2.2.2.2.2.2.2.2.2.2.1:Int))))) fun y184=>
             kx y184)
            (kx Bool.false),()))))
         (Option.bind (bN (cb (0:Int) a0.1 a0.2.1 a0.2.2.1 a0.2.2.2.1 a0.2.2.2.2.1.1.1 a0.2.2.2.2.1.1.2.1 a0.2.2.2.2.1.1.2.2 a0.2.2.2.2.1.2.1 a0.2.2.2.2.1.2.2.1 a0.2.2.2.2.1.2.2.2 a0.2.2.2.2.2.1 a0.2.2.2.2.2.2.1 a0.2.2.2.2.2.2.2.1 a0.2.2.2.2.2.2.2.2)) (pD dr
          (fun e185=>
           kx (e185.1.2.1.1:Bool),fun e201=>
           Option.bind (be (((e201.2.1.1.2.2.2.2.1:Int),((e201.2.1.1.2.2.2.2.2.1:Int),(e201.2.1.1.2.2.2.2.2.2.1:Int))),((e201.2.1.1.2.2.2.2.2.2.2.1:Int),((e201.2.1.1.2.2.2.2.2.2.2.2.1:Int),(e201.2.1.1.2.2.2.2.2.2.2.2.2.1:Int))))) fun y216=>
           cond y216
           (Option.bind (bG ((e201.2.1.1.2.2.2.2.2.2.2.2.2.2.1:Int),((e201.2.1.1.2.2.2.2.2.2.2.2.2.2.2.1:Int),((e201.2.1.1.2.2.2.2.2.2.2.2.2.2.2.2.1:Int),(e201.2.1.1.2.2.2.2.2.2.2.2.2.2.2.2.2.1:Int))))) fun y217=>
            kx y217)
           (kx Bool.false),())))))
       (cond (a0.2.1 !=(2:Int))
        (cond (!((a0.2.2.2.2.2.1==(0:Int))&&(((a0.2.2.2.2.2.2.1==(0:Int))&&((a0.2.2.2.2.2.2.2.1==(0:Int))&&((a0.2.2.2.2.2.2.2.2==(0:Int))&&Bool.true)))&&Bool.true)))
         (kx Bool.false)
         (Option.bind (bN (cb (0:Int) a0.1 a0.2.1 a0.2.2.1 a0.2.2.2.1 a0.2.2.2.2.1.1.1 a0.2.2.2.2.1.1.2.1 a0.2.2.2.2.1.1.2.2 a0.2.2.2.2.1.2.1 a0.2.2.2.2.1.2.2.1 a0.2.2.2.2.1.2.2.2 a0.2.2.2.2.2.1 a0.2.2.2.2.2.2.1 a0.2.2.2.2.2.2.2.1 a0.2.2.2.2.2.2.2.2)) (pD dr
          (fun e218=>
           kx (e218.1.2.1.1:Bool),fun e234=>
           Option.bind (be (((e234.2.1.1.2.2.2.2.1:Int),((e234.2.1.1.2.2.2.2.2.1:Int),(e234.2.1.1.2.2.2.2.2.2.1:Int))),((e234.2.1.1.2.2.2.2.2.2.2.1:Int),((e234.2.1.1.2.2.2.2.2.2.2.2.1:Int),(e234.2.1.1.2.2.2.2.2.2.2.2.2.1:Int))))) fun y249=>
           cond y249
           (Option.bind (bG ((e234.2.1.1.2.2.2.2.2.2.2.2.2.2.1:Int),((e234.2.1.1.2.2.2.2.2.2.2.2.2.2.2.1:Int),((e234.2.1.1.2.2.2.2.2.2.2.2.2.2.2.2.1:Int),(e234.2.1.1.2.2.2.2.2.2.2.2.2.2.2.2.2.1:Int))))) fun y250=>
            kx y250)
           (kx Bool.false),()))))
        (Option.bind (bN (cb (0:Int) a0.1 a0.2.1 a0.2.2.1 a0.2.2.2.1 a0.2.2.2.2.1.1.1 a0.2.2.2.2.1.1.2.1 a0.2.2.2.2.1.1.2.2 a0.2.2.2.2.1.2.1 a0.2.2.2.2.1.2.2.1 a0.2.2.2.2.1.2.2.2 a0.2.2.2.2.2.1 a0.2.2.2.2.2.2.1 a0.2.2.2.2.2.2.2.1 a0.2.2.2.2.2.2.2.2)) (pD dr
         (fun e251=>
          kx (e251.1.2.1.1:Bool),fun e267=>
          Option.bind (be (((e267.2.1.1.2.2.2.2.1:Int),((e267.2.1.1.2.2.2.2.2.1:Int),(e267.2.1.1.2.2.2.2.2.2.1:Int))),((e267.2.1.1.2.2.2.2.2.2.2.1:Int),((e267.2.1.1.2.2.2.2.2.2.2.2.1:Int),(e267.2.1.1.2.2.2.2.2.2.2.2.2.1:Int))))) fun y282=>
          cond y282
          (Option.bind (bG ((e267.2.1.1.2.2.2.2.2.2.2.2.2.2.1:Int),((e267.2.1.1.2.2.2.2.2.2.2.2.2.2.2.1:Int),((e267.2.1.1.2.2.2.2.2.2.2.2.2.2.2.2.1:Int),(e267.2.1.1.2.2.2.2.2.2.2.2.2.2.2.2.2.1:Int))))) fun y283=>
           kx y283)
          (kx Bool.false),()))))))
     (cond (a0.2.1 !=(1:Int))
      (cond (!(((a0.2.2.2.2.1.1.1==(0:Int))&&((a0.2.2.2.2.1.1.2.1==(0:Int))&&((a0.2.2.2.2.1.1.2.2==(0:Int))&&Bool.true)))&&(((a0.2.2.2.2.1.2.1==(0:Int))&&((a0.2.2.2.2.1.2.2.1==(0:Int))&&((a0.2.2.2.2.1.2.2.2==(0:Int))&&Bool.true)))&&Bool.true)))
       (kx Bool.false)
       (cond (a0.2.1 !=(2:Int))
        (cond (!((a0.2.2.2.2.2.1==(0:Int))&&(((a0.2.2.2.2.2.2.1==(0:Int))&&((a0.2.2.2.2.2.2.2.1==(0:Int))&&((a0.2.2.2.2.2.2.2.2==(0:Int))&&Bool.true)))&&Bool.true)))
         (kx Bool.false)
         (Option.bind (bN (cb (0:Int) a0.1 a0.2.1 a0.2.2.1 a0.2.2.2.1 a0.2.2.2.2.1.1.1 a0.2.2.2.2.1.1.2.1 a0.2.2.2.2.1.1.2.2 a0.2.2.2.2.1.2.1 a0.2.2.2.2.1.2.2.1 a0.2.2.2.2.1.2.2.2 a0.2.2.2.2.2.1 a0.2.2.2.2.2.2.1 a0.2.2.2.2.2.2.2.1 a0.2.2.2.2.2.2.2.2)) (pD dr
          (fun e284=>
           kx (e284.1.2.1.1:Bool),fun e300=>
           Option.bind (be (((e300.2.1.1.2.2.2.2.1:Int),((e300.2.1.1.2.2.2.2.2.1:Int),(e300.2.1.1.2.2.2.2.2.2.1:Int))),((e300.2.1.1.2.2.2.2.2.2.2.1:Int),((e300.2.1.1.2.2.2.2.2.2.2.2.1:Int),(e300.2.1.1.2.2.2.2.2.2.2.2.2.1:Int))))) fun y315=>
           cond y315
           (Option.bind (bG ((e300.2.1.1.2.2.2.2.2.2.2.2.2.2.1:Int),((e300.2.1.1.2.2.2.2.2.2.2.2.2.2.2.1:Int),((e300.2.1.1.2.2.2.2.2.2.2.2.2.2.2.2.1:Int),(e300.2.1.1.2.2.2.2.2.2.2.2.2.2.2.2.2.1:Int))))) fun y316=>
            kx y316)
           (kx Bool.false),()))))
        (Option.bind (bN (cb (0:Int) a0.1 a0.2.1 a0.2.2.1 a0.2.2.2.1 a0.2.2.2.2.1.1.1 a0.2.2.2.2.1.1.2.1 a0.2.2.2.2.1.1.2.2 a0.2.2.2.2.1.2.1 a0.2.2.2.2.1.2.2.1 a0.2.2.2.2.1.2.2.2 a0.2.2.2.2.2.1 a0.2.2.2.2.2.2.1 a0.2.2.2.2.2.2.2.1 a0.2.2.2.2.2.2.2.2)) (pD dr
         (fun e317=>
          kx (e317.1.2.1.1:Bool),fun e333=>
          Option.bind (be (((e333.2.1.1.2.2.2.2.1:Int),((e333.2.1.1.2.2.2.2.2.1:Int),(e333.2.1.1.2.2.2.2.2.2.1:Int))),((e333.2.1.1.2.2.2.2.2.2.2.1:Int),((e333.2.1.1.2.2.2.2.2.2.2.2.1:Int),(e333.2.1.1.2.2.2.2.2.2.2.2.2.1:Int))))) fun y348=>
          cond y348
          (Option.bind (bG ((e333.2.1.1.2.2.2.2.2.2.2.2.2.2.1:Int),((e333.2.1.1.2.2.2.2.2.2.2.2.2.2.2.1:Int),((e333.2.1.1.2.2.2.2.2.2.2.2.2.2.2.2.1:Int),(e333.2.1.1.2.2.2.2.2.2.2.2.2.2.2.2.2.1:Int))))) fun y349=>
           kx y349)
          (kx Bool.false),())))))
      (cond (a0.2.1 !=(2:Int))
       (cond (!((a0.2.2.2.2.2.1==(0:Int))&&(((a0.2.2.2.2.2.2.1==(0:Int))&&((a0.2.2.2.2.2.2.2.1==(0:Int))&&((a0.2.2.2.2.2.2.2.2==(0:Int))&&Bool.true)))&&Bool.true)))
        (kx Bool.false)
        (Option.bind (bN (cb (0:Int) a0.1 a0.2.1 a0.2.2.1 a0.2.2.2.1 a0.2.2.2.2.1.1.1 a0.2.2.2.2.1.1.2.1 a0.2.2.2.2.1.1.2.2 a0.2.2.2.2.1.2.1 a0.2.2.2.2.1.2.2.1 a0.2.2.2.2.1.2.2.2 a0.2.2.2.2.2.1 a0.2.2.2.2.2.2.1 a0.2.2.2.2.2.2.2.1 a0.2.2.2.2.2.2.2.2)) (pD dr
         (fun e350=>
          kx (e350.1.2.1.1:Bool),fun e366=>
          Option.bind (be (((e366.2.1.1.2.2.2.2.1:Int),((e366.2.1.1.2.2.2.2.2.1:Int),(e366.2.1.1.2.2.2.2.2.2.1:Int))),((e366.2.1.1.2.2.2.2.2.2.2.1:Int),((e366.2.1.1.2.2.2.2.2.2.2.2.1:Int),(e366.2.1.1.2.2.2.2.2.2.2.2.2.1:Int))))) fun y381=>
          cond y381
          (Option.bind (bG ((e366.2.1.1.2.2.2.2.2.2.2.2.2.2.1:Int),((e366.2.1.1.2.2.2.2.2.2.2.2.2.2.2.1:Int),((e366.2.1.1.2.2.2.2.2.2.2.2.2.2.2.2.1:Int),(e366.2.1.1.2.2.2.2.2.2.2.2.2.2.2.2.2.1:Int))))) fun y382=>
           kx y382)
          (kx Bool.false),()))))
       (Option.bind (bN (cb (0:Int) a0.1 a0.2.1 a0.2.2.1 a0.2.2.2.1 a0.2.2.2.2.1.1.1 a0.2.2.2.2.1.1.2.1 a0.2.2.2.2.1.1.2.2 a0.2.2.2.2.1.2.1 a0.2.2.2.2.1.2.2.1 a0.2.2.2.2.1.2.2.2 a0.2.2.2.2.2.1 a0.2.2.2.2.2.2.1 a0.2.2.2.2.2.2.2.1 a0.2.2.2.2.2.2.2.2)) (pD dr
        (fun e383=>
         kx (e383.1.2.1.1:Bool),fun e399=>
         Option.bind (be (((e399.2.1.1.2.2.2.2.1:Int),((e399.2.1.1.2.2.2.2.2.1:Int),(e399.2.1.1.2.2.2.2.2.2.1:Int))),((e399.2.1.1.2.2.2.2.2.2.2.1:Int),((e399.2.1.1.2.2.2.2.2.2.2.2.1:Int),(e399.2.1.1.2.2.2.2.2.2.2.2.2.1:Int))))) fun y414=>
         cond y414
         (Option.bind (bG ((e399.2.1.1.2.2.2.2.2.2.2.2.2.2.1:Int),((e399.2.1.1.2.2.2.2.2.2.2.2.2.2.2.1:Int),((e399.2.1.1.2.2.2.2.2.2.2.2.2.2.2.2.1:Int),(e399.2.1.1.2.2.2.2.2.2.2.2.2.2.2.2.2.1:Int))))) fun y415=>
          kx y415)
         (kx Bool.false),())))))))))
def bO(a0:Cn):Option (Bool):=eo some a0
theorem RU{R} kx a0: @eo R kx a0=(bO a0).bind kx:=by
 unfold bO eo
 exact ac fun _=>ae rfl (ac fun _=>ae rfl (ac fun _=>ae rfl (ac fun _=>ae rfl (ac fun _=>ae (ae rfl (ae (ae rfl (ae (ae rfl (cE ⟨fun _=>rfl,fun _=>ac fun _=>ae (ac fun _=>rfl) rfl,trivial⟩)) (cE ⟨fun _=>rfl,fun _=>ac fun _=>ae (ac fun _=>rfl) rfl,trivial⟩))) (ae (ae rfl (cE ⟨fun _=>rfl,fun _=>ac fun _=>ae (ac fun _=>rfl) rfl,trivial⟩)) (cE ⟨fun _=>rfl,fun _=>ac fun _=>ae (ac fun _=>rfl) rfl,trivial⟩)))) (ae (ae rfl (ae (ae rfl (cE ⟨fun _=>rfl,fun _=>ac fun _=>ae (ac fun _=>rfl) rfl,trivial⟩)) (cE ⟨fun _=>rfl,fun _=>ac fun _=>ae (ac fun _=>rfl) rfl,trivial⟩))) (ae (ae rfl (cE ⟨fun _=>rfl,fun _=>ac fun _=>ae (ac fun _=>rfl) rfl,trivial⟩)) (cE ⟨fun _=>rfl,fun _=>ac fun _=>ae (ac fun _=>rfl) rfl,trivial⟩)))))))
abbrev L4:af:=.fx [.ptr yC] (Bool) (fun z=>bO z.1) (fun b=>(.one ⟨false,[(.v (.bool b))]⟩,[]))
theorem S9:ag C0 57 L4:=
 ag.fx (e:=false) (t:=Bq) (.cons IA (.cons zj (.cons Qh (.cons C6 (.cons fj (.cons gX (.nil))))))) mixed Tryz.func57 (by kernel_rfl) (by kernel_rfl) Bx 1 SR (fun z=>(by kernel_rfl:_=eo (fun b=>some (L4.enc b)) z.1).trans (RU _ z.1))
def Bp:List (FuncId×af):=[]
abbrev iT:LS:=⟨[(false,[(.sl yI)]),(false,[.str]),(false,[(.int .i64)])],[],[]⟩
abbrev E3:LS:=⟨[(false,[(.int .i64)])],[],[]⟩
abbrev EV(v0:Int):=((((v0,()),()),(),()):E3.T)
abbrev E4:LS:=⟨[(false,[.undef])],[],[]⟩
abbrev EW:=(((((),()),()),(),()):E4.T)
abbrev kn:List (Ex×LS):=[(.ret,E3),(.exit 0,E4)]
abbrev tg x0(x1:ByteArray)(x5:Int):=((((x0,()),(x1,()),(x5,()),()),(),()):iT.T)
def ou{R:Type}(nx:iT.T->Option R)(hx:lF R kn)(x0:List It)(x1:ByteArray)(x5:Int):Option R:=
 cond (decide (x5<((List.length x0:Nat):Int)))
 (Option.bind (fY x0 x5) fun y424=>
  cond ((ByteArray.toList y424.1)==(ByteArray.toList x1))
  (hx.1 (EV x5))
  (nx (tg x0 x1 (IntKind.wrap .i64 (x5+(1:Int))))))
 (hx.2.1 (EW))
def C8{R:Type}(nx:iT.T->Option R)(hx:lF R kn)(z:iT.T):Option R:=ou nx hx z.1.1.1 z.1.2.1.1 z.1.2.2.1.1
theorem FC:cY @C8:=fun R nx hx z=>by
 show ou nx hx z.1.1.1 z.1.2.1.1 z.1.2.2.1.1=(ou (fun y=>some (.inl y)) (oM kn fun x=>some (.inr x)) z.1.1.1 z.1.2.1.1 z.1.2.2.1.1).bind (oH nx hx)
 unfold ou
 exact ae (ac fun _=>ae rfl rfl) rfl
def oA:iT.T->Option (xb kn):=BJ @C8
theorem G0 x0 x1 x5:oA (tg x0 x1 x5)=ou oA (oM kn some) x0 x1 x5:=eU FC _
def vQ:bQ:=⟨[0,1,5],[],[4],[]⟩
def Bw:fQ Rv:=⟨fun k=>match k with|3=>vQ|_=>⟨[],[],[],[]⟩,fun k=>match k with|3=>some (cu iT kn oA)|_=>none⟩
theorem Qn(n:Nat)(z:iT.T)(k:Ex->hZ->Option Rv):bL ⟨20,20⟩ vQ (nG (ii C0 Bp) ⟨20,20⟩ Bw 1 (aL Tryz.f122 2)) (n+1) (iT.enc z) k=
 C8 (fun y=>bL ⟨20,20⟩ vQ (nG (ii C0 Bp) ⟨20,20⟩ Bw 1 (aL Tryz.f122 2)) n (iT.enc y) k) (hK k kn) z:=by kernel_rfl
theorem SP:aw (ii C0 Bp) ⟨20,20⟩ Bw 1 (cp (bh Tryz.f122)):=by
 have hl:cp (bh Tryz.f122)=[aL Tryz.f122 2]:=by kernel_rfl
 rw[hl]
 exact aw.cons (n:=3) (lh:=vQ) (S:=cu iT kn oA) (by kernel_rfl) rfl rfl (cy FC Qn)
  (aw.nil)
def xM{R:Type}(kx:Int->Option R)(a0:(List It))(a1:ByteArray):Option R:=
 Option.bind (oA (tg a0 a1 (0:Int))) (pD kn
 (fun e425=>
  kx (e425.1.1.1:Int),fun _=>
  kx (-(1:Int)),()))
def qV(a0:(List It))(a1:ByteArray):Option (Int):=xM some a0 a1
theorem RS{R} kx a0 a1: @xM R kx a0 a1=(qV a0 a1).bind kx:=by
 unfold qV xM
 exact cE ⟨fun _=>rfl,fun _=>rfl,trivial⟩
abbrev Gf:af:=.fx [.val false (.slice yI), .val false .str] (Int) (fun z=>qV z.1 z.2.1) (fun b=>(.one ⟨false,[(.v (.int .i64 b))]⟩,[]))
theorem S7:ag C0 122 Gf:=
 ag.fx (e:=false) (t:=Bp) (.nil) mixed Tryz.func122 (by kernel_rfl) (by kernel_rfl) Bw 1 SP (fun z=>(by kernel_rfl:_=xM (fun b=>some (Gf.enc b)) z.1 z.2.1).trans (RS _ z.1 z.2.1))
def rn{R:Type}(kx:It×Int->Option R)(a0:Pt)(a1:Int):Option R:=
 kx (((ByteArray.mk (Array.mk [])),(Bool.false,(a0,((0:Int),((0:Int),((0:Int),(0:Int))))))),a1)
def dl(a0:Pt)(a1:Int):Option (It×Int):=rn some a0 a1
theorem Io{R} kx a0 a1: @rn R kx a0 a1=(dl a0 a1).bind kx:=by
 unfold dl rn
 exact rfl
abbrev CC:af:=.fx [.val true yP, .val false (.int .i64)] (It×Int) (fun z=>dl z.1 z.2.1) (fun b=>(.tup [⟨true,[(.v (.string b.1.1)),(.v (.bool b.1.2.1)),(.v (.int .i64 b.1.2.2.1.1.1)),(.v (.int .i64 b.1.2.2.1.1.2.1)),(.v (.int .i64 b.1.2.2.1.1.2.2)),(.v (.int .i64 b.1.2.2.1.2.1)),(.v (.int .i64 b.1.2.2.1.2.2.1)),(.v (.int .i64 b.1.2.2.1.2.2.2)),(.v (.int .i64 b.1.2.2.2.1)),(.v (.int .i64 b.1.2.2.2.2.1)),(.v (.int .i64 b.1.2.2.2.2.2.1)),(.v (.int .i64 b.1.2.2.2.2.2.2))]⟩,⟨false,[(.v (.int .i64 b.2))]⟩],[]))
theorem JD:ag C0 193 CC:=
 ag.fx (e:=false) (.nil) mixed Tryz.func193 (by kernel_rfl) (by kernel_rfl) aj 1 ai (fun z=>(by kernel_rfl:_=rn (fun b=>some (CC.enc b)) z.1 z.2.1).trans (Io _ z.1 z.2.1))
def sS{R:Type}(kx:It×Int->Option R)(a0:Ln)(a1:Int):Option R:=
 kx (((ByteArray.mk (Array.mk [])),(Bool.true,((((0:Int),((0:Int),(0:Int))),((0:Int),((0:Int),(0:Int)))),a0))),a1)
def cC(a0:Ln)(a1:Int):Option (It×Int):=sS some a0 a1
theorem Jr{R} kx a0 a1: @sS R kx a0 a1=(cC a0 a1).bind kx:=by
 unfold cC sS
 exact rfl
abbrev D0:af:=.fx [.val true yL, .val false (.int .i64)] (It×Int) (fun z=>cC z.1 z.2.1) (fun b=>(.tup [⟨true,[(.v (.string b.1.1)),(.v (.bool b.1.2.1)),(.v (.int .i64 b.1.2.2.1.1.1)),(.v (.int .i64 b.1.2.2.1.1.2.1)),(.v (.int .i64 b.1.2.2.1.1.2.2)),(.v (.int .i64 b.1.2.2.1.2.1)),(.v (.int .i64 b.1.2.2.1.2.2.1)),(.v (.int .i64 b.1.2.2.1.2.2.2)),(.v (.int .i64 b.1.2.2.2.1)),(.v (.int .i64 b.1.2.2.2.2.1)),(.v (.int .i64 b.1.2.2.2.2.2.1)),(.v (.int .i64 b.1.2.2.2.2.2.2))]⟩,⟨false,[(.v (.int .i64 b.2))]⟩],[]))
theorem Lf:ag C0 194 D0:=
 ag.fx (e:=false) (.nil) mixed Tryz.func194 (by kernel_rfl) (by kernel_rfl) aj 1 ai (fun z=>(by kernel_rfl:_=sS (fun b=>some (D0.enc b)) z.1 z.2.1).trans (Jr _ z.1 z.2.1))
def cV{R:Type}(kx:Nm->Option R)(a0:Nm):Option R:=
 kx a0
def bY(a0:Nm):Option (Nm):=cV some a0
theorem RP{R} kx a0: @cV R kx a0=(bY a0).bind kx:=by
 unfold bY cV
 exact rfl
abbrev LZ:af:=.fx [.val true yN] (Nm) (fun z=>bY z.1) (fun b=>(.one ⟨true,[(.v (.int .i64 b.1)),(.v (.int .i64 b.2.1)),(.v (.int .i64 b.2.2))]⟩,[]))
theorem EK:ag C0 143 LZ:=
 ag.fx (e:=false) (.nil) mixed Tryz.func143 (by kernel_rfl) (by kernel_rfl) aj 1 ai (fun z=>(by kernel_rfl:_=cV (fun b=>some (LZ.enc b)) z.1).trans (RP _ z.1))
def fm{R:Type}(kx:Ln->Option R)(a0:Ln):Option R:=
 Option.bind (bY a0.2) fun y560=>
 kx (a0.1,y560)
def bP(a0:Ln):Option (Ln):=fm some a0
theorem KW{R} kx a0: @fm R kx a0=(bP a0).bind kx:=by
 unfold bP fm
 exact ac fun _=>rfl
abbrev uc:af:=.fx [.val true yL] (Ln) (fun z=>bP z.1) (fun b=>(.one ⟨true,[(.v (.int .i64 b.1)),(.v (.int .i64 b.2.1)),(.v (.int .i64 b.2.2.1)),(.v (.int .i64 b.2.2.2))]⟩,[]))
theorem kd:ag C0 256 uc:=
 ag.fx (e:=false) (.cons EK (.nil)) mixed Tryz.func256 (by kernel_rfl) (by kernel_rfl) aj 1 ai (fun z=>(by kernel_rfl:_=fm (fun b=>some (uc.enc b)) z.1).trans (KW _ z.1))
def vG{R:Type}(kx:Int->Option R)(a0:Int):Option R:=
 kx (Int.tmod (IntKind.wrap .i64 ((Int.tmod a0 (16:Int))+(16:Int))) (16:Int))
def pK(a0:Int):Option (Int):=vG some a0
theorem PY{R} kx a0: @vG R kx a0=(pK a0).bind kx:=by
 unfold pK vG
 exact rfl
abbrev J4:af:=.fx [.val false (.int .i64)] (Int) (fun z=>pK z.1) (fun b=>(.one ⟨false,[(.v (.int .i64 b))]⟩,[]))
theorem IC:ag C0 213 J4:=
 ag.fx (e:=false) (.nil) mixed Tryz.func213 (by kernel_rfl) (by kernel_rfl) aj 1 ai (fun z=>(by kernel_rfl:_=vG (fun b=>some (J4.enc b)) z.1).trans (PY _ z.1))
def se{R:Type}(kx:Pt->Option R)(a0:Int):Option R:=
 Option.bind (pK a0) fun y567=>
 Option.bind (fY [(((1:Int),((0:Int),(0:Int))),((0:Int),((0:Int),(0:Int)))),(((1:Int),((0:Int),(0:Int))),((-(1:Int)),((1:Int),(0:Int)))),(((1:Int),((0:Int),(0:Int))),((1:Int),((0:Int),(0:Int)))),(((-(1:Int)),((1:Int),(0:Int))),((1:Int),((0:Int),(0:Int)))),(((0:Int),((0:Int),(0:Int))),((1:Int),((0:Int),(0:Int)))),(((1:Int),((-(1:Int)),(0:Int))),((1:Int),((0:Int),(0:Int)))),(((-(1:Int)),((0:Int),(0:Int))),((1:Int),((0:Int),(0:Int)))),(((-(1:Int)),((0:Int),(0:Int))),((-(1:Int)),((1:Int),(0:Int))))] (Int.tmod y567 (8:Int))) fun y568=>
 cond (decide (y567>=(8:Int)))
 (kx (((IntKind.wrap .i64 ((0:Int)-y568.1.1)),((IntKind.wrap .i64 ((0:Int)-y568.1.2.1)),(0:Int))),((IntKind.wrap .i64 ((0:Int)-y568.2.1)),((IntKind.wrap .i64 ((0:Int)-y568.2.2.1)),(0:Int)))))
 (kx y568)
def eJ(a0:Int):Option (Pt):=se some a0
theorem P0{R} kx a0: @se R kx a0=(eJ a0).bind kx:=by
 unfold eJ se
 exact ac fun _=>ac fun _=>ae rfl rfl
abbrev J6:af:=.fx [.val false (.int .i64)] (Pt) (fun z=>eJ z.1) (fun b=>(.one ⟨true,[(.v (.int .i64 b.1.1)),(.v (.int .i64 b.1.2.1)),(.v (.int .i64 b.1.2.2)),(.v (.int .i64 b.2.1)),(.v (.int .i64 b.2.2.1)),(.v (.int .i64 b.2.2.2))]⟩,[]))
theorem ql:ag C0 141 J6:=
 ag.fx (e:=false) (.cons IC (.nil)) mixed Tryz.func141 (by kernel_rfl) (by kernel_rfl) aj 1 ai (fun z=>(by kernel_rfl:_=se (fun b=>some (J6.enc b)) z.1).trans (P0 _ z.1))
def dH{R:Type}(kx:Pt->Option R)(a0:Pt):Option R:=
 Option.bind (bY a0.1) fun y571=>
 Option.bind (bY a0.2) fun y572=>
 kx (y571,y572)
def bj(a0:Pt):Option (Pt):=dH some a0
theorem RR{R} kx a0: @dH R kx a0=(bj a0).bind kx:=by
 unfold bj dH
 exact ac fun _=>ac fun _=>rfl
abbrev By:af:=.fx [.val true yP] (Pt) (fun z=>bj z.1) (fun b=>(.one ⟨true,[(.v (.int .i64 b.1.1)),(.v (.int .i64 b.1.2.1)),(.v (.int .i64 b.1.2.2)),(.v (.int .i64 b.2.1)),(.v (.int .i64 b.2.2.1)),(.v (.int .i64 b.2.2.2))]⟩,[]))
theorem fA:ag C0 140 By:=
 ag.fx (e:=false) (.cons EK (.nil)) mixed Tryz.func140 (by kernel_rfl) (by kernel_rfl) aj 1 ai (fun z=>(by kernel_rfl:_=dH (fun b=>some (By.enc b)) z.1).trans (RR _ z.1))
def yR:List (FuncId×af):=[]
abbrev gT:LS:=⟨[(false,[(.ptr 1 0)]),(false,[(.ptr 2 0)])],[(false,[(.int .i64),(.int .i64),(.int .i64)]),(false,[(.int .i64),(.int .i64),(.int .i64)])],[]⟩
abbrev DE:LS:=⟨[(false,[(.ptr 1 0)]),(false,[(.ptr 2 0)])],[(false,[(.int .i64),(.int .i64),(.int .i64)]),(false,[(.int .i64),(.int .i64),(.int .i64)])],[]⟩
abbrev sA(v0:Int)(v1:Int)(v2:Int)(v3:Int)(v4:Int)(v5:Int):=(((((),()),((),()),()),((v0,v1,v2,()),(v3,v4,v5,()),()),()):DE.T)
abbrev hQ:List (Ex×LS):=[(.exit 0,DE)]
abbrev rx(b0_0:Int)(b0_1:Int)(b0_2:Int)(b1_0:Int)(b1_1:Int)(b1_2:Int):=(((((),()),((),()),()),((b0_0,b0_1,b0_2,()),(b1_0,b1_1,b1_2,()),()),()):gT.T)
def mN{R:Type}(nx:gT.T->Option R)(hx:lF R hQ)(b0_0:Int)(b0_1:Int)(b0_2:Int)(b1_0:Int)(b1_1:Int)(b1_2:Int):Option R:=
 cond (decide (b0_2>(0:Int)))
 (cond ((Int.tmod b0_0 (2:Int))==(0:Int))
  (cond ((Int.tmod b0_1 (2:Int))==(0:Int))
   (nx (rx (IntKind.wrap .i64 (Int.tdiv b0_0 (2:Int))) (IntKind.wrap .i64 (Int.tdiv b0_1 (2:Int))) (IntKind.wrap .i64 (b0_2-(1:Int))) b1_0 b1_1 b1_2))
   (hx.1 (sA b0_0 b0_1 b0_2 b1_0 b1_1 b1_2)))
  (hx.1 (sA b0_0 b0_1 b0_2 b1_0 b1_1 b1_2)))
 (hx.1 (sA b0_0 b0_1 b0_2 b1_0 b1_1 b1_2))
def AG{R:Type}(nx:gT.T->Option R)(hx:lF R hQ)(z:gT.T):Option R:=mN nx hx z.2.1.1.1 z.2.1.1.2.1 z.2.1.1.2.2.1 z.2.1.2.1.1 z.2.1.2.1.2.1 z.2.1.2.1.2.2.1
theorem D9:cY @AG:=fun R nx hx z=>by
 show mN nx hx z.2.1.1.1 z.2.1.1.2.1 z.2.1.1.2.2.1 z.2.1.2.1.1 z.2.1.2.1.2.1 z.2.1.2.1.2.2.1=(mN (fun y=>some (.inl y)) (oM hQ fun x=>some (.inr x)) z.2.1.1.1 z.2.1.1.2.1 z.2.1.1.2.2.1 z.2.1.2.1.1 z.2.1.2.1.2.1 z.2.1.2.1.2.2.1).bind (oH nx hx)
 unfold mN
 exact ae (ae (ae rfl rfl) rfl) rfl
def mQ:gT.T->Option (xb hQ):=BJ @AG
theorem FS b0_0 b0_1 b0_2 b1_0 b1_1 b1_2:mQ (rx b0_0 b0_1 b0_2 b1_0 b1_1 b1_2)=mN mQ (oM hQ some) b0_0 b0_1 b0_2 b1_0 b1_1 b1_2:=eU D9 _
def uh:bQ:=⟨[1,2],[1,2],[1,2],[1,2]⟩
def yY:fQ Rv:=⟨fun k=>match k with|4=>uh|_=>⟨[],[],[],[]⟩,fun k=>match k with|4=>some (cu gT hQ mQ)|_=>none⟩
theorem Ov(n:Nat)(z:gT.T)(k:Ex->hZ->Option Rv):bL ⟨40,40⟩ uh (nG (ii C0 yR) ⟨40,40⟩ yY 1 (aL Tryz.f214 3)) (n+1) (gT.enc z) k=
 AG (fun y=>bL ⟨40,40⟩ uh (nG (ii C0 yR) ⟨40,40⟩ yY 1 (aL Tryz.f214 3)) n (gT.enc y) k) (hK k hQ) z:=by kernel_rfl
theorem Rg:aw (ii C0 yR) ⟨40,40⟩ yY 1 (cp (bh Tryz.f214)):=by
 have hl:cp (bh Tryz.f214)=[aL Tryz.f214 3]:=by kernel_rfl
 rw[hl]
 exact aw.cons (n:=4) (lh:=uh) (S:=cu gT hQ mQ) (by kernel_rfl) rfl rfl (cy D9 Ov)
  (aw.nil)
def vC{R:Type}(kx:Nm->Option R)(a0:Nm):Option R:=
 cond (a0.1==(0:Int))
 (cond (a0.2.1==(0:Int))
  (kx ((0:Int),((0:Int),(0:Int))))
  (Option.bind (mQ (rx a0.1 a0.2.1 a0.2.2 (0:Int) (0:Int) (0:Int))) (pD hQ
   (fun e585=>
    kx ((e585.2.1.1.1:Int),((e585.2.1.1.2.1:Int),(e585.2.1.1.2.2.1:Int))),()))))
 (Option.bind (mQ (rx a0.1 a0.2.1 a0.2.2 (0:Int) (0:Int) (0:Int))) (pD hQ
  (fun e592=>
   kx ((e592.2.1.1.1:Int),((e592.2.1.1.2.1:Int),(e592.2.1.1.2.2.1:Int))),())))
def gO(a0:Nm):Option (Nm):=vC some a0
theorem PS{R} kx a0: @vC R kx a0=(gO a0).bind kx:=by
 unfold gO vC
 exact ae (ae rfl (cE ⟨fun _=>rfl,trivial⟩)) (cE ⟨fun _=>rfl,trivial⟩)
abbrev zb:af:=.fx [.val true yN] (Nm) (fun z=>gO z.1) (fun b=>(.one ⟨true,[(.v (.int .i64 b.1)),(.v (.int .i64 b.2.1)),(.v (.int .i64 b.2.2))]⟩,[]))
theorem xC:ag C0 214 zb:=
 ag.fx (e:=false) (t:=yR) (.nil) mixed Tryz.func214 (by kernel_rfl) (by kernel_rfl) yY 1 Rg (fun z=>(by kernel_rfl:_=vC (fun b=>some (zb.enc b)) z.1).trans (PS _ z.1))
def vD{R:Type}(kx:Nm->Option R)(a0:Nm)(a1:Nm):Option R:=
 Option.bind (gO ((IntKind.wrap .i64 ((IntKind.wrap .i64 (a0.1*a1.1))+(IntKind.wrap .i64 ((IntKind.wrap .i64 ((2:Int)*a0.2.1))*a1.2.1)))),((IntKind.wrap .i64 ((IntKind.wrap .i64 (a0.1*a1.2.1))+(IntKind.wrap .i64 (a0.2.1*a1.1)))),(IntKind.wrap .i64 (a0.2.2+a1.2.2))))) fun y599=>
 kx y599
def cJ(a0:Nm)(a1:Nm):Option (Nm):=vD some a0 a1
theorem PT{R} kx a0 a1: @vD R kx a0 a1=(cJ a0 a1).bind kx:=by
 unfold cJ vD
 exact ac fun _=>rfl
abbrev J1:af:=.fx [.val true yN, .val true yN] (Nm) (fun z=>cJ z.1 z.2.1) (fun b=>(.one ⟨true,[(.v (.int .i64 b.1)),(.v (.int .i64 b.2.1)),(.v (.int .i64 b.2.2))]⟩,[]))
theorem qj:ag C0 144 J1:=
 ag.fx (e:=false) (.cons xC (.nil)) mixed Tryz.func144 (by kernel_rfl) (by kernel_rfl) aj 1 ai (fun z=>(by kernel_rfl:_=vD (fun b=>some (J1.enc b)) z.1 z.2.1).trans (PT _ z.1 z.2.1))
def vE{R:Type}(kx:Nm->Option R)(a0:Nm):Option R:=
 kx ((IntKind.wrap .i64 ((0:Int)-a0.1)),((IntKind.wrap .i64 ((0:Int)-a0.2.1)),a0.2.2))
def rV(a0:Nm):Option (Nm):=vE some a0
theorem PU{R} kx a0: @vE R kx a0=(rV a0).bind kx:=by
 unfold rV vE
 exact rfl
abbrev J2:af:=.fx [.val true yN] (Nm) (fun z=>rV z.1) (fun b=>(.one ⟨true,[(.v (.int .i64 b.1)),(.v (.int .i64 b.2.1)),(.v (.int .i64 b.2.2))]⟩,[]))
theorem So:ag C0 268 J2:=
 ag.fx (e:=false) (.nil) mixed Tryz.func268 (by kernel_rfl) (by kernel_rfl) aj 1 ai (fun z=>(by kernel_rfl:_=vE (fun b=>some (J2.enc b)) z.1).trans (PU _ z.1))
def rP:List (FuncId×af):=[(214,zb)]
abbrev gQ:LS:=⟨[(false,[(.ptr 2 0)]),(false,[(.ptr 3 0)]),(false,[(.ptr 4 0)])],[(false,[(.int .i64),(.int .i64),(.int .i64)]),(false,[(.int .i64),(.int .i64),(.int .i64)]),(false,[(.int .i64),(.int .i64),(.int .i64)])],[]⟩
abbrev DB:LS:=⟨[(false,[(.ptr 2 0)]),(false,[(.ptr 3 0)]),(false,[(.ptr 4 0)])],[(false,[(.int .i64),(.int .i64),(.int .i64)]),(false,[(.int .i64),(.int .i64),(.int .i64)]),(false,[(.int .i64),(.int .i64),(.int .i64)])],[]⟩
abbrev Dw(v0:Int)(v1:Int)(v2:Int)(v3:Int)(v4:Int)(v5:Int)(v6:Int)(v7:Int)(v8:Int):=(((((),()),((),()),((),()),()),((v0,v1,v2,()),(v3,v4,v5,()),(v6,v7,v8,()),()),()):DB.T)
abbrev gY:List (Ex×LS):=[(.exit 0,DB)]
abbrev vT(b0_0:Int)(b0_1:Int)(b0_2:Int)(b1_0:Int)(b1_1:Int)(b1_2:Int)(b2_0:Int)(b2_1:Int)(b2_2:Int):=(((((),()),((),()),((),()),()),((b0_0,b0_1,b0_2,()),(b1_0,b1_1,b1_2,()),(b2_0,b2_1,b2_2,()),()),()):gQ.T)
def mL{R:Type}(nx:gQ.T->Option R)(hx:lF R gY)(b0_0:Int)(b0_1:Int)(b0_2:Int)(b1_0:Int)(b1_1:Int)(b1_2:Int)(b2_0:Int)(b2_1:Int)(b2_2:Int):Option R:=
 cond (decide (b0_2<b1_2))
 (nx (vT (IntKind.wrap .i64 (b0_0*(2:Int))) (IntKind.wrap .i64 (b0_1*(2:Int))) (IntKind.wrap .i64 (b0_2+(1:Int))) b1_0 b1_1 b1_2 b2_0 b2_1 b2_2))
 (hx.1 (Dw b0_0 b0_1 b0_2 b1_0 b1_1 b1_2 b2_0 b2_1 b2_2))
def AD{R:Type}(nx:gQ.T->Option R)(hx:lF R gY)(z:gQ.T):Option R:=mL nx hx z.2.1.1.1 z.2.1.1.2.1 z.2.1.1.2.2.1 z.2.1.2.1.1 z.2.1.2.1.2.1 z.2.1.2.1.2.2.1 z.2.1.2.2.1.1 z.2.1.2.2.1.2.1 z.2.1.2.2.1.2.2.1
theorem D6:cY @AD:=fun R nx hx z=>by
 show mL nx hx z.2.1.1.1 z.2.1.1.2.1 z.2.1.1.2.2.1 z.2.1.2.1.1 z.2.1.2.1.2.1 z.2.1.2.1.2.2.1 z.2.1.2.2.1.1 z.2.1.2.2.1.2.1 z.2.1.2.2.1.2.2.1=(mL (fun y=>some (.inl y)) (oM gY fun x=>some (.inr x)) z.2.1.1.1 z.2.1.1.2.1 z.2.1.1.2.2.1 z.2.1.2.1.1 z.2.1.2.1.2.1 z.2.1.2.1.2.2.1 z.2.1.2.2.1.1 z.2.1.2.2.1.2.1 z.2.1.2.2.1.2.2.1).bind (oH nx hx)
 unfold mL
 exact ae rfl rfl
def oS:gQ.T->Option (xb gY):=BJ @AD
theorem FQ b0_0 b0_1 b0_2 b1_0 b1_1 b1_2 b2_0 b2_1 b2_2:oS (vT b0_0 b0_1 b0_2 b1_0 b1_1 b1_2 b2_0 b2_1 b2_2)=mL oS (oM gY some) b0_0 b0_1 b0_2 b1_0 b1_1 b1_2 b2_0 b2_1 b2_2:=eU D6 _
def ue:bQ:=⟨[2,3,4],[2,3,4],[2,3,4],[2,3,4]⟩
abbrev gR:LS:=⟨[(false,[(.ptr 2 0)]),(false,[(.ptr 3 0)]),(false,[(.ptr 4 0)])],[(false,[(.int .i64),(.int .i64),(.int .i64)]),(false,[(.int .i64),(.int .i64),(.int .i64)]),(false,[(.int .i64),(.int .i64),(.int .i64)])],[]⟩
abbrev DC:LS:=⟨[(false,[(.ptr 2 0)]),(false,[(.ptr 3 0)]),(false,[(.ptr 4 0)])],[(false,[(.int .i64),(.int .i64),(.int .i64)]),(false,[(.int .i64),(.int .i64),(.int .i64)]),(false,[(.int .i64),(.int .i64),(.int .i64)])],[]⟩
abbrev Dx(v0:Int)(v1:Int)(v2:Int)(v3:Int)(v4:Int)(v5:Int)(v6:Int)(v7:Int)(v8:Int):=(((((),()),((),()),((),()),()),((v0,v1,v2,()),(v3,v4,v5,()),(v6,v7,v8,()),()),()):DC.T)
abbrev fV:List (Ex×LS):=[(.exit 2,DC)]
abbrev vU(b0_0:Int)(b0_1:Int)(b0_2:Int)(b1_0:Int)(b1_1:Int)(b1_2:Int)(b2_0:Int)(b2_1:Int)(b2_2:Int):=(((((),()),((),()),((),()),()),((b0_0,b0_1,b0_2,()),(b1_0,b1_1,b1_2,()),(b2_0,b2_1,b2_2,()),()),()):gR.T)
def mM{R:Type}(nx:gR.T->Option R)(hx:lF R fV)(b0_0:Int)(b0_1:Int)(b0_2:Int)(b1_0:Int)(b1_1:Int)(b1_2:Int)(b2_0:Int)(b2_1:Int)(b2_2:Int):Option R:=
 cond (decide (b1_2<b0_2))
 (nx (vU b0_0 b0_1 b0_2 (IntKind.wrap .i64 (b1_0*(2:Int))) (IntKind.wrap .i64 (b1_1*(2:Int))) (IntKind.wrap .i64 (b1_2+(1:Int))) b2_0 b2_1 b2_2))
 (hx.1 (Dx b0_0 b0_1 b0_2 b1_0 b1_1 b1_2 b2_0 b2_1 b2_2))
def AE{R:Type}(nx:gR.T->Option R)(hx:lF R fV)(z:gR.T):Option R:=mM nx hx z.2.1.1.1 z.2.1.1.2.1 z.2.1.1.2.2.1 z.2.1.2.1.1 z.2.1.2.1.2.1 z.2.1.2.1.2.2.1 z.2.1.2.2.1.1 z.2.1.2.2.1.2.1 z.2.1.2.2.1.2.2.1
theorem D7:cY @AE:=fun R nx hx z=>by
 show mM nx hx z.2.1.1.1 z.2.1.1.2.1 z.2.1.1.2.2.1 z.2.1.2.1.1 z.2.1.2.1.2.1 z.2.1.2.1.2.2.1 z.2.1.2.2.1.1 z.2.1.2.2.1.2.1 z.2.1.2.2.1.2.2.1=(mM (fun y=>some (.inl y)) (oM fV fun x=>some (.inr x)) z.2.1.1.1 z.2.1.1.2.1 z.2.1.1.2.2.1 z.2.1.2.1.1 z.2.1.2.1.2.1 z.2.1.2.1.2.2.1 z.2.1.2.2.1.1 z.2.1.2.2.1.2.1 z.2.1.2.2.1.2.2.1).bind (oH nx hx)
 unfold mM
 exact ae rfl rfl
def oT:gR.T->Option (xb fV):=BJ @AE
theorem FR b0_0 b0_1 b0_2 b1_0 b1_1 b1_2 b2_0 b2_1 b2_2:oT (vU b0_0 b0_1 b0_2 b1_0 b1_1 b1_2 b2_0 b2_1 b2_2)=mM oT (oM fV some) b0_0 b0_1 b0_2 b1_0 b1_1 b1_2 b2_0 b2_1 b2_2:=eU D7 _
def uf:bQ:=⟨[2,3,4],[2,3,4],[2,3,4],[2,3,4]⟩
def rW:fQ Rv:=⟨fun k=>match k with|2=>ue|6=>uf|_=>⟨[],[],[],[]⟩,fun k=>match k with|2=>some (cu gQ gY oS)|6=>some (cu gR fV oT)|_=>none⟩
theorem Oq(n:Nat)(z:gQ.T)(k:Ex->hZ->Option Rv):bL ⟨53,53⟩ ue (nG (ii C0 rP) ⟨53,53⟩ rW 1 (aL Tryz.f142 1)) (n+1) (gQ.enc z) k=
 AD (fun y=>bL ⟨53,53⟩ ue (nG (ii C0 rP) ⟨53,53⟩ rW 1 (aL Tryz.f142 1)) n (gQ.enc y) k) (hK k gY) z:=by kernel_rfl
theorem Ot(n:Nat)(z:gR.T)(k:Ex->hZ->Option Rv):bL ⟨53,53⟩ uf (nG (ii C0 rP) ⟨53,53⟩ rW 1 (aL Tryz.f142 5)) (n+1) (gR.enc z) k=
 AE (fun y=>bL ⟨53,53⟩ uf (nG (ii C0 rP) ⟨53,53⟩ rW 1 (aL Tryz.f142 5)) n (gR.enc y) k) (hK k fV) z:=by kernel_rfl
theorem Re:aw (ii C0 rP) ⟨53,53⟩ rW 1 (cp (bh Tryz.f142)):=by
 have hl:cp (bh Tryz.f142)=[aL Tryz.f142 1,aL Tryz.f142 5]:=by kernel_rfl
 rw[hl]
 exact aw.cons (n:=2) (lh:=ue) (S:=cu gQ gY oS) (by kernel_rfl) rfl rfl (cy D6 Oq)
  (aw.cons (n:=6) (lh:=uf) (S:=cu gR fV oT) (by kernel_rfl) rfl rfl (cy D7 Ot)
  (aw.nil))
def vz{R:Type}(kx:Nm->Option R)(a0:Nm)(a1:Nm):Option R:=
 Option.bind (oS (vT a0.1 a0.2.1 a0.2.2 a1.1 a1.2.1 a1.2.2 (0:Int) (0:Int) (0:Int))) (pD gY
 (fun e617=>
  Option.bind (oT (vU (e617.2.1.1.1:Int) (e617.2.1.1.2.1:Int) (e617.2.1.1.2.2.1:Int) (e617.2.1.2.1.1:Int) (e617.2.1.2.1.2.1:Int) (e617.2.1.2.1.2.2.1:Int) (e617.2.1.2.2.1.1:Int) (e617.2.1.2.2.1.2.1:Int) (e617.2.1.2.2.1.2.2.1:Int))) (pD fV
  (fun e636=>
   Option.bind (gO ((IntKind.wrap .i64 ((e636.2.1.1.1:Int)+(e636.2.1.2.1.1:Int))),((IntKind.wrap .i64 ((e636.2.1.1.2.1:Int)+(e636.2.1.2.1.2.1:Int))),(e636.2.1.1.2.2.1:Int)))) fun y646=>
   kx y646,())),()))
def eH(a0:Nm)(a1:Nm):Option (Nm):=vz some a0 a1
theorem PQ{R} kx a0 a1: @vz R kx a0 a1=(eH a0 a1).bind kx:=by
 unfold eH vz
 exact cE ⟨fun _=>cE ⟨fun _=>ac fun _=>rfl,trivial⟩,trivial⟩
abbrev JZ:af:=.fx [.val true yN, .val true yN] (Nm) (fun z=>eH z.1 z.2.1) (fun b=>(.one ⟨true,[(.v (.int .i64 b.1)),(.v (.int .i64 b.2.1)),(.v (.int .i64 b.2.2))]⟩,[]))
theorem lQ:ag C0 142 JZ:=
 ag.fx (e:=false) (t:=rP) (.cons xC (.nil)) mixed Tryz.func142 (by kernel_rfl) (by kernel_rfl) rW 1 Re (fun z=>(by kernel_rfl:_=vz (fun b=>some (JZ.enc b)) z.1 z.2.1).trans (PQ _ z.1 z.2.1))
def vF{R:Type}(kx:Nm->Option R)(a0:Nm)(a1:Nm):Option R:=
 Option.bind (rV a1) fun y605=>
 Option.bind (eH a0 y605) fun y647=>
 kx y647
def di(a0:Nm)(a1:Nm):Option (Nm):=vF some a0 a1
theorem PW{R} kx a0 a1: @vF R kx a0 a1=(di a0 a1).bind kx:=by
 unfold di vF
 exact ac fun _=>ac fun _=>rfl
abbrev zc:af:=.fx [.val true yN, .val true yN] (Nm) (fun z=>di z.1 z.2.1) (fun b=>(.one ⟨true,[(.v (.int .i64 b.1)),(.v (.int .i64 b.2.1)),(.v (.int .i64 b.2.2))]⟩,[]))
theorem nX:ag C0 218 zc:=
 ag.fx (e:=false) (.cons So (.cons lQ (.nil))) mixed Tryz.func218 (by kernel_rfl) (by kernel_rfl) aj 1 ai (fun z=>(by kernel_rfl:_=vF (fun b=>some (zc.enc b)) z.1 z.2.1).trans (PW _ z.1 z.2.1))
def rQ:List (FuncId×af):=[(214,zb)]
abbrev gS:LS:=⟨[(false,[(.ptr 3 0)]),(false,[(.ptr 4 0)]),(false,[(.int .i64)]),(false,[(.ptr 7 0)])],[(false,[(.int .i64),(.int .i64),(.int .i64)]),(false,[(.int .i64),(.int .i64),(.int .i64)]),(false,[(.int .i64),(.int .i64),(.int .i64)])],[]⟩
abbrev DD:LS:=⟨[(false,[(.ptr 3 0)]),(false,[(.ptr 4 0)]),(false,[(.int .i64)]),(false,[(.ptr 7 0)])],[(false,[(.int .i64),(.int .i64),(.int .i64)]),(false,[(.int .i64),(.int .i64),(.int .i64)]),(false,[(.int .i64),(.int .i64),(.int .i64)])],[]⟩
abbrev Dy(v0:Int)(v1:Int)(v2:Int)(v3:Int)(v4:Int)(v5:Int)(v6:Int)(v7:Int)(v8:Int)(v9:Int):=(((((),()),((),()),(v0,()),((),()),()),((v1,v2,v3,()),(v4,v5,v6,()),(v7,v8,v9,()),()),()):DD.T)
abbrev gZ:List (Ex×LS):=[(.exit 0,DD)]
abbrev vV(x6:Int)(b0_0:Int)(b0_1:Int)(b0_2:Int)(b1_0:Int)(b1_1:Int)(b1_2:Int)(b2_0:Int)(b2_1:Int)(b2_2:Int):=(((((),()),((),()),(x6,()),((),()),()),((b0_0,b0_1,b0_2,()),(b1_0,b1_1,b1_2,()),(b2_0,b2_1,b2_2,()),()),()):gS.T)
def oR{R:Type}(nx:gS.T->Option R)(hx:lF R gZ)(x6:Int)(b0_0:Int)(b0_1:Int)(b0_2:Int)(b1_0:Int)(b1_1:Int)(b1_2:Int)(b2_0:Int)(b2_1:Int)(b2_2:Int):Option R:=
 cond ((Int.tmod x6 (2:Int))==(0:Int))
 (nx (vV (IntKind.wrap .i64 (Int.tdiv x6 (2:Int))) b0_0 b0_1 b0_2 b1_0 b1_1 b1_2 b2_0 b2_1 (IntKind.wrap .i64 (b2_2+(1:Int)))))
 (hx.1 (Dy x6 b0_0 b0_1 b0_2 b1_0 b1_1 b1_2 b2_0 b2_1 b2_2))
def AF{R:Type}(nx:gS.T->Option R)(hx:lF R gZ)(z:gS.T):Option R:=oR nx hx z.1.2.2.1.1 z.2.1.1.1 z.2.1.1.2.1 z.2.1.1.2.2.1 z.2.1.2.1.1 z.2.1.2.1.2.1 z.2.1.2.1.2.2.1 z.2.1.2.2.1.1 z.2.1.2.2.1.2.1 z.2.1.2.2.1.2.2.1
theorem D8:cY @AF:=fun R nx hx z=>by
 show oR nx hx z.1.2.2.1.1 z.2.1.1.1 z.2.1.1.2.1 z.2.1.1.2.2.1 z.2.1.2.1.1 z.2.1.2.1.2.1 z.2.1.2.1.2.2.1 z.2.1.2.2.1.1 z.2.1.2.2.1.2.1 z.2.1.2.2.1.2.2.1=(oR (fun y=>some (.inl y)) (oM gZ fun x=>some (.inr x)) z.1.2.2.1.1 z.2.1.1.1 z.2.1.1.2.1 z.2.1.1.2.2.1 z.2.1.2.1.1 z.2.1.2.1.2.1 z.2.1.2.1.2.2.1 z.2.1.2.2.1.1 z.2.1.2.2.1.2.1 z.2.1.2.2.1.2.2.1).bind (oH nx hx)
 unfold oR
 exact ae rfl rfl
def oU:gS.T->Option (xb gZ):=BJ @AF
theorem OF x6 b0_0 b0_1 b0_2 b1_0 b1_1 b1_2 b2_0 b2_1 b2_2:oU (vV x6 b0_0 b0_1 b0_2 b1_0 b1_1 b1_2 b2_0 b2_1 b2_2)=oR oU (oM gZ some) x6 b0_0 b0_1 b0_2 b1_0 b1_1 b1_2 b2_0 b2_1 b2_2:=eU D8 _
def ug:bQ:=⟨[3,4,6,7],[3,4,7],[3,4,6,7],[3,4,7]⟩
abbrev gd:LS:=⟨[(false,[(.ptr 4 0)]),(false,[(.ptr 7 0)]),(false,[(.int .i64)])],[(false,[(.int .i64),(.int .i64),(.int .i64)]),(false,[(.int .i64),(.int .i64),(.int .i64)])],[]⟩
abbrev Ch:LS:=⟨[(false,[(.ptr 4 0)]),(false,[(.ptr 7 0)])],[(false,[(.int .i64),(.int .i64),(.int .i64)]),(false,[(.int .i64),(.int .i64),(.int .i64)])],[]⟩
abbrev B8(v0:Int)(v1:Int)(v2:Int)(v3:Int)(v4:Int)(v5:Int):=(((((),()),((),()),()),((v0,v1,v2,()),(v3,v4,v5,()),()),()):Ch.T)
abbrev gg:List (Ex×LS):=[(.exit 2,Ch)]
abbrev qe(x8:Int)(b0_0:Int)(b0_1:Int)(b0_2:Int)(b1_0:Int)(b1_1:Int)(b1_2:Int):=(((((),()),((),()),(x8,()),()),((b0_0,b0_1,b0_2,()),(b1_0,b1_1,b1_2,()),()),()):gd.T)
def nC{R:Type}(nx:gd.T->Option R)(hx:lF R gg)(x8:Int)(b0_0:Int)(b0_1:Int)(b0_2:Int)(b1_0:Int)(b1_1:Int)(b1_2:Int):Option R:=
 cond (decide (x8>(0:Int)))
 (cond (decide (b1_2>(0:Int)))
  (nx (qe (IntKind.wrap .i64 (x8-(1:Int))) b0_0 b0_1 b0_2 b1_0 b1_1 (IntKind.wrap .i64 (b1_2-(1:Int)))))
  (nx (qe (IntKind.wrap .i64 (x8-(1:Int))) b0_0 b0_1 b0_2 (IntKind.wrap .i64 (b1_0*(2:Int))) (IntKind.wrap .i64 (b1_1*(2:Int))) b1_2)))
 (hx.1 (B8 b0_0 b0_1 b0_2 b1_0 b1_1 b1_2))
def yJ{R:Type}(nx:gd.T->Option R)(hx:lF R gg)(z:gd.T):Option R:=nC nx hx z.1.2.2.1.1 z.2.1.1.1 z.2.1.1.2.1 z.2.1.1.2.2.1 z.2.1.2.1.1 z.2.1.2.1.2.1 z.2.1.2.1.2.2.1
theorem CN:cY @yJ:=fun R nx hx z=>by
 show nC nx hx z.1.2.2.1.1 z.2.1.1.1 z.2.1.1.2.1 z.2.1.1.2.2.1 z.2.1.2.1.1 z.2.1.2.1.2.1 z.2.1.2.1.2.2.1=(nC (fun y=>some (.inl y)) (oM gg fun x=>some (.inr x)) z.1.2.2.1.1 z.2.1.1.1 z.2.1.1.2.1 z.2.1.1.2.2.1 z.2.1.2.1.1 z.2.1.2.1.2.1 z.2.1.2.1.2.2.1).bind (oH nx hx)
 unfold nC
 exact ae (ae rfl rfl) rfl
def nF:gd.T->Option (xb gg):=BJ @yJ
theorem M7 x8 b0_0 b0_1 b0_2 b1_0 b1_1 b1_2:nF (qe x8 b0_0 b0_1 b0_2 b1_0 b1_1 b1_2)=nC nF (oM gg some) x8 b0_0 b0_1 b0_2 b1_0 b1_1 b1_2:=eU CN _
def sK:bQ:=⟨[4,7,8],[4,7],[4,7],[4,7]⟩
def rX:fQ Rv:=⟨fun k=>match k with|6=>ug|14=>sK|_=>⟨[],[],[],[]⟩,fun k=>match k with|6=>some (cu gS gZ oU)|14=>some (cu gd gg nF)|_=>none⟩
theorem Ou(n:Nat)(z:gS.T)(k:Ex->hZ->Option Rv):bL ⟨105,105⟩ ug (nG (ii C0 rQ) ⟨105,105⟩ rX 1 (aL Tryz.f303 5)) (n+1) (gS.enc z) k=
 AF (fun y=>bL ⟨105,105⟩ ug (nG (ii C0 rQ) ⟨105,105⟩ rX 1 (aL Tryz.f303 5)) n (gS.enc y) k) (hK k gZ) z:=by kernel_rfl
theorem M4(n:Nat)(z:gd.T)(k:Ex->hZ->Option Rv):bL ⟨105,105⟩ sK (nG (ii C0 rQ) ⟨105,105⟩ rX 1 (aL Tryz.f303 13)) (n+1) (gd.enc z) k=
 yJ (fun y=>bL ⟨105,105⟩ sK (nG (ii C0 rQ) ⟨105,105⟩ rX 1 (aL Tryz.f303 13)) n (gd.enc y) k) (hK k gg) z:=by kernel_rfl
theorem Rf:aw (ii C0 rQ) ⟨105,105⟩ rX 1 (cp (bh Tryz.f303)):=by
 have hl:cp (bh Tryz.f303)=[aL Tryz.f303 5,aL Tryz.f303 13]:=by kernel_rfl
 rw[hl]
 exact aw.cons (n:=6) (lh:=ug) (S:=cu gS gZ oU) (by kernel_rfl) rfl rfl (cy D8 Ou)
  (aw.cons (n:=14) (lh:=sK) (S:=cu gd gg nF) (by kernel_rfl) rfl rfl (cy CN M4)
  (aw.nil))
def sd{R:Type}(kx:Nm×Bool->Option R)(a0:Nm)(a1:Nm):Option R:=
 cond ((IntKind.wrap .i64 ((IntKind.wrap .i64 (a1.1*a1.1))-(IntKind.wrap .i64 ((IntKind.wrap .i64 ((2:Int)*a1.2.1))*a1.2.1))))==(0:Int))
 (kx (((0:Int),((0:Int),(0:Int))),Bool.false))
 (Option.bind (oU (vV (IntKind.wrap .i64 ((IntKind.wrap .i64 (a1.1*a1.1))-(IntKind.wrap .i64 ((IntKind.wrap .i64 ((2:Int)*a1.2.1))*a1.2.1)))) a1.1 a1.2.1 a1.2.2 (0:Int) (0:Int) (0:Int) (IntKind.wrap .i64 ((IntKind.wrap .i64 (a0.1*a1.1))-(IntKind.wrap .i64 ((IntKind.wrap .i64 ((2:Int)*a0.2.1))*a1.2.1)))) (IntKind.wrap .i64 ((IntKind.wrap .i64 (a0.2.1*a1.1))-(IntKind.wrap .i64 (a0.1*a1.2.1)))) a0.2.2)) (pD gZ
  (fun e664=>
   cond (decide ((e664.1.2.2.1.1:Int)=(0:Int)))
   none
   (cond ((Int.tmod (e664.2.1.2.2.1.1:Int) (e664.1.2.2.1.1:Int)) !=(0:Int))
    (kx (((0:Int),((0:Int),(0:Int))),Bool.false))
    (cond (decide ((e664.1.2.2.1.1:Int)=(0:Int)))
     none
     (cond ((Int.tmod (e664.2.1.2.2.1.2.1:Int) (e664.1.2.2.1.1:Int)) !=(0:Int))
      (kx (((0:Int),((0:Int),(0:Int))),Bool.false))
      (cond (decide ((e664.1.2.2.1.1:Int)=(0:Int)))
       none
       (cond (decide ((e664.1.2.2.1.1:Int)=(0:Int)))
        none
        (Option.bind (nF (qe (e664.2.1.1.2.2.1:Int) (e664.2.1.2.1.1:Int) (e664.2.1.2.1.2.1:Int) (e664.2.1.2.1.2.2.1:Int) (IntKind.wrap .i64 (Int.tdiv (e664.2.1.2.2.1.1:Int) (e664.1.2.2.1.1:Int))) (IntKind.wrap .i64 (Int.tdiv (e664.2.1.2.2.1.2.1:Int) (e664.1.2.2.1.1:Int))) (e664.2.1.2.2.1.2.2.1:Int))) (pD gg
         (fun e682=>
          Option.bind (gO ((e682.2.1.2.1.1:Int),((e682.2.1.2.1.2.1:Int),(e682.2.1.2.1.2.2.1:Int)))) fun y689=>
          kx (y689,Bool.true),())))))))),())))
def iO(a0:Nm)(a1:Nm):Option (Nm×Bool):=sd some a0 a1
theorem PR{R} kx a0 a1: @sd R kx a0 a1=(iO a0 a1).bind kx:=by
 unfold iO sd
 exact ae rfl (cE ⟨fun _=>ae rfl (ae rfl (ae rfl (ae rfl (ae rfl (ae rfl (cE ⟨fun _=>ac fun _=>rfl,trivial⟩)))))),trivial⟩)
abbrev J0:af:=.fx [.val true yN, .val true yN] (Nm×Bool) (fun z=>iO z.1 z.2.1) (fun b=>(.tup [⟨true,[(.v (.int .i64 b.1.1)),(.v (.int .i64 b.1.2.1)),(.v (.int .i64 b.1.2.2))]⟩,⟨false,[(.v (.bool b.2))]⟩],[]))
theorem xB:ag C0 303 J0:=
 ag.fx (e:=false) (t:=rQ) (.cons xC (.nil)) mixed Tryz.func303 (by kernel_rfl) (by kernel_rfl) rX 1 Rf (fun z=>(by kernel_rfl:_=sd (fun b=>some (J0.enc b)) z.1 z.2.1).trans (PR _ z.1 z.2.1))
def tD{R:Type}(kx:Pt->Option R)(a0:Ln)(a1:Ln):Option R:=
 Option.bind (eJ (IntKind.wrap .i64 (a0.1+(4:Int)))) fun y569=>
 Option.bind (bj y569) fun y573=>
 Option.bind (eJ (IntKind.wrap .i64 (a1.1+(4:Int)))) fun y574=>
 Option.bind (bj y574) fun y575=>
 Option.bind (cJ y573.1 y575.2) fun y600=>
 Option.bind (cJ y573.2 y575.1) fun y601=>
 Option.bind (di y600 y601) fun y648=>
 Option.bind (cJ a0.2 y575.2) fun y649=>
 Option.bind (cJ a1.2 y573.2) fun y650=>
 Option.bind (di y649 y650) fun y651=>
 Option.bind (iO y651 y648) fun y690=>
 Option.bind (cJ a1.2 y573.1) fun y691=>
 Option.bind (cJ a0.2 y575.1) fun y692=>
 Option.bind (di y691 y692) fun y693=>
 Option.bind (iO y693 y648) fun y694=>
 kx (y690.1,y694.1)
def lN(a0:Ln)(a1:Ln):Option (Pt):=tD some a0 a1
theorem NW{R} kx a0 a1: @tD R kx a0 a1=(lN a0 a1).bind kx:=by
 unfold lN tD
 exact ac fun _=>ac fun _=>ac fun _=>ac fun _=>ac fun _=>ac fun _=>ac fun _=>ac fun _=>ac fun _=>ac fun _=>ac fun _=>ac fun _=>ac fun _=>ac fun _=>ac fun _=>rfl
abbrev HU:af:=.fx [.val true yL, .val true yL] (Pt) (fun z=>lN z.1 z.2.1) (fun b=>(.one ⟨true,[(.v (.int .i64 b.1.1)),(.v (.int .i64 b.1.2.1)),(.v (.int .i64 b.1.2.2)),(.v (.int .i64 b.2.1)),(.v (.int .i64 b.2.2.1)),(.v (.int .i64 b.2.2.2))]⟩,[]))
theorem GV:ag C0 255 HU:=
 ag.fx (e:=false) (.cons ql (.cons fA (.cons qj (.cons nX (.cons xB (.nil)))))) mixed Tryz.func255 (by kernel_rfl) (by kernel_rfl) aj 1 ai (fun z=>(by kernel_rfl:_=tD (fun b=>some (HU.enc b)) z.1 z.2.1).trans (NW _ z.1 z.2.1))
def pM{R:Type}(kx:Nm×Bool->Option R)(a0:Nm):Option R:=
 Option.bind (gO a0) fun y698=>
 Option.bind (nh y698) fun y699=>
 cond (!y699)
 (kx (((0:Int),((0:Int),(0:Int))),Bool.false))
 (kx (y698,Bool.true))
def eI(a0:Nm):Option (Nm×Bool):=pM some a0
theorem PV{R} kx a0: @pM R kx a0=(eI a0).bind kx:=by
 unfold eI pM
 exact ac fun _=>ac fun _=>ae rfl rfl
abbrev J3:af:=.fx [.val true yN] (Nm×Bool) (fun z=>eI z.1) (fun b=>(.tup [⟨true,[(.v (.int .i64 b.1.1)),(.v (.int .i64 b.1.2.1)),(.v (.int .i64 b.1.2.2))]⟩,⟨false,[(.v (.bool b.2))]⟩],[]))
theorem xD:ag C0 212 J3:=
 ag.fx (e:=false) (.cons xC (.cons EL (.nil))) mixed Tryz.func212 (by kernel_rfl) (by kernel_rfl) aj 1 ai (fun z=>(by kernel_rfl:_=pM (fun b=>some (J3.enc b)) z.1).trans (PV _ z.1))
def vH{R:Type}(kx:Pt×Bool->Option R)(a0:Pt):Option R:=
 Option.bind (eI a0.1) fun y700=>
 Option.bind (eI a0.2) fun y701=>
 cond (!y700.2)
 (kx ((((0:Int),((0:Int),(0:Int))),((0:Int),((0:Int),(0:Int)))),Bool.false))
 (cond (!y701.2)
  (kx ((((0:Int),((0:Int),(0:Int))),((0:Int),((0:Int),(0:Int)))),Bool.false))
  (kx ((y700.1,y701.1),Bool.true)))
def lK(a0:Pt):Option (Pt×Bool):=vH some a0
theorem PZ{R} kx a0: @vH R kx a0=(lK a0).bind kx:=by
 unfold lK vH
 exact ac fun _=>ac fun _=>ae rfl (ae rfl rfl)
abbrev J5:af:=.fx [.val true yP] (Pt×Bool) (fun z=>lK z.1) (fun b=>(.tup [⟨true,[(.v (.int .i64 b.1.1.1)),(.v (.int .i64 b.1.1.2.1)),(.v (.int .i64 b.1.1.2.2)),(.v (.int .i64 b.1.2.1)),(.v (.int .i64 b.1.2.2.1)),(.v (.int .i64 b.1.2.2.2))]⟩,⟨false,[(.v (.bool b.2))]⟩],[]))
theorem C3:ag C0 145 J5:=
 ag.fx (e:=false) (.cons xD (.nil)) mixed Tryz.func145 (by kernel_rfl) (by kernel_rfl) aj 1 ai (fun z=>(by kernel_rfl:_=vH (fun b=>some (J5.enc b)) z.1).trans (PZ _ z.1))
def qG{R:Type}(kx:Pt×Int->Option R)(a0:Ln)(a1:Ln):Option R:=
 Option.bind (bG a0) fun y556=>
 cond (!y556)
 (kx ((((0:Int),((0:Int),(0:Int))),((0:Int),((0:Int),(0:Int)))),(1:Int)))
 (Option.bind (bG a1) fun y557=>
  cond (!y557)
  (kx ((((0:Int),((0:Int),(0:Int))),((0:Int),((0:Int),(0:Int)))),(1:Int)))
  (cond (a0.1==a1.1)
   (kx ((((0:Int),((0:Int),(0:Int))),((0:Int),((0:Int),(0:Int)))),(7:Int)))
   (Option.bind (bP a0) fun y561=>
    Option.bind (bP a1) fun y562=>
    Option.bind (lN y561 y562) fun y695=>
    Option.bind (lK y695) fun y702=>
    cond (!y702.2)
    (kx ((((0:Int),((0:Int),(0:Int))),((0:Int),((0:Int),(0:Int)))),(2:Int)))
    (kx (y702.1,(0:Int))))))
def lm(a0:Ln)(a1:Ln):Option (Pt×Int):=qG some a0 a1
theorem KT{R} kx a0 a1: @qG R kx a0 a1=(lm a0 a1).bind kx:=by
 unfold lm qG
 exact ac fun _=>ae rfl (ac fun _=>ae rfl (ae rfl (ac fun _=>ac fun _=>ac fun _=>ac fun _=>ae rfl rfl)))
abbrev Ft:af:=.fx [.val true yL, .val true yL] (Pt×Int) (fun z=>lm z.1 z.2.1) (fun b=>(.tup [⟨true,[(.v (.int .i64 b.1.1.1)),(.v (.int .i64 b.1.1.2.1)),(.v (.int .i64 b.1.1.2.2)),(.v (.int .i64 b.1.2.1)),(.v (.int .i64 b.1.2.2.1)),(.v (.int .i64 b.1.2.2.2))]⟩,⟨false,[(.v (.int .i64 b.2))]⟩],[]))
theorem MS:ag C0 195 Ft:=
 ag.fx (e:=false) (.cons gX (.cons kd (.cons GV (.cons C3 (.nil))))) mixed Tryz.func195 (by kernel_rfl) (by kernel_rfl) aj 1 ai (fun z=>(by kernel_rfl:_=qG (fun b=>some (Ft.enc b)) z.1 z.2.1).trans (KT _ z.1 z.2.1))
def rJ{R:Type}(kx:Pt×Bool->Option R)(a0:Pt)(a1:Pt):Option R:=
 Option.bind (be a0) fun y709=>
 cond (!y709)
 (kx ((((0:Int),((0:Int),(0:Int))),((0:Int),((0:Int),(0:Int)))),Bool.false))
 (Option.bind (be a1) fun y710=>
  cond (!y710)
  (kx ((((0:Int),((0:Int),(0:Int))),((0:Int),((0:Int),(0:Int)))),Bool.false))
  (Option.bind (bY a0.1) fun y711=>
   Option.bind (bY a1.1) fun y712=>
   Option.bind (eH y711 y712) fun y713=>
   Option.bind (bY a0.2) fun y714=>
   Option.bind (bY a1.2) fun y715=>
   Option.bind (eH y714 y715) fun y716=>
   Option.bind (lK ((y713.1,(y713.2.1,(IntKind.wrap .i64 (y713.2.2+(1:Int))))),(y716.1,(y716.2.1,(IntKind.wrap .i64 (y716.2.2+(1:Int))))))) fun y717=>
   kx y717))
def mE(a0:Pt)(a1:Pt):Option (Pt×Bool):=rJ some a0 a1
theorem Mm{R} kx a0 a1: @rJ R kx a0 a1=(mE a0 a1).bind kx:=by
 unfold mE rJ
 exact ac fun _=>ae rfl (ac fun _=>ae rfl (ac fun _=>ac fun _=>ac fun _=>ac fun _=>ac fun _=>ac fun _=>ac fun _=>rfl))
abbrev GK:af:=.fx [.val true yP, .val true yP] (Pt×Bool) (fun z=>mE z.1 z.2.1) (fun b=>(.tup [⟨true,[(.v (.int .i64 b.1.1.1)),(.v (.int .i64 b.1.1.2.1)),(.v (.int .i64 b.1.1.2.2)),(.v (.int .i64 b.1.2.1)),(.v (.int .i64 b.1.2.2.1)),(.v (.int .i64 b.1.2.2.2))]⟩,⟨false,[(.v (.bool b.2))]⟩],[]))
theorem Oj:ag C0 196 GK:=
 ag.fx (e:=false) (.cons fj (.cons EK (.cons lQ (.cons C3 (.nil))))) mixed Tryz.func196 (by kernel_rfl) (by kernel_rfl) aj 1 ai (fun z=>(by kernel_rfl:_=rJ (fun b=>some (GK.enc b)) z.1 z.2.1).trans (Mm _ z.1 z.2.1))
def xN{R:Type}(kx:Int->Option R)(a0:Bool):Option R:=
 cond a0
 (kx (0:Int))
 (kx (2:Int))
def gH(a0:Bool):Option (Int):=xN some a0
theorem N4{R} kx a0: @xN R kx a0=(gH a0).bind kx:=by
 unfold gH xN
 exact ae rfl rfl
abbrev HY:af:=.fx [.val false .bool] (Int) (fun z=>gH z.1) (fun b=>(.one ⟨false,[(.v (.int .i64 b))]⟩,[]))
theorem Qi:ag C0 197 HY:=
 ag.fx (e:=false) (.nil) mixed Tryz.func197 (by kernel_rfl) (by kernel_rfl) aj 1 ai (fun z=>(by kernel_rfl:_=xN (fun b=>some (HY.enc b)) z.1).trans (N4 _ z.1))
def qJ{R:Type}(kx:Nm->Option R)(a0:Int):Option R:=
 Option.bind (eJ a0) fun y735=>
 Option.bind (bj y735) fun y736=>
 Option.bind (cJ y736.1 y736.1) fun y737=>
 Option.bind (cJ y736.2 y736.2) fun y738=>
 Option.bind (eH y737 y738) fun y739=>
 kx y739
def jA(a0:Int):Option (Nm):=qJ some a0
theorem KX{R} kx a0: @qJ R kx a0=(jA a0).bind kx:=by
 unfold jA qJ
 exact ac fun _=>ac fun _=>ac fun _=>ac fun _=>ac fun _=>rfl
abbrev Fv:af:=.fx [.val false (.int .i64)] (Nm) (fun z=>jA z.1) (fun b=>(.one ⟨true,[(.v (.int .i64 b.1)),(.v (.int .i64 b.2.1)),(.v (.int .i64 b.2.2))]⟩,[]))
theorem xE:ag C0 304 Fv:=
 ag.fx (e:=false) (.cons ql (.cons fA (.cons qj (.cons lQ (.nil))))) mixed Tryz.func304 (by kernel_rfl) (by kernel_rfl) aj 1 ai (fun z=>(by kernel_rfl:_=qJ (fun b=>some (Fv.enc b)) z.1).trans (KX _ z.1))
def tB{R:Type}(kx:Pt->Option R)(a0:Ln):Option R:=
 Option.bind (eJ (IntKind.wrap .i64 (a0.1+(4:Int)))) fun y732=>
 Option.bind (bj y732) fun y733=>
 Option.bind (jA (IntKind.wrap .i64 (a0.1+(4:Int)))) fun y740=>
 Option.bind (iO a0.2 y740) fun y741=>
 Option.bind (cJ y741.1 y733.1) fun y742=>
 Option.bind (cJ y741.1 y733.2) fun y743=>
 kx (y742,y743)
def qa(a0:Ln):Option (Pt):=tB some a0
theorem NT{R} kx a0: @tB R kx a0=(qa a0).bind kx:=by
 unfold qa tB
 exact ac fun _=>ac fun _=>ac fun _=>ac fun _=>ac fun _=>ac fun _=>rfl
abbrev HT:af:=.fx [.val true yL] (Pt) (fun z=>qa z.1) (fun b=>(.one ⟨true,[(.v (.int .i64 b.1.1)),(.v (.int .i64 b.1.2.1)),(.v (.int .i64 b.1.2.2)),(.v (.int .i64 b.2.1)),(.v (.int .i64 b.2.2.1)),(.v (.int .i64 b.2.2.2))]⟩,[]))
theorem Qf:ag C0 258 HT:=
 ag.fx (e:=false) (.cons ql (.cons fA (.cons xE (.cons xB (.cons qj (.nil)))))) mixed Tryz.func258 (by kernel_rfl) (by kernel_rfl) aj 1 ai (fun z=>(by kernel_rfl:_=tB (fun b=>some (HT.enc b)) z.1).trans (NT _ z.1))
def pN{R:Type}(kx:Nm->Option R)(a0:Int)(a1:Pt):Option R:=
 Option.bind (eJ a0) fun y751=>
 Option.bind (bj y751) fun y752=>
 Option.bind (cJ y752.1 a1.1) fun y753=>
 Option.bind (cJ y752.2 a1.2) fun y754=>
 Option.bind (eH y753 y754) fun y755=>
 kx y755
def dc(a0:Int)(a1:Pt):Option (Nm):=pN some a0 a1
theorem PX{R} kx a0 a1: @pN R kx a0 a1=(dc a0 a1).bind kx:=by
 unfold dc pN
 exact ac fun _=>ac fun _=>ac fun _=>ac fun _=>ac fun _=>rfl
abbrev ED:af:=.fx [.val false (.int .i64), .val true yP] (Nm) (fun z=>dc z.1 z.2.1) (fun b=>(.one ⟨true,[(.v (.int .i64 b.1)),(.v (.int .i64 b.2.1)),(.v (.int .i64 b.2.2))]⟩,[]))
theorem qk:ag C0 216 ED:=
 ag.fx (e:=false) (.cons ql (.cons fA (.cons qj (.cons lQ (.nil))))) mixed Tryz.func216 (by kernel_rfl) (by kernel_rfl) aj 1 ai (fun z=>(by kernel_rfl:_=pN (fun b=>some (ED.enc b)) z.1 z.2.1).trans (PX _ z.1 z.2.1))
def oQ{R:Type}(kx:Pt->Option R)(a0:Pt)(a1:Pt):Option R:=
 Option.bind (di a0.1 a1.1) fun y765=>
 Option.bind (di a0.2 a1.2) fun y766=>
 kx (y765,y766)
def iZ(a0:Pt)(a1:Pt):Option (Pt):=oQ some a0 a1
theorem Mo{R} kx a0 a1: @oQ R kx a0 a1=(iZ a0 a1).bind kx:=by
 unfold iZ oQ
 exact ac fun _=>ac fun _=>rfl
abbrev GL:af:=.fx [.val true yP, .val true yP] (Pt) (fun z=>iZ z.1 z.2.1) (fun b=>(.one ⟨true,[(.v (.int .i64 b.1.1)),(.v (.int .i64 b.1.2.1)),(.v (.int .i64 b.1.2.2)),(.v (.int .i64 b.2.1)),(.v (.int .i64 b.2.2.1)),(.v (.int .i64 b.2.2.2))]⟩,[]))
theorem yz:ag C0 147 GL:=
 ag.fx (e:=false) (.cons nX (.nil)) mixed Tryz.func147 (by kernel_rfl) (by kernel_rfl) aj 1 ai (fun z=>(by kernel_rfl:_=oQ (fun b=>some (GL.enc b)) z.1 z.2.1).trans (Mo _ z.1 z.2.1))
def pA{R:Type}(kx:Pt->Option R)(a0:Ln)(a1:Pt):Option R:=
 Option.bind (eJ (IntKind.wrap .i64 (a0.1+(4:Int)))) fun y747=>
 Option.bind (bj y747) fun y748=>
 Option.bind (dc (IntKind.wrap .i64 (a0.1+(4:Int))) a1) fun y756=>
 Option.bind (di y756 a0.2) fun y757=>
 Option.bind (jA (IntKind.wrap .i64 (a0.1+(4:Int)))) fun y758=>
 Option.bind (iO y757 y758) fun y759=>
 Option.bind (eH y759.1 y759.1) fun y760=>
 Option.bind (cJ y760 y748.1) fun y761=>
 Option.bind (cJ y760 y748.2) fun y762=>
 Option.bind (iZ a1 (y761,y762)) fun y767=>
 kx y767
def iI(a0:Ln)(a1:Pt):Option (Pt):=pA some a0 a1
theorem Jn{R} kx a0 a1: @pA R kx a0 a1=(iI a0 a1).bind kx:=by
 unfold iI pA
 exact ac fun _=>ac fun _=>ac fun _=>ac fun _=>ac fun _=>ac fun _=>ac fun _=>ac fun _=>ac fun _=>ac fun _=>rfl
abbrev DZ:af:=.fx [.val true yL, .val true yP] (Pt) (fun z=>iI z.1 z.2.1) (fun b=>(.one ⟨true,[(.v (.int .i64 b.1.1)),(.v (.int .i64 b.1.2.1)),(.v (.int .i64 b.1.2.2)),(.v (.int .i64 b.2.1)),(.v (.int .i64 b.2.2.1)),(.v (.int .i64 b.2.2.2))]⟩,[]))
theorem ws:ag C0 257 DZ:=
 ag.fx (e:=false) (.cons ql (.cons fA (.cons qk (.cons nX (.cons xE (.cons xB (.cons lQ (.cons qj (.cons yz (.nil)))))))))) mixed Tryz.func257 (by kernel_rfl) (by kernel_rfl) aj 1 ai (fun z=>(by kernel_rfl:_=pA (fun b=>some (DZ.enc b)) z.1 z.2.1).trans (Jn _ z.1 z.2.1))
def pB{R:Type}(kx:Ln->Option R)(a0:Pt)(a1:Int):Option R:=
 Option.bind (pK a1) fun y771=>
 Option.bind (dc (IntKind.wrap .i64 ((Int.tmod y771 (8:Int))+(4:Int))) a0) fun y772=>
 kx ((Int.tmod y771 (8:Int)),y772)
def dC(a0:Pt)(a1:Int):Option (Ln):=pB some a0 a1
theorem Jo{R} kx a0 a1: @pB R kx a0 a1=(dC a0 a1).bind kx:=by
 unfold dC pB
 exact ac fun _=>ac fun _=>rfl
abbrev xk:af:=.fx [.val true yP, .val false (.int .i64)] (Ln) (fun z=>dC z.1 z.2.1) (fun b=>(.one ⟨true,[(.v (.int .i64 b.1)),(.v (.int .i64 b.2.1)),(.v (.int .i64 b.2.2.1)),(.v (.int .i64 b.2.2.2))]⟩,[]))
theorem nY:ag C0 259 xk:=
 ag.fx (e:=false) (.cons IC (.cons qk (.nil))) mixed Tryz.func259 (by kernel_rfl) (by kernel_rfl) aj 1 ai (fun z=>(by kernel_rfl:_=pB (fun b=>some (xk.enc b)) z.1 z.2.1).trans (Jo _ z.1 z.2.1))
def oq{R:Type}(kx:Ln×Bool->Option R)(a0:Ln)(a1:Ln):Option R:=
 Option.bind (bG a0) fun y727=>
 cond (!y727)
 (kx (((0:Int),((0:Int),((0:Int),(0:Int)))),Bool.false))
 (Option.bind (bG a1) fun y728=>
  cond (!y728)
  (kx (((0:Int),((0:Int),((0:Int),(0:Int)))),Bool.false))
  (Option.bind (bP a0) fun y729=>
   Option.bind (bP a1) fun y730=>
   Option.bind (qa y730) fun y744=>
   Option.bind (iI y729 y744) fun y768=>
   Option.bind (dC y768 (IntKind.wrap .i64 ((IntKind.wrap .i64 ((2:Int)*a0.1))-a1.1))) fun y773=>
   Option.bind (eI y773.2) fun y774=>
   cond (!y774.2)
   (kx (((0:Int),((0:Int),((0:Int),(0:Int)))),Bool.false))
   (kx ((y773.1,y774.1),Bool.true))))
def jh(a0:Ln)(a1:Ln):Option (Ln×Bool):=oq some a0 a1
theorem In{R} kx a0 a1: @oq R kx a0 a1=(jh a0 a1).bind kx:=by
 unfold jh oq
 exact ac fun _=>ae rfl (ac fun _=>ae rfl (ac fun _=>ac fun _=>ac fun _=>ac fun _=>ac fun _=>ac fun _=>ae rfl rfl))
abbrev Cw:af:=.fx [.val true yL, .val true yL] (Ln×Bool) (fun z=>jh z.1 z.2.1) (fun b=>(.tup [⟨true,[(.v (.int .i64 b.1.1)),(.v (.int .i64 b.1.2.1)),(.v (.int .i64 b.1.2.2.1)),(.v (.int .i64 b.1.2.2.2))]⟩,⟨false,[(.v (.bool b.2))]⟩],[]))
theorem JC:ag C0 198 Cw:=
 ag.fx (e:=false) (.cons gX (.cons kd (.cons Qf (.cons ws (.cons nY (.cons xD (.nil))))))) mixed Tryz.func198 (by kernel_rfl) (by kernel_rfl) aj 1 ai (fun z=>(by kernel_rfl:_=oq (fun b=>some (Cw.enc b)) z.1 z.2.1).trans (In _ z.1 z.2.1))
def nd{R:Type}(kx:Pt×Bool->Option R)(a0:Ln)(a1:Pt):Option R:=
 Option.bind (bG a0) fun y782=>
 cond (!y782)
 (kx ((((0:Int),((0:Int),(0:Int))),((0:Int),((0:Int),(0:Int)))),Bool.false))
 (Option.bind (be a1) fun y783=>
  cond (!y783)
  (kx ((((0:Int),((0:Int),(0:Int))),((0:Int),((0:Int),(0:Int)))),Bool.false))
  (Option.bind (bP a0) fun y784=>
   Option.bind (bj a1) fun y785=>
   Option.bind (iI y784 y785) fun y786=>
   Option.bind (lK y786) fun y787=>
   kx y787))
def iA(a0:Ln)(a1:Pt):Option (Pt×Bool):=nd some a0 a1
theorem Hd{R} kx a0 a1: @nd R kx a0 a1=(iA a0 a1).bind kx:=by
 unfold iA nd
 exact ac fun _=>ae rfl (ac fun _=>ae rfl (ac fun _=>ac fun _=>ac fun _=>ac fun _=>rfl))
abbrev A5:af:=.fx [.val true yL, .val true yP] (Pt×Bool) (fun z=>iA z.1 z.2.1) (fun b=>(.tup [⟨true,[(.v (.int .i64 b.1.1.1)),(.v (.int .i64 b.1.1.2.1)),(.v (.int .i64 b.1.1.2.2)),(.v (.int .i64 b.1.2.1)),(.v (.int .i64 b.1.2.2.1)),(.v (.int .i64 b.1.2.2.2))]⟩,⟨false,[(.v (.bool b.2))]⟩],[]))
theorem IB:ag C0 199 A5:=
 ag.fx (e:=false) (.cons gX (.cons fj (.cons kd (.cons fA (.cons ws (.cons C3 (.nil))))))) mixed Tryz.func199 (by kernel_rfl) (by kernel_rfl) aj 1 ai (fun z=>(by kernel_rfl:_=nd (fun b=>some (A5.enc b)) z.1 z.2.1).trans (Hd _ z.1 z.2.1))
def tF{R:Type}(kx:Bool->Option R)(a0:Nm):Option R:=
 cond (a0.1==(0:Int))
 (kx (a0.2.1==(0:Int)))
 (kx Bool.false)
def fT(a0:Nm):Option (Bool):=tF some a0
theorem NY{R} kx a0: @tF R kx a0=(fT a0).bind kx:=by
 unfold fT tF
 exact ae rfl rfl
abbrev xl:af:=.fx [.val true yN] (Bool) (fun z=>fT z.1) (fun b=>(.one ⟨false,[(.v (.bool b))]⟩,[]))
theorem Az:ag C0 215 xl:=
 ag.fx (e:=false) (.nil) mixed Tryz.func215 (by kernel_rfl) (by kernel_rfl) aj 1 ai (fun z=>(by kernel_rfl:_=tF (fun b=>some (xl.enc b)) z.1).trans (NY _ z.1))
def nB{R:Type}(kx:Int×Int->Option R)(a0:Int):Option R:=
 cond (decide (a0<(0:Int)))
 (cond (decide ((IntKind.wrap IntKind.u64 ((IntKind.wrap IntKind.u64 ((IntKind.wrap IntKind.u64 (((BitVec.toNat ((BitVec.ofInt 64 (IntKind.wrap IntKind.u64 (IntKind.wrap .i64 ((0:Int)-a0))))&&&(BitVec.ofInt 64 (4294967295:Int)))):Nat):Int))*(IntKind.wrap IntKind.u64 (((BitVec.toNat ((BitVec.ofInt 64 (IntKind.wrap IntKind.u64 (IntKind.wrap .i64 ((0:Int)-a0))))&&&(BitVec.ofInt 64 (4294967295:Int)))):Nat):Int))))+(IntKind.wrap IntKind.u64 ((IntKind.wrap IntKind.u64 ((IntKind.wrap IntKind.u64 ((2:Int)*(IntKind.wrap IntKind.u64 (((BitVec.toNat ((BitVec.ofInt 64 (IntKind.wrap IntKind.u64 (IntKind.wrap .i64 ((0:Int)-a0))))&&&(BitVec.ofInt 64 (4294967295:Int)))):Nat):Int))))*(Int.fdiv (IntKind.wrap IntKind.u64 (IntKind.wrap .i64 ((0:Int)-a0))) ((2:Int)^(Min.min (Int.toNat (32:Int)) 64)))))*((2:Int)^(Min.min (Int.toNat (32:Int)) 64))))))<(IntKind.wrap IntKind.u64 ((IntKind.wrap IntKind.u64 (((BitVec.toNat ((BitVec.ofInt 64 (IntKind.wrap IntKind.u64 (IntKind.wrap .i64 ((0:Int)-a0))))&&&(BitVec.ofInt 64 (4294967295:Int)))):Nat):Int))*(IntKind.wrap IntKind.u64 (((BitVec.toNat ((BitVec.ofInt 64 (IntKind.wrap IntKind.u64 (IntKind.wrap .i64 ((0:Int)-a0))))&&&(BitVec.ofInt 64 (4294967295:Int)))):Nat):Int))))))
  (kx ((IntKind.wrap IntKind.u64 ((IntKind.wrap IntKind.u64 ((Int.fdiv (IntKind.wrap IntKind.u64 (IntKind.wrap .i64 ((0:Int)-a0))) ((2:Int)^(Min.min (Int.toNat (32:Int)) 64)))*(Int.fdiv (IntKind.wrap IntKind.u64 (IntKind.wrap .i64 ((0:Int)-a0))) ((2:Int)^(Min.min (Int.toNat (32:Int)) 64)))))+(IntKind.wrap IntKind.u64 ((Int.fdiv (IntKind.wrap IntKind.u64 ((IntKind.wrap IntKind.u64 ((2:Int)*(IntKind.wrap IntKind.u64 (((BitVec.toNat ((BitVec.ofInt 64 (IntKind.wrap IntKind.u64 (IntKind.wrap .i64 ((0:Int)-a0))))&&&(BitVec.ofInt 64 (4294967295:Int)))):Nat):Int))))*(Int.fdiv (IntKind.wrap IntKind.u64 (IntKind.wrap .i64 ((0:Int)-a0))) ((2:Int)^(Min.min (Int.toNat (32:Int)) 64))))) ((2:Int)^(Min.min (Int.toNat (32:Int)) 64)))+(1:Int))))),(IntKind.wrap IntKind.u64 ((IntKind.wrap IntKind.u64 ((IntKind.wrap IntKind.u64 (((BitVec.toNat ((BitVec.ofInt 64 (IntKind.wrap IntKind.u64 (IntKind.wrap .i64 ((0:Int)-a0))))&&&(BitVec.ofInt 64 (4294967295:Int)))):Nat):Int))*(IntKind.wrap IntKind.u64 (((BitVec.toNat ((BitVec.ofInt 64 (IntKind.wrap IntKind.u64 (IntKind.wrap .i64 ((0:Int)-a0))))&&&(BitVec.ofInt 64 (4294967295:Int)))):Nat):Int))))+(IntKind.wrap IntKind.u64 ((IntKind.wrap IntKind.u64 ((IntKind.wrap IntKind.u64 ((2:Int)*(IntKind.wrap IntKind.u64 (((BitVec.toNat ((BitVec.ofInt 64 (IntKind.wrap IntKind.u64 (IntKind.wrap .i64 ((0:Int)-a0))))&&&(BitVec.ofInt 64 (4294967295:Int)))):Nat):Int))))*(Int.fdiv (IntKind.wrap IntKind.u64 (IntKind.wrap .i64 ((0:Int)-a0))) ((2:Int)^(Min.min (Int.toNat (32:Int)) 64)))))*((2:Int)^(Min.min (Int.toNat (32:Int)) 64))))))))
  (kx ((IntKind.wrap IntKind.u64 ((IntKind.wrap IntKind.u64 ((Int.fdiv (IntKind.wrap IntKind.u64 (IntKind.wrap .i64 ((0:Int)-a0))) ((2:Int)^(Min.min (Int.toNat (32:Int)) 64)))*(Int.fdiv (IntKind.wrap IntKind.u64 (IntKind.wrap .i64 ((0:Int)-a0))) ((2:Int)^(Min.min (Int.toNat (32:Int)) 64)))))+(Int.fdiv (IntKind.wrap IntKind.u64 ((IntKind.wrap IntKind.u64 ((2:Int)*(IntKind.wrap IntKind.u64 (((BitVec.toNat ((BitVec.ofInt 64 (IntKind.wrap IntKind.u64 (IntKind.wrap .i64 ((0:Int)-a0))))&&&(BitVec.ofInt 64 (4294967295:Int)))):Nat):Int))))*(Int.fdiv (IntKind.wrap IntKind.u64 (IntKind.wrap .i64 ((0:Int)-a0))) ((2:Int)^(Min.min (Int.toNat (32:Int)) 64))))) ((2:Int)^(Min.min (Int.toNat (32:Int)) 64))))),(IntKind.wrap IntKind.u64 ((IntKind.wrap IntKind.u64 ((IntKind.wrap IntKind.u64 (((BitVec.toNat ((BitVec.ofInt 64 (IntKind.wrap IntKind.u64 (IntKind.wrap .i64 ((0:Int)-a0))))&&&(BitVec.ofInt 64 (4294967295:Int)))):Nat):Int))*(IntKind.wrap IntKind.u64 (((BitVec.toNat ((BitVec.ofInt 64 (IntKind.wrap IntKind.u64 (IntKind.wrap .i64 ((0:Int)-a0))))&&&(BitVec.ofInt 64 (4294967295:Int)))):Nat):Int))))+(IntKind.wrap IntKind.u64 ((IntKind.wrap IntKind.u64 ((IntKind.wrap IntKind.u64 ((2:Int)*(IntKind.wrap IntKind.u64 (((BitVec.toNat ((BitVec.ofInt 64 (IntKind.wrap IntKind.u64 (IntKind.wrap .i64 ((0:Int)-a0))))&&&(BitVec.ofInt 64 (4294967295:Int)))):Nat):Int))))*(Int.fdiv (IntKind.wrap IntKind.u64 (IntKind.wrap .i64 ((0:Int)-a0))) ((2:Int)^(Min.min (Int.toNat (32:Int)) 64)))))*((2:Int)^(Min.min (Int.toNat (32:Int)) 64)))))))))
 (cond (decide ((IntKind.wrap IntKind.u64 ((IntKind.wrap IntKind.u64 ((IntKind.wrap IntKind.u64 (((BitVec.toNat ((BitVec.ofInt 64 (IntKind.wrap IntKind.u64 a0))&&&(BitVec.ofInt 64 (4294967295:Int)))):Nat):Int))*(IntKind.wrap IntKind.u64 (((BitVec.toNat ((BitVec.ofInt 64 (IntKind.wrap IntKind.u64 a0))&&&(BitVec.ofInt 64 (4294967295:Int)))):Nat):Int))))+(IntKind.wrap IntKind.u64 ((IntKind.wrap IntKind.u64 ((IntKind.wrap IntKind.u64 ((2:Int)*(IntKind.wrap IntKind.u64 (((BitVec.toNat ((BitVec.ofInt 64 (IntKind.wrap IntKind.u64 a0))&&&(BitVec.ofInt 64 (4294967295:Int)))):Nat):Int))))*(Int.fdiv (IntKind.wrap IntKind.u64 a0) ((2:Int)^(Min.min (Int.toNat (32:Int)) 64)))))*((2:Int)^(Min.min (Int.toNat (32:Int)) 64))))))<(IntKind.wrap IntKind.u64 ((IntKind.wrap IntKind.u64 (((BitVec.toNat ((BitVec.ofInt 64 (IntKind.wrap IntKind.u64 a0))&&&(BitVec.ofInt 64 (4294967295:Int)))):Nat):Int))*(IntKind.wrap IntKind.u64 (((BitVec.toNat ((BitVec.ofInt 64 (IntKind.wrap IntKind.u64 a0))&&&(BitVec.ofInt 64 (4294967295:Int)))):Nat):Int))))))
  (kx ((IntKind.wrap IntKind.u64 ((IntKind.wrap IntKind.u64 ((Int.fdiv (IntKind.wrap IntKind.u64 a0) ((2:Int)^(Min.min (Int.toNat (32:Int)) 64)))*(Int.fdiv (IntKind.wrap IntKind.u64 a0) ((2:Int)^(Min.min (Int.toNat (32:Int)) 64)))))+(IntKind.wrap IntKind.u64 ((Int.fdiv (IntKind.wrap IntKind.u64 ((IntKind.wrap IntKind.u64 ((2:Int)*(IntKind.wrap IntKind.u64 (((BitVec.toNat ((BitVec.ofInt 64 (IntKind.wrap IntKind.u64 a0))&&&(BitVec.ofInt 64 (4294967295:Int)))):Nat):Int))))*(Int.fdiv (IntKind.wrap IntKind.u64 a0) ((2:Int)^(Min.min (Int.toNat (32:Int)) 64))))) ((2:Int)^(Min.min (Int.toNat (32:Int)) 64)))+(1:Int))))),(IntKind.wrap IntKind.u64 ((IntKind.wrap IntKind.u64 ((IntKind.wrap IntKind.u64 (((BitVec.toNat ((BitVec.ofInt 64 (IntKind.wrap IntKind.u64 a0))&&&(BitVec.ofInt 64 (4294967295:Int)))):Nat):Int))*(IntKind.wrap IntKind.u64 (((BitVec.toNat ((BitVec.ofInt 64 (IntKind.wrap IntKind.u64 a0))&&&(BitVec.ofInt 64 (4294967295:Int)))):Nat):Int))))+(IntKind.wrap IntKind.u64 ((IntKind.wrap IntKind.u64 ((IntKind.wrap IntKind.u64 ((2:Int)*(IntKind.wrap IntKind.u64 (((BitVec.toNat ((BitVec.ofInt 64 (IntKind.wrap IntKind.u64 a0))&&&(BitVec.ofInt 64 (4294967295:Int)))):Nat):Int))))*(Int.fdiv (IntKind.wrap IntKind.u64 a0) ((2:Int)^(Min.min (Int.toNat (32:Int)) 64)))))*((2:Int)^(Min.min (Int.toNat (32:Int)) 64))))))))
  (kx ((IntKind.wrap IntKind.u64 ((IntKind.wrap IntKind.u64 ((Int.fdiv (IntKind.wrap IntKind.u64 a0) ((2:Int)^(Min.min (Int.toNat (32:Int)) 64)))*(Int.fdiv (IntKind.wrap IntKind.u64 a0) ((2:Int)^(Min.min (Int.toNat (32:Int)) 64)))))+(Int.fdiv (IntKind.wrap IntKind.u64 ((IntKind.wrap IntKind.u64 ((2:Int)*(IntKind.wrap IntKind.u64 (((BitVec.toNat ((BitVec.ofInt 64 (IntKind.wrap IntKind.u64 a0))&&&(BitVec.ofInt 64 (4294967295:Int)))):Nat):Int))))*(Int.fdiv (IntKind.wrap IntKind.u64 a0) ((2:Int)^(Min.min (Int.toNat (32:Int)) 64))))) ((2:Int)^(Min.min (Int.toNat (32:Int)) 64))))),(IntKind.wrap IntKind.u64 ((IntKind.wrap IntKind.u64 ((IntKind.wrap IntKind.u64 (((BitVec.toNat ((BitVec.ofInt 64 (IntKind.wrap IntKind.u64 a0))&&&(BitVec.ofInt 64 (4294967295:Int)))):Nat):Int))*(IntKind.wrap IntKind.u64 (((BitVec.toNat ((BitVec.ofInt 64 (IntKind.wrap IntKind.u64 a0))&&&(BitVec.ofInt 64 (4294967295:Int)))):Nat):Int))))+(IntKind.wrap IntKind.u64 ((IntKind.wrap IntKind.u64 ((IntKind.wrap IntKind.u64 ((2:Int)*(IntKind.wrap IntKind.u64 (((BitVec.toNat ((BitVec.ofInt 64 (IntKind.wrap IntKind.u64 a0))&&&(BitVec.ofInt 64 (4294967295:Int)))):Nat):Int))))*(Int.fdiv (IntKind.wrap IntKind.u64 a0) ((2:Int)^(Min.min (Int.toNat (32:Int)) 64)))))*((2:Int)^(Min.min (Int.toNat (32:Int)) 64)))))))))
def ie(a0:Int):Option (Int×Int):=nB some a0
theorem KV{R} kx a0: @nB R kx a0=(ie a0).bind kx:=by
 unfold ie nB
 exact ae (ae rfl rfl) (ae rfl rfl)
abbrev Fu:af:=.fx [.val false (.int .i64)] (Int×Int) (fun z=>ie z.1) (fun b=>(.tup [⟨false,[(.v (.int .u64 b.1))]⟩,⟨false,[(.v (.int .u64 b.2))]⟩],[]))
theorem MU:ag C0 307 Fu:=
 ag.fx (e:=false) (.nil) mixed Tryz.func307 (by kernel_rfl) (by kernel_rfl) aj 1 ai (fun z=>(by kernel_rfl:_=nB (fun b=>some (Fu.enc b)) z.1).trans (KV _ z.1))
end
end Go.Proofs.YtjkljnflaifbhaaGreatDoor
