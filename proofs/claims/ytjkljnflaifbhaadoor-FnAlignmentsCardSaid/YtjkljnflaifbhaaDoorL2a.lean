/- No conditions. -/
import Derived.Test.YtjkljnflaifbhaaDoorW1A
import Derived.Test.YtjkljnflaifbhaaDoorAL1
namespace Go.Proofs.YtjkljnflaifbhaaDoor
open Go.Vai
set_option maxRecDepth 100000
noncomputable section
abbrev Ln:=(Int×Nm)
abbrev Pt:=(Nm×Nm)
abbrev yN:Ty:=.pair (.int .i64) (.pair (.int .i64) (.int .i64))
abbrev yP:Ty:=.pair yN yN
abbrev yL:Ty:=.pair (.int .i64) yN
def oE{R:Type}(kx:Bool->Option R)(a0:(List Int))(a1:(List Int)):Option R:=
 cond (decide (((List.length a0:Nat):Int)>(3000:Int)))
 (kx Bool.true)
 (kx (decide (((List.length a1:Nat):Int)>(3000:Int))))
def md(a0:(List Int))(a1:(List Int)):Option (Bool):=oE some a0 a1
theorem EK{R} kx a0 a1: @oE R kx a0 a1=(md a0 a1).bind kx:=by
 unfold md oE
 exact ae rfl rfl
abbrev vN:af:=.fx [.val false (.slice (.int .u8)), .val false (.slice (.int .u8))] (Bool) (fun z=>md z.1 z.2.1) (fun b=>(.one ⟨false,[(.v (.bool b))]⟩,[]))
theorem GS:ag C0 23 vN:=
 ag.fx (e:=false) (.nil) mixed Tryd.func23 (by kernel_rfl) (by kernel_rfl) aW 1 aq (fun z=>(by kernel_rfl:_=oE (fun b=>some (vN.enc b)) z.1 z.2.1).trans (EK _ z.1 z.2.1))
def qE{R:Type}(kx:((List Int)×(Int×Int))->Option R)(a0:(List Int)):Option R:=
 kx (a0,((0:Int),(0:Int)))
def ju(a0:(List Int)):Option (((List Int)×(Int×Int))):=qE some a0
theorem Ds{R} kx a0: @qE R kx a0=(ju a0).bind kx:=by
 unfold ju qE
 exact rfl
abbrev yy:af:=.fx [.val false (.slice (.int .u8))] (((List Int)×(Int×Int))) (fun z=>ju z.1) (fun b=>(.one ⟨false,[(.np [(.sl (.int .u8) b.1),(.v (.int .i64 b.2.1)),(.v (.int .u64 b.2.2))])]⟩,[]))
theorem xG:ag C0 59 yy:=
 ag.fx (e:=false) (.nil) mixed Tryd.func59 (by kernel_rfl) (by kernel_rfl) aW 1 aq (fun z=>(by kernel_rfl:_=qE (fun b=>some (yy.enc b)) z.1).trans (Ds _ z.1))
def jH{R:Type}(kx:Int×(List Int×(Int×Int))->Option R)(a0_0:List Int)(a0_1:Int)(a0_2:Int):Option R:=
 cond (decide (a0_1<((List.length a0_0:Nat):Int)))
 (Option.bind (xd a0_0 a0_1) fun y22=>
  cond (decide ((IntKind.wrap .i64 (a0_1+(1:Int)))<=((List.length a0_0:Nat):Int)))
  (kx ((IntKind.wrap .i64 y22),(a0_0,((IntKind.wrap .i64 (a0_1+(1:Int))),(IntKind.wrap IntKind.u64 ((IntKind.wrap IntKind.u64 ((IntKind.wrap IntKind.u64 (a0_2*(6364136223846793005:Int)))+(IntKind.wrap IntKind.u64 (IntKind.wrap .i64 y22))))+(1442695040888963407:Int)))))))
  (kx ((IntKind.wrap .i64 (IntKind.wrap IntKind.u64 (((BitVec.toNat ((BitVec.ofInt 64 (Int.fdiv (IntKind.wrap IntKind.u64 ((IntKind.wrap IntKind.u64 ((IntKind.wrap IntKind.u64 (a0_2*(6364136223846793005:Int)))+(IntKind.wrap IntKind.u64 (IntKind.wrap .i64 y22))))+(1442695040888963407:Int))) ((2:Int)^(Min.min (Int.toNat (40:Int)) 64))))&&&(BitVec.ofInt 64 (255:Int)))):Nat):Int))),(a0_0,((IntKind.wrap .i64 (a0_1+(1:Int))),(IntKind.wrap IntKind.u64 ((IntKind.wrap IntKind.u64 ((IntKind.wrap IntKind.u64 (a0_2*(6364136223846793005:Int)))+(IntKind.wrap IntKind.u64 (IntKind.wrap .i64 y22))))+(1442695040888963407:Int))))))))
 (cond (decide ((IntKind.wrap .i64 (a0_1+(1:Int)))<=((List.length a0_0:Nat):Int)))
  (kx ((0:Int),(a0_0,((IntKind.wrap .i64 (a0_1+(1:Int))),(IntKind.wrap IntKind.u64 ((IntKind.wrap IntKind.u64 ((IntKind.wrap IntKind.u64 (a0_2*(6364136223846793005:Int)))+(IntKind.wrap IntKind.u64 (0:Int))))+(1442695040888963407:Int)))))))
  (kx ((IntKind.wrap .i64 (IntKind.wrap IntKind.u64 (((BitVec.toNat ((BitVec.ofInt 64 (Int.fdiv (IntKind.wrap IntKind.u64 ((IntKind.wrap IntKind.u64 ((IntKind.wrap IntKind.u64 (a0_2*(6364136223846793005:Int)))+(IntKind.wrap IntKind.u64 (0:Int))))+(1442695040888963407:Int))) ((2:Int)^(Min.min (Int.toNat (40:Int)) 64))))&&&(BitVec.ofInt 64 (255:Int)))):Nat):Int))),(a0_0,((IntKind.wrap .i64 (a0_1+(1:Int))),(IntKind.wrap IntKind.u64 ((IntKind.wrap IntKind.u64 ((IntKind.wrap IntKind.u64 (a0_2*(6364136223846793005:Int)))+(IntKind.wrap IntKind.u64 (0:Int))))+(1442695040888963407:Int))))))))
def fl(a0_0:List Int)(a0_1:Int)(a0_2:Int):Option (Int×(List Int×(Int×Int))):=jH some a0_0 a0_1 a0_2
theorem yW{R} kx a0_0 a0_1 a0_2: @jH R kx a0_0 a0_1 a0_2=(fl a0_0 a0_1 a0_2).bind kx:=by
 unfold fl jH
 exact ae (ac fun _=>ae rfl rfl) (ae rfl rfl)
abbrev sO:Int×(List Int×(Int×Int))->AV×List (List CV):=fun b=>(.one ⟨false,[(.v (.int .i64 b.1))]⟩,[[(.sl (.int .u8) b.2.1),(.v (.int .i64 b.2.2.1)),(.v (.int .u64 b.2.2.2))]])
abbrev AQ:af:=.fb [.rw [(.sl (.int .u8)),(.int .i64),(.int .u64)]] (Int×(List Int×(Int×Int))) (fun z=>fl z.1.1 z.1.2.1 z.1.2.2.1) sO
theorem Af:ag C0 148 AQ:=
 ag.fb (e:=false) (.nil) mixed Tryd.func148 (by kernel_rfl) (by kernel_rfl) aW 1 aq (fun z=>(by kernel_rfl:_=jH (fun b=>some (sO b)) z.1.1 z.1.2.1 z.1.2.2.1).trans (yW _ z.1.1 z.1.2.1 z.1.2.2.1))
def jI{R:Type}(kx:Int×(List Int×(Int×Int))->Option R)(a0_0:List Int)(a0_1:Int)(a0_2:Int)(a1:Int):Option R:=
 cond (decide (a1<=(1:Int)))
 (kx ((0:Int),(a0_0,(a0_1,a0_2))))
 (Option.bind (fl a0_0 a0_1 a0_2) fun y23=>
  cond (decide (a1>(200:Int)))
  (Option.bind (fl y23.2.1 y23.2.2.1 y23.2.2.2) fun y24=>
   cond (decide (a1=(0:Int)))
   none
   (kx ((Int.tmod (IntKind.wrap .i64 ((IntKind.wrap .i64 (y23.1*(256:Int)))+y24.1)) a1),y24.2)))
  (cond (decide (a1=(0:Int)))
   none
   (kx ((Int.tmod y23.1 a1),y23.2))))
def br(a0_0:List Int)(a0_1:Int)(a0_2:Int)(a1:Int):Option (Int×(List Int×(Int×Int))):=jI some a0_0 a0_1 a0_2 a1
theorem yX{R} kx a0_0 a0_1 a0_2 a1: @jI R kx a0_0 a0_1 a0_2 a1=(br a0_0 a0_1 a0_2 a1).bind kx:=by
 unfold br jI
 exact ae rfl (ac fun _=>ae (ac fun _=>ae rfl rfl) (ae rfl rfl))
abbrev sP:Int×(List Int×(Int×Int))->AV×List (List CV):=fun b=>(.one ⟨false,[(.v (.int .i64 b.1))]⟩,[[(.sl (.int .u8) b.2.1),(.v (.int .i64 b.2.2.1)),(.v (.int .u64 b.2.2.2))]])
abbrev AR:af:=.fb [.rw [(.sl (.int .u8)),(.int .i64),(.int .u64)], .val false (.int .i64)] (Int×(List Int×(Int×Int))) (fun z=>br z.1.1 z.1.2.1 z.1.2.2.1 z.2.1) sP
theorem gf:ag C0 102 AR:=
 ag.fb (e:=false) (.cons Af (.nil)) mixed Tryd.func102 (by kernel_rfl) (by kernel_rfl) aW 1 aq (fun z=>(by kernel_rfl:_=jI (fun b=>some (sP b)) z.1.1 z.1.2.1 z.1.2.2.1 z.2.1).trans (yX _ z.1.1 z.1.2.1 z.1.2.2.1 z.2.1))
def ko{R:Type}(kx:Bool×(List Int×(Int×Int))->Option R)(a0_0:List Int)(a0_1:Int)(a0_2:Int)(a1:Int):Option R:=
 Option.bind (br a0_0 a0_1 a0_2 a1) fun y25=>
 kx ((y25.1==(0:Int)),y25.2)
def cp(a0_0:List Int)(a0_1:Int)(a0_2:Int)(a1:Int):Option (Bool×(List Int×(Int×Int))):=ko some a0_0 a0_1 a0_2 a1
theorem zY{R} kx a0_0 a0_1 a0_2 a1: @ko R kx a0_0 a0_1 a0_2 a1=(cp a0_0 a0_1 a0_2 a1).bind kx:=by
 unfold cp ko
 exact ac fun _=>rfl
abbrev tU:Bool×(List Int×(Int×Int))->AV×List (List CV):=fun b=>(.one ⟨false,[(.v (.bool b.1))]⟩,[[(.sl (.int .u8) b.2.1),(.v (.int .i64 b.2.2.1)),(.v (.int .u64 b.2.2.2))]])
abbrev B0:af:=.fb [.rw [(.sl (.int .u8)),(.int .i64),(.int .u64)], .val false (.int .i64)] (Bool×(List Int×(Int×Int))) (fun z=>cp z.1.1 z.1.2.1 z.1.2.2.1 z.2.1) tU
theorem pI:ag C0 61 B0:=
 ag.fb (e:=false) (.cons gf (.nil)) mixed Tryd.func61 (by kernel_rfl) (by kernel_rfl) aW 1 aq (fun z=>(by kernel_rfl:_=ko (fun b=>some (tU b)) z.1.1 z.1.2.1 z.1.2.2.1 z.2.1).trans (zY _ z.1.1 z.1.2.1 z.1.2.2.1 z.2.1))
def je{R:Type}(kx:Int×(List Int×(Int×Int))->Option R)(a0_0:List Int)(a0_1:Int)(a0_2:Int)(a1:(List Int)):Option R:=
 Option.bind (br a0_0 a0_1 a0_2 ((List.length a1:Nat):Int)) fun y43=>
 Option.bind (xd a1 y43.1) fun y44=>
 kx (y44,y43.2)
def ci(a0_0:List Int)(a0_1:Int)(a0_2:Int)(a1:(List Int)):Option (Int×(List Int×(Int×Int))):=je some a0_0 a0_1 a0_2 a1
theorem xU{R} kx a0_0 a0_1 a0_2 a1: @je R kx a0_0 a0_1 a0_2 a1=(ci a0_0 a0_1 a0_2 a1).bind kx:=by
 unfold ci je
 exact ac fun _=>ac fun _=>rfl
abbrev rT:Int×(List Int×(Int×Int))->AV×List (List CV):=fun b=>(.one ⟨false,[(.v (.int .i64 b.1))]⟩,[[(.sl (.int .u8) b.2.1),(.v (.int .i64 b.2.2.1)),(.v (.int .u64 b.2.2.2))]])
abbrev zO:af:=.fb [.rw [(.sl (.int .u8)),(.int .i64),(.int .u64)], .val false (.slice (.int .i64))] (Int×(List Int×(Int×Int))) (fun z=>ci z.1.1 z.1.2.1 z.1.2.2.1 z.2.1) rT
theorem zh:ag C0 149 zO:=
 ag.fb (e:=false) (.cons gf (.nil)) mixed Tryd.func149 (by kernel_rfl) (by kernel_rfl) aW 1 aq (fun z=>(by kernel_rfl:_=je (fun b=>some (rT b)) z.1.1 z.1.2.1 z.1.2.2.1 z.2.1).trans (xU _ z.1.1 z.1.2.1 z.1.2.2.1 z.2.1))
def rn:List (FuncId×af):=[]
abbrev eG:LS:=⟨[(false,[(.ptr 1 0)]),(false,[(.ptr 2 0)])],[(false,[(.int .i64),(.int .i64),(.int .i64)]),(false,[(.int .i64),(.int .i64),(.int .i64)])],[]⟩
abbrev uS:LS:=⟨[(false,[(.ptr 1 0)]),(false,[(.ptr 2 0)])],[(false,[(.int .i64),(.int .i64),(.int .i64)]),(false,[(.int .i64),(.int .i64),(.int .i64)])],[]⟩
abbrev mq(v0:Int)(v1:Int)(v2:Int)(v3:Int)(v4:Int)(v5:Int):=(((((),()),((),()),()),((v0,v1,v2,()),(v3,v4,v5,()),()),()):uS.T)
abbrev eI:List (Ex×LS):=[(.exit 0,uS)]
abbrev lM(b0_0:Int)(b0_1:Int)(b0_2:Int)(b1_0:Int)(b1_1:Int)(b1_2:Int):=(((((),()),((),()),()),((b0_0,b0_1,b0_2,()),(b1_0,b1_1,b1_2,()),()),()):eG.T)
def iR{R:Type}(nx:eG.T->Option R)(hx:mJ R eI)(b0_0:Int)(b0_1:Int)(b0_2:Int)(b1_0:Int)(b1_1:Int)(b1_2:Int):Option R:=
 cond (decide (b0_2>(0:Int)))
 (cond ((Int.tmod b0_0 (2:Int))==(0:Int))
  (cond ((Int.tmod b0_1 (2:Int))==(0:Int))
   (nx (lM (IntKind.wrap .i64 (Int.tdiv b0_0 (2:Int))) (IntKind.wrap .i64 (Int.tdiv b0_1 (2:Int))) (IntKind.wrap .i64 (b0_2-(1:Int))) b1_0 b1_1 b1_2))
   (hx.1 (mq b0_0 b0_1 b0_2 b1_0 b1_1 b1_2)))
  (hx.1 (mq b0_0 b0_1 b0_2 b1_0 b1_1 b1_2)))
 (hx.1 (mq b0_0 b0_1 b0_2 b1_0 b1_1 b1_2))
def sJ{R:Type}(nx:eG.T->Option R)(hx:mJ R eI)(z:eG.T):Option R:=iR nx hx z.2.1.1.1 z.2.1.1.2.1 z.2.1.1.2.2.1 z.2.1.2.1.1 z.2.1.2.1.2.1 z.2.1.2.1.2.2.1
theorem vt:fe @sJ:=fun R nx hx z=>by
 show iR nx hx z.2.1.1.1 z.2.1.1.2.1 z.2.1.1.2.2.1 z.2.1.2.1.1 z.2.1.2.1.2.1 z.2.1.2.1.2.2.1=(iR (fun y=>some (.inl y)) (sj eI fun x=>some (.inr x)) z.2.1.1.1 z.2.1.1.2.1 z.2.1.1.2.2.1 z.2.1.2.1.1 z.2.1.2.1.2.1 z.2.1.2.1.2.2.1).bind (rV nx hx)
 unfold iR
 exact ae (ae (ae rfl rfl) rfl) rfl
def iS:eG.T->Option (wO eI):=Bt @sJ
theorem wN b0_0 b0_1 b0_2 b1_0 b1_1 b1_2:iS (lM b0_0 b0_1 b0_2 b1_0 b1_1 b1_2)=iR iS (sj eI some) b0_0 b0_1 b0_2 b1_0 b1_1 b1_2:=jL vt _
def nr:eo:=⟨[1,2],[1,2],[1,2],[1,2]⟩
def ry:kF Rv:=⟨fun k=>match k with|4=>nr|_=>⟨[],[],[],[]⟩,fun k=>match k with|4=>some (ie eG eI iS)|_=>none⟩
theorem DK(n:Nat)(z:eG.T)(k:Ex->kp->Option Rv):dG ⟨40,40⟩ nr (uO (pL C0 rn) ⟨40,40⟩ ry 1 (cP Tryd.f152 3)) (n+1) (eG.enc z) k=
 sJ (fun y=>dG ⟨40,40⟩ nr (uO (pL C0 rn) ⟨40,40⟩ ry 1 (cP Tryd.f152 3)) n (eG.enc y) k) (hK k eI) z:=by kernel_rfl
theorem FS:bP (pL C0 rn) ⟨40,40⟩ ry 1 (fF (dl Tryd.f152)):=by
 have hl:fF (dl Tryd.f152)=[cP Tryd.f152 3]:=by kernel_rfl
 rw[hl]
 exact bP.cons (n:=4) (lh:=nr) (S:=ie eG eI iS) (by kernel_rfl) rfl rfl (iX vt DK)
  (bP.nil)
def oI{R:Type}(kx:Nm->Option R)(a0:Nm):Option R:=
 cond (a0.1==(0:Int))
 (cond (a0.2.1==(0:Int))
  (kx ((0:Int),((0:Int),(0:Int))))
  (Option.bind (iS (lM a0.1 a0.2.1 a0.2.2 (0:Int) (0:Int) (0:Int))) (jP eI
   (fun e56=>
    kx ((e56.2.1.1.1:Int),((e56.2.1.1.2.1:Int),(e56.2.1.1.2.2.1:Int))),()))))
 (Option.bind (iS (lM a0.1 a0.2.1 a0.2.2 (0:Int) (0:Int) (0:Int))) (jP eI
  (fun e63=>
   kx ((e63.2.1.1.1:Int),((e63.2.1.1.2.1:Int),(e63.2.1.1.2.2.1:Int))),())))
def eD(a0:Nm):Option (Nm):=oI some a0
theorem EN{R} kx a0: @oI R kx a0=(eD a0).bind kx:=by
 unfold eD oI
 exact ae (ae rfl (bh ⟨fun _=>rfl,trivial⟩)) (bh ⟨fun _=>rfl,trivial⟩)
abbrev vP:af:=.fx [.val true yN] (Nm) (fun z=>eD z.1) (fun b=>(.one ⟨true,[(.v (.int .i64 b.1)),(.v (.int .i64 b.2.1)),(.v (.int .i64 b.2.2))]⟩,[]))
theorem uw:ag C0 152 vP:=
 ag.fx (e:=false) (t:=rn) (.nil) mixed Tryd.func152 (by kernel_rfl) (by kernel_rfl) ry 1 FS (fun z=>(by kernel_rfl:_=oI (fun b=>some (vP.enc b)) z.1).trans (EN _ z.1))
def qF{R:Type}(kx:Bool->Option R)(a0:Int)(a1:Int)(a2:Int):Option R:=
 cond (decide (a0>=a1))
 (kx (decide (a0<=a2)))
 (kx Bool.false)
def gY(a0:Int)(a1:Int)(a2:Int):Option (Bool):=qF some a0 a1 a2
theorem Gm{R} kx a0 a1 a2: @qF R kx a0 a1 a2=(gY a0 a1 a2).bind kx:=by
 unfold gY qF
 exact ae rfl rfl
abbrev BZ:af:=.fx [.val false (.int .i64), .val false (.int .i64), .val false (.int .i64)] (Bool) (fun z=>gY z.1 z.2.1 z.2.2.1) (fun b=>(.one ⟨false,[(.v (.bool b))]⟩,[]))
theorem Hv:ag C0 83 BZ:=
 ag.fx (e:=false) (.nil) mixed Tryd.func83 (by kernel_rfl) (by kernel_rfl) aW 1 aq (fun z=>(by kernel_rfl:_=qF (fun b=>some (BZ.enc b)) z.1 z.2.1 z.2.2.1).trans (Gm _ z.1 z.2.1 z.2.2.1))
def qG{R:Type}(kx:Bool->Option R)(a0:Nm):Option R:=
 Option.bind (gY a0.1 (-(131072:Int)) (131072:Int)) fun y75=>
 cond (!y75)
 (kx Bool.false)
 (Option.bind (gY a0.2.1 (-(131072:Int)) (131072:Int)) fun y76=>
  cond (!y76)
  (kx Bool.false)
  (Option.bind (gY a0.2.2 (0:Int) (10:Int)) fun y77=>
   cond (!y77)
   (kx Bool.false)
   (cond (a0.2.2==(0:Int))
    (kx Bool.true)
    (cond ((Int.tmod a0.1 (2:Int)) !=(0:Int))
     (kx Bool.true)
     (kx ((Int.tmod a0.2.1 (2:Int)) !=(0:Int)))))))
def jh(a0:Nm):Option (Bool):=qG some a0
theorem Gp{R} kx a0: @qG R kx a0=(jh a0).bind kx:=by
 unfold jh qG
 exact ac fun _=>ae rfl (ac fun _=>ae rfl (ac fun _=>ae rfl (ae rfl (ae rfl rfl))))
abbrev B4:af:=.fx [.val true yN] (Bool) (fun z=>jh z.1) (fun b=>(.one ⟨false,[(.v (.bool b))]⟩,[]))
theorem Hw:ag C0 133 B4:=
 ag.fx (e:=false) (.cons Hv (.nil)) mixed Tryd.func133 (by kernel_rfl) (by kernel_rfl) aW 1 aq (fun z=>(by kernel_rfl:_=qG (fun b=>some (B4.enc b)) z.1).trans (Gp _ z.1))
def kD{R:Type}(kx:Nm×Bool->Option R)(a0:Nm):Option R:=
 Option.bind (eD a0) fun y70=>
 Option.bind (jh y70) fun y78=>
 cond (!y78)
 (kx (((0:Int),((0:Int),(0:Int))),Bool.false))
 (kx (y70,Bool.true))
def bI(a0:Nm):Option (Nm×Bool):=kD some a0
theorem EP{R} kx a0: @kD R kx a0=(bI a0).bind kx:=by
 unfold bI kD
 exact ac fun _=>ac fun _=>ae rfl rfl
abbrev As:af:=.fx [.val true yN] (Nm×Bool) (fun z=>bI z.1) (fun b=>(.tup [⟨true,[(.v (.int .i64 b.1.1)),(.v (.int .i64 b.1.2.1)),(.v (.int .i64 b.1.2.2))]⟩,⟨false,[(.v (.bool b.2))]⟩],[]))
theorem zi:ag C0 150 As:=
 ag.fx (e:=false) (.cons uw (.cons Hw (.nil))) mixed Tryd.func150 (by kernel_rfl) (by kernel_rfl) aW 1 aq (fun z=>(by kernel_rfl:_=kD (fun b=>some (As.enc b)) z.1).trans (EP _ z.1))
def mY{R:Type}(kx:Nm×(List Int×(Int×Int))->Option R)(a0_0:List Int)(a0_1:Int)(a0_2:Int):Option R:=
 Option.bind (br a0_0 a0_1 a0_2 (9:Int)) fun y33=>
 Option.bind (cp y33.2.1 y33.2.2.1 y33.2.2.2 (3:Int)) fun y34=>
 cond y34.1
 (Option.bind (br y34.2.1 y34.2.2.1 y34.2.2.2 (9:Int)) fun y35=>
  Option.bind (cp y35.2.1 y35.2.2.1 y35.2.2.2 (3:Int)) fun y36=>
  cond y36.1
  (Option.bind (br y36.2.1 y36.2.2.1 y36.2.2.2 (4:Int)) fun y37=>
   Option.bind (cp y37.2.1 y37.2.2.1 y37.2.2.2 (12:Int)) fun y38=>
   cond y38.1
   (Option.bind (ci y38.2.1 y38.2.2.1 y38.2.2.2 [(131072:Int),(-(131072:Int)),(99999:Int),(46341:Int),(1:Int)]) fun y45=>
    Option.bind (ci y45.2.1 y45.2.2.1 y45.2.2.2 [(131072:Int),(-(131072:Int)),(-(92681:Int)),(-(70710:Int)),(32768:Int)]) fun y46=>
    Option.bind (br y46.2.1 y46.2.2.1 y46.2.2.2 (11:Int)) fun y47=>
    Option.bind (bI (y45.1,(y46.1,y47.1))) fun y79=>
    cond (!y79.2)
    (kx (((1:Int),((0:Int),(0:Int))),y47.2))
    (kx (y79.1,y47.2)))
   (Option.bind (bI ((IntKind.wrap .i64 (y33.1-(4:Int))),((IntKind.wrap .i64 (y35.1-(4:Int))),y37.1))) fun y80=>
    cond (!y80.2)
    (kx (((1:Int),((0:Int),(0:Int))),y38.2))
    (kx (y80.1,y38.2))))
  (Option.bind (cp y36.2.1 y36.2.2.1 y36.2.2.2 (12:Int)) fun y81=>
   cond y81.1
   (Option.bind (ci y81.2.1 y81.2.2.1 y81.2.2.2 [(131072:Int),(-(131072:Int)),(99999:Int),(46341:Int),(1:Int)]) fun y82=>
    Option.bind (ci y82.2.1 y82.2.2.1 y82.2.2.2 [(131072:Int),(-(131072:Int)),(-(92681:Int)),(-(70710:Int)),(32768:Int)]) fun y83=>
    Option.bind (br y83.2.1 y83.2.2.1 y83.2.2.2 (11:Int)) fun y84=>
    Option.bind (bI (y82.1,(y83.1,y84.1))) fun y85=>
    cond (!y85.2)
    (kx (((1:Int),((0:Int),(0:Int))),y84.2))
    (kx (y85.1,y84.2)))
   (Option.bind (bI ((IntKind.wrap .i64 (y33.1-(4:Int))),((IntKind.wrap .i64 (y35.1-(4:Int))),(0:Int)))) fun y86=>
    cond (!y86.2)
    (kx (((1:Int),((0:Int),(0:Int))),y81.2))
    (kx (y86.1,y81.2)))))
 (Option.bind (cp y34.2.1 y34.2.2.1 y34.2.2.2 (3:Int)) fun y87=>
  cond y87.1
  (Option.bind (br y87.2.1 y87.2.2.1 y87.2.2.2 (4:Int)) fun y88=>
   Option.bind (cp y88.2.1 y88.2.2.1 y88.2.2.2 (12:Int)) fun y89=>
   cond y89.1
   (Option.bind (ci y89.2.1 y89.2.2.1 y89.2.2.2 [(131072:Int),(-(131072:Int)),(99999:Int),(46341:Int),(1:Int)]) fun y90=>
    Option.bind (ci y90.2.1 y90.2.2.1 y90.2.2.2 [(131072:Int),(-(131072:Int)),(-(92681:Int)),(-(70710:Int)),(32768:Int)]) fun y91=>
    Option.bind (br y91.2.1 y91.2.2.1 y91.2.2.2 (11:Int)) fun y92=>
    Option.bind (bI (y90.1,(y91.1,y92.1))) fun y93=>
    cond (!y93.2)
    (kx (((1:Int),((0:Int),(0:Int))),y92.2))
    (kx (y93.1,y92.2)))
   (Option.bind (bI ((IntKind.wrap .i64 (y33.1-(4:Int))),((0:Int),y88.1))) fun y94=>
    cond (!y94.2)
    (kx (((1:Int),((0:Int),(0:Int))),y89.2))
    (kx (y94.1,y89.2))))
  (Option.bind (cp y87.2.1 y87.2.2.1 y87.2.2.2 (12:Int)) fun y95=>
   cond y95.1
   (Option.bind (ci y95.2.1 y95.2.2.1 y95.2.2.2 [(131072:Int),(-(131072:Int)),(99999:Int),(46341:Int),(1:Int)]) fun y96=>
    Option.bind (ci y96.2.1 y96.2.2.1 y96.2.2.2 [(131072:Int),(-(131072:Int)),(-(92681:Int)),(-(70710:Int)),(32768:Int)]) fun y97=>
    Option.bind (br y97.2.1 y97.2.2.1 y97.2.2.2 (11:Int)) fun y98=>
    Option.bind (bI (y96.1,(y97.1,y98.1))) fun y99=>
    cond (!y99.2)
    (kx (((1:Int),((0:Int),(0:Int))),y98.2))
    (kx (y99.1,y98.2)))
   (Option.bind (bI ((IntKind.wrap .i64 (y33.1-(4:Int))),((0:Int),(0:Int)))) fun y100=>
    cond (!y100.2)
    (kx (((1:Int),((0:Int),(0:Int))),y95.2))
    (kx (y100.1,y95.2)))))
def fN(a0_0:List Int)(a0_1:Int)(a0_2:Int):Option (Nm×(List Int×(Int×Int))):=mY some a0_0 a0_1 a0_2
theorem Dt{R} kx a0_0 a0_1 a0_2: @mY R kx a0_0 a0_1 a0_2=(fN a0_0 a0_1 a0_2).bind kx:=by
 unfold fN mY
 exact ac fun _=>ac fun _=>ae (ac fun _=>ac fun _=>ae (ac fun _=>ac fun _=>ae (ac fun _=>ac fun _=>ac fun _=>ac fun _=>ae rfl rfl) (ac fun _=>ae rfl rfl)) (ac fun _=>ae (ac fun _=>ac fun _=>ac fun _=>ac fun _=>ae rfl rfl) (ac fun _=>ae rfl rfl))) (ac fun _=>ae (ac fun _=>ac fun _=>ae (ac fun _=>ac fun _=>ac fun _=>ac fun _=>ae rfl rfl) (ac fun _=>ae rfl rfl)) (ac fun _=>ae (ac fun _=>ac fun _=>ac fun _=>ac fun _=>ae rfl rfl) (ac fun _=>ae rfl rfl)))
abbrev xv:Nm×(List Int×(Int×Int))->AV×List (List CV):=fun b=>(.one ⟨true,[(.v (.int .i64 b.1.1)),(.v (.int .i64 b.1.2.1)),(.v (.int .i64 b.1.2.2))]⟩,[[(.sl (.int .u8) b.2.1),(.v (.int .i64 b.2.2.1)),(.v (.int .u64 b.2.2.2))]])
abbrev F5:af:=.fb [.rw [(.sl (.int .u8)),(.int .i64),(.int .u64)]] (Nm×(List Int×(Int×Int))) (fun z=>fN z.1.1 z.1.2.1 z.1.2.2.1) xv
theorem sF:ag C0 103 F5:=
 ag.fb (e:=false) (.cons gf (.cons pI (.cons zh (.cons zi (.nil))))) mixed Tryd.func103 (by kernel_rfl) (by kernel_rfl) aW 1 aq (fun z=>(by kernel_rfl:_=mY (fun b=>some (xv b)) z.1.1 z.1.2.1 z.1.2.2.1).trans (Dt _ z.1.1 z.1.2.1 z.1.2.2.1))
def jf{R:Type}(kx:Pt×(List Int×(Int×Int))->Option R)(a0_0:List Int)(a0_1:Int)(a0_2:Int):Option R:=
 Option.bind (fN a0_0 a0_1 a0_2) fun y101=>
 Option.bind (fN y101.2.1 y101.2.2.1 y101.2.2.2) fun y102=>
 kx ((y101.1,y102.1),y102.2)
def eQ(a0_0:List Int)(a0_1:Int)(a0_2:Int):Option (Pt×(List Int×(Int×Int))):=jf some a0_0 a0_1 a0_2
theorem xV{R} kx a0_0 a0_1 a0_2: @jf R kx a0_0 a0_1 a0_2=(eQ a0_0 a0_1 a0_2).bind kx:=by
 unfold eQ jf
 exact ac fun _=>ac fun _=>rfl
abbrev rU:Pt×(List Int×(Int×Int))->AV×List (List CV):=fun b=>(.one ⟨true,[(.v (.int .i64 b.1.1.1)),(.v (.int .i64 b.1.1.2.1)),(.v (.int .i64 b.1.1.2.2)),(.v (.int .i64 b.1.2.1)),(.v (.int .i64 b.1.2.2.1)),(.v (.int .i64 b.1.2.2.2))]⟩,[[(.sl (.int .u8) b.2.1),(.v (.int .i64 b.2.2.1)),(.v (.int .u64 b.2.2.2))]])
abbrev zP:af:=.fb [.rw [(.sl (.int .u8)),(.int .i64),(.int .u64)]] (Pt×(List Int×(Int×Int))) (fun z=>eQ z.1.1 z.1.2.1 z.1.2.2.1) rU
theorem sg:ag C0 62 zP:=
 ag.fb (e:=false) (.cons sF (.nil)) mixed Tryd.func62 (by kernel_rfl) (by kernel_rfl) aW 1 aq (fun z=>(by kernel_rfl:_=jf (fun b=>some (rU b)) z.1.1 z.1.2.1 z.1.2.2.1).trans (xV _ z.1.1 z.1.2.1 z.1.2.2.1))
def lZ{R:Type}(kx:Pt×(List Int×(Int×Int))->Option R)(a0_0:List Int)(a0_1:Int)(a0_2:Int):Option R:=
 Option.bind (cp a0_0 a0_1 a0_2 (3:Int)) fun y26=>
 cond y26.1
 (Option.bind (eQ y26.2.1 y26.2.2.1 y26.2.2.2) fun y103=>
  kx y103)
 (Option.bind (br y26.2.1 y26.2.2.1 y26.2.2.2 (5:Int)) fun y104=>
  Option.bind (br y104.2.1 y104.2.2.1 y104.2.2.2 (5:Int)) fun y105=>
  kx (((y104.1,((0:Int),(0:Int))),(y105.1,((0:Int),(0:Int)))),y105.2))
def jR(a0_0:List Int)(a0_1:Int)(a0_2:Int):Option (Pt×(List Int×(Int×Int))):=lZ some a0_0 a0_1 a0_2
theorem Cm{R} kx a0_0 a0_1 a0_2: @lZ R kx a0_0 a0_1 a0_2=(jR a0_0 a0_1 a0_2).bind kx:=by
 unfold jR lZ
 exact ac fun _=>ae (ac fun _=>rfl) (ac fun _=>ac fun _=>rfl)
abbrev wh:Pt×(List Int×(Int×Int))->AV×List (List CV):=fun b=>(.one ⟨true,[(.v (.int .i64 b.1.1.1)),(.v (.int .i64 b.1.1.2.1)),(.v (.int .i64 b.1.1.2.2)),(.v (.int .i64 b.1.2.1)),(.v (.int .i64 b.1.2.2.1)),(.v (.int .i64 b.1.2.2.2))]⟩,[[(.sl (.int .u8) b.2.1),(.v (.int .i64 b.2.2.1)),(.v (.int .u64 b.2.2.2))]])
abbrev ED:af:=.fb [.rw [(.sl (.int .u8)),(.int .i64),(.int .u64)]] (Pt×(List Int×(Int×Int))) (fun z=>jR z.1.1 z.1.2.1 z.1.2.2.1) wh
theorem DH:ag C0 60 ED:=
 ag.fb (e:=false) (.cons pI (.cons sg (.cons gf (.nil)))) mixed Tryd.func60 (by kernel_rfl) (by kernel_rfl) aW 1 aq (fun z=>(by kernel_rfl:_=lZ (fun b=>some (wh b)) z.1.1 z.1.2.1 z.1.2.2.1).trans (Cm _ z.1.1 z.1.2.1 z.1.2.2.1))
def oK{R:Type}(kx:Int->Option R)(a0:Int):Option R:=
 kx (Int.tmod (IntKind.wrap .i64 ((Int.tmod a0 (16:Int))+(16:Int))) (16:Int))
def kw(a0:Int):Option (Int):=oK some a0
theorem EQ{R} kx a0: @oK R kx a0=(kw a0).bind kx:=by
 unfold kw oK
 exact rfl
abbrev At:af:=.fx [.val false (.int .i64)] (Int) (fun z=>kw z.1) (fun b=>(.one ⟨false,[(.v (.int .i64 b))]⟩,[]))
theorem GW:ag C0 151 At:=
 ag.fx (e:=false) (.nil) mixed Tryd.func151 (by kernel_rfl) (by kernel_rfl) aW 1 aq (fun z=>(by kernel_rfl:_=oK (fun b=>some (At.enc b)) z.1).trans (EQ _ z.1))
def mi{R:Type}(kx:Pt->Option R)(a0:Int):Option R:=
 Option.bind (kw a0) fun y117=>
 Option.bind (xd [(((1:Int),((0:Int),(0:Int))),((0:Int),((0:Int),(0:Int)))),(((1:Int),((0:Int),(0:Int))),((-(1:Int)),((1:Int),(0:Int)))),(((1:Int),((0:Int),(0:Int))),((1:Int),((0:Int),(0:Int)))),(((-(1:Int)),((1:Int),(0:Int))),((1:Int),((0:Int),(0:Int)))),(((0:Int),((0:Int),(0:Int))),((1:Int),((0:Int),(0:Int)))),(((1:Int),((-(1:Int)),(0:Int))),((1:Int),((0:Int),(0:Int)))),(((-(1:Int)),((0:Int),(0:Int))),((1:Int),((0:Int),(0:Int)))),(((-(1:Int)),((0:Int),(0:Int))),((-(1:Int)),((1:Int),(0:Int))))] (Int.tmod y117 (8:Int))) fun y118=>
 cond (decide (y117>=(8:Int)))
 (kx (((IntKind.wrap .i64 ((0:Int)-y118.1.1)),((IntKind.wrap .i64 ((0:Int)-y118.1.2.1)),(0:Int))),((IntKind.wrap .i64 ((0:Int)-y118.2.1)),((IntKind.wrap .i64 ((0:Int)-y118.2.2.1)),(0:Int)))))
 (kx y118)
def cW(a0:Int):Option (Pt):=mi some a0
theorem ET{R} kx a0: @mi R kx a0=(cW a0).bind kx:=by
 unfold cW mi
 exact ac fun _=>ac fun _=>ae rfl rfl
abbrev Av:af:=.fx [.val false (.int .i64)] (Pt) (fun z=>cW z.1) (fun b=>(.one ⟨true,[(.v (.int .i64 b.1.1)),(.v (.int .i64 b.1.2.1)),(.v (.int .i64 b.1.2.2)),(.v (.int .i64 b.2.1)),(.v (.int .i64 b.2.2.1)),(.v (.int .i64 b.2.2.2))]⟩,[]))
theorem GY:ag C0 105 Av:=
 ag.fx (e:=false) (.cons GW (.nil)) mixed Tryd.func105 (by kernel_rfl) (by kernel_rfl) aW 1 aq (fun z=>(by kernel_rfl:_=mi (fun b=>some (Av.enc b)) z.1).trans (ET _ z.1))
def cg{R:Type}(kx:Nm->Option R)(a0:Nm):Option R:=
 kx a0
def bo(a0:Nm):Option (Nm):=cg some a0
theorem Gn{R} kx a0: @cg R kx a0=(bo a0).bind kx:=by
 unfold bo cg
 exact rfl
abbrev B3:af:=.fx [.val true yN] (Nm) (fun z=>bo z.1) (fun b=>(.one ⟨true,[(.v (.int .i64 b.1)),(.v (.int .i64 b.2.1)),(.v (.int .i64 b.2.2))]⟩,[]))
theorem AA:ag C0 107 B3:=
 ag.fx (e:=false) (.nil) mixed Tryd.func107 (by kernel_rfl) (by kernel_rfl) aW 1 aq (fun z=>(by kernel_rfl:_=cg (fun b=>some (B3.enc b)) z.1).trans (Gn _ z.1))
def cI{R:Type}(kx:Pt->Option R)(a0:Pt):Option R:=
 Option.bind (bo a0.1) fun y122=>
 Option.bind (bo a0.2) fun y123=>
 kx (y122,y123)
def aV(a0:Pt):Option (Pt):=cI some a0
theorem Gq{R} kx a0: @cI R kx a0=(aV a0).bind kx:=by
 unfold aV cI
 exact ac fun _=>ac fun _=>rfl
abbrev B5:af:=.fx [.val true yP] (Pt) (fun z=>aV z.1) (fun b=>(.one ⟨true,[(.v (.int .i64 b.1.1)),(.v (.int .i64 b.1.2.1)),(.v (.int .i64 b.1.2.2)),(.v (.int .i64 b.2.1)),(.v (.int .i64 b.2.2.1)),(.v (.int .i64 b.2.2.2))]⟩,[]))
theorem Hx:ag C0 104 B5:=
 ag.fx (e:=false) (.cons AA (.nil)) mixed Tryd.func104 (by kernel_rfl) (by kernel_rfl) aW 1 aq (fun z=>(by kernel_rfl:_=cI (fun b=>some (B5.enc b)) z.1).trans (Gq _ z.1))
def oJ{R:Type}(kx:Nm->Option R)(a0:Nm)(a1:Nm):Option R:=
 Option.bind (eD ((IntKind.wrap .i64 ((IntKind.wrap .i64 (a0.1*a1.1))+(IntKind.wrap .i64 ((IntKind.wrap .i64 ((2:Int)*a0.2.1))*a1.2.1)))),((IntKind.wrap .i64 ((IntKind.wrap .i64 (a0.1*a1.2.1))+(IntKind.wrap .i64 (a0.2.1*a1.1)))),(IntKind.wrap .i64 (a0.2.2+a1.2.2))))) fun y129=>
 kx y129
def bT(a0:Nm)(a1:Nm):Option (Nm):=oJ some a0 a1
theorem EO{R} kx a0 a1: @oJ R kx a0 a1=(bT a0 a1).bind kx:=by
 unfold bT oJ
 exact ac fun _=>rfl
abbrev Ar:af:=.fx [.val true yN, .val true yN] (Nm) (fun z=>bT z.1 z.2.1) (fun b=>(.one ⟨true,[(.v (.int .i64 b.1)),(.v (.int .i64 b.2.1)),(.v (.int .i64 b.2.2))]⟩,[]))
theorem GV:ag C0 108 Ar:=
 ag.fx (e:=false) (.cons uw (.nil)) mixed Tryd.func108 (by kernel_rfl) (by kernel_rfl) aW 1 aq (fun z=>(by kernel_rfl:_=oJ (fun b=>some (Ar.enc b)) z.1 z.2.1).trans (EO _ z.1 z.2.1))
def ma:List (FuncId×af):=[(152,vP)]
abbrev eE:LS:=⟨[(false,[(.ptr 2 0)]),(false,[(.ptr 3 0)]),(false,[(.ptr 4 0)])],[(false,[(.int .i64),(.int .i64),(.int .i64)]),(false,[(.int .i64),(.int .i64),(.int .i64)]),(false,[(.int .i64),(.int .i64),(.int .i64)])],[]⟩
abbrev uP:LS:=⟨[(false,[(.ptr 2 0)]),(false,[(.ptr 3 0)]),(false,[(.ptr 4 0)])],[(false,[(.int .i64),(.int .i64),(.int .i64)]),(false,[(.int .i64),(.int .i64),(.int .i64)]),(false,[(.int .i64),(.int .i64),(.int .i64)])],[]⟩
abbrev uL(v0:Int)(v1:Int)(v2:Int)(v3:Int)(v4:Int)(v5:Int)(v6:Int)(v7:Int)(v8:Int):=(((((),()),((),()),((),()),()),((v0,v1,v2,()),(v3,v4,v5,()),(v6,v7,v8,()),()),()):uP.T)
abbrev eH:List (Ex×LS):=[(.exit 0,uP)]
abbrev oX(b0_0:Int)(b0_1:Int)(b0_2:Int)(b1_0:Int)(b1_1:Int)(b1_2:Int)(b2_0:Int)(b2_1:Int)(b2_2:Int):=(((((),()),((),()),((),()),()),((b0_0,b0_1,b0_2,()),(b1_0,b1_1,b1_2,()),(b2_0,b2_1,b2_2,()),()),()):eE.T)
def iP{R:Type}(nx:eE.T->Option R)(hx:mJ R eH)(b0_0:Int)(b0_1:Int)(b0_2:Int)(b1_0:Int)(b1_1:Int)(b1_2:Int)(b2_0:Int)(b2_1:Int)(b2_2:Int):Option R:=
 cond (decide (b0_2<b1_2))
 (nx (oX (IntKind.wrap .i64 (b0_0*(2:Int))) (IntKind.wrap .i64 (b0_1*(2:Int))) (IntKind.wrap .i64 (b0_2+(1:Int))) b1_0 b1_1 b1_2 b2_0 b2_1 b2_2))
 (hx.1 (uL b0_0 b0_1 b0_2 b1_0 b1_1 b1_2 b2_0 b2_1 b2_2))
def sH{R:Type}(nx:eE.T->Option R)(hx:mJ R eH)(z:eE.T):Option R:=iP nx hx z.2.1.1.1 z.2.1.1.2.1 z.2.1.1.2.2.1 z.2.1.2.1.1 z.2.1.2.1.2.1 z.2.1.2.1.2.2.1 z.2.1.2.2.1.1 z.2.1.2.2.1.2.1 z.2.1.2.2.1.2.2.1
theorem vp:fe @sH:=fun R nx hx z=>by
 show iP nx hx z.2.1.1.1 z.2.1.1.2.1 z.2.1.1.2.2.1 z.2.1.2.1.1 z.2.1.2.1.2.1 z.2.1.2.1.2.2.1 z.2.1.2.2.1.1 z.2.1.2.2.1.2.1 z.2.1.2.2.1.2.2.1=(iP (fun y=>some (.inl y)) (sj eH fun x=>some (.inr x)) z.2.1.1.1 z.2.1.1.2.1 z.2.1.1.2.2.1 z.2.1.2.1.1 z.2.1.2.1.2.1 z.2.1.2.1.2.2.1 z.2.1.2.2.1.1 z.2.1.2.2.1.2.1 z.2.1.2.2.1.2.2.1).bind (rV nx hx)
 unfold iP
 exact ae rfl rfl
def jV:eE.T->Option (wO eH):=Bt @sH
theorem wL b0_0 b0_1 b0_2 b1_0 b1_1 b1_2 b2_0 b2_1 b2_2:jV (oX b0_0 b0_1 b0_2 b1_0 b1_1 b1_2 b2_0 b2_1 b2_2)=iP jV (sj eH some) b0_0 b0_1 b0_2 b1_0 b1_1 b1_2 b2_0 b2_1 b2_2:=jL vp _
def nn:eo:=⟨[2,3,4],[2,3,4],[2,3,4],[2,3,4]⟩
abbrev eF:LS:=⟨[(false,[(.ptr 2 0)]),(false,[(.ptr 3 0)]),(false,[(.ptr 4 0)])],[(false,[(.int .i64),(.int .i64),(.int .i64)]),(false,[(.int .i64),(.int .i64),(.int .i64)]),(false,[(.int .i64),(.int .i64),(.int .i64)])],[]⟩
abbrev uQ:LS:=⟨[(false,[(.ptr 2 0)]),(false,[(.ptr 3 0)]),(false,[(.ptr 4 0)])],[(false,[(.int .i64),(.int .i64),(.int .i64)]),(false,[(.int .i64),(.int .i64),(.int .i64)]),(false,[(.int .i64),(.int .i64),(.int .i64)])],[]⟩
abbrev uM(v0:Int)(v1:Int)(v2:Int)(v3:Int)(v4:Int)(v5:Int)(v6:Int)(v7:Int)(v8:Int):=(((((),()),((),()),((),()),()),((v0,v1,v2,()),(v3,v4,v5,()),(v6,v7,v8,()),()),()):uQ.T)
abbrev dW:List (Ex×LS):=[(.exit 2,uQ)]
abbrev oY(b0_0:Int)(b0_1:Int)(b0_2:Int)(b1_0:Int)(b1_1:Int)(b1_2:Int)(b2_0:Int)(b2_1:Int)(b2_2:Int):=(((((),()),((),()),((),()),()),((b0_0,b0_1,b0_2,()),(b1_0,b1_1,b1_2,()),(b2_0,b2_1,b2_2,()),()),()):eF.T)
def iQ{R:Type}(nx:eF.T->Option R)(hx:mJ R dW)(b0_0:Int)(b0_1:Int)(b0_2:Int)(b1_0:Int)(b1_1:Int)(b1_2:Int)(b2_0:Int)(b2_1:Int)(b2_2:Int):Option R:=
 cond (decide (b1_2<b0_2))
 (nx (oY b0_0 b0_1 b0_2 (IntKind.wrap .i64 (b1_0*(2:Int))) (IntKind.wrap .i64 (b1_1*(2:Int))) (IntKind.wrap .i64 (b1_2+(1:Int))) b2_0 b2_1 b2_2))
 (hx.1 (uM b0_0 b0_1 b0_2 b1_0 b1_1 b1_2 b2_0 b2_1 b2_2))
def sI{R:Type}(nx:eF.T->Option R)(hx:mJ R dW)(z:eF.T):Option R:=iQ nx hx z.2.1.1.1 z.2.1.1.2.1 z.2.1.1.2.2.1 z.2.1.2.1.1 z.2.1.2.1.2.1 z.2.1.2.1.2.2.1 z.2.1.2.2.1.1 z.2.1.2.2.1.2.1 z.2.1.2.2.1.2.2.1
theorem vq:fe @sI:=fun R nx hx z=>by
 show iQ nx hx z.2.1.1.1 z.2.1.1.2.1 z.2.1.1.2.2.1 z.2.1.2.1.1 z.2.1.2.1.2.1 z.2.1.2.1.2.2.1 z.2.1.2.2.1.1 z.2.1.2.2.1.2.1 z.2.1.2.2.1.2.2.1=(iQ (fun y=>some (.inl y)) (sj dW fun x=>some (.inr x)) z.2.1.1.1 z.2.1.1.2.1 z.2.1.1.2.2.1 z.2.1.2.1.1 z.2.1.2.1.2.1 z.2.1.2.1.2.2.1 z.2.1.2.2.1.1 z.2.1.2.2.1.2.1 z.2.1.2.2.1.2.2.1).bind (rV nx hx)
 unfold iQ
 exact ae rfl rfl
def jW:eF.T->Option (wO dW):=Bt @sI
theorem wM b0_0 b0_1 b0_2 b1_0 b1_1 b1_2 b2_0 b2_1 b2_2:jW (oY b0_0 b0_1 b0_2 b1_0 b1_1 b1_2 b2_0 b2_1 b2_2)=iQ jW (sj dW some) b0_0 b0_1 b0_2 b1_0 b1_1 b1_2 b2_0 b2_1 b2_2:=jL vq _
def nq:eo:=⟨[2,3,4],[2,3,4],[2,3,4],[2,3,4]⟩
def me:kF Rv:=⟨fun k=>match k with|2=>nn|6=>nq|_=>⟨[],[],[],[]⟩,fun k=>match k with|2=>some (ie eE eH jV)|6=>some (ie eF dW jW)|_=>none⟩
theorem DI(n:Nat)(z:eE.T)(k:Ex->kp->Option Rv):dG ⟨53,53⟩ nn (uO (pL C0 ma) ⟨53,53⟩ me 1 (cP Tryd.f106 1)) (n+1) (eE.enc z) k=
 sH (fun y=>dG ⟨53,53⟩ nn (uO (pL C0 ma) ⟨53,53⟩ me 1 (cP Tryd.f106 1)) n (eE.enc y) k) (hK k eH) z:=by kernel_rfl
theorem DJ(n:Nat)(z:eF.T)(k:Ex->kp->Option Rv):dG ⟨53,53⟩ nq (uO (pL C0 ma) ⟨53,53⟩ me 1 (cP Tryd.f106 5)) (n+1) (eF.enc z) k=
 sI (fun y=>dG ⟨53,53⟩ nq (uO (pL C0 ma) ⟨53,53⟩ me 1 (cP Tryd.f106 5)) n (eF.enc y) k) (hK k dW) z:=by kernel_rfl
theorem FR:bP (pL C0 ma) ⟨53,53⟩ me 1 (fF (dl Tryd.f106)):=by
 have hl:fF (dl Tryd.f106)=[cP Tryd.f106 1,cP Tryd.f106 5]:=by kernel_rfl
 rw[hl]
 exact bP.cons (n:=2) (lh:=nn) (S:=ie eE eH jV) (by kernel_rfl) rfl rfl (iX vp DI)
  (bP.cons (n:=6) (lh:=nq) (S:=ie eF dW jW) (by kernel_rfl) rfl rfl (iX vq DJ)
  (bP.nil))
def oG{R:Type}(kx:Nm->Option R)(a0:Nm)(a1:Nm):Option R:=
 Option.bind (jV (oX a0.1 a0.2.1 a0.2.2 a1.1 a1.2.1 a1.2.2 (0:Int) (0:Int) (0:Int))) (jP eH
 (fun e142=>
  Option.bind (jW (oY (e142.2.1.1.1:Int) (e142.2.1.1.2.1:Int) (e142.2.1.1.2.2.1:Int) (e142.2.1.2.1.1:Int) (e142.2.1.2.1.2.1:Int) (e142.2.1.2.1.2.2.1:Int) (e142.2.1.2.2.1.1:Int) (e142.2.1.2.2.1.2.1:Int) (e142.2.1.2.2.1.2.2.1:Int))) (jP dW
  (fun e161=>
   Option.bind (eD ((IntKind.wrap .i64 ((e161.2.1.1.1:Int)+(e161.2.1.2.1.1:Int))),((IntKind.wrap .i64 ((e161.2.1.1.2.1:Int)+(e161.2.1.2.1.2.1:Int))),(e161.2.1.1.2.2.1:Int)))) fun y171=>
   kx y171,())),()))
def cL(a0:Nm)(a1:Nm):Option (Nm):=oG some a0 a1
theorem EM{R} kx a0 a1: @oG R kx a0 a1=(cL a0 a1).bind kx:=by
 unfold cL oG
 exact bh ⟨fun _=>bh ⟨fun _=>ac fun _=>rfl,trivial⟩,trivial⟩
abbrev Aq:af:=.fx [.val true yN, .val true yN] (Nm) (fun z=>cL z.1 z.2.1) (fun b=>(.one ⟨true,[(.v (.int .i64 b.1)),(.v (.int .i64 b.2.1)),(.v (.int .i64 b.2.2))]⟩,[]))
theorem GU:ag C0 106 Aq:=
 ag.fx (e:=false) (t:=ma) (.cons uw (.nil)) mixed Tryd.func106 (by kernel_rfl) (by kernel_rfl) me 1 FR (fun z=>(by kernel_rfl:_=oG (fun b=>some (Aq.enc b)) z.1 z.2.1).trans (EM _ z.1 z.2.1))
def oL{R:Type}(kx:Pt×Bool->Option R)(a0:Pt):Option R:=
 Option.bind (bI a0.1) fun y178=>
 Option.bind (bI a0.2) fun y179=>
 cond (!y178.2)
 (kx ((((0:Int),((0:Int),(0:Int))),((0:Int),((0:Int),(0:Int)))),Bool.false))
 (cond (!y179.2)
  (kx ((((0:Int),((0:Int),(0:Int))),((0:Int),((0:Int),(0:Int)))),Bool.false))
  (kx ((y178.1,y179.1),Bool.true)))
def fK(a0:Pt):Option (Pt×Bool):=oL some a0
theorem ES{R} kx a0: @oL R kx a0=(fK a0).bind kx:=by
 unfold fK oL
 exact ac fun _=>ac fun _=>ae rfl (ae rfl rfl)
abbrev Au:af:=.fx [.val true yP] (Pt×Bool) (fun z=>fK z.1) (fun b=>(.tup [⟨true,[(.v (.int .i64 b.1.1.1)),(.v (.int .i64 b.1.1.2.1)),(.v (.int .i64 b.1.1.2.2)),(.v (.int .i64 b.1.2.1)),(.v (.int .i64 b.1.2.2.1)),(.v (.int .i64 b.1.2.2.2))]⟩,⟨false,[(.v (.bool b.2))]⟩],[]))
theorem GX:ag C0 109 Au:=
 ag.fx (e:=false) (.cons zi (.nil)) mixed Tryd.func109 (by kernel_rfl) (by kernel_rfl) aW 1 aq (fun z=>(by kernel_rfl:_=oL (fun b=>some (Au.enc b)) z.1).trans (ES _ z.1))
def jK{R:Type}(kx:Pt×(List Int×(Int×Int))->Option R)(a0_0:List Int)(a0_1:Int)(a0_2:Int)(a1:Pt):Option R:=
 Option.bind (br a0_0 a0_1 a0_2 (16:Int)) fun y113=>
 Option.bind (fN y113.2.1 y113.2.2.1 y113.2.2.2) fun y114=>
 Option.bind (cW y113.1) fun y119=>
 Option.bind (aV y119) fun y124=>
 Option.bind (bo a1.1) fun y125=>
 Option.bind (bo y114.1) fun y126=>
 Option.bind (bT y126 y124.1) fun y130=>
 Option.bind (cL y125 y130) fun y172=>
 Option.bind (bo a1.2) fun y173=>
 Option.bind (bo y114.1) fun y174=>
 Option.bind (bT y174 y124.2) fun y175=>
 Option.bind (cL y173 y175) fun y176=>
 Option.bind (fK (y172,y176)) fun y180=>
 cond (!y180.2)
 (kx (a1,y114.2))
 (kx (y180.1,y114.2))
def gL(a0_0:List Int)(a0_1:Int)(a0_2:Int)(a1:Pt):Option (Pt×(List Int×(Int×Int))):=jK some a0_0 a0_1 a0_2 a1
theorem yZ{R} kx a0_0 a0_1 a0_2 a1: @jK R kx a0_0 a0_1 a0_2 a1=(gL a0_0 a0_1 a0_2 a1).bind kx:=by
 unfold gL jK
 exact ac fun _=>ac fun _=>ac fun _=>ac fun _=>ac fun _=>ac fun _=>ac fun _=>ac fun _=>ac fun _=>ac fun _=>ac fun _=>ac fun _=>ac fun _=>ae rfl rfl
abbrev sR:Pt×(List Int×(Int×Int))->AV×List (List CV):=fun b=>(.one ⟨true,[(.v (.int .i64 b.1.1.1)),(.v (.int .i64 b.1.1.2.1)),(.v (.int .i64 b.1.1.2.2)),(.v (.int .i64 b.1.2.1)),(.v (.int .i64 b.1.2.2.1)),(.v (.int .i64 b.1.2.2.2))]⟩,[[(.sl (.int .u8) b.2.1),(.v (.int .i64 b.2.2.1)),(.v (.int .u64 b.2.2.2))]])
abbrev AU:af:=.fb [.rw [(.sl (.int .u8)),(.int .i64),(.int .u64)], .val true yP] (Pt×(List Int×(Int×Int))) (fun z=>gL z.1.1 z.1.2.1 z.1.2.2.1 z.2.1) sR
theorem Ah:ag C0 63 AU:=
 ag.fb (e:=false) (.cons gf (.cons sF (.cons GY (.cons Hx (.cons AA (.cons GV (.cons GU (.cons GX (.nil))))))))) mixed Tryd.func63 (by kernel_rfl) (by kernel_rfl) aW 1 aq (fun z=>(by kernel_rfl:_=jK (fun b=>some (sR b)) z.1.1 z.1.2.1 z.1.2.2.1 z.2.1).trans (yZ _ z.1.1 z.1.2.1 z.1.2.2.1 z.2.1))
def lX{R:Type}(kx:Pt×Pt->Option R)(a0:(List Int)):Option R:=
 Option.bind (ju a0) fun y7=>
 Option.bind (jR y7.1 y7.2.1 y7.2.2) fun y106=>
 Option.bind (cp y106.2.1 y106.2.2.1 y106.2.2.2 (4:Int)) fun y107=>
 cond y107.1
 (Option.bind (eQ y107.2.1 y107.2.2.1 y107.2.2.2) fun y108=>
  kx (y106.1,y108.1))
 (Option.bind (gL y107.2.1 y107.2.2.1 y107.2.2.2 y106.1) fun y181=>
  kx (y106.1,y181.1))
def jQ(a0:(List Int)):Option (Pt×Pt):=lX some a0
theorem Cj{R} kx a0: @lX R kx a0=(jQ a0).bind kx:=by
 unfold jQ lX
 exact ac fun _=>ac fun _=>ac fun _=>ae (ac fun _=>rfl) (ac fun _=>rfl)
abbrev sy:af:=.fx [.val false (.slice (.int .u8))] (Pt×Pt) (fun z=>jQ z.1) (fun b=>(.tup [⟨true,[(.v (.int .i64 b.1.1.1)),(.v (.int .i64 b.1.1.2.1)),(.v (.int .i64 b.1.1.2.2)),(.v (.int .i64 b.1.2.1)),(.v (.int .i64 b.1.2.2.1)),(.v (.int .i64 b.1.2.2.2))]⟩,⟨true,[(.v (.int .i64 b.2.1.1)),(.v (.int .i64 b.2.1.2.1)),(.v (.int .i64 b.2.1.2.2)),(.v (.int .i64 b.2.2.1)),(.v (.int .i64 b.2.2.2.1)),(.v (.int .i64 b.2.2.2.2))]⟩],[]))
theorem DG:ag C0 24 sy:=
 ag.fx (e:=false) (.cons xG (.cons DH (.cons pI (.cons sg (.cons Ah (.nil)))))) mixed Tryd.func24 (by kernel_rfl) (by kernel_rfl) aW 1 aq (fun z=>(by kernel_rfl:_=lX (fun b=>some (sy.enc b)) z.1).trans (Cj _ z.1))
def jJ{R:Type}(kx:Ln×(List Int×(Int×Int))->Option R)(a0_0:List Int)(a0_1:Int)(a0_2:Int):Option R:=
 Option.bind (br a0_0 a0_1 a0_2 (8:Int)) fun y188=>
 Option.bind (fN y188.2.1 y188.2.2.1 y188.2.2.2) fun y189=>
 kx ((y188.1,y189.1),y189.2)
def jv(a0_0:List Int)(a0_1:Int)(a0_2:Int):Option (Ln×(List Int×(Int×Int))):=jJ some a0_0 a0_1 a0_2
theorem yY{R} kx a0_0 a0_1 a0_2: @jJ R kx a0_0 a0_1 a0_2=(jv a0_0 a0_1 a0_2).bind kx:=by
 unfold jv jJ
 exact ac fun _=>ac fun _=>rfl
abbrev sQ:Ln×(List Int×(Int×Int))->AV×List (List CV):=fun b=>(.one ⟨true,[(.v (.int .i64 b.1.1)),(.v (.int .i64 b.1.2.1)),(.v (.int .i64 b.1.2.2.1)),(.v (.int .i64 b.1.2.2.2))]⟩,[[(.sl (.int .u8) b.2.1),(.v (.int .i64 b.2.2.1)),(.v (.int .u64 b.2.2.2))]])
abbrev AS:af:=.fb [.rw [(.sl (.int .u8)),(.int .i64),(.int .u64)]] (Ln×(List Int×(Int×Int))) (fun z=>jv z.1.1 z.1.2.1 z.1.2.2.1) sQ
theorem Ag:ag C0 64 AS:=
 ag.fb (e:=false) (.cons gf (.cons sF (.nil))) mixed Tryd.func64 (by kernel_rfl) (by kernel_rfl) aW 1 aq (fun z=>(by kernel_rfl:_=jJ (fun b=>some (sQ b)) z.1.1 z.1.2.1 z.1.2.2.1).trans (yY _ z.1.1 z.1.2.1 z.1.2.2.1))
def oF{R:Type}(kx:Ln->Option R)(a0:(List Int)):Option R:=
 Option.bind (ju a0) fun y184=>
 Option.bind (jv y184.1 y184.2.1 y184.2.2) fun y190=>
 kx y190.1
def kv(a0:(List Int)):Option (Ln):=oF some a0
theorem EL{R} kx a0: @oF R kx a0=(kv a0).bind kx:=by
 unfold kv oF
 exact ac fun _=>ac fun _=>rfl
abbrev vO:af:=.fx [.val false (.slice (.int .u8))] (Ln) (fun z=>kv z.1) (fun b=>(.one ⟨true,[(.v (.int .i64 b.1)),(.v (.int .i64 b.2.1)),(.v (.int .i64 b.2.2.1)),(.v (.int .i64 b.2.2.2))]⟩,[]))
theorem GT:ag C0 25 vO:=
 ag.fx (e:=false) (.cons xG (.cons Ag (.nil))) mixed Tryd.func25 (by kernel_rfl) (by kernel_rfl) aW 1 aq (fun z=>(by kernel_rfl:_=oF (fun b=>some (vO.enc b)) z.1).trans (EL _ z.1))
def oD{R:Type}(kx:Bool->Option R)(a0:Int)(a1:Int)(a2:Int):Option R:=
 cond (decide (a0>=a1))
 (kx (decide (a0<=a2)))
 (kx Bool.false)
def gW(a0:Int)(a1:Int)(a2:Int):Option (Bool):=oD some a0 a1 a2
theorem EJ{R} kx a0 a1 a2: @oD R kx a0 a1 a2=(gW a0 a1 a2).bind kx:=by
 unfold gW oD
 exact ae rfl rfl
abbrev Ap:af:=.fx [.val false (.int .i64), .val false (.int .i64), .val false (.int .i64)] (Bool) (fun z=>gW z.1 z.2.1 z.2.2.1) (fun b=>(.one ⟨false,[(.v (.bool b))]⟩,[]))
theorem zf:ag C0 48 Ap:=
 ag.fx (e:=false) (.nil) mixed Tryd.func48 (by kernel_rfl) (by kernel_rfl) aW 1 aq (fun z=>(by kernel_rfl:_=oD (fun b=>some (Ap.enc b)) z.1 z.2.1 z.2.2.1).trans (EJ _ z.1 z.2.1 z.2.2.1))
def lV{R:Type}(kx:Bool->Option R)(a0:Nm):Option R:=
 Option.bind (gW a0.1 (-(131072:Int)) (131072:Int)) fun y202=>
 cond y202
 (Option.bind (gW a0.2.1 (-(131072:Int)) (131072:Int)) fun y203=>
  cond y203
  (Option.bind (gW a0.2.2 (0:Int) (10:Int)) fun y204=>
   cond y204
   (cond (a0.2.2==(0:Int))
    (kx Bool.true)
    (cond ((IntKind.wrap .i64 (((BitVec.toNat ((BitVec.ofInt 64 a0.1)&&&(BitVec.ofInt 64 (1:Int)))):Nat):Int))==(1:Int))
     (kx Bool.true)
     (kx ((IntKind.wrap .i64 (((BitVec.toNat ((BitVec.ofInt 64 a0.2.1)&&&(BitVec.ofInt 64 (1:Int)))):Nat):Int))==(1:Int)))))
   (kx Bool.false))
  (kx Bool.false))
 (kx Bool.false)
def dA(a0:Nm):Option (Bool):=lV some a0
theorem Cg{R} kx a0: @lV R kx a0=(dA a0).bind kx:=by
 unfold dA lV
 exact ac fun _=>ae (ac fun _=>ae (ac fun _=>ae (ae rfl (ae rfl rfl)) rfl) rfl) rfl
abbrev xz:af:=.fx [.val true yN] (Bool) (fun z=>dA z.1) (fun b=>(.one ⟨false,[(.v (.bool b))]⟩,[]))
theorem ny:ag C0 92 xz:=
 ag.fx (e:=false) (.cons zf (.nil)) mixed Tryd.func92 (by kernel_rfl) (by kernel_rfl) aW 1 aq (fun z=>(by kernel_rfl:_=lV (fun b=>some (xz.enc b)) z.1).trans (Cg _ z.1))
def kl{R:Type}(kx:Bool->Option R)(a0:Pt):Option R:=
 Option.bind (dA a0.1) fun y205=>
 cond y205
 (Option.bind (dA a0.2) fun y206=>
  kx y206)
 (kx Bool.false)
def bz(a0:Pt):Option (Bool):=kl some a0
theorem zU{R} kx a0: @kl R kx a0=(bz a0).bind kx:=by
 unfold bz kl
 exact ac fun _=>ae (ac fun _=>rfl) rfl
abbrev my:af:=.fx [.val true yP] (Bool) (fun z=>bz z.1) (fun b=>(.one ⟨false,[(.v (.bool b))]⟩,[]))
theorem dL:ag C0 51 my:=
 ag.fx (e:=false) (.cons ny (.nil)) mixed Tryd.func51 (by kernel_rfl) (by kernel_rfl) aW 1 aq (fun z=>(by kernel_rfl:_=kl (fun b=>some (my.enc b)) z.1).trans (zU _ z.1))
def mW{R:Type}(kx:Nm->Option R)(a0:Nm):Option R:=
 kx ((IntKind.wrap .i64 ((0:Int)-a0.1)),((IntKind.wrap .i64 ((0:Int)-a0.2.1)),a0.2.2))
def bO(a0:Nm):Option (Nm):=mW some a0
theorem Dq{R} kx a0: @mW R kx a0=(bO a0).bind kx:=by
 unfold bO mW
 exact rfl
abbrev yx:af:=.fx [.val true yN] (Nm) (fun z=>bO z.1) (fun b=>(.one ⟨true,[(.v (.int .i64 b.1)),(.v (.int .i64 b.2.1)),(.v (.int .i64 b.2.2))]⟩,[]))
theorem xF:ag C0 153 yx:=
 ag.fx (e:=false) (.nil) mixed Tryd.func153 (by kernel_rfl) (by kernel_rfl) aW 1 aq (fun z=>(by kernel_rfl:_=mW (fun b=>some (yx.enc b)) z.1).trans (Dq _ z.1))
def ll:List (FuncId×af):=[]
abbrev cN:LS:=⟨[(false,[(.ptr 1 0)]),(false,[(.ptr 2 0)])],[(false,[(.int .i64),(.int .i64),(.int .i64)]),(false,[(.int .i64),(.int .i64),(.int .i64)])],[]⟩
abbrev qf:LS:=⟨[(false,[(.ptr 1 0)]),(false,[(.ptr 2 0)])],[(false,[(.int .i64),(.int .i64),(.int .i64)]),(false,[(.int .i64),(.int .i64),(.int .i64)])],[]⟩
abbrev jg(v0:Int)(v1:Int)(v2:Int)(v3:Int)(v4:Int)(v5:Int):=(((((),()),((),()),()),((v0,v1,v2,()),(v3,v4,v5,()),()),()):qf.T)
abbrev dw:List (Ex×LS):=[(.exit 0,qf)]
abbrev fu(b0_0:Int)(b0_1:Int)(b0_2:Int)(b1_0:Int)(b1_1:Int)(b1_2:Int):=(((((),()),((),()),()),((b0_0,b0_1,b0_2,()),(b1_0,b1_1,b1_2,()),()),()):cN.T)
def eC{R:Type}(nx:cN.T->Option R)(hx:mJ R dw)(b0_0:Int)(b0_1:Int)(b0_2:Int)(b1_0:Int)(b1_1:Int)(b1_2:Int):Option R:=
 cond (decide (b0_2>(0:Int)))
 (cond ((IntKind.wrap .i64 (((BitVec.toNat ((BitVec.ofInt 64 b0_0)&&&(BitVec.ofInt 64 (1:Int)))):Nat):Int))==(0:Int))
  (cond ((IntKind.wrap .i64 (((BitVec.toNat ((BitVec.ofInt 64 b0_1)&&&(BitVec.ofInt 64 (1:Int)))):Nat):Int))==(0:Int))
   (cond ((IntKind.wrap .i64 (Int.tdiv b0_0 (2:Int)))==(0:Int))
    (cond ((IntKind.wrap .i64 (Int.tdiv b0_1 (2:Int)))==(0:Int))
     (nx (fu (IntKind.wrap .i64 (Int.tdiv b0_0 (2:Int))) (IntKind.wrap .i64 (Int.tdiv b0_1 (2:Int))) (0:Int) b1_0 b1_1 b1_2))
     (nx (fu (IntKind.wrap .i64 (Int.tdiv b0_0 (2:Int))) (IntKind.wrap .i64 (Int.tdiv b0_1 (2:Int))) (IntKind.wrap .i64 (b0_2-(1:Int))) b1_0 b1_1 b1_2)))
    (nx (fu (IntKind.wrap .i64 (Int.tdiv b0_0 (2:Int))) (IntKind.wrap .i64 (Int.tdiv b0_1 (2:Int))) (IntKind.wrap .i64 (b0_2-(1:Int))) b1_0 b1_1 b1_2)))
   (hx.1 (jg b0_0 b0_1 b0_2 b1_0 b1_1 b1_2)))
  (hx.1 (jg b0_0 b0_1 b0_2 b1_0 b1_1 b1_2)))
 (hx.1 (jg b0_0 b0_1 b0_2 b1_0 b1_1 b1_2))
def mX{R:Type}(nx:cN.T->Option R)(hx:mJ R dw)(z:cN.T):Option R:=eC nx hx z.2.1.1.1 z.2.1.1.2.1 z.2.1.1.2.2.1 z.2.1.2.1.1 z.2.1.2.1.2.1 z.2.1.2.1.2.2.1
theorem qq:fe @mX:=fun R nx hx z=>by
 show eC nx hx z.2.1.1.1 z.2.1.1.2.1 z.2.1.1.2.2.1 z.2.1.2.1.1 z.2.1.2.1.2.1 z.2.1.2.1.2.2.1=(eC (fun y=>some (.inl y)) (sj dw fun x=>some (.inr x)) z.2.1.1.1 z.2.1.1.2.1 z.2.1.1.2.2.1 z.2.1.2.1.1 z.2.1.2.1.2.1 z.2.1.2.1.2.2.1).bind (rV nx hx)
 unfold eC
 exact ae (ae (ae (ae (ae rfl rfl) rfl) rfl) rfl) rfl
def fA:cN.T->Option (wO dw):=Bt @mX
theorem qT b0_0 b0_1 b0_2 b1_0 b1_1 b1_2:fA (fu b0_0 b0_1 b0_2 b1_0 b1_1 b1_2)=eC fA (sj dw some) b0_0 b0_1 b0_2 b1_0 b1_1 b1_2:=jL qq _
def jM:eo:=⟨[1,2],[1,2],[1,2],[1,2]⟩
def lu:kF Rv:=⟨fun k=>match k with|2=>jM|_=>⟨[],[],[],[]⟩,fun k=>match k with|2=>some (ie cN dw fA)|_=>none⟩
theorem yd(n:Nat)(z:cN.T)(k:Ex->kp->Option Rv):dG ⟨40,40⟩ jM (uO (pL C0 ll) ⟨40,40⟩ lu 1 (cP Tryd.f129 1)) (n+1) (cN.enc z) k=
 mX (fun y=>dG ⟨40,40⟩ jM (uO (pL C0 ll) ⟨40,40⟩ lu 1 (cP Tryd.f129 1)) n (cN.enc y) k) (hK k dw) z:=by kernel_rfl
theorem zN:bP (pL C0 ll) ⟨40,40⟩ lu 1 (fF (dl Tryd.f129)):=by
 have hl:fF (dl Tryd.f129)=[cP Tryd.f129 1]:=by kernel_rfl
 rw[hl]
 exact bP.cons (n:=2) (lh:=jM) (S:=ie cN dw fA) (by kernel_rfl) rfl rfl (iX qq yd)
  (bP.nil)
def jE{R:Type}(kx:Nm->Option R)(a0:Nm):Option R:=
 Option.bind (fA (fu a0.1 a0.2.1 a0.2.2 (0:Int) (0:Int) (0:Int))) (jP dw
 (fun e226=>
  kx ((e226.2.1.1.1:Int),((e226.2.1.1.2.1:Int),(e226.2.1.1.2.2.1:Int))),()))
def cF(a0:Nm):Option (Nm):=jE some a0
theorem yR{R} kx a0: @jE R kx a0=(cF a0).bind kx:=by
 unfold cF jE
 exact bh ⟨fun _=>rfl,trivial⟩
abbrev pA:af:=.fx [.val true yN] (Nm) (fun z=>cF z.1) (fun b=>(.one ⟨true,[(.v (.int .i64 b.1)),(.v (.int .i64 b.2.1)),(.v (.int .i64 b.2.2))]⟩,[]))
theorem iZ:ag C0 129 pA:=
 ag.fx (e:=false) (t:=ll) (.nil) mixed Tryd.func129 (by kernel_rfl) (by kernel_rfl) lu 1 zN (fun z=>(by kernel_rfl:_=jE (fun b=>some (pA.enc b)) z.1).trans (yR _ z.1))
def lT{R:Type}(kx:Nm->Option R)(a0:Nm)(a1:Nm):Option R:=
 cond (decide ((IntKind.wrap .i64 ((if(Bool.true=Bool.true)then(if(a1.2.2>a0.2.2)then a1.2.2 else a0.2.2)else(if(a1.2.2<a0.2.2)then a1.2.2 else a0.2.2))-a0.2.2))<(0:Int)))
 none
 (cond (decide ((IntKind.wrap .i64 ((if(Bool.true=Bool.true)then(if(a1.2.2>a0.2.2)then a1.2.2 else a0.2.2)else(if(a1.2.2<a0.2.2)then a1.2.2 else a0.2.2))-a1.2.2))<(0:Int)))
  none
  (cond (decide ((IntKind.wrap .i64 ((if(Bool.true=Bool.true)then(if(a1.2.2>a0.2.2)then a1.2.2 else a0.2.2)else(if(a1.2.2<a0.2.2)then a1.2.2 else a0.2.2))-a0.2.2))<(0:Int)))
   none
   (cond (decide ((IntKind.wrap .i64 ((if(Bool.true=Bool.true)then(if(a1.2.2>a0.2.2)then a1.2.2 else a0.2.2)else(if(a1.2.2<a0.2.2)then a1.2.2 else a0.2.2))-a1.2.2))<(0:Int)))
    none
    (Option.bind (cF ((IntKind.wrap .i64 ((IntKind.wrap .i64 (a0.1*((2:Int)^(Min.min (Int.toNat (IntKind.wrap .i64 ((if(Bool.true=Bool.true)then(if(a1.2.2>a0.2.2)then a1.2.2 else a0.2.2)else(if(a1.2.2<a0.2.2)then a1.2.2 else a0.2.2))-a0.2.2))) 64))))+(IntKind.wrap .i64 (a1.1*((2:Int)^(Min.min (Int.toNat (IntKind.wrap .i64 ((if(Bool.true=Bool.true)then(if(a1.2.2>a0.2.2)then a1.2.2 else a0.2.2)else(if(a1.2.2<a0.2.2)then a1.2.2 else a0.2.2))-a1.2.2))) 64)))))),((IntKind.wrap .i64 ((IntKind.wrap .i64 (a0.2.1*((2:Int)^(Min.min (Int.toNat (IntKind.wrap .i64 ((if(Bool.true=Bool.true)then(if(a1.2.2>a0.2.2)then a1.2.2 else a0.2.2)else(if(a1.2.2<a0.2.2)then a1.2.2 else a0.2.2))-a0.2.2))) 64))))+(IntKind.wrap .i64 (a1.2.1*((2:Int)^(Min.min (Int.toNat (IntKind.wrap .i64 ((if(Bool.true=Bool.true)then(if(a1.2.2>a0.2.2)then a1.2.2 else a0.2.2)else(if(a1.2.2<a0.2.2)then a1.2.2 else a0.2.2))-a1.2.2))) 64)))))),(if(Bool.true=Bool.true)then(if(a1.2.2>a0.2.2)then a1.2.2 else a0.2.2)else(if(a1.2.2<a0.2.2)then a1.2.2 else a0.2.2))))) fun y233=>
     kx y233))))
def dj(a0:Nm)(a1:Nm):Option (Nm):=lT some a0 a1
theorem Ce{R} kx a0 a1: @lT R kx a0 a1=(dj a0 a1).bind kx:=by
 unfold dj lT
 exact ae rfl (ae rfl (ae rfl (ae rfl (ac fun _=>rfl))))
abbrev xy:af:=.fx [.val true yN, .val true yN] (Nm) (fun z=>dj z.1 z.2.1) (fun b=>(.one ⟨true,[(.v (.int .i64 b.1)),(.v (.int .i64 b.2.1)),(.v (.int .i64 b.2.2))]⟩,[]))
theorem jm:ag C0 76 xy:=
 ag.fx (e:=false) (.cons iZ (.nil)) mixed Tryd.func76 (by kernel_rfl) (by kernel_rfl) aW 1 aq (fun z=>(by kernel_rfl:_=lT (fun b=>some (xy.enc b)) z.1 z.2.1).trans (Ce _ z.1 z.2.1))
def kV{R:Type}(kx:Nm->Option R)(a0:Nm)(a1:Nm):Option R:=
 Option.bind (bO a1) fun y216=>
 Option.bind (dj a0 y216) fun y234=>
 kx y234
def bS(a0:Nm)(a1:Nm):Option (Nm):=kV some a0 a1
theorem A7{R} kx a0 a1: @kV R kx a0 a1=(bS a0 a1).bind kx:=by
 unfold bS kV
 exact ac fun _=>ac fun _=>rfl
abbrev wm:af:=.fx [.val true yN, .val true yN] (Nm) (fun z=>bS z.1 z.2.1) (fun b=>(.one ⟨true,[(.v (.int .i64 b.1)),(.v (.int .i64 b.2.1)),(.v (.int .i64 b.2.2))]⟩,[]))
theorem fU:ag C0 112 wm:=
 ag.fx (e:=false) (.cons xF (.cons jm (.nil))) mixed Tryd.func112 (by kernel_rfl) (by kernel_rfl) aW 1 aq (fun z=>(by kernel_rfl:_=kV (fun b=>some (wm.enc b)) z.1 z.2.1).trans (A7 _ z.1 z.2.1))
def jF{R:Type}(kx:Pt->Option R)(a0:Pt)(a1:Pt):Option R:=
 Option.bind (bS a0.1 a1.1) fun y235=>
 Option.bind (bS a0.2 a1.2) fun y236=>
 kx (y235,y236)
def jt(a0:Pt)(a1:Pt):Option (Pt):=jF some a0 a1
theorem yT{R} kx a0 a1: @jF R kx a0 a1=(jt a0 a1).bind kx:=by
 unfold jt jF
 exact ac fun _=>ac fun _=>rfl
abbrev pC:af:=.fx [.val true yP, .val true yP] (Pt) (fun z=>jt z.1 z.2.1) (fun b=>(.one ⟨true,[(.v (.int .i64 b.1.1)),(.v (.int .i64 b.1.2.1)),(.v (.int .i64 b.1.2.2)),(.v (.int .i64 b.2.1)),(.v (.int .i64 b.2.2.1)),(.v (.int .i64 b.2.2.2))]⟩,[]))
theorem Ae:ag C0 114 pC:=
 ag.fx (e:=false) (.cons fU (.nil)) mixed Tryd.func114 (by kernel_rfl) (by kernel_rfl) aW 1 aq (fun z=>(by kernel_rfl:_=jF (fun b=>some (pC.enc b)) z.1 z.2.1).trans (yT _ z.1 z.2.1))
def rF{R:Type}(kx:Pt->Option R)(a0:Int):Option R:=
 cond (decide (a0>=(8:Int)))
 (cond (decide ((IntKind.wrap .i64 (a0-(8:Int)))=((0:Nat):Int)))
  (Option.bind (bO ((1:Int),((0:Int),(0:Int)))) fun y246=>
   Option.bind (bO ((0:Int),((0:Int),(0:Int)))) fun y247=>
   kx (y246,y247))
  (cond (decide ((IntKind.wrap .i64 (a0-(8:Int)))=(((0+1):Nat):Int)))
   (Option.bind (bO ((1:Int),((0:Int),(0:Int)))) fun y248=>
    Option.bind (bO ((-(1:Int)),((1:Int),(0:Int)))) fun y249=>
    kx (y248,y249))
   (cond (decide ((IntKind.wrap .i64 (a0-(8:Int)))=((((0+1)+1):Nat):Int)))
    (Option.bind (bO ((1:Int),((0:Int),(0:Int)))) fun y250=>
     Option.bind (bO ((1:Int),((0:Int),(0:Int)))) fun y251=>
     kx (y250,y251))
    (cond (decide ((IntKind.wrap .i64 (a0-(8:Int)))=(((((0+1)+1)+1):Nat):Int)))
     (Option.bind (bO ((-(1:Int)),((1:Int),(0:Int)))) fun y252=>
      Option.bind (bO ((1:Int),((0:Int),(0:Int)))) fun y253=>
      kx (y252,y253))
     (cond (decide ((IntKind.wrap .i64 (a0-(8:Int)))=((((((0+1)+1)+1)+1):Nat):Int)))
      (Option.bind (bO ((0:Int),((0:Int),(0:Int)))) fun y254=>
       Option.bind (bO ((1:Int),((0:Int),(0:Int)))) fun y255=>
       kx (y254,y255))
      (cond (decide ((IntKind.wrap .i64 (a0-(8:Int)))=(((((((0+1)+1)+1)+1)+1):Nat):Int)))
       (Option.bind (bO ((1:Int),((-(1:Int)),(0:Int)))) fun y256=>
        Option.bind (bO ((1:Int),((0:Int),(0:Int)))) fun y257=>
        kx (y256,y257))
       (cond (decide ((IntKind.wrap .i64 (a0-(8:Int)))=((((((((0+1)+1)+1)+1)+1)+1):Nat):Int)))
        (Option.bind (bO ((-(1:Int)),((0:Int),(0:Int)))) fun y258=>
         Option.bind (bO ((1:Int),((0:Int),(0:Int)))) fun y259=>
         kx (y258,y259))
        (cond (decide ((IntKind.wrap .i64 (a0-(8:Int)))=(((((((((0+1)+1)+1)+1)+1)+1)+1):Nat):Int)))
         (Option.bind (bO ((-(1:Int)),((0:Int),(0:Int)))) fun y260=>
          Option.bind (bO ((-(1:Int)),((1:Int),(0:Int)))) fun y261=>
          kx (y260,y261))
         none))))))))
 (cond (decide (a0=((0:Nat):Int)))
  (kx (((1:Int),((0:Int),(0:Int))),((0:Int),((0:Int),(0:Int)))))
  (cond (decide (a0=(((0+1):Nat):Int)))
   (kx (((1:Int),((0:Int),(0:Int))),((-(1:Int)),((1:Int),(0:Int)))))
   (cond (decide (a0=((((0+1)+1):Nat):Int)))
    (kx (((1:Int),((0:Int),(0:Int))),((1:Int),((0:Int),(0:Int)))))
    (cond (decide (a0=(((((0+1)+1)+1):Nat):Int)))
     (kx (((-(1:Int)),((1:Int),(0:Int))),((1:Int),((0:Int),(0:Int)))))
     (cond (decide (a0=((((((0+1)+1)+1)+1):Nat):Int)))
      (kx (((0:Int),((0:Int),(0:Int))),((1:Int),((0:Int),(0:Int)))))
      (cond (decide (a0=(((((((0+1)+1)+1)+1)+1):Nat):Int)))
       (kx (((1:Int),((-(1:Int)),(0:Int))),((1:Int),((0:Int),(0:Int)))))
       (cond (decide (a0=((((((((0+1)+1)+1)+1)+1)+1):Nat):Int)))
        (kx (((-(1:Int)),((0:Int),(0:Int))),((1:Int),((0:Int),(0:Int)))))
        (cond (decide (a0=(((((((((0+1)+1)+1)+1)+1)+1)+1):Nat):Int)))
         (kx (((-(1:Int)),((0:Int),(0:Int))),((-(1:Int)),((1:Int),(0:Int)))))
         none))))))))
def ku(a0:Int):Option (Pt):=rF some a0
theorem EI{R} kx a0: @rF R kx a0=(ku a0).bind kx:=by
 unfold ku rF
 exact ae (ae (ac fun _=>ac fun _=>rfl) (ae (ac fun _=>ac fun _=>rfl) (ae (ac fun _=>ac fun _=>rfl) (ae (ac fun _=>ac fun _=>rfl) (ae (ac fun _=>ac fun _=>rfl) (ae (ac fun _=>ac fun _=>rfl) (ae (ac fun _=>ac fun _=>rfl) (ae (ac fun _=>ac fun _=>rfl) rfl)))))))) (ae rfl (ae rfl (ae rfl (ae rfl (ae rfl (ae rfl (ae rfl (ae rfl rfl))))))))
abbrev vM:af:=.fx [.val false (.int .i64)] (Pt) (fun z=>ku z.1) (fun b=>(.one ⟨true,[(.v (.int .i64 b.1.1)),(.v (.int .i64 b.1.2.1)),(.v (.int .i64 b.1.2.2)),(.v (.int .i64 b.2.1)),(.v (.int .i64 b.2.2.1)),(.v (.int .i64 b.2.2.2))]⟩,[]))
theorem uv:ag C0 115 vM:=
 ag.fx (e:=false) (.cons xF (.nil)) mixed Tryd.func115 (by kernel_rfl) (by kernel_rfl) aW 1 aq (fun z=>(by kernel_rfl:_=rF (fun b=>some (vM.enc b)) z.1).trans (EI _ z.1))
def kW{R:Type}(kx:Nm->Option R)(a0:Nm)(a1:Nm):Option R:=
 Option.bind (cF ((IntKind.wrap .i64 ((IntKind.wrap .i64 (a0.1*a1.1))+(IntKind.wrap .i64 ((IntKind.wrap .i64 ((2:Int)*a0.2.1))*a1.2.1)))),((IntKind.wrap .i64 ((IntKind.wrap .i64 (a0.1*a1.2.1))+(IntKind.wrap .i64 (a0.2.1*a1.1)))),(IntKind.wrap .i64 (a0.2.2+a1.2.2))))) fun y267=>
 kx y267
def bZ(a0:Nm)(a1:Nm):Option (Nm):=kW some a0 a1
theorem A8{R} kx a0 a1: @kW R kx a0 a1=(bZ a0 a1).bind kx:=by
 unfold bZ kW
 exact ac fun _=>rfl
abbrev qZ:af:=.fx [.val true yN, .val true yN] (Nm) (fun z=>bZ z.1 z.2.1) (fun b=>(.one ⟨true,[(.v (.int .i64 b.1)),(.v (.int .i64 b.2.1)),(.v (.int .i64 b.2.2))]⟩,[]))
theorem iF:ag C0 121 qZ:=
 ag.fx (e:=false) (.cons iZ (.nil)) mixed Tryd.func121 (by kernel_rfl) (by kernel_rfl) aW 1 aq (fun z=>(by kernel_rfl:_=kW (fun b=>some (qZ.enc b)) z.1 z.2.1).trans (A8 _ z.1 z.2.1))
def gP{R:Type}(kx:Nm->Option R)(a0:Pt)(a1:Pt):Option R:=
 Option.bind (bZ a0.1 a1.2) fun y268=>
 Option.bind (bZ a0.2 a1.1) fun y269=>
 Option.bind (bS y268 y269) fun y270=>
 kx y270
def ey(a0:Pt)(a1:Pt):Option (Nm):=gP some a0 a1
theorem yS{R} kx a0 a1: @gP R kx a0 a1=(ey a0 a1).bind kx:=by
 unfold ey gP
 exact ac fun _=>ac fun _=>ac fun _=>rfl
abbrev pB:af:=.fx [.val true yP, .val true yP] (Nm) (fun z=>ey z.1 z.2.1) (fun b=>(.one ⟨true,[(.v (.int .i64 b.1)),(.v (.int .i64 b.2.1)),(.v (.int .i64 b.2.2))]⟩,[]))
theorem sX:ag C0 116 pB:=
 ag.fx (e:=false) (.cons iF (.cons fU (.nil))) mixed Tryd.func116 (by kernel_rfl) (by kernel_rfl) aW 1 aq (fun z=>(by kernel_rfl:_=gP (fun b=>some (pB.enc b)) z.1 z.2.1).trans (yS _ z.1 z.2.1))
def kX{R:Type}(kx:Nm->Option R)(a0:Pt)(a1:Pt):Option R:=
 Option.bind (bZ a0.1 a1.1) fun y274=>
 Option.bind (bZ a0.2 a1.2) fun y275=>
 Option.bind (dj y274 y275) fun y276=>
 kx y276
def ca(a0:Pt)(a1:Pt):Option (Nm):=kX some a0 a1
theorem A9{R} kx a0 a1: @kX R kx a0 a1=(ca a0 a1).bind kx:=by
 unfold ca kX
 exact ac fun _=>ac fun _=>ac fun _=>rfl
abbrev rc:af:=.fx [.val true yP, .val true yP] (Nm) (fun z=>ca z.1 z.2.1) (fun b=>(.one ⟨true,[(.v (.int .i64 b.1)),(.v (.int .i64 b.2.1)),(.v (.int .i64 b.2.2))]⟩,[]))
theorem iG:ag C0 111 rc:=
 ag.fx (e:=false) (.cons iF (.cons jm (.nil))) mixed Tryd.func111 (by kernel_rfl) (by kernel_rfl) aW 1 aq (fun z=>(by kernel_rfl:_=kX (fun b=>some (rc.enc b)) z.1 z.2.1).trans (A9 _ z.1 z.2.1))
def oC{R:Type}(kx:Int->Option R)(a0:Int):Option R:=
 kx (if(Bool.true=Bool.true)then(if((if(Bool.false=Bool.true)then(if(a0>(1:Int))then a0 else(1:Int))else(if(a0<(1:Int))then a0 else(1:Int)))>(-(1:Int)))then(if(Bool.false=Bool.true)then(if(a0>(1:Int))then a0 else(1:Int))else(if(a0<(1:Int))then a0 else(1:Int)))else(-(1:Int)))else(if((if(Bool.false=Bool.true)then(if(a0>(1:Int))then a0 else(1:Int))else(if(a0<(1:Int))then a0 else(1:Int)))<(-(1:Int)))then(if(Bool.false=Bool.true)then(if(a0>(1:Int))then a0 else(1:Int))else(if(a0<(1:Int))then a0 else(1:Int)))else(-(1:Int))))
def kt(a0:Int):Option (Int):=oC some a0
theorem EH{R} kx a0: @oC R kx a0=(kt a0).bind kx:=by
 unfold kt oC
 exact rfl
abbrev Ao:af:=.fx [.val false (.int .i64)] (Int) (fun z=>kt z.1) (fun b=>(.one ⟨false,[(.v (.int .i64 b))]⟩,[]))
theorem GR:ag C0 154 Ao:=
 ag.fx (e:=false) (.nil) mixed Tryd.func154 (by kernel_rfl) (by kernel_rfl) aW 1 aq (fun z=>(by kernel_rfl:_=oC (fun b=>some (Ao.enc b)) z.1).trans (EH _ z.1))
def rj{R:Type}(kx:Int->Option R)(a0:Int):Option R:=
 kx (if(Bool.true=Bool.true)then(if((IntKind.wrap .i64 ((0:Int)-a0))>a0)then(IntKind.wrap .i64 ((0:Int)-a0))else a0)else(if((IntKind.wrap .i64 ((0:Int)-a0))<a0)then(IntKind.wrap .i64 ((0:Int)-a0))else a0))
def kr(a0:Int):Option (Int):=rj some a0
theorem Jd{R} kx a0: @rj R kx a0=(kr a0).bind kx:=by
 unfold kr rj
 exact rfl
abbrev F4:af:=.fx [.val false (.int .i64)] (Int) (fun z=>kr z.1) (fun b=>(.one ⟨false,[(.v (.int .i64 b))]⟩,[]))
theorem Kr:ag C0 165 F4:=
 ag.fx (e:=false) (.nil) mixed Tryd.func165 (by kernel_rfl) (by kernel_rfl) aW 1 aq (fun z=>(by kernel_rfl:_=rj (fun b=>some (F4.enc b)) z.1).trans (Jd _ z.1))
def iI{R:Type}(kx:Int×Int->Option R)(a0:Int)(a1:Int):Option R:=
 kx ((IntKind.wrap IntKind.u64 ((IntKind.wrap IntKind.u64 ((IntKind.wrap IntKind.u64 ((Int.fdiv a0 ((2:Int)^(Min.min (Int.toNat (32:Int)) 64)))*(Int.fdiv a1 ((2:Int)^(Min.min (Int.toNat (32:Int)) 64)))))+(Int.fdiv (IntKind.wrap IntKind.u64 ((IntKind.wrap IntKind.u64 ((Int.fdiv a0 ((2:Int)^(Min.min (Int.toNat (32:Int)) 64)))*(IntKind.wrap IntKind.u64 (((BitVec.toNat ((BitVec.ofInt 64 a1)&&&(BitVec.ofInt 64 (4294967295:Int)))):Nat):Int))))+(Int.fdiv (IntKind.wrap IntKind.u64 ((IntKind.wrap IntKind.u64 (((BitVec.toNat ((BitVec.ofInt 64 a0)&&&(BitVec.ofInt 64 (4294967295:Int)))):Nat):Int))*(IntKind.wrap IntKind.u64 (((BitVec.toNat ((BitVec.ofInt 64 a1)&&&(BitVec.ofInt 64 (4294967295:Int)))):Nat):Int)))) ((2:Int)^(Min.min (Int.toNat (32:Int)) 64))))) ((2:Int)^(Min.min (Int.toNat (32:Int)) 64)))))+(Int.fdiv (IntKind.wrap IntKind.u64 ((IntKind.wrap IntKind.u64 (((BitVec.toNat ((BitVec.ofInt 64 (IntKind.wrap IntKind.u64 ((IntKind.wrap IntKind.u64 ((Int.fdiv a0 ((2:Int)^(Min.min (Int.toNat (32:Int)) 64)))*(IntKind.wrap IntKind.u64 (((BitVec.toNat ((BitVec.ofInt 64 a1)&&&(BitVec.ofInt 64 (4294967295:Int)))):Nat):Int))))+(Int.fdiv (IntKind.wrap IntKind.u64 ((IntKind.wrap IntKind.u64 (((BitVec.toNat ((BitVec.ofInt 64 a0)&&&(BitVec.ofInt 64 (4294967295:Int)))):Nat):Int))*(IntKind.wrap IntKind.u64 (((BitVec.toNat ((BitVec.ofInt 64 a1)&&&(BitVec.ofInt 64 (4294967295:Int)))):Nat):Int)))) ((2:Int)^(Min.min (Int.toNat (32:Int)) 64))))))&&&(BitVec.ofInt 64 (4294967295:Int)))):Nat):Int))+(IntKind.wrap IntKind.u64 ((IntKind.wrap IntKind.u64 (((BitVec.toNat ((BitVec.ofInt 64 a0)&&&(BitVec.ofInt 64 (4294967295:Int)))):Nat):Int))*(Int.fdiv a1 ((2:Int)^(Min.min (Int.toNat (32:Int)) 64))))))) ((2:Int)^(Min.min (Int.toNat (32:Int)) 64))))),(IntKind.wrap IntKind.u64 (a0*a1)))
def er(a0:Int)(a1:Int):Option (Int×Int):=iI some a0 a1
theorem zX{R} kx a0 a1: @iI R kx a0 a1=(er a0 a1).bind kx:=by
 unfold er iI
 exact rfl
abbrev vj:af:=.fx [.val false (.int .u64), .val false (.int .u64)] (Int×Int) (fun z=>er z.1 z.2.1) (fun b=>(.tup [⟨false,[(.v (.int .u64 b.1))]⟩,⟨false,[(.v (.int .u64 b.2))]⟩],[]))
theorem Bp:ag C0 169 vj:=
 ag.fx (e:=false) (.nil) mixed Tryd.func169 (by kernel_rfl) (by kernel_rfl) aW 1 aq (fun z=>(by kernel_rfl:_=iI (fun b=>some (vj.enc b)) z.1 z.2.1).trans (zX _ z.1 z.2.1))
def jn{R:Type}(kx:Bool->Option R)(a0:Int)(a1:Int):Option R:=
 Option.bind (kr a0) fun y285=>
 Option.bind (kr a0) fun y286=>
 Option.bind (er (IntKind.wrap IntKind.u64 y285) (IntKind.wrap IntKind.u64 y286)) fun y289=>
 Option.bind (kr a1) fun y290=>
 Option.bind (kr a1) fun y291=>
 Option.bind (er (IntKind.wrap IntKind.u64 y290) (IntKind.wrap IntKind.u64 y291)) fun y292=>
 cond (decide (y289.1>(IntKind.wrap IntKind.u64 (((BitVec.toNat ((BitVec.ofInt 64 (IntKind.wrap IntKind.u64 (y292.1*((2:Int)^(Min.min (Int.toNat (1:Int)) 64)))))|||(BitVec.ofInt 64 (Int.fdiv y292.2 ((2:Int)^(Min.min (Int.toNat (63:Int)) 64)))))):Nat):Int))))
 (kx Bool.true)
 (cond (y289.1==(IntKind.wrap IntKind.u64 (((BitVec.toNat ((BitVec.ofInt 64 (IntKind.wrap IntKind.u64 (y292.1*((2:Int)^(Min.min (Int.toNat (1:Int)) 64)))))|||(BitVec.ofInt 64 (Int.fdiv y292.2 ((2:Int)^(Min.min (Int.toNat (63:Int)) 64)))))):Nat):Int)))
  (kx (decide (y289.2>(IntKind.wrap IntKind.u64 (y292.2*((2:Int)^(Min.min (Int.toNat (1:Int)) 64)))))))
  (kx Bool.false))
def eJ(a0:Int)(a1:Int):Option (Bool):=jn some a0 a1
theorem Bc{R} kx a0 a1: @jn R kx a0 a1=(eJ a0 a1).bind kx:=by
 unfold eJ jn
 exact ac fun _=>ac fun _=>ac fun _=>ac fun _=>ac fun _=>ac fun _=>ae rfl (ae rfl rfl)
abbrev wo:af:=.fx [.val false (.int .i64), .val false (.int .i64)] (Bool) (fun z=>eJ z.1 z.2.1) (fun b=>(.one ⟨false,[(.v (.bool b))]⟩,[]))
theorem CH:ag C0 155 wo:=
 ag.fx (e:=false) (.cons Kr (.cons Bp (.nil))) mixed Tryd.func155 (by kernel_rfl) (by kernel_rfl) aW 1 aq (fun z=>(by kernel_rfl:_=jn (fun b=>some (wo.enc b)) z.1 z.2.1).trans (Bc _ z.1 z.2.1))
def lU{R:Type}(kx:Int->Option R)(a0:Nm):Option R:=
 Option.bind (kt a0.1) fun y280=>
 Option.bind (kt a0.2.1) fun y281=>
 cond (y280==y281)
 (kx y280)
 (cond (y281==(0:Int))
  (kx y280)
  (cond (y280==(0:Int))
   (kx y281)
   (Option.bind (eJ a0.1 a0.2.1) fun y293=>
    cond (!y293)
    (kx y281)
    (kx y280))))
def dk(a0:Nm):Option (Int):=lU some a0
theorem Cf{R} kx a0: @lU R kx a0=(dk a0).bind kx:=by
 unfold dk lU
 exact ac fun _=>ac fun _=>ae rfl (ae rfl (ae rfl (ac fun _=>ae rfl rfl)))
abbrev sw:af:=.fx [.val true yN] (Int) (fun z=>dk z.1) (fun b=>(.one ⟨false,[(.v (.int .i64 b))]⟩,[]))
theorem rh:ag C0 113 sw:=
 ag.fx (e:=false) (.cons GR (.cons CH (.nil))) mixed Tryd.func113 (by kernel_rfl) (by kernel_rfl) aW 1 aq (fun z=>(by kernel_rfl:_=lU (fun b=>some (sw.enc b)) z.1).trans (Cf _ z.1))
def ng:List (FuncId×af):=[(114,pC),(115,vM),(116,pB),(111,rc),(113,sw)]
abbrev dx:LS:=⟨[(false,[(.ptr 5 0)]),(false,[(.int .i64)])],[(false,[(.int .i64),(.int .i64),(.int .i64),(.int .i64),(.int .i64),(.int .i64)])],[]⟩
abbrev rR:LS:=⟨[(false,[(.int .i64)])],[],[]⟩
abbrev rP(v0:Int):=((((v0,()),()),(),()):rR.T)
abbrev rS:LS:=⟨[(false,[.undef])],[],[]⟩
abbrev rQ:=(((((),()),()),(),()):rS.T)
abbrev dR:List (Ex×LS):=[(.ret,rR),(.exit 0,rS)]
abbrev gO(x11:Int)(b0_0:Int)(b0_1:Int)(b0_2:Int)(b0_3:Int)(b0_4:Int)(b0_5:Int):=(((((),()),(x11,()),()),((b0_0,b0_1,b0_2,b0_3,b0_4,b0_5,()),()),()):dx.T)
def fm{R:Type}(nx:dx.T->Option R)(hx:mJ R dR)(x11:Int)(b0_0:Int)(b0_1:Int)(b0_2:Int)(b0_3:Int)(b0_4:Int)(b0_5:Int):Option R:=
 cond (decide (x11<(16:Int)))
 (Option.bind (ku x11) fun y262=>
  Option.bind (ey y262 ((b0_0,(b0_1,b0_2)),(b0_3,(b0_4,b0_5)))) fun y271=>
  cond ((y271.1==(0:Int))&&((y271.2.1==(0:Int))&&((y271.2.2==(0:Int))&&Bool.true)))
  (Option.bind (ca y262 ((b0_0,(b0_1,b0_2)),(b0_3,(b0_4,b0_5)))) fun y277=>
   Option.bind (dk y277) fun y294=>
   cond (decide (y294>(0:Int)))
   (hx.1 (rP x11))
   (nx (gO (IntKind.wrap .i64 (x11+(1:Int))) b0_0 b0_1 b0_2 b0_3 b0_4 b0_5)))
  (nx (gO (IntKind.wrap .i64 (x11+(1:Int))) b0_0 b0_1 b0_2 b0_3 b0_4 b0_5)))
 (hx.2.1 (rQ))
def pK{R:Type}(nx:dx.T->Option R)(hx:mJ R dR)(z:dx.T):Option R:=fm nx hx z.1.2.1.1 z.2.1.1.1 z.2.1.1.2.1 z.2.1.1.2.2.1 z.2.1.1.2.2.2.1 z.2.1.1.2.2.2.2.1 z.2.1.1.2.2.2.2.2.1
theorem rZ:fe @pK:=fun R nx hx z=>by
 show fm nx hx z.1.2.1.1 z.2.1.1.1 z.2.1.1.2.1 z.2.1.1.2.2.1 z.2.1.1.2.2.2.1 z.2.1.1.2.2.2.2.1 z.2.1.1.2.2.2.2.2.1=(fm (fun y=>some (.inl y)) (sj dR fun x=>some (.inr x)) z.1.2.1.1 z.2.1.1.1 z.2.1.1.2.1 z.2.1.1.2.2.1 z.2.1.1.2.2.2.1 z.2.1.1.2.2.2.2.1 z.2.1.1.2.2.2.2.2.1).bind (rV nx hx)
 unfold fm
 exact ae (ac fun _=>ac fun _=>ae (ac fun _=>ac fun _=>ae rfl rfl) rfl) rfl
def fo:dx.T->Option (wO dR):=Bt @pK
theorem sZ x11 b0_0 b0_1 b0_2 b0_3 b0_4 b0_5:fo (gO x11 b0_0 b0_1 b0_2 b0_3 b0_4 b0_5)=fm fo (sj dR some) x11 b0_0 b0_1 b0_2 b0_3 b0_4 b0_5:=jL rZ _
def kI:eo:=⟨[5,11],[5],[4],[]⟩
def nl:kF Rv:=⟨fun k=>match k with|4=>kI|_=>⟨[],[],[],[]⟩,fun k=>match k with|4=>some (ie dx dR fo)|_=>none⟩
theorem Ai(n:Nat)(z:dx.T)(k:Ex->kp->Option Rv):dG ⟨30,30⟩ kI (uO (pL C0 ng) ⟨30,30⟩ nl 1 (cP Tryd.f67 3)) (n+1) (dx.enc z) k=
 pK (fun y=>dG ⟨30,30⟩ kI (uO (pL C0 ng) ⟨30,30⟩ nl 1 (cP Tryd.f67 3)) n (dx.enc y) k) (hK k dR) z:=by kernel_rfl
theorem BV:bP (pL C0 ng) ⟨30,30⟩ nl 1 (fF (dl Tryd.f67)):=by
 have hl:fF (dl Tryd.f67)=[cP Tryd.f67 3]:=by kernel_rfl
 rw[hl]
 exact bP.cons (n:=4) (lh:=kI) (S:=ie dx dR fo) (by kernel_rfl) rfl rfl (iX rZ Ai)
  (bP.nil)
def kZ{R:Type}(kx:Int->Option R)(a0:Pt)(a1:Pt):Option R:=
 Option.bind (jt a1 a0) fun y237=>
 Option.bind (fo (gO (0:Int) y237.1.1 y237.1.2.1 y237.1.2.2 y237.2.1 y237.2.2.1 y237.2.2.2)) (jP dR
 (fun e295=>
  kx (e295.1.1.1:Int),fun _=>
  kx (-(1:Int)),()))
def gK(a0:Pt)(a1:Pt):Option (Int):=kZ some a0 a1
theorem Bb{R} kx a0 a1: @kZ R kx a0 a1=(gK a0 a1).bind kx:=by
 unfold gK kZ
 exact ac fun _=>bh ⟨fun _=>rfl,fun _=>rfl,trivial⟩
abbrev wn:af:=.fx [.val true yP, .val true yP] (Int) (fun z=>gK z.1 z.2.1) (fun b=>(.one ⟨false,[(.v (.int .i64 b))]⟩,[]))
theorem vz:ag C0 67 wn:=
 ag.fx (e:=false) (t:=ng) (.cons Ae (.cons uv (.cons sX (.cons iG (.cons rh (.nil)))))) mixed Tryd.func67 (by kernel_rfl) (by kernel_rfl) nl 1 BV (fun z=>(by kernel_rfl:_=kZ (fun b=>some (wn.enc b)) z.1 z.2.1).trans (Bb _ z.1 z.2.1))
def cU{R:Type}(kx:Pt->Option R)(a0:Ln):Option R:=
 Option.bind (ku (IntKind.wrap .i64 (a0.1+(4:Int)))) fun y302=>
 kx y302
def bH(a0:Ln):Option (Pt):=cU some a0
theorem yM{R} kx a0: @cU R kx a0=(bH a0).bind kx:=by
 unfold bH cU
 exact ac fun _=>rfl
abbrev ub:af:=.fx [.val true yL] (Pt) (fun z=>bH z.1) (fun b=>(.one ⟨true,[(.v (.int .i64 b.1.1)),(.v (.int .i64 b.1.2.1)),(.v (.int .i64 b.1.2.2)),(.v (.int .i64 b.2.1)),(.v (.int .i64 b.2.2.1)),(.v (.int .i64 b.2.2.2))]⟩,[]))
theorem gd:ag C0 110 ub:=
 ag.fx (e:=false) (.cons uv (.nil)) mixed Tryd.func110 (by kernel_rfl) (by kernel_rfl) aW 1 aq (fun z=>(by kernel_rfl:_=cU (fun b=>some (ub.enc b)) z.1).trans (yM _ z.1))
def oB{R:Type}(kx:Ln->Option R)(a0:Pt)(a1:Int):Option R:=
 Option.bind (bH (a1,((0:Int),((0:Int),(0:Int))))) fun y303=>
 Option.bind (ca y303 a0) fun y304=>
 kx (a1,y304)
def dF(a0:Pt)(a1:Int):Option (Ln):=oB some a0 a1
theorem EF{R} kx a0 a1: @oB R kx a0 a1=(dF a0 a1).bind kx:=by
 unfold dF oB
 exact ac fun _=>ac fun _=>rfl
abbrev vL:af:=.fx [.val true yP, .val false (.int .i64)] (Ln) (fun z=>dF z.1 z.2.1) (fun b=>(.one ⟨true,[(.v (.int .i64 b.1)),(.v (.int .i64 b.2.1)),(.v (.int .i64 b.2.2.1)),(.v (.int .i64 b.2.2.2))]⟩,[]))
theorem kP:ag C0 69 vL:=
 ag.fx (e:=false) (.cons gd (.cons iG (.nil))) mixed Tryd.func69 (by kernel_rfl) (by kernel_rfl) aW 1 aq (fun z=>(by kernel_rfl:_=oB (fun b=>some (vL.enc b)) z.1 z.2.1).trans (EF _ z.1 z.2.1))
def jB{R:Type}(kx:Ln×Int->Option R)(a0:Pt)(a1:Pt):Option R:=
 Option.bind (bz a0) fun y207=>
 cond (!y207)
 (kx (((0:Int),((0:Int),((0:Int),(0:Int)))),(1:Int)))
 (Option.bind (bz a1) fun y208=>
  cond (!y208)
  (kx (((0:Int),((0:Int),((0:Int),(0:Int)))),(1:Int)))
  (Option.bind (gK a0 a1) fun y298=>
   cond (decide (y298<(0:Int)))
   (kx (((0:Int),((0:Int),((0:Int),(0:Int)))),(7:Int)))
   (Option.bind (dF a0 (Int.tmod y298 (8:Int))) fun y305=>
    Option.bind (dA y305.2) fun y306=>
    cond (!y306)
    (kx (((0:Int),((0:Int),((0:Int),(0:Int)))),(2:Int)))
    (kx (y305,(0:Int))))))
def gG(a0:Pt)(a1:Pt):Option (Ln×Int):=jB some a0 a1
theorem yK{R} kx a0 a1: @jB R kx a0 a1=(gG a0 a1).bind kx:=by
 unfold gG jB
 exact ac fun _=>ae rfl (ac fun _=>ae rfl (ac fun _=>ae rfl (ac fun _=>ac fun _=>ae rfl rfl)))
abbrev ua:af:=.fx [.val true yP, .val true yP] (Ln×Int) (fun z=>gG z.1 z.2.1) (fun b=>(.tup [⟨true,[(.v (.int .i64 b.1.1)),(.v (.int .i64 b.1.2.1)),(.v (.int .i64 b.1.2.2.1)),(.v (.int .i64 b.1.2.2.2))]⟩,⟨false,[(.v (.int .i64 b.2))]⟩],[]))
theorem Ab:ag C0 65 ua:=
 ag.fx (e:=false) (.cons dL (.cons vz (.cons kP (.cons ny (.nil))))) mixed Tryd.func65 (by kernel_rfl) (by kernel_rfl) aW 1 aq (fun z=>(by kernel_rfl:_=jB (fun b=>some (ua.enc b)) z.1 z.2.1).trans (yK _ z.1 z.2.1))
def jA{R:Type}(kx:Ln×Int->Option R)(a0:Pt)(a1:Pt):Option R:=
 Option.bind (gG a0 a1) fun y307=>
 kx y307
def fi(a0:Pt)(a1:Pt):Option (Ln×Int):=jA some a0 a1
theorem yJ{R} kx a0 a1: @jA R kx a0 a1=(fi a0 a1).bind kx:=by
 unfold fi jA
 exact ac fun _=>rfl
abbrev pz:af:=.fx [.val true yP, .val true yP] (Ln×Int) (fun z=>fi z.1 z.2.1) (fun b=>(.tup [⟨true,[(.v (.int .i64 b.1.1)),(.v (.int .i64 b.1.2.1)),(.v (.int .i64 b.1.2.2.1)),(.v (.int .i64 b.1.2.2.2))]⟩,⟨false,[(.v (.int .i64 b.2))]⟩],[]))
theorem Aa:ag C0 26 pz:=
 ag.fx (e:=false) (.cons Ab (.nil)) mixed Tryd.func26 (by kernel_rfl) (by kernel_rfl) aW 1 aq (fun z=>(by kernel_rfl:_=jA (fun b=>some (pz.enc b)) z.1 z.2.1).trans (yJ _ z.1 z.2.1))
def kY{R:Type}(kx:Bool->Option R)(a0:Ln):Option R:=
 Option.bind (gW a0.1 (0:Int) (7:Int)) fun y312=>
 cond y312
 (Option.bind (dA a0.2) fun y313=>
  kx y313)
 (kx Bool.false)
def aX(a0:Ln):Option (Bool):=kY some a0
theorem Ba{R} kx a0: @kY R kx a0=(aX a0).bind kx:=by
 unfold aX kY
 exact ac fun _=>ae (ac fun _=>rfl) rfl
abbrev nm:af:=.fx [.val true yL] (Bool) (fun z=>aX z.1) (fun b=>(.one ⟨false,[(.v (.bool b))]⟩,[]))
theorem dr:ag C0 52 nm:=
 ag.fx (e:=false) (.cons zf (.cons ny (.nil))) mixed Tryd.func52 (by kernel_rfl) (by kernel_rfl) aW 1 aq (fun z=>(by kernel_rfl:_=kY (fun b=>some (nm.enc b)) z.1).trans (Ba _ z.1))
def kU{R:Type}(kx:Int->Option R)(a0:Ln)(a1:Pt):Option R:=
 Option.bind (bH a0) fun y318=>
 Option.bind (ca y318 a1) fun y319=>
 Option.bind (bS y319 a0.2) fun y320=>
 Option.bind (dk y320) fun y321=>
 kx y321
def dX(a0:Ln)(a1:Pt):Option (Int):=kU some a0 a1
theorem A6{R} kx a0 a1: @kU R kx a0 a1=(dX a0 a1).bind kx:=by
 unfold dX kU
 exact ac fun _=>ac fun _=>ac fun _=>ac fun _=>rfl
abbrev qY:af:=.fx [.val true yL, .val true yP] (Int) (fun z=>dX z.1 z.2.1) (fun b=>(.one ⟨false,[(.v (.int .i64 b))]⟩,[]))
theorem qx:ag C0 66 qY:=
 ag.fx (e:=false) (.cons gd (.cons iG (.cons fU (.cons rh (.nil))))) mixed Tryd.func66 (by kernel_rfl) (by kernel_rfl) aW 1 aq (fun z=>(by kernel_rfl:_=kU (fun b=>some (qY.enc b)) z.1 z.2.1).trans (A6 _ z.1 z.2.1))
def oA{R:Type}(kx:Int->Option R)(a0:Ln)(a1:Pt):Option R:=
 Option.bind (aX a0) fun y314=>
 cond (!y314)
 (kx (0:Int))
 (Option.bind (bz a1) fun y315=>
  cond (!y315)
  (kx (0:Int))
  (Option.bind (dX a0 a1) fun y322=>
   kx y322))
def cK(a0:Ln)(a1:Pt):Option (Int):=oA some a0 a1
theorem EE{R} kx a0 a1: @oA R kx a0 a1=(cK a0 a1).bind kx:=by
 unfold cK oA
 exact ac fun _=>ae rfl (ac fun _=>ae rfl (ac fun _=>rfl))
abbrev vK:af:=.fx [.val true yL, .val true yP] (Int) (fun z=>cK z.1 z.2.1) (fun b=>(.one ⟨false,[(.v (.int .i64 b))]⟩,[]))
theorem GP:ag C0 27 vK:=
 ag.fx (e:=false) (.cons dr (.cons dL (.cons qx (.nil)))) mixed Tryd.func27 (by kernel_rfl) (by kernel_rfl) aW 1 aq (fun z=>(by kernel_rfl:_=oA (fun b=>some (vK.enc b)) z.1 z.2.1).trans (EE _ z.1 z.2.1))
def kk{R:Type}(kx:Pt->Option R)(a0:Pt)(a1:Pt):Option R:=
 Option.bind (dj a0.1 a1.1) fun y334=>
 Option.bind (dj a0.2 a1.2) fun y335=>
 kx (y334,y335)
def fM(a0:Pt)(a1:Pt):Option (Pt):=kk some a0 a1
theorem zT{R} kx a0 a1: @kk R kx a0 a1=(fM a0 a1).bind kx:=by
 unfold fM kk
 exact ac fun _=>ac fun _=>rfl
abbrev uZ:af:=.fx [.val true yP, .val true yP] (Pt) (fun z=>fM z.1 z.2.1) (fun b=>(.one ⟨true,[(.v (.int .i64 b.1.1)),(.v (.int .i64 b.1.2.1)),(.v (.int .i64 b.1.2.2)),(.v (.int .i64 b.2.1)),(.v (.int .i64 b.2.2.1)),(.v (.int .i64 b.2.2.2))]⟩,[]))
theorem uu:ag C0 117 uZ:=
 ag.fx (e:=false) (.cons jm (.nil)) mixed Tryd.func117 (by kernel_rfl) (by kernel_rfl) aW 1 aq (fun z=>(by kernel_rfl:_=kk (fun b=>some (uZ.enc b)) z.1 z.2.1).trans (zT _ z.1 z.2.1))
def lS{R:Type}(kx:Nm->Option R)(a0:Nm):Option R:=
 Option.bind (cF (a0.1,(a0.2.1,(IntKind.wrap .i64 (a0.2.2+(1:Int)))))) fun y338=>
 kx y338
def gj(a0:Nm):Option (Nm):=lS some a0
theorem Cc{R} kx a0: @lS R kx a0=(gj a0).bind kx:=by
 unfold gj lS
 exact ac fun _=>rfl
abbrev xw:af:=.fx [.val true yN] (Nm) (fun z=>gj z.1) (fun b=>(.one ⟨true,[(.v (.int .i64 b.1)),(.v (.int .i64 b.2.1)),(.v (.int .i64 b.2.2))]⟩,[]))
theorem wA:ag C0 77 xw:=
 ag.fx (e:=false) (.cons iZ (.nil)) mixed Tryd.func77 (by kernel_rfl) (by kernel_rfl) aW 1 aq (fun z=>(by kernel_rfl:_=lS (fun b=>some (xw.enc b)) z.1).trans (Cc _ z.1))
def mg{R:Type}(kx:Pt->Option R)(a0:Pt)(a1:Pt):Option R:=
 Option.bind (fM a0 a1) fun y336=>
 Option.bind (gj y336.1) fun y339=>
 Option.bind (gj y336.2) fun y340=>
 kx (y339,y340)
def ks(a0:Pt)(a1:Pt):Option (Pt):=mg some a0 a1
theorem EG{R} kx a0 a1: @mg R kx a0 a1=(ks a0 a1).bind kx:=by
 unfold ks mg
 exact ac fun _=>ac fun _=>ac fun _=>rfl
abbrev An:af:=.fx [.val true yP, .val true yP] (Pt) (fun z=>ks z.1 z.2.1) (fun b=>(.one ⟨true,[(.v (.int .i64 b.1.1)),(.v (.int .i64 b.1.2.1)),(.v (.int .i64 b.1.2.2)),(.v (.int .i64 b.2.1)),(.v (.int .i64 b.2.2.1)),(.v (.int .i64 b.2.2.2))]⟩,[]))
theorem GQ:ag C0 70 An:=
 ag.fx (e:=false) (.cons uu (.cons wA (.nil))) mixed Tryd.func70 (by kernel_rfl) (by kernel_rfl) aW 1 aq (fun z=>(by kernel_rfl:_=mg (fun b=>some (An.enc b)) z.1 z.2.1).trans (EG _ z.1 z.2.1))
def km{R:Type}(kx:Ln×Int->Option R)(a0:Ln)(a1:Bool):Option R:=
 cond (!a1)
 (kx (((0:Int),((0:Int),((0:Int),(0:Int)))),(2:Int)))
 (Option.bind (aX a0) fun y345=>
  cond (!y345)
  (kx (((0:Int),((0:Int),((0:Int),(0:Int)))),(2:Int)))
  (kx (a0,(0:Int))))
def eS(a0:Ln)(a1:Bool):Option (Ln×Int):=km some a0 a1
theorem zV{R} kx a0 a1: @km R kx a0 a1=(eS a0 a1).bind kx:=by
 unfold eS km
 exact ae rfl (ac fun _=>ae rfl rfl)
abbrev vd:af:=.fx [.val true yL, .val false .bool] (Ln×Int) (fun z=>eS z.1 z.2.1) (fun b=>(.tup [⟨true,[(.v (.int .i64 b.1.1)),(.v (.int .i64 b.1.2.1)),(.v (.int .i64 b.1.2.2.1)),(.v (.int .i64 b.1.2.2.2))]⟩,⟨false,[(.v (.int .i64 b.2))]⟩],[]))
theorem pH:ag C0 68 vd:=
 ag.fx (e:=false) (.cons dr (.nil)) mixed Tryd.func68 (by kernel_rfl) (by kernel_rfl) aW 1 aq (fun z=>(by kernel_rfl:_=km (fun b=>some (vd.enc b)) z.1 z.2.1).trans (zV _ z.1 z.2.1))
def lR{R:Type}(kx:Ln×Int->Option R)(a0:Pt)(a1:Pt):Option R:=
 Option.bind (bz a0) fun y327=>
 cond (!y327)
 (kx (((0:Int),((0:Int),((0:Int),(0:Int)))),(1:Int)))
 (Option.bind (bz a1) fun y328=>
  cond (!y328)
  (kx (((0:Int),((0:Int),((0:Int),(0:Int)))),(1:Int)))
  (Option.bind (gK a0 a1) fun y329=>
   cond (decide (y329<(0:Int)))
   (kx (((0:Int),((0:Int),((0:Int),(0:Int)))),(7:Int)))
   (Option.bind (ks a0 a1) fun y341=>
    Option.bind (dF y341 (Int.tmod (IntKind.wrap .i64 (y329+(4:Int))) (8:Int))) fun y342=>
    Option.bind (eS y342 Bool.true) fun y346=>
    kx y346)))
def gi(a0:Pt)(a1:Pt):Option (Ln×Int):=lR some a0 a1
theorem Cb{R} kx a0 a1: @lR R kx a0 a1=(gi a0 a1).bind kx:=by
 unfold gi lR
 exact ac fun _=>ae rfl (ac fun _=>ae rfl (ac fun _=>ae rfl (ac fun _=>ac fun _=>ac fun _=>rfl)))
abbrev sv:af:=.fx [.val true yP, .val true yP] (Ln×Int) (fun z=>gi z.1 z.2.1) (fun b=>(.tup [⟨true,[(.v (.int .i64 b.1.1)),(.v (.int .i64 b.1.2.1)),(.v (.int .i64 b.1.2.2.1)),(.v (.int .i64 b.1.2.2.2))]⟩,⟨false,[(.v (.int .i64 b.2))]⟩],[]))
theorem DE:ag C0 28 sv:=
 ag.fx (e:=false) (.cons dL (.cons vz (.cons GQ (.cons kP (.cons pH (.nil)))))) mixed Tryd.func28 (by kernel_rfl) (by kernel_rfl) aW 1 aq (fun z=>(by kernel_rfl:_=lR (fun b=>some (sv.enc b)) z.1 z.2.1).trans (Cb _ z.1 z.2.1))
def oP:List (FuncId×af):=[(121,qZ),(129,pA)]
abbrev dI:LS:=⟨[(false,[(.ptr 4 0)]),(false,[(.int .i64)]),(false,[(.ptr 7 0)])],[(false,[(.int .i64),(.int .i64),(.int .i64)]),(false,[(.int .i64),(.int .i64),(.int .i64)])],[]⟩
abbrev sN:LS:=⟨[(false,[(.ptr 4 0)]),(false,[(.int .i64)]),(false,[(.ptr 7 0)])],[(false,[(.int .i64),(.int .i64),(.int .i64)]),(false,[(.int .i64),(.int .i64),(.int .i64)])],[]⟩
abbrev sM(v0:Int)(v1:Int)(v2:Int)(v3:Int)(v4:Int)(v5:Int)(v6:Int):=(((((),()),(v0,()),((),()),()),((v1,v2,v3,()),(v4,v5,v6,()),()),()):sN.T)
abbrev dJ:List (Ex×LS):=[(.exit 0,sN)]
abbrev mB(x6:Int)(b0_0:Int)(b0_1:Int)(b0_2:Int)(b1_0:Int)(b1_1:Int)(b1_2:Int):=(((((),()),(x6,()),((),()),()),((b0_0,b0_1,b0_2,()),(b1_0,b1_1,b1_2,()),()),()):dI.T)
def iJ{R:Type}(nx:dI.T->Option R)(hx:mJ R dJ)(x6:Int)(b0_0:Int)(b0_1:Int)(b0_2:Int)(b1_0:Int)(b1_1:Int)(b1_2:Int):Option R:=
 cond ((IntKind.wrap .i64 (((BitVec.toNat ((BitVec.ofInt 64 x6)&&&(BitVec.ofInt 64 (1:Int)))):Nat):Int))==(0:Int))
 (nx (mB (IntKind.wrap .i64 (Int.tdiv x6 (2:Int))) b0_0 b0_1 b0_2 b1_0 b1_1 (IntKind.wrap .i64 (b1_2+(1:Int)))))
 (hx.1 (sM x6 b0_0 b0_1 b0_2 b1_0 b1_1 b1_2))
def qA{R:Type}(nx:dI.T->Option R)(hx:mJ R dJ)(z:dI.T):Option R:=iJ nx hx z.1.2.1.1 z.2.1.1.1 z.2.1.1.2.1 z.2.1.1.2.2.1 z.2.1.2.1.1 z.2.1.2.1.2.1 z.2.1.2.1.2.2.1
theorem sW:fe @qA:=fun R nx hx z=>by
 show iJ nx hx z.1.2.1.1 z.2.1.1.1 z.2.1.1.2.1 z.2.1.1.2.2.1 z.2.1.2.1.1 z.2.1.2.1.2.1 z.2.1.2.1.2.2.1=(iJ (fun y=>some (.inl y)) (sj dJ fun x=>some (.inr x)) z.1.2.1.1 z.2.1.1.1 z.2.1.1.2.1 z.2.1.1.2.2.1 z.2.1.2.1.1 z.2.1.2.1.2.1 z.2.1.2.1.2.2.1).bind (rV nx hx)
 unfold iJ
 exact ae rfl rfl
def iK:dI.T->Option (wO dJ):=Bt @qA
theorem Br x6 b0_0 b0_1 b0_2 b1_0 b1_1 b1_2:iK (mB x6 b0_0 b0_1 b0_2 b1_0 b1_1 b1_2)=iJ iK (sj dJ some) x6 b0_0 b0_1 b0_2 b1_0 b1_1 b1_2:=jL sW _
def lx:eo:=⟨[4,6,7],[4,7],[4,6,7],[4,7]⟩
def oV:kF Rv:=⟨fun k=>match k with|7=>lx|_=>⟨[],[],[],[]⟩,fun k=>match k with|7=>some (ie dI dJ iK)|_=>none⟩
theorem Bq(n:Nat)(z:dI.T)(k:Ex->kp->Option Rv):dG ⟨89,89⟩ lx (uO (pL C0 oP) ⟨89,89⟩ oV 1 (cP Tryd.f118 6)) (n+1) (dI.enc z) k=
 qA (fun y=>dG ⟨89,89⟩ lx (uO (pL C0 oP) ⟨89,89⟩ oV 1 (cP Tryd.f118 6)) n (dI.enc y) k) (hK k dJ) z:=by kernel_rfl
theorem Db:bP (pL C0 oP) ⟨89,89⟩ oV 1 (fF (dl Tryd.f118)):=by
 have hl:fF (dl Tryd.f118)=[cP Tryd.f118 6]:=by kernel_rfl
 rw[hl]
 exact bP.cons (n:=7) (lh:=lx) (S:=ie dI dJ iK) (by kernel_rfl) rfl rfl (iX sW Bq)
  (bP.nil)
def jT{R:Type}(kx:Nm×Bool->Option R)(a0:Nm)(a1:Nm):Option R:=
 cond ((IntKind.wrap .i64 ((IntKind.wrap .i64 (a1.1*a1.1))-(IntKind.wrap .i64 ((IntKind.wrap .i64 ((2:Int)*a1.2.1))*a1.2.1))))==(0:Int))
 (kx (((0:Int),((0:Int),(0:Int))),Bool.false))
 (Option.bind (bZ a0 (a1.1,((IntKind.wrap .i64 ((0:Int)-a1.2.1)),(0:Int)))) fun y360=>
  Option.bind (iK (mB (IntKind.wrap .i64 ((IntKind.wrap .i64 (a1.1*a1.1))-(IntKind.wrap .i64 ((IntKind.wrap .i64 ((2:Int)*a1.2.1))*a1.2.1)))) (0:Int) (0:Int) (0:Int) y360.1 y360.2.1 (IntKind.wrap .i64 (y360.2.2-a1.2.2)))) (jP dJ
  (fun e368=>
   cond (decide ((e368.1.2.1.1:Int)=(0:Int)))
   none
   (cond ((Int.tmod (e368.2.1.2.1.1:Int) (e368.1.2.1.1:Int)) !=(0:Int))
    (kx (((0:Int),((0:Int),(0:Int))),Bool.false))
    (cond (decide ((e368.1.2.1.1:Int)=(0:Int)))
     none
     (cond ((Int.tmod (e368.2.1.2.1.2.1:Int) (e368.1.2.1.1:Int)) !=(0:Int))
      (kx (((0:Int),((0:Int),(0:Int))),Bool.false))
      (cond (decide ((e368.1.2.1.1:Int)=(0:Int)))
       none
       (cond (decide ((e368.1.2.1.1:Int)=(0:Int)))
        none
        (cond (decide ((e368.2.1.2.1.2.2.1:Int)<(0:Int)))
         (cond (decide ((IntKind.wrap .i64 ((0:Int)-(e368.2.1.2.1.2.2.1:Int)))<(0:Int)))
          none
          (cond (decide ((IntKind.wrap .i64 ((0:Int)-(e368.2.1.2.1.2.2.1:Int)))<(0:Int)))
           none
           (Option.bind (cF ((IntKind.wrap .i64 ((IntKind.wrap .i64 (Int.tdiv (e368.2.1.2.1.1:Int) (e368.1.2.1.1:Int)))*((2:Int)^(Min.min (Int.toNat (IntKind.wrap .i64 ((0:Int)-(e368.2.1.2.1.2.2.1:Int)))) 64)))),((IntKind.wrap .i64 ((IntKind.wrap .i64 (Int.tdiv (e368.2.1.2.1.2.1:Int) (e368.1.2.1.1:Int)))*((2:Int)^(Min.min (Int.toNat (IntKind.wrap .i64 ((0:Int)-(e368.2.1.2.1.2.2.1:Int)))) 64)))),(0:Int)))) fun y376=>
            kx (y376,Bool.true))))
         (Option.bind (cF ((IntKind.wrap .i64 (Int.tdiv (e368.2.1.2.1.1:Int) (e368.1.2.1.1:Int))),((IntKind.wrap .i64 (Int.tdiv (e368.2.1.2.1.2.1:Int) (e368.1.2.1.1:Int))),(e368.2.1.2.1.2.2.1:Int)))) fun y377=>
          kx (y377,Bool.true)))))))),())))
def dU(a0:Nm)(a1:Nm):Option (Nm×Bool):=jT some a0 a1
theorem Cd{R} kx a0 a1: @jT R kx a0 a1=(dU a0 a1).bind kx:=by
 unfold dU jT
 exact ae rfl (ac fun _=>bh ⟨fun _=>ae rfl (ae rfl (ae rfl (ae rfl (ae rfl (ae rfl (ae (ae rfl (ae rfl (ac fun _=>rfl))) (ac fun _=>rfl))))))),trivial⟩)
abbrev xx:af:=.fx [.val true yN, .val true yN] (Nm×Bool) (fun z=>dU z.1 z.2.1) (fun b=>(.tup [⟨true,[(.v (.int .i64 b.1.1)),(.v (.int .i64 b.1.2.1)),(.v (.int .i64 b.1.2.2))]⟩,⟨false,[(.v (.bool b.2))]⟩],[]))
theorem nw:ag C0 118 xx:=
 ag.fx (e:=false) (t:=oP) (.cons iF (.cons iZ (.nil))) mixed Tryd.func118 (by kernel_rfl) (by kernel_rfl) oV 1 Db (fun z=>(by kernel_rfl:_=jT (fun b=>some (xx.enc b)) z.1 z.2.1).trans (Cd _ z.1 z.2.1))
def jG{R:Type}(kx:Pt->Option R)(a0:Pt)(a1:Nm):Option R:=
 Option.bind (bZ a0.1 a1) fun y382=>
 Option.bind (bZ a0.2 a1) fun y383=>
 kx (y382,y383)
def fk(a0:Pt)(a1:Nm):Option (Pt):=jG some a0 a1
theorem yU{R} kx a0 a1: @jG R kx a0 a1=(fk a0 a1).bind kx:=by
 unfold fk jG
 exact ac fun _=>ac fun _=>rfl
abbrev ue:af:=.fx [.val true yP, .val true yN] (Pt) (fun z=>fk z.1 z.2.1) (fun b=>(.one ⟨true,[(.v (.int .i64 b.1.1)),(.v (.int .i64 b.1.2.1)),(.v (.int .i64 b.1.2.2)),(.v (.int .i64 b.2.1)),(.v (.int .i64 b.2.2.1)),(.v (.int .i64 b.2.2.2))]⟩,[]))
theorem sY:ag C0 119 ue:=
 ag.fx (e:=false) (.cons iF (.nil)) mixed Tryd.func119 (by kernel_rfl) (by kernel_rfl) aW 1 aq (fun z=>(by kernel_rfl:_=jG (fun b=>some (ue.enc b)) z.1 z.2.1).trans (yU _ z.1 z.2.1))
def jb{R:Type}(kx:Pt->Option R)(a0:Ln)(a1:Pt):Option R:=
 Option.bind (bH a0) fun y354=>
 Option.bind (ca y354 a1) fun y355=>
 Option.bind (bS a0.2 y355) fun y356=>
 Option.bind (ca y354 y354) fun y357=>
 Option.bind (dU y356 y357) fun y378=>
 Option.bind (dj y378.1 y378.1) fun y379=>
 Option.bind (fk y354 y379) fun y384=>
 Option.bind (fM a1 y384) fun y385=>
 kx y385
def cu(a0:Ln)(a1:Pt):Option (Pt):=jb some a0 a1
theorem xR{R} kx a0 a1: @jb R kx a0 a1=(cu a0 a1).bind kx:=by
 unfold cu jb
 exact ac fun _=>ac fun _=>ac fun _=>ac fun _=>ac fun _=>ac fun _=>ac fun _=>ac fun _=>rfl
abbrev nL:af:=.fx [.val true yL, .val true yP] (Pt) (fun z=>cu z.1 z.2.1) (fun b=>(.one ⟨true,[(.v (.int .i64 b.1.1)),(.v (.int .i64 b.1.2.1)),(.v (.int .i64 b.1.2.2)),(.v (.int .i64 b.2.1)),(.v (.int .i64 b.2.2.1)),(.v (.int .i64 b.2.2.2))]⟩,[]))
theorem kg:ag C0 71 nL:=
 ag.fx (e:=false) (.cons gd (.cons iG (.cons fU (.cons nw (.cons jm (.cons sY (.cons uu (.nil)))))))) mixed Tryd.func71 (by kernel_rfl) (by kernel_rfl) aW 1 aq (fun z=>(by kernel_rfl:_=jb (fun b=>some (nL.enc b)) z.1 z.2.1).trans (xR _ z.1 z.2.1))
def jC{R:Type}(kx:Nm×Bool->Option R)(a0:Nm):Option R:=
 Option.bind (cF a0) fun y389=>
 Option.bind (dA y389) fun y390=>
 cond (!y390)
 (kx (((0:Int),((0:Int),(0:Int))),Bool.false))
 (kx (y389,Bool.true))
def fj(a0:Nm):Option (Nm×Bool):=jC some a0
theorem yO{R} kx a0: @jC R kx a0=(fj a0).bind kx:=by
 unfold fj jC
 exact ac fun _=>ac fun _=>ae rfl rfl
abbrev uc:af:=.fx [.val true yN] (Nm×Bool) (fun z=>fj z.1) (fun b=>(.tup [⟨true,[(.v (.int .i64 b.1.1)),(.v (.int .i64 b.1.2.1)),(.v (.int .i64 b.1.2.2))]⟩,⟨false,[(.v (.bool b.2))]⟩],[]))
theorem Ac:ag C0 120 uc:=
 ag.fx (e:=false) (.cons iZ (.cons ny (.nil))) mixed Tryd.func120 (by kernel_rfl) (by kernel_rfl) aW 1 aq (fun z=>(by kernel_rfl:_=jC (fun b=>some (uc.enc b)) z.1).trans (yO _ z.1))
def ik{R:Type}(kx:Pt×Bool->Option R)(a0:Pt):Option R:=
 Option.bind (fj a0.1) fun y391=>
 Option.bind (fj a0.2) fun y392=>
 cond (!y391.2)
 (kx ((((0:Int),((0:Int),(0:Int))),((0:Int),((0:Int),(0:Int)))),Bool.false))
 (cond (!y392.2)
  (kx ((((0:Int),((0:Int),(0:Int))),((0:Int),((0:Int),(0:Int)))),Bool.false))
  (kx ((y391.1,y392.1),Bool.true)))
def dm(a0:Pt):Option (Pt×Bool):=ik some a0
theorem xj{R} kx a0: @ik R kx a0=(dm a0).bind kx:=by
 unfold dm ik
 exact ac fun _=>ac fun _=>ae rfl (ae rfl rfl)
abbrev rW:af:=.fx [.val true yP] (Pt×Bool) (fun z=>dm z.1) (fun b=>(.tup [⟨true,[(.v (.int .i64 b.1.1.1)),(.v (.int .i64 b.1.1.2.1)),(.v (.int .i64 b.1.1.2.2)),(.v (.int .i64 b.1.2.1)),(.v (.int .i64 b.1.2.2.1)),(.v (.int .i64 b.1.2.2.2))]⟩,⟨false,[(.v (.bool b.2))]⟩],[]))
theorem xY:ag C0 72 rW:=
 ag.fx (e:=false) (.cons Ac (.nil)) mixed Tryd.func72 (by kernel_rfl) (by kernel_rfl) aW 1 aq (fun z=>(by kernel_rfl:_=ik (fun b=>some (rW.enc b)) z.1).trans (xj _ z.1))
def jc{R:Type}(kx:Pt×Bool->Option R)(a0:Ln)(a1:Pt):Option R:=
 Option.bind (aX a0) fun y350=>
 cond (!y350)
 (kx ((((0:Int),((0:Int),(0:Int))),((0:Int),((0:Int),(0:Int)))),Bool.false))
 (Option.bind (bz a1) fun y351=>
  cond (!y351)
  (kx ((((0:Int),((0:Int),(0:Int))),((0:Int),((0:Int),(0:Int)))),Bool.false))
  (Option.bind (cu a0 a1) fun y386=>
   Option.bind (dm y386) fun y393=>
   kx y393))
def ee(a0:Ln)(a1:Pt):Option (Pt×Bool):=jc some a0 a1
theorem xS{R} kx a0 a1: @jc R kx a0 a1=(ee a0 a1).bind kx:=by
 unfold ee jc
 exact ac fun _=>ae rfl (ac fun _=>ae rfl (ac fun _=>ac fun _=>rfl))
abbrev nM:af:=.fx [.val true yL, .val true yP] (Pt×Bool) (fun z=>ee z.1 z.2.1) (fun b=>(.tup [⟨true,[(.v (.int .i64 b.1.1.1)),(.v (.int .i64 b.1.1.2.1)),(.v (.int .i64 b.1.1.2.2)),(.v (.int .i64 b.1.2.1)),(.v (.int .i64 b.1.2.2.1)),(.v (.int .i64 b.1.2.2.2))]⟩,⟨false,[(.v (.bool b.2))]⟩],[]))
theorem ze:ag C0 29 nM:=
 ag.fx (e:=false) (.cons dr (.cons dL (.cons kg (.cons xY (.nil))))) mixed Tryd.func29 (by kernel_rfl) (by kernel_rfl) aW 1 aq (fun z=>(by kernel_rfl:_=jc (fun b=>some (nM.enc b)) z.1 z.2.1).trans (xS _ z.1 z.2.1))
def eZ{R:Type}(kx:Ln×Int->Option R)(a0:Ln)(a1:Pt):Option R:=
 Option.bind (aX a0) fun y397=>
 cond (!y397)
 (kx (((0:Int),((0:Int),((0:Int),(0:Int)))),(1:Int)))
 (Option.bind (bz a1) fun y398=>
  cond (!y398)
  (kx (((0:Int),((0:Int),((0:Int),(0:Int)))),(1:Int)))
  (Option.bind (dF a1 (Int.tmod (IntKind.wrap .i64 (a0.1+(4:Int))) (8:Int))) fun y399=>
   Option.bind (eS y399 Bool.true) fun y400=>
   kx y400))
def cd(a0:Ln)(a1:Pt):Option (Ln×Int):=eZ some a0 a1
theorem uh{R} kx a0 a1: @eZ R kx a0 a1=(cd a0 a1).bind kx:=by
 unfold cd eZ
 exact ac fun _=>ae rfl (ac fun _=>ae rfl (ac fun _=>ac fun _=>rfl))
abbrev kz:af:=.fx [.val true yL, .val true yP] (Ln×Int) (fun z=>cd z.1 z.2.1) (fun b=>(.tup [⟨true,[(.v (.int .i64 b.1.1)),(.v (.int .i64 b.1.2.1)),(.v (.int .i64 b.1.2.2.1)),(.v (.int .i64 b.1.2.2.2))]⟩,⟨false,[(.v (.int .i64 b.2))]⟩],[]))
theorem uC:ag C0 30 kz:=
 ag.fx (e:=false) (.cons dr (.cons dL (.cons kP (.cons pH (.nil))))) mixed Tryd.func30 (by kernel_rfl) (by kernel_rfl) aW 1 aq (fun z=>(by kernel_rfl:_=eZ (fun b=>some (kz.enc b)) z.1 z.2.1).trans (uh _ z.1 z.2.1))
def kS{R:Type}(kx:Pt->Option R)(a0:Ln):Option R:=
 Option.bind (bH a0) fun y410=>
 Option.bind (ca y410 y410) fun y411=>
 Option.bind (dU a0.2 y411) fun y412=>
 Option.bind (fk y410 y412.1) fun y413=>
 kx y413
def gH(a0:Ln):Option (Pt):=kS some a0
theorem A4{R} kx a0: @kS R kx a0=(gH a0).bind kx:=by
 unfold gH kS
 exact ac fun _=>ac fun _=>ac fun _=>ac fun _=>rfl
abbrev wk:af:=.fx [.val true yL] (Pt) (fun z=>gH z.1) (fun b=>(.one ⟨true,[(.v (.int .i64 b.1.1)),(.v (.int .i64 b.1.2.1)),(.v (.int .i64 b.1.2.2)),(.v (.int .i64 b.2.1)),(.v (.int .i64 b.2.2.1)),(.v (.int .i64 b.2.2.2))]⟩,[]))
theorem CF:ag C0 73 wk:=
 ag.fx (e:=false) (.cons gd (.cons iG (.cons nw (.cons sY (.nil))))) mixed Tryd.func73 (by kernel_rfl) (by kernel_rfl) aW 1 aq (fun z=>(by kernel_rfl:_=kS (fun b=>some (wk.enc b)) z.1).trans (A4 _ z.1))
def ki{R:Type}(kx:Bool->Option R)(a0:Ln)(a1:Ln)(a2:Ln):Option R:=
 Option.bind (aX a0) fun y406=>
 cond (!y406)
 (kx Bool.false)
 (Option.bind (aX a1) fun y407=>
  cond (!y407)
  (kx Bool.false)
  (Option.bind (aX a2) fun y408=>
   cond (!y408)
   (kx Bool.false)
   (Option.bind (gH a1) fun y414=>
    Option.bind (cu a0 y414) fun y415=>
    Option.bind (dF y415 (IntKind.wrap .i64 (((BitVec.toNat ((BitVec.ofInt 64 (IntKind.wrap .i64 ((IntKind.wrap .i64 ((2:Int)*a0.1))-a1.1)))&&&(BitVec.ofInt 64 (7:Int)))):Nat):Int))) fun y416=>
    kx ((y416.1==a2.1)&&(((y416.2.1==a2.2.1)&&((y416.2.2.1==a2.2.2.1)&&((y416.2.2.2==a2.2.2.2)&&Bool.true)))&&Bool.true)))))
def cR(a0:Ln)(a1:Ln)(a2:Ln):Option (Bool):=ki some a0 a1 a2
theorem zR{R} kx a0 a1 a2: @ki R kx a0 a1 a2=(cR a0 a1 a2).bind kx:=by
 unfold cR ki
 exact ac fun _=>ae rfl (ac fun _=>ae rfl (ac fun _=>ae rfl (ac fun _=>ac fun _=>ac fun _=>rfl)))
abbrev ql:af:=.fx [.val true yL, .val true yL, .val true yL] (Bool) (fun z=>cR z.1 z.2.1 z.2.2.1) (fun b=>(.one ⟨false,[(.v (.bool b))]⟩,[]))
theorem Bm:ag C0 31 ql:=
 ag.fx (e:=false) (.cons dr (.cons CF (.cons kg (.cons kP (.nil))))) mixed Tryd.func31 (by kernel_rfl) (by kernel_rfl) aW 1 aq (fun z=>(by kernel_rfl:_=ki (fun b=>some (ql.enc b)) z.1 z.2.1 z.2.2.1).trans (zR _ z.1 z.2.1 z.2.2.1))
def lW{R:Type}(kx:Ln×Int->Option R)(a0:Int)(a1:Pt)(a2:Ln):Option R:=
 Option.bind (ku (IntKind.wrap .i64 (a0+(4:Int)))) fun y427=>
 Option.bind (bH a2) fun y428=>
 Option.bind (ca y428 y427) fun y429=>
 Option.bind (ca y428 a1) fun y430=>
 Option.bind (bS a2.2 y430) fun y431=>
 cond ((y429.1==(0:Int))&&((y429.2.1==(0:Int))&&((y429.2.2==(0:Int))&&Bool.true)))
 (cond ((y431.1==(0:Int))&&((y431.2.1==(0:Int))&&((y431.2.2==(0:Int))&&Bool.true)))
  (kx (((0:Int),((0:Int),((0:Int),(0:Int)))),(2:Int)))
  (kx (((0:Int),((0:Int),((0:Int),(0:Int)))),(0:Int))))
 (Option.bind (ca y427 y427) fun y432=>
  Option.bind (bZ y431 y432) fun y433=>
  Option.bind (dj y429 y429) fun y434=>
  Option.bind (dU y433 y434) fun y435=>
  cond (!y435.2)
  (kx (((0:Int),((0:Int),((0:Int),(0:Int)))),(3:Int)))
  (Option.bind (ca y427 a1) fun y436=>
   Option.bind (dj y436 y435.1) fun y437=>
   kx ((a0,y437),(1:Int))))
def gk(a0:Int)(a1:Pt)(a2:Ln):Option (Ln×Int):=lW some a0 a1 a2
theorem Ch{R} kx a0 a1 a2: @lW R kx a0 a1 a2=(gk a0 a1 a2).bind kx:=by
 unfold gk lW
 exact ac fun _=>ac fun _=>ac fun _=>ac fun _=>ac fun _=>ae (ae rfl rfl) (ac fun _=>ac fun _=>ac fun _=>ac fun _=>ae rfl (ac fun _=>ac fun _=>rfl))
abbrev sx:af:=.fx [.val false (.int .i64), .val true yP, .val true yL] (Ln×Int) (fun z=>gk z.1 z.2.1 z.2.2.1) (fun b=>(.tup [⟨true,[(.v (.int .i64 b.1.1)),(.v (.int .i64 b.1.2.1)),(.v (.int .i64 b.1.2.2.1)),(.v (.int .i64 b.1.2.2.2))]⟩,⟨false,[(.v (.int .i64 b.2))]⟩],[]))
theorem wB:ag C0 74 sx:=
 ag.fx (e:=false) (.cons uv (.cons gd (.cons iG (.cons fU (.cons iF (.cons jm (.cons nw (.nil)))))))) mixed Tryd.func74 (by kernel_rfl) (by kernel_rfl) aW 1 aq (fun z=>(by kernel_rfl:_=lW (fun b=>some (sx.enc b)) z.1 z.2.1 z.2.2.1).trans (Ch _ z.1 z.2.1 z.2.2.1))
def kj{R:Type}(kx:Ln×Int->Option R)(a0:Pt)(a1:Ln)(a2:Ln):Option R:=
 Option.bind (bz a0) fun y421=>
 cond (!y421)
 (kx (((0:Int),((0:Int),((0:Int),(0:Int)))),(1:Int)))
 (Option.bind (aX a1) fun y422=>
  cond (!y422)
  (kx (((0:Int),((0:Int),((0:Int),(0:Int)))),(1:Int)))
  (Option.bind (aX a2) fun y423=>
   cond (!y423)
   (kx (((0:Int),((0:Int),((0:Int),(0:Int)))),(1:Int)))
   (cond (a1.1==a2.1)
    (kx (((0:Int),((0:Int),((0:Int),(0:Int)))),(7:Int)))
    (Option.bind (gk (Int.tmod (IntKind.wrap .i64 (a2.1+(4:Int))) (8:Int)) a0 a1) fun y438=>
     Option.bind (eS y438.1 (y438.2==(1:Int))) fun y439=>
     kx y439))))
def co(a0:Pt)(a1:Ln)(a2:Ln):Option (Ln×Int):=kj some a0 a1 a2
theorem zS{R} kx a0 a1 a2: @kj R kx a0 a1 a2=(co a0 a1 a2).bind kx:=by
 unfold co kj
 exact ac fun _=>ae rfl (ac fun _=>ae rfl (ac fun _=>ae rfl (ae rfl (ac fun _=>ac fun _=>rfl))))
abbrev qm:af:=.fx [.val true yP, .val true yL, .val true yL] (Ln×Int) (fun z=>co z.1 z.2.1 z.2.2.1) (fun b=>(.tup [⟨true,[(.v (.int .i64 b.1.1)),(.v (.int .i64 b.1.2.1)),(.v (.int .i64 b.1.2.2.1)),(.v (.int .i64 b.1.2.2.2))]⟩,⟨false,[(.v (.int .i64 b.2))]⟩],[]))
theorem Bn:ag C0 32 qm:=
 ag.fx (e:=false) (.cons dL (.cons dr (.cons wB (.cons pH (.nil))))) mixed Tryd.func32 (by kernel_rfl) (by kernel_rfl) aW 1 aq (fun z=>(by kernel_rfl:_=kj (fun b=>some (qm.enc b)) z.1 z.2.1 z.2.2.1).trans (zS _ z.1 z.2.1 z.2.2.1))
def jz{R:Type}(kx:Bool->Option R)(a0:Ln)(a1:Pt)(a2:Ln):Option R:=
 Option.bind (aX a0) fun y444=>
 cond y444
 (Option.bind (bz a1) fun y445=>
  cond y445
  (Option.bind (aX a2) fun y446=>
   cond y446
   (Option.bind (cu a0 a1) fun y447=>
    Option.bind (dX a2 y447) fun y448=>
    kx (y448==(0:Int)))
   (kx Bool.false))
  (kx Bool.false))
 (kx Bool.false)
def bG(a0:Ln)(a1:Pt)(a2:Ln):Option (Bool):=jz some a0 a1 a2
theorem yI{R} kx a0 a1 a2: @jz R kx a0 a1 a2=(bG a0 a1 a2).bind kx:=by
 unfold bG jz
 exact ac fun _=>ae (ac fun _=>ae (ac fun _=>ae (ac fun _=>ac fun _=>rfl) rfl) rfl) rfl
abbrev py:af:=.fx [.val true yL, .val true yP, .val true yL] (Bool) (fun z=>bG z.1 z.2.1 z.2.2.1) (fun b=>(.one ⟨false,[(.v (.bool b))]⟩,[]))
theorem zZ:ag C0 33 py:=
 ag.fx (e:=false) (.cons dr (.cons dL (.cons kg (.cons qx (.nil))))) mixed Tryd.func33 (by kernel_rfl) (by kernel_rfl) aW 1 aq (fun z=>(by kernel_rfl:_=jz (fun b=>some (py.enc b)) z.1 z.2.1 z.2.2.1).trans (yI _ z.1 z.2.1 z.2.2.1))
def il{R:Type}(kx:Bool->Option R)(a0:Ln):Option R:=
 Option.bind (aX a0) fun y464=>
 kx (!y464)
def hY(a0:Ln):Option (Bool):=il some a0
theorem xk{R} kx a0: @il R kx a0=(hY a0).bind kx:=by
 unfold hY il
 exact ac fun _=>rfl
abbrev mR:af:=.fx [.val true yL] (Bool) (fun z=>hY z.1) (fun b=>(.one ⟨false,[(.v (.bool b))]⟩,[]))
theorem xZ:ag C0 123 mR:=
 ag.fx (e:=false) (.cons dr (.nil)) mixed Tryd.func123 (by kernel_rfl) (by kernel_rfl) aW 1 aq (fun z=>(by kernel_rfl:_=il (fun b=>some (mR.enc b)) z.1).trans (xk _ z.1))
def bJ:List (FuncId×af):=[(123,mR)]
abbrev aj:LS:=⟨[(false,[(.sl yL)]),(false,[(.fn 123 [])]),(false,[(.int .i64)]),(false,[(.int .i64)])],[],[]⟩
abbrev cZ:LS:=⟨[(false,[(.int .i64)])],[],[]⟩
abbrev fG(v0:Int):=((((v0,()),()),(),()):cZ.T)
abbrev dc:LS:=⟨[(false,[.undef])],[],[]⟩
abbrev fH:=(((((),()),()),(),()):dc.T)
abbrev ao:List (Ex×LS):=[(.ret,cZ),(.exit 0,dc)]
abbrev bf x0(x7:Int)(x8:Int):=((((x0,()),((),()),(x7,()),(x8,()),()),(),()):aj.T)
def aK{R:Type}(nx:aj.T->Option R)(hx:mJ R ao)(x0:List Ln)(x7:Int)(x8:Int):Option R:=
 cond (decide (x8<x7))
 (Option.bind (xd x0 x8) fun y462=>
  Option.bind (hY y462) fun y465=>
  cond y465
  (hx.1 (fG x8))
  (nx (bf x0 x7 (IntKind.wrap .i64 (x8+(1:Int))))))
 (hx.2.1 (fH))
def ck{R:Type}(nx:aj.T->Option R)(hx:mJ R ao)(z:aj.T):Option R:=aK nx hx z.1.1.1 z.1.2.2.1.1 z.1.2.2.2.1.1
theorem df:fe @ck:=fun R nx hx z=>by
 show aK nx hx z.1.1.1 z.1.2.2.1.1 z.1.2.2.2.1.1=(aK (fun y=>some (.inl y)) (sj ao fun x=>some (.inr x)) z.1.1.1 z.1.2.2.1.1 z.1.2.2.2.1.1).bind (rV nx hx)
 unfold aK
 exact ae (ac fun _=>ac fun _=>ae rfl rfl) rfl
def aL:aj.T->Option (wO ao):=Bt @ck
theorem du x0 x7 x8:aL (bf x0 x7 x8)=aK aL (sj ao some) x0 x7 x8:=jL df _
def bC:eo:=⟨[0,1,7,8],[],[4],[]⟩
def bK:kF Rv:=⟨fun k=>match k with|3=>bC|_=>⟨[],[],[],[]⟩,fun k=>match k with|3=>some (ie aj ao aL)|_=>none⟩
theorem fV(n:Nat)(z:aj.T)(k:Ex->kp->Option Rv):dG ⟨19,19⟩ bC (uO (pL C0 bJ) ⟨19,19⟩ bK 1 (cP Tryd.f156 2)) (n+1) (aj.enc z) k=
 ck (fun y=>dG ⟨19,19⟩ bC (uO (pL C0 bJ) ⟨19,19⟩ bK 1 (cP Tryd.f156 2)) n (aj.enc y) k) (hK k ao) z:=by kernel_rfl
theorem gq:bP (pL C0 bJ) ⟨19,19⟩ bK 1 (fF (dl Tryd.f156)):=by
 have hl:fF (dl Tryd.f156)=[cP Tryd.f156 2]:=by kernel_rfl
 rw[hl]
 exact bP.cons (n:=3) (lh:=bC) (S:=ie aj ao aL) (by kernel_rfl) rfl rfl (iX df fV)
  (bP.nil)
def bj{R:Type}(kx:Int->Option R)(a0:(List Ln)):Option R:=
 Option.bind (aL (bf a0 ((List.length a0:Nat):Int) (0:Int))) (jP ao
 (fun e466=>
  kx (e466.1.1.1:Int),fun _=>
  kx (-(1:Int)),()))
def bi(a0:(List Ln)):Option (Int):=bj some a0
theorem gg{R} kx a0: @bj R kx a0=(bi a0).bind kx:=by
 unfold bi bj
 exact bh ⟨fun _=>rfl,fun _=>rfl,trivial⟩
abbrev dz:af:=.fx [.val false (.slice yL), .clo 123 []] (Int) (fun z=>bi z.1) (fun b=>(.one ⟨false,[(.v (.int .i64 b))]⟩,[]))
theorem gw:ag C0 156 dz:=
 ag.fx (e:=false) (t:=bJ) (.cons xZ (.nil)) mixed Tryd.func156 (by kernel_rfl) (by kernel_rfl) bK 1 gq (fun z=>(by kernel_rfl:_=bj (fun b=>some (dz.enc b)) z.1).trans (gg _ z.1))
end
end Go.Proofs.YtjkljnflaifbhaaDoor
