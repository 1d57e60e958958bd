/- No conditions. -/
import Derived.Test.YtjkljnflaifbhaaGreatDoorW1Z
import Derived.Test.YtjkljnflaifbhaaGreatDoorAL1
namespace Go.Proofs.YtjkljnflaifbhaaGreatDoor
open Go.Vai
set_option maxRecDepth 100000
noncomputable section
abbrev Ln:=(Int×Nm)
abbrev Pt:=(Nm×Nm)
abbrev Cn:=(ByteArray×(Int×((List ByteArray)×(Int×(Pt×Ln)))))
abbrev It:=(ByteArray×(Bool×(Pt×Ln)))
abbrev yN:Ty:=.pair (.int .i64) (.pair (.int .i64) (.int .i64))
abbrev yP:Ty:=.pair yN yN
abbrev yL:Ty:=.pair (.int .i64) yN
abbrev yI:Ty:=.pair .str (.pair .bool (.pair yP yL))
abbrev yC:Ty:=.pair .str (.pair (.int .i64) (.pair (.slice .str) (.pair (.int .i64) (.pair yP yL))))
def xh{R:Type}(kx:Int->Option R)(a0:It)(a1:Int):Option R:=
 cond (decide ((IntKind.wrap .i64 (a1-(((ByteArray.size a0.1):Nat):Int)))<(0:Int)))
 (kx (-(1:Int)))
 (kx (IntKind.wrap .i64 (a1-(((ByteArray.size a0.1):Nat):Int))))
def tz(a0:It)(a1:Int):Option (Int):=xh some a0 a1
theorem SF{R} kx a0 a1: @xh R kx a0 a1=(tz a0 a1).bind kx:=by
 unfold tz xh
 exact ae rfl rfl
abbrev Gq:af:=.fx [.val true yI, .val false (.int .i64)] (Int) (fun z=>tz z.1 z.2.1) (fun b=>(.one ⟨false,[(.v (.int .i64 b))]⟩,[]))
theorem Vn:ag C0 54 Gq:=
 ag.fx (e:=false) (.nil) mixed Tryz.func54 (by kernel_rfl) (by kernel_rfl) al 1 ai (fun z=>(by kernel_rfl:_=xh (fun b=>some (Gq.enc b)) z.1 z.2.1).trans (SF _ z.1 z.2.1))
def yR:List (FuncId×af):=[(54,Gq)]
abbrev gC:LS:=⟨[(false,[(.sl yI)]),(false,[(.int .i64)]),(false,[(.int .i64)])],[],[]⟩
abbrev DP:LS:=⟨[(false,[(.int .i64)]),(false,[(.int .i64)])],[],[]⟩
abbrev DH(v0:Int)(v1:Int):=((((v0,()),(v1,()),()),(),()):DP.T)
abbrev DQ:LS:=⟨[(false,[(.int .i64)]),(false,[.undef])],[],[]⟩
abbrev xQ(v0:Int):=((((v0,()),((),()),()),(),()):DQ.T)
abbrev iS:List (Ex×LS):=[(.ret,DP),(.exit 0,DQ)]
abbrev mi x0(x1:Int)(x5:Int):=((((x0,()),(x1,()),(x5,()),()),(),()):gC.T)
def mq{R:Type}(nx:gC.T->Option R)(hx:mA R iS)(x0:List It)(x1:Int)(x5:Int):Option R:=
 cond (decide (x5<((List.length x0:Nat):Int)))
 (Option.bind (gq x0 x5) fun y7=>
  Option.bind (tz y7 x1) fun y10=>
  cond (decide (y10<(0:Int)))
  (hx.1 (DH y10 (-(1:Int))))
  (nx (mi x0 y10 (IntKind.wrap .i64 (x5+(1:Int))))))
 (hx.2.1 (xQ x1))
def AF{R:Type}(nx:gC.T->Option R)(hx:mA R iS)(z:gC.T):Option R:=mq nx hx z.1.1.1 z.1.2.1.1 z.1.2.2.1.1
theorem Em:cK @AF:=fun R nx hx z=>by
 show mq nx hx z.1.1.1 z.1.2.1.1 z.1.2.2.1.1=(mq (fun y=>some (.inl y)) (oI iS fun x=>some (.inr x)) z.1.1.1 z.1.2.1.1 z.1.2.2.1.1).bind (oH nx hx)
 unfold mq
 exact ae (ac fun _=>ac fun _=>ae rfl rfl) rfl
def iP:gC.T->Option (yH iS):=BU @AF
theorem Gc x0 x1 x5:iP (mi x0 x1 x5)=mq iP (oI iS some) x0 x1 x5:=dR Em _
def ue:bN:=⟨[0,1,5],[],[1,4],[]⟩
def zc:fq Rv:=⟨fun k=>match k with|6=>ue|_=>⟨[],[],[],[]⟩,fun k=>match k with|6=>some (ce gC iS iP)|_=>none⟩
theorem PV(n:Nat)(z:gC.T)(k:Ex->iV->Option Rv):bJ ⟨27,27⟩ ue (mU (gN C0 yR) ⟨27,27⟩ zc 1 (aG Tryz.f12 5)) (n+1) (gC.enc z) k=
 AF (fun y=>bJ ⟨27,27⟩ ue (mU (gN C0 yR) ⟨27,27⟩ zc 1 (aG Tryz.f12 5)) n (gC.enc y) k) (hK k iS) z:=by kernel_rfl
theorem Sq:ak (gN C0 yR) ⟨27,27⟩ zc 1 (ca (aX Tryz.f12)):=by
 have hl:ca (aX Tryz.f12)=[aG Tryz.f12 5]:=by kernel_rfl
 rw[hl]
 exact ak.cons (n:=6) (lh:=ue) (S:=ce gC iS iP) (by kernel_rfl) rfl rfl (cl Em PV)
  (ak.nil)
def ve{R:Type}(kx:Int->Option R)(a0:(List It))(a1:Int):Option R:=
 cond (decide ((IntKind.wrap .i64 (a1-((List.length a0:Nat):Int)))<(0:Int)))
 (kx (-(1:Int)))
 (Option.bind (iP (mi a0 (IntKind.wrap .i64 (a1-((List.length a0:Nat):Int))) (0:Int))) (qi iS
  (fun e11=>
   kx (e11.1.2.1.1:Int),fun e14=>
   kx (e14.1.1.1:Int),())))
def rl(a0:(List It))(a1:Int):Option (Int):=ve some a0 a1
theorem QK{R} kx a0 a1: @ve R kx a0 a1=(rl a0 a1).bind kx:=by
 unfold rl ve
 exact ae rfl (cq ⟨fun _=>rfl,fun _=>rfl,trivial⟩)
abbrev Kb:af:=.fx [.val false (.slice yI), .val false (.int .i64)] (Int) (fun z=>rl z.1 z.2.1) (fun b=>(.one ⟨false,[(.v (.int .i64 b))]⟩,[]))
theorem Td:ag C0 12 Kb:=
 ag.fx (e:=false) (t:=yR) (.cons Vn (.nil)) mixed Tryz.func12 (by kernel_rfl) (by kernel_rfl) zc 1 Sq (fun z=>(by kernel_rfl:_=ve (fun b=>some (Kb.enc b)) z.1 z.2.1).trans (QK _ z.1 z.2.1))
def vL:List (FuncId×af):=[]
abbrev fh:LS:=⟨[(false,[(.sl .str)]),(false,[(.int .i64)]),(false,[(.int .i64)])],[],[]⟩
abbrev BC:LS:=⟨[(false,[(.int .i64)]),(false,[(.int .i64)])],[],[]⟩
abbrev Bq(v0:Int)(v1:Int):=((((v0,()),(v1,()),()),(),()):BC.T)
abbrev BD:LS:=⟨[(false,[(.int .i64)]),(false,[.undef])],[],[]⟩
abbrev Br(v0:Int):=((((v0,()),((),()),()),(),()):BD.T)
abbrev gm:List (Ex×LS):=[(.ret,BC),(.exit 0,BD)]
abbrev jM(x0:List ByteArray)(x1:Int)(x5:Int):=((((x0,()),(x1,()),(x5,()),()),(),()):fh.T)
def jT{R:Type}(nx:fh.T->Option R)(hx:mA R gm)(x0:List ByteArray)(x1:Int)(x5:Int):Option R:=
 cond (decide (x5<((List.length x0:Nat):Int)))
 (Option.bind (gq x0 x5) fun y24=>
  cond (decide ((IntKind.wrap .i64 (x1-(((ByteArray.size y24):Nat):Int)))<(0:Int)))
  (hx.1 (Bq (IntKind.wrap .i64 (x1-(((ByteArray.size y24):Nat):Int))) (-(1:Int))))
  (nx (jM x0 (IntKind.wrap .i64 (x1-(((ByteArray.size y24):Nat):Int))) (IntKind.wrap .i64 (x5+(1:Int))))))
 (hx.2.1 (Br x1))
def yh{R:Type}(nx:fh.T->Option R)(hx:mA R gm)(z:fh.T):Option R:=jT nx hx z.1.1.1 z.1.2.1.1 z.1.2.2.1.1
theorem BO:cK @yh:=fun R nx hx z=>by
 show jT nx hx z.1.1.1 z.1.2.1.1 z.1.2.2.1.1=(jT (fun y=>some (.inl y)) (oI gm fun x=>some (.inr x)) z.1.1.1 z.1.2.1.1 z.1.2.2.1.1).bind (oH nx hx)
 unfold jT
 exact ae (ac fun _=>ae rfl rfl) rfl
def gf:fh.T->Option (yH gm):=BU @yh
theorem CY x0 x1 x5:gf (jM x0 x1 x5)=jT gf (oI gm some) x0 x1 x5:=dR BO _
def rf:bN:=⟨[0,1,5],[],[1,4],[]⟩
def vS:fq Rv:=⟨fun k=>match k with|6=>rf|_=>⟨[],[],[],[]⟩,fun k=>match k with|6=>some (ce fh gm gf)|_=>none⟩
theorem Ml(n:Nat)(z:fh.T)(k:Ex->iV->Option Rv):bJ ⟨28,28⟩ rf (mU (gN C0 vL) ⟨28,28⟩ vS 1 (aG Tryz.f55 5)) (n+1) (fh.enc z) k=
 yh (fun y=>bJ ⟨28,28⟩ rf (mU (gN C0 vL) ⟨28,28⟩ vS 1 (aG Tryz.f55 5)) n (fh.enc y) k) (hK k gm) z:=by kernel_rfl
theorem OF:ak (gN C0 vL) ⟨28,28⟩ vS 1 (ca (aX Tryz.f55)):=by
 have hl:ca (aX Tryz.f55)=[aG Tryz.f55 5]:=by kernel_rfl
 rw[hl]
 exact ak.cons (n:=6) (lh:=rf) (S:=ce fh gm gf) (by kernel_rfl) rfl rfl (cl BO Ml)
  (ak.nil)
def rW{R:Type}(kx:Int->Option R)(a0:(List ByteArray))(a1:Int):Option R:=
 cond (decide ((IntKind.wrap .i64 (a1-((List.length a0:Nat):Int)))<(0:Int)))
 (kx (-(1:Int)))
 (Option.bind (gf (jM a0 (IntKind.wrap .i64 (a1-((List.length a0:Nat):Int))) (0:Int))) (qi gm
  (fun e25=>
   kx (e25.1.2.1.1:Int),fun e28=>
   kx (e28.1.1.1:Int),())))
def oF(a0:(List ByteArray))(a1:Int):Option (Int):=rW some a0 a1
theorem NC{R} kx a0 a1: @rW R kx a0 a1=(oF a0 a1).bind kx:=by
 unfold oF rW
 exact ae rfl (cq ⟨fun _=>rfl,fun _=>rfl,trivial⟩)
abbrev Hq:af:=.fx [.val false (.slice .str), .val false (.int .i64)] (Int) (fun z=>oF z.1 z.2.1) (fun b=>(.one ⟨false,[(.v (.int .i64 b))]⟩,[]))
theorem PI:ag C0 55 Hq:=
 ag.fx (e:=false) (t:=vL) (.nil) mixed Tryz.func55 (by kernel_rfl) (by kernel_rfl) vS 1 OF (fun z=>(by kernel_rfl:_=rW (fun b=>some (Hq.enc b)) z.1 z.2.1).trans (NC _ z.1 z.2.1))
def lN{R:Type}(kx:Int->Option R)(a0:Cn)(a1:Int):Option R:=
 cond (decide ((IntKind.wrap .i64 (a1-(((ByteArray.size a0.1):Nat):Int)))<(0:Int)))
 (kx (-(1:Int)))
 (Option.bind (oF a0.2.2.1 (IntKind.wrap .i64 (a1-(((ByteArray.size a0.1):Nat):Int)))) fun y30=>
  cond (decide (y30<(0:Int)))
  (kx (-(1:Int)))
  (kx y30))
def jj(a0:Cn)(a1:Int):Option (Int):=lN some a0 a1
theorem Hz{R} kx a0 a1: @lN R kx a0 a1=(jj a0 a1).bind kx:=by
 unfold jj lN
 exact ae rfl (ac fun _=>ae rfl rfl)
abbrev tQ:af:=.fx [.val true yC, .val false (.int .i64)] (Int) (fun z=>jj z.1 z.2.1) (fun b=>(.one ⟨false,[(.v (.int .i64 b))]⟩,[]))
theorem IL:ag C0 13 tQ:=
 ag.fx (e:=false) (.cons PI (.nil)) mixed Tryz.func13 (by kernel_rfl) (by kernel_rfl) al 1 ai (fun z=>(by kernel_rfl:_=lN (fun b=>some (tQ.enc b)) z.1 z.2.1).trans (Hz _ z.1 z.2.1))
def Dh{R:Type}(kx:Nm->Option R)(a0:Nm):Option R:=
 kx a0
def sx(a0:Nm):Option (Nm):=Dh some a0
theorem UQ{R} kx a0: @Dh R kx a0=(sx a0).bind kx:=by
 unfold sx Dh
 exact rfl
abbrev OM:af:=.fx [.val true yN] (Nm) (fun z=>sx z.1) (fun b=>(.one ⟨true,[(.v (.int .i64 b.1)),(.v (.int .i64 b.2.1)),(.v (.int .i64 b.2.2))]⟩,[]))
theorem MO:ag C0 125 OM:=
 ag.fx (e:=false) (.nil) mixed Tryz.func125 (by kernel_rfl) (by kernel_rfl) al 1 ai (fun z=>(by kernel_rfl:_=Dh (fun b=>some (OM.enc b)) z.1).trans (UQ _ z.1))
def vk{R:Type}(kx:Pt->Option R)(a0:Pt):Option R:=
 Option.bind (sx a0.1) fun y40=>
 Option.bind (sx a0.2) fun y41=>
 kx (y40,y41)
def oY(a0:Pt):Option (Pt):=vk some a0
theorem QM{R} kx a0: @vk R kx a0=(oY a0).bind kx:=by
 unfold oY vk
 exact ac fun _=>ac fun _=>rfl
abbrev Kd:af:=.fx [.val true yP] (Pt) (fun z=>oY z.1) (fun b=>(.one ⟨true,[(.v (.int .i64 b.1.1)),(.v (.int .i64 b.1.2.1)),(.v (.int .i64 b.1.2.2)),(.v (.int .i64 b.2.1)),(.v (.int .i64 b.2.2.1)),(.v (.int .i64 b.2.2.2))]⟩,[]))
theorem Jg:ag C0 61 Kd:=
 ag.fx (e:=false) (.cons MO (.nil)) mixed Tryz.func61 (by kernel_rfl) (by kernel_rfl) al 1 ai (fun z=>(by kernel_rfl:_=vk (fun b=>some (Kd.enc b)) z.1).trans (QM _ z.1))
def xj{R:Type}(kx:Ln->Option R)(a0:Ln):Option R:=
 Option.bind (sx a0.2) fun y44=>
 kx (a0.1,y44)
def qH(a0:Ln):Option (Ln):=xj some a0
theorem SH{R} kx a0: @xj R kx a0=(qH a0).bind kx:=by
 unfold qH xj
 exact ac fun _=>rfl
abbrev My:af:=.fx [.val true yL] (Ln) (fun z=>qH z.1) (fun b=>(.one ⟨true,[(.v (.int .i64 b.1)),(.v (.int .i64 b.2.1)),(.v (.int .i64 b.2.2.1)),(.v (.int .i64 b.2.2.2))]⟩,[]))
theorem KU:ag C0 62 My:=
 ag.fx (e:=false) (.cons MO (.nil)) mixed Tryz.func62 (by kernel_rfl) (by kernel_rfl) al 1 ai (fun z=>(by kernel_rfl:_=xj (fun b=>some (My.enc b)) z.1).trans (SH _ z.1))
def xi{R:Type}(kx:It->Option R)(a0:It):Option R:=
 Option.bind (oY a0.2.2.1) fun y42=>
 Option.bind (qH a0.2.2.2) fun y45=>
 kx (a0.1,(a0.2.1,(y42,y45)))
def tA(a0:It):Option (It):=xi some a0
theorem SG{R} kx a0: @xi R kx a0=(tA a0).bind kx:=by
 unfold tA xi
 exact ac fun _=>ac fun _=>rfl
abbrev Gr:af:=.fx [.val true yI] (It) (fun z=>tA z.1) (fun b=>(.one ⟨true,[(.v (.string b.1)),(.v (.bool b.2.1)),(.v (.int .i64 b.2.2.1.1.1)),(.v (.int .i64 b.2.2.1.1.2.1)),(.v (.int .i64 b.2.2.1.1.2.2)),(.v (.int .i64 b.2.2.1.2.1)),(.v (.int .i64 b.2.2.1.2.2.1)),(.v (.int .i64 b.2.2.1.2.2.2)),(.v (.int .i64 b.2.2.2.1)),(.v (.int .i64 b.2.2.2.2.1)),(.v (.int .i64 b.2.2.2.2.2.1)),(.v (.int .i64 b.2.2.2.2.2.2))]⟩,[]))
theorem Vo:ag C0 59 Gr:=
 ag.fx (e:=false) (.cons Jg (.cons KU (.nil))) mixed Tryz.func59 (by kernel_rfl) (by kernel_rfl) al 1 ai (fun z=>(by kernel_rfl:_=xi (fun b=>some (Gr.enc b)) z.1).trans (SG _ z.1))
def yS:List (FuncId×af):=[(59,Gr)]
abbrev gD:LS:=⟨[(false,[(.sl yI)]),(false,[(.own yI)]),(false,[(.int .i64)])],[],[]⟩
abbrev DR:LS:=⟨[(false,[(.own yI)])],[],[]⟩
abbrev DI v0:=((((v0,()),()),(),()):DR.T)
abbrev iT:List (Ex×LS):=[(.exit 0,DR)]
abbrev rr x0 x3(x4:Int):=((((x0,()),(x3,()),(x4,()),()),(),()):gD.T)
def mu{R:Type}(nx:gD.T->Option R)(hx:mA R iT)(x0:List It)(x3:List It)(x4:Int):Option R:=
 cond (decide (x4<((List.length x0:Nat):Int)))
 (Option.bind (gq x0 x4) fun y36=>
  Option.bind (tA y36) fun y46=>
  Option.bind (gq x3 x4) fun _=>
  nx (rr x0 (List.set x3 (0+(Int.toNat x4)) y46) (IntKind.wrap .i64 (x4+(1:Int)))))
 (hx.1 (DI x3))
def AG{R:Type}(nx:gD.T->Option R)(hx:mA R iT)(z:gD.T):Option R:=mu nx hx z.1.1.1 z.1.2.1.1 z.1.2.2.1.1
theorem En:cK @AG:=fun R nx hx z=>by
 show mu nx hx z.1.1.1 z.1.2.1.1 z.1.2.2.1.1=(mu (fun y=>some (.inl y)) (oI iT fun x=>some (.inr x)) z.1.1.1 z.1.2.1.1 z.1.2.2.1.1).bind (oH nx hx)
 unfold mu
 exact ae (ac fun _=>ac fun _=>ac fun _=>rfl) rfl
def my:gD.T->Option (yH iT):=BU @AG
theorem Gd x0 x3 x4:my (rr x0 x3 x4)=mu my (oI iT some) x0 x3 x4:=dR En _
def uf:bN:=⟨[0,3,4],[],[3],[]⟩
def zd:fq Rv:=⟨fun k=>match k with|4=>uf|_=>⟨[],[],[],[]⟩,fun k=>match k with|4=>some (ce gD iT my)|_=>none⟩
theorem PW(n:Nat)(z:gD.T)(k:Ex->iV->Option Rv):bJ ⟨23,23⟩ uf (mU (gN C0 yS) ⟨23,23⟩ zd 1 (aG Tryz.f15 3)) (n+1) (gD.enc z) k=
 AG (fun y=>bJ ⟨23,23⟩ uf (mU (gN C0 yS) ⟨23,23⟩ zd 1 (aG Tryz.f15 3)) n (gD.enc y) k) (hK k iT) z:=by kernel_rfl
theorem Sr:ak (gN C0 yS) ⟨23,23⟩ zd 1 (ca (aX Tryz.f15)):=by
 have hl:ca (aX Tryz.f15)=[aG Tryz.f15 3]:=by kernel_rfl
 rw[hl]
 exact ak.cons (n:=4) (lh:=uf) (S:=ce gD iT my) (by kernel_rfl) rfl rfl (cl En PW)
  (ak.nil)
def vj{R:Type}(kx:(List It)->Option R)(a0:(List It)):Option R:=
 cond (decide (((List.length a0:Nat):Int)<=((List.length a0:Nat):Int)))
 (cond (decide ((((List.length a0:Nat):Int)*((104:Nat):Int))<=(70368744177664:Int)))
  (cond (decide (((List.length a0:Nat):Int)<=(70368744177664:Int)))
   (Option.bind (my (rr a0 (List.replicate (Int.toNat ((List.length a0:Nat):Int)) ((ByteArray.mk (Array.mk [])),(Bool.false,((((0:Int),((0:Int),(0:Int))),((0:Int),((0:Int),(0:Int)))),((0:Int),((0:Int),((0:Int),(0:Int)))))))) (0:Int))) (qi iT
    (fun e48=>
     kx (e48.1.1.1:List It),())))
   none)
  none)
 none
def uH(a0:(List It)):Option ((List It)):=vj some a0
theorem QL{R} kx a0: @vj R kx a0=(uH a0).bind kx:=by
 unfold uH vj
 exact ae (ae (ae (cq ⟨fun _=>rfl,trivial⟩) rfl) rfl) rfl
abbrev Kc:af:=.fx [.val false (.slice yI)] ((List It)) (fun z=>uH z.1) (fun b=>(.one ⟨false,[(.own yI b)]⟩,[]))
theorem Te:ag C0 15 Kc:=
 ag.fx (e:=false) (t:=yS) (.cons Vo (.nil)) mixed Tryz.func15 (by kernel_rfl) (by kernel_rfl) zd 1 Sr (fun z=>(by kernel_rfl:_=vj (fun b=>some (Kc.enc b)) z.1).trans (QL _ z.1))
def vM:List (FuncId×af):=[]
abbrev fi:LS:=⟨[(false,[(.sl .str)]),(false,[(.own .str)]),(false,[(.int .i64)])],[],[]⟩
abbrev BE:LS:=⟨[(false,[(.own .str)])],[],[]⟩
abbrev Bs(v0:List ByteArray):=((((v0,()),()),(),()):BE.T)
abbrev gn:List (Ex×LS):=[(.exit 0,BE)]
abbrev pi(x0:List ByteArray)(x3:List ByteArray)(x4:Int):=((((x0,()),(x3,()),(x4,()),()),(),()):fi.T)
def jU{R:Type}(nx:fi.T->Option R)(hx:mA R gn)(x0:List ByteArray)(x3:List ByteArray)(x4:Int):Option R:=
 cond (decide (x4<((List.length x0:Nat):Int)))
 (Option.bind (gq x0 x4) fun y56=>
  Option.bind (gq x3 x4) fun _=>
  nx (pi x0 (List.set x3 (0+(Int.toNat x4)) y56) (IntKind.wrap .i64 (x4+(1:Int)))))
 (hx.1 (Bs x3))
def yi{R:Type}(nx:fi.T->Option R)(hx:mA R gn)(z:fi.T):Option R:=jU nx hx z.1.1.1 z.1.2.1.1 z.1.2.2.1.1
theorem BP:cK @yi:=fun R nx hx z=>by
 show jU nx hx z.1.1.1 z.1.2.1.1 z.1.2.2.1.1=(jU (fun y=>some (.inl y)) (oI gn fun x=>some (.inr x)) z.1.1.1 z.1.2.1.1 z.1.2.2.1.1).bind (oH nx hx)
 unfold jU
 exact ae (ac fun _=>ac fun _=>rfl) rfl
def jZ:fi.T->Option (yH gn):=BU @yi
theorem CZ x0 x3 x4:jZ (pi x0 x3 x4)=jU jZ (oI gn some) x0 x3 x4:=dR BP _
def rh:bN:=⟨[0,3,4],[],[3],[]⟩
def vT:fq Rv:=⟨fun k=>match k with|4=>rh|_=>⟨[],[],[],[]⟩,fun k=>match k with|4=>some (ce fi gn jZ)|_=>none⟩
theorem Mm(n:Nat)(z:fi.T)(k:Ex->iV->Option Rv):bJ ⟨22,22⟩ rh (mU (gN C0 vM) ⟨22,22⟩ vT 1 (aG Tryz.f60 3)) (n+1) (fi.enc z) k=
 yi (fun y=>bJ ⟨22,22⟩ rh (mU (gN C0 vM) ⟨22,22⟩ vT 1 (aG Tryz.f60 3)) n (fi.enc y) k) (hK k gn) z:=by kernel_rfl
theorem OG:ak (gN C0 vM) ⟨22,22⟩ vT 1 (ca (aX Tryz.f60)):=by
 have hl:ca (aX Tryz.f60)=[aG Tryz.f60 3]:=by kernel_rfl
 rw[hl]
 exact ak.cons (n:=4) (lh:=rh) (S:=ce fi gn jZ) (by kernel_rfl) rfl rfl (cl BP Mm)
  (ak.nil)
def rX{R:Type}(kx:(List ByteArray)->Option R)(a0:(List ByteArray)):Option R:=
 cond (decide (((List.length a0:Nat):Int)<=((List.length a0:Nat):Int)))
 (cond (decide ((((List.length a0:Nat):Int)*((16:Nat):Int))<=(70368744177664:Int)))
  (cond (decide (((List.length a0:Nat):Int)<=(70368744177664:Int)))
   (Option.bind (jZ (pi a0 (List.replicate (Int.toNat ((List.length a0:Nat):Int)) (ByteArray.mk (Array.mk []))) (0:Int))) (qi gn
    (fun e58=>
     kx (e58.1.1.1:List ByteArray),())))
   none)
  none)
 none
def oG(a0:(List ByteArray)):Option ((List ByteArray)):=rX some a0
theorem ND{R} kx a0: @rX R kx a0=(oG a0).bind kx:=by
 unfold oG rX
 exact ae (ae (ae (cq ⟨fun _=>rfl,trivial⟩) rfl) rfl) rfl
abbrev Hr:af:=.fx [.val false (.slice .str)] ((List ByteArray)) (fun z=>oG z.1) (fun b=>(.one ⟨false,[(.own .str b)]⟩,[]))
theorem PJ:ag C0 60 Hr:=
 ag.fx (e:=false) (t:=vM) (.nil) mixed Tryz.func60 (by kernel_rfl) (by kernel_rfl) vT 1 OG (fun z=>(by kernel_rfl:_=rX (fun b=>some (Hr.enc b)) z.1).trans (ND _ z.1))
def lO{R:Type}(kx:Cn->Option R)(a0:Cn):Option R:=
 Option.bind (oG a0.2.2.1) fun y60=>
 Option.bind (oY a0.2.2.2.2.1) fun y61=>
 Option.bind (qH a0.2.2.2.2.2) fun y62=>
 kx (a0.1,(a0.2.1,(y60,(a0.2.2.2.1,(y61,y62)))))
def jk(a0:Cn):Option (Cn):=lO some a0
theorem HC{R} kx a0: @lO R kx a0=(jk a0).bind kx:=by
 unfold jk lO
 exact ac fun _=>ac fun _=>ac fun _=>rfl
abbrev Ae:af:=.fx [.val true yC] (Cn) (fun z=>jk z.1) (fun b=>(.one ⟨true,[(.v (.string b.1)),(.v (.int .i64 b.2.1)),(.own .str b.2.2.1),(.v (.int .i64 b.2.2.2.1)),(.v (.int .i64 b.2.2.2.2.1.1.1)),(.v (.int .i64 b.2.2.2.2.1.1.2.1)),(.v (.int .i64 b.2.2.2.2.1.1.2.2)),(.v (.int .i64 b.2.2.2.2.1.2.1)),(.v (.int .i64 b.2.2.2.2.1.2.2.1)),(.v (.int .i64 b.2.2.2.2.1.2.2.2)),(.v (.int .i64 b.2.2.2.2.2.1)),(.v (.int .i64 b.2.2.2.2.2.2.1)),(.v (.int .i64 b.2.2.2.2.2.2.2.1)),(.v (.int .i64 b.2.2.2.2.2.2.2.2))]⟩,[]))
theorem zC:ag C0 16 Ae:=
 ag.fx (e:=false) (.cons PJ (.cons Jg (.cons KU (.nil)))) mixed Tryz.func16 (by kernel_rfl) (by kernel_rfl) al 1 ai (fun z=>(by kernel_rfl:_=lO (fun b=>some (Ae.enc b)) z.1).trans (HC _ z.1))
def sd{R:Type}(kx:Bool->Option R)(a0:Int):Option R:=
 cond (decide (a0>=(65:Int)))
 (cond (decide (a0<=(90:Int)))
  (kx Bool.true)
  (cond (decide (a0>=(97:Int)))
   (kx (decide (a0<=(122:Int))))
   (kx Bool.false)))
 (cond (decide (a0>=(97:Int)))
  (kx (decide (a0<=(122:Int))))
  (kx Bool.false))
def md(a0:Int):Option (Bool):=sd some a0
theorem NG{R} kx a0: @sd R kx a0=(md a0).bind kx:=by
 unfold md sd
 exact ae (ae rfl (ae rfl rfl)) (ae rfl rfl)
abbrev Ar:af:=.fx [.val false (.int .u8)] (Bool) (fun z=>md z.1) (fun b=>(.one ⟨false,[(.v (.bool b))]⟩,[]))
theorem PN:ag C0 190 Ar:=
 ag.fx (e:=false) (.nil) mixed Tryz.func190 (by kernel_rfl) (by kernel_rfl) al 1 ai (fun z=>(by kernel_rfl:_=sd (fun b=>some (Ar.enc b)) z.1).trans (NG _ z.1))
def tn{R:Type}(kx:Bool->Option R)(a0:Int):Option R:=
 cond (decide (a0>=(48:Int)))
 (kx (decide (a0<=(57:Int))))
 (kx Bool.false)
def pS(a0:Int):Option (Bool):=tn some a0
theorem Pe{R} kx a0: @tn R kx a0=(pS a0).bind kx:=by
 unfold pS tn
 exact ae rfl rfl
abbrev B6:af:=.fx [.val false (.int .u8)] (Bool) (fun z=>pS z.1) (fun b=>(.one ⟨false,[(.v (.bool b))]⟩,[]))
theorem Rf:ag C0 191 B6:=
 ag.fx (e:=false) (.nil) mixed Tryz.func191 (by kernel_rfl) (by kernel_rfl) al 1 ai (fun z=>(by kernel_rfl:_=tn (fun b=>some (B6.enc b)) z.1).trans (Pe _ z.1))
def AM:List (FuncId×af):=[(190,Ar),(191,B6)]
abbrev iw:LS:=⟨[(false,[.str]),(false,[(.int .i64)])],[],[]⟩
abbrev Fc:LS:=⟨[(false,[.bool])],[],[]⟩
abbrev E7(v0:Bool):=((((v0,()),()),(),()):Fc.T)
abbrev Fe:LS:=⟨[(false,[.undef])],[],[]⟩
abbrev E8:=(((((),()),()),(),()):Fe.T)
abbrev jE:List (Ex×LS):=[(.ret,Fc),(.exit 0,Fe)]
abbrev nF(x0:ByteArray)(x3:Int):=((((x0,()),(x3,()),()),(),()):iw.T)
def nH{R:Type}(nx:iw.T->Option R)(hx:mA R jE)(x0:ByteArray)(x3:Int):Option R:=
 cond (decide (x3<(((ByteArray.size x0):Nat):Int)))
 (Option.bind (B3 x0 x3) fun y77=>
  Option.bind (md (((UInt8.toNat y77):Nat):Int)) fun y78=>
  cond (!y78)
  (Option.bind (B3 x0 x3) fun y79=>
   Option.bind (pS (((UInt8.toNat y79):Nat):Int)) fun y81=>
   cond (!y81)
   (Option.bind (B3 x0 x3) fun y82=>
    cond ((((UInt8.toNat y82):Nat):Int) !=(95:Int))
    (hx.1 (E7 Bool.false))
    (nx (nF x0 (IntKind.wrap .i64 (x3+(1:Int))))))
   (nx (nF x0 (IntKind.wrap .i64 (x3+(1:Int))))))
  (nx (nF x0 (IntKind.wrap .i64 (x3+(1:Int))))))
 (hx.2.1 (E8))
def Ch{R:Type}(nx:iw.T->Option R)(hx:mA R jE)(z:iw.T):Option R:=nH nx hx z.1.1.1 z.1.2.1.1
theorem FM:cK @Ch:=fun R nx hx z=>by
 show nH nx hx z.1.1.1 z.1.2.1.1=(nH (fun y=>some (.inl y)) (oI jE fun x=>some (.inr x)) z.1.1.1 z.1.2.1.1).bind (oH nx hx)
 unfold nH
 exact ae (ac fun _=>ac fun _=>ae (ac fun _=>ac fun _=>ae (ac fun _=>ae rfl rfl) rfl) rfl) rfl
def nN:iw.T->Option (yH jE):=BU @Ch
theorem H5 x0 x3:nN (nF x0 x3)=nH nN (oI jE some) x0 x3:=dR FM _
def vY:bN:=⟨[0,3],[],[2],[]⟩
def AU:fq Rv:=⟨fun k=>match k with|5=>vY|_=>⟨[],[],[],[]⟩,fun k=>match k with|5=>some (ce iw jE nN)|_=>none⟩
theorem Ri(n:Nat)(z:iw.T)(k:Ex->iV->Option Rv):bJ ⟨41,41⟩ vY (mU (gN C0 AM) ⟨41,41⟩ AU 1 (aG Tryz.f117 4)) (n+1) (iw.enc z) k=
 Ch (fun y=>bJ ⟨41,41⟩ vY (mU (gN C0 AM) ⟨41,41⟩ AU 1 (aG Tryz.f117 4)) n (iw.enc y) k) (hK k jE) z:=by kernel_rfl
theorem Uk:ak (gN C0 AM) ⟨41,41⟩ AU 1 (ca (aX Tryz.f117)):=by
 have hl:ca (aX Tryz.f117)=[aG Tryz.f117 4]:=by kernel_rfl
 rw[hl]
 exact ak.cons (n:=5) (lh:=vY) (S:=ce iw jE nN) (by kernel_rfl) rfl rfl (cl FM Ri)
  (ak.nil)
def xk{R:Type}(kx:Bool->Option R)(a0:ByteArray):Option R:=
 cond ((ByteArray.toList a0)==(ByteArray.toList (ByteArray.mk (Array.mk []))))
 (kx Bool.false)
 (cond (decide ((((ByteArray.size a0):Nat):Int)>(12:Int)))
  (kx Bool.false)
  (Option.bind (B3 a0 (0:Int)) fun y72=>
   Option.bind (md (((UInt8.toNat y72):Nat):Int)) fun y74=>
   cond (!y74)
   (kx Bool.false)
   (Option.bind (nN (nF a0 (0:Int))) (qi jE
    (fun e83=>
     kx (e83.1.1.1:Bool),fun _=>
     kx Bool.true,())))))
def ou(a0:ByteArray):Option (Bool):=xk some a0
theorem SI{R} kx a0: @xk R kx a0=(ou a0).bind kx:=by
 unfold ou xk
 exact ae rfl (ae rfl (ac fun _=>ac fun _=>ae rfl (cq ⟨fun _=>rfl,fun _=>rfl,trivial⟩)))
abbrev Gs:af:=.fx [.val false .str] (Bool) (fun z=>ou z.1) (fun b=>(.one ⟨false,[(.v (.bool b))]⟩,[]))
theorem KX:ag C0 117 Gs:=
 ag.fx (e:=false) (t:=AM) (.cons PN (.cons Rf (.nil))) mixed Tryz.func117 (by kernel_rfl) (by kernel_rfl) AU 1 Uk (fun z=>(by kernel_rfl:_=xk (fun b=>some (Gs.enc b)) z.1).trans (SI _ z.1))
def zO{R:Type}(kx:Bool->Option R)(a0:Int)(a1:Int)(a2:Int):Option R:=
 cond (decide (a0>=a1))
 (kx (decide (a0<=a2)))
 (kx Bool.false)
def cI(a0:Int)(a1:Int)(a2:Int):Option (Bool):=zO some a0 a1 a2
theorem UR{R} kx a0 a1 a2: @zO R kx a0 a1 a2=(cI a0 a1 a2).bind kx:=by
 unfold cI zO
 exact ae rfl rfl
abbrev Iu:af:=.fx [.val false (.int .i64), .val false (.int .i64), .val false (.int .i64)] (Bool) (fun z=>cI z.1 z.2.1 z.2.2.1) (fun b=>(.one ⟨false,[(.v (.bool b))]⟩,[]))
theorem Be:ag C0 118 Iu:=
 ag.fx (e:=false) (.nil) mixed Tryz.func118 (by kernel_rfl) (by kernel_rfl) al 1 ai (fun z=>(by kernel_rfl:_=zO (fun b=>some (Iu.enc b)) z.1 z.2.1 z.2.2.1).trans (UR _ z.1 z.2.1 z.2.2.1))
def zQ{R:Type}(kx:Bool->Option R)(a0:Nm):Option R:=
 Option.bind (cI a0.1 (-(131072:Int)) (131072:Int)) fun y93=>
 cond (!y93)
 (kx Bool.false)
 (Option.bind (cI a0.2.1 (-(131072:Int)) (131072:Int)) fun y94=>
  cond (!y94)
  (kx Bool.false)
  (Option.bind (cI a0.2.2 (0:Int) (10:Int)) fun y95=>
   cond (!y95)
   (kx Bool.false)
   (cond (a0.2.2==(0:Int))
    (kx Bool.true)
    (cond ((Int.tmod a0.1 (2:Int)) !=(0:Int))
     (kx Bool.true)
     (kx ((Int.tmod a0.2.1 (2:Int)) !=(0:Int)))))))
def oh(a0:Nm):Option (Bool):=zQ some a0
theorem UT{R} kx a0: @zQ R kx a0=(oh a0).bind kx:=by
 unfold oh zQ
 exact ac fun _=>ae rfl (ac fun _=>ae rfl (ac fun _=>ae rfl (ae rfl (ae rfl rfl))))
abbrev OO:af:=.fx [.val true yN] (Bool) (fun z=>oh z.1) (fun b=>(.one ⟨false,[(.v (.bool b))]⟩,[]))
theorem GD:ag C0 192 OO:=
 ag.fx (e:=false) (.cons Be (.nil)) mixed Tryz.func192 (by kernel_rfl) (by kernel_rfl) al 1 ai (fun z=>(by kernel_rfl:_=zQ (fun b=>some (OO.enc b)) z.1).trans (UT _ z.1))
def vt{R:Type}(kx:Bool->Option R)(a0:Ln):Option R:=
 Option.bind (cI a0.1 (0:Int) (7:Int)) fun y91=>
 cond y91
 (Option.bind (oh a0.2) fun y96=>
  kx y96)
 (kx Bool.false)
def bG(a0:Ln):Option (Bool):=vt some a0
theorem QR{R} kx a0: @vt R kx a0=(bG a0).bind kx:=by
 unfold bG vt
 exact ac fun _=>ae (ac fun _=>rfl) rfl
abbrev uL:af:=.fx [.val true yL] (Bool) (fun z=>bG z.1) (fun b=>(.one ⟨false,[(.v (.bool b))]⟩,[]))
theorem iF:ag C0 121 uL:=
 ag.fx (e:=false) (.cons Be (.cons GD (.nil))) mixed Tryz.func121 (by kernel_rfl) (by kernel_rfl) al 1 ai (fun z=>(by kernel_rfl:_=vt (fun b=>some (uL.enc b)) z.1).trans (QR _ z.1))
def tp{R:Type}(kx:Bool->Option R)(a0:Pt):Option R:=
 Option.bind (oh a0.1) fun y99=>
 cond y99
 (Option.bind (oh a0.2) fun y100=>
  kx y100)
 (kx Bool.false)
def bh(a0:Pt):Option (Bool):=tp some a0
theorem Pg{R} kx a0: @tp R kx a0=(bh a0).bind kx:=by
 unfold bh tp
 exact ac fun _=>ae (ac fun _=>rfl) rfl
abbrev sV:af:=.fx [.val true yP] (Bool) (fun z=>bh z.1) (fun b=>(.one ⟨false,[(.v (.bool b))]⟩,[]))
theorem fI:ag C0 120 sV:=
 ag.fx (e:=false) (.cons GD (.nil)) mixed Tryz.func120 (by kernel_rfl) (by kernel_rfl) al 1 ai (fun z=>(by kernel_rfl:_=tp (fun b=>some (sV.enc b)) z.1).trans (Pg _ z.1))
def vD{R:Type}(kx:Bool->Option R)(a0:It):Option R:=
 Option.bind (ou a0.1) fun y86=>
 cond (!y86)
 (kx Bool.false)
 (cond a0.2.1
  (Option.bind (bG a0.2.2.2) fun y97=>
   cond y97
   (kx (((a0.2.2.1.1.1==(0:Int))&&((a0.2.2.1.1.2.1==(0:Int))&&((a0.2.2.1.1.2.2==(0:Int))&&Bool.true)))&&(((a0.2.2.1.2.1==(0:Int))&&((a0.2.2.1.2.2.1==(0:Int))&&((a0.2.2.1.2.2.2==(0:Int))&&Bool.true)))&&Bool.true)))
   (kx Bool.false))
  (Option.bind (bh a0.2.2.1) fun y101=>
   cond y101
   (kx ((a0.2.2.2.1==(0:Int))&&(((a0.2.2.2.2.1==(0:Int))&&((a0.2.2.2.2.2.1==(0:Int))&&((a0.2.2.2.2.2.2==(0:Int))&&Bool.true)))&&Bool.true)))
   (kx Bool.false)))
def rp(a0:It):Option (Bool):=vD some a0
theorem Q0{R} kx a0: @vD R kx a0=(rp a0).bind kx:=by
 unfold rp vD
 exact ac fun _=>ae rfl (ae (ac fun _=>ae rfl rfl) (ac fun _=>ae rfl rfl))
abbrev Ed:af:=.fx [.val true yI] (Bool) (fun z=>rp z.1) (fun b=>(.one ⟨false,[(.v (.bool b))]⟩,[]))
theorem Tl:ag C0 116 Ed:=
 ag.fx (e:=false) (.cons KX (.cons iF (.cons fI (.nil)))) mixed Tryz.func116 (by kernel_rfl) (by kernel_rfl) al 1 ai (fun z=>(by kernel_rfl:_=vD (fun b=>some (Ed.enc b)) z.1).trans (Q0 _ z.1))
def pR:List (FuncId×af):=[(116,Ed)]
abbrev fT:LS:=⟨[(false,[(.sl yI)]),(false,[(.int .i64)]),(false,[(.int .i64)])],[],[]⟩
abbrev Cy:LS:=⟨[(false,[(.sl yI)]),(false,[.bool]),(false,[(.int .i64)])],[],[]⟩
abbrev wy v0(v1:Bool)(v2:Int):=((((v0,()),(v1,()),(v2,()),()),(),()):Cy.T)
abbrev Cz:LS:=⟨[(false,[(.sl yI)]),(false,[.undef]),(false,[(.int .i64)])],[],[]⟩
abbrev wz v0(v1:Int):=((((v0,()),((),()),(v1,()),()),(),()):Cz.T)
abbrev gV:List (Ex×LS):=[(.ret,Cy),(.exit 2,Cz)]
abbrev qo x0(x3:Int)(x4:Int):=((((x0,()),(x3,()),(x4,()),()),(),()):fT.T)
def kR{R:Type}(nx:fT.T->Option R)(hx:mA R gV)(x0:List It)(x3:Int)(x4:Int):Option R:=
 cond (decide (x4<x3))
 (Option.bind (gq x0 x4) fun y106=>
  Option.bind (gq x0 x3) fun y107=>
  cond ((ByteArray.toList y106.1)==(ByteArray.toList y107.1))
  (hx.1 (wy x0 Bool.false x3))
  (nx (qo x0 x3 (IntKind.wrap .i64 (x4+(1:Int))))))
 (hx.2.1 (wz x0 x3))
def zV{R:Type}(nx:fT.T->Option R)(hx:mA R gV)(z:fT.T):Option R:=kR nx hx z.1.1.1 z.1.2.1.1 z.1.2.2.1.1
theorem CN:cK @zV:=fun R nx hx z=>by
 show kR nx hx z.1.1.1 z.1.2.1.1 z.1.2.2.1.1=(kR (fun y=>some (.inl y)) (oI gV fun x=>some (.inr x)) z.1.1.1 z.1.2.1.1 z.1.2.2.1.1).bind (oH nx hx)
 unfold kR
 exact ae (ac fun _=>ac fun _=>ae rfl rfl) rfl
def kT:fT.T->Option (yH gV):=BU @zV
theorem ES x0 x3 x4:kT (qo x0 x3 x4)=kR kT (oI gV some) x0 x3 x4:=dR CN _
def sH:bN:=⟨[0,3,4],[],[0,2,3],[]⟩
abbrev fS:LS:=⟨[(false,[(.sl yI)]),(false,[(.int .i64)])],[],[]⟩
abbrev Cw:LS:=⟨[(false,[(.sl yI)]),(false,[.bool])],[],[]⟩
abbrev wx v0(v1:Bool):=((((v0,()),(v1,()),()),(),()):Cw.T)
abbrev Cx:LS:=⟨[(false,[(.sl yI)]),(false,[.undef])],[],[]⟩
abbrev Ct v0:=((((v0,()),((),()),()),(),()):Cx.T)
abbrev gU:List (Ex×LS):=[(.ret,Cw),(.exit 0,Cx)]
abbrev nc x0(x3:Int):=((((x0,()),(x3,()),()),(),()):fS.T)
def kQ{R:Type}(nx:fS.T->Option R)(hx:mA R gU)(x0:List It)(x3:Int):Option R:=
 cond (decide (x3<((List.length x0:Nat):Int)))
 (Option.bind (gq x0 x3) fun y69=>
  Option.bind (rp y69) fun y102=>
  cond (!y102)
  (hx.1 (wx x0 Bool.false))
  (Option.bind (kT (qo x0 x3 (0:Int))) (qi gV
   (fun e108=>
    hx.1 (wx (e108.1.1.1:List It) (e108.1.2.1.1:Bool)),fun e112=>
    nx (nc (e112.1.1.1:List It) (IntKind.wrap .i64 ((e112.1.2.2.1.1:Int)+(1:Int)))),()))))
 (hx.2.1 (Ct x0))
def zU{R:Type}(nx:fS.T->Option R)(hx:mA R gU)(z:fS.T):Option R:=kQ nx hx z.1.1.1 z.1.2.1.1
theorem CM:cK @zU:=fun R nx hx z=>by
 show kQ nx hx z.1.1.1 z.1.2.1.1=(kQ (fun y=>some (.inl y)) (oI gU fun x=>some (.inr x)) z.1.1.1 z.1.2.1.1).bind (oH nx hx)
 unfold kQ
 exact ae (ac fun _=>ac fun _=>ae rfl (cq ⟨fun _=>rfl,fun _=>rfl,trivial⟩)) rfl
def jh:fS.T->Option (yH gU):=BU @zU
theorem EQ x0 x3:jh (nc x0 x3)=kQ jh (oI gU some) x0 x3:=dR CM _
def sG:bN:=⟨[0,3],[],[0,2],[]⟩
def pT:fq Rv:=⟨fun k=>match k with|8=>sH|3=>sG|_=>⟨[],[],[],[]⟩,fun k=>match k with|8=>some (ce fT gV kT)|3=>some (ce fS gU jh)|_=>none⟩
theorem Oa(n:Nat)(z:fT.T)(k:Ex->iV->Option Rv):bJ ⟨36,36⟩ sH (mU (gN C0 pR) ⟨36,36⟩ pT 1 (aG Tryz.f56 7)) (n+1) (fT.enc z) k=
 zV (fun y=>bJ ⟨36,36⟩ sH (mU (gN C0 pR) ⟨36,36⟩ pT 1 (aG Tryz.f56 7)) n (fT.enc y) k) (hK k gV) z:=by kernel_rfl
theorem N9(n:Nat)(z:fS.T)(k:Ex->iV->Option Rv):bJ ⟨36,36⟩ sG (mU (gN C0 pR) ⟨36,36⟩ pT 1 (aG Tryz.f56 2)) (n+1) (fS.enc z) k=
 zU (fun y=>bJ ⟨36,36⟩ sG (mU (gN C0 pR) ⟨36,36⟩ pT 1 (aG Tryz.f56 2)) n (fS.enc y) k) (hK k gU) z:=by kernel_rfl
theorem Qt:ak (gN C0 pR) ⟨36,36⟩ pT 1 (ca (aX Tryz.f56)):=by
 have hl:ca (aX Tryz.f56)=[aG Tryz.f56 2,aG Tryz.f56 7]:=by kernel_rfl
 rw[hl]
 exact ak.cons (n:=3) (lh:=sG) (S:=ce fS gU jh) (by kernel_rfl) rfl rfl (cl CM N9)
  (ak.cons (n:=8) (lh:=sH) (S:=ce fT gV kT) (by kernel_rfl) rfl rfl (cl CN Oa)
  (ak.nil))
def tq{R:Type}(kx:Bool->Option R)(a0:(List It)):Option R:=
 Option.bind (jh (nc a0 (0:Int))) (qi gU
 (fun e115=>
  kx (e115.1.2.1.1:Bool),fun e118=>
  kx (decide ((((List.length (e118.1.1.1:List It)):Nat):Int)<=(40:Int))),()))
def nC(a0:(List It)):Option (Bool):=tq some a0
theorem Pi{R} kx a0: @tq R kx a0=(nC a0).bind kx:=by
 unfold nC tq
 exact cq ⟨fun _=>rfl,fun _=>rfl,trivial⟩
abbrev B8:af:=.fx [.val false (.slice yI)] (Bool) (fun z=>nC z.1) (fun b=>(.one ⟨false,[(.v (.bool b))]⟩,[]))
theorem HY:ag C0 56 B8:=
 ag.fx (e:=false) (t:=pR) (.cons Tl (.nil)) mixed Tryz.func56 (by kernel_rfl) (by kernel_rfl) pT 1 Qt (fun z=>(by kernel_rfl:_=tq (fun b=>some (B8.enc b)) z.1).trans (Pi _ z.1))
def xN{R:Type}(kx:(List ByteArray)->Option R):Option R:=
 kx [(ByteArray.mk (Array.mk [])),(ByteArray.mk (Array.mk [])),(ByteArray.mk (Array.mk [])),(ByteArray.mk (Array.mk [108,108])),(ByteArray.mk (Array.mk [112,112])),(ByteArray.mk (Array.mk [108,120])),(ByteArray.mk (Array.mk [112,112])),(ByteArray.mk (Array.mk [112,112])),(ByteArray.mk (Array.mk [108,108,107])),(ByteArray.mk (Array.mk [108,112])),(ByteArray.mk (Array.mk [112,108,112,107])),(ByteArray.mk (Array.mk [112,108,112,108,107])),(ByteArray.mk (Array.mk [112,108,108]))]
def nB:Option ((List ByteArray)):=xN some
theorem Ph{R} kx: @xN R kx=(nB).bind kx:=by
 unfold nB xN
 exact rfl
abbrev B7:af:=.fx [] ((List ByteArray)) (fun z=>nB) (fun b=>(.one ⟨false,[(.own .str b)]⟩,[]))
theorem AB:ag C0 123 B7:=
 ag.fx (e:=false) (.nil) mixed Tryz.func123 (by kernel_rfl) (by kernel_rfl) al 1 ai (fun z=>(by kernel_rfl:_=xN (fun b=>some (B7.enc b))).trans (Ph _))
def up{R:Type}(kx:Bool->Option R)(a0:Int):Option R:=
 Option.bind nB fun y128=>
 Option.bind (gq y128 a0) fun y129=>
 cond (!((ByteArray.toList y129)==(ByteArray.toList (ByteArray.mk (Array.mk [])))))
 (Option.bind (B3 y129 (IntKind.wrap .i64 ((((ByteArray.size y129):Nat):Int)-(1:Int)))) fun y130=>
  kx ((((UInt8.toNat y130):Nat):Int)==(107:Int)))
 (kx Bool.false)
def cw(a0:Int):Option (Bool):=up some a0
theorem L0{R} kx a0: @up R kx a0=(cw a0).bind kx:=by
 unfold cw up
 exact ac fun _=>ac fun _=>ae (ac fun _=>rfl) rfl
abbrev zn:af:=.fx [.val false (.int .i64)] (Bool) (fun z=>cw z.1) (fun b=>(.one ⟨false,[(.v (.bool b))]⟩,[]))
theorem EJ:ag C0 98 zn:=
 ag.fx (e:=false) (.cons AB (.nil)) mixed Tryz.func98 (by kernel_rfl) (by kernel_rfl) al 1 ai (fun z=>(by kernel_rfl:_=up (fun b=>some (zn.enc b)) z.1).trans (L0 _ z.1))
def zR{R:Type}(kx:Int->Option R)(a0:Int):Option R:=
 Option.bind nB fun y125=>
 Option.bind (gq y125 a0) fun y126=>
 Option.bind (cw a0) fun y131=>
 cond y131
 (kx (IntKind.wrap .i64 ((((ByteArray.size y126):Nat):Int)-(1:Int))))
 (kx (((ByteArray.size y126):Nat):Int))
def dz(a0:Int):Option (Int):=zR some a0
theorem QY{R} kx a0: @zR R kx a0=(dz a0).bind kx:=by
 unfold dz zR
 exact ac fun _=>ac fun _=>ac fun _=>ae rfl rfl
abbrev Ec:af:=.fx [.val false (.int .i64)] (Int) (fun z=>dz z.1) (fun b=>(.one ⟨false,[(.v (.int .i64 b))]⟩,[]))
theorem Tj:ag C0 119 Ec:=
 ag.fx (e:=false) (.cons AB (.cons EJ (.nil))) mixed Tryz.func119 (by kernel_rfl) (by kernel_rfl) al 1 ai (fun z=>(by kernel_rfl:_=zR (fun b=>some (Ec.enc b)) z.1).trans (QY _ z.1))
def C3:List (FuncId×af):=[(117,Gs),(118,Iu),(119,Ec),(98,zn),(120,sV),(121,uL)]
abbrev jw:LS:=⟨[(false,[(.ptr 112 0)]),(false,[(.int .i64)])],[(true,[.str,(.int .i64),(.sl .str),(.int .i64),(.int .i64),(.int .i64),(.int .i64),(.int .i64),(.int .i64),(.int .i64),(.int .i64),(.int .i64),(.int .i64),(.int .i64)])],[]⟩
abbrev GX:LS:=⟨[(false,[(.ptr 112 0)]),(false,[.bool])],[(true,[.str,(.int .i64),(.sl .str),(.int .i64),(.int .i64),(.int .i64),(.int .i64),(.int .i64),(.int .i64),(.int .i64),(.int .i64),(.int .i64),(.int .i64),(.int .i64)])],[]⟩
abbrev GP(v0:Bool)(v1:ByteArray)(v2:Int)(v3:List ByteArray)(v4:Int)(v5:Int)(v6:Int)(v7:Int)(v8:Int)(v9:Int)(v10:Int)(v11:Int)(v12:Int)(v13:Int)(v14:Int):=(((((),()),(v0,()),()),((v1,v2,v3,v4,v5,v6,v7,v8,v9,v10,v11,v12,v13,v14,()),()),()):GX.T)
abbrev GY:LS:=⟨[(false,[(.ptr 112 0)]),(false,[.undef])],[(true,[.str,(.int .i64),(.sl .str),(.int .i64),(.int .i64),(.int .i64),(.int .i64),(.int .i64),(.int .i64),(.int .i64),(.int .i64),(.int .i64),(.int .i64),(.int .i64)])],[]⟩
abbrev GQ(v0:ByteArray)(v1:Int)(v2:List ByteArray)(v3:Int)(v4:Int)(v5:Int)(v6:Int)(v7:Int)(v8:Int)(v9:Int)(v10:Int)(v11:Int)(v12:Int)(v13:Int):=(((((),()),((),()),()),((v0,v1,v2,v3,v4,v5,v6,v7,v8,v9,v10,v11,v12,v13,()),()),()):GY.T)
abbrev dA:List (Ex×LS):=[(.ret,GX),(.exit 0,GY)]
abbrev cf(x3:Int)(b0_0:ByteArray)(b0_1:Int)(b0_2:List ByteArray)(b0_3:Int)(b0_4:Int)(b0_5:Int)(b0_6:Int)(b0_7:Int)(b0_8:Int)(b0_9:Int)(b0_10:Int)(b0_11:Int)(b0_12:Int)(b0_13:Int):=(((((),()),(x3,()),()),((b0_0,b0_1,b0_2,b0_3,b0_4,b0_5,b0_6,b0_7,b0_8,b0_9,b0_10,b0_11,b0_12,b0_13,()),()),()):jw.T)
def pI{R:Type}(nx:jw.T->Option R)(hx:mA R dA)(x3:Int)(b0_0:ByteArray)(b0_1:Int)(b0_2:List ByteArray)(b0_3:Int)(b0_4:Int)(b0_5:Int)(b0_6:Int)(b0_7:Int)(b0_8:Int)(b0_9:Int)(b0_10:Int)(b0_11:Int)(b0_12:Int)(b0_13:Int):Option R:=
 cond (decide (x3<((List.length b0_2:Nat):Int)))
 (Option.bind (gq b0_2 x3) fun y150=>
  Option.bind (ou y150) fun y151=>
  cond (!y151)
  (hx.1 (GP Bool.false b0_0 b0_1 b0_2 b0_3 b0_4 b0_5 b0_6 b0_7 b0_8 b0_9 b0_10 b0_11 b0_12 b0_13))
  (nx (cf (IntKind.wrap .i64 (x3+(1:Int))) b0_0 b0_1 b0_2 b0_3 b0_4 b0_5 b0_6 b0_7 b0_8 b0_9 b0_10 b0_11 b0_12 b0_13)))
 (hx.2.1 (GQ b0_0 b0_1 b0_2 b0_3 b0_4 b0_5 b0_6 b0_7 b0_8 b0_9 b0_10 b0_11 b0_12 b0_13))
def EN{R:Type}(nx:jw.T->Option R)(hx:mA R dA)(z:jw.T):Option R:=pI nx hx z.1.2.1.1 z.2.1.1.1 z.2.1.1.2.1 z.2.1.1.2.2.1 z.2.1.1.2.2.2.1 z.2.1.1.2.2.2.2.1 z.2.1.1.2.2.2.2.2.1 z.2.1.1.2.2.2.2.2.2.1 z.2.1.1.2.2.2.2.2.2.2.1 z.2.1.1.2.2.2.2.2.2.2.2.1 z.2.1.1.2.2.2.2.2.2.2.2.2.1 z.2.1.1.2.2.2.2.2.2.2.2.2.2.1 z.2.1.1.2.2.2.2.2.2.2.2.2.2.2.1 z.2.1.1.2.2.2.2.2.2.2.2.2.2.2.2.1 z.2.1.1.2.2.2.2.2.2.2.2.2.2.2.2.2.1
theorem HH:cK @EN:=fun R nx hx z=>by
 show pI nx hx z.1.2.1.1 z.2.1.1.1 z.2.1.1.2.1 z.2.1.1.2.2.1 z.2.1.1.2.2.2.1 z.2.1.1.2.2.2.2.1 z.2.1.1.2.2.2.2.2.1 z.2.1.1.2.2.2.2.2.2.1 z.2.1.1.2.2.2.2.2.2.2.1 z.2.1.1.2.2.2.2.2.2.2.2.1 z.2.1.1.2.2.2.2.2.2.2.2.2.1 z.2.1.1.2.2.2.2.2.2.2.2.2.2.1 z.2.1.1.2.2.2.2.2.2.2.2.2.2.2.1 z.2.1.1.2.2.2.2.2.2.2.2.2.2.2.2.1 z.2.1.1.2.2.2.2.2.2.2.2.2.2.2.2.2.1=(pI (fun y=>some (.inl y)) (oI dA fun x=>some (.inr x)) z.1.2.1.1 z.2.1.1.1 z.2.1.1.2.1 z.2.1.1.2.2.1 z.2.1.1.2.2.2.1 z.2.1.1.2.2.2.2.1 z.2.1.1.2.2.2.2.2.1 z.2.1.1.2.2.2.2.2.2.1 z.2.1.1.2.2.2.2.2.2.2.1 z.2.1.1.2.2.2.2.2.2.2.2.1 z.2.1.1.2.2.2.2.2.2.2.2.2.1 z.2.1.1.2.2.2.2.2.2.2.2.2.2.1 z.2.1.1.2.2.2.2.2.2.2.2.2.2.2.1 z.2.1.1.2.2.2.2.2.2.2.2.2.2.2.2.1 z.2.1.1.2.2.2.2.2.2.2.2.2.2.2.2.2.1).bind (oH nx hx)
 unfold pI
 exact ae (ac fun _=>ac fun _=>ae rfl rfl) rfl
def bP:jw.T->Option (yH dA):=BU @EN
theorem Jo x3 b0_0 b0_1 b0_2 b0_3 b0_4 b0_5 b0_6 b0_7 b0_8 b0_9 b0_10 b0_11 b0_12 b0_13:bP (cf x3 b0_0 b0_1 b0_2 b0_3 b0_4 b0_5 b0_6 b0_7 b0_8 b0_9 b0_10 b0_11 b0_12 b0_13)=pI bP (oI dA some) x3 b0_0 b0_1 b0_2 b0_3 b0_4 b0_5 b0_6 b0_7 b0_8 b0_9 b0_10 b0_11 b0_12 b0_13:=dR HH _
def xE:bN:=⟨[0,3],[112],[0,2],[112]⟩
def C9:fq Rv:=⟨fun k=>match k with|7=>xE|_=>⟨[],[],[],[]⟩,fun k=>match k with|7=>some (ce jw dA bP)|_=>none⟩
theorem Tr(n:Nat)(z:jw.T)(k:Ex->iV->Option Rv):bJ ⟨112,113⟩ xE (mU (gN C0 C3) ⟨112,113⟩ C9 1 (aG Tryz.f57 6)) (n+1) (jw.enc z) k=
 EN (fun y=>bJ ⟨112,113⟩ xE (mU (gN C0 C3) ⟨112,113⟩ C9 1 (aG Tryz.f57 6)) n (jw.enc y) k) (hK k dA) z:=by kernel_rfl
theorem VS:ak (gN C0 C3) ⟨112,113⟩ C9 1 (ca (aX Tryz.f57)):=by
 have hl:ca (aX Tryz.f57)=[aG Tryz.f57 6]:=by kernel_rfl
 rw[hl]
 exact ak.cons (n:=7) (lh:=xE) (S:=ce jw dA bP) (by kernel_rfl) rfl rfl (cl HH Tr)
  (ak.nil)
def eJ{R:Type}(kx:Bool->Option R)(a0:Cn):Option R:=
 Option.bind (ou a0.1) fun y122=>
 cond (!y122)
 (kx Bool.false)
 (Option.bind (cI a0.2.1 (1:Int) (12:Int)) fun y123=>
  cond (!y123)
  (kx Bool.false)
  (Option.bind (dz a0.2.1) fun y132=>
   cond ((((List.length a0.2.2.1):Nat):Int) !=y132)
   (kx Bool.false)
   (Option.bind (cI a0.2.2.2.1 (0:Int) (7:Int)) fun y133=>
    cond (!y133)
    (kx Bool.false)
    (Option.bind (cw a0.2.1) fun y134=>
     cond (!y134)
     (cond (a0.2.2.2.1 !=(0:Int))
      (kx Bool.false)
      (cond (a0.2.1 !=(1:Int))
       (cond (!(((a0.2.2.2.2.1.1.1==(0:Int))&&((a0.2.2.2.2.1.1.2.1==(0:Int))&&((a0.2.2.2.2.1.1.2.2==(0:Int))&&Bool.true)))&&(((a0.2.2.2.2.1.2.1==(0:Int))&&((a0.2.2.2.2.1.2.2.1==(0:Int))&&((a0.2.2.2.2.1.2.2.2==(0:Int))&&Bool.true)))&&Bool.true)))
        (kx Bool.false)
        (cond (a0.2.1 !=(2:Int))
         (cond (!((a0.2.2.2.2.2.1==(0:Int))&&(((a0.2.2.2.2.2.2.1==(0:Int))&&((a0.2.2.2.2.2.2.2.1==(0:Int))&&((a0.2.2.2.2.2.2.2.2==(0:Int))&&Bool.true)))&&Bool.true)))
          (kx Bool.false)
          (Option.bind (bP (cf (0:Int) a0.1 a0.2.1 a0.2.2.1 a0.2.2.2.1 a0.2.2.2.2.1.1.1 a0.2.2.2.2.1.1.2.1 a0.2.2.2.2.1.1.2.2 a0.2.2.2.2.1.2.1 a0.2.2.2.2.1.2.2.1 a0.2.2.2.2.1.2.2.2 a0.2.2.2.2.2.1 a0.2.2.2.2.2.2.1 a0.2.2.2.2.2.2.2.1 a0.2.2.2.2.2.2.2.2)) (qi dA
           (fun e152=>
            kx (e152.1.2.1.1:Bool),fun e168=>
            Option.bind (bh (((e168.2.1.1.2.2.2.2.1:Int),((e168.2.1.1.2.2.2.2.2.1:Int),(e168.2.1.1.2.2.2.2.2.2.1:Int))),((e168.2.1.1.2.2.2.2.2.2.2.1:Int),((e168.2.1.1.2.2.2.2.2.2.2.2.1:Int),(e168.2.1.1.2.2.2.2.2.2.2.2.2.1:Int))))) fun y183=>
            cond y183
            (Option.bind (bG ((e168.2.1.1.2.2.2.2.2.2.2.2.2.2.1:Int),((e168.2.1.1.2.2.2.2.2.2.2.2.2.2.2.1:Int),((e168.2.1.1.2.2.2.2.2.2.2.2.2.2.2.2.1:Int),(e168.2.1.1.2.2.2.2.2.2.2.2.2.2.2.2.2.1:Int))))) fun y184=>
             kx y184)
            (kx Bool.false),()))))
         (Option.bind (bP (cf (0:Int) a0.1 a0.2.1 a0.2.2.1 a0.2.2.2.1 a0.2.2.2.2.1.1.1 a0.2.2.2.2.1.1.2.1 a0.2.2.2.2.1.1.2.2 a0.2.2.2.2.1.2.1 a0.2.2.2.2.1.2.2.1 a0.2.2.2.2.1.2.2.2 a0.2.2.2.2.2.1 a0.2.2.2.2.2.2.1 a0.2.2.2.2.2.2.2.1 a0.2.2.2.2.2.2.2.2)) (qi dA
          (fun e185=>
           kx (e185.1.2.1.1:Bool),fun e201=>
           Option.bind (bh (((e201.2.1.1.2.2.2.2.1:Int),((e201.2.1.1.2.2.2.2.2.1:Int),(e201.2.1.1.2.2.2.2.2.2.1:Int))),((e201.2.1.1.2.2.2.2.2.2.2.1:Int),((e201.2.1.1.2.2.2.2.2.2.2.2.1:Int),(e201.2.1.1.2.2.2.2.2.2.2.2.2.1:Int))))) fun y216=>
           cond y216
           (Option.bind (bG ((e201.2.1.1.2.2.2.2.2.2.2.2.2.2.1:Int),((e201.2.1.1.2.2.2.2.2.2.2.2.2.2.2.1:Int),((e201.2.1.1.2.2.2.2.2.2.2.2.2.2.2.2.1:Int),(e201.2.1.1.2.2.2.2.2.2.2.2.2.2.2.2.2.1:Int))))) fun y217=>
            kx y217)
           (kx Bool.false),())))))
       (cond (a0.2.1 !=(2:Int))
        (cond (!((a0.2.2.2.2.2.1==(0:Int))&&(((a0.2.2.2.2.2.2.1==(0:Int))&&((a0.2.2.2.2.2.2.2.1==(0:Int))&&((a0.2.2.2.2.2.2.2.2==(0:Int))&&Bool.true)))&&Bool.true)))
         (kx Bool.false)
         (Option.bind (bP (cf (0:Int) a0.1 a0.2.1 a0.2.2.1 a0.2.2.2.1 a0.2.2.2.2.1.1.1 a0.2.2.2.2.1.1.2.1 a0.2.2.2.2.1.1.2.2 a0.2.2.2.2.1.2.1 a0.2.2.2.2.1.2.2.1 a0.2.2.2.2.1.2.2.2 a0.2.2.2.2.2.1 a0.2.2.2.2.2.2.1 a0.2.2.2.2.2.2.2.1 a0.2.2.2.2.2.2.2.2)) (qi dA
          (fun e218=>
           kx (e218.1.2.1.1:Bool),fun e234=>
           Option.bind (bh (((e234.2.1.1.2.2.2.2.1:Int),((e234.2.1.1.2.2.2.2.2.1:Int),(e234.2.1.1.2.2.2.2.2.2.1:Int))),((e234.2.1.1.2.2.2.2.2.2.2.1:Int),((e234.2.1.1.2.2.2.2.2.2.2.2.1:Int),(e234.2.1.1.2.2.2.2.2.2.2.2.2.1:Int))))) fun y249=>
           cond y249
           (Option.bind (bG ((e234.2.1.1.2.2.2.2.2.2.2.2.2.2.1:Int),((e234.2.1.1.2.2.2.2.2.2.2.2.2.2.2.1:Int),((e234.2.1.1.2.2.2.2.2.2.2.2.2.2.2.2.1:Int),(e234.2.1.1.2.2.2.2.2.2.2.2.2.2.2.2.2.1:Int))))) fun y250=>
            kx y250)
           (kx Bool.false),()))))
        (Option.bind (bP (cf (0:Int) a0.1 a0.2.1 a0.2.2.1 a0.2.2.2.1 a0.2.2.2.2.1.1.1 a0.2.2.2.2.1.1.2.1 a0.2.2.2.2.1.1.2.2 a0.2.2.2.2.1.2.1 a0.2.2.2.2.1.2.2.1 a0.2.2.2.2.1.2.2.2 a0.2.2.2.2.2.1 a0.2.2.2.2.2.2.1 a0.2.2.2.2.2.2.2.1 a0.2.2.2.2.2.2.2.2)) (qi dA
         (fun e251=>
          kx (e251.1.2.1.1:Bool),fun e267=>
          Option.bind (bh (((e267.2.1.1.2.2.2.2.1:Int),((e267.2.1.1.2.2.2.2.2.1:Int),(e267.2.1.1.2.2.2.2.2.2.1:Int))),((e267.2.1.1.2.2.2.2.2.2.2.1:Int),((e267.2.1.1.2.2.2.2.2.2.2.2.1:Int),(e267.2.1.1.2.2.2.2.2.2.2.2.2.1:Int))))) fun y282=>
          cond y282
          (Option.bind (bG ((e267.2.1.1.2.2.2.2.2.2.2.2.2.2.1:Int),((e267.2.1.1.2.2.2.2.2.2.2.2.2.2.2.1:Int),((e267.2.1.1.2.2.2.2.2.2.2.2.2.2.2.2.1:Int),(e267.2.1.1.2.2.2.2.2.2.2.2.2.2.2.2.2.1:Int))))) fun y283=>
           kx y283)
          (kx Bool.false),()))))))
     (cond (a0.2.1 !=(1:Int))
      (cond (!(((a0.2.2.2.2.1.1.1==(0:Int))&&((a0.2.2.2.2.1.1.2.1==(0:Int))&&((a0.2.2.2.2.1.1.2.2==(0:Int))&&Bool.true)))&&(((a0.2.2.2.2.1.2.1==(0:Int))&&((a0.2.2.2.2.1.2.2.1==(0:Int))&&((a0.2.2.2.2.1.2.2.2==(0:Int))&&Bool.true)))&&Bool.true)))
       (kx Bool.false)
       (cond (a0.2.1 !=(2:Int))
        (cond (!((a0.2.2.2.2.2.1==(0:Int))&&(((a0.2.2.2.2.2.2.1==(0:Int))&&((a0.2.2.2.2.2.2.2.1==(0:Int))&&((a0.2.2.2.2.2.2.2.2==(0:Int))&&Bool.true)))&&Bool.true)))
         (kx Bool.false)
         (Option.bind (bP (cf (0:Int) a0.1 a0.2.1 a0.2.2.1 a0.2.2.2.1 a0.2.2.2.2.1.1.1 a0.2.2.2.2.1.1.2.1 a0.2.2.2.2.1.1.2.2 a0.2.2.2.2.1.2.1 a0.2.2.2.2.1.2.2.1 a0.2.2.2.2.1.2.2.2 a0.2.2.2.2.2.1 a0.2.2.2.2.2.2.1 a0.2.2.2.2.2.2.2.1 a0.2.2.2.2.2.2.2.2)) (qi dA
          (fun e284=>
           kx (e284.1.2.1.1:Bool),fun e300=>
           Option.bind (bh (((e300.2.1.1.2.2.2.2.1:Int),((e300.2.1.1.2.2.2.2.2.1:Int),(e300.2.1.1.2.2.2.2.2.2.1:Int))),((e300.2.1.1.2.2.2.2.2.2.2.1:Int),((e300.2.1.1.2.2.2.2.2.2.2.2.1:Int),(e300.2.1.1.2.2.2.2.2.2.2.2.2.1:Int))))) fun y315=>
           cond y315
           (Option.bind (bG ((e300.2.1.1.2.2.2.2.2.2.2.2.2.2.1:Int),((e300.2.1.1.2.2.2.2.2.2.2.2.2.2.2.1:Int),((e300.2.1.1.2.2.2.2.2.2.2.2.2.2.2.2.1:Int),(e300.2.1.1.2.2.2.2.2.2.2.2.2.2.2.2.2.1:Int))))) fun y316=>
            kx y316)
           (kx Bool.false),()))))
        (Option.bind (bP (cf (0:Int) a0.1 a0.2.1 a0.2.2.1 a0.2.2.2.1 a0.2.2.2.2.1.1.1 a0.2.2.2.2.1.1.2.1 a0.2.2.2.2.1.1.2.2 a0.2.2.2.2.1.2.1 a0.2.2.2.2.1.2.2.1 a0.2.2.2.2.1.2.2.2 a0.2.2.2.2.2.1 a0.2.2.2.2.2.2.1 a0.2.2.2.2.2.2.2.1 a0.2.2.2.2.2.2.2.2)) (qi dA
         (fun e317=>
          kx (e317.1.2.1.1:Bool),fun e333=>
          Option.bind (bh (((e333.2.1.1.2.2.2.2.1:Int),((e333.2.1.1.2.2.2.2.2.1:Int),(e333.2.1.1.2.2.2.2.2.2.1:Int))),((e333.2.1.1.2.2.2.2.2.2.2.1:Int),((e333.2.1.1.2.2.2.2.2.2.2.2.1:Int),(e333.2.1.1.2.2.2.2.2.2.2.2.2.1:Int))))) fun y348=>
          cond y348
          (Option.bind (bG ((e333.2.1.1.2.2.2.2.2.2.2.2.2.2.1:Int),((e333.2.1.1.2.2.2.2.2.2.2.2.2.2.2.1:Int),((e333.2.1.1.2.2.2.2.2.2.2.2.2.2.2.2.1:Int),(e333.2.1.1.2.2.2.2.2.2.2.2.2.2.2.2.2.1:Int))))) fun y349=>
           kx y349)
          (kx Bool.false),())))))
      (cond (a0.2.1 !=(2:Int))
       (cond (!((a0.2.2.2.2.2.1==(0:Int))&&(((a0.2.2.2.2.2.2.1==(0:Int))&&((a0.2.2.2.2.2.2.2.1==(0:Int))&&((a0.2.2.2.2.2.2.2.2==(0:Int))&&Bool.true)))&&Bool.true)))
        (kx Bool.false)
        (Option.bind (bP (cf (0:Int) a0.1 a0.2.1 a0.2.2.1 a0.2.2.2.1 a0.2.2.2.2.1.1.1 a0.2.2.2.2.1.1.2.1 a0.2.2.2.2.1.1.2.2 a0.2.2.2.2.1.2.1 a0.2.2.2.2.1.2.2.1 a0.2.2.2.2.1.2.2.2 a0.2.2.2.2.2.1 a0.2.2.2.2.2.2.1 a0.2.2.2.2.2.2.2.1 a0.2.2.2.2.2.2.2.2)) (qi dA
         (fun e350=>
          kx (e350.1.2.1.1:Bool),fun e366=>
          Option.bind (bh (((e366.2.1.1.2.2.2.2.1:Int),((e366.2.1.1.2.2.2.2.2.1:Int),(e366.2.1.1.2.2.2.2.2.2.1:Int))),((e366.2.1.1.2.2.2.2.2.2.2.1:Int),((e366.2.1.1.2.2.2.2.2.2.2.2.1:Int),(e366.2.1.1.2.2.2.2.2.2.2.2.2.1:Int))))) fun y381=>
          cond y381
          (Option.bind (bG ((e366.2.1.1.2.2.2.2.2.2.2.2.2.2.1:Int),((e366.2.1.1.2.2.2.2.2.2.2.2.2.2.2.1:Int),((e366.2.1.1.2.2.2.2.2.2.2.2.2.2.2.2.1:Int),(e366.2.1.1.2.2.2.2.2.2.2.2.2.2.2.2.2.1:Int))))) fun y382=>
           kx y382)
          (kx Bool.false),()))))
       (Option.bind (bP (cf (0:Int) a0.1 a0.2.1 a0.2.2.1 a0.2.2.2.1 a0.2.2.2.2.1.1.1 a0.2.2.2.2.1.1.2.1 a0.2.2.2.2.1.1.2.2 a0.2.2.2.2.1.2.1 a0.2.2.2.2.1.2.2.1 a0.2.2.2.2.1.2.2.2 a0.2.2.2.2.2.1 a0.2.2.2.2.2.2.1 a0.2.2.2.2.2.2.2.1 a0.2.2.2.2.2.2.2.2)) (qi dA
        (fun e383=>
         kx (e383.1.2.1.1:Bool),fun e399=>
         Option.bind (bh (((e399.2.1.1.2.2.2.2.1:Int),((e399.2.1.1.2.2.2.2.2.1:Int),(e399.2.1.1.2.2.2.2.2.2.1:Int))),((e399.2.1.1.2.2.2.2.2.2.2.1:Int),((e399.2.1.1.2.2.2.2.2.2.2.2.1:Int),(e399.2.1.1.2.2.2.2.2.2.2.2.2.1:Int))))) fun y414=>
         cond y414
         (Option.bind (bG ((e399.2.1.1.2.2.2.2.2.2.2.2.2.2.1:Int),((e399.2.1.1.2.2.2.2.2.2.2.2.2.2.2.1:Int),((e399.2.1.1.2.2.2.2.2.2.2.2.2.2.2.2.1:Int),(e399.2.1.1.2.2.2.2.2.2.2.2.2.2.2.2.2.1:Int))))) fun y415=>
          kx y415)
         (kx Bool.false),())))))))))
def bQ(a0:Cn):Option (Bool):=eJ some a0
theorem UX{R} kx a0: @eJ R kx a0=(bQ a0).bind kx:=by
 unfold bQ eJ
 exact ac fun _=>ae rfl (ac fun _=>ae rfl (ac fun _=>ae rfl (ac fun _=>ae rfl (ac fun _=>ae (ae rfl (ae (ae rfl (ae (ae rfl (cq ⟨fun _=>rfl,fun _=>ac fun _=>ae (ac fun _=>rfl) rfl,trivial⟩)) (cq ⟨fun _=>rfl,fun _=>ac fun _=>ae (ac fun _=>rfl) rfl,trivial⟩))) (ae (ae rfl (cq ⟨fun _=>rfl,fun _=>ac fun _=>ae (ac fun _=>rfl) rfl,trivial⟩)) (cq ⟨fun _=>rfl,fun _=>ac fun _=>ae (ac fun _=>rfl) rfl,trivial⟩)))) (ae (ae rfl (ae (ae rfl (cq ⟨fun _=>rfl,fun _=>ac fun _=>ae (ac fun _=>rfl) rfl,trivial⟩)) (cq ⟨fun _=>rfl,fun _=>ac fun _=>ae (ac fun _=>rfl) rfl,trivial⟩))) (ae (ae rfl (cq ⟨fun _=>rfl,fun _=>ac fun _=>ae (ac fun _=>rfl) rfl,trivial⟩)) (cq ⟨fun _=>rfl,fun _=>ac fun _=>ae (ac fun _=>rfl) rfl,trivial⟩)))))))
abbrev OQ:af:=.fx [.ptr yC] (Bool) (fun z=>bQ z.1) (fun b=>(.one ⟨false,[(.v (.bool b))]⟩,[]))
theorem V6:ag C0 57 OQ:=
 ag.fx (e:=false) (t:=C3) (.cons KX (.cons Be (.cons Tj (.cons EJ (.cons fI (.cons iF (.nil))))))) mixed Tryz.func57 (by kernel_rfl) (by kernel_rfl) C9 1 VS (fun z=>(by kernel_rfl:_=eJ (fun b=>some (OQ.enc b)) z.1).trans (UX _ z.1))
def C2:List (FuncId×af):=[]
abbrev ju:LS:=⟨[(false,[(.sl yI)]),(false,[.str]),(false,[(.int .i64)])],[],[]⟩
abbrev GT:LS:=⟨[(false,[(.int .i64)])],[],[]⟩
abbrev GL(v0:Int):=((((v0,()),()),(),()):GT.T)
abbrev GU:LS:=⟨[(false,[.undef])],[],[]⟩
abbrev GM:=(((((),()),()),(),()):GU.T)
abbrev kV:List (Ex×LS):=[(.ret,GT),(.exit 0,GU)]
abbrev uN x0(x1:ByteArray)(x5:Int):=((((x0,()),(x1,()),(x5,()),()),(),()):ju.T)
def pG{R:Type}(nx:ju.T->Option R)(hx:mA R kV)(x0:List It)(x1:ByteArray)(x5:Int):Option R:=
 cond (decide (x5<((List.length x0:Nat):Int)))
 (Option.bind (gq x0 x5) fun y424=>
  cond ((ByteArray.toList y424.1)==(ByteArray.toList x1))
  (hx.1 (GL x5))
  (nx (uN x0 x1 (IntKind.wrap .i64 (x5+(1:Int))))))
 (hx.2.1 (GM))
def EL{R:Type}(nx:ju.T->Option R)(hx:mA R kV)(z:ju.T):Option R:=pG nx hx z.1.1.1 z.1.2.1.1 z.1.2.2.1.1
theorem HF:cK @EL:=fun R nx hx z=>by
 show pG nx hx z.1.1.1 z.1.2.1.1 z.1.2.2.1.1=(pG (fun y=>some (.inl y)) (oI kV fun x=>some (.inr x)) z.1.1.1 z.1.2.1.1 z.1.2.2.1.1).bind (oH nx hx)
 unfold pG
 exact ae (ac fun _=>ae rfl rfl) rfl
def pJ:ju.T->Option (yH kV):=BU @EL
theorem Jm x0 x1 x5:pJ (uN x0 x1 x5)=pG pJ (oI kV some) x0 x1 x5:=dR HF _
def xC:bN:=⟨[0,1,5],[],[4],[]⟩
def C8:fq Rv:=⟨fun k=>match k with|3=>xC|_=>⟨[],[],[],[]⟩,fun k=>match k with|3=>some (ce ju kV pJ)|_=>none⟩
theorem Tp(n:Nat)(z:ju.T)(k:Ex->iV->Option Rv):bJ ⟨20,20⟩ xC (mU (gN C0 C2) ⟨20,20⟩ C8 1 (aG Tryz.f122 2)) (n+1) (ju.enc z) k=
 EL (fun y=>bJ ⟨20,20⟩ xC (mU (gN C0 C2) ⟨20,20⟩ C8 1 (aG Tryz.f122 2)) n (ju.enc y) k) (hK k kV) z:=by kernel_rfl
theorem VQ:ak (gN C0 C2) ⟨20,20⟩ C8 1 (ca (aX Tryz.f122)):=by
 have hl:ca (aX Tryz.f122)=[aG Tryz.f122 2]:=by kernel_rfl
 rw[hl]
 exact ak.cons (n:=3) (lh:=xC) (S:=ce ju kV pJ) (by kernel_rfl) rfl rfl (cl HF Tp)
  (ak.nil)
def zS{R:Type}(kx:Int->Option R)(a0:(List It))(a1:ByteArray):Option R:=
 Option.bind (pJ (uN a0 a1 (0:Int))) (qi kV
 (fun e425=>
  kx (e425.1.1.1:Int),fun _=>
  kx (-(1:Int)),()))
def sy(a0:(List It))(a1:ByteArray):Option (Int):=zS some a0 a1
theorem UV{R} kx a0 a1: @zS R kx a0 a1=(sy a0 a1).bind kx:=by
 unfold sy zS
 exact cq ⟨fun _=>rfl,fun _=>rfl,trivial⟩
abbrev Iv:af:=.fx [.val false (.slice yI), .val false .str] (Int) (fun z=>sy z.1 z.2.1) (fun b=>(.one ⟨false,[(.v (.int .i64 b))]⟩,[]))
theorem V4:ag C0 122 Iv:=
 ag.fx (e:=false) (t:=C2) (.nil) mixed Tryz.func122 (by kernel_rfl) (by kernel_rfl) C8 1 VQ (fun z=>(by kernel_rfl:_=zS (fun b=>some (Iv.enc b)) z.1 z.2.1).trans (UV _ z.1 z.2.1))
def sO{R:Type}(kx:It×Int->Option R)(a0:Pt)(a1:Int):Option R:=
 kx (((ByteArray.mk (Array.mk [])),(Bool.false,(a0,((0:Int),((0:Int),((0:Int),(0:Int))))))),a1)
def dw(a0:Pt)(a1:Int):Option (It×Int):=sO some a0 a1
theorem KK{R} kx a0 a1: @sO R kx a0 a1=(dw a0 a1).bind kx:=by
 unfold dw sO
 exact rfl
abbrev Ef:af:=.fx [.val true yP, .val false (.int .i64)] (It×Int) (fun z=>dw z.1 z.2.1) (fun b=>(.tup [⟨true,[(.v (.string b.1.1)),(.v (.bool b.1.2.1)),(.v (.int .i64 b.1.2.2.1.1.1)),(.v (.int .i64 b.1.2.2.1.1.2.1)),(.v (.int .i64 b.1.2.2.1.1.2.2)),(.v (.int .i64 b.1.2.2.1.2.1)),(.v (.int .i64 b.1.2.2.1.2.2.1)),(.v (.int .i64 b.1.2.2.1.2.2.2)),(.v (.int .i64 b.1.2.2.2.1)),(.v (.int .i64 b.1.2.2.2.2.1)),(.v (.int .i64 b.1.2.2.2.2.2.1)),(.v (.int .i64 b.1.2.2.2.2.2.2))]⟩,⟨false,[(.v (.int .i64 b.2))]⟩],[]))
theorem Mf:ag C0 193 Ef:=
 ag.fx (e:=false) (.nil) mixed Tryz.func193 (by kernel_rfl) (by kernel_rfl) al 1 ai (fun z=>(by kernel_rfl:_=sO (fun b=>some (Ef.enc b)) z.1 z.2.1).trans (KK _ z.1 z.2.1))
def uq{R:Type}(kx:It×Int->Option R)(a0:Ln)(a1:Int):Option R:=
 kx (((ByteArray.mk (Array.mk [])),(Bool.true,((((0:Int),((0:Int),(0:Int))),((0:Int),((0:Int),(0:Int)))),a0))),a1)
def cE(a0:Ln)(a1:Int):Option (It×Int):=uq some a0 a1
theorem L3{R} kx a0 a1: @uq R kx a0 a1=(cE a0 a1).bind kx:=by
 unfold cE uq
 exact rfl
abbrev FH:af:=.fx [.val true yL, .val false (.int .i64)] (It×Int) (fun z=>cE z.1 z.2.1) (fun b=>(.tup [⟨true,[(.v (.string b.1.1)),(.v (.bool b.1.2.1)),(.v (.int .i64 b.1.2.2.1.1.1)),(.v (.int .i64 b.1.2.2.1.1.2.1)),(.v (.int .i64 b.1.2.2.1.1.2.2)),(.v (.int .i64 b.1.2.2.1.2.1)),(.v (.int .i64 b.1.2.2.1.2.2.1)),(.v (.int .i64 b.1.2.2.1.2.2.2)),(.v (.int .i64 b.1.2.2.2.1)),(.v (.int .i64 b.1.2.2.2.2.1)),(.v (.int .i64 b.1.2.2.2.2.2.1)),(.v (.int .i64 b.1.2.2.2.2.2.2))]⟩,⟨false,[(.v (.int .i64 b.2))]⟩],[]))
theorem N2:ag C0 194 FH:=
 ag.fx (e:=false) (.nil) mixed Tryz.func194 (by kernel_rfl) (by kernel_rfl) al 1 ai (fun z=>(by kernel_rfl:_=uq (fun b=>some (FH.enc b)) z.1 z.2.1).trans (L3 _ z.1 z.2.1))
def cY{R:Type}(kx:Nm->Option R)(a0:Nm):Option R:=
 kx a0
def cb(a0:Nm):Option (Nm):=cY some a0
theorem US{R} kx a0: @cY R kx a0=(cb a0).bind kx:=by
 unfold cb cY
 exact rfl
abbrev ON:af:=.fx [.val true yN] (Nm) (fun z=>cb z.1) (fun b=>(.one ⟨true,[(.v (.int .i64 b.1)),(.v (.int .i64 b.2.1)),(.v (.int .i64 b.2.2))]⟩,[]))
theorem GC:ag C0 143 ON:=
 ag.fx (e:=false) (.nil) mixed Tryz.func143 (by kernel_rfl) (by kernel_rfl) al 1 ai (fun z=>(by kernel_rfl:_=cY (fun b=>some (ON.enc b)) z.1).trans (US _ z.1))
def fK{R:Type}(kx:Ln->Option R)(a0:Ln):Option R:=
 Option.bind (cb a0.2) fun y560=>
 kx (a0.1,y560)
def bR(a0:Ln):Option (Ln):=fK some a0
theorem NI{R} kx a0: @fK R kx a0=(bR a0).bind kx:=by
 unfold bR fK
 exact ac fun _=>rfl
abbrev vX:af:=.fx [.val true yL] (Ln) (fun z=>bR z.1) (fun b=>(.one ⟨true,[(.v (.int .i64 b.1)),(.v (.int .i64 b.2.1)),(.v (.int .i64 b.2.2.1)),(.v (.int .i64 b.2.2.2))]⟩,[]))
theorem kJ:ag C0 256 vX:=
 ag.fx (e:=false) (.cons GC (.nil)) mixed Tryz.func256 (by kernel_rfl) (by kernel_rfl) al 1 ai (fun z=>(by kernel_rfl:_=fK (fun b=>some (vX.enc b)) z.1).trans (NI _ z.1))
def xr{R:Type}(kx:Int->Option R)(a0:Int):Option R:=
 kx (Int.tmod (IntKind.wrap .i64 ((Int.tmod a0 (16:Int))+(16:Int))) (16:Int))
def qI(a0:Int):Option (Int):=xr some a0
theorem SS{R} kx a0: @xr R kx a0=(qI a0).bind kx:=by
 unfold qI xr
 exact rfl
abbrev MF:af:=.fx [.val false (.int .i64)] (Int) (fun z=>qI z.1) (fun b=>(.one ⟨false,[(.v (.int .i64 b))]⟩,[]))
theorem KZ:ag C0 213 MF:=
 ag.fx (e:=false) (.nil) mixed Tryz.func213 (by kernel_rfl) (by kernel_rfl) al 1 ai (fun z=>(by kernel_rfl:_=xr (fun b=>some (MF.enc b)) z.1).trans (SS _ z.1))
def tI{R:Type}(kx:Pt->Option R)(a0:Int):Option R:=
 Option.bind (qI a0) fun y567=>
 Option.bind (gq [(((1:Int),((0:Int),(0:Int))),((0:Int),((0:Int),(0:Int)))),(((1:Int),((0:Int),(0:Int))),((-(1:Int)),((1:Int),(0:Int)))),(((1:Int),((0:Int),(0:Int))),((1:Int),((0:Int),(0:Int)))),(((-(1:Int)),((1:Int),(0:Int))),((1:Int),((0:Int),(0:Int)))),(((0:Int),((0:Int),(0:Int))),((1:Int),((0:Int),(0:Int)))),(((1:Int),((-(1:Int)),(0:Int))),((1:Int),((0:Int),(0:Int)))),(((-(1:Int)),((0:Int),(0:Int))),((1:Int),((0:Int),(0:Int)))),(((-(1:Int)),((0:Int),(0:Int))),((-(1:Int)),((1:Int),(0:Int))))] (Int.tmod y567 (8:Int))) fun y568=>
 cond (decide (y567>=(8:Int)))
 (kx (((IntKind.wrap .i64 ((0:Int)-y568.1.1)),((IntKind.wrap .i64 ((0:Int)-y568.1.2.1)),(0:Int))),((IntKind.wrap .i64 ((0:Int)-y568.2.1)),((IntKind.wrap .i64 ((0:Int)-y568.2.2.1)),(0:Int)))))
 (kx y568)
def eX(a0:Int):Option (Pt):=tI some a0
theorem SV{R} kx a0: @tI R kx a0=(eX a0).bind kx:=by
 unfold eX tI
 exact ac fun _=>ac fun _=>ae rfl rfl
abbrev MH:af:=.fx [.val false (.int .i64)] (Pt) (fun z=>eX z.1) (fun b=>(.one ⟨true,[(.v (.int .i64 b.1.1)),(.v (.int .i64 b.1.2.1)),(.v (.int .i64 b.1.2.2)),(.v (.int .i64 b.2.1)),(.v (.int .i64 b.2.2.1)),(.v (.int .i64 b.2.2.2))]⟩,[]))
theorem rF:ag C0 141 MH:=
 ag.fx (e:=false) (.cons KZ (.nil)) mixed Tryz.func141 (by kernel_rfl) (by kernel_rfl) al 1 ai (fun z=>(by kernel_rfl:_=tI (fun b=>some (MH.enc b)) z.1).trans (SV _ z.1))
def dN{R:Type}(kx:Pt->Option R)(a0:Pt):Option R:=
 Option.bind (cb a0.1) fun y571=>
 Option.bind (cb a0.2) fun y572=>
 kx (y571,y572)
def bj(a0:Pt):Option (Pt):=dN some a0
theorem UU{R} kx a0: @dN R kx a0=(bj a0).bind kx:=by
 unfold bj dN
 exact ac fun _=>ac fun _=>rfl
abbrev Da:af:=.fx [.val true yP] (Pt) (fun z=>bj z.1) (fun b=>(.one ⟨true,[(.v (.int .i64 b.1.1)),(.v (.int .i64 b.1.2.1)),(.v (.int .i64 b.1.2.2)),(.v (.int .i64 b.2.1)),(.v (.int .i64 b.2.2.1)),(.v (.int .i64 b.2.2.2))]⟩,[]))
theorem fU:ag C0 140 Da:=
 ag.fx (e:=false) (.cons GC (.nil)) mixed Tryz.func140 (by kernel_rfl) (by kernel_rfl) al 1 ai (fun z=>(by kernel_rfl:_=dN (fun b=>some (Da.enc b)) z.1).trans (UU _ z.1))
def AN:List (FuncId×af):=[]
abbrev iB:LS:=⟨[(false,[(.ptr 1 0)]),(false,[(.ptr 2 0)])],[(false,[(.int .i64),(.int .i64),(.int .i64)]),(false,[(.int .i64),(.int .i64),(.int .i64)])],[]⟩
abbrev Fi:LS:=⟨[(false,[(.ptr 1 0)]),(false,[(.ptr 2 0)])],[(false,[(.int .i64),(.int .i64),(.int .i64)]),(false,[(.int .i64),(.int .i64),(.int .i64)])],[]⟩
abbrev tX(v0:Int)(v1:Int)(v2:Int)(v3:Int)(v4:Int)(v5:Int):=(((((),()),((),()),()),((v0,v1,v2,()),(v3,v4,v5,()),()),()):Fi.T)
abbrev iI:List (Ex×LS):=[(.exit 0,Fi)]
abbrev sW(b0_0:Int)(b0_1:Int)(b0_2:Int)(b1_0:Int)(b1_1:Int)(b1_2:Int):=(((((),()),((),()),()),((b0_0,b0_1,b0_2,()),(b1_0,b1_1,b1_2,()),()),()):iB.T)
def nL{R:Type}(nx:iB.T->Option R)(hx:mA R iI)(b0_0:Int)(b0_1:Int)(b0_2:Int)(b1_0:Int)(b1_1:Int)(b1_2:Int):Option R:=
 cond (decide (b0_2>(0:Int)))
 (cond ((Int.tmod b0_0 (2:Int))==(0:Int))
  (cond ((Int.tmod b0_1 (2:Int))==(0:Int))
   (nx (sW (IntKind.wrap .i64 (Int.tdiv b0_0 (2:Int))) (IntKind.wrap .i64 (Int.tdiv b0_1 (2:Int))) (IntKind.wrap .i64 (b0_2-(1:Int))) b1_0 b1_1 b1_2))
   (hx.1 (tX b0_0 b0_1 b0_2 b1_0 b1_1 b1_2)))
  (hx.1 (tX b0_0 b0_1 b0_2 b1_0 b1_1 b1_2)))
 (hx.1 (tX b0_0 b0_1 b0_2 b1_0 b1_1 b1_2))
def Cl{R:Type}(nx:iB.T->Option R)(hx:mA R iI)(z:iB.T):Option R:=nL nx hx z.2.1.1.1 z.2.1.1.2.1 z.2.1.1.2.2.1 z.2.1.2.1.1 z.2.1.2.1.2.1 z.2.1.2.1.2.2.1
theorem FQ:cK @Cl:=fun R nx hx z=>by
 show nL nx hx z.2.1.1.1 z.2.1.1.2.1 z.2.1.1.2.2.1 z.2.1.2.1.1 z.2.1.2.1.2.1 z.2.1.2.1.2.2.1=(nL (fun y=>some (.inl y)) (oI iI fun x=>some (.inr x)) z.2.1.1.1 z.2.1.1.2.1 z.2.1.1.2.2.1 z.2.1.2.1.1 z.2.1.2.1.2.1 z.2.1.2.1.2.2.1).bind (oH nx hx)
 unfold nL
 exact ae (ae (ae rfl rfl) rfl) rfl
def nO:iB.T->Option (yH iI):=BU @Cl
theorem H8 b0_0 b0_1 b0_2 b1_0 b1_1 b1_2:nO (sW b0_0 b0_1 b0_2 b1_0 b1_1 b1_2)=nL nO (oI iI some) b0_0 b0_1 b0_2 b1_0 b1_1 b1_2:=dR FQ _
def wc:bN:=⟨[1,2],[1,2],[1,2],[1,2]⟩
def AW:fq Rv:=⟨fun k=>match k with|4=>wc|_=>⟨[],[],[],[]⟩,fun k=>match k with|4=>some (ce iB iI nO)|_=>none⟩
theorem Rm(n:Nat)(z:iB.T)(k:Ex->iV->Option Rv):bJ ⟨40,40⟩ wc (mU (gN C0 AN) ⟨40,40⟩ AW 1 (aG Tryz.f214 3)) (n+1) (iB.enc z) k=
 Cl (fun y=>bJ ⟨40,40⟩ wc (mU (gN C0 AN) ⟨40,40⟩ AW 1 (aG Tryz.f214 3)) n (iB.enc y) k) (hK k iI) z:=by kernel_rfl
theorem Un:ak (gN C0 AN) ⟨40,40⟩ AW 1 (ca (aX Tryz.f214)):=by
 have hl:ca (aX Tryz.f214)=[aG Tryz.f214 3]:=by kernel_rfl
 rw[hl]
 exact ak.cons (n:=4) (lh:=wc) (S:=ce iB iI nO) (by kernel_rfl) rfl rfl (cl FQ Rm)
  (ak.nil)
def xn{R:Type}(kx:Nm->Option R)(a0:Nm):Option R:=
 cond (a0.1==(0:Int))
 (cond (a0.2.1==(0:Int))
  (kx ((0:Int),((0:Int),(0:Int))))
  (Option.bind (nO (sW a0.1 a0.2.1 a0.2.2 (0:Int) (0:Int) (0:Int))) (qi iI
   (fun e585=>
    kx ((e585.2.1.1.1:Int),((e585.2.1.1.2.1:Int),(e585.2.1.1.2.2.1:Int))),()))))
 (Option.bind (nO (sW a0.1 a0.2.1 a0.2.2 (0:Int) (0:Int) (0:Int))) (qi iI
  (fun e592=>
   kx ((e592.2.1.1.1:Int),((e592.2.1.1.2.1:Int),(e592.2.1.1.2.2.1:Int))),())))
def iv(a0:Nm):Option (Nm):=xn some a0
theorem SM{R} kx a0: @xn R kx a0=(iv a0).bind kx:=by
 unfold iv xn
 exact ae (ae rfl (cq ⟨fun _=>rfl,trivial⟩)) (cq ⟨fun _=>rfl,trivial⟩)
abbrev A4:af:=.fx [.val true yN] (Nm) (fun z=>iv z.1) (fun b=>(.one ⟨true,[(.v (.int .i64 b.1)),(.v (.int .i64 b.2.1)),(.v (.int .i64 b.2.2))]⟩,[]))
theorem zE:ag C0 214 A4:=
 ag.fx (e:=false) (t:=AN) (.nil) mixed Tryz.func214 (by kernel_rfl) (by kernel_rfl) AW 1 Un (fun z=>(by kernel_rfl:_=xn (fun b=>some (A4.enc b)) z.1).trans (SM _ z.1))
def xo{R:Type}(kx:Nm->Option R)(a0:Nm)(a1:Nm):Option R:=
 Option.bind (iv ((IntKind.wrap .i64 ((IntKind.wrap .i64 (a0.1*a1.1))+(IntKind.wrap .i64 ((IntKind.wrap .i64 ((2:Int)*a0.2.1))*a1.2.1)))),((IntKind.wrap .i64 ((IntKind.wrap .i64 (a0.1*a1.2.1))+(IntKind.wrap .i64 (a0.2.1*a1.1)))),(IntKind.wrap .i64 (a0.2.2+a1.2.2))))) fun y599=>
 kx y599
def cM(a0:Nm)(a1:Nm):Option (Nm):=xo some a0 a1
theorem SN{R} kx a0 a1: @xo R kx a0 a1=(cM a0 a1).bind kx:=by
 unfold cM xo
 exact ac fun _=>rfl
abbrev MC:af:=.fx [.val true yN, .val true yN] (Nm) (fun z=>cM z.1 z.2.1) (fun b=>(.one ⟨true,[(.v (.int .i64 b.1)),(.v (.int .i64 b.2.1)),(.v (.int .i64 b.2.2))]⟩,[]))
theorem rD:ag C0 144 MC:=
 ag.fx (e:=false) (.cons zE (.nil)) mixed Tryz.func144 (by kernel_rfl) (by kernel_rfl) al 1 ai (fun z=>(by kernel_rfl:_=xo (fun b=>some (MC.enc b)) z.1 z.2.1).trans (SN _ z.1 z.2.1))
def xp{R:Type}(kx:Nm->Option R)(a0:Nm):Option R:=
 kx ((IntKind.wrap .i64 ((0:Int)-a0.1)),((IntKind.wrap .i64 ((0:Int)-a0.2.1)),a0.2.2))
def tB(a0:Nm):Option (Nm):=xp some a0
theorem SO{R} kx a0: @xp R kx a0=(tB a0).bind kx:=by
 unfold tB xp
 exact rfl
abbrev MD:af:=.fx [.val true yN] (Nm) (fun z=>tB z.1) (fun b=>(.one ⟨true,[(.v (.int .i64 b.1)),(.v (.int .i64 b.2.1)),(.v (.int .i64 b.2.2))]⟩,[]))
theorem Vq:ag C0 268 MD:=
 ag.fx (e:=false) (.nil) mixed Tryz.func268 (by kernel_rfl) (by kernel_rfl) al 1 ai (fun z=>(by kernel_rfl:_=xp (fun b=>some (MD.enc b)) z.1).trans (SO _ z.1))
def tu:List (FuncId×af):=[(214,A4)]
abbrev iy:LS:=⟨[(false,[(.ptr 2 0)]),(false,[(.ptr 3 0)]),(false,[(.ptr 4 0)])],[(false,[(.int .i64),(.int .i64),(.int .i64)]),(false,[(.int .i64),(.int .i64),(.int .i64)]),(false,[(.int .i64),(.int .i64),(.int .i64)])],[]⟩
abbrev Ff:LS:=⟨[(false,[(.ptr 2 0)]),(false,[(.ptr 3 0)]),(false,[(.ptr 4 0)])],[(false,[(.int .i64),(.int .i64),(.int .i64)]),(false,[(.int .i64),(.int .i64),(.int .i64)]),(false,[(.int .i64),(.int .i64),(.int .i64)])],[]⟩
abbrev E9(v0:Int)(v1:Int)(v2:Int)(v3:Int)(v4:Int)(v5:Int)(v6:Int)(v7:Int)(v8:Int):=(((((),()),((),()),((),()),()),((v0,v1,v2,()),(v3,v4,v5,()),(v6,v7,v8,()),()),()):Ff.T)
abbrev iG:List (Ex×LS):=[(.exit 0,Ff)]
abbrev xF(b0_0:Int)(b0_1:Int)(b0_2:Int)(b1_0:Int)(b1_1:Int)(b1_2:Int)(b2_0:Int)(b2_1:Int)(b2_2:Int):=(((((),()),((),()),((),()),()),((b0_0,b0_1,b0_2,()),(b1_0,b1_1,b1_2,()),(b2_0,b2_1,b2_2,()),()),()):iy.T)
def nJ{R:Type}(nx:iy.T->Option R)(hx:mA R iG)(b0_0:Int)(b0_1:Int)(b0_2:Int)(b1_0:Int)(b1_1:Int)(b1_2:Int)(b2_0:Int)(b2_1:Int)(b2_2:Int):Option R:=
 cond (decide (b0_2<b1_2))
 (nx (xF (IntKind.wrap .i64 (b0_0*(2:Int))) (IntKind.wrap .i64 (b0_1*(2:Int))) (IntKind.wrap .i64 (b0_2+(1:Int))) b1_0 b1_1 b1_2 b2_0 b2_1 b2_2))
 (hx.1 (E9 b0_0 b0_1 b0_2 b1_0 b1_1 b1_2 b2_0 b2_1 b2_2))
def Ci{R:Type}(nx:iy.T->Option R)(hx:mA R iG)(z:iy.T):Option R:=nJ nx hx z.2.1.1.1 z.2.1.1.2.1 z.2.1.1.2.2.1 z.2.1.2.1.1 z.2.1.2.1.2.1 z.2.1.2.1.2.2.1 z.2.1.2.2.1.1 z.2.1.2.2.1.2.1 z.2.1.2.2.1.2.2.1
theorem FN:cK @Ci:=fun R nx hx z=>by
 show nJ nx hx z.2.1.1.1 z.2.1.1.2.1 z.2.1.1.2.2.1 z.2.1.2.1.1 z.2.1.2.1.2.1 z.2.1.2.1.2.2.1 z.2.1.2.2.1.1 z.2.1.2.2.1.2.1 z.2.1.2.2.1.2.2.1=(nJ (fun y=>some (.inl y)) (oI iG fun x=>some (.inr x)) z.2.1.1.1 z.2.1.1.2.1 z.2.1.1.2.2.1 z.2.1.2.1.1 z.2.1.2.1.2.1 z.2.1.2.1.2.2.1 z.2.1.2.2.1.1 z.2.1.2.2.1.2.1 z.2.1.2.2.1.2.2.1).bind (oH nx hx)
 unfold nJ
 exact ae rfl rfl
def pY:iy.T->Option (yH iG):=BU @Ci
theorem H6 b0_0 b0_1 b0_2 b1_0 b1_1 b1_2 b2_0 b2_1 b2_2:pY (xF b0_0 b0_1 b0_2 b1_0 b1_1 b1_2 b2_0 b2_1 b2_2)=nJ pY (oI iG some) b0_0 b0_1 b0_2 b1_0 b1_1 b1_2 b2_0 b2_1 b2_2:=dR FN _
def vZ:bN:=⟨[2,3,4],[2,3,4],[2,3,4],[2,3,4]⟩
abbrev iz:LS:=⟨[(false,[(.ptr 2 0)]),(false,[(.ptr 3 0)]),(false,[(.ptr 4 0)])],[(false,[(.int .i64),(.int .i64),(.int .i64)]),(false,[(.int .i64),(.int .i64),(.int .i64)]),(false,[(.int .i64),(.int .i64),(.int .i64)])],[]⟩
abbrev Fg:LS:=⟨[(false,[(.ptr 2 0)]),(false,[(.ptr 3 0)]),(false,[(.ptr 4 0)])],[(false,[(.int .i64),(.int .i64),(.int .i64)]),(false,[(.int .i64),(.int .i64),(.int .i64)]),(false,[(.int .i64),(.int .i64),(.int .i64)])],[]⟩
abbrev Fa(v0:Int)(v1:Int)(v2:Int)(v3:Int)(v4:Int)(v5:Int)(v6:Int)(v7:Int)(v8:Int):=(((((),()),((),()),((),()),()),((v0,v1,v2,()),(v3,v4,v5,()),(v6,v7,v8,()),()),()):Fg.T)
abbrev gx:List (Ex×LS):=[(.exit 2,Fg)]
abbrev xG(b0_0:Int)(b0_1:Int)(b0_2:Int)(b1_0:Int)(b1_1:Int)(b1_2:Int)(b2_0:Int)(b2_1:Int)(b2_2:Int):=(((((),()),((),()),((),()),()),((b0_0,b0_1,b0_2,()),(b1_0,b1_1,b1_2,()),(b2_0,b2_1,b2_2,()),()),()):iz.T)
def nK{R:Type}(nx:iz.T->Option R)(hx:mA R gx)(b0_0:Int)(b0_1:Int)(b0_2:Int)(b1_0:Int)(b1_1:Int)(b1_2:Int)(b2_0:Int)(b2_1:Int)(b2_2:Int):Option R:=
 cond (decide (b1_2<b0_2))
 (nx (xG b0_0 b0_1 b0_2 (IntKind.wrap .i64 (b1_0*(2:Int))) (IntKind.wrap .i64 (b1_1*(2:Int))) (IntKind.wrap .i64 (b1_2+(1:Int))) b2_0 b2_1 b2_2))
 (hx.1 (Fa b0_0 b0_1 b0_2 b1_0 b1_1 b1_2 b2_0 b2_1 b2_2))
def Cj{R:Type}(nx:iz.T->Option R)(hx:mA R gx)(z:iz.T):Option R:=nK nx hx z.2.1.1.1 z.2.1.1.2.1 z.2.1.1.2.2.1 z.2.1.2.1.1 z.2.1.2.1.2.1 z.2.1.2.1.2.2.1 z.2.1.2.2.1.1 z.2.1.2.2.1.2.1 z.2.1.2.2.1.2.2.1
theorem FO:cK @Cj:=fun R nx hx z=>by
 show nK nx hx z.2.1.1.1 z.2.1.1.2.1 z.2.1.1.2.2.1 z.2.1.2.1.1 z.2.1.2.1.2.1 z.2.1.2.1.2.2.1 z.2.1.2.2.1.1 z.2.1.2.2.1.2.1 z.2.1.2.2.1.2.2.1=(nK (fun y=>some (.inl y)) (oI gx fun x=>some (.inr x)) z.2.1.1.1 z.2.1.1.2.1 z.2.1.1.2.2.1 z.2.1.2.1.1 z.2.1.2.1.2.1 z.2.1.2.1.2.2.1 z.2.1.2.2.1.1 z.2.1.2.2.1.2.1 z.2.1.2.2.1.2.2.1).bind (oH nx hx)
 unfold nK
 exact ae rfl rfl
def pZ:iz.T->Option (yH gx):=BU @Cj
theorem H7 b0_0 b0_1 b0_2 b1_0 b1_1 b1_2 b2_0 b2_1 b2_2:pZ (xG b0_0 b0_1 b0_2 b1_0 b1_1 b1_2 b2_0 b2_1 b2_2)=nK pZ (oI gx some) b0_0 b0_1 b0_2 b1_0 b1_1 b1_2 b2_0 b2_1 b2_2:=dR FO _
def wa:bN:=⟨[2,3,4],[2,3,4],[2,3,4],[2,3,4]⟩
def tC:fq Rv:=⟨fun k=>match k with|2=>vZ|6=>wa|_=>⟨[],[],[],[]⟩,fun k=>match k with|2=>some (ce iy iG pY)|6=>some (ce iz gx pZ)|_=>none⟩
theorem Rj(n:Nat)(z:iy.T)(k:Ex->iV->Option Rv):bJ ⟨53,53⟩ vZ (mU (gN C0 tu) ⟨53,53⟩ tC 1 (aG Tryz.f142 1)) (n+1) (iy.enc z) k=
 Ci (fun y=>bJ ⟨53,53⟩ vZ (mU (gN C0 tu) ⟨53,53⟩ tC 1 (aG Tryz.f142 1)) n (iy.enc y) k) (hK k iG) z:=by kernel_rfl
theorem Rk(n:Nat)(z:iz.T)(k:Ex->iV->Option Rv):bJ ⟨53,53⟩ wa (mU (gN C0 tu) ⟨53,53⟩ tC 1 (aG Tryz.f142 5)) (n+1) (iz.enc z) k=
 Cj (fun y=>bJ ⟨53,53⟩ wa (mU (gN C0 tu) ⟨53,53⟩ tC 1 (aG Tryz.f142 5)) n (iz.enc y) k) (hK k gx) z:=by kernel_rfl
theorem Ul:ak (gN C0 tu) ⟨53,53⟩ tC 1 (ca (aX Tryz.f142)):=by
 have hl:ca (aX Tryz.f142)=[aG Tryz.f142 1,aG Tryz.f142 5]:=by kernel_rfl
 rw[hl]
 exact ak.cons (n:=2) (lh:=vZ) (S:=ce iy iG pY) (by kernel_rfl) rfl rfl (cl FN Rj)
  (ak.cons (n:=6) (lh:=wa) (S:=ce iz gx pZ) (by kernel_rfl) rfl rfl (cl FO Rk)
  (ak.nil))
def xm{R:Type}(kx:Nm->Option R)(a0:Nm)(a1:Nm):Option R:=
 Option.bind (pY (xF a0.1 a0.2.1 a0.2.2 a1.1 a1.2.1 a1.2.2 (0:Int) (0:Int) (0:Int))) (qi iG
 (fun e617=>
  Option.bind (pZ (xG (e617.2.1.1.1:Int) (e617.2.1.1.2.1:Int) (e617.2.1.1.2.2.1:Int) (e617.2.1.2.1.1:Int) (e617.2.1.2.1.2.1:Int) (e617.2.1.2.1.2.2.1:Int) (e617.2.1.2.2.1.1:Int) (e617.2.1.2.2.1.2.1:Int) (e617.2.1.2.2.1.2.2.1:Int))) (qi gx
  (fun e636=>
   Option.bind (iv ((IntKind.wrap .i64 ((e636.2.1.1.1:Int)+(e636.2.1.2.1.1:Int))),((IntKind.wrap .i64 ((e636.2.1.1.2.1:Int)+(e636.2.1.2.1.2.1:Int))),(e636.2.1.1.2.2.1:Int)))) fun y646=>
   kx y646,())),()))
def eV(a0:Nm)(a1:Nm):Option (Nm):=xm some a0 a1
theorem SK{R} kx a0 a1: @xm R kx a0 a1=(eV a0 a1).bind kx:=by
 unfold eV xm
 exact cq ⟨fun _=>cq ⟨fun _=>ac fun _=>rfl,trivial⟩,trivial⟩
abbrev MA:af:=.fx [.val true yN, .val true yN] (Nm) (fun z=>eV z.1 z.2.1) (fun b=>(.one ⟨true,[(.v (.int .i64 b.1)),(.v (.int .i64 b.2.1)),(.v (.int .i64 b.2.2))]⟩,[]))
theorem mL:ag C0 142 MA:=
 ag.fx (e:=false) (t:=tu) (.cons zE (.nil)) mixed Tryz.func142 (by kernel_rfl) (by kernel_rfl) tC 1 Ul (fun z=>(by kernel_rfl:_=xm (fun b=>some (MA.enc b)) z.1 z.2.1).trans (SK _ z.1 z.2.1))
def xq{R:Type}(kx:Nm->Option R)(a0:Nm)(a1:Nm):Option R:=
 Option.bind (tB a1) fun y605=>
 Option.bind (eV a0 y605) fun y647=>
 kx y647
def dn(a0:Nm)(a1:Nm):Option (Nm):=xq some a0 a1
theorem SQ{R} kx a0 a1: @xq R kx a0 a1=(dn a0 a1).bind kx:=by
 unfold dn xq
 exact ac fun _=>ac fun _=>rfl
abbrev A5:af:=.fx [.val true yN, .val true yN] (Nm) (fun z=>dn z.1 z.2.1) (fun b=>(.one ⟨true,[(.v (.int .i64 b.1)),(.v (.int .i64 b.2.1)),(.v (.int .i64 b.2.2))]⟩,[]))
theorem pm:ag C0 218 A5:=
 ag.fx (e:=false) (.cons Vq (.cons mL (.nil))) mixed Tryz.func218 (by kernel_rfl) (by kernel_rfl) al 1 ai (fun z=>(by kernel_rfl:_=xq (fun b=>some (A5.enc b)) z.1 z.2.1).trans (SQ _ z.1 z.2.1))
def tv:List (FuncId×af):=[(214,A4)]
abbrev iA:LS:=⟨[(false,[(.ptr 3 0)]),(false,[(.ptr 4 0)]),(false,[(.int .i64)]),(false,[(.ptr 7 0)])],[(false,[(.int .i64),(.int .i64),(.int .i64)]),(false,[(.int .i64),(.int .i64),(.int .i64)]),(false,[(.int .i64),(.int .i64),(.int .i64)])],[]⟩
abbrev Fh:LS:=⟨[(false,[(.ptr 3 0)]),(false,[(.ptr 4 0)]),(false,[(.int .i64)]),(false,[(.ptr 7 0)])],[(false,[(.int .i64),(.int .i64),(.int .i64)]),(false,[(.int .i64),(.int .i64),(.int .i64)]),(false,[(.int .i64),(.int .i64),(.int .i64)])],[]⟩
abbrev Fb(v0:Int)(v1:Int)(v2:Int)(v3:Int)(v4:Int)(v5:Int)(v6:Int)(v7:Int)(v8:Int)(v9:Int):=(((((),()),((),()),(v0,()),((),()),()),((v1,v2,v3,()),(v4,v5,v6,()),(v7,v8,v9,()),()),()):Fh.T)
abbrev iH:List (Ex×LS):=[(.exit 0,Fh)]
abbrev xH(x6:Int)(b0_0:Int)(b0_1:Int)(b0_2:Int)(b1_0:Int)(b1_1:Int)(b1_2:Int)(b2_0:Int)(b2_1:Int)(b2_2:Int):=(((((),()),((),()),(x6,()),((),()),()),((b0_0,b0_1,b0_2,()),(b1_0,b1_1,b1_2,()),(b2_0,b2_1,b2_2,()),()),()):iA.T)
def pX{R:Type}(nx:iA.T->Option R)(hx:mA R iH)(x6:Int)(b0_0:Int)(b0_1:Int)(b0_2:Int)(b1_0:Int)(b1_1:Int)(b1_2:Int)(b2_0:Int)(b2_1:Int)(b2_2:Int):Option R:=
 cond ((Int.tmod x6 (2:Int))==(0:Int))
 (nx (xH (IntKind.wrap .i64 (Int.tdiv x6 (2:Int))) b0_0 b0_1 b0_2 b1_0 b1_1 b1_2 b2_0 b2_1 (IntKind.wrap .i64 (b2_2+(1:Int)))))
 (hx.1 (Fb x6 b0_0 b0_1 b0_2 b1_0 b1_1 b1_2 b2_0 b2_1 b2_2))
def Ck{R:Type}(nx:iA.T->Option R)(hx:mA R iH)(z:iA.T):Option R:=pX nx hx z.1.2.2.1.1 z.2.1.1.1 z.2.1.1.2.1 z.2.1.1.2.2.1 z.2.1.2.1.1 z.2.1.2.1.2.1 z.2.1.2.1.2.2.1 z.2.1.2.2.1.1 z.2.1.2.2.1.2.1 z.2.1.2.2.1.2.2.1
theorem FP:cK @Ck:=fun R nx hx z=>by
 show pX nx hx z.1.2.2.1.1 z.2.1.1.1 z.2.1.1.2.1 z.2.1.1.2.2.1 z.2.1.2.1.1 z.2.1.2.1.2.1 z.2.1.2.1.2.2.1 z.2.1.2.2.1.1 z.2.1.2.2.1.2.1 z.2.1.2.2.1.2.2.1=(pX (fun y=>some (.inl y)) (oI iH fun x=>some (.inr x)) z.1.2.2.1.1 z.2.1.1.1 z.2.1.1.2.1 z.2.1.1.2.2.1 z.2.1.2.1.1 z.2.1.2.1.2.1 z.2.1.2.1.2.2.1 z.2.1.2.2.1.1 z.2.1.2.2.1.2.1 z.2.1.2.2.1.2.2.1).bind (oH nx hx)
 unfold pX
 exact ae rfl rfl
def qa:iA.T->Option (yH iH):=BU @Ck
theorem Rw x6 b0_0 b0_1 b0_2 b1_0 b1_1 b1_2 b2_0 b2_1 b2_2:qa (xH x6 b0_0 b0_1 b0_2 b1_0 b1_1 b1_2 b2_0 b2_1 b2_2)=pX qa (oI iH some) x6 b0_0 b0_1 b0_2 b1_0 b1_1 b1_2 b2_0 b2_1 b2_2:=dR FP _
def wb:bN:=⟨[3,4,6,7],[3,4,7],[3,4,6,7],[3,4,7]⟩
abbrev gE:LS:=⟨[(false,[(.ptr 4 0)]),(false,[(.ptr 7 0)]),(false,[(.int .i64)])],[(false,[(.int .i64),(.int .i64),(.int .i64)]),(false,[(.int .i64),(.int .i64),(.int .i64)])],[]⟩
abbrev DT:LS:=⟨[(false,[(.ptr 4 0)]),(false,[(.ptr 7 0)])],[(false,[(.int .i64),(.int .i64),(.int .i64)]),(false,[(.int .i64),(.int .i64),(.int .i64)])],[]⟩
abbrev DK(v0:Int)(v1:Int)(v2:Int)(v3:Int)(v4:Int)(v5:Int):=(((((),()),((),()),()),((v0,v1,v2,()),(v3,v4,v5,()),()),()):DT.T)
abbrev gH:List (Ex×LS):=[(.exit 2,DT)]
abbrev ru(x8:Int)(b0_0:Int)(b0_1:Int)(b0_2:Int)(b1_0:Int)(b1_1:Int)(b1_2:Int):=(((((),()),((),()),(x8,()),()),((b0_0,b0_1,b0_2,()),(b1_0,b1_1,b1_2,()),()),()):gE.T)
def oN{R:Type}(nx:gE.T->Option R)(hx:mA R gH)(x8:Int)(b0_0:Int)(b0_1:Int)(b0_2:Int)(b1_0:Int)(b1_1:Int)(b1_2:Int):Option R:=
 cond (decide (x8>(0:Int)))
 (cond (decide (b1_2>(0:Int)))
  (nx (ru (IntKind.wrap .i64 (x8-(1:Int))) b0_0 b0_1 b0_2 b1_0 b1_1 (IntKind.wrap .i64 (b1_2-(1:Int)))))
  (nx (ru (IntKind.wrap .i64 (x8-(1:Int))) b0_0 b0_1 b0_2 (IntKind.wrap .i64 (b1_0*(2:Int))) (IntKind.wrap .i64 (b1_1*(2:Int))) b1_2)))
 (hx.1 (DK b0_0 b0_1 b0_2 b1_0 b1_1 b1_2))
def AI{R:Type}(nx:gE.T->Option R)(hx:mA R gH)(z:gE.T):Option R:=oN nx hx z.1.2.2.1.1 z.2.1.1.1 z.2.1.1.2.1 z.2.1.1.2.2.1 z.2.1.2.1.1 z.2.1.2.1.2.1 z.2.1.2.1.2.2.1
theorem Er:cK @AI:=fun R nx hx z=>by
 show oN nx hx z.1.2.2.1.1 z.2.1.1.1 z.2.1.1.2.1 z.2.1.1.2.2.1 z.2.1.2.1.1 z.2.1.2.1.2.1 z.2.1.2.1.2.2.1=(oN (fun y=>some (.inl y)) (oI gH fun x=>some (.inr x)) z.1.2.2.1.1 z.2.1.1.1 z.2.1.1.2.1 z.2.1.1.2.2.1 z.2.1.2.1.1 z.2.1.2.1.2.1 z.2.1.2.1.2.2.1).bind (oH nx hx)
 unfold oN
 exact ae (ae rfl rfl) rfl
def oQ:gE.T->Option (yH gH):=BU @AI
theorem P9 x8 b0_0 b0_1 b0_2 b1_0 b1_1 b1_2:oQ (ru x8 b0_0 b0_1 b0_2 b1_0 b1_1 b1_2)=oN oQ (oI gH some) x8 b0_0 b0_1 b0_2 b1_0 b1_1 b1_2:=dR Er _
def uh:bN:=⟨[4,7,8],[4,7],[4,7],[4,7]⟩
def tD:fq Rv:=⟨fun k=>match k with|6=>wb|14=>uh|_=>⟨[],[],[],[]⟩,fun k=>match k with|6=>some (ce iA iH qa)|14=>some (ce gE gH oQ)|_=>none⟩
theorem Rl(n:Nat)(z:iA.T)(k:Ex->iV->Option Rv):bJ ⟨105,105⟩ wb (mU (gN C0 tv) ⟨105,105⟩ tD 1 (aG Tryz.f303 5)) (n+1) (iA.enc z) k=
 Ck (fun y=>bJ ⟨105,105⟩ wb (mU (gN C0 tv) ⟨105,105⟩ tD 1 (aG Tryz.f303 5)) n (iA.enc y) k) (hK k iH) z:=by kernel_rfl
theorem PY(n:Nat)(z:gE.T)(k:Ex->iV->Option Rv):bJ ⟨105,105⟩ uh (mU (gN C0 tv) ⟨105,105⟩ tD 1 (aG Tryz.f303 13)) (n+1) (gE.enc z) k=
 AI (fun y=>bJ ⟨105,105⟩ uh (mU (gN C0 tv) ⟨105,105⟩ tD 1 (aG Tryz.f303 13)) n (gE.enc y) k) (hK k gH) z:=by kernel_rfl
theorem Um:ak (gN C0 tv) ⟨105,105⟩ tD 1 (ca (aX Tryz.f303)):=by
 have hl:ca (aX Tryz.f303)=[aG Tryz.f303 5,aG Tryz.f303 13]:=by kernel_rfl
 rw[hl]
 exact ak.cons (n:=6) (lh:=wb) (S:=ce iA iH qa) (by kernel_rfl) rfl rfl (cl FP Rl)
  (ak.cons (n:=14) (lh:=uh) (S:=ce gE gH oQ) (by kernel_rfl) rfl rfl (cl Er PY)
  (ak.nil))
def tH{R:Type}(kx:Nm×Bool->Option R)(a0:Nm)(a1:Nm):Option R:=
 cond ((IntKind.wrap .i64 ((IntKind.wrap .i64 (a1.1*a1.1))-(IntKind.wrap .i64 ((IntKind.wrap .i64 ((2:Int)*a1.2.1))*a1.2.1))))==(0:Int))
 (kx (((0:Int),((0:Int),(0:Int))),Bool.false))
 (Option.bind (qa (xH (IntKind.wrap .i64 ((IntKind.wrap .i64 (a1.1*a1.1))-(IntKind.wrap .i64 ((IntKind.wrap .i64 ((2:Int)*a1.2.1))*a1.2.1)))) a1.1 a1.2.1 a1.2.2 (0:Int) (0:Int) (0:Int) (IntKind.wrap .i64 ((IntKind.wrap .i64 (a0.1*a1.1))-(IntKind.wrap .i64 ((IntKind.wrap .i64 ((2:Int)*a0.2.1))*a1.2.1)))) (IntKind.wrap .i64 ((IntKind.wrap .i64 (a0.2.1*a1.1))-(IntKind.wrap .i64 (a0.1*a1.2.1)))) a0.2.2)) (qi iH
  (fun e664=>
   cond (decide ((e664.1.2.2.1.1:Int)=(0:Int)))
   none
   (cond ((Int.tmod (e664.2.1.2.2.1.1:Int) (e664.1.2.2.1.1:Int)) !=(0:Int))
    (kx (((0:Int),((0:Int),(0:Int))),Bool.false))
    (cond (decide ((e664.1.2.2.1.1:Int)=(0:Int)))
     none
     (cond ((Int.tmod (e664.2.1.2.2.1.2.1:Int) (e664.1.2.2.1.1:Int)) !=(0:Int))
      (kx (((0:Int),((0:Int),(0:Int))),Bool.false))
      (cond (decide ((e664.1.2.2.1.1:Int)=(0:Int)))
       none
       (cond (decide ((e664.1.2.2.1.1:Int)=(0:Int)))
        none
        (Option.bind (oQ (ru (e664.2.1.1.2.2.1:Int) (e664.2.1.2.1.1:Int) (e664.2.1.2.1.2.1:Int) (e664.2.1.2.1.2.2.1:Int) (IntKind.wrap .i64 (Int.tdiv (e664.2.1.2.2.1.1:Int) (e664.1.2.2.1.1:Int))) (IntKind.wrap .i64 (Int.tdiv (e664.2.1.2.2.1.2.1:Int) (e664.1.2.2.1.1:Int))) (e664.2.1.2.2.1.2.2.1:Int))) (qi gH
         (fun e682=>
          Option.bind (iv ((e682.2.1.2.1.1:Int),((e682.2.1.2.1.2.1:Int),(e682.2.1.2.1.2.2.1:Int)))) fun y689=>
          kx (y689,Bool.true),())))))))),())))
def jn(a0:Nm)(a1:Nm):Option (Nm×Bool):=tH some a0 a1
theorem SL{R} kx a0 a1: @tH R kx a0 a1=(jn a0 a1).bind kx:=by
 unfold jn tH
 exact ae rfl (cq ⟨fun _=>ae rfl (ae rfl (ae rfl (ae rfl (ae rfl (ae rfl (cq ⟨fun _=>ac fun _=>rfl,trivial⟩)))))),trivial⟩)
abbrev MB:af:=.fx [.val true yN, .val true yN] (Nm×Bool) (fun z=>jn z.1 z.2.1) (fun b=>(.tup [⟨true,[(.v (.int .i64 b.1.1)),(.v (.int .i64 b.1.2.1)),(.v (.int .i64 b.1.2.2))]⟩,⟨false,[(.v (.bool b.2))]⟩],[]))
theorem zD:ag C0 303 MB:=
 ag.fx (e:=false) (t:=tv) (.cons zE (.nil)) mixed Tryz.func303 (by kernel_rfl) (by kernel_rfl) tD 1 Um (fun z=>(by kernel_rfl:_=tH (fun b=>some (MB.enc b)) z.1 z.2.1).trans (SL _ z.1 z.2.1))
def vu{R:Type}(kx:Pt->Option R)(a0:Ln)(a1:Ln):Option R:=
 Option.bind (eX (IntKind.wrap .i64 (a0.1+(4:Int)))) fun y569=>
 Option.bind (bj y569) fun y573=>
 Option.bind (eX (IntKind.wrap .i64 (a1.1+(4:Int)))) fun y574=>
 Option.bind (bj y574) fun y575=>
 Option.bind (cM y573.1 y575.2) fun y600=>
 Option.bind (cM y573.2 y575.1) fun y601=>
 Option.bind (dn y600 y601) fun y648=>
 Option.bind (cM a0.2 y575.2) fun y649=>
 Option.bind (cM a1.2 y573.2) fun y650=>
 Option.bind (dn y649 y650) fun y651=>
 Option.bind (jn y651 y648) fun y690=>
 Option.bind (cM a1.2 y573.1) fun y691=>
 Option.bind (cM a0.2 y575.1) fun y692=>
 Option.bind (dn y691 y692) fun y693=>
 Option.bind (jn y693 y648) fun y694=>
 kx (y690.1,y694.1)
def mI(a0:Ln)(a1:Ln):Option (Pt):=vu some a0 a1
theorem QS{R} kx a0 a1: @vu R kx a0 a1=(mI a0 a1).bind kx:=by
 unfold mI vu
 exact ac fun _=>ac fun _=>ac fun _=>ac fun _=>ac fun _=>ac fun _=>ac fun _=>ac fun _=>ac fun _=>ac fun _=>ac fun _=>ac fun _=>ac fun _=>ac fun _=>ac fun _=>rfl
abbrev Kh:af:=.fx [.val true yL, .val true yL] (Pt) (fun z=>mI z.1 z.2.1) (fun b=>(.one ⟨true,[(.v (.int .i64 b.1.1)),(.v (.int .i64 b.1.2.1)),(.v (.int .i64 b.1.2.2)),(.v (.int .i64 b.2.1)),(.v (.int .i64 b.2.2.1)),(.v (.int .i64 b.2.2.2))]⟩,[]))
theorem Jh:ag C0 255 Kh:=
 ag.fx (e:=false) (.cons rF (.cons fU (.cons rD (.cons pm (.cons zD (.nil)))))) mixed Tryz.func255 (by kernel_rfl) (by kernel_rfl) al 1 ai (fun z=>(by kernel_rfl:_=vu (fun b=>some (Kh.enc b)) z.1 z.2.1).trans (QS _ z.1 z.2.1))
def qN{R:Type}(kx:Nm×Bool->Option R)(a0:Nm):Option R:=
 Option.bind (iv a0) fun y698=>
 Option.bind (oh y698) fun y699=>
 cond (!y699)
 (kx (((0:Int),((0:Int),(0:Int))),Bool.false))
 (kx (y698,Bool.true))
def eW(a0:Nm):Option (Nm×Bool):=qN some a0
theorem SP{R} kx a0: @qN R kx a0=(eW a0).bind kx:=by
 unfold eW qN
 exact ac fun _=>ac fun _=>ae rfl rfl
abbrev ME:af:=.fx [.val true yN] (Nm×Bool) (fun z=>eW z.1) (fun b=>(.tup [⟨true,[(.v (.int .i64 b.1.1)),(.v (.int .i64 b.1.2.1)),(.v (.int .i64 b.1.2.2))]⟩,⟨false,[(.v (.bool b.2))]⟩],[]))
theorem zF:ag C0 212 ME:=
 ag.fx (e:=false) (.cons zE (.cons GD (.nil))) mixed Tryz.func212 (by kernel_rfl) (by kernel_rfl) al 1 ai (fun z=>(by kernel_rfl:_=qN (fun b=>some (ME.enc b)) z.1).trans (SP _ z.1))
def xt{R:Type}(kx:Pt×Bool->Option R)(a0:Pt):Option R:=
 Option.bind (eW a0.1) fun y700=>
 Option.bind (eW a0.2) fun y701=>
 cond (!y700.2)
 (kx ((((0:Int),((0:Int),(0:Int))),((0:Int),((0:Int),(0:Int)))),Bool.false))
 (cond (!y701.2)
  (kx ((((0:Int),((0:Int),(0:Int))),((0:Int),((0:Int),(0:Int)))),Bool.false))
  (kx ((y700.1,y701.1),Bool.true)))
def mE(a0:Pt):Option (Pt×Bool):=xt some a0
theorem SU{R} kx a0: @xt R kx a0=(mE a0).bind kx:=by
 unfold mE xt
 exact ac fun _=>ac fun _=>ae rfl (ae rfl rfl)
abbrev MG:af:=.fx [.val true yP] (Pt×Bool) (fun z=>mE z.1) (fun b=>(.tup [⟨true,[(.v (.int .i64 b.1.1.1)),(.v (.int .i64 b.1.1.2.1)),(.v (.int .i64 b.1.1.2.2)),(.v (.int .i64 b.1.2.1)),(.v (.int .i64 b.1.2.2.1)),(.v (.int .i64 b.1.2.2.2))]⟩,⟨false,[(.v (.bool b.2))]⟩],[]))
theorem EG:ag C0 145 MG:=
 ag.fx (e:=false) (.cons zF (.nil)) mixed Tryz.func145 (by kernel_rfl) (by kernel_rfl) al 1 ai (fun z=>(by kernel_rfl:_=xt (fun b=>some (MG.enc b)) z.1).trans (SU _ z.1))
def rZ{R:Type}(kx:Pt×Int->Option R)(a0:Ln)(a1:Ln):Option R:=
 Option.bind (bG a0) fun y556=>
 cond (!y556)
 (kx ((((0:Int),((0:Int),(0:Int))),((0:Int),((0:Int),(0:Int)))),(1:Int)))
 (Option.bind (bG a1) fun y557=>
  cond (!y557)
  (kx ((((0:Int),((0:Int),(0:Int))),((0:Int),((0:Int),(0:Int)))),(1:Int)))
  (cond (a0.1==a1.1)
   (kx ((((0:Int),((0:Int),(0:Int))),((0:Int),((0:Int),(0:Int)))),(7:Int)))
   (Option.bind (bR a0) fun y561=>
    Option.bind (bR a1) fun y562=>
    Option.bind (mI y561 y562) fun y695=>
    Option.bind (mE y695) fun y702=>
    cond (!y702.2)
    (kx ((((0:Int),((0:Int),(0:Int))),((0:Int),((0:Int),(0:Int)))),(2:Int)))
    (kx (y702.1,(0:Int))))))
def ma(a0:Ln)(a1:Ln):Option (Pt×Int):=rZ some a0 a1
theorem NF{R} kx a0 a1: @rZ R kx a0 a1=(ma a0 a1).bind kx:=by
 unfold ma rZ
 exact ac fun _=>ae rfl (ac fun _=>ae rfl (ae rfl (ac fun _=>ac fun _=>ac fun _=>ac fun _=>ae rfl rfl)))
abbrev Ht:af:=.fx [.val true yL, .val true yL] (Pt×Int) (fun z=>ma z.1 z.2.1) (fun b=>(.tup [⟨true,[(.v (.int .i64 b.1.1.1)),(.v (.int .i64 b.1.1.2.1)),(.v (.int .i64 b.1.1.2.2)),(.v (.int .i64 b.1.2.1)),(.v (.int .i64 b.1.2.2.1)),(.v (.int .i64 b.1.2.2.2))]⟩,⟨false,[(.v (.int .i64 b.2))]⟩],[]))
theorem PM:ag C0 195 Ht:=
 ag.fx (e:=false) (.cons iF (.cons kJ (.cons Jh (.cons EG (.nil))))) mixed Tryz.func195 (by kernel_rfl) (by kernel_rfl) al 1 ai (fun z=>(by kernel_rfl:_=rZ (fun b=>some (Ht.enc b)) z.1 z.2.1).trans (NF _ z.1 z.2.1))
def tk{R:Type}(kx:Pt×Bool->Option R)(a0:Pt)(a1:Pt):Option R:=
 Option.bind (bh a0) fun y709=>
 cond (!y709)
 (kx ((((0:Int),((0:Int),(0:Int))),((0:Int),((0:Int),(0:Int)))),Bool.false))
 (Option.bind (bh a1) fun y710=>
  cond (!y710)
  (kx ((((0:Int),((0:Int),(0:Int))),((0:Int),((0:Int),(0:Int)))),Bool.false))
  (Option.bind (cb a0.1) fun y711=>
   Option.bind (cb a1.1) fun y712=>
   Option.bind (eV y711 y712) fun y713=>
   Option.bind (cb a0.2) fun y714=>
   Option.bind (cb a1.2) fun y715=>
   Option.bind (eV y714 y715) fun y716=>
   Option.bind (mE ((y713.1,(y713.2.1,(IntKind.wrap .i64 (y713.2.2+(1:Int))))),(y716.1,(y716.2.1,(IntKind.wrap .i64 (y716.2.2+(1:Int))))))) fun y717=>
   kx y717))
def nA(a0:Pt)(a1:Pt):Option (Pt×Bool):=tk some a0 a1
theorem Pd{R} kx a0 a1: @tk R kx a0 a1=(nA a0 a1).bind kx:=by
 unfold nA tk
 exact ac fun _=>ae rfl (ac fun _=>ae rfl (ac fun _=>ac fun _=>ac fun _=>ac fun _=>ac fun _=>ac fun _=>ac fun _=>rfl))
abbrev I6:af:=.fx [.val true yP, .val true yP] (Pt×Bool) (fun z=>nA z.1 z.2.1) (fun b=>(.tup [⟨true,[(.v (.int .i64 b.1.1.1)),(.v (.int .i64 b.1.1.2.1)),(.v (.int .i64 b.1.1.2.2)),(.v (.int .i64 b.1.2.1)),(.v (.int .i64 b.1.2.2.1)),(.v (.int .i64 b.1.2.2.2))]⟩,⟨false,[(.v (.bool b.2))]⟩],[]))
theorem Re:ag C0 196 I6:=
 ag.fx (e:=false) (.cons fI (.cons GC (.cons mL (.cons EG (.nil))))) mixed Tryz.func196 (by kernel_rfl) (by kernel_rfl) al 1 ai (fun z=>(by kernel_rfl:_=tk (fun b=>some (I6.enc b)) z.1 z.2.1).trans (Pd _ z.1 z.2.1))
def zT{R:Type}(kx:Int->Option R)(a0:Bool):Option R:=
 cond a0
 (kx (0:Int))
 (kx (2:Int))
def jp(a0:Bool):Option (Int):=zT some a0
theorem QZ{R} kx a0: @zT R kx a0=(jp a0).bind kx:=by
 unfold jp zT
 exact ae rfl rfl
abbrev Kk:af:=.fx [.val false .bool] (Int) (fun z=>jp z.1) (fun b=>(.one ⟨false,[(.v (.int .i64 b))]⟩,[]))
theorem Tk:ag C0 197 Kk:=
 ag.fx (e:=false) (.nil) mixed Tryz.func197 (by kernel_rfl) (by kernel_rfl) al 1 ai (fun z=>(by kernel_rfl:_=zT (fun b=>some (Kk.enc b)) z.1).trans (QZ _ z.1))
def se{R:Type}(kx:Nm->Option R)(a0:Int):Option R:=
 Option.bind (eX a0) fun y735=>
 Option.bind (bj y735) fun y736=>
 Option.bind (cM y736.1 y736.1) fun y737=>
 Option.bind (cM y736.2 y736.2) fun y738=>
 Option.bind (eV y737 y738) fun y739=>
 kx y739
def kd(a0:Int):Option (Nm):=se some a0
theorem NJ{R} kx a0: @se R kx a0=(kd a0).bind kx:=by
 unfold kd se
 exact ac fun _=>ac fun _=>ac fun _=>ac fun _=>ac fun _=>rfl
abbrev Hv:af:=.fx [.val false (.int .i64)] (Nm) (fun z=>kd z.1) (fun b=>(.one ⟨true,[(.v (.int .i64 b.1)),(.v (.int .i64 b.2.1)),(.v (.int .i64 b.2.2))]⟩,[]))
theorem zG:ag C0 304 Hv:=
 ag.fx (e:=false) (.cons rF (.cons fU (.cons rD (.cons mL (.nil))))) mixed Tryz.func304 (by kernel_rfl) (by kernel_rfl) al 1 ai (fun z=>(by kernel_rfl:_=se (fun b=>some (Hv.enc b)) z.1).trans (NJ _ z.1))
def vq{R:Type}(kx:Pt->Option R)(a0:Ln):Option R:=
 Option.bind (eX (IntKind.wrap .i64 (a0.1+(4:Int)))) fun y732=>
 Option.bind (bj y732) fun y733=>
 Option.bind (kd (IntKind.wrap .i64 (a0.1+(4:Int)))) fun y740=>
 Option.bind (jn a0.2 y740) fun y741=>
 Option.bind (cM y741.1 y733.1) fun y742=>
 Option.bind (cM y741.1 y733.2) fun y743=>
 kx (y742,y743)
def rm(a0:Ln):Option (Pt):=vq some a0
theorem QQ{R} kx a0: @vq R kx a0=(rm a0).bind kx:=by
 unfold rm vq
 exact ac fun _=>ac fun _=>ac fun _=>ac fun _=>ac fun _=>ac fun _=>rfl
abbrev Kg:af:=.fx [.val true yL] (Pt) (fun z=>rm z.1) (fun b=>(.one ⟨true,[(.v (.int .i64 b.1.1)),(.v (.int .i64 b.1.2.1)),(.v (.int .i64 b.1.2.2)),(.v (.int .i64 b.2.1)),(.v (.int .i64 b.2.2.1)),(.v (.int .i64 b.2.2.2))]⟩,[]))
theorem Th:ag C0 258 Kg:=
 ag.fx (e:=false) (.cons rF (.cons fU (.cons zG (.cons zD (.cons rD (.nil)))))) mixed Tryz.func258 (by kernel_rfl) (by kernel_rfl) al 1 ai (fun z=>(by kernel_rfl:_=vq (fun b=>some (Kg.enc b)) z.1).trans (QQ _ z.1))
def qO{R:Type}(kx:Nm->Option R)(a0:Int)(a1:Pt):Option R:=
 Option.bind (eX a0) fun y751=>
 Option.bind (bj y751) fun y752=>
 Option.bind (cM y752.1 a1.1) fun y753=>
 Option.bind (cM y752.2 a1.2) fun y754=>
 Option.bind (eV y753 y754) fun y755=>
 kx y755
def de(a0:Int)(a1:Pt):Option (Nm):=qO some a0 a1
theorem SR{R} kx a0 a1: @qO R kx a0 a1=(de a0 a1).bind kx:=by
 unfold de qO
 exact ac fun _=>ac fun _=>ac fun _=>ac fun _=>ac fun _=>rfl
abbrev Gt:af:=.fx [.val false (.int .i64), .val true yP] (Nm) (fun z=>de z.1 z.2.1) (fun b=>(.one ⟨true,[(.v (.int .i64 b.1)),(.v (.int .i64 b.2.1)),(.v (.int .i64 b.2.2))]⟩,[]))
theorem rE:ag C0 216 Gt:=
 ag.fx (e:=false) (.cons rF (.cons fU (.cons rD (.cons mL (.nil))))) mixed Tryz.func216 (by kernel_rfl) (by kernel_rfl) al 1 ai (fun z=>(by kernel_rfl:_=qO (fun b=>some (Gt.enc b)) z.1 z.2.1).trans (SR _ z.1 z.2.1))
def pW{R:Type}(kx:Pt->Option R)(a0:Pt)(a1:Pt):Option R:=
 Option.bind (dn a0.1 a1.1) fun y765=>
 Option.bind (dn a0.2 a1.2) fun y766=>
 kx (y765,y766)
def jC(a0:Pt)(a1:Pt):Option (Pt):=pW some a0 a1
theorem Pf{R} kx a0 a1: @pW R kx a0 a1=(jC a0 a1).bind kx:=by
 unfold jC pW
 exact ac fun _=>ac fun _=>rfl
abbrev I7:af:=.fx [.val true yP, .val true yP] (Pt) (fun z=>jC z.1 z.2.1) (fun b=>(.one ⟨true,[(.v (.int .i64 b.1.1)),(.v (.int .i64 b.1.2.1)),(.v (.int .i64 b.1.2.2)),(.v (.int .i64 b.2.1)),(.v (.int .i64 b.2.2.1)),(.v (.int .i64 b.2.2.2))]⟩,[]))
theorem AA:ag C0 147 I7:=
 ag.fx (e:=false) (.cons pm (.nil)) mixed Tryz.func147 (by kernel_rfl) (by kernel_rfl) al 1 ai (fun z=>(by kernel_rfl:_=pW (fun b=>some (I7.enc b)) z.1 z.2.1).trans (Pf _ z.1 z.2.1))
def qz{R:Type}(kx:Pt->Option R)(a0:Ln)(a1:Pt):Option R:=
 Option.bind (eX (IntKind.wrap .i64 (a0.1+(4:Int)))) fun y747=>
 Option.bind (bj y747) fun y748=>
 Option.bind (de (IntKind.wrap .i64 (a0.1+(4:Int))) a1) fun y756=>
 Option.bind (dn y756 a0.2) fun y757=>
 Option.bind (kd (IntKind.wrap .i64 (a0.1+(4:Int)))) fun y758=>
 Option.bind (jn y757 y758) fun y759=>
 Option.bind (eV y759.1 y759.1) fun y760=>
 Option.bind (cM y760 y748.1) fun y761=>
 Option.bind (cM y760 y748.2) fun y762=>
 Option.bind (jC a1 (y761,y762)) fun y767=>
 kx y767
def jg(a0:Ln)(a1:Pt):Option (Pt):=qz some a0 a1
theorem LX{R} kx a0 a1: @qz R kx a0 a1=(jg a0 a1).bind kx:=by
 unfold jg qz
 exact ac fun _=>ac fun _=>ac fun _=>ac fun _=>ac fun _=>ac fun _=>ac fun _=>ac fun _=>ac fun _=>ac fun _=>rfl
abbrev FG:af:=.fx [.val true yL, .val true yP] (Pt) (fun z=>jg z.1 z.2.1) (fun b=>(.one ⟨true,[(.v (.int .i64 b.1.1)),(.v (.int .i64 b.1.2.1)),(.v (.int .i64 b.1.2.2)),(.v (.int .i64 b.2.1)),(.v (.int .i64 b.2.2.1)),(.v (.int .i64 b.2.2.2))]⟩,[]))
theorem xZ:ag C0 257 FG:=
 ag.fx (e:=false) (.cons rF (.cons fU (.cons rE (.cons pm (.cons zG (.cons zD (.cons mL (.cons rD (.cons AA (.nil)))))))))) mixed Tryz.func257 (by kernel_rfl) (by kernel_rfl) al 1 ai (fun z=>(by kernel_rfl:_=qz (fun b=>some (FG.enc b)) z.1 z.2.1).trans (LX _ z.1 z.2.1))
def qA{R:Type}(kx:Ln->Option R)(a0:Pt)(a1:Int):Option R:=
 Option.bind (qI a1) fun y771=>
 Option.bind (de (IntKind.wrap .i64 ((Int.tmod y771 (8:Int))+(4:Int))) a0) fun y772=>
 kx ((Int.tmod y771 (8:Int)),y772)
def dJ(a0:Pt)(a1:Int):Option (Ln):=qA some a0 a1
theorem LY{R} kx a0 a1: @qA R kx a0 a1=(dJ a0 a1).bind kx:=by
 unfold dJ qA
 exact ac fun _=>ac fun _=>rfl
abbrev zk:af:=.fx [.val true yP, .val false (.int .i64)] (Ln) (fun z=>dJ z.1 z.2.1) (fun b=>(.one ⟨true,[(.v (.int .i64 b.1)),(.v (.int .i64 b.2.1)),(.v (.int .i64 b.2.2.1)),(.v (.int .i64 b.2.2.2))]⟩,[]))
theorem pn:ag C0 259 zk:=
 ag.fx (e:=false) (.cons KZ (.cons rE (.nil))) mixed Tryz.func259 (by kernel_rfl) (by kernel_rfl) al 1 ai (fun z=>(by kernel_rfl:_=qA (fun b=>some (zk.enc b)) z.1 z.2.1).trans (LY _ z.1 z.2.1))
def pE{R:Type}(kx:Ln×Bool->Option R)(a0:Ln)(a1:Ln):Option R:=
 Option.bind (bG a0) fun y727=>
 cond (!y727)
 (kx (((0:Int),((0:Int),((0:Int),(0:Int)))),Bool.false))
 (Option.bind (bG a1) fun y728=>
  cond (!y728)
  (kx (((0:Int),((0:Int),((0:Int),(0:Int)))),Bool.false))
  (Option.bind (bR a0) fun y729=>
   Option.bind (bR a1) fun y730=>
   Option.bind (rm y730) fun y744=>
   Option.bind (jg y729 y744) fun y768=>
   Option.bind (dJ y768 (IntKind.wrap .i64 ((IntKind.wrap .i64 ((2:Int)*a0.1))-a1.1))) fun y773=>
   Option.bind (eW y773.2) fun y774=>
   cond (!y774.2)
   (kx (((0:Int),((0:Int),((0:Int),(0:Int)))),Bool.false))
   (kx ((y773.1,y774.1),Bool.true))))
def jK(a0:Ln)(a1:Ln):Option (Ln×Bool):=pE some a0 a1
theorem KJ{R} kx a0 a1: @pE R kx a0 a1=(jK a0 a1).bind kx:=by
 unfold jK pE
 exact ac fun _=>ae rfl (ac fun _=>ae rfl (ac fun _=>ac fun _=>ac fun _=>ac fun _=>ac fun _=>ac fun _=>ae rfl rfl))
abbrev D9:af:=.fx [.val true yL, .val true yL] (Ln×Bool) (fun z=>jK z.1 z.2.1) (fun b=>(.tup [⟨true,[(.v (.int .i64 b.1.1)),(.v (.int .i64 b.1.2.1)),(.v (.int .i64 b.1.2.2.1)),(.v (.int .i64 b.1.2.2.2))]⟩,⟨false,[(.v (.bool b.2))]⟩],[]))
theorem Me:ag C0 198 D9:=
 ag.fx (e:=false) (.cons iF (.cons kJ (.cons Th (.cons xZ (.cons pn (.cons zF (.nil))))))) mixed Tryz.func198 (by kernel_rfl) (by kernel_rfl) al 1 ai (fun z=>(by kernel_rfl:_=pE (fun b=>some (D9.enc b)) z.1 z.2.1).trans (KJ _ z.1 z.2.1))
def oa{R:Type}(kx:Pt×Bool->Option R)(a0:Ln)(a1:Pt):Option R:=
 Option.bind (bG a0) fun y782=>
 cond (!y782)
 (kx ((((0:Int),((0:Int),(0:Int))),((0:Int),((0:Int),(0:Int)))),Bool.false))
 (Option.bind (bh a1) fun y783=>
  cond (!y783)
  (kx ((((0:Int),((0:Int),(0:Int))),((0:Int),((0:Int),(0:Int)))),Bool.false))
  (Option.bind (bR a0) fun y784=>
   Option.bind (bj a1) fun y785=>
   Option.bind (jg y784 y785) fun y786=>
   Option.bind (mE y786) fun y787=>
   kx y787))
def iZ(a0:Ln)(a1:Pt):Option (Pt×Bool):=oa some a0 a1
theorem JB{R} kx a0 a1: @oa R kx a0 a1=(iZ a0 a1).bind kx:=by
 unfold iZ oa
 exact ac fun _=>ae rfl (ac fun _=>ae rfl (ac fun _=>ac fun _=>ac fun _=>ac fun _=>rfl))
abbrev CE:af:=.fx [.val true yL, .val true yP] (Pt×Bool) (fun z=>iZ z.1 z.2.1) (fun b=>(.tup [⟨true,[(.v (.int .i64 b.1.1.1)),(.v (.int .i64 b.1.1.2.1)),(.v (.int .i64 b.1.1.2.2)),(.v (.int .i64 b.1.2.1)),(.v (.int .i64 b.1.2.2.1)),(.v (.int .i64 b.1.2.2.2))]⟩,⟨false,[(.v (.bool b.2))]⟩],[]))
theorem KY:ag C0 199 CE:=
 ag.fx (e:=false) (.cons iF (.cons fI (.cons kJ (.cons fU (.cons xZ (.cons EG (.nil))))))) mixed Tryz.func199 (by kernel_rfl) (by kernel_rfl) al 1 ai (fun z=>(by kernel_rfl:_=oa (fun b=>some (CE.enc b)) z.1 z.2.1).trans (JB _ z.1 z.2.1))
def vw{R:Type}(kx:Bool->Option R)(a0:Nm):Option R:=
 cond (a0.1==(0:Int))
 (kx (a0.2.1==(0:Int)))
 (kx Bool.false)
def gv(a0:Nm):Option (Bool):=vw some a0
theorem QU{R} kx a0: @vw R kx a0=(gv a0).bind kx:=by
 unfold gv vw
 exact ae rfl rfl
abbrev zl:af:=.fx [.val true yN] (Bool) (fun z=>gv z.1) (fun b=>(.one ⟨false,[(.v (.bool b))]⟩,[]))
theorem Ce:ag C0 215 zl:=
 ag.fx (e:=false) (.nil) mixed Tryz.func215 (by kernel_rfl) (by kernel_rfl) al 1 ai (fun z=>(by kernel_rfl:_=vw (fun b=>some (zl.enc b)) z.1).trans (QU _ z.1))
def oM{R:Type}(kx:Int×Int->Option R)(a0:Int):Option R:=
 cond (decide (a0<(0:Int)))
 (cond (decide ((IntKind.wrap IntKind.u64 ((IntKind.wrap IntKind.u64 ((IntKind.wrap IntKind.u64 (((BitVec.toNat ((BitVec.ofInt 64 (IntKind.wrap IntKind.u64 (IntKind.wrap .i64 ((0:Int)-a0))))&&&(BitVec.ofInt 64 (4294967295:Int)))):Nat):Int))*(IntKind.wrap IntKind.u64 (((BitVec.toNat ((BitVec.ofInt 64 (IntKind.wrap IntKind.u64 (IntKind.wrap .i64 ((0:Int)-a0))))&&&(BitVec.ofInt 64 (4294967295:Int)))):Nat):Int))))+(IntKind.wrap IntKind.u64 ((IntKind.wrap IntKind.u64 ((IntKind.wrap IntKind.u64 ((2:Int)*(IntKind.wrap IntKind.u64 (((BitVec.toNat ((BitVec.ofInt 64 (IntKind.wrap IntKind.u64 (IntKind.wrap .i64 ((0:Int)-a0))))&&&(BitVec.ofInt 64 (4294967295:Int)))):Nat):Int))))*(Int.fdiv (IntKind.wrap IntKind.u64 (IntKind.wrap .i64 ((0:Int)-a0))) ((2:Int)^(Min.min (Int.toNat (32:Int)) 64)))))*((2:Int)^(Min.min (Int.toNat (32:Int)) 64))))))<(IntKind.wrap IntKind.u64 ((IntKind.wrap IntKind.u64 (((BitVec.toNat ((BitVec.ofInt 64 (IntKind.wrap IntKind.u64 (IntKind.wrap .i64 ((0:Int)-a0))))&&&(BitVec.ofInt 64 (4294967295:Int)))):Nat):Int))*(IntKind.wrap IntKind.u64 (((BitVec.toNat ((BitVec.ofInt 64 (IntKind.wrap IntKind.u64 (IntKind.wrap .i64 ((0:Int)-a0))))&&&(BitVec.ofInt 64 (4294967295:Int)))):Nat):Int))))))
  (kx ((IntKind.wrap IntKind.u64 ((IntKind.wrap IntKind.u64 ((Int.fdiv (IntKind.wrap IntKind.u64 (IntKind.wrap .i64 ((0:Int)-a0))) ((2:Int)^(Min.min (Int.toNat (32:Int)) 64)))*(Int.fdiv (IntKind.wrap IntKind.u64 (IntKind.wrap .i64 ((0:Int)-a0))) ((2:Int)^(Min.min (Int.toNat (32:Int)) 64)))))+(IntKind.wrap IntKind.u64 ((Int.fdiv (IntKind.wrap IntKind.u64 ((IntKind.wrap IntKind.u64 ((2:Int)*(IntKind.wrap IntKind.u64 (((BitVec.toNat ((BitVec.ofInt 64 (IntKind.wrap IntKind.u64 (IntKind.wrap .i64 ((0:Int)-a0))))&&&(BitVec.ofInt 64 (4294967295:Int)))):Nat):Int))))*(Int.fdiv (IntKind.wrap IntKind.u64 (IntKind.wrap .i64 ((0:Int)-a0))) ((2:Int)^(Min.min (Int.toNat (32:Int)) 64))))) ((2:Int)^(Min.min (Int.toNat (32:Int)) 64)))+(1:Int))))),(IntKind.wrap IntKind.u64 ((IntKind.wrap IntKind.u64 ((IntKind.wrap IntKind.u64 (((BitVec.toNat ((BitVec.ofInt 64 (IntKind.wrap IntKind.u64 (IntKind.wrap .i64 ((0:Int)-a0))))&&&(BitVec.ofInt 64 (4294967295:Int)))):Nat):Int))*(IntKind.wrap IntKind.u64 (((BitVec.toNat ((BitVec.ofInt 64 (IntKind.wrap IntKind.u64 (IntKind.wrap .i64 ((0:Int)-a0))))&&&(BitVec.ofInt 64 (4294967295:Int)))):Nat):Int))))+(IntKind.wrap IntKind.u64 ((IntKind.wrap IntKind.u64 ((IntKind.wrap IntKind.u64 ((2:Int)*(IntKind.wrap IntKind.u64 (((BitVec.toNat ((BitVec.ofInt 64 (IntKind.wrap IntKind.u64 (IntKind.wrap .i64 ((0:Int)-a0))))&&&(BitVec.ofInt 64 (4294967295:Int)))):Nat):Int))))*(Int.fdiv (IntKind.wrap IntKind.u64 (IntKind.wrap .i64 ((0:Int)-a0))) ((2:Int)^(Min.min (Int.toNat (32:Int)) 64)))))*((2:Int)^(Min.min (Int.toNat (32:Int)) 64))))))))
  (kx ((IntKind.wrap IntKind.u64 ((IntKind.wrap IntKind.u64 ((Int.fdiv (IntKind.wrap IntKind.u64 (IntKind.wrap .i64 ((0:Int)-a0))) ((2:Int)^(Min.min (Int.toNat (32:Int)) 64)))*(Int.fdiv (IntKind.wrap IntKind.u64 (IntKind.wrap .i64 ((0:Int)-a0))) ((2:Int)^(Min.min (Int.toNat (32:Int)) 64)))))+(Int.fdiv (IntKind.wrap IntKind.u64 ((IntKind.wrap IntKind.u64 ((2:Int)*(IntKind.wrap IntKind.u64 (((BitVec.toNat ((BitVec.ofInt 64 (IntKind.wrap IntKind.u64 (IntKind.wrap .i64 ((0:Int)-a0))))&&&(BitVec.ofInt 64 (4294967295:Int)))):Nat):Int))))*(Int.fdiv (IntKind.wrap IntKind.u64 (IntKind.wrap .i64 ((0:Int)-a0))) ((2:Int)^(Min.min (Int.toNat (32:Int)) 64))))) ((2:Int)^(Min.min (Int.toNat (32:Int)) 64))))),(IntKind.wrap IntKind.u64 ((IntKind.wrap IntKind.u64 ((IntKind.wrap IntKind.u64 (((BitVec.toNat ((BitVec.ofInt 64 (IntKind.wrap IntKind.u64 (IntKind.wrap .i64 ((0:Int)-a0))))&&&(BitVec.ofInt 64 (4294967295:Int)))):Nat):Int))*(IntKind.wrap IntKind.u64 (((BitVec.toNat ((BitVec.ofInt 64 (IntKind.wrap IntKind.u64 (IntKind.wrap .i64 ((0:Int)-a0))))&&&(BitVec.ofInt 64 (4294967295:Int)))):Nat):Int))))+(IntKind.wrap IntKind.u64 ((IntKind.wrap IntKind.u64 ((IntKind.wrap IntKind.u64 ((2:Int)*(IntKind.wrap IntKind.u64 (((BitVec.toNat ((BitVec.ofInt 64 (IntKind.wrap IntKind.u64 (IntKind.wrap .i64 ((0:Int)-a0))))&&&(BitVec.ofInt 64 (4294967295:Int)))):Nat):Int))))*(Int.fdiv (IntKind.wrap IntKind.u64 (IntKind.wrap .i64 ((0:Int)-a0))) ((2:Int)^(Min.min (Int.toNat (32:Int)) 64)))))*((2:Int)^(Min.min (Int.toNat (32:Int)) 64)))))))))
 (cond (decide ((IntKind.wrap IntKind.u64 ((IntKind.wrap IntKind.u64 ((IntKind.wrap IntKind.u64 (((BitVec.toNat ((BitVec.ofInt 64 (IntKind.wrap IntKind.u64 a0))&&&(BitVec.ofInt 64 (4294967295:Int)))):Nat):Int))*(IntKind.wrap IntKind.u64 (((BitVec.toNat ((BitVec.ofInt 64 (IntKind.wrap IntKind.u64 a0))&&&(BitVec.ofInt 64 (4294967295:Int)))):Nat):Int))))+(IntKind.wrap IntKind.u64 ((IntKind.wrap IntKind.u64 ((IntKind.wrap IntKind.u64 ((2:Int)*(IntKind.wrap IntKind.u64 (((BitVec.toNat ((BitVec.ofInt 64 (IntKind.wrap IntKind.u64 a0))&&&(BitVec.ofInt 64 (4294967295:Int)))):Nat):Int))))*(Int.fdiv (IntKind.wrap IntKind.u64 a0) ((2:Int)^(Min.min (Int.toNat (32:Int)) 64)))))*((2:Int)^(Min.min (Int.toNat (32:Int)) 64))))))<(IntKind.wrap IntKind.u64 ((IntKind.wrap IntKind.u64 (((BitVec.toNat ((BitVec.ofInt 64 (IntKind.wrap IntKind.u64 a0))&&&(BitVec.ofInt 64 (4294967295:Int)))):Nat):Int))*(IntKind.wrap IntKind.u64 (((BitVec.toNat ((BitVec.ofInt 64 (IntKind.wrap IntKind.u64 a0))&&&(BitVec.ofInt 64 (4294967295:Int)))):Nat):Int))))))
  (kx ((IntKind.wrap IntKind.u64 ((IntKind.wrap IntKind.u64 ((Int.fdiv (IntKind.wrap IntKind.u64 a0) ((2:Int)^(Min.min (Int.toNat (32:Int)) 64)))*(Int.fdiv (IntKind.wrap IntKind.u64 a0) ((2:Int)^(Min.min (Int.toNat (32:Int)) 64)))))+(IntKind.wrap IntKind.u64 ((Int.fdiv (IntKind.wrap IntKind.u64 ((IntKind.wrap IntKind.u64 ((2:Int)*(IntKind.wrap IntKind.u64 (((BitVec.toNat ((BitVec.ofInt 64 (IntKind.wrap IntKind.u64 a0))&&&(BitVec.ofInt 64 (4294967295:Int)))):Nat):Int))))*(Int.fdiv (IntKind.wrap IntKind.u64 a0) ((2:Int)^(Min.min (Int.toNat (32:Int)) 64))))) ((2:Int)^(Min.min (Int.toNat (32:Int)) 64)))+(1:Int))))),(IntKind.wrap IntKind.u64 ((IntKind.wrap IntKind.u64 ((IntKind.wrap IntKind.u64 (((BitVec.toNat ((BitVec.ofInt 64 (IntKind.wrap IntKind.u64 a0))&&&(BitVec.ofInt 64 (4294967295:Int)))):Nat):Int))*(IntKind.wrap IntKind.u64 (((BitVec.toNat ((BitVec.ofInt 64 (IntKind.wrap IntKind.u64 a0))&&&(BitVec.ofInt 64 (4294967295:Int)))):Nat):Int))))+(IntKind.wrap IntKind.u64 ((IntKind.wrap IntKind.u64 ((IntKind.wrap IntKind.u64 ((2:Int)*(IntKind.wrap IntKind.u64 (((BitVec.toNat ((BitVec.ofInt 64 (IntKind.wrap IntKind.u64 a0))&&&(BitVec.ofInt 64 (4294967295:Int)))):Nat):Int))))*(Int.fdiv (IntKind.wrap IntKind.u64 a0) ((2:Int)^(Min.min (Int.toNat (32:Int)) 64)))))*((2:Int)^(Min.min (Int.toNat (32:Int)) 64))))))))
  (kx ((IntKind.wrap IntKind.u64 ((IntKind.wrap IntKind.u64 ((Int.fdiv (IntKind.wrap IntKind.u64 a0) ((2:Int)^(Min.min (Int.toNat (32:Int)) 64)))*(Int.fdiv (IntKind.wrap IntKind.u64 a0) ((2:Int)^(Min.min (Int.toNat (32:Int)) 64)))))+(Int.fdiv (IntKind.wrap IntKind.u64 ((IntKind.wrap IntKind.u64 ((2:Int)*(IntKind.wrap IntKind.u64 (((BitVec.toNat ((BitVec.ofInt 64 (IntKind.wrap IntKind.u64 a0))&&&(BitVec.ofInt 64 (4294967295:Int)))):Nat):Int))))*(Int.fdiv (IntKind.wrap IntKind.u64 a0) ((2:Int)^(Min.min (Int.toNat (32:Int)) 64))))) ((2:Int)^(Min.min (Int.toNat (32:Int)) 64))))),(IntKind.wrap IntKind.u64 ((IntKind.wrap IntKind.u64 ((IntKind.wrap IntKind.u64 (((BitVec.toNat ((BitVec.ofInt 64 (IntKind.wrap IntKind.u64 a0))&&&(BitVec.ofInt 64 (4294967295:Int)))):Nat):Int))*(IntKind.wrap IntKind.u64 (((BitVec.toNat ((BitVec.ofInt 64 (IntKind.wrap IntKind.u64 a0))&&&(BitVec.ofInt 64 (4294967295:Int)))):Nat):Int))))+(IntKind.wrap IntKind.u64 ((IntKind.wrap IntKind.u64 ((IntKind.wrap IntKind.u64 ((2:Int)*(IntKind.wrap IntKind.u64 (((BitVec.toNat ((BitVec.ofInt 64 (IntKind.wrap IntKind.u64 a0))&&&(BitVec.ofInt 64 (4294967295:Int)))):Nat):Int))))*(Int.fdiv (IntKind.wrap IntKind.u64 a0) ((2:Int)^(Min.min (Int.toNat (32:Int)) 64)))))*((2:Int)^(Min.min (Int.toNat (32:Int)) 64)))))))))
def iM(a0:Int):Option (Int×Int):=oM some a0
theorem NH{R} kx a0: @oM R kx a0=(iM a0).bind kx:=by
 unfold iM oM
 exact ae (ae rfl rfl) (ae rfl rfl)
abbrev Hu:af:=.fx [.val false (.int .i64)] (Int×Int) (fun z=>iM z.1) (fun b=>(.tup [⟨false,[(.v (.int .u64 b.1))]⟩,⟨false,[(.v (.int .u64 b.2))]⟩],[]))
theorem PO:ag C0 307 Hu:=
 ag.fx (e:=false) (.nil) mixed Tryz.func307 (by kernel_rfl) (by kernel_rfl) al 1 ai (fun z=>(by kernel_rfl:_=oM (fun b=>some (Hu.enc b)) z.1).trans (NH _ z.1))
end
end Go.Proofs.YtjkljnflaifbhaaGreatDoor
