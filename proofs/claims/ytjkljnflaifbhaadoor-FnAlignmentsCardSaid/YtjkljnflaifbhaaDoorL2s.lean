/- No conditions. -/
import Derived.Test.YtjkljnflaifbhaaDoorL2b
namespace Go.Proofs.YtjkljnflaifbhaaDoor
open Go.Vai
set_option maxRecDepth 100000
noncomputable section
def rJ{R:Type}(kx:Nm->Option R)(a0:Nm):Option R:=
 kx ((IntKind.wrap .i64 ((0:Int)-a0.1)),((IntKind.wrap .i64 ((0:Int)-a0.2.1)),a0.2.2))
def oj(a0:Nm):Option (Nm):=rJ some a0
theorem Nu{R} kx a0: @rJ R kx a0=(oj a0).bind kx:=by
 unfold oj rJ
 exact rfl
def rK{R:Type}(kx:Nm->Option R)(a0:Nm)(a1:Nm):Option R:=
 Option.bind (oj a1) fun y605=>
 Option.bind (cL a0 y605) fun y647=>
 kx y647
def cM(a0:Nm)(a1:Nm):Option (Nm):=rK some a0 a1
theorem Nv{R} kx a0 a1: @rK R kx a0 a1=(cM a0 a1).bind kx:=by
 unfold cM rK
 exact ac fun _=>ac fun _=>rfl
def mh{R:Type}(kx:Nm->Option R)(a0:Int)(a1:Pt):Option R:=
 Option.bind (cW a0) fun y751=>
 Option.bind (aV y751) fun y752=>
 Option.bind (bT y752.1 a1.1) fun y753=>
 Option.bind (bT y752.2 a1.2) fun y754=>
 Option.bind (cL y753 y754) fun y755=>
 kx y755
def cE(a0:Int)(a1:Pt):Option (Nm):=mh some a0 a1
theorem Nw{R} kx a0 a1: @mh R kx a0 a1=(cE a0 a1).bind kx:=by
 unfold cE mh
 exact ac fun _=>ac fun _=>ac fun _=>ac fun _=>ac fun _=>rfl
def xp{R:Type}(kx:Nm->Option R)(a0:Nm):Option R:=
 kx a0
def ni(a0:Nm):Option (Nm):=xp some a0
theorem Ox{R} kx a0: @xp R kx a0=(ni a0).bind kx:=by
 unfold ni xp
 exact rfl
def pm{R:Type}(kx:Bool->Option R)(a0:Pt):Option R:=
 Option.bind (jh a0.1) fun y99=>
 cond y99
 (Option.bind (jh a0.2) fun y100=>
  kx y100)
 (kx Bool.false)
def cb(a0:Pt):Option (Bool):=pm some a0
theorem Md{R} kx a0: @pm R kx a0=(cb a0).bind kx:=by
 unfold cb pm
 exact ac fun _=>ae (ac fun _=>rfl) rfl
def tp{R:Type}(kx:Bool->Option R)(a0:Nm)(a1:Nm):Option R:=
 cond (a0.1 !=a1.1)
 (kx Bool.false)
 (cond (a0.2.1 !=a1.2.1)
  (kx Bool.false)
  (cond (a0.2.2 !=a1.2.2)
   (kx Bool.false)
   (kx Bool.true)))
def qh(a0:Nm)(a1:Nm):Option (Bool):=tp some a0 a1
theorem Ow{R} kx a0 a1: @tp R kx a0 a1=(qh a0 a1).bind kx:=by
 unfold qh tp
 exact ae rfl (ae rfl (ae rfl rfl))
def rG{R:Type}(kx:Bool->Option R)(a0:Ln)(a1:Ln):Option R:=
 cond (a0.1 !=a1.1)
 (kx Bool.false)
 (Option.bind (qh a0.2 a1.2) fun y1787=>
  cond (!y1787)
  (kx Bool.false)
  (kx Bool.true))
def rq(a0:Ln)(a1:Ln):Option (Bool):=rG some a0 a1
theorem Nq{R} kx a0 a1: @rG R kx a0 a1=(rq a0 a1).bind kx:=by
 unfold rq rG
 exact ae rfl (ac fun _=>ae rfl rfl)
def qB{R:Type}(kx:Pt->Option R)(a0:Pt):Option R:=
 Option.bind (ni a0.1) fun y40=>
 Option.bind (ni a0.2) fun y41=>
 kx (y40,y41)
def qi(a0:Pt):Option (Pt):=qB some a0
theorem MU{R} kx a0: @qB R kx a0=(qi a0).bind kx:=by
 unfold qi qB
 exact ac fun _=>ac fun _=>rfl
def qM{R:Type}(kx:Bool->Option R)(a0:Nm):Option R:=
 cond (a0.1==(0:Int))
 (kx (a0.2.1==(0:Int)))
 (kx Bool.false)
def ez(a0:Nm):Option (Bool):=qM some a0
theorem M2{R} kx a0: @qM R kx a0=(ez a0).bind kx:=by
 unfold ez qM
 exact ae rfl rfl
def la{R:Type}(kx:Int×Int->Option R)(a0:Int):Option R:=
 cond (decide (a0<(0:Int)))
 (cond (decide ((IntKind.wrap IntKind.u64 ((IntKind.wrap IntKind.u64 ((IntKind.wrap IntKind.u64 (((BitVec.toNat ((BitVec.ofInt 64 (IntKind.wrap IntKind.u64 (IntKind.wrap .i64 ((0:Int)-a0))))&&&(BitVec.ofInt 64 (4294967295:Int)))):Nat):Int))*(IntKind.wrap IntKind.u64 (((BitVec.toNat ((BitVec.ofInt 64 (IntKind.wrap IntKind.u64 (IntKind.wrap .i64 ((0:Int)-a0))))&&&(BitVec.ofInt 64 (4294967295:Int)))):Nat):Int))))+(IntKind.wrap IntKind.u64 ((IntKind.wrap IntKind.u64 ((IntKind.wrap IntKind.u64 ((2:Int)*(IntKind.wrap IntKind.u64 (((BitVec.toNat ((BitVec.ofInt 64 (IntKind.wrap IntKind.u64 (IntKind.wrap .i64 ((0:Int)-a0))))&&&(BitVec.ofInt 64 (4294967295:Int)))):Nat):Int))))*(Int.fdiv (IntKind.wrap IntKind.u64 (IntKind.wrap .i64 ((0:Int)-a0))) ((2:Int)^(Min.min (Int.toNat (32:Int)) 64)))))*((2:Int)^(Min.min (Int.toNat (32:Int)) 64))))))<(IntKind.wrap IntKind.u64 ((IntKind.wrap IntKind.u64 (((BitVec.toNat ((BitVec.ofInt 64 (IntKind.wrap IntKind.u64 (IntKind.wrap .i64 ((0:Int)-a0))))&&&(BitVec.ofInt 64 (4294967295:Int)))):Nat):Int))*(IntKind.wrap IntKind.u64 (((BitVec.toNat ((BitVec.ofInt 64 (IntKind.wrap IntKind.u64 (IntKind.wrap .i64 ((0:Int)-a0))))&&&(BitVec.ofInt 64 (4294967295:Int)))):Nat):Int))))))
  (kx ((IntKind.wrap IntKind.u64 ((IntKind.wrap IntKind.u64 ((Int.fdiv (IntKind.wrap IntKind.u64 (IntKind.wrap .i64 ((0:Int)-a0))) ((2:Int)^(Min.min (Int.toNat (32:Int)) 64)))*(Int.fdiv (IntKind.wrap IntKind.u64 (IntKind.wrap .i64 ((0:Int)-a0))) ((2:Int)^(Min.min (Int.toNat (32:Int)) 64)))))+(IntKind.wrap IntKind.u64 ((Int.fdiv (IntKind.wrap IntKind.u64 ((IntKind.wrap IntKind.u64 ((2:Int)*(IntKind.wrap IntKind.u64 (((BitVec.toNat ((BitVec.ofInt 64 (IntKind.wrap IntKind.u64 (IntKind.wrap .i64 ((0:Int)-a0))))&&&(BitVec.ofInt 64 (4294967295:Int)))):Nat):Int))))*(Int.fdiv (IntKind.wrap IntKind.u64 (IntKind.wrap .i64 ((0:Int)-a0))) ((2:Int)^(Min.min (Int.toNat (32:Int)) 64))))) ((2:Int)^(Min.min (Int.toNat (32:Int)) 64)))+(1:Int))))),(IntKind.wrap IntKind.u64 ((IntKind.wrap IntKind.u64 ((IntKind.wrap IntKind.u64 (((BitVec.toNat ((BitVec.ofInt 64 (IntKind.wrap IntKind.u64 (IntKind.wrap .i64 ((0:Int)-a0))))&&&(BitVec.ofInt 64 (4294967295:Int)))):Nat):Int))*(IntKind.wrap IntKind.u64 (((BitVec.toNat ((BitVec.ofInt 64 (IntKind.wrap IntKind.u64 (IntKind.wrap .i64 ((0:Int)-a0))))&&&(BitVec.ofInt 64 (4294967295:Int)))):Nat):Int))))+(IntKind.wrap IntKind.u64 ((IntKind.wrap IntKind.u64 ((IntKind.wrap IntKind.u64 ((2:Int)*(IntKind.wrap IntKind.u64 (((BitVec.toNat ((BitVec.ofInt 64 (IntKind.wrap IntKind.u64 (IntKind.wrap .i64 ((0:Int)-a0))))&&&(BitVec.ofInt 64 (4294967295:Int)))):Nat):Int))))*(Int.fdiv (IntKind.wrap IntKind.u64 (IntKind.wrap .i64 ((0:Int)-a0))) ((2:Int)^(Min.min (Int.toNat (32:Int)) 64)))))*((2:Int)^(Min.min (Int.toNat (32:Int)) 64))))))))
  (kx ((IntKind.wrap IntKind.u64 ((IntKind.wrap IntKind.u64 ((Int.fdiv (IntKind.wrap IntKind.u64 (IntKind.wrap .i64 ((0:Int)-a0))) ((2:Int)^(Min.min (Int.toNat (32:Int)) 64)))*(Int.fdiv (IntKind.wrap IntKind.u64 (IntKind.wrap .i64 ((0:Int)-a0))) ((2:Int)^(Min.min (Int.toNat (32:Int)) 64)))))+(Int.fdiv (IntKind.wrap IntKind.u64 ((IntKind.wrap IntKind.u64 ((2:Int)*(IntKind.wrap IntKind.u64 (((BitVec.toNat ((BitVec.ofInt 64 (IntKind.wrap IntKind.u64 (IntKind.wrap .i64 ((0:Int)-a0))))&&&(BitVec.ofInt 64 (4294967295:Int)))):Nat):Int))))*(Int.fdiv (IntKind.wrap IntKind.u64 (IntKind.wrap .i64 ((0:Int)-a0))) ((2:Int)^(Min.min (Int.toNat (32:Int)) 64))))) ((2:Int)^(Min.min (Int.toNat (32:Int)) 64))))),(IntKind.wrap IntKind.u64 ((IntKind.wrap IntKind.u64 ((IntKind.wrap IntKind.u64 (((BitVec.toNat ((BitVec.ofInt 64 (IntKind.wrap IntKind.u64 (IntKind.wrap .i64 ((0:Int)-a0))))&&&(BitVec.ofInt 64 (4294967295:Int)))):Nat):Int))*(IntKind.wrap IntKind.u64 (((BitVec.toNat ((BitVec.ofInt 64 (IntKind.wrap IntKind.u64 (IntKind.wrap .i64 ((0:Int)-a0))))&&&(BitVec.ofInt 64 (4294967295:Int)))):Nat):Int))))+(IntKind.wrap IntKind.u64 ((IntKind.wrap IntKind.u64 ((IntKind.wrap IntKind.u64 ((2:Int)*(IntKind.wrap IntKind.u64 (((BitVec.toNat ((BitVec.ofInt 64 (IntKind.wrap IntKind.u64 (IntKind.wrap .i64 ((0:Int)-a0))))&&&(BitVec.ofInt 64 (4294967295:Int)))):Nat):Int))))*(Int.fdiv (IntKind.wrap IntKind.u64 (IntKind.wrap .i64 ((0:Int)-a0))) ((2:Int)^(Min.min (Int.toNat (32:Int)) 64)))))*((2:Int)^(Min.min (Int.toNat (32:Int)) 64)))))))))
 (cond (decide ((IntKind.wrap IntKind.u64 ((IntKind.wrap IntKind.u64 ((IntKind.wrap IntKind.u64 (((BitVec.toNat ((BitVec.ofInt 64 (IntKind.wrap IntKind.u64 a0))&&&(BitVec.ofInt 64 (4294967295:Int)))):Nat):Int))*(IntKind.wrap IntKind.u64 (((BitVec.toNat ((BitVec.ofInt 64 (IntKind.wrap IntKind.u64 a0))&&&(BitVec.ofInt 64 (4294967295:Int)))):Nat):Int))))+(IntKind.wrap IntKind.u64 ((IntKind.wrap IntKind.u64 ((IntKind.wrap IntKind.u64 ((2:Int)*(IntKind.wrap IntKind.u64 (((BitVec.toNat ((BitVec.ofInt 64 (IntKind.wrap IntKind.u64 a0))&&&(BitVec.ofInt 64 (4294967295:Int)))):Nat):Int))))*(Int.fdiv (IntKind.wrap IntKind.u64 a0) ((2:Int)^(Min.min (Int.toNat (32:Int)) 64)))))*((2:Int)^(Min.min (Int.toNat (32:Int)) 64))))))<(IntKind.wrap IntKind.u64 ((IntKind.wrap IntKind.u64 (((BitVec.toNat ((BitVec.ofInt 64 (IntKind.wrap IntKind.u64 a0))&&&(BitVec.ofInt 64 (4294967295:Int)))):Nat):Int))*(IntKind.wrap IntKind.u64 (((BitVec.toNat ((BitVec.ofInt 64 (IntKind.wrap IntKind.u64 a0))&&&(BitVec.ofInt 64 (4294967295:Int)))):Nat):Int))))))
  (kx ((IntKind.wrap IntKind.u64 ((IntKind.wrap IntKind.u64 ((Int.fdiv (IntKind.wrap IntKind.u64 a0) ((2:Int)^(Min.min (Int.toNat (32:Int)) 64)))*(Int.fdiv (IntKind.wrap IntKind.u64 a0) ((2:Int)^(Min.min (Int.toNat (32:Int)) 64)))))+(IntKind.wrap IntKind.u64 ((Int.fdiv (IntKind.wrap IntKind.u64 ((IntKind.wrap IntKind.u64 ((2:Int)*(IntKind.wrap IntKind.u64 (((BitVec.toNat ((BitVec.ofInt 64 (IntKind.wrap IntKind.u64 a0))&&&(BitVec.ofInt 64 (4294967295:Int)))):Nat):Int))))*(Int.fdiv (IntKind.wrap IntKind.u64 a0) ((2:Int)^(Min.min (Int.toNat (32:Int)) 64))))) ((2:Int)^(Min.min (Int.toNat (32:Int)) 64)))+(1:Int))))),(IntKind.wrap IntKind.u64 ((IntKind.wrap IntKind.u64 ((IntKind.wrap IntKind.u64 (((BitVec.toNat ((BitVec.ofInt 64 (IntKind.wrap IntKind.u64 a0))&&&(BitVec.ofInt 64 (4294967295:Int)))):Nat):Int))*(IntKind.wrap IntKind.u64 (((BitVec.toNat ((BitVec.ofInt 64 (IntKind.wrap IntKind.u64 a0))&&&(BitVec.ofInt 64 (4294967295:Int)))):Nat):Int))))+(IntKind.wrap IntKind.u64 ((IntKind.wrap IntKind.u64 ((IntKind.wrap IntKind.u64 ((2:Int)*(IntKind.wrap IntKind.u64 (((BitVec.toNat ((BitVec.ofInt 64 (IntKind.wrap IntKind.u64 a0))&&&(BitVec.ofInt 64 (4294967295:Int)))):Nat):Int))))*(Int.fdiv (IntKind.wrap IntKind.u64 a0) ((2:Int)^(Min.min (Int.toNat (32:Int)) 64)))))*((2:Int)^(Min.min (Int.toNat (32:Int)) 64))))))))
  (kx ((IntKind.wrap IntKind.u64 ((IntKind.wrap IntKind.u64 ((Int.fdiv (IntKind.wrap IntKind.u64 a0) ((2:Int)^(Min.min (Int.toNat (32:Int)) 64)))*(Int.fdiv (IntKind.wrap IntKind.u64 a0) ((2:Int)^(Min.min (Int.toNat (32:Int)) 64)))))+(Int.fdiv (IntKind.wrap IntKind.u64 ((IntKind.wrap IntKind.u64 ((2:Int)*(IntKind.wrap IntKind.u64 (((BitVec.toNat ((BitVec.ofInt 64 (IntKind.wrap IntKind.u64 a0))&&&(BitVec.ofInt 64 (4294967295:Int)))):Nat):Int))))*(Int.fdiv (IntKind.wrap IntKind.u64 a0) ((2:Int)^(Min.min (Int.toNat (32:Int)) 64))))) ((2:Int)^(Min.min (Int.toNat (32:Int)) 64))))),(IntKind.wrap IntKind.u64 ((IntKind.wrap IntKind.u64 ((IntKind.wrap IntKind.u64 (((BitVec.toNat ((BitVec.ofInt 64 (IntKind.wrap IntKind.u64 a0))&&&(BitVec.ofInt 64 (4294967295:Int)))):Nat):Int))*(IntKind.wrap IntKind.u64 (((BitVec.toNat ((BitVec.ofInt 64 (IntKind.wrap IntKind.u64 a0))&&&(BitVec.ofInt 64 (4294967295:Int)))):Nat):Int))))+(IntKind.wrap IntKind.u64 ((IntKind.wrap IntKind.u64 ((IntKind.wrap IntKind.u64 ((2:Int)*(IntKind.wrap IntKind.u64 (((BitVec.toNat ((BitVec.ofInt 64 (IntKind.wrap IntKind.u64 a0))&&&(BitVec.ofInt 64 (4294967295:Int)))):Nat):Int))))*(Int.fdiv (IntKind.wrap IntKind.u64 a0) ((2:Int)^(Min.min (Int.toNat (32:Int)) 64)))))*((2:Int)^(Min.min (Int.toNat (32:Int)) 64)))))))))
def fq(a0:Int):Option (Int×Int):=la some a0
theorem Lu{R} kx a0: @la R kx a0=(fq a0).bind kx:=by
 unfold fq la
 exact ae (ae rfl rfl) (ae rfl rfl)
def mZ{R:Type}(kx:Bool->Option R)(a0:Int)(a1:Int):Option R:=
 Option.bind (fq a0) fun y818=>
 Option.bind (fq a1) fun y819=>
 cond (decide (y818.1<(IntKind.wrap IntKind.u64 ((IntKind.wrap IntKind.u64 (y819.1*(2:Int)))+(Int.fdiv y819.2 ((2:Int)^(Min.min (Int.toNat (63:Int)) 64)))))))
 (kx Bool.true)
 (cond (y818.1==(IntKind.wrap IntKind.u64 ((IntKind.wrap IntKind.u64 (y819.1*(2:Int)))+(Int.fdiv y819.2 ((2:Int)^(Min.min (Int.toNat (63:Int)) 64))))))
  (kx (decide (y818.2<(IntKind.wrap IntKind.u64 (y819.2*(2:Int))))))
  (kx Bool.false))
def cS(a0:Int)(a1:Int):Option (Bool):=mZ some a0 a1
theorem MW{R} kx a0 a1: @mZ R kx a0 a1=(cS a0 a1).bind kx:=by
 unfold cS mZ
 exact ac fun _=>ac fun _=>ae rfl (ae rfl rfl)
def qH{R:Type}(kx:Int->Option R)(a0:Nm):Option R:=
 cond (a0.1==(0:Int))
 (cond (a0.2.1==(0:Int))
  (kx (0:Int))
  (cond (decide (a0.1>=(0:Int)))
   (cond (decide (a0.2.1>=(0:Int)))
    (kx (1:Int))
    (cond (decide (a0.1<=(0:Int)))
     (cond (decide (a0.2.1<=(0:Int)))
      (kx (-(1:Int)))
      (Option.bind (cS a0.1 a0.2.1) fun y820=>
       cond (y820==(decide (a0.2.1>(0:Int))))
       (kx (1:Int))
       (kx (-(1:Int)))))
     (Option.bind (cS a0.1 a0.2.1) fun y821=>
      cond (y821==(decide (a0.2.1>(0:Int))))
      (kx (1:Int))
      (kx (-(1:Int))))))
   (cond (decide (a0.1<=(0:Int)))
    (cond (decide (a0.2.1<=(0:Int)))
     (kx (-(1:Int)))
     (Option.bind (cS a0.1 a0.2.1) fun y822=>
      cond (y822==(decide (a0.2.1>(0:Int))))
      (kx (1:Int))
      (kx (-(1:Int)))))
    (Option.bind (cS a0.1 a0.2.1) fun y823=>
     cond (y823==(decide (a0.2.1>(0:Int))))
     (kx (1:Int))
     (kx (-(1:Int)))))))
 (cond (decide (a0.1>=(0:Int)))
  (cond (decide (a0.2.1>=(0:Int)))
   (kx (1:Int))
   (cond (decide (a0.1<=(0:Int)))
    (cond (decide (a0.2.1<=(0:Int)))
     (kx (-(1:Int)))
     (Option.bind (cS a0.1 a0.2.1) fun y824=>
      cond (y824==(decide (a0.2.1>(0:Int))))
      (kx (1:Int))
      (kx (-(1:Int)))))
    (Option.bind (cS a0.1 a0.2.1) fun y825=>
     cond (y825==(decide (a0.2.1>(0:Int))))
     (kx (1:Int))
     (kx (-(1:Int))))))
  (cond (decide (a0.1<=(0:Int)))
   (cond (decide (a0.2.1<=(0:Int)))
    (kx (-(1:Int)))
    (Option.bind (cS a0.1 a0.2.1) fun y826=>
     cond (y826==(decide (a0.2.1>(0:Int))))
     (kx (1:Int))
     (kx (-(1:Int)))))
   (Option.bind (cS a0.1 a0.2.1) fun y827=>
    cond (y827==(decide (a0.2.1>(0:Int))))
    (kx (1:Int))
    (kx (-(1:Int))))))
def dV(a0:Nm):Option (Int):=qH some a0
theorem MX{R} kx a0: @qH R kx a0=(dV a0).bind kx:=by
 unfold dV qH
 exact ae (ae rfl (ae (ae rfl (ae (ae rfl (ac fun _=>ae rfl rfl)) (ac fun _=>ae rfl rfl))) (ae (ae rfl (ac fun _=>ae rfl rfl)) (ac fun _=>ae rfl rfl)))) (ae (ae rfl (ae (ae rfl (ac fun _=>ae rfl rfl)) (ac fun _=>ae rfl rfl))) (ae (ae rfl (ac fun _=>ae rfl rfl)) (ac fun _=>ae rfl rfl)))
def lY{R:Type}(kx:Pt->Option R)(a0:Pt)(a1:Pt):Option R:=
 Option.bind (cM a0.1 a1.1) fun y765=>
 Option.bind (cM a0.2 a1.2) fun y766=>
 kx (y765,y766)
def gl(a0:Pt)(a1:Pt):Option (Pt):=lY some a0 a1
theorem Mc{R} kx a0 a1: @lY R kx a0 a1=(gl a0 a1).bind kx:=by
 unfold gl lY
 exact ac fun _=>ac fun _=>rfl
abbrev gC:LS:=⟨[(false,[(.ptr 1 0)]),(false,[(.int .i64)])],[(false,[(.int .i64),(.int .i64),(.int .i64),(.int .i64),(.int .i64),(.int .i64)])],[]⟩
abbrev pO:LS:=⟨[(false,[(.int .i64)])],[],[]⟩
abbrev pM(v0:Int):=((((v0,()),()),(),()):pO.T)
abbrev pP:LS:=⟨[(false,[.undef])],[],[]⟩
abbrev pN:=(((((),()),()),(),()):pP.T)
abbrev eV:List (Ex×LS):=[(.ret,pO),(.exit 0,pP)]
abbrev eU(x3:Int)(b0_0:Int)(b0_1:Int)(b0_2:Int)(b0_3:Int)(b0_4:Int)(b0_5:Int):=(((((),()),(x3,()),()),((b0_0,b0_1,b0_2,b0_3,b0_4,b0_5,()),()),()):gC.T)
def el{R:Type}(nx:gC.T->Option R)(hx:mJ R eV)(x3:Int)(b0_0:Int)(b0_1:Int)(b0_2:Int)(b0_3:Int)(b0_4:Int)(b0_5:Int):Option R:=
 cond (decide (x3<(16:Int)))
 (Option.bind (cE (IntKind.wrap .i64 (x3+(4:Int))) ((b0_0,(b0_1,b0_2)),(b0_3,(b0_4,b0_5)))) fun y810=>
  Option.bind (ez y810) fun y812=>
  cond y812
  (Option.bind (cE x3 ((b0_0,(b0_1,b0_2)),(b0_3,(b0_4,b0_5)))) fun y813=>
   Option.bind (dV y813) fun y828=>
   cond (decide (y828>(0:Int)))
   (hx.1 (pM x3))
   (nx (eU (IntKind.wrap .i64 (x3+(1:Int))) b0_0 b0_1 b0_2 b0_3 b0_4 b0_5)))
  (nx (eU (IntKind.wrap .i64 (x3+(1:Int))) b0_0 b0_1 b0_2 b0_3 b0_4 b0_5)))
 (hx.2.1 (pN))
def qS{R:Type}(nx:gC.T->Option R)(hx:mJ R eV)(z:gC.T):Option R:=el nx hx z.1.2.1.1 z.2.1.1.1 z.2.1.1.2.1 z.2.1.1.2.2.1 z.2.1.1.2.2.2.1 z.2.1.1.2.2.2.2.1 z.2.1.1.2.2.2.2.2.1
theorem wu:fe @qS:=fun R nx hx z=>by
 show el nx hx z.1.2.1.1 z.2.1.1.1 z.2.1.1.2.1 z.2.1.1.2.2.1 z.2.1.1.2.2.2.1 z.2.1.1.2.2.2.2.1 z.2.1.1.2.2.2.2.2.1=(el (fun y=>some (.inl y)) (sj eV fun x=>some (.inr x)) z.1.2.1.1 z.2.1.1.1 z.2.1.1.2.1 z.2.1.1.2.2.1 z.2.1.1.2.2.2.1 z.2.1.1.2.2.2.2.1 z.2.1.1.2.2.2.2.2.1).bind (rV nx hx)
 unfold el
 exact ae (ac fun _=>ac fun _=>ae (ac fun _=>ac fun _=>ae rfl rfl) rfl) rfl
def gE:gC.T->Option (wO eV):=Bt @qS
theorem qQ x3 b0_0 b0_1 b0_2 b0_3 b0_4 b0_5:gE (eU x3 b0_0 b0_1 b0_2 b0_3 b0_4 b0_5)=el gE (sj eV some) x3 b0_0 b0_1 b0_2 b0_3 b0_4 b0_5:=jL wu _
def kK{R:Type}(kx:Int->Option R)(a0:Pt):Option R:=
 Option.bind (gE (eU (0:Int) a0.1.1 a0.1.2.1 a0.1.2.2 a0.2.1 a0.2.2.1 a0.2.2.2)) (jP eV
 (fun e829=>
  kx (e829.1.1.1:Int),fun _=>
  kx (-(1:Int)),()))
def ga(a0:Pt):Option (Int):=kK some a0
theorem JG{R} kx a0: @kK R kx a0=(ga a0).bind kx:=by
 unfold ga kK
 exact bh ⟨fun _=>rfl,fun _=>rfl,trivial⟩
def rI{R:Type}(kx:Ln×Bool->Option R)(a0:Pt)(a1:Int):Option R:=
 Option.bind (cb a0) fun y835=>
 cond (!y835)
 (kx (((0:Int),((0:Int),((0:Int),(0:Int)))),Bool.false))
 (Option.bind (gY a1 (0:Int) (7:Int)) fun y836=>
  cond (!y836)
  (kx (((0:Int),((0:Int),((0:Int),(0:Int)))),Bool.false))
  (Option.bind (aV a0) fun y837=>
   Option.bind (cE (IntKind.wrap .i64 (a1+(4:Int))) y837) fun y838=>
   Option.bind (bI y838) fun y839=>
   cond (!y839.2)
   (kx (((0:Int),((0:Int),((0:Int),(0:Int)))),Bool.false))
   (kx ((a1,y839.1),Bool.true))))
def ru(a0:Pt)(a1:Int):Option (Ln×Bool):=rI some a0 a1
theorem Ns{R} kx a0 a1: @rI R kx a0 a1=(ru a0 a1).bind kx:=by
 unfold ru rI
 exact ac fun _=>ae rfl (ac fun _=>ae rfl (ac fun _=>ac fun _=>ac fun _=>ae rfl rfl))
def lI{R:Type}(kx:Ln×Int->Option R)(a0:Pt)(a1:Pt):Option R:=
 Option.bind (cb a0) fun y797=>
 cond (!y797)
 (kx (((0:Int),((0:Int),((0:Int),(0:Int)))),(1:Int)))
 (Option.bind (cb a1) fun y798=>
  cond (!y798)
  (kx (((0:Int),((0:Int),((0:Int),(0:Int)))),(1:Int)))
  (Option.bind (aV a1) fun y799=>
   Option.bind (aV a0) fun y800=>
   Option.bind (gl y799 y800) fun y801=>
   Option.bind (ga y801) fun y832=>
   cond (decide (y832<(0:Int)))
   (kx (((0:Int),((0:Int),((0:Int),(0:Int)))),(7:Int)))
   (Option.bind (ru a0 (Int.tmod y832 (8:Int))) fun y840=>
    cond (!y840.2)
    (kx (((0:Int),((0:Int),((0:Int),(0:Int)))),(2:Int)))
    (kx (y840.1,(0:Int))))))
def lq(a0:Pt)(a1:Pt):Option (Ln×Int):=lI some a0 a1
theorem Ki{R} kx a0 a1: @lI R kx a0 a1=(lq a0 a1).bind kx:=by
 unfold lq lI
 exact ac fun _=>ae rfl (ac fun _=>ae rfl (ac fun _=>ac fun _=>ac fun _=>ac fun _=>ae rfl (ac fun _=>ae rfl rfl)))
def mH{R:Type}(kx:Ln->Option R)(a0:Pt)(a1:Int):Option R:=
 Option.bind (kw a1) fun y771=>
 Option.bind (cE (IntKind.wrap .i64 ((Int.tmod y771 (8:Int))+(4:Int))) a0) fun y772=>
 kx ((Int.tmod y771 (8:Int)),y772)
def dn(a0:Pt)(a1:Int):Option (Ln):=mH some a0 a1
theorem KN{R} kx a0 a1: @mH R kx a0 a1=(dn a0 a1).bind kx:=by
 unfold dn mH
 exact ac fun _=>ac fun _=>rfl
def ld{R:Type}(kx:Ln×Bool->Option R)(a0:Ln):Option R:=
 Option.bind (bI a0.2) fun y862=>
 cond (!y862.2)
 (kx (((0:Int),((0:Int),((0:Int),(0:Int)))),Bool.false))
 (kx ((a0.1,y862.1),Bool.true))
def fP(a0:Ln):Option (Ln×Bool):=ld some a0
theorem M4{R} kx a0: @ld R kx a0=(fP a0).bind kx:=by
 unfold fP ld
 exact ac fun _=>ae rfl rfl
def rL{R:Type}(kx:Ln×Int->Option R)(a0:Ln):Option R:=
 Option.bind (fP a0) fun y863=>
 cond (!y863.2)
 (kx (((0:Int),((0:Int),((0:Int),(0:Int)))),(2:Int)))
 (kx (y863.1,(0:Int)))
def ky(a0:Ln):Option (Ln×Int):=rL some a0
theorem Ny{R} kx a0: @rL R kx a0=(ky a0).bind kx:=by
 unfold ky rL
 exact ac fun _=>ae rfl rfl
def qN{R:Type}(kx:Nm->Option R)(a0:Nm):Option R:=
 kx (a0.1,(a0.2.1,(IntKind.wrap .i64 (a0.2.2+(1:Int)))))
def hZ(a0:Nm):Option (Nm):=qN some a0
theorem M3{R} kx a0: @qN R kx a0=(hZ a0).bind kx:=by
 unfold hZ qN
 exact rfl
def pj{R:Type}(kx:Ln×Int->Option R)(a0:Pt)(a1:Pt):Option R:=
 Option.bind (cb a0) fun y848=>
 cond (!y848)
 (kx (((0:Int),((0:Int),((0:Int),(0:Int)))),(1:Int)))
 (Option.bind (cb a1) fun y849=>
  cond (!y849)
  (kx (((0:Int),((0:Int),((0:Int),(0:Int)))),(1:Int)))
  (Option.bind (aV a0) fun y850=>
   Option.bind (aV a1) fun y851=>
   Option.bind (gl y851 y850) fun y852=>
   Option.bind (ga y852) fun y853=>
   cond (decide (y853<(0:Int)))
   (kx (((0:Int),((0:Int),((0:Int),(0:Int)))),(7:Int)))
   (Option.bind (cL y850.1 y851.1) fun y854=>
    Option.bind (hZ y854) fun y856=>
    Option.bind (cL y850.2 y851.2) fun y857=>
    Option.bind (hZ y857) fun y858=>
    Option.bind (dn (y856,y858) (IntKind.wrap .i64 (y853+(4:Int)))) fun y859=>
    Option.bind (ky y859) fun y864=>
    kx y864)))
def oT(a0:Pt)(a1:Pt):Option (Ln×Int):=pj some a0 a1
theorem Ma{R} kx a0 a1: @pj R kx a0 a1=(oT a0 a1).bind kx:=by
 unfold oT pj
 exact ac fun _=>ae rfl (ac fun _=>ae rfl (ac fun _=>ac fun _=>ac fun _=>ac fun _=>ae rfl (ac fun _=>ac fun _=>ac fun _=>ac fun _=>ac fun _=>ac fun _=>rfl)))
def qJ{R:Type}(kx:Bool->Option R)(a0:Ln):Option R:=
 Option.bind (gY a0.1 (0:Int) (7:Int)) fun y91=>
 cond y91
 (Option.bind (jh a0.2) fun y96=>
  kx y96)
 (kx Bool.false)
def cC(a0:Ln):Option (Bool):=qJ some a0
theorem MZ{R} kx a0: @qJ R kx a0=(cC a0).bind kx:=by
 unfold cC qJ
 exact ac fun _=>ae (ac fun _=>rfl) rfl
def rH{R:Type}(kx:Ln->Option R)(a0:Ln):Option R:=
 Option.bind (ni a0.2) fun y44=>
 kx (a0.1,y44)
def rr(a0:Ln):Option (Ln):=rH some a0
theorem Nr{R} kx a0: @rH R kx a0=(rr a0).bind kx:=by
 unfold rr rH
 exact ac fun _=>rfl
abbrev lO:LS:=⟨[(false,[(.ptr 3 0)]),(false,[(.ptr 4 0)]),(false,[(.int .i64)]),(false,[(.ptr 7 0)])],[(false,[(.int .i64),(.int .i64),(.int .i64)]),(false,[(.int .i64),(.int .i64),(.int .i64)]),(false,[(.int .i64),(.int .i64),(.int .i64)])],[]⟩
abbrev uR:LS:=⟨[(false,[(.ptr 3 0)]),(false,[(.ptr 4 0)]),(false,[(.int .i64)]),(false,[(.ptr 7 0)])],[(false,[(.int .i64),(.int .i64),(.int .i64)]),(false,[(.int .i64),(.int .i64),(.int .i64)]),(false,[(.int .i64),(.int .i64),(.int .i64)])],[]⟩
abbrev uN(v0:Int)(v1:Int)(v2:Int)(v3:Int)(v4:Int)(v5:Int)(v6:Int)(v7:Int)(v8:Int)(v9:Int):=(((((),()),((),()),(v0,()),((),()),()),((v1,v2,v3,()),(v4,v5,v6,()),(v7,v8,v9,()),()),()):uR.T)
abbrev iT:List (Ex×LS):=[(.exit 0,uR)]
abbrev oZ(x6:Int)(b0_0:Int)(b0_1:Int)(b0_2:Int)(b1_0:Int)(b1_1:Int)(b1_2:Int)(b2_0:Int)(b2_1:Int)(b2_2:Int):=(((((),()),((),()),(x6,()),((),()),()),((b0_0,b0_1,b0_2,()),(b1_0,b1_1,b1_2,()),(b2_0,b2_1,b2_2,()),()),()):lO.T)
def jU{R:Type}(nx:lO.T->Option R)(hx:mJ R iT)(x6:Int)(b0_0:Int)(b0_1:Int)(b0_2:Int)(b1_0:Int)(b1_1:Int)(b1_2:Int)(b2_0:Int)(b2_1:Int)(b2_2:Int):Option R:=
 cond ((Int.tmod x6 (2:Int))==(0:Int))
 (nx (oZ (IntKind.wrap .i64 (Int.tdiv x6 (2:Int))) b0_0 b0_1 b0_2 b1_0 b1_1 b1_2 b2_0 b2_1 (IntKind.wrap .i64 (b2_2+(1:Int)))))
 (hx.1 (uN x6 b0_0 b0_1 b0_2 b1_0 b1_1 b1_2 b2_0 b2_1 b2_2))
def xH{R:Type}(nx:lO.T->Option R)(hx:mJ R iT)(z:lO.T):Option R:=jU nx hx z.1.2.2.1.1 z.2.1.1.1 z.2.1.1.2.1 z.2.1.1.2.2.1 z.2.1.2.1.1 z.2.1.2.1.2.1 z.2.1.2.1.2.2.1 z.2.1.2.2.1.1 z.2.1.2.2.1.2.1 z.2.1.2.2.1.2.2.1
theorem Ck:fe @xH:=fun R nx hx z=>by
 show jU nx hx z.1.2.2.1.1 z.2.1.1.1 z.2.1.1.2.1 z.2.1.1.2.2.1 z.2.1.2.1.1 z.2.1.2.1.2.1 z.2.1.2.1.2.2.1 z.2.1.2.2.1.1 z.2.1.2.2.1.2.1 z.2.1.2.2.1.2.2.1=(jU (fun y=>some (.inl y)) (sj iT fun x=>some (.inr x)) z.1.2.2.1.1 z.2.1.1.1 z.2.1.1.2.1 z.2.1.1.2.2.1 z.2.1.2.1.1 z.2.1.2.1.2.1 z.2.1.2.1.2.2.1 z.2.1.2.2.1.1 z.2.1.2.2.1.2.1 z.2.1.2.2.1.2.2.1).bind (rV nx hx)
 unfold jU
 exact ae rfl rfl
def pn:lO.T->Option (wO iT):=Bt @xH
theorem DP x6 b0_0 b0_1 b0_2 b1_0 b1_1 b1_2 b2_0 b2_1 b2_2:pn (oZ x6 b0_0 b0_1 b0_2 b1_0 b1_1 b1_2 b2_0 b2_1 b2_2)=jU pn (sj iT some) x6 b0_0 b0_1 b0_2 b1_0 b1_1 b1_2 b2_0 b2_1 b2_2:=jL Ck _
abbrev kO:LS:=⟨[(false,[(.ptr 4 0)]),(false,[(.ptr 7 0)]),(false,[(.int .i64)])],[(false,[(.int .i64),(.int .i64),(.int .i64)]),(false,[(.int .i64),(.int .i64),(.int .i64)])],[]⟩
abbrev tT:LS:=⟨[(false,[(.ptr 4 0)]),(false,[(.ptr 7 0)])],[(false,[(.int .i64),(.int .i64),(.int .i64)]),(false,[(.int .i64),(.int .i64),(.int .i64)])],[]⟩
abbrev tN(v0:Int)(v1:Int)(v2:Int)(v3:Int)(v4:Int)(v5:Int):=(((((),()),((),()),()),((v0,v1,v2,()),(v3,v4,v5,()),()),()):tT.T)
abbrev gS:List (Ex×LS):=[(.exit 2,tT)]
abbrev kL(x8:Int)(b0_0:Int)(b0_1:Int)(b0_2:Int)(b1_0:Int)(b1_1:Int)(b1_2:Int):=(((((),()),((),()),(x8,()),()),((b0_0,b0_1,b0_2,()),(b1_0,b1_1,b1_2,()),()),()):kO.T)
def jo{R:Type}(nx:kO.T->Option R)(hx:mJ R gS)(x8:Int)(b0_0:Int)(b0_1:Int)(b0_2:Int)(b1_0:Int)(b1_1:Int)(b1_2:Int):Option R:=
 cond (decide (x8>(0:Int)))
 (cond (decide (b1_2>(0:Int)))
  (nx (kL (IntKind.wrap .i64 (x8-(1:Int))) b0_0 b0_1 b0_2 b1_0 b1_1 (IntKind.wrap .i64 (b1_2-(1:Int)))))
  (nx (kL (IntKind.wrap .i64 (x8-(1:Int))) b0_0 b0_1 b0_2 (IntKind.wrap .i64 (b1_0*(2:Int))) (IntKind.wrap .i64 (b1_1*(2:Int))) b1_2)))
 (hx.1 (tN b0_0 b0_1 b0_2 b1_0 b1_1 b1_2))
def wJ{R:Type}(nx:kO.T->Option R)(hx:mJ R gS)(z:kO.T):Option R:=jo nx hx z.1.2.2.1.1 z.2.1.1.1 z.2.1.1.2.1 z.2.1.1.2.2.1 z.2.1.2.1.1 z.2.1.2.1.2.1 z.2.1.2.1.2.2.1
theorem Bf:fe @wJ:=fun R nx hx z=>by
 show jo nx hx z.1.2.2.1.1 z.2.1.1.1 z.2.1.1.2.1 z.2.1.1.2.2.1 z.2.1.2.1.1 z.2.1.2.1.2.1 z.2.1.2.1.2.2.1=(jo (fun y=>some (.inl y)) (sj gS fun x=>some (.inr x)) z.1.2.2.1.1 z.2.1.1.1 z.2.1.1.2.1 z.2.1.1.2.2.1 z.2.1.2.1.1 z.2.1.2.1.2.1 z.2.1.2.1.2.2.1).bind (rV nx hx)
 unfold jo
 exact ae (ae rfl rfl) rfl
def nE:kO.T->Option (wO gS):=Bt @wJ
theorem CT x8 b0_0 b0_1 b0_2 b1_0 b1_1 b1_2:nE (kL x8 b0_0 b0_1 b0_2 b1_0 b1_1 b1_2)=jo nE (sj gS some) x8 b0_0 b0_1 b0_2 b1_0 b1_1 b1_2:=jL Bf _
def oH{R:Type}(kx:Nm×Bool->Option R)(a0:Nm)(a1:Nm):Option R:=
 cond ((IntKind.wrap .i64 ((IntKind.wrap .i64 (a1.1*a1.1))-(IntKind.wrap .i64 ((IntKind.wrap .i64 ((2:Int)*a1.2.1))*a1.2.1))))==(0:Int))
 (kx (((0:Int),((0:Int),(0:Int))),Bool.false))
 (Option.bind (pn (oZ (IntKind.wrap .i64 ((IntKind.wrap .i64 (a1.1*a1.1))-(IntKind.wrap .i64 ((IntKind.wrap .i64 ((2:Int)*a1.2.1))*a1.2.1)))) a1.1 a1.2.1 a1.2.2 (0:Int) (0:Int) (0:Int) (IntKind.wrap .i64 ((IntKind.wrap .i64 (a0.1*a1.1))-(IntKind.wrap .i64 ((IntKind.wrap .i64 ((2:Int)*a0.2.1))*a1.2.1)))) (IntKind.wrap .i64 ((IntKind.wrap .i64 (a0.2.1*a1.1))-(IntKind.wrap .i64 (a0.1*a1.2.1)))) a0.2.2)) (jP iT
  (fun e664=>
   cond (decide ((e664.1.2.2.1.1:Int)=(0:Int)))
   none
   (cond ((Int.tmod (e664.2.1.2.2.1.1:Int) (e664.1.2.2.1.1:Int)) !=(0:Int))
    (kx (((0:Int),((0:Int),(0:Int))),Bool.false))
    (cond (decide ((e664.1.2.2.1.1:Int)=(0:Int)))
     none
     (cond ((Int.tmod (e664.2.1.2.2.1.2.1:Int) (e664.1.2.2.1.1:Int)) !=(0:Int))
      (kx (((0:Int),((0:Int),(0:Int))),Bool.false))
      (cond (decide ((e664.1.2.2.1.1:Int)=(0:Int)))
       none
       (cond (decide ((e664.1.2.2.1.1:Int)=(0:Int)))
        none
        (Option.bind (nE (kL (e664.2.1.1.2.2.1:Int) (e664.2.1.2.1.1:Int) (e664.2.1.2.1.2.1:Int) (e664.2.1.2.1.2.2.1:Int) (IntKind.wrap .i64 (Int.tdiv (e664.2.1.2.2.1.1:Int) (e664.1.2.2.1.1:Int))) (IntKind.wrap .i64 (Int.tdiv (e664.2.1.2.2.1.2.1:Int) (e664.1.2.2.1.1:Int))) (e664.2.1.2.2.1.2.2.1:Int))) (jP gS
         (fun e682=>
          Option.bind (eD ((e682.2.1.2.1.1:Int),((e682.2.1.2.1.2.1:Int),(e682.2.1.2.1.2.2.1:Int)))) fun y689=>
          kx (y689,Bool.true),())))))))),())))
def fJ(a0:Nm)(a1:Nm):Option (Nm×Bool):=oH some a0 a1
theorem Nt{R} kx a0 a1: @oH R kx a0 a1=(fJ a0 a1).bind kx:=by
 unfold fJ oH
 exact ae rfl (bh ⟨fun _=>ae rfl (ae rfl (ae rfl (ae rfl (ae rfl (ae rfl (bh ⟨fun _=>ac fun _=>rfl,trivial⟩)))))),trivial⟩)
def nC{R:Type}(kx:Nm->Option R)(a0:Int):Option R:=
 Option.bind (cW a0) fun y735=>
 Option.bind (aV y735) fun y736=>
 Option.bind (bT y736.1 y736.1) fun y737=>
 Option.bind (bT y736.2 y736.2) fun y738=>
 Option.bind (cL y737 y738) fun y739=>
 kx y739
def gM(a0:Int):Option (Nm):=nC some a0
theorem Lw{R} kx a0: @nC R kx a0=(gM a0).bind kx:=by
 unfold gM nC
 exact ac fun _=>ac fun _=>ac fun _=>ac fun _=>ac fun _=>rfl
def qO{R:Type}(kx:Ln×Int->Option R)(a0:Int)(a1:Pt)(a2:Ln):Option R:=
 Option.bind (cW (IntKind.wrap .i64 (a0+(4:Int)))) fun y1021=>
 Option.bind (aV y1021) fun y1022=>
 Option.bind (cE (IntKind.wrap .i64 (a2.1+(4:Int))) y1022) fun y1023=>
 Option.bind (cE (IntKind.wrap .i64 (a2.1+(4:Int))) a1) fun y1024=>
 Option.bind (cM a2.2 y1024) fun y1025=>
 Option.bind (ez y1023) fun y1026=>
 cond y1026
 (Option.bind (ez y1025) fun y1027=>
  cond y1027
  (kx (((0:Int),((0:Int),((0:Int),(0:Int)))),(2:Int)))
  (kx (((0:Int),((0:Int),((0:Int),(0:Int)))),(0:Int))))
 (Option.bind (gM (IntKind.wrap .i64 (a0+(4:Int)))) fun y1028=>
  Option.bind (bT y1025 y1028) fun y1029=>
  Option.bind (fJ y1029 y1023) fun y1030=>
  Option.bind (cE (IntKind.wrap .i64 (a0+(4:Int))) a1) fun y1031=>
  Option.bind (hZ y1030.1) fun y1032=>
  Option.bind (cL y1031 y1032) fun y1033=>
  kx ((a0,y1033),(1:Int)))
def ic(a0:Int)(a1:Pt)(a2:Ln):Option (Ln×Int):=qO some a0 a1 a2
theorem M5{R} kx a0 a1 a2: @qO R kx a0 a1 a2=(ic a0 a1 a2).bind kx:=by
 unfold ic qO
 exact ac fun _=>ac fun _=>ac fun _=>ac fun _=>ac fun _=>ac fun _=>ae (ac fun _=>ae rfl rfl) (ac fun _=>ac fun _=>ac fun _=>ac fun _=>ac fun _=>ac fun _=>rfl)
def dZ{R:Type}(kx:Ln->Option R)(a0:Ln):Option R:=
 Option.bind (bo a0.2) fun y560=>
 kx (a0.1,y560)
def bF(a0:Ln):Option (Ln):=dZ some a0
theorem Lv{R} kx a0: @dZ R kx a0=(bF a0).bind kx:=by
 unfold bF dZ
 exact ac fun _=>rfl
def mF{R:Type}(kx:Ln×Int->Option R)(a0:Pt)(a1:Ln)(a2:Ln):Option R:=
 Option.bind (cb a0) fun y1057=>
 cond (!y1057)
 (kx (((0:Int),((0:Int),((0:Int),(0:Int)))),(1:Int)))
 (Option.bind (cC a1) fun y1058=>
  cond (!y1058)
  (kx (((0:Int),((0:Int),((0:Int),(0:Int)))),(1:Int)))
  (Option.bind (cC a2) fun y1059=>
   cond (!y1059)
   (kx (((0:Int),((0:Int),((0:Int),(0:Int)))),(1:Int)))
   (cond (a1.1==a2.1)
    (kx (((0:Int),((0:Int),((0:Int),(0:Int)))),(7:Int)))
    (Option.bind (aV a0) fun y1060=>
     Option.bind (bF a1) fun y1061=>
     Option.bind (ic (Int.tmod (IntKind.wrap .i64 (a2.1+(4:Int))) (8:Int)) y1060 y1061) fun y1062=>
     Option.bind (ky y1062.1) fun y1063=>
     kx y1063))))
def mw(a0:Pt)(a1:Ln)(a2:Ln):Option (Ln×Int):=mF some a0 a1 a2
theorem KL{R} kx a0 a1 a2: @mF R kx a0 a1 a2=(mw a0 a1 a2).bind kx:=by
 unfold mw mF
 exact ac fun _=>ae rfl (ac fun _=>ae rfl (ac fun _=>ae rfl (ae rfl (ac fun _=>ac fun _=>ac fun _=>ac fun _=>rfl))))
def gZ{R:Type}(kx:Ln×Int->Option R)(a0:Ln)(a1:Pt):Option R:=
 Option.bind (cC a0) fun y928=>
 cond (!y928)
 (kx (((0:Int),((0:Int),((0:Int),(0:Int)))),(1:Int)))
 (Option.bind (cb a1) fun y929=>
  cond (!y929)
  (kx (((0:Int),((0:Int),((0:Int),(0:Int)))),(1:Int)))
  (Option.bind (aV a1) fun y930=>
   Option.bind (dn y930 (IntKind.wrap .i64 (a0.1+(4:Int)))) fun y931=>
   Option.bind (ky y931) fun y932=>
   kx y932))
def gX(a0:Ln)(a1:Pt):Option (Ln×Int):=gZ some a0 a1
theorem Gl{R} kx a0 a1: @gZ R kx a0 a1=(gX a0 a1).bind kx:=by
 unfold gX gZ
 exact ac fun _=>ae rfl (ac fun _=>ae rfl (ac fun _=>ac fun _=>ac fun _=>rfl))
abbrev lP:LS:=⟨[(false,[(.sl yL)]),(false,[(.own yL)]),(false,[(.int .i64)])],[],[]⟩
abbrev uT:LS:=⟨[(false,[(.own yL)]),(false,[(.int .i64)]),(false,[(.own yL)])],[],[]⟩
abbrev BE v0(v1:Int) v2:=((((v0,()),(v1,()),(v2,()),()),(),()):uT.T)
abbrev uU:LS:=⟨[(false,[.undef]),(false,[.undef]),(false,[(.own yL)])],[],[]⟩
abbrev BF v0:=(((((),()),((),()),(v0,()),()),(),()):uU.T)
abbrev iU:List (Ex×LS):=[(.ret,uT),(.exit 0,uU)]
abbrev pc x0 x4(x5:Int):=((((x0,()),(x4,()),(x5,()),()),(),()):lP.T)
def ff{R:Type}(nx:lP.T->Option R)(hx:mJ R iU)(x0:List Ln)(x4:List Ln)(x5:Int):Option R:=
 cond (decide (x5<((List.length x0:Nat):Int)))
 (Option.bind (xd x0 x5) fun y881=>
  Option.bind (fP y881) fun y882=>
  cond (!y882.2)
  (hx.1 (BE [] (2:Int) x4))
  (cond (decide ((((List.length x4)+(List.length [y882.1]))*32)<=70368744177664))
   (cond (decide (((List.length x4)+(List.length [y882.1]))<=70368744177664))
    (nx (pc x0 (x4++ [y882.1]) (IntKind.wrap .i64 (x5+(1:Int)))))
    none)
   none))
 (hx.2.1 (BF x4))
def xI{R:Type}(nx:lP.T->Option R)(hx:mJ R iU)(z:lP.T):Option R:=ff nx hx z.1.1.1 z.1.2.1.1 z.1.2.2.1.1
theorem Cl:fe @xI:=fun R nx hx z=>by
 show ff nx hx z.1.1.1 z.1.2.1.1 z.1.2.2.1.1=(ff (fun y=>some (.inl y)) (sj iU fun x=>some (.inr x)) z.1.1.1 z.1.2.1.1 z.1.2.2.1.1).bind (rV nx hx)
 unfold ff
 exact ae (ac fun _=>ac fun _=>ae rfl (ae (ae rfl rfl) rfl)) rfl
def po:lP.T->Option (wO iU):=Bt @xI
theorem nF x0 x4 x5:po (pc x0 x4 x5)=ff po (sj iU some) x0 x4 x5:=jL Cl _
def oM{R:Type}(kx:(List Ln)×Int->Option R)(a0:(List Ln)):Option R:=
 Option.bind (po (pc a0 [] (0:Int))) (jP iU
 (fun e883=>
  kx ((e883.1.1.1:List Ln),(e883.1.2.1.1:Int)),fun e887=>
  kx ((e887.1.2.2.1.1:List Ln),(0:Int)),()))
def dY(a0:(List Ln)):Option ((List Ln)×Int):=oM some a0
theorem Nx{R} kx a0: @oM R kx a0=(dY a0).bind kx:=by
 unfold dY oM
 exact bh ⟨fun _=>rfl,fun _=>rfl,trivial⟩
def qK{R:Type}(kx:Pt->Option R)(a0:Ln)(a1:Ln):Option R:=
 Option.bind (cW (IntKind.wrap .i64 (a0.1+(4:Int)))) fun y569=>
 Option.bind (aV y569) fun y573=>
 Option.bind (cW (IntKind.wrap .i64 (a1.1+(4:Int)))) fun y574=>
 Option.bind (aV y574) fun y575=>
 Option.bind (bT y573.1 y575.2) fun y600=>
 Option.bind (bT y573.2 y575.1) fun y601=>
 Option.bind (cM y600 y601) fun y648=>
 Option.bind (bT a0.2 y575.2) fun y649=>
 Option.bind (bT a1.2 y573.2) fun y650=>
 Option.bind (cM y649 y650) fun y651=>
 Option.bind (fJ y651 y648) fun y690=>
 Option.bind (bT a1.2 y573.1) fun y691=>
 Option.bind (bT a0.2 y575.1) fun y692=>
 Option.bind (cM y691 y692) fun y693=>
 Option.bind (fJ y693 y648) fun y694=>
 kx (y690.1,y694.1)
def jw(a0:Ln)(a1:Ln):Option (Pt):=qK some a0 a1
theorem M0{R} kx a0 a1: @qK R kx a0 a1=(jw a0 a1).bind kx:=by
 unfold jw qK
 exact ac fun _=>ac fun _=>ac fun _=>ac fun _=>ac fun _=>ac fun _=>ac fun _=>ac fun _=>ac fun _=>ac fun _=>ac fun _=>ac fun _=>ac fun _=>ac fun _=>ac fun _=>rfl
abbrev lQ:LS:=⟨[(false,[(.sl yL)]),(false,[(.ptr 3 0)]),(false,[(.int .i64)])],[(false,[(.int .i64),(.int .i64),(.int .i64),(.int .i64)])],[]⟩
abbrev uV:LS:=⟨[(false,[(.sl yL)]),(false,[(.ptr 3 0)]),(false,[(.int .i64)])],[(false,[(.int .i64),(.int .i64),(.int .i64),(.int .i64)])],[]⟩
abbrev qe v0(v1:Int)(v2:Int)(v3:Int)(v4:Int)(v5:Int):=((((v0,()),((),()),(v1,()),()),((v2,v3,v4,v5,()),()),()):uV.T)
abbrev jX:List (Ex×LS):=[(.exit 0,uV)]
abbrev pe x0(x5:Int)(b0_0:Int)(b0_1:Int)(b0_2:Int)(b0_3:Int):=((((x0,()),((),()),(x5,()),()),((b0_0,b0_1,b0_2,b0_3,()),()),()):lQ.T)
def gn{R:Type}(nx:lQ.T->Option R)(hx:mJ R jX)(x0:List Ln)(x5:Int)(b0_0:Int)(b0_1:Int)(b0_2:Int)(b0_3:Int):Option R:=
 cond (decide (x5>(0:Int)))
 (Option.bind (xd x0 (IntKind.wrap .i64 (x5-(1:Int)))) fun y900=>
  cond (decide (y900.1>b0_0))
  (nx (pe x0 (IntKind.wrap .i64 (x5-(1:Int))) b0_0 b0_1 b0_2 b0_3))
  (Option.bind (xd x0 (IntKind.wrap .i64 (x5-(1:Int)))) fun y901=>
   cond (y901.1==b0_0)
   (Option.bind (xd x0 (IntKind.wrap .i64 (x5-(1:Int)))) fun y902=>
    Option.bind (cM y902.2 (b0_1,(b0_2,b0_3))) fun y903=>
    Option.bind (dV y903) fun y904=>
    cond (decide (y904>(0:Int)))
    (nx (pe x0 (IntKind.wrap .i64 (x5-(1:Int))) b0_0 b0_1 b0_2 b0_3))
    (hx.1 (qe x0 x5 b0_0 b0_1 b0_2 b0_3)))
   (hx.1 (qe x0 x5 b0_0 b0_1 b0_2 b0_3))))
 (hx.1 (qe x0 x5 b0_0 b0_1 b0_2 b0_3))
def xJ{R:Type}(nx:lQ.T->Option R)(hx:mJ R jX)(z:lQ.T):Option R:=gn nx hx z.1.1.1 z.1.2.2.1.1 z.2.1.1.1 z.2.1.1.2.1 z.2.1.1.2.2.1 z.2.1.1.2.2.2.1
theorem Co:fe @xJ:=fun R nx hx z=>by
 show gn nx hx z.1.1.1 z.1.2.2.1.1 z.2.1.1.1 z.2.1.1.2.1 z.2.1.1.2.2.1 z.2.1.1.2.2.2.1=(gn (fun y=>some (.inl y)) (sj jX fun x=>some (.inr x)) z.1.1.1 z.1.2.2.1.1 z.2.1.1.1 z.2.1.1.2.1 z.2.1.1.2.2.1 z.2.1.1.2.2.2.1).bind (rV nx hx)
 unfold gn
 exact ae (ac fun _=>ae rfl (ac fun _=>ae (ac fun _=>ac fun _=>ac fun _=>ae rfl rfl) rfl)) rfl
def sK:lQ.T->Option (wO jX):=Bt @xJ
theorem rm x0 x5 b0_0 b0_1 b0_2 b0_3:sK (pe x0 x5 b0_0 b0_1 b0_2 b0_3)=gn sK (sj jX some) x0 x5 b0_0 b0_1 b0_2 b0_3:=jL Co _
def oN{R:Type}(kx:(List Ln)->Option R)(a0:(List Ln))(a1:Ln):Option R:=
 Option.bind (sK (pe a0 ((List.length a0:Nat):Int) a1.1 a1.2.1 a1.2.2.1 a1.2.2.2)) (jP jX
 (fun e905=>
  cond (decide ((0:Int)<=(e905.1.2.2.1.1:Int)))
  (cond (decide ((e905.1.2.2.1.1:Int)<=(((List.length (e905.1.1.1:List Ln)):Nat):Int)))
   (cond (decide ((((List.length ([]:List Int))+(List.length (List.drop 0 (List.take (Int.toNat (e905.1.2.2.1.1:Int)) (e905.1.1.1:List Ln)))))*32)<=70368744177664))
    (cond (decide (((List.length ([]:List Int))+(List.length (List.drop 0 (List.take (Int.toNat (e905.1.2.2.1.1:Int)) (e905.1.1.1:List Ln)))))<=70368744177664))
     (cond (decide ((((List.length ([]++(List.drop 0 (List.take (Int.toNat (e905.1.2.2.1.1:Int)) (e905.1.1.1:List Ln)))))+(List.length [((e905.2.1.1.1:Int),((e905.2.1.1.2.1:Int),((e905.2.1.1.2.2.1:Int),(e905.2.1.1.2.2.2.1:Int))))]))*32)<=70368744177664))
      (cond (decide (((List.length ([]++(List.drop 0 (List.take (Int.toNat (e905.1.2.2.1.1:Int)) (e905.1.1.1:List Ln)))))+(List.length [((e905.2.1.1.1:Int),((e905.2.1.1.2.1:Int),((e905.2.1.1.2.2.1:Int),(e905.2.1.1.2.2.2.1:Int))))]))<=70368744177664))
       (cond (decide ((0:Int)<=(e905.1.2.2.1.1:Int)))
        (cond (decide ((e905.1.2.2.1.1:Int)<=(((List.length (e905.1.1.1:List Ln)):Nat):Int)))
         (cond (decide ((((List.length (([]++(List.drop 0 (List.take (Int.toNat (e905.1.2.2.1.1:Int)) (e905.1.1.1:List Ln))))++ [((e905.2.1.1.1:Int),((e905.2.1.1.2.1:Int),((e905.2.1.1.2.2.1:Int),(e905.2.1.1.2.2.2.1:Int))))]))+(List.length (List.drop (Int.toNat (e905.1.2.2.1.1:Int)) (List.take (List.length (e905.1.1.1:List Ln)) (e905.1.1.1:List Ln)))))*32)<=70368744177664))
          (cond (decide (((List.length (([]++(List.drop 0 (List.take (Int.toNat (e905.1.2.2.1.1:Int)) (e905.1.1.1:List Ln))))++ [((e905.2.1.1.1:Int),((e905.2.1.1.2.1:Int),((e905.2.1.1.2.2.1:Int),(e905.2.1.1.2.2.2.1:Int))))]))+(List.length (List.drop (Int.toNat (e905.1.2.2.1.1:Int)) (List.take (List.length (e905.1.1.1:List Ln)) (e905.1.1.1:List Ln)))))<=70368744177664))
           (kx ((([]++(List.drop 0 (List.take (Int.toNat (e905.1.2.2.1.1:Int)) (e905.1.1.1:List Ln))))++ [((e905.2.1.1.1:Int),((e905.2.1.1.2.1:Int),((e905.2.1.1.2.2.1:Int),(e905.2.1.1.2.2.2.1:Int))))])++(List.drop (Int.toNat (e905.1.2.2.1.1:Int)) (List.take (List.length (e905.1.1.1:List Ln)) (e905.1.1.1:List Ln)))))
           none)
          none)
         none)
        none)
       none)
      none)
     none)
    none)
   none)
  none,()))
def jj(a0:(List Ln))(a1:Ln):Option ((List Ln)):=oN some a0 a1
theorem Nz{R} kx a0 a1: @oN R kx a0 a1=(jj a0 a1).bind kx:=by
 unfold jj oN
 exact bh ⟨fun _=>ae (ae (ae (ae (ae (ae (ae (ae (ae (ae rfl rfl) rfl) rfl) rfl) rfl) rfl) rfl) rfl) rfl) rfl,trivial⟩
def nA{R:Type}(kx:(List Ln)×Int->Option R)(a0:Ln)(a1:Ln):Option R:=
 Option.bind (cC a0) fun y871=>
 cond (!y871)
 (kx ([],(1:Int)))
 (Option.bind (cC a1) fun y872=>
  cond (!y872)
  (kx ([],(1:Int)))
  (cond ((a0.1==a1.1)&&(((a0.2.1==a1.2.1)&&((a0.2.2.1==a1.2.2.1)&&((a0.2.2.2==a1.2.2.2)&&Bool.true)))&&Bool.true))
   (kx ([],(7:Int)))
   (Option.bind (bF a0) fun y873=>
    Option.bind (bF a1) fun y874=>
    cond (a0.1==a1.1)
    (Option.bind (cL y873.2 y874.2) fun y875=>
     Option.bind (hZ y875) fun y876=>
     Option.bind (dY ([]++ [(a0.1,y876)])) fun y889=>
     kx y889)
    (cond ((Int.tmod (IntKind.wrap .i64 (a0.1+a1.1)) (2:Int))==(0:Int))
     (Option.bind (jw y873 y874) fun y890=>
      Option.bind (dn y890 (IntKind.wrap .i64 (Int.tdiv (IntKind.wrap .i64 (a0.1+a1.1)) (2:Int)))) fun y891=>
      Option.bind (jj [] y891) fun y912=>
      Option.bind (dn y890 (IntKind.wrap .i64 ((IntKind.wrap .i64 (Int.tdiv (IntKind.wrap .i64 (a0.1+a1.1)) (2:Int)))+(4:Int)))) fun y913=>
      Option.bind (jj y912 y913) fun y914=>
      Option.bind (dY y914) fun y915=>
      kx y915)
     (Option.bind (dY []) fun y916=>
      kx y916)))))
def nj(a0:Ln)(a1:Ln):Option ((List Ln)×Int):=nA some a0 a1
theorem Ls{R} kx a0 a1: @nA R kx a0 a1=(nj a0 a1).bind kx:=by
 unfold nj nA
 exact ac fun _=>ae rfl (ac fun _=>ae rfl (ae rfl (ac fun _=>ac fun _=>ae (ac fun _=>ac fun _=>ac fun _=>rfl) (ae (ac fun _=>ac fun _=>ac fun _=>ac fun _=>ac fun _=>ac fun _=>rfl) (ac fun _=>rfl)))))
abbrev jl:LS:=⟨[(false,[(.ptr 4 0)]),(false,[(.ptr 5 0)]),(false,[(.ptr 6 0)]),(false,[(.ptr 7 0)]),(false,[(.own yL)]),(false,[(.int .i64)])],[(false,[(.int .i64),(.int .i64),(.int .i64),(.int .i64),(.int .i64),(.int .i64)]),(false,[(.int .i64),(.int .i64),(.int .i64),(.int .i64)]),(false,[(.int .i64),(.int .i64),(.int .i64),(.int .i64),(.int .i64),(.int .i64)]),(false,[(.int .i64),(.int .i64),(.int .i64),(.int .i64)])],[]⟩
abbrev tS:LS:=⟨[(false,[(.own yL)])],[],[]⟩
abbrev tM v0:=((((v0,()),()),(),()):tS.T)
abbrev gR:List (Ex×LS):=[(.exit 0,tS)]
abbrev bt x10(x11:Int)(b0_0:Int)(b0_1:Int)(b0_2:Int)(b0_3:Int)(b0_4:Int)(b0_5:Int)(b1_0:Int)(b1_1:Int)(b1_2:Int)(b1_3:Int)(b2_0:Int)(b2_1:Int)(b2_2:Int)(b2_3:Int)(b2_4:Int)(b2_5:Int)(b3_0:Int)(b3_1:Int)(b3_2:Int)(b3_3:Int):=(((((),()),((),()),((),()),((),()),(x10,()),(x11,()),()),((b0_0,b0_1,b0_2,b0_3,b0_4,b0_5,()),(b1_0,b1_1,b1_2,b1_3,()),(b2_0,b2_1,b2_2,b2_3,b2_4,b2_5,()),(b3_0,b3_1,b3_2,b3_3,()),()),()):jl.T)
def fy{R:Type}(nx:jl.T->Option R)(hx:mJ R gR)(x10:List Ln)(x11:Int)(b0_0:Int)(b0_1:Int)(b0_2:Int)(b0_3:Int)(b0_4:Int)(b0_5:Int)(b1_0:Int)(b1_1:Int)(b1_2:Int)(b1_3:Int)(b2_0:Int)(b2_1:Int)(b2_2:Int)(b2_3:Int)(b2_4:Int)(b2_5:Int)(b3_0:Int)(b3_1:Int)(b3_2:Int)(b3_3:Int):Option R:=
 cond (decide (x11<(8:Int)))
 (Option.bind (aV ((b0_0,(b0_1,b0_2)),(b0_3,(b0_4,b0_5)))) fun y1016=>
  Option.bind (bF (b1_0,(b1_1,(b1_2,b1_3)))) fun y1017=>
  Option.bind (ic x11 y1016 y1017) fun y1034=>
  Option.bind (aV ((b2_0,(b2_1,b2_2)),(b2_3,(b2_4,b2_5)))) fun y1035=>
  Option.bind (bF (b3_0,(b3_1,(b3_2,b3_3)))) fun y1036=>
  Option.bind (ic x11 y1035 y1036) fun y1037=>
  cond (y1034.2==(1:Int))
  (cond (y1037.2==(2:Int))
   (cond (decide ((((List.length x10)+(List.length [y1034.1]))*32)<=70368744177664))
    (cond (decide (((List.length x10)+(List.length [y1034.1]))<=70368744177664))
     (nx (bt (x10++ [y1034.1]) (IntKind.wrap .i64 (x11+(1:Int))) b0_0 b0_1 b0_2 b0_3 b0_4 b0_5 b1_0 b1_1 b1_2 b1_3 b2_0 b2_1 b2_2 b2_3 b2_4 b2_5 b3_0 b3_1 b3_2 b3_3))
     none)
    none)
   (cond (y1034.2==(2:Int))
    (cond (y1037.2==(1:Int))
     (cond (decide ((((List.length x10)+(List.length [y1037.1]))*32)<=70368744177664))
      (cond (decide (((List.length x10)+(List.length [y1037.1]))<=70368744177664))
       (nx (bt (x10++ [y1037.1]) (IntKind.wrap .i64 (x11+(1:Int))) b0_0 b0_1 b0_2 b0_3 b0_4 b0_5 b1_0 b1_1 b1_2 b1_3 b2_0 b2_1 b2_2 b2_3 b2_4 b2_5 b3_0 b3_1 b3_2 b3_3))
       none)
      none)
     (cond (y1034.2==(1:Int))
      (cond (y1037.2==(1:Int))
       (Option.bind (cM y1034.1.2 y1037.1.2) fun y1038=>
        Option.bind (ez y1038) fun y1039=>
        cond y1039
        (cond (decide ((((List.length x10)+(List.length [y1034.1]))*32)<=70368744177664))
         (cond (decide (((List.length x10)+(List.length [y1034.1]))<=70368744177664))
          (nx (bt (x10++ [y1034.1]) (IntKind.wrap .i64 (x11+(1:Int))) b0_0 b0_1 b0_2 b0_3 b0_4 b0_5 b1_0 b1_1 b1_2 b1_3 b2_0 b2_1 b2_2 b2_3 b2_4 b2_5 b3_0 b3_1 b3_2 b3_3))
          none)
         none)
        (nx (bt x10 (IntKind.wrap .i64 (x11+(1:Int))) b0_0 b0_1 b0_2 b0_3 b0_4 b0_5 b1_0 b1_1 b1_2 b1_3 b2_0 b2_1 b2_2 b2_3 b2_4 b2_5 b3_0 b3_1 b3_2 b3_3)))
       (nx (bt x10 (IntKind.wrap .i64 (x11+(1:Int))) b0_0 b0_1 b0_2 b0_3 b0_4 b0_5 b1_0 b1_1 b1_2 b1_3 b2_0 b2_1 b2_2 b2_3 b2_4 b2_5 b3_0 b3_1 b3_2 b3_3)))
      (nx (bt x10 (IntKind.wrap .i64 (x11+(1:Int))) b0_0 b0_1 b0_2 b0_3 b0_4 b0_5 b1_0 b1_1 b1_2 b1_3 b2_0 b2_1 b2_2 b2_3 b2_4 b2_5 b3_0 b3_1 b3_2 b3_3))))
    (cond (y1034.2==(1:Int))
     (cond (y1037.2==(1:Int))
      (Option.bind (cM y1034.1.2 y1037.1.2) fun y1040=>
       Option.bind (ez y1040) fun y1041=>
       cond y1041
       (cond (decide ((((List.length x10)+(List.length [y1034.1]))*32)<=70368744177664))
        (cond (decide (((List.length x10)+(List.length [y1034.1]))<=70368744177664))
         (nx (bt (x10++ [y1034.1]) (IntKind.wrap .i64 (x11+(1:Int))) b0_0 b0_1 b0_2 b0_3 b0_4 b0_5 b1_0 b1_1 b1_2 b1_3 b2_0 b2_1 b2_2 b2_3 b2_4 b2_5 b3_0 b3_1 b3_2 b3_3))
         none)
        none)
       (nx (bt x10 (IntKind.wrap .i64 (x11+(1:Int))) b0_0 b0_1 b0_2 b0_3 b0_4 b0_5 b1_0 b1_1 b1_2 b1_3 b2_0 b2_1 b2_2 b2_3 b2_4 b2_5 b3_0 b3_1 b3_2 b3_3)))
      (nx (bt x10 (IntKind.wrap .i64 (x11+(1:Int))) b0_0 b0_1 b0_2 b0_3 b0_4 b0_5 b1_0 b1_1 b1_2 b1_3 b2_0 b2_1 b2_2 b2_3 b2_4 b2_5 b3_0 b3_1 b3_2 b3_3)))
     (nx (bt x10 (IntKind.wrap .i64 (x11+(1:Int))) b0_0 b0_1 b0_2 b0_3 b0_4 b0_5 b1_0 b1_1 b1_2 b1_3 b2_0 b2_1 b2_2 b2_3 b2_4 b2_5 b3_0 b3_1 b3_2 b3_3)))))
  (cond (y1034.2==(2:Int))
   (cond (y1037.2==(1:Int))
    (cond (decide ((((List.length x10)+(List.length [y1037.1]))*32)<=70368744177664))
     (cond (decide (((List.length x10)+(List.length [y1037.1]))<=70368744177664))
      (nx (bt (x10++ [y1037.1]) (IntKind.wrap .i64 (x11+(1:Int))) b0_0 b0_1 b0_2 b0_3 b0_4 b0_5 b1_0 b1_1 b1_2 b1_3 b2_0 b2_1 b2_2 b2_3 b2_4 b2_5 b3_0 b3_1 b3_2 b3_3))
      none)
     none)
    (cond (y1034.2==(1:Int))
     (cond (y1037.2==(1:Int))
      (Option.bind (cM y1034.1.2 y1037.1.2) fun y1042=>
       Option.bind (ez y1042) fun y1043=>
       cond y1043
       (cond (decide ((((List.length x10)+(List.length [y1034.1]))*32)<=70368744177664))
        (cond (decide (((List.length x10)+(List.length [y1034.1]))<=70368744177664))
         (nx (bt (x10++ [y1034.1]) (IntKind.wrap .i64 (x11+(1:Int))) b0_0 b0_1 b0_2 b0_3 b0_4 b0_5 b1_0 b1_1 b1_2 b1_3 b2_0 b2_1 b2_2 b2_3 b2_4 b2_5 b3_0 b3_1 b3_2 b3_3))
         none)
        none)
       (nx (bt x10 (IntKind.wrap .i64 (x11+(1:Int))) b0_0 b0_1 b0_2 b0_3 b0_4 b0_5 b1_0 b1_1 b1_2 b1_3 b2_0 b2_1 b2_2 b2_3 b2_4 b2_5 b3_0 b3_1 b3_2 b3_3)))
      (nx (bt x10 (IntKind.wrap .i64 (x11+(1:Int))) b0_0 b0_1 b0_2 b0_3 b0_4 b0_5 b1_0 b1_1 b1_2 b1_3 b2_0 b2_1 b2_2 b2_3 b2_4 b2_5 b3_0 b3_1 b3_2 b3_3)))
     (nx (bt x10 (IntKind.wrap .i64 (x11+(1:Int))) b0_0 b0_1 b0_2 b0_3 b0_4 b0_5 b1_0 b1_1 b1_2 b1_3 b2_0 b2_1 b2_2 b2_3 b2_4 b2_5 b3_0 b3_1 b3_2 b3_3))))
   (cond (y1034.2==(1:Int))
    (cond (y1037.2==(1:Int))
     (Option.bind (cM y1034.1.2 y1037.1.2) fun y1044=>
      Option.bind (ez y1044) fun y1045=>
      cond y1045
      (cond (decide ((((List.length x10)+(List.length [y1034.1]))*32)<=70368744177664))
       (cond (decide (((List.length x10)+(List.length [y1034.1]))<=70368744177664))
        (nx (bt (x10++ [y1034.1]) (IntKind.wrap .i64 (x11+(1:Int))) b0_0 b0_1 b0_2 b0_3 b0_4 b0_5 b1_0 b1_1 b1_2 b1_3 b2_0 b2_1 b2_2 b2_3 b2_4 b2_5 b3_0 b3_1 b3_2 b3_3))
        none)
       none)
      (nx (bt x10 (IntKind.wrap .i64 (x11+(1:Int))) b0_0 b0_1 b0_2 b0_3 b0_4 b0_5 b1_0 b1_1 b1_2 b1_3 b2_0 b2_1 b2_2 b2_3 b2_4 b2_5 b3_0 b3_1 b3_2 b3_3)))
     (nx (bt x10 (IntKind.wrap .i64 (x11+(1:Int))) b0_0 b0_1 b0_2 b0_3 b0_4 b0_5 b1_0 b1_1 b1_2 b1_3 b2_0 b2_1 b2_2 b2_3 b2_4 b2_5 b3_0 b3_1 b3_2 b3_3)))
    (nx (bt x10 (IntKind.wrap .i64 (x11+(1:Int))) b0_0 b0_1 b0_2 b0_3 b0_4 b0_5 b1_0 b1_1 b1_2 b1_3 b2_0 b2_1 b2_2 b2_3 b2_4 b2_5 b3_0 b3_1 b3_2 b3_3)))))
 (hx.1 (tM x10))
def wH{R:Type}(nx:jl.T->Option R)(hx:mJ R gR)(z:jl.T):Option R:=fy nx hx z.1.2.2.2.2.1.1 z.1.2.2.2.2.2.1.1 z.2.1.1.1 z.2.1.1.2.1 z.2.1.1.2.2.1 z.2.1.1.2.2.2.1 z.2.1.1.2.2.2.2.1 z.2.1.1.2.2.2.2.2.1 z.2.1.2.1.1 z.2.1.2.1.2.1 z.2.1.2.1.2.2.1 z.2.1.2.1.2.2.2.1 z.2.1.2.2.1.1 z.2.1.2.2.1.2.1 z.2.1.2.2.1.2.2.1 z.2.1.2.2.1.2.2.2.1 z.2.1.2.2.1.2.2.2.2.1 z.2.1.2.2.1.2.2.2.2.2.1 z.2.1.2.2.2.1.1 z.2.1.2.2.2.1.2.1 z.2.1.2.2.2.1.2.2.1 z.2.1.2.2.2.1.2.2.2.1
theorem Be:fe @wH:=fun R nx hx z=>by
 show fy nx hx z.1.2.2.2.2.1.1 z.1.2.2.2.2.2.1.1 z.2.1.1.1 z.2.1.1.2.1 z.2.1.1.2.2.1 z.2.1.1.2.2.2.1 z.2.1.1.2.2.2.2.1 z.2.1.1.2.2.2.2.2.1 z.2.1.2.1.1 z.2.1.2.1.2.1 z.2.1.2.1.2.2.1 z.2.1.2.1.2.2.2.1 z.2.1.2.2.1.1 z.2.1.2.2.1.2.1 z.2.1.2.2.1.2.2.1 z.2.1.2.2.1.2.2.2.1 z.2.1.2.2.1.2.2.2.2.1 z.2.1.2.2.1.2.2.2.2.2.1 z.2.1.2.2.2.1.1 z.2.1.2.2.2.1.2.1 z.2.1.2.2.2.1.2.2.1 z.2.1.2.2.2.1.2.2.2.1=(fy (fun y=>some (.inl y)) (sj gR fun x=>some (.inr x)) z.1.2.2.2.2.1.1 z.1.2.2.2.2.2.1.1 z.2.1.1.1 z.2.1.1.2.1 z.2.1.1.2.2.1 z.2.1.1.2.2.2.1 z.2.1.1.2.2.2.2.1 z.2.1.1.2.2.2.2.2.1 z.2.1.2.1.1 z.2.1.2.1.2.1 z.2.1.2.1.2.2.1 z.2.1.2.1.2.2.2.1 z.2.1.2.2.1.1 z.2.1.2.2.1.2.1 z.2.1.2.2.1.2.2.1 z.2.1.2.2.1.2.2.2.1 z.2.1.2.2.1.2.2.2.2.1 z.2.1.2.2.1.2.2.2.2.2.1 z.2.1.2.2.2.1.1 z.2.1.2.2.2.1.2.1 z.2.1.2.2.2.1.2.2.1 z.2.1.2.2.2.1.2.2.2.1).bind (rV nx hx)
 unfold fy
 exact ae (ac fun _=>ac fun _=>ac fun _=>ac fun _=>ac fun _=>ac fun _=>ae (ae (ae (ae rfl rfl) rfl) (ae (ae (ae (ae rfl rfl) rfl) (ae (ae (ac fun _=>ac fun _=>ae (ae (ae rfl rfl) rfl) rfl) rfl) rfl)) (ae (ae (ac fun _=>ac fun _=>ae (ae (ae rfl rfl) rfl) rfl) rfl) rfl))) (ae (ae (ae (ae rfl rfl) rfl) (ae (ae (ac fun _=>ac fun _=>ae (ae (ae rfl rfl) rfl) rfl) rfl) rfl)) (ae (ae (ac fun _=>ac fun _=>ae (ae (ae rfl rfl) rfl) rfl) rfl) rfl))) rfl
def nD:jl.T->Option (wO gR):=Bt @wH
theorem vF x10 x11 b0_0 b0_1 b0_2 b0_3 b0_4 b0_5 b1_0 b1_1 b1_2 b1_3 b2_0 b2_1 b2_2 b2_3 b2_4 b2_5 b3_0 b3_1 b3_2 b3_3:nD (bt x10 x11 b0_0 b0_1 b0_2 b0_3 b0_4 b0_5 b1_0 b1_1 b1_2 b1_3 b2_0 b2_1 b2_2 b2_3 b2_4 b2_5 b3_0 b3_1 b3_2 b3_3)=fy nD (sj gR some) x10 x11 b0_0 b0_1 b0_2 b0_3 b0_4 b0_5 b1_0 b1_1 b1_2 b1_3 b2_0 b2_1 b2_2 b2_3 b2_4 b2_5 b3_0 b3_1 b3_2 b3_3:=jL Be _
def qD{R:Type}(kx:(List Ln)×Int->Option R)(a0:Pt)(a1:Ln)(a2:Pt)(a3:Ln):Option R:=
 Option.bind (cb a0) fun y990=>
 cond (!y990)
 (kx ([],(1:Int)))
 (Option.bind (cC a1) fun y991=>
  cond (!y991)
  (kx ([],(1:Int)))
  (Option.bind (cb a2) fun y992=>
   cond (!y992)
   (kx ([],(1:Int)))
   (Option.bind (cC a3) fun y993=>
    cond (!y993)
    (kx ([],(1:Int)))
    (Option.bind (nD (bt [] (0:Int) a0.1.1 a0.1.2.1 a0.1.2.2 a0.2.1 a0.2.2.1 a0.2.2.2 a1.1 a1.2.1 a1.2.2.1 a1.2.2.2 a2.1.1 a2.1.2.1 a2.1.2.2 a2.2.1 a2.2.2.1 a2.2.2.2 a3.1 a3.2.1 a3.2.2.1 a3.2.2.2)) (jP gR
     (fun e1046=>
      Option.bind (dY (e1046.1.1.1:List Ln)) fun y1048=>
      kx y1048,()))))))
def qj(a0:Pt)(a1:Ln)(a2:Pt)(a3:Ln):Option ((List Ln)×Int):=qD some a0 a1 a2 a3
theorem MV{R} kx a0 a1 a2 a3: @qD R kx a0 a1 a2 a3=(qj a0 a1 a2 a3).bind kx:=by
 unfold qj qD
 exact ac fun _=>ae rfl (ac fun _=>ae rfl (ac fun _=>ae rfl (ac fun _=>ae rfl (bh ⟨fun _=>ac fun _=>rfl,trivial⟩))))
def mG{R:Type}(kx:Pt->Option R)(a0:Ln)(a1:Pt):Option R:=
 Option.bind (cW (IntKind.wrap .i64 (a0.1+(4:Int)))) fun y747=>
 Option.bind (aV y747) fun y748=>
 Option.bind (cE (IntKind.wrap .i64 (a0.1+(4:Int))) a1) fun y756=>
 Option.bind (cM y756 a0.2) fun y757=>
 Option.bind (gM (IntKind.wrap .i64 (a0.1+(4:Int)))) fun y758=>
 Option.bind (fJ y757 y758) fun y759=>
 Option.bind (cL y759.1 y759.1) fun y760=>
 Option.bind (bT y760 y748.1) fun y761=>
 Option.bind (bT y760 y748.2) fun y762=>
 Option.bind (gl a1 (y761,y762)) fun y767=>
 kx y767
def fO(a0:Ln)(a1:Pt):Option (Pt):=mG some a0 a1
theorem KM{R} kx a0 a1: @mG R kx a0 a1=(fO a0 a1).bind kx:=by
 unfold fO mG
 exact ac fun _=>ac fun _=>ac fun _=>ac fun _=>ac fun _=>ac fun _=>ac fun _=>ac fun _=>ac fun _=>ac fun _=>rfl
def qL{R:Type}(kx:Int->Option R)(a0:Ln)(a1:Pt):Option R:=
 Option.bind (cE (IntKind.wrap .i64 (a0.1+(4:Int))) a1) fun y972=>
 Option.bind (cM y972 a0.2) fun y973=>
 Option.bind (dV y973) fun y974=>
 kx y974
def mN(a0:Ln)(a1:Pt):Option (Int):=qL some a0 a1
theorem M1{R} kx a0 a1: @qL R kx a0 a1=(mN a0 a1).bind kx:=by
 unfold mN qL
 exact ac fun _=>ac fun _=>ac fun _=>rfl
def mI{R:Type}(kx:Bool->Option R)(a0:Ln)(a1:Pt)(a2:Ln):Option R:=
 Option.bind (fO a0 a1) fun y969=>
 Option.bind (mN a2 y969) fun y975=>
 kx (y975==(0:Int))
def kc(a0:Ln)(a1:Pt)(a2:Ln):Option (Bool):=mI some a0 a1 a2
theorem KO{R} kx a0 a1 a2: @mI R kx a0 a1 a2=(kc a0 a1 a2).bind kx:=by
 unfold kc mI
 exact ac fun _=>ac fun _=>rfl
abbrev fT:LS:=⟨[(false,[(.ptr 3 0)]),(false,[(.ptr 4 0)]),(false,[(.ptr 5 0)]),(false,[(.own yL)]),(false,[(.int .i64)])],[(false,[(.int .i64),(.int .i64),(.int .i64),(.int .i64),(.int .i64),(.int .i64)]),(false,[(.int .i64),(.int .i64),(.int .i64),(.int .i64)]),(false,[(.int .i64),(.int .i64),(.int .i64),(.int .i64),(.int .i64),(.int .i64)])],[]⟩
abbrev oi:LS:=⟨[(false,[(.own yL)])],[],[]⟩
abbrev nY v0:=((((v0,()),()),(),()):oi.T)
abbrev eN:List (Ex×LS):=[(.exit 0,oi)]
abbrev fR x8(x9:Int)(b0_0:Int)(b0_1:Int)(b0_2:Int)(b0_3:Int)(b0_4:Int)(b0_5:Int)(b1_0:Int)(b1_1:Int)(b1_2:Int)(b1_3:Int)(b2_0:Int)(b2_1:Int)(b2_2:Int)(b2_3:Int)(b2_4:Int)(b2_5:Int):=(((((),()),((),()),((),()),(x8,()),(x9,()),()),((b0_0,b0_1,b0_2,b0_3,b0_4,b0_5,()),(b1_0,b1_1,b1_2,b1_3,()),(b2_0,b2_1,b2_2,b2_3,b2_4,b2_5,()),()),()):fT.T)
def dQ{R:Type}(nx:fT.T->Option R)(hx:mJ R eN)(x8:List Ln)(x9:Int)(b0_0:Int)(b0_1:Int)(b0_2:Int)(b0_3:Int)(b0_4:Int)(b0_5:Int)(b1_0:Int)(b1_1:Int)(b1_2:Int)(b1_3:Int)(b2_0:Int)(b2_1:Int)(b2_2:Int)(b2_3:Int)(b2_4:Int)(b2_5:Int):Option R:=
 cond (decide (x9<(8:Int)))
 (Option.bind (aV ((b2_0,(b2_1,b2_2)),(b2_3,(b2_4,b2_5)))) fun y962=>
  Option.bind (dn y962 x9) fun y963=>
  Option.bind (aV ((b0_0,(b0_1,b0_2)),(b0_3,(b0_4,b0_5)))) fun y964=>
  Option.bind (bF (b1_0,(b1_1,(b1_2,b1_3)))) fun y965=>
  Option.bind (kc y963 y964 y965) fun y976=>
  cond y976
  (cond (decide ((((List.length x8)+(List.length [y963]))*32)<=70368744177664))
   (cond (decide (((List.length x8)+(List.length [y963]))<=70368744177664))
    (nx (fR (x8++ [y963]) (IntKind.wrap .i64 (x9+(1:Int))) b0_0 b0_1 b0_2 b0_3 b0_4 b0_5 b1_0 b1_1 b1_2 b1_3 b2_0 b2_1 b2_2 b2_3 b2_4 b2_5))
    none)
   none)
  (nx (fR x8 (IntKind.wrap .i64 (x9+(1:Int))) b0_0 b0_1 b0_2 b0_3 b0_4 b0_5 b1_0 b1_1 b1_2 b1_3 b2_0 b2_1 b2_2 b2_3 b2_4 b2_5)))
 (hx.1 (nY x8))
def qC{R:Type}(nx:fT.T->Option R)(hx:mJ R eN)(z:fT.T):Option R:=dQ nx hx z.1.2.2.2.1.1 z.1.2.2.2.2.1.1 z.2.1.1.1 z.2.1.1.2.1 z.2.1.1.2.2.1 z.2.1.1.2.2.2.1 z.2.1.1.2.2.2.2.1 z.2.1.1.2.2.2.2.2.1 z.2.1.2.1.1 z.2.1.2.1.2.1 z.2.1.2.1.2.2.1 z.2.1.2.1.2.2.2.1 z.2.1.2.2.1.1 z.2.1.2.2.1.2.1 z.2.1.2.2.1.2.2.1 z.2.1.2.2.1.2.2.2.1 z.2.1.2.2.1.2.2.2.2.1 z.2.1.2.2.1.2.2.2.2.2.1
theorem vT:fe @qC:=fun R nx hx z=>by
 show dQ nx hx z.1.2.2.2.1.1 z.1.2.2.2.2.1.1 z.2.1.1.1 z.2.1.1.2.1 z.2.1.1.2.2.1 z.2.1.1.2.2.2.1 z.2.1.1.2.2.2.2.1 z.2.1.1.2.2.2.2.2.1 z.2.1.2.1.1 z.2.1.2.1.2.1 z.2.1.2.1.2.2.1 z.2.1.2.1.2.2.2.1 z.2.1.2.2.1.1 z.2.1.2.2.1.2.1 z.2.1.2.2.1.2.2.1 z.2.1.2.2.1.2.2.2.1 z.2.1.2.2.1.2.2.2.2.1 z.2.1.2.2.1.2.2.2.2.2.1=(dQ (fun y=>some (.inl y)) (sj eN fun x=>some (.inr x)) z.1.2.2.2.1.1 z.1.2.2.2.2.1.1 z.2.1.1.1 z.2.1.1.2.1 z.2.1.1.2.2.1 z.2.1.1.2.2.2.1 z.2.1.1.2.2.2.2.1 z.2.1.1.2.2.2.2.2.1 z.2.1.2.1.1 z.2.1.2.1.2.1 z.2.1.2.1.2.2.1 z.2.1.2.1.2.2.2.1 z.2.1.2.2.1.1 z.2.1.2.2.1.2.1 z.2.1.2.2.1.2.2.1 z.2.1.2.2.1.2.2.2.1 z.2.1.2.2.1.2.2.2.2.1 z.2.1.2.2.1.2.2.2.2.2.1).bind (rV nx hx)
 unfold dQ
 exact ae (ac fun _=>ac fun _=>ac fun _=>ac fun _=>ac fun _=>ae (ae (ae rfl rfl) rfl) rfl) rfl
def ji:fT.T->Option (wO eN):=Bt @qC
theorem pZ x8 x9 b0_0 b0_1 b0_2 b0_3 b0_4 b0_5 b1_0 b1_1 b1_2 b1_3 b2_0 b2_1 b2_2 b2_3 b2_4 b2_5:ji (fR x8 x9 b0_0 b0_1 b0_2 b0_3 b0_4 b0_5 b1_0 b1_1 b1_2 b1_3 b2_0 b2_1 b2_2 b2_3 b2_4 b2_5)=dQ ji (sj eN some) x8 x9 b0_0 b0_1 b0_2 b0_3 b0_4 b0_5 b1_0 b1_1 b1_2 b1_3 b2_0 b2_1 b2_2 b2_3 b2_4 b2_5:=jL vT _
def kn{R:Type}(kx:(List Ln)×Int->Option R)(a0:Pt)(a1:Ln)(a2:Pt):Option R:=
 Option.bind (cb a0) fun y941=>
 cond (!y941)
 (kx ([],(1:Int)))
 (Option.bind (cC a1) fun y942=>
  cond (!y942)
  (kx ([],(1:Int)))
  (Option.bind (cb a2) fun y943=>
   cond (!y943)
   (kx ([],(1:Int)))
   (Option.bind (ji (fR [] (0:Int) a0.1.1 a0.1.2.1 a0.1.2.2 a0.2.1 a0.2.2.1 a0.2.2.2 a1.1 a1.2.1 a1.2.2.1 a1.2.2.2 a2.1.1 a2.1.2.1 a2.1.2.2 a2.2.1 a2.2.2.1 a2.2.2.2)) (jP eN
    (fun e977=>
     Option.bind (dY (e977.1.1.1:List Ln)) fun y979=>
     kx y979,())))))
def kb(a0:Pt)(a1:Ln)(a2:Pt):Option ((List Ln)×Int):=kn some a0 a1 a2
theorem Je{R} kx a0 a1 a2: @kn R kx a0 a1 a2=(kb a0 a1 a2).bind kx:=by
 unfold kb kn
 exact ac fun _=>ae rfl (ac fun _=>ae rfl (ac fun _=>ae rfl (bh ⟨fun _=>ac fun _=>rfl,trivial⟩)))
def qI{R:Type}(kx:Pt->Option R)(a0:Ln):Option R:=
 Option.bind (cW (IntKind.wrap .i64 (a0.1+(4:Int)))) fun y732=>
 Option.bind (aV y732) fun y733=>
 Option.bind (gM (IntKind.wrap .i64 (a0.1+(4:Int)))) fun y740=>
 Option.bind (fJ a0.2 y740) fun y741=>
 Option.bind (bT y741.1 y733.1) fun y742=>
 Option.bind (bT y741.1 y733.2) fun y743=>
 kx (y742,y743)
def mM(a0:Ln):Option (Pt):=qI some a0
theorem MY{R} kx a0: @qI R kx a0=(mM a0).bind kx:=by
 unfold mM qI
 exact ac fun _=>ac fun _=>ac fun _=>ac fun _=>ac fun _=>ac fun _=>rfl
def pk{R:Type}(kx:Pt×Bool->Option R)(a0:Pt)(a1:Pt):Option R:=
 Option.bind (cb a0) fun y709=>
 cond (!y709)
 (kx ((((0:Int),((0:Int),(0:Int))),((0:Int),((0:Int),(0:Int)))),Bool.false))
 (Option.bind (cb a1) fun y710=>
  cond (!y710)
  (kx ((((0:Int),((0:Int),(0:Int))),((0:Int),((0:Int),(0:Int)))),Bool.false))
  (Option.bind (bo a0.1) fun y711=>
   Option.bind (bo a1.1) fun y712=>
   Option.bind (cL y711 y712) fun y713=>
   Option.bind (bo a0.2) fun y714=>
   Option.bind (bo a1.2) fun y715=>
   Option.bind (cL y714 y715) fun y716=>
   Option.bind (fK ((y713.1,(y713.2.1,(IntKind.wrap .i64 (y713.2.2+(1:Int))))),(y716.1,(y716.2.1,(IntKind.wrap .i64 (y716.2.2+(1:Int))))))) fun y717=>
   kx y717))
def oU(a0:Pt)(a1:Pt):Option (Pt×Bool):=pk some a0 a1
theorem Mb{R} kx a0 a1: @pk R kx a0 a1=(oU a0 a1).bind kx:=by
 unfold oU pk
 exact ac fun _=>ae rfl (ac fun _=>ae rfl (ac fun _=>ac fun _=>ac fun _=>ac fun _=>ac fun _=>ac fun _=>ac fun _=>rfl))
def pg{R:Type}(kx:Pt×Bool->Option R)(a0:Pt)(a1:Pt):Option R:=
 Option.bind (bz a0) fun y1373=>
 cond (!y1373)
 (kx ((((0:Int),((0:Int),(0:Int))),((0:Int),((0:Int),(0:Int)))),Bool.false))
 (Option.bind (bz a1) fun y1374=>
  cond (!y1374)
  (kx ((((0:Int),((0:Int),(0:Int))),((0:Int),((0:Int),(0:Int)))),Bool.false))
  (Option.bind (ks a0 a1) fun y1386=>
   Option.bind (dm y1386) fun y1387=>
   kx y1387))
def oS(a0:Pt)(a1:Pt):Option (Pt×Bool):=pg some a0 a1
theorem L9{R} kx a0 a1: @pg R kx a0 a1=(oS a0 a1).bind kx:=by
 unfold oS pg
 exact ac fun _=>ae rfl (ac fun _=>ae rfl (ac fun _=>ac fun _=>rfl))
def kJ{R:Type}(kx:Pt×Bool->Option R)(a0:Ln)(a1:Pt):Option R:=
 Option.bind (cC a0) fun y782=>
 cond (!y782)
 (kx ((((0:Int),((0:Int),(0:Int))),((0:Int),((0:Int),(0:Int)))),Bool.false))
 (Option.bind (cb a1) fun y783=>
  cond (!y783)
  (kx ((((0:Int),((0:Int),(0:Int))),((0:Int),((0:Int),(0:Int)))),Bool.false))
  (Option.bind (bF a0) fun y784=>
   Option.bind (aV a1) fun y785=>
   Option.bind (fO y784 y785) fun y786=>
   Option.bind (fK y786) fun y787=>
   kx y787))
def kH(a0:Ln)(a1:Pt):Option (Pt×Bool):=kJ some a0 a1
theorem JF{R} kx a0 a1: @kJ R kx a0 a1=(kH a0 a1).bind kx:=by
 unfold kH kJ
 exact ac fun _=>ae rfl (ac fun _=>ae rfl (ac fun _=>ac fun _=>ac fun _=>ac fun _=>rfl))
def lJ{R:Type}(kx:Ln×Bool->Option R)(a0:Ln)(a1:Ln):Option R:=
 Option.bind (cC a0) fun y727=>
 cond (!y727)
 (kx (((0:Int),((0:Int),((0:Int),(0:Int)))),Bool.false))
 (Option.bind (cC a1) fun y728=>
  cond (!y728)
  (kx (((0:Int),((0:Int),((0:Int),(0:Int)))),Bool.false))
  (Option.bind (bF a0) fun y729=>
   Option.bind (bF a1) fun y730=>
   Option.bind (mM y730) fun y744=>
   Option.bind (fO y729 y744) fun y768=>
   Option.bind (dn y768 (IntKind.wrap .i64 ((IntKind.wrap .i64 ((2:Int)*a0.1))-a1.1))) fun y773=>
   Option.bind (bI y773.2) fun y774=>
   cond (!y774.2)
   (kx (((0:Int),((0:Int),((0:Int),(0:Int)))),Bool.false))
   (kx ((y773.1,y774.1),Bool.true))))
def lr(a0:Ln)(a1:Ln):Option (Ln×Bool):=lJ some a0 a1
theorem Kj{R} kx a0 a1: @lJ R kx a0 a1=(lr a0 a1).bind kx:=by
 unfold lr lJ
 exact ac fun _=>ae rfl (ac fun _=>ae rfl (ac fun _=>ac fun _=>ac fun _=>ac fun _=>ac fun _=>ac fun _=>ae rfl rfl))
def lE{R:Type}(kx:Ln×Bool->Option R)(a0:Ln)(a1:Ln):Option R:=
 Option.bind (aX a0) fun y1399=>
 cond (!y1399)
 (kx (((0:Int),((0:Int),((0:Int),(0:Int)))),Bool.false))
 (Option.bind (aX a1) fun y1400=>
  cond (!y1400)
  (kx (((0:Int),((0:Int),((0:Int),(0:Int)))),Bool.false))
  (Option.bind (gH a1) fun y1415=>
   Option.bind (cu a0 y1415) fun y1426=>
   Option.bind (dF y1426 (IntKind.wrap .i64 (((BitVec.toNat ((BitVec.ofInt 64 (IntKind.wrap .i64 ((IntKind.wrap .i64 ((2:Int)*a0.1))-a1.1)))&&&(BitVec.ofInt 64 (7:Int)))):Nat):Int))) fun y1431=>
   Option.bind (dA y1431.2) fun y1432=>
   cond (!y1432)
   (kx (((0:Int),((0:Int),((0:Int),(0:Int)))),Bool.false))
   (kx (y1431,Bool.true))))
def lp(a0:Ln)(a1:Ln):Option (Ln×Bool):=lE some a0 a1
theorem Kh{R} kx a0 a1: @lE R kx a0 a1=(lp a0 a1).bind kx:=by
 unfold lp lE
 exact ac fun _=>ae rfl (ac fun _=>ae rfl (ac fun _=>ac fun _=>ac fun _=>ac fun _=>ae rfl rfl))
def nB{R:Type}(kx:Pt×Int->Option R)(a0:Ln)(a1:Ln):Option R:=
 Option.bind (cC a0) fun y556=>
 cond (!y556)
 (kx ((((0:Int),((0:Int),(0:Int))),((0:Int),((0:Int),(0:Int)))),(1:Int)))
 (Option.bind (cC a1) fun y557=>
  cond (!y557)
  (kx ((((0:Int),((0:Int),(0:Int))),((0:Int),((0:Int),(0:Int)))),(1:Int)))
  (cond (a0.1==a1.1)
   (kx ((((0:Int),((0:Int),(0:Int))),((0:Int),((0:Int),(0:Int)))),(7:Int)))
   (Option.bind (bF a0) fun y561=>
    Option.bind (bF a1) fun y562=>
    Option.bind (jw y561 y562) fun y695=>
    Option.bind (fK y695) fun y702=>
    cond (!y702.2)
    (kx ((((0:Int),((0:Int),(0:Int))),((0:Int),((0:Int),(0:Int)))),(2:Int)))
    (kx (y702.1,(0:Int))))))
def nk(a0:Ln)(a1:Ln):Option (Pt×Int):=nB some a0 a1
theorem Lt{R} kx a0 a1: @nB R kx a0 a1=(nk a0 a1).bind kx:=by
 unfold nk nB
 exact ac fun _=>ae rfl (ac fun _=>ae rfl (ae rfl (ac fun _=>ac fun _=>ac fun _=>ac fun _=>ae rfl rfl)))
def nz{R:Type}(kx:Pt×Int->Option R)(a0:Ln)(a1:Ln):Option R:=
 Option.bind (aX a0) fun y1275=>
 cond (!y1275)
 (kx ((((0:Int),((0:Int),(0:Int))),((0:Int),((0:Int),(0:Int)))),(1:Int)))
 (Option.bind (aX a1) fun y1276=>
  cond (!y1276)
  (kx ((((0:Int),((0:Int),(0:Int))),((0:Int),((0:Int),(0:Int)))),(1:Int)))
  (cond (a0.1==a1.1)
   (kx ((((0:Int),((0:Int),(0:Int))),((0:Int),((0:Int),(0:Int)))),(7:Int)))
   (Option.bind (gI a0 a1) fun y1359=>
    cond (!y1359.2)
    (kx ((((0:Int),((0:Int),(0:Int))),((0:Int),((0:Int),(0:Int)))),(2:Int)))
    (Option.bind (dm y1359.1) fun y1366=>
     cond (!y1366.2)
     (kx ((((0:Int),((0:Int),(0:Int))),((0:Int),((0:Int),(0:Int)))),(2:Int)))
     (kx (y1366.1,(0:Int)))))))
def nh(a0:Ln)(a1:Ln):Option (Pt×Int):=nz some a0 a1
theorem Lr{R} kx a0 a1: @nz R kx a0 a1=(nh a0 a1).bind kx:=by
 unfold nh nz
 exact ac fun _=>ae rfl (ac fun _=>ae rfl (ae rfl (ac fun _=>ae rfl (ac fun _=>ae rfl rfl))))
end
end Go.Proofs.YtjkljnflaifbhaaDoor
