/- No conditions. -/
import Derived.Test.YtjkljnflaifbhaaGreatDoorZ2b
namespace Go.Proofs.YtjkljnflaifbhaaGreatDoor
open Go.Vai
set_option maxRecDepth 100000
noncomputable section
def nn:List (FuncId×af):=[(64,ub)]
abbrev eK:LS:=⟨[(false,[(.sl yI)]),(false,[(.ptr 3 0)]),(false,[(.own yI)]),(false,[(.sl .str)]),(false,[(.int .i64)]),(false,[(.int .i64)])],[(false,[.str,(.int .i64),(.sl .str),(.int .i64),(.int .i64),(.int .i64),(.int .i64),(.int .i64),(.int .i64),(.int .i64),(.int .i64),(.int .i64),(.int .i64),(.int .i64)])],[]⟩
abbrev zy:LS:=⟨[(false,[(.ptr 3 0)]),(false,[(.own yI)]),(false,[(.int .i64)]),(false,[(.own yI)])],[(false,[.str,(.int .i64),(.sl .str),(.int .i64),(.int .i64),(.int .i64),(.int .i64),(.int .i64),(.int .i64),(.int .i64),(.int .i64),(.int .i64),(.int .i64),(.int .i64)])],[]⟩
abbrev zo v0(v1:Int) v2(v3:ByteArray)(v4:Int)(v5:List ByteArray)(v6:Int)(v7:Int)(v8:Int)(v9:Int)(v10:Int)(v11:Int)(v12:Int)(v13:Int)(v14:Int)(v15:Int)(v16:Int):=(((((),()),(v0,()),(v1,()),(v2,()),()),((v3,v4,v5,v6,v7,v8,v9,v10,v11,v12,v13,v14,v15,v16,()),()),()):zy.T)
abbrev zA:LS:=⟨[(false,[(.ptr 3 0)]),(false,[.undef]),(false,[.undef]),(false,[(.own yI)])],[(false,[.str,(.int .i64),(.sl .str),(.int .i64),(.int .i64),(.int .i64),(.int .i64),(.int .i64),(.int .i64),(.int .i64),(.int .i64),(.int .i64),(.int .i64),(.int .i64)])],[]⟩
abbrev zp v0(v1:ByteArray)(v2:Int)(v3:List ByteArray)(v4:Int)(v5:Int)(v6:Int)(v7:Int)(v8:Int)(v9:Int)(v10:Int)(v11:Int)(v12:Int)(v13:Int)(v14:Int):=(((((),()),((),()),((),()),(v0,()),()),((v1,v2,v3,v4,v5,v6,v7,v8,v9,v10,v11,v12,v13,v14,()),()),()):zA.T)
abbrev fJ:List (Ex×LS):=[(.ret,zy),(.exit 0,zA)]
abbrev ji x0 x6(x14:List ByteArray)(x15:Int)(x16:Int)(b0_0:ByteArray)(b0_1:Int)(b0_2:List ByteArray)(b0_3:Int)(b0_4:Int)(b0_5:Int)(b0_6:Int)(b0_7:Int)(b0_8:Int)(b0_9:Int)(b0_10:Int)(b0_11:Int)(b0_12:Int)(b0_13:Int):=((((x0,()),((),()),(x6,()),(x14,()),(x15,()),(x16,()),()),((b0_0,b0_1,b0_2,b0_3,b0_4,b0_5,b0_6,b0_7,b0_8,b0_9,b0_10,b0_11,b0_12,b0_13,()),()),()):eK.T)
def jl{R:Type}(nx:eK.T->Option R)(hx:lF R fJ)(x0:List It)(x6:List It)(x14:List ByteArray)(x15:Int)(x16:Int)(b0_0:ByteArray)(b0_1:Int)(b0_2:List ByteArray)(b0_3:Int)(b0_4:Int)(b0_5:Int)(b0_6:Int)(b0_7:Int)(b0_8:Int)(b0_9:Int)(b0_10:Int)(b0_11:Int)(b0_12:Int)(b0_13:Int):Option R:=
 cond (decide (x16<x15))
 (Option.bind (fY x14 x16) fun y1200=>
  Option.bind (jy x0 y1200) fun y1201=>
  cond (decide (y1201<(0:Int)))
  (hx.1 (zo [] (3:Int) x6 b0_0 b0_1 b0_2 b0_3 b0_4 b0_5 b0_6 b0_7 b0_8 b0_9 b0_10 b0_11 b0_12 b0_13))
  (Option.bind (fY x0 y1201) fun y1202=>
   cond (decide ((((List.length x6)+(List.length [y1202]))*104)<=70368744177664))
   (cond (decide (((List.length x6)+(List.length [y1202]))<=70368744177664))
    (nx (ji x0 (x6++ [y1202]) x14 x15 (IntKind.wrap .i64 (x16+(1:Int))) b0_0 b0_1 b0_2 b0_3 b0_4 b0_5 b0_6 b0_7 b0_8 b0_9 b0_10 b0_11 b0_12 b0_13))
    none)
   none))
 (hx.2.1 (zp x6 b0_0 b0_1 b0_2 b0_3 b0_4 b0_5 b0_6 b0_7 b0_8 b0_9 b0_10 b0_11 b0_12 b0_13))
def wt{R:Type}(nx:eK.T->Option R)(hx:lF R fJ)(z:eK.T):Option R:=jl nx hx z.1.1.1 z.1.2.2.1.1 z.1.2.2.2.1.1 z.1.2.2.2.2.1.1 z.1.2.2.2.2.2.1.1 z.2.1.1.1 z.2.1.1.2.1 z.2.1.1.2.2.1 z.2.1.1.2.2.2.1 z.2.1.1.2.2.2.2.1 z.2.1.1.2.2.2.2.2.1 z.2.1.1.2.2.2.2.2.2.1 z.2.1.1.2.2.2.2.2.2.2.1 z.2.1.1.2.2.2.2.2.2.2.2.1 z.2.1.1.2.2.2.2.2.2.2.2.2.1 z.2.1.1.2.2.2.2.2.2.2.2.2.2.1 z.2.1.1.2.2.2.2.2.2.2.2.2.2.2.1 z.2.1.1.2.2.2.2.2.2.2.2.2.2.2.2.1 z.2.1.1.2.2.2.2.2.2.2.2.2.2.2.2.2.1
theorem zT:cY @wt:=fun R nx hx z=>by
 show jl nx hx z.1.1.1 z.1.2.2.1.1 z.1.2.2.2.1.1 z.1.2.2.2.2.1.1 z.1.2.2.2.2.2.1.1 z.2.1.1.1 z.2.1.1.2.1 z.2.1.1.2.2.1 z.2.1.1.2.2.2.1 z.2.1.1.2.2.2.2.1 z.2.1.1.2.2.2.2.2.1 z.2.1.1.2.2.2.2.2.2.1 z.2.1.1.2.2.2.2.2.2.2.1 z.2.1.1.2.2.2.2.2.2.2.2.1 z.2.1.1.2.2.2.2.2.2.2.2.2.1 z.2.1.1.2.2.2.2.2.2.2.2.2.2.1 z.2.1.1.2.2.2.2.2.2.2.2.2.2.2.1 z.2.1.1.2.2.2.2.2.2.2.2.2.2.2.2.1 z.2.1.1.2.2.2.2.2.2.2.2.2.2.2.2.2.1=(jl (fun y=>some (.inl y)) (oM fJ fun x=>some (.inr x)) z.1.1.1 z.1.2.2.1.1 z.1.2.2.2.1.1 z.1.2.2.2.2.1.1 z.1.2.2.2.2.2.1.1 z.2.1.1.1 z.2.1.1.2.1 z.2.1.1.2.2.1 z.2.1.1.2.2.2.1 z.2.1.1.2.2.2.2.1 z.2.1.1.2.2.2.2.2.1 z.2.1.1.2.2.2.2.2.2.1 z.2.1.1.2.2.2.2.2.2.2.1 z.2.1.1.2.2.2.2.2.2.2.2.1 z.2.1.1.2.2.2.2.2.2.2.2.2.1 z.2.1.1.2.2.2.2.2.2.2.2.2.2.1 z.2.1.1.2.2.2.2.2.2.2.2.2.2.2.1 z.2.1.1.2.2.2.2.2.2.2.2.2.2.2.2.1 z.2.1.1.2.2.2.2.2.2.2.2.2.2.2.2.2.1).bind (oH nx hx)
 unfold jl
 exact ae (ac fun _=>ac fun _=>ae rfl (ac fun _=>ae (ae rfl rfl) rfl)) rfl
def fH:eK.T->Option (xb fJ):=BJ @wt
theorem Bh x0 x6 x14 x15 x16 b0_0 b0_1 b0_2 b0_3 b0_4 b0_5 b0_6 b0_7 b0_8 b0_9 b0_10 b0_11 b0_12 b0_13:fH (ji x0 x6 x14 x15 x16 b0_0 b0_1 b0_2 b0_3 b0_4 b0_5 b0_6 b0_7 b0_8 b0_9 b0_10 b0_11 b0_12 b0_13)=jl fH (oM fJ some) x0 x6 x14 x15 x16 b0_0 b0_1 b0_2 b0_3 b0_4 b0_5 b0_6 b0_7 b0_8 b0_9 b0_10 b0_11 b0_12 b0_13:=eU zT _
def pS:bQ:=⟨[0,3,6,14,15,16],[3],[3,4,5,6],[3]⟩
abbrev dL:LS:=⟨[(false,[(.ptr 3 0)]),(false,[(.own yI)]),(false,[(.view (.slot 6 0 0) true 0 yI)]),(false,[(.int .i64)]),(false,[(.int .i64)])],[(false,[.str,(.int .i64),(.sl .str),(.int .i64),(.int .i64),(.int .i64),(.int .i64),(.int .i64),(.int .i64),(.int .i64),(.int .i64),(.int .i64),(.int .i64),(.int .i64)])],[]⟩
abbrev xW:LS:=⟨[(false,[(.own yI)]),(false,[(.int .i64)]),(false,[(.own yI)])],[],[]⟩
abbrev kO v0(v1:Int) v2:=((((v0,()),(v1,()),(v2,()),()),(),()):xW.T)
abbrev xX:LS:=⟨[(false,[.undef]),(false,[.undef]),(false,[(.own yI)])],[],[]⟩
abbrev sj v0:=(((((),()),((),()),(v0,()),()),(),()):xX.T)
abbrev fa:List (Ex×LS):=[(.ret,xW),(.exit 2,xX)]
abbrev gi x6 x33(x34:Int)(x35:Int)(b0_0:ByteArray)(b0_1:Int)(b0_2:List ByteArray)(b0_3:Int)(b0_4:Int)(b0_5:Int)(b0_6:Int)(b0_7:Int)(b0_8:Int)(b0_9:Int)(b0_10:Int)(b0_11:Int)(b0_12:Int)(b0_13:Int):=(((((),()),(x6,()),(x33,()),(x34,()),(x35,()),()),((b0_0,b0_1,b0_2,b0_3,b0_4,b0_5,b0_6,b0_7,b0_8,b0_9,b0_10,b0_11,b0_12,b0_13,()),()),()):dL.T)
def iD{R:Type}(nx:dL.T->Option R)(hx:lF R fa)(x6:List It)(x33:List It)(x34:Int)(x35:Int)(b0_0:ByteArray)(b0_1:Int)(b0_2:List ByteArray)(b0_3:Int)(b0_4:Int)(b0_5:Int)(b0_6:Int)(b0_7:Int)(b0_8:Int)(b0_9:Int)(b0_10:Int)(b0_11:Int)(b0_12:Int)(b0_13:Int):Option R:=
 cond (decide (x35<x34))
 (Option.bind (fY x33 x35) fun y1255=>
  Option.bind (fY [((ByteArray.mk (Array.mk [])),((ByteArray.mk (Array.mk [])),Bool.false)),((ByteArray.mk (Array.mk [112,111,105,110,116])),((ByteArray.mk (Array.mk [])),Bool.false)),((ByteArray.mk (Array.mk [108,105,110,101])),((ByteArray.mk (Array.mk [])),Bool.false)),((ByteArray.mk (Array.mk [109,101,101,116])),((ByteArray.mk (Array.mk [108,108])),Bool.false)),((ByteArray.mk (Array.mk [109,105,100,100,108,101])),((ByteArray.mk (Array.mk [112,112])),Bool.false)),((ByteArray.mk (Array.mk [109,105,114,114,111,114])),((ByteArray.mk (Array.mk [108,120])),Bool.false)),((ByteArray.mk (Array.mk [116,104,114,111,117,103,104])),((ByteArray.mk (Array.mk [112,112])),Bool.false)),((ByteArray.mk (Array.mk [111,110,116,111])),((ByteArray.mk (Array.mk [112,112])),Bool.false)),((ByteArray.mk (Array.mk [98,105,115,101,99,116])),((ByteArray.mk (Array.mk [108,108])),Bool.true)),((ByteArray.mk (Array.mk [115,113,117,97,114,101])),((ByteArray.mk (Array.mk [108,112])),Bool.false)),((ByteArray.mk (Array.mk [102,111,108,100])),((ByteArray.mk (Array.mk [112,108,112])),Bool.true)),((ByteArray.mk (Array.mk [116,119,111])),((ByteArray.mk (Array.mk [112,108,112,108])),Bool.true)),((ByteArray.mk (Array.mk [97,99,114,111,115,115])),((ByteArray.mk (Array.mk [112,108,108])),Bool.false))] b0_1) fun y1256=>
  Option.bind (Am y1256.2.1 x35) fun y1257=>
  cond ((((UInt8.toNat y1257):Nat):Int)==(108:Int))
  (cond (!y1255.2.1)
   (hx.1 (kO [] (6:Int) x6))
   (cond ((((UInt8.toNat y1257):Nat):Int)==(112:Int))
    (cond y1255.2.1
     (hx.1 (kO [] (6:Int) x6))
     (nx (gi x6 x33 x34 (IntKind.wrap .i64 (x35+(1:Int))) b0_0 b0_1 b0_2 b0_3 b0_4 b0_5 b0_6 b0_7 b0_8 b0_9 b0_10 b0_11 b0_12 b0_13)))
    (nx (gi x6 x33 x34 (IntKind.wrap .i64 (x35+(1:Int))) b0_0 b0_1 b0_2 b0_3 b0_4 b0_5 b0_6 b0_7 b0_8 b0_9 b0_10 b0_11 b0_12 b0_13))))
  (cond ((((UInt8.toNat y1257):Nat):Int)==(112:Int))
   (cond y1255.2.1
    (hx.1 (kO [] (6:Int) x6))
    (nx (gi x6 x33 x34 (IntKind.wrap .i64 (x35+(1:Int))) b0_0 b0_1 b0_2 b0_3 b0_4 b0_5 b0_6 b0_7 b0_8 b0_9 b0_10 b0_11 b0_12 b0_13)))
   (nx (gi x6 x33 x34 (IntKind.wrap .i64 (x35+(1:Int))) b0_0 b0_1 b0_2 b0_3 b0_4 b0_5 b0_6 b0_7 b0_8 b0_9 b0_10 b0_11 b0_12 b0_13))))
 (hx.2.1 (sj x6))
def uH{R:Type}(nx:dL.T->Option R)(hx:lF R fa)(z:dL.T):Option R:=iD nx hx z.1.2.1.1 z.1.2.2.1.1 z.1.2.2.2.1.1 z.1.2.2.2.2.1.1 z.2.1.1.1 z.2.1.1.2.1 z.2.1.1.2.2.1 z.2.1.1.2.2.2.1 z.2.1.1.2.2.2.2.1 z.2.1.1.2.2.2.2.2.1 z.2.1.1.2.2.2.2.2.2.1 z.2.1.1.2.2.2.2.2.2.2.1 z.2.1.1.2.2.2.2.2.2.2.2.1 z.2.1.1.2.2.2.2.2.2.2.2.2.1 z.2.1.1.2.2.2.2.2.2.2.2.2.2.1 z.2.1.1.2.2.2.2.2.2.2.2.2.2.2.1 z.2.1.1.2.2.2.2.2.2.2.2.2.2.2.2.1 z.2.1.1.2.2.2.2.2.2.2.2.2.2.2.2.2.1
theorem yf:cY @uH:=fun R nx hx z=>by
 show iD nx hx z.1.2.1.1 z.1.2.2.1.1 z.1.2.2.2.1.1 z.1.2.2.2.2.1.1 z.2.1.1.1 z.2.1.1.2.1 z.2.1.1.2.2.1 z.2.1.1.2.2.2.1 z.2.1.1.2.2.2.2.1 z.2.1.1.2.2.2.2.2.1 z.2.1.1.2.2.2.2.2.2.1 z.2.1.1.2.2.2.2.2.2.2.1 z.2.1.1.2.2.2.2.2.2.2.2.1 z.2.1.1.2.2.2.2.2.2.2.2.2.1 z.2.1.1.2.2.2.2.2.2.2.2.2.2.1 z.2.1.1.2.2.2.2.2.2.2.2.2.2.2.1 z.2.1.1.2.2.2.2.2.2.2.2.2.2.2.2.1 z.2.1.1.2.2.2.2.2.2.2.2.2.2.2.2.2.1=(iD (fun y=>some (.inl y)) (oM fa fun x=>some (.inr x)) z.1.2.1.1 z.1.2.2.1.1 z.1.2.2.2.1.1 z.1.2.2.2.2.1.1 z.2.1.1.1 z.2.1.1.2.1 z.2.1.1.2.2.1 z.2.1.1.2.2.2.1 z.2.1.1.2.2.2.2.1 z.2.1.1.2.2.2.2.2.1 z.2.1.1.2.2.2.2.2.2.1 z.2.1.1.2.2.2.2.2.2.2.1 z.2.1.1.2.2.2.2.2.2.2.2.1 z.2.1.1.2.2.2.2.2.2.2.2.2.1 z.2.1.1.2.2.2.2.2.2.2.2.2.2.1 z.2.1.1.2.2.2.2.2.2.2.2.2.2.2.1 z.2.1.1.2.2.2.2.2.2.2.2.2.2.2.2.1 z.2.1.1.2.2.2.2.2.2.2.2.2.2.2.2.2.1).bind (oH nx hx)
 unfold iD
 exact ae (ac fun _=>ac fun _=>ac fun _=>ae (ae rfl (ae (ae rfl rfl) rfl)) (ae (ae rfl rfl) rfl)) rfl
def iF:dL.T->Option (xb fa):=BJ @uH
theorem Ag x6 x33 x34 x35 b0_0 b0_1 b0_2 b0_3 b0_4 b0_5 b0_6 b0_7 b0_8 b0_9 b0_10 b0_11 b0_12 b0_13:iF (gi x6 x33 x34 x35 b0_0 b0_1 b0_2 b0_3 b0_4 b0_5 b0_6 b0_7 b0_8 b0_9 b0_10 b0_11 b0_12 b0_13)=iD iF (oM fa some) x6 x33 x34 x35 b0_0 b0_1 b0_2 b0_3 b0_4 b0_5 b0_6 b0_7 b0_8 b0_9 b0_10 b0_11 b0_12 b0_13:=eU yf _
def pk:bQ:=⟨[3,6,33,34,35],[3],[4,5,6],[]⟩
def nw:fQ Rv:=⟨fun k=>match k with|4=>pS|12=>pk|_=>⟨[],[],[],[]⟩,fun k=>match k with|4=>some (cu eK fJ fH)|12=>some (cu dL fa iF)|_=>none⟩
theorem JE(n:Nat)(z:eK.T)(k:Ex->hZ->Option Rv):bL ⟨64,64⟩ pS (nG (ii C0 nn) ⟨64,64⟩ nw 1 (aL Tryz.f65 3)) (n+1) (eK.enc z) k=
 wt (fun y=>bL ⟨64,64⟩ pS (nG (ii C0 nn) ⟨64,64⟩ nw 1 (aL Tryz.f65 3)) n (eK.enc y) k) (hK k fJ) z:=by kernel_rfl
theorem IK(n:Nat)(z:dL.T)(k:Ex->hZ->Option Rv):bL ⟨64,64⟩ pk (nG (ii C0 nn) ⟨64,64⟩ nw 1 (aL Tryz.f65 11)) (n+1) (dL.enc z) k=
 uH (fun y=>bL ⟨64,64⟩ pk (nG (ii C0 nn) ⟨64,64⟩ nw 1 (aL Tryz.f65 11)) n (dL.enc y) k) (hK k fa) z:=by kernel_rfl
theorem LK:aw (ii C0 nn) ⟨64,64⟩ nw 1 (cp (bh Tryz.f65)):=by
 have hl:cp (bh Tryz.f65)=[aL Tryz.f65 3,aL Tryz.f65 11]:=by kernel_rfl
 rw[hl]
 exact aw.cons (n:=4) (lh:=pS) (S:=cu eK fJ fH) (by kernel_rfl) rfl rfl (cy zT JE)
  (aw.cons (n:=12) (lh:=pk) (S:=cu dL fa iF) (by kernel_rfl) rfl rfl (cy yf IK)
  (aw.nil))
def qv{R:Type}(kx:(List It)×Int->Option R)(a0:(List It))(a1:Cn):Option R:=
 Option.bind (fH (ji a0 [] a1.2.2.1 (((List.length a1.2.2.1):Nat):Int) (0:Int) a1.1 a1.2.1 a1.2.2.1 a1.2.2.2.1 a1.2.2.2.2.1.1.1 a1.2.2.2.2.1.1.2.1 a1.2.2.2.2.1.1.2.2 a1.2.2.2.2.1.2.1 a1.2.2.2.2.1.2.2.1 a1.2.2.2.2.1.2.2.2 a1.2.2.2.2.2.1 a1.2.2.2.2.2.2.1 a1.2.2.2.2.2.2.2.1 a1.2.2.2.2.2.2.2.2)) (pD fJ
 (fun e1203=>
  kx ((e1203.1.2.1.1:List It),(e1203.1.2.2.1.1:Int)),fun e1221=>
  Option.bind (iF (gi (e1221.1.2.2.2.1.1:List It) (e1221.1.2.2.2.1.1:List It) (((List.length (e1221.1.2.2.2.1.1:List It)):Nat):Int) (0:Int) (e1221.2.1.1.1:ByteArray) (e1221.2.1.1.2.1:Int) (e1221.2.1.1.2.2.1:List ByteArray) (e1221.2.1.1.2.2.2.1:Int) (e1221.2.1.1.2.2.2.2.1:Int) (e1221.2.1.1.2.2.2.2.2.1:Int) (e1221.2.1.1.2.2.2.2.2.2.1:Int) (e1221.2.1.1.2.2.2.2.2.2.2.1:Int) (e1221.2.1.1.2.2.2.2.2.2.2.2.1:Int) (e1221.2.1.1.2.2.2.2.2.2.2.2.2.1:Int) (e1221.2.1.1.2.2.2.2.2.2.2.2.2.2.1:Int) (e1221.2.1.1.2.2.2.2.2.2.2.2.2.2.2.1:Int) (e1221.2.1.1.2.2.2.2.2.2.2.2.2.2.2.2.1:Int) (e1221.2.1.1.2.2.2.2.2.2.2.2.2.2.2.2.2.1:Int))) (pD fa
  (fun e1258=>
   kx ((e1258.1.1.1:List It),(e1258.1.2.1.1:Int)),fun e1262=>
   kx ((e1262.1.2.2.1.1:List It),(0:Int)),())),()))
def nq(a0:(List It))(a1:Cn):Option ((List It)×Int):=qv some a0 a1
theorem KH{R} kx a0 a1: @qv R kx a0 a1=(nq a0 a1).bind kx:=by
 unfold nq qv
 exact cE ⟨fun _=>rfl,fun _=>cE ⟨fun _=>rfl,fun _=>rfl,trivial⟩,trivial⟩
abbrev Fg:af:=.fx [.val false (.slice yI), .val true yC] ((List It)×Int) (fun z=>nq z.1 z.2.1) (fun b=>(.tup [⟨false,[(.own yI b.1)]⟩,⟨false,[(.v (.int .i64 b.2))]⟩],[]))
theorem MK:ag C0 65 Fg:=
 ag.fx (e:=false) (t:=nn) (.cons xz (.nil)) mixed Tryz.func65 (by kernel_rfl) (by kernel_rfl) nw 1 LK (fun z=>(by kernel_rfl:_=qv (fun b=>some (Fg.enc b)) z.1 z.2.1).trans (KH _ z.1 z.2.1))
def qy{R:Type}(kx:It×Int->Option R)(a0:ByteArray)(a1:Pt)(a2:Int):Option R:=
 cond (a2 !=(0:Int))
 (kx (((ByteArray.mk (Array.mk [])),(Bool.false,((((0:Int),((0:Int),(0:Int))),((0:Int),((0:Int),(0:Int)))),((0:Int),((0:Int),((0:Int),(0:Int))))))),a2))
 (kx ((a0,(Bool.false,(a1,((0:Int),((0:Int),((0:Int),(0:Int))))))),(0:Int)))
def dA(a0:ByteArray)(a1:Pt)(a2:Int):Option (It×Int):=qy some a0 a1 a2
theorem KL{R} kx a0 a1 a2: @qy R kx a0 a1 a2=(dA a0 a1 a2).bind kx:=by
 unfold dA qy
 exact ae rfl rfl
abbrev Fj:af:=.fx [.val false .str, .val true yP, .val false (.int .i64)] (It×Int) (fun z=>dA z.1 z.2.1 z.2.2.1) (fun b=>(.tup [⟨true,[(.v (.string b.1.1)),(.v (.bool b.1.2.1)),(.v (.int .i64 b.1.2.2.1.1.1)),(.v (.int .i64 b.1.2.2.1.1.2.1)),(.v (.int .i64 b.1.2.2.1.1.2.2)),(.v (.int .i64 b.1.2.2.1.2.1)),(.v (.int .i64 b.1.2.2.1.2.2.1)),(.v (.int .i64 b.1.2.2.1.2.2.2)),(.v (.int .i64 b.1.2.2.2.1)),(.v (.int .i64 b.1.2.2.2.2.1)),(.v (.int .i64 b.1.2.2.2.2.2.1)),(.v (.int .i64 b.1.2.2.2.2.2.2))]⟩,⟨false,[(.v (.int .i64 b.2))]⟩],[]))
theorem Ei:ag C0 129 Fj:=
 ag.fx (e:=false) (.nil) mixed Tryz.func129 (by kernel_rfl) (by kernel_rfl) aj 1 ai (fun z=>(by kernel_rfl:_=qy (fun b=>some (Fj.enc b)) z.1 z.2.1 z.2.2.1).trans (KL _ z.1 z.2.1 z.2.2.1))
def tq{R:Type}(kx:Nm->Option R)(a0:Nm):Option R:=
 kx ((IntKind.wrap .i64 ((0:Int)-a0.1)),((IntKind.wrap .i64 ((0:Int)-a0.2.1)),a0.2.2))
def cj(a0:Nm):Option (Nm):=tq some a0
theorem NK{R} kx a0: @tq R kx a0=(cj a0).bind kx:=by
 unfold cj tq
 exact rfl
abbrev HJ:af:=.fx [.val true yN] (Nm) (fun z=>cj z.1) (fun b=>(.one ⟨true,[(.v (.int .i64 b.1)),(.v (.int .i64 b.2.1)),(.v (.int .i64 b.2.2))]⟩,[]))
theorem GS:ag C0 219 HJ:=
 ag.fx (e:=false) (.nil) mixed Tryz.func219 (by kernel_rfl) (by kernel_rfl) aj 1 ai (fun z=>(by kernel_rfl:_=tq (fun b=>some (HJ.enc b)) z.1).trans (NK _ z.1))
def zl{R:Type}(kx:Pt->Option R)(a0:Int):Option R:=
 cond (decide (a0>=(8:Int)))
 (cond (decide ((IntKind.wrap .i64 (a0-(8:Int)))=((0:Nat):Int)))
  (Option.bind (cj ((1:Int),((0:Int),(0:Int)))) fun y1282=>
   Option.bind (cj ((0:Int),((0:Int),(0:Int)))) fun y1283=>
   kx (y1282,y1283))
  (cond (decide ((IntKind.wrap .i64 (a0-(8:Int)))=(((0+1):Nat):Int)))
   (Option.bind (cj ((1:Int),((0:Int),(0:Int)))) fun y1284=>
    Option.bind (cj ((-(1:Int)),((1:Int),(0:Int)))) fun y1285=>
    kx (y1284,y1285))
   (cond (decide ((IntKind.wrap .i64 (a0-(8:Int)))=((((0+1)+1):Nat):Int)))
    (Option.bind (cj ((1:Int),((0:Int),(0:Int)))) fun y1286=>
     Option.bind (cj ((1:Int),((0:Int),(0:Int)))) fun y1287=>
     kx (y1286,y1287))
    (cond (decide ((IntKind.wrap .i64 (a0-(8:Int)))=(((((0+1)+1)+1):Nat):Int)))
     (Option.bind (cj ((-(1:Int)),((1:Int),(0:Int)))) fun y1288=>
      Option.bind (cj ((1:Int),((0:Int),(0:Int)))) fun y1289=>
      kx (y1288,y1289))
     (cond (decide ((IntKind.wrap .i64 (a0-(8:Int)))=((((((0+1)+1)+1)+1):Nat):Int)))
      (Option.bind (cj ((0:Int),((0:Int),(0:Int)))) fun y1290=>
       Option.bind (cj ((1:Int),((0:Int),(0:Int)))) fun y1291=>
       kx (y1290,y1291))
      (cond (decide ((IntKind.wrap .i64 (a0-(8:Int)))=(((((((0+1)+1)+1)+1)+1):Nat):Int)))
       (Option.bind (cj ((1:Int),((-(1:Int)),(0:Int)))) fun y1292=>
        Option.bind (cj ((1:Int),((0:Int),(0:Int)))) fun y1293=>
        kx (y1292,y1293))
       (cond (decide ((IntKind.wrap .i64 (a0-(8:Int)))=((((((((0+1)+1)+1)+1)+1)+1):Nat):Int)))
        (Option.bind (cj ((-(1:Int)),((0:Int),(0:Int)))) fun y1294=>
         Option.bind (cj ((1:Int),((0:Int),(0:Int)))) fun y1295=>
         kx (y1294,y1295))
        (cond (decide ((IntKind.wrap .i64 (a0-(8:Int)))=(((((((((0+1)+1)+1)+1)+1)+1)+1):Nat):Int)))
         (Option.bind (cj ((-(1:Int)),((0:Int),(0:Int)))) fun y1296=>
          Option.bind (cj ((-(1:Int)),((1:Int),(0:Int)))) fun y1297=>
          kx (y1296,y1297))
         none))))))))
 (cond (decide (a0=((0:Nat):Int)))
  (kx (((1:Int),((0:Int),(0:Int))),((0:Int),((0:Int),(0:Int)))))
  (cond (decide (a0=(((0+1):Nat):Int)))
   (kx (((1:Int),((0:Int),(0:Int))),((-(1:Int)),((1:Int),(0:Int)))))
   (cond (decide (a0=((((0+1)+1):Nat):Int)))
    (kx (((1:Int),((0:Int),(0:Int))),((1:Int),((0:Int),(0:Int)))))
    (cond (decide (a0=(((((0+1)+1)+1):Nat):Int)))
     (kx (((-(1:Int)),((1:Int),(0:Int))),((1:Int),((0:Int),(0:Int)))))
     (cond (decide (a0=((((((0+1)+1)+1)+1):Nat):Int)))
      (kx (((0:Int),((0:Int),(0:Int))),((1:Int),((0:Int),(0:Int)))))
      (cond (decide (a0=(((((((0+1)+1)+1)+1)+1):Nat):Int)))
       (kx (((1:Int),((-(1:Int)),(0:Int))),((1:Int),((0:Int),(0:Int)))))
       (cond (decide (a0=((((((((0+1)+1)+1)+1)+1)+1):Nat):Int)))
        (kx (((-(1:Int)),((0:Int),(0:Int))),((1:Int),((0:Int),(0:Int)))))
        (cond (decide (a0=(((((((((0+1)+1)+1)+1)+1)+1)+1):Nat):Int)))
         (kx (((-(1:Int)),((0:Int),(0:Int))),((-(1:Int)),((1:Int),(0:Int)))))
         none))))))))
def pH(a0:Int):Option (Pt):=zl some a0
theorem PG{R} kx a0: @zl R kx a0=(pH a0).bind kx:=by
 unfold pH zl
 exact ae (ae (ac fun _=>ac fun _=>rfl) (ae (ac fun _=>ac fun _=>rfl) (ae (ac fun _=>ac fun _=>rfl) (ae (ac fun _=>ac fun _=>rfl) (ae (ac fun _=>ac fun _=>rfl) (ae (ac fun _=>ac fun _=>rfl) (ae (ac fun _=>ac fun _=>rfl) (ae (ac fun _=>ac fun _=>rfl) rfl)))))))) (ae rfl (ae rfl (ae rfl (ae rfl (ae rfl (ae rfl (ae rfl (ae rfl rfl))))))))
abbrev Ey:af:=.fx [.val false (.int .i64)] (Pt) (fun z=>pH z.1) (fun b=>(.one ⟨true,[(.v (.int .i64 b.1.1)),(.v (.int .i64 b.1.2.1)),(.v (.int .i64 b.1.2.2)),(.v (.int .i64 b.2.1)),(.v (.int .i64 b.2.2.1)),(.v (.int .i64 b.2.2.2))]⟩,[]))
theorem C2:ag C0 168 Ey:=
 ag.fx (e:=false) (.cons GS (.nil)) mixed Tryz.func168 (by kernel_rfl) (by kernel_rfl) aj 1 ai (fun z=>(by kernel_rfl:_=zl (fun b=>some (Ey.enc b)) z.1).trans (PG _ z.1))
def dF{R:Type}(kx:Pt->Option R)(a0:Ln):Option R:=
 Option.bind (pH (IntKind.wrap .i64 (a0.1+(4:Int)))) fun y1298=>
 kx y1298
def ca(a0:Ln):Option (Pt):=dF some a0
theorem Ia{R} kx a0: @dF R kx a0=(ca a0).bind kx:=by
 unfold ca dF
 exact ac fun _=>rfl
abbrev Co:af:=.fx [.val true yL] (Pt) (fun z=>ca z.1) (fun b=>(.one ⟨true,[(.v (.int .i64 b.1.1)),(.v (.int .i64 b.1.2.1)),(.v (.int .i64 b.1.2.2)),(.v (.int .i64 b.2.1)),(.v (.int .i64 b.2.2.1)),(.v (.int .i64 b.2.2.2))]⟩,[]))
theorem kr:ag C0 149 Co:=
 ag.fx (e:=false) (.cons C2 (.nil)) mixed Tryz.func149 (by kernel_rfl) (by kernel_rfl) aj 1 ai (fun z=>(by kernel_rfl:_=dF (fun b=>some (Co.enc b)) z.1).trans (Ia _ z.1))
def qQ:List (FuncId×af):=[]
abbrev dx:LS:=⟨[(false,[(.ptr 1 0)]),(false,[(.ptr 2 0)])],[(false,[(.int .i64),(.int .i64),(.int .i64)]),(false,[(.int .i64),(.int .i64),(.int .i64)])],[]⟩
abbrev wY:LS:=⟨[(false,[(.ptr 1 0)]),(false,[(.ptr 2 0)])],[(false,[(.int .i64),(.int .i64),(.int .i64)]),(false,[(.int .i64),(.int .i64),(.int .i64)])],[]⟩
abbrev ng(v0:Int)(v1:Int)(v2:Int)(v3:Int)(v4:Int)(v5:Int):=(((((),()),((),()),()),((v0,v1,v2,()),(v3,v4,v5,()),()),()):wY.T)
abbrev er:List (Ex×LS):=[(.exit 0,wY)]
abbrev jD(b0_0:Int)(b0_1:Int)(b0_2:Int)(b1_0:Int)(b1_1:Int)(b1_2:Int):=(((((),()),((),()),()),((b0_0,b0_1,b0_2,()),(b1_0,b1_1,b1_2,()),()),()):dx.T)
def gK{R:Type}(nx:dx.T->Option R)(hx:lF R er)(b0_0:Int)(b0_1:Int)(b0_2:Int)(b1_0:Int)(b1_1:Int)(b1_2:Int):Option R:=
 cond (decide (b0_2>(0:Int)))
 (cond ((IntKind.wrap .i64 (((BitVec.toNat ((BitVec.ofInt 64 b0_0)&&&(BitVec.ofInt 64 (1:Int)))):Nat):Int))==(0:Int))
  (cond ((IntKind.wrap .i64 (((BitVec.toNat ((BitVec.ofInt 64 b0_1)&&&(BitVec.ofInt 64 (1:Int)))):Nat):Int))==(0:Int))
   (cond ((IntKind.wrap .i64 (Int.tdiv b0_0 (2:Int)))==(0:Int))
    (cond ((IntKind.wrap .i64 (Int.tdiv b0_1 (2:Int)))==(0:Int))
     (nx (jD (IntKind.wrap .i64 (Int.tdiv b0_0 (2:Int))) (IntKind.wrap .i64 (Int.tdiv b0_1 (2:Int))) (0:Int) b1_0 b1_1 b1_2))
     (nx (jD (IntKind.wrap .i64 (Int.tdiv b0_0 (2:Int))) (IntKind.wrap .i64 (Int.tdiv b0_1 (2:Int))) (IntKind.wrap .i64 (b0_2-(1:Int))) b1_0 b1_1 b1_2)))
    (nx (jD (IntKind.wrap .i64 (Int.tdiv b0_0 (2:Int))) (IntKind.wrap .i64 (Int.tdiv b0_1 (2:Int))) (IntKind.wrap .i64 (b0_2-(1:Int))) b1_0 b1_1 b1_2)))
   (hx.1 (ng b0_0 b0_1 b0_2 b1_0 b1_1 b1_2)))
  (hx.1 (ng b0_0 b0_1 b0_2 b1_0 b1_1 b1_2)))
 (hx.1 (ng b0_0 b0_1 b0_2 b1_0 b1_1 b1_2))
def tr{R:Type}(nx:dx.T->Option R)(hx:lF R er)(z:dx.T):Option R:=gK nx hx z.2.1.1.1 z.2.1.1.2.1 z.2.1.1.2.2.1 z.2.1.2.1.1 z.2.1.2.1.2.1 z.2.1.2.1.2.2.1
theorem xr:cY @tr:=fun R nx hx z=>by
 show gK nx hx z.2.1.1.1 z.2.1.1.2.1 z.2.1.1.2.2.1 z.2.1.2.1.1 z.2.1.2.1.2.1 z.2.1.2.1.2.2.1=(gK (fun y=>some (.inl y)) (oM er fun x=>some (.inr x)) z.2.1.1.1 z.2.1.1.2.1 z.2.1.1.2.2.1 z.2.1.2.1.1 z.2.1.2.1.2.1 z.2.1.2.1.2.2.1).bind (oH nx hx)
 unfold gK
 exact ae (ae (ae (ae (ae rfl rfl) rfl) rfl) rfl) rfl
def jH:dx.T->Option (xb er):=BJ @tr
theorem yg b0_0 b0_1 b0_2 b1_0 b1_1 b1_2:jH (jD b0_0 b0_1 b0_2 b1_0 b1_1 b1_2)=gK jH (oM er some) b0_0 b0_1 b0_2 b1_0 b1_1 b1_2:=eU xr _
def oC:bQ:=⟨[1,2],[1,2],[1,2],[1,2]⟩
def qW:fQ Rv:=⟨fun k=>match k with|2=>oC|_=>⟨[],[],[],[]⟩,fun k=>match k with|2=>some (cu dx er jH)|_=>none⟩
theorem Hk(n:Nat)(z:dx.T)(k:Ex->hZ->Option Rv):bL ⟨40,40⟩ oC (nG (ii C0 qQ) ⟨40,40⟩ qW 1 (aL Tryz.f162 1)) (n+1) (dx.enc z) k=
 tr (fun y=>bL ⟨40,40⟩ oC (nG (ii C0 qQ) ⟨40,40⟩ qW 1 (aL Tryz.f162 1)) n (dx.enc y) k) (hK k er) z:=by kernel_rfl
theorem I7:aw (ii C0 qQ) ⟨40,40⟩ qW 1 (cp (bh Tryz.f162)):=by
 have hl:cp (bh Tryz.f162)=[aL Tryz.f162 1]:=by kernel_rfl
 rw[hl]
 exact aw.cons (n:=2) (lh:=oC) (S:=cu dx er jH) (by kernel_rfl) rfl rfl (cy xr Hk)
  (aw.nil)
def oe{R:Type}(kx:Nm->Option R)(a0:Nm):Option R:=
 Option.bind (jH (jD a0.1 a0.2.1 a0.2.2 (0:Int) (0:Int) (0:Int))) (pD er
 (fun e1312=>
  kx ((e1312.2.1.1.1:Int),((e1312.2.1.1.2.1:Int),(e1312.2.1.1.2.2.1:Int))),()))
def dk(a0:Nm):Option (Nm):=oe some a0
theorem Id{R} kx a0: @oe R kx a0=(dk a0).bind kx:=by
 unfold dk oe
 exact cE ⟨fun _=>rfl,trivial⟩
abbrev wk:af:=.fx [.val true yN] (Nm) (fun z=>dk z.1) (fun b=>(.one ⟨true,[(.v (.int .i64 b.1)),(.v (.int .i64 b.2.1)),(.v (.int .i64 b.2.2))]⟩,[]))
theorem mW:ag C0 162 wk:=
 ag.fx (e:=false) (t:=qQ) (.nil) mixed Tryz.func162 (by kernel_rfl) (by kernel_rfl) qW 1 I7 (fun z=>(by kernel_rfl:_=oe (fun b=>some (wk.enc b)) z.1).trans (Id _ z.1))
def qs{R:Type}(kx:Nm->Option R)(a0:Nm)(a1:Nm):Option R:=
 Option.bind (dk ((IntKind.wrap .i64 ((IntKind.wrap .i64 (a0.1*a1.1))+(IntKind.wrap .i64 ((IntKind.wrap .i64 ((2:Int)*a0.2.1))*a1.2.1)))),((IntKind.wrap .i64 ((IntKind.wrap .i64 (a0.1*a1.2.1))+(IntKind.wrap .i64 (a0.2.1*a1.1)))),(IntKind.wrap .i64 (a0.2.2+a1.2.2))))) fun y1319=>
 kx y1319
def cF(a0:Nm)(a1:Nm):Option (Nm):=qs some a0 a1
theorem KE{R} kx a0 a1: @qs R kx a0 a1=(cF a0 a1).bind kx:=by
 unfold cF qs
 exact ac fun _=>rfl
abbrev ym:af:=.fx [.val true yN, .val true yN] (Nm) (fun z=>cF z.1 z.2.1) (fun b=>(.one ⟨true,[(.v (.int .i64 b.1)),(.v (.int .i64 b.2.1)),(.v (.int .i64 b.2.2))]⟩,[]))
theorem mm:ag C0 164 ym:=
 ag.fx (e:=false) (.cons mW (.nil)) mixed Tryz.func164 (by kernel_rfl) (by kernel_rfl) aj 1 ai (fun z=>(by kernel_rfl:_=qs (fun b=>some (ym.enc b)) z.1 z.2.1).trans (KE _ z.1 z.2.1))
def rC{R:Type}(kx:Nm->Option R)(a0:Nm)(a1:Nm):Option R:=
 cond (decide ((IntKind.wrap .i64 ((if(Bool.true=Bool.true)then(if(a1.2.2>a0.2.2)then a1.2.2 else a0.2.2)else(if(a1.2.2<a0.2.2)then a1.2.2 else a0.2.2))-a0.2.2))<(0:Int)))
 none
 (cond (decide ((IntKind.wrap .i64 ((if(Bool.true=Bool.true)then(if(a1.2.2>a0.2.2)then a1.2.2 else a0.2.2)else(if(a1.2.2<a0.2.2)then a1.2.2 else a0.2.2))-a1.2.2))<(0:Int)))
  none
  (cond (decide ((IntKind.wrap .i64 ((if(Bool.true=Bool.true)then(if(a1.2.2>a0.2.2)then a1.2.2 else a0.2.2)else(if(a1.2.2<a0.2.2)then a1.2.2 else a0.2.2))-a0.2.2))<(0:Int)))
   none
   (cond (decide ((IntKind.wrap .i64 ((if(Bool.true=Bool.true)then(if(a1.2.2>a0.2.2)then a1.2.2 else a0.2.2)else(if(a1.2.2<a0.2.2)then a1.2.2 else a0.2.2))-a1.2.2))<(0:Int)))
    none
    (Option.bind (dk ((IntKind.wrap .i64 ((IntKind.wrap .i64 (a0.1*((2:Int)^(Min.min (Int.toNat (IntKind.wrap .i64 ((if(Bool.true=Bool.true)then(if(a1.2.2>a0.2.2)then a1.2.2 else a0.2.2)else(if(a1.2.2<a0.2.2)then a1.2.2 else a0.2.2))-a0.2.2))) 64))))+(IntKind.wrap .i64 (a1.1*((2:Int)^(Min.min (Int.toNat (IntKind.wrap .i64 ((if(Bool.true=Bool.true)then(if(a1.2.2>a0.2.2)then a1.2.2 else a0.2.2)else(if(a1.2.2<a0.2.2)then a1.2.2 else a0.2.2))-a1.2.2))) 64)))))),((IntKind.wrap .i64 ((IntKind.wrap .i64 (a0.2.1*((2:Int)^(Min.min (Int.toNat (IntKind.wrap .i64 ((if(Bool.true=Bool.true)then(if(a1.2.2>a0.2.2)then a1.2.2 else a0.2.2)else(if(a1.2.2<a0.2.2)then a1.2.2 else a0.2.2))-a0.2.2))) 64))))+(IntKind.wrap .i64 (a1.2.1*((2:Int)^(Min.min (Int.toNat (IntKind.wrap .i64 ((if(Bool.true=Bool.true)then(if(a1.2.2>a0.2.2)then a1.2.2 else a0.2.2)else(if(a1.2.2<a0.2.2)then a1.2.2 else a0.2.2))-a1.2.2))) 64)))))),(if(Bool.true=Bool.true)then(if(a1.2.2>a0.2.2)then a1.2.2 else a0.2.2)else(if(a1.2.2<a0.2.2)then a1.2.2 else a0.2.2))))) fun y1327=>
     kx y1327))))
def ed(a0:Nm)(a1:Nm):Option (Nm):=rC some a0 a1
theorem Me{R} kx a0 a1: @rC R kx a0 a1=(ed a0 a1).bind kx:=by
 unfold ed rC
 exact ae rfl (ae rfl (ae rfl (ae rfl (ac fun _=>rfl))))
abbrev GF:af:=.fx [.val true yN, .val true yN] (Nm) (fun z=>ed z.1 z.2.1) (fun b=>(.one ⟨true,[(.v (.int .i64 b.1)),(.v (.int .i64 b.2.1)),(.v (.int .i64 b.2.2))]⟩,[]))
theorem nz:ag C0 85 GF:=
 ag.fx (e:=false) (.cons mW (.nil)) mixed Tryz.func85 (by kernel_rfl) (by kernel_rfl) aj 1 ai (fun z=>(by kernel_rfl:_=rC (fun b=>some (GF.enc b)) z.1 z.2.1).trans (Me _ z.1 z.2.1))
def qr{R:Type}(kx:Nm->Option R)(a0:Nm)(a1:Nm):Option R:=
 Option.bind (cj a1) fun y1324=>
 Option.bind (ed a0 y1324) fun y1328=>
 kx y1328
def cq(a0:Nm)(a1:Nm):Option (Nm):=qr some a0 a1
theorem KD{R} kx a0 a1: @qr R kx a0 a1=(cq a0 a1).bind kx:=by
 unfold cq qr
 exact ac fun _=>ac fun _=>rfl
abbrev Ff:af:=.fx [.val true yN, .val true yN] (Nm) (fun z=>cq z.1 z.2.1) (fun b=>(.one ⟨true,[(.v (.int .i64 b.1)),(.v (.int .i64 b.2.1)),(.v (.int .i64 b.2.2))]⟩,[]))
theorem kc:ag C0 151 Ff:=
 ag.fx (e:=false) (.cons GS (.cons nz (.nil))) mixed Tryz.func151 (by kernel_rfl) (by kernel_rfl) aj 1 ai (fun z=>(by kernel_rfl:_=qr (fun b=>some (Ff.enc b)) z.1 z.2.1).trans (KD _ z.1 z.2.1))
def lz{R:Type}(kx:Nm->Option R)(a0:Pt)(a1:Pt):Option R:=
 Option.bind (cF a0.1 a1.2) fun y1320=>
 Option.bind (cF a0.2 a1.1) fun y1321=>
 Option.bind (cq y1320 y1321) fun y1329=>
 kx y1329
def gC(a0:Pt)(a1:Pt):Option (Nm):=lz some a0 a1
theorem Ie{R} kx a0 a1: @lz R kx a0 a1=(gC a0 a1).bind kx:=by
 unfold gC lz
 exact ac fun _=>ac fun _=>ac fun _=>rfl
abbrev wl:af:=.fx [.val true yP, .val true yP] (Nm) (fun z=>gC z.1 z.2.1) (fun b=>(.one ⟨true,[(.v (.int .i64 b.1)),(.v (.int .i64 b.2.1)),(.v (.int .i64 b.2.2))]⟩,[]))
theorem Bf:ag C0 163 wl:=
 ag.fx (e:=false) (.cons mm (.cons kc (.nil))) mixed Tryz.func163 (by kernel_rfl) (by kernel_rfl) aj 1 ai (fun z=>(by kernel_rfl:_=lz (fun b=>some (wl.enc b)) z.1 z.2.1).trans (Ie _ z.1 z.2.1))
def vJ:List (FuncId×af):=[(164,ym),(162,wk)]
abbrev fu:LS:=⟨[(false,[(.ptr 4 0)]),(false,[(.int .i64)]),(false,[(.ptr 7 0)])],[(false,[(.int .i64),(.int .i64),(.int .i64)]),(false,[(.int .i64),(.int .i64),(.int .i64)])],[]⟩
abbrev AO:LS:=⟨[(false,[(.ptr 4 0)]),(false,[(.int .i64)]),(false,[(.ptr 7 0)])],[(false,[(.int .i64),(.int .i64),(.int .i64)]),(false,[(.int .i64),(.int .i64),(.int .i64)])],[]⟩
abbrev AL(v0:Int)(v1:Int)(v2:Int)(v3:Int)(v4:Int)(v5:Int)(v6:Int):=(((((),()),(v0,()),((),()),()),((v1,v2,v3,()),(v4,v5,v6,()),()),()):AO.T)
abbrev fB:List (Ex×LS):=[(.exit 0,AO)]
abbrev sM(x6:Int)(b0_0:Int)(b0_1:Int)(b0_2:Int)(b1_0:Int)(b1_1:Int)(b1_2:Int):=(((((),()),(x6,()),((),()),()),((b0_0,b0_1,b0_2,()),(b1_0,b1_1,b1_2,()),()),()):fu.T)
def mu{R:Type}(nx:fu.T->Option R)(hx:lF R fB)(x6:Int)(b0_0:Int)(b0_1:Int)(b0_2:Int)(b1_0:Int)(b1_1:Int)(b1_2:Int):Option R:=
 cond ((IntKind.wrap .i64 (((BitVec.toNat ((BitVec.ofInt 64 x6)&&&(BitVec.ofInt 64 (1:Int)))):Nat):Int))==(0:Int))
 (nx (sM (IntKind.wrap .i64 (Int.tdiv x6 (2:Int))) b0_0 b0_1 b0_2 b1_0 b1_1 (IntKind.wrap .i64 (b1_2+(1:Int)))))
 (hx.1 (AL x6 b0_0 b0_1 b0_2 b1_0 b1_1 b1_2))
def xH{R:Type}(nx:fu.T->Option R)(hx:lF R fB)(z:fu.T):Option R:=mu nx hx z.1.2.1.1 z.2.1.1.1 z.2.1.1.2.1 z.2.1.1.2.2.1 z.2.1.2.1.1 z.2.1.2.1.2.1 z.2.1.2.1.2.2.1
theorem Ba:cY @xH:=fun R nx hx z=>by
 show mu nx hx z.1.2.1.1 z.2.1.1.1 z.2.1.1.2.1 z.2.1.1.2.2.1 z.2.1.2.1.1 z.2.1.2.1.2.1 z.2.1.2.1.2.2.1=(mu (fun y=>some (.inl y)) (oM fB fun x=>some (.inr x)) z.1.2.1.1 z.2.1.1.1 z.2.1.1.2.1 z.2.1.1.2.2.1 z.2.1.2.1.1 z.2.1.2.1.2.1 z.2.1.2.1.2.2.1).bind (oH nx hx)
 unfold mu
 exact ae rfl rfl
def my:fu.T->Option (xb fB):=BJ @xH
theorem Lk x6 b0_0 b0_1 b0_2 b1_0 b1_1 b1_2:my (sM x6 b0_0 b0_1 b0_2 b1_0 b1_1 b1_2)=mu my (oM fB some) x6 b0_0 b0_1 b0_2 b1_0 b1_1 b1_2:=eU Ba _
def rc:bQ:=⟨[4,6,7],[4,7],[4,6,7],[4,7]⟩
def vN:fQ Rv:=⟨fun k=>match k with|7=>rc|_=>⟨[],[],[],[]⟩,fun k=>match k with|7=>some (cu fu fB my)|_=>none⟩
theorem Lg(n:Nat)(z:fu.T)(k:Ex->hZ->Option Rv):bL ⟨89,89⟩ rc (nG (ii C0 vJ) ⟨89,89⟩ vN 1 (aL Tryz.f152 6)) (n+1) (fu.enc z) k=
 xH (fun y=>bL ⟨89,89⟩ rc (nG (ii C0 vJ) ⟨89,89⟩ vN 1 (aL Tryz.f152 6)) n (fu.enc y) k) (hK k fB) z:=by kernel_rfl
theorem Nr:aw (ii C0 vJ) ⟨89,89⟩ vN 1 (cp (bh Tryz.f152)):=by
 have hl:cp (bh Tryz.f152)=[aL Tryz.f152 6]:=by kernel_rfl
 rw[hl]
 exact aw.cons (n:=7) (lh:=rc) (S:=cu fu fB my) (by kernel_rfl) rfl rfl (cy Ba Lg)
  (aw.nil)
def oP{R:Type}(kx:Nm×Bool->Option R)(a0:Nm)(a1:Nm):Option R:=
 cond ((IntKind.wrap .i64 ((IntKind.wrap .i64 (a1.1*a1.1))-(IntKind.wrap .i64 ((IntKind.wrap .i64 ((2:Int)*a1.2.1))*a1.2.1))))==(0:Int))
 (kx (((0:Int),((0:Int),(0:Int))),Bool.false))
 (Option.bind (cF a0 (a1.1,((IntKind.wrap .i64 ((0:Int)-a1.2.1)),(0:Int)))) fun y1336=>
  Option.bind (my (sM (IntKind.wrap .i64 ((IntKind.wrap .i64 (a1.1*a1.1))-(IntKind.wrap .i64 ((IntKind.wrap .i64 ((2:Int)*a1.2.1))*a1.2.1)))) (0:Int) (0:Int) (0:Int) y1336.1 y1336.2.1 (IntKind.wrap .i64 (y1336.2.2-a1.2.2)))) (pD fB
  (fun e1344=>
   cond (decide ((e1344.1.2.1.1:Int)=(0:Int)))
   none
   (cond ((Int.tmod (e1344.2.1.2.1.1:Int) (e1344.1.2.1.1:Int)) !=(0:Int))
    (kx (((0:Int),((0:Int),(0:Int))),Bool.false))
    (cond (decide ((e1344.1.2.1.1:Int)=(0:Int)))
     none
     (cond ((Int.tmod (e1344.2.1.2.1.2.1:Int) (e1344.1.2.1.1:Int)) !=(0:Int))
      (kx (((0:Int),((0:Int),(0:Int))),Bool.false))
      (cond (decide ((e1344.1.2.1.1:Int)=(0:Int)))
       none
       (cond (decide ((e1344.1.2.1.1:Int)=(0:Int)))
        none
        (cond (decide ((e1344.2.1.2.1.2.2.1:Int)<(0:Int)))
         (cond (decide ((IntKind.wrap .i64 ((0:Int)-(e1344.2.1.2.1.2.2.1:Int)))<(0:Int)))
          none
          (cond (decide ((IntKind.wrap .i64 ((0:Int)-(e1344.2.1.2.1.2.2.1:Int)))<(0:Int)))
           none
           (Option.bind (dk ((IntKind.wrap .i64 ((IntKind.wrap .i64 (Int.tdiv (e1344.2.1.2.1.1:Int) (e1344.1.2.1.1:Int)))*((2:Int)^(Min.min (Int.toNat (IntKind.wrap .i64 ((0:Int)-(e1344.2.1.2.1.2.2.1:Int)))) 64)))),((IntKind.wrap .i64 ((IntKind.wrap .i64 (Int.tdiv (e1344.2.1.2.1.2.1:Int) (e1344.1.2.1.1:Int)))*((2:Int)^(Min.min (Int.toNat (IntKind.wrap .i64 ((0:Int)-(e1344.2.1.2.1.2.2.1:Int)))) 64)))),(0:Int)))) fun y1352=>
            kx (y1352,Bool.true))))
         (Option.bind (dk ((IntKind.wrap .i64 (Int.tdiv (e1344.2.1.2.1.1:Int) (e1344.1.2.1.1:Int))),((IntKind.wrap .i64 (Int.tdiv (e1344.2.1.2.1.2.1:Int) (e1344.1.2.1.1:Int))),(e1344.2.1.2.1.2.2.1:Int)))) fun y1353=>
          kx (y1353,Bool.true)))))))),())))
def fS(a0:Nm)(a1:Nm):Option (Nm×Bool):=oP some a0 a1
theorem Md{R} kx a0 a1: @oP R kx a0 a1=(fS a0 a1).bind kx:=by
 unfold fS oP
 exact ae rfl (ac fun _=>cE ⟨fun _=>ae rfl (ae rfl (ae rfl (ae rfl (ae rfl (ae rfl (ae (ae rfl (ae rfl (ac fun _=>rfl))) (ac fun _=>rfl))))))),trivial⟩)
abbrev GE:af:=.fx [.val true yN, .val true yN] (Nm×Bool) (fun z=>fS z.1 z.2.1) (fun b=>(.tup [⟨true,[(.v (.int .i64 b.1.1)),(.v (.int .i64 b.1.2.1)),(.v (.int .i64 b.1.2.2))]⟩,⟨false,[(.v (.bool b.2))]⟩],[]))
theorem uo:ag C0 152 GE:=
 ag.fx (e:=false) (t:=vJ) (.cons mm (.cons mW (.nil))) mixed Tryz.func152 (by kernel_rfl) (by kernel_rfl) vN 1 Nr (fun z=>(by kernel_rfl:_=oP (fun b=>some (GE.enc b)) z.1 z.2.1).trans (Md _ z.1 z.2.1))
def qo{R:Type}(kx:Pt×Bool->Option R)(a0:Ln)(a1:Ln):Option R:=
 Option.bind (ca a0) fun y1299=>
 Option.bind (ca a1) fun y1300=>
 Option.bind (gC y1299 y1300) fun y1330=>
 Option.bind (cF a0.2 y1300.2) fun y1331=>
 Option.bind (cF a1.2 y1299.2) fun y1332=>
 Option.bind (cq y1331 y1332) fun y1333=>
 Option.bind (fS y1333 y1330) fun y1354=>
 Option.bind (cF a1.2 y1299.1) fun y1355=>
 Option.bind (cF a0.2 y1300.1) fun y1356=>
 Option.bind (cq y1355 y1356) fun y1357=>
 Option.bind (fS y1357 y1330) fun y1358=>
 cond y1354.2
 (kx ((y1354.1,y1358.1),y1358.2))
 (kx ((y1354.1,y1358.1),Bool.false))
def kZ(a0:Ln)(a1:Ln):Option (Pt×Bool):=qo some a0 a1
theorem Kz{R} kx a0 a1: @qo R kx a0 a1=(kZ a0 a1).bind kx:=by
 unfold kZ qo
 exact ac fun _=>ac fun _=>ac fun _=>ac fun _=>ac fun _=>ac fun _=>ac fun _=>ac fun _=>ac fun _=>ac fun _=>ac fun _=>ae rfl rfl
abbrev Fd:af:=.fx [.val true yL, .val true yL] (Pt×Bool) (fun z=>kZ z.1 z.2.1) (fun b=>(.tup [⟨true,[(.v (.int .i64 b.1.1.1)),(.v (.int .i64 b.1.1.2.1)),(.v (.int .i64 b.1.1.2.2)),(.v (.int .i64 b.1.2.1)),(.v (.int .i64 b.1.2.2.1)),(.v (.int .i64 b.1.2.2.2))]⟩,⟨false,[(.v (.bool b.2))]⟩],[]))
theorem Eg:ag C0 87 Fd:=
 ag.fx (e:=false) (.cons kr (.cons Bf (.cons mm (.cons kc (.cons uo (.nil)))))) mixed Tryz.func87 (by kernel_rfl) (by kernel_rfl) aj 1 ai (fun z=>(by kernel_rfl:_=qo (fun b=>some (Fd.enc b)) z.1 z.2.1).trans (Kz _ z.1 z.2.1))
def ob{R:Type}(kx:Nm×Bool->Option R)(a0:Nm):Option R:=
 Option.bind (dk a0) fun y1362=>
 Option.bind (fd y1362) fun y1363=>
 cond (!y1363)
 (kx (((0:Int),((0:Int),(0:Int))),Bool.false))
 (kx (y1362,Bool.true))
def je(a0:Nm):Option (Nm×Bool):=ob some a0
theorem Ib{R} kx a0: @ob R kx a0=(je a0).bind kx:=by
 unfold je ob
 exact ac fun _=>ac fun _=>ae rfl rfl
abbrev Cp:af:=.fx [.val true yN] (Nm×Bool) (fun z=>je z.1) (fun b=>(.tup [⟨true,[(.v (.int .i64 b.1.1)),(.v (.int .i64 b.1.2.1)),(.v (.int .i64 b.1.2.2))]⟩,⟨false,[(.v (.bool b.2))]⟩],[]))
theorem Ju:ag C0 166 Cp:=
 ag.fx (e:=false) (.cons mW (.cons qh (.nil))) mixed Tryz.func166 (by kernel_rfl) (by kernel_rfl) aj 1 ai (fun z=>(by kernel_rfl:_=ob (fun b=>some (Cp.enc b)) z.1).trans (Ib _ z.1))
def lT{R:Type}(kx:Pt×Bool->Option R)(a0:Pt):Option R:=
 Option.bind (je a0.1) fun y1364=>
 Option.bind (je a0.2) fun y1365=>
 cond (!y1364.2)
 (kx ((((0:Int),((0:Int),(0:Int))),((0:Int),((0:Int),(0:Int)))),Bool.false))
 (cond (!y1365.2)
  (kx ((((0:Int),((0:Int),(0:Int))),((0:Int),((0:Int),(0:Int)))),Bool.false))
  (kx ((y1364.1,y1365.1),Bool.true)))
def eg(a0:Pt):Option (Pt×Bool):=lT some a0
theorem Gk{R} kx a0: @lT R kx a0=(eg a0).bind kx:=by
 unfold eg lT
 exact ac fun _=>ac fun _=>ae rfl (ae rfl rfl)
abbrev zO:af:=.fx [.val true yP] (Pt×Bool) (fun z=>eg z.1) (fun b=>(.tup [⟨true,[(.v (.int .i64 b.1.1.1)),(.v (.int .i64 b.1.1.2.1)),(.v (.int .i64 b.1.1.2.2)),(.v (.int .i64 b.1.2.1)),(.v (.int .i64 b.1.2.2.1)),(.v (.int .i64 b.1.2.2.2))]⟩,⟨false,[(.v (.bool b.2))]⟩],[]))
theorem su:ag C0 89 zO:=
 ag.fx (e:=false) (.cons Ju (.nil)) mixed Tryz.func89 (by kernel_rfl) (by kernel_rfl) aj 1 ai (fun z=>(by kernel_rfl:_=lT (fun b=>some (zO.enc b)) z.1).trans (Gk _ z.1))
def qq{R:Type}(kx:Pt×Int->Option R)(a0:Ln)(a1:Ln):Option R:=
 Option.bind (aH a0) fun y1275=>
 cond (!y1275)
 (kx ((((0:Int),((0:Int),(0:Int))),((0:Int),((0:Int),(0:Int)))),(1:Int)))
 (Option.bind (aH a1) fun y1276=>
  cond (!y1276)
  (kx ((((0:Int),((0:Int),(0:Int))),((0:Int),((0:Int),(0:Int)))),(1:Int)))
  (cond (a0.1==a1.1)
   (kx ((((0:Int),((0:Int),(0:Int))),((0:Int),((0:Int),(0:Int)))),(7:Int)))
   (Option.bind (kZ a0 a1) fun y1359=>
    cond (!y1359.2)
    (kx ((((0:Int),((0:Int),(0:Int))),((0:Int),((0:Int),(0:Int)))),(2:Int)))
    (Option.bind (eg y1359.1) fun y1366=>
     cond (!y1366.2)
     (kx ((((0:Int),((0:Int),(0:Int))),((0:Int),((0:Int),(0:Int)))),(2:Int)))
     (kx (y1366.1,(0:Int)))))))
def la(a0:Ln)(a1:Ln):Option (Pt×Int):=qq some a0 a1
theorem KC{R} kx a0 a1: @qq R kx a0 a1=(la a0 a1).bind kx:=by
 unfold la qq
 exact ac fun _=>ae rfl (ac fun _=>ae rfl (ae rfl (ac fun _=>ae rfl (ac fun _=>ae rfl rfl))))
abbrev Fe:af:=.fx [.val true yL, .val true yL] (Pt×Int) (fun z=>la z.1 z.2.1) (fun b=>(.tup [⟨true,[(.v (.int .i64 b.1.1.1)),(.v (.int .i64 b.1.1.2.1)),(.v (.int .i64 b.1.1.2.2)),(.v (.int .i64 b.1.2.1)),(.v (.int .i64 b.1.2.2.1)),(.v (.int .i64 b.1.2.2.2))]⟩,⟨false,[(.v (.int .i64 b.2))]⟩],[]))
theorem MJ:ag C0 130 Fe:=
 ag.fx (e:=false) (.cons dD (.cons Eg (.cons su (.nil)))) mixed Tryz.func130 (by kernel_rfl) (by kernel_rfl) aj 1 ai (fun z=>(by kernel_rfl:_=qq (fun b=>some (Fe.enc b)) z.1 z.2.1).trans (KC _ z.1 z.2.1))
def pt{R:Type}(kx:Pt->Option R)(a0:Pt)(a1:Pt):Option R:=
 Option.bind (ed a0.1 a1.1) fun y1379=>
 Option.bind (ed a0.2 a1.2) fun y1380=>
 kx (y1379,y1380)
def jU(a0:Pt)(a1:Pt):Option (Pt):=pt some a0 a1
theorem Jd{R} kx a0 a1: @pt R kx a0 a1=(jU a0 a1).bind kx:=by
 unfold jU pt
 exact ac fun _=>ac fun _=>rfl
abbrev DQ:af:=.fx [.val true yP, .val true yP] (Pt) (fun z=>jU z.1 z.2.1) (fun b=>(.one ⟨true,[(.v (.int .i64 b.1.1)),(.v (.int .i64 b.1.2.1)),(.v (.int .i64 b.1.2.2)),(.v (.int .i64 b.2.1)),(.v (.int .i64 b.2.2.1)),(.v (.int .i64 b.2.2.2))]⟩,[]))
theorem C1:ag C0 153 DQ:=
 ag.fx (e:=false) (.cons nz (.nil)) mixed Tryz.func153 (by kernel_rfl) (by kernel_rfl) aj 1 ai (fun z=>(by kernel_rfl:_=pt (fun b=>some (DQ.enc b)) z.1 z.2.1).trans (Jd _ z.1 z.2.1))
def rB{R:Type}(kx:Nm->Option R)(a0:Nm):Option R:=
 Option.bind (dk (a0.1,(a0.2.1,(IntKind.wrap .i64 (a0.2.2+(1:Int)))))) fun y1383=>
 kx y1383
def kw(a0:Nm):Option (Nm):=rB some a0
theorem Mc{R} kx a0: @rB R kx a0=(kw a0).bind kx:=by
 unfold kw rB
 exact ac fun _=>rfl
abbrev GD:af:=.fx [.val true yN] (Nm) (fun z=>kw z.1) (fun b=>(.one ⟨true,[(.v (.int .i64 b.1)),(.v (.int .i64 b.2.1)),(.v (.int .i64 b.2.2))]⟩,[]))
theorem FJ:ag C0 86 GD:=
 ag.fx (e:=false) (.cons mW (.nil)) mixed Tryz.func86 (by kernel_rfl) (by kernel_rfl) aj 1 ai (fun z=>(by kernel_rfl:_=rB (fun b=>some (GD.enc b)) z.1).trans (Mc _ z.1))
def rZ{R:Type}(kx:Pt->Option R)(a0:Pt)(a1:Pt):Option R:=
 Option.bind (jU a0 a1) fun y1381=>
 Option.bind (kw y1381.1) fun y1384=>
 Option.bind (kw y1381.2) fun y1385=>
 kx (y1384,y1385)
def pF(a0:Pt)(a1:Pt):Option (Pt):=rZ some a0 a1
theorem PE{R} kx a0 a1: @rZ R kx a0 a1=(pF a0 a1).bind kx:=by
 unfold pF rZ
 exact ac fun _=>ac fun _=>ac fun _=>rfl
abbrev JT:af:=.fx [.val true yP, .val true yP] (Pt) (fun z=>pF z.1 z.2.1) (fun b=>(.one ⟨true,[(.v (.int .i64 b.1.1)),(.v (.int .i64 b.1.2.1)),(.v (.int .i64 b.1.2.2)),(.v (.int .i64 b.2.1)),(.v (.int .i64 b.2.2.1)),(.v (.int .i64 b.2.2.2))]⟩,[]))
theorem Iw:ag C0 92 JT:=
 ag.fx (e:=false) (.cons C1 (.cons FJ (.nil))) mixed Tryz.func92 (by kernel_rfl) (by kernel_rfl) aj 1 ai (fun z=>(by kernel_rfl:_=rZ (fun b=>some (JT.enc b)) z.1 z.2.1).trans (PE _ z.1 z.2.1))
def rA{R:Type}(kx:Pt×Bool->Option R)(a0:Pt)(a1:Pt):Option R:=
 Option.bind (aG a0) fun y1373=>
 cond (!y1373)
 (kx ((((0:Int),((0:Int),(0:Int))),((0:Int),((0:Int),(0:Int)))),Bool.false))
 (Option.bind (aG a1) fun y1374=>
  cond (!y1374)
  (kx ((((0:Int),((0:Int),(0:Int))),((0:Int),((0:Int),(0:Int)))),Bool.false))
  (Option.bind (pF a0 a1) fun y1386=>
   Option.bind (eg y1386) fun y1387=>
   kx y1387))
def mC(a0:Pt)(a1:Pt):Option (Pt×Bool):=rA some a0 a1
theorem Mb{R} kx a0 a1: @rA R kx a0 a1=(mC a0 a1).bind kx:=by
 unfold mC rA
 exact ac fun _=>ae rfl (ac fun _=>ae rfl (ac fun _=>ac fun _=>rfl))
abbrev GC:af:=.fx [.val true yP, .val true yP] (Pt×Bool) (fun z=>mC z.1 z.2.1) (fun b=>(.tup [⟨true,[(.v (.int .i64 b.1.1.1)),(.v (.int .i64 b.1.1.2.1)),(.v (.int .i64 b.1.1.2.2)),(.v (.int .i64 b.1.2.1)),(.v (.int .i64 b.1.2.2.1)),(.v (.int .i64 b.1.2.2.2))]⟩,⟨false,[(.v (.bool b.2))]⟩],[]))
theorem Og:ag C0 131 GC:=
 ag.fx (e:=false) (.cons eR (.cons Iw (.cons su (.nil)))) mixed Tryz.func131 (by kernel_rfl) (by kernel_rfl) aj 1 ai (fun z=>(by kernel_rfl:_=rA (fun b=>some (GC.enc b)) z.1 z.2.1).trans (Mb _ z.1 z.2.1))
def up{R:Type}(kx:Int->Option R)(a0:Bool):Option R:=
 cond a0
 (kx (0:Int))
 (kx (2:Int))
def fe(a0:Bool):Option (Int):=up some a0
theorem KM{R} kx a0: @up R kx a0=(fe a0).bind kx:=by
 unfold fe up
 exact ae rfl rfl
abbrev Fk:af:=.fx [.val false .bool] (Int) (fun z=>fe z.1) (fun b=>(.one ⟨false,[(.v (.int .i64 b))]⟩,[]))
theorem Ej:ag C0 132 Fk:=
 ag.fx (e:=false) (.nil) mixed Tryz.func132 (by kernel_rfl) (by kernel_rfl) aj 1 ai (fun z=>(by kernel_rfl:_=up (fun b=>some (Fk.enc b)) z.1).trans (KM _ z.1))
def qt{R:Type}(kx:Nm->Option R)(a0:Pt)(a1:Pt):Option R:=
 Option.bind (cF a0.1 a1.1) fun y1405=>
 Option.bind (cF a0.2 a1.2) fun y1406=>
 Option.bind (ed y1405 y1406) fun y1407=>
 kx y1407
def cG(a0:Pt)(a1:Pt):Option (Nm):=qt some a0 a1
theorem KF{R} kx a0 a1: @qt R kx a0 a1=(cG a0 a1).bind kx:=by
 unfold cG qt
 exact ac fun _=>ac fun _=>ac fun _=>rfl
abbrev yn:af:=.fx [.val true yP, .val true yP] (Nm) (fun z=>cG z.1 z.2.1) (fun b=>(.one ⟨true,[(.v (.int .i64 b.1)),(.v (.int .i64 b.2.1)),(.v (.int .i64 b.2.2))]⟩,[]))
theorem mn:ag C0 150 yn:=
 ag.fx (e:=false) (.cons mm (.cons nz (.nil))) mixed Tryz.func150 (by kernel_rfl) (by kernel_rfl) aj 1 ai (fun z=>(by kernel_rfl:_=qt (fun b=>some (yn.enc b)) z.1 z.2.1).trans (KF _ z.1 z.2.1))
def oh{R:Type}(kx:Pt->Option R)(a0:Pt)(a1:Nm):Option R:=
 Option.bind (cF a0.1 a1) fun y1412=>
 Option.bind (cF a0.2 a1) fun y1413=>
 kx (y1412,y1413)
def jf(a0:Pt)(a1:Nm):Option (Pt):=oh some a0 a1
theorem Ig{R} kx a0 a1: @oh R kx a0 a1=(jf a0 a1).bind kx:=by
 unfold jf oh
 exact ac fun _=>ac fun _=>rfl
abbrev Cr:af:=.fx [.val true yP, .val true yN] (Pt) (fun z=>jf z.1 z.2.1) (fun b=>(.one ⟨true,[(.v (.int .i64 b.1.1)),(.v (.int .i64 b.1.2.1)),(.v (.int .i64 b.1.2.2)),(.v (.int .i64 b.2.1)),(.v (.int .i64 b.2.2.1)),(.v (.int .i64 b.2.2.2))]⟩,[]))
theorem Bg:ag C0 154 Cr:=
 ag.fx (e:=false) (.cons mm (.nil)) mixed Tryz.func154 (by kernel_rfl) (by kernel_rfl) aj 1 ai (fun z=>(by kernel_rfl:_=oh (fun b=>some (Cr.enc b)) z.1 z.2.1).trans (Ig _ z.1 z.2.1))
def qn{R:Type}(kx:Pt->Option R)(a0:Ln):Option R:=
 Option.bind (ca a0) fun y1402=>
 Option.bind (cG y1402 y1402) fun y1408=>
 Option.bind (fS a0.2 y1408) fun y1409=>
 Option.bind (jf y1402 y1409.1) fun y1414=>
 kx y1414
def no(a0:Ln):Option (Pt):=qn some a0
theorem Ky{R} kx a0: @qn R kx a0=(no a0).bind kx:=by
 unfold no qn
 exact ac fun _=>ac fun _=>ac fun _=>ac fun _=>rfl
abbrev Fc:af:=.fx [.val true yL] (Pt) (fun z=>no z.1) (fun b=>(.one ⟨true,[(.v (.int .i64 b.1.1)),(.v (.int .i64 b.1.2.1)),(.v (.int .i64 b.1.2.2)),(.v (.int .i64 b.2.1)),(.v (.int .i64 b.2.2.1)),(.v (.int .i64 b.2.2.2))]⟩,[]))
theorem MH:ag C0 82 Fc:=
 ag.fx (e:=false) (.cons kr (.cons mn (.cons uo (.cons Bg (.nil))))) mixed Tryz.func82 (by kernel_rfl) (by kernel_rfl) aj 1 ai (fun z=>(by kernel_rfl:_=qn (fun b=>some (Fc.enc b)) z.1).trans (Ky _ z.1))
def mZ{R:Type}(kx:Pt->Option R)(a0:Ln)(a1:Pt):Option R:=
 Option.bind (ca a0) fun y1418=>
 Option.bind (cG y1418 a1) fun y1419=>
 Option.bind (cq a0.2 y1419) fun y1420=>
 Option.bind (cG y1418 y1418) fun y1421=>
 Option.bind (fS y1420 y1421) fun y1422=>
 Option.bind (ed y1422.1 y1422.1) fun y1423=>
 Option.bind (jf y1418 y1423) fun y1424=>
 Option.bind (jU a1 y1424) fun y1425=>
 kx y1425
def dJ(a0:Ln)(a1:Pt):Option (Pt):=mZ some a0 a1
theorem Ha{R} kx a0 a1: @mZ R kx a0 a1=(dJ a0 a1).bind kx:=by
 unfold dJ mZ
 exact ac fun _=>ac fun _=>ac fun _=>ac fun _=>ac fun _=>ac fun _=>ac fun _=>ac fun _=>rfl
abbrev uD:af:=.fx [.val true yL, .val true yP] (Pt) (fun z=>dJ z.1 z.2.1) (fun b=>(.one ⟨true,[(.v (.int .i64 b.1.1)),(.v (.int .i64 b.1.2.1)),(.v (.int .i64 b.1.2.2)),(.v (.int .i64 b.2.1)),(.v (.int .i64 b.2.2.1)),(.v (.int .i64 b.2.2.2))]⟩,[]))
theorem tj:ag C0 81 uD:=
 ag.fx (e:=false) (.cons kr (.cons mn (.cons kc (.cons uo (.cons nz (.cons Bg (.cons C1 (.nil)))))))) mixed Tryz.func81 (by kernel_rfl) (by kernel_rfl) aj 1 ai (fun z=>(by kernel_rfl:_=mZ (fun b=>some (uD.enc b)) z.1 z.2.1).trans (Ha _ z.1 z.2.1))
def vj{R:Type}(kx:Ln->Option R)(a0:Pt)(a1:Int):Option R:=
 Option.bind (ca (a1,((0:Int),((0:Int),(0:Int))))) fun y1429=>
 Option.bind (cG y1429 a0) fun y1430=>
 kx (a1,y1430)
def fX(a0:Pt)(a1:Int):Option (Ln):=vj some a0 a1
theorem PD{R} kx a0 a1: @vj R kx a0 a1=(fX a0 a1).bind kx:=by
 unfold fX vj
 exact ac fun _=>ac fun _=>rfl
abbrev Ew:af:=.fx [.val true yP, .val false (.int .i64)] (Ln) (fun z=>fX z.1 z.2.1) (fun b=>(.one ⟨true,[(.v (.int .i64 b.1)),(.v (.int .i64 b.2.1)),(.v (.int .i64 b.2.2.1)),(.v (.int .i64 b.2.2.2))]⟩,[]))
theorem qi:ag C0 80 Ew:=
 ag.fx (e:=false) (.cons kr (.cons mn (.nil))) mixed Tryz.func80 (by kernel_rfl) (by kernel_rfl) aj 1 ai (fun z=>(by kernel_rfl:_=vj (fun b=>some (Ew.enc b)) z.1 z.2.1).trans (PD _ z.1 z.2.1))
def oi{R:Type}(kx:Ln×Bool->Option R)(a0:Ln)(a1:Ln):Option R:=
 Option.bind (aH a0) fun y1399=>
 cond (!y1399)
 (kx (((0:Int),((0:Int),((0:Int),(0:Int)))),Bool.false))
 (Option.bind (aH a1) fun y1400=>
  cond (!y1400)
  (kx (((0:Int),((0:Int),((0:Int),(0:Int)))),Bool.false))
  (Option.bind (no a1) fun y1415=>
   Option.bind (dJ a0 y1415) fun y1426=>
   Option.bind (fX y1426 (IntKind.wrap .i64 (((BitVec.toNat ((BitVec.ofInt 64 (IntKind.wrap .i64 ((IntKind.wrap .i64 ((2:Int)*a0.1))-a1.1)))&&&(BitVec.ofInt 64 (7:Int)))):Nat):Int))) fun y1431=>
   Option.bind (fd y1431.2) fun y1432=>
   cond (!y1432)
   (kx (((0:Int),((0:Int),((0:Int),(0:Int)))),Bool.false))
   (kx (y1431,Bool.true))))
def jg(a0:Ln)(a1:Ln):Option (Ln×Bool):=oi some a0 a1
theorem Ih{R} kx a0 a1: @oi R kx a0 a1=(jg a0 a1).bind kx:=by
 unfold jg oi
 exact ac fun _=>ae rfl (ac fun _=>ae rfl (ac fun _=>ac fun _=>ac fun _=>ac fun _=>ae rfl rfl))
abbrev Cs:af:=.fx [.val true yL, .val true yL] (Ln×Bool) (fun z=>jg z.1 z.2.1) (fun b=>(.tup [⟨true,[(.v (.int .i64 b.1.1)),(.v (.int .i64 b.1.2.1)),(.v (.int .i64 b.1.2.2.1)),(.v (.int .i64 b.1.2.2.2))]⟩,⟨false,[(.v (.bool b.2))]⟩],[]))
theorem Jx:ag C0 32 Cs:=
 ag.fx (e:=false) (.cons dD (.cons MH (.cons tj (.cons qi (.cons qh (.nil)))))) mixed Tryz.func32 (by kernel_rfl) (by kernel_rfl) aj 1 ai (fun z=>(by kernel_rfl:_=oi (fun b=>some (Cs.enc b)) z.1 z.2.1).trans (Ih _ z.1 z.2.1))
def rG{R:Type}(kx:It×Int->Option R)(a0:ByteArray)(a1:Ln)(a2:Int):Option R:=
 cond (a2 !=(0:Int))
 (kx (((ByteArray.mk (Array.mk [])),(Bool.false,((((0:Int),((0:Int),(0:Int))),((0:Int),((0:Int),(0:Int)))),((0:Int),((0:Int),((0:Int),(0:Int))))))),a2))
 (kx ((a0,(Bool.true,((((0:Int),((0:Int),(0:Int))),((0:Int),((0:Int),(0:Int)))),a1))),(0:Int)))
def cx(a0:ByteArray)(a1:Ln)(a2:Int):Option (It×Int):=rG some a0 a1 a2
theorem Mi{R} kx a0 a1 a2: @rG R kx a0 a1 a2=(cx a0 a1 a2).bind kx:=by
 unfold cx rG
 exact ae rfl rfl
abbrev GH:af:=.fx [.val false .str, .val true yL, .val false (.int .i64)] (It×Int) (fun z=>cx z.1 z.2.1 z.2.2.1) (fun b=>(.tup [⟨true,[(.v (.string b.1.1)),(.v (.bool b.1.2.1)),(.v (.int .i64 b.1.2.2.1.1.1)),(.v (.int .i64 b.1.2.2.1.1.2.1)),(.v (.int .i64 b.1.2.2.1.1.2.2)),(.v (.int .i64 b.1.2.2.1.2.1)),(.v (.int .i64 b.1.2.2.1.2.2.1)),(.v (.int .i64 b.1.2.2.1.2.2.2)),(.v (.int .i64 b.1.2.2.2.1)),(.v (.int .i64 b.1.2.2.2.2.1)),(.v (.int .i64 b.1.2.2.2.2.2.1)),(.v (.int .i64 b.1.2.2.2.2.2.2))]⟩,⟨false,[(.v (.int .i64 b.2))]⟩],[]))
theorem yx:ag C0 137 GH:=
 ag.fx (e:=false) (.nil) mixed Tryz.func137 (by kernel_rfl) (by kernel_rfl) aj 1 ai (fun z=>(by kernel_rfl:_=rG (fun b=>some (GH.enc b)) z.1 z.2.1 z.2.2.1).trans (Mi _ z.1 z.2.1 z.2.2.1))
def na{R:Type}(kx:Pt×Bool->Option R)(a0:Ln)(a1:Pt):Option R:=
 Option.bind (aH a0) fun y1441=>
 cond (!y1441)
 (kx ((((0:Int),((0:Int),(0:Int))),((0:Int),((0:Int),(0:Int)))),Bool.false))
 (Option.bind (aG a1) fun y1442=>
  cond (!y1442)
  (kx ((((0:Int),((0:Int),(0:Int))),((0:Int),((0:Int),(0:Int)))),Bool.false))
  (Option.bind (dJ a0 a1) fun y1443=>
   Option.bind (eg y1443) fun y1444=>
   kx y1444))
def iz(a0:Ln)(a1:Pt):Option (Pt×Bool):=na some a0 a1
theorem Hb{R} kx a0 a1: @na R kx a0 a1=(iz a0 a1).bind kx:=by
 unfold iz na
 exact ac fun _=>ae rfl (ac fun _=>ae rfl (ac fun _=>ac fun _=>rfl))
abbrev AZ:af:=.fx [.val true yL, .val true yP] (Pt×Bool) (fun z=>iz z.1 z.2.1) (fun b=>(.tup [⟨true,[(.v (.int .i64 b.1.1.1)),(.v (.int .i64 b.1.1.2.1)),(.v (.int .i64 b.1.1.2.2)),(.v (.int .i64 b.1.2.1)),(.v (.int .i64 b.1.2.2.1)),(.v (.int .i64 b.1.2.2.2))]⟩,⟨false,[(.v (.bool b.2))]⟩],[]))
theorem Iv:ag C0 35 AZ:=
 ag.fx (e:=false) (.cons dD (.cons eR (.cons tj (.cons su (.nil))))) mixed Tryz.func35 (by kernel_rfl) (by kernel_rfl) aj 1 ai (fun z=>(by kernel_rfl:_=na (fun b=>some (AZ.enc b)) z.1 z.2.1).trans (Hb _ z.1 z.2.1))
def sP{R:Type}(kx:It×Int->Option R)(a0:ByteArray)(a1:Ln)(a2:It):Option R:=
 cond a2.2.1
 (Option.bind (jg a1 a2.2.2.2) fun y1433=>
  Option.bind (fe y1433.2) fun y1434=>
  Option.bind (cx a0 y1433.1 y1434) fun y1438=>
  kx y1438)
 (Option.bind (iz a1 a2.2.2.1) fun y1445=>
  Option.bind (fe y1445.2) fun y1446=>
  Option.bind (dA a0 y1445.1 y1446) fun y1447=>
  kx y1447)
def sB(a0:ByteArray)(a1:Ln)(a2:It):Option (It×Int):=sP some a0 a1 a2
theorem Jj{R} kx a0 a1 a2: @sP R kx a0 a1 a2=(sB a0 a1 a2).bind kx:=by
 unfold sB sP
 exact ae (ac fun _=>ac fun _=>ac fun _=>rfl) (ac fun _=>ac fun _=>ac fun _=>rfl)
abbrev DV:af:=.fx [.val false .str, .val true yL, .val true yI] (It×Int) (fun z=>sB z.1 z.2.1 z.2.2.1) (fun b=>(.tup [⟨true,[(.v (.string b.1.1)),(.v (.bool b.1.2.1)),(.v (.int .i64 b.1.2.2.1.1.1)),(.v (.int .i64 b.1.2.2.1.1.2.1)),(.v (.int .i64 b.1.2.2.1.1.2.2)),(.v (.int .i64 b.1.2.2.1.2.1)),(.v (.int .i64 b.1.2.2.1.2.2.1)),(.v (.int .i64 b.1.2.2.1.2.2.2)),(.v (.int .i64 b.1.2.2.2.1)),(.v (.int .i64 b.1.2.2.2.2.1)),(.v (.int .i64 b.1.2.2.2.2.2.1)),(.v (.int .i64 b.1.2.2.2.2.2.2))]⟩,⟨false,[(.v (.int .i64 b.2))]⟩],[]))
theorem La:ag C0 133 DV:=
 ag.fx (e:=false) (.cons Jx (.cons Ej (.cons yx (.cons Iv (.cons Ei (.nil)))))) mixed Tryz.func133 (by kernel_rfl) (by kernel_rfl) aj 1 ai (fun z=>(by kernel_rfl:_=sP (fun b=>some (DV.enc b)) z.1 z.2.1 z.2.2.1).trans (Jj _ z.1 z.2.1 z.2.2.1))
def lU{R:Type}(kx:Bool->Option R)(a0:Ln):Option R:=
 Option.bind (aH a0) fun y1467=>
 kx (!y1467)
def lM(a0:Ln):Option (Bool):=lU some a0
theorem Gl{R} kx a0: @lU R kx a0=(lM a0).bind kx:=by
 unfold lM lU
 exact ac fun _=>rfl
abbrev tc:af:=.fx [.val true yL] (Bool) (fun z=>lM z.1) (fun b=>(.one ⟨false,[(.v (.bool b))]⟩,[]))
theorem Hh:ag C0 156 tc:=
 ag.fx (e:=false) (.cons dD (.nil)) mixed Tryz.func156 (by kernel_rfl) (by kernel_rfl) aj 1 ai (fun z=>(by kernel_rfl:_=lU (fun b=>some (tc.enc b)) z.1).trans (Gl _ z.1))
def cc:List (FuncId×af):=[(156,tc)]
abbrev am:LS:=⟨[(false,[(.sl yL)]),(false,[(.fn 156 [])]),(false,[(.int .i64)]),(false,[(.int .i64)])],[],[]⟩
abbrev dP:LS:=⟨[(false,[(.int .i64)])],[],[]⟩
abbrev jM(v0:Int):=((((v0,()),()),(),()):dP.T)
abbrev dQ:LS:=⟨[(false,[.undef])],[],[]⟩
abbrev jN:=(((((),()),()),(),()):dQ.T)
abbrev au:List (Ex×LS):=[(.ret,dP),(.exit 0,dQ)]
abbrev bv x0(x7:Int)(x8:Int):=((((x0,()),((),()),(x7,()),(x8,()),()),(),()):am.T)
def aN{R:Type}(nx:am.T->Option R)(hx:lF R au)(x0:List Ln)(x7:Int)(x8:Int):Option R:=
 cond (decide (x8<x7))
 (Option.bind (fY x0 x8) fun y1465=>
  Option.bind (lM y1465) fun y1468=>
  cond y1468
  (hx.1 (jM x8))
  (nx (bv x0 x7 (IntKind.wrap .i64 (x8+(1:Int))))))
 (hx.2.1 (jN))
def cP{R:Type}(nx:am.T->Option R)(hx:lF R au)(z:am.T):Option R:=aN nx hx z.1.1.1 z.1.2.2.1.1 z.1.2.2.2.1.1
theorem dV:cY @cP:=fun R nx hx z=>by
 show aN nx hx z.1.1.1 z.1.2.2.1.1 z.1.2.2.2.1.1=(aN (fun y=>some (.inl y)) (oM au fun x=>some (.inr x)) z.1.1.1 z.1.2.2.1.1 z.1.2.2.2.1.1).bind (oH nx hx)
 unfold aN
 exact ae (ac fun _=>ac fun _=>ae rfl rfl) rfl
def aP:am.T->Option (xb au):=BJ @cP
theorem ep x0 x7 x8:aP (bv x0 x7 x8)=aN aP (oM au some) x0 x7 x8:=eU dV _
def bT:bQ:=⟨[0,1,7,8],[],[4],[]⟩
def ce:fQ Rv:=⟨fun k=>match k with|3=>bT|_=>⟨[],[],[],[]⟩,fun k=>match k with|3=>some (cu am au aP)|_=>none⟩
theorem ke(n:Nat)(z:am.T)(k:Ex->hZ->Option Rv):bL ⟨19,19⟩ bT (nG (ii C0 cc) ⟨19,19⟩ ce 1 (aL Tryz.f220 2)) (n+1) (am.enc z) k=
 cP (fun y=>bL ⟨19,19⟩ bT (nG (ii C0 cc) ⟨19,19⟩ ce 1 (aL Tryz.f220 2)) n (am.enc y) k) (hK k au) z:=by kernel_rfl
theorem kC:aw (ii C0 cc) ⟨19,19⟩ ce 1 (cp (bh Tryz.f220)):=by
 have hl:cp (bh Tryz.f220)=[aL Tryz.f220 2]:=by kernel_rfl
 rw[hl]
 exact aw.cons (n:=3) (lh:=bT) (S:=cu am au aP) (by kernel_rfl) rfl rfl (cy dV ke)
  (aw.nil)
def bD{R:Type}(kx:Int->Option R)(a0:(List Ln)):Option R:=
 Option.bind (aP (bv a0 ((List.length a0:Nat):Int) (0:Int))) (pD au
 (fun e1469=>
  kx (e1469.1.1.1:Int),fun _=>
  kx (-(1:Int)),()))
def bA(a0:(List Ln)):Option (Int):=bD some a0
theorem ks{R} kx a0: @bD R kx a0=(bA a0).bind kx:=by
 unfold bA bD
 exact cE ⟨fun _=>rfl,fun _=>rfl,trivial⟩
abbrev eW:af:=.fx [.val false (.slice yL), .clo 156 []] (Int) (fun z=>bA z.1) (fun b=>(.one ⟨false,[(.v (.int .i64 b))]⟩,[]))
theorem kG:ag C0 220 eW:=
 ag.fx (e:=false) (t:=cc) (.cons Hh (.nil)) mixed Tryz.func220 (by kernel_rfl) (by kernel_rfl) ce 1 kC (fun z=>(by kernel_rfl:_=bD (fun b=>some (eW.enc b)) z.1).trans (ks _ z.1))
def bo{R:Type}(kx:Bool->Option R)(a0:(List Ln)):Option R:=
 Option.bind (bA a0) fun y1472=>
 kx (decide (y1472>=(0:Int)))
def aU(a0:(List Ln)):Option (Bool):=bo some a0
theorem jK{R} kx a0: @bo R kx a0=(aU a0).bind kx:=by
 unfold aU bo
 exact ac fun _=>rfl
abbrev ek:af:=.fx [.val false (.slice yL), .clo 156 []] (Bool) (fun z=>aU z.1) (fun b=>(.one ⟨false,[(.v (.bool b))]⟩,[]))
theorem jO:ag C0 155 ek:=
 ag.fx (e:=false) (.cons kG (.nil)) mixed Tryz.func155 (by kernel_rfl) (by kernel_rfl) aj 1 ai (fun z=>(by kernel_rfl:_=bo (fun b=>some (ek.enc b)) z.1).trans (jK _ z.1))
def sQ{R:Type}(kx:Int->Option R)(a0:Int):Option R:=
 cond (decide (a0>=(4294967296:Int)))
 (cond (decide ((Int.fdiv a0 ((2:Int)^(Min.min (Int.toNat (32:Int)) 64)))>=(65536:Int)))
  (cond (decide ((Int.fdiv (Int.fdiv a0 ((2:Int)^(Min.min (Int.toNat (32:Int)) 64))) ((2:Int)^(Min.min (Int.toNat (16:Int)) 64)))>=(256:Int)))
   (Option.bind (Am (ByteArray.mk (Array.mk (List.append (List.append [0,1,2,2,3,3,3,3,4,4,4,4,4,4,4,4,5,5,5,5,5,5,5,5,5,5,5,5,5,5,5,5,6,6,6,6,6,6,6,6,6,6,6,6,6,6,6,6,6,6,6,6,6,6,6,6,6,6,6,6,6,6,6,6] [7,7,7,7,7,7,7,7,7,7,7,7,7,7,7,7,7,7,7,7,7,7,7,7,7,7,7,7,7,7,7,7,7,7,7,7,7,7,7,7,7,7,7,7,7,7,7,7,7,7,7,7,7,7,7,7,7,7,7,7,7,7,7,7]) (List.append [8,8,8,8,8,8,8,8,8,8,8,8,8,8,8,8,8,8,8,8,8,8,8,8,8,8,8,8,8,8,8,8,8,8,8,8,8,8,8,8,8,8,8,8,8,8,8,8,8,8,8,8,8,8,8,8,8,8,8,8,8,8,8,8] [8,8,8,8,8,8,8,8,8,8,8,8,8,8,8,8,8,8,8,8,8,8,8,8,8,8,8,8,8,8,8,8,8,8,8,8,8,8,8,8,8,8,8,8,8,8,8,8,8,8,8,8,8,8,8,8,8,8,8,8,8,8,8,8])))) (IntKind.wrap IntKind.u8 (Int.fdiv (Int.fdiv (Int.fdiv a0 ((2:Int)^(Min.min (Int.toNat (32:Int)) 64))) ((2:Int)^(Min.min (Int.toNat (16:Int)) 64))) ((2:Int)^(Min.min (Int.toNat (8:Int)) 64))))) fun y1477=>
    kx (IntKind.wrap .i64 ((IntKind.wrap .i64 ((IntKind.wrap .i64 ((32:Int)+(16:Int)))+(8:Int)))+(IntKind.wrap .i64 (((UInt8.toNat y1477):Nat):Int)))))
   (Option.bind (Am (ByteArray.mk (Array.mk (List.append (List.append [0,1,2,2,3,3,3,3,4,4,4,4,4,4,4,4,5,5,5,5,5,5,5,5,5,5,5,5,5,5,5,5,6,6,6,6,6,6,6,6,6,6,6,6,6,6,6,6,6,6,6,6,6,6,6,6,6,6,6,6,6,6,6,6] [7,7,7,7,7,7,7,7,7,7,7,7,7,7,7,7,7,7,7,7,7,7,7,7,7,7,7,7,7,7,7,7,7,7,7,7,7,7,7,7,7,7,7,7,7,7,7,7,7,7,7,7,7,7,7,7,7,7,7,7,7,7,7,7]) (List.append [8,8,8,8,8,8,8,8,8,8,8,8,8,8,8,8,8,8,8,8,8,8,8,8,8,8,8,8,8,8,8,8,8,8,8,8,8,8,8,8,8,8,8,8,8,8,8,8,8,8,8,8,8,8,8,8,8,8,8,8,8,8,8,8] [8,8,8,8,8,8,8,8,8,8,8,8,8,8,8,8,8,8,8,8,8,8,8,8,8,8,8,8,8,8,8,8,8,8,8,8,8,8,8,8,8,8,8,8,8,8,8,8,8,8,8,8,8,8,8,8,8,8,8,8,8,8,8,8])))) (IntKind.wrap IntKind.u8 (Int.fdiv (Int.fdiv a0 ((2:Int)^(Min.min (Int.toNat (32:Int)) 64))) ((2:Int)^(Min.min (Int.toNat (16:Int)) 64))))) fun y1478=>
    kx (IntKind.wrap .i64 ((IntKind.wrap .i64 ((32:Int)+(16:Int)))+(IntKind.wrap .i64 (((UInt8.toNat y1478):Nat):Int))))))
  (cond (decide ((Int.fdiv a0 ((2:Int)^(Min.min (Int.toNat (32:Int)) 64)))>=(256:Int)))
   (Option.bind (Am (ByteArray.mk (Array.mk (List.append (List.append [0,1,2,2,3,3,3,3,4,4,4,4,4,4,4,4,5,5,5,5,5,5,5,5,5,5,5,5,5,5,5,5,6,6,6,6,6,6,6,6,6,6,6,6,6,6,6,6,6,6,6,6,6,6,6,6,6,6,6,6,6,6,6,6] [7,7,7,7,7,7,7,7,7,7,7,7,7,7,7,7,7,7,7,7,7,7,7,7,7,7,7,7,7,7,7,7,7,7,7,7,7,7,7,7,7,7,7,7,7,7,7,7,7,7,7,7,7,7,7,7,7,7,7,7,7,7,7,7]) (List.append [8,8,8,8,8,8,8,8,8,8,8,8,8,8,8,8,8,8,8,8,8,8,8,8,8,8,8,8,8,8,8,8,8,8,8,8,8,8,8,8,8,8,8,8,8,8,8,8,8,8,8,8,8,8,8,8,8,8,8,8,8,8,8,8] [8,8,8,8,8,8,8,8,8,8,8,8,8,8,8,8,8,8,8,8,8,8,8,8,8,8,8,8,8,8,8,8,8,8,8,8,8,8,8,8,8,8,8,8,8,8,8,8,8,8,8,8,8,8,8,8,8,8,8,8,8,8,8,8])))) (IntKind.wrap IntKind.u8 (Int.fdiv (Int.fdiv a0 ((2:Int)^(Min.min (Int.toNat (32:Int)) 64))) ((2:Int)^(Min.min (Int.toNat (8:Int)) 64))))) fun y1479=>
    kx (IntKind.wrap .i64 ((IntKind.wrap .i64 ((32:Int)+(8:Int)))+(IntKind.wrap .i64 (((UInt8.toNat y1479):Nat):Int)))))
   (Option.bind (Am (ByteArray.mk (Array.mk (List.append (List.append [0,1,2,2,3,3,3,3,4,4,4,4,4,4,4,4,5,5,5,5,5,5,5,5,5,5,5,5,5,5,5,5,6,6,6,6,6,6,6,6,6,6,6,6,6,6,6,6,6,6,6,6,6,6,6,6,6,6,6,6,6,6,6,6] [7,7,7,7,7,7,7,7,7,7,7,7,7,7,7,7,7,7,7,7,7,7,7,7,7,7,7,7,7,7,7,7,7,7,7,7,7,7,7,7,7,7,7,7,7,7,7,7,7,7,7,7,7,7,7,7,7,7,7,7,7,7,7,7]) (List.append [8,8,8,8,8,8,8,8,8,8,8,8,8,8,8,8,8,8,8,8,8,8,8,8,8,8,8,8,8,8,8,8,8,8,8,8,8,8,8,8,8,8,8,8,8,8,8,8,8,8,8,8,8,8,8,8,8,8,8,8,8,8,8,8] [8,8,8,8,8,8,8,8,8,8,8,8,8,8,8,8,8,8,8,8,8,8,8,8,8,8,8,8,8,8,8,8,8,8,8,8,8,8,8,8,8,8,8,8,8,8,8,8,8,8,8,8,8,8,8,8,8,8,8,8,8,8,8,8])))) (IntKind.wrap IntKind.u8 (Int.fdiv a0 ((2:Int)^(Min.min (Int.toNat (32:Int)) 64))))) fun y1480=>
    kx (IntKind.wrap .i64 ((32:Int)+(IntKind.wrap .i64 (((UInt8.toNat y1480):Nat):Int)))))))
 (cond (decide (a0>=(65536:Int)))
  (cond (decide ((Int.fdiv a0 ((2:Int)^(Min.min (Int.toNat (16:Int)) 64)))>=(256:Int)))
   (Option.bind (Am (ByteArray.mk (Array.mk (List.append (List.append [0,1,2,2,3,3,3,3,4,4,4,4,4,4,4,4,5,5,5,5,5,5,5,5,5,5,5,5,5,5,5,5,6,6,6,6,6,6,6,6,6,6,6,6,6,6,6,6,6,6,6,6,6,6,6,6,6,6,6,6,6,6,6,6] [7,7,7,7,7,7,7,7,7,7,7,7,7,7,7,7,7,7,7,7,7,7,7,7,7,7,7,7,7,7,7,7,7,7,7,7,7,7,7,7,7,7,7,7,7,7,7,7,7,7,7,7,7,7,7,7,7,7,7,7,7,7,7,7]) (List.append [8,8,8,8,8,8,8,8,8,8,8,8,8,8,8,8,8,8,8,8,8,8,8,8,8,8,8,8,8,8,8,8,8,8,8,8,8,8,8,8,8,8,8,8,8,8,8,8,8,8,8,8,8,8,8,8,8,8,8,8,8,8,8,8] [8,8,8,8,8,8,8,8,8,8,8,8,8,8,8,8,8,8,8,8,8,8,8,8,8,8,8,8,8,8,8,8,8,8,8,8,8,8,8,8,8,8,8,8,8,8,8,8,8,8,8,8,8,8,8,8,8,8,8,8,8,8,8,8])))) (IntKind.wrap IntKind.u8 (Int.fdiv (Int.fdiv a0 ((2:Int)^(Min.min (Int.toNat (16:Int)) 64))) ((2:Int)^(Min.min (Int.toNat (8:Int)) 64))))) fun y1481=>
    kx (IntKind.wrap .i64 ((IntKind.wrap .i64 ((IntKind.wrap .i64 ((0:Int)+(16:Int)))+(8:Int)))+(IntKind.wrap .i64 (((UInt8.toNat y1481):Nat):Int)))))
   (Option.bind (Am (ByteArray.mk (Array.mk (List.append (List.append [0,1,2,2,3,3,3,3,4,4,4,4,4,4,4,4,5,5,5,5,5,5,5,5,5,5,5,5,5,5,5,5,6,6,6,6,6,6,6,6,6,6,6,6,6,6,6,6,6,6,6,6,6,6,6,6,6,6,6,6,6,6,6,6] [7,7,7,7,7,7,7,7,7,7,7,7,7,7,7,7,7,7,7,7,7,7,7,7,7,7,7,7,7,7,7,7,7,7,7,7,7,7,7,7,7,7,7,7,7,7,7,7,7,7,7,7,7,7,7,7,7,7,7,7,7,7,7,7]) (List.append [8,8,8,8,8,8,8,8,8,8,8,8,8,8,8,8,8,8,8,8,8,8,8,8,8,8,8,8,8,8,8,8,8,8,8,8,8,8,8,8,8,8,8,8,8,8,8,8,8,8,8,8,8,8,8,8,8,8,8,8,8,8,8,8] [8,8,8,8,8,8,8,8,8,8,8,8,8,8,8,8,8,8,8,8,8,8,8,8,8,8,8,8,8,8,8,8,8,8,8,8,8,8,8,8,8,8,8,8,8,8,8,8,8,8,8,8,8,8,8,8,8,8,8,8,8,8,8,8])))) (IntKind.wrap IntKind.u8 (Int.fdiv a0 ((2:Int)^(Min.min (Int.toNat (16:Int)) 64))))) fun y1482=>
    kx (IntKind.wrap .i64 ((IntKind.wrap .i64 ((0:Int)+(16:Int)))+(IntKind.wrap .i64 (((UInt8.toNat y1482):Nat):Int))))))
  (cond (decide (a0>=(256:Int)))
   (Option.bind (Am (ByteArray.mk (Array.mk (List.append (List.append [0,1,2,2,3,3,3,3,4,4,4,4,4,4,4,4,5,5,5,5,5,5,5,5,5,5,5,5,5,5,5,5,6,6,6,6,6,6,6,6,6,6,6,6,6,6,6,6,6,6,6,6,6,6,6,6,6,6,6,6,6,6,6,6] [7,7,7,7,7,7,7,7,7,7,7,7,7,7,7,7,7,7,7,7,7,7,7,7,7,7,7,7,7,7,7,7,7,7,7,7,7,7,7,7,7,7,7,7,7,7,7,7,7,7,7,7,7,7,7,7,7,7,7,7,7,7,7,7]) (List.append [8,8,8,8,8,8,8,8,8,8,8,8,8,8,8,8,8,8,8,8,8,8,8,8,8,8,8,8,8,8,8,8,8,8,8,8,8,8,8,8,8,8,8,8,8,8,8,8,8,8,8,8,8,8,8,8,8,8,8,8,8,8,8,8] [8,8,8,8,8,8,8,8,8,8,8,8,8,8,8,8,8,8,8,8,8,8,8,8,8,8,8,8,8,8,8,8,8,8,8,8,8,8,8,8,8,8,8,8,8,8,8,8,8,8,8,8,8,8,8,8,8,8,8,8,8,8,8,8])))) (IntKind.wrap IntKind.u8 (Int.fdiv a0 ((2:Int)^(Min.min (Int.toNat (8:Int)) 64))))) fun y1483=>
    kx (IntKind.wrap .i64 ((IntKind.wrap .i64 ((0:Int)+(8:Int)))+(IntKind.wrap .i64 (((UInt8.toNat y1483):Nat):Int)))))
   (Option.bind (Am (ByteArray.mk (Array.mk (List.append (List.append [0,1,2,2,3,3,3,3,4,4,4,4,4,4,4,4,5,5,5,5,5,5,5,5,5,5,5,5,5,5,5,5,6,6,6,6,6,6,6,6,6,6,6,6,6,6,6,6,6,6,6,6,6,6,6,6,6,6,6,6,6,6,6,6] [7,7,7,7,7,7,7,7,7,7,7,7,7,7,7,7,7,7,7,7,7,7,7,7,7,7,7,7,7,7,7,7,7,7,7,7,7,7,7,7,7,7,7,7,7,7,7,7,7,7,7,7,7,7,7,7,7,7,7,7,7,7,7,7]) (List.append [8,8,8,8,8,8,8,8,8,8,8,8,8,8,8,8,8,8,8,8,8,8,8,8,8,8,8,8,8,8,8,8,8,8,8,8,8,8,8,8,8,8,8,8,8,8,8,8,8,8,8,8,8,8,8,8,8,8,8,8,8,8,8,8] [8,8,8,8,8,8,8,8,8,8,8,8,8,8,8,8,8,8,8,8,8,8,8,8,8,8,8,8,8,8,8,8,8,8,8,8,8,8,8,8,8,8,8,8,8,8,8,8,8,8,8,8,8,8,8,8,8,8,8,8,8,8,8,8])))) (IntKind.wrap IntKind.u8 a0)) fun y1484=>
    kx (IntKind.wrap .i64 ((0:Int)+(IntKind.wrap .i64 (((UInt8.toNat y1484):Nat):Int)))))))
def sC(a0:Int):Option (Int):=sQ some a0
theorem Jk{R} kx a0: @sQ R kx a0=(sC a0).bind kx:=by
 unfold sC sQ
 exact ae (ae (ae (ac fun _=>rfl) (ac fun _=>rfl)) (ae (ac fun _=>rfl) (ac fun _=>rfl))) (ae (ae (ac fun _=>rfl) (ac fun _=>rfl)) (ae (ac fun _=>rfl) (ac fun _=>rfl)))
abbrev DW:af:=.fx [.val false (.int .u64)] (Int) (fun z=>sC z.1) (fun b=>(.one ⟨false,[(.v (.int .i64 b))]⟩,[]))
theorem Lb:ag C0 237 DW:=
 ag.fx (e:=false) (.nil) mixed Tryz.func237 (by kernel_rfl) (by kernel_rfl) aj 1 ai (fun z=>(by kernel_rfl:_=sQ (fun b=>some (DW.enc b)) z.1).trans (Jk _ z.1))
def vZ{R:Type}(kx:Int->Option R)(a0:Int):Option R:=
 Option.bind (sC a0) fun y1485=>
 kx y1485
def rr(a0:Int):Option (Int):=vZ some a0
theorem Mk{R} kx a0: @vZ R kx a0=(rr a0).bind kx:=by
 unfold rr vZ
 exact ac fun _=>rfl
abbrev GI:af:=.fx [.val false (.int .u64)] (Int) (fun z=>rr z.1) (fun b=>(.one ⟨false,[(.v (.int .i64 b))]⟩,[]))
theorem Oh:ag C0 222 GI:=
 ag.fx (e:=false) (.cons Lb (.nil)) mixed Tryz.func222 (by kernel_rfl) (by kernel_rfl) aj 1 ai (fun z=>(by kernel_rfl:_=vZ (fun b=>some (GI.enc b)) z.1).trans (Mk _ z.1))
def mp{R:Type}(kx:Bool->Option R)(a0:Int):Option R:=
 kx (a0 !=a0)
def jS(a0:Int):Option (Bool):=mp some a0
theorem Jb{R} kx a0: @mp R kx a0=(jS a0).bind kx:=by
 unfold jS mp
 exact rfl
abbrev DO:af:=.fx [.val false (.int .i64)] (Bool) (fun z=>jS z.1) (fun b=>(.one ⟨false,[(.v (.bool b))]⟩,[]))
theorem K5:ag C0 223 DO:=
 ag.fx (e:=false) (.nil) mixed Tryz.func223 (by kernel_rfl) (by kernel_rfl) aj 1 ai (fun z=>(by kernel_rfl:_=mp (fun b=>some (DO.enc b)) z.1).trans (Jb _ z.1))
def mX{R:Type}(kx:Int->Option R)(a0:Int)(a1:Int):Option R:=
 Option.bind (jS a0) fun y1519=>
 Option.bind (jS a1) fun y1520=>
 cond y1519
 (cond y1520
  (kx (0:Int))
  (kx (-(1:Int))))
 (cond y1520
  (kx (1:Int))
  (cond (decide (a0<a1))
   (kx (-(1:Int)))
   (cond (decide (a0>a1))
    (kx (1:Int))
    (kx (0:Int)))))
def kp(a0:Int)(a1:Int):Option (Int):=mX some a0 a1
theorem G8{R} kx a0 a1: @mX R kx a0 a1=(kp a0 a1).bind kx:=by
 unfold kp mX
 exact ac fun _=>ac fun _=>ae (ae rfl rfl) (ae rfl (ae rfl (ae rfl rfl)))
abbrev AW:af:=.fx [.val false (.int .i64), .val false (.int .i64)] (Int) (fun z=>kp z.1 z.2.1) (fun b=>(.one ⟨false,[(.v (.int .i64 b))]⟩,[]))
theorem Is:ag C0 160 AW:=
 ag.fx (e:=false) (.cons K5 (.nil)) mixed Tryz.func160 (by kernel_rfl) (by kernel_rfl) aj 1 ai (fun z=>(by kernel_rfl:_=mX (fun b=>some (AW.enc b)) z.1 z.2.1).trans (G8 _ z.1 z.2.1))
def vk{R:Type}(kx:Int->Option R)(a0:Int):Option R:=
 kx (if(Bool.true=Bool.true)then(if((if(Bool.false=Bool.true)then(if(a0>(1:Int))then a0 else(1:Int))else(if(a0<(1:Int))then a0 else(1:Int)))>(-(1:Int)))then(if(Bool.false=Bool.true)then(if(a0>(1:Int))then a0 else(1:Int))else(if(a0<(1:Int))then a0 else(1:Int)))else(-(1:Int)))else(if((if(Bool.false=Bool.true)then(if(a0>(1:Int))then a0 else(1:Int))else(if(a0<(1:Int))then a0 else(1:Int)))<(-(1:Int)))then(if(Bool.false=Bool.true)then(if(a0>(1:Int))then a0 else(1:Int))else(if(a0<(1:Int))then a0 else(1:Int)))else(-(1:Int))))
def pG(a0:Int):Option (Int):=vk some a0
theorem PF{R} kx a0: @vk R kx a0=(pG a0).bind kx:=by
 unfold pG vk
 exact rfl
abbrev JU:af:=.fx [.val false (.int .i64)] (Int) (fun z=>pG z.1) (fun b=>(.one ⟨false,[(.v (.int .i64 b))]⟩,[]))
theorem Sj:ag C0 224 JU:=
 ag.fx (e:=false) (.nil) mixed Tryz.func224 (by kernel_rfl) (by kernel_rfl) aj 1 ai (fun z=>(by kernel_rfl:_=vk (fun b=>some (JU.enc b)) z.1).trans (PF _ z.1))
def yD{R:Type}(kx:Int->Option R)(a0:Int):Option R:=
 kx (if(Bool.true=Bool.true)then(if((IntKind.wrap .i64 ((0:Int)-a0))>a0)then(IntKind.wrap .i64 ((0:Int)-a0))else a0)else(if((IntKind.wrap .i64 ((0:Int)-a0))<a0)then(IntKind.wrap .i64 ((0:Int)-a0))else a0))
def pE(a0:Int):Option (Int):=yD some a0
theorem UE{R} kx a0: @yD R kx a0=(pE a0).bind kx:=by
 unfold pE yD
 exact rfl
abbrev Ro:af:=.fx [.val false (.int .i64)] (Int) (fun z=>pE z.1) (fun b=>(.one ⟨false,[(.v (.int .i64 b))]⟩,[]))
theorem VZ:ag C0 251 Ro:=
 ag.fx (e:=false) (.nil) mixed Tryz.func251 (by kernel_rfl) (by kernel_rfl) aj 1 ai (fun z=>(by kernel_rfl:_=yD (fun b=>some (Ro.enc b)) z.1).trans (UE _ z.1))
def mq{R:Type}(kx:Int×Int->Option R)(a0:Int)(a1:Int):Option R:=
 kx ((IntKind.wrap IntKind.u64 ((IntKind.wrap IntKind.u64 ((IntKind.wrap IntKind.u64 ((Int.fdiv a0 ((2:Int)^(Min.min (Int.toNat (32:Int)) 64)))*(Int.fdiv a1 ((2:Int)^(Min.min (Int.toNat (32:Int)) 64)))))+(Int.fdiv (IntKind.wrap IntKind.u64 ((IntKind.wrap IntKind.u64 ((Int.fdiv a0 ((2:Int)^(Min.min (Int.toNat (32:Int)) 64)))*(IntKind.wrap IntKind.u64 (((BitVec.toNat ((BitVec.ofInt 64 a1)&&&(BitVec.ofInt 64 (4294967295:Int)))):Nat):Int))))+(Int.fdiv (IntKind.wrap IntKind.u64 ((IntKind.wrap IntKind.u64 (((BitVec.toNat ((BitVec.ofInt 64 a0)&&&(BitVec.ofInt 64 (4294967295:Int)))):Nat):Int))*(IntKind.wrap IntKind.u64 (((BitVec.toNat ((BitVec.ofInt 64 a1)&&&(BitVec.ofInt 64 (4294967295:Int)))):Nat):Int)))) ((2:Int)^(Min.min (Int.toNat (32:Int)) 64))))) ((2:Int)^(Min.min (Int.toNat (32:Int)) 64)))))+(Int.fdiv (IntKind.wrap IntKind.u64 ((IntKind.wrap IntKind.u64 (((BitVec.toNat ((BitVec.ofInt 64 (IntKind.wrap IntKind.u64 ((IntKind.wrap IntKind.u64 ((Int.fdiv a0 ((2:Int)^(Min.min (Int.toNat (32:Int)) 64)))*(IntKind.wrap IntKind.u64 (((BitVec.toNat ((BitVec.ofInt 64 a1)&&&(BitVec.ofInt 64 (4294967295:Int)))):Nat):Int))))+(Int.fdiv (IntKind.wrap IntKind.u64 ((IntKind.wrap IntKind.u64 (((BitVec.toNat ((BitVec.ofInt 64 a0)&&&(BitVec.ofInt 64 (4294967295:Int)))):Nat):Int))*(IntKind.wrap IntKind.u64 (((BitVec.toNat ((BitVec.ofInt 64 a1)&&&(BitVec.ofInt 64 (4294967295:Int)))):Nat):Int)))) ((2:Int)^(Min.min (Int.toNat (32:Int)) 64))))))&&&(BitVec.ofInt 64 (4294967295:Int)))):Nat):Int))+(IntKind.wrap IntKind.u64 ((IntKind.wrap IntKind.u64 (((BitVec.toNat ((BitVec.ofInt 64 a0)&&&(BitVec.ofInt 64 (4294967295:Int)))):Nat):Int))*(Int.fdiv a1 ((2:Int)^(Min.min (Int.toNat (32:Int)) 64))))))) ((2:Int)^(Min.min (Int.toNat (32:Int)) 64))))),(IntKind.wrap IntKind.u64 (a0*a1)))
def gn(a0:Int)(a1:Int):Option (Int×Int):=mq some a0 a1
theorem Jl{R} kx a0 a1: @mq R kx a0 a1=(gn a0 a1).bind kx:=by
 unfold gn mq
 exact rfl
abbrev DX:af:=.fx [.val false (.int .u64), .val false (.int .u64)] (Int×Int) (fun z=>gn z.1 z.2.1) (fun b=>(.tup [⟨false,[(.v (.int .u64 b.1))]⟩,⟨false,[(.v (.int .u64 b.2))]⟩],[]))
theorem Lc:ag C0 278 DX:=
 ag.fx (e:=false) (.nil) mixed Tryz.func278 (by kernel_rfl) (by kernel_rfl) aj 1 ai (fun z=>(by kernel_rfl:_=mq (fun b=>some (DX.enc b)) z.1 z.2.1).trans (Jl _ z.1 z.2.1))
def nA{R:Type}(kx:Bool->Option R)(a0:Int)(a1:Int):Option R:=
 Option.bind (pE a0) fun y1532=>
 Option.bind (pE a0) fun y1533=>
 Option.bind (gn (IntKind.wrap IntKind.u64 y1532) (IntKind.wrap IntKind.u64 y1533)) fun y1536=>
 Option.bind (pE a1) fun y1537=>
 Option.bind (pE a1) fun y1538=>
 Option.bind (gn (IntKind.wrap IntKind.u64 y1537) (IntKind.wrap IntKind.u64 y1538)) fun y1539=>
 cond (decide (y1536.1>(IntKind.wrap IntKind.u64 (((BitVec.toNat ((BitVec.ofInt 64 (IntKind.wrap IntKind.u64 (y1539.1*((2:Int)^(Min.min (Int.toNat (1:Int)) 64)))))|||(BitVec.ofInt 64 (Int.fdiv y1539.2 ((2:Int)^(Min.min (Int.toNat (63:Int)) 64)))))):Nat):Int))))
 (kx Bool.true)
 (cond (y1536.1==(IntKind.wrap IntKind.u64 (((BitVec.toNat ((BitVec.ofInt 64 (IntKind.wrap IntKind.u64 (y1539.1*((2:Int)^(Min.min (Int.toNat (1:Int)) 64)))))|||(BitVec.ofInt 64 (Int.fdiv y1539.2 ((2:Int)^(Min.min (Int.toNat (63:Int)) 64)))))):Nat):Int)))
  (kx (decide (y1536.2>(IntKind.wrap IntKind.u64 (y1539.2*((2:Int)^(Min.min (Int.toNat (1:Int)) 64)))))))
  (kx Bool.false))
def ic(a0:Int)(a1:Int):Option (Bool):=nA some a0 a1
theorem KJ{R} kx a0 a1: @nA R kx a0 a1=(ic a0 a1).bind kx:=by
 unfold ic nA
 exact ac fun _=>ac fun _=>ac fun _=>ac fun _=>ac fun _=>ac fun _=>ae rfl (ae rfl rfl)
abbrev Fi:af:=.fx [.val false (.int .i64), .val false (.int .i64)] (Bool) (fun z=>ic z.1 z.2.1) (fun b=>(.one ⟨false,[(.v (.bool b))]⟩,[]))
theorem ML:ag C0 225 Fi:=
 ag.fx (e:=false) (.cons VZ (.cons Lc (.nil))) mixed Tryz.func225 (by kernel_rfl) (by kernel_rfl) aj 1 ai (fun z=>(by kernel_rfl:_=nA (fun b=>some (Fi.enc b)) z.1 z.2.1).trans (KJ _ z.1 z.2.1))
def rD{R:Type}(kx:Int->Option R)(a0:Nm):Option R:=
 Option.bind (pG a0.1) fun y1527=>
 Option.bind (pG a0.2.1) fun y1528=>
 cond (y1527==y1528)
 (kx y1527)
 (cond (y1528==(0:Int))
  (kx y1527)
  (cond (y1527==(0:Int))
   (kx y1528)
   (Option.bind (ic a0.1 a0.2.1) fun y1540=>
    cond (!y1540)
    (kx y1528)
    (kx y1527))))
def ee(a0:Nm):Option (Int):=rD some a0
theorem Mf{R} kx a0: @rD R kx a0=(ee a0).bind kx:=by
 unfold ee rD
 exact ac fun _=>ac fun _=>ae rfl (ae rfl (ae rfl (ac fun _=>ae rfl rfl)))
abbrev An:af:=.fx [.val true yN] (Int) (fun z=>ee z.1) (fun b=>(.one ⟨false,[(.v (.int .i64 b))]⟩,[]))
theorem yw:ag C0 169 An:=
 ag.fx (e:=false) (.cons Sj (.cons ML (.nil))) mixed Tryz.func169 (by kernel_rfl) (by kernel_rfl) aj 1 ai (fun z=>(by kernel_rfl:_=rD (fun b=>some (An.enc b)) z.1).trans (Mf _ z.1))
def oc{R:Type}(kx:Int->Option R)(a0:Nm)(a1:Nm):Option R:=
 Option.bind (cq a0 a1) fun y1524=>
 Option.bind (ee y1524) fun y1541=>
 kx y1541
def ld(a0:Nm)(a1:Nm):Option (Int):=oc some a0 a1
theorem Ic{R} kx a0 a1: @oc R kx a0 a1=(ld a0 a1).bind kx:=by
 unfold ld oc
 exact ac fun _=>ac fun _=>rfl
abbrev Cq:af:=.fx [.val true yN, .val true yN] (Int) (fun z=>ld z.1 z.2.1) (fun b=>(.one ⟨false,[(.v (.int .i64 b))]⟩,[]))
theorem Jv:ag C0 161 Cq:=
 ag.fx (e:=false) (.cons kc (.cons yw (.nil))) mixed Tryz.func161 (by kernel_rfl) (by kernel_rfl) aj 1 ai (fun z=>(by kernel_rfl:_=oc (fun b=>some (Cq.enc b)) z.1 z.2.1).trans (Ic _ z.1 z.2.1))
def Bo:List (FuncId×af):=[]
abbrev iS:LS:=⟨[(false,[(.int .i64)]),(false,[(.sl (.int .i64))]),(false,[(.int .i64)]),(false,[(.int .i64)])],[],[]⟩
abbrev E1:LS:=⟨[(false,[(.int .i64)]),(false,[(.int .i64)])],[],[]⟩
abbrev Nn(v0:Int)(v1:Int):=((((v0,()),(v1,()),()),(),()):E1.T)
abbrev E2:LS:=⟨[(false,[.undef]),(false,[(.int .i64)])],[],[]⟩
abbrev No(v0:Int):=(((((),()),(v0,()),()),(),()):E2.T)
abbrev km:List (Ex×LS):=[(.ret,E1),(.exit 0,E2)]
abbrev CE(x3:Int)(x6:List Int)(x7:Int)(x8:Int):=((((x3,()),(x6,()),(x7,()),(x8,()),()),(),()):iS.T)
def qL{R:Type}(nx:iS.T->Option R)(hx:lF R km)(x3:Int)(x6:List Int)(x7:Int)(x8:Int):Option R:=
 cond (decide (x8<x7))
 (Option.bind (fY x6 x8) fun y1548=>
  cond (y1548 !=x3)
  (hx.1 (Nn y1548 x3))
  (nx (CE x3 x6 x7 (IntKind.wrap .i64 (x8+(1:Int))))))
 (hx.2.1 (No x3))
def C7{R:Type}(nx:iS.T->Option R)(hx:lF R km)(z:iS.T):Option R:=qL nx hx z.1.1.1 z.1.2.1.1 z.1.2.2.1.1 z.1.2.2.2.1.1
theorem Fy:cY @C7:=fun R nx hx z=>by
 show qL nx hx z.1.1.1 z.1.2.1.1 z.1.2.2.1.1 z.1.2.2.2.1.1=(qL (fun y=>some (.inl y)) (oM km fun x=>some (.inr x)) z.1.1.1 z.1.2.1.1 z.1.2.2.1.1 z.1.2.2.2.1.1).bind (oH nx hx)
 unfold qL
 exact ae (ac fun _=>ae rfl rfl) rfl
def tJ:iS.T->Option (xb km):=BJ @C7
theorem Qq x3 x6 x7 x8:tJ (CE x3 x6 x7 x8)=qL tJ (oM km some) x3 x6 x7 x8:=eU Fy _
def vP:bQ:=⟨[3,6,7,8],[],[2,3],[]⟩
def Bv:fQ Rv:=⟨fun k=>match k with|4=>vP|_=>⟨[],[],[],[]⟩,fun k=>match k with|4=>some (cu iS km tJ)|_=>none⟩
theorem Qm(n:Nat)(z:iS.T)(k:Ex->hZ->Option Rv):bL ⟨18,18⟩ vP (nG (ii C0 Bo) ⟨18,18⟩ Bv 1 (aL Tryz.f159 3)) (n+1) (iS.enc z) k=
 C7 (fun y=>bL ⟨18,18⟩ vP (nG (ii C0 Bo) ⟨18,18⟩ Bv 1 (aL Tryz.f159 3)) n (iS.enc y) k) (hK k km) z:=by kernel_rfl
theorem SO:aw (ii C0 Bo) ⟨18,18⟩ Bv 1 (cp (bh Tryz.f159)):=by
 have hl:cp (bh Tryz.f159)=[aL Tryz.f159 3]:=by kernel_rfl
 rw[hl]
 exact aw.cons (n:=4) (lh:=vP) (S:=cu iS km tJ) (by kernel_rfl) rfl rfl (cy Fy Qm)
  (aw.nil)
def xG{R:Type}(kx:Int->Option R)(a0:(List Int)):Option R:=
 Option.bind (tJ (CE (0:Int) a0 ((List.length a0:Nat):Int) (0:Int))) (pD km
 (fun e1549=>
  kx (e1549.1.1.1:Int),fun e1552=>
  kx (e1552.1.2.1.1:Int),()))
def xc(a0:(List Int)):Option (Int):=xG some a0
theorem RK{R} kx a0: @xG R kx a0=(xc a0).bind kx:=by
 unfold xc xG
 exact cE ⟨fun _=>rfl,fun _=>rfl,trivial⟩
abbrev LV:af:=.fx [.val false (.slice (.int .i64))] (Int) (fun z=>xc z.1) (fun b=>(.one ⟨false,[(.v (.int .i64 b))]⟩,[]))
theorem S5:ag C0 159 LV:=
 ag.fx (e:=false) (t:=Bo) (.nil) mixed Tryz.func159 (by kernel_rfl) (by kernel_rfl) Bv 1 SO (fun z=>(by kernel_rfl:_=xG (fun b=>some (LV.enc b)) z.1).trans (RK _ z.1))
def lV{R:Type}(kx:Int->Option R)(a0:Ln)(a1:Ln):Option R:=
 Option.bind (kp a0.1 a1.1) fun y1521=>
 Option.bind (ld a0.2 a1.2) fun y1542=>
 Option.bind (xc [y1521,y1542]) fun y1554=>
 kx y1554
def jz(a0:Ln)(a1:Ln):Option (Int):=lV some a0 a1
theorem Gm{R} kx a0 a1: @lV R kx a0 a1=(jz a0 a1).bind kx:=by
 unfold jz lV
 exact ac fun _=>ac fun _=>ac fun _=>rfl
abbrev td:af:=.fx [.val true yL, .val true yL] (Int) (fun z=>jz z.1 z.2.1) (fun b=>(.one ⟨false,[(.v (.int .i64 b))]⟩,[]))
theorem Hi:ag C0 158 td:=
 ag.fx (e:=false) (.cons Is (.cons Jv (.cons S5 (.nil)))) mixed Tryz.func158 (by kernel_rfl) (by kernel_rfl) aj 1 ai (fun z=>(by kernel_rfl:_=lV (fun b=>some (td.enc b)) z.1 z.2.1).trans (Gm _ z.1 z.2.1))
def aX:List (FuncId×af):=[(158,td)]
abbrev ap:LS:=⟨[(false,[(.view (.arg 0) true 0 yL)]),(false,[(.int .i64)]),(false,[(.int .i64)]),(false,[(.fn 158 [])]),(false,[(.int .i64)]),(false,[(.int .i64)])],[],[(.own yL)]⟩
abbrev dU:LS:=⟨[(false,[(.view (.arg 0) true 0 yL)]),(false,[(.int .i64)]),(false,[(.int .i64)]),(false,[(.fn 158 [])]),(false,[(.int .i64)])],[],[(.own yL)]⟩
abbrev dO v0(v1:Int)(v2:Int)(v3:Int) v4:=((((v0,()),(v1,()),(v2,()),((),()),(v3,()),()),(),(v4,())):dU.T)
abbrev aD:List (Ex×LS):=[(.exit 2,dU)]
abbrev cO x0(x1:Int)(x2:Int)(x8:Int)(x9:Int) o:=((((x0,()),(x1,()),(x2,()),((),()),(x8,()),(x9,()),()),(),(o,())):ap.T)
def aJ{R:Type}(nx:ap.T->Option R)(hx:lF R aD)(x0:List Ln)(x1:Int)(x2:Int)(x8:Int)(x9:Int)(o:List Ln):Option R:=
 cond (decide (x9>x1))
 (Option.bind (fY x0 x9) fun y1512=>
  Option.bind (fY x0 (IntKind.wrap .i64 (x9-(1:Int)))) fun y1513=>
  Option.bind (jz y1512 y1513) fun y1555=>
  cond (decide (y1555<(0:Int)))
  (Option.bind (fY x0 (IntKind.wrap .i64 (x9-(1:Int)))) fun y1556=>
   Option.bind (fY x0 x9) fun y1557=>
   Option.bind (fY x0 x9) fun _=>
   Option.bind (fY (List.set x0 (0+(Int.toNat x9)) y1556) (IntKind.wrap .i64 (x9-(1:Int)))) fun _=>
   nx (cO (List.set (List.set x0 (0+(Int.toNat x9)) y1556) (0+(Int.toNat (IntKind.wrap .i64 (x9-(1:Int))))) y1557) x1 x2 x8 (IntKind.wrap .i64 (x9-(1:Int))) (List.set (List.set o (0+(Int.toNat x9)) y1556) (0+(Int.toNat (IntKind.wrap .i64 (x9-(1:Int))))) y1557)))
  (hx.1 (dO x0 x1 x2 x8 o)))
 (hx.1 (dO x0 x1 x2 x8 o))
def cS{R:Type}(nx:ap.T->Option R)(hx:lF R aD)(z:ap.T):Option R:=aJ nx hx z.1.1.1 z.1.2.1.1 z.1.2.2.1.1 z.1.2.2.2.2.1.1 z.1.2.2.2.2.2.1.1 z.2.2.1
theorem dY:cY @cS:=fun R nx hx z=>by
 show aJ nx hx z.1.1.1 z.1.2.1.1 z.1.2.2.1.1 z.1.2.2.2.2.1.1 z.1.2.2.2.2.2.1.1 z.2.2.1=(aJ (fun y=>some (.inl y)) (oM aD fun x=>some (.inr x)) z.1.1.1 z.1.2.1.1 z.1.2.2.1.1 z.1.2.2.2.2.1.1 z.1.2.2.2.2.2.1.1 z.2.2.1).bind (oH nx hx)
 unfold aJ
 exact ae (ac fun _=>ac fun _=>ac fun _=>ae (ac fun _=>ac fun _=>ac fun _=>ac fun _=>rfl) rfl) rfl
def bz:ap.T->Option (xb aD):=BJ @cS
theorem cN x0 x1 x2 x8 x9 o:bz (cO x0 x1 x2 x8 x9 o)=aJ bz (oM aD some) x0 x1 x2 x8 x9 o:=eU dY _
def bW:bQ:=⟨[0,1,2,3,8,9],[],[0,1,2,3,8],[]⟩
abbrev ao:LS:=⟨[(false,[(.view (.arg 0) true 0 yL)]),(false,[(.int .i64)]),(false,[(.int .i64)]),(false,[(.fn 158 [])]),(false,[(.int .i64)])],[],[(.own yL)]⟩
abbrev dT:LS:=⟨[],[],[(.own yL)]⟩
abbrev cI v0:=(((),(),(v0,())):dT.T)
abbrev aC:List (Ex×LS):=[(.exit 0,dT)]
abbrev aI x0(x1:Int)(x2:Int)(x8:Int) o:=((((x0,()),(x1,()),(x2,()),((),()),(x8,()),()),(),(o,())):ao.T)
def aq{R:Type}(nx:ao.T->Option R)(hx:lF R aC)(x0:List Ln)(x1:Int)(x2:Int)(x8:Int)(o:List Ln):Option R:=
 cond (decide (x8<x2))
 (Option.bind (bz (cO x0 x1 x2 x8 x8 o)) (pD aD
  (fun e1560=>
   nx (aI (e1560.1.1.1:List Ln) (e1560.1.2.1.1:Int) (e1560.1.2.2.1.1:Int) (IntKind.wrap .i64 ((e1560.1.2.2.2.2.1.1:Int)+(1:Int))) (e1560.2.2.1:List Ln)),())))
 (hx.1 (cI o))
def cR{R:Type}(nx:ao.T->Option R)(hx:lF R aC)(z:ao.T):Option R:=aq nx hx z.1.1.1 z.1.2.1.1 z.1.2.2.1.1 z.1.2.2.2.2.1.1 z.2.2.1
theorem dX:cY @cR:=fun R nx hx z=>by
 show aq nx hx z.1.1.1 z.1.2.1.1 z.1.2.2.1.1 z.1.2.2.2.2.1.1 z.2.2.1=(aq (fun y=>some (.inl y)) (oM aC fun x=>some (.inr x)) z.1.1.1 z.1.2.1.1 z.1.2.2.1.1 z.1.2.2.2.2.1.1 z.2.2.1).bind (oH nx hx)
 unfold aq
 exact ae (cE ⟨fun _=>rfl,trivial⟩) rfl
def ar:ao.T->Option (xb aC):=BJ @cR
theorem bu x0 x1 x2 x8 o:ar (aI x0 x1 x2 x8 o)=aq ar (oM aC some) x0 x1 x2 x8 o:=eU dX _
def bV:bQ:=⟨[0,1,2,3,8],[],[],[]⟩
def aZ:fQ Rv:=⟨fun k=>match k with|5=>bW|2=>bV|_=>⟨[],[],[],[]⟩,fun k=>match k with|5=>some (cu ap aD bz)|2=>some (cu ao aC ar)|_=>none⟩
theorem kh(n:Nat)(z:ap.T)(k:Ex->hZ->Option Rv):bL ⟨53,53⟩ bW (nG (ii C0 aX) ⟨53,53⟩ aZ 1 (aL Tryz.f269 4)) (n+1) (ap.enc z) k=
 cS (fun y=>bL ⟨53,53⟩ bW (nG (ii C0 aX) ⟨53,53⟩ aZ 1 (aL Tryz.f269 4)) n (ap.enc y) k) (hK k aD) z:=by kernel_rfl
theorem kg(n:Nat)(z:ao.T)(k:Ex->hZ->Option Rv):bL ⟨53,53⟩ bV (nG (ii C0 aX) ⟨53,53⟩ aZ 1 (aL Tryz.f269 1)) (n+1) (ao.enc z) k=
 cR (fun y=>bL ⟨53,53⟩ bV (nG (ii C0 aX) ⟨53,53⟩ aZ 1 (aL Tryz.f269 1)) n (ao.enc y) k) (hK k aC) z:=by kernel_rfl
theorem kE:aw (ii C0 aX) ⟨53,53⟩ aZ 1 (cp (bh Tryz.f269)):=by
 have hl:cp (bh Tryz.f269)=[aL Tryz.f269 1,aL Tryz.f269 4]:=by kernel_rfl
 rw[hl]
 exact aw.cons (n:=2) (lh:=bV) (S:=cu ao aC ar) (by kernel_rfl) rfl rfl (cy dX kg)
  (aw.cons (n:=5) (lh:=bW) (S:=cu ap aD bz) (by kernel_rfl) rfl rfl (cy dY kh)
  (aw.nil))
def bF{R:Type}(kx:(List Ln)->Option R)(a0:List Ln)(a1:Int)(a2:Int):Option R:=
 Option.bind (ar (aI a0 a1 a2 (IntKind.wrap .i64 (a1+(1:Int))) a0)) (pD aC
 (fun e1566=>
  kx (e1566.2.2.1:List Ln),()))
def aY(a0:List Ln)(a1:Int)(a2:Int):Option ((List Ln)):=bF some a0 a1 a2
theorem ku{R} kx a0 a1 a2: @bF R kx a0 a1 a2=(aY a0 a1 a2).bind kx:=by
 unfold aY bF
 exact cE ⟨fun _=>rfl,trivial⟩
abbrev cW:af:=.fx [.io yL, .val false (.int .i64), .val false (.int .i64), .clo 158 []] ((List Ln)) (fun z=>aY z.1 z.2.1 z.2.2.1) (fun b=>(.tup [],[(.own yL b)]))
theorem kI:ag C0 269 cW:=
 ag.fx (e:=false) (t:=aX) (.cons Hi (.nil)) mixed Tryz.func269 (by kernel_rfl) (by kernel_rfl) aZ 1 kE (fun z=>(by kernel_rfl:_=bF (fun b=>some (cW.enc b)) z.1 z.2.1 z.2.2.1).trans (ku _ z.1 z.2.1 z.2.2.1))
def cB:List (FuncId×af):=[(269,cW)]
abbrev aE:LS:=⟨[(false,[(.view (.arg 0) true 0 yL)]),(false,[(.int .i64)]),(false,[(.int .i64)]),(false,[(.int .i64)]),(false,[(.fn 158 [])]),(false,[.bool]),(false,[.bool])],[],[(.own yL)]⟩
abbrev fp:LS:=⟨[],[],[(.own yL)]⟩
abbrev lH v0:=(((),(),(v0,())):fp.T)
abbrev aK:List (Ex×LS):=[(.ret,fp)]
abbrev fR x0(x1:Int)(x2:Int)(x3:Int)(x10:Bool)(x11:Bool) o:=((((x0,()),(x1,()),(x2,()),(x3,()),((),()),(x10,()),(x11,()),()),(),(o,())):aE.T)
def bi{R:Type}(_nx:aE.T->Option R)(hx:lF R aK)(x0:List Ln)(x1:Int)(x2:Int)(x3:Int)(x10:Bool)(_x11:Bool)(o:List Ln):Option R:=
 cond (decide ((IntKind.wrap .i64 (x2-x1))<=(12:Int)))
 (cond (decide ((List.length o)=(List.length x0)))
  (Option.bind (aY x0 x1 x2) fun y1568=>
   cond (decide ((List.length x0)=(List.length x0)))
   (cond (decide ((List.length x0)=(List.length x0)))
    (hx.1 (lH y1568))
    none)
   none)
  none)
 (cond (x3==(0:Int))
  none
  (cond (!x10)
   none
   none))
def df{R:Type}(nx:aE.T->Option R)(hx:lF R aK)(z:aE.T):Option R:=bi nx hx z.1.1.1 z.1.2.1.1 z.1.2.2.1.1 z.1.2.2.2.1.1 z.1.2.2.2.2.2.1.1 z.1.2.2.2.2.2.2.1.1 z.2.2.1
theorem ft:cY @df:=fun R nx hx z=>by
 show bi nx hx z.1.1.1 z.1.2.1.1 z.1.2.2.1.1 z.1.2.2.2.1.1 z.1.2.2.2.2.2.1.1 z.1.2.2.2.2.2.2.1.1 z.2.2.1=(bi (fun y=>some (.inl y)) (oM aK fun x=>some (.inr x)) z.1.1.1 z.1.2.1.1 z.1.2.2.1.1 z.1.2.2.2.1.1 z.1.2.2.2.2.2.1.1 z.1.2.2.2.2.2.2.1.1 z.2.2.1).bind (oH nx hx)
 unfold bi
 exact ae (ae (ac fun _=>ae (ae rfl rfl) rfl) rfl) (ae rfl (ae rfl rfl))
def bM:aE.T->Option (xb aK):=BJ @df
theorem lX x0 x1 x2 x3 x10 x11 o:bM (fR x0 x1 x2 x3 x10 x11 o)=bi bM (oM aK some) x0 x1 x2 x3 x10 x11 o:=eU ft _
def co:bQ:=⟨[0,1,2,3,4,10,11],[],[],[]⟩
def cD:fQ Rv:=⟨fun k=>match k with|3=>co|_=>⟨[],[],[],[]⟩,fun k=>match k with|3=>some (cu aE aK bM)|_=>none⟩
theorem lR(n:Nat)(z:aE.T)(k:Ex->hZ->Option Rv):bL ⟨148,148⟩ co (nG (ii C0 cB) ⟨148,148⟩ cD 1 (aL Tryz.f221 2)) (n+1) (aE.enc z) k=
 df (fun y=>bL ⟨148,148⟩ co (nG (ii C0 cB) ⟨148,148⟩ cD 1 (aL Tryz.f221 2)) n (aE.enc y) k) (hK k aK) z:=by kernel_rfl
theorem mH:aw (ii C0 cB) ⟨148,148⟩ cD 1 (cp (bh Tryz.f221)):=by
 have hl:cp (bh Tryz.f221)=[aL Tryz.f221 2]:=by kernel_rfl
 rw[hl]
 exact aw.cons (n:=3) (lh:=co) (S:=cu aE aK bM) (by kernel_rfl) rfl rfl (cy ft lR)
  (aw.nil)
def bS{R:Type}(kx:(List Ln)->Option R)(a0:List Ln)(a1:Int)(a2:Int)(a3:Int):Option R:=
 Option.bind (bM (fR a0 a1 a2 a3 Bool.true Bool.true a0)) (pD aK
 (fun e1569=>
  kx (e1569.2.2.1:List Ln),()))
def bR(a0:List Ln)(a1:Int)(a2:Int)(a3:Int):Option ((List Ln)):=bS some a0 a1 a2 a3
theorem lZ{R} kx a0 a1 a2 a3: @bS R kx a0 a1 a2 a3=(bR a0 a1 a2 a3).bind kx:=by
 unfold bR bS
 exact cE ⟨fun _=>rfl,trivial⟩
abbrev gh:af:=.fx [.io yL, .val false (.int .i64), .val false (.int .i64), .val false (.int .i64), .clo 158 []] ((List Ln)) (fun z=>bR z.1 z.2.1 z.2.2.1 z.2.2.2.1) (fun b=>(.tup [],[(.own yL b)]))
theorem mJ:ag C0 221 gh:=
 ag.fx (e:=false) (t:=cB) (.cons kI (.nil)) mixed Tryz.func221 (by kernel_rfl) (by kernel_rfl) cD 1 mH (fun z=>(by kernel_rfl:_=bS (fun b=>some (gh.enc b)) z.1 z.2.1 z.2.2.1 z.2.2.2.1).trans (lZ _ z.1 z.2.1 z.2.2.1 z.2.2.2.1))
def bI{R:Type}(kx:(List Ln)->Option R)(a0:List Ln):Option R:=
 Option.bind (rr (IntKind.wrap IntKind.u64 ((List.length a0:Nat):Int))) fun y1486=>
 cond (decide ((List.length a0)=(List.length a0)))
 (Option.bind (bR a0 (0:Int) ((List.length a0:Nat):Int) y1486) fun y1571=>
  cond (decide ((List.length a0)=(List.length a0)))
  (cond (decide ((List.length a0)=(List.length a0)))
   (cond (decide ((List.length a0)=(List.length a0)))
    (kx y1571)
    none)
   none)
  none)
 none
def bd(a0:List Ln):Option ((List Ln)):=bI some a0
theorem kF{R} kx a0: @bI R kx a0=(bd a0).bind kx:=by
 unfold bd bI
 exact ac fun _=>ae (ac fun _=>ae (ae (ae rfl rfl) rfl) rfl) rfl
abbrev fg:af:=.fx [.io yL, .clo 158 []] ((List Ln)) (fun z=>bd z.1) (fun b=>(.tup [],[(.own yL b)]))
theorem kR:ag C0 157 fg:=
 ag.fx (e:=false) (.cons Oh (.cons mJ (.nil))) mixed Tryz.func157 (by kernel_rfl) (by kernel_rfl) aj 1 ai (fun z=>(by kernel_rfl:_=bI (fun b=>some (fg.enc b)) z.1).trans (kF _ z.1))
def lA{R:Type}(kx:(List Ln)×Int->Option R)(a0:List Ln):Option R:=
 Option.bind (aU a0) fun y1473=>
 cond y1473
 (kx ([],(2:Int)))
 (cond (decide ((List.length a0)=(List.length a0)))
  (Option.bind (bd a0) fun y1572=>
   cond (decide ((List.length a0)=(List.length a0)))
   (cond (decide ((List.length a0)=(List.length a0)))
    (cond (decide ((List.length a0)=(List.length a0)))
     (kx (y1572,(0:Int)))
     none)
    none)
   none)
  none)
def cK(a0:List Ln):Option ((List Ln)×Int):=lA some a0
theorem Ij{R} kx a0: @lA R kx a0=(cK a0).bind kx:=by
 unfold cK lA
 exact ac fun _=>ae rfl (ae (ac fun _=>ae (ae (ae rfl rfl) rfl) rfl) rfl)
abbrev qZ:af:=.fx [.io yL] ((List Ln)×Int) (fun z=>cK z.1) (fun b=>(.tup [⟨false,[(.own yL b.1)]⟩,⟨false,[(.v (.int .i64 b.2))]⟩],[.undef]))
theorem uE:ag C0 84 qZ:=
 ag.fxTake (e:=false) (.cons jO (.cons kR (.nil))) mixed Tryz.func84 (by kernel_rfl) (by kernel_rfl) aj 1 ai (fun z=>(by kernel_rfl:_=lA (fun b=>some (qZ.enc b)) z.1).trans (Ij _ z.1))
def qm{R:Type}(kx:(List Ln)×Int->Option R)(a0:Ln)(a1:Ln):Option R:=
 Option.bind (aH a0) fun y1455=>
 cond (!y1455)
 (kx ([],(1:Int)))
 (Option.bind (aH a1) fun y1456=>
  cond (!y1456)
  (kx ([],(1:Int)))
  (cond ((a0.1==a1.1)&&(((a0.2.1==a1.2.1)&&((a0.2.2.1==a1.2.2.1)&&((a0.2.2.2==a1.2.2.2)&&Bool.true)))&&Bool.true))
   (kx ([],(7:Int)))
   (cond ((Int.tmod (IntKind.wrap .i64 (a0.1+a1.1)) (2:Int))==(1:Int))
    (kx ([],(0:Int)))
    (cond (a0.1==a1.1)
     (Option.bind (ed a0.2 a1.2) fun y1457=>
      Option.bind (kw y1457) fun y1458=>
      Option.bind (cK [(a0.1,y1458)]) fun y1573=>
      kx y1573)
     (Option.bind (kZ a0 a1) fun y1574=>
      cond (!y1574.2)
      (kx ([],(2:Int)))
      (Option.bind (fX y1574.1 (IntKind.wrap .i64 (Int.tdiv (IntKind.wrap .i64 (a0.1+a1.1)) (2:Int)))) fun y1575=>
       Option.bind (fX y1574.1 (Int.tmod (IntKind.wrap .i64 ((IntKind.wrap .i64 (Int.tdiv (IntKind.wrap .i64 (a0.1+a1.1)) (2:Int)))+(4:Int))) (8:Int))) fun y1576=>
       Option.bind (cK [y1575,y1576]) fun y1577=>
       kx y1577))))))
def kW(a0:Ln)(a1:Ln):Option ((List Ln)×Int):=qm some a0 a1
theorem Kx{R} kx a0 a1: @qm R kx a0 a1=(kW a0 a1).bind kx:=by
 unfold kW qm
 exact ac fun _=>ae rfl (ac fun _=>ae rfl (ae rfl (ae rfl (ae (ac fun _=>ac fun _=>ac fun _=>rfl) (ac fun _=>ae rfl (ac fun _=>ac fun _=>ac fun _=>rfl))))))
abbrev Fb:af:=.fx [.val true yL, .val true yL] ((List Ln)×Int) (fun z=>kW z.1 z.2.1) (fun b=>(.tup [⟨false,[(.own yL b.1)]⟩,⟨false,[(.v (.int .i64 b.2))]⟩],[]))
theorem MG:ag C0 33 Fb:=
 ag.fx (e:=false) (.cons dD (.cons nz (.cons FJ (.cons uE (.cons Eg (.cons qi (.nil))))))) mixed Tryz.func33 (by kernel_rfl) (by kernel_rfl) aj 1 ai (fun z=>(by kernel_rfl:_=qm (fun b=>some (Fb.enc b)) z.1 z.2.1).trans (Kx _ z.1 z.2.1))
end
end Go.Proofs.YtjkljnflaifbhaaGreatDoor
