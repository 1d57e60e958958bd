/- No conditions. -/
import Derived.Test.YtjkljnflaifbhaaGreatDoorZ2b
namespace Go.Proofs.YtjkljnflaifbhaaGreatDoor
open Go.Vai
set_option maxRecDepth 100000
noncomputable section
def oB:List (FuncId×af):=[(64,vW)]
abbrev eZ:LS:=⟨[(false,[(.sl yI)]),(false,[(.ptr 3 0)]),(false,[(.own yI)]),(false,[(.sl .str)]),(false,[(.int .i64)]),(false,[(.int .i64)])],[(false,[.str,(.int .i64),(.sl .str),(.int .i64),(.int .i64),(.int .i64),(.int .i64),(.int .i64),(.int .i64),(.int .i64),(.int .i64),(.int .i64),(.int .i64),(.int .i64)])],[]⟩
abbrev Bt:LS:=⟨[(false,[(.ptr 3 0)]),(false,[(.own yI)]),(false,[(.int .i64)]),(false,[(.own yI)])],[(false,[.str,(.int .i64),(.sl .str),(.int .i64),(.int .i64),(.int .i64),(.int .i64),(.int .i64),(.int .i64),(.int .i64),(.int .i64),(.int .i64),(.int .i64),(.int .i64)])],[]⟩
abbrev Bj v0(v1:Int) v2(v3:ByteArray)(v4:Int)(v5:List ByteArray)(v6:Int)(v7:Int)(v8:Int)(v9:Int)(v10:Int)(v11:Int)(v12:Int)(v13:Int)(v14:Int)(v15:Int)(v16:Int):=(((((),()),(v0,()),(v1,()),(v2,()),()),((v3,v4,v5,v6,v7,v8,v9,v10,v11,v12,v13,v14,v15,v16,()),()),()):Bt.T)
abbrev Bu:LS:=⟨[(false,[(.ptr 3 0)]),(false,[.undef]),(false,[.undef]),(false,[(.own yI)])],[(false,[.str,(.int .i64),(.sl .str),(.int .i64),(.int .i64),(.int .i64),(.int .i64),(.int .i64),(.int .i64),(.int .i64),(.int .i64),(.int .i64),(.int .i64),(.int .i64)])],[]⟩
abbrev Bk v0(v1:ByteArray)(v2:Int)(v3:List ByteArray)(v4:Int)(v5:Int)(v6:Int)(v7:Int)(v8:Int)(v9:Int)(v10:Int)(v11:Int)(v12:Int)(v13:Int)(v14:Int):=(((((),()),((),()),((),()),(v0,()),()),((v1,v2,v3,v4,v5,v6,v7,v8,v9,v10,v11,v12,v13,v14,()),()),()):Bu.T)
abbrev gg:List (Ex×LS):=[(.ret,Bt),(.exit 0,Bu)]
abbrev jL x0 x6(x14:List ByteArray)(x15:Int)(x16:Int)(b0_0:ByteArray)(b0_1:Int)(b0_2:List ByteArray)(b0_3:Int)(b0_4:Int)(b0_5:Int)(b0_6:Int)(b0_7:Int)(b0_8:Int)(b0_9:Int)(b0_10:Int)(b0_11:Int)(b0_12:Int)(b0_13:Int):=((((x0,()),((),()),(x6,()),(x14,()),(x15,()),(x16,()),()),((b0_0,b0_1,b0_2,b0_3,b0_4,b0_5,b0_6,b0_7,b0_8,b0_9,b0_10,b0_11,b0_12,b0_13,()),()),()):eZ.T)
def jO{R:Type}(nx:eZ.T->Option R)(hx:mA R gg)(x0:List It)(x6:List It)(x14:List ByteArray)(x15:Int)(x16:Int)(b0_0:ByteArray)(b0_1:Int)(b0_2:List ByteArray)(b0_3:Int)(b0_4:Int)(b0_5:Int)(b0_6:Int)(b0_7:Int)(b0_8:Int)(b0_9:Int)(b0_10:Int)(b0_11:Int)(b0_12:Int)(b0_13:Int):Option R:=
 cond (decide (x16<x15))
 (Option.bind (gq x14 x16) fun y1200=>
  Option.bind (kb x0 y1200) fun y1201=>
  cond (decide (y1201<(0:Int)))
  (hx.1 (Bj [] (3:Int) x6 b0_0 b0_1 b0_2 b0_3 b0_4 b0_5 b0_6 b0_7 b0_8 b0_9 b0_10 b0_11 b0_12 b0_13))
  (Option.bind (gq x0 y1201) fun y1202=>
   cond (decide ((((List.length x6)+(List.length [y1202]))*104)<=70368744177664))
   (cond (decide (((List.length x6)+(List.length [y1202]))<=70368744177664))
    (nx (jL x0 (x6++ [y1202]) x14 x15 (IntKind.wrap .i64 (x16+(1:Int))) b0_0 b0_1 b0_2 b0_3 b0_4 b0_5 b0_6 b0_7 b0_8 b0_9 b0_10 b0_11 b0_12 b0_13))
    none)
   none))
 (hx.2.1 (Bk x6 b0_0 b0_1 b0_2 b0_3 b0_4 b0_5 b0_6 b0_7 b0_8 b0_9 b0_10 b0_11 b0_12 b0_13))
def yc{R:Type}(nx:eZ.T->Option R)(hx:mA R gg)(z:eZ.T):Option R:=jO nx hx z.1.1.1 z.1.2.2.1.1 z.1.2.2.2.1.1 z.1.2.2.2.2.1.1 z.1.2.2.2.2.2.1.1 z.2.1.1.1 z.2.1.1.2.1 z.2.1.1.2.2.1 z.2.1.1.2.2.2.1 z.2.1.1.2.2.2.2.1 z.2.1.1.2.2.2.2.2.1 z.2.1.1.2.2.2.2.2.2.1 z.2.1.1.2.2.2.2.2.2.2.1 z.2.1.1.2.2.2.2.2.2.2.2.1 z.2.1.1.2.2.2.2.2.2.2.2.2.1 z.2.1.1.2.2.2.2.2.2.2.2.2.2.1 z.2.1.1.2.2.2.2.2.2.2.2.2.2.2.1 z.2.1.1.2.2.2.2.2.2.2.2.2.2.2.2.1 z.2.1.1.2.2.2.2.2.2.2.2.2.2.2.2.2.1
theorem BJ:cK @yc:=fun R nx hx z=>by
 show jO nx hx z.1.1.1 z.1.2.2.1.1 z.1.2.2.2.1.1 z.1.2.2.2.2.1.1 z.1.2.2.2.2.2.1.1 z.2.1.1.1 z.2.1.1.2.1 z.2.1.1.2.2.1 z.2.1.1.2.2.2.1 z.2.1.1.2.2.2.2.1 z.2.1.1.2.2.2.2.2.1 z.2.1.1.2.2.2.2.2.2.1 z.2.1.1.2.2.2.2.2.2.2.1 z.2.1.1.2.2.2.2.2.2.2.2.1 z.2.1.1.2.2.2.2.2.2.2.2.2.1 z.2.1.1.2.2.2.2.2.2.2.2.2.2.1 z.2.1.1.2.2.2.2.2.2.2.2.2.2.2.1 z.2.1.1.2.2.2.2.2.2.2.2.2.2.2.2.1 z.2.1.1.2.2.2.2.2.2.2.2.2.2.2.2.2.1=(jO (fun y=>some (.inl y)) (oI gg fun x=>some (.inr x)) z.1.1.1 z.1.2.2.1.1 z.1.2.2.2.1.1 z.1.2.2.2.2.1.1 z.1.2.2.2.2.2.1.1 z.2.1.1.1 z.2.1.1.2.1 z.2.1.1.2.2.1 z.2.1.1.2.2.2.1 z.2.1.1.2.2.2.2.1 z.2.1.1.2.2.2.2.2.1 z.2.1.1.2.2.2.2.2.2.1 z.2.1.1.2.2.2.2.2.2.2.1 z.2.1.1.2.2.2.2.2.2.2.2.1 z.2.1.1.2.2.2.2.2.2.2.2.2.1 z.2.1.1.2.2.2.2.2.2.2.2.2.2.1 z.2.1.1.2.2.2.2.2.2.2.2.2.2.2.1 z.2.1.1.2.2.2.2.2.2.2.2.2.2.2.2.1 z.2.1.1.2.2.2.2.2.2.2.2.2.2.2.2.2.1).bind (oH nx hx)
 unfold jO
 exact ae (ac fun _=>ac fun _=>ae rfl (ac fun _=>ae (ae rfl rfl) rfl)) rfl
def gd:eZ.T->Option (yH gg):=BU @yc
theorem CR x0 x6 x14 x15 x16 b0_0 b0_1 b0_2 b0_3 b0_4 b0_5 b0_6 b0_7 b0_8 b0_9 b0_10 b0_11 b0_12 b0_13:gd (jL x0 x6 x14 x15 x16 b0_0 b0_1 b0_2 b0_3 b0_4 b0_5 b0_6 b0_7 b0_8 b0_9 b0_10 b0_11 b0_12 b0_13)=jO gd (oI gg some) x0 x6 x14 x15 x16 b0_0 b0_1 b0_2 b0_3 b0_4 b0_5 b0_6 b0_7 b0_8 b0_9 b0_10 b0_11 b0_12 b0_13:=dR BJ _
def qX:bN:=⟨[0,3,6,14,15,16],[3],[3,4,5,6],[3]⟩
abbrev dU:LS:=⟨[(false,[(.ptr 3 0)]),(false,[(.own yI)]),(false,[(.view (.slot 6 0 0) true 0 yI)]),(false,[(.int .i64)]),(false,[(.int .i64)])],[(false,[.str,(.int .i64),(.sl .str),(.int .i64),(.int .i64),(.int .i64),(.int .i64),(.int .i64),(.int .i64),(.int .i64),(.int .i64),(.int .i64),(.int .i64),(.int .i64)])],[]⟩
abbrev Ac:LS:=⟨[(false,[(.own yI)]),(false,[(.int .i64)]),(false,[(.own yI)])],[],[]⟩
abbrev lG v0(v1:Int) v2:=((((v0,()),(v1,()),(v2,()),()),(),()):Ac.T)
abbrev Ad:LS:=⟨[(false,[.undef]),(false,[.undef]),(false,[(.own yI)])],[],[]⟩
abbrev tO v0:=(((((),()),((),()),(v0,()),()),(),()):Ad.T)
abbrev fC:List (Ex×LS):=[(.ret,Ac),(.exit 2,Ad)]
abbrev gL x6 x33(x34:Int)(x35:Int)(b0_0:ByteArray)(b0_1:Int)(b0_2:List ByteArray)(b0_3:Int)(b0_4:Int)(b0_5:Int)(b0_6:Int)(b0_7:Int)(b0_8:Int)(b0_9:Int)(b0_10:Int)(b0_11:Int)(b0_12:Int)(b0_13:Int):=(((((),()),(x6,()),(x33,()),(x34,()),(x35,()),()),((b0_0,b0_1,b0_2,b0_3,b0_4,b0_5,b0_6,b0_7,b0_8,b0_9,b0_10,b0_11,b0_12,b0_13,()),()),()):dU.T)
def jc{R:Type}(nx:dU.T->Option R)(hx:mA R fC)(x6:List It)(x33:List It)(x34:Int)(x35:Int)(b0_0:ByteArray)(b0_1:Int)(b0_2:List ByteArray)(b0_3:Int)(b0_4:Int)(b0_5:Int)(b0_6:Int)(b0_7:Int)(b0_8:Int)(b0_9:Int)(b0_10:Int)(b0_11:Int)(b0_12:Int)(b0_13:Int):Option R:=
 cond (decide (x35<x34))
 (Option.bind (gq x33 x35) fun y1255=>
  Option.bind (gq [((ByteArray.mk (Array.mk [])),((ByteArray.mk (Array.mk [])),Bool.false)),((ByteArray.mk (Array.mk [112,111,105,110,116])),((ByteArray.mk (Array.mk [])),Bool.false)),((ByteArray.mk (Array.mk [108,105,110,101])),((ByteArray.mk (Array.mk [])),Bool.false)),((ByteArray.mk (Array.mk [109,101,101,116])),((ByteArray.mk (Array.mk [108,108])),Bool.false)),((ByteArray.mk (Array.mk [109,105,100,100,108,101])),((ByteArray.mk (Array.mk [112,112])),Bool.false)),((ByteArray.mk (Array.mk [109,105,114,114,111,114])),((ByteArray.mk (Array.mk [108,120])),Bool.false)),((ByteArray.mk (Array.mk [116,104,114,111,117,103,104])),((ByteArray.mk (Array.mk [112,112])),Bool.false)),((ByteArray.mk (Array.mk [111,110,116,111])),((ByteArray.mk (Array.mk [112,112])),Bool.false)),((ByteArray.mk (Array.mk [98,105,115,101,99,116])),((ByteArray.mk (Array.mk [108,108])),Bool.true)),((ByteArray.mk (Array.mk [115,113,117,97,114,101])),((ByteArray.mk (Array.mk [108,112])),Bool.false)),((ByteArray.mk (Array.mk [102,111,108,100])),((ByteArray.mk (Array.mk [112,108,112])),Bool.true)),((ByteArray.mk (Array.mk [116,119,111])),((ByteArray.mk (Array.mk [112,108,112,108])),Bool.true)),((ByteArray.mk (Array.mk [97,99,114,111,115,115])),((ByteArray.mk (Array.mk [112,108,108])),Bool.false))] b0_1) fun y1256=>
  Option.bind (B3 y1256.2.1 x35) fun y1257=>
  cond ((((UInt8.toNat y1257):Nat):Int)==(108:Int))
  (cond (!y1255.2.1)
   (hx.1 (lG [] (6:Int) x6))
   (cond ((((UInt8.toNat y1257):Nat):Int)==(112:Int))
    (cond y1255.2.1
     (hx.1 (lG [] (6:Int) x6))
     (nx (gL x6 x33 x34 (IntKind.wrap .i64 (x35+(1:Int))) b0_0 b0_1 b0_2 b0_3 b0_4 b0_5 b0_6 b0_7 b0_8 b0_9 b0_10 b0_11 b0_12 b0_13)))
    (nx (gL x6 x33 x34 (IntKind.wrap .i64 (x35+(1:Int))) b0_0 b0_1 b0_2 b0_3 b0_4 b0_5 b0_6 b0_7 b0_8 b0_9 b0_10 b0_11 b0_12 b0_13))))
  (cond ((((UInt8.toNat y1257):Nat):Int)==(112:Int))
   (cond y1255.2.1
    (hx.1 (lG [] (6:Int) x6))
    (nx (gL x6 x33 x34 (IntKind.wrap .i64 (x35+(1:Int))) b0_0 b0_1 b0_2 b0_3 b0_4 b0_5 b0_6 b0_7 b0_8 b0_9 b0_10 b0_11 b0_12 b0_13)))
   (nx (gL x6 x33 x34 (IntKind.wrap .i64 (x35+(1:Int))) b0_0 b0_1 b0_2 b0_3 b0_4 b0_5 b0_6 b0_7 b0_8 b0_9 b0_10 b0_11 b0_12 b0_13))))
 (hx.2.1 (tO x6))
def wG{R:Type}(nx:dU.T->Option R)(hx:mA R fC)(z:dU.T):Option R:=jc nx hx z.1.2.1.1 z.1.2.2.1.1 z.1.2.2.2.1.1 z.1.2.2.2.2.1.1 z.2.1.1.1 z.2.1.1.2.1 z.2.1.1.2.2.1 z.2.1.1.2.2.2.1 z.2.1.1.2.2.2.2.1 z.2.1.1.2.2.2.2.2.1 z.2.1.1.2.2.2.2.2.2.1 z.2.1.1.2.2.2.2.2.2.2.1 z.2.1.1.2.2.2.2.2.2.2.2.1 z.2.1.1.2.2.2.2.2.2.2.2.2.1 z.2.1.1.2.2.2.2.2.2.2.2.2.2.1 z.2.1.1.2.2.2.2.2.2.2.2.2.2.2.1 z.2.1.1.2.2.2.2.2.2.2.2.2.2.2.2.1 z.2.1.1.2.2.2.2.2.2.2.2.2.2.2.2.2.1
theorem Ag:cK @wG:=fun R nx hx z=>by
 show jc nx hx z.1.2.1.1 z.1.2.2.1.1 z.1.2.2.2.1.1 z.1.2.2.2.2.1.1 z.2.1.1.1 z.2.1.1.2.1 z.2.1.1.2.2.1 z.2.1.1.2.2.2.1 z.2.1.1.2.2.2.2.1 z.2.1.1.2.2.2.2.2.1 z.2.1.1.2.2.2.2.2.2.1 z.2.1.1.2.2.2.2.2.2.2.1 z.2.1.1.2.2.2.2.2.2.2.2.1 z.2.1.1.2.2.2.2.2.2.2.2.2.1 z.2.1.1.2.2.2.2.2.2.2.2.2.2.1 z.2.1.1.2.2.2.2.2.2.2.2.2.2.2.1 z.2.1.1.2.2.2.2.2.2.2.2.2.2.2.2.1 z.2.1.1.2.2.2.2.2.2.2.2.2.2.2.2.2.1=(jc (fun y=>some (.inl y)) (oI fC fun x=>some (.inr x)) z.1.2.1.1 z.1.2.2.1.1 z.1.2.2.2.1.1 z.1.2.2.2.2.1.1 z.2.1.1.1 z.2.1.1.2.1 z.2.1.1.2.2.1 z.2.1.1.2.2.2.1 z.2.1.1.2.2.2.2.1 z.2.1.1.2.2.2.2.2.1 z.2.1.1.2.2.2.2.2.2.1 z.2.1.1.2.2.2.2.2.2.2.1 z.2.1.1.2.2.2.2.2.2.2.2.1 z.2.1.1.2.2.2.2.2.2.2.2.2.1 z.2.1.1.2.2.2.2.2.2.2.2.2.2.1 z.2.1.1.2.2.2.2.2.2.2.2.2.2.2.1 z.2.1.1.2.2.2.2.2.2.2.2.2.2.2.2.1 z.2.1.1.2.2.2.2.2.2.2.2.2.2.2.2.2.1).bind (oH nx hx)
 unfold jc
 exact ae (ac fun _=>ac fun _=>ac fun _=>ae (ae rfl (ae (ae rfl rfl) rfl)) (ae (ae rfl rfl) rfl)) rfl
def je:dU.T->Option (yH fC):=BU @wG
theorem BW x6 x33 x34 x35 b0_0 b0_1 b0_2 b0_3 b0_4 b0_5 b0_6 b0_7 b0_8 b0_9 b0_10 b0_11 b0_12 b0_13:je (gL x6 x33 x34 x35 b0_0 b0_1 b0_2 b0_3 b0_4 b0_5 b0_6 b0_7 b0_8 b0_9 b0_10 b0_11 b0_12 b0_13)=jc je (oI fC some) x6 x33 x34 x35 b0_0 b0_1 b0_2 b0_3 b0_4 b0_5 b0_6 b0_7 b0_8 b0_9 b0_10 b0_11 b0_12 b0_13:=dR Ag _
def qn:bN:=⟨[3,6,33,34,35],[3],[4,5,6],[]⟩
def oJ:fq Rv:=⟨fun k=>match k with|4=>qX|12=>qn|_=>⟨[],[],[],[]⟩,fun k=>match k with|4=>some (ce eZ gg gd)|12=>some (ce dU fC je)|_=>none⟩
theorem Mg(n:Nat)(z:eZ.T)(k:Ex->iV->Option Rv):bJ ⟨64,64⟩ qX (mU (gN C0 oB) ⟨64,64⟩ oJ 1 (aG Tryz.f65 3)) (n+1) (eZ.enc z) k=
 yc (fun y=>bJ ⟨64,64⟩ qX (mU (gN C0 oB) ⟨64,64⟩ oJ 1 (aG Tryz.f65 3)) n (eZ.enc y) k) (hK k gg) z:=by kernel_rfl
theorem Lf(n:Nat)(z:dU.T)(k:Ex->iV->Option Rv):bJ ⟨64,64⟩ qn (mU (gN C0 oB) ⟨64,64⟩ oJ 1 (aG Tryz.f65 11)) (n+1) (dU.enc z) k=
 wG (fun y=>bJ ⟨64,64⟩ qn (mU (gN C0 oB) ⟨64,64⟩ oJ 1 (aG Tryz.f65 11)) n (dU.enc y) k) (hK k fC) z:=by kernel_rfl
theorem OA:ak (gN C0 oB) ⟨64,64⟩ oJ 1 (ca (aX Tryz.f65)):=by
 have hl:ca (aX Tryz.f65)=[aG Tryz.f65 3,aG Tryz.f65 11]:=by kernel_rfl
 rw[hl]
 exact ak.cons (n:=4) (lh:=qX) (S:=ce eZ gg gd) (by kernel_rfl) rfl rfl (cl BJ Mg)
  (ak.cons (n:=12) (lh:=qn) (S:=ce dU fC je) (by kernel_rfl) rfl rfl (cl Ag Lf)
  (ak.nil))
def rP{R:Type}(kx:(List It)×Int->Option R)(a0:(List It))(a1:Cn):Option R:=
 Option.bind (gd (jL a0 [] a1.2.2.1 (((List.length a1.2.2.1):Nat):Int) (0:Int) a1.1 a1.2.1 a1.2.2.1 a1.2.2.2.1 a1.2.2.2.2.1.1.1 a1.2.2.2.2.1.1.2.1 a1.2.2.2.2.1.1.2.2 a1.2.2.2.2.1.2.1 a1.2.2.2.2.1.2.2.1 a1.2.2.2.2.1.2.2.2 a1.2.2.2.2.2.1 a1.2.2.2.2.2.2.1 a1.2.2.2.2.2.2.2.1 a1.2.2.2.2.2.2.2.2)) (qi gg
 (fun e1203=>
  kx ((e1203.1.2.1.1:List It),(e1203.1.2.2.1.1:Int)),fun e1221=>
  Option.bind (je (gL (e1221.1.2.2.2.1.1:List It) (e1221.1.2.2.2.1.1:List It) (((List.length (e1221.1.2.2.2.1.1:List It)):Nat):Int) (0:Int) (e1221.2.1.1.1:ByteArray) (e1221.2.1.1.2.1:Int) (e1221.2.1.1.2.2.1:List ByteArray) (e1221.2.1.1.2.2.2.1:Int) (e1221.2.1.1.2.2.2.2.1:Int) (e1221.2.1.1.2.2.2.2.2.1:Int) (e1221.2.1.1.2.2.2.2.2.2.1:Int) (e1221.2.1.1.2.2.2.2.2.2.2.1:Int) (e1221.2.1.1.2.2.2.2.2.2.2.2.1:Int) (e1221.2.1.1.2.2.2.2.2.2.2.2.2.1:Int) (e1221.2.1.1.2.2.2.2.2.2.2.2.2.2.1:Int) (e1221.2.1.1.2.2.2.2.2.2.2.2.2.2.2.1:Int) (e1221.2.1.1.2.2.2.2.2.2.2.2.2.2.2.2.1:Int) (e1221.2.1.1.2.2.2.2.2.2.2.2.2.2.2.2.2.1:Int))) (qi fC
  (fun e1258=>
   kx ((e1258.1.1.1:List It),(e1258.1.2.1.1:Int)),fun e1262=>
   kx ((e1262.1.2.2.1.1:List It),(0:Int)),())),()))
def oD(a0:(List It))(a1:Cn):Option ((List It)×Int):=rP some a0 a1
theorem Nt{R} kx a0 a1: @rP R kx a0 a1=(oD a0 a1).bind kx:=by
 unfold oD rP
 exact cq ⟨fun _=>rfl,fun _=>cq ⟨fun _=>rfl,fun _=>rfl,trivial⟩,trivial⟩
abbrev Hh:af:=.fx [.val false (.slice yI), .val true yC] ((List It)×Int) (fun z=>oD z.1 z.2.1) (fun b=>(.tup [⟨false,[(.own yI b.1)]⟩,⟨false,[(.v (.int .i64 b.2))]⟩],[]))
theorem PD:ag C0 65 Hh:=
 ag.fx (e:=false) (t:=oB) (.cons zy (.nil)) mixed Tryz.func65 (by kernel_rfl) (by kernel_rfl) oJ 1 OA (fun z=>(by kernel_rfl:_=rP (fun b=>some (Hh.enc b)) z.1 z.2.1).trans (Nt _ z.1 z.2.1))
def rS{R:Type}(kx:It×Int->Option R)(a0:ByteArray)(a1:Pt)(a2:Int):Option R:=
 cond (a2 !=(0:Int))
 (kx (((ByteArray.mk (Array.mk [])),(Bool.false,((((0:Int),((0:Int),(0:Int))),((0:Int),((0:Int),(0:Int)))),((0:Int),((0:Int),((0:Int),(0:Int))))))),a2))
 (kx ((a0,(Bool.false,(a1,((0:Int),((0:Int),((0:Int),(0:Int))))))),(0:Int)))
def dH(a0:ByteArray)(a1:Pt)(a2:Int):Option (It×Int):=rS some a0 a1 a2
theorem Nx{R} kx a0 a1 a2: @rS R kx a0 a1 a2=(dH a0 a1 a2).bind kx:=by
 unfold dH rS
 exact ae rfl rfl
abbrev Hk:af:=.fx [.val false .str, .val true yP, .val false (.int .i64)] (It×Int) (fun z=>dH z.1 z.2.1 z.2.2.1) (fun b=>(.tup [⟨true,[(.v (.string b.1.1)),(.v (.bool b.1.2.1)),(.v (.int .i64 b.1.2.2.1.1.1)),(.v (.int .i64 b.1.2.2.1.1.2.1)),(.v (.int .i64 b.1.2.2.1.1.2.2)),(.v (.int .i64 b.1.2.2.1.2.1)),(.v (.int .i64 b.1.2.2.1.2.2.1)),(.v (.int .i64 b.1.2.2.1.2.2.2)),(.v (.int .i64 b.1.2.2.2.1)),(.v (.int .i64 b.1.2.2.2.2.1)),(.v (.int .i64 b.1.2.2.2.2.2.1)),(.v (.int .i64 b.1.2.2.2.2.2.2))]⟩,⟨false,[(.v (.int .i64 b.2))]⟩],[]))
theorem F4:ag C0 129 Hk:=
 ag.fx (e:=false) (.nil) mixed Tryz.func129 (by kernel_rfl) (by kernel_rfl) al 1 ai (fun z=>(by kernel_rfl:_=rS (fun b=>some (Hk.enc b)) z.1 z.2.1 z.2.2.1).trans (Nx _ z.1 z.2.1 z.2.2.1))
def uW{R:Type}(kx:Nm->Option R)(a0:Nm):Option R:=
 kx ((IntKind.wrap .i64 ((0:Int)-a0.1)),((IntKind.wrap .i64 ((0:Int)-a0.2.1)),a0.2.2))
def cn(a0:Nm):Option (Nm):=uW some a0
theorem QH{R} kx a0: @uW R kx a0=(cn a0).bind kx:=by
 unfold cn uW
 exact rfl
abbrev J8:af:=.fx [.val true yN] (Nm) (fun z=>cn z.1) (fun b=>(.one ⟨true,[(.v (.int .i64 b.1)),(.v (.int .i64 b.2.1)),(.v (.int .i64 b.2.2))]⟩,[]))
theorem Je:ag C0 219 J8:=
 ag.fx (e:=false) (.nil) mixed Tryz.func219 (by kernel_rfl) (by kernel_rfl) al 1 ai (fun z=>(by kernel_rfl:_=uW (fun b=>some (J8.enc b)) z.1).trans (QH _ z.1))
def Bg{R:Type}(kx:Pt->Option R)(a0:Int):Option R:=
 cond (decide (a0>=(8:Int)))
 (cond (decide ((IntKind.wrap .i64 (a0-(8:Int)))=((0:Nat):Int)))
  (Option.bind (cn ((1:Int),((0:Int),(0:Int)))) fun y1282=>
   Option.bind (cn ((0:Int),((0:Int),(0:Int)))) fun y1283=>
   kx (y1282,y1283))
  (cond (decide ((IntKind.wrap .i64 (a0-(8:Int)))=(((0+1):Nat):Int)))
   (Option.bind (cn ((1:Int),((0:Int),(0:Int)))) fun y1284=>
    Option.bind (cn ((-(1:Int)),((1:Int),(0:Int)))) fun y1285=>
    kx (y1284,y1285))
   (cond (decide ((IntKind.wrap .i64 (a0-(8:Int)))=((((0+1)+1):Nat):Int)))
    (Option.bind (cn ((1:Int),((0:Int),(0:Int)))) fun y1286=>
     Option.bind (cn ((1:Int),((0:Int),(0:Int)))) fun y1287=>
     kx (y1286,y1287))
    (cond (decide ((IntKind.wrap .i64 (a0-(8:Int)))=(((((0+1)+1)+1):Nat):Int)))
     (Option.bind (cn ((-(1:Int)),((1:Int),(0:Int)))) fun y1288=>
      Option.bind (cn ((1:Int),((0:Int),(0:Int)))) fun y1289=>
      kx (y1288,y1289))
     (cond (decide ((IntKind.wrap .i64 (a0-(8:Int)))=((((((0+1)+1)+1)+1):Nat):Int)))
      (Option.bind (cn ((0:Int),((0:Int),(0:Int)))) fun y1290=>
       Option.bind (cn ((1:Int),((0:Int),(0:Int)))) fun y1291=>
       kx (y1290,y1291))
      (cond (decide ((IntKind.wrap .i64 (a0-(8:Int)))=(((((((0+1)+1)+1)+1)+1):Nat):Int)))
       (Option.bind (cn ((1:Int),((-(1:Int)),(0:Int)))) fun y1292=>
        Option.bind (cn ((1:Int),((0:Int),(0:Int)))) fun y1293=>
        kx (y1292,y1293))
       (cond (decide ((IntKind.wrap .i64 (a0-(8:Int)))=((((((((0+1)+1)+1)+1)+1)+1):Nat):Int)))
        (Option.bind (cn ((-(1:Int)),((0:Int),(0:Int)))) fun y1294=>
         Option.bind (cn ((1:Int),((0:Int),(0:Int)))) fun y1295=>
         kx (y1294,y1295))
        (cond (decide ((IntKind.wrap .i64 (a0-(8:Int)))=(((((((((0+1)+1)+1)+1)+1)+1)+1):Nat):Int)))
         (Option.bind (cn ((-(1:Int)),((0:Int),(0:Int)))) fun y1296=>
          Option.bind (cn ((-(1:Int)),((1:Int),(0:Int)))) fun y1297=>
          kx (y1296,y1297))
         none))))))))
 (cond (decide (a0=((0:Nat):Int)))
  (kx (((1:Int),((0:Int),(0:Int))),((0:Int),((0:Int),(0:Int)))))
  (cond (decide (a0=(((0+1):Nat):Int)))
   (kx (((1:Int),((0:Int),(0:Int))),((-(1:Int)),((1:Int),(0:Int)))))
   (cond (decide (a0=((((0+1)+1):Nat):Int)))
    (kx (((1:Int),((0:Int),(0:Int))),((1:Int),((0:Int),(0:Int)))))
    (cond (decide (a0=(((((0+1)+1)+1):Nat):Int)))
     (kx (((-(1:Int)),((1:Int),(0:Int))),((1:Int),((0:Int),(0:Int)))))
     (cond (decide (a0=((((((0+1)+1)+1)+1):Nat):Int)))
      (kx (((0:Int),((0:Int),(0:Int))),((1:Int),((0:Int),(0:Int)))))
      (cond (decide (a0=(((((((0+1)+1)+1)+1)+1):Nat):Int)))
       (kx (((1:Int),((-(1:Int)),(0:Int))),((1:Int),((0:Int),(0:Int)))))
       (cond (decide (a0=((((((((0+1)+1)+1)+1)+1)+1):Nat):Int)))
        (kx (((-(1:Int)),((0:Int),(0:Int))),((1:Int),((0:Int),(0:Int)))))
        (cond (decide (a0=(((((((((0+1)+1)+1)+1)+1)+1)+1):Nat):Int)))
         (kx (((-(1:Int)),((0:Int),(0:Int))),((-(1:Int)),((1:Int),(0:Int)))))
         none))))))))
def qF(a0:Int):Option (Pt):=Bg some a0
theorem SB{R} kx a0: @Bg R kx a0=(qF a0).bind kx:=by
 unfold qF Bg
 exact ae (ae (ac fun _=>ac fun _=>rfl) (ae (ac fun _=>ac fun _=>rfl) (ae (ac fun _=>ac fun _=>rfl) (ae (ac fun _=>ac fun _=>rfl) (ae (ac fun _=>ac fun _=>rfl) (ae (ac fun _=>ac fun _=>rfl) (ae (ac fun _=>ac fun _=>rfl) (ae (ac fun _=>ac fun _=>rfl) rfl)))))))) (ae rfl (ae rfl (ae rfl (ae rfl (ae rfl (ae rfl (ae rfl (ae rfl rfl))))))))
abbrev Gn:af:=.fx [.val false (.int .i64)] (Pt) (fun z=>qF z.1) (fun b=>(.one ⟨true,[(.v (.int .i64 b.1.1)),(.v (.int .i64 b.1.2.1)),(.v (.int .i64 b.1.2.2)),(.v (.int .i64 b.2.1)),(.v (.int .i64 b.2.2.1)),(.v (.int .i64 b.2.2.2))]⟩,[]))
theorem EF:ag C0 168 Gn:=
 ag.fx (e:=false) (.cons Je (.nil)) mixed Tryz.func168 (by kernel_rfl) (by kernel_rfl) al 1 ai (fun z=>(by kernel_rfl:_=Bg (fun b=>some (Gn.enc b)) z.1).trans (SB _ z.1))
def dM{R:Type}(kx:Pt->Option R)(a0:Ln):Option R:=
 Option.bind (qF (IntKind.wrap .i64 (a0.1+(4:Int)))) fun y1298=>
 kx y1298
def cd(a0:Ln):Option (Pt):=dM some a0
theorem Kv{R} kx a0: @dM R kx a0=(cd a0).bind kx:=by
 unfold cd dM
 exact ac fun _=>rfl
abbrev DZ:af:=.fx [.val true yL] (Pt) (fun z=>cd z.1) (fun b=>(.one ⟨true,[(.v (.int .i64 b.1.1)),(.v (.int .i64 b.1.2.1)),(.v (.int .i64 b.1.2.2)),(.v (.int .i64 b.2.1)),(.v (.int .i64 b.2.2.1)),(.v (.int .i64 b.2.2.2))]⟩,[]))
theorem kY:ag C0 149 DZ:=
 ag.fx (e:=false) (.cons EF (.nil)) mixed Tryz.func149 (by kernel_rfl) (by kernel_rfl) al 1 ai (fun z=>(by kernel_rfl:_=dM (fun b=>some (DZ.enc b)) z.1).trans (Kv _ z.1))
def sn:List (FuncId×af):=[]
abbrev dD:LS:=⟨[(false,[(.ptr 1 0)]),(false,[(.ptr 2 0)])],[(false,[(.int .i64),(.int .i64),(.int .i64)]),(false,[(.int .i64),(.int .i64),(.int .i64)])],[]⟩
abbrev yX:LS:=⟨[(false,[(.ptr 1 0)]),(false,[(.ptr 2 0)])],[(false,[(.int .i64),(.int .i64),(.int .i64)]),(false,[(.int .i64),(.int .i64),(.int .i64)])],[]⟩
abbrev og(v0:Int)(v1:Int)(v2:Int)(v3:Int)(v4:Int)(v5:Int):=(((((),()),((),()),()),((v0,v1,v2,()),(v3,v4,v5,()),()),()):yX.T)
abbrev eM:List (Ex×LS):=[(.exit 0,yX)]
abbrev kg(b0_0:Int)(b0_1:Int)(b0_2:Int)(b1_0:Int)(b1_1:Int)(b1_2:Int):=(((((),()),((),()),()),((b0_0,b0_1,b0_2,()),(b1_0,b1_1,b1_2,()),()),()):dD.T)
def il{R:Type}(nx:dD.T->Option R)(hx:mA R eM)(b0_0:Int)(b0_1:Int)(b0_2:Int)(b1_0:Int)(b1_1:Int)(b1_2:Int):Option R:=
 cond (decide (b0_2>(0:Int)))
 (cond ((IntKind.wrap .i64 (((BitVec.toNat ((BitVec.ofInt 64 b0_0)&&&(BitVec.ofInt 64 (1:Int)))):Nat):Int))==(0:Int))
  (cond ((IntKind.wrap .i64 (((BitVec.toNat ((BitVec.ofInt 64 b0_1)&&&(BitVec.ofInt 64 (1:Int)))):Nat):Int))==(0:Int))
   (cond ((IntKind.wrap .i64 (Int.tdiv b0_0 (2:Int)))==(0:Int))
    (cond ((IntKind.wrap .i64 (Int.tdiv b0_1 (2:Int)))==(0:Int))
     (nx (kg (IntKind.wrap .i64 (Int.tdiv b0_0 (2:Int))) (IntKind.wrap .i64 (Int.tdiv b0_1 (2:Int))) (0:Int) b1_0 b1_1 b1_2))
     (nx (kg (IntKind.wrap .i64 (Int.tdiv b0_0 (2:Int))) (IntKind.wrap .i64 (Int.tdiv b0_1 (2:Int))) (IntKind.wrap .i64 (b0_2-(1:Int))) b1_0 b1_1 b1_2)))
    (nx (kg (IntKind.wrap .i64 (Int.tdiv b0_0 (2:Int))) (IntKind.wrap .i64 (Int.tdiv b0_1 (2:Int))) (IntKind.wrap .i64 (b0_2-(1:Int))) b1_0 b1_1 b1_2)))
   (hx.1 (og b0_0 b0_1 b0_2 b1_0 b1_1 b1_2)))
  (hx.1 (og b0_0 b0_1 b0_2 b1_0 b1_1 b1_2)))
 (hx.1 (og b0_0 b0_1 b0_2 b1_0 b1_1 b1_2))
def uX{R:Type}(nx:dD.T->Option R)(hx:mA R eM)(z:dD.T):Option R:=il nx hx z.2.1.1.1 z.2.1.1.2.1 z.2.1.1.2.2.1 z.2.1.2.1.1 z.2.1.2.1.2.1 z.2.1.2.1.2.2.1
theorem zr:cK @uX:=fun R nx hx z=>by
 show il nx hx z.2.1.1.1 z.2.1.1.2.1 z.2.1.1.2.2.1 z.2.1.2.1.1 z.2.1.2.1.2.1 z.2.1.2.1.2.2.1=(il (fun y=>some (.inl y)) (oI eM fun x=>some (.inr x)) z.2.1.1.1 z.2.1.1.2.1 z.2.1.1.2.2.1 z.2.1.2.1.1 z.2.1.2.1.2.1 z.2.1.2.1.2.2.1).bind (oH nx hx)
 unfold il
 exact ae (ae (ae (ae (ae rfl rfl) rfl) rfl) rfl) rfl
def kj:dD.T->Option (yH eM):=BU @uX
theorem Ah b0_0 b0_1 b0_2 b1_0 b1_1 b1_2:kj (kg b0_0 b0_1 b0_2 b1_0 b1_1 b1_2)=il kj (oI eM some) b0_0 b0_1 b0_2 b1_0 b1_1 b1_2:=dR zr _
def pL:bN:=⟨[1,2],[1,2],[1,2],[1,2]⟩
def sA:fq Rv:=⟨fun k=>match k with|2=>pL|_=>⟨[],[],[],[]⟩,fun k=>match k with|2=>some (ce dD eM kj)|_=>none⟩
theorem JI(n:Nat)(z:dD.T)(k:Ex->iV->Option Rv):bJ ⟨40,40⟩ pL (mU (gN C0 sn) ⟨40,40⟩ sA 1 (aG Tryz.f162 1)) (n+1) (dD.enc z) k=
 uX (fun y=>bJ ⟨40,40⟩ pL (mU (gN C0 sn) ⟨40,40⟩ sA 1 (aG Tryz.f162 1)) n (dD.enc y) k) (hK k eM) z:=by kernel_rfl
theorem LF:ak (gN C0 sn) ⟨40,40⟩ sA 1 (ca (aX Tryz.f162)):=by
 have hl:ca (aX Tryz.f162)=[aG Tryz.f162 1]:=by kernel_rfl
 rw[hl]
 exact ak.cons (n:=2) (lh:=pL) (S:=ce dD eM kj) (by kernel_rfl) rfl rfl (cl zr JI)
  (ak.nil)
def pv{R:Type}(kx:Nm->Option R)(a0:Nm):Option R:=
 Option.bind (kj (kg a0.1 a0.2.1 a0.2.2 (0:Int) (0:Int) (0:Int))) (qi eM
 (fun e1312=>
  kx ((e1312.2.1.1.1:Int),((e1312.2.1.1.2.1:Int),(e1312.2.1.1.2.2.1:Int))),()))
def du(a0:Nm):Option (Nm):=pv some a0
theorem Ky{R} kx a0: @pv R kx a0=(du a0).bind kx:=by
 unfold du pv
 exact cq ⟨fun _=>rfl,trivial⟩
abbrev xT:af:=.fx [.val true yN] (Nm) (fun z=>du z.1) (fun b=>(.one ⟨true,[(.v (.int .i64 b.1)),(.v (.int .i64 b.2.1)),(.v (.int .i64 b.2.2))]⟩,[]))
theorem nT:ag C0 162 xT:=
 ag.fx (e:=false) (t:=sn) (.nil) mixed Tryz.func162 (by kernel_rfl) (by kernel_rfl) sA 1 LF (fun z=>(by kernel_rfl:_=pv (fun b=>some (xT.enc b)) z.1).trans (Ky _ z.1))
def rM{R:Type}(kx:Nm->Option R)(a0:Nm)(a1:Nm):Option R:=
 Option.bind (du ((IntKind.wrap .i64 ((IntKind.wrap .i64 (a0.1*a1.1))+(IntKind.wrap .i64 ((IntKind.wrap .i64 ((2:Int)*a0.2.1))*a1.2.1)))),((IntKind.wrap .i64 ((IntKind.wrap .i64 (a0.1*a1.2.1))+(IntKind.wrap .i64 (a0.2.1*a1.1)))),(IntKind.wrap .i64 (a0.2.2+a1.2.2))))) fun y1319=>
 kx y1319
def cG(a0:Nm)(a1:Nm):Option (Nm):=rM some a0 a1
theorem Nq{R} kx a0 a1: @rM R kx a0 a1=(cG a0 a1).bind kx:=by
 unfold cG rM
 exact ac fun _=>rfl
abbrev Ap:af:=.fx [.val true yN, .val true yN] (Nm) (fun z=>cG z.1 z.2.1) (fun b=>(.one ⟨true,[(.v (.int .i64 b.1)),(.v (.int .i64 b.2.1)),(.v (.int .i64 b.2.2))]⟩,[]))
theorem ng:ag C0 164 Ap:=
 ag.fx (e:=false) (.cons nT (.nil)) mixed Tryz.func164 (by kernel_rfl) (by kernel_rfl) al 1 ai (fun z=>(by kernel_rfl:_=rM (fun b=>some (Ap.enc b)) z.1 z.2.1).trans (Nq _ z.1 z.2.1))
def td{R:Type}(kx:Nm->Option R)(a0:Nm)(a1:Nm):Option R:=
 cond (decide ((IntKind.wrap .i64 ((if(Bool.true=Bool.true)then(if(a1.2.2>a0.2.2)then a1.2.2 else a0.2.2)else(if(a1.2.2<a0.2.2)then a1.2.2 else a0.2.2))-a0.2.2))<(0:Int)))
 none
 (cond (decide ((IntKind.wrap .i64 ((if(Bool.true=Bool.true)then(if(a1.2.2>a0.2.2)then a1.2.2 else a0.2.2)else(if(a1.2.2<a0.2.2)then a1.2.2 else a0.2.2))-a1.2.2))<(0:Int)))
  none
  (cond (decide ((IntKind.wrap .i64 ((if(Bool.true=Bool.true)then(if(a1.2.2>a0.2.2)then a1.2.2 else a0.2.2)else(if(a1.2.2<a0.2.2)then a1.2.2 else a0.2.2))-a0.2.2))<(0:Int)))
   none
   (cond (decide ((IntKind.wrap .i64 ((if(Bool.true=Bool.true)then(if(a1.2.2>a0.2.2)then a1.2.2 else a0.2.2)else(if(a1.2.2<a0.2.2)then a1.2.2 else a0.2.2))-a1.2.2))<(0:Int)))
    none
    (Option.bind (du ((IntKind.wrap .i64 ((IntKind.wrap .i64 (a0.1*((2:Int)^(Min.min (Int.toNat (IntKind.wrap .i64 ((if(Bool.true=Bool.true)then(if(a1.2.2>a0.2.2)then a1.2.2 else a0.2.2)else(if(a1.2.2<a0.2.2)then a1.2.2 else a0.2.2))-a0.2.2))) 64))))+(IntKind.wrap .i64 (a1.1*((2:Int)^(Min.min (Int.toNat (IntKind.wrap .i64 ((if(Bool.true=Bool.true)then(if(a1.2.2>a0.2.2)then a1.2.2 else a0.2.2)else(if(a1.2.2<a0.2.2)then a1.2.2 else a0.2.2))-a1.2.2))) 64)))))),((IntKind.wrap .i64 ((IntKind.wrap .i64 (a0.2.1*((2:Int)^(Min.min (Int.toNat (IntKind.wrap .i64 ((if(Bool.true=Bool.true)then(if(a1.2.2>a0.2.2)then a1.2.2 else a0.2.2)else(if(a1.2.2<a0.2.2)then a1.2.2 else a0.2.2))-a0.2.2))) 64))))+(IntKind.wrap .i64 (a1.2.1*((2:Int)^(Min.min (Int.toNat (IntKind.wrap .i64 ((if(Bool.true=Bool.true)then(if(a1.2.2>a0.2.2)then a1.2.2 else a0.2.2)else(if(a1.2.2<a0.2.2)then a1.2.2 else a0.2.2))-a1.2.2))) 64)))))),(if(Bool.true=Bool.true)then(if(a1.2.2>a0.2.2)then a1.2.2 else a0.2.2)else(if(a1.2.2<a0.2.2)then a1.2.2 else a0.2.2))))) fun y1327=>
     kx y1327))))
def ev(a0:Nm)(a1:Nm):Option (Nm):=td some a0 a1
theorem O1{R} kx a0 a1: @td R kx a0 a1=(ev a0 a1).bind kx:=by
 unfold ev td
 exact ae rfl (ae rfl (ae rfl (ae rfl (ac fun _=>rfl))))
abbrev I1:af:=.fx [.val true yN, .val true yN] (Nm) (fun z=>ev z.1 z.2.1) (fun b=>(.one ⟨true,[(.v (.int .i64 b.1)),(.v (.int .i64 b.2.1)),(.v (.int .i64 b.2.2))]⟩,[]))
theorem oK:ag C0 85 I1:=
 ag.fx (e:=false) (.cons nT (.nil)) mixed Tryz.func85 (by kernel_rfl) (by kernel_rfl) al 1 ai (fun z=>(by kernel_rfl:_=td (fun b=>some (I1.enc b)) z.1 z.2.1).trans (O1 _ z.1 z.2.1))
def rL{R:Type}(kx:Nm->Option R)(a0:Nm)(a1:Nm):Option R:=
 Option.bind (cn a1) fun y1324=>
 Option.bind (ev a0 y1324) fun y1328=>
 kx y1328
def cy(a0:Nm)(a1:Nm):Option (Nm):=rL some a0 a1
theorem Np{R} kx a0 a1: @rL R kx a0 a1=(cy a0 a1).bind kx:=by
 unfold cy rL
 exact ac fun _=>ac fun _=>rfl
abbrev Hg:af:=.fx [.val true yN, .val true yN] (Nm) (fun z=>cy z.1 z.2.1) (fun b=>(.one ⟨true,[(.v (.int .i64 b.1)),(.v (.int .i64 b.2.1)),(.v (.int .i64 b.2.2))]⟩,[]))
theorem kI:ag C0 151 Hg:=
 ag.fx (e:=false) (.cons Je (.cons oK (.nil))) mixed Tryz.func151 (by kernel_rfl) (by kernel_rfl) al 1 ai (fun z=>(by kernel_rfl:_=rL (fun b=>some (Hg.enc b)) z.1 z.2.1).trans (Np _ z.1 z.2.1))
def mm{R:Type}(kx:Nm->Option R)(a0:Pt)(a1:Pt):Option R:=
 Option.bind (cG a0.1 a1.2) fun y1320=>
 Option.bind (cG a0.2 a1.1) fun y1321=>
 Option.bind (cy y1320 y1321) fun y1329=>
 kx y1329
def ig(a0:Pt)(a1:Pt):Option (Nm):=mm some a0 a1
theorem Kz{R} kx a0 a1: @mm R kx a0 a1=(ig a0 a1).bind kx:=by
 unfold ig mm
 exact ac fun _=>ac fun _=>ac fun _=>rfl
abbrev xU:af:=.fx [.val true yP, .val true yP] (Nm) (fun z=>ig z.1 z.2.1) (fun b=>(.one ⟨true,[(.v (.int .i64 b.1)),(.v (.int .i64 b.2.1)),(.v (.int .i64 b.2.2))]⟩,[]))
theorem CO:ag C0 163 xU:=
 ag.fx (e:=false) (.cons ng (.cons kI (.nil))) mixed Tryz.func163 (by kernel_rfl) (by kernel_rfl) al 1 ai (fun z=>(by kernel_rfl:_=mm (fun b=>some (xU.enc b)) z.1 z.2.1).trans (Kz _ z.1 z.2.1))
def xv:List (FuncId×af):=[(164,Ap),(162,xT)]
abbrev fQ:LS:=⟨[(false,[(.ptr 4 0)]),(false,[(.int .i64)]),(false,[(.ptr 7 0)])],[(false,[(.int .i64),(.int .i64),(.int .i64)]),(false,[(.int .i64),(.int .i64),(.int .i64)])],[]⟩
abbrev Cu:LS:=⟨[(false,[(.ptr 4 0)]),(false,[(.int .i64)]),(false,[(.ptr 7 0)])],[(false,[(.int .i64),(.int .i64),(.int .i64)]),(false,[(.int .i64),(.int .i64),(.int .i64)])],[]⟩
abbrev Cr(v0:Int)(v1:Int)(v2:Int)(v3:Int)(v4:Int)(v5:Int)(v6:Int):=(((((),()),(v0,()),((),()),()),((v1,v2,v3,()),(v4,v5,v6,()),()),()):Cu.T)
abbrev fV:List (Ex×LS):=[(.exit 0,Cu)]
abbrev ui(x6:Int)(b0_0:Int)(b0_1:Int)(b0_2:Int)(b1_0:Int)(b1_1:Int)(b1_2:Int):=(((((),()),(x6,()),((),()),()),((b0_0,b0_1,b0_2,()),(b1_0,b1_1,b1_2,()),()),()):fQ.T)
def nl{R:Type}(nx:fQ.T->Option R)(hx:mA R fV)(x6:Int)(b0_0:Int)(b0_1:Int)(b0_2:Int)(b1_0:Int)(b1_1:Int)(b1_2:Int):Option R:=
 cond ((IntKind.wrap .i64 (((BitVec.toNat ((BitVec.ofInt 64 x6)&&&(BitVec.ofInt 64 (1:Int)))):Nat):Int))==(0:Int))
 (nx (ui (IntKind.wrap .i64 (Int.tdiv x6 (2:Int))) b0_0 b0_1 b0_2 b1_0 b1_1 (IntKind.wrap .i64 (b1_2+(1:Int)))))
 (hx.1 (Cr x6 b0_0 b0_1 b0_2 b1_0 b1_1 b1_2))
def zJ{R:Type}(nx:fQ.T->Option R)(hx:mA R fV)(z:fQ.T):Option R:=nl nx hx z.1.2.1.1 z.2.1.1.1 z.2.1.1.2.1 z.2.1.1.2.2.1 z.2.1.2.1.1 z.2.1.2.1.2.1 z.2.1.2.1.2.2.1
theorem CK:cK @zJ:=fun R nx hx z=>by
 show nl nx hx z.1.2.1.1 z.2.1.1.1 z.2.1.1.2.1 z.2.1.1.2.2.1 z.2.1.2.1.1 z.2.1.2.1.2.1 z.2.1.2.1.2.2.1=(nl (fun y=>some (.inl y)) (oI fV fun x=>some (.inr x)) z.1.2.1.1 z.2.1.1.1 z.2.1.1.2.1 z.2.1.1.2.2.1 z.2.1.2.1.1 z.2.1.2.1.2.1 z.2.1.2.1.2.2.1).bind (oH nx hx)
 unfold nl
 exact ae rfl rfl
def nq:fQ.T->Option (yH fV):=BU @zJ
theorem Ob x6 b0_0 b0_1 b0_2 b1_0 b1_1 b1_2:nq (ui x6 b0_0 b0_1 b0_2 b1_0 b1_1 b1_2)=nl nq (oI fV some) x6 b0_0 b0_1 b0_2 b1_0 b1_1 b1_2:=dR CK _
def sE:bN:=⟨[4,6,7],[4,7],[4,6,7],[4,7]⟩
def xz:fq Rv:=⟨fun k=>match k with|7=>sE|_=>⟨[],[],[],[]⟩,fun k=>match k with|7=>some (ce fQ fV nq)|_=>none⟩
theorem N4(n:Nat)(z:fQ.T)(k:Ex->iV->Option Rv):bJ ⟨89,89⟩ sE (mU (gN C0 xv) ⟨89,89⟩ xz 1 (aG Tryz.f152 6)) (n+1) (fQ.enc z) k=
 zJ (fun y=>bJ ⟨89,89⟩ sE (mU (gN C0 xv) ⟨89,89⟩ xz 1 (aG Tryz.f152 6)) n (fQ.enc y) k) (hK k fV) z:=by kernel_rfl
theorem Qr:ak (gN C0 xv) ⟨89,89⟩ xz 1 (ca (aX Tryz.f152)):=by
 have hl:ca (aX Tryz.f152)=[aG Tryz.f152 6]:=by kernel_rfl
 rw[hl]
 exact ak.cons (n:=7) (lh:=sE) (S:=ce fQ fV nq) (by kernel_rfl) rfl rfl (cl CK N4)
  (ak.nil)
def pV{R:Type}(kx:Nm×Bool->Option R)(a0:Nm)(a1:Nm):Option R:=
 cond ((IntKind.wrap .i64 ((IntKind.wrap .i64 (a1.1*a1.1))-(IntKind.wrap .i64 ((IntKind.wrap .i64 ((2:Int)*a1.2.1))*a1.2.1))))==(0:Int))
 (kx (((0:Int),((0:Int),(0:Int))),Bool.false))
 (Option.bind (cG a0 (a1.1,((IntKind.wrap .i64 ((0:Int)-a1.2.1)),(0:Int)))) fun y1336=>
  Option.bind (nq (ui (IntKind.wrap .i64 ((IntKind.wrap .i64 (a1.1*a1.1))-(IntKind.wrap .i64 ((IntKind.wrap .i64 ((2:Int)*a1.2.1))*a1.2.1)))) (0:Int) (0:Int) (0:Int) y1336.1 y1336.2.1 (IntKind.wrap .i64 (y1336.2.2-a1.2.2)))) (qi fV
  (fun e1344=>
   cond (decide ((e1344.1.2.1.1:Int)=(0:Int)))
   none
   (cond ((Int.tmod (e1344.2.1.2.1.1:Int) (e1344.1.2.1.1:Int)) !=(0:Int))
    (kx (((0:Int),((0:Int),(0:Int))),Bool.false))
    (cond (decide ((e1344.1.2.1.1:Int)=(0:Int)))
     none
     (cond ((Int.tmod (e1344.2.1.2.1.2.1:Int) (e1344.1.2.1.1:Int)) !=(0:Int))
      (kx (((0:Int),((0:Int),(0:Int))),Bool.false))
      (cond (decide ((e1344.1.2.1.1:Int)=(0:Int)))
       none
       (cond (decide ((e1344.1.2.1.1:Int)=(0:Int)))
        none
        (cond (decide ((e1344.2.1.2.1.2.2.1:Int)<(0:Int)))
         (cond (decide ((IntKind.wrap .i64 ((0:Int)-(e1344.2.1.2.1.2.2.1:Int)))<(0:Int)))
          none
          (cond (decide ((IntKind.wrap .i64 ((0:Int)-(e1344.2.1.2.1.2.2.1:Int)))<(0:Int)))
           none
           (Option.bind (du ((IntKind.wrap .i64 ((IntKind.wrap .i64 (Int.tdiv (e1344.2.1.2.1.1:Int) (e1344.1.2.1.1:Int)))*((2:Int)^(Min.min (Int.toNat (IntKind.wrap .i64 ((0:Int)-(e1344.2.1.2.1.2.2.1:Int)))) 64)))),((IntKind.wrap .i64 ((IntKind.wrap .i64 (Int.tdiv (e1344.2.1.2.1.2.1:Int) (e1344.1.2.1.1:Int)))*((2:Int)^(Min.min (Int.toNat (IntKind.wrap .i64 ((0:Int)-(e1344.2.1.2.1.2.2.1:Int)))) 64)))),(0:Int)))) fun y1352=>
            kx (y1352,Bool.true))))
         (Option.bind (du ((IntKind.wrap .i64 (Int.tdiv (e1344.2.1.2.1.1:Int) (e1344.1.2.1.1:Int))),((IntKind.wrap .i64 (Int.tdiv (e1344.2.1.2.1.2.1:Int) (e1344.1.2.1.1:Int))),(e1344.2.1.2.1.2.2.1:Int)))) fun y1353=>
          kx (y1353,Bool.true)))))))),())))
def gu(a0:Nm)(a1:Nm):Option (Nm×Bool):=pV some a0 a1
theorem O0{R} kx a0 a1: @pV R kx a0 a1=(gu a0 a1).bind kx:=by
 unfold gu pV
 exact ae rfl (ac fun _=>cq ⟨fun _=>ae rfl (ae rfl (ae rfl (ae rfl (ae rfl (ae rfl (ae (ae rfl (ae rfl (ac fun _=>rfl))) (ac fun _=>rfl))))))),trivial⟩)
abbrev IZ:af:=.fx [.val true yN, .val true yN] (Nm×Bool) (fun z=>gu z.1 z.2.1) (fun b=>(.tup [⟨true,[(.v (.int .i64 b.1.1)),(.v (.int .i64 b.1.2.1)),(.v (.int .i64 b.1.2.2))]⟩,⟨false,[(.v (.bool b.2))]⟩],[]))
theorem wj:ag C0 152 IZ:=
 ag.fx (e:=false) (t:=xv) (.cons ng (.cons nT (.nil))) mixed Tryz.func152 (by kernel_rfl) (by kernel_rfl) xz 1 Qr (fun z=>(by kernel_rfl:_=pV (fun b=>some (IZ.enc b)) z.1 z.2.1).trans (O0 _ z.1 z.2.1))
def rI{R:Type}(kx:Pt×Bool->Option R)(a0:Ln)(a1:Ln):Option R:=
 Option.bind (cd a0) fun y1299=>
 Option.bind (cd a1) fun y1300=>
 Option.bind (ig y1299 y1300) fun y1330=>
 Option.bind (cG a0.2 y1300.2) fun y1331=>
 Option.bind (cG a1.2 y1299.2) fun y1332=>
 Option.bind (cy y1331 y1332) fun y1333=>
 Option.bind (gu y1333 y1330) fun y1354=>
 Option.bind (cG a1.2 y1299.1) fun y1355=>
 Option.bind (cG a0.2 y1300.1) fun y1356=>
 Option.bind (cy y1355 y1356) fun y1357=>
 Option.bind (gu y1357 y1330) fun y1358=>
 cond y1354.2
 (kx ((y1354.1,y1358.1),y1358.2))
 (kx ((y1354.1,y1358.1),Bool.false))
def lT(a0:Ln)(a1:Ln):Option (Pt×Bool):=rI some a0 a1
theorem Nl{R} kx a0 a1: @rI R kx a0 a1=(lT a0 a1).bind kx:=by
 unfold lT rI
 exact ac fun _=>ac fun _=>ac fun _=>ac fun _=>ac fun _=>ac fun _=>ac fun _=>ac fun _=>ac fun _=>ac fun _=>ac fun _=>ae rfl rfl
abbrev He:af:=.fx [.val true yL, .val true yL] (Pt×Bool) (fun z=>lT z.1 z.2.1) (fun b=>(.tup [⟨true,[(.v (.int .i64 b.1.1.1)),(.v (.int .i64 b.1.1.2.1)),(.v (.int .i64 b.1.1.2.2)),(.v (.int .i64 b.1.2.1)),(.v (.int .i64 b.1.2.2.1)),(.v (.int .i64 b.1.2.2.2))]⟩,⟨false,[(.v (.bool b.2))]⟩],[]))
theorem FY:ag C0 87 He:=
 ag.fx (e:=false) (.cons kY (.cons CO (.cons ng (.cons kI (.cons wj (.nil)))))) mixed Tryz.func87 (by kernel_rfl) (by kernel_rfl) al 1 ai (fun z=>(by kernel_rfl:_=rI (fun b=>some (He.enc b)) z.1 z.2.1).trans (Nl _ z.1 z.2.1))
def pt{R:Type}(kx:Nm×Bool->Option R)(a0:Nm):Option R:=
 Option.bind (du a0) fun y1362=>
 Option.bind (fD y1362) fun y1363=>
 cond (!y1363)
 (kx (((0:Int),((0:Int),(0:Int))),Bool.false))
 (kx (y1362,Bool.true))
def jH(a0:Nm):Option (Nm×Bool):=pt some a0
theorem Kw{R} kx a0: @pt R kx a0=(jH a0).bind kx:=by
 unfold jH pt
 exact ac fun _=>ac fun _=>ae rfl rfl
abbrev D0:af:=.fx [.val true yN] (Nm×Bool) (fun z=>jH z.1) (fun b=>(.tup [⟨true,[(.v (.int .i64 b.1.1)),(.v (.int .i64 b.1.2.1)),(.v (.int .i64 b.1.2.2))]⟩,⟨false,[(.v (.bool b.2))]⟩],[]))
theorem L6:ag C0 166 D0:=
 ag.fx (e:=false) (.cons nT (.cons rA (.nil))) mixed Tryz.func166 (by kernel_rfl) (by kernel_rfl) al 1 ai (fun z=>(by kernel_rfl:_=pt (fun b=>some (D0.enc b)) z.1).trans (Kw _ z.1))
def mO{R:Type}(kx:Pt×Bool->Option R)(a0:Pt):Option R:=
 Option.bind (jH a0.1) fun y1364=>
 Option.bind (jH a0.2) fun y1365=>
 cond (!y1364.2)
 (kx ((((0:Int),((0:Int),(0:Int))),((0:Int),((0:Int),(0:Int)))),Bool.false))
 (cond (!y1365.2)
  (kx ((((0:Int),((0:Int),(0:Int))),((0:Int),((0:Int),(0:Int)))),Bool.false))
  (kx ((y1364.1,y1365.1),Bool.true)))
def ez(a0:Pt):Option (Pt×Bool):=mO some a0
theorem IC{R} kx a0: @mO R kx a0=(ez a0).bind kx:=by
 unfold ez mO
 exact ac fun _=>ac fun _=>ae rfl (ae rfl rfl)
abbrev BG:af:=.fx [.val true yP] (Pt×Bool) (fun z=>ez z.1) (fun b=>(.tup [⟨true,[(.v (.int .i64 b.1.1.1)),(.v (.int .i64 b.1.1.2.1)),(.v (.int .i64 b.1.1.2.2)),(.v (.int .i64 b.1.2.1)),(.v (.int .i64 b.1.2.2.1)),(.v (.int .i64 b.1.2.2.2))]⟩,⟨false,[(.v (.bool b.2))]⟩],[]))
theorem tR:ag C0 89 BG:=
 ag.fx (e:=false) (.cons L6 (.nil)) mixed Tryz.func89 (by kernel_rfl) (by kernel_rfl) al 1 ai (fun z=>(by kernel_rfl:_=mO (fun b=>some (BG.enc b)) z.1).trans (IC _ z.1))
def rK{R:Type}(kx:Pt×Int->Option R)(a0:Ln)(a1:Ln):Option R:=
 Option.bind (aI a0) fun y1275=>
 cond (!y1275)
 (kx ((((0:Int),((0:Int),(0:Int))),((0:Int),((0:Int),(0:Int)))),(1:Int)))
 (Option.bind (aI a1) fun y1276=>
  cond (!y1276)
  (kx ((((0:Int),((0:Int),(0:Int))),((0:Int),((0:Int),(0:Int)))),(1:Int)))
  (cond (a0.1==a1.1)
   (kx ((((0:Int),((0:Int),(0:Int))),((0:Int),((0:Int),(0:Int)))),(7:Int)))
   (Option.bind (lT a0 a1) fun y1359=>
    cond (!y1359.2)
    (kx ((((0:Int),((0:Int),(0:Int))),((0:Int),((0:Int),(0:Int)))),(2:Int)))
    (Option.bind (ez y1359.1) fun y1366=>
     cond (!y1366.2)
     (kx ((((0:Int),((0:Int),(0:Int))),((0:Int),((0:Int),(0:Int)))),(2:Int)))
     (kx (y1366.1,(0:Int)))))))
def lU(a0:Ln)(a1:Ln):Option (Pt×Int):=rK some a0 a1
theorem No{R} kx a0 a1: @rK R kx a0 a1=(lU a0 a1).bind kx:=by
 unfold lU rK
 exact ac fun _=>ae rfl (ac fun _=>ae rfl (ae rfl (ac fun _=>ae rfl (ac fun _=>ae rfl rfl))))
abbrev Hf:af:=.fx [.val true yL, .val true yL] (Pt×Int) (fun z=>lU z.1 z.2.1) (fun b=>(.tup [⟨true,[(.v (.int .i64 b.1.1.1)),(.v (.int .i64 b.1.1.2.1)),(.v (.int .i64 b.1.1.2.2)),(.v (.int .i64 b.1.2.1)),(.v (.int .i64 b.1.2.2.1)),(.v (.int .i64 b.1.2.2.2))]⟩,⟨false,[(.v (.int .i64 b.2))]⟩],[]))
theorem PC:ag C0 130 Hf:=
 ag.fx (e:=false) (.cons dK (.cons FY (.cons tR (.nil)))) mixed Tryz.func130 (by kernel_rfl) (by kernel_rfl) al 1 ai (fun z=>(by kernel_rfl:_=rK (fun b=>some (Hf.enc b)) z.1 z.2.1).trans (No _ z.1 z.2.1))
def qt{R:Type}(kx:Pt->Option R)(a0:Pt)(a1:Pt):Option R:=
 Option.bind (ev a0.1 a1.1) fun y1379=>
 Option.bind (ev a0.2 a1.2) fun y1380=>
 kx (y1379,y1380)
def kz(a0:Pt)(a1:Pt):Option (Pt):=qt some a0 a1
theorem LL{R} kx a0 a1: @qt R kx a0 a1=(kz a0 a1).bind kx:=by
 unfold kz qt
 exact ac fun _=>ac fun _=>rfl
abbrev Fy:af:=.fx [.val true yP, .val true yP] (Pt) (fun z=>kz z.1 z.2.1) (fun b=>(.one ⟨true,[(.v (.int .i64 b.1.1)),(.v (.int .i64 b.1.2.1)),(.v (.int .i64 b.1.2.2)),(.v (.int .i64 b.2.1)),(.v (.int .i64 b.2.2.1)),(.v (.int .i64 b.2.2.2))]⟩,[]))
theorem ED:ag C0 153 Fy:=
 ag.fx (e:=false) (.cons oK (.nil)) mixed Tryz.func153 (by kernel_rfl) (by kernel_rfl) al 1 ai (fun z=>(by kernel_rfl:_=qt (fun b=>some (Fy.enc b)) z.1 z.2.1).trans (LL _ z.1 z.2.1))
def tc{R:Type}(kx:Nm->Option R)(a0:Nm):Option R:=
 Option.bind (du (a0.1,(a0.2.1,(IntKind.wrap .i64 (a0.2.2+(1:Int)))))) fun y1383=>
 kx y1383
def lj(a0:Nm):Option (Nm):=tc some a0
theorem OZ{R} kx a0: @tc R kx a0=(lj a0).bind kx:=by
 unfold lj tc
 exact ac fun _=>rfl
abbrev IY:af:=.fx [.val true yN] (Nm) (fun z=>lj z.1) (fun b=>(.one ⟨true,[(.v (.int .i64 b.1)),(.v (.int .i64 b.2.1)),(.v (.int .i64 b.2.2))]⟩,[]))
theorem HO:ag C0 86 IY:=
 ag.fx (e:=false) (.cons nT (.nil)) mixed Tryz.func86 (by kernel_rfl) (by kernel_rfl) al 1 ai (fun z=>(by kernel_rfl:_=tc (fun b=>some (IY.enc b)) z.1).trans (OZ _ z.1))
def tF{R:Type}(kx:Pt->Option R)(a0:Pt)(a1:Pt):Option R:=
 Option.bind (kz a0 a1) fun y1381=>
 Option.bind (lj y1381.1) fun y1384=>
 Option.bind (lj y1381.2) fun y1385=>
 kx (y1384,y1385)
def qD(a0:Pt)(a1:Pt):Option (Pt):=tF some a0 a1
theorem Sz{R} kx a0 a1: @tF R kx a0 a1=(qD a0 a1).bind kx:=by
 unfold qD tF
 exact ac fun _=>ac fun _=>ac fun _=>rfl
abbrev Mu:af:=.fx [.val true yP, .val true yP] (Pt) (fun z=>qD z.1 z.2.1) (fun b=>(.one ⟨true,[(.v (.int .i64 b.1.1)),(.v (.int .i64 b.1.2.1)),(.v (.int .i64 b.1.2.2)),(.v (.int .i64 b.2.1)),(.v (.int .i64 b.2.2.1)),(.v (.int .i64 b.2.2.2))]⟩,[]))
theorem KS:ag C0 92 Mu:=
 ag.fx (e:=false) (.cons ED (.cons HO (.nil))) mixed Tryz.func92 (by kernel_rfl) (by kernel_rfl) al 1 ai (fun z=>(by kernel_rfl:_=tF (fun b=>some (Mu.enc b)) z.1 z.2.1).trans (Sz _ z.1 z.2.1))
def ta{R:Type}(kx:Pt×Bool->Option R)(a0:Pt)(a1:Pt):Option R:=
 Option.bind (aH a0) fun y1373=>
 cond (!y1373)
 (kx ((((0:Int),((0:Int),(0:Int))),((0:Int),((0:Int),(0:Int)))),Bool.false))
 (Option.bind (aH a1) fun y1374=>
  cond (!y1374)
  (kx ((((0:Int),((0:Int),(0:Int))),((0:Int),((0:Int),(0:Int)))),Bool.false))
  (Option.bind (qD a0 a1) fun y1386=>
   Option.bind (ez y1386) fun y1387=>
   kx y1387))
def ny(a0:Pt)(a1:Pt):Option (Pt×Bool):=ta some a0 a1
theorem OY{R} kx a0 a1: @ta R kx a0 a1=(ny a0 a1).bind kx:=by
 unfold ny ta
 exact ac fun _=>ae rfl (ac fun _=>ae rfl (ac fun _=>ac fun _=>rfl))
abbrev IX:af:=.fx [.val true yP, .val true yP] (Pt×Bool) (fun z=>ny z.1 z.2.1) (fun b=>(.tup [⟨true,[(.v (.int .i64 b.1.1.1)),(.v (.int .i64 b.1.1.2.1)),(.v (.int .i64 b.1.1.2.2)),(.v (.int .i64 b.1.2.1)),(.v (.int .i64 b.1.2.2.1)),(.v (.int .i64 b.1.2.2.2))]⟩,⟨false,[(.v (.bool b.2))]⟩],[]))
theorem Rb:ag C0 131 IX:=
 ag.fx (e:=false) (.cons fj (.cons KS (.cons tR (.nil)))) mixed Tryz.func131 (by kernel_rfl) (by kernel_rfl) al 1 ai (fun z=>(by kernel_rfl:_=ta (fun b=>some (IX.enc b)) z.1 z.2.1).trans (OY _ z.1 z.2.1))
def wl{R:Type}(kx:Int->Option R)(a0:Bool):Option R:=
 cond a0
 (kx (0:Int))
 (kx (2:Int))
def gA(a0:Bool):Option (Int):=wl some a0
theorem Ny{R} kx a0: @wl R kx a0=(gA a0).bind kx:=by
 unfold gA wl
 exact ae rfl rfl
abbrev Hl:af:=.fx [.val false .bool] (Int) (fun z=>gA z.1) (fun b=>(.one ⟨false,[(.v (.int .i64 b))]⟩,[]))
theorem F5:ag C0 132 Hl:=
 ag.fx (e:=false) (.nil) mixed Tryz.func132 (by kernel_rfl) (by kernel_rfl) al 1 ai (fun z=>(by kernel_rfl:_=wl (fun b=>some (Hl.enc b)) z.1).trans (Ny _ z.1))
def rN{R:Type}(kx:Nm->Option R)(a0:Pt)(a1:Pt):Option R:=
 Option.bind (cG a0.1 a1.1) fun y1405=>
 Option.bind (cG a0.2 a1.2) fun y1406=>
 Option.bind (ev y1405 y1406) fun y1407=>
 kx y1407
def cH(a0:Pt)(a1:Pt):Option (Nm):=rN some a0 a1
theorem Nr{R} kx a0 a1: @rN R kx a0 a1=(cH a0 a1).bind kx:=by
 unfold cH rN
 exact ac fun _=>ac fun _=>ac fun _=>rfl
abbrev Aq:af:=.fx [.val true yP, .val true yP] (Nm) (fun z=>cH z.1 z.2.1) (fun b=>(.one ⟨true,[(.v (.int .i64 b.1)),(.v (.int .i64 b.2.1)),(.v (.int .i64 b.2.2))]⟩,[]))
theorem nh:ag C0 150 Aq:=
 ag.fx (e:=false) (.cons ng (.cons oK (.nil))) mixed Tryz.func150 (by kernel_rfl) (by kernel_rfl) al 1 ai (fun z=>(by kernel_rfl:_=rN (fun b=>some (Aq.enc b)) z.1 z.2.1).trans (Nr _ z.1 z.2.1))
def py{R:Type}(kx:Pt->Option R)(a0:Pt)(a1:Nm):Option R:=
 Option.bind (cG a0.1 a1) fun y1412=>
 Option.bind (cG a0.2 a1) fun y1413=>
 kx (y1412,y1413)
def jI(a0:Pt)(a1:Nm):Option (Pt):=py some a0 a1
theorem KC{R} kx a0 a1: @py R kx a0 a1=(jI a0 a1).bind kx:=by
 unfold jI py
 exact ac fun _=>ac fun _=>rfl
abbrev D2:af:=.fx [.val true yP, .val true yN] (Pt) (fun z=>jI z.1 z.2.1) (fun b=>(.one ⟨true,[(.v (.int .i64 b.1.1)),(.v (.int .i64 b.1.2.1)),(.v (.int .i64 b.1.2.2)),(.v (.int .i64 b.2.1)),(.v (.int .i64 b.2.2.1)),(.v (.int .i64 b.2.2.2))]⟩,[]))
theorem CP:ag C0 154 D2:=
 ag.fx (e:=false) (.cons ng (.nil)) mixed Tryz.func154 (by kernel_rfl) (by kernel_rfl) al 1 ai (fun z=>(by kernel_rfl:_=py (fun b=>some (D2.enc b)) z.1 z.2.1).trans (KC _ z.1 z.2.1))
def rH{R:Type}(kx:Pt->Option R)(a0:Ln):Option R:=
 Option.bind (cd a0) fun y1402=>
 Option.bind (cH y1402 y1402) fun y1408=>
 Option.bind (gu a0.2 y1408) fun y1409=>
 Option.bind (jI y1402 y1409.1) fun y1414=>
 kx y1414
def oC(a0:Ln):Option (Pt):=rH some a0
theorem Nk{R} kx a0: @rH R kx a0=(oC a0).bind kx:=by
 unfold oC rH
 exact ac fun _=>ac fun _=>ac fun _=>ac fun _=>rfl
abbrev Hd:af:=.fx [.val true yL] (Pt) (fun z=>oC z.1) (fun b=>(.one ⟨true,[(.v (.int .i64 b.1.1)),(.v (.int .i64 b.1.2.1)),(.v (.int .i64 b.1.2.2)),(.v (.int .i64 b.2.1)),(.v (.int .i64 b.2.2.1)),(.v (.int .i64 b.2.2.2))]⟩,[]))
theorem PA:ag C0 82 Hd:=
 ag.fx (e:=false) (.cons kY (.cons nh (.cons wj (.cons CP (.nil))))) mixed Tryz.func82 (by kernel_rfl) (by kernel_rfl) al 1 ai (fun z=>(by kernel_rfl:_=rH (fun b=>some (Hd.enc b)) z.1).trans (Nk _ z.1))
def nX{R:Type}(kx:Pt->Option R)(a0:Ln)(a1:Pt):Option R:=
 Option.bind (cd a0) fun y1418=>
 Option.bind (cH y1418 a1) fun y1419=>
 Option.bind (cy a0.2 y1419) fun y1420=>
 Option.bind (cH y1418 y1418) fun y1421=>
 Option.bind (gu y1420 y1421) fun y1422=>
 Option.bind (ev y1422.1 y1422.1) fun y1423=>
 Option.bind (jI y1418 y1423) fun y1424=>
 Option.bind (kz a1 y1424) fun y1425=>
 kx y1425
def dS(a0:Ln)(a1:Pt):Option (Pt):=nX some a0 a1
theorem Jx{R} kx a0 a1: @nX R kx a0 a1=(dS a0 a1).bind kx:=by
 unfold dS nX
 exact ac fun _=>ac fun _=>ac fun _=>ac fun _=>ac fun _=>ac fun _=>ac fun _=>ac fun _=>rfl
abbrev wC:af:=.fx [.val true yL, .val true yP] (Pt) (fun z=>dS z.1 z.2.1) (fun b=>(.one ⟨true,[(.v (.int .i64 b.1.1)),(.v (.int .i64 b.1.2.1)),(.v (.int .i64 b.1.2.2)),(.v (.int .i64 b.2.1)),(.v (.int .i64 b.2.2.1)),(.v (.int .i64 b.2.2.2))]⟩,[]))
theorem uS:ag C0 81 wC:=
 ag.fx (e:=false) (.cons kY (.cons nh (.cons kI (.cons wj (.cons oK (.cons CP (.cons ED (.nil)))))))) mixed Tryz.func81 (by kernel_rfl) (by kernel_rfl) al 1 ai (fun z=>(by kernel_rfl:_=nX (fun b=>some (wC.enc b)) z.1 z.2.1).trans (Jx _ z.1 z.2.1))
def xd{R:Type}(kx:Ln->Option R)(a0:Pt)(a1:Int):Option R:=
 Option.bind (cd (a1,((0:Int),((0:Int),(0:Int))))) fun y1429=>
 Option.bind (cH y1429 a0) fun y1430=>
 kx (a1,y1430)
def gz(a0:Pt)(a1:Int):Option (Ln):=xd some a0 a1
theorem Sy{R} kx a0 a1: @xd R kx a0 a1=(gz a0 a1).bind kx:=by
 unfold gz xd
 exact ac fun _=>ac fun _=>rfl
abbrev Gm:af:=.fx [.val true yP, .val false (.int .i64)] (Ln) (fun z=>gz z.1 z.2.1) (fun b=>(.one ⟨true,[(.v (.int .i64 b.1)),(.v (.int .i64 b.2.1)),(.v (.int .i64 b.2.2.1)),(.v (.int .i64 b.2.2.2))]⟩,[]))
theorem rB:ag C0 80 Gm:=
 ag.fx (e:=false) (.cons kY (.cons nh (.nil))) mixed Tryz.func80 (by kernel_rfl) (by kernel_rfl) al 1 ai (fun z=>(by kernel_rfl:_=xd (fun b=>some (Gm.enc b)) z.1 z.2.1).trans (Sy _ z.1 z.2.1))
def pz{R:Type}(kx:Ln×Bool->Option R)(a0:Ln)(a1:Ln):Option R:=
 Option.bind (aI a0) fun y1399=>
 cond (!y1399)
 (kx (((0:Int),((0:Int),((0:Int),(0:Int)))),Bool.false))
 (Option.bind (aI a1) fun y1400=>
  cond (!y1400)
  (kx (((0:Int),((0:Int),((0:Int),(0:Int)))),Bool.false))
  (Option.bind (oC a1) fun y1415=>
   Option.bind (dS a0 y1415) fun y1426=>
   Option.bind (gz y1426 (IntKind.wrap .i64 (((BitVec.toNat ((BitVec.ofInt 64 (IntKind.wrap .i64 ((IntKind.wrap .i64 ((2:Int)*a0.1))-a1.1)))&&&(BitVec.ofInt 64 (7:Int)))):Nat):Int))) fun y1431=>
   Option.bind (fD y1431.2) fun y1432=>
   cond (!y1432)
   (kx (((0:Int),((0:Int),((0:Int),(0:Int)))),Bool.false))
   (kx (y1431,Bool.true))))
def jJ(a0:Ln)(a1:Ln):Option (Ln×Bool):=pz some a0 a1
theorem KD{R} kx a0 a1: @pz R kx a0 a1=(jJ a0 a1).bind kx:=by
 unfold jJ pz
 exact ac fun _=>ae rfl (ac fun _=>ae rfl (ac fun _=>ac fun _=>ac fun _=>ac fun _=>ae rfl rfl))
abbrev D3:af:=.fx [.val true yL, .val true yL] (Ln×Bool) (fun z=>jJ z.1 z.2.1) (fun b=>(.tup [⟨true,[(.v (.int .i64 b.1.1)),(.v (.int .i64 b.1.2.1)),(.v (.int .i64 b.1.2.2.1)),(.v (.int .i64 b.1.2.2.2))]⟩,⟨false,[(.v (.bool b.2))]⟩],[]))
theorem Ma:ag C0 32 D3:=
 ag.fx (e:=false) (.cons dK (.cons PA (.cons uS (.cons rB (.cons rA (.nil)))))) mixed Tryz.func32 (by kernel_rfl) (by kernel_rfl) al 1 ai (fun z=>(by kernel_rfl:_=pz (fun b=>some (D3.enc b)) z.1 z.2.1).trans (KD _ z.1 z.2.1))
def th{R:Type}(kx:It×Int->Option R)(a0:ByteArray)(a1:Ln)(a2:Int):Option R:=
 cond (a2 !=(0:Int))
 (kx (((ByteArray.mk (Array.mk [])),(Bool.false,((((0:Int),((0:Int),(0:Int))),((0:Int),((0:Int),(0:Int)))),((0:Int),((0:Int),((0:Int),(0:Int))))))),a2))
 (kx ((a0,(Bool.true,((((0:Int),((0:Int),(0:Int))),((0:Int),((0:Int),(0:Int)))),a1))),(0:Int)))
def cB(a0:ByteArray)(a1:Ln)(a2:Int):Option (It×Int):=th some a0 a1 a2
theorem O9{R} kx a0 a1 a2: @th R kx a0 a1 a2=(cB a0 a1 a2).bind kx:=by
 unfold cB th
 exact ae rfl rfl
abbrev I3:af:=.fx [.val false .str, .val true yL, .val false (.int .i64)] (It×Int) (fun z=>cB z.1 z.2.1 z.2.2.1) (fun b=>(.tup [⟨true,[(.v (.string b.1.1)),(.v (.bool b.1.2.1)),(.v (.int .i64 b.1.2.2.1.1.1)),(.v (.int .i64 b.1.2.2.1.1.2.1)),(.v (.int .i64 b.1.2.2.1.1.2.2)),(.v (.int .i64 b.1.2.2.1.2.1)),(.v (.int .i64 b.1.2.2.1.2.2.1)),(.v (.int .i64 b.1.2.2.1.2.2.2)),(.v (.int .i64 b.1.2.2.2.1)),(.v (.int .i64 b.1.2.2.2.2.1)),(.v (.int .i64 b.1.2.2.2.2.2.1)),(.v (.int .i64 b.1.2.2.2.2.2.2))]⟩,⟨false,[(.v (.int .i64 b.2))]⟩],[]))
theorem Az:ag C0 137 I3:=
 ag.fx (e:=false) (.nil) mixed Tryz.func137 (by kernel_rfl) (by kernel_rfl) al 1 ai (fun z=>(by kernel_rfl:_=th (fun b=>some (I3.enc b)) z.1 z.2.1 z.2.2.1).trans (O9 _ z.1 z.2.1 z.2.2.1))
def nY{R:Type}(kx:Pt×Bool->Option R)(a0:Ln)(a1:Pt):Option R:=
 Option.bind (aI a0) fun y1441=>
 cond (!y1441)
 (kx ((((0:Int),((0:Int),(0:Int))),((0:Int),((0:Int),(0:Int)))),Bool.false))
 (Option.bind (aH a1) fun y1442=>
  cond (!y1442)
  (kx ((((0:Int),((0:Int),(0:Int))),((0:Int),((0:Int),(0:Int)))),Bool.false))
  (Option.bind (dS a0 a1) fun y1443=>
   Option.bind (ez y1443) fun y1444=>
   kx y1444))
def iX(a0:Ln)(a1:Pt):Option (Pt×Bool):=nY some a0 a1
theorem Jy{R} kx a0 a1: @nY R kx a0 a1=(iX a0 a1).bind kx:=by
 unfold iX nY
 exact ac fun _=>ae rfl (ac fun _=>ae rfl (ac fun _=>ac fun _=>rfl))
abbrev CC:af:=.fx [.val true yL, .val true yP] (Pt×Bool) (fun z=>iX z.1 z.2.1) (fun b=>(.tup [⟨true,[(.v (.int .i64 b.1.1.1)),(.v (.int .i64 b.1.1.2.1)),(.v (.int .i64 b.1.1.2.2)),(.v (.int .i64 b.1.2.1)),(.v (.int .i64 b.1.2.2.1)),(.v (.int .i64 b.1.2.2.2))]⟩,⟨false,[(.v (.bool b.2))]⟩],[]))
theorem KR:ag C0 35 CC:=
 ag.fx (e:=false) (.cons dK (.cons fj (.cons uS (.cons tR (.nil))))) mixed Tryz.func35 (by kernel_rfl) (by kernel_rfl) al 1 ai (fun z=>(by kernel_rfl:_=nY (fun b=>some (CC.enc b)) z.1 z.2.1).trans (Jy _ z.1 z.2.1))
def um{R:Type}(kx:It×Int->Option R)(a0:ByteArray)(a1:Ln)(a2:It):Option R:=
 cond a2.2.1
 (Option.bind (jJ a1 a2.2.2.2) fun y1433=>
  Option.bind (gA y1433.2) fun y1434=>
  Option.bind (cB a0 y1433.1 y1434) fun y1438=>
  kx y1438)
 (Option.bind (iX a1 a2.2.2.1) fun y1445=>
  Option.bind (gA y1445.2) fun y1446=>
  Option.bind (dH a0 y1445.1 y1446) fun y1447=>
  kx y1447)
def tY(a0:ByteArray)(a1:Ln)(a2:It):Option (It×Int):=um some a0 a1 a2
theorem LR{R} kx a0 a1 a2: @um R kx a0 a1 a2=(tY a0 a1 a2).bind kx:=by
 unfold tY um
 exact ae (ac fun _=>ac fun _=>ac fun _=>rfl) (ac fun _=>ac fun _=>ac fun _=>rfl)
abbrev FC:af:=.fx [.val false .str, .val true yL, .val true yI] (It×Int) (fun z=>tY z.1 z.2.1 z.2.2.1) (fun b=>(.tup [⟨true,[(.v (.string b.1.1)),(.v (.bool b.1.2.1)),(.v (.int .i64 b.1.2.2.1.1.1)),(.v (.int .i64 b.1.2.2.1.1.2.1)),(.v (.int .i64 b.1.2.2.1.1.2.2)),(.v (.int .i64 b.1.2.2.1.2.1)),(.v (.int .i64 b.1.2.2.1.2.2.1)),(.v (.int .i64 b.1.2.2.1.2.2.2)),(.v (.int .i64 b.1.2.2.2.1)),(.v (.int .i64 b.1.2.2.2.2.1)),(.v (.int .i64 b.1.2.2.2.2.2.1)),(.v (.int .i64 b.1.2.2.2.2.2.2))]⟩,⟨false,[(.v (.int .i64 b.2))]⟩],[]))
theorem NW:ag C0 133 FC:=
 ag.fx (e:=false) (.cons Ma (.cons F5 (.cons Az (.cons KR (.cons F4 (.nil)))))) mixed Tryz.func133 (by kernel_rfl) (by kernel_rfl) al 1 ai (fun z=>(by kernel_rfl:_=um (fun b=>some (FC.enc b)) z.1 z.2.1 z.2.2.1).trans (LR _ z.1 z.2.1 z.2.2.1))
def mP{R:Type}(kx:Bool->Option R)(a0:Ln):Option R:=
 Option.bind (aI a0) fun y1467=>
 kx (!y1467)
def mH(a0:Ln):Option (Bool):=mP some a0
theorem ID{R} kx a0: @mP R kx a0=(mH a0).bind kx:=by
 unfold mH mP
 exact ac fun _=>rfl
abbrev uJ:af:=.fx [.val true yL] (Bool) (fun z=>mH z.1) (fun b=>(.one ⟨false,[(.v (.bool b))]⟩,[]))
theorem JF:ag C0 156 uJ:=
 ag.fx (e:=false) (.cons dK (.nil)) mixed Tryz.func156 (by kernel_rfl) (by kernel_rfl) al 1 ai (fun z=>(by kernel_rfl:_=mP (fun b=>some (uJ.enc b)) z.1).trans (ID _ z.1))
def cg:List (FuncId×af):=[(156,uJ)]
abbrev ao:LS:=⟨[(false,[(.sl yL)]),(false,[(.fn 156 [])]),(false,[(.int .i64)]),(false,[(.int .i64)])],[],[]⟩
abbrev dY:LS:=⟨[(false,[(.int .i64)])],[],[]⟩
abbrev kq(v0:Int):=((((v0,()),()),(),()):dY.T)
abbrev dZ:LS:=⟨[(false,[.undef])],[],[]⟩
abbrev kr:=(((((),()),()),(),()):dZ.T)
abbrev az:List (Ex×LS):=[(.ret,dY),(.exit 0,dZ)]
abbrev bv x0(x7:Int)(x8:Int):=((((x0,()),((),()),(x7,()),(x8,()),()),(),()):ao.T)
def aN{R:Type}(nx:ao.T->Option R)(hx:mA R az)(x0:List Ln)(x7:Int)(x8:Int):Option R:=
 cond (decide (x8<x7))
 (Option.bind (gq x0 x8) fun y1465=>
  Option.bind (mH y1465) fun y1468=>
  cond y1468
  (hx.1 (kq x8))
  (nx (bv x0 x7 (IntKind.wrap .i64 (x8+(1:Int))))))
 (hx.2.1 (kr))
def cT{R:Type}(nx:ao.T->Option R)(hx:mA R az)(z:ao.T):Option R:=aN nx hx z.1.1.1 z.1.2.2.1.1 z.1.2.2.2.1.1
theorem ej:cK @cT:=fun R nx hx z=>by
 show aN nx hx z.1.1.1 z.1.2.2.1.1 z.1.2.2.2.1.1=(aN (fun y=>some (.inl y)) (oI az fun x=>some (.inr x)) z.1.1.1 z.1.2.2.1.1 z.1.2.2.2.1.1).bind (oH nx hx)
 unfold aN
 exact ae (ac fun _=>ac fun _=>ae rfl rfl) rfl
def aP:ao.T->Option (yH az):=BU @cT
theorem eK x0 x7 x8:aP (bv x0 x7 x8)=aN aP (oI az some) x0 x7 x8:=dR ej _
def bV:bN:=⟨[0,1,7,8],[],[4],[]⟩
def cj:fq Rv:=⟨fun k=>match k with|3=>bV|_=>⟨[],[],[],[]⟩,fun k=>match k with|3=>some (ce ao az aP)|_=>none⟩
theorem kK(n:Nat)(z:ao.T)(k:Ex->iV->Option Rv):bJ ⟨19,19⟩ bV (mU (gN C0 cg) ⟨19,19⟩ cj 1 (aG Tryz.f220 2)) (n+1) (ao.enc z) k=
 cT (fun y=>bJ ⟨19,19⟩ bV (mU (gN C0 cg) ⟨19,19⟩ cj 1 (aG Tryz.f220 2)) n (ao.enc y) k) (hK k az) z:=by kernel_rfl
theorem lp:ak (gN C0 cg) ⟨19,19⟩ cj 1 (ca (aX Tryz.f220)):=by
 have hl:ca (aX Tryz.f220)=[aG Tryz.f220 2]:=by kernel_rfl
 rw[hl]
 exact ak.cons (n:=3) (lh:=bV) (S:=ce ao az aP) (by kernel_rfl) rfl rfl (cl ej kK)
  (ak.nil)
def bD{R:Type}(kx:Int->Option R)(a0:(List Ln)):Option R:=
 Option.bind (aP (bv a0 ((List.length a0:Nat):Int) (0:Int))) (qi az
 (fun e1469=>
  kx (e1469.1.1.1:Int),fun _=>
  kx (-(1:Int)),()))
def bA(a0:(List Ln)):Option (Int):=bD some a0
theorem ld{R} kx a0: @bD R kx a0=(bA a0).bind kx:=by
 unfold bA bD
 exact cq ⟨fun _=>rfl,fun _=>rfl,trivial⟩
abbrev ft:af:=.fx [.val false (.slice yL), .clo 156 []] (Int) (fun z=>bA z.1) (fun b=>(.one ⟨false,[(.v (.int .i64 b))]⟩,[]))
theorem lw:ag C0 220 ft:=
 ag.fx (e:=false) (t:=cg) (.cons JF (.nil)) mixed Tryz.func220 (by kernel_rfl) (by kernel_rfl) cj 1 lp (fun z=>(by kernel_rfl:_=bD (fun b=>some (ft.enc b)) z.1).trans (ld _ z.1))
def bo{R:Type}(kx:Bool->Option R)(a0:(List Ln)):Option R:=
 Option.bind (bA a0) fun y1472=>
 kx (decide (y1472>=(0:Int)))
def aU(a0:(List Ln)):Option (Bool):=bo some a0
theorem kn{R} kx a0: @bo R kx a0=(aU a0).bind kx:=by
 unfold aU bo
 exact ac fun _=>rfl
abbrev eE:af:=.fx [.val false (.slice yL), .clo 156 []] (Bool) (fun z=>aU z.1) (fun b=>(.one ⟨false,[(.v (.bool b))]⟩,[]))
theorem ks:ag C0 155 eE:=
 ag.fx (e:=false) (.cons lw (.nil)) mixed Tryz.func155 (by kernel_rfl) (by kernel_rfl) al 1 ai (fun z=>(by kernel_rfl:_=bo (fun b=>some (eE.enc b)) z.1).trans (kn _ z.1))
def uo{R:Type}(kx:Int->Option R)(a0:Int):Option R:=
 cond (decide (a0>=(4294967296:Int)))
 (cond (decide ((Int.fdiv a0 ((2:Int)^(Min.min (Int.toNat (32:Int)) 64)))>=(65536:Int)))
  (cond (decide ((Int.fdiv (Int.fdiv a0 ((2:Int)^(Min.min (Int.toNat (32:Int)) 64))) ((2:Int)^(Min.min (Int.toNat (16:Int)) 64)))>=(256:Int)))
   (Option.bind (B3 (ByteArray.mk (Array.mk (List.append (List.append [0,1,2,2,3,3,3,3,4,4,4,4,4,4,4,4,5,5,5,5,5,5,5,5,5,5,5,5,5,5,5,5,6,6,6,6,6,6,6,6,6,6,6,6,6,6,6,6,6,6,6,6,6,6,6,6,6,6,6,6,6,6,6,6] [7,7,7,7,7,7,7,7,7,7,7,7,7,7,7,7,7,7,7,7,7,7,7,7,7,7,7,7,7,7,7,7,7,7,7,7,7,7,7,7,7,7,7,7,7,7,7,7,7,7,7,7,7,7,7,7,7,7,7,7,7,7,7,7]) (List.append [8,8,8,8,8,8,8,8,8,8,8,8,8,8,8,8,8,8,8,8,8,8,8,8,8,8,8,8,8,8,8,8,8,8,8,8,8,8,8,8,8,8,8,8,8,8,8,8,8,8,8,8,8,8,8,8,8,8,8,8,8,8,8,8] [8,8,8,8,8,8,8,8,8,8,8,8,8,8,8,8,8,8,8,8,8,8,8,8,8,8,8,8,8,8,8,8,8,8,8,8,8,8,8,8,8,8,8,8,8,8,8,8,8,8,8,8,8,8,8,8,8,8,8,8,8,8,8,8])))) (IntKind.wrap IntKind.u8 (Int.fdiv (Int.fdiv (Int.fdiv a0 ((2:Int)^(Min.min (Int.toNat (32:Int)) 64))) ((2:Int)^(Min.min (Int.toNat (16:Int)) 64))) ((2:Int)^(Min.min (Int.toNat (8:Int)) 64))))) fun y1477=>
    kx (IntKind.wrap .i64 ((IntKind.wrap .i64 ((IntKind.wrap .i64 ((32:Int)+(16:Int)))+(8:Int)))+(IntKind.wrap .i64 (((UInt8.toNat y1477):Nat):Int)))))
   (Option.bind (B3 (ByteArray.mk (Array.mk (List.append (List.append [0,1,2,2,3,3,3,3,4,4,4,4,4,4,4,4,5,5,5,5,5,5,5,5,5,5,5,5,5,5,5,5,6,6,6,6,6,6,6,6,6,6,6,6,6,6,6,6,6,6,6,6,6,6,6,6,6,6,6,6,6,6,6,6] [7,7,7,7,7,7,7,7,7,7,7,7,7,7,7,7,7,7,7,7,7,7,7,7,7,7,7,7,7,7,7,7,7,7,7,7,7,7,7,7,7,7,7,7,7,7,7,7,7,7,7,7,7,7,7,7,7,7,7,7,7,7,7,7]) (List.append [8,8,8,8,8,8,8,8,8,8,8,8,8,8,8,8,8,8,8,8,8,8,8,8,8,8,8,8,8,8,8,8,8,8,8,8,8,8,8,8,8,8,8,8,8,8,8,8,8,8,8,8,8,8,8,8,8,8,8,8,8,8,8,8] [8,8,8,8,8,8,8,8,8,8,8,8,8,8,8,8,8,8,8,8,8,8,8,8,8,8,8,8,8,8,8,8,8,8,8,8,8,8,8,8,8,8,8,8,8,8,8,8,8,8,8,8,8,8,8,8,8,8,8,8,8,8,8,8])))) (IntKind.wrap IntKind.u8 (Int.fdiv (Int.fdiv a0 ((2:Int)^(Min.min (Int.toNat (32:Int)) 64))) ((2:Int)^(Min.min (Int.toNat (16:Int)) 64))))) fun y1478=>
    kx (IntKind.wrap .i64 ((IntKind.wrap .i64 ((32:Int)+(16:Int)))+(IntKind.wrap .i64 (((UInt8.toNat y1478):Nat):Int))))))
  (cond (decide ((Int.fdiv a0 ((2:Int)^(Min.min (Int.toNat (32:Int)) 64)))>=(256:Int)))
   (Option.bind (B3 (ByteArray.mk (Array.mk (List.append (List.append [0,1,2,2,3,3,3,3,4,4,4,4,4,4,4,4,5,5,5,5,5,5,5,5,5,5,5,5,5,5,5,5,6,6,6,6,6,6,6,6,6,6,6,6,6,6,6,6,6,6,6,6,6,6,6,6,6,6,6,6,6,6,6,6] [7,7,7,7,7,7,7,7,7,7,7,7,7,7,7,7,7,7,7,7,7,7,7,7,7,7,7,7,7,7,7,7,7,7,7,7,7,7,7,7,7,7,7,7,7,7,7,7,7,7,7,7,7,7,7,7,7,7,7,7,7,7,7,7]) (List.append [8,8,8,8,8,8,8,8,8,8,8,8,8,8,8,8,8,8,8,8,8,8,8,8,8,8,8,8,8,8,8,8,8,8,8,8,8,8,8,8,8,8,8,8,8,8,8,8,8,8,8,8,8,8,8,8,8,8,8,8,8,8,8,8] [8,8,8,8,8,8,8,8,8,8,8,8,8,8,8,8,8,8,8,8,8,8,8,8,8,8,8,8,8,8,8,8,8,8,8,8,8,8,8,8,8,8,8,8,8,8,8,8,8,8,8,8,8,8,8,8,8,8,8,8,8,8,8,8])))) (IntKind.wrap IntKind.u8 (Int.fdiv (Int.fdiv a0 ((2:Int)^(Min.min (Int.toNat (32:Int)) 64))) ((2:Int)^(Min.min (Int.toNat (8:Int)) 64))))) fun y1479=>
    kx (IntKind.wrap .i64 ((IntKind.wrap .i64 ((32:Int)+(8:Int)))+(IntKind.wrap .i64 (((UInt8.toNat y1479):Nat):Int)))))
   (Option.bind (B3 (ByteArray.mk (Array.mk (List.append (List.append [0,1,2,2,3,3,3,3,4,4,4,4,4,4,4,4,5,5,5,5,5,5,5,5,5,5,5,5,5,5,5,5,6,6,6,6,6,6,6,6,6,6,6,6,6,6,6,6,6,6,6,6,6,6,6,6,6,6,6,6,6,6,6,6] [7,7,7,7,7,7,7,7,7,7,7,7,7,7,7,7,7,7,7,7,7,7,7,7,7,7,7,7,7,7,7,7,7,7,7,7,7,7,7,7,7,7,7,7,7,7,7,7,7,7,7,7,7,7,7,7,7,7,7,7,7,7,7,7]) (List.append [8,8,8,8,8,8,8,8,8,8,8,8,8,8,8,8,8,8,8,8,8,8,8,8,8,8,8,8,8,8,8,8,8,8,8,8,8,8,8,8,8,8,8,8,8,8,8,8,8,8,8,8,8,8,8,8,8,8,8,8,8,8,8,8] [8,8,8,8,8,8,8,8,8,8,8,8,8,8,8,8,8,8,8,8,8,8,8,8,8,8,8,8,8,8,8,8,8,8,8,8,8,8,8,8,8,8,8,8,8,8,8,8,8,8,8,8,8,8,8,8,8,8,8,8,8,8,8,8])))) (IntKind.wrap IntKind.u8 (Int.fdiv a0 ((2:Int)^(Min.min (Int.toNat (32:Int)) 64))))) fun y1480=>
    kx (IntKind.wrap .i64 ((32:Int)+(IntKind.wrap .i64 (((UInt8.toNat y1480):Nat):Int)))))))
 (cond (decide (a0>=(65536:Int)))
  (cond (decide ((Int.fdiv a0 ((2:Int)^(Min.min (Int.toNat (16:Int)) 64)))>=(256:Int)))
   (Option.bind (B3 (ByteArray.mk (Array.mk (List.append (List.append [0,1,2,2,3,3,3,3,4,4,4,4,4,4,4,4,5,5,5,5,5,5,5,5,5,5,5,5,5,5,5,5,6,6,6,6,6,6,6,6,6,6,6,6,6,6,6,6,6,6,6,6,6,6,6,6,6,6,6,6,6,6,6,6] [7,7,7,7,7,7,7,7,7,7,7,7,7,7,7,7,7,7,7,7,7,7,7,7,7,7,7,7,7,7,7,7,7,7,7,7,7,7,7,7,7,7,7,7,7,7,7,7,7,7,7,7,7,7,7,7,7,7,7,7,7,7,7,7]) (List.append [8,8,8,8,8,8,8,8,8,8,8,8,8,8,8,8,8,8,8,8,8,8,8,8,8,8,8,8,8,8,8,8,8,8,8,8,8,8,8,8,8,8,8,8,8,8,8,8,8,8,8,8,8,8,8,8,8,8,8,8,8,8,8,8] [8,8,8,8,8,8,8,8,8,8,8,8,8,8,8,8,8,8,8,8,8,8,8,8,8,8,8,8,8,8,8,8,8,8,8,8,8,8,8,8,8,8,8,8,8,8,8,8,8,8,8,8,8,8,8,8,8,8,8,8,8,8,8,8])))) (IntKind.wrap IntKind.u8 (Int.fdiv (Int.fdiv a0 ((2:Int)^(Min.min (Int.toNat (16:Int)) 64))) ((2:Int)^(Min.min (Int.toNat (8:Int)) 64))))) fun y1481=>
    kx (IntKind.wrap .i64 ((IntKind.wrap .i64 ((IntKind.wrap .i64 ((0:Int)+(16:Int)))+(8:Int)))+(IntKind.wrap .i64 (((UInt8.toNat y1481):Nat):Int)))))
   (Option.bind (B3 (ByteArray.mk (Array.mk (List.append (List.append [0,1,2,2,3,3,3,3,4,4,4,4,4,4,4,4,5,5,5,5,5,5,5,5,5,5,5,5,5,5,5,5,6,6,6,6,6,6,6,6,6,6,6,6,6,6,6,6,6,6,6,6,6,6,6,6,6,6,6,6,6,6,6,6] [7,7,7,7,7,7,7,7,7,7,7,7,7,7,7,7,7,7,7,7,7,7,7,7,7,7,7,7,7,7,7,7,7,7,7,7,7,7,7,7,7,7,7,7,7,7,7,7,7,7,7,7,7,7,7,7,7,7,7,7,7,7,7,7]) (List.append [8,8,8,8,8,8,8,8,8,8,8,8,8,8,8,8,8,8,8,8,8,8,8,8,8,8,8,8,8,8,8,8,8,8,8,8,8,8,8,8,8,8,8,8,8,8,8,8,8,8,8,8,8,8,8,8,8,8,8,8,8,8,8,8] [8,8,8,8,8,8,8,8,8,8,8,8,8,8,8,8,8,8,8,8,8,8,8,8,8,8,8,8,8,8,8,8,8,8,8,8,8,8,8,8,8,8,8,8,8,8,8,8,8,8,8,8,8,8,8,8,8,8,8,8,8,8,8,8])))) (IntKind.wrap IntKind.u8 (Int.fdiv a0 ((2:Int)^(Min.min (Int.toNat (16:Int)) 64))))) fun y1482=>
    kx (IntKind.wrap .i64 ((IntKind.wrap .i64 ((0:Int)+(16:Int)))+(IntKind.wrap .i64 (((UInt8.toNat y1482):Nat):Int))))))
  (cond (decide (a0>=(256:Int)))
   (Option.bind (B3 (ByteArray.mk (Array.mk (List.append (List.append [0,1,2,2,3,3,3,3,4,4,4,4,4,4,4,4,5,5,5,5,5,5,5,5,5,5,5,5,5,5,5,5,6,6,6,6,6,6,6,6,6,6,6,6,6,6,6,6,6,6,6,6,6,6,6,6,6,6,6,6,6,6,6,6] [7,7,7,7,7,7,7,7,7,7,7,7,7,7,7,7,7,7,7,7,7,7,7,7,7,7,7,7,7,7,7,7,7,7,7,7,7,7,7,7,7,7,7,7,7,7,7,7,7,7,7,7,7,7,7,7,7,7,7,7,7,7,7,7]) (List.append [8,8,8,8,8,8,8,8,8,8,8,8,8,8,8,8,8,8,8,8,8,8,8,8,8,8,8,8,8,8,8,8,8,8,8,8,8,8,8,8,8,8,8,8,8,8,8,8,8,8,8,8,8,8,8,8,8,8,8,8,8,8,8,8] [8,8,8,8,8,8,8,8,8,8,8,8,8,8,8,8,8,8,8,8,8,8,8,8,8,8,8,8,8,8,8,8,8,8,8,8,8,8,8,8,8,8,8,8,8,8,8,8,8,8,8,8,8,8,8,8,8,8,8,8,8,8,8,8])))) (IntKind.wrap IntKind.u8 (Int.fdiv a0 ((2:Int)^(Min.min (Int.toNat (8:Int)) 64))))) fun y1483=>
    kx (IntKind.wrap .i64 ((IntKind.wrap .i64 ((0:Int)+(8:Int)))+(IntKind.wrap .i64 (((UInt8.toNat y1483):Nat):Int)))))
   (Option.bind (B3 (ByteArray.mk (Array.mk (List.append (List.append [0,1,2,2,3,3,3,3,4,4,4,4,4,4,4,4,5,5,5,5,5,5,5,5,5,5,5,5,5,5,5,5,6,6,6,6,6,6,6,6,6,6,6,6,6,6,6,6,6,6,6,6,6,6,6,6,6,6,6,6,6,6,6,6] [7,7,7,7,7,7,7,7,7,7,7,7,7,7,7,7,7,7,7,7,7,7,7,7,7,7,7,7,7,7,7,7,7,7,7,7,7,7,7,7,7,7,7,7,7,7,7,7,7,7,7,7,7,7,7,7,7,7,7,7,7,7,7,7]) (List.append [8,8,8,8,8,8,8,8,8,8,8,8,8,8,8,8,8,8,8,8,8,8,8,8,8,8,8,8,8,8,8,8,8,8,8,8,8,8,8,8,8,8,8,8,8,8,8,8,8,8,8,8,8,8,8,8,8,8,8,8,8,8,8,8] [8,8,8,8,8,8,8,8,8,8,8,8,8,8,8,8,8,8,8,8,8,8,8,8,8,8,8,8,8,8,8,8,8,8,8,8,8,8,8,8,8,8,8,8,8,8,8,8,8,8,8,8,8,8,8,8,8,8,8,8,8,8,8,8])))) (IntKind.wrap IntKind.u8 a0)) fun y1484=>
    kx (IntKind.wrap .i64 ((0:Int)+(IntKind.wrap .i64 (((UInt8.toNat y1484):Nat):Int)))))))
def tZ(a0:Int):Option (Int):=uo some a0
theorem LU{R} kx a0: @uo R kx a0=(tZ a0).bind kx:=by
 unfold tZ uo
 exact ae (ae (ae (ac fun _=>rfl) (ac fun _=>rfl)) (ae (ac fun _=>rfl) (ac fun _=>rfl))) (ae (ae (ac fun _=>rfl) (ac fun _=>rfl)) (ae (ac fun _=>rfl) (ac fun _=>rfl)))
abbrev FD:af:=.fx [.val false (.int .u64)] (Int) (fun z=>tZ z.1) (fun b=>(.one ⟨false,[(.v (.int .i64 b))]⟩,[]))
theorem NX:ag C0 237 FD:=
 ag.fx (e:=false) (.nil) mixed Tryz.func237 (by kernel_rfl) (by kernel_rfl) al 1 ai (fun z=>(by kernel_rfl:_=uo (fun b=>some (FD.enc b)) z.1).trans (LU _ z.1))
def xM{R:Type}(kx:Int->Option R)(a0:Int):Option R:=
 Option.bind (tZ a0) fun y1485=>
 kx y1485
def sT(a0:Int):Option (Int):=xM some a0
theorem Pb{R} kx a0: @xM R kx a0=(sT a0).bind kx:=by
 unfold sT xM
 exact ac fun _=>rfl
abbrev I4:af:=.fx [.val false (.int .u64)] (Int) (fun z=>sT z.1) (fun b=>(.one ⟨false,[(.v (.int .i64 b))]⟩,[]))
theorem Rc:ag C0 222 I4:=
 ag.fx (e:=false) (.cons NX (.nil)) mixed Tryz.func222 (by kernel_rfl) (by kernel_rfl) al 1 ai (fun z=>(by kernel_rfl:_=xM (fun b=>some (I4.enc b)) z.1).trans (Pb _ z.1))
def ni{R:Type}(kx:Bool->Option R)(a0:Int):Option R:=
 kx (a0 !=a0)
def kw(a0:Int):Option (Bool):=ni some a0
theorem LJ{R} kx a0: @ni R kx a0=(kw a0).bind kx:=by
 unfold kw ni
 exact rfl
abbrev Fw:af:=.fx [.val false (.int .i64)] (Bool) (fun z=>kw z.1) (fun b=>(.one ⟨false,[(.v (.bool b))]⟩,[]))
theorem NR:ag C0 223 Fw:=
 ag.fx (e:=false) (.nil) mixed Tryz.func223 (by kernel_rfl) (by kernel_rfl) al 1 ai (fun z=>(by kernel_rfl:_=ni (fun b=>some (Fw.enc b)) z.1).trans (LJ _ z.1))
def nV{R:Type}(kx:Int->Option R)(a0:Int)(a1:Int):Option R:=
 Option.bind (kw a0) fun y1519=>
 Option.bind (kw a1) fun y1520=>
 cond y1519
 (cond y1520
  (kx (0:Int))
  (kx (-(1:Int))))
 (cond y1520
  (kx (1:Int))
  (cond (decide (a0<a1))
   (kx (-(1:Int)))
   (cond (decide (a0>a1))
    (kx (1:Int))
    (kx (0:Int)))))
def kX(a0:Int)(a1:Int):Option (Int):=nV some a0 a1
theorem Ju{R} kx a0 a1: @nV R kx a0 a1=(kX a0 a1).bind kx:=by
 unfold kX nV
 exact ac fun _=>ac fun _=>ae (ae rfl rfl) (ae rfl (ae rfl (ae rfl rfl)))
abbrev CA:af:=.fx [.val false (.int .i64), .val false (.int .i64)] (Int) (fun z=>kX z.1 z.2.1) (fun b=>(.one ⟨false,[(.v (.int .i64 b))]⟩,[]))
theorem KO:ag C0 160 CA:=
 ag.fx (e:=false) (.cons NR (.nil)) mixed Tryz.func160 (by kernel_rfl) (by kernel_rfl) al 1 ai (fun z=>(by kernel_rfl:_=nV (fun b=>some (CA.enc b)) z.1 z.2.1).trans (Ju _ z.1 z.2.1))
def xe{R:Type}(kx:Int->Option R)(a0:Int):Option R:=
 kx (if(Bool.true=Bool.true)then(if((if(Bool.false=Bool.true)then(if(a0>(1:Int))then a0 else(1:Int))else(if(a0<(1:Int))then a0 else(1:Int)))>(-(1:Int)))then(if(Bool.false=Bool.true)then(if(a0>(1:Int))then a0 else(1:Int))else(if(a0<(1:Int))then a0 else(1:Int)))else(-(1:Int)))else(if((if(Bool.false=Bool.true)then(if(a0>(1:Int))then a0 else(1:Int))else(if(a0<(1:Int))then a0 else(1:Int)))<(-(1:Int)))then(if(Bool.false=Bool.true)then(if(a0>(1:Int))then a0 else(1:Int))else(if(a0<(1:Int))then a0 else(1:Int)))else(-(1:Int))))
def qE(a0:Int):Option (Int):=xe some a0
theorem SA{R} kx a0: @xe R kx a0=(qE a0).bind kx:=by
 unfold qE xe
 exact rfl
abbrev Mv:af:=.fx [.val false (.int .i64)] (Int) (fun z=>qE z.1) (fun b=>(.one ⟨false,[(.v (.int .i64 b))]⟩,[]))
theorem Vl:ag C0 224 Mv:=
 ag.fx (e:=false) (.nil) mixed Tryz.func224 (by kernel_rfl) (by kernel_rfl) al 1 ai (fun z=>(by kernel_rfl:_=xe (fun b=>some (Mv.enc b)) z.1).trans (SA _ z.1))
def AD{R:Type}(kx:Int->Option R)(a0:Int):Option R:=
 kx (if(Bool.true=Bool.true)then(if((IntKind.wrap .i64 ((0:Int)-a0))>a0)then(IntKind.wrap .i64 ((0:Int)-a0))else a0)else(if((IntKind.wrap .i64 ((0:Int)-a0))<a0)then(IntKind.wrap .i64 ((0:Int)-a0))else a0))
def qC(a0:Int):Option (Int):=AD some a0
theorem XH{R} kx a0: @AD R kx a0=(qC a0).bind kx:=by
 unfold qC AD
 exact rfl
abbrev Uv:af:=.fx [.val false (.int .i64)] (Int) (fun z=>qC z.1) (fun b=>(.one ⟨false,[(.v (.int .i64 b))]⟩,[]))
theorem Zc:ag C0 251 Uv:=
 ag.fx (e:=false) (.nil) mixed Tryz.func251 (by kernel_rfl) (by kernel_rfl) al 1 ai (fun z=>(by kernel_rfl:_=AD (fun b=>some (Uv.enc b)) z.1).trans (XH _ z.1))
def nj{R:Type}(kx:Int×Int->Option R)(a0:Int)(a1:Int):Option R:=
 kx ((IntKind.wrap IntKind.u64 ((IntKind.wrap IntKind.u64 ((IntKind.wrap IntKind.u64 ((Int.fdiv a0 ((2:Int)^(Min.min (Int.toNat (32:Int)) 64)))*(Int.fdiv a1 ((2:Int)^(Min.min (Int.toNat (32:Int)) 64)))))+(Int.fdiv (IntKind.wrap IntKind.u64 ((IntKind.wrap IntKind.u64 ((Int.fdiv a0 ((2:Int)^(Min.min (Int.toNat (32:Int)) 64)))*(IntKind.wrap IntKind.u64 (((BitVec.toNat ((BitVec.ofInt 64 a1)&&&(BitVec.ofInt 64 (4294967295:Int)))):Nat):Int))))+(Int.fdiv (IntKind.wrap IntKind.u64 ((IntKind.wrap IntKind.u64 (((BitVec.toNat ((BitVec.ofInt 64 a0)&&&(BitVec.ofInt 64 (4294967295:Int)))):Nat):Int))*(IntKind.wrap IntKind.u64 (((BitVec.toNat ((BitVec.ofInt 64 a1)&&&(BitVec.ofInt 64 (4294967295:Int)))):Nat):Int)))) ((2:Int)^(Min.min (Int.toNat (32:Int)) 64))))) ((2:Int)^(Min.min (Int.toNat (32:Int)) 64)))))+(Int.fdiv (IntKind.wrap IntKind.u64 ((IntKind.wrap IntKind.u64 (((BitVec.toNat ((BitVec.ofInt 64 (IntKind.wrap IntKind.u64 ((IntKind.wrap IntKind.u64 ((Int.fdiv a0 ((2:Int)^(Min.min (Int.toNat (32:Int)) 64)))*(IntKind.wrap IntKind.u64 (((BitVec.toNat ((BitVec.ofInt 64 a1)&&&(BitVec.ofInt 64 (4294967295:Int)))):Nat):Int))))+(Int.fdiv (IntKind.wrap IntKind.u64 ((IntKind.wrap IntKind.u64 (((BitVec.toNat ((BitVec.ofInt 64 a0)&&&(BitVec.ofInt 64 (4294967295:Int)))):Nat):Int))*(IntKind.wrap IntKind.u64 (((BitVec.toNat ((BitVec.ofInt 64 a1)&&&(BitVec.ofInt 64 (4294967295:Int)))):Nat):Int)))) ((2:Int)^(Min.min (Int.toNat (32:Int)) 64))))))&&&(BitVec.ofInt 64 (4294967295:Int)))):Nat):Int))+(IntKind.wrap IntKind.u64 ((IntKind.wrap IntKind.u64 (((BitVec.toNat ((BitVec.ofInt 64 a0)&&&(BitVec.ofInt 64 (4294967295:Int)))):Nat):Int))*(Int.fdiv a1 ((2:Int)^(Min.min (Int.toNat (32:Int)) 64))))))) ((2:Int)^(Min.min (Int.toNat (32:Int)) 64))))),(IntKind.wrap IntKind.u64 (a0*a1)))
def gS(a0:Int)(a1:Int):Option (Int×Int):=nj some a0 a1
theorem LV{R} kx a0 a1: @nj R kx a0 a1=(gS a0 a1).bind kx:=by
 unfold gS nj
 exact rfl
abbrev FE:af:=.fx [.val false (.int .u64), .val false (.int .u64)] (Int×Int) (fun z=>gS z.1 z.2.1) (fun b=>(.tup [⟨false,[(.v (.int .u64 b.1))]⟩,⟨false,[(.v (.int .u64 b.2))]⟩],[]))
theorem NY:ag C0 278 FE:=
 ag.fx (e:=false) (.nil) mixed Tryz.func278 (by kernel_rfl) (by kernel_rfl) al 1 ai (fun z=>(by kernel_rfl:_=nj (fun b=>some (FE.enc b)) z.1 z.2.1).trans (LV _ z.1 z.2.1))
def oL{R:Type}(kx:Bool->Option R)(a0:Int)(a1:Int):Option R:=
 Option.bind (qC a0) fun y1532=>
 Option.bind (qC a0) fun y1533=>
 Option.bind (gS (IntKind.wrap IntKind.u64 y1532) (IntKind.wrap IntKind.u64 y1533)) fun y1536=>
 Option.bind (qC a1) fun y1537=>
 Option.bind (qC a1) fun y1538=>
 Option.bind (gS (IntKind.wrap IntKind.u64 y1537) (IntKind.wrap IntKind.u64 y1538)) fun y1539=>
 cond (decide (y1536.1>(IntKind.wrap IntKind.u64 (((BitVec.toNat ((BitVec.ofInt 64 (IntKind.wrap IntKind.u64 (y1539.1*((2:Int)^(Min.min (Int.toNat (1:Int)) 64)))))|||(BitVec.ofInt 64 (Int.fdiv y1539.2 ((2:Int)^(Min.min (Int.toNat (63:Int)) 64)))))):Nat):Int))))
 (kx Bool.true)
 (cond (y1536.1==(IntKind.wrap IntKind.u64 (((BitVec.toNat ((BitVec.ofInt 64 (IntKind.wrap IntKind.u64 (y1539.1*((2:Int)^(Min.min (Int.toNat (1:Int)) 64)))))|||(BitVec.ofInt 64 (Int.fdiv y1539.2 ((2:Int)^(Min.min (Int.toNat (63:Int)) 64)))))):Nat):Int)))
  (kx (decide (y1536.2>(IntKind.wrap IntKind.u64 (y1539.2*((2:Int)^(Min.min (Int.toNat (1:Int)) 64)))))))
  (kx Bool.false))
def iK(a0:Int)(a1:Int):Option (Bool):=oL some a0 a1
theorem Nv{R} kx a0 a1: @oL R kx a0 a1=(iK a0 a1).bind kx:=by
 unfold iK oL
 exact ac fun _=>ac fun _=>ac fun _=>ac fun _=>ac fun _=>ac fun _=>ae rfl (ae rfl rfl)
abbrev Hj:af:=.fx [.val false (.int .i64), .val false (.int .i64)] (Bool) (fun z=>iK z.1 z.2.1) (fun b=>(.one ⟨false,[(.v (.bool b))]⟩,[]))
theorem PE:ag C0 225 Hj:=
 ag.fx (e:=false) (.cons Zc (.cons NY (.nil))) mixed Tryz.func225 (by kernel_rfl) (by kernel_rfl) al 1 ai (fun z=>(by kernel_rfl:_=oL (fun b=>some (Hj.enc b)) z.1 z.2.1).trans (Nv _ z.1 z.2.1))
def te{R:Type}(kx:Int->Option R)(a0:Nm):Option R:=
 Option.bind (qE a0.1) fun y1527=>
 Option.bind (qE a0.2.1) fun y1528=>
 cond (y1527==y1528)
 (kx y1527)
 (cond (y1528==(0:Int))
  (kx y1527)
  (cond (y1527==(0:Int))
   (kx y1528)
   (Option.bind (iK a0.1 a0.2.1) fun y1540=>
    cond (!y1540)
    (kx y1528)
    (kx y1527))))
def ew(a0:Nm):Option (Int):=te some a0
theorem O2{R} kx a0: @te R kx a0=(ew a0).bind kx:=by
 unfold ew te
 exact ac fun _=>ac fun _=>ae rfl (ae rfl (ae rfl (ac fun _=>ae rfl rfl)))
abbrev B4:af:=.fx [.val true yN] (Int) (fun z=>ew z.1) (fun b=>(.one ⟨false,[(.v (.int .i64 b))]⟩,[]))
theorem Ay:ag C0 169 B4:=
 ag.fx (e:=false) (.cons Vl (.cons PE (.nil))) mixed Tryz.func169 (by kernel_rfl) (by kernel_rfl) al 1 ai (fun z=>(by kernel_rfl:_=te (fun b=>some (B4.enc b)) z.1).trans (O2 _ z.1))
def pu{R:Type}(kx:Int->Option R)(a0:Nm)(a1:Nm):Option R:=
 Option.bind (cy a0 a1) fun y1524=>
 Option.bind (ew y1524) fun y1541=>
 kx y1541
def lV(a0:Nm)(a1:Nm):Option (Int):=pu some a0 a1
theorem Kx{R} kx a0 a1: @pu R kx a0 a1=(lV a0 a1).bind kx:=by
 unfold lV pu
 exact ac fun _=>ac fun _=>rfl
abbrev D1:af:=.fx [.val true yN, .val true yN] (Int) (fun z=>lV z.1 z.2.1) (fun b=>(.one ⟨false,[(.v (.int .i64 b))]⟩,[]))
theorem L7:ag C0 161 D1:=
 ag.fx (e:=false) (.cons kI (.cons Ay (.nil))) mixed Tryz.func161 (by kernel_rfl) (by kernel_rfl) al 1 ai (fun z=>(by kernel_rfl:_=pu (fun b=>some (D1.enc b)) z.1 z.2.1).trans (Kx _ z.1 z.2.1))
def C1:List (FuncId×af):=[]
abbrev jt:LS:=⟨[(false,[(.int .i64)]),(false,[(.sl (.int .i64))]),(false,[(.int .i64)]),(false,[(.int .i64)])],[],[]⟩
abbrev GR:LS:=⟨[(false,[(.int .i64)]),(false,[(.int .i64)])],[],[]⟩
abbrev Qn(v0:Int)(v1:Int):=((((v0,()),(v1,()),()),(),()):GR.T)
abbrev GS:LS:=⟨[(false,[.undef]),(false,[(.int .i64)])],[],[]⟩
abbrev Qo(v0:Int):=(((((),()),(v0,()),()),(),()):GS.T)
abbrev kU:List (Ex×LS):=[(.ret,GR),(.exit 0,GS)]
abbrev Eh(x3:Int)(x6:List Int)(x7:Int)(x8:Int):=((((x3,()),(x6,()),(x7,()),(x8,()),()),(),()):jt.T)
def sg{R:Type}(nx:jt.T->Option R)(hx:mA R kU)(x3:Int)(x6:List Int)(x7:Int)(x8:Int):Option R:=
 cond (decide (x8<x7))
 (Option.bind (gq x6 x8) fun y1548=>
  cond (y1548 !=x3)
  (hx.1 (Qn y1548 x3))
  (nx (Eh x3 x6 x7 (IntKind.wrap .i64 (x8+(1:Int))))))
 (hx.2.1 (Qo x3))
def EK{R:Type}(nx:jt.T->Option R)(hx:mA R kU)(z:jt.T):Option R:=sg nx hx z.1.1.1 z.1.2.1.1 z.1.2.2.1.1 z.1.2.2.2.1.1
theorem Hx:cK @EK:=fun R nx hx z=>by
 show sg nx hx z.1.1.1 z.1.2.1.1 z.1.2.2.1.1 z.1.2.2.2.1.1=(sg (fun y=>some (.inl y)) (oI kU fun x=>some (.inr x)) z.1.1.1 z.1.2.1.1 z.1.2.2.1.1 z.1.2.2.2.1.1).bind (oH nx hx)
 unfold sg
 exact ae (ac fun _=>ae rfl rfl) rfl
def vE:jt.T->Option (yH kU):=BU @EK
theorem Ts x3 x6 x7 x8:vE (Eh x3 x6 x7 x8)=sg vE (oI kU some) x3 x6 x7 x8:=dR Hx _
def xB:bN:=⟨[3,6,7,8],[],[2,3],[]⟩
def C7:fq Rv:=⟨fun k=>match k with|4=>xB|_=>⟨[],[],[],[]⟩,fun k=>match k with|4=>some (ce jt kU vE)|_=>none⟩
theorem To(n:Nat)(z:jt.T)(k:Ex->iV->Option Rv):bJ ⟨18,18⟩ xB (mU (gN C0 C1) ⟨18,18⟩ C7 1 (aG Tryz.f159 3)) (n+1) (jt.enc z) k=
 EK (fun y=>bJ ⟨18,18⟩ xB (mU (gN C0 C1) ⟨18,18⟩ C7 1 (aG Tryz.f159 3)) n (jt.enc y) k) (hK k kU) z:=by kernel_rfl
theorem VP:ak (gN C0 C1) ⟨18,18⟩ C7 1 (ca (aX Tryz.f159)):=by
 have hl:ca (aX Tryz.f159)=[aG Tryz.f159 3]:=by kernel_rfl
 rw[hl]
 exact ak.cons (n:=4) (lh:=xB) (S:=ce jt kU vE) (by kernel_rfl) rfl rfl (cl Hx To)
  (ak.nil)
def zI{R:Type}(kx:Int->Option R)(a0:(List Int)):Option R:=
 Option.bind (vE (Eh (0:Int) a0 ((List.length a0:Nat):Int) (0:Int))) (qi kU
 (fun e1549=>
  kx (e1549.1.1.1:Int),fun e1552=>
  kx (e1552.1.2.1.1:Int),()))
def yZ(a0:(List Int)):Option (Int):=zI some a0
theorem UN{R} kx a0: @zI R kx a0=(yZ a0).bind kx:=by
 unfold yZ zI
 exact cq ⟨fun _=>rfl,fun _=>rfl,trivial⟩
abbrev OJ:af:=.fx [.val false (.slice (.int .i64))] (Int) (fun z=>yZ z.1) (fun b=>(.one ⟨false,[(.v (.int .i64 b))]⟩,[]))
theorem V2:ag C0 159 OJ:=
 ag.fx (e:=false) (t:=C1) (.nil) mixed Tryz.func159 (by kernel_rfl) (by kernel_rfl) C7 1 VP (fun z=>(by kernel_rfl:_=zI (fun b=>some (OJ.enc b)) z.1).trans (UN _ z.1))
def mQ{R:Type}(kx:Int->Option R)(a0:Ln)(a1:Ln):Option R:=
 Option.bind (kX a0.1 a1.1) fun y1521=>
 Option.bind (lV a0.2 a1.2) fun y1542=>
 Option.bind (yZ [y1521,y1542]) fun y1554=>
 kx y1554
def kc(a0:Ln)(a1:Ln):Option (Int):=mQ some a0 a1
theorem IE{R} kx a0 a1: @mQ R kx a0 a1=(kc a0 a1).bind kx:=by
 unfold kc mQ
 exact ac fun _=>ac fun _=>ac fun _=>rfl
abbrev uK:af:=.fx [.val true yL, .val true yL] (Int) (fun z=>kc z.1 z.2.1) (fun b=>(.one ⟨false,[(.v (.int .i64 b))]⟩,[]))
theorem JG:ag C0 158 uK:=
 ag.fx (e:=false) (.cons KO (.cons L7 (.cons V2 (.nil)))) mixed Tryz.func158 (by kernel_rfl) (by kernel_rfl) al 1 ai (fun z=>(by kernel_rfl:_=mQ (fun b=>some (uK.enc b)) z.1 z.2.1).trans (IE _ z.1 z.2.1))
def aY:List (FuncId×af):=[(158,uK)]
abbrev ar:LS:=⟨[(false,[(.view (.arg 0) true 0 yL)]),(false,[(.int .i64)]),(false,[(.int .i64)]),(false,[(.fn 158 [])]),(false,[(.int .i64)]),(false,[(.int .i64)])],[],[(.own yL)]⟩
abbrev ei:LS:=⟨[(false,[(.view (.arg 0) true 0 yL)]),(false,[(.int .i64)]),(false,[(.int .i64)]),(false,[(.fn 158 [])]),(false,[(.int .i64)])],[],[(.own yL)]⟩
abbrev dX v0(v1:Int)(v2:Int)(v3:Int) v4:=((((v0,()),(v1,()),(v2,()),((),()),(v3,()),()),(),(v4,())):ei.T)
abbrev aD:List (Ex×LS):=[(.exit 2,ei)]
abbrev cS x0(x1:Int)(x2:Int)(x8:Int)(x9:Int) o:=((((x0,()),(x1,()),(x2,()),((),()),(x8,()),(x9,()),()),(),(o,())):ar.T)
def aK{R:Type}(nx:ar.T->Option R)(hx:mA R aD)(x0:List Ln)(x1:Int)(x2:Int)(x8:Int)(x9:Int)(o:List Ln):Option R:=
 cond (decide (x9>x1))
 (Option.bind (gq x0 x9) fun y1512=>
  Option.bind (gq x0 (IntKind.wrap .i64 (x9-(1:Int)))) fun y1513=>
  Option.bind (kc y1512 y1513) fun y1555=>
  cond (decide (y1555<(0:Int)))
  (Option.bind (gq x0 (IntKind.wrap .i64 (x9-(1:Int)))) fun y1556=>
   Option.bind (gq x0 x9) fun y1557=>
   Option.bind (gq x0 x9) fun _=>
   Option.bind (gq (List.set x0 (0+(Int.toNat x9)) y1556) (IntKind.wrap .i64 (x9-(1:Int)))) fun _=>
   nx (cS (List.set (List.set x0 (0+(Int.toNat x9)) y1556) (0+(Int.toNat (IntKind.wrap .i64 (x9-(1:Int))))) y1557) x1 x2 x8 (IntKind.wrap .i64 (x9-(1:Int))) (List.set (List.set o (0+(Int.toNat x9)) y1556) (0+(Int.toNat (IntKind.wrap .i64 (x9-(1:Int))))) y1557)))
  (hx.1 (dX x0 x1 x2 x8 o)))
 (hx.1 (dX x0 x1 x2 x8 o))
def cW{R:Type}(nx:ar.T->Option R)(hx:mA R aD)(z:ar.T):Option R:=aK nx hx z.1.1.1 z.1.2.1.1 z.1.2.2.1.1 z.1.2.2.2.2.1.1 z.1.2.2.2.2.2.1.1 z.2.2.1
theorem eo:cK @cW:=fun R nx hx z=>by
 show aK nx hx z.1.1.1 z.1.2.1.1 z.1.2.2.1.1 z.1.2.2.2.2.1.1 z.1.2.2.2.2.2.1.1 z.2.2.1=(aK (fun y=>some (.inl y)) (oI aD fun x=>some (.inr x)) z.1.1.1 z.1.2.1.1 z.1.2.2.1.1 z.1.2.2.2.2.1.1 z.1.2.2.2.2.2.1.1 z.2.2.1).bind (oH nx hx)
 unfold aK
 exact ae (ac fun _=>ac fun _=>ac fun _=>ae (ac fun _=>ac fun _=>ac fun _=>ac fun _=>rfl) rfl) rfl
def bz:ar.T->Option (yH aD):=BU @cW
theorem cR x0 x1 x2 x8 x9 o:bz (cS x0 x1 x2 x8 x9 o)=aK bz (oI aD some) x0 x1 x2 x8 x9 o:=dR eo _
def bY:bN:=⟨[0,1,2,3,8,9],[],[0,1,2,3,8],[]⟩
abbrev aq:LS:=⟨[(false,[(.view (.arg 0) true 0 yL)]),(false,[(.int .i64)]),(false,[(.int .i64)]),(false,[(.fn 158 [])]),(false,[(.int .i64)])],[],[(.own yL)]⟩
abbrev eg:LS:=⟨[],[],[(.own yL)]⟩
abbrev cL v0:=(((),(),(v0,())):eg.T)
abbrev aC:List (Ex×LS):=[(.exit 0,eg)]
abbrev aJ x0(x1:Int)(x2:Int)(x8:Int) o:=((((x0,()),(x1,()),(x2,()),((),()),(x8,()),()),(),(o,())):aq.T)
def au{R:Type}(nx:aq.T->Option R)(hx:mA R aC)(x0:List Ln)(x1:Int)(x2:Int)(x8:Int)(o:List Ln):Option R:=
 cond (decide (x8<x2))
 (Option.bind (bz (cS x0 x1 x2 x8 x8 o)) (qi aD
  (fun e1560=>
   nx (aJ (e1560.1.1.1:List Ln) (e1560.1.2.1.1:Int) (e1560.1.2.2.1.1:Int) (IntKind.wrap .i64 ((e1560.1.2.2.2.2.1.1:Int)+(1:Int))) (e1560.2.2.1:List Ln)),())))
 (hx.1 (cL o))
def cV{R:Type}(nx:aq.T->Option R)(hx:mA R aC)(z:aq.T):Option R:=au nx hx z.1.1.1 z.1.2.1.1 z.1.2.2.1.1 z.1.2.2.2.2.1.1 z.2.2.1
theorem en:cK @cV:=fun R nx hx z=>by
 show au nx hx z.1.1.1 z.1.2.1.1 z.1.2.2.1.1 z.1.2.2.2.2.1.1 z.2.2.1=(au (fun y=>some (.inl y)) (oI aC fun x=>some (.inr x)) z.1.1.1 z.1.2.1.1 z.1.2.2.1.1 z.1.2.2.2.2.1.1 z.2.2.1).bind (oH nx hx)
 unfold au
 exact ae (cq ⟨fun _=>rfl,trivial⟩) rfl
def aw:aq.T->Option (yH aC):=BU @cV
theorem bu x0 x1 x2 x8 o:aw (aJ x0 x1 x2 x8 o)=au aw (oI aC some) x0 x1 x2 x8 o:=dR en _
def bX:bN:=⟨[0,1,2,3,8],[],[],[]⟩
def bc:fq Rv:=⟨fun k=>match k with|5=>bY|2=>bX|_=>⟨[],[],[],[]⟩,fun k=>match k with|5=>some (ce ar aD bz)|2=>some (ce aq aC aw)|_=>none⟩
theorem kN(n:Nat)(z:ar.T)(k:Ex->iV->Option Rv):bJ ⟨53,53⟩ bY (mU (gN C0 aY) ⟨53,53⟩ bc 1 (aG Tryz.f269 4)) (n+1) (ar.enc z) k=
 cW (fun y=>bJ ⟨53,53⟩ bY (mU (gN C0 aY) ⟨53,53⟩ bc 1 (aG Tryz.f269 4)) n (ar.enc y) k) (hK k aD) z:=by kernel_rfl
theorem kM(n:Nat)(z:aq.T)(k:Ex->iV->Option Rv):bJ ⟨53,53⟩ bX (mU (gN C0 aY) ⟨53,53⟩ bc 1 (aG Tryz.f269 1)) (n+1) (aq.enc z) k=
 cV (fun y=>bJ ⟨53,53⟩ bX (mU (gN C0 aY) ⟨53,53⟩ bc 1 (aG Tryz.f269 1)) n (aq.enc y) k) (hK k aC) z:=by kernel_rfl
theorem lr:ak (gN C0 aY) ⟨53,53⟩ bc 1 (ca (aX Tryz.f269)):=by
 have hl:ca (aX Tryz.f269)=[aG Tryz.f269 1,aG Tryz.f269 4]:=by kernel_rfl
 rw[hl]
 exact ak.cons (n:=2) (lh:=bX) (S:=ce aq aC aw) (by kernel_rfl) rfl rfl (cl en kM)
  (ak.cons (n:=5) (lh:=bY) (S:=ce ar aD bz) (by kernel_rfl) rfl rfl (cl eo kN)
  (ak.nil))
def bF{R:Type}(kx:(List Ln)->Option R)(a0:List Ln)(a1:Int)(a2:Int):Option R:=
 Option.bind (aw (aJ a0 a1 a2 (IntKind.wrap .i64 (a1+(1:Int))) a0)) (qi aC
 (fun e1566=>
  kx (e1566.2.2.1:List Ln),()))
def aZ(a0:List Ln)(a1:Int)(a2:Int):Option ((List Ln)):=bF some a0 a1 a2
theorem lg{R} kx a0 a1 a2: @bF R kx a0 a1 a2=(aZ a0 a1 a2).bind kx:=by
 unfold aZ bF
 exact cq ⟨fun _=>rfl,trivial⟩
abbrev cZ:af:=.fx [.io yL, .val false (.int .i64), .val false (.int .i64), .clo 158 []] ((List Ln)) (fun z=>aZ z.1 z.2.1 z.2.2.1) (fun b=>(.tup [],[(.own yL b)]))
theorem ly:ag C0 269 cZ:=
 ag.fx (e:=false) (t:=aY) (.cons JG (.nil)) mixed Tryz.func269 (by kernel_rfl) (by kernel_rfl) bc 1 lr (fun z=>(by kernel_rfl:_=bF (fun b=>some (cZ.enc b)) z.1 z.2.1 z.2.2.1).trans (lg _ z.1 z.2.1 z.2.2.1))
def cD:List (FuncId×af):=[(269,cZ)]
abbrev aE:LS:=⟨[(false,[(.view (.arg 0) true 0 yL)]),(false,[(.int .i64)]),(false,[(.int .i64)]),(false,[(.int .i64)]),(false,[(.fn 158 [])]),(false,[.bool]),(false,[.bool])],[],[(.own yL)]⟩
abbrev fM:LS:=⟨[],[],[(.own yL)]⟩
abbrev mC v0:=(((),(),(v0,())):fM.T)
abbrev aL:List (Ex×LS):=[(.ret,fM)]
abbrev gr x0(x1:Int)(x2:Int)(x3:Int)(x10:Bool)(x11:Bool) o:=((((x0,()),(x1,()),(x2,()),(x3,()),((),()),(x10,()),(x11,()),()),(),(o,())):aE.T)
def bi{R:Type}(_nx:aE.T->Option R)(hx:mA R aL)(x0:List Ln)(x1:Int)(x2:Int)(x3:Int)(x10:Bool)(_x11:Bool)(o:List Ln):Option R:=
 cond (decide ((IntKind.wrap .i64 (x2-x1))<=(12:Int)))
 (cond (decide ((List.length o)=(List.length x0)))
  (Option.bind (aZ x0 x1 x2) fun y1568=>
   cond (decide ((List.length x0)=(List.length x0)))
   (cond (decide ((List.length x0)=(List.length x0)))
    (hx.1 (mC y1568))
    none)
   none)
  none)
 (cond (x3==(0:Int))
  none
  (cond (!x10)
   none
   none))
def dk{R:Type}(nx:aE.T->Option R)(hx:mA R aL)(z:aE.T):Option R:=bi nx hx z.1.1.1 z.1.2.1.1 z.1.2.2.1.1 z.1.2.2.2.1.1 z.1.2.2.2.2.2.1.1 z.1.2.2.2.2.2.2.1.1 z.2.2.1
theorem fP:cK @dk:=fun R nx hx z=>by
 show bi nx hx z.1.1.1 z.1.2.1.1 z.1.2.2.1.1 z.1.2.2.2.1.1 z.1.2.2.2.2.2.1.1 z.1.2.2.2.2.2.2.1.1 z.2.2.1=(bi (fun y=>some (.inl y)) (oI aL fun x=>some (.inr x)) z.1.1.1 z.1.2.1.1 z.1.2.2.1.1 z.1.2.2.2.1.1 z.1.2.2.2.2.2.1.1 z.1.2.2.2.2.2.2.1.1 z.2.2.1).bind (oH nx hx)
 unfold bi
 exact ae (ae (ac fun _=>ae (ae rfl rfl) rfl) rfl) (ae rfl (ae rfl rfl))
def bO:aE.T->Option (yH aL):=BU @dk
theorem mS x0 x1 x2 x3 x10 x11 o:bO (gr x0 x1 x2 x3 x10 x11 o)=bi bO (oI aL some) x0 x1 x2 x3 x10 x11 o:=dR fP _
def cx:bN:=⟨[0,1,2,3,4,10,11],[],[],[]⟩
def cF:fq Rv:=⟨fun k=>match k with|3=>cx|_=>⟨[],[],[],[]⟩,fun k=>match k with|3=>some (ce aE aL bO)|_=>none⟩
theorem mM(n:Nat)(z:aE.T)(k:Ex->iV->Option Rv):bJ ⟨148,148⟩ cx (mU (gN C0 cD) ⟨148,148⟩ cF 1 (aG Tryz.f221 2)) (n+1) (aE.enc z) k=
 dk (fun y=>bJ ⟨148,148⟩ cx (mU (gN C0 cD) ⟨148,148⟩ cF 1 (aG Tryz.f221 2)) n (aE.enc y) k) (hK k aL) z:=by kernel_rfl
theorem nE:ak (gN C0 cD) ⟨148,148⟩ cF 1 (ca (aX Tryz.f221)):=by
 have hl:ca (aX Tryz.f221)=[aG Tryz.f221 2]:=by kernel_rfl
 rw[hl]
 exact ak.cons (n:=3) (lh:=cx) (S:=ce aE aL bO) (by kernel_rfl) rfl rfl (cl fP mM)
  (ak.nil)
def bU{R:Type}(kx:(List Ln)->Option R)(a0:List Ln)(a1:Int)(a2:Int)(a3:Int):Option R:=
 Option.bind (bO (gr a0 a1 a2 a3 Bool.true Bool.true a0)) (qi aL
 (fun e1569=>
  kx (e1569.2.2.1:List Ln),()))
def bT(a0:List Ln)(a1:Int)(a2:Int)(a3:Int):Option ((List Ln)):=bU some a0 a1 a2 a3
theorem mT{R} kx a0 a1 a2 a3: @bU R kx a0 a1 a2 a3=(bT a0 a1 a2 a3).bind kx:=by
 unfold bT bU
 exact cq ⟨fun _=>rfl,trivial⟩
abbrev gK:af:=.fx [.io yL, .val false (.int .i64), .val false (.int .i64), .val false (.int .i64), .clo 158 []] ((List Ln)) (fun z=>bT z.1 z.2.1 z.2.2.1 z.2.2.2.1) (fun b=>(.tup [],[(.own yL b)]))
theorem nG:ag C0 221 gK:=
 ag.fx (e:=false) (t:=cD) (.cons ly (.nil)) mixed Tryz.func221 (by kernel_rfl) (by kernel_rfl) cF 1 nE (fun z=>(by kernel_rfl:_=bU (fun b=>some (gK.enc b)) z.1 z.2.1 z.2.2.1 z.2.2.2.1).trans (mT _ z.1 z.2.1 z.2.2.1 z.2.2.2.1))
def bI{R:Type}(kx:(List Ln)->Option R)(a0:List Ln):Option R:=
 Option.bind (sT (IntKind.wrap IntKind.u64 ((List.length a0:Nat):Int))) fun y1486=>
 cond (decide ((List.length a0)=(List.length a0)))
 (Option.bind (bT a0 (0:Int) ((List.length a0:Nat):Int) y1486) fun y1571=>
  cond (decide ((List.length a0)=(List.length a0)))
  (cond (decide ((List.length a0)=(List.length a0)))
   (cond (decide ((List.length a0)=(List.length a0)))
    (kx y1571)
    none)
   none)
  none)
 none
def bf(a0:List Ln):Option ((List Ln)):=bI some a0
theorem lv{R} kx a0: @bI R kx a0=(bf a0).bind kx:=by
 unfold bf bI
 exact ac fun _=>ae (ac fun _=>ae (ae (ae rfl rfl) rfl) rfl) rfl
abbrev fF:af:=.fx [.io yL, .clo 158 []] ((List Ln)) (fun z=>bf z.1) (fun b=>(.tup [],[(.own yL b)]))
theorem lL:ag C0 157 fF:=
 ag.fx (e:=false) (.cons Rc (.cons nG (.nil))) mixed Tryz.func157 (by kernel_rfl) (by kernel_rfl) al 1 ai (fun z=>(by kernel_rfl:_=bI (fun b=>some (fF.enc b)) z.1).trans (lv _ z.1))
def mn{R:Type}(kx:(List Ln)×Int->Option R)(a0:List Ln):Option R:=
 Option.bind (aU a0) fun y1473=>
 cond y1473
 (kx ([],(2:Int)))
 (cond (decide ((List.length a0)=(List.length a0)))
  (Option.bind (bf a0) fun y1572=>
   cond (decide ((List.length a0)=(List.length a0)))
   (cond (decide ((List.length a0)=(List.length a0)))
    (cond (decide ((List.length a0)=(List.length a0)))
     (kx (y1572,(0:Int)))
     none)
    none)
   none)
  none)
def cP(a0:List Ln):Option ((List Ln)×Int):=mn some a0
theorem KF{R} kx a0: @mn R kx a0=(cP a0).bind kx:=by
 unfold cP mn
 exact ac fun _=>ae rfl (ae (ac fun _=>ae (ae (ae rfl rfl) rfl) rfl) rfl)
abbrev sD:af:=.fx [.io yL] ((List Ln)×Int) (fun z=>cP z.1) (fun b=>(.tup [⟨false,[(.own yL b.1)]⟩,⟨false,[(.v (.int .i64 b.2))]⟩],[.undef]))
theorem wE:ag C0 84 sD:=
 ag.fxTake (e:=false) (.cons ks (.cons lL (.nil))) mixed Tryz.func84 (by kernel_rfl) (by kernel_rfl) al 1 ai (fun z=>(by kernel_rfl:_=mn (fun b=>some (sD.enc b)) z.1).trans (KF _ z.1))
def rG{R:Type}(kx:(List Ln)×Int->Option R)(a0:Ln)(a1:Ln):Option R:=
 Option.bind (aI a0) fun y1455=>
 cond (!y1455)
 (kx ([],(1:Int)))
 (Option.bind (aI a1) fun y1456=>
  cond (!y1456)
  (kx ([],(1:Int)))
  (cond ((a0.1==a1.1)&&(((a0.2.1==a1.2.1)&&((a0.2.2.1==a1.2.2.1)&&((a0.2.2.2==a1.2.2.2)&&Bool.true)))&&Bool.true))
   (kx ([],(7:Int)))
   (cond ((Int.tmod (IntKind.wrap .i64 (a0.1+a1.1)) (2:Int))==(1:Int))
    (kx ([],(0:Int)))
    (cond (a0.1==a1.1)
     (Option.bind (ev a0.2 a1.2) fun y1457=>
      Option.bind (lj y1457) fun y1458=>
      Option.bind (cP [(a0.1,y1458)]) fun y1573=>
      kx y1573)
     (Option.bind (lT a0 a1) fun y1574=>
      cond (!y1574.2)
      (kx ([],(2:Int)))
      (Option.bind (gz y1574.1 (IntKind.wrap .i64 (Int.tdiv (IntKind.wrap .i64 (a0.1+a1.1)) (2:Int)))) fun y1575=>
       Option.bind (gz y1574.1 (Int.tmod (IntKind.wrap .i64 ((IntKind.wrap .i64 (Int.tdiv (IntKind.wrap .i64 (a0.1+a1.1)) (2:Int)))+(4:Int))) (8:Int))) fun y1576=>
       Option.bind (cP [y1575,y1576]) fun y1577=>
       kx y1577))))))
def lQ(a0:Ln)(a1:Ln):Option ((List Ln)×Int):=rG some a0 a1
theorem Nj{R} kx a0 a1: @rG R kx a0 a1=(lQ a0 a1).bind kx:=by
 unfold lQ rG
 exact ac fun _=>ae rfl (ac fun _=>ae rfl (ae rfl (ae rfl (ae (ac fun _=>ac fun _=>ac fun _=>rfl) (ac fun _=>ae rfl (ac fun _=>ac fun _=>ac fun _=>rfl))))))
abbrev Hc:af:=.fx [.val true yL, .val true yL] ((List Ln)×Int) (fun z=>lQ z.1 z.2.1) (fun b=>(.tup [⟨false,[(.own yL b.1)]⟩,⟨false,[(.v (.int .i64 b.2))]⟩],[]))
theorem Pz:ag C0 33 Hc:=
 ag.fx (e:=false) (.cons dK (.cons oK (.cons HO (.cons wE (.cons FY (.cons rB (.nil))))))) mixed Tryz.func33 (by kernel_rfl) (by kernel_rfl) al 1 ai (fun z=>(by kernel_rfl:_=rG (fun b=>some (Hc.enc b)) z.1 z.2.1).trans (Nj _ z.1 z.2.1))
end
end Go.Proofs.YtjkljnflaifbhaaGreatDoor
