/- No conditions. -/
import Derived.Calls
import Derived.LoopN
import Derived.Orders
import Derived.Below
namespace Go.Vai
open Go
inductive Ty where
 |int (k:IntKind)|bool|str|unit|pair (a b:Ty)|slice (t:Ty)
 deriving DecidableEq
@[reducible] def Ty.T:Ty->Type
 | .int _=>Int
 | .bool=>Bool
 | .str=>ByteArray
 | .unit=>Unit
 | .pair a b=>a.T×b.T
 | .slice t=>List t.T
def Ty.size:Ty->Nat
 | .unit=>0
 | .pair a b=>a.size+b.size
 |_=>1
inductive Place where
 |slot (i k j:Nat)
 |cell (b j:Nat)
 |arg (j:Nat)
 deriving DecidableEq
inductive CV where
 |undef
 |v (x:Value)
 |emp
 |sl (t:Ty) (l:List t.T)
 |own (t:Ty) (l:List t.T)
 |view (p:Place) (full:Bool) (lo:Nat) (t:Ty) (l:List t.T)
 |ptr (b o:Nat)
 |gp (g o:Nat)
 |ea (t:Ty) (x:t.T) (o:Nat)
 |va (p:Place) (i:Nat) (t:Ty) (x:t.T) (o:Nat)
 |fn (f:FuncId) (caps:List (Nat×Nat))
 |lb (n:Nat)
 |np (cs:List CV)
structure Val where
 agg:Bool
 cs:List CV
inductive AV where
 |one (x:Val)
 |tup (l:List Val)
abbrev AV.c(x:CV):AV:=.one ⟨false,[x]⟩
abbrev AV.undef:AV:=.one ⟨false,[.undef]⟩
structure St where
 slots:List AV
 boxes:List (Option (Bool×List CV))
 io:List CV
def Ty.cells:(t:Ty)->t.T->List CV
 | .int k,n=>[.v (.int k n)]
 | .bool,b=>[.v (.bool b)]
 | .str,s=>[.v (.string s)]
 | .unit,_=>[]
 | .pair a b,x=>a.cells x.1++b.cells x.2
 | .slice t,l=>[.sl t l]
def QO(k:IntKind):List CV->Option Int
 |[.v (.int k' n)]=>if k=k' then some n else none
 |_=>none
def Pv:List CV->Option Bool
 |[.v (.bool b)]=>some b
 |_=>none
def QP:List CV->Option ByteArray
 |[.v (.string s)]=>some s
 |_=>none
def Pw:List CV->Option Unit
 |[]=>some ()
 |_=>none
def R8(t:Ty):List CV->Option (List t.T)
 |[.sl t' l]=>if h:t'=t then some (h▸l)else none
 |[.emp]=>some []
 |_=>none
def Ty.ofCells:(t:Ty)->List CV->Option t.T
 | .int k,cs=>QO k cs
 | .bool,cs=>Pv cs
 | .str,cs=>QP cs
 | .unit,cs=>Pw cs
 | .pair a b,cs=>(a.ofCells (cs.take a.size)).bind fun x=>(b.ofCells (cs.drop a.size)).map fun y=>(x,y)
 | .slice t,cs=>R8 t cs
def Ty.zero:(t:Ty)->t.T
 | .int _=>(0:Int)
 | .bool=>false
 | .str=>(⟨#[]⟩:ByteArray)
 | .unit=>()
 | .pair a b=>(a.zero,b.zero)
 | .slice _=>[]
def Ty.fresh:Ty->List CV
 | .int k=>[.v (.int k 0)]
 | .bool=>[.v (.bool false)]
 | .str=>[.v (.string ⟨#[]⟩)]
 | .unit=>[]
 | .pair a b=>a.fresh++b.fresh
 | .slice t=>[.own t []]
def Ty.freshOk:Ty->List Value->Bool
 | .int k,[.int k' n]=>decide (k=k')&&decide (n=0)
 | .bool,[.bool b]=> !b
 | .str,[.string s]=>decide (s.size=0)
 | .unit,[]=>true
 | .pair a b,vs=>a.freshOk (vs.take a.size)&&b.freshOk (vs.drop a.size)
 | .slice _,[.slice none n c]=>decide (n=0)&&decide (c=0)
 |_,_=>false
def LJ(f:TypeId->Option Ty):List Field->Option Ty
 |[]=>some .unit
 |[x]=>f x.type
 |x::r=>(f x.type).bind fun a=>(LJ f r).map fun b=>.pair a b
def Ry(P:Program):Nat->TypeId->Option Ty
 |0,_=>none
 |d+1,t=>match P.underlying t with
  |some (.int k)=>some (.int k)
  |some .bool=>some .bool
  |some .string=>some .str
  |some (.slice e)=>(Ry P d e).map .slice
  |some (.struct fs)=>LJ (Ry P d) fs.toList
  |_=>none
def LI(P:Program)(t:TypeId):Option Ty:=
 (Ry P 8 t).bind fun y=>match P.info? t with
   |some i=>match i.zero with
    |some z=>if i.size=y.size then(if y.freshOk z.cells.toList then some y else none)else none
    |none=>none
   |none=>none
def mL(P:Program)(t:TypeId):Option Bool:=
 (P.underlying t).map fun
   | .struct _| .array _ _=>true
   |_=>false
def mJ(P:Program)(t:TypeId):Option Nat:=(P.info? t).map (·.size)
def vG(P:Program)(t:TypeId):Option Nat:=(P.info? t).map (·.bytes)
def Pd(p:Place):CV->CV
 | .own t l=>.view p true 0 t l
 | .np _=>.undef
 |c=>c
def je(p:Nat->Place):Nat->List CV->List CV
 |_,[]=>[]
 |i,c::r=>Pd (p i) c::je p (i+1) r
def Hp(i:Nat):Nat->List Val->List Val
 |_,[]=>[]
 |k,x::r=>⟨x.agg,je (.slot i k) 0 x.cs⟩::Hp i (k+1) r
def xQ(i:Nat):AV->AV
 | .one x=>.one ⟨x.agg,je (.slot i 0) 0 x.cs⟩
 | .tup l=>.tup (Hp i 0 l)
def St.get(st:St)(i:Nat):AV:=st.slots.getD i .undef
def GA:Value->AV
 | .agg cs=>.one ⟨true,cs.toList.map .v⟩
 |x=>.c (.v x)
def St.opd(st:St):Operand->AV
 | .tmp i=>xQ i (st.get i)
 | .const x=>GA x
 | .global g=>.c (.gp g 0)
 | .func f=>.c (.fn f [])
def CV.isOwn:CV->Bool
 | .own _ _=>true
 |_=>false
def Val.hasOwn(x:Val):Bool:=x.cs.any CV.isOwn
def AV.hasOwn:AV->Bool
 | .one x=>x.hasOwn
 | .tup l=>l.any Val.hasOwn
def Val.map(f:CV->CV)(x:Val):Val:=⟨x.agg,x.cs.map f⟩
def AV.map(f:CV->CV):AV->AV
 | .one x=>.one (x.map f)
 | .tup l=>.tup (l.map (Val.map f))
def St.map(f:CV->CV)(st:St):St:=
 ⟨st.slots.map (AV.map f),st.boxes.map (Option.map fun x=>(x.1,x.2.map f)),st.io.map f⟩
def ol(p:Nat->Place)(f:Place->CV->CV):Nat->List CV->List CV
 |_,[]=>[]
 |i,c::r=>f (p i) c::ol p f (i+1) r
def Val.mapP(p:Nat->Place)(f:Place->CV->CV)(x:Val):Val:=⟨x.agg,ol p f 0 x.cs⟩
def qB(i:Nat)(f:Place->CV->CV):Nat->List Val->List Val
 |_,[]=>[]
 |k,x::r=>x.mapP (.slot i k) f::qB i f (k+1) r
def AV.mapP(i:Nat)(f:Place->CV->CV):AV->AV
 | .one x=>.one (x.mapP (.slot i 0) f)
 | .tup l=>.tup (qB i f 0 l)
def qA(f:Place->CV->CV):Nat->List AV->List AV
 |_,[]=>[]
 |i,a::r=>a.mapP i f::qA f (i+1) r
def jL(f:Place->CV->CV):Nat->List (Option (Bool×List CV))->List (Option (Bool×List CV))
 |_,[]=>[]
 |b,none::r=>none::jL f (b+1) r
 |b,some (ro,cs)::r=>some (ro,ol (.cell b) f 0 cs)::jL f (b+1) r
def St.mapP(f:Place->CV->CV)(st:St):St:=⟨qA f 0 st.slots,jL f 0 st.boxes,ol .arg f 0 st.io⟩
def CV.unlend(bad:Place->Bool):CV->CV
 | .view p f lo t l=>if bad p then .undef else .view p f lo t l
 | .va p i t x o=>if bad p then .undef else .va p i t x o
 |c=>c
def Place.inSlot(d:Nat):Place->Bool
 | .slot i _ _=>i==d
 |_=>false
def St.set(st:St)(d:Nat)(a:AV):St:=⟨st.slots.set d a,st.boxes,st.io⟩
def St.giveUpAll(st:St)(bad:Place->Bool):St:=
 st.mapP fun q c=>match bad q with
  |true=>.undef
  |false=>c.unlend bad
def AV.all(f:CV->Bool):AV->Bool
 | .one x=>x.cs.all f
 | .tup l=>l.all fun x=>x.cs.all f
def CV.avoids(d:Nat):CV->Bool
 | .view p _ _ _ _=> !p.inSlot d
 | .va p _ _ _ _=> !p.inSlot d
 |_=>true
def St.put(strict:Bool)(st:St)(d:Nat)(a:AV){R:Type}(k:St->Option R):Option R:=
 match(st.get d).hasOwn with
 |false=>k (st.set d a)
 |true=>match strict with
  |true=>none
  |false=>if a.all (CV.avoids d)then k ((st.giveUpAll (Place.inSlot d)).set d a)else none
structure af where
 io:List Bool
 β:Type
 G:List (List CV)->List Val->Option β
 enc:β->AV×List CV
 rw:Bool:=false
 encB:β->List (List CV):=fun _=>[]
 alt:{R:Type}->β->(β->Option R)->Option R:=fun x k=>k x
 altOk:∀{R:Type} (x:β) (k:β->Option R),alt x k=k x:=by intros;rfl
structure eo where
 P:Program
 ρ:FuncId->Option af
 glob:Nat->Option (List CV)
 opt:Bool:=false
def vu{α:Type}(l:List α)(i:Int):Option α:=if 0<=i then l[i.toNat]? else none
def IF(s:ByteArray)(i:Int):Option UInt8:=if 0<=i then s[i.toNat]? else none
def St.opdT(P:Program)(T:TypeId)(st:St):Operand->AV
 | .const x=>match LI P T with
   |some y=>if y.freshOk x.cells.toList then .one ⟨(match x with| .agg _=>true|_=>false),y.fresh⟩else GA x
   |none=>GA x
 |x=>st.opd x
def St.eqOpd(P:Program)(T:TypeId)(st:St):Operand->AV
 | .const (.slice none n c)=>.c (.v (.slice none n c))
 |x=>st.opdT P T x
def St.argAVs(st:St)(P:Program):List Operand->List TypeId->List AV
 |[],_=>[]
 |x::r,T::ts=>st.opdT P T x::st.argAVs P r ts
 |x::r,[]=>st.opd x::st.argAVs P r []
def CK:AV->Option (IntKind×Int)
 | .one ⟨false,[.v (.int k n)]⟩=>some (k,n)
 |_=>none
section
variable {R:Type}
def IS(c x y:AV)(k:AV->Option R):Option R:=
 match c with
 | .one ⟨false,[.v (.bool c)]⟩=>match x,y with
   | .one ⟨false,[.v (.bool x)]⟩, .one ⟨false,[.v (.bool y)]⟩=>k (.c (.v (.bool (cond c x y))))
   |x,y=>cond c (k x) (k y)
 |_=>none
def tx(C:eo)(st:St):CV->Option (Nat×List CV)
 | .ptr b o=>match st.boxes.getD b none with
   |some (_,cs)=>some (o,je (.cell b) 0 cs)
   |none=>none
 | .gp g o=>match C.glob g with
   |some cs=>some (o,cs)
   |none=>none
 | .ea t x o=>some (o,t.cells x)
 | .va _ _ t x o=>some (o,t.cells x)
 |_=>none
def ze(C:eo)(st:St)(T:TypeId)(a:AV)(k:AV->Option R):Option R:=
 match a with
 | .one ⟨false,[a]⟩=>match tx C st a with
   |some (o,cs)=>match mL C.P T with
    |some true=>match mJ C.P T with
     |some n=>if((cs.drop o).take n).length=n then k (.one ⟨true,(cs.drop o).take n⟩)else none
     |none=>none
    |some false=>match cs[o]? with
     |some c=>k (.c c)
     |none=>none
    |none=>none
   |none=>none
 |_=>none
def NG(a:AV)(k:AV->Option R):Option R:=
 match a with
 | .one ⟨false,[.ptr b o]⟩=>k (.c (.ptr b o))
 | .one ⟨false,[.gp b o]⟩=>k (.c (.gp b o))
 | .one ⟨false,[.ea t x o]⟩=>k (.c (.ea t x o))
 | .one ⟨false,[.va p i t x o]⟩=>k (.c (.va p i t x o))
 |_=>none
def KO(op:BinOp)(κ:IntKind)(a b:Int)(k:AV->Option R):Option R:=
 match op with
 | .add=>k (.c (.v (.int κ (κ.wrap (a+b)))))
 | .sub=>k (.c (.v (.int κ (κ.wrap (a-b)))))
 | .mul=>k (.c (.v (.int κ (κ.wrap (a*b)))))
 | .quo=>cond (decide (b=0)) none (k (.c (.v (.int κ (κ.wrap (a.tdiv b))))))
 | .rem=>cond (decide (b=0)) none (k (.c (.v (.int κ (a.tmod b)))))
 | .and=>k (.c (.v (.int κ (κ.wrap (BitVec.ofInt κ.bits a&&&BitVec.ofInt κ.bits b).toNat))))
 | .or=>k (.c (.v (.int κ (κ.wrap (BitVec.ofInt κ.bits a|||BitVec.ofInt κ.bits b).toNat))))
 | .xor=>k (.c (.v (.int κ (κ.wrap (BitVec.ofInt κ.bits a^^^BitVec.ofInt κ.bits b).toNat))))
 | .andNot=>k (.c (.v (.int κ (κ.wrap (BitVec.ofInt κ.bits a&&&~~~(BitVec.ofInt κ.bits b)).toNat))))
 | .eql=>k (.c (.v (.bool (a==b))))
 | .neq=>k (.c (.v (.bool (a !=b))))
 | .lss=>k (.c (.v (.bool (decide (a<b)))))
 | .leq=>k (.c (.v (.bool (decide (a<=b)))))
 | .gtr=>k (.c (.v (.bool (decide (a>b)))))
 | .geq=>k (.c (.v (.bool (decide (a>=b)))))
 |_=>none
def BW(op:BinOp)(κ:IntKind)(a b:Int)(k:AV->Option R):Option R:=
 match op with
 | .shl=>cond (decide (b<0)) none (k (.c (.v (.int κ (κ.wrap (a*2^(min b.toNat κ.bits)))))))
 | .shr=>cond (decide (b<0)) none (k (.c (.v (.int κ (a.fdiv (2^(min b.toNat κ.bits)))))))
 |_=>none
def Mf(op:BinOp)(a b:ByteArray)(k:AV->Option R):Option R:=
 match op with
 | .add=>cond (decide (((a.size+b.size:Nat):Int)>IntKind.i64.max)) none (k (.c (.v (.string (a++b)))))
 | .eql=>k (.c (.v (.bool (a.toList==b.toList))))
 | .neq=>k (.c (.v (.bool (!(a.toList==b.toList)))))
 | .lss=>k (.c (.v (.bool (Op.bytesLess a.toList b.toList))))
 | .leq=>k (.c (.v (.bool (Op.bytesLess a.toList b.toList||a.toList==b.toList))))
 | .gtr=>k (.c (.v (.bool (!(Op.bytesLess a.toList b.toList||a.toList==b.toList)))))
 | .geq=>k (.c (.v (.bool (!(Op.bytesLess a.toList b.toList)))))
 |_=>none
def zi(f:TypeId->List CV->List CV->Option Bool)(P:Program)(as bs:List CV):List Field->Option Bool
 |[]=>some true
 |x::r=>match mJ P x.type,mL P x.type,x.name== "_" with
  |some n,some a,false=>
   if(a||n==1)&&(((as.drop x.offset).take n).length==n&&((bs.drop x.offset).take n).length==n)then(match f x.type ((as.drop x.offset).take n) ((bs.drop x.offset).take n),zi f P as bs r with
    |some p,some q=>some (p&&q)
    |_,_=>none)else none
  |_,_,_=>none
def RC(P:Program):Nat->TypeId->List CV->List CV->Option Bool
 |0,_,_,_=>none
 |d+1,T,as,bs=>match P.underlying T with
  |some (.int _)=>match as,bs with
   |[.v (.int k a)],[.v (.int k' b)]=>if k=k' then some (a==b)else none
   |_,_=>none
  |some .bool=>match as,bs with
   |[.v (.bool a)],[.v (.bool b)]=>some (a==b)
   |_,_=>none
  |some .string=>match as,bs with
   |[.v (.string a)],[.v (.string b)]=>some (a==b)
   |_,_=>none
  |some (.struct fs)=>match P.stoodInHeld T with
   |false=>zi (RC P d) P as bs fs.toList
   |true=>none
  |_=>none
def xF(P:Program)(op:BinOp)(T:TypeId)(n:Nat)(k:AV->Option R):Option R:=
 match P.underlying T,op with
 |some (.slice _), .eql=>cond (decide (0<n)) (k (.c (.v (.bool false)))) none
 |some (.slice _), .neq=>cond (decide (0<n)) (k (.c (.v (.bool true)))) none
 |_,_=>none
def Iz(P:Program)(op:BinOp)(T:TypeId)(x y:AV)(k:AV->Option R):Option R:=
 match x,y with
 | .one ⟨false,[.v (.int κ a)]⟩, .one ⟨false,[.v (.int κ' b)]⟩=>
   match op with
   | .shl=>BW .shl κ a b k
   | .shr=>BW .shr κ a b k
   |op=>if κ=κ' then KO op κ a b k else none
 | .one ⟨false,[.v (.int κ a)]⟩, .one ⟨false,[.lb n]⟩=>
   match op with
   | .gtr=>if κ= .i64 then cond (decide (a<=n)) (k (.c (.v (.bool false)))) none else none
   |_=>none
 | .one ⟨false,[.v (.string a)]⟩, .one ⟨false,[.v (.string b)]⟩=>Mf op a b k
 | .one ⟨false,[.v (.bool a)]⟩, .one ⟨false,[.v (.bool b)]⟩=>
   match mL P T,P.underlying T,op with
   |some false,some .bool, .eql=>k (.c (.v (.bool (a==b))))
   |some false,some .bool, .neq=>k (.c (.v (.bool (!(a==b)))))
   |_,_,_=>none
 | .one ⟨true,as⟩, .one ⟨true,bs⟩=>
   match mL P T,P.eqGuardType P.depth T,RC P 8 T as bs with
   |some true,false,some r=>match op with
    | .eql=>k (.c (.v (.bool r)))
    | .neq=>k (.c (.v (.bool (!r))))
    |_=>none
   |_,_,_=>none
 | .one ⟨false,[.sl _ l]⟩, .one ⟨false,[.v (.slice none _ _)]⟩=>xF P op T l.length k
 | .one ⟨false,[.view _ _ _ _ l]⟩, .one ⟨false,[.v (.slice none _ _)]⟩=>xF P op T l.length k
 | .one ⟨false,[.v (.slice A _ _)]⟩, .one ⟨false,[.v (.slice none _ _)]⟩=>
   match P.underlying T,op with
   |some (.slice _), .eql=>k (.c (.v (.bool A.isNone)))
   |some (.slice _), .neq=>k (.c (.v (.bool (!A.isNone))))
   |_,_=>none
 |_,_=>none
def RB(op:UnOp)(x:AV)(k:AV->Option R):Option R:=
 match op,x with
 | .not, .one ⟨false,[.v (.bool b)]⟩=>k (.c (.v (.bool (!b))))
 | .neg, .one ⟨false,[.v (.int κ n)]⟩=>k (.c (.v (.int κ (κ.wrap (0-n)))))
 |_,_=>none
def G4:AV->Option (List Int)
 | .one ⟨false,[.sl (.int .u8) l]⟩=>some l
 | .one ⟨false,[.view _ _ _ (.int .u8) l]⟩=>some l
 | .one ⟨false,[.emp]⟩=>some []
 |_=>none
def Iu(l:List Int):ByteArray:=l.foldl (fun r n=>r.push (UInt8.ofNat n.toNat)) ByteArray.empty
def IP(P:Program)(s d:TypeId)(x:AV)(k:AV->Option R):Option R:=
 match P.underlying s,P.underlying d,x with
 |some (.int _),some (.int κ), .one ⟨false,[.v (.int _ n)]⟩=>k (.c (.v (.int κ (κ.wrap n))))
 |some .string,some .string, .one ⟨false,[.v (.string s)]⟩=>k (.c (.v (.string s)))
 |some (.slice e),some .string,x=>match P.underlying e,G4 x with
  |some (.int .u8),some l=>k (.c (.v (.string (Iu l))))
  |_,_=>none
 |_,_,_=>none
def xN(P:Program)(T:TypeId)(f:Nat):Option (Nat×Nat×Bool):=
 match P.underlying T with
 |some (.struct fs)=>match fs[f]? with
  |some x=>match mJ P x.type,mL P x.type with
   |some n,some b=>some (x.offset,n,b)
   |_,_=>none
  |none=>none
 |_=>none
def ri(P:Program)(T:TypeId)(x:AV)(f:Nat)(k:AV->Option R):Option R:=
 match xN P T f with
 |some (off,n,_)=>if n=0 then none else match x with
  | .one ⟨false,[.ptr b o]⟩=>k (.c (.ptr b (o+off)))
  | .one ⟨false,[.gp b o]⟩=>k (.c (.gp b (o+off)))
  | .one ⟨false,[.ea t x o]⟩=>k (.c (.ea t x (o+off)))
  | .one ⟨false,[.va p i t x o]⟩=>k (.c (.va p i t x (o+off)))
  |_=>none
 |none=>none
def D7(P:Program)(T:TypeId)(x:AV)(f:Nat)(k:AV->Option R):Option R:=
 match xN P T f,x with
 |some (off,n,true), .one ⟨true,cs⟩=>if((cs.drop off).take n).length=n then k (.one ⟨true,(cs.drop off).take n⟩)else none
 |some (off,_,false), .one ⟨true,cs⟩=>match cs[off]? with
  |some c=>k (.c c)
  |none=>none
 |_,_=>none
def sE(P:Program)(T:TypeId):Option (TypeId×Ty):=
 match P.underlying T with
 |some (.slice e)=>(LI P e).map fun y=>(e,y)
 |_=>none
def EK(i:Int)(k:Nat->Option R):Nat->Nat->Option R
 |0,_=>none
 |m+1,j=>cond (decide (i=(j:Int))) (k j) (EK i k m (j+1))
def pF(P:Program)(T:TypeId)(x i:AV)(k:AV->Option R):Option R:=
 match CK i with
 |some (_,i)=>match x with
  | .one ⟨false,[.sl t l]⟩=>match sE P T with
    |some (_,t')=>if t'.size=t.size then(vu l i).bind fun y=>k (.c (.ea t y 0))else none
    |none=>none
  | .one ⟨false,[.view p _ lo t l]⟩=>match sE P T with
    |some (_,t')=>if t'.size=t.size then(vu l i).bind fun y=>k (.c (.va p (lo+i.toNat) t y 0))else none
    |none=>none
  | .one ⟨false,[.gp g o]⟩=>match P.underlying T with
    |some (.array n e)=>match mJ P e with
     |some z=>if n<=64 then EK i (fun j=>k (.c (.gp g (o+j*z)))) n 0 else none
     |none=>none
    |_=>none
  |_=>none
 |none=>none
def rowsOf(t:Ty):Nat->List CV->Option (List t.T)
 |0,[]=>some []
 |0,_::_=>none
 |n+1,cs=>match t.ofCells (cs.take t.size),rowsOf t n (cs.drop t.size)with
  |some x,some l=>some (x::l)
  |_,_=>none
def An(C:eo)(T:TypeId)(x i:AV)(k:AV->Option R):Option R:=
 match x,C.P.underlying T with
 | .one ⟨false,[.gp g 0]⟩,some (.array n e)=>match decide (n<=8)with
   |true=>pF C.P T x i k
   |false=>match CK i,LI C.P e,C.glob g with
    |some (_,i),some t,some cs=>match rowsOf t n cs with
     |some l=>(vu l i).bind fun y=>k (.c (.ea t y 0))
     |none=>none
    |_,_,_=>none
 |_,_=>pF C.P T x i k
def D8(P:Program)(T:TypeId)(x i:AV)(k:AV->Option R):Option R:=
 match P.underlying T,x,CK i with
 |some .string, .one ⟨false,[.v (.string s)]⟩,some (_,i)=>(IF s i).bind fun b=>k (.c (.v (.int .u8 b.toNat)))
 |_,_,_=>none
def cutAt(n:Nat)(lo hi:Option AV)(k:Nat->Nat->Option R):Option R:=
 match lo,hi with
 |none,none=>k 0 n
 |some lo,none=>match CK lo with
  |some (_,lo)=>cond (decide (0<=lo)) (cond (decide (lo<=n)) (k lo.toNat n) none) none
  |none=>none
 |none,some hi=>match CK hi with
  |some (_,hi)=>cond (decide (0<=hi)) (cond (decide (hi<=n)) (k 0 hi.toNat) none) none
  |none=>none
 |some lo,some hi=>match CK lo,CK hi with
  |some (_,lo),some (_,hi)=>cond (decide (0<=lo)) (cond (decide (lo<=hi)) (cond (decide (hi<=n)) (k lo.toNat hi.toNat) none) none) none
  |_,_=>none
def Ee(n:Nat)(lo hi mx:AV)(k:Option R):Option R:=
 match CK lo,CK hi,CK mx with
 |some (_,lo),some (_,hi),some (_,mx)=>cond (decide (0<=lo)) (cond (decide (lo<=hi)) (cond (decide (hi<=mx)) (cond (decide (mx<=n)) k none) none) none) none
 |_,_,_=>none
def isZero:AV->Bool
 | .one ⟨false,[.v (.int _ 0)]⟩=>true
 |_=>false
def D9(P:Program)(em:Bool)(T:TypeId)(x:AV)(lo hi mx:Option AV)(k:AV->Option R):Option R:=
 match P.underlying T,x with
 |some .string, .one ⟨false,[.v (.string s)]⟩=>match mx with
  |none=>cutAt s.size lo hi fun l h=>k (.c (.v (.string (s.extract l h))))
  |some _=>none
 |some (.slice e), .one ⟨false,[x]⟩=>match LI P e with
  |none=>none
  |some t'=>match mx with
   |some m=>match lo,hi with
    |none,some h=>if isZero h&&isZero m then(match x with
      | .sl _ _=>k (.c .emp)
      | .view _ _ _ _ _=>k (.c .emp)
      | .emp=>k (.c .emp)
      |_=>none)else none
    |some lo,some h=>(match x with
     | .view _ _ _ t l=>if t'.size=t.size then Ee l.length lo h m (k AV.undef)else none
     |_=>none)
    |_,_=>none
   |none=>match x with
    | .sl t l=>if t'.size=t.size then cutAt l.length lo hi fun a b=>k (.c (.sl t ((l.take b).drop a)))else none
    | .view p f o t l=>if t'.size=t.size then(match f with
      |true=>cond (decide (0<l.length)) (cutAt l.length lo hi fun a b=>k (.c (.view p false (o+a) t ((l.take b).drop a)))) (match em with
       |true=>cutAt 0 lo hi fun _ _=>k (.c (.sl t []))
       |false=>none)
      |false=>cutAt l.length lo hi fun a b=>k (.c (.view p false (o+a) t ((l.take b).drop a))))else none
    |_=>none
 |_,_=>none
def CV.solid:CV->Bool
 | .undef=>false
 | .np _=>false
 | .v (.agg _)=>false
 | .v (.tuple _)=>false
 |_=>true
def sU(cs:List CV)(o:Nat)(new:List CV):List CV:=cs.take o++new++cs.drop (o+new.length)
def tX(P:Program)(T:TypeId):List CV->List (Nat×AV)->Option (List CV)
 |cs,[]=>some cs
 |cs,(i, .one x)::r=>match xN P T i with
  |some (off,n,_)=>if x.cs.length=n then(if off+n<=cs.length then(if x.agg||x.cs.all CV.solid then tX P T (sU cs off x.cs) r else none)else none)else none
  |none=>none
 |_,_=>none
def D6(P:Program)(T:TypeId)(parts:List (Nat×AV))(k:AV->Option R):Option R:=
 match mL P T,P.underlying T,LI P T with
 |some true,some (.struct fs),some t=>if fs.toList.all fun f=>(mJ P f.type).isSome then(match tX P T t.fresh parts with
  |some cs=>k (.one ⟨true,cs⟩)
  |none=>none)else none
 |_,_,_=>none
def tW(t:Ty):List t.T->List (Nat×AV)->Option (List t.T)
 |l,[]=>some l
 |l,(i, .one x)::r=>match t.ofCells x.cs with
  |some y=>if i<l.length then(if x.agg||x.cs.all CV.solid then tW t (l.set i y) r else none)else none
  |none=>none
 |_,_=>none
def ni(P:Program)(T:TypeId)(n:Nat)(parts:List (Nat×AV))(k:AV->Option R):Option R:=
 match sE P T with
 |some (_,t)=>if n*t.size<=2^24 then(match tW t (List.replicate n t.zero) parts with
  |some l=>k (.c (.own t l))
  |none=>none)else none
 |none=>none
def rj(P:Program)(T:TypeId)(n c:AV)(k:AV->Option R):Option R:=
 match sE P T,CK n,CK c with
 |some (e,t),some (.i64,n),some (.i64,c)=>match vG P e with
  |some b=>cond (decide (0<=n)) (cond (decide (n<=c)) (cond (decide (c*b<=70368744177664)) (cond (decide (c<=70368744177664)) (k (.c (.own t (List.replicate n.toNat t.zero)))) none) none) none) none
  |none=>none
 |_,_,_=>none
def wP(x:AV)(i:Nat)(k:AV->Option R):Option R:=
 match x with
 | .tup l=>match l[i]? with
   |some x=>k (.one x)
   |none=>none
 |_=>none
def G5:List AV->Option (List (Nat×Nat))
 |[]=>some []
 | .one ⟨false,[.ptr b o]⟩::r=>(G5 r).map ((b,o)::·)
 |_=>none
def tS(f:Fn)(first caps:List AV)(k:AV->Option R):Option R:=
 match f,first,G5 caps with
 | .func f,[],some l=>k (.c (.fn f l))
 |_,_,_=>none
def PG:CV->CV
 | .own t l=>.sl t l
 | .view _ _ _ t l=>.sl t l
 | .va _ _ t x o=>.ea t x o
 | .ptr _ _=>.undef
 | .fn f []=>.fn f []
 | .fn _ _=>.undef
 | .np _=>.undef
 |c=>c
def HV(st:St)(b o:Nat)(acc:List (List CV)):Option ((Nat×Nat)×List (List CV)):=
 match st.boxes.getD b none with
 |some (_,cs)=>some ((acc.length,o),acc++ [cs.map PG])
 |none=>none
def zX(st:St):List (Nat×Nat)->List (List CV)->Option (List (Nat×Nat)×List (List CV))
 |[],acc=>some ([],acc)
 |(b,o)::r,acc=>match HV st b o acc with
  |some (x,acc)=>match zX st r acc with
   |some (l,acc)=>some (x::l,acc)
   |none=>none
  |none=>none
def yV(st:St):List CV->List (List CV)->Option (List CV×List (List CV))
 |[],acc=>some ([],acc)
 | .ptr b o::r,acc=>match HV st b o acc with
   |some ((b,o),acc)=>match yV st r acc with
    |some (l,acc)=>some (.ptr b o::l,acc)
    |none=>none
   |none=>none
 | .fn f caps::r,acc=>match zX st caps acc with
   |some (caps,acc)=>match yV st r acc with
    |some (l,acc)=>some (.fn f caps::l,acc)
    |none=>none
   |none=>none
 |c::r,acc=>match yV st r acc with
  |some (l,acc)=>some (PG c::l,acc)
  |none=>none
def sS(st:St):List AV->List (List CV)->Option (List Val×List (List CV))
 |[],acc=>some ([],acc)
 | .one x::r,acc=>match yV st x.cs acc with
   |some (cs,acc)=>match sS st r acc with
    |some (l,acc)=>some (⟨x.agg,cs⟩::l,acc)
    |none=>none
   |none=>none
 |_,_=>none
def CV.isImm:CV->Bool
 | .v _=>true| .emp=>true| .sl _ _=>true| .gp _ _=>true
 | .fn _ []=>true
 | .undef=>true
 |_=>false
def Ty.isFlat:Ty->Bool
 | .slice _=>false
 | .pair a b=>a.isFlat&&b.isFlat
 |_=>true
def CV.isFresh0:CV->Bool
 | .v _=>true| .emp=>true| .own t _=>t.isFlat| .undef=>true
 | .fn _ []=>true
 |_=>false
def CV.isFresh:CV->Bool
 | .np cs=>cs.all CV.isFresh0
 |c=>c.isFresh0
def CV.isFlat:CV->Bool
 | .v _=>true| .emp=>true| .own _ _=>true| .undef=>true| .sl _ _=>true
 | .fn _ []=>true
 |_=>false
def CV.isFlatN:CV->Bool
 | .np cs=>cs.all CV.isFlat
 |c=>c.isFlat
def CE(C:eo)(st:St)(f:AV)(args:List AV)(k:AV->Option R):Option R:=
 match f with
 | .one ⟨false,[.fn f caps]⟩=>match C.ρ f with
   |some c=>match c.io,c.rw with
    |[],false=>match sS st (args++caps.map fun x=>.c (.ptr x.1 x.2)) []with
     |some (vs,bs)=>(c.G bs vs).bind fun x=>c.alt x fun x=>
       if(c.enc x).1.all CV.isFresh||((c.enc x).1.all CV.isFlatN&&args.all (AV.all CV.isImm)&&caps.isEmpty)then k (c.enc x).1 else none
     |none=>none
    |_,_=>none
   |none=>none
 |_=>none
def NE(P:Program)(T:Option TypeId)(x:AV)(k:AV->Option R):Option R:=
 match T.bind P.underlying,x with
 |some .string, .one ⟨false,[.v (.string s)]⟩=>k (.c (.v (.int .i64 s.size)))
 |some (.slice _), .one ⟨false,[.sl _ l]⟩=>k (.c (.v (.int .i64 l.length)))
 |some (.slice _), .one ⟨false,[.view _ _ _ _ l]⟩=>k (.c (.v (.int .i64 l.length)))
 |some (.slice _), .one ⟨false,[.emp]⟩=>k (.c (.v (.int .i64 0)))
 |_,_=>none
def Nz(P:Program)(T:Option TypeId)(x:AV)(k:AV->Option R):Option R:=
 match T.bind P.underlying,x with
 |some (.slice _), .one ⟨false,[.view _ _ _ _ l]⟩=>k (.c (.lb l.length))
 |_,_=>none
def IQ(mx:Bool)(x y:AV):Option AV:=
 match x,y with
 | .one ⟨false,[.v (.int κ a)]⟩, .one ⟨false,[.v (.int _ b)]⟩=>some (.c (.v (.int κ (if mx then(if b>a then b else a)else(if b<a then b else a)))))
 |_,_=>none
def Mc(mx:Bool)(xs:List AV)(k:AV->Option R):Option R:=
 match xs with
 |x::r=>match r.foldl (fun acc y=>acc.bind fun x=>IQ mx x y) (some x)with
  |some z=>k z
  |none=>none
 |[]=>none
def Eb(C:eo)(st:St)(o:Oper)(k:AV->Option R):Option R:=
 match o.op with
 | .move x=>k (st.opdT C.P o.type x)
 | .pick c x y=>IS (st.opd c) (st.opd x) (st.opd y) k
 | .load t a=>ze C st t (st.opd a) k
 | .nilCheck x=>NG (st.opd x) k
 | .binOp op t x y _=>Iz C.P op t (st.eqOpd C.P t x) (st.eqOpd C.P t y) k
 | .unOp op _ x=>RB op (st.opd x) k
 | .convert s d x=>IP C.P s d (st.opd x) k
 | .fieldAddr t x f=>ri C.P t (st.opd x) f k
 | .field t x f=>D7 C.P t (st.opd x) f k
 | .indexAddr t x i=>An C t (st.opd x) (st.opd i) k
 | .index t x i=>D8 C.P t (st.opd x) (st.opd i) k
 | .slice t x lo hi mx=>D9 C.P C.opt t (st.opd x) (lo.map st.opd) (hi.map st.opd) (mx.map st.opd) k
 | .build t ps=>D6 C.P t (ps.toList.map fun p=>(p.1,st.opd p.2)) k
 | .buildSlice t n ps=>ni C.P t n (ps.toList.map fun p=>(p.1,st.opd p.2)) k
 | .makeSlice t n c=>rj C.P t (st.opd n) (st.opd c) k
 | .extract x i=>wP (st.opd x) i k
 | .makeFunc f a b=>tS f (a.toList.map st.opd) (b.toList.map st.opd) k
 | .call c=>match c.callee with
   | .value f=>CE C st (st.opd f) (st.argAVs C.P c.args.toList c.argTypes.toList) k
   | .builtin .len=>match c.args.toList with
     |[x]=>NE C.P c.argTypes[0]? (st.opd x) k
     |_=>none
   | .builtin .cap=>match c.args.toList with
     |[x]=>Nz C.P c.argTypes[0]? (st.opd x) k
     |_=>none
   | .builtin .max=>Mc true (c.args.toList.map st.opd) k
   | .builtin .min=>Mc false (c.args.toList.map st.opd) k
   |_=>none
 |_=>none
end
def Place.isBoxFrom(b o n:Nat):Place->Bool
 | .cell b' j=>b'==b&&decide (o<=j)&&decide (j<o+n)
 |_=>false
def St.giveUp(st:St)(p:Place):St:=st.giveUpAll fun q=>decide (q=p)
def dF(bad:List Place):List CV->St->List CV×St
 |[],st=>([],st)
 | .view p _ _ t l::r,st=>match bad.any fun q=>decide (q=p)with
   |true=>let x:=dF bad r st;(.undef::x.1,x.2)
   |false=>let x:=dF (p::bad) r (st.giveUp p);(.own t l::x.1,x.2)
 | .va _ _ _ _ _::r,st=>let x:=dF bad r st;(.undef::x.1,x.2)
 |c::r,st=>let x:=dF bad r st;(c::x.1,x.2)
def Place.isArg:Place->Bool
 | .arg _=>true
 |_=>false
def cH(bad:List Place):List CV->St->List CV×St
 |[],st=>([],st)
 | .view p f lo t l::r,st=>match p.isArg with
   |true=>let x:=cH bad r st;(.view p f lo t l::x.1,x.2)
   |false=>match bad.any fun q=>decide (q=p)with
    |true=>let x:=cH bad r st;(.undef::x.1,x.2)
    |false=>let x:=cH (p::bad) r (st.giveUp p);(.own t l::x.1,x.2)
 | .va _ _ _ _ _::r,st=>let x:=cH bad r st;(.undef::x.1,x.2)
 |c::r,st=>let x:=cH bad r st;(c::x.1,x.2)
def CV.isVal:CV->Bool
 | .v _=>true
 |_=>false
def St.atPlace(st:St):Place->CV
 | .slot i k j=>match st.get i with
   | .one x=>if k=0 then x.cs.getD j .undef else .undef
   | .tup l=>match l[k]? with
     |some x=>x.cs.getD j .undef
     |none=>.undef
 | .cell b j=>match st.boxes.getD b none with
   |some (_,cs)=>cs.getD j .undef
   |none=>.undef
 | .arg j=>st.io.getD j .undef
def CV.froze(p:Place):CV->CV
 | .view q f lo t l=>if q=p then .sl t l else .view q f lo t l
 | .va q i t x o=>if q=p then .ea t x o else .va q i t x o
 |c=>c
def CV.frozeOwn(p q:Place):CV->CV
 | .own t l=>if q=p then .sl t l else .own t l
 |c=>c.froze p
def St.freeze(st:St)(p:Place):St:=st.mapP (CV.frozeOwn p)
def St.freezeAll(st:St):List Place->St
 |[]=>st
 |p::r=>(st.freeze p).freezeAll r
def AV.frozeAll(a:AV):List Place->AV
 |[]=>a
 |p::r=>(a.map (CV.froze p)).frozeAll r
def CV.tidy:CV->CV
 | .own t []=>.sl t []
 | .v (.slice _ 0 0)=>.emp
 |c=>c
def CV.heldAt:CV->List Place
 | .view p _ _ _ _=>[p]
 |_=>[]
def AV.held:AV->List Place
 | .one x=>x.cs.flatMap CV.heldAt
 | .tup _=>[]
def R0:AV->Bool
 | .one ⟨false,[.va _ _ _ _ _]⟩=>true
 |_=>false
def CV.isImmV:CV->Bool
 | .v _=>true
 | .sl _ _=>true
 | .emp=>true
 |_=>false
def CV.refresh(p:Place)(i:Nat)(t:Ty)(y:t.T):CV->CV
 | .view q f lo t' l=>if q=p then(if h:t=t' then(match lo with
   |0=>.view q f 0 t' (l.set i (h▸y))
   |lo+1=>.view q f (lo+1) t' (if lo+1<=i then l.set (i-(lo+1)) (h▸y)else l))else .undef)else .view q f lo t' l
 | .va q i' t' x o=>if q=p then(if h:t=t' then .va q i' t' (if i'=i then h▸y else x) o else .undef)else .va q i' t' x o
 |c=>c
def CV.refreshOwn(p:Place)(i:Nat)(t:Ty)(y:t.T):CV->CV
 | .own t' l=>if h:t=t' then .own t' (l.set i (h▸y))else .undef
 |c=>c.refresh p i t y
def Jh{α:Type}(lo:Nat)(ys:List α)(i:Nat)(x:α):α:=if lo<=i then(ys[i-lo]?).getD x else x
def BF{α:Type}(k lo:Nat)(ys l:List α):List α:=l.mapIdx fun i x=>Jh lo ys (k+i) x
def CV.bulk(p:Place)(lo:Nat)(t:Ty)(ys:List t.T):CV->CV
 | .view q f k t' l=>if q=p then(if h:t=t' then .view q f k t' (BF k lo (h▸ys) l)else .undef)else .view q f k t' l
 | .va q i' t' x o=>if q=p then .undef else .va q i' t' x o
 |c=>c
def CV.bulkOwn(p:Place)(lo:Nat)(t:Ty)(ys:List t.T):CV->CV
 | .own t' l=>if h:t=t' then .own t' (BF 0 lo (h▸ys) l)else .undef
 |c=>c.bulk p lo t ys
def St.bulk(st:St)(p:Place)(lo:Nat)(t:Ty)(ys:List t.T):St:=
 st.mapP fun q c=>if q=p then c.bulkOwn p lo t ys else c.bulk p lo t ys
def Ji(st:St)(p:Place)(t:Ty):Option (List t.T):=
 match st.atPlace p with
 | .own t' L=>if h:t'=t then some (h▸L)else none
 |_=>none
section
variable {R:Type}
def Gw(C:eo)(strict:Bool)(st:St)(o:Oper)(x:Operand)(k:St->Option R):Option R:=
 match o.dst with
 |none=>none
 |some d=>match st.opdT C.P o.type x with
  | .one v=>match strict with
    |true=>if v.cs.all CV.isVal then st.put true d (.one v) k else none
    |false=>(cH [] v.cs st).2.put false d (.one ⟨v.agg,(cH [] v.cs st).1⟩) k
  | .tup _=>none
def St.write(strict:Bool)(st:St)(b o:Nat)(new:List CV)(k:St->Option R):Option R:=
 match st.boxes.getD b none with
 |some (false,cs)=>
  if o+new.length<=cs.length then(if new.all CV.solid then(match strict with
   |true=>if((cs.drop o).take new.length).any CV.isOwn then none else k ⟨st.slots,st.boxes.modify b (Option.map fun x=>(x.1,sU x.2 o new)),st.io⟩
   |false=>k ⟨(st.giveUpAll (Place.isBoxFrom b o new.length)).slots,
     (st.giveUpAll (Place.isBoxFrom b o new.length)).boxes.modify b (Option.map fun x=>(x.1,sU x.2 o new)),(st.giveUpAll (Place.isBoxFrom b o new.length)).io⟩)else none)else none
 |_=>none
def Ea(C:eo)(strict:Bool)(st:St)(T:TypeId)(a:AV)(x:AV)(k:St->Option R):Option R:=
 match x with
 | .one v=>match mJ C.P T with
   |some n=>if v.cs.length=n then(match a with
    | .one ⟨false,[.ptr b o]⟩=>match strict with
      |true=>if v.cs.all CV.isVal then st.write true b o v.cs k else none
      |false=>(cH [] v.cs st).2.write false b o (cH [] v.cs st).1 k
    | .one ⟨false,[.va p i t e o]⟩=>match strict with
      |true=>none
      |false=>if v.cs.all CV.isImmV then(if o+n<=t.size then(match t.ofCells (sU (t.cells e) o v.cs)with
       |some y=>match st.atPlace p with
        | .own t' _=>if t=t' then k (st.mapP fun q c=>if q=p then c.refreshOwn p i t y else c.refresh p i t y)else none
        |_=>none
       |none=>none)else none)else none
    |_=>none)else none
   |none=>none
 | .tup _=>none
def St.newBox(st:St)(d:Nat)(cs:List CV)(k:St->Option R):Option R:=
 if d<st.boxes.length&&d<st.slots.length then(if !cs.all CV.solid then none else match st.boxes.getD d none with
  |none=>(⟨st.slots,st.boxes.set d (some (false,cs)),st.io⟩:St).put true d (.c (.ptr d 0)) k
  |some _=>none)else none
def JJ(C:eo)(st:St)(o:Oper)(T:TypeId)(k:St->Option R):Option R:=
 match o.dst,LI C.P T with
 |some d,some t=>st.newBox d t.fresh k
 |_,_=>none
def Q8(C:eo)(st:St)(o:Oper)(T:TypeId)(x:Operand)(k:St->Option R):Option R:=
 match o.dst,st.opdT C.P T x with
 |some d, .one v=>(cH [] v.cs st).2.newBox d (cH [] v.cs st).1 k
 |_,_=>none
def uP(t:Ty):AV->Option (List t.T)
 | .one ⟨false,[.sl t' l]⟩=>if h:t'=t then some (h▸l)else none
 | .one ⟨false,[.view _ _ _ t' l]⟩=>if h:t'=t then some (h▸l)else none
 | .one ⟨false,[.emp]⟩=>some []
 | .one ⟨false,[.v (.slice _ 0 _)]⟩=>some []
 |_=>none
def Am(C:eo)(st:St)(o:Oper)(T:TypeId)(T2:TypeId)(s x:AV)(k:St->Option R):Option R:=
 match o.dst,sE C.P T,C.P.underlying T2 with
 |some d,some (e,t),some (.slice _)=>match vG C.P e,uP t x with
  |some b,some new=>match s with
   | .one ⟨false,[.view p f lo t' l]⟩=>if h:t'=t then
      (let old:=cond (decide ((l.length+new.length)*b<=70368744177664)) (cond (decide (l.length+new.length<=70368744177664)) ((st.giveUp p).put false d (.c (.own t ((h▸l)++new))) k) none) none
       match f,Ji st p t with
       |false,some L=>cond (decide (lo+l.length+new.length<=L.length)) ((st.bulk p (lo+l.length) t new).put false d (.c (.view p false lo t ((h▸l)++new))) k) old
       |_,_=>old)else none
   | .one ⟨false,[.emp]⟩=>
      cond (decide (new.length*b<=70368744177664)) (cond (decide (new.length<=70368744177664)) (st.put false d (.c (.own t new)) k) none) none
   |_=>none
  |_,_=>none
 |_,_,_=>none
def JR(C:eo)(T:TypeId)(T2:TypeId)(s x:AV)(k:AV->Option R):Option R:=
 match sE C.P T,C.P.underlying T2 with
 |some (e,t),some (.slice _)=>match vG C.P e,uP t x with
  |some b,some new=>match s with
   | .one ⟨false,[.emp]⟩=>
      cond (decide (new.length*b<=70368744177664)) (cond (decide (new.length<=70368744177664)) (k (.c (.own t new))) none) none
   |_=>none
  |_,_=>none
 |_,_=>none
def L7(C:eo)(st:St)(o:Oper)(T:TypeId)(x:AV)(k:St->Option R):Option R:=
 match sE C.P T,x with
 |some (_,t), .one ⟨false,[.view p _ lo t' l]⟩=>if t'=t then(match Ji st p t with
   |some _=>(match o.dst with
    |none=>k (st.bulk p lo t (List.replicate l.length t.zero))
    |some d=>(st.bulk p lo t (List.replicate l.length t.zero)).put false d (.c (.v (.tuple #[]))) k)
   |none=>none)else none
 |_,_=>none
def OJ(C:eo)(st:St)(o:Oper)(T T2:TypeId)(x y:AV)(k:St->Option R):Option R:=
 match sE C.P T,C.P.underlying T2,x with
 |some (_,t),some (.slice _), .one ⟨false,[.view p _ lo t' l]⟩=>if t'=t then(match uP t y,Ji st p t with
   |some ys,some _=>cond (decide (ys.length<=l.length)) (match o.dst with
    |none=>k (st.bulk p lo t ys)
    |some d=>(st.bulk p lo t ys).put false d (.c (.v (.int .i64 (ys.length:Nat)))) k) none
   |_,_=>none)else none
 |_,_,_=>none
def JO(C:eo)(st:St)(o:Oper)(T:TypeId)(x:AV)(lo hi:Option AV)(k:St->Option R)(other:Option R):Option R:=
 match o.dst,C.P.underlying T,x,hi with
 |some d,some (.slice e), .one ⟨false,[.view p false o t _]⟩,some hi=>match LI C.P e,Ji st p t with
  |some t',some L=>if t'.size=t.size then cutAt (L.length-o) lo (some hi) fun a b=>st.put false d (.c (.view p false (o+a) t (((L.drop o).take b).drop a))) k else none
  |_,_=>other
 |_,_,_,_=>other
structure lF where
 p:Place
 t:Ty
 l:List t.T
def CV.isPlain:CV->Bool
 | .v (.int _ _)=>true
 | .v (.bool _)=>true
 | .v (.string _)=>true
 |_=>false
def sJ:List CV->Option (List lF)
 |[]=>some []
 | .view p true _ t l::r=>(sJ r).map (⟨p,t,l⟩::·)
 |c::r=>match c.isPlain with
  |true=>sJ r
  |false=>none
def Fx:List CV->List CV
 |[]=>[]
 | .view _ _ _ t l::r=>.own t l::Fx r
 |c::r=>c::Fx r
def wt:List Bool->List AV->Option (List lF)
 |_,[]=>some []
 |io,x::r=>match io.headD false with
  |true=>match x with
   | .one x=>match sJ x.cs with
     |some a=>(wt io.tail r).map (a++·)
     |none=>none
   | .tup _=>none
  |false=>wt io.tail r
def lL(ls:List lF)(q:Place):Bool:=ls.any fun x=>decide (x.p=q)
def B3(st:St)(bad:Place->Bool):List Bool->List AV->List (List CV)->Option (List Val×List (List CV))
 |_,[],acc=>some ([],acc)
 |io, .one x::r,acc=>match io.headD false with
  |true=>match B3 st bad io.tail r acc with
   |some (vs,acc)=>some (⟨x.agg,Fx x.cs⟩::vs,acc)
   |none=>none
  |false=>match yV st (x.cs.map (CV.unlend bad)) acc with
   |some (cs,acc)=>match B3 st bad io.tail r acc with
    |some (l,acc)=>some (⟨x.agg,cs⟩::l,acc)
    |none=>none
   |none=>none
 |_, .tup _::_,_=>none
def Kf(st:St)(k:Option R):List lF->Option R
 |[]=>k
 |x::r=>match st.atPlace x.p with
  | .own t l=>if t=x.t then cond (decide (l.length=x.l.length)) (Kf st k r) none else none
  |_=>none
def xH:List lF->List CV->Place->Option CV
 |x::r,c::cs,q=>if x.p=q then some c else xH r cs q
 |_,_,_=>none
def ud:List lF->List CV->Bool
 |[],[]=>true
 |x::r, .own t _::cs=>decide (t=x.t)&&t.isFlat&&ud r cs
 |_,_=>false
def Place.isSlot:Place->Bool
 | .slot _ _ _=>true
 |_=>false
def CV.again(ls:List lF)(cs:List CV)(q:Place):CV->CV
 | .view p f lo t l=>match lL ls p with
   |false=>.view p f lo t l
   |true=>match p.isArg&&f&&q.isSlot,xH ls cs p with
    |true,some (.own t' l')=>if t=t' then .view p true 0 t' l' else .undef
    |_,_=>.undef
 |c=>c.unlend (lL ls)
def St.giveBack(st:St)(ls:List lF)(cs:List CV):St:=
 st.mapP fun q c=>match c with
  | .own t l=>(match xH ls cs q with
    |some c'=>c'
    |none=>.own t l)
  |c=>c.again ls cs q
def rO:List lF->Place->Option Nat
 |[],_=>none
 |x::r,q=>if x.p=q then some x.l.length else rO r q
def AV.cells:AV->List CV
 | .one x=>x.cs
 | .tup l=>l.flatMap Val.cs
def tz(ls:List lF)(k:Option R):List CV->Option R
 |[]=>k
 | .view p true _ _ l::r=>match p.isArg with
   |true=>(match rO ls p with
    |some n=>cond (decide (l.length=n)) (tz ls k r) none
    |none=>tz ls k r)
   |false=>tz ls k r
 |_::r=>tz ls k r
def xG(ls:List lF)(k:Option R):List AV->Option R
 |[]=>k
 |a::r=>tz ls (xG ls k r) a.cells
def CV.isUndef:CV->Bool
 | .undef=>true
 |_=>false
def distinct:List lF->Bool
 |[]=>true
 |x::r=> !lL r x.p&&distinct r
def CF(C:eo)(st:St)(o:Oper)(f:AV)(args:List AV)(k:St->Option R):Option R:=
 match f,o.dst with
 | .one ⟨false,[.fn f []]⟩,some d=>match C.ρ f with
   |some c=>match c.rw,wt c.io args with
    |false,some ls=>match B3 (st.giveUpAll (lL ls)) (lL ls) c.io args []with
     |some (vs,bs)=>if distinct ls then Kf st ((c.G bs vs).bind fun x=>c.alt x fun x=>
       (if(c.enc x).1.all CV.isFresh&&ud ls (c.enc x).2 then xG ls ((st.giveBack ls (c.enc x).2).put false d (c.enc x).1 k) st.slots
        else if(c.enc x).1.all CV.isFresh&&(c.enc x).2.all CV.isUndef then(st.giveUpAll (lL ls)).put false d (c.enc x).1 k else none)) ls else none
     |none=>none
    |_,_=>none
   |none=>none
 |_,_=>none
def O8(C:eo):Operand->Bool
 | .func f=>match C.ρ f with
   |some c=>c.io.any id||c.rw
   |none=>false
 |_=>false
def Val.np?:Val->Option (List CV)
 |⟨false,[.np cs]⟩=>some cs
 |_=>none
def Ko(d:Nat):List Val->Option (List CV×List Val)
 |[]=>none
 |x::r=>match x.np? with
  |some cs=>some (cs,⟨false,[.ptr d 0]⟩::r)
  |none=>(Ko d r).map fun y=>(y.1,x::y.2)
def AV.npLand(d:Nat):AV->Option (List CV×AV)
 | .one x=>x.np?.map fun cs=>(cs, .c (.ptr d 0))
 | .tup l=>(Ko d l).map fun y=>(y.1, .tup y.2)
def St.putN(st:St)(d:Nat)(a:AV)(k:St->Option R):Option R:=
 match a.npLand d with
 |none=>st.put false d a k
 |some (cs,a)=>match decide (d<st.slots.length),st.boxes[d]? with
  |true,some none=>(⟨st.slots,st.boxes.set d (some (false,cs)),st.io⟩:St).put false d a k
  |_,_=>none
def qE:List CV->List Nat
 |[]=>[]
 | .ptr b _::r=>b::qE r
 | .fn _ caps::r=>caps.map Prod.fst++qE r
 |_::r=>qE r
def dR:List AV->List Nat
 |[]=>[]
 | .one x::r=>qE x.cs++dR r
 | .tup _::r=>dR r
def FB:Nat->List (Nat×Nat)->List (Nat×Nat)
 |_,[]=>[]
 |n,c::r=>(n,c.2)::FB (n+1) r
def Fv:Nat->List CV->Option (List CV)
 |_,[]=>some []
 |n, .ptr _ o::r=>(Fv (n+1) r).map (.ptr n o::·)
 |n, .fn f caps::r=>(Fv (n+caps.length) r).map (.fn f (FB n caps)::·)
 |n,c::r=>match c.isImm with
  |true=>(Fv n r).map (c::·)
  |false=>none
def xW:Nat->List AV->Option (List Val)
 |_,[]=>some []
 |n, .one x::r=>(Fv n x.cs).bind fun cs=>(xW (n+(qE x.cs).length) r).map (⟨x.agg,cs⟩::·)
 |_, .tup _::_=>none
def sC(st:St):List Nat->Option (List (List CV))
 |[]=>some []
 |b::r=>match st.boxes[b]? with
  |some (some (false,cs))=>if cs.all CV.isFlat then(sC st r).map (cs::·)else none
  |_=>none
def iJ:List Nat->Bool
 |[]=>true
 |b::r=> !r.contains b&&iJ r
def Place.inBoxes(bl:List Nat):Place->Bool
 | .cell b _=>bl.contains b
 |_=>false
def St.refill:St->List Nat->List (List CV)->St
 |st,b::r,cs::css=>St.refill ⟨st.slots,st.boxes.set b (some (false,cs)),st.io⟩ r css
 |st,_,_=>st
def Hq(l:List (List CV)):List Nat:=l.map List.length
def St.back(st:St)(o:Oper)(a:AV)(k:St->Option R):Option R:=
 match o.dst with
 |some d=>st.putN d a k
 |none=>k st
def BV(C:eo)(st:St)(o:Oper)(f:AV)(args:List AV)(k:St->Option R):Option R:=
 match f with
 | .one ⟨false,[.fn f caps]⟩=>match C.ρ f with
   |some c=>match c.rw,xW 0 (args++caps.map fun x=>.c (.ptr x.1 x.2)),sC st (dR (args++caps.map fun x=>.c (.ptr x.1 x.2)))with
    |true,some vs,some bs=>if iJ (dR (args++caps.map fun x=>.c (.ptr x.1 x.2)))then(c.G bs vs).bind fun x=>c.alt x fun x=>
      if(c.enc x).1.all CV.isFlatN&&Hq (c.encB x)==Hq bs then
       ((st.giveUpAll (Place.inBoxes (dR (args++caps.map fun x=>.c (.ptr x.1 x.2))))).refill (dR (args++caps.map fun x=>.c (.ptr x.1 x.2))) (c.encB x)).back o (c.enc x).1 k
      else none else none
    |_,_,_=>none
   |none=>none
 |_=>none
def NW(C:eo):AV->Bool
 | .one ⟨false,[.fn f _]⟩=>match C.ρ f with
   |some c=>c.rw
   |none=>false
 |_=>false
def kA(C:eo)(strict:Bool)(st:St)(o:Oper)(k:St->Option R):Option R:=
 Eb C st o fun a=>match o.dst with
  |some d=>match strict with
   |true=>st.put true d a k
   |false=>st.putN d a k
  |none=>k st
def step(C:eo)(strict:Bool)(st:St)(o:Oper)(k:St->Option R):Option R:=
 match o.op with
 | .assign x=>Gw C strict st o x k
 | .store T a x=>match o.dst with
   |none=>match strict,R0 (st.opd a),(st.opdT C.P T x).held with
    |false,true,p::r=>Ea C false (st.freezeAll (p::r)) T ((st.opd a).frozeAll (p::r)) ((st.opdT C.P T x).frozeAll (p::r)) k
    |_,_,_=>Ea C strict st T (st.opd a) (st.opdT C.P T x) k
   |some _=>none
 | .buildSlice T n ps=>match strict,ps.toList.flatMap fun p=>(st.opd p.2).held with
   |false,p::r=>ni C.P T n (ps.toList.map fun x=>(x.1,((st.opd x.2).frozeAll (p::r)).map CV.tidy)) fun a=>match o.dst with
    |some d=>(st.freezeAll (p::r)).put false d a k
    |none=>none
   |_,_=>kA C strict st o k
 | .alloc T=>JJ C st o T k
 | .box T x=>Q8 C st o T x k
 | .slice T x lo hi mx=>match strict,mx with
   |false,none=>JO C st o T (st.opd x) (lo.map st.opd) (hi.map st.opd) k (kA C false st o k)
   |_,_=>kA C strict st o k
 | .call c=>match c.callee with
   | .builtin .append=>match c.args.toList,c.argTypes.toList with
     |[s,x],[T,T2]=>match strict with
      |true=>(match o.dst with
       |some d=>JR C T T2 (st.opdT C.P T s) (st.opdT C.P T2 x) fun v=>st.put true d v k
       |none=>none)
      |false=>Am C st o T T2 (st.opdT C.P T s) (st.opdT C.P T2 x) k
     |_,_=>none
   | .builtin .clear=>match c.args.toList,c.argTypes.toList with
     |[x],[T]=>L7 C st o T (st.opd x) k
     |_,_=>none
   | .builtin .copy=>match c.args.toList,c.argTypes.toList with
     |[x,y],[T,T2]=>OJ C st o T T2 (st.opd x) (st.opdT C.P T2 y) k
     |_,_=>none
   | .value f=>match NW C (st.opd f),strict with
     |true,false=>BV C (st.freezeAll ((st.argAVs C.P c.args.toList c.argTypes.toList).flatMap AV.held)) o ((st.opd f).frozeAll ((st.argAVs C.P c.args.toList c.argTypes.toList).flatMap AV.held))
       ((st.argAVs C.P c.args.toList c.argTypes.toList).map fun a=>a.frozeAll ((st.argAVs C.P c.args.toList c.argTypes.toList).flatMap AV.held)) k
     |_,_=>if O8 C f then CF C st o (st.opd f) (st.argAVs C.P c.args.toList c.argTypes.toList) k else kA C strict st o k
   |_=>kA C strict st o k
 |_=>kA C strict st o k
def St.test(st:St)(x:Operand)(k:Bool->St->Option R):Option R:=
 match x,st.opd x with
 | .tmp d, .one ⟨false,[.v (.bool b)]⟩=>cond b (k true (st.set d (.c (.v (.bool true))))) (k false (st.set d (.c (.v (.bool false)))))
 | .const (.bool b),_=>k b st
 |_,_=>none
abbrev AV.skip:AV:=.c (.v (.tuple #[]))
def AV.isSkip:AV->Bool
 | .one ⟨false,[.v (.tuple _)]⟩=>true
 |_=>false
def xk(strict:Bool)(o:Oper)(st:St)(k:St->Option R):Option R:=
 match o.dst with
 |some d=>st.put strict d .skip k
 |none=>k st
def vS(o:Oper):Bool:=
 match o.op with
 | .call c=>(match c.callee with| .builtin .append=>true|_=>false)
 |_=>false
def Fj(x:Operand)(d:Nat):Bool:=
 match x with
 | .tmp t=>t==d
 |_=>false
def wE(ops:Array Oper)(o:Oper):Bool:=
 match o.op,o.dst with
 | .buildSlice _ 0 _,some d=>ops.toList.any fun q=>vS q&&(match q.op with
   | .call c=>(match c.args.toList with|x::_=>Fj x d|[]=>false)
   |_=>false)
 |_,_=>false
def Dg(C:eo)(st:St)(o:Oper)(k:St->Option R):Option R:=
 match o.op,o.dst with
 | .buildSlice _ 0 _,some d=>Eb C st o fun _=>st.put true d (.c .emp) k
 |_,_=>none
def lg(C:eo)(strict:Bool)(ops:Array Oper)(o:Oper)(st:St)(k:St->Option R):Option R:=
 match o.guard with
 |none=>match strict&&wE ops o with
  |true=>Dg C st o k
  |false=>step C strict st o k
 |some (j,want)=>match(ops[j]?).bind (·.dst)with
  |some d=>match(st.get d).isSkip with
   |true=>xk strict o st k
   |false=>st.test (.tmp d) fun b st=>if b=want then step C strict st o k else xk strict o st k
  |none=>none
def Kz(C:eo)(strict:Bool)(ops:Array Oper):List Oper->St->(St->Option R)->Option R
 |[],st,k=>k st
 |o::r,st,k=>lg C strict ops o st fun st=>Kz C strict ops r st k
inductive Ex where
 |normal|exit (id:Nat)|ret
abbrev Ou:=Option (Bool×List CV)
abbrev kf:=List AV×List Ou×List CV
def Place.lives(s b:List Nat):Place->Bool
 | .arg _=>true
 | .slot i _ _=>s.contains i
 | .cell i _=>b.contains i
def CV.keep(s b:List Nat):CV->CV
 | .view p f lo t x=>if p.lives s b then .view p f lo t x else .undef
 | .va p n t x o=>if p.lives s b then .va p n t x o else .undef
 | .ptr i o=>if b.contains i then .ptr i o else .undef
 | .fn f caps=>if caps.all fun c=>b.contains c.1 then .fn f caps else .undef
 |c=>c
def St.live(st:St)(s b:List Nat):kf:=
 (s.map fun i=>(st.get i).map (CV.keep s b),b.map (fun i=>(st.boxes.getD i none).map fun x=>(x.1,x.2.map (CV.keep s b))),st.io.map (CV.keep s b))
def wK{α:Type}:List Nat->List α->List α->List α
 |i::r,x::xs,l=>wK r xs (l.set i x)
 |_,_,l=>l
structure zc where
 n:Nat
 m:Nat
def zc.back(d:zc)(s b:List Nat)(x:kf):St:=
 ⟨wK s x.1 (List.replicate d.n .undef),wK b x.2.1 (List.replicate d.m none),x.2.2⟩
structure dz where
 s:List Nat
 b:List Nat
 s':List Nat
 b':List Nat
def eg(d:zc)(h:dz)(body:St->(Ex->St->Option R)->Option R):Nat->kf->(Ex->kf->Option R)->Option R
 |0,_,_=>none
 |n+1,x,k=>body (d.back h.s h.b x) fun e st=>match e with
  | .normal=>eg d h body n (st.live h.s h.b) k
  |e=>k e (st.live h.s' h.b')
noncomputable def key(c:Code):Nat:=
 Code.rec (motive:=fun _=>Nat) 0 (fun id _ _=>id+1) (fun _ _ a b=>if a=0 then b else a) (fun _ _ _ a b=>if a=0 then b else a)
  (fun _ _ a=>a) (fun _ a=>a) (fun _ _ _ _ _ _=>0) (fun _=>0) (fun _ a=>a) (fun _=>0) (fun _=>0) 0 (fun _=>0) c
noncomputable def sF(c:Code):Nat:=key c+1000000
noncomputable def Cr(id:Nat):Code->Option Code
 | .seq a b=>match Nat.beq (key b) id with
   |true=>some b
   |false=>match Cr id a with
    |some c=>some c
    |none=>Cr id b
 | .cond _ a b=>match Cr id a with
   |some c=>some c
   |none=>Cr id b
 | .block _ a=>Cr id a
 | .loop a=>Cr id a
 |_=>none
noncomputable def zy(id:Nat):Code->Option Code
 | .seq a b=>match zy id a with
   |some c=>some c
   |none=>zy id b
 | .cond _ a b=>match zy id a with
   |some c=>some c
   |none=>zy id b
 | .block _ a=>zy id a
 | .loop a=>if key a=id+1 then some a else zy id a
 | .scope a=>zy id a
 |_=>none
noncomputable def EO(f:Func)(id:Nat):Code:=
 match f.body with
 |some c=>match Cr id c with
  |some b=>b
  |none=>.skip
 |none=>.skip
noncomputable def dt(f:Func)(id:Nat):Code:=
 match f.body with
 |some c=>match zy id c with
  |some a=>a
  |none=>.skip
 |none=>.skip
structure iG(R:Type)where
 loop:Nat->dz
 sum:Nat->Option (kf->(Ex->kf->Option R)->Option R)
def Qt(P:Program)(T:TypeId):Bool:=
 match P.underlying T with
 |some (.int _)=>true|some .bool=>true|some .string=>true
 |_=>false
inductive SH where
 |pure|alloc|store|other
 deriving DecidableEq
def mM(C:eo)(o:Oper):SH:=
 match o.op with
 | .assign _=>if Qt C.P o.type then .pure else .other
 | .store _ _ _=>.store
 | .alloc _=>.alloc
 | .box _ _=>.other
 | .call c=>match c.callee with
   | .builtin .len| .builtin .cap| .builtin .max| .builtin .min| .builtin .append=>.pure
   | .value f=>if O8 C f then .other else .pure
   |_=>.other
 |_=>.pure
def ov(ops:Array Oper)(o:Oper):List Tmp:=
 (o.op.operands.toList.filterMap fun| .tmp t=>some t|_=>none)++
 (match o.guard with|some (j,_)=>((ops[j]?).bind (·.dst)).toList|none=>[])
def oI(o:Oper):Bool:=
 match o.op with
 | .move _| .binOp .. | .unOp .. | .extract .. | .convert .. | .pick .. =>true
 |_=>false
def apart(ops:Array Oper)(a b:Oper):Bool:=
 (match a.dst with|some d=> !(ov ops b).contains d&&b.dst !=some d|none=>true)&&
 (match b.dst with|some d=> !(ov ops a).contains d|none=>true)
def gg(C:eo)(ops:Array Oper)(a b:Oper):Bool:=
 apart ops a b&&match mM C a,mM C b with
  | .pure, .pure=>true
  | .pure, .alloc=>true
  | .alloc, .alloc=>true
  | .pure, .store=>oI a
  |_,_=>false
def RT(o:Oper)(j:Nat):Bool:=o.after.any fun e=>e.on==j&&Region.binds .any e
def rr(ops:Array Oper)(i:Nat):Bool:=
 Nat.beq (i+1) ops.size&&(match ops[i]? with
  |some o=>(List.range i).all fun j=>RT o j
  |none=>false)
def quiet(p:Oper):Bool:=
 p.guard.isNone&&p.dst.isSome&&(match p.op with
  | .extract _ _| .move _=>true
  | .binOp .add _ _ _ _| .binOp .sub _ _ _ _=>true
  |_=>false)
def Fi(o:Oper):Bool:=
 o.guard.isNone&&(match o.op with
  | .assign _=>o.dst.isSome
  | .store _ _ _=>o.dst.isNone
  |_=>false)
def fy(d:Option Tmp)(o:Oper):Bool:=
 match d with
 |some d=>o.op.operands.toList.all fun x=> !Fj x d
 |none=>true
def J9(s l:List Nat):List Nat:=l.foldl (fun s x=>if s.contains x then s else x::s) s
def ev(ops:List Oper):List (List Nat):=
 ops.foldl (fun acc o=>acc++ [(o.after.toList.filter fun e=>Region.binds .any e).foldl (fun s e=>J9 s (e.on::acc.getD e.on [])) []]) []
def Fy(ops:Array Oper)(ah:List (List Nat))(j i:Nat):Bool:=
 match ops[j]?,ops[i]? with
 |some p,some o=>quiet p&&Fi o&&fy o.dst p&&fy p.dst o&&p.dst !=o.dst&&
  (List.range ops.size).all fun k=>Nat.ble k i||(ah.getD k []).contains j
 |_,_=>false
def NM(C:eo)(p:Oper):Bool:=
 p.guard.isNone&&p.dst.isSome&&(match p.op with| .select _ _=>false|_=>true)&& !vS p&&(match mM C p with| .pure=>true|_=>false)
def zs(C:eo)(o:Oper):Bool:=
 o.guard.isNone&&o.dst.isSome&&(match o.op with| .assign _=>true|_=>false)&&(match mM C o with| .other=>true|_=>false)
def Jm(C:eo)(ops:Array Oper)(ah:List (List Nat))(j i:Nat):Bool:=
 match ops[j]?,ops[i]? with
 |some p,some o=>NM C p&&zs C o&&fy o.dst p&&fy p.dst o&&p.dst !=o.dst&&
  (List.range ops.size).all fun k=>Nat.ble k i||(ah.getD k []).contains j||(match ops[k]? with
    |some q=>zs C q&&(ah.getD k []).contains i&&fy o.dst q&&o.dst !=q.dst
    |none=>false)
 |_,_=>false
def uj(C:eo)(ops:Array Oper)(i:Nat):Bool:=
 match ops[i]? with
 |some o=>zs C o&&(List.range i).all fun j=>((ev ops.toList).getD i []).contains j||Jm C ops (ev ops.toList) j i
 |none=>false
def oF(C:eo)(ops:Array Oper)(i:Nat):Bool:=
 rr ops i||uj C ops i||(match ops[i]? with
  |some o=>(match mM C o with
   | .store| .other=>(List.range i).all fun j=>((ev ops.toList).getD i []).contains j||Fy ops (ev ops.toList) j i
   | .pure=>vS o&&((List.range ops.size).all fun k=>Nat.ble k i||((ev ops.toList).getD k []).contains i)&&(List.range i).all fun j=>((ev ops.toList).getD i []).contains j
   |_=>false)
  |none=>false)
def qG(C:eo)(ops:Array Oper):List Nat->St->(St->Option R)->Option R
 |[],st,k=>k st
 |i::r,st,k=>match ops[i]? with
  |some o=>lg C (!oF C ops i) ops o st fun st=>qG C ops r st k
  |none=>qG C ops r st k
def G9(C:eo)(ops:Array Oper):Bool:=
 let ah:=ev ops.toList
 ((List.range ops.size).all fun i=>(ops[i]?).all fun o=>o.after.all fun e=> !Region.binds .any e||decide (e.on<i))&&
 (List.range ops.size).all fun i=>(List.range i).all fun j=>
   (ah.getD i []).contains j||(match ops[j]?,ops[i]? with
     |some a,some b=>oF C ops i||gg C ops a b
     |_,_=>false)
def eQ(C:eo)(o:Oper):Bool:=
 match o.op with
 | .call c=>match c.callee with
   | .value (.func f)=>(match C.ρ f with
     |some c=>c.rw
     |none=>false)
   |_=>false
 |_=>false
def CH(C:eo)(st:St)(o:Oper):List AV:=
 match o.op with
 | .call c=>st.argAVs C.P c.args.toList c.argTypes.toList
 |_=>[]
def Gj(C:eo)(st:St)(o:Oper):List Place:=(CH C st o).flatMap AV.held
def oj(C:eo)(st:St)(o:Oper):List AV:=(CH C st o).map fun a=>a.frozeAll (Gj C st o)
def CV.stable(pl:List Place)(bl:List Nat):CV->Bool
 | .view p _ _ _ _=> !p.inBoxes bl&& !pl.contains p
 | .va p _ _ _ _=> !p.inBoxes bl&& !pl.contains p
 | .own _ _=>pl.isEmpty
 |_=>true
def dw(pl:List Place)(bl:List Nat):Nat->List Ou->Bool
 |_,[]=>true
 |b,x::r=>(bl.contains b||(match x with
  |some (_,cs)=>cs.all fun c=>c.isOwn||c.stable pl bl
  |none=>true))&&dw pl bl (b+1) r
def I6(bl:List Nat):Nat->List Ou->List Ou
 |_,[]=>[]
 |b,x::r=>(match bl.contains b with
  |true=>none
  |false=>x)::I6 bl (b+1) r
def St.hide(bl:List Nat)(st:St):St:=⟨st.slots,I6 bl 0 st.boxes,st.io⟩
def uS(C:eo)(ops:Array Oper)(pl:List Place)(bl:List Nat)(st:St)(p:Oper):Bool:=
 (ov ops p).all (fun t=>(st.get t).all (CV.stable pl bl))&&(match p.dst with
   |some d=>(st.get d).all (CV.stable pl bl)
   |none=>false)&&(lg C true ops p (st.hide bl) some).isSome
def J1(C:eo)(ops:Array Oper)(i:Nat)(o:Oper)(st:St):Bool:=
 let ah:=ev ops.toList
 (Gj C st o).all Place.isSlot&&(match o.dst with
   |some d=> !(st.get d).hasOwn
   |none=>true)&&dw (Gj C st o) (dR (oj C st o)) 0 st.boxes&&
 (List.range ops.size).all fun j=>Nat.beq j i||(ah.getD i []).contains j||(ah.getD j []).contains i||(match ops[j]? with
   |some p=>uS C ops (Gj C st o) (dR (oj C st o)) st p
   |none=>true)
def ue(ops:Array Oper)(i:Nat):Bool:=
 let ah:=ev ops.toList
 (List.range ops.size).all fun j=>Nat.beq j i||(ah.getD i []).contains j||(ah.getD j []).contains i
def qH(C:eo)(ops:Array Oper):List Nat->St->(St->Option R)->Option R
 |[],st,k=>k st
 |i::r,st,k=>match ops[i]? with
  |some o=>(match eQ C o with
   |true=>cond (J1 C ops i o st) (lg C false ops o st fun st=>qH C ops r st k) none
   |false=>lg C (!ue ops i) ops o st fun st=>qH C ops r st k)
  |none=>qH C ops r st k
def R7(C:eo)(ops:Array Oper)(ah:List (List Nat))(rest:List Nat):Option Nat:=
 match rest.find? fun i=>(match ops[i]? with
  |some o=> !eQ C o
  |none=>false)&&(ah.getD i []).all fun j=> !rest.contains j with
 |some i=>some i
 |none=>rest.find? fun i=>(ah.getD i []).all fun j=> !rest.contains j
def Px(C:eo)(ops:Array Oper)(ah:List (List Nat)):Nat->List Nat->List Nat
 |0,_=>[]
 |n+1,rest=>match R7 C ops ah rest with
  |some i=>i::Px C ops ah n (rest.filter fun j=> !Nat.beq j i)
  |none=>[]
def rQ(C:eo)(ops:Array Oper)(p:Oper):Bool:=
 p.guard.isNone&&(match mM C p with| .pure=>true|_=>false)&&(match p.dst with
  |some d=> !(ov ops p).contains d
  |none=>false)
def GZ(ops:Array Oper)(p o:Oper):Bool:=
 match o.dst with
 |some d=> !(ov ops p).contains d&&p.dst !=some d
 |none=>true
def Jj(C:eo)(ops:Array Oper)(ah:List (List Nat))(a b:Nat):Bool:=
 !(ah.getD a []).contains b&&(match ops[a]?,ops[b]? with
   |some p,some o=>GZ ops p o&&((ah.getD b []).contains a||gg C ops p o||(eQ C o&&o.guard.isNone&&rQ C ops p&&apart ops p o))
   |_,_=>false)
def Ku(C:eo)(ops:Array Oper)(ah:List (List Nat)):List Nat->Bool
 |[]=>true
 |a::r=>(r.all fun b=>Jj C ops ah a b)&&Ku C ops ah r
def xM(C:eo)(ops:Array Oper)(ord:List Nat):Bool:=
 ((List.range ops.size).all fun i=>(ops[i]?).all fun o=>o.after.all fun e=> !Region.binds .any e||decide (e.on<i))&&
 ((List.range ops.size).all fun i=>ord.contains i)&&iJ ord&&(ord.all fun i=>decide (i<ops.size))&&Ku C ops (ev ops.toList) ord
def Ql(C:eo)(ops:Array Oper):List Nat:=Px C ops (ev ops.toList) ops.size (List.range ops.size)
noncomputable def vt(C:eo)(d:zc)(h:iG R)(fuel:Nat)(c:Code):St->(Ex->St->Option R)->Option R:=
 Code.rec (motive:=fun _=>St->(Ex->St->Option R)->Option R)
  (fun st k=>k .normal st)
  (fun _ ops draw st k=>match draw with
    |false=>Kz C false ops ops.toList st (k .normal)
    |true=>match G9 C ops with
     |true=>qG C ops (List.range ops.size) st (k .normal)
     |false=>match xM C ops (Ql C ops)with
      |true=>qH C ops (Ql C ops) st (k .normal)
      |false=>none)
  (fun _ y a b st k=>a st fun e st=>match e with
    | .normal=>(match h.sum (sF y)with
      |some s=>s (st.live (h.loop (sF y)).s (h.loop (sF y)).b) (fun e x=>k e (d.back (h.loop (sF y)).s' (h.loop (sF y)).b' x))
      |none=>b st k)
    |e=>k e st)
  (fun c _ _ a b st k=>st.test c fun t st=>match t with
    |true=>a st k
    |false=>b st k)
  (fun id _ a st k=>a st fun e st=>match e with
    | .exit j=>if j=id then k .normal st else k (.exit j) st
    |e=>k e st)
  (fun body a st k=>
    let lh:=h.loop (key body)
    let k':Ex->kf->Option R:=fun e x=>k e (d.back lh.s' lh.b' x)
    match h.sum (key body)with
    |some s=>s (st.live lh.s lh.b) k'
    |none=>eg d lh a fuel (st.live lh.s lh.b) k')
  (fun _ _ _ _ _ _ _ _=>none)
  (fun id st k=>k (.exit id) st)
  (fun _ _ _ _=>none)
  (fun _ st k=>k .normal st)
  (fun _ _ _=>none)
  (fun st k=>k .ret st)
  (fun _ _ _=>none) c
def oH(n:Nat):CV->CV
 | .ptr b o=>.ptr (n+b) o
 | .fn f caps=>.fn f (caps.map fun c=>(n+c.1,c.2))
 |c=>c
def Kc(p:Nat->Place):Nat->List CV->List CV
 |_,[]=>[]
 |i, .own t l::r=>.view (p i) true 0 t l::Kc p (i+1) r
 |i,c::r=>c::Kc p i r
def kR:List CV->List CV
 |[]=>[]
 | .own t l::r=>.own t l::kR r
 |_::r=>kR r
def fJ:List Bool->Nat->List Val->List Val×List CV
 |_,_,[]=>([],[])
 |io,j,x::r=>match io.headD false with
  |true=>(⟨x.agg,Kc .arg j x.cs⟩::(fJ io.tail (j+(kR x.cs).length) r).1,kR x.cs++(fJ io.tail (j+(kR x.cs).length) r).2)
  |false=>(x::(fJ io.tail j r).1,(fJ io.tail j r).2)
def Ka:List Bool->List Val->Bool
 |_,[]=>true
 |io,x::r=>(match io.headD false with
  |true=>x.cs.all fun c=>c.isOwn||c.isPlain
  |false=>true)&&Ka io.tail r
def uB(f:Func)(io:List Bool)(bs:List (List CV))(vs:List Val):St:=
 ⟨(fJ io 0 vs).1.map (fun x=>.one (x.map (oH f.ntmps)))++List.replicate (f.ntmps-vs.length) .undef,
  List.replicate f.ntmps none++bs.map fun b=>some (true,b),(fJ io 0 vs).2⟩
def PE(C:eo)(st:St):ResultVar->Option AV
 | .tmp i=>some (st.opd (.tmp i))
 | .cell a T=>ze C st T (st.opd (.tmp a)) some
def CV.resC(c:CV):CV:=
 match c.isFlatN with
 |true=>c
 |false=>.undef
def CV.resC0(c:CV):CV:=
 match c.isFlat with
 |true=>c
 |false=>.undef
def St.dropBox(st:St)(b:Nat):St:=
 (⟨st.slots.length,st.boxes.length⟩:zc).back (List.range st.slots.length) ((List.range st.boxes.length).filter (· !=b))
   (st.live (List.range st.slots.length) ((List.range st.boxes.length).filter (· !=b)))
def Kw(n:Nat)(st:St):Val->Option (List CV×St)
 |⟨false,[.ptr b 0]⟩=>match decide (b<n),st.boxes[b]? with
  |true,some (some (false,cs))=>some ((dF [] (je (.cell b) 0 cs) st).1.map CV.resC0,(dF [] (je (.cell b) 0 cs) st).2.dropBox b)
  |_,_=>none
 |_=>none
def qf(C:eo)(n:Nat):List ResultVar->St->Option (List Val×St)
 |[],st=>some ([],st)
 |rv::r,st=>match PE C st rv with
  |some (.one x)=>match Kw n st x with
   |some (cs,st)=>match qf C n r st with
    |some (l,st')=>some (⟨false,[.np cs]⟩::l,st')
    |none=>none
   |none=>match qf C n r (dF [] x.cs st).2 with
    |some (l,st')=>some (⟨x.agg,(dF [] x.cs st).1.map CV.resC⟩::l,st')
    |none=>none
  |_=>none
def MR(l:List Val):AV:=match l with|[x]=>.one x|l=>.tup l
def finish(C:eo)(f:Func)(st:St)(k:AV->List CV->Option R):Option R:=
 match qf C f.ntmps f.results.toList st with
 |some (l,st)=>k (MR l) (dF [] (je .arg 0 st.io) st).1
 |none=>none
def Qs:List Nat->St->Option (List (List CV))
 |[],_=>some []
 |b::r,st=>match st.boxes[b]? with
  |some (some (false,cs))=>(Qs r (dF [] (je (.cell b) 0 cs) st).2).map ((dF [] (je (.cell b) 0 cs) st).1.map CV.resC0::·)
  |_=>none
def gT(n:Nat):Nat->List Nat
 |0=>[]
 |k+1=>n::gT (n+1) k
def CZ(C:eo)(f:Func)(nb:Nat)(st:St)(k:AV->List (List CV)->Option R):Option R:=
 match qf C f.ntmps f.results.toList st with
 |some (l,st)=>match Qs (gT f.ntmps nb) st with
  |some css=>k (MR l) css
  |none=>none
 |none=>none
def Au(f:Func)(bs:List (List CV))(vs:List Val):St:=
 ⟨vs.map (fun x=>.one (x.map (oH f.ntmps)))++List.replicate (f.ntmps-vs.length) .undef,
  List.replicate f.ntmps none++bs.map fun b=>some (false,b),[]⟩
noncomputable def PI(C:eo)(h:iG R)(fuel:Nat)(f:Func)(bs:List (List CV))(vs:List Val)(k:AV->List (List CV)->Option R):Option R:=
 match f.body with
 |some c=>if vs.length<=f.ntmps then vt C ⟨f.ntmps,f.ntmps+bs.length⟩ h fuel c (Au f bs vs) fun e st=>match e with
  | .normal=>CZ C f bs.length st k
  | .ret=>CZ C f bs.length st k
  | .exit _=>none else none
 |none=>none
noncomputable def Lu(C:eo)(h:iG R)(fuel:Nat)(f:Func)(io:List Bool)(bs:List (List CV))(vs:List Val)(k:AV->List CV->Option R):Option R:=
 match f.body with
 |some c=>if vs.length<=f.ntmps&&Ka io vs then vt C ⟨f.ntmps,f.ntmps+bs.length⟩ h fuel c (uB f io bs vs) fun e st=>match e with
  | .normal=>finish C f st k
  | .ret=>finish C f st k
  | .exit _=>none else none
 |none=>none
end
end Go.Vai
