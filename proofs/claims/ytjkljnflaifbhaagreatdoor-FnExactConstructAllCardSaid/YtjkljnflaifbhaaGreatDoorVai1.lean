/- No conditions. -/
import Derived.Calls
import Derived.LoopN
import Derived.Orders
import Derived.Below
namespace Go.Vai
open Go
inductive Ty where
 |int (k:IntKind)|bool|str|unit|pair (a b:Ty)|slice (t:Ty)
 deriving DecidableEq
@[reducible] def Ty.T:Ty->Type
 | .int _=>Int
 | .bool=>Bool
 | .str=>ByteArray
 | .unit=>Unit
 | .pair a b=>a.T×b.T
 | .slice t=>List t.T
def Ty.size:Ty->Nat
 | .unit=>0
 | .pair a b=>a.size+b.size
 |_=>1
inductive Place where
 |slot (i k j:Nat)
 |cell (b j:Nat)
 |arg (j:Nat)
 deriving DecidableEq
inductive CV where
 |undef
 |v (x:Value)
 |emp
 |sl (t:Ty) (l:List t.T)
 |own (t:Ty) (l:List t.T)
 |view (p:Place) (full:Bool) (lo:Nat) (t:Ty) (l:List t.T)
 |ptr (b o:Nat)
 |gp (g o:Nat)
 |ea (t:Ty) (x:t.T) (o:Nat)
 |va (p:Place) (i:Nat) (t:Ty) (x:t.T) (o:Nat)
 |fn (f:FuncId) (caps:List (Nat×Nat))
 |lb (n:Nat)
 |np (cs:List CV)
structure Val where
 agg:Bool
 cs:List CV
inductive AV where
 |one (x:Val)
 |tup (l:List Val)
abbrev AV.c(x:CV):AV:=.one ⟨false,[x]⟩
abbrev AV.undef:AV:=.one ⟨false,[.undef]⟩
structure St where
 slots:List AV
 boxes:List (Option (Bool×List CV))
 io:List CV
def Ty.cells:(t:Ty)->t.T->List CV
 | .int k,n=>[.v (.int k n)]
 | .bool,b=>[.v (.bool b)]
 | .str,s=>[.v (.string s)]
 | .unit,_=>[]
 | .pair a b,x=>a.cells x.1++b.cells x.2
 | .slice t,l=>[.sl t l]
def ael(k:IntKind):List CV->Option Int
 |[.v (.int k' n)]=>if k=k' then some n else none
 |_=>none
def acO:List CV->Option Bool
 |[.v (.bool b)]=>some b
 |_=>none
def aem:List CV->Option ByteArray
 |[.v (.string s)]=>some s
 |_=>none
def acP:List CV->Option Unit
 |[]=>some ()
 |_=>none
def afI(t:Ty):List CV->Option (List t.T)
 |[.sl t' l]=>if h:t'=t then some (h▸l)else none
 |[.emp]=>some []
 |_=>none
def Ty.ofCells:(t:Ty)->List CV->Option t.T
 | .int k,cs=>ael k cs
 | .bool,cs=>acO cs
 | .str,cs=>aem cs
 | .unit,cs=>acP cs
 | .pair a b,cs=>(a.ofCells (cs.take a.size)).bind fun x=>(b.ofCells (cs.drop a.size)).map fun y=>(x,y)
 | .slice t,cs=>afI t cs
def Ty.zero:(t:Ty)->t.T
 | .int _=>(0:Int)
 | .bool=>false
 | .str=>(⟨#[]⟩:ByteArray)
 | .unit=>()
 | .pair a b=>(a.zero,b.zero)
 | .slice _=>[]
def Ty.fresh:Ty->List CV
 | .int k=>[.v (.int k 0)]
 | .bool=>[.v (.bool false)]
 | .str=>[.v (.string ⟨#[]⟩)]
 | .unit=>[]
 | .pair a b=>a.fresh++b.fresh
 | .slice t=>[.own t []]
def Ty.freshOk:Ty->List Value->Bool
 | .int k,[.int k' n]=>decide (k=k')&&decide (n=0)
 | .bool,[.bool b]=> !b
 | .str,[.string s]=>decide (s.size=0)
 | .unit,[]=>true
 | .pair a b,vs=>a.freshOk (vs.take a.size)&&b.freshOk (vs.drop a.size)
 | .slice _,[.slice none n c]=>decide (n=0)&&decide (c=0)
 |_,_=>false
def Zt(f:TypeId->Option Ty):List Field->Option Ty
 |[]=>some .unit
 |[x]=>f x.type
 |x::r=>(f x.type).bind fun a=>(Zt f r).map fun b=>.pair a b
def afm(P:Program):Nat->TypeId->Option Ty
 |0,_=>none
 |d+1,t=>match P.underlying t with
  |some (.int k)=>some (.int k)
  |some .bool=>some .bool
  |some .string=>some .str
  |some (.slice e)=>(afm P d e).map .slice
  |some (.struct fs)=>Zt (afm P d) fs.toList
  |_=>none
def Zs(P:Program)(t:TypeId):Option Ty:=
 (afm P 8 t).bind fun y=>match P.info? t with
   |some i=>match i.zero with
    |some z=>if i.size=y.size then(if y.freshOk z.cells.toList then some y else none)else none
    |none=>none
   |none=>none
def si(P:Program)(t:TypeId):Option Bool:=
 (P.underlying t).map fun
   | .struct _| .array _ _=>true
   |_=>false
def sK(P:Program)(t:TypeId):Option Nat:=(P.info? t).map (·.size)
def E6(P:Program)(t:TypeId):Option Nat:=(P.info? t).map (·.bytes)
def adI(p:Place):CV->CV
 | .own t l=>.view p true 0 t l
 | .np _=>.undef
 |c=>c
def pP(p:Nat->Place):Nat->List CV->List CV
 |_,[]=>[]
 |i,c::r=>adI (p i) c::pP p (i+1) r
def Uy(i:Nat):Nat->List Val->List Val
 |_,[]=>[]
 |k,x::r=>⟨x.agg,pP (.slot i k) 0 x.cs⟩::Uy i (k+1) r
def Ix(i:Nat):AV->AV
 | .one x=>.one ⟨x.agg,pP (.slot i 0) 0 x.cs⟩
 | .tup l=>.tup (Uy i 0 l)
def St.get(st:St)(i:Nat):AV:=st.slots.getD i .undef
def TA:Value->AV
 | .agg cs=>.one ⟨true,cs.toList.map .v⟩
 |x=>.c (.v x)
def St.opd(st:St):Operand->AV
 | .tmp i=>Ix i (st.get i)
 | .const x=>TA x
 | .global g=>.c (.gp g 0)
 | .func f=>.c (.fn f [])
def CV.isOwn:CV->Bool
 | .own _ _=>true
 |_=>false
def Val.hasOwn(x:Val):Bool:=x.cs.any CV.isOwn
def AV.hasOwn:AV->Bool
 | .one x=>x.hasOwn
 | .tup l=>l.any Val.hasOwn
def Val.map(f:CV->CV)(x:Val):Val:=⟨x.agg,x.cs.map f⟩
def AV.map(f:CV->CV):AV->AV
 | .one x=>.one (x.map f)
 | .tup l=>.tup (l.map (Val.map f))
def St.map(f:CV->CV)(st:St):St:=
 ⟨st.slots.map (AV.map f),st.boxes.map (Option.map fun x=>(x.1,x.2.map f)),st.io.map f⟩
def wq(p:Nat->Place)(f:Place->CV->CV):Nat->List CV->List CV
 |_,[]=>[]
 |i,c::r=>f (p i) c::wq p f (i+1) r
def Val.mapP(p:Nat->Place)(f:Place->CV->CV)(x:Val):Val:=⟨x.agg,wq p f 0 x.cs⟩
def zq(i:Nat)(f:Place->CV->CV):Nat->List Val->List Val
 |_,[]=>[]
 |k,x::r=>x.mapP (.slot i k) f::zq i f (k+1) r
def AV.mapP(i:Nat)(f:Place->CV->CV):AV->AV
 | .one x=>.one (x.mapP (.slot i 0) f)
 | .tup l=>.tup (zq i f 0 l)
def zp(f:Place->CV->CV):Nat->List AV->List AV
 |_,[]=>[]
 |i,a::r=>a.mapP i f::zp f (i+1) r
def pk(f:Place->CV->CV):Nat->List (Option (Bool×List CV))->List (Option (Bool×List CV))
 |_,[]=>[]
 |b,none::r=>none::pk f (b+1) r
 |b,some (ro,cs)::r=>some (ro,wq (.cell b) f 0 cs)::pk f (b+1) r
def St.mapP(f:Place->CV->CV)(st:St):St:=⟨zp f 0 st.slots,pk f 0 st.boxes,wq .arg f 0 st.io⟩
def CV.unlend(bad:Place->Bool):CV->CV
 | .view p f lo t l=>if bad p then .undef else .view p f lo t l
 | .va p i t x o=>if bad p then .undef else .va p i t x o
 |c=>c
def Place.inSlot(d:Nat):Place->Bool
 | .slot i _ _=>i==d
 |_=>false
def St.set(st:St)(d:Nat)(a:AV):St:=⟨st.slots.set d a,st.boxes,st.io⟩
def St.giveUpAll(st:St)(bad:Place->Bool):St:=
 st.mapP fun q c=>match bad q with
  |true=>.undef
  |false=>c.unlend bad
def AV.all(f:CV->Bool):AV->Bool
 | .one x=>x.cs.all f
 | .tup l=>l.all fun x=>x.cs.all f
def CV.avoids(d:Nat):CV->Bool
 | .view p _ _ _ _=> !p.inSlot d
 | .va p _ _ _ _=> !p.inSlot d
 |_=>true
def St.put(strict:Bool)(st:St)(d:Nat)(a:AV){R:Type}(k:St->Option R):Option R:=
 match(st.get d).hasOwn with
 |false=>k (st.set d a)
 |true=>match strict with
  |true=>none
  |false=>if a.all (CV.avoids d)then k ((st.giveUpAll (Place.inSlot d)).set d a)else none
structure af where
 io:List Bool
 β:Type
 G:List (List CV)->List Val->Option β
 enc:β->AV×List CV
 rw:Bool:=false
 encB:β->List (List CV):=fun _=>[]
 alt:{R:Type}->β->(β->Option R)->Option R:=fun x k=>k x
 altOk:∀{R:Type} (x:β) (k:β->Option R),alt x k=k x:=by intros;rfl
structure gY where
 P:Program
 ρ:FuncId->Option af
 glob:Nat->Option (List CV)
 opt:Bool:=false
def gq{α:Type}(l:List α)(i:Int):Option α:=if 0<=i then l[i.toNat]? else none
def B3(s:ByteArray)(i:Int):Option UInt8:=if 0<=i then s[i.toNat]? else none
def St.opdT(P:Program)(T:TypeId)(st:St):Operand->AV
 | .const x=>match Zs P T with
   |some y=>if y.freshOk x.cells.toList then .one ⟨(match x with| .agg _=>true|_=>false),y.fresh⟩else TA x
   |none=>TA x
 |x=>st.opd x
def St.eqOpd(P:Program)(T:TypeId)(st:St):Operand->AV
 | .const (.slice none n c)=>.c (.v (.slice none n c))
 |x=>st.opdT P T x
def St.argAVs(st:St)(P:Program):List Operand->List TypeId->List AV
 |[],_=>[]
 |x::r,T::ts=>st.opdT P T x::st.argAVs P r ts
 |x::r,[]=>st.opd x::st.argAVs P r []
def Ol:AV->Option (IntKind×Int)
 | .one ⟨false,[.v (.int k n)]⟩=>some (k,n)
 |_=>none
section
variable {R:Type}
def Wc(c x y:AV)(k:AV->Option R):Option R:=
 match c with
 | .one ⟨false,[.v (.bool c)]⟩=>match x,y with
   | .one ⟨false,[.v (.bool x)]⟩, .one ⟨false,[.v (.bool y)]⟩=>k (.c (.v (.bool (cond c x y))))
   |x,y=>cond c (k x) (k y)
 |_=>none
def C5(C:gY)(st:St):CV->Option (Nat×List CV)
 | .ptr b o=>match st.boxes.getD b none with
   |some (_,cs)=>some (o,pP (.cell b) 0 cs)
   |none=>none
 | .gp g o=>match C.glob g with
   |some cs=>some (o,cs)
   |none=>none
 | .ea t x o=>some (o,t.cells x)
 | .va _ _ t x o=>some (o,t.cells x)
 |_=>none
def JL(C:gY)(st:St)(T:TypeId)(a:AV)(k:AV->Option R):Option R:=
 match a with
 | .one ⟨false,[a]⟩=>match C5 C st a with
   |some (o,cs)=>match si C.P T with
    |some true=>match sK C.P T with
     |some n=>if((cs.drop o).take n).length=n then k (.one ⟨true,(cs.drop o).take n⟩)else none
     |none=>none
    |some false=>match cs[o]? with
     |some c=>k (.c c)
     |none=>none
    |none=>none
   |none=>none
 |_=>none
def aa9(a:AV)(k:AV->Option R):Option R:=
 match a with
 | .one ⟨false,[.ptr b o]⟩=>k (.c (.ptr b o))
 | .one ⟨false,[.gp b o]⟩=>k (.c (.gp b o))
 | .one ⟨false,[.ea t x o]⟩=>k (.c (.ea t x o))
 | .one ⟨false,[.va p i t x o]⟩=>k (.c (.va p i t x o))
 |_=>none
def Yg(op:BinOp)(κ:IntKind)(a b:Int)(k:AV->Option R):Option R:=
 match op with
 | .add=>k (.c (.v (.int κ (κ.wrap (a+b)))))
 | .sub=>k (.c (.v (.int κ (κ.wrap (a-b)))))
 | .mul=>k (.c (.v (.int κ (κ.wrap (a*b)))))
 | .quo=>cond (decide (b=0)) none (k (.c (.v (.int κ (κ.wrap (a.tdiv b))))))
 | .rem=>cond (decide (b=0)) none (k (.c (.v (.int κ (a.tmod b)))))
 | .and=>k (.c (.v (.int κ (κ.wrap (BitVec.ofInt κ.bits a&&&BitVec.ofInt κ.bits b).toNat))))
 | .or=>k (.c (.v (.int κ (κ.wrap (BitVec.ofInt κ.bits a|||BitVec.ofInt κ.bits b).toNat))))
 | .xor=>k (.c (.v (.int κ (κ.wrap (BitVec.ofInt κ.bits a^^^BitVec.ofInt κ.bits b).toNat))))
 | .andNot=>k (.c (.v (.int κ (κ.wrap (BitVec.ofInt κ.bits a&&&~~~(BitVec.ofInt κ.bits b)).toNat))))
 | .eql=>k (.c (.v (.bool (a==b))))
 | .neq=>k (.c (.v (.bool (a !=b))))
 | .lss=>k (.c (.v (.bool (decide (a<b)))))
 | .leq=>k (.c (.v (.bool (decide (a<=b)))))
 | .gtr=>k (.c (.v (.bool (decide (a>b)))))
 | .geq=>k (.c (.v (.bool (decide (a>=b)))))
 |_=>none
def MX(op:BinOp)(κ:IntKind)(a b:Int)(k:AV->Option R):Option R:=
 match op with
 | .shl=>cond (decide (b<0)) none (k (.c (.v (.int κ (κ.wrap (a*2^(min b.toNat κ.bits)))))))
 | .shr=>cond (decide (b<0)) none (k (.c (.v (.int κ (a.fdiv (2^(min b.toNat κ.bits)))))))
 |_=>none
def ZP(op:BinOp)(a b:ByteArray)(k:AV->Option R):Option R:=
 match op with
 | .add=>cond (decide (((a.size+b.size:Nat):Int)>IntKind.i64.max)) none (k (.c (.v (.string (a++b)))))
 | .eql=>k (.c (.v (.bool (a.toList==b.toList))))
 | .neq=>k (.c (.v (.bool (!(a.toList==b.toList)))))
 | .lss=>k (.c (.v (.bool (Op.bytesLess a.toList b.toList))))
 | .leq=>k (.c (.v (.bool (Op.bytesLess a.toList b.toList||a.toList==b.toList))))
 | .gtr=>k (.c (.v (.bool (!(Op.bytesLess a.toList b.toList||a.toList==b.toList)))))
 | .geq=>k (.c (.v (.bool (!(Op.bytesLess a.toList b.toList)))))
 |_=>none
def JV(f:TypeId->List CV->List CV->Option Bool)(P:Program)(as bs:List CV):List Field->Option Bool
 |[]=>some true
 |x::r=>match sK P x.type,si P x.type,x.name== "_" with
  |some n,some a,false=>
   if(a||n==1)&&(((as.drop x.offset).take n).length==n&&((bs.drop x.offset).take n).length==n)then(match f x.type ((as.drop x.offset).take n) ((bs.drop x.offset).take n),JV f P as bs r with
    |some p,some q=>some (p&&q)
    |_,_=>none)else none
  |_,_,_=>none
def eqT(P:Program):Nat->TypeId->List CV->List CV->Option Bool
 |0,_,_,_=>none
 |d+1,T,as,bs=>match P.underlying T with
  |some (.int _)=>match as,bs with
   |[.v (.int k a)],[.v (.int k' b)]=>if k=k' then some (a==b)else none
   |_,_=>none
  |some .bool=>match as,bs with
   |[.v (.bool a)],[.v (.bool b)]=>some (a==b)
   |_,_=>none
  |some .string=>match as,bs with
   |[.v (.string a)],[.v (.string b)]=>some (a==b)
   |_,_=>none
  |some (.struct fs)=>match P.stoodInHeld T with
   |false=>JV (eqT P d) P as bs fs.toList
   |true=>none
  |_=>none
def Ie(P:Program)(op:BinOp)(T:TypeId)(n:Nat)(k:AV->Option R):Option R:=
 match P.underlying T,op with
 |some (.slice _), .eql=>cond (decide (0<n)) (k (.c (.v (.bool false)))) none
 |some (.slice _), .neq=>cond (decide (0<n)) (k (.c (.v (.bool true)))) none
 |_,_=>none
def VJ(P:Program)(op:BinOp)(T:TypeId)(x y:AV)(k:AV->Option R):Option R:=
 match x,y with
 | .one ⟨false,[.v (.int κ a)]⟩, .one ⟨false,[.v (.int κ' b)]⟩=>
   match op with
   | .shl=>MX .shl κ a b k
   | .shr=>MX .shr κ a b k
   |op=>if κ=κ' then Yg op κ a b k else none
 | .one ⟨false,[.v (.int κ a)]⟩, .one ⟨false,[.lb n]⟩=>
   match op with
   | .gtr=>if κ= .i64 then cond (decide (a<=n)) (k (.c (.v (.bool false)))) none else none
   |_=>none
 | .one ⟨false,[.v (.string a)]⟩, .one ⟨false,[.v (.string b)]⟩=>ZP op a b k
 | .one ⟨false,[.v (.bool a)]⟩, .one ⟨false,[.v (.bool b)]⟩=>
   match si P T,P.underlying T,op with
   |some false,some .bool, .eql=>k (.c (.v (.bool (a==b))))
   |some false,some .bool, .neq=>k (.c (.v (.bool (!(a==b)))))
   |_,_,_=>none
 | .one ⟨true,as⟩, .one ⟨true,bs⟩=>
   match si P T,P.eqGuardType P.depth T,eqT P 8 T as bs with
   |some true,false,some r=>match op with
    | .eql=>k (.c (.v (.bool r)))
    | .neq=>k (.c (.v (.bool (!r))))
    |_=>none
   |_,_,_=>none
 | .one ⟨false,[.sl _ l]⟩, .one ⟨false,[.v (.slice none _ _)]⟩=>Ie P op T l.length k
 | .one ⟨false,[.view _ _ _ _ l]⟩, .one ⟨false,[.v (.slice none _ _)]⟩=>Ie P op T l.length k
 | .one ⟨false,[.v (.slice A _ _)]⟩, .one ⟨false,[.v (.slice none _ _)]⟩=>
   match P.underlying T,op with
   |some (.slice _), .eql=>k (.c (.v (.bool A.isNone)))
   |some (.slice _), .neq=>k (.c (.v (.bool (!A.isNone))))
   |_,_=>none
 |_,_=>none
def aUn(op:UnOp)(x:AV)(k:AV->Option R):Option R:=
 match op,x with
 | .not, .one ⟨false,[.v (.bool b)]⟩=>k (.c (.v (.bool (!b))))
 | .neg, .one ⟨false,[.v (.int κ n)]⟩=>k (.c (.v (.int κ (κ.wrap (0-n)))))
 |_,_=>none
def Ua:AV->Option (List Int)
 | .one ⟨false,[.sl (.int .u8) l]⟩=>some l
 | .one ⟨false,[.view _ _ _ (.int .u8) l]⟩=>some l
 | .one ⟨false,[.emp]⟩=>some []
 |_=>none
def VB(l:List Int):ByteArray:=l.foldl (fun r n=>r.push (UInt8.ofNat n.toNat)) ByteArray.empty
def V9(P:Program)(s d:TypeId)(x:AV)(k:AV->Option R):Option R:=
 match P.underlying s,P.underlying d,x with
 |some (.int _),some (.int κ), .one ⟨false,[.v (.int _ n)]⟩=>k (.c (.v (.int κ (κ.wrap n))))
 |some .string,some .string, .one ⟨false,[.v (.string s)]⟩=>k (.c (.v (.string s)))
 |some (.slice e),some .string,x=>match P.underlying e,Ua x with
  |some (.int .u8),some l=>k (.c (.v (.string (VB l))))
  |_,_=>none
 |_,_,_=>none
def Io(P:Program)(T:TypeId)(f:Nat):Option (Nat×Nat×Bool):=
 match P.underlying T with
 |some (.struct fs)=>match fs[f]? with
  |some x=>match sK P x.type,si P x.type with
   |some n,some b=>some (x.offset,n,b)
   |_,_=>none
  |none=>none
 |_=>none
def Aj(P:Program)(T:TypeId)(x:AV)(f:Nat)(k:AV->Option R):Option R:=
 match Io P T f with
 |some (off,n,_)=>if n=0 then none else match x with
  | .one ⟨false,[.ptr b o]⟩=>k (.c (.ptr b (o+off)))
  | .one ⟨false,[.gp b o]⟩=>k (.c (.gp b (o+off)))
  | .one ⟨false,[.ea t x o]⟩=>k (.c (.ea t x (o+off)))
  | .one ⟨false,[.va p i t x o]⟩=>k (.c (.va p i t x (o+off)))
  |_=>none
 |none=>none
def Qd(P:Program)(T:TypeId)(x:AV)(f:Nat)(k:AV->Option R):Option R:=
 match Io P T f,x with
 |some (off,n,true), .one ⟨true,cs⟩=>if((cs.drop off).take n).length=n then k (.one ⟨true,(cs.drop off).take n⟩)else none
 |some (off,_,false), .one ⟨true,cs⟩=>match cs[off]? with
  |some c=>k (.c c)
  |none=>none
 |_,_=>none
def B2(P:Program)(T:TypeId):Option (TypeId×Ty):=
 match P.underlying T with
 |some (.slice e)=>(Zs P e).map fun y=>(e,y)
 |_=>none
def Q5(i:Int)(k:Nat->Option R):Nat->Nat->Option R
 |0,_=>none
 |m+1,j=>cond (decide (i=(j:Int))) (k j) (Q5 i k m (j+1))
def xO(P:Program)(T:TypeId)(x i:AV)(k:AV->Option R):Option R:=
 match Ol i with
 |some (_,i)=>match x with
  | .one ⟨false,[.sl t l]⟩=>match B2 P T with
    |some (_,t')=>if t'.size=t.size then(gq l i).bind fun y=>k (.c (.ea t y 0))else none
    |none=>none
  | .one ⟨false,[.view p _ lo t l]⟩=>match B2 P T with
    |some (_,t')=>if t'.size=t.size then(gq l i).bind fun y=>k (.c (.va p (lo+i.toNat) t y 0))else none
    |none=>none
  | .one ⟨false,[.gp g o]⟩=>match P.underlying T with
    |some (.array n e)=>match sK P e with
     |some z=>if n<=64 then Q5 i (fun j=>k (.c (.gp g (o+j*z)))) n 0 else none
     |none=>none
    |_=>none
  |_=>none
 |none=>none
def rowsOf(t:Ty):Nat->List CV->Option (List t.T)
 |0,[]=>some []
 |0,_::_=>none
 |n+1,cs=>match t.ofCells (cs.take t.size),rowsOf t n (cs.drop t.size)with
  |some x,some l=>some (x::l)
  |_,_=>none
def Ll(C:gY)(T:TypeId)(x i:AV)(k:AV->Option R):Option R:=
 match x,C.P.underlying T with
 | .one ⟨false,[.gp g 0]⟩,some (.array n e)=>match decide (n<=8)with
   |true=>xO C.P T x i k
   |false=>match Ol i,Zs C.P e,C.glob g with
    |some (_,i),some t,some cs=>match rowsOf t n cs with
     |some l=>(gq l i).bind fun y=>k (.c (.ea t y 0))
     |none=>none
    |_,_,_=>none
 |_,_=>xO C.P T x i k
def Qe(P:Program)(T:TypeId)(x i:AV)(k:AV->Option R):Option R:=
 match P.underlying T,x,Ol i with
 |some .string, .one ⟨false,[.v (.string s)]⟩,some (_,i)=>(B3 s i).bind fun b=>k (.c (.v (.int .u8 b.toNat)))
 |_,_,_=>none
def cutAt(n:Nat)(lo hi:Option AV)(k:Nat->Nat->Option R):Option R:=
 match lo,hi with
 |none,none=>k 0 n
 |some lo,none=>match Ol lo with
  |some (_,lo)=>cond (decide (0<=lo)) (cond (decide (lo<=n)) (k lo.toNat n) none) none
  |none=>none
 |none,some hi=>match Ol hi with
  |some (_,hi)=>cond (decide (0<=hi)) (cond (decide (hi<=n)) (k 0 hi.toNat) none) none
  |none=>none
 |some lo,some hi=>match Ol lo,Ol hi with
  |some (_,lo),some (_,hi)=>cond (decide (0<=lo)) (cond (decide (lo<=hi)) (cond (decide (hi<=n)) (k lo.toNat hi.toNat) none) none) none
  |_,_=>none
def Qm(n:Nat)(lo hi mx:AV)(k:Option R):Option R:=
 match Ol lo,Ol hi,Ol mx with
 |some (_,lo),some (_,hi),some (_,mx)=>cond (decide (0<=lo)) (cond (decide (lo<=hi)) (cond (decide (hi<=mx)) (cond (decide (mx<=n)) k none) none) none) none
 |_,_,_=>none
def isZero:AV->Bool
 | .one ⟨false,[.v (.int _ 0)]⟩=>true
 |_=>false
def Qf(P:Program)(em:Bool)(T:TypeId)(x:AV)(lo hi mx:Option AV)(k:AV->Option R):Option R:=
 match P.underlying T,x with
 |some .string, .one ⟨false,[.v (.string s)]⟩=>match mx with
  |none=>cutAt s.size lo hi fun l h=>k (.c (.v (.string (s.extract l h))))
  |some _=>none
 |some (.slice e), .one ⟨false,[x]⟩=>match Zs P e with
  |none=>none
  |some t'=>match mx with
   |some m=>match lo,hi with
    |none,some h=>if isZero h&&isZero m then(match x with
      | .sl _ _=>k (.c .emp)
      | .view _ _ _ _ _=>k (.c .emp)
      | .emp=>k (.c .emp)
      |_=>none)else none
    |some lo,some h=>(match x with
     | .view _ _ _ t l=>if t'.size=t.size then Qm l.length lo h m (k AV.undef)else none
     |_=>none)
    |_,_=>none
   |none=>match x with
    | .sl t l=>if t'.size=t.size then cutAt l.length lo hi fun a b=>k (.c (.sl t ((l.take b).drop a)))else none
    | .view p f o t l=>if t'.size=t.size then(match f with
      |true=>cond (decide (0<l.length)) (cutAt l.length lo hi fun a b=>k (.c (.view p false (o+a) t ((l.take b).drop a)))) (match em with
       |true=>cutAt 0 lo hi fun _ _=>k (.c (.sl t []))
       |false=>none)
      |false=>cutAt l.length lo hi fun a b=>k (.c (.view p false (o+a) t ((l.take b).drop a))))else none
    |_=>none
 |_,_=>none
def CV.solid:CV->Bool
 | .undef=>false
 | .np _=>false
 | .v (.agg _)=>false
 | .v (.tuple _)=>false
 |_=>true
def Cg(cs:List CV)(o:Nat)(new:List CV):List CV:=cs.take o++new++cs.drop (o+new.length)
def Dq(P:Program)(T:TypeId):List CV->List (Nat×AV)->Option (List CV)
 |cs,[]=>some cs
 |cs,(i, .one x)::r=>match Io P T i with
  |some (off,n,_)=>if x.cs.length=n then(if off+n<=cs.length then(if x.agg||x.cs.all CV.solid then Dq P T (Cg cs off x.cs) r else none)else none)else none
  |none=>none
 |_,_=>none
def Qc(P:Program)(T:TypeId)(parts:List (Nat×AV))(k:AV->Option R):Option R:=
 match si P T,P.underlying T,Zs P T with
 |some true,some (.struct fs),some t=>if fs.toList.all fun f=>(sK P f.type).isSome then(match Dq P T t.fresh parts with
  |some cs=>k (.one ⟨true,cs⟩)
  |none=>none)else none
 |_,_,_=>none
def Dp(t:Ty):List t.T->List (Nat×AV)->Option (List t.T)
 |l,[]=>some l
 |l,(i, .one x)::r=>match t.ofCells x.cs with
  |some y=>if i<l.length then(if x.agg||x.cs.all CV.solid then Dp t (l.set i y) r else none)else none
  |none=>none
 |_,_=>none
def uv(P:Program)(T:TypeId)(n:Nat)(parts:List (Nat×AV))(k:AV->Option R):Option R:=
 match B2 P T with
 |some (_,t)=>if n*t.size<=2^24 then(match Dp t (List.replicate n t.zero) parts with
  |some l=>k (.c (.own t l))
  |none=>none)else none
 |none=>none
def Ak(P:Program)(T:TypeId)(n c:AV)(k:AV->Option R):Option R:=
 match B2 P T,Ol n,Ol c with
 |some (e,t),some (.i64,n),some (.i64,c)=>match E6 P e with
  |some b=>cond (decide (0<=n)) (cond (decide (n<=c)) (cond (decide (c*b<=70368744177664)) (cond (decide (c<=70368744177664)) (k (.c (.own t (List.replicate n.toNat t.zero)))) none) none) none) none
  |none=>none
 |_,_,_=>none
def GI(x:AV)(i:Nat)(k:AV->Option R):Option R:=
 match x with
 | .tup l=>match l[i]? with
   |some x=>k (.one x)
   |none=>none
 |_=>none
def Uc:List AV->Option (List (Nat×Nat))
 |[]=>some []
 | .one ⟨false,[.ptr b o]⟩::r=>(Uc r).map ((b,o)::·)
 |_=>none
def Dk(f:Fn)(first caps:List AV)(k:AV->Option R):Option R:=
 match f,first,Uc caps with
 | .func f,[],some l=>k (.c (.fn f l))
 |_,_,_=>none
def roc:CV->CV
 | .own t l=>.sl t l
 | .view _ _ _ t l=>.sl t l
 | .va _ _ t x o=>.ea t x o
 | .ptr _ _=>.undef
 | .fn f []=>.fn f []
 | .fn _ _=>.undef
 | .np _=>.undef
 |c=>c
def Vb(st:St)(b o:Nat)(acc:List (List CV)):Option ((Nat×Nat)×List (List CV)):=
 match st.boxes.getD b none with
 |some (_,cs)=>some ((acc.length,o),acc++ [cs.map roc])
 |none=>none
def KM(st:St):List (Nat×Nat)->List (List CV)->Option (List (Nat×Nat)×List (List CV))
 |[],acc=>some ([],acc)
 |(b,o)::r,acc=>match Vb st b o acc with
  |some (x,acc)=>match KM st r acc with
   |some (l,acc)=>some (x::l,acc)
   |none=>none
  |none=>none
def JD(st:St):List CV->List (List CV)->Option (List CV×List (List CV))
 |[],acc=>some ([],acc)
 | .ptr b o::r,acc=>match Vb st b o acc with
   |some ((b,o),acc)=>match JD st r acc with
    |some (l,acc)=>some (.ptr b o::l,acc)
    |none=>none
   |none=>none
 | .fn f caps::r,acc=>match KM st caps acc with
   |some (caps,acc)=>match JD st r acc with
    |some (l,acc)=>some (.fn f caps::l,acc)
    |none=>none
   |none=>none
 |c::r,acc=>match JD st r acc with
  |some (l,acc)=>some (roc c::l,acc)
  |none=>none
def Cc(st:St):List AV->List (List CV)->Option (List Val×List (List CV))
 |[],acc=>some ([],acc)
 | .one x::r,acc=>match JD st x.cs acc with
   |some (cs,acc)=>match Cc st r acc with
    |some (l,acc)=>some (⟨x.agg,cs⟩::l,acc)
    |none=>none
   |none=>none
 |_,_=>none
def CV.isImm:CV->Bool
 | .v _=>true| .emp=>true| .sl _ _=>true| .gp _ _=>true
 | .fn _ []=>true
 | .undef=>true
 |_=>false
def Ty.isFlat:Ty->Bool
 | .slice _=>false
 | .pair a b=>a.isFlat&&b.isFlat
 |_=>true
def CV.isFresh0:CV->Bool
 | .v _=>true| .emp=>true| .own t _=>t.isFlat| .undef=>true
 | .fn _ []=>true
 |_=>false
def CV.isFresh:CV->Bool
 | .np cs=>cs.all CV.isFresh0
 |c=>c.isFresh0
def CV.isFlat:CV->Bool
 | .v _=>true| .emp=>true| .own _ _=>true| .undef=>true| .sl _ _=>true
 | .fn _ []=>true
 |_=>false
def CV.isFlatN:CV->Bool
 | .np cs=>cs.all CV.isFlat
 |c=>c.isFlat
def Oe(C:gY)(st:St)(f:AV)(args:List AV)(k:AV->Option R):Option R:=
 match f with
 | .one ⟨false,[.fn f caps]⟩=>match C.ρ f with
   |some c=>match c.io,c.rw with
    |[],false=>match Cc st (args++caps.map fun x=>.c (.ptr x.1 x.2)) []with
     |some (vs,bs)=>(c.G bs vs).bind fun x=>c.alt x fun x=>
       if(c.enc x).1.all CV.isFresh||((c.enc x).1.all CV.isFlatN&&args.all (AV.all CV.isImm)&&caps.isEmpty)then k (c.enc x).1 else none
     |none=>none
    |_,_=>none
   |none=>none
 |_=>none
def aa7(P:Program)(T:Option TypeId)(x:AV)(k:AV->Option R):Option R:=
 match T.bind P.underlying,x with
 |some .string, .one ⟨false,[.v (.string s)]⟩=>k (.c (.v (.int .i64 s.size)))
 |some (.slice _), .one ⟨false,[.sl _ l]⟩=>k (.c (.v (.int .i64 l.length)))
 |some (.slice _), .one ⟨false,[.view _ _ _ _ l]⟩=>k (.c (.v (.int .i64 l.length)))
 |some (.slice _), .one ⟨false,[.emp]⟩=>k (.c (.v (.int .i64 0)))
 |_,_=>none
def aa2(P:Program)(T:Option TypeId)(x:AV)(k:AV->Option R):Option R:=
 match T.bind P.underlying,x with
 |some (.slice _), .one ⟨false,[.view _ _ _ _ l]⟩=>k (.c (.lb l.length))
 |_,_=>none
def Wa(mx:Bool)(x y:AV):Option AV:=
 match x,y with
 | .one ⟨false,[.v (.int κ a)]⟩, .one ⟨false,[.v (.int _ b)]⟩=>some (.c (.v (.int κ (if mx then(if b>a then b else a)else(if b<a then b else a)))))
 |_,_=>none
def ZM(mx:Bool)(xs:List AV)(k:AV->Option R):Option R:=
 match xs with
 |x::r=>match r.foldl (fun acc y=>acc.bind fun x=>Wa mx x y) (some x)with
  |some z=>k z
  |none=>none
 |[]=>none
def Qh(C:gY)(st:St)(o:Oper)(k:AV->Option R):Option R:=
 match o.op with
 | .move x=>k (st.opdT C.P o.type x)
 | .pick c x y=>Wc (st.opd c) (st.opd x) (st.opd y) k
 | .load t a=>JL C st t (st.opd a) k
 | .nilCheck x=>aa9 (st.opd x) k
 | .binOp op t x y _=>VJ C.P op t (st.eqOpd C.P t x) (st.eqOpd C.P t y) k
 | .unOp op _ x=>aUn op (st.opd x) k
 | .convert s d x=>V9 C.P s d (st.opd x) k
 | .fieldAddr t x f=>Aj C.P t (st.opd x) f k
 | .field t x f=>Qd C.P t (st.opd x) f k
 | .indexAddr t x i=>Ll C t (st.opd x) (st.opd i) k
 | .index t x i=>Qe C.P t (st.opd x) (st.opd i) k
 | .slice t x lo hi mx=>Qf C.P C.opt t (st.opd x) (lo.map st.opd) (hi.map st.opd) (mx.map st.opd) k
 | .build t ps=>Qc C.P t (ps.toList.map fun p=>(p.1,st.opd p.2)) k
 | .buildSlice t n ps=>uv C.P t n (ps.toList.map fun p=>(p.1,st.opd p.2)) k
 | .makeSlice t n c=>Ak C.P t (st.opd n) (st.opd c) k
 | .extract x i=>GI (st.opd x) i k
 | .makeFunc f a b=>Dk f (a.toList.map st.opd) (b.toList.map st.opd) k
 | .call c=>match c.callee with
   | .value f=>Oe C st (st.opd f) (st.argAVs C.P c.args.toList c.argTypes.toList) k
   | .builtin .len=>match c.args.toList with
     |[x]=>aa7 C.P c.argTypes[0]? (st.opd x) k
     |_=>none
   | .builtin .cap=>match c.args.toList with
     |[x]=>aa2 C.P c.argTypes[0]? (st.opd x) k
     |_=>none
   | .builtin .max=>ZM true (c.args.toList.map st.opd) k
   | .builtin .min=>ZM false (c.args.toList.map st.opd) k
   |_=>none
 |_=>none
end
def Place.isBoxFrom(b o n:Nat):Place->Bool
 | .cell b' j=>b'==b&&decide (o<=j)&&decide (j<o+n)
 |_=>false
def St.giveUp(st:St)(p:Place):St:=st.giveUpAll fun q=>decide (q=p)
def kp(bad:List Place):List CV->St->List CV×St
 |[],st=>([],st)
 | .view p _ _ t l::r,st=>match bad.any fun q=>decide (q=p)with
   |true=>let x:=kp bad r st;(.undef::x.1,x.2)
   |false=>let x:=kp (p::bad) r (st.giveUp p);(.own t l::x.1,x.2)
 | .va _ _ _ _ _::r,st=>let x:=kp bad r st;(.undef::x.1,x.2)
 |c::r,st=>let x:=kp bad r st;(c::x.1,x.2)
def Place.isArg:Place->Bool
 | .arg _=>true
 |_=>false
def dI(bad:List Place):List CV->St->List CV×St
 |[],st=>([],st)
 | .view p f lo t l::r,st=>match p.isArg with
   |true=>let x:=dI bad r st;(.view p f lo t l::x.1,x.2)
   |false=>match bad.any fun q=>decide (q=p)with
    |true=>let x:=dI bad r st;(.undef::x.1,x.2)
    |false=>let x:=dI (p::bad) r (st.giveUp p);(.own t l::x.1,x.2)
 | .va _ _ _ _ _::r,st=>let x:=dI bad r st;(.undef::x.1,x.2)
 |c::r,st=>let x:=dI bad r st;(c::x.1,x.2)
def CV.isVal:CV->Bool
 | .v _=>true
 |_=>false
def St.atPlace(st:St):Place->CV
 | .slot i k j=>match st.get i with
   | .one x=>if k=0 then x.cs.getD j .undef else .undef
   | .tup l=>match l[k]? with
     |some x=>x.cs.getD j .undef
     |none=>.undef
 | .cell b j=>match st.boxes.getD b none with
   |some (_,cs)=>cs.getD j .undef
   |none=>.undef
 | .arg j=>st.io.getD j .undef
def CV.froze(p:Place):CV->CV
 | .view q f lo t l=>if q=p then .sl t l else .view q f lo t l
 | .va q i t x o=>if q=p then .ea t x o else .va q i t x o
 |c=>c
def CV.frozeOwn(p q:Place):CV->CV
 | .own t l=>if q=p then .sl t l else .own t l
 |c=>c.froze p
def St.freeze(st:St)(p:Place):St:=st.mapP (CV.frozeOwn p)
def St.freezeAll(st:St):List Place->St
 |[]=>st
 |p::r=>(st.freeze p).freezeAll r
def AV.frozeAll(a:AV):List Place->AV
 |[]=>a
 |p::r=>(a.map (CV.froze p)).frozeAll r
def CV.tidy:CV->CV
 | .own t []=>.sl t []
 | .v (.slice _ 0 0)=>.emp
 |c=>c
def CV.heldAt:CV->List Place
 | .view p _ _ _ _=>[p]
 |_=>[]
def AV.held:AV->List Place
 | .one x=>x.cs.flatMap CV.heldAt
 | .tup _=>[]
def afB:AV->Bool
 | .one ⟨false,[.va _ _ _ _ _]⟩=>true
 |_=>false
def CV.isImmV:CV->Bool
 | .v _=>true
 | .sl _ _=>true
 | .emp=>true
 |_=>false
def CV.refresh(p:Place)(i:Nat)(t:Ty)(y:t.T):CV->CV
 | .view q f lo t' l=>if q=p then(if h:t=t' then(match lo with
   |0=>.view q f 0 t' (l.set i (h▸y))
   |lo+1=>.view q f (lo+1) t' (if lo+1<=i then l.set (i-(lo+1)) (h▸y)else l))else .undef)else .view q f lo t' l
 | .va q i' t' x o=>if q=p then(if h:t=t' then .va q i' t' (if i'=i then h▸y else x) o else .undef)else .va q i' t' x o
 |c=>c
def CV.refreshOwn(p:Place)(i:Nat)(t:Ty)(y:t.T):CV->CV
 | .own t' l=>if h:t=t' then .own t' (l.set i (h▸y))else .undef
 |c=>c.refresh p i t y
def WD{α:Type}(lo:Nat)(ys:List α)(i:Nat)(x:α):α:=if lo<=i then(ys[i-lo]?).getD x else x
def MK{α:Type}(k lo:Nat)(ys l:List α):List α:=l.mapIdx fun i x=>WD lo ys (k+i) x
def CV.bulk(p:Place)(lo:Nat)(t:Ty)(ys:List t.T):CV->CV
 | .view q f k t' l=>if q=p then(if h:t=t' then .view q f k t' (MK k lo (h▸ys) l)else .undef)else .view q f k t' l
 | .va q i' t' x o=>if q=p then .undef else .va q i' t' x o
 |c=>c
def CV.bulkOwn(p:Place)(lo:Nat)(t:Ty)(ys:List t.T):CV->CV
 | .own t' l=>if h:t=t' then .own t' (MK 0 lo (h▸ys) l)else .undef
 |c=>c.bulk p lo t ys
def St.bulk(st:St)(p:Place)(lo:Nat)(t:Ty)(ys:List t.T):St:=
 st.mapP fun q c=>if q=p then c.bulkOwn p lo t ys else c.bulk p lo t ys
def WE(st:St)(p:Place)(t:Ty):Option (List t.T):=
 match st.atPlace p with
 | .own t' L=>if h:t'=t then some (h▸L)else none
 |_=>none
section
variable {R:Type}
def Tv(C:gY)(strict:Bool)(st:St)(o:Oper)(x:Operand)(k:St->Option R):Option R:=
 match o.dst with
 |none=>none
 |some d=>match st.opdT C.P o.type x with
  | .one v=>match strict with
    |true=>if v.cs.all CV.isVal then st.put true d (.one v) k else none
    |false=>(dI [] v.cs st).2.put false d (.one ⟨v.agg,(dI [] v.cs st).1⟩) k
  | .tup _=>none
def St.write(strict:Bool)(st:St)(b o:Nat)(new:List CV)(k:St->Option R):Option R:=
 match st.boxes.getD b none with
 |some (false,cs)=>
  if o+new.length<=cs.length then(if new.all CV.solid then(match strict with
   |true=>if((cs.drop o).take new.length).any CV.isOwn then none else k ⟨st.slots,st.boxes.modify b (Option.map fun x=>(x.1,Cg x.2 o new)),st.io⟩
   |false=>k ⟨(st.giveUpAll (Place.isBoxFrom b o new.length)).slots,
     (st.giveUpAll (Place.isBoxFrom b o new.length)).boxes.modify b (Option.map fun x=>(x.1,Cg x.2 o new)),(st.giveUpAll (Place.isBoxFrom b o new.length)).io⟩)else none)else none
 |_=>none
def Qg(C:gY)(strict:Bool)(st:St)(T:TypeId)(a:AV)(x:AV)(k:St->Option R):Option R:=
 match x with
 | .one v=>match sK C.P T with
   |some n=>if v.cs.length=n then(match a with
    | .one ⟨false,[.ptr b o]⟩=>match strict with
      |true=>if v.cs.all CV.isVal then st.write true b o v.cs k else none
      |false=>(dI [] v.cs st).2.write false b o (dI [] v.cs st).1 k
    | .one ⟨false,[.va p i t e o]⟩=>match strict with
      |true=>none
      |false=>if v.cs.all CV.isImmV then(if o+n<=t.size then(match t.ofCells (Cg (t.cells e) o v.cs)with
       |some y=>match st.atPlace p with
        | .own t' _=>if t=t' then k (st.mapP fun q c=>if q=p then c.refreshOwn p i t y else c.refresh p i t y)else none
        |_=>none
       |none=>none)else none)else none
    |_=>none)else none
   |none=>none
 | .tup _=>none
def St.newBox(st:St)(d:Nat)(cs:List CV)(k:St->Option R):Option R:=
 if d<st.boxes.length&&d<st.slots.length then(if !cs.all CV.solid then none else match st.boxes.getD d none with
  |none=>(⟨st.slots,st.boxes.set d (some (false,cs)),st.io⟩:St).put true d (.c (.ptr d 0)) k
  |some _=>none)else none
def Xa(C:gY)(st:St)(o:Oper)(T:TypeId)(k:St->Option R):Option R:=
 match o.dst,Zs C.P T with
 |some d,some t=>st.newBox d t.fresh k
 |_,_=>none
def aew(C:gY)(st:St)(o:Oper)(T:TypeId)(x:Operand)(k:St->Option R):Option R:=
 match o.dst,st.opdT C.P T x with
 |some d, .one v=>(dI [] v.cs st).2.newBox d (dI [] v.cs st).1 k
 |_,_=>none
def Es(t:Ty):AV->Option (List t.T)
 | .one ⟨false,[.sl t' l]⟩=>if h:t'=t then some (h▸l)else none
 | .one ⟨false,[.view _ _ _ t' l]⟩=>if h:t'=t then some (h▸l)else none
 | .one ⟨false,[.emp]⟩=>some []
 | .one ⟨false,[.v (.slice _ 0 _)]⟩=>some []
 |_=>none
def Lk(C:gY)(st:St)(o:Oper)(T:TypeId)(T2:TypeId)(s x:AV)(k:St->Option R):Option R:=
 match o.dst,B2 C.P T,C.P.underlying T2 with
 |some d,some (e,t),some (.slice _)=>match E6 C.P e,Es t x with
  |some b,some new=>match s with
   | .one ⟨false,[.view p f lo t' l]⟩=>if h:t'=t then
      (let old:=cond (decide ((l.length+new.length)*b<=70368744177664)) (cond (decide (l.length+new.length<=70368744177664)) ((st.giveUp p).put false d (.c (.own t ((h▸l)++new))) k) none) none
       match f,WE st p t with
       |false,some L=>cond (decide (lo+l.length+new.length<=L.length)) ((st.bulk p (lo+l.length) t new).put false d (.c (.view p false lo t ((h▸l)++new))) k) old
       |_,_=>old)else none
   | .one ⟨false,[.emp]⟩=>
      cond (decide (new.length*b<=70368744177664)) (cond (decide (new.length<=70368744177664)) (st.put false d (.c (.own t new)) k) none) none
   |_=>none
  |_,_=>none
 |_,_,_=>none
def Xi(C:gY)(T:TypeId)(T2:TypeId)(s x:AV)(k:AV->Option R):Option R:=
 match B2 C.P T,C.P.underlying T2 with
 |some (e,t),some (.slice _)=>match E6 C.P e,Es t x with
  |some b,some new=>match s with
   | .one ⟨false,[.emp]⟩=>
      cond (decide (new.length*b<=70368744177664)) (cond (decide (new.length<=70368744177664)) (k (.c (.own t new))) none) none
   |_=>none
  |_,_=>none
 |_,_=>none
def ZH(C:gY)(st:St)(o:Oper)(T:TypeId)(x:AV)(k:St->Option R):Option R:=
 match B2 C.P T,x with
 |some (_,t), .one ⟨false,[.view p _ lo t' l]⟩=>if t'=t then(match WE st p t with
   |some _=>(match o.dst with
    |none=>k (st.bulk p lo t (List.replicate l.length t.zero))
    |some d=>(st.bulk p lo t (List.replicate l.length t.zero)).put false d (.c (.v (.tuple #[]))) k)
   |none=>none)else none
 |_,_=>none
def ab1(C:gY)(st:St)(o:Oper)(T T2:TypeId)(x y:AV)(k:St->Option R):Option R:=
 match B2 C.P T,C.P.underlying T2,x with
 |some (_,t),some (.slice _), .one ⟨false,[.view p _ lo t' l]⟩=>if t'=t then(match Es t y,WE st p t with
   |some ys,some _=>cond (decide (ys.length<=l.length)) (match o.dst with
    |none=>k (st.bulk p lo t ys)
    |some d=>(st.bulk p lo t ys).put false d (.c (.v (.int .i64 (ys.length:Nat)))) k) none
   |_,_=>none)else none
 |_,_,_=>none
def Xf(C:gY)(st:St)(o:Oper)(T:TypeId)(x:AV)(lo hi:Option AV)(k:St->Option R)(other:Option R):Option R:=
 match o.dst,C.P.underlying T,x,hi with
 |some d,some (.slice e), .one ⟨false,[.view p false o t _]⟩,some hi=>match Zs C.P e,WE st p t with
  |some t',some L=>if t'.size=t.size then cutAt (L.length-o) lo (some hi) fun a b=>st.put false d (.c (.view p false (o+a) t (((L.drop o).take b).drop a))) k else none
  |_,_=>other
 |_,_,_,_=>other
structure sk where
 p:Place
 t:Ty
 l:List t.T
def CV.isPlain:CV->Bool
 | .v (.int _ _)=>true
 | .v (.bool _)=>true
 | .v (.string _)=>true
 |_=>false
def B9:List CV->Option (List sk)
 |[]=>some []
 | .view p true _ t l::r=>(B9 r).map (⟨p,t,l⟩::·)
 |c::r=>match c.isPlain with
  |true=>B9 r
  |false=>none
def R0:List CV->List CV
 |[]=>[]
 | .view _ _ _ t l::r=>.own t l::R0 r
 |c::r=>c::R0 r
def Gk:List Bool->List AV->Option (List sk)
 |_,[]=>some []
 |io,x::r=>match io.headD false with
  |true=>match x with
   | .one x=>match B9 x.cs with
     |some a=>(Gk io.tail r).map (a++·)
     |none=>none
   | .tup _=>none
  |false=>Gk io.tail r
def sC(ls:List sk)(q:Place):Bool:=ls.any fun x=>decide (x.p=q)
def Ng(st:St)(bad:Place->Bool):List Bool->List AV->List (List CV)->Option (List Val×List (List CV))
 |_,[],acc=>some ([],acc)
 |io, .one x::r,acc=>match io.headD false with
  |true=>match Ng st bad io.tail r acc with
   |some (vs,acc)=>some (⟨x.agg,R0 x.cs⟩::vs,acc)
   |none=>none
  |false=>match JD st (x.cs.map (CV.unlend bad)) acc with
   |some (cs,acc)=>match Ng st bad io.tail r acc with
    |some (l,acc)=>some (⟨x.agg,cs⟩::l,acc)
    |none=>none
   |none=>none
 |_, .tup _::_,_=>none
def XB(st:St)(k:Option R):List sk->Option R
 |[]=>k
 |x::r=>match st.atPlace x.p with
  | .own t l=>if t=x.t then cond (decide (l.length=x.l.length)) (XB st k r) none else none
  |_=>none
def Ih:List sk->List CV->Place->Option CV
 |x::r,c::cs,q=>if x.p=q then some c else Ih r cs q
 |_,_,_=>none
def Dv:List sk->List CV->Bool
 |[],[]=>true
 |x::r, .own t _::cs=>decide (t=x.t)&&t.isFlat&&Dv r cs
 |_,_=>false
def Place.isSlot:Place->Bool
 | .slot _ _ _=>true
 |_=>false
def CV.again(ls:List sk)(cs:List CV)(q:Place):CV->CV
 | .view p f lo t l=>match sC ls p with
   |false=>.view p f lo t l
   |true=>match p.isArg&&f&&q.isSlot,Ih ls cs p with
    |true,some (.own t' l')=>if t=t' then .view p true 0 t' l' else .undef
    |_,_=>.undef
 |c=>c.unlend (sC ls)
def St.giveBack(st:St)(ls:List sk)(cs:List CV):St:=
 st.mapP fun q c=>match c with
  | .own t l=>(match Ih ls cs q with
    |some c'=>c'
    |none=>.own t l)
  |c=>c.again ls cs q
def A9:List sk->Place->Option Nat
 |[],_=>none
 |x::r,q=>if x.p=q then some x.l.length else A9 r q
def AV.cells:AV->List CV
 | .one x=>x.cs
 | .tup l=>l.flatMap Val.cs
def C6(ls:List sk)(k:Option R):List CV->Option R
 |[]=>k
 | .view p true _ _ l::r=>match p.isArg with
   |true=>(match A9 ls p with
    |some n=>cond (decide (l.length=n)) (C6 ls k r) none
    |none=>C6 ls k r)
   |false=>C6 ls k r
 |_::r=>C6 ls k r
def Ig(ls:List sk)(k:Option R):List AV->Option R
 |[]=>k
 |a::r=>C6 ls (Ig ls k r) a.cells
def CV.isUndef:CV->Bool
 | .undef=>true
 |_=>false
def distinct:List sk->Bool
 |[]=>true
 |x::r=> !sC r x.p&&distinct r
def Of(C:gY)(st:St)(o:Oper)(f:AV)(args:List AV)(k:St->Option R):Option R:=
 match f,o.dst with
 | .one ⟨false,[.fn f []]⟩,some d=>match C.ρ f with
   |some c=>match c.rw,Gk c.io args with
    |false,some ls=>match Ng (st.giveUpAll (sC ls)) (sC ls) c.io args []with
     |some (vs,bs)=>if distinct ls then XB st ((c.G bs vs).bind fun x=>c.alt x fun x=>
       (if(c.enc x).1.all CV.isFresh&&Dv ls (c.enc x).2 then Ig ls ((st.giveBack ls (c.enc x).2).put false d (c.enc x).1 k) st.slots
        else if(c.enc x).1.all CV.isFresh&&(c.enc x).2.all CV.isUndef then(st.giveUpAll (sC ls)).put false d (c.enc x).1 k else none)) ls else none
     |none=>none
    |_,_=>none
   |none=>none
 |_,_=>none
def acy(C:gY):Operand->Bool
 | .func f=>match C.ρ f with
   |some c=>c.io.any id||c.rw
   |none=>false
 |_=>false
def Val.np?:Val->Option (List CV)
 |⟨false,[.np cs]⟩=>some cs
 |_=>none
def XL(d:Nat):List Val->Option (List CV×List Val)
 |[]=>none
 |x::r=>match x.np? with
  |some cs=>some (cs,⟨false,[.ptr d 0]⟩::r)
  |none=>(XL d r).map fun y=>(y.1,x::y.2)
def AV.npLand(d:Nat):AV->Option (List CV×AV)
 | .one x=>x.np?.map fun cs=>(cs, .c (.ptr d 0))
 | .tup l=>(XL d l).map fun y=>(y.1, .tup y.2)
def St.putN(st:St)(d:Nat)(a:AV)(k:St->Option R):Option R:=
 match a.npLand d with
 |none=>st.put false d a k
 |some (cs,a)=>match decide (d<st.slots.length),st.boxes[d]? with
  |true,some none=>(⟨st.slots,st.boxes.set d (some (false,cs)),st.io⟩:St).put false d a k
  |_,_=>none
def zu:List CV->List Nat
 |[]=>[]
 | .ptr b _::r=>b::zu r
 | .fn _ caps::r=>caps.map Prod.fst++zu r
 |_::r=>zu r
def fW:List AV->List Nat
 |[]=>[]
 | .one x::r=>zu x.cs++fW r
 | .tup _::r=>fW r
def R6:Nat->List (Nat×Nat)->List (Nat×Nat)
 |_,[]=>[]
 |n,c::r=>(n,c.2)::R6 (n+1) r
def RY:Nat->List CV->Option (List CV)
 |_,[]=>some []
 |n, .ptr _ o::r=>(RY (n+1) r).map (.ptr n o::·)
 |n, .fn f caps::r=>(RY (n+caps.length) r).map (.fn f (R6 n caps)::·)
 |n,c::r=>match c.isImm with
  |true=>(RY n r).map (c::·)
  |false=>none
def IG:Nat->List AV->Option (List Val)
 |_,[]=>some []
 |n, .one x::r=>(RY n x.cs).bind fun cs=>(IG (n+(zu x.cs).length) r).map (⟨x.agg,cs⟩::·)
 |_, .tup _::_=>none
def B0(st:St):List Nat->Option (List (List CV))
 |[]=>some []
 |b::r=>match st.boxes[b]? with
  |some (some (false,cs))=>if cs.all CV.isFlat then(B0 st r).map (cs::·)else none
  |_=>none
def mV:List Nat->Bool
 |[]=>true
 |b::r=> !r.contains b&&mV r
def Place.inBoxes(bl:List Nat):Place->Bool
 | .cell b _=>bl.contains b
 |_=>false
def St.refill:St->List Nat->List (List CV)->St
 |st,b::r,cs::css=>St.refill ⟨st.slots,st.boxes.set b (some (false,cs)),st.io⟩ r css
 |st,_,_=>st
def Uz(l:List (List CV)):List Nat:=l.map List.length
def St.back(st:St)(o:Oper)(a:AV)(k:St->Option R):Option R:=
 match o.dst with
 |some d=>st.putN d a k
 |none=>k st
def MW(C:gY)(st:St)(o:Oper)(f:AV)(args:List AV)(k:St->Option R):Option R:=
 match f with
 | .one ⟨false,[.fn f caps]⟩=>match C.ρ f with
   |some c=>match c.rw,IG 0 (args++caps.map fun x=>.c (.ptr x.1 x.2)),B0 st (fW (args++caps.map fun x=>.c (.ptr x.1 x.2)))with
    |true,some vs,some bs=>if mV (fW (args++caps.map fun x=>.c (.ptr x.1 x.2)))then(c.G bs vs).bind fun x=>c.alt x fun x=>
      if(c.enc x).1.all CV.isFlatN&&Uz (c.encB x)==Uz bs then
       ((st.giveUpAll (Place.inBoxes (fW (args++caps.map fun x=>.c (.ptr x.1 x.2))))).refill (fW (args++caps.map fun x=>.c (.ptr x.1 x.2))) (c.encB x)).back o (c.enc x).1 k
      else none else none
    |_,_,_=>none
   |none=>none
 |_=>none
def abu(C:gY):AV->Bool
 | .one ⟨false,[.fn f _]⟩=>match C.ρ f with
   |some c=>c.rw
   |none=>false
 |_=>false
def qq(C:gY)(strict:Bool)(st:St)(o:Oper)(k:St->Option R):Option R:=
 Qh C st o fun a=>match o.dst with
  |some d=>match strict with
   |true=>st.put true d a k
   |false=>st.putN d a k
  |none=>k st
def step(C:gY)(strict:Bool)(st:St)(o:Oper)(k:St->Option R):Option R:=
 match o.op with
 | .assign x=>Tv C strict st o x k
 | .store T a x=>match o.dst with
   |none=>match strict,afB (st.opd a),(st.opdT C.P T x).held with
    |false,true,p::r=>Qg C false (st.freezeAll (p::r)) T ((st.opd a).frozeAll (p::r)) ((st.opdT C.P T x).frozeAll (p::r)) k
    |_,_,_=>Qg C strict st T (st.opd a) (st.opdT C.P T x) k
   |some _=>none
 | .buildSlice T n ps=>match strict,ps.toList.flatMap fun p=>(st.opd p.2).held with
   |false,p::r=>uv C.P T n (ps.toList.map fun x=>(x.1,((st.opd x.2).frozeAll (p::r)).map CV.tidy)) fun a=>match o.dst with
    |some d=>(st.freezeAll (p::r)).put false d a k
    |none=>none
   |_,_=>qq C strict st o k
 | .alloc T=>Xa C st o T k
 | .box T x=>aew C st o T x k
 | .slice T x lo hi mx=>match strict,mx with
   |false,none=>Xf C st o T (st.opd x) (lo.map st.opd) (hi.map st.opd) k (qq C false st o k)
   |_,_=>qq C strict st o k
 | .call c=>match c.callee with
   | .builtin .append=>match c.args.toList,c.argTypes.toList with
     |[s,x],[T,T2]=>match strict with
      |true=>(match o.dst with
       |some d=>Xi C T T2 (st.opdT C.P T s) (st.opdT C.P T2 x) fun v=>st.put true d v k
       |none=>none)
      |false=>Lk C st o T T2 (st.opdT C.P T s) (st.opdT C.P T2 x) k
     |_,_=>none
   | .builtin .clear=>match c.args.toList,c.argTypes.toList with
     |[x],[T]=>ZH C st o T (st.opd x) k
     |_,_=>none
   | .builtin .copy=>match c.args.toList,c.argTypes.toList with
     |[x,y],[T,T2]=>ab1 C st o T T2 (st.opd x) (st.opdT C.P T2 y) k
     |_,_=>none
   | .value f=>match abu C (st.opd f),strict with
     |true,false=>MW C (st.freezeAll ((st.argAVs C.P c.args.toList c.argTypes.toList).flatMap AV.held)) o ((st.opd f).frozeAll ((st.argAVs C.P c.args.toList c.argTypes.toList).flatMap AV.held))
       ((st.argAVs C.P c.args.toList c.argTypes.toList).map fun a=>a.frozeAll ((st.argAVs C.P c.args.toList c.argTypes.toList).flatMap AV.held)) k
     |_,_=>if acy C f then Of C st o (st.opd f) (st.argAVs C.P c.args.toList c.argTypes.toList) k else qq C strict st o k
   |_=>qq C strict st o k
 |_=>qq C strict st o k
def St.test(st:St)(x:Operand)(k:Bool->St->Option R):Option R:=
 match x,st.opd x with
 | .tmp d, .one ⟨false,[.v (.bool b)]⟩=>cond b (k true (st.set d (.c (.v (.bool true))))) (k false (st.set d (.c (.v (.bool false)))))
 | .const (.bool b),_=>k b st
 |_,_=>none
abbrev AV.skip:AV:=.c (.v (.tuple #[]))
def AV.isSkip:AV->Bool
 | .one ⟨false,[.v (.tuple _)]⟩=>true
 |_=>false
def HJ(strict:Bool)(o:Oper)(st:St)(k:St->Option R):Option R:=
 match o.dst with
 |some d=>st.put strict d .skip k
 |none=>k st
def Fv(o:Oper):Bool:=
 match o.op with
 | .call c=>(match c.callee with| .builtin .append=>true|_=>false)
 |_=>false
def RN(x:Operand)(d:Nat):Bool:=
 match x with
 | .tmp t=>t==d
 |_=>false
def Gv(ops:Array Oper)(o:Oper):Bool:=
 match o.op,o.dst with
 | .buildSlice _ 0 _,some d=>ops.toList.any fun q=>Fv q&&(match q.op with
   | .call c=>(match c.args.toList with|x::_=>RN x d|[]=>false)
   |_=>false)
 |_,_=>false
def OU(C:gY)(st:St)(o:Oper)(k:St->Option R):Option R:=
 match o.op,o.dst with
 | .buildSlice _ 0 _,some d=>Qh C st o fun _=>st.put true d (.c .emp) k
 |_,_=>none
def ry(C:gY)(strict:Bool)(ops:Array Oper)(o:Oper)(st:St)(k:St->Option R):Option R:=
 match o.guard with
 |none=>match strict&&Gv ops o with
  |true=>OU C st o k
  |false=>step C strict st o k
 |some (j,want)=>match(ops[j]?).bind (·.dst)with
  |some d=>match(st.get d).isSkip with
   |true=>HJ strict o st k
   |false=>st.test (.tmp d) fun b st=>if b=want then step C strict st o k else HJ strict o st k
  |none=>none
def XY(C:gY)(strict:Bool)(ops:Array Oper):List Oper->St->(St->Option R)->Option R
 |[],st,k=>k st
 |o::r,st,k=>ry C strict ops o st fun st=>XY C strict ops r st k
inductive Ex where
 |normal|exit (id:Nat)|ret
abbrev Box:=Option (Bool×List CV)
abbrev iV:=List AV×List Box×List CV
def Place.lives(s b:List Nat):Place->Bool
 | .arg _=>true
 | .slot i _ _=>s.contains i
 | .cell i _=>b.contains i
def CV.keep(s b:List Nat):CV->CV
 | .view p f lo t x=>if p.lives s b then .view p f lo t x else .undef
 | .va p n t x o=>if p.lives s b then .va p n t x o else .undef
 | .ptr i o=>if b.contains i then .ptr i o else .undef
 | .fn f caps=>if caps.all fun c=>b.contains c.1 then .fn f caps else .undef
 |c=>c
def St.live(st:St)(s b:List Nat):iV:=
 (s.map fun i=>(st.get i).map (CV.keep s b),b.map (fun i=>(st.boxes.getD i none).map fun x=>(x.1,x.2.map (CV.keep s b))),st.io.map (CV.keep s b))
def GA{α:Type}:List Nat->List α->List α->List α
 |i::r,x::xs,l=>GA r xs (l.set i x)
 |_,_,l=>l
structure Tt where
 n:Nat
 m:Nat
def Tt.back(d:Tt)(s b:List Nat)(x:iV):St:=
 ⟨GA s x.1 (List.replicate d.n .undef),GA b x.2.1 (List.replicate d.m none),x.2.2⟩
structure bN where
 s:List Nat
 b:List Nat
 s':List Nat
 b':List Nat
def bJ(d:Tt)(h:bN)(body:St->(Ex->St->Option R)->Option R):Nat->iV->(Ex->iV->Option R)->Option R
 |0,_,_=>none
 |n+1,x,k=>body (d.back h.s h.b x) fun e st=>match e with
  | .normal=>bJ d h body n (st.live h.s h.b) k
  |e=>k e (st.live h.s' h.b')
noncomputable def key(c:Code):Nat:=
 Code.rec (motive:=fun _=>Nat) 0 (fun id _ _=>id+1) (fun _ _ a b=>if a=0 then b else a) (fun _ _ _ a b=>if a=0 then b else a)
  (fun _ _ a=>a) (fun _ a=>a) (fun _ _ _ _ _ _=>0) (fun _=>0) (fun _ a=>a) (fun _=>0) (fun _=>0) 0 (fun _=>0) c
noncomputable def Km(id:Nat):Code->Option Code
 | .seq a b=>match Km id a with
   |some c=>some c
   |none=>Km id b
 | .cond _ a b=>match Km id a with
   |some c=>some c
   |none=>Km id b
 | .block _ a=>Km id a
 | .loop a=>if key a=id+1 then some a else Km id a
 | .scope a=>Km id a
 |_=>none
noncomputable def aG(f:Func)(id:Nat):Code:=
 match f.body with
 |some c=>match Km id c with
  |some a=>a
  |none=>.skip
 |none=>.skip
structure fq(R:Type)where
 loop:Nat->bN
 sum:Nat->Option (iV->(Ex->iV->Option R)->Option R)
def ad0(P:Program)(T:TypeId):Bool:=
 match P.underlying T with
 |some (.int _)=>true|some .bool=>true|some .string=>true
 |_=>false
inductive Cls where
 |pure|alloc|store|other
 deriving DecidableEq
def tW(C:gY)(o:Oper):Cls:=
 match o.op with
 | .assign _=>if ad0 C.P o.type then .pure else .other
 | .store _ _ _=>.store
 | .alloc _=>.alloc
 | .box _ _=>.other
 | .call c=>match c.callee with
   | .builtin .len| .builtin .cap| .builtin .max| .builtin .min| .builtin .append=>.pure
   | .value f=>if acy C f then .other else .pure
   |_=>.other
 |_=>.pure
def wH(ops:Array Oper)(o:Oper):List Tmp:=
 (o.op.operands.toList.filterMap fun| .tmp t=>some t|_=>none)++
 (match o.guard with|some (j,_)=>((ops[j]?).bind (·.dst)).toList|none=>[])
def wZ(o:Oper):Bool:=
 match o.op with
 | .move _| .binOp .. | .unOp .. | .extract .. | .convert .. | .pick .. =>true
 |_=>false
def apart(ops:Array Oper)(a b:Oper):Bool:=
 (match a.dst with|some d=> !(wH ops b).contains d&&b.dst !=some d|none=>true)&&
 (match b.dst with|some d=> !(wH ops a).contains d|none=>true)
def kH(C:gY)(ops:Array Oper)(a b:Oper):Bool:=
 apart ops a b&&match tW C a,tW C b with
  | .pure, .pure=>true
  | .pure, .alloc=>true
  | .alloc, .alloc=>true
  | .pure, .store=>wZ a
  |_,_=>false
def afz(o:Oper)(j:Nat):Bool:=o.after.any fun e=>e.on==j&&Region.binds .any e
def As(ops:Array Oper)(i:Nat):Bool:=
 Nat.beq (i+1) ops.size&&(match ops[i]? with
  |some o=>(List.range i).all fun j=>afz o j
  |none=>false)
def quiet(p:Oper):Bool:=
 p.guard.isNone&&p.dst.isSome&&(match p.op with
  | .extract _ _| .move _=>true
  | .binOp .add _ _ _ _| .binOp .sub _ _ _ _=>true
  |_=>false)
def RM(o:Oper):Bool:=
 o.guard.isNone&&(match o.op with
  | .assign _=>o.dst.isSome
  | .store _ _ _=>o.dst.isNone
  |_=>false)
def kf(d:Option Tmp)(o:Oper):Bool:=
 match d with
 |some d=>o.op.operands.toList.all fun x=> !RN x d
 |none=>true
def Xw(s l:List Nat):List Nat:=l.foldl (fun s x=>if s.contains x then s else x::s) s
def gW(ops:List Oper):List (List Nat):=
 ops.foldl (fun acc o=>acc++ [(o.after.toList.filter fun e=>Region.binds .any e).foldl (fun s e=>Xw s (e.on::acc.getD e.on [])) []]) []
def R3(ops:Array Oper)(ah:List (List Nat))(j i:Nat):Bool:=
 match ops[j]?,ops[i]? with
 |some p,some o=>quiet p&&RM o&&kf o.dst p&&kf p.dst o&&p.dst !=o.dst&&
  (List.range ops.size).all fun k=>Nat.ble k i||(ah.getD k []).contains j
 |_,_=>false
def abh(C:gY)(p:Oper):Bool:=
 p.guard.isNone&&p.dst.isSome&&(match p.op with| .select _ _=>false|_=>true)&& !Fv p&&(match tW C p with| .pure=>true|_=>false)
def J5(C:gY)(o:Oper):Bool:=
 o.guard.isNone&&o.dst.isSome&&(match o.op with| .assign _=>true|_=>false)&&(match tW C o with| .other=>true|_=>false)
def WI(C:gY)(ops:Array Oper)(ah:List (List Nat))(j i:Nat):Bool:=
 match ops[j]?,ops[i]? with
 |some p,some o=>abh C p&&J5 C o&&kf o.dst p&&kf p.dst o&&p.dst !=o.dst&&
  (List.range ops.size).all fun k=>Nat.ble k i||(ah.getD k []).contains j||(match ops[k]? with
    |some q=>J5 C q&&(ah.getD k []).contains i&&kf o.dst q&&o.dst !=q.dst
    |none=>false)
 |_,_=>false
def DC(C:gY)(ops:Array Oper)(i:Nat):Bool:=
 match ops[i]? with
 |some o=>J5 C o&&(List.range i).all fun j=>((gW ops.toList).getD i []).contains j||WI C ops (gW ops.toList) j i
 |none=>false
def wV(C:gY)(ops:Array Oper)(i:Nat):Bool:=
 As ops i||DC C ops i||(match ops[i]? with
  |some o=>(match tW C o with
   | .store| .other=>(List.range i).all fun j=>((gW ops.toList).getD i []).contains j||R3 ops (gW ops.toList) j i
   | .pure=>Fv o&&((List.range ops.size).all fun k=>Nat.ble k i||((gW ops.toList).getD k []).contains i)&&(List.range i).all fun j=>((gW ops.toList).getD i []).contains j
   |_=>false)
  |none=>false)
def zw(C:gY)(ops:Array Oper):List Nat->St->(St->Option R)->Option R
 |[],st,k=>k st
 |i::r,st,k=>match ops[i]? with
  |some o=>ry C (!wV C ops i) ops o st fun st=>zw C ops r st k
  |none=>zw C ops r st k
def Uh(C:gY)(ops:Array Oper):Bool:=
 let ah:=gW ops.toList
 ((List.range ops.size).all fun i=>(ops[i]?).all fun o=>o.after.all fun e=> !Region.binds .any e||decide (e.on<i))&&
 (List.range ops.size).all fun i=>(List.range i).all fun j=>
   (ah.getD i []).contains j||(match ops[j]?,ops[i]? with
     |some a,some b=>wV C ops i||kH C ops a b
     |_,_=>false)
def iN(C:gY)(o:Oper):Bool:=
 match o.op with
 | .call c=>match c.callee with
   | .value (.func f)=>(match C.ρ f with
     |some c=>c.rw
     |none=>false)
   |_=>false
 |_=>false
def Oi(C:gY)(st:St)(o:Oper):List AV:=
 match o.op with
 | .call c=>st.argAVs C.P c.args.toList c.argTypes.toList
 |_=>[]
def SZ(C:gY)(st:St)(o:Oper):List Place:=(Oi C st o).flatMap AV.held
def wo(C:gY)(st:St)(o:Oper):List AV:=(Oi C st o).map fun a=>a.frozeAll (SZ C st o)
def CV.stable(pl:List Place)(bl:List Nat):CV->Bool
 | .view p _ _ _ _=> !p.inBoxes bl&& !pl.contains p
 | .va p _ _ _ _=> !p.inBoxes bl&& !pl.contains p
 | .own _ _=>pl.isEmpty
 |_=>true
def fr(pl:List Place)(bl:List Nat):Nat->List Box->Bool
 |_,[]=>true
 |b,x::r=>(bl.contains b||(match x with
  |some (_,cs)=>cs.all fun c=>c.isOwn||c.stable pl bl
  |none=>true))&&fr pl bl (b+1) r
def Ws(bl:List Nat):Nat->List Box->List Box
 |_,[]=>[]
 |b,x::r=>(match bl.contains b with
  |true=>none
  |false=>x)::Ws bl (b+1) r
def St.hide(bl:List Nat)(st:St):St:=⟨st.slots,Ws bl 0 st.boxes,st.io⟩
def Ev(C:gY)(ops:Array Oper)(pl:List Place)(bl:List Nat)(st:St)(p:Oper):Bool:=
 (wH ops p).all (fun t=>(st.get t).all (CV.stable pl bl))&&(match p.dst with
   |some d=>(st.get d).all (CV.stable pl bl)
   |none=>false)&&(ry C true ops p (st.hide bl) some).isSome
def Xp(C:gY)(ops:Array Oper)(i:Nat)(o:Oper)(st:St):Bool:=
 let ah:=gW ops.toList
 (SZ C st o).all Place.isSlot&&(match o.dst with
   |some d=> !(st.get d).hasOwn
   |none=>true)&&fr (SZ C st o) (fW (wo C st o)) 0 st.boxes&&
 (List.range ops.size).all fun j=>Nat.beq j i||(ah.getD i []).contains j||(ah.getD j []).contains i||(match ops[j]? with
   |some p=>Ev C ops (SZ C st o) (fW (wo C st o)) st p
   |none=>true)
def Dw(ops:Array Oper)(i:Nat):Bool:=
 let ah:=gW ops.toList
 (List.range ops.size).all fun j=>Nat.beq j i||(ah.getD i []).contains j||(ah.getD j []).contains i
def zx(C:gY)(ops:Array Oper):List Nat->St->(St->Option R)->Option R
 |[],st,k=>k st
 |i::r,st,k=>match ops[i]? with
  |some o=>(match iN C o with
   |true=>cond (Xp C ops i o st) (ry C false ops o st fun st=>zx C ops r st k) none
   |false=>ry C (!Dw ops i) ops o st fun st=>zx C ops r st k)
  |none=>zx C ops r st k
def afH(C:gY)(ops:Array Oper)(ah:List (List Nat))(rest:List Nat):Option Nat:=
 match rest.find? fun i=>(match ops[i]? with
  |some o=> !iN C o
  |none=>false)&&(ah.getD i []).all fun j=> !rest.contains j with
 |some i=>some i
 |none=>rest.find? fun i=>(ah.getD i []).all fun j=> !rest.contains j
def acS(C:gY)(ops:Array Oper)(ah:List (List Nat)):Nat->List Nat->List Nat
 |0,_=>[]
 |n+1,rest=>match afH C ops ah rest with
  |some i=>i::acS C ops ah n (rest.filter fun j=> !Nat.beq j i)
  |none=>[]
def Bb(C:gY)(ops:Array Oper)(p:Oper):Bool:=
 p.guard.isNone&&(match tW C p with| .pure=>true|_=>false)&&(match p.dst with
  |some d=> !(wH ops p).contains d
  |none=>false)
def T4(ops:Array Oper)(p o:Oper):Bool:=
 match o.dst with
 |some d=> !(wH ops p).contains d&&p.dst !=some d
 |none=>true
def WF(C:gY)(ops:Array Oper)(ah:List (List Nat))(a b:Nat):Bool:=
 !(ah.getD a []).contains b&&(match ops[a]?,ops[b]? with
   |some p,some o=>T4 ops p o&&((ah.getD b []).contains a||kH C ops p o||(iN C o&&o.guard.isNone&&Bb C ops p&&apart ops p o))
   |_,_=>false)
def XP(C:gY)(ops:Array Oper)(ah:List (List Nat)):List Nat->Bool
 |[]=>true
 |a::r=>(r.all fun b=>WF C ops ah a b)&&XP C ops ah r
def Im(C:gY)(ops:Array Oper)(ord:List Nat):Bool:=
 ((List.range ops.size).all fun i=>(ops[i]?).all fun o=>o.after.all fun e=> !Region.binds .any e||decide (e.on<i))&&
 ((List.range ops.size).all fun i=>ord.contains i)&&mV ord&&(ord.all fun i=>decide (i<ops.size))&&XP C ops (gW ops.toList) ord
def adS(C:gY)(ops:Array Oper):List Nat:=acS C ops (gW ops.toList) ops.size (List.range ops.size)
noncomputable def mU(C:gY)(d:Tt)(h:fq R)(fuel:Nat)(c:Code):St->(Ex->St->Option R)->Option R:=
 Code.rec (motive:=fun _=>St->(Ex->St->Option R)->Option R)
  (fun st k=>k .normal st)
  (fun _ ops draw st k=>match draw with
    |false=>XY C false ops ops.toList st (k .normal)
    |true=>match Uh C ops with
     |true=>zw C ops (List.range ops.size) st (k .normal)
     |false=>match Im C ops (adS C ops)with
      |true=>zx C ops (adS C ops) st (k .normal)
      |false=>none)
  (fun _ _ a b st k=>a st fun e st=>match e with
    | .normal=>b st k
    |e=>k e st)
  (fun c _ _ a b st k=>st.test c fun t st=>match t with
    |true=>a st k
    |false=>b st k)
  (fun id _ a st k=>a st fun e st=>match e with
    | .exit j=>if j=id then k .normal st else k (.exit j) st
    |e=>k e st)
  (fun body a st k=>
    let lh:=h.loop (key body)
    let k':Ex->iV->Option R:=fun e x=>k e (d.back lh.s' lh.b' x)
    match h.sum (key body)with
    |some s=>s (st.live lh.s lh.b) k'
    |none=>bJ d lh a fuel (st.live lh.s lh.b) k')
  (fun _ _ _ _ _ _ _ _=>none)
  (fun id st k=>k (.exit id) st)
  (fun _ _ _ _=>none)
  (fun _ st k=>k .normal st)
  (fun _ _ _=>none)
  (fun st k=>k .ret st)
  (fun _ _ _=>none) c
def wY(n:Nat):CV->CV
 | .ptr b o=>.ptr (n+b) o
 | .fn f caps=>.fn f (caps.map fun c=>(n+c.1,c.2))
 |c=>c
def XA(p:Nat->Place):Nat->List CV->List CV
 |_,[]=>[]
 |i, .own t l::r=>.view (p i) true 0 t l::XA p (i+1) r
 |i,c::r=>c::XA p i r
def qK:List CV->List CV
 |[]=>[]
 | .own t l::r=>.own t l::qK r
 |_::r=>qK r
def km:List Bool->Nat->List Val->List Val×List CV
 |_,_,[]=>([],[])
 |io,j,x::r=>match io.headD false with
  |true=>(⟨x.agg,XA .arg j x.cs⟩::(km io.tail (j+(qK x.cs).length) r).1,qK x.cs++(km io.tail (j+(qK x.cs).length) r).2)
  |false=>(x::(km io.tail j r).1,(km io.tail j r).2)
def Xx:List Bool->List Val->Bool
 |_,[]=>true
 |io,x::r=>(match io.headD false with
  |true=>x.cs.all fun c=>c.isOwn||c.isPlain
  |false=>true)&&Xx io.tail r
def DV(f:Func)(io:List Bool)(bs:List (List CV))(vs:List Val):St:=
 ⟨(km io 0 vs).1.map (fun x=>.one (x.map (wY f.ntmps)))++List.replicate (f.ntmps-vs.length) .undef,
  List.replicate f.ntmps none++bs.map fun b=>some (true,b),(km io 0 vs).2⟩
def ac0(C:gY)(st:St):ResultVar->Option AV
 | .tmp i=>some (st.opd (.tmp i))
 | .cell a T=>JL C st T (st.opd (.tmp a)) some
def CV.resC(c:CV):CV:=
 match c.isFlatN with
 |true=>c
 |false=>.undef
def CV.resC0(c:CV):CV:=
 match c.isFlat with
 |true=>c
 |false=>.undef
def St.dropBox(st:St)(b:Nat):St:=
 (⟨st.slots.length,st.boxes.length⟩:Tt).back (List.range st.slots.length) ((List.range st.boxes.length).filter (· !=b))
   (st.live (List.range st.slots.length) ((List.range st.boxes.length).filter (· !=b)))
def XS(n:Nat)(st:St):Val->Option (List CV×St)
 |⟨false,[.ptr b 0]⟩=>match decide (b<n),st.boxes[b]? with
  |true,some (some (false,cs))=>some ((kp [] (pP (.cell b) 0 cs) st).1.map CV.resC0,(kp [] (pP (.cell b) 0 cs) st).2.dropBox b)
  |_,_=>none
 |_=>none
def yD(C:gY)(n:Nat):List ResultVar->St->Option (List Val×St)
 |[],st=>some ([],st)
 |rv::r,st=>match ac0 C st rv with
  |some (.one x)=>match XS n st x with
   |some (cs,st)=>match yD C n r st with
    |some (l,st')=>some (⟨false,[.np cs]⟩::l,st')
    |none=>none
   |none=>match yD C n r (kp [] x.cs st).2 with
    |some (l,st')=>some (⟨x.agg,(kp [] x.cs st).1.map CV.resC⟩::l,st')
    |none=>none
  |_=>none
def aai(l:List Val):AV:=match l with|[x]=>.one x|l=>.tup l
def finish(C:gY)(f:Func)(st:St)(k:AV->List CV->Option R):Option R:=
 match yD C f.ntmps f.results.toList st with
 |some (l,st)=>k (aai l) (kp [] (pP .arg 0 st.io) st).1
 |none=>none
def adZ:List Nat->St->Option (List (List CV))
 |[],_=>some []
 |b::r,st=>match st.boxes[b]? with
  |some (some (false,cs))=>(adZ r (kp [] (pP (.cell b) 0 cs) st).2).map ((kp [] (pP (.cell b) 0 cs) st).1.map CV.resC0::·)
  |_=>none
def mg(n:Nat):Nat->List Nat
 |0=>[]
 |k+1=>n::mg (n+1) k
def Oy(C:gY)(f:Func)(nb:Nat)(st:St)(k:AV->List (List CV)->Option R):Option R:=
 match yD C f.ntmps f.results.toList st with
 |some (l,st)=>match adZ (mg f.ntmps nb) st with
  |some css=>k (aai l) css
  |none=>none
 |none=>none
def Lq(f:Func)(bs:List (List CV))(vs:List Val):St:=
 ⟨vs.map (fun x=>.one (x.map (wY f.ntmps)))++List.replicate (f.ntmps-vs.length) .undef,
  List.replicate f.ntmps none++bs.map fun b=>some (false,b),[]⟩
noncomputable def ac4(C:gY)(h:fq R)(fuel:Nat)(f:Func)(bs:List (List CV))(vs:List Val)(k:AV->List (List CV)->Option R):Option R:=
 match f.body with
 |some c=>if vs.length<=f.ntmps then mU C ⟨f.ntmps,f.ntmps+bs.length⟩ h fuel c (Lq f bs vs) fun e st=>match e with
  | .normal=>Oy C f bs.length st k
  | .ret=>Oy C f bs.length st k
  | .exit _=>none else none
 |none=>none
noncomputable def Za(C:gY)(h:fq R)(fuel:Nat)(f:Func)(io:List Bool)(bs:List (List CV))(vs:List Val)(k:AV->List CV->Option R):Option R:=
 match f.body with
 |some c=>if vs.length<=f.ntmps&&Xx io vs then mU C ⟨f.ntmps,f.ntmps+bs.length⟩ h fuel c (DV f io bs vs) fun e st=>match e with
  | .normal=>finish C f st k
  | .ret=>finish C f st k
  | .exit _=>none else none
 |none=>none
end
end Go.Vai
