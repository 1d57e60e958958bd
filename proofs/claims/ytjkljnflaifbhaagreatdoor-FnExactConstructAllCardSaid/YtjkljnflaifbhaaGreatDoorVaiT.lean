/- No conditions. -/
import Derived.Test.YtjkljnflaifbhaaGreatDoorVaiR
namespace Go.Vai
open Go
def Ty.parse:(t:Ty)->List CV->Option t.T
 | .int k,cs=>match cs with
   |[.v (.int k' n)]=>if k'=k then some n else none
   |_=>none
 | .bool,cs=>match cs with
   |[.v (.bool b)]=>some b
   |_=>none
 | .str,cs=>match cs with
   |[.v (.string s)]=>some s
   |_=>none
 | .unit,cs=>match cs with
   |[]=>some ()
   |_=>none
 | .pair a b,cs=>(a.parse (cs.take a.size)).bind fun x=>(b.parse (cs.drop a.size)).bind fun y=>some (x,y)
 | .slice t,cs=>match cs with
   |[.sl t' l]=>if h:t'=t then some (h▸l)else none
   |_=>none
theorem Ty.parse_cells:∀{t:Ty} {cs:List CV} {z:t.T},t.parse cs=some z->cs=t.cells z
 | .int k,cs,z,h=>by
   simp only[Ty.parse]at h
   split at h
   ·split at h
    ·rename_i e;cases h;subst e;rfl
    ·cases h
   ·cases h
 | .bool,cs,z,h=>by
   simp only[Ty.parse]at h
   split at h
   ·cases h;rfl
   ·cases h
 | .str,cs,z,h=>by
   simp only[Ty.parse]at h
   split at h
   ·cases h;rfl
   ·cases h
 | .unit,cs,z,h=>by
   simp only[Ty.parse]at h
   split at h
   ·rfl
   ·cases h
 | .pair a b,cs,z,h=>by
   simp only[Ty.parse,Option.bind_eq_some_iff]at h
   obtain⟨x,hx,y,hy,hz⟩:=h
   cases hz
   simp only[Ty.cells]
   rw[<-Ty.parse_cells hx,<-Ty.parse_cells hy,List.take_append_drop]
 | .slice t,cs,z,h=>by
   simp only[Ty.parse]at h
   split at h
   ·split at h
    ·rename_i e;subst e;cases h;rfl
    ·cases h
   ·cases h
inductive AT where
 |val (agg:Bool) (t:Ty)
 |ptr (t:Ty)
 |fn
def AT.T:AT->Type
 | .val _ t=>t.T
 | .ptr t=>t.T
 | .fn=>FuncId
def Rx:List AT->Type
 |[]=>Unit
 |a::r=>a.T×Rx r
def E5:(as:List AT)->Nat->Rx as->List Val
 |[],_,_=>[]
 | .val g t::r,n,z=>⟨g,t.cells z.1⟩::E5 r n z.2
 | .ptr _::r,n,z=>⟨false,[.ptr n 0]⟩::E5 r (n+1) z.2
 | .fn::r,n,z=>⟨false,[.fn z.1 []]⟩::E5 r n z.2
def Bi:(as:List AT)->Rx as->List (List CV)
 |[],_=>[]
 | .val _ _::r,z=>Bi r z.2
 | .ptr t::r,z=>t.cells z.1::Bi r z.2
 | .fn::r,z=>Bi r z.2
def tE:(as:List AT)->Nat->List (List CV)->List Val->Option (Rx as)
 |[],_,bs,vs=>match bs,vs with
  |[],[]=>some ()
  |_,_=>none
 | .val g t::r,n,bs,vs=>match vs with
   |v::vs=>if v.agg=g then(t.parse v.cs).bind fun x=>(tE r n bs vs).bind fun y=>some (x,y)else none
   |_=>none
 | .ptr t::r,n,bs,vs=>match bs,vs with
   |b::bs,⟨false,[.ptr k 0]⟩::vs=>if k=n then(t.parse b).bind fun x=>(tE r (n+1) bs vs).bind fun y=>some (x,y)else none
   |_,_=>none
 | .fn::r,n,bs,vs=>match vs with
   |⟨false,[.fn f []]⟩::vs=>(tE r n bs vs).bind fun y=>some (f,y)
   |_=>none
theorem Dd:∀{as:List AT} {n:Nat} {bs:List (List CV)} {vs:List Val} {z:Rx as},tE as n bs vs=some z->vs=E5 as n z/\bs=Bi as z
 |[],n,bs,vs,z,h=>by
  simp only[tE]at h
  split at h
  ·exact⟨rfl,rfl⟩
  ·cases h
 | .val g t::r,n,bs,vs,z,h=>by
   simp only[tE]at h
   split at h
   ·rename_i v vs
    split at h
    ·rename_i hg
     simp only[Option.bind_eq_some_iff]at h
     obtain⟨x,hx,y,hy,hz⟩:=h
     cases hz
     obtain⟨h1,h2⟩:=Dd hy
     refine⟨?_,h2⟩
     simp only[E5]
     rw[<-Ty.parse_cells hx,<-h1,<-hg]
    ·cases h
   ·cases h
 | .ptr t::r,n,bs,vs,z,h=>by
   simp only[tE]at h
   split at h
   ·rename_i b bs k vs
    split at h
    ·rename_i hk
     simp only[Option.bind_eq_some_iff]at h
     obtain⟨x,hx,y,hy,hz⟩:=h
     cases hz
     obtain⟨h1,h2⟩:=Dd hy
     refine⟨?_, ?_⟩
     ·simp only[E5];rw[<-h1,hk]
     ·simp only[Bi];rw[<-Ty.parse_cells hx,<-h2]
    ·cases h
   ·cases h
 | .fn::r,n,bs,vs,z,h=>by
   simp only[tE]at h
   split at h
   ·rename_i f vs
    simp only[Option.bind_eq_some_iff]at h
    obtain⟨y,hy,hz⟩:=h
    cases hz
    obtain⟨h1,h2⟩:=Dd hy
    refine⟨?_,h2⟩
    simp only[E5];rw[<-h1]
   ·cases h
def abx:List AT->Nat
 |[]=>0
 | .val _ _::r=>abx r
 | .ptr _::r=>abx r+1
 | .fn::r=>abx r
theorem xx:∀(as:List AT) (z:Rx as),(Bi as z).length=abx as
 |[],_=>rfl
 | .val _ _::r,z=>xx r z.2
 | .ptr _::r,z=>by simp[Bi,abx,xx r z.2]
 | .fn::r,z=>xx r z.2
def af.fn(as:List AT)(β:Type)(g:Rx as->Option β)(enc:β->AV):af:=
 {io:=[],β:=β,G:=fun bs vs=>(tE as 0 bs vs).bind g,enc:=fun b=>(enc b,[])}
def look(f:FuncId):List (FuncId×af)->Option af
 |[]=>none
 |p::r=>match Nat.beq p.1 f with
  |true=>some p.2
  |false=>look f r
def gN(C:gY)(t:List (FuncId×af))(e:Bool:=false):gY:={P:=C.P,ρ:=fun f=>look f t,glob:=C.glob,opt:=e}
theorem Ib.ctx{C C':gY}(hg:C.glob=C'.glob){g0:Gh}{w:World}{bs:List (List CV)}{vs:List Val}{args:List Value}{ms:List (List Nat)}(h:Ib C g0 w bs vs args ms):Ib C' g0 w bs vs args ms:=
 ⟨h.vals,h.free,h.boxes,h.bxs,h.old,h.new,fun k cs hk=>h.glob k cs (by rw[hg];exact hk)⟩
theorem Lj.ctx{C C':gY}(hg:C.glob=C'.glob){g0:Gh}{w:World}{bs:List (List CV)}{vs:List Val}{args:List Value}{bns:ZA}(h:Lj C g0 w bs vs args bns):Lj C' g0 w bs vs args bns:=
 ⟨h.vals,h.free,h.len,h.boxes,h.bxs,h.old,h.new,fun k cs hk=>h.glob k cs (by rw[hg];exact hk)⟩
theorem ag.ctx{C C':gY}(hP:C.P=C'.P)(hg:C.glob=C'.glob){f:FuncId}{c:af}(h:ag C f c):ag C' f c:=by
 unfold ag at h⊢
 split at h
 ·rename_i hc
  exact⟨hP▸h.1,fun g0 w bs vs args ms x hp hG=>hP▸h.2 g0 w bs vs args ms x (hp.ctx hg.symm) hG⟩
 ·rename_i hc
  exact⟨hP▸h.1,fun g0 w bs vs args ms x hp hG=>hP▸h.2 g0 w bs vs args ms x (hp.ctx hg.symm) hG⟩
def qd(C:gY)(t:List (FuncId×af)):Prop:=∀p,p∈t->ag C p.1 p.2
theorem qd.nil{C:gY}:qd C []:=fun _ h=>(List.not_mem_nil h).elim
theorem qd.cons{C:gY}{f:FuncId}{c:af}{t:List (FuncId×af)}(h:ag C f c)(h':qd C t):qd C ((f,c)::t):=by
 intro p hp
 rcases List.mem_cons.1 hp with rfl|hp
 ·exact h
 ·exact h' p hp
theorem qd.look{C:gY}:∀{t:List (FuncId×af)},qd C t->∀f c,Vai.look f t=some c->ag C f c
 |[],_,f,c,h=>by cases h
 |p::r,ha,f,c,h=>by
  simp only[Vai.look]at h
  split at h
  ·rename_i hb
   cases h
   have:=Nat.eq_of_beq_eq_true hb
   subst this
   exact ha p (by simp)
  ·exact qd.look (fun q hq=>ha q (by simp[hq])) f c h
theorem qd.rho{C:gY}{t:List (FuncId×af)}{e:Bool}(h:qd C t):∀f c,(gN C t e).ρ f=some c->ag (gN C t e) f c:=
 fun f c hc=>ag.ctx (C:=C) (C':=gN C t e) rfl rfl (h.look f c hc)
noncomputable def aX(f:Func):Code:=
 match f.body with
 |some c=>c
 |none=>.skip
theorem ag.fn{C:gY}{t:List (FuncId×af)}(hT:qd C t)(hm:C.P.follows .mixedOrders=true){fid:FuncId}{f:Func}(hf:C.P.funcs[fid]?=some f)(hb:f.body.isSome=true)
 (hname:(f.name== "runtime.NumGoroutine")=false) {as:List AT} {β:Type} {g:Rx as->Option β} {enc:β->AV} (h:fq (AV×List CV)) (fuel:Nat)
 (hH:ak (gN C t) ⟨f.ntmps,f.ntmps+abx as⟩ h fuel (ca (aX f)))
 (hrun:∀z x,g z=some x->Za (gN C t) h fuel f [] (Bi as z) (E5 as 0 z) (fun a cs=>some (a,cs))=some (enc x,[])):ag C fid (af.fn as β g enc):=by
 have hb:f.body=some (aX f):=by
  unfold aX
  cases h:f.body with
  |none=>rw[h]at hb;cases hb
  |some c=>rfl
 refine ag.ctx (C:=gN C t) (C':=C) rfl rfl (ag.of_run (C:=gN C t) hf hb hname rfl hm hT.rho ?_)
 intro bs vs (x:β) hG
 have hG:(tE as 0 bs vs).bind g=some x:=hG
 rw[Option.bind_eq_some_iff]at hG
 obtain⟨z,hz,hx⟩:=hG
 obtain⟨rfl,rfl⟩:=Dd hz
 exact⟨h,fuel,by rw[xx];exact hH,hrun z x hx⟩
def al{R:Type}:fq R:=⟨fun _=>⟨[],[],[],[]⟩,fun _=>none⟩
theorem ai{C:gY}{d:Tt}{R:Type}{fuel:Nat}{ls:List Code}:ak C d (al (R:=R)) fuel ls:=fun _ _ s hs=>by cases hs
theorem ak.nil{C:gY}{d:Tt}{R:Type}{h:fq R}{fuel:Nat}:ak C d h fuel []:=fun _ hb=>(List.not_mem_nil hb).elim
theorem ak.cons{C:gY}{d:Tt}{R:Type}{h:fq R}{fuel:Nat}{b:Code}{ls:List Code}{n:Nat}{lh:bN}{S:iV->(Ex->iV->Option R)->Option R}(hk:key b=n)(hlh:h.loop n=lh)(hs:h.sum n=some S)
 (hl:∀x k r,S x k=some r->∃N,bJ d lh (mU C d h fuel b) N x k=some r) (h2:ak C d h fuel ls):ak C d h fuel (b::ls):=by
 intro body hb s hs' x k r hr
 rcases List.mem_cons.1 hb with rfl|hb
 ·subst hk
  rw[hs]at hs'
  cases hs'
  rw[hlh]
  exact hl x k r hr
 ·exact h2 body hb s hs' x k r hr
end Go.Vai
