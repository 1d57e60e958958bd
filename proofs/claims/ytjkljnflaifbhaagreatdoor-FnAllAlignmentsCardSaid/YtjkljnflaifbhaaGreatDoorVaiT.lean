/- No conditions. -/
import Derived.Test.YtjkljnflaifbhaaGreatDoorVaiR
namespace Go.Vai
open Go
def Ty.parse:(t:Ty)->List CV->Option t.T
 | .int k,cs=>match cs with
   |[.v (.int k' n)]=>if k'=k then some n else none
   |_=>none
 | .bool,cs=>match cs with
   |[.v (.bool b)]=>some b
   |_=>none
 | .str,cs=>match cs with
   |[.v (.string s)]=>some s
   |_=>none
 | .unit,cs=>match cs with
   |[]=>some ()
   |_=>none
 | .pair a b,cs=>(a.parse (cs.take a.size)).bind fun x=>(b.parse (cs.drop a.size)).bind fun y=>some (x,y)
 | .slice t,cs=>match cs with
   |[.sl t' l]=>if h:t'=t then some (h▸l)else none
   |_=>none
theorem Ty.parse_cells:∀{t:Ty} {cs:List CV} {z:t.T},t.parse cs=some z->cs=t.cells z
 | .int k,cs,z,h=>by
   simp only[Ty.parse]at h
   split at h
   ·split at h
    ·rename_i e;cases h;subst e;rfl
    ·cases h
   ·cases h
 | .bool,cs,z,h=>by
   simp only[Ty.parse]at h
   split at h
   ·cases h;rfl
   ·cases h
 | .str,cs,z,h=>by
   simp only[Ty.parse]at h
   split at h
   ·cases h;rfl
   ·cases h
 | .unit,cs,z,h=>by
   simp only[Ty.parse]at h
   split at h
   ·rfl
   ·cases h
 | .pair a b,cs,z,h=>by
   simp only[Ty.parse,Option.bind_eq_some_iff]at h
   obtain⟨x,hx,y,hy,hz⟩:=h
   cases hz
   simp only[Ty.cells]
   rw[<-Ty.parse_cells hx,<-Ty.parse_cells hy,List.take_append_drop]
 | .slice t,cs,z,h=>by
   simp only[Ty.parse]at h
   split at h
   ·split at h
    ·rename_i e;subst e;cases h;rfl
    ·cases h
   ·cases h
inductive AT where
 |val (agg:Bool) (t:Ty)
 |ptr (t:Ty)
 |fn
def AT.T:AT->Type
 | .val _ t=>t.T
 | .ptr t=>t.T
 | .fn=>FuncId
def E5:List AT->Type
 |[]=>Unit
 |a::r=>a.T×E5 r
def vF:(as:List AT)->Nat->E5 as->List Val
 |[],_,_=>[]
 | .val g t::r,n,z=>⟨g,t.cells z.1⟩::vF r n z.2
 | .ptr _::r,n,z=>⟨false,[.ptr n 0]⟩::vF r (n+1) z.2
 | .fn::r,n,z=>⟨false,[.fn z.1 []]⟩::vF r n z.2
def rZ:(as:List AT)->E5 as->List (List CV)
 |[],_=>[]
 | .val _ _::r,z=>rZ r z.2
 | .ptr t::r,z=>t.cells z.1::rZ r z.2
 | .fn::r,z=>rZ r z.2
def mD:(as:List AT)->Nat->List (List CV)->List Val->Option (E5 as)
 |[],_,bs,vs=>match bs,vs with
  |[],[]=>some ()
  |_,_=>none
 | .val g t::r,n,bs,vs=>match vs with
   |v::vs=>if v.agg=g then(t.parse v.cs).bind fun x=>(mD r n bs vs).bind fun y=>some (x,y)else none
   |_=>none
 | .ptr t::r,n,bs,vs=>match bs,vs with
   |b::bs,⟨false,[.ptr k 0]⟩::vs=>if k=n then(t.parse b).bind fun x=>(mD r (n+1) bs vs).bind fun y=>some (x,y)else none
   |_,_=>none
 | .fn::r,n,bs,vs=>match vs with
   |⟨false,[.fn f []]⟩::vs=>(mD r n bs vs).bind fun y=>some (f,y)
   |_=>none
theorem tI:∀{as:List AT} {n:Nat} {bs:List (List CV)} {vs:List Val} {z:E5 as},mD as n bs vs=some z->vs=vF as n z/\bs=rZ as z
 |[],n,bs,vs,z,h=>by
  simp only[mD]at h
  split at h
  ·exact⟨rfl,rfl⟩
  ·cases h
 | .val g t::r,n,bs,vs,z,h=>by
   simp only[mD]at h
   split at h
   ·rename_i v vs
    split at h
    ·rename_i hg
     simp only[Option.bind_eq_some_iff]at h
     obtain⟨x,hx,y,hy,hz⟩:=h
     cases hz
     obtain⟨h1,h2⟩:=tI hy
     refine⟨?_,h2⟩
     simp only[vF]
     rw[<-Ty.parse_cells hx,<-h1,<-hg]
    ·cases h
   ·cases h
 | .ptr t::r,n,bs,vs,z,h=>by
   simp only[mD]at h
   split at h
   ·rename_i b bs k vs
    split at h
    ·rename_i hk
     simp only[Option.bind_eq_some_iff]at h
     obtain⟨x,hx,y,hy,hz⟩:=h
     cases hz
     obtain⟨h1,h2⟩:=tI hy
     refine⟨?_, ?_⟩
     ·simp only[vF];rw[<-h1,hk]
     ·simp only[rZ];rw[<-Ty.parse_cells hx,<-h2]
    ·cases h
   ·cases h
 | .fn::r,n,bs,vs,z,h=>by
   simp only[mD]at h
   split at h
   ·rename_i f vs
    simp only[Option.bind_eq_some_iff]at h
    obtain⟨y,hy,hz⟩:=h
    cases hz
    obtain⟨h1,h2⟩:=tI hy
    refine⟨?_,h2⟩
    simp only[vF];rw[<-h1]
   ·cases h
def MD:List AT->Nat
 |[]=>0
 | .val _ _::r=>MD r
 | .ptr _::r=>MD r+1
 | .fn::r=>MD r
theorem lW:∀(as:List AT) (z:E5 as),(rZ as z).length=MD as
 |[],_=>rfl
 | .val _ _::r,z=>lW r z.2
 | .ptr _::r,z=>by simp[rZ,MD,lW r z.2]
 | .fn::r,z=>lW r z.2
def af.fn(as:List AT)(β:Type)(g:E5 as->Option β)(enc:β->AV):af:=
 {io:=[],β:=β,G:=fun bs vs=>(mD as 0 bs vs).bind g,enc:=fun b=>(enc b,[])}
def look(f:FuncId):List (FuncId×af)->Option af
 |[]=>none
 |p::r=>match Nat.beq p.1 f with
  |true=>some p.2
  |false=>look f r
def om(C:eo)(t:List (FuncId×af))(e:Bool:=false):eo:={P:=C.P,ρ:=fun f=>look f t,glob:=C.glob,opt:=e}
theorem tZ.ctx{C C':eo}(hg:C.glob=C'.glob){g0:Gh}{w:World}{bs:List (List CV)}{vs:List Val}{args:List Value}{ms:List (List Nat)}(h:tZ C g0 w bs vs args ms):tZ C' g0 w bs vs args ms:=
 ⟨h.vals,h.free,h.boxes,h.bxs,h.old,h.new,fun k cs hk=>h.glob k cs (by rw[hg];exact hk)⟩
theorem Al.ctx{C C':eo}(hg:C.glob=C'.glob){g0:Gh}{w:World}{bs:List (List CV)}{vs:List Val}{args:List Value}{bns:LY}(h:Al C g0 w bs vs args bns):Al C' g0 w bs vs args bns:=
 ⟨h.vals,h.free,h.len,h.boxes,h.bxs,h.old,h.new,fun k cs hk=>h.glob k cs (by rw[hg];exact hk)⟩
theorem ag.ctx{C C':eo}(hP:C.P=C'.P)(hg:C.glob=C'.glob){f:FuncId}{c:af}(h:ag C f c):ag C' f c:=by
 unfold ag at h⊢
 split at h
 ·rename_i hc
  exact⟨hP▸h.1,fun g0 w bs vs args ms x hp hG=>hP▸h.2 g0 w bs vs args ms x (hp.ctx hg.symm) hG⟩
 ·rename_i hc
  exact⟨hP▸h.1,fun g0 w bs vs args ms x hp hG=>hP▸h.2 g0 w bs vs args ms x (hp.ctx hg.symm) hG⟩
def kr(C:eo)(t:List (FuncId×af)):Prop:=∀p,p∈t->ag C p.1 p.2
theorem kr.nil{C:eo}:kr C []:=fun _ h=>(List.not_mem_nil h).elim
theorem kr.cons{C:eo}{f:FuncId}{c:af}{t:List (FuncId×af)}(h:ag C f c)(h':kr C t):kr C ((f,c)::t):=by
 intro p hp
 rcases List.mem_cons.1 hp with rfl|hp
 ·exact h
 ·exact h' p hp
theorem kr.look{C:eo}:∀{t:List (FuncId×af)},kr C t->∀f c,Vai.look f t=some c->ag C f c
 |[],_,f,c,h=>by cases h
 |p::r,ha,f,c,h=>by
  simp only[Vai.look]at h
  split at h
  ·rename_i hb
   cases h
   have:=Nat.eq_of_beq_eq_true hb
   subst this
   exact ha p (by simp)
  ·exact kr.look (fun q hq=>ha q (by simp[hq])) f c h
theorem kr.rho{C:eo}{t:List (FuncId×af)}{e:Bool}(h:kr C t):∀f c,(om C t e).ρ f=some c->ag (om C t e) f c:=
 fun f c hc=>ag.ctx (C:=C) (C':=om C t e) rfl rfl (h.look f c hc)
noncomputable def cu(f:Func):Code:=
 match f.body with
 |some c=>c
 |none=>.skip
theorem ag.fn{C:eo}{t:List (FuncId×af)}(hT:kr C t)(hm:C.P.follows .mixedOrders=true){fid:FuncId}{f:Func}(hf:C.P.funcs[fid]?=some f)(hb:f.body.isSome=true)
 (hname:(f.name== "runtime.NumGoroutine")=false) {as:List AT} {β:Type} {g:E5 as->Option β} {enc:β->AV} (h:iG (AV×List CV)) (fuel:Nat)
 (hH:bC (om C t) ⟨f.ntmps,f.ntmps+MD as⟩ h fuel (fe (cu f)))
 (hJ:ep (om C t) ⟨f.ntmps,f.ntmps+MD as⟩ h fuel (ti (cu f)))
 (hrun:∀z x,g z=some x->Lu (om C t) h fuel f [] (rZ as z) (vF as 0 z) (fun a cs=>some (a,cs))=some (enc x,[])):ag C fid (af.fn as β g enc):=by
 have hb:f.body=some (cu f):=by
  unfold cu
  cases h:f.body with
  |none=>rw[h]at hb;cases hb
  |some c=>rfl
 refine ag.ctx (C:=om C t) (C':=C) rfl rfl (ag.of_run (C:=om C t) hf hb hname rfl hm hT.rho ?_)
 intro bs vs (x:β) hG
 have hG:(mD as 0 bs vs).bind g=some x:=hG
 rw[Option.bind_eq_some_iff]at hG
 obtain⟨z,hz,hx⟩:=hG
 obtain⟨rfl,rfl⟩:=tI hz
 exact⟨h,fuel,by rw[lW];exact hH,by rw[lW];exact hJ,hrun z x hx⟩
def aG{R:Type}:iG R:=⟨fun _=>⟨[],[],[],[]⟩,fun _=>none⟩
theorem ai{C:eo}{d:zc}{R:Type}{fuel:Nat}{ls:List Code}:bC C d (aG (R:=R)) fuel ls:=fun _ _ s hs=>by cases hs
theorem rP{C:eo}{d:zc}{R:Type}{fuel:Nat}{ls:List Code}:ep C d (aG (R:=R)) fuel ls:=fun _ _ s hs=>by cases hs
theorem ep.free{C:eo}{d:zc}{R:Type}{h:iG R}{fuel:Nat}{ls:List Code}(hl:(ls.all fun y=>(h.sum (sF y)).isNone)=true):ep C d h fuel ls:=by
 intro y hy s hs
 have:=List.all_eq_true.1 hl y hy
 rw[hs]at this
 cases this
theorem ep.pick{C:eo}{d:zc}{R:Type}{h:iG R}{fuel:Nat}{ls ls':List Code}(hl:(ls.filter fun y=>(h.sum (sF y)).isSome)=ls')(h2:ep C d h fuel ls'):ep C d h fuel ls:=by
 intro y hy s hs x k r hr
 refine h2 y ?_ s hs x k r hr
 rw[<-hl,List.mem_filter]
 exact⟨hy,by rw[hs];rfl⟩
theorem ep.nil{C:eo}{d:zc}{R:Type}{h:iG R}{fuel:Nat}:ep C d h fuel []:=fun _ hb=>(List.not_mem_nil hb).elim
theorem ep.cons{C:eo}{d:zc}{R:Type}{h:iG R}{fuel:Nat}{b:Code}{ls:List Code}{n:Nat}{lh:dz}{S:kf->(Ex->kf->Option R)->Option R}(hk:sF b=n)(hlh:h.loop n=lh)(hs:h.sum n=some S)
 (hl:∀x k r,S x k=some r->vt C d h fuel b (d.back lh.s lh.b x) (fun e st=>k e (st.live lh.s' lh.b'))=some r) (h2:ep C d h fuel ls):ep C d h fuel (b::ls):=by
 intro y hb s hs' x k r hr
 rcases List.mem_cons.1 hb with rfl|hb
 ·subst hk
  rw[hs]at hs'
  cases hs'
  rw[hlh]
  exact hl x k r hr
 ·exact h2 y hb s hs' x k r hr
theorem bC.nil{C:eo}{d:zc}{R:Type}{h:iG R}{fuel:Nat}:bC C d h fuel []:=fun _ hb=>(List.not_mem_nil hb).elim
theorem bC.cons{C:eo}{d:zc}{R:Type}{h:iG R}{fuel:Nat}{b:Code}{ls:List Code}{n:Nat}{lh:dz}{S:kf->(Ex->kf->Option R)->Option R}(hk:key b=n)(hlh:h.loop n=lh)(hs:h.sum n=some S)
 (hl:∀x k r,S x k=some r->∃N,eg d lh (vt C d h fuel b) N x k=some r) (h2:bC C d h fuel ls):bC C d h fuel (b::ls):=by
 intro body hb s hs' x k r hr
 rcases List.mem_cons.1 hb with rfl|hb
 ·subst hk
  rw[hs]at hs'
  cases hs'
  rw[hlh]
  exact hl x k r hr
 ·exact h2 body hb s hs' x k r hr
end Go.Vai
