/- No conditions. -/
import Derived.Test.YtjkljnflaifbhaaGreatDoorVaiL
namespace Go.Vai
open Go
inductive AX where
 |val (agg:Bool) (t:Ty)
 |ptr (t:Ty)
 |clo (f:FuncId) (ts:List Ty)
 |io (t:Ty)
 |ios (g:Bool) (ts:List Ty)
 |mix (g:Bool) (s:List CS)
 |rw (s:List CS)
 |clw (f:FuncId) (ss:List (List CS))
@[reducible] def Pj:List Ty->Type
 |[]=>Unit
 |t::r=>List t.T×Pj r
def Di:(ts:List Ty)->Pj ts->List CV
 |[],_=>[]
 |t::r,z=>.own t z.1::Di r z.2
def zB:(ts:List Ty)->List CV->Option (Pj ts)
 |[],cs=>match cs with
  |[]=>some ()
  |_=>none
 |t::r,cs=>match cs with
  | .own t' l::cs=>if h:t'=t then(zB r cs).bind fun y=>some (h▸l,y)else none
  |_=>none
theorem Fm:∀{ts:List Ty} {cs:List CV} {z:Pj ts},zB ts cs=some z->cs=Di ts z
 |[],cs,z,h=>by
  simp only[zB]at h
  split at h
  ·rfl
  ·cases h
 |t::r,cs,z,h=>by
  simp only[zB]at h
  split at h
  ·rename_i t' l cs
   split at h
   ·rename_i e
    subst e
    simp only[Option.bind_eq_some_iff]at h
    obtain⟨y,hy,hz⟩:=h
    cases hz
    simp only[Di];rw[<-Fm hy]
   ·cases h
  ·cases h
@[reducible] def NN:List (List CS)->Type
 |[]=>Unit
 |s::r=>P7 s×NN r
@[reducible] def Oo:List Ty->Type
 |[]=>Unit
 |t::r=>t.T×Oo r
@[reducible] def AX.T:AX->Type
 | .val _ t=>t.T
 | .ptr t=>t.T
 | .clo _ ts=>Oo ts
 | .io t=>List t.T
 | .ios _ ts=>Pj ts
 | .mix _ s=>P7 s
 | .rw s=>P7 s
 | .clw _ ss=>NN ss
@[reducible] def ql:List AX->Type
 |[]=>Unit
 |a::r=>a.T×ql r
def Mk:Nat->List Ty->List (Nat×Nat)
 |_,[]=>[]
 |n,_::r=>(n,0)::Mk (n+1) r
def JV:Nat->List (List CS)->List (Nat×Nat)
 |_,[]=>[]
 |n,_::r=>(n,0)::JV (n+1) r
def wQ:(ss:List (List CS))->NN ss->List (List CV)
 |[],_=>[]
 |s::r,z=>JX s z.1::wQ r z.2
def xz:(ts:List Ty)->Oo ts->List (List CV)
 |[],_=>[]
 |t::r,z=>t.cells z.1::xz r z.2
def oo:(as:List AX)->Nat->ql as->List Val
 |[],_,_=>[]
 | .val g t::r,n,z=>⟨g,t.cells z.1⟩::oo r n z.2
 | .ptr _::r,n,z=>⟨false,[.ptr n 0]⟩::oo r (n+1) z.2
 | .clo f ts::r,n,z=>⟨false,[.fn f (Mk n ts)]⟩::oo r (n+ts.length) z.2
 | .io t::r,n,z=>⟨false,[.own t z.1]⟩::oo r n z.2
 | .ios g ts::r,n,z=>⟨g,Di ts z.1⟩::oo r n z.2
 | .mix g s::r,n,z=>⟨g,JX s z.1⟩::oo r n z.2
 | .rw _::r,n,z=>⟨false,[.ptr n 0]⟩::oo r (n+1) z.2
 | .clw f ss::r,n,z=>⟨false,[.fn f (JV n ss)]⟩::oo r (n+ss.length) z.2
def kV:(as:List AX)->ql as->List (List CV)
 |[],_=>[]
 | .val _ _::r,z=>kV r z.2
 | .ptr t::r,z=>t.cells z.1::kV r z.2
 | .clo _ ts::r,z=>xz ts z.1++kV r z.2
 | .io _::r,z=>kV r z.2
 | .ios _ _::r,z=>kV r z.2
 | .mix _ _::r,z=>kV r z.2
 | .rw s::r,z=>JX s z.1::kV r z.2
 | .clw _ ss::r,z=>wQ ss z.1++kV r z.2
def CL:(ss:List (List CS))->List (List CV)->Option (NN ss×List (List CV))
 |[],bs=>some ((),bs)
 |s::r,bs=>match bs with
  |b::bs=>(rI s b).bind fun x=>(CL r bs).bind fun y=>some ((x,y.1),y.2)
  |[]=>none
theorem Fe:∀{ss:List (List CS)} {bs:List (List CV)} {z:NN ss×List (List CV)},CL ss bs=some z->bs=wQ ss z.1++z.2
 |[],bs,z,h=>by cases h;rfl
 |s::r,bs,z,h=>by
  simp only[CL]at h
  split at h
  ·rename_i b bs
   simp only[Option.bind_eq_some_iff]at h
   obtain⟨x,hx,y,hy,hz⟩:=h
   cases hz
   simp only[wQ,List.cons_append]
   rw[<-pG hx,<-Fe hy]
  ·cases h
def D1:(ts:List Ty)->List (List CV)->Option (Oo ts×List (List CV))
 |[],bs=>some ((),bs)
 |t::r,bs=>match bs with
  |b::bs=>(t.parse b).bind fun x=>(D1 r bs).bind fun y=>some ((x,y.1),y.2)
  |[]=>none
theorem FK:∀{ts:List Ty} {bs:List (List CV)} {z:Oo ts×List (List CV)},D1 ts bs=some z->bs=xz ts z.1++z.2
 |[],bs,z,h=>by cases h;rfl
 |t::r,bs,z,h=>by
  simp only[D1]at h
  split at h
  ·rename_i b bs
   simp only[Option.bind_eq_some_iff]at h
   obtain⟨x,hx,y,hy,hz⟩:=h
   cases hz
   simp only[xz,List.cons_append]
   rw[<-Ty.parse_cells hx,<-FK hy]
  ·cases h
def eX:(as:List AX)->Nat->List (List CV)->List Val->Option (ql as)
 |[],_,bs,vs=>match bs,vs with
  |[],[]=>some ()
  |_,_=>none
 | .val g t::r,n,bs,vs=>match vs with
   |v::vs=>if v.agg=g then(t.parse v.cs).bind fun x=>(eX r n bs vs).bind fun y=>some (x,y)else none
   |_=>none
 | .ptr t::r,n,bs,vs=>match bs,vs with
   |b::bs,⟨false,[.ptr k 0]⟩::vs=>if k=n then(t.parse b).bind fun x=>(eX r (n+1) bs vs).bind fun y=>some (x,y)else none
   |_,_=>none
 | .clo f ts::r,n,bs,vs=>match vs with
   |⟨false,[.fn f' caps]⟩::vs=>if f'=f/\caps=Mk n ts then(D1 ts bs).bind fun x=>(eX r (n+ts.length) x.2 vs).bind fun y=>some (x.1,y)else none
   |_=>none
 | .io t::r,n,bs,vs=>match vs with
   |⟨false,[.own t' l]⟩::vs=>if h:t'=t then(eX r n bs vs).bind fun y=>some (h▸l,y)else none
   |_=>none
 | .ios g ts::r,n,bs,vs=>match vs with
   |v::vs=>if v.agg=g then(zB ts v.cs).bind fun x=>(eX r n bs vs).bind fun y=>some (x,y)else none
   |_=>none
 | .mix g s::r,n,bs,vs=>match vs with
   |v::vs=>if v.agg=g then(rI s v.cs).bind fun x=>(eX r n bs vs).bind fun y=>some (x,y)else none
   |_=>none
 | .rw s::r,n,bs,vs=>match bs,vs with
   |b::bs,⟨false,[.ptr k 0]⟩::vs=>if k=n then(rI s b).bind fun x=>(eX r (n+1) bs vs).bind fun y=>some (x,y)else none
   |_,_=>none
 | .clw f ss::r,n,bs,vs=>match vs with
   |⟨false,[.fn f' caps]⟩::vs=>if f'=f/\caps=JV n ss then(CL ss bs).bind fun x=>(eX r (n+ss.length) x.2 vs).bind fun y=>some (x.1,y)else none
   |_=>none
theorem iS:∀{as:List AX} {n:Nat} {bs:List (List CV)} {vs:List Val} {z:ql as},eX as n bs vs=some z->vs=oo as n z/\bs=kV as z
 |[],n,bs,vs,z,h=>by
  simp only[eX]at h
  split at h
  ·exact⟨rfl,rfl⟩
  ·cases h
 | .val g t::r,n,bs,vs,z,h=>by
   simp only[eX]at h
   split at h
   ·rename_i v vs
    split at h
    ·rename_i hg
     simp only[Option.bind_eq_some_iff]at h
     obtain⟨x,hx,y,hy,hz⟩:=h
     cases hz
     obtain⟨h1,h2⟩:=iS hy
     refine⟨?_,h2⟩
     simp only[oo]
     rw[<-Ty.parse_cells hx,<-h1,<-hg]
    ·cases h
   ·cases h
 | .ptr t::r,n,bs,vs,z,h=>by
   simp only[eX]at h
   split at h
   ·rename_i b bs k vs
    split at h
    ·rename_i hk
     simp only[Option.bind_eq_some_iff]at h
     obtain⟨x,hx,y,hy,hz⟩:=h
     cases hz
     obtain⟨h1,h2⟩:=iS hy
     refine⟨?_, ?_⟩
     ·simp only[oo];rw[<-h1,hk]
     ·simp only[kV];rw[<-Ty.parse_cells hx,<-h2]
    ·cases h
   ·cases h
 | .clo f ts::r,n,bs,vs,z,h=>by
   simp only[eX]at h
   split at h
   ·rename_i f' caps vs
    split at h
    ·rename_i hk
     obtain⟨rfl,rfl⟩:=hk
     simp only[Option.bind_eq_some_iff]at h
     obtain⟨x,hx,y,hy,hz⟩:=h
     cases hz
     obtain⟨h1,h2⟩:=iS hy
     refine⟨?_, ?_⟩
     ·simp only[oo];rw[<-h1]
     ·simp only[kV];rw[<-h2,<-FK hx]
    ·cases h
   ·cases h
 | .io t::r,n,bs,vs,z,h=>by
   simp only[eX]at h
   split at h
   ·rename_i t' l vs
    split at h
    ·rename_i e
     subst e
     simp only[Option.bind_eq_some_iff]at h
     obtain⟨y,hy,hz⟩:=h
     cases hz
     obtain⟨h1,h2⟩:=iS hy
     refine⟨?_,h2⟩
     simp only[oo];rw[<-h1]
    ·cases h
   ·cases h
 | .ios g ts::r,n,bs,vs,z,h=>by
   simp only[eX]at h
   split at h
   ·rename_i v vs
    split at h
    ·rename_i hg
     simp only[Option.bind_eq_some_iff]at h
     obtain⟨x,hx,y,hy,hz⟩:=h
     cases hz
     obtain⟨h1,h2⟩:=iS hy
     refine⟨?_,h2⟩
     simp only[oo]
     rw[<-Fm hx,<-h1,<-hg]
    ·cases h
   ·cases h
 | .mix g s::r,n,bs,vs,z,h=>by
   simp only[eX]at h
   split at h
   ·rename_i v vs
    split at h
    ·rename_i hg
     simp only[Option.bind_eq_some_iff]at h
     obtain⟨x,hx,y,hy,hz⟩:=h
     cases hz
     obtain⟨h1,h2⟩:=iS hy
     refine⟨?_,h2⟩
     simp only[oo]
     rw[<-pG hx,<-h1,<-hg]
    ·cases h
   ·cases h
 | .rw s::r,n,bs,vs,z,h=>by
   simp only[eX]at h
   split at h
   ·rename_i b bs k vs
    split at h
    ·rename_i hk
     simp only[Option.bind_eq_some_iff]at h
     obtain⟨x,hx,y,hy,hz⟩:=h
     cases hz
     obtain⟨h1,h2⟩:=iS hy
     refine⟨?_, ?_⟩
     ·simp only[oo];rw[<-h1,hk]
     ·simp only[kV];rw[<-pG hx,<-h2]
    ·cases h
   ·cases h
 | .clw f ss::r,n,bs,vs,z,h=>by
   simp only[eX]at h
   split at h
   ·rename_i f' caps vs
    split at h
    ·rename_i hk
     obtain⟨rfl,rfl⟩:=hk
     simp only[Option.bind_eq_some_iff]at h
     obtain⟨x,hx,y,hy,hz⟩:=h
     cases hz
     obtain⟨h1,h2⟩:=iS hy
     refine⟨?_, ?_⟩
     ·simp only[oo];rw[<-h1]
     ·simp only[kV];rw[<-h2,<-Fe hx]
    ·cases h
   ·cases h
def wF:List AX->Nat
 |[]=>0
 | .val _ _::r=>wF r
 | .ptr _::r=>wF r+1
 | .clo _ ts::r=>ts.length+wF r
 | .io _::r=>wF r
 | .ios _ _::r=>wF r
 | .mix _ _::r=>wF r
 | .rw _::r=>wF r+1
 | .clw _ ss::r=>ss.length+wF r
theorem yj:∀(ss:List (List CS)) (z:NN ss),(wQ ss z).length=ss.length
 |[],_=>rfl
 |t::r,z=>by simp[wQ,yj r z.2]
theorem yI:∀(ts:List Ty) (z:Oo ts),(xz ts z).length=ts.length
 |[],_=>rfl
 |t::r,z=>by simp[xz,yI r z.2]
theorem dP:∀(as:List AX) (z:ql as),(kV as z).length=wF as
 |[],_=>rfl
 | .val _ _::r,z=>dP r z.2
 | .ptr t::r,z=>by simp[kV,wF,dP r z.2]
 | .clo _ ts::r,z=>by
   simp only[kV,wF,List.length_append,dP r z.2]
   exact congrArg (·+wF r) (yI ts z.1)
 | .io _::r,z=>dP r z.2
 | .ios _ _::r,z=>dP r z.2
 | .mix _ _::r,z=>dP r z.2
 | .rw s::r,z=>by simp[kV,wF,dP r z.2]
 | .clw _ ss::r,z=>by
   simp only[kV,wF,List.length_append,dP r z.2]
   exact congrArg (·+wF r) (yj ss z.1)
def AX.lentTo:AX->Bool
 | .io _=>true
 | .ios _ _=>true
 | .mix _ _=>true
 |_=>false
def Er(as:List AX):List Bool:=
 match as.any AX.lentTo with
 |true=>as.map AX.lentTo
 |false=>[]
def af.fx(as:List AX)(β:Type)(g:ql as->Option β)(enc:β->AV×List CV)(alt:{R:Type}->β->(β->Option R)->Option R:=fun x k=>k x)(altOk:∀{R:Type} (x:β) (k:β->Option R),alt x k=k x:=by intros;rfl):af:=
 {io:=Er as,β:=β,G:=fun bs vs=>(eX as 0 bs vs).bind g,enc:=enc,alt:=alt,altOk:=altOk}
noncomputable def Rs{A B:Type}{R:Sort 1}(x:A⊕B)(f:A->R)(g:B->R):R:=Sum.rec f g x
def SI{A:Type}{R:Type}(x:A)(k:A->Option R):Option R:=k x
noncomputable def Sx{A B:Type}(f:{R:Type}->B->(B->Option R)->Option R){R:Type}(x:A⊕B)(k:A⊕B->Option R):Option R:=Rs x (fun a=>k (.inl a)) fun b=>f b fun b=>k (.inr b)
theorem Se{A B:Type}{f:{R:Type}->B->(B->Option R)->Option R}(hf:∀{R:Type} (x:B) (k:B->Option R),f x k=k x){R:Type}(x:A⊕B)(k:A⊕B->Option R):Sx @f x k=k x:=by
 cases x with
 |inl a=>rfl
 |inr b=>exact hf b _
theorem Sm{A B R Q:Type}{f:A->Option Q}{g:B->Option Q}{f':A->Option R}{g':B->Option R}{k:R->Option Q}(hf:∀a,f a=(f' a).bind k)(hg:∀b,g b=(g' b).bind k)(x:A⊕B):Rs x f g=(Rs x f' g').bind k:=by
 cases x with
 |inl a=>exact hf a
 |inr b=>exact hg b
abbrev Rv:=AV×List CV
abbrev K2:AV->List CV->Option Rv:=fun a cs=>some (a,cs)
theorem ag.fx{C:eo}{t:List (FuncId×af)}{e:Bool}(hT:kr C t)(hm:C.P.follows .mixedOrders=true){fid:FuncId}{f:Func}(hf:C.P.funcs[fid]?=some f)(hb:f.body.isSome=true)
 (hname:(f.name== "runtime.NumGoroutine")=false) {as:List AX} {β:Type} {g:ql as->Option β} {enc:β->AV×List CV} {alt:{R:Type}->β->(β->Option R)->Option R} {altOk:∀{R:Type} (x:β) (k:β->Option R),alt x k=k x} (h:iG Rv) (fuel:Nat)
 (hH:bC (om C t e) ⟨f.ntmps,f.ntmps+wF as⟩ h fuel (fe (cu f)))
 (hrun:∀z,Lu (om C t e) h fuel f (Er as) (kV as z) (oo as 0 z) K2=(g z).bind fun b=>some (enc b))
 (hJ:ep (om C t e) ⟨f.ntmps,f.ntmps+wF as⟩ h fuel (ti (cu f)):=by first|exact rP|exact ep.free (by kernel_rfl)):ag C fid (af.fx as β g enc @alt @altOk):=by
 have hb:f.body=some (cu f):=by
  unfold cu
  cases h:f.body with
  |none=>rw[h]at hb;cases hb
  |some c=>rfl
 refine ag.ctx (C:=om C t e) (C':=C) rfl rfl (ag.of_run (C:=om C t e) hf hb hname rfl hm hT.rho ?_)
 intro bs vs (x:β) hG
 have hG:(eX as 0 bs vs).bind g=some x:=hG
 rw[Option.bind_eq_some_iff]at hG
 obtain⟨z,hz,hx⟩:=hG
 obtain⟨rfl,rfl⟩:=iS hz
 refine⟨h,fuel,by rw[dP];exact hH,by rw[dP];exact hJ, ?_⟩
 have:=hrun z
 rw[hx]at this
 exact this
abbrev K3:AV->List CV->Option Rv:=fun a cs=>some (a,cs.map fun _=>.undef)
theorem ag.fxTake{C:eo}{t:List (FuncId×af)}{e:Bool}(hT:kr C t)(hm:C.P.follows .mixedOrders=true){fid:FuncId}{f:Func}(hf:C.P.funcs[fid]?=some f)(hb:f.body.isSome=true)
 (hname:(f.name== "runtime.NumGoroutine")=false) {as:List AX} {β:Type} {g:ql as->Option β} {enc:β->AV×List CV} {alt:{R:Type}->β->(β->Option R)->Option R} {altOk:∀{R:Type} (x:β) (k:β->Option R),alt x k=k x} (h:iG Rv) (fuel:Nat)
 (hH:bC (om C t e) ⟨f.ntmps,f.ntmps+wF as⟩ h fuel (fe (cu f)))
 (hrun:∀z,Lu (om C t e) h fuel f (Er as) (kV as z) (oo as 0 z) K3=(g z).bind fun b=>some (enc b))
 (hJ:ep (om C t e) ⟨f.ntmps,f.ntmps+wF as⟩ h fuel (ti (cu f)):=by first|exact rP|exact ep.free (by kernel_rfl)):ag C fid (af.fx as β g enc @alt @altOk):=by
 have hb:f.body=some (cu f):=by
  unfold cu
  cases h:f.body with
  |none=>rw[h]at hb;cases hb
  |some c=>rfl
 refine ag.ctx (C:=om C t e) (C':=C) rfl rfl (ag.of_runTake (C:=om C t e) hf hb hname rfl hm hT.rho ?_)
 intro bs vs (x:β) hG
 have hG:(eX as 0 bs vs).bind g=some x:=hG
 rw[Option.bind_eq_some_iff]at hG
 obtain⟨z,hz,hx⟩:=hG
 obtain⟨rfl,rfl⟩:=iS hz
 refine⟨h,fuel,by rw[dP];exact hH,by rw[dP];exact hJ, ?_⟩
 have:=hrun z
 rw[hx]at this
 exact this
def af.emptyS(t:Ty):af:=
 {io:=[],β:=Unit,
  G:=fun bs vs=>match bs,vs with
   |[],[⟨false,[.v (.slice _ 0 _)]⟩]=>some ()
   |_,_=>none
  enc:=fun _=>(.one ⟨false,[.own t []]⟩,[])}
theorem ag.orEmpty{C:eo}{f:FuncId}{t:Ty}{g:ql [.val false (.slice t)]->Option (List t.T)}(h1:ag C f (af.fx [.val false (.slice t)] (List t.T) g (fun b=>(.one ⟨false,[.own t b]⟩,[]))))
 {g':List t.T->Option (List t.T)} (hg:∀l y,g' l=some y->l≠ []->g (l,())=some y) (h0:∀y,g' []=some y->y=[]) (h2:ag C f (af.emptyS t)):
 ag C f (af.fx [.val false (.slice t)] (List t.T) (fun z=>g' z.1) (fun b=>(.one ⟨false,[.own t b]⟩,[]))):=by
 have h1:=h1.r rfl
 have h2:=h2.r rfl
 refine ua.s rfl ⟨h1.1,fun g0 w bs vs args ms (x:List t.T) hP hG=> ?_⟩
 have hG:(eX [.val false (.slice t)] 0 bs vs).bind (fun z=>g' z.1)=some x:=hG
 obtain⟨z,hz,hx⟩:=Option.bind_eq_some_iff.1 hG
 obtain⟨l,u⟩:=z
 have hx:g' l=some x:=hx
 by_cases hl:l=[]
 ·subst hl
  obtain rfl:=h0 x hx
  obtain⟨rfl,rfl⟩:=iS hz
  obtain⟨v,vs',m,ms',rfl,rfl,hv,hr⟩:=hP.vals
  obtain⟨rfl,rfl⟩:=hr
  have hv':bD g0 w [.sl t []] [v] m:=hv
  obtain⟨v',vs',m',ms',e1,rfl,hF,hn⟩:=hv'
  cases e1
  obtain⟨_,rfl⟩:=hn
  obtain⟨rfl,hF⟩:=hF
  obtain⟨A,cap,hA,_⟩:=hF (.slot 0 0 0)
  simp only[List.cons.injEq,and_true,List.length_nil]at hA
  subst hA
  exact h2.2 g0 w [] [⟨false,[.v (.slice A 0 cap)]⟩] _ _ () {hP with vals:=⟨_,[],_,[],rfl,rfl,⟨_,[],[],[],rfl,rfl,⟨rfl,fun _=>rfl⟩,rfl,rfl⟩,rfl,rfl⟩} rfl
 ·refine h1.2 g0 w bs vs args ms x hP ?_
  show(eX [.val false (.slice t)] 0 bs vs).bind g=some x
  rw[hz]
  exact hg l x hx hl
theorem ag.emptyRun{C:eo}{t:Ty}(hm:C.P.follows .mixedOrders=true){fid:FuncId}{f:Func}(hf:C.P.funcs[fid]?=some f)(hb:f.body.isSome=true)(hname:(f.name== "runtime.NumGoroutine")=false)(hρ:∀f,C.ρ f=none)
 (hrun:∀A c,Lu C aG 1 f [] [] [⟨false,[.v (.slice A 0 c)]⟩] K2=some (.one ⟨false,[.own t []]⟩,[])):ag C fid (af.emptyS t):=by
 have hb:f.body=some (cu f):=by
  unfold cu
  cases h:f.body with
  |none=>rw[h]at hb;cases hb
  |some c=>rfl
 refine ag.of_run hf hb hname rfl hm (fun f c h=>by rw[hρ]at h;cases h) ?_
 intro bs vs x hG
 refine⟨aG,1,ai,rP, ?_⟩
 unfold af.emptyS at hG x⊢
 simp only at hG
 split at hG
 ·exact hrun _ _
 ·cases hG
theorem E4{ax:List AX}{β:Type}{g:ql ax->Option β}{enc:β->AV×List CV}{vs:List Val}{z:ql ax}{b:β}(h:eX ax 0 [] vs=some z)(hg:g z=some b):(af.fx ax β g enc).G [] vs=some b:=by
 show(eX ax 0 [] vs).bind g=some b
 rw[h];exact hg
@[reducible] def ma(R:Type):List (Ex×LS)->Type
 |[]=>Unit
 |x::r=>(x.2.T->Option R)×ma R r
def sj{R:Type}:(xs:List (Ex×LS))->ma R xs->wL xs->Option R
 |[],_,z=>nomatch z
 |_::r,h,z=>match z with
  | .inl z=>h.1 z
  | .inr z=>sj r h.2 z
def rf{R:Type}:(xs:List (Ex×LS))->(wL xs->Option R)->ma R xs
 |[],_=>()
 |_::r,f=>(fun z=>f (.inl z),rf r (fun z=>f (.inr z)))
def hK{R:Type}(k:Ex->kf->Option R):(xs:List (Ex×LS))->ma R xs
 |[]=>()
 |x::r=>(fun z=>k x.1 (x.2.enc z),hK k r)
theorem Mp{R:Type}{k:Ex->kf->Option R}:∀(xs:List (Ex×LS)) (z:wL xs),sj xs (hK k xs) z=RD k xs z
 |[],z=>nomatch z
 |_::_, .inl _=>rfl
 |_::r, .inr z=>Mp r z
theorem M4{R:Type}:∀(xs:List (Ex×LS)) (f:wL xs->Option R) (z:wL xs),sj xs (rf xs f) z=f z
 |[],_,z=>nomatch z
 |_::_,_, .inl _=>rfl
 |_::r,_, .inr z=>M4 r _ z
section
variable {s:LS} {xs:List (Ex×LS)} (T:(R:Type)->(s.T->Option R)->ma R xs->s.T->Option R)
def AH(z:s.T):Option (s.T⊕wL xs):=T _ (fun y=>some (.inl y)) (rf xs fun x=>some (.inr x)) z
def tE{R:Type}(n:s.T->Option R)(h:ma R xs):s.T⊕wL xs->Option R
 | .inl y=>n y
 | .inr x=>sj xs h x
def fR:Prop:=∀(R:Type) (n:s.T->Option R) (h:ma R xs) z,T R n h z=(AH T z).bind (tE n h)
noncomputable def D4:s.T->Option (wL xs):=rF (AH T)
end
theorem LO{α β:Type}{g:α->Option (α⊕β)}{z:α}(h:g z=none):rF g z=none:=by
 cases hw:rF g z with
 |none=>rfl
 |some x=>
  obtain⟨n,hn⟩:=wk hw
  cases n with
  |zero=>cases hn
  |succ n=>simp only[yM,h,Option.bind_none]at hn;cases hn
theorem kU{s:LS}{xs:List (Ex×LS)}{T:(R:Type)->(s.T->Option R)->ma R xs->s.T->Option R}(hT:fR T)(z:s.T):D4 T z=T _ (D4 T) (rf xs some) z:=by
 rw[hT _ (D4 T) (rf xs some) z]
 cases hg:AH T z with
 |none=>exact LO hg
 |some r=>
  cases r with
  |inl y=>exact LP hg
  |inr x=>
   refine(LN hg).trans ?_
   simp only[Option.bind_some,tE,M4]
noncomputable def fZ{R:Type}(s:LS)(xs:List (Ex×LS))(w:s.T->Option (wL xs))(x:kf)(k:Ex->kf->Option R):Option R:=
 (s.parse x).bind fun z=>(w z).bind (sj xs (hK k xs))
theorem ky{d:zc}{lh:dz}{R:Type}{body:St->(Ex->St->Option R)->Option R}{s:LS}{xs:List (Ex×LS)}{T:(R:Type)->(s.T->Option R)->ma R xs->s.T->Option R}(hT:fR T)
 (hstep:∀n z k,eg d lh body (n+1) (s.enc z) k=T R (fun y=>eg d lh body n (s.enc y) k) (hK k xs) z):∀x k r,fZ s xs (D4 T) x k=some r->∃N,eg d lh body N x k=some r:=by
 intro x k r h
 refine Pg (s:=s) (xs:=xs) (g:=AH T) ?_ x k r ?_
 ·intro n z k
  rw[hstep,hT]
  cases AH T z with
  |none=>rfl
  |some r=>
   cases r with
   |inl y=>rfl
   |inr x=>exact Mp xs x
 ·have e:fZ s xs (D4 T) x k=Nc s xs (AH T) x k:=by
   unfold fZ Nc
   congr 1
   funext z
   show(D4 T z).bind _=(D4 T z).bind _
   congr 1
   funext y
   exact Mp xs y
  rw[<-e];exact h
section
variable {s:LS} {xs:List (Ex×LS)} (T:(R:Type)->ma R xs->s.T->Option R)
def CD:Prop:=∀(R:Type) (h:ma R xs) z,T R h z=(T _ (rf xs some) z).bind (sj xs h)
def Sk(z:s.T):Option (wL xs):=T _ (rf xs some) z
end
theorem Hj{d:zc}{lh:dz}{R:Type}{Y:St->(Ex->St->Option R)->Option R}{s:LS}{xs:List (Ex×LS)}{T:(R:Type)->ma R xs->s.T->Option R}(hT:CD T)
 (hstep:∀z k,Y (d.back lh.s lh.b (s.enc z)) (fun e st=>k e (st.live lh.s' lh.b'))=T R (hK k xs) z):
 ∀x k r,fZ s xs (Sk T) x k=some r->Y (d.back lh.s lh.b x) (fun e st=>k e (st.live lh.s' lh.b'))=some r:=by
 intro x k r h
 simp only[fZ,Option.bind_eq_some_iff]at h
 obtain⟨z,hz,y,hy,h⟩:=h
 rw[LS.parse_ok hz,hstep,hT]
 exact Option.bind_eq_some_iff.2 ⟨y,hy,h⟩
theorem ae{R Q:Type}{c:Bool}{x y:Option Q}{x' y':Option R}{k:R->Option Q}(h:x=x'.bind k)(h':y=y'.bind k):cond c x y=(cond c x' y').bind k:=by
 cases c
 ·exact h'
 ·exact h
theorem ac{A R Q:Type}{o:Option A}{f:A->Option Q}{f':A->Option R}{k:R->Option Q}(h:∀z,f z=(f' z).bind k):o.bind f=(o.bind f').bind k:=by
 cases o with
 |none=>rfl
 |some z=>exact h z
def Sj{R Q:Type}(k:R->Option Q):(xs:List (Ex×LS))->ma Q xs->ma R xs->Prop
 |[],_,_=>True
 |_::r,h,h'=>(∀z,h.1 z=(h'.1 z).bind k)/\Sj k r h.2 h'.2
theorem Mq{R Q:Type}{k:R->Option Q}:∀{xs:List (Ex×LS)} {h:ma Q xs} {h':ma R xs},Sj k xs h h'->∀z,sj xs h z=(sj xs h' z).bind k
 |[],_,_,_,z=>nomatch z
 |_::_,_,_,H, .inl z=>H.1 z
 |_::_,_,_,H, .inr z=>Mq H.2 z
theorem dM{R Q:Type}{xs:List (Ex×LS)}{o:Option (wL xs)}{h:ma Q xs}{h':ma R xs}{k:R->Option Q}(H:Sj k xs h h'):o.bind (sj xs h)=(o.bind (sj xs h')).bind k:=
 ac (Mq H)
section
variable {s0 s:LS} {xs:List (Ex×LS)} (T:(R:Type)->(s.T->Option R)->ma R xs->s0.T->Option R)
def MS(z:s0.T):Option (s.T⊕wL xs):=T _ (fun y=>some (.inl y)) (rf xs fun x=>some (.inr x)) z
def KL:Prop:=∀(R:Type) (n:s.T->Option R) (h:ma R xs) z,T R n h z=(MS T z).bind (tE n h)
end
noncomputable def QN{R:Type}{s0 s:LS}{xs:List (Ex×LS)}(T:(R:Type)->(s.T->Option R)->ma R xs->s0.T->Option R)(S:kf->(Ex->kf->Option R)->Option R)(x:kf)(k:Ex->kf->Option R):Option R:=
 (s0.parse x).bind fun z=>T R (fun y=>S (s.enc y) k) (hK k xs) z
theorem R3{d:zc}{lh:dz}{R:Type}{body:St->(Ex->St->Option R)->Option R}{s0 s:LS}{xs:List (Ex×LS)}{T:(R:Type)->(s.T->Option R)->ma R xs->s0.T->Option R}(hT:KL T)
 (hstep:∀n z k,eg d lh body (n+1) (s0.enc z) k=T R (fun y=>eg d lh body n (s.enc y) k) (hK k xs) z)
 {S:kf->(Ex->kf->Option R)->Option R} (hS:∀x k r,S x k=some r->∃N,eg d lh body N x k=some r):
 ∀x k r,QN T S x k=some r->∃N,eg d lh body N x k=some r:=by
 intro x k r h
 simp only[QN,Option.bind_eq_some_iff]at h
 obtain⟨z,hz,h⟩:=h
 rw[LS.parse_ok hz]
 rw[hT]at h
 cases hg:MS T z with
 |none=>rw[hg]at h;cases h
 |some y=>
  rw[hg]at h
  cases y with
  |inl y=>
   obtain⟨N,hN⟩:=hS _ _ _ h
   refine⟨N+1, ?_⟩
   rw[hstep,hT,hg]
   exact hN
  |inr y=>
   refine⟨1, ?_⟩
   rw[hstep,hT,hg]
   exact h
theorem R6{R Q:Type}{s0 s:LS}{xs:List (Ex×LS)}{T:(R:Type)->(s.T->Option R)->ma R xs->s0.T->Option R}(hT:KL T){f:s.T->Option Q}{f':s.T->Option R}{h:ma Q xs}{h':ma R xs}{k:R->Option Q}
 (hf:∀y,f y=(f' y).bind k) (hh:Sj k xs h h') (z:s0.T):T Q f h z=(T R f' h' z).bind k:=by
 rw[hT Q f h z,hT R f' h' z]
 cases MS T z with
 |none=>rfl
 |some y=>
  cases y with
  |inl y=>exact hf y
  |inr y=>exact Mq hh y
end Go.Vai
