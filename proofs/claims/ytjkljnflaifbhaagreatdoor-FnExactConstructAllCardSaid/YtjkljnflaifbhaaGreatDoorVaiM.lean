/- No conditions. -/
import Derived.Test.YtjkljnflaifbhaaGreatDoorVaiL
namespace Go.Vai
open Go
inductive AX where
 |val (agg:Bool) (t:Ty)
 |ptr (t:Ty)
 |clo (f:FuncId) (ts:List Ty)
 |io (t:Ty)
 |ios (g:Bool) (ts:List Ty)
 |mix (g:Bool) (s:List CS)
 |rw (s:List CS)
 |clw (f:FuncId) (ss:List (List CS))
@[reducible] def acF:List Ty->Type
 |[]=>Unit
 |t::r=>List t.T×acF r
def OW:(ts:List Ty)->acF ts->List CV
 |[],_=>[]
 |t::r,z=>.own t z.1::OW r z.2
def Kn:(ts:List Ty)->List CV->Option (acF ts)
 |[],cs=>match cs with
  |[]=>some ()
  |_=>none
 |t::r,cs=>match cs with
  | .own t' l::cs=>if h:t'=t then(Kn r cs).bind fun y=>some (h▸l,y)else none
  |_=>none
theorem RQ:∀{ts:List Ty} {cs:List CV} {z:acF ts},Kn ts cs=some z->cs=OW ts z
 |[],cs,z,h=>by
  simp only[Kn]at h
  split at h
  ·rfl
  ·cases h
 |t::r,cs,z,h=>by
  simp only[Kn]at h
  split at h
  ·rename_i t' l cs
   split at h
   ·rename_i e
    subst e
    simp only[Option.bind_eq_some_iff]at h
    obtain⟨y,hy,hz⟩:=h
    cases hz
    simp only[OW];rw[<-RQ hy]
   ·cases h
  ·cases h
@[reducible] def abi:List (List CS)->Type
 |[]=>Unit
 |s::r=>csT s×abi r
@[reducible] def abN:List Ty->Type
 |[]=>Unit
 |t::r=>t.T×abN r
@[reducible] def AX.T:AX->Type
 | .val _ t=>t.T
 | .ptr t=>t.T
 | .clo _ ts=>abN ts
 | .io t=>List t.T
 | .ios _ ts=>acF ts
 | .mix _ s=>csT s
 | .rw s=>csT s
 | .clw _ ss=>abi ss
@[reducible] def zY:List AX->Type
 |[]=>Unit
 |a::r=>a.T×zY r
def ZS:Nat->List Ty->List (Nat×Nat)
 |_,[]=>[]
 |n,_::r=>(n,0)::ZS (n+1) r
def Xl:Nat->List (List CS)->List (Nat×Nat)
 |_,[]=>[]
 |n,_::r=>(n,0)::Xl (n+1) r
def GK:(ss:List (List CS))->abi ss->List (List CV)
 |[],_=>[]
 |s::r,z=>Xn s z.1::GK r z.2
def H4:(ts:List Ty)->abN ts->List (List CV)
 |[],_=>[]
 |t::r,z=>t.cells z.1::H4 r z.2
def wu:(as:List AX)->Nat->zY as->List Val
 |[],_,_=>[]
 | .val g t::r,n,z=>⟨g,t.cells z.1⟩::wu r n z.2
 | .ptr _::r,n,z=>⟨false,[.ptr n 0]⟩::wu r (n+1) z.2
 | .clo f ts::r,n,z=>⟨false,[.fn f (ZS n ts)]⟩::wu r (n+ts.length) z.2
 | .io t::r,n,z=>⟨false,[.own t z.1]⟩::wu r n z.2
 | .ios g ts::r,n,z=>⟨g,OW ts z.1⟩::wu r n z.2
 | .mix g s::r,n,z=>⟨g,Xn s z.1⟩::wu r n z.2
 | .rw _::r,n,z=>⟨false,[.ptr n 0]⟩::wu r (n+1) z.2
 | .clw f ss::r,n,z=>⟨false,[.fn f (Xl n ss)]⟩::wu r (n+ss.length) z.2
def qP:(as:List AX)->zY as->List (List CV)
 |[],_=>[]
 | .val _ _::r,z=>qP r z.2
 | .ptr t::r,z=>t.cells z.1::qP r z.2
 | .clo _ ts::r,z=>H4 ts z.1++qP r z.2
 | .io _::r,z=>qP r z.2
 | .ios _ _::r,z=>qP r z.2
 | .mix _ _::r,z=>qP r z.2
 | .rw s::r,z=>Xn s z.1::qP r z.2
 | .clw _ ss::r,z=>GK ss z.1++qP r z.2
def Om:(ss:List (List CS))->List (List CV)->Option (abi ss×List (List CV))
 |[],bs=>some ((),bs)
 |s::r,bs=>match bs with
  |b::bs=>(AS s b).bind fun x=>(Om r bs).bind fun y=>some ((x,y.1),y.2)
  |[]=>none
theorem RH:∀{ss:List (List CS)} {bs:List (List CV)} {z:abi ss×List (List CV)},Om ss bs=some z->bs=GK ss z.1++z.2
 |[],bs,z,h=>by cases h;rfl
 |s::r,bs,z,h=>by
  simp only[Om]at h
  split at h
  ·rename_i b bs
   simp only[Option.bind_eq_some_iff]at h
   obtain⟨x,hx,y,hy,hz⟩:=h
   cases hz
   simp only[GK,List.cons_append]
   rw[<-xP hx,<-RH hy]
  ·cases h
def P0:(ts:List Ty)->List (List CV)->Option (abN ts×List (List CV))
 |[],bs=>some ((),bs)
 |t::r,bs=>match bs with
  |b::bs=>(t.parse b).bind fun x=>(P0 r bs).bind fun y=>some ((x,y.1),y.2)
  |[]=>none
theorem Sg:∀{ts:List Ty} {bs:List (List CV)} {z:abN ts×List (List CV)},P0 ts bs=some z->bs=H4 ts z.1++z.2
 |[],bs,z,h=>by cases h;rfl
 |t::r,bs,z,h=>by
  simp only[P0]at h
  split at h
  ·rename_i b bs
   simp only[Option.bind_eq_some_iff]at h
   obtain⟨x,hx,y,hy,hz⟩:=h
   cases hz
   simp only[H4,List.cons_append]
   rw[<-Ty.parse_cells hx,<-Sg hy]
  ·cases h
def jB:(as:List AX)->Nat->List (List CV)->List Val->Option (zY as)
 |[],_,bs,vs=>match bs,vs with
  |[],[]=>some ()
  |_,_=>none
 | .val g t::r,n,bs,vs=>match vs with
   |v::vs=>if v.agg=g then(t.parse v.cs).bind fun x=>(jB r n bs vs).bind fun y=>some (x,y)else none
   |_=>none
 | .ptr t::r,n,bs,vs=>match bs,vs with
   |b::bs,⟨false,[.ptr k 0]⟩::vs=>if k=n then(t.parse b).bind fun x=>(jB r (n+1) bs vs).bind fun y=>some (x,y)else none
   |_,_=>none
 | .clo f ts::r,n,bs,vs=>match vs with
   |⟨false,[.fn f' caps]⟩::vs=>if f'=f/\caps=ZS n ts then(P0 ts bs).bind fun x=>(jB r (n+ts.length) x.2 vs).bind fun y=>some (x.1,y)else none
   |_=>none
 | .io t::r,n,bs,vs=>match vs with
   |⟨false,[.own t' l]⟩::vs=>if h:t'=t then(jB r n bs vs).bind fun y=>some (h▸l,y)else none
   |_=>none
 | .ios g ts::r,n,bs,vs=>match vs with
   |v::vs=>if v.agg=g then(Kn ts v.cs).bind fun x=>(jB r n bs vs).bind fun y=>some (x,y)else none
   |_=>none
 | .mix g s::r,n,bs,vs=>match vs with
   |v::vs=>if v.agg=g then(AS s v.cs).bind fun x=>(jB r n bs vs).bind fun y=>some (x,y)else none
   |_=>none
 | .rw s::r,n,bs,vs=>match bs,vs with
   |b::bs,⟨false,[.ptr k 0]⟩::vs=>if k=n then(AS s b).bind fun x=>(jB r (n+1) bs vs).bind fun y=>some (x,y)else none
   |_,_=>none
 | .clw f ss::r,n,bs,vs=>match vs with
   |⟨false,[.fn f' caps]⟩::vs=>if f'=f/\caps=Xl n ss then(Om ss bs).bind fun x=>(jB r (n+ss.length) x.2 vs).bind fun y=>some (x.1,y)else none
   |_=>none
theorem oR:∀{as:List AX} {n:Nat} {bs:List (List CV)} {vs:List Val} {z:zY as},jB as n bs vs=some z->vs=wu as n z/\bs=qP as z
 |[],n,bs,vs,z,h=>by
  simp only[jB]at h
  split at h
  ·exact⟨rfl,rfl⟩
  ·cases h
 | .val g t::r,n,bs,vs,z,h=>by
   simp only[jB]at h
   split at h
   ·rename_i v vs
    split at h
    ·rename_i hg
     simp only[Option.bind_eq_some_iff]at h
     obtain⟨x,hx,y,hy,hz⟩:=h
     cases hz
     obtain⟨h1,h2⟩:=oR hy
     refine⟨?_,h2⟩
     simp only[wu]
     rw[<-Ty.parse_cells hx,<-h1,<-hg]
    ·cases h
   ·cases h
 | .ptr t::r,n,bs,vs,z,h=>by
   simp only[jB]at h
   split at h
   ·rename_i b bs k vs
    split at h
    ·rename_i hk
     simp only[Option.bind_eq_some_iff]at h
     obtain⟨x,hx,y,hy,hz⟩:=h
     cases hz
     obtain⟨h1,h2⟩:=oR hy
     refine⟨?_, ?_⟩
     ·simp only[wu];rw[<-h1,hk]
     ·simp only[qP];rw[<-Ty.parse_cells hx,<-h2]
    ·cases h
   ·cases h
 | .clo f ts::r,n,bs,vs,z,h=>by
   simp only[jB]at h
   split at h
   ·rename_i f' caps vs
    split at h
    ·rename_i hk
     obtain⟨rfl,rfl⟩:=hk
     simp only[Option.bind_eq_some_iff]at h
     obtain⟨x,hx,y,hy,hz⟩:=h
     cases hz
     obtain⟨h1,h2⟩:=oR hy
     refine⟨?_, ?_⟩
     ·simp only[wu];rw[<-h1]
     ·simp only[qP];rw[<-h2,<-Sg hx]
    ·cases h
   ·cases h
 | .io t::r,n,bs,vs,z,h=>by
   simp only[jB]at h
   split at h
   ·rename_i t' l vs
    split at h
    ·rename_i e
     subst e
     simp only[Option.bind_eq_some_iff]at h
     obtain⟨y,hy,hz⟩:=h
     cases hz
     obtain⟨h1,h2⟩:=oR hy
     refine⟨?_,h2⟩
     simp only[wu];rw[<-h1]
    ·cases h
   ·cases h
 | .ios g ts::r,n,bs,vs,z,h=>by
   simp only[jB]at h
   split at h
   ·rename_i v vs
    split at h
    ·rename_i hg
     simp only[Option.bind_eq_some_iff]at h
     obtain⟨x,hx,y,hy,hz⟩:=h
     cases hz
     obtain⟨h1,h2⟩:=oR hy
     refine⟨?_,h2⟩
     simp only[wu]
     rw[<-RQ hx,<-h1,<-hg]
    ·cases h
   ·cases h
 | .mix g s::r,n,bs,vs,z,h=>by
   simp only[jB]at h
   split at h
   ·rename_i v vs
    split at h
    ·rename_i hg
     simp only[Option.bind_eq_some_iff]at h
     obtain⟨x,hx,y,hy,hz⟩:=h
     cases hz
     obtain⟨h1,h2⟩:=oR hy
     refine⟨?_,h2⟩
     simp only[wu]
     rw[<-xP hx,<-h1,<-hg]
    ·cases h
   ·cases h
 | .rw s::r,n,bs,vs,z,h=>by
   simp only[jB]at h
   split at h
   ·rename_i b bs k vs
    split at h
    ·rename_i hk
     simp only[Option.bind_eq_some_iff]at h
     obtain⟨x,hx,y,hy,hz⟩:=h
     cases hz
     obtain⟨h1,h2⟩:=oR hy
     refine⟨?_, ?_⟩
     ·simp only[wu];rw[<-h1,hk]
     ·simp only[qP];rw[<-xP hx,<-h2]
    ·cases h
   ·cases h
 | .clw f ss::r,n,bs,vs,z,h=>by
   simp only[jB]at h
   split at h
   ·rename_i f' caps vs
    split at h
    ·rename_i hk
     obtain⟨rfl,rfl⟩:=hk
     simp only[Option.bind_eq_some_iff]at h
     obtain⟨x,hx,y,hy,hz⟩:=h
     cases hz
     obtain⟨h1,h2⟩:=oR hy
     refine⟨?_, ?_⟩
     ·simp only[wu];rw[<-h1]
     ·simp only[qP];rw[<-h2,<-RH hx]
    ·cases h
   ·cases h
def Jt:List AX->Nat
 |[]=>0
 | .val _ _::r=>Jt r
 | .ptr _::r=>Jt r+1
 | .clo _ ts::r=>ts.length+Jt r
 | .io _::r=>Jt r
 | .ios _ _::r=>Jt r
 | .mix _ _::r=>Jt r
 | .rw _::r=>Jt r+1
 | .clw _ ss::r=>ss.length+Jt r
theorem IV:∀(ss:List (List CS)) (z:abi ss),(GK ss z).length=ss.length
 |[],_=>rfl
 |t::r,z=>by simp[GK,IV r z.2]
theorem Jl:∀(ts:List Ty) (z:abN ts),(H4 ts z).length=ts.length
 |[],_=>rfl
 |t::r,z=>by simp[H4,Jl r z.2]
theorem jA:∀(as:List AX) (z:zY as),(qP as z).length=Jt as
 |[],_=>rfl
 | .val _ _::r,z=>jA r z.2
 | .ptr t::r,z=>by simp[qP,Jt,jA r z.2]
 | .clo _ ts::r,z=>by
   simp only[qP,Jt,List.length_append,jA r z.2]
   exact congrArg (·+Jt r) (Jl ts z.1)
 | .io _::r,z=>jA r z.2
 | .ios _ _::r,z=>jA r z.2
 | .mix _ _::r,z=>jA r z.2
 | .rw s::r,z=>by simp[qP,Jt,jA r z.2]
 | .clw _ ss::r,z=>by
   simp only[qP,Jt,List.length_append,jA r z.2]
   exact congrArg (·+Jt r) (IV ss z.1)
def AX.lentTo:AX->Bool
 | .io _=>true
 | .ios _ _=>true
 | .mix _ _=>true
 |_=>false
def QA(as:List AX):List Bool:=
 match as.any AX.lentTo with
 |true=>as.map AX.lentTo
 |false=>[]
def af.fx(as:List AX)(β:Type)(g:zY as->Option β)(enc:β->AV×List CV)(alt:{R:Type}->β->(β->Option R)->Option R:=fun x k=>k x)(altOk:∀{R:Type} (x:β) (k:β->Option R),alt x k=k x:=by intros;rfl):af:=
 {io:=QA as,β:=β,G:=fun bs vs=>(jB as 0 bs vs).bind g,enc:=enc,alt:=alt,altOk:=altOk}
abbrev Rv:=AV×List CV
abbrev K2:AV->List CV->Option Rv:=fun a cs=>some (a,cs)
theorem ag.fx{C:gY}{t:List (FuncId×af)}{e:Bool}(hT:qd C t)(hm:C.P.follows .mixedOrders=true){fid:FuncId}{f:Func}(hf:C.P.funcs[fid]?=some f)(hb:f.body.isSome=true)
 (hname:(f.name== "runtime.NumGoroutine")=false) {as:List AX} {β:Type} {g:zY as->Option β} {enc:β->AV×List CV} {alt:{R:Type}->β->(β->Option R)->Option R} {altOk:∀{R:Type} (x:β) (k:β->Option R),alt x k=k x} (h:fq Rv) (fuel:Nat)
 (hH:ak (gN C t e) ⟨f.ntmps,f.ntmps+Jt as⟩ h fuel (ca (aX f)))
 (hrun:∀z,Za (gN C t e) h fuel f (QA as) (qP as z) (wu as 0 z) K2=(g z).bind fun b=>some (enc b)):ag C fid (af.fx as β g enc @alt @altOk):=by
 have hb:f.body=some (aX f):=by
  unfold aX
  cases h:f.body with
  |none=>rw[h]at hb;cases hb
  |some c=>rfl
 refine ag.ctx (C:=gN C t e) (C':=C) rfl rfl (ag.of_run (C:=gN C t e) hf hb hname rfl hm hT.rho ?_)
 intro bs vs (x:β) hG
 have hG:(jB as 0 bs vs).bind g=some x:=hG
 rw[Option.bind_eq_some_iff]at hG
 obtain⟨z,hz,hx⟩:=hG
 obtain⟨rfl,rfl⟩:=oR hz
 refine⟨h,fuel,by rw[jA];exact hH, ?_⟩
 have:=hrun z
 rw[hx]at this
 exact this
abbrev K3:AV->List CV->Option Rv:=fun a cs=>some (a,cs.map fun _=>.undef)
theorem ag.fxTake{C:gY}{t:List (FuncId×af)}{e:Bool}(hT:qd C t)(hm:C.P.follows .mixedOrders=true){fid:FuncId}{f:Func}(hf:C.P.funcs[fid]?=some f)(hb:f.body.isSome=true)
 (hname:(f.name== "runtime.NumGoroutine")=false) {as:List AX} {β:Type} {g:zY as->Option β} {enc:β->AV×List CV} {alt:{R:Type}->β->(β->Option R)->Option R} {altOk:∀{R:Type} (x:β) (k:β->Option R),alt x k=k x} (h:fq Rv) (fuel:Nat)
 (hH:ak (gN C t e) ⟨f.ntmps,f.ntmps+Jt as⟩ h fuel (ca (aX f)))
 (hrun:∀z,Za (gN C t e) h fuel f (QA as) (qP as z) (wu as 0 z) K3=(g z).bind fun b=>some (enc b)):ag C fid (af.fx as β g enc @alt @altOk):=by
 have hb:f.body=some (aX f):=by
  unfold aX
  cases h:f.body with
  |none=>rw[h]at hb;cases hb
  |some c=>rfl
 refine ag.ctx (C:=gN C t e) (C':=C) rfl rfl (ag.of_runTake (C:=gN C t e) hf hb hname rfl hm hT.rho ?_)
 intro bs vs (x:β) hG
 have hG:(jB as 0 bs vs).bind g=some x:=hG
 rw[Option.bind_eq_some_iff]at hG
 obtain⟨z,hz,hx⟩:=hG
 obtain⟨rfl,rfl⟩:=oR hz
 refine⟨h,fuel,by rw[jA];exact hH, ?_⟩
 have:=hrun z
 rw[hx]at this
 exact this
def af.emptyS(t:Ty):af:=
 {io:=[],β:=Unit,
  G:=fun bs vs=>match bs,vs with
   |[],[⟨false,[.v (.slice _ 0 _)]⟩]=>some ()
   |_,_=>none
  enc:=fun _=>(.one ⟨false,[.own t []]⟩,[])}
theorem ag.orEmpty{C:gY}{f:FuncId}{t:Ty}{g:zY [.val false (.slice t)]->Option (List t.T)}(h1:ag C f (af.fx [.val false (.slice t)] (List t.T) g (fun b=>(.one ⟨false,[.own t b]⟩,[]))))
 {g':List t.T->Option (List t.T)} (hg:∀l y,g' l=some y->l≠ []->g (l,())=some y) (h0:∀y,g' []=some y->y=[]) (h2:ag C f (af.emptyS t)):
 ag C f (af.fx [.val false (.slice t)] (List t.T) (fun z=>g' z.1) (fun b=>(.one ⟨false,[.own t b]⟩,[]))):=by
 have h1:=h1.r rfl
 have h2:=h2.r rfl
 refine Gi.s rfl ⟨h1.1,fun g0 w bs vs args ms (x:List t.T) hP hG=> ?_⟩
 have hG:(jB [.val false (.slice t)] 0 bs vs).bind (fun z=>g' z.1)=some x:=hG
 obtain⟨z,hz,hx⟩:=Option.bind_eq_some_iff.1 hG
 obtain⟨l,u⟩:=z
 have hx:g' l=some x:=hx
 by_cases hl:l=[]
 ·subst hl
  obtain rfl:=h0 x hx
  obtain⟨rfl,rfl⟩:=oR hz
  obtain⟨v,vs',m,ms',rfl,rfl,hv,hr⟩:=hP.vals
  obtain⟨rfl,rfl⟩:=hr
  have hv':bS g0 w [.sl t []] [v] m:=hv
  obtain⟨v',vs',m',ms',e1,rfl,hF,hn⟩:=hv'
  cases e1
  obtain⟨_,rfl⟩:=hn
  obtain⟨rfl,hF⟩:=hF
  obtain⟨A,cap,hA,_⟩:=hF (.slot 0 0 0)
  simp only[List.cons.injEq,and_true,List.length_nil]at hA
  subst hA
  exact h2.2 g0 w [] [⟨false,[.v (.slice A 0 cap)]⟩] _ _ () {hP with vals:=⟨_,[],_,[],rfl,rfl,⟨_,[],[],[],rfl,rfl,⟨rfl,fun _=>rfl⟩,rfl,rfl⟩,rfl,rfl⟩} rfl
 ·refine h1.2 g0 w bs vs args ms x hP ?_
  show(jB [.val false (.slice t)] 0 bs vs).bind g=some x
  rw[hz]
  exact hg l x hx hl
theorem ag.emptyRun{C:gY}{t:Ty}(hm:C.P.follows .mixedOrders=true){fid:FuncId}{f:Func}(hf:C.P.funcs[fid]?=some f)(hb:f.body.isSome=true)(hname:(f.name== "runtime.NumGoroutine")=false)(hρ:∀f,C.ρ f=none)
 (hrun:∀A c,Za C al 1 f [] [] [⟨false,[.v (.slice A 0 c)]⟩] K2=some (.one ⟨false,[.own t []]⟩,[])):ag C fid (af.emptyS t):=by
 have hb:f.body=some (aX f):=by
  unfold aX
  cases h:f.body with
  |none=>rw[h]at hb;cases hb
  |some c=>rfl
 refine ag.of_run hf hb hname rfl hm (fun f c h=>by rw[hρ]at h;cases h) ?_
 intro bs vs x hG
 refine⟨al,1,ai, ?_⟩
 unfold af.emptyS at hG x⊢
 simp only at hG
 split at hG
 ·exact hrun _ _
 ·cases hG
theorem ex{ax:List AX}{β:Type}{g:zY ax->Option β}{enc:β->AV×List CV}{vs:List Val}{z:zY ax}{b:β}(h:jB ax 0 [] vs=some z)(hg:g z=some b):(af.fx ax β g enc).G [] vs=some b:=by
 show(jB ax 0 [] vs).bind g=some b
 rw[h];exact hg
@[reducible] def mA(R:Type):List (Ex×LS)->Type
 |[]=>Unit
 |x::r=>(x.2.T->Option R)×mA R r
def qi{R:Type}:(xs:List (Ex×LS))->mA R xs->yH xs->Option R
 |[],_,z=>nomatch z
 |_::r,h,z=>match z with
  | .inl z=>h.1 z
  | .inr z=>qi r h.2 z
def oI{R:Type}:(xs:List (Ex×LS))->(yH xs->Option R)->mA R xs
 |[],_=>()
 |_::r,f=>(fun z=>f (.inl z),oI r (fun z=>f (.inr z)))
def hK{R:Type}(k:Ex->iV->Option R):(xs:List (Ex×LS))->mA R xs
 |[]=>()
 |x::r=>(fun z=>k x.1 (x.2.enc z),hK k r)
theorem ZX{R:Type}{k:Ex->iV->Option R}:∀(xs:List (Ex×LS)) (z:yH xs),qi xs (hK k xs) z=exK k xs z
 |[],z=>nomatch z
 |_::_, .inl _=>rfl
 |_::r, .inr z=>ZX r z
theorem aaB{R:Type}:∀(xs:List (Ex×LS)) (f:yH xs->Option R) (z:yH xs),qi xs (oI xs f) z=f z
 |[],_,z=>nomatch z
 |_::_,_, .inl _=>rfl
 |_::r,_, .inr z=>aaB r _ z
section
variable {s:LS} {xs:List (Ex×LS)} (T:(R:Type)->(s.T->Option R)->mA R xs->s.T->Option R)
def Ly(z:s.T):Option (s.T⊕yH xs):=T _ (fun y=>some (.inl y)) (oI xs fun x=>some (.inr x)) z
def oH{R:Type}(n:s.T->Option R)(h:mA R xs):s.T⊕yH xs->Option R
 | .inl y=>n y
 | .inr x=>qi xs h x
def cK:Prop:=∀(R:Type) (n:s.T->Option R) (h:mA R xs) z,T R n h z=(Ly T z).bind (oH n h)
noncomputable def BU:s.T->Option (yH xs):=AK (Ly T)
end
theorem Zx{α β:Type}{g:α->Option (α⊕β)}{z:α}(h:g z=none):AK g z=none:=by
 cases hw:AK g z with
 |none=>rfl
 |some x=>
  obtain⟨n,hn⟩:=F9 hw
  cases n with
  |zero=>cases hn
  |succ n=>simp only[Js,h,Option.bind_none]at hn;cases hn
theorem dR{s:LS}{xs:List (Ex×LS)}{T:(R:Type)->(s.T->Option R)->mA R xs->s.T->Option R}(hT:cK T)(z:s.T):BU T z=T _ (BU T) (oI xs some) z:=by
 rw[hT _ (BU T) (oI xs some) z]
 cases hg:Ly T z with
 |none=>exact Zx hg
 |some r=>
  cases r with
  |inl y=>exact Zy hg
  |inr x=>
   refine(Zw hg).trans ?_
   simp only[Option.bind_some,oH,aaB]
noncomputable def ce{R:Type}(s:LS)(xs:List (Ex×LS))(w:s.T->Option (yH xs))(x:iV)(k:Ex->iV->Option R):Option R:=
 (s.parse x).bind fun z=>(w z).bind (qi xs (hK k xs))
theorem cl{d:Tt}{lh:bN}{R:Type}{body:St->(Ex->St->Option R)->Option R}{s:LS}{xs:List (Ex×LS)}{T:(R:Type)->(s.T->Option R)->mA R xs->s.T->Option R}(hT:cK T)
 (hstep:∀n z k,bJ d lh body (n+1) (s.enc z) k=T R (fun y=>bJ d lh body n (s.enc y) k) (hK k xs) z):∀x k r,ce s xs (BU T) x k=some r->∃N,bJ d lh body N x k=some r:=by
 intro x k r h
 refine acD (s:=s) (xs:=xs) (g:=Ly T) ?_ x k r ?_
 ·intro n z k
  rw[hstep,hT]
  cases Ly T z with
  |none=>rfl
  |some r=>
   cases r with
   |inl y=>rfl
   |inr x=>exact ZX xs x
 ·have e:ce s xs (BU T) x k=aaH s xs (Ly T) x k:=by
   unfold ce aaH
   congr 1
   funext z
   show(BU T z).bind _=(BU T z).bind _
   congr 1
   funext y
   exact ZX xs y
  rw[<-e];exact h
theorem ae{R Q:Type}{c:Bool}{x y:Option Q}{x' y':Option R}{k:R->Option Q}(h:x=x'.bind k)(h':y=y'.bind k):cond c x y=(cond c x' y').bind k:=by
 cases c
 ·exact h'
 ·exact h
theorem ac{A R Q:Type}{o:Option A}{f:A->Option Q}{f':A->Option R}{k:R->Option Q}(h:∀z,f z=(f' z).bind k):o.bind f=(o.bind f').bind k:=by
 cases o with
 |none=>rfl
 |some z=>exact h z
def exN{R Q:Type}(k:R->Option Q):(xs:List (Ex×LS))->mA Q xs->mA R xs->Prop
 |[],_,_=>True
 |_::r,h,h'=>(∀z,h.1 z=(h'.1 z).bind k)/\exN k r h.2 h'.2
theorem acr{R Q:Type}{k:R->Option Q}:∀{xs:List (Ex×LS)} {h:mA Q xs} {h':mA R xs},exN k xs h h'->∀z,qi xs h z=(qi xs h' z).bind k
 |[],_,_,_,z=>nomatch z
 |_::_,_,_,H, .inl z=>H.1 z
 |_::_,_,_,H, .inr z=>acr H.2 z
theorem cq{R Q:Type}{xs:List (Ex×LS)}{o:Option (yH xs)}{h:mA Q xs}{h':mA R xs}{k:R->Option Q}(H:exN k xs h h'):o.bind (qi xs h)=(o.bind (qi xs h')).bind k:=
 ac (acr H)
section
variable {s0 s:LS} {xs:List (Ex×LS)} (T:(R:Type)->(s.T->Option R)->mA R xs->s0.T->Option R)
end
end Go.Vai
