/- No conditions. -/
import Derived.Test.YtjkljnflaifbhaaDoorVaiL
namespace Go.Vai
open Go
inductive AX where
 |val (agg:Bool) (t:Ty)
 |ptr (t:Ty)
 |clo (f:FuncId) (ts:List Ty)
 |io (t:Ty)
 |ios (g:Bool) (ts:List Ty)
 |mix (g:Bool) (s:List CS)
 |rw (s:List CS)
 |clw (f:FuncId) (ss:List (List CS))
@[reducible] def Om:List Ty->Type
 |[]=>Unit
 |t::r=>List t.T×Om r
def B9:(ts:List Ty)->Om ts->List CV
 |[],_=>[]
 |t::r,z=>.own t z.1::B9 r z.2
def yE:(ts:List Ty)->List CV->Option (Om ts)
 |[],cs=>match cs with
  |[]=>some ()
  |_=>none
 |t::r,cs=>match cs with
  | .own t' l::cs=>if h:t'=t then(yE r cs).bind fun y=>some (h▸l,y)else none
  |_=>none
theorem D6:∀{ts:List Ty} {cs:List CV} {z:Om ts},yE ts cs=some z->cs=B9 ts z
 |[],cs,z,h=>by
  simp only[yE]at h
  split at h
  ·rfl
  ·cases h
 |t::r,cs,z,h=>by
  simp only[yE]at h
  split at h
  ·rename_i t' l cs
   split at h
   ·rename_i e
    subst e
    simp only[Option.bind_eq_some_iff]at h
    obtain⟨y,hy,hz⟩:=h
    cases hz
    simp only[B9];rw[<-D6 hy]
   ·cases h
  ·cases h
@[reducible] def MH:List (List CS)->Type
 |[]=>Unit
 |s::r=>O6 s×MH r
@[reducible] def Nj:List Ty->Type
 |[]=>Unit
 |t::r=>t.T×Nj r
@[reducible] def AX.T:AX->Type
 | .val _ t=>t.T
 | .ptr t=>t.T
 | .clo _ ts=>Nj ts
 | .io t=>List t.T
 | .ios _ ts=>Om ts
 | .mix _ s=>O6 s
 | .rw s=>O6 s
 | .clw _ ss=>MH ss
@[reducible] def qd:List AX->Type
 |[]=>Unit
 |a::r=>a.T×qd r
def La:Nat->List Ty->List (Nat×Nat)
 |_,[]=>[]
 |n,_::r=>(n,0)::La (n+1) r
def IL:Nat->List (List CS)->List (Nat×Nat)
 |_,[]=>[]
 |n,_::r=>(n,0)::IL (n+1) r
def wb:(ss:List (List CS))->MH ss->List (List CV)
 |[],_=>[]
 |s::r,z=>IN s z.1::wb r z.2
def wK:(ts:List Ty)->Nj ts->List (List CV)
 |[],_=>[]
 |t::r,z=>t.cells z.1::wK r z.2
def nK:(as:List AX)->Nat->qd as->List Val
 |[],_,_=>[]
 | .val g t::r,n,z=>⟨g,t.cells z.1⟩::nK r n z.2
 | .ptr _::r,n,z=>⟨false,[.ptr n 0]⟩::nK r (n+1) z.2
 | .clo f ts::r,n,z=>⟨false,[.fn f (La n ts)]⟩::nK r (n+ts.length) z.2
 | .io t::r,n,z=>⟨false,[.own t z.1]⟩::nK r n z.2
 | .ios g ts::r,n,z=>⟨g,B9 ts z.1⟩::nK r n z.2
 | .mix g s::r,n,z=>⟨g,IN s z.1⟩::nK r n z.2
 | .rw _::r,n,z=>⟨false,[.ptr n 0]⟩::nK r (n+1) z.2
 | .clw f ss::r,n,z=>⟨false,[.fn f (IL n ss)]⟩::nK r (n+ss.length) z.2
def kE:(as:List AX)->qd as->List (List CV)
 |[],_=>[]
 | .val _ _::r,z=>kE r z.2
 | .ptr t::r,z=>t.cells z.1::kE r z.2
 | .clo _ ts::r,z=>wK ts z.1++kE r z.2
 | .io _::r,z=>kE r z.2
 | .ios _ _::r,z=>kE r z.2
 | .mix _ _::r,z=>kE r z.2
 | .rw s::r,z=>IN s z.1::kE r z.2
 | .clw _ ss::r,z=>wb ss z.1++kE r z.2
def BC:(ss:List (List CS))->List (List CV)->Option (MH ss×List (List CV))
 |[],bs=>some ((),bs)
 |s::r,bs=>match bs with
  |b::bs=>(rp s b).bind fun x=>(BC r bs).bind fun y=>some ((x,y.1),y.2)
  |[]=>none
theorem DZ:∀{ss:List (List CS)} {bs:List (List CV)} {z:MH ss×List (List CV)},BC ss bs=some z->bs=wb ss z.1++z.2
 |[],bs,z,h=>by cases h;rfl
 |s::r,bs,z,h=>by
  simp only[BC]at h
  split at h
  ·rename_i b bs
   simp only[Option.bind_eq_some_iff]at h
   obtain⟨x,hx,y,hy,hz⟩:=h
   cases hz
   simp only[wb,List.cons_append]
   rw[<-pu hx,<-DZ hy]
  ·cases h
def CQ:(ts:List Ty)->List (List CV)->Option (Nj ts×List (List CV))
 |[],bs=>some ((),bs)
 |t::r,bs=>match bs with
  |b::bs=>(t.parse b).bind fun x=>(CQ r bs).bind fun y=>some ((x,y.1),y.2)
  |[]=>none
theorem Ev:∀{ts:List Ty} {bs:List (List CV)} {z:Nj ts×List (List CV)},CQ ts bs=some z->bs=wK ts z.1++z.2
 |[],bs,z,h=>by cases h;rfl
 |t::r,bs,z,h=>by
  simp only[CQ]at h
  split at h
  ·rename_i b bs
   simp only[Option.bind_eq_some_iff]at h
   obtain⟨x,hx,y,hy,hz⟩:=h
   cases hz
   simp only[wK,List.cons_append]
   rw[<-Ty.parse_cells hx,<-Ev hy]
  ·cases h
def eR:(as:List AX)->Nat->List (List CV)->List Val->Option (qd as)
 |[],_,bs,vs=>match bs,vs with
  |[],[]=>some ()
  |_,_=>none
 | .val g t::r,n,bs,vs=>match vs with
   |v::vs=>if v.agg=g then(t.parse v.cs).bind fun x=>(eR r n bs vs).bind fun y=>some (x,y)else none
   |_=>none
 | .ptr t::r,n,bs,vs=>match bs,vs with
   |b::bs,⟨false,[.ptr k 0]⟩::vs=>if k=n then(t.parse b).bind fun x=>(eR r (n+1) bs vs).bind fun y=>some (x,y)else none
   |_,_=>none
 | .clo f ts::r,n,bs,vs=>match vs with
   |⟨false,[.fn f' caps]⟩::vs=>if f'=f/\caps=La n ts then(CQ ts bs).bind fun x=>(eR r (n+ts.length) x.2 vs).bind fun y=>some (x.1,y)else none
   |_=>none
 | .io t::r,n,bs,vs=>match vs with
   |⟨false,[.own t' l]⟩::vs=>if h:t'=t then(eR r n bs vs).bind fun y=>some (h▸l,y)else none
   |_=>none
 | .ios g ts::r,n,bs,vs=>match vs with
   |v::vs=>if v.agg=g then(yE ts v.cs).bind fun x=>(eR r n bs vs).bind fun y=>some (x,y)else none
   |_=>none
 | .mix g s::r,n,bs,vs=>match vs with
   |v::vs=>if v.agg=g then(rp s v.cs).bind fun x=>(eR r n bs vs).bind fun y=>some (x,y)else none
   |_=>none
 | .rw s::r,n,bs,vs=>match bs,vs with
   |b::bs,⟨false,[.ptr k 0]⟩::vs=>if k=n then(rp s b).bind fun x=>(eR r (n+1) bs vs).bind fun y=>some (x,y)else none
   |_,_=>none
 | .clw f ss::r,n,bs,vs=>match vs with
   |⟨false,[.fn f' caps]⟩::vs=>if f'=f/\caps=IL n ss then(BC ss bs).bind fun x=>(eR r (n+ss.length) x.2 vs).bind fun y=>some (x.1,y)else none
   |_=>none
theorem iL:∀{as:List AX} {n:Nat} {bs:List (List CV)} {vs:List Val} {z:qd as},eR as n bs vs=some z->vs=nK as n z/\bs=kE as z
 |[],n,bs,vs,z,h=>by
  simp only[eR]at h
  split at h
  ·exact⟨rfl,rfl⟩
  ·cases h
 | .val g t::r,n,bs,vs,z,h=>by
   simp only[eR]at h
   split at h
   ·rename_i v vs
    split at h
    ·rename_i hg
     simp only[Option.bind_eq_some_iff]at h
     obtain⟨x,hx,y,hy,hz⟩:=h
     cases hz
     obtain⟨h1,h2⟩:=iL hy
     refine⟨?_,h2⟩
     simp only[nK]
     rw[<-Ty.parse_cells hx,<-h1,<-hg]
    ·cases h
   ·cases h
 | .ptr t::r,n,bs,vs,z,h=>by
   simp only[eR]at h
   split at h
   ·rename_i b bs k vs
    split at h
    ·rename_i hk
     simp only[Option.bind_eq_some_iff]at h
     obtain⟨x,hx,y,hy,hz⟩:=h
     cases hz
     obtain⟨h1,h2⟩:=iL hy
     refine⟨?_, ?_⟩
     ·simp only[nK];rw[<-h1,hk]
     ·simp only[kE];rw[<-Ty.parse_cells hx,<-h2]
    ·cases h
   ·cases h
 | .clo f ts::r,n,bs,vs,z,h=>by
   simp only[eR]at h
   split at h
   ·rename_i f' caps vs
    split at h
    ·rename_i hk
     obtain⟨rfl,rfl⟩:=hk
     simp only[Option.bind_eq_some_iff]at h
     obtain⟨x,hx,y,hy,hz⟩:=h
     cases hz
     obtain⟨h1,h2⟩:=iL hy
     refine⟨?_, ?_⟩
     ·simp only[nK];rw[<-h1]
     ·simp only[kE];rw[<-h2,<-Ev hx]
    ·cases h
   ·cases h
 | .io t::r,n,bs,vs,z,h=>by
   simp only[eR]at h
   split at h
   ·rename_i t' l vs
    split at h
    ·rename_i e
     subst e
     simp only[Option.bind_eq_some_iff]at h
     obtain⟨y,hy,hz⟩:=h
     cases hz
     obtain⟨h1,h2⟩:=iL hy
     refine⟨?_,h2⟩
     simp only[nK];rw[<-h1]
    ·cases h
   ·cases h
 | .ios g ts::r,n,bs,vs,z,h=>by
   simp only[eR]at h
   split at h
   ·rename_i v vs
    split at h
    ·rename_i hg
     simp only[Option.bind_eq_some_iff]at h
     obtain⟨x,hx,y,hy,hz⟩:=h
     cases hz
     obtain⟨h1,h2⟩:=iL hy
     refine⟨?_,h2⟩
     simp only[nK]
     rw[<-D6 hx,<-h1,<-hg]
    ·cases h
   ·cases h
 | .mix g s::r,n,bs,vs,z,h=>by
   simp only[eR]at h
   split at h
   ·rename_i v vs
    split at h
    ·rename_i hg
     simp only[Option.bind_eq_some_iff]at h
     obtain⟨x,hx,y,hy,hz⟩:=h
     cases hz
     obtain⟨h1,h2⟩:=iL hy
     refine⟨?_,h2⟩
     simp only[nK]
     rw[<-pu hx,<-h1,<-hg]
    ·cases h
   ·cases h
 | .rw s::r,n,bs,vs,z,h=>by
   simp only[eR]at h
   split at h
   ·rename_i b bs k vs
    split at h
    ·rename_i hk
     simp only[Option.bind_eq_some_iff]at h
     obtain⟨x,hx,y,hy,hz⟩:=h
     cases hz
     obtain⟨h1,h2⟩:=iL hy
     refine⟨?_, ?_⟩
     ·simp only[nK];rw[<-h1,hk]
     ·simp only[kE];rw[<-pu hx,<-h2]
    ·cases h
   ·cases h
 | .clw f ss::r,n,bs,vs,z,h=>by
   simp only[eR]at h
   split at h
   ·rename_i f' caps vs
    split at h
    ·rename_i hk
     obtain⟨rfl,rfl⟩:=hk
     simp only[Option.bind_eq_some_iff]at h
     obtain⟨x,hx,y,hy,hz⟩:=h
     cases hz
     obtain⟨h1,h2⟩:=iL hy
     refine⟨?_, ?_⟩
     ·simp only[nK];rw[<-h1]
     ·simp only[kE];rw[<-h2,<-DZ hx]
    ·cases h
   ·cases h
def xP:List AX->Nat
 |[]=>0
 | .val _ _::r=>xP r
 | .ptr _::r=>xP r+1
 | .clo _ ts::r=>ts.length+xP r
 | .io _::r=>xP r
 | .ios _ _::r=>xP r
 | .mix _ _::r=>xP r
 | .rw _::r=>xP r+1
 | .clw _ ss::r=>ss.length+xP r
theorem xu:∀(ss:List (List CS)) (z:MH ss),(wb ss z).length=ss.length
 |[],_=>rfl
 |t::r,z=>by simp[wb,xu r z.2]
theorem xK:∀(ts:List Ty) (z:Nj ts),(wK ts z).length=ts.length
 |[],_=>rfl
 |t::r,z=>by simp[wK,xK r z.2]
theorem fa:∀(as:List AX) (z:qd as),(kE as z).length=xP as
 |[],_=>rfl
 | .val _ _::r,z=>fa r z.2
 | .ptr t::r,z=>by simp[kE,xP,fa r z.2]
 | .clo _ ts::r,z=>by
   simp only[kE,xP,List.length_append,fa r z.2]
   exact congrArg (·+xP r) (xK ts z.1)
 | .io _::r,z=>fa r z.2
 | .ios _ _::r,z=>fa r z.2
 | .mix _ _::r,z=>fa r z.2
 | .rw s::r,z=>by simp[kE,xP,fa r z.2]
 | .clw _ ss::r,z=>by
   simp only[kE,xP,List.length_append,fa r z.2]
   exact congrArg (·+xP r) (xu ss z.1)
def AX.lentTo:AX->Bool
 | .io _=>true
 | .ios _ _=>true
 | .mix _ _=>true
 |_=>false
def Di(as:List AX):List Bool:=
 match as.any AX.lentTo with
 |true=>as.map AX.lentTo
 |false=>[]
def af.fx(as:List AX)(β:Type)(g:qd as->Option β)(enc:β->AV×List CV)(alt:{R:Type}->β->(β->Option R)->Option R:=fun x k=>k x)(altOk:∀{R:Type} (x:β) (k:β->Option R),alt x k=k x:=by intros;rfl):af:=
 {io:=Di as,β:=β,G:=fun bs vs=>(eR as 0 bs vs).bind g,enc:=enc,alt:=alt,altOk:=altOk}
noncomputable def Qn{A B:Type}{R:Sort 1}(x:A⊕B)(f:A->R)(g:B->R):R:=Sum.rec f g x
def RG{A:Type}{R:Type}(x:A)(k:A->Option R):Option R:=k x
noncomputable def Rr{A B:Type}(f:{R:Type}->B->(B->Option R)->Option R){R:Type}(x:A⊕B)(k:A⊕B->Option R):Option R:=Qn x (fun a=>k (.inl a)) fun b=>f b fun b=>k (.inr b)
theorem Rg{A B:Type}{f:{R:Type}->B->(B->Option R)->Option R}(hf:∀{R:Type} (x:B) (k:B->Option R),f x k=k x){R:Type}(x:A⊕B)(k:A⊕B->Option R):Rr @f x k=k x:=by
 cases x with
 |inl a=>rfl
 |inr b=>exact hf b _
theorem Rn{A B R Q:Type}{f:A->Option Q}{g:B->Option Q}{f':A->Option R}{g':B->Option R}{k:R->Option Q}(hf:∀a,f a=(f' a).bind k)(hg:∀b,g b=(g' b).bind k)(x:A⊕B):Qn x f g=(Qn x f' g').bind k:=by
 cases x with
 |inl a=>exact hf a
 |inr b=>exact hg b
abbrev Rv:=AV×List CV
abbrev K2:AV->List CV->Option Rv:=fun a cs=>some (a,cs)
theorem ag.fx{C:ew}{t:List (FuncId×af)}{e:Bool}(hT:jY C t)(hm:C.P.follows .mixedOrders=true){fid:FuncId}{f:Func}(hf:C.P.funcs[fid]?=some f)(hb:f.body.isSome=true)
 (hname:(f.name== "runtime.NumGoroutine")=false) {as:List AX} {β:Type} {g:qd as->Option β} {enc:β->AV×List CV} {alt:{R:Type}->β->(β->Option R)->Option R} {altOk:∀{R:Type} (x:β) (k:β->Option R),alt x k=k x} (h:kF Rv) (fuel:Nat)
 (hH:bP (pL C t e) ⟨f.ntmps,f.ntmps+xP as⟩ h fuel (fF (dl f)))
 (hrun:∀z,Kp (pL C t e) h fuel f (Di as) (kE as z) (nK as 0 z) K2=(g z).bind fun b=>some (enc b)):ag C fid (af.fx as β g enc @alt @altOk):=by
 have hb:f.body=some (dl f):=by
  unfold dl
  cases h:f.body with
  |none=>rw[h]at hb;cases hb
  |some c=>rfl
 refine ag.ctx (C:=pL C t e) (C':=C) rfl rfl (ag.of_run (C:=pL C t e) hf hb hname rfl hm hT.rho ?_)
 intro bs vs (x:β) hG
 have hG:(eR as 0 bs vs).bind g=some x:=hG
 rw[Option.bind_eq_some_iff]at hG
 obtain⟨z,hz,hx⟩:=hG
 obtain⟨rfl,rfl⟩:=iL hz
 refine⟨h,fuel,by rw[fa];exact hH, ?_⟩
 have:=hrun z
 rw[hx]at this
 exact this
abbrev K3:AV->List CV->Option Rv:=fun a cs=>some (a,cs.map fun _=>.undef)
theorem ag.fxTake{C:ew}{t:List (FuncId×af)}{e:Bool}(hT:jY C t)(hm:C.P.follows .mixedOrders=true){fid:FuncId}{f:Func}(hf:C.P.funcs[fid]?=some f)(hb:f.body.isSome=true)
 (hname:(f.name== "runtime.NumGoroutine")=false) {as:List AX} {β:Type} {g:qd as->Option β} {enc:β->AV×List CV} {alt:{R:Type}->β->(β->Option R)->Option R} {altOk:∀{R:Type} (x:β) (k:β->Option R),alt x k=k x} (h:kF Rv) (fuel:Nat)
 (hH:bP (pL C t e) ⟨f.ntmps,f.ntmps+xP as⟩ h fuel (fF (dl f)))
 (hrun:∀z,Kp (pL C t e) h fuel f (Di as) (kE as z) (nK as 0 z) K3=(g z).bind fun b=>some (enc b)):ag C fid (af.fx as β g enc @alt @altOk):=by
 have hb:f.body=some (dl f):=by
  unfold dl
  cases h:f.body with
  |none=>rw[h]at hb;cases hb
  |some c=>rfl
 refine ag.ctx (C:=pL C t e) (C':=C) rfl rfl (ag.of_runTake (C:=pL C t e) hf hb hname rfl hm hT.rho ?_)
 intro bs vs (x:β) hG
 have hG:(eR as 0 bs vs).bind g=some x:=hG
 rw[Option.bind_eq_some_iff]at hG
 obtain⟨z,hz,hx⟩:=hG
 obtain⟨rfl,rfl⟩:=iL hz
 refine⟨h,fuel,by rw[fa];exact hH, ?_⟩
 have:=hrun z
 rw[hx]at this
 exact this
def af.emptyS(t:Ty):af:=
 {io:=[],β:=Unit,
  G:=fun bs vs=>match bs,vs with
   |[],[⟨false,[.v (.slice _ 0 _)]⟩]=>some ()
   |_,_=>none
  enc:=fun _=>(.one ⟨false,[.own t []]⟩,[])}
theorem ag.orEmpty{C:ew}{f:FuncId}{t:Ty}{g:qd [.val false (.slice t)]->Option (List t.T)}(h1:ag C f (af.fx [.val false (.slice t)] (List t.T) g (fun b=>(.one ⟨false,[.own t b]⟩,[]))))
 {g':List t.T->Option (List t.T)} (hg:∀l y,g' l=some y->l≠ []->g (l,())=some y) (h0:∀y,g' []=some y->y=[]) (h2:ag C f (af.emptyS t)):
 ag C f (af.fx [.val false (.slice t)] (List t.T) (fun z=>g' z.1) (fun b=>(.one ⟨false,[.own t b]⟩,[]))):=by
 have h1:=h1.r rfl
 have h2:=h2.r rfl
 refine tA.s rfl ⟨h1.1,fun g0 w bs vs args ms (x:List t.T) hP hG=> ?_⟩
 have hG:(eR [.val false (.slice t)] 0 bs vs).bind (fun z=>g' z.1)=some x:=hG
 obtain⟨z,hz,hx⟩:=Option.bind_eq_some_iff.1 hG
 obtain⟨l,u⟩:=z
 have hx:g' l=some x:=hx
 by_cases hl:l=[]
 ·subst hl
  obtain rfl:=h0 x hx
  obtain⟨rfl,rfl⟩:=iL hz
  obtain⟨v,vs',m,ms',rfl,rfl,hv,hr⟩:=hP.vals
  obtain⟨rfl,rfl⟩:=hr
  have hv':bL g0 w [.sl t []] [v] m:=hv
  obtain⟨v',vs',m',ms',e1,rfl,hF,hn⟩:=hv'
  cases e1
  obtain⟨_,rfl⟩:=hn
  obtain⟨rfl,hF⟩:=hF
  obtain⟨A,cap,hA,_⟩:=hF (.slot 0 0 0)
  simp only[List.cons.injEq,and_true,List.length_nil]at hA
  subst hA
  exact h2.2 g0 w [] [⟨false,[.v (.slice A 0 cap)]⟩] _ _ () {hP with vals:=⟨_,[],_,[],rfl,rfl,⟨_,[],[],[],rfl,rfl,⟨rfl,fun _=>rfl⟩,rfl,rfl⟩,rfl,rfl⟩} rfl
 ·refine h1.2 g0 w bs vs args ms x hP ?_
  show(eR [.val false (.slice t)] 0 bs vs).bind g=some x
  rw[hz]
  exact hg l x hx hl
theorem ag.emptyRun{C:ew}{t:Ty}(hm:C.P.follows .mixedOrders=true){fid:FuncId}{f:Func}(hf:C.P.funcs[fid]?=some f)(hb:f.body.isSome=true)(hname:(f.name== "runtime.NumGoroutine")=false)(hρ:∀f,C.ρ f=none)
 (hrun:∀A c,Kp C aW 1 f [] [] [⟨false,[.v (.slice A 0 c)]⟩] K2=some (.one ⟨false,[.own t []]⟩,[])):ag C fid (af.emptyS t):=by
 have hb:f.body=some (dl f):=by
  unfold dl
  cases h:f.body with
  |none=>rw[h]at hb;cases hb
  |some c=>rfl
 refine ag.of_run hf hb hname rfl hm (fun f c h=>by rw[hρ]at h;cases h) ?_
 intro bs vs x hG
 refine⟨aW,1,aq, ?_⟩
 unfold af.emptyS at hG x⊢
 simp only at hG
 split at hG
 ·exact hrun _ _
 ·cases hG
theorem DQ{ax:List AX}{β:Type}{g:qd ax->Option β}{enc:β->AV×List CV}{vs:List Val}{z:qd ax}{b:β}(h:eR ax 0 [] vs=some z)(hg:g z=some b):(af.fx ax β g enc).G [] vs=some b:=by
 show(eR ax 0 [] vs).bind g=some b
 rw[h];exact hg
@[reducible] def mJ(R:Type):List (Ex×LS)->Type
 |[]=>Unit
 |x::r=>(x.2.T->Option R)×mJ R r
def jP{R:Type}:(xs:List (Ex×LS))->mJ R xs->wO xs->Option R
 |[],_,z=>nomatch z
 |_::r,h,z=>match z with
  | .inl z=>h.1 z
  | .inr z=>jP r h.2 z
def sj{R:Type}:(xs:List (Ex×LS))->(wO xs->Option R)->mJ R xs
 |[],_=>()
 |_::r,f=>(fun z=>f (.inl z),sj r (fun z=>f (.inr z)))
def hK{R:Type}(k:Ex->kp->Option R):(xs:List (Ex×LS))->mJ R xs
 |[]=>()
 |x::r=>(fun z=>k x.1 (x.2.enc z),hK k r)
theorem Lf{R:Type}{k:Ex->kp->Option R}:∀(xs:List (Ex×LS)) (z:wO xs),jP xs (hK k xs) z=Qw k xs z
 |[],z=>nomatch z
 |_::_, .inl _=>rfl
 |_::r, .inr z=>Lf r z
theorem LW{R:Type}:∀(xs:List (Ex×LS)) (f:wO xs->Option R) (z:wO xs),jP xs (sj xs f) z=f z
 |[],_,z=>nomatch z
 |_::_,_, .inl _=>rfl
 |_::r,_, .inr z=>LW r _ z
section
variable {s:LS} {xs:List (Ex×LS)} (T:(R:Type)->(s.T->Option R)->mJ R xs->s.T->Option R)
def zG(z:s.T):Option (s.T⊕wO xs):=T _ (fun y=>some (.inl y)) (sj xs fun x=>some (.inr x)) z
def rV{R:Type}(n:s.T->Option R)(h:mJ R xs):s.T⊕wO xs->Option R
 | .inl y=>n y
 | .inr x=>jP xs h x
def fe:Prop:=∀(R:Type) (n:s.T->Option R) (h:mJ R xs) z,T R n h z=(zG T z).bind (rV n h)
noncomputable def Bt:s.T->Option (wO xs):=rl (zG T)
end
theorem KI{α β:Type}{g:α->Option (α⊕β)}{z:α}(h:g z=none):rl g z=none:=by
 cases hw:rl g z with
 |none=>rfl
 |some x=>
  obtain⟨n,hn⟩:=vD hw
  cases n with
  |zero=>cases hn
  |succ n=>simp only[xO,h,Option.bind_none]at hn;cases hn
theorem jL{s:LS}{xs:List (Ex×LS)}{T:(R:Type)->(s.T->Option R)->mJ R xs->s.T->Option R}(hT:fe T)(z:s.T):Bt T z=T _ (Bt T) (sj xs some) z:=by
 rw[hT _ (Bt T) (sj xs some) z]
 cases hg:zG T z with
 |none=>exact KI hg
 |some r=>
  cases r with
  |inl y=>exact KJ hg
  |inr x=>
   refine(KH hg).trans ?_
   simp only[Option.bind_some,rV,LW]
noncomputable def ie{R:Type}(s:LS)(xs:List (Ex×LS))(w:s.T->Option (wO xs))(x:kp)(k:Ex->kp->Option R):Option R:=
 (s.parse x).bind fun z=>(w z).bind (jP xs (hK k xs))
theorem iX{d:Ew}{lh:eo}{R:Type}{body:St->(Ex->St->Option R)->Option R}{s:LS}{xs:List (Ex×LS)}{T:(R:Type)->(s.T->Option R)->mJ R xs->s.T->Option R}(hT:fe T)
 (hstep:∀n z k,dG d lh body (n+1) (s.enc z) k=T R (fun y=>dG d lh body n (s.enc y) k) (hK k xs) z):∀x k r,ie s xs (Bt T) x k=some r->∃N,dG d lh body N x k=some r:=by
 intro x k r h
 refine Ok (s:=s) (xs:=xs) (g:=zG T) ?_ x k r ?_
 ·intro n z k
  rw[hstep,hT]
  cases zG T z with
  |none=>rfl
  |some r=>
   cases r with
   |inl y=>rfl
   |inr x=>exact Lf xs x
 ·have e:ie s xs (Bt T) x k=L7 s xs (zG T) x k:=by
   unfold ie L7
   congr 1
   funext z
   show(Bt T z).bind _=(Bt T z).bind _
   congr 1
   funext y
   exact Lf xs y
  rw[<-e];exact h
theorem ae{R Q:Type}{c:Bool}{x y:Option Q}{x' y':Option R}{k:R->Option Q}(h:x=x'.bind k)(h':y=y'.bind k):cond c x y=(cond c x' y').bind k:=by
 cases c
 ·exact h'
 ·exact h
theorem ac{A R Q:Type}{o:Option A}{f:A->Option Q}{f':A->Option R}{k:R->Option Q}(h:∀z,f z=(f' z).bind k):o.bind f=(o.bind f').bind k:=by
 cases o with
 |none=>rfl
 |some z=>exact h z
def Rl{R Q:Type}(k:R->Option Q):(xs:List (Ex×LS))->mJ Q xs->mJ R xs->Prop
 |[],_,_=>True
 |_::r,h,h'=>(∀z,h.1 z=(h'.1 z).bind k)/\Rl k r h.2 h'.2
theorem Lg{R Q:Type}{k:R->Option Q}:∀{xs:List (Ex×LS)} {h:mJ Q xs} {h':mJ R xs},Rl k xs h h'->∀z,jP xs h z=(jP xs h' z).bind k
 |[],_,_,_,z=>nomatch z
 |_::_,_,_,H, .inl z=>H.1 z
 |_::_,_,_,H, .inr z=>Lg H.2 z
theorem bh{R Q:Type}{xs:List (Ex×LS)}{o:Option (wO xs)}{h:mJ Q xs}{h':mJ R xs}{k:R->Option Q}(H:Rl k xs h h'):o.bind (jP xs h)=(o.bind (jP xs h')).bind k:=
 ac (Lg H)
section
variable {s0 s:LS} {xs:List (Ex×LS)} (T:(R:Type)->(s.T->Option R)->mJ R xs->s0.T->Option R)
def LF(z:s0.T):Option (s.T⊕wO xs):=T _ (fun y=>some (.inl y)) (sj xs fun x=>some (.inr x)) z
def JH:Prop:=∀(R:Type) (n:s.T->Option R) (h:mJ R xs) z,T R n h z=(LF T z).bind (rV n h)
end
noncomputable def PP{R:Type}{s0 s:LS}{xs:List (Ex×LS)}(T:(R:Type)->(s.T->Option R)->mJ R xs->s0.T->Option R)(S:kp->(Ex->kp->Option R)->Option R)(x:kp)(k:Ex->kp->Option R):Option R:=
 (s0.parse x).bind fun z=>T R (fun y=>S (s.enc y) k) (hK k xs) z
theorem QV{d:Ew}{lh:eo}{R:Type}{body:St->(Ex->St->Option R)->Option R}{s0 s:LS}{xs:List (Ex×LS)}{T:(R:Type)->(s.T->Option R)->mJ R xs->s0.T->Option R}(hT:JH T)
 (hstep:∀n z k,dG d lh body (n+1) (s0.enc z) k=T R (fun y=>dG d lh body n (s.enc y) k) (hK k xs) z)
 {S:kp->(Ex->kp->Option R)->Option R} (hS:∀x k r,S x k=some r->∃N,dG d lh body N x k=some r):
 ∀x k r,PP T S x k=some r->∃N,dG d lh body N x k=some r:=by
 intro x k r h
 simp only[PP,Option.bind_eq_some_iff]at h
 obtain⟨z,hz,h⟩:=h
 rw[LS.parse_ok hz]
 rw[hT]at h
 cases hg:LF T z with
 |none=>rw[hg]at h;cases h
 |some y=>
  rw[hg]at h
  cases y with
  |inl y=>
   obtain⟨N,hN⟩:=hS _ _ _ h
   refine⟨N+1, ?_⟩
   rw[hstep,hT,hg]
   exact hN
  |inr y=>
   refine⟨1, ?_⟩
   rw[hstep,hT,hg]
   exact h
theorem QY{R Q:Type}{s0 s:LS}{xs:List (Ex×LS)}{T:(R:Type)->(s.T->Option R)->mJ R xs->s0.T->Option R}(hT:JH T){f:s.T->Option Q}{f':s.T->Option R}{h:mJ Q xs}{h':mJ R xs}{k:R->Option Q}
 (hf:∀y,f y=(f' y).bind k) (hh:Rl k xs h h') (z:s0.T):T Q f h z=(T R f' h' z).bind k:=by
 rw[hT Q f h z,hT R f' h' z]
 cases LF T z with
 |none=>rfl
 |some y=>
  cases y with
  |inl y=>exact hf y
  |inr y=>exact Lg hh y
end Go.Vai
