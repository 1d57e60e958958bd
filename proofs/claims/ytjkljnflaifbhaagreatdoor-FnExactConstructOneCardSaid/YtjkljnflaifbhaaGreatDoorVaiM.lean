/- No conditions. -/
import Derived.Test.YtjkljnflaifbhaaGreatDoorVaiL
namespace Go.Vai
open Go
inductive AX where
 |val (agg:Bool) (t:Ty)
 |ptr (t:Ty)
 |clo (f:FuncId) (ts:List Ty)
 |io (t:Ty)
 |ios (g:Bool) (ts:List Ty)
 |mix (g:Bool) (s:List CS)
 |rw (s:List CS)
 |clw (f:FuncId) (ss:List (List CS))
@[reducible] def Zo:List Ty->Type
 |[]=>Unit
 |t::r=>List t.T×Zo r
def L9:(ts:List Ty)->Zo ts->List CV
 |[],_=>[]
 |t::r,z=>.own t z.1::L9 r z.2
def H3:(ts:List Ty)->List CV->Option (Zo ts)
 |[],cs=>match cs with
  |[]=>some ()
  |_=>none
 |t::r,cs=>match cs with
  | .own t' l::cs=>if h:t'=t then(H3 r cs).bind fun y=>some (h▸l,y)else none
  |_=>none
theorem OZ:∀{ts:List Ty} {cs:List CV} {z:Zo ts},H3 ts cs=some z->cs=L9 ts z
 |[],cs,z,h=>by
  simp only[H3]at h
  split at h
  ·rfl
  ·cases h
 |t::r,cs,z,h=>by
  simp only[H3]at h
  split at h
  ·rename_i t' l cs
   split at h
   ·rename_i e
    subst e
    simp only[Option.bind_eq_some_iff]at h
    obtain⟨y,hy,hz⟩:=h
    cases hz
    simp only[L9];rw[<-OZ hy]
   ·cases h
  ·cases h
@[reducible] def X5:List (List CS)->Type
 |[]=>Unit
 |s::r=>csT s×X5 r
@[reducible] def Yx:List Ty->Type
 |[]=>Unit
 |t::r=>t.T×Yx r
@[reducible] def AX.T:AX->Type
 | .val _ t=>t.T
 | .ptr t=>t.T
 | .clo _ ts=>Yx ts
 | .io t=>List t.T
 | .ios _ ts=>Zo ts
 | .mix _ s=>csT s
 | .rw s=>csT s
 | .clw _ ss=>X5 ss
@[reducible] def wT:List AX->Type
 |[]=>Unit
 |a::r=>a.T×wT r
def WG:Nat->List Ty->List (Nat×Nat)
 |_,[]=>[]
 |n,_::r=>(n,0)::WG (n+1) r
def Uk:Nat->List (List CS)->List (Nat×Nat)
 |_,[]=>[]
 |n,_::r=>(n,0)::Uk (n+1) r
def EU:(ss:List (List CS))->X5 ss->List (List CV)
 |[],_=>[]
 |s::r,z=>Um s z.1::EU r z.2
def FO:(ts:List Ty)->Yx ts->List (List CV)
 |[],_=>[]
 |t::r,z=>t.cells z.1::FO r z.2
def uw:(as:List AX)->Nat->wT as->List Val
 |[],_,_=>[]
 | .val g t::r,n,z=>⟨g,t.cells z.1⟩::uw r n z.2
 | .ptr _::r,n,z=>⟨false,[.ptr n 0]⟩::uw r (n+1) z.2
 | .clo f ts::r,n,z=>⟨false,[.fn f (WG n ts)]⟩::uw r (n+ts.length) z.2
 | .io t::r,n,z=>⟨false,[.own t z.1]⟩::uw r n z.2
 | .ios g ts::r,n,z=>⟨g,L9 ts z.1⟩::uw r n z.2
 | .mix g s::r,n,z=>⟨g,Um s z.1⟩::uw r n z.2
 | .rw _::r,n,z=>⟨false,[.ptr n 0]⟩::uw r (n+1) z.2
 | .clw f ss::r,n,z=>⟨false,[.fn f (Uk n ss)]⟩::uw r (n+ss.length) z.2
def pO:(as:List AX)->wT as->List (List CV)
 |[],_=>[]
 | .val _ _::r,z=>pO r z.2
 | .ptr t::r,z=>t.cells z.1::pO r z.2
 | .clo _ ts::r,z=>FO ts z.1++pO r z.2
 | .io _::r,z=>pO r z.2
 | .ios _ _::r,z=>pO r z.2
 | .mix _ _::r,z=>pO r z.2
 | .rw s::r,z=>Um s z.1::pO r z.2
 | .clw _ ss::r,z=>EU ss z.1++pO r z.2
def Lw:(ss:List (List CS))->List (List CV)->Option (X5 ss×List (List CV))
 |[],bs=>some ((),bs)
 |s::r,bs=>match bs with
  |b::bs=>(yW s b).bind fun x=>(Lw r bs).bind fun y=>some ((x,y.1),y.2)
  |[]=>none
theorem OQ:∀{ss:List (List CS)} {bs:List (List CV)} {z:X5 ss×List (List CV)},Lw ss bs=some z->bs=EU ss z.1++z.2
 |[],bs,z,h=>by cases h;rfl
 |s::r,bs,z,h=>by
  simp only[Lw]at h
  split at h
  ·rename_i b bs
   simp only[Option.bind_eq_some_iff]at h
   obtain⟨x,hx,y,hy,hz⟩:=h
   cases hz
   simp only[EU,List.cons_append]
   rw[<-we hx,<-OQ hy]
  ·cases h
def M6:(ts:List Ty)->List (List CV)->Option (Yx ts×List (List CV))
 |[],bs=>some ((),bs)
 |t::r,bs=>match bs with
  |b::bs=>(t.parse b).bind fun x=>(M6 r bs).bind fun y=>some ((x,y.1),y.2)
  |[]=>none
theorem Pn:∀{ts:List Ty} {bs:List (List CV)} {z:Yx ts×List (List CV)},M6 ts bs=some z->bs=FO ts z.1++z.2
 |[],bs,z,h=>by cases h;rfl
 |t::r,bs,z,h=>by
  simp only[M6]at h
  split at h
  ·rename_i b bs
   simp only[Option.bind_eq_some_iff]at h
   obtain⟨x,hx,y,hy,hz⟩:=h
   cases hz
   simp only[FO,List.cons_append]
   rw[<-Ty.parse_cells hx,<-Pn hy]
  ·cases h
def iG:(as:List AX)->Nat->List (List CV)->List Val->Option (wT as)
 |[],_,bs,vs=>match bs,vs with
  |[],[]=>some ()
  |_,_=>none
 | .val g t::r,n,bs,vs=>match vs with
   |v::vs=>if v.agg=g then(t.parse v.cs).bind fun x=>(iG r n bs vs).bind fun y=>some (x,y)else none
   |_=>none
 | .ptr t::r,n,bs,vs=>match bs,vs with
   |b::bs,⟨false,[.ptr k 0]⟩::vs=>if k=n then(t.parse b).bind fun x=>(iG r (n+1) bs vs).bind fun y=>some (x,y)else none
   |_,_=>none
 | .clo f ts::r,n,bs,vs=>match vs with
   |⟨false,[.fn f' caps]⟩::vs=>if f'=f/\caps=WG n ts then(M6 ts bs).bind fun x=>(iG r (n+ts.length) x.2 vs).bind fun y=>some (x.1,y)else none
   |_=>none
 | .io t::r,n,bs,vs=>match vs with
   |⟨false,[.own t' l]⟩::vs=>if h:t'=t then(iG r n bs vs).bind fun y=>some (h▸l,y)else none
   |_=>none
 | .ios g ts::r,n,bs,vs=>match vs with
   |v::vs=>if v.agg=g then(H3 ts v.cs).bind fun x=>(iG r n bs vs).bind fun y=>some (x,y)else none
   |_=>none
 | .mix g s::r,n,bs,vs=>match vs with
   |v::vs=>if v.agg=g then(yW s v.cs).bind fun x=>(iG r n bs vs).bind fun y=>some (x,y)else none
   |_=>none
 | .rw s::r,n,bs,vs=>match bs,vs with
   |b::bs,⟨false,[.ptr k 0]⟩::vs=>if k=n then(yW s b).bind fun x=>(iG r (n+1) bs vs).bind fun y=>some (x,y)else none
   |_,_=>none
 | .clw f ss::r,n,bs,vs=>match vs with
   |⟨false,[.fn f' caps]⟩::vs=>if f'=f/\caps=Uk n ss then(Lw ss bs).bind fun x=>(iG r (n+ss.length) x.2 vs).bind fun y=>some (x.1,y)else none
   |_=>none
theorem mA:∀{as:List AX} {n:Nat} {bs:List (List CV)} {vs:List Val} {z:wT as},iG as n bs vs=some z->vs=uw as n z/\bs=pO as z
 |[],n,bs,vs,z,h=>by
  simp only[iG]at h
  split at h
  ·exact⟨rfl,rfl⟩
  ·cases h
 | .val g t::r,n,bs,vs,z,h=>by
   simp only[iG]at h
   split at h
   ·rename_i v vs
    split at h
    ·rename_i hg
     simp only[Option.bind_eq_some_iff]at h
     obtain⟨x,hx,y,hy,hz⟩:=h
     cases hz
     obtain⟨h1,h2⟩:=mA hy
     refine⟨?_,h2⟩
     simp only[uw]
     rw[<-Ty.parse_cells hx,<-h1,<-hg]
    ·cases h
   ·cases h
 | .ptr t::r,n,bs,vs,z,h=>by
   simp only[iG]at h
   split at h
   ·rename_i b bs k vs
    split at h
    ·rename_i hk
     simp only[Option.bind_eq_some_iff]at h
     obtain⟨x,hx,y,hy,hz⟩:=h
     cases hz
     obtain⟨h1,h2⟩:=mA hy
     refine⟨?_, ?_⟩
     ·simp only[uw];rw[<-h1,hk]
     ·simp only[pO];rw[<-Ty.parse_cells hx,<-h2]
    ·cases h
   ·cases h
 | .clo f ts::r,n,bs,vs,z,h=>by
   simp only[iG]at h
   split at h
   ·rename_i f' caps vs
    split at h
    ·rename_i hk
     obtain⟨rfl,rfl⟩:=hk
     simp only[Option.bind_eq_some_iff]at h
     obtain⟨x,hx,y,hy,hz⟩:=h
     cases hz
     obtain⟨h1,h2⟩:=mA hy
     refine⟨?_, ?_⟩
     ·simp only[uw];rw[<-h1]
     ·simp only[pO];rw[<-h2,<-Pn hx]
    ·cases h
   ·cases h
 | .io t::r,n,bs,vs,z,h=>by
   simp only[iG]at h
   split at h
   ·rename_i t' l vs
    split at h
    ·rename_i e
     subst e
     simp only[Option.bind_eq_some_iff]at h
     obtain⟨y,hy,hz⟩:=h
     cases hz
     obtain⟨h1,h2⟩:=mA hy
     refine⟨?_,h2⟩
     simp only[uw];rw[<-h1]
    ·cases h
   ·cases h
 | .ios g ts::r,n,bs,vs,z,h=>by
   simp only[iG]at h
   split at h
   ·rename_i v vs
    split at h
    ·rename_i hg
     simp only[Option.bind_eq_some_iff]at h
     obtain⟨x,hx,y,hy,hz⟩:=h
     cases hz
     obtain⟨h1,h2⟩:=mA hy
     refine⟨?_,h2⟩
     simp only[uw]
     rw[<-OZ hx,<-h1,<-hg]
    ·cases h
   ·cases h
 | .mix g s::r,n,bs,vs,z,h=>by
   simp only[iG]at h
   split at h
   ·rename_i v vs
    split at h
    ·rename_i hg
     simp only[Option.bind_eq_some_iff]at h
     obtain⟨x,hx,y,hy,hz⟩:=h
     cases hz
     obtain⟨h1,h2⟩:=mA hy
     refine⟨?_,h2⟩
     simp only[uw]
     rw[<-we hx,<-h1,<-hg]
    ·cases h
   ·cases h
 | .rw s::r,n,bs,vs,z,h=>by
   simp only[iG]at h
   split at h
   ·rename_i b bs k vs
    split at h
    ·rename_i hk
     simp only[Option.bind_eq_some_iff]at h
     obtain⟨x,hx,y,hy,hz⟩:=h
     cases hz
     obtain⟨h1,h2⟩:=mA hy
     refine⟨?_, ?_⟩
     ·simp only[uw];rw[<-h1,hk]
     ·simp only[pO];rw[<-we hx,<-h2]
    ·cases h
   ·cases h
 | .clw f ss::r,n,bs,vs,z,h=>by
   simp only[iG]at h
   split at h
   ·rename_i f' caps vs
    split at h
    ·rename_i hk
     obtain⟨rfl,rfl⟩:=hk
     simp only[Option.bind_eq_some_iff]at h
     obtain⟨x,hx,y,hy,hz⟩:=h
     cases hz
     obtain⟨h1,h2⟩:=mA hy
     refine⟨?_, ?_⟩
     ·simp only[uw];rw[<-h1]
     ·simp only[pO];rw[<-h2,<-OQ hx]
    ·cases h
   ·cases h
def G7:List AX->Nat
 |[]=>0
 | .val _ _::r=>G7 r
 | .ptr _::r=>G7 r+1
 | .clo _ ts::r=>ts.length+G7 r
 | .io _::r=>G7 r
 | .ios _ _::r=>G7 r
 | .mix _ _::r=>G7 r
 | .rw _::r=>G7 r+1
 | .clw _ ss::r=>ss.length+G7 r
theorem GA:∀(ss:List (List CS)) (z:X5 ss),(EU ss z).length=ss.length
 |[],_=>rfl
 |t::r,z=>by simp[EU,GA r z.2]
theorem GZ:∀(ts:List Ty) (z:Yx ts),(FO ts z).length=ts.length
 |[],_=>rfl
 |t::r,z=>by simp[FO,GZ r z.2]
theorem iY:∀(as:List AX) (z:wT as),(pO as z).length=G7 as
 |[],_=>rfl
 | .val _ _::r,z=>iY r z.2
 | .ptr t::r,z=>by simp[pO,G7,iY r z.2]
 | .clo _ ts::r,z=>by
   simp only[pO,G7,List.length_append,iY r z.2]
   exact congrArg (·+G7 r) (GZ ts z.1)
 | .io _::r,z=>iY r z.2
 | .ios _ _::r,z=>iY r z.2
 | .mix _ _::r,z=>iY r z.2
 | .rw s::r,z=>by simp[pO,G7,iY r z.2]
 | .clw _ ss::r,z=>by
   simp only[pO,G7,List.length_append,iY r z.2]
   exact congrArg (·+G7 r) (GA ss z.1)
def AX.lentTo:AX->Bool
 | .io _=>true
 | .ios _ _=>true
 | .mix _ _=>true
 |_=>false
def NC(as:List AX):List Bool:=
 match as.any AX.lentTo with
 |true=>as.map AX.lentTo
 |false=>[]
def af.fx(as:List AX)(β:Type)(g:wT as->Option β)(enc:β->AV×List CV)(alt:{R:Type}->β->(β->Option R)->Option R:=fun x k=>k x)(altOk:∀{R:Type} (x:β) (k:β->Option R),alt x k=k x:=by intros;rfl):af:=
 {io:=NC as,β:=β,G:=fun bs vs=>(iG as 0 bs vs).bind g,enc:=enc,alt:=alt,altOk:=altOk}
noncomputable def abQ{A B:Type}{R:Sort 1}(x:A⊕B)(f:A->R)(g:B->R):R:=Sum.rec f g x
def acS{A:Type}{R:Type}(x:A)(k:A->Option R):Option R:=k x
noncomputable def acG{A B:Type}(f:{R:Type}->B->(B->Option R)->Option R){R:Type}(x:A⊕B)(k:A⊕B->Option R):Option R:=abQ x (fun a=>k (.inl a)) fun b=>f b fun b=>k (.inr b)
theorem acw{A B:Type}{f:{R:Type}->B->(B->Option R)->Option R}(hf:∀{R:Type} (x:B) (k:B->Option R),f x k=k x){R:Type}(x:A⊕B)(k:A⊕B->Option R):acG @f x k=k x:=by
 cases x with
 |inl a=>rfl
 |inr b=>exact hf b _
theorem acB{A B R Q:Type}{f:A->Option Q}{g:B->Option Q}{f':A->Option R}{g':B->Option R}{k:R->Option Q}(hf:∀a,f a=(f' a).bind k)(hg:∀b,g b=(g' b).bind k)(x:A⊕B):abQ x f g=(abQ x f' g').bind k:=by
 cases x with
 |inl a=>exact hf a
 |inr b=>exact hg b
abbrev Rv:=AV×List CV
abbrev K2:AV->List CV->Option Rv:=fun a cs=>some (a,cs)
theorem ag.fx{C:gA}{t:List (FuncId×af)}{e:Bool}(hT:oX C t)(hm:C.P.follows .mixedOrders=true){fid:FuncId}{f:Func}(hf:C.P.funcs[fid]?=some f)(hb:f.body.isSome=true)
 (hname:(f.name== "runtime.NumGoroutine")=false) {as:List AX} {β:Type} {g:wT as->Option β} {enc:β->AV×List CV} {alt:{R:Type}->β->(β->Option R)->Option R} {altOk:∀{R:Type} (x:β) (k:β->Option R),alt x k=k x} (h:fQ Rv) (fuel:Nat)
 (hH:aw (ii C t e) ⟨f.ntmps,f.ntmps+G7 as⟩ h fuel (cp (bh f)))
 (hrun:∀z,VX (ii C t e) h fuel f (NC as) (pO as z) (uw as 0 z) K2=(g z).bind fun b=>some (enc b)):ag C fid (af.fx as β g enc @alt @altOk):=by
 have hb:f.body=some (bh f):=by
  unfold bh
  cases h:f.body with
  |none=>rw[h]at hb;cases hb
  |some c=>rfl
 refine ag.ctx (C:=ii C t e) (C':=C) rfl rfl (ag.of_run (C:=ii C t e) hf hb hname rfl hm hT.rho ?_)
 intro bs vs (x:β) hG
 have hG:(iG as 0 bs vs).bind g=some x:=hG
 rw[Option.bind_eq_some_iff]at hG
 obtain⟨z,hz,hx⟩:=hG
 obtain⟨rfl,rfl⟩:=mA hz
 refine⟨h,fuel,by rw[iY];exact hH, ?_⟩
 have:=hrun z
 rw[hx]at this
 exact this
abbrev K3:AV->List CV->Option Rv:=fun a cs=>some (a,cs.map fun _=>.undef)
theorem ag.fxTake{C:gA}{t:List (FuncId×af)}{e:Bool}(hT:oX C t)(hm:C.P.follows .mixedOrders=true){fid:FuncId}{f:Func}(hf:C.P.funcs[fid]?=some f)(hb:f.body.isSome=true)
 (hname:(f.name== "runtime.NumGoroutine")=false) {as:List AX} {β:Type} {g:wT as->Option β} {enc:β->AV×List CV} {alt:{R:Type}->β->(β->Option R)->Option R} {altOk:∀{R:Type} (x:β) (k:β->Option R),alt x k=k x} (h:fQ Rv) (fuel:Nat)
 (hH:aw (ii C t e) ⟨f.ntmps,f.ntmps+G7 as⟩ h fuel (cp (bh f)))
 (hrun:∀z,VX (ii C t e) h fuel f (NC as) (pO as z) (uw as 0 z) K3=(g z).bind fun b=>some (enc b)):ag C fid (af.fx as β g enc @alt @altOk):=by
 have hb:f.body=some (bh f):=by
  unfold bh
  cases h:f.body with
  |none=>rw[h]at hb;cases hb
  |some c=>rfl
 refine ag.ctx (C:=ii C t e) (C':=C) rfl rfl (ag.of_runTake (C:=ii C t e) hf hb hname rfl hm hT.rho ?_)
 intro bs vs (x:β) hG
 have hG:(iG as 0 bs vs).bind g=some x:=hG
 rw[Option.bind_eq_some_iff]at hG
 obtain⟨z,hz,hx⟩:=hG
 obtain⟨rfl,rfl⟩:=mA hz
 refine⟨h,fuel,by rw[iY];exact hH, ?_⟩
 have:=hrun z
 rw[hx]at this
 exact this
def af.emptyS(t:Ty):af:=
 {io:=[],β:=Unit,
  G:=fun bs vs=>match bs,vs with
   |[],[⟨false,[.v (.slice _ 0 _)]⟩]=>some ()
   |_,_=>none
  enc:=fun _=>(.one ⟨false,[.own t []]⟩,[])}
theorem ag.orEmpty{C:gA}{f:FuncId}{t:Ty}{g:wT [.val false (.slice t)]->Option (List t.T)}(h1:ag C f (af.fx [.val false (.slice t)] (List t.T) g (fun b=>(.one ⟨false,[.own t b]⟩,[]))))
 {g':List t.T->Option (List t.T)} (hg:∀l y,g' l=some y->l≠ []->g (l,())=some y) (h0:∀y,g' []=some y->y=[]) (h2:ag C f (af.emptyS t)):
 ag C f (af.fx [.val false (.slice t)] (List t.T) (fun z=>g' z.1) (fun b=>(.one ⟨false,[.own t b]⟩,[]))):=by
 have h1:=h1.r rfl
 have h2:=h2.r rfl
 refine BS.s rfl ⟨h1.1,fun g0 w bs vs args ms (x:List t.T) hP hG=> ?_⟩
 have hG:(iG [.val false (.slice t)] 0 bs vs).bind (fun z=>g' z.1)=some x:=hG
 obtain⟨z,hz,hx⟩:=Option.bind_eq_some_iff.1 hG
 obtain⟨l,u⟩:=z
 have hx:g' l=some x:=hx
 by_cases hl:l=[]
 ·subst hl
  obtain rfl:=h0 x hx
  obtain⟨rfl,rfl⟩:=mA hz
  obtain⟨v,vs',m,ms',rfl,rfl,hv,hr⟩:=hP.vals
  obtain⟨rfl,rfl⟩:=hr
  have hv':ci g0 w [.sl t []] [v] m:=hv
  obtain⟨v',vs',m',ms',e1,rfl,hF,hn⟩:=hv'
  cases e1
  obtain⟨_,rfl⟩:=hn
  obtain⟨rfl,hF⟩:=hF
  obtain⟨A,cap,hA,_⟩:=hF (.slot 0 0 0)
  simp only[List.cons.injEq,and_true,List.length_nil]at hA
  subst hA
  exact h2.2 g0 w [] [⟨false,[.v (.slice A 0 cap)]⟩] _ _ () {hP with vals:=⟨_,[],_,[],rfl,rfl,⟨_,[],[],[],rfl,rfl,⟨rfl,fun _=>rfl⟩,rfl,rfl⟩,rfl,rfl⟩} rfl
 ·refine h1.2 g0 w bs vs args ms x hP ?_
  show(iG [.val false (.slice t)] 0 bs vs).bind g=some x
  rw[hz]
  exact hg l x hx hl
theorem ag.emptyRun{C:gA}{t:Ty}(hm:C.P.follows .mixedOrders=true){fid:FuncId}{f:Func}(hf:C.P.funcs[fid]?=some f)(hb:f.body.isSome=true)(hname:(f.name== "runtime.NumGoroutine")=false)(hρ:∀f,C.ρ f=none)
 (hrun:∀A c,VX C aj 1 f [] [] [⟨false,[.v (.slice A 0 c)]⟩] K2=some (.one ⟨false,[.own t []]⟩,[])):ag C fid (af.emptyS t):=by
 have hb:f.body=some (bh f):=by
  unfold bh
  cases h:f.body with
  |none=>rw[h]at hb;cases hb
  |some c=>rfl
 refine ag.of_run hf hb hname rfl hm (fun f c h=>by rw[hρ]at h;cases h) ?_
 intro bs vs x hG
 refine⟨aj,1,ai, ?_⟩
 unfold af.emptyS at hG x⊢
 simp only at hG
 split at hG
 ·exact hrun _ _
 ·cases hG
theorem OG{ax:List AX}{β:Type}{g:wT ax->Option β}{enc:β->AV×List CV}{vs:List Val}{z:wT ax}{b:β}(h:iG ax 0 [] vs=some z)(hg:g z=some b):(af.fx ax β g enc).G [] vs=some b:=by
 show(iG ax 0 [] vs).bind g=some b
 rw[h];exact hg
@[reducible] def lF(R:Type):List (Ex×LS)->Type
 |[]=>Unit
 |x::r=>(x.2.T->Option R)×lF R r
def pD{R:Type}:(xs:List (Ex×LS))->lF R xs->xb xs->Option R
 |[],_,z=>nomatch z
 |_::r,h,z=>match z with
  | .inl z=>h.1 z
  | .inr z=>pD r h.2 z
def oM{R:Type}:(xs:List (Ex×LS))->(xb xs->Option R)->lF R xs
 |[],_=>()
 |_::r,f=>(fun z=>f (.inl z),oM r (fun z=>f (.inr z)))
def hK{R:Type}(k:Ex->hZ->Option R):(xs:List (Ex×LS))->lF R xs
 |[]=>()
 |x::r=>(fun z=>k x.1 (x.2.enc z),hK k r)
theorem WL{R:Type}{k:Ex->hZ->Option R}:∀(xs:List (Ex×LS)) (z:xb xs),pD xs (hK k xs) z=exK k xs z
 |[],z=>nomatch z
 |_::_, .inl _=>rfl
 |_::r, .inr z=>WL r z
theorem Xn{R:Type}:∀(xs:List (Ex×LS)) (f:xb xs->Option R) (z:xb xs),pD xs (oM xs f) z=f z
 |[],_,z=>nomatch z
 |_::_,_, .inl _=>rfl
 |_::r,_, .inr z=>Xn r _ z
section
variable {s:LS} {xs:List (Ex×LS)} (T:(R:Type)->(s.T->Option R)->lF R xs->s.T->Option R)
def I2(z:s.T):Option (s.T⊕xb xs):=T _ (fun y=>some (.inl y)) (oM xs fun x=>some (.inr x)) z
def oH{R:Type}(n:s.T->Option R)(h:lF R xs):s.T⊕xb xs->Option R
 | .inl y=>n y
 | .inr x=>pD xs h x
def cY:Prop:=∀(R:Type) (n:s.T->Option R) (h:lF R xs) z,T R n h z=(I2 T z).bind (oH n h)
noncomputable def BJ:s.T->Option (xb xs):=yM (I2 T)
end
theorem Wk{α β:Type}{g:α->Option (α⊕β)}{z:α}(h:g z=none):yM g z=none:=by
 cases hw:yM g z with
 |none=>rfl
 |some x=>
  obtain⟨n,hn⟩:=El hw
  cases n with
  |zero=>cases hn
  |succ n=>simp only[G6,h,Option.bind_none]at hn;cases hn
theorem eU{s:LS}{xs:List (Ex×LS)}{T:(R:Type)->(s.T->Option R)->lF R xs->s.T->Option R}(hT:cY T)(z:s.T):BJ T z=T _ (BJ T) (oM xs some) z:=by
 rw[hT _ (BJ T) (oM xs some) z]
 cases hg:I2 T z with
 |none=>exact Wk hg
 |some r=>
  cases r with
  |inl y=>exact Wl hg
  |inr x=>
   refine(Wj hg).trans ?_
   simp only[Option.bind_some,oH,Xn]
noncomputable def cu{R:Type}(s:LS)(xs:List (Ex×LS))(w:s.T->Option (xb xs))(x:hZ)(k:Ex->hZ->Option R):Option R:=
 (s.parse x).bind fun z=>(w z).bind (pD xs (hK k xs))
theorem cy{d:Po}{lh:bQ}{R:Type}{body:St->(Ex->St->Option R)->Option R}{s:LS}{xs:List (Ex×LS)}{T:(R:Type)->(s.T->Option R)->lF R xs->s.T->Option R}(hT:cY T)
 (hstep:∀n z k,bL d lh body (n+1) (s.enc z) k=T R (fun y=>bL d lh body n (s.enc y) k) (hK k xs) z):∀x k r,cu s xs (BJ T) x k=some r->∃N,bL d lh body N x k=some r:=by
 intro x k r h
 refine Zm (s:=s) (xs:=xs) (g:=I2 T) ?_ x k r ?_
 ·intro n z k
  rw[hstep,hT]
  cases I2 T z with
  |none=>rfl
  |some r=>
   cases r with
   |inl y=>rfl
   |inr x=>exact WL xs x
 ·have e:cu s xs (BJ T) x k=Xu s xs (I2 T) x k:=by
   unfold cu Xu
   congr 1
   funext z
   show(BJ T z).bind _=(BJ T z).bind _
   congr 1
   funext y
   exact WL xs y
  rw[<-e];exact h
theorem ae{R Q:Type}{c:Bool}{x y:Option Q}{x' y':Option R}{k:R->Option Q}(h:x=x'.bind k)(h':y=y'.bind k):cond c x y=(cond c x' y').bind k:=by
 cases c
 ·exact h'
 ·exact h
theorem ac{A R Q:Type}{o:Option A}{f:A->Option Q}{f':A->Option R}{k:R->Option Q}(h:∀z,f z=(f' z).bind k):o.bind f=(o.bind f').bind k:=by
 cases o with
 |none=>rfl
 |some z=>exact h z
def exN{R Q:Type}(k:R->Option Q):(xs:List (Ex×LS))->lF Q xs->lF R xs->Prop
 |[],_,_=>True
 |_::r,h,h'=>(∀z,h.1 z=(h'.1 z).bind k)/\exN k r h.2 h'.2
theorem WM{R Q:Type}{k:R->Option Q}:∀{xs:List (Ex×LS)} {h:lF Q xs} {h':lF R xs},exN k xs h h'->∀z,pD xs h z=(pD xs h' z).bind k
 |[],_,_,_,z=>nomatch z
 |_::_,_,_,H, .inl z=>H.1 z
 |_::_,_,_,H, .inr z=>WM H.2 z
theorem cE{R Q:Type}{xs:List (Ex×LS)}{o:Option (xb xs)}{h:lF Q xs}{h':lF R xs}{k:R->Option Q}(H:exN k xs h h'):o.bind (pD xs h)=(o.bind (pD xs h')).bind k:=
 ac (WM H)
section
variable {s0 s:LS} {xs:List (Ex×LS)} (T:(R:Type)->(s.T->Option R)->lF R xs->s0.T->Option R)
def W7(z:s0.T):Option (s.T⊕xb xs):=T _ (fun y=>some (.inl y)) (oM xs fun x=>some (.inr x)) z
def U2:Prop:=∀(R:Type) (n:s.T->Option R) (h:lF R xs) z,T R n h z=(W7 T z).bind (oH n h)
end
noncomputable def aaY{R:Type}{s0 s:LS}{xs:List (Ex×LS)}(T:(R:Type)->(s.T->Option R)->lF R xs->s0.T->Option R)(S:hZ->(Ex->hZ->Option R)->Option R)(x:hZ)(k:Ex->hZ->Option R):Option R:=
 (s0.parse x).bind fun z=>T R (fun y=>S (s.enc y) k) (hK k xs) z
theorem acj{d:Po}{lh:bQ}{R:Type}{body:St->(Ex->St->Option R)->Option R}{s0 s:LS}{xs:List (Ex×LS)}{T:(R:Type)->(s.T->Option R)->lF R xs->s0.T->Option R}(hT:U2 T)
 (hstep:∀n z k,bL d lh body (n+1) (s0.enc z) k=T R (fun y=>bL d lh body n (s.enc y) k) (hK k xs) z)
 {S:hZ->(Ex->hZ->Option R)->Option R} (hS:∀x k r,S x k=some r->∃N,bL d lh body N x k=some r):
 ∀x k r,aaY T S x k=some r->∃N,bL d lh body N x k=some r:=by
 intro x k r h
 simp only[aaY,Option.bind_eq_some_iff]at h
 obtain⟨z,hz,h⟩:=h
 rw[LS.parse_ok hz]
 rw[hT]at h
 cases hg:W7 T z with
 |none=>rw[hg]at h;cases h
 |some y=>
  rw[hg]at h
  cases y with
  |inl y=>
   obtain⟨N,hN⟩:=hS _ _ _ h
   refine⟨N+1, ?_⟩
   rw[hstep,hT,hg]
   exact hN
  |inr y=>
   refine⟨1, ?_⟩
   rw[hstep,hT,hg]
   exact h
theorem acn{R Q:Type}{s0 s:LS}{xs:List (Ex×LS)}{T:(R:Type)->(s.T->Option R)->lF R xs->s0.T->Option R}(hT:U2 T){f:s.T->Option Q}{f':s.T->Option R}{h:lF Q xs}{h':lF R xs}{k:R->Option Q}
 (hf:∀y,f y=(f' y).bind k) (hh:exN k xs h h') (z:s0.T):T Q f h z=(T R f' h' z).bind k:=by
 rw[hT Q f h z,hT R f' h' z]
 cases W7 T z with
 |none=>rfl
 |some y=>
  cases y with
  |inl y=>exact hf y
  |inr y=>exact WM hh y
end Go.Vai
