/- No conditions. -/
import Derived.Test.YtjkljnflaifbhaaGreatDoorVai18
namespace Go.Vai
open Go
section
variable {C:gY} {E:iU} {g:Gh} {st:St} {tm:Array Value} {w:World} {Q:Type}
theorem cA.lends{p q:Nat->Place}:∀{cs:List CV} {i j:Nat} {vs:List Value},cA g w p i cs vs->cA g w q j (pP p i cs) vs
 |[],_,_,_,h=>h
 |c::r,i,j,_,⟨v,vs',e,h1,h2⟩=>by
  refine⟨v,vs',e, ?_,cA.lends h2⟩
  have h3:=cC.lend h1
  cases c<;>exact h3.2 _
theorem Q6{c:CV}{v:Value}{m:List Nat}(hp:c.isPlain=true)(h:cC g w c v m):m=[]/\DB v=[v]/\EW [v]=[]/\∀(g':Gh) (w':World) (p:Place),cu g' w' p c v:=by
 unfold CV.isPlain at hp
 split at hp
 all_goals first
  |(obtain⟨rfl,h⟩:=h
    have e:=h (.slot 0 0 0)
    simp only[cu]at e
    subst e
    exact⟨rfl,rfl,rfl,fun _ _ _=>rfl⟩)
  |cases hp
theorem FV.flat{x:Val}{v:Value}{ms:List (List Nat)}(h:FV g w x v ms)(ho:(x.cs.all fun c=>c.isOwn||c.isPlain)=true):
 bS g w x.cs (DB v) ms/\∀(g':Gh) (p:Nat->Place) (cs':List CV),cA g' w p 0 cs' (DB v)->yG g' w p ⟨x.agg,cs'⟩ v:=by
 obtain⟨xa,cs⟩:=x
 cases xa with
 |true=>
  obtain⟨vs,rfl,h⟩:=h
  exact⟨h,fun g' p cs' h'=>⟨vs,rfl,h'⟩⟩
 |false=>
  have h:bS g w cs [v] ms:=h
  cases cs with
  |nil=>cases h.1
  |cons c r=>
   obtain⟨v',vs',m,ms',e,rfl,h1,h2⟩:=h
   cases e
   have hv:DB v=[v]:=by
    simp only[List.all_cons,Bool.and_eq_true,Bool.or_eq_true]at ho
    rcases ho.1 with ho|ho
    ·cases c with
     |own t l=>obtain⟨lo,A,cap,rfl,_⟩:=h1;rfl
     |_=>cases ho
    ·exact(Q6 ho h1).2.1
   rw[hv]
   exact⟨⟨v,[],m,ms',rfl,rfl,h1,h2⟩,fun g' p cs' h'=>h'⟩
theorem bS.owns:∀{cs:List CV} {vs:List Value} {ms:List (List Nat)},(cs.all fun c=>c.isOwn||c.isPlain)=true->bS g w cs vs ms->∃ms',bS g w (qK cs) (EW vs) ms'/\aj ms'=aj ms
 |[],_,_,_,h=>by obtain⟨rfl,rfl⟩:=h;exact⟨[],⟨rfl,rfl⟩,rfl⟩
 |c::r,_,_,ho,h=>by
  obtain⟨v,vs',m,ms',rfl,rfl,h1,h2⟩:=h
  simp only[List.all_cons,Bool.and_eq_true,Bool.or_eq_true]at ho
  obtain⟨ms2,h3,h4⟩:=bS.owns ho.2 h2
  rcases ho.1 with ho|ho
  ·cases c with
   |own t l=>
    have h1':=h1
    obtain⟨lo,A,cap,rfl,_⟩:=h1
    exact⟨m::ms2,⟨_,_,m,ms2,rfl,rfl,h1',h3⟩,by simp only[aj,h4]⟩
   |_=>cases ho
  ·obtain⟨rfl,_,k2,_⟩:=Q6 ho h1
   have k3:EW (v::vs')=EW vs':=by
    cases v<;>first|rfl|cases k2
   have k4:qK (c::r)=qK r:=by
    cases c<;>first|rfl|cases ho
   rw[k3,k4]
   exact⟨ms2,h3,by simp only[aj,List.nil_append,h4]⟩
theorem bS.lendsO{g':Gh}{q:Nat->Place}:∀{cs:List CV} {i j:Nat} {vs:List Value} {ms:List (List Nat)},(cs.all fun c=>c.isOwn||c.isPlain)=true->bS g w cs vs ms->cA g' w .arg j (qK cs) (EW vs)->
 cA g' w q i (XA .arg j cs) vs
 |[],_,_,_,_,_,h,_=>by obtain⟨rfl,rfl⟩:=h;exact rfl
 |c::r,i,j,_,_,ho,h,hr=>by
  obtain⟨v,vs',m,ms',rfl,rfl,h1,h2⟩:=h
  simp only[List.all_cons,Bool.and_eq_true,Bool.or_eq_true]at ho
  rcases ho.1 with ho'|ho'
  ·cases c with
   |own t l=>
    obtain⟨lo,A,cap,rfl,_⟩:=h1
    obtain⟨u,us,e,k1,k2⟩:=hr
    simp only[EW,List.cons.injEq]at e
    obtain⟨rfl,rfl⟩:=e
    exact⟨_,vs',rfl,⟨k1,fun e=>by cases e⟩,bS.lendsO ho.2 h2 k2⟩
   |_=>cases ho'
  ·obtain⟨_,_,k2,k3⟩:=Q6 ho' h1
   have e3:EW (v::vs')=EW vs':=by
    cases v<;>first|rfl|cases k2
   have e4:qK (c::r)=qK r:=by
    cases c<;>first|rfl|cases ho'
   have e5:Vai.XA .arg j (c::r)=c::Vai.XA .arg j r:=by
    cases c<;>first|rfl|cases ho'
   rw[e3,e4]at hr
   rw[e5]
   exact⟨v,vs',rfl,k3 _ _ _,bS.lendsO ho.2 h2 hr⟩
theorem Gu{p:Nat->Place}:∀(cs:List CV) (i k:Nat) (t:Ty) (l:List t.T),(Vai.XA p i cs)[k]?≠some (.own t l)
 |[],i,k,t,l=>by simp[Vai.XA]
 |c::r,i,0,t,l=>by
  cases c<;>simp[Vai.XA]
 |c::r,i,k+1,t,l=>by
  cases c with
  |own t' l'=>simp only[Vai.XA,List.getElem?_cons_succ];exact Gu r (i+1) k t l
  |_=>simp only[Vai.XA,List.getElem?_cons_succ];exact Gu r i k t l
theorem OS:∀(io:List Bool) (vs:List Val) (i j:Nat) (args:List Value) (ms:List (List Nat)) (g:Gh),Xx io vs=true->sR g w vs args ms->dF g w (aj ms)->
 (∀n o l c i' k x,i<=i'->g.lab n≠ .own (.slot i' k x) o l c)->(∀n o l c j',j<=j'->g.lab n≠ .own (.arg j') o l c)->
 ∃g',GH g g' (aj ms) (fun q=>(∃m x k,q= .slot (i+m) 0 k/\(km io j vs).1[m]?=some x/\x.ownAt k)\/(∃m t l,q= .arg (j+m)/\(km io j vs).2[m]?=some (.own t l)))/\
  (km io j vs).1.length=vs.length/\(∀m x,(km io j vs).1[m]?=some x->∃v,args[m]?=some v/\yG g' w (.slot (i+m) 0) x v)/\cA g' w .arg j (km io j vs).2 (oq io args)
 |io,[],i,j,args,ms,g,_,h,_,_,_=>by
  obtain⟨rfl,rfl⟩:=h
  refine⟨g,⟨rfl,fun n=>.inl rfl, ?_⟩,by simp[km],by simp[km],by simp[km,oq,cA]⟩
  rintro n m p o l c o' l' c' (⟨m',x,k,_,h,_⟩|⟨m',t,l,_,h⟩) _ _<;>simp[km]at h
 |io,x::r,i,j,args,ms,g,hok,h,F,hs,ha=>by
  obtain⟨v,vs',m,ms',rfl,rfl,h1,h2⟩:=h
  rw[cJ]at F
  simp only[Xx,Bool.and_eq_true]at hok
  cases hio:io.headD false with
  |false=>
   simp only[km,oq,hio]
   obtain⟨g1,L1,hc⟩:=acz (.slot i 0) (fun i j e=>by injection e) x v m g h1 F.left (fun j n o l c=>hs n o l c i 0 j (Nat.le_refl _))
   have F2:=F.mono L1
   have back:∀n p o l c,g1.lab n= .own p o l c->g.lab n= .own p o l c\/∃k,p= .slot i 0 k:=by
    intro n p o l c e
    rcases L1.lab n with e'|⟨_,q,o',l',c',⟨j',hq,_⟩,e'⟩
    ·exact .inl (by rw[<-e'];exact e)
    ·rw[e]at e';injection e' with e';exact .inr ⟨j',e'.trans hq⟩
   obtain⟨g2,L2,hl,hsl,hio2⟩:=OS io.tail r (i+1) j vs' ms' g1 hok.2 (sR.mono (L1.steps F.left) (fun b hb=>rfl) h2) F2
    (fun n o l c i' k x hi e=>by
      rcases back _ _ _ _ _ e with e|⟨k',e⟩
      ·exact hs n o l c i' k x (by omega) e
      ·injection e with e;omega)
    (fun n o l c j' hj e=>by
      rcases back _ _ _ _ _ e with e|⟨k',e⟩
      ·exact ha n o l c j' hj e
      ·cases e)
   refine⟨g2,(L1.trans L2 ?_).weaken ?_ ?_ (cJ _ _).symm,by simp[hl], ?_,hio2⟩
   ·rintro q ⟨k,rfl,_⟩ (⟨m,y,k',hq,_⟩|⟨m,t,l,hq,_⟩)
    ·injection hq with hq;omega
    ·cases hq
   ·rintro q (⟨k,hq,ho⟩|⟨m,y,k,hq,hm,ho⟩|⟨m,t,l,hq,hm⟩)
    ·exact .inl ⟨0,x,k,hq,rfl,ho⟩
    ·exact .inl ⟨m+1,y,k,by rw[hq];congr 1;omega,by simpa using hm,ho⟩
    ·exact .inr ⟨m,t,l,hq,hm⟩
   ·rintro q (⟨m,y,k,hq,hm,ho⟩|⟨m,t,l,hq,hm⟩)
    ·cases m with
     |zero=>
      simp only[List.getElem?_cons_zero,Option.some.injEq]at hm
      subst hm
      exact .inl ⟨k,hq,ho⟩
     |succ m=>exact .inr (.inl ⟨m,y,k,by rw[hq];congr 1;omega,by simpa using hm,ho⟩)
    ·exact .inr (.inr ⟨m,t,l,hq,hm⟩)
   ·intro m y hm
    cases m with
    |zero=>
     simp only[List.getElem?_cons_zero,Option.some.injEq]at hm
     subst hm
     exact⟨v,rfl,hc.mono (L2.steps F2)⟩
    |succ m=>
     obtain⟨u,hu,hr⟩:=hsl m y (by simpa using hm)
     exact⟨u,by simpa using hu,by rwa [show i+(m+1)=i+1+m by omega]⟩
  |true=>
   rw[hio]at hok
   have hown:(x.cs.all fun c=>c.isOwn||c.isPlain)=true:=hok.1
   simp only[km,oq,hio]
   obtain⟨hf,hback⟩:=FV.flat h1 hown
   obtain⟨mo,hfo,hmo⟩:=bS.owns hown hf
   rw[<-hmo]at F
   obtain⟨g1,L1,hc⟩:=Qy .arg (fun i j e=>by injection e) (qK x.cs) j (EW (DB v)) mo g hfo F.left (fun j' hj n o l c=>ha n o l c j' hj)
   have F2:=F.mono L1
   have back:∀n p o l c,g1.lab n= .own p o l c->g.lab n= .own p o l c\/∃k,k<(qK x.cs).length/\p= .arg (j+k):=by
    intro n p o l c e
    rcases L1.lab n with e'|⟨_,q,o',l',c',⟨k,t,y,hq,hk⟩,e'⟩
    ·exact .inl (by rw[<-e'];exact e)
    ·rw[e]at e';injection e' with e';exact .inr ⟨k,(List.getElem?_eq_some_iff.1 hk).1,e'.trans hq⟩
   obtain⟨g2,L2,hl,hsl,hio2⟩:=OS io.tail r (i+1) (j+(qK x.cs).length) vs' ms' g1 hok.2 (sR.mono (L1.steps F.left) (fun b hb=>rfl) h2) F2
    (fun n o l c i' k x hi e=>by
      rcases back _ _ _ _ _ e with e|⟨_,_,e⟩
      ·exact hs n o l c i' k x (by omega) e
      ·cases e)
    (fun n o l c j' hj e=>by
      rcases back _ _ _ _ _ e with e|⟨k,hk,e⟩
      ·exact ha n o l c j' (by omega) e
      ·injection e with e;omega)
   have hc2:cA g2 w .arg j (qK x.cs) (EW (DB v)):=cA.mono (L2.steps F2) hc
   refine⟨g2,(L1.trans L2 ?_).weaken ?_ ?_ (by rw[cJ,hmo]),by simp[hl], ?_,cA.append hc2 hio2⟩
   ·rintro q ⟨k,t,y,rfl,hk⟩ (⟨m,y,k',hq,_⟩|⟨m,t,l,hq,_⟩)
    ·cases hq
    ·have:=(List.getElem?_eq_some_iff.1 hk).1
     injection hq with hq;omega
   ·rintro q (⟨k,t,y,hq,hk⟩|⟨m,y,k,hq,hm,ho⟩|⟨m,t,l,hq,hm⟩)
    ·exact .inr ⟨k,t,y,hq,by rw[List.getElem?_append_left (List.getElem?_eq_some_iff.1 hk).1];exact hk⟩
    ·exact .inl ⟨m+1,y,k,by rw[hq];congr 1;omega,by simpa using hm,ho⟩
    ·exact .inr ⟨(qK x.cs).length+m,t,l,by rw[hq];congr 1;omega,by rw[List.getElem?_append_right (by omega),Nat.add_sub_cancel_left];exact hm⟩
   ·rintro q (⟨m,y,k,hq,hm,ho⟩|⟨m,t',l',hq,hm⟩)
    ·cases m with
     |zero=>
      simp only[List.getElem?_cons_zero,Option.some.injEq]at hm
      subst hm
      obtain⟨t',l',ho⟩:=ho
      exact absurd ho (Gu _ _ _ _ _)
     |succ m=>exact .inr (.inl ⟨m,y,k,by rw[hq];congr 1;omega,by simpa using hm,ho⟩)
    ·by_cases hlt:m<(qK x.cs).length
     ·rw[List.getElem?_append_left hlt]at hm
      exact .inl ⟨m,t',l',hq,hm⟩
     ·rw[List.getElem?_append_right (by omega)]at hm
      exact .inr (.inr ⟨m-(qK x.cs).length,t',l',by rw[hq];congr 1;omega,hm⟩)
   ·intro m y hm
    cases m with
    |zero=>
     simp only[List.getElem?_cons_zero,Option.some.injEq]at hm
     subst hm
     exact⟨v,rfl,hback _ _ _ (bS.lendsO hown hf hc2)⟩
    |succ m=>
     obtain⟨u,hu,hr⟩:=hsl m y (by simpa using hm)
     exact⟨u,by simpa using hu,by rwa [show i+(m+1)=i+1+m by omega]⟩
def Gh.shift(g:Gh)(n:Nat):Gh:=⟨g.lab,fun i=>if i<n then none else g.bx (i-n)⟩
theorem cu.shift{n:Nat}{p:Place}{c:CV}{v:Value}(h:cu g w p c v):cu (g.shift n) w p (wY n c) v:=by
 cases c with
 |ptr b o=>
  obtain⟨m,hy,hb⟩:=h
  exact⟨m,hy,by simp only[Gh.shift];rw[if_neg (by omega),show n+b-n=b by omega];exact hb⟩
 |fn f caps=>
  obtain⟨cvs,hy,hs,hc⟩:=h
  refine⟨cvs,hy,by simpa using hs,fun i c hi=> ?_⟩
  rw[List.getElem?_map]at hi
  cases hx:caps[i]? with
  |none=>rw[hx]at hi;cases hi
  |some y=>
   rw[hx]at hi
   cases hi
   obtain⟨m,hm,hv⟩:=hc i y hx
   exact⟨m,by simp only[Gh.shift];rw[if_neg (by omega),show n+y.1-n=y.1 by omega];exact hm,hv⟩
 |_=>exact h
theorem Q4:∀(cs:List CV) (n:Nat),(qK cs).map (wY n)=qK cs
 |[],_=>rfl
 |c::r,n=>by
  cases c with
  |own t l=>simp only[qK,List.map_cons,Q4 r n,wY]
  |_=>exact Q4 r n
theorem Ld:∀(io:List Bool) (j:Nat) (vs:List Val) (n:Nat),Xx io vs=true->(km io j vs).2.map (wY n)=(km io j vs).2
 |io,j,[],n,_=>by simp[km]
 |io,j,x::r,n,h=>by
  simp only[Xx,Bool.and_eq_true]at h
  simp only[km]
  cases hio:io.headD false with
  |true=>simp only[List.map_append,Q4 x.cs n,Ld io.tail _ r n h.2]
  |false=>exact Ld io.tail j r n h.2
theorem Val.ownAt_shift{x:Val}{n k:Nat}(h:x.ownAt k):(x.map (wY n)).ownAt k:=by
 obtain⟨t,l,h⟩:=h
 exact⟨t,l,by simp[Val.map,h,wY]⟩
theorem sR.length:∀{l:List Val} {vs:List Value} {ms:List (List Nat)},sR g w l vs ms->l.length=vs.length
 |[],_,_,h=>by obtain⟨rfl,_⟩:=h;rfl
 |_::_,_,_,h=>by obtain⟨v,vs',m,ms',rfl,rfl,_,h2⟩:=h;simp[h2.length]
theorem YV{g0:Gh}{bs:List (List CV)}{vs:List Val}{args:List Value}{ms:List (List Nat)}(hP:Ib C g0 w bs vs args ms){f:Func}{io:List Bool}(hn:vs.length<=f.ntmps)(hok:Xx io vs=true):
 ∃g,dG C ⟨w,g0.lab,oq io args,f.ntmps,f.ntmps+bs.length,(g0.shift f.ntmps).bx⟩ g (DV f io bs vs) (args.toArray++Array.replicate (f.ntmps-args.toArray.size) undef) w:=by
 have noOwn:∀n p o l c,g0.lab n≠ .own p o l c:=by
  intro n p o l c e
  rcases Nat.lt_or_ge n w.heap.size with h|h
  ·rcases hP.old n h with h|h|⟨h,_⟩<;>rw[e]at h<;>cases h
  ·rw[hP.new n h]at e;cases e
 have noBox:∀n b,g0.lab n≠ .box b:=by
  intro n b e
  rcases Nat.lt_or_ge n w.heap.size with h|h
  ·rcases hP.old n h with h|h|⟨h,_⟩<;>rw[e]at h<;>cases h
  ·rw[hP.new n h]at e;cases e
 obtain⟨g1,L,hlen,hsl,hio⟩:=OS io vs 0 0 args ms g0 hok hP.vals hP.free (fun n o l c i' k x _=>noOwn n _ o l c) (fun n o l c j' _=>noOwn n _ o l c)
 have hal:=hP.vals.length
 have keep:∀n,g0.lab n≠ .junk->g1.lab n=g0.lab n:=by
  intro n hn'
  rcases L.lab n with e|⟨hm,_⟩
  ·exact e
  ·exact absurd (hP.free.junk n hm) hn'
 have H:=L.steps hP.free
 refine⟨g1.shift f.ntmps, ?_⟩
 exact{
  len:=by simp[DV,hlen,hal]
  lenN:=by simp[DV,hlen];omega
  lenB:=by simp[DV]
  io:=by
   have:=cA.imp (g':=g1.shift f.ntmps) (w':=w) (wY f.ntmps) (fun j c v h=>h.shift) hio
   rw[Ld _ _ _ _ hok]at this
   exact this
  slots:=by
   intro i a hi
   simp only[DV]at hi
   by_cases hlt:i<vs.length
   ·rw[List.getElem?_append_left (by simpa[hlen]using hlt),List.getElem?_map]at hi
    cases hx:(km io 0 vs).1[i]? with
    |none=>rw[hx]at hi;cases hi
    |some x=>
     rw[hx]at hi
     cases hi
     obtain⟨v,hv,hr⟩:=hsl i x hx
     rw[Nat.zero_add]at hr
     refine⟨v, ?_,yG.imp _ (fun j c v h=>h.shift) hr⟩
     rw[Array.getElem?_append_left (by simp;omega)]
     simpa using hv
   ·rw[List.getElem?_append_right (by simp[hlen];omega),List.getElem?_replicate]at hi
    split at hi
    ·rename_i hlt2
     cases hi
     refine⟨undef, ?_,undef,[],rfl,trivial,rfl⟩
     simp only[List.length_map,hlen]at hlt2
     rw[Array.getElem?_append_right (by simp;omega)]
     simp only[List.size_toArray]
     rw[Array.getElem?_replicate,if_pos (by omega)]
    ·cases hi
  boxes:=by
   intro b ro cs hb
   simp only[DV]at hb
   by_cases hlt:b<f.ntmps
   ·rw[List.getElem?_append_left (by simpa using hlt),List.getElem?_replicate,if_pos hlt]at hb
    cases hb
   ·rw[List.getElem?_append_right (by simp;omega),List.getElem?_map,List.length_replicate]at hb
    cases hx:bs[b-f.ntmps]? with
    |none=>rw[hx]at hb;cases hb
    |some cs'=>
     rw[hx]at hb
     simp only[Option.map_some,Option.some.injEq,Prod.mk.injEq]at hb
     obtain⟨rfl,rfl⟩:=hb
     obtain⟨n,arr,e,fz,h1,h2,h3,h4⟩:=hP.boxes _ _ hx
     refine⟨n,arr,e,fz, ?_, ?_,h3,(fun h=>by cases h), ?_⟩
     ·simp only[Gh.shift];rw[if_neg hlt,L.bx];exact h1
     ·exact(keep n (by rw[h2];simp)).trans h2
     ·refine(h4 (Place.cell b)).mono ?_
      exact{
       imm:=fun n hn=>⟨(keep n (by rw[show g0.lab n=_ from hn];simp)).trans hn,rfl⟩
       own:=fun n q o l c _ hn=>absurd hn (noOwn n q o l c)
       bx:=fun _ _ _ h=>by cases h}
  bx:=by
   intro b n hb
   simp only[Gh.shift]at hb
   split at hb
   ·cases hb
   ·rename_i hlt
    rw[L.bx]at hb
    have hk:=hP.bxs _ _ hb
    refine⟨(true,bs[b-f.ntmps]), ?_⟩
    simp only[DV]
    rw[List.getElem?_append_right (by simp;omega),List.getElem?_map,List.length_replicate,List.getElem?_eq_getElem hk]
    rfl
  own:=by
   intro n p o l c hl
   rcases L.lab n with e|⟨_,q,_,_,_,hq,e⟩
   ·exact absurd (e.symm.trans hl) (noOwn n p o l c)
   ·have hl':g1.lab n= .own p o l c:=hl
    rw[hl']at e
    injection e with e
    subst e
    rcases hq with⟨m,x,k,rfl,hm,ho⟩|⟨m,t,l',rfl,hm⟩
    ·rw[Nat.zero_add]
     have hmlt:m<vs.length:=by rw[<-hlen];exact(List.getElem?_eq_some_iff.1 hm).1
     have hg:(DV f io bs vs).get m= .one (x.map (wY f.ntmps)):=by
      simp only[DV,St.get,List.getD_eq_getElem?_getD]
      rw[List.getElem?_append_left (by simpa[hlen]using hmlt),List.getElem?_map,hm];rfl
     obtain⟨t,l',ho⟩:=Val.ownAt_shift (n:=f.ntmps) ho
     exact⟨t,l',by simp only[St.atPlace,hg,if_true,List.getD_eq_getElem?_getD,ho,Option.getD_some]⟩
    ·exact⟨t,l',by simp only[St.atPlace,DV,List.getD_eq_getElem?_getD,Nat.zero_add,hm,Option.getD_some]⟩
  uniq:=by
   intro n m p o l c o' l' c' h1 h2
   rcases L.lab n with e|⟨_,q,_,_,_,hq,e⟩
   ·exact absurd (e.symm.trans h1) (noOwn n p o l c)
   ·have h1':g1.lab n= .own p o l c:=h1
    have e':=e
    rw[h1']at e'
    injection e' with e'
    subst e'
    exact L.uniq n m p _ _ _ _ _ _ hq h1 h2
  uniqB:=by
   intro n b hl
   rcases L.lab n with e|⟨_,_,_,_,_,_,e⟩
   ·exact absurd (e.symm.trans hl) (noBox n b)
   ·have hl':g1.lab n= .box b:=hl
    rw[hl']at e;cases e
  size:=by
   intro n hl
   rcases Nat.lt_or_ge n w.heap.size with h|h
   ·exact h
   ·exfalso
    rcases L.lab n with e|⟨hm,_⟩
    ·exact hl (e.trans (hP.new n h))
    ·have:=hP.free.size n hm;omega
  glob:=by
   intro k cs hc
   obtain⟨vs',e,fz,h1,h2,h3⟩:=hP.glob k cs hc
   exact⟨vs',e,fz,h1,(keep k (by rw[h2];simp)).trans h2,h3⟩
  kept:={
   os:=rfl
   tape:=rfl
   output:=rfl
   size:=Nat.le_refl _
   imm:=fun n _ hl=>⟨(keep n (by rw[show g0.lab n=_ from hl];simp)).trans hl,rfl⟩
   far:=fun n _ hl=>⟨(keep n (by rw[show g0.lab n=_ from hl];simp)).trans hl,rfl⟩
   lent:=fun b n _ h=>by simpa[Gh.shift,L.bx]using h
   old:=fun n hn=>(hP.old n hn).imp id (fun h=>h.imp id And.left)}}
end
end Go.Vai
