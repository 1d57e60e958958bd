/- No conditions. -/
import Derived.Test.YtjkljnflaifbhaaGreatDoorVai2
namespace Go.Vai
open Go
def F0(g:Gh)(w:World):CV->Value->List Nat->Prop
 | .own t l,y,m=>∃lo,HR g w (fun b _ _ _=>m=[b]) false lo t l y
 |c,y,m=>m=[]/\∀p,cu g w p c y
def Tu(g:Gh)(w:World):List CV->List Value->List (List Nat)->Prop
 |[],vs,ms=>vs=[]/\ms=[]
 |c::r,vs,ms=>∃v vs' m ms',vs=v::vs'/\ms=m::ms'/\F0 g w c v m/\Tu g w r vs' ms'
def aj:List (List Nat)->List Nat
 |[]=>[]
 |a::r=>a++aj r
theorem cJ:∀a b,aj (a++b)=aj a++aj b
 |[],_=>rfl
 |x::r,b=>by simp[aj,cJ r b]
def cC(g:Gh)(w:World):CV->Value->List Nat->Prop
 | .own t l,y,m=>∃lo,HR g w (fun b _ _ _=>m=[b]) false lo t l y
 | .np cs,y,m=>∃n vs e ms,y= .pointer (some ⟨n,0,none⟩)/\w.heap[n]?=some (.cells vs e (0,0))/\m=n::aj ms/\cs.all CV.isFlat=true/\Tu g w cs vs.toList ms
 |c,y,m=>m=[]/\∀p,cu g w p c y
def bS(g:Gh)(w:World):List CV->List Value->List (List Nat)->Prop
 |[],vs,ms=>vs=[]/\ms=[]
 |c::r,vs,ms=>∃v vs' m ms',vs=v::vs'/\ms=m::ms'/\cC g w c v m/\bS g w r vs' ms'
theorem F0.f{g:Gh}{w:World}{c:CV}{v:Value}{m:List Nat}(hc:c.isFlat=true)(h:F0 g w c v m):cC g w c v m:=by
 cases c<;>first|exact h|cases hc
theorem cC.f0{g:Gh}{w:World}{c:CV}{v:Value}{m:List Nat}(hc:c.isFlat=true)(h:cC g w c v m):F0 g w c v m:=by
 cases c<;>first|exact h|cases hc
theorem Tu.fs{g:Gh}{w:World}:∀{cs:List CV} {vs:List Value} {ms:List (List Nat)},cs.all CV.isFlat=true->Tu g w cs vs ms->bS g w cs vs ms
 |[],_,_,_,h=>h
 |c::r,_,_,hc,h=>by
  obtain⟨v,vs',m,ms',rfl,rfl,h1,h2⟩:=h
  simp only[List.all_cons,Bool.and_eq_true]at hc
  exact⟨v,vs',m,ms',rfl,rfl,h1.f hc.1,h2.fs hc.2⟩
theorem Tu.imp{g g':Gh}{w w':World}:∀{cs:List CV} {vs:List Value} {ms:List (List Nat)},(∀c v m,c.isFlat=true->(∀b,b∈m->b∈aj ms)->F0 g w c v m->F0 g' w' c v m)->cs.all CV.isFlat=true->Tu g w cs vs ms->Tu g' w' cs vs ms
 |[],_,_,_,_,h=>h
 |c::r,_,_,H,hc,h=>by
  obtain⟨v,vs',m,ms',rfl,rfl,h1,h2⟩:=h
  simp only[List.all_cons,Bool.and_eq_true]at hc
  exact⟨v,vs',m,ms',rfl,rfl,H c v m hc.1 (fun b hb=>by simp[aj,hb]) h1,Tu.imp (fun c v m hf hm=>H c v m hf (fun b hb=>by simp[aj,hm b hb])) hc.2 h2⟩
structure dF(g:Gh)(w:World)(S:List Nat):Prop where
 nodup:S.Nodup
 junk:∀b,b∈S->g.lab b= .junk
 size:∀b,b∈S->b<w.heap.size
structure GH(g g':Gh)(S:List Nat)(P:Place->Prop):Prop where
 bx:g'.bx=g.bx
 lab:∀n,g'.lab n=g.lab n\/(n∈S/\∃p o l c,P p/\g'.lab n= .own p o l c)
 uniq:∀n m p o l c o' l' c',P p->g'.lab n= .own p o l c->g'.lab m= .own p o' l' c'->n=m
theorem GH.steps{g g':Gh}{w:World}{S:List Nat}{P:Place->Prop}(L:GH g g' S P)(F:dF g w S):
 gM (fun _=>True) (fun _=>True) g g' w w where
 imm:=by
  intro n h
  rcases L.lab n with e|⟨e,_⟩
  ·exact⟨by rw[e,h],rfl⟩
  ·rw[F.junk n e]at h;cases h
 own:=by
  intro n q o l c _ h
  rcases L.lab n with e|⟨e,_⟩
  ·exact⟨by rw[e,h],rfl⟩
  ·rw[F.junk n e]at h;cases h
 bx:=by intro b n _ h;rw[L.bx];exact h
theorem CV.uses_true(c:CV)(p:Place):c.uses (fun _=>True) (fun _=>True) p:=by
 cases c<;>simp[CV.uses]
theorem F0.mono'{g g':Gh}{w w':World}(hI:∀n,g.lab n= .imm->g'.lab n= .imm/\w'.heap[n]?=w.heap[n]?){c:CV}{v:Value}{m:List Nat}
 (hm:∀b,b∈m->w'.heap[b]?=w.heap[b]?) (hc:c.isFlat=true) (h:F0 g w c v m):F0 g' w' c v m:=by
 cases c with
 |own t l=>
  obtain⟨lo,h⟩:=h
  exact⟨lo,HR.mono hI (fun b _ _ _ e=>⟨e,hm b (by rw[e];simp)⟩) h⟩
 |undef=>exact⟨h.1,fun p=>trivial⟩
 |v x=>exact h
 |emp=>exact h
 |sl t l=>exact⟨h.1,fun p=>ER.mono hI (h.2 p)⟩
 |fn f caps=>
  cases caps with
  |nil=>
   refine⟨h.1,fun p=> ?_⟩
   obtain⟨cvs,hy,hs,_⟩:=h.2 p
   exact⟨cvs,hy,hs,fun i c hi=>by simp at hi⟩
  |cons _ _=>cases hc
 |_=>cases hc
theorem cC.np_nil{g:Gh}{w:World}{cs:List CV}{v:Value}(h:cC g w (.np cs) v []):False:=by
 obtain⟨n,vs,e,ms,_,_,h,_⟩:=h
 cases h
theorem cC.mono'{good:Place->Prop}{goodB:Nat->Prop}{g g':Gh}{w w':World}(H:gM good goodB g g' w w'){c:CV}{v:Value}{m:List Nat}
 (hm:∀b,b∈m->w'.heap[b]?=w.heap[b]?) (hu:∀p,c.isOwn=false->c.uses good goodB p) (h:cC g w c v m):cC g' w' c v m:=by
 cases c with
 |own t l=>
  obtain⟨lo,h⟩:=h
  exact⟨lo,HR.mono H.imm (fun b _ _ _ e=>⟨e,hm b (by rw[e];simp)⟩) h⟩
 |np cs=>
  obtain⟨n,vs,e,ms,h1,h2,rfl,h3,h4⟩:=h
  exact⟨n,vs,e,ms,h1,by rw[hm n (by simp)];exact h2,rfl,h3,h4.imp (fun c v m hf hm' h=>h.mono' H.imm (fun b hb=>hm b (by simp[hm' b hb])) hf) h3⟩
 |undef=>exact⟨h.1,fun p=>trivial⟩
 |v x=>exact h
 |emp=>exact h
 |sl t l=>exact⟨h.1,fun p=>cu.mono (p:=p) H trivial (h.2 p)⟩
 |view q f lo t l=>exact⟨h.1,fun p=>cu.mono (p:=p) H (hu p rfl) (h.2 p)⟩
 |ptr b o=>exact⟨h.1,fun p=>cu.mono (p:=p) H (hu p rfl) (h.2 p)⟩
 |gp b o=>exact h
 |lb n=>exact h
 |ea t x o=>exact⟨h.1,fun p=>cu.mono (p:=p) H trivial (h.2 p)⟩
 |va q i t x o=>exact⟨h.1,fun p=>cu.mono (p:=p) H (hu p rfl) (h.2 p)⟩
 |fn f caps=>exact⟨h.1,fun p=>cu.mono (p:=p) H (hu p rfl) (h.2 p)⟩
theorem cC.mono{g g':Gh}{w w':World}(H:gM (fun _=>True) (fun _=>True) g g' w w'){c:CV}{v:Value}{m:List Nat}
 (hm:∀b,b∈m->w'.heap[b]?=w.heap[b]?) (h:cC g w c v m):cC g' w' c v m:=
 cC.mono' H hm (fun p _=>CV.uses_true c p) h
theorem bS.mono{g g':Gh}{w w':World}(H:gM (fun _=>True) (fun _=>True) g g' w w'):
 ∀{cs:List CV} {vs:List Value} {ms:List (List Nat)},(∀b,b∈aj ms->w'.heap[b]?=w.heap[b]?)->bS g w cs vs ms->bS g' w' cs vs ms
 |[],_,_,_,h=>h
 |c::r,_,_,hm,h=>by
  obtain⟨v,vs',m,ms',rfl,rfl,h1,h2⟩:=h
  refine⟨v,vs',m,ms',rfl,rfl,cC.mono H (fun b e=>hm b ?_) h1,bS.mono H (fun b hb=>hm b ?_) h2⟩
  ·simp[aj,e]
  ·simp[aj,hb]
theorem aei{g:Gh}{w:World}(p:Place)(hp:∀n o l c,g.lab n≠ .own p o l c){c:CV}{v:Value}{m:List Nat}(h:cC g w c v m)
 (F:dF g w (aj [m])):∃g',GH g g' (aj [m]) (fun q=>q=p/\∃t x,c= .own t x)/\cu g' w p c v:=by
 have triv:∀(c:CV),(∀t x,c≠ .own t x)->cu g w p c v->∃g',GH g g' (aj [m]) (fun q=>q=p/\∃t x,c= .own t x)/\cu g' w p c v:=
  fun c hc h=>⟨g,⟨rfl,fun n=>.inl rfl,fun n m q o l c o' l' c' hq _ _=>(hq.2.elim fun t hx=>hx.elim fun x e=>absurd e (hc t x))⟩,h⟩
 cases c with
 |own t l=>
  obtain⟨lo,A,cap,hy,hc,h⟩:=h
  by_cases h0:cap=0
  ·refine⟨g,⟨rfl,fun n=>.inl rfl,fun n m q o l c o' l' c' hq h1 _=>absurd (hq.1▸h1) (hp _ _ _ _)⟩,A,cap,hy,hc, .inl h0⟩
  ·obtain⟨b,off,n,c,cs,e,hA,hm,_,hh,hs,hx⟩:=h.resolve_left h0
   subst hm
   have hjb:=F.junk b (by simp[aj])
   refine⟨⟨fun k=>if k=b then .own p (off+lo*t.size) l.length cap else g.lab k,g.bx⟩,⟨rfl,fun k=> ?_, ?_⟩,A,cap,hy,hc, .inr ?_⟩
   ·by_cases hk:k=b
    ·subst hk;exact .inr ⟨by simp[aj],p,_,_,_,⟨rfl,t,l,rfl⟩,by simp;exact⟨rfl,rfl,rfl⟩⟩
    ·exact .inl (by simp[hk])
   ·intro n m q o l' c o' l'' c' hq h1 h2
    have key:∀n o l' c,(if n=b then Lab.own p (off+lo*t.size) l.length cap else g.lab n)= .own p o l' c->n=b:=by
     intro n o l' c h
     by_cases hn:n=b
     ·exact hn
     ·rw[if_neg hn]at h;exact absurd h (hp _ _ _ _)
    obtain⟨rfl,_⟩:=hq
    exact(key n _ _ _ h1).trans (key m _ _ _ h2).symm
   ·refine⟨b,off+lo*t.size,l.length,cap,cs,e,by simpa using hA,by simp[Gh.owns],fun _=>⟨rfl,rfl,rfl⟩,hh,by simpa using hs,fun i x hi=> ?_⟩
    refine ER.mono (fun k hk=>⟨?_,rfl⟩) (by simpa using hx i x hi)
    have hk':g.lab k= .imm:=hk
    show(if k=b then _ else g.lab k)=_
    rw[if_neg (fun e=>by rw[e,hjb]at hk';cases hk')];exact hk'
 |np cs=>exact triv _ (by simp) trivial
 |undef=>exact triv _ (by simp) trivial
 |v x=>exact triv _ (by simp) (h.2 p)
 |emp=>exact triv _ (by simp) (h.2 p)
 |sl t l=>exact triv _ (by simp) (h.2 p)
 |view q f lo t l=>exact triv _ (by simp) (h.2 p)
 |ptr b o=>exact triv _ (by simp) (h.2 p)
 |gp b o=>exact triv _ (by simp) (h.2 p)
 |lb n=>exact triv _ (by simp) (h.2 p)
 |ea t x o=>exact triv _ (by simp) (h.2 p)
 |va q i t x o=>exact triv _ (by simp) (h.2 p)
 |fn f caps=>exact triv _ (by simp) (h.2 p)
theorem GH.trans{g g1 g2:Gh}{S1 S2:List Nat}{P1 P2:Place->Prop}(L1:GH g g1 S1 P1)(L2:GH g1 g2 S2 P2)
 (hP:∀p,P1 p->P2 p->False):GH g g2 (S1++S2) (fun p=>P1 p\/P2 p)where
 bx:=L2.bx.trans L1.bx
 lab:=by
  intro n
  rcases L2.lab n with e|⟨h,p,o,l,c,hp,e⟩
  ·rcases L1.lab n with e'|⟨h,p,o,l,c,hp,e'⟩
   ·exact .inl (e.trans e')
   ·exact .inr ⟨List.mem_append_left _ h,p,o,l,c, .inl hp,e.trans e'⟩
  ·exact .inr ⟨List.mem_append_right _ h,p,o,l,c, .inr hp,e⟩
 uniq:=by
  intro n m p o l c o' l' c' hp h1 h2
  rcases hp with hp|hp
  ·have back:∀n o l c,g2.lab n= .own p o l c->g1.lab n= .own p o l c:=by
    intro n o l c h
    rcases L2.lab n with e|⟨_,q,o',l',c',hq,e⟩
    ·rw[<-e];exact h
    ·rw[h]at e;injection e with e;subst e;exact(hP _ hp hq).elim
   exact L1.uniq n m p _ _ _ _ _ _ hp (back _ _ _ _ h1) (back _ _ _ _ h2)
  ·exact L2.uniq n m p _ _ _ _ _ _ hp h1 h2
theorem dF.mono{g g':Gh}{w:World}{S S':List Nat}{P:Place->Prop}(F:dF g w (S++S'))(L:GH g g' S P):dF g' w S' where
 nodup:=(List.nodup_append.1 F.nodup).2.1
 junk:=by
  intro b hb
  rcases L.lab b with e|⟨h,_⟩
  ·rw[e];exact F.junk b (List.mem_append_right _ hb)
  ·exact absurd rfl ((List.nodup_append.1 F.nodup).2.2 b h b hb)
 size:=fun b hb=>F.size b (List.mem_append_right _ hb)
theorem dF.left{g:Gh}{w:World}{S S':List Nat}(F:dF g w (S++S')):dF g w S where
 nodup:=(List.nodup_append.1 F.nodup).1
 junk:=fun b hb=>F.junk b (List.mem_append_left _ hb)
 size:=fun b hb=>F.size b (List.mem_append_left _ hb)
theorem dF.apart{g:Gh}{w:World}{S S':List Nat}(F:dF g w (S++S')):∀n,n∈S->n∈S'->False:=
 fun n h h'=>absurd rfl ((List.nodup_append.1 F.nodup).2.2 n h n h')
theorem GH.weaken{g g':Gh}{S S':List Nat}{P Q:Place->Prop}(L:GH g g' S P)(h:∀p,P p->Q p)(h':∀p,Q p->P p)(hS:S=S'):GH g g' S' Q where
 bx:=L.bx
 lab:=fun n=>(L.lab n).imp id fun⟨a,p,o,l,c,hp,e⟩=>⟨hS▸a,p,o,l,c,h p hp,e⟩
 uniq:=fun n m p o l c o' l' c' hp=>L.uniq n m p o l c o' l' c' (h' p hp)
theorem Qy{w:World}(p:Nat->Place)(hp:∀i j,p i=p j->i=j):
 ∀(cs:List CV) (i:Nat) (vs:List Value) (ms:List (List Nat)) (g:Gh),bS g w cs vs ms->dF g w (aj ms)->
 (∀j,i<=j->∀n o l c,g.lab n≠ .own (p j) o l c)->
 ∃g',GH g g' (aj ms) (fun q=>∃j t x,q=p (i+j)/\cs[j]?=some (.own t x))/\cA g' w p i cs vs
 |[],i,vs,ms,g,h,_,_=>by
  obtain⟨rfl,rfl⟩:=h
  exact⟨g,⟨rfl,fun n=>.inl rfl,fun n m q o l c o' l' c' ⟨j,t,x,_,hq⟩ _ _=>by simp at hq⟩,rfl⟩
 |c::r,i,vs,ms,g,h,F,hn=>by
  obtain⟨v,vs',m,ms',rfl,rfl,h1,h2⟩:=h
  have es:aj (m::ms')=aj [m]++aj ms':=by rw[<-cJ];rfl
  rw[es]at F
  obtain⟨g1,L1,hc⟩:=aei (p i) (hn i (Nat.le_refl _)) h1 F.left
  have F2:=F.mono L1
  have hn2:∀j,i+1<=j->∀n o l c,g1.lab n≠ .own (p j) o l c:=by
   intro j hj n o l c e
   rcases L1.lab n with e'|⟨_,q,o',l',c',hq,e'⟩
   ·exact hn j (by omega) n o l c (by rw[<-e'];exact e)
   ·rw[e]at e';injection e' with e';rw[hq.1]at e';have:=hp _ _ e';omega
  have h2':=bS.mono (L1.steps F.left) (fun b hb=>rfl) h2
  obtain⟨g2,L2,hr⟩:=Qy p hp r (i+1) vs' ms' g1 h2' F2 hn2
  refine⟨g2,(L1.trans L2 ?_).weaken ?_ ?_ es.symm,v,vs',rfl,cu.mono (L2.steps F2) (CV.uses_true _ _) hc,hr⟩
  ·rintro q ⟨rfl,_⟩ ⟨j,t,x,hq,_⟩
   have:=hp _ _ hq;omega
  ·rintro q (⟨rfl,t,x,rfl⟩|⟨j,t,x,hq,hj⟩)
   ·exact⟨0,t,x,rfl,rfl⟩
   ·exact⟨j+1,t,x,by rw[hq];congr 1;omega,by simpa using hj⟩
  ·rintro q ⟨j,t,x,hq,hj⟩
   cases j with
   |zero=>exact .inl ⟨hq,t,x,by simpa using hj⟩
   |succ j=>exact .inr ⟨j,t,x,by rw[hq];congr 1;omega,by simpa using hj⟩
def FV(g:Gh)(w:World)(x:Val)(v:Value)(ms:List (List Nat)):Prop:=
 match x.agg with
 |true=>∃vs,v= .agg vs/\bS g w x.cs vs.toList ms
 |false=>bS g w x.cs [v] ms
def sR(g:Gh)(w:World):List Val->List Value->List (List Nat)->Prop
 |[],vs,ms=>vs=[]/\ms=[]
 |x::r,vs,ms=>∃v vs' m ms',vs=v::vs'/\ms=m++ms'/\FV g w x v m/\sR g w r vs' ms'
def LB(g:Gh)(w:World)(a:AV)(v:Value)(ms:List (List Nat)):Prop:=
 match a with
 | .one x=>FV g w x v ms
 | .tup l=>∃vs,v= .tuple vs/\sR g w l vs.toList ms
theorem FV.mono{g g':Gh}{w w':World}(H:gM (fun _=>True) (fun _=>True) g g' w w'){x:Val}{v:Value}{ms:List (List Nat)}
 (hm:∀b,b∈aj ms->w'.heap[b]?=w.heap[b]?) (h:FV g w x v ms):FV g' w' x v ms:=by
 obtain⟨a,cs⟩:=x
 cases a with
 |true=>obtain⟨vs,hv,h⟩:=h;exact⟨vs,hv,bS.mono H hm h⟩
 |false=>exact bS.mono (cs:=cs) H hm h
theorem sR.mono{g g':Gh}{w w':World}(H:gM (fun _=>True) (fun _=>True) g g' w w'):
 ∀{l:List Val} {vs:List Value} {ms:List (List Nat)},(∀b,b∈aj ms->w'.heap[b]?=w.heap[b]?)->sR g w l vs ms->sR g' w' l vs ms
 |[],_,_,_,h=>h
 |x::r,_,_,hm,h=>by
  obtain⟨v,vs',m,ms',rfl,rfl,h1,h2⟩:=h
  simp only[cJ,List.mem_append]at hm
  exact⟨v,vs',m,ms',rfl,rfl,h1.mono H (fun b hb=>hm b (.inl hb)),sR.mono H (fun b hb=>hm b (.inr hb)) h2⟩
theorem LB.mono{g g':Gh}{w w':World}(H:gM (fun _=>True) (fun _=>True) g g' w w'){a:AV}{v:Value}{ms:List (List Nat)}
 (hm:∀b,b∈aj ms->w'.heap[b]?=w.heap[b]?) (h:LB g w a v ms):LB g' w' a v ms:=by
 cases a with
 |one x=>exact FV.mono H hm h
 |tup l=>obtain⟨vs,hv,h⟩:=h;exact⟨vs,hv,sR.mono H hm h⟩
def Val.ownAt(x:Val)(j:Nat):Prop:=∃t l,x.cs[j]?=some (.own t l)
def AV.ownAt(a:AV)(k j:Nat):Prop:=
 match a with
 | .one x=>k=0/\x.ownAt j
 | .tup l=>∃x,l[k]?=some x/\x.ownAt j
theorem acz{w:World}(p:Nat->Place)(hp:∀i j,p i=p j->i=j)(x:Val)(v:Value)(ms:List (List Nat))(g:Gh)
 (h:FV g w x v ms) (F:dF g w (aj ms)) (hn:∀j n o l c,g.lab n≠ .own (p j) o l c):
 ∃g',GH g g' (aj ms) (fun q=>∃j,q=p j/\x.ownAt j)/\yG g' w p x v:=by
 obtain⟨a,cs⟩:=x
 have e:∀q,(∃j t x,q=p (0+j)/\cs[j]?=some (.own t x))↔(∃j,q=p j/\Val.ownAt ⟨a,cs⟩ j):=
  fun q=>⟨fun⟨j,t,x,h,h'⟩=>⟨j,by rw[h,Nat.zero_add],t,x,h'⟩,fun⟨j,h,t,x,h'⟩=>⟨j,t,x,by rw[h,Nat.zero_add],h'⟩⟩
 cases a with
 |true=>
  obtain⟨vs,hv,h⟩:=h
  obtain⟨g',L,hr⟩:=Qy p hp cs 0 vs.toList ms g h F (fun j _=>hn j)
  exact⟨g',L.weaken (fun q=>(e q).1) (fun q=>(e q).2) rfl,vs,hv,hr⟩
 |false=>
  obtain⟨g',L,hr⟩:=Qy p hp cs 0 [v] ms g h F (fun j _=>hn j)
  exact⟨g',L.weaken (fun q=>(e q).1) (fun q=>(e q).2) rfl,hr⟩
theorem yG.mono{g g':Gh}{w w':World}(H:gM (fun _=>True) (fun _=>True) g g' w w'){p:Nat->Place}{x:Val}{v:Value}
 (h:yG g w p x v):yG g' w' p x v:=by
 have:=yG.imp (fun c=>c) (g':=g') (w':=w') (fun j c v h=>cu.mono H (CV.uses_true _ _) h) h
 simpa[Val.map]using this
theorem acA{w:World}(d:Nat):∀(l:List Val) (k:Nat) (vs:List Value) (ms:List (List Nat)) (g:Gh),
 sR g w l vs ms->dF g w (aj ms)->(∀k' j n o l c,k<=k'->g.lab n≠ .own (.slot d k' j) o l c)->
 ∃g',GH g g' (aj ms) (fun q=>∃i j x,q= .slot d (k+i) j/\l[i]?=some x/\x.ownAt j)/\uu g' w d k l vs
 |[],k,vs,ms,g,h,_,_=>by
  obtain⟨rfl,rfl⟩:=h
  exact⟨g,⟨rfl,fun n=>.inl rfl,fun n m q o l c o' l' c' ⟨i,j,x,_,hq,_⟩ _ _=>by simp at hq⟩,rfl⟩
 |x::r,k,vs,ms,g,h,F,hn=>by
  obtain⟨v,vs',m,ms',rfl,rfl,h1,h2⟩:=h
  rw[cJ]at F
  obtain⟨g1,L1,hc⟩:=acz (.slot d k) (fun i j e=>by injection e) x v m g h1 F.left (fun j n o l c=>hn k j n o l c (Nat.le_refl _))
  have F2:=F.mono L1
  have hn2:∀k' j n o l c,k+1<=k'->g1.lab n≠ .own (.slot d k' j) o l c:=by
   intro k' j n o l c hk e
   rcases L1.lab n with e'|⟨_,q,o',l',c',⟨j',hq,_⟩,e'⟩
   ·exact hn k' j n o l c (by omega) (by rw[<-e'];exact e)
   ·rw[e]at e';injection e' with e';rw[hq]at e';injection e' with _ e' _;omega
  obtain⟨g2,L2,hr⟩:=acA d r (k+1) vs' ms' g1 (sR.mono (L1.steps F.left) (fun b hb=>rfl) h2) F2 hn2
  refine⟨g2,(L1.trans L2 ?_).weaken ?_ ?_ (cJ _ _).symm,v,vs',rfl,hc.mono (L2.steps F2),hr⟩
  ·rintro q ⟨j,rfl,_⟩ ⟨i,j',y,hq,_⟩
   injection hq with _ hq _;omega
  ·rintro q (⟨j,hq,ho⟩|⟨i,j,y,hq,hi,ho⟩)
   ·exact⟨0,j,x,hq,rfl,ho⟩
   ·exact⟨i+1,j,y,by rw[hq];congr 1;omega,by simpa using hi,ho⟩
  ·rintro q ⟨i,j,y,hq,hi,ho⟩
   cases i with
   |zero=>simp at hi;subst hi;exact .inl ⟨j,hq,ho⟩
   |succ i=>exact .inr ⟨i,j,y,by rw[hq];congr 1;omega,by simpa using hi,ho⟩
theorem aeS{w:World}(d:Nat)(a:AV)(v:Value)(ms:List (List Nat))(g:Gh)(h:LB g w a v ms)(F:dF g w (aj ms))
 (hn:∀k j n o l c,g.lab n≠ .own (.slot d k j) o l c):
 ∃g',GH g g' (aj ms) (fun q=>∃k j,q= .slot d k j/\a.ownAt k j)/\yM g' w d a v:=by
 cases a with
 |one x=>
  obtain⟨g',L,hr⟩:=acz (.slot d 0) (fun i j e=>by injection e) x v ms g h F (fun j=>hn 0 j)
  exact⟨g',L.weaken (fun q ⟨j,hq,ho⟩=>⟨0,j,hq,rfl,ho⟩) (fun q ⟨k,j,hq,hk,ho⟩=>⟨j,by rw[hq,hk],ho⟩) rfl,hr⟩
 |tup l=>
  obtain⟨vs,hv,h⟩:=h
  obtain⟨g',L,hr⟩:=acA d l 0 vs.toList ms g h F (fun k j n o l c _=>hn k j n o l c)
  exact⟨g',L.weaken (fun q ⟨i,j,x,hq,hi,ho⟩=>⟨i,j,by rw[hq,Nat.zero_add],x,hi,ho⟩)
   (fun q ⟨k,j,hq,x,hi,ho⟩=>⟨k,j,x,by rw[hq,Nat.zero_add],hi,ho⟩) rfl,vs,hv,hr⟩
theorem yM.mono{g g':Gh}{w w':World}(H:gM (fun _=>True) (fun _=>True) g g' w w'){i:Nat}{a:AV}{v:Value}
 (h:yM g w i a v):yM g' w' i a v:=by
 have:=yM.imp (fun c=>c) (g':=g') (w':=w') (fun j c v h=>cu.mono H (CV.uses_true _ _) h) h
 rwa [AV.map_id]at this
theorem cA.mono{g g':Gh}{w w':World}(H:gM (fun _=>True) (fun _=>True) g g' w w'){p:Nat->Place}{i:Nat}{cs:List CV}{vs:List Value}
 (h:cA g w p i cs vs):cA g' w' p i cs vs:=by
 have:=cA.imp (fun c=>c) (g':=g') (w':=w') (fun j c v h=>cu.mono H (CV.uses_true _ _) h) h
 simpa using this
theorem AV.ownAt_get{a:AV}{st:St}{d:Nat}(h:st.get d=a){k j:Nat}(ho:a.ownAt k j):∃t x,st.atPlace (.slot d k j)= .own t x:=by
 subst h
 simp only[St.atPlace]
 cases hg:st.get d with
 |one x=>
  rw[hg]at ho
  obtain⟨hk,t,l,hl⟩:=ho
  exact⟨t,l,by simp[hk,List.getD_eq_getElem?_getD,hl]⟩
 |tup l=>
  rw[hg]at ho
  obtain⟨x,hx,t,l',hl⟩:=ho
  exact⟨t,l',by simp[hx,List.getD_eq_getElem?_getD,hl]⟩
theorem dG.set{C:gY}{E:iU}{g:Gh}{st:St}{tm:Array Value}{w:World}(R:dG C E g st tm w){d:Nat}
 {a:AV} {v:Value} {ms:List (List Nat)} (h:LB g w a v ms) (F:dF g w (aj ms))
 (hn:∀k j n o l c,g.lab n≠ .own (.slot d k j) o l c) (hd:d<st.slots.length):
 ∃g',dG C E g' (st.set d a) (tm.setIfInBounds d v) w/\(∀n,g.lab n≠ .junk->g'.lab n=g.lab n)/\(∀n,g'.lab n= .imm->g.lab n= .imm)/\g'.bx=g.bx:=by
 obtain⟨g',L,hr⟩:=aeS d a v ms g h F hn
 have H:=L.steps F
 have hget:∀i,i≠d->(st.set d a).get i=st.get i:=by
  intro i hi
  simp only[St.get,St.set,List.getD_eq_getElem?_getD]
  rw[List.getElem?_set_ne (fun e=>hi e.symm)]
 have hgetd:(st.set d a).get d=a:=by
  simp only[St.get,St.set,List.getD_eq_getElem?_getD]
  rw[List.getElem?_set_self hd];rfl
 have keep:∀n,g.lab n≠ .junk->g'.lab n=g.lab n:=by
  intro n hn'
  rcases L.lab n with e|⟨hm,_⟩
  ·exact e
  ·exact absurd (F.junk n hm) hn'
 have immB:∀n,g'.lab n= .imm->g.lab n= .imm:=by
  intro n h
  rcases L.lab n with e|⟨_,_,_,_,_,_,e⟩
  ·rw[<-e];exact h
  ·rw[h]at e;cases e
 refine⟨g', ?_,keep,immB,L.bx⟩
 exact{
  len:=by simp[St.set,R.len]
  lenN:=by simp[St.set,R.lenN]
  lenB:=R.lenB
  io:=R.io.mono H
  slots:=by
   intro i b hb
   by_cases hi:i=d
   ·subst hi
    simp only[St.set]at hb
    rw[List.getElem?_set_self hd]at hb
    simp only[Option.some.injEq]at hb
    subst hb
    exact⟨v,by rw[Array.getElem?_setIfInBounds_self,if_pos (by rw[<-R.len];exact hd)],hr⟩
   ·simp only[St.set]at hb
    rw[List.getElem?_set_ne (fun e=>hi e.symm)]at hb
    obtain⟨v',hv',h'⟩:=R.slots i b hb
    exact⟨v',by rw[Array.getElem?_setIfInBounds_ne (fun e=>hi e.symm)];exact hv',h'.mono H⟩
  boxes:=by
   intro b ro cs hb
   obtain⟨n,vs,e,fz,h1,h2,h3,h4,h5⟩:=R.boxes b ro cs hb
   refine⟨n,vs,e,fz,by rw[L.bx];exact h1, ?_,h3,h4,h5.mono H⟩
   rw[keep n (by rw[h2];cases ro<;>simp)];exact h2
  bx:=by intro b n hb;rw[L.bx]at hb;exact R.bx b n hb
  own:=by
   intro n p o l c hl
   rcases L.lab n with e|⟨_,q,o',l',c',⟨k,j,hq,ho⟩,e⟩
   ·rw[e]at hl
    obtain⟨t,x,hx⟩:=R.own n p o l c hl
    refine⟨t,x, ?_⟩
    cases p with
    |slot i k j=>
     have hi:i≠d:=fun e=>hn k j n o l c (e▸hl)
     simp only[St.atPlace,hget i hi];exact hx
    |cell b j=>exact hx
    |arg j=>exact hx
   ·rw[hl]at e;injection e with e;subst e;subst hq
    exact AV.ownAt_get hgetd ho
  uniq:=by
   intro n m p o l c o' l' c' h1 h2
   by_cases hp:∃k j,p=Place.slot d k j/\a.ownAt k j
   ·exact L.uniq n m p o l c o' l' c' hp h1 h2
   ·have back:∀n o l c,g'.lab n= .own p o l c->g.lab n= .own p o l c:=by
     intro n o l c h
     rcases L.lab n with e|⟨_,q,o',l',c',hq,e⟩
     ·rw[<-e];exact h
     ·rw[h]at e;injection e with e;subst e;exact(hp hq).elim
    exact R.uniq n m p o l c o' l' c' (back _ _ _ _ h1) (back _ _ _ _ h2)
  uniqB:=by
   intro n b h
   rw[L.bx]
   rcases L.lab n with e|⟨_,q,o',l',c',hq,e⟩
   ·exact R.uniqB n b (by rw[<-e];exact h)
   ·rw[h]at e;cases e
  size:=by
   intro n h
   rcases L.lab n with e|⟨hm,_⟩
   ·exact R.size n (by rw[<-e];exact h)
   ·exact F.size n hm
  glob:=by
   intro k cs hc
   obtain⟨vs,e,fz,h1,h2,h3⟩:=R.glob k cs hc
   exact⟨vs,e,fz,h1,by rw[keep k (by rw[h2];simp)];exact h2,h3⟩
  kept:={
   os:=R.kept.os
   tape:=R.kept.tape
   output:=R.kept.output
   size:=R.kept.size
   imm:=fun n hn hl=>by
    obtain⟨h1,h2⟩:=R.kept.imm n hn hl
    exact⟨by rw[keep n (by rw[h1];simp)];exact h1,h2⟩
   far:=fun n hn hl=>by
    obtain⟨h1,h2⟩:=R.kept.far n hn hl
    exact⟨by rw[keep n (by rw[h1];simp)];exact h1,h2⟩
   old:=R.kept.old
   lent:=fun b n hb h=>R.kept.lent b n hb (by rw[<-L.bx];exact h)}}
theorem XN{a:AV}{st:St}{d:Nat}(h:st.get d=a)(hno:a.hasOwn=false){k j:Nat}{t:Ty}{x:List t.T}(e:st.atPlace (.slot d k j)= .own t x):False:=by
 subst h
 simp only[St.atPlace]at e
 cases hg:st.get d with
 |one y=>
  rw[hg]at e hno
  simp only[AV.hasOwn,Val.hasOwn,List.any_eq_false]at hno
  by_cases hk:k=0
  ·simp only[hk,if_true,List.getD_eq_getElem?_getD]at e
   cases hj:y.cs[j]? with
   |none=>rw[hj]at e;cases e
   |some c=>rw[hj]at e;exact hno c (List.mem_of_getElem? hj) (by simp at e;rw[e];rfl)
  ·simp only[hk,if_false]at e;cases e
 |tup l=>
  rw[hg]at e hno
  simp only[AV.hasOwn,List.any_eq_false]at hno
  cases hk:l[k]? with
  |none=>simp[hk]at e
  |some y=>
   simp only[hk,List.getD_eq_getElem?_getD]at e
   have hy:=hno y (List.mem_of_getElem? hk)
   simp only[Val.hasOwn,Bool.not_eq_true,List.any_eq_false]at hy
   cases hj:y.cs[j]? with
   |none=>rw[hj]at e;cases e
   |some c=>rw[hj]at e;have h3:=hy c (List.mem_of_getElem? hj);simp at e;rw[e]at h3;cases h3
theorem dF.turn{g g':Gh}{w:World}{S:List Nat}(F:dF g w S)(h:∀n,g.lab n= .junk->g'.lab n= .junk):dF g' w S:=
 ⟨F.nodup,fun b hb=>h b (F.junk b hb),F.size⟩
theorem Gh.free_junk{g:Gh}{bad:Place->Bool}{n:Nat}(h:g.lab n= .junk):(g.free bad).lab n= .junk:=by
 simp only[Gh.free,h]
theorem cC.avoid{g:Gh}{w:World}{d:Nat}{c:CV}{v:Value}{m:List Nat}(ha:c.avoids d=true)(h:cC g w c v m):
 cC (g.free (Place.inSlot d)) w c v m:=by
 refine cC.mono' (g.free_steps (Place.inSlot d) w) (fun _ _=>rfl) (fun p ho=> ?_) h
 cases c<;>simp_all [CV.uses,CV.avoids,CV.isOwn]
theorem bS.avoid{g:Gh}{w:World}{d:Nat}:∀{cs:List CV} {vs:List Value} {ms:List (List Nat)},cs.all (CV.avoids d)=true->
 bS g w cs vs ms->bS (g.free (Place.inSlot d)) w cs vs ms
 |[],_,_,_,h=>h
 |c::r,_,_,ha,h=>by
  obtain⟨v,vs',m,ms',rfl,rfl,h1,h2⟩:=h
  simp only[List.all_cons,Bool.and_eq_true]at ha
  exact⟨v,vs',m,ms',rfl,rfl,h1.avoid ha.1,bS.avoid ha.2 h2⟩
theorem FV.avoid{g:Gh}{w:World}{d:Nat}{x:Val}{v:Value}{ms:List (List Nat)}(ha:x.cs.all (CV.avoids d)=true)
 (h:FV g w x v ms):FV (g.free (Place.inSlot d)) w x v ms:=by
 obtain⟨a,cs⟩:=x
 cases a with
 |true=>obtain⟨vs,hv,h⟩:=h;exact⟨vs,hv,h.avoid ha⟩
 |false=>exact bS.avoid (cs:=cs) ha h
theorem sR.avoid{g:Gh}{w:World}{d:Nat}:∀{l:List Val} {vs:List Value} {ms:List (List Nat)},(l.all fun x=>x.cs.all (CV.avoids d))=true->
 sR g w l vs ms->sR (g.free (Place.inSlot d)) w l vs ms
 |[],_,_,_,h=>h
 |x::r,_,_,ha,h=>by
  obtain⟨v,vs',m,ms',rfl,rfl,h1,h2⟩:=h
  simp only[List.all_cons,Bool.and_eq_true]at ha
  exact⟨v,vs',m,ms',rfl,rfl,h1.avoid ha.1,sR.avoid ha.2 h2⟩
theorem LB.avoid{g:Gh}{w:World}{d:Nat}{a:AV}{v:Value}{ms:List (List Nat)}(ha:a.all (CV.avoids d)=true)
 (h:LB g w a v ms):LB (g.free (Place.inSlot d)) w a v ms:=by
 cases a with
 |one x=>exact FV.avoid ha h
 |tup l=>obtain⟨vs,hv,h⟩:=h;exact⟨vs,hv,h.avoid ha⟩
theorem dG.put{C:gY}{E:iU}{g:Gh}{st:St}{tm:Array Value}{w:World}(R:dG C E g st tm w){strict:Bool}{d:Nat}
 {a:AV} {v:Value} {ms:List (List Nat)} {Q:Type} {k:St->Option Q} {r:Q} (h:LB g w a v ms) (F:dF g w (aj ms))
 (hk:st.put strict d a k=some r):
 ∃g' st',k st'=some r/\dG C E g' st' (tm.setIfInBounds d v) w:=by
 by_cases hd:d<st.slots.length
 ·cases ho:(st.get d).hasOwn with
  |false=>
   simp only[St.put,ho]at hk
   obtain⟨g',R',_⟩:=R.set h F (fun k j n o l c e=>by
    obtain⟨t,x,hx⟩:=R.own n _ o l c e
    exact XN rfl ho hx) hd
   exact⟨g',_,hk,R'⟩
  |true=>
   simp only[St.put,ho]at hk
   cases strict with
   |true=>simp at hk
   |false=>
    simp only at hk
    have hav:a.all (CV.avoids d)=true:=by
     cases ha:a.all (CV.avoids d)with
     |true=>rfl
     |false=>rw[if_neg (by simp[ha])]at hk;cases hk
    rw[if_pos hav]at hk
    have R1:=R.giveUpAll (Place.inSlot d)
    obtain⟨g',R',_⟩:=R1.set (h.avoid hav) (F.turn (fun n hn=>Gh.free_junk hn)) (fun k j n o l c e=>by
     rcases g.free_turn (Place.inSlot d) n with e'|⟨_,_,_,_,_,_,e'⟩
     ·have:=Gh.free_gone (bad:=Place.inSlot d) (p:=.slot d k j) (by simp[Place.inSlot]) (e'.symm.trans e)
      rw[e]at this;cases this
     ·rw[e]at e';cases e') (by simp only[St.giveUpAll,St.mapP,pU];exact hd)
    exact⟨g',_,hk,R'⟩
 ·have hset:∀(s:St),s.slots.length=st.slots.length->s.set d a=s:=by
   intro s hs
   simp only[St.set]
   rw[List.set_eq_of_length_le (by omega)]
  have hno:(st.get d).hasOwn=false:=by
   simp only[St.get,List.getD_eq_getElem?_getD]
   rw[List.getElem?_eq_none (by omega)];rfl
  simp only[St.put,hno,hset st rfl]at hk
  refine⟨g,st,hk, ?_⟩
  rw[Array.setIfInBounds,dif_neg (by rw[<-R.len];exact hd)]
  exact R
def CV.lasts:CV->Bool
 | .view _ _ _ _ _=>false
 | .va _ _ _ _ _=>false
 |_=>true
def Ry(g:Gh)(w:World)(bad:List Place):List CV->List Value->Prop
 |[],vs=>vs=[]
 |c::r,vs=>∃v vs',vs=v::vs'/\((∃q f lo t l,c= .view q f lo t l/\q∈bad)\/(∃q i t x o,c= .va q i t x o)\/cC g w c v [])/\Ry g w bad r vs'
theorem Ry.free{g:Gh}{w:World}{bad:List Place}{p:Place}:∀{cs:List CV} {vs:List Value},Ry g w bad cs vs->
 Ry (g.free fun q=>decide (q=p)) w (p::bad) cs vs
 |[],_,h=>h
 |c::r,_,h=>by
  obtain⟨v,vs',rfl,h1,h2⟩:=h
  refine⟨v,vs',rfl, ?_,Ry.free h2⟩
  have H:=g.free_steps (fun q=>decide (q=p)) w
  rcases h1 with⟨q,f,lo,t,l,rfl,hq⟩|h1|h1
  ·exact .inl ⟨q,f,lo,t,l,rfl,List.mem_cons_of_mem _ hq⟩
  ·exact .inr (.inl h1)
  ·cases c with
   |view q f lo t l=>
    by_cases hq:q=p
    ·exact .inl ⟨q,f,lo,t,l,rfl,by simp[hq]⟩
    ·exact .inr (.inr (cC.mono' H (fun b e=>by cases e) (fun _ _=>by simp[CV.uses,hq]) h1))
   |va q i t x o=>exact .inr (.inl ⟨q,i,t,x,o,rfl⟩)
   |own t l=>exact .inr (.inr (cC.mono' H (fun b e=>by cases e) (fun _ e=>by cases e) h1))
   |np cs=>exact h1.np_nil.elim
   |undef=>exact .inr (.inr ⟨h1.1,fun _=>trivial⟩)
   |v x=>exact .inr (.inr h1)
   |emp=>exact .inr (.inr h1)
   |sl t l=>exact .inr (.inr (cC.mono' H (fun b e=>by cases e) (fun _ _=>trivial) h1))
   |ptr b o=>exact .inr (.inr (cC.mono' H (fun b e=>by cases e) (fun _ _=>trivial) h1))
   |gp b o=>exact .inr (.inr h1)
   |lb n=>exact .inr (.inr h1)
   |ea t x o=>exact .inr (.inr (cC.mono' H (fun b e=>by cases e) (fun _ _=>trivial) h1))
   |fn f caps=>exact .inr (.inr (cC.mono' H (fun b e=>by cases e) (fun _ _=>fun _ _=>trivial) h1))
structure wn(g g':Gh)(S:List Nat):Prop where
 bx:g'.bx=g.bx
 lab:∀n,g'.lab n=g.lab n\/(∃p o l c,g.lab n= .own p o l c/\g'.lab n= .junk)
 own:∀n,n∈S->∃p o l c,g.lab n= .own p o l c
theorem bS.cons_none{g:Gh}{w:World}{c:CV}{cs:List CV}{v:Value}{vs:List Value}{ms:List (List Nat)}
 (h:cC g w c v []) (h':bS g w cs vs ms):bS g w (c::cs) (v::vs) ([]::ms):=⟨v,vs,[],ms,rfl,rfl,h,h'⟩
theorem cC.steal{g g':Gh}{w:World}{S:List Nat}(L:wn g g' S){c:CV}{v:Value}{m:List Nat}(hc:c.lasts=true)(h:cC g w c v m):cC g' w c v m:=by
 have H:gM (fun _=>False) (fun _=>True) g g' w w:={
  imm:=by
   intro n hn
   rcases L.lab n with e|⟨_,_,_,_,e,_⟩
   ·exact⟨by rw[e,hn],rfl⟩
   ·rw[hn]at e;cases e
  own:=fun _ _ _ _ _ h=>h.elim
  bx:=fun b n _ h=>by rw[L.bx];exact h}
 refine cC.mono' H (fun _ _=>rfl) (fun p ho=> ?_) h
 cases c<;>simp_all [CV.uses,CV.lasts,CV.isOwn]
theorem uU{C:gY}{E:iU}{tm:Array Value}{w:World}:∀(cs:List CV) (bad:List Place) (st:St) (g:Gh) (vs:List Value),
 dG C E g st tm w->Ry g w bad cs vs->
 ∃g' ms,dG C E g' (kp bad cs st).2 tm w/\bS g' w (kp bad cs st).1 vs ms/\dF g' w (aj ms)/\wn g g' (aj ms)
 |[],bad,st,g,vs,R,h=>⟨g,[],R,⟨h,rfl⟩,⟨List.nodup_nil,fun _ h=>(List.not_mem_nil h).elim,fun _ h=>(List.not_mem_nil h).elim⟩,⟨rfl,fun _=>.inl rfl,fun _ h=>(List.not_mem_nil h).elim⟩⟩
 |c::r,bad,st,g,vs,R,h=>by
  obtain⟨v,vs',rfl,h1,h2⟩:=h
  have plain:∀c',c'.lasts=true->cC g w c' v []->kp bad (c::r) st=(c'::(kp bad r st).1,(kp bad r st).2)->
   ∃g' ms,dG C E g' (kp bad (c::r) st).2 tm w/\bS g' w (kp bad (c::r) st).1 (v::vs') ms/\dF g' w (aj ms)/\wn g g' (aj ms):=by
   intro c' hl hc he
   obtain⟨g',ms,R',F',Fr,L⟩:=uU r bad st g vs' R h2
   rw[he]
   exact⟨g',[]::ms,R',bS.cons_none (hc.steal L hl) F',Fr,L⟩
  have skip:cC g w .undef v []:=⟨rfl,fun _=>trivial⟩
  cases c with
  |view p f lo t l=>
   cases hb:bad.any (fun q=>decide (q=p))with
   |true=>exact plain .undef rfl skip (by simp[kp,hb])
   |false=>
    have hp:p∉bad:=fun hm=>by
     have:=List.any_eq_false.1 hb p hm
     simp at this
    have h1':cC g w (.view p f lo t l) v []:=by
     rcases h1 with⟨q,f',lo',t',l',e,hq⟩|⟨_,_,_,_,_,e⟩|h1
     ·injection e with e;exact absurd (e▸hq) hp
     ·cases e
     ·exact h1
    have hv:=(h1'.2 (.slot 0 0 0)).1
    have R1:=R.giveUpAll fun q=>decide (q=p)
    obtain⟨g',ms,R',F',Fr,L⟩:=uU r (p::bad) (st.giveUp p) (g.free fun q=>decide (q=p)) vs' R1 h2.free
    have he:kp bad (.view p f lo t l::r) st=(.own t l::(kp (p::bad) r (st.giveUp p)).1,(kp (p::bad) r (st.giveUp p)).2):=by
     simp[kp,hb]
    rw[he]
    have S0:wn g (g.free fun q=>decide (q=p)) []:=⟨rfl,fun n=>(g.free_turn _ n).imp id fun⟨q,o,l,c,_,e1,e2⟩=>⟨q,o,l,c,e1,e2⟩,fun _ h=>(List.not_mem_nil h).elim⟩
    have L':∀n,g'.lab n=g.lab n\/(∃p o l c,g.lab n= .own p o l c/\g'.lab n= .junk):=by
     intro n
     rcases S0.lab n with e|⟨q,o,l,c,e,e'⟩
     ·rw[<-e];exact L.lab n
     ·rcases L.lab n with e2|⟨_,_,_,_,e2,_⟩
      ·exact .inr ⟨q,o,l,c,e,e2.trans e'⟩
      ·rw[e']at e2;cases e2
    have himm:∀n,g.lab n= .imm->g'.lab n= .imm/\w.heap[n]?=w.heap[n]?:=by
     intro n hn
     rcases L' n with e|⟨_,_,_,_,e,_⟩
     ·exact⟨by rw[e,hn],rfl⟩
     ·rw[hn]at e;cases e
    obtain⟨A,cap,hy,hc,hh⟩:=hv
    by_cases h0:cap=0
    ·exact⟨g',[]::ms,R',bS.cons_none ⟨lo,A,cap,hy,hc, .inl h0⟩ F',Fr,⟨L.bx,L',fun n hn=>by
      obtain⟨q,o,l',c',e⟩:=L.own n hn
      rcases S0.lab n with e'|⟨_,_,_,_,_,e'⟩
      ·exact⟨q,o,l',c',by rw[<-e'];exact e⟩
      ·rw[e]at e';cases e'⟩⟩
    ·obtain⟨b,off,n,c,cs,e,hA,hl,_,hheap,hs,hx⟩:=hh.resolve_left h0
     have hjb:(g.free fun q=>decide (q=p)).lab b= .junk:=Gh.free_gone (by simp) hl
     have hjb':g'.lab b= .junk:=by
      rcases L.lab b with e|⟨_,_,_,_,e,_⟩
      ·rw[e];exact hjb
      ·rw[hjb]at e;cases e
     have hnb:b∉aj ms:=fun hm=>by
      obtain⟨_,_,_,_,e⟩:=L.own b hm
      rw[hjb]at e;cases e
     refine⟨g',[b]::ms,R',⟨v,vs',[b],ms,rfl,rfl,⟨lo,A,cap,hy,hc, .inr ⟨b,off,n,c,cs,e,hA,rfl,(fun h=>by cases h),hheap,hs,fun i x hi=>ER.mono himm (hx i x hi)⟩⟩,F'⟩, ?_,⟨L.bx,L', ?_⟩⟩
     ·refine⟨List.nodup_cons.2 ⟨hnb,Fr.nodup⟩, ?_, ?_⟩
      ·intro k hk
       rcases List.mem_cons.1 hk with rfl|hk
       ·exact hjb'
       ·exact Fr.junk k hk
      ·intro k hk
       rcases List.mem_cons.1 hk with rfl|hk
       ·exact R.size k (by rw[show g.lab k=_ from hl];simp)
       ·exact Fr.size k hk
     ·intro k hk
      rcases List.mem_cons.1 hk with rfl|hk
      ·exact⟨p,off,n,c,hl⟩
      ·obtain⟨q,o,l',c',e⟩:=L.own k hk
       rcases S0.lab k with e'|⟨_,_,_,_,_,e'⟩
       ·exact⟨q,o,l',c',by rw[<-e'];exact e⟩
       ·rw[e]at e';cases e'
  |va q i t x o=>exact plain .undef rfl skip rfl
  |np cs=>rcases h1 with⟨_,_,_,_,_,e,_⟩|⟨_,_,_,_,_,e⟩|h1<;>first|exact h1.np_nil.elim|cases e
  |undef=>exact plain .undef rfl skip rfl
  |v x=>exact plain (.v x) rfl (by rcases h1 with⟨_,_,_,_,_,e,_⟩|⟨_,_,_,_,_,e⟩|h1<;>first|exact h1|cases e) rfl
  |emp=>exact plain .emp rfl (by rcases h1 with⟨_,_,_,_,_,e,_⟩|⟨_,_,_,_,_,e⟩|h1<;>first|exact h1|cases e) rfl
  |sl t l=>exact plain (.sl t l) rfl (by rcases h1 with⟨_,_,_,_,_,e,_⟩|⟨_,_,_,_,_,e⟩|h1<;>first|exact h1|cases e) rfl
  |own t l=>exact plain (.own t l) rfl (by rcases h1 with⟨_,_,_,_,_,e,_⟩|⟨_,_,_,_,_,e⟩|h1<;>first|exact h1|cases e) rfl
  |ptr b o=>exact plain (.ptr b o) rfl (by rcases h1 with⟨_,_,_,_,_,e,_⟩|⟨_,_,_,_,_,e⟩|h1<;>first|exact h1|cases e) rfl
  |gp b o=>exact plain (.gp b o) rfl (by rcases h1 with⟨_,_,_,_,_,e,_⟩|⟨_,_,_,_,_,e⟩|h1<;>first|exact h1|cases e) rfl
  |lb n=>exact plain (.lb n) rfl (by rcases h1 with⟨_,_,_,_,_,e,_⟩|⟨_,_,_,_,_,e⟩|h1<;>first|exact h1|cases e) rfl
  |ea t x o=>exact plain (.ea t x o) rfl (by rcases h1 with⟨_,_,_,_,_,e,_⟩|⟨_,_,_,_,_,e⟩|h1<;>first|exact h1|cases e) rfl
  |fn f caps=>exact plain (.fn f caps) rfl (by rcases h1 with⟨_,_,_,_,_,e,_⟩|⟨_,_,_,_,_,e⟩|h1<;>first|exact h1|cases e) rfl
def CV.lastsB:CV->Bool
 | .view p _ _ _ _=>p.isArg
 | .va _ _ _ _ _=>false
 |_=>true
def Ic(g g':Gh)(S:List Nat):Prop:=wn g g' S/\∀n j o l c,g.lab n= .own (.arg j) o l c->g'.lab n= .own (.arg j) o l c
theorem cC.stealB{g g':Gh}{w:World}{S:List Nat}(L:Ic g g' S){c:CV}{v:Value}{m:List Nat}(hc:c.lastsB=true)(h:cC g w c v m):cC g' w c v m:=by
 have H:gM (fun q=>q.isArg=true) (fun _=>True) g g' w w:={
  imm:=by
   intro n hn
   rcases L.1.lab n with e|⟨_,_,_,_,e,_⟩
   ·exact⟨by rw[e,hn],rfl⟩
   ·rw[hn]at e;cases e
  own:=fun n q o l c hq e=>by
   cases q with
   |arg j=>exact⟨L.2 n j o l c e,rfl⟩
   |_=>cases hq
  bx:=fun b n _ h=>by rw[L.1.bx];exact h}
 refine cC.mono' H (fun _ _=>rfl) (fun p ho=> ?_) h
 cases c<;>simp_all [CV.uses,CV.lastsB,CV.isOwn]
theorem zH{C:gY}{E:iU}{tm:Array Value}{w:World}:∀(cs:List CV) (bad:List Place) (st:St) (g:Gh) (vs:List Value),
 dG C E g st tm w->Ry g w bad cs vs->(∀q,q∈bad->q.isArg=false)->
 ∃g' ms,dG C E g' (dI bad cs st).2 tm w/\bS g' w (dI bad cs st).1 vs ms/\dF g' w (aj ms)/\Ic g g' (aj ms)
 |[],bad,st,g,vs,R,h,_=>⟨g,[],R,⟨h,rfl⟩,⟨List.nodup_nil,fun _ h=>(List.not_mem_nil h).elim,fun _ h=>(List.not_mem_nil h).elim⟩,⟨rfl,fun _=>.inl rfl,fun _ h=>(List.not_mem_nil h).elim⟩,fun _ _ _ _ _ h=>h⟩
 |c::r,bad,st,g,vs,R,h,hba=>by
  obtain⟨v,vs',rfl,h1,h2⟩:=h
  have plain:∀c',c'.lastsB=true->cC g w c' v []->dI bad (c::r) st=(c'::(dI bad r st).1,(dI bad r st).2)->
   ∃g' ms,dG C E g' (dI bad (c::r) st).2 tm w/\bS g' w (dI bad (c::r) st).1 (v::vs') ms/\dF g' w (aj ms)/\Ic g g' (aj ms):=by
   intro c' hl hc he
   obtain⟨g',ms,R',F',Fr,L⟩:=zH r bad st g vs' R h2 hba
   rw[he]
   exact⟨g',[]::ms,R',bS.cons_none (hc.stealB L hl) F',Fr,L⟩
  have skip:cC g w .undef v []:=⟨rfl,fun _=>trivial⟩
  cases c with
  |view p f lo t l=>
   cases hpa:p.isArg with
   |true=>
    refine plain (.view p f lo t l) ?_ ?_ (by simp[dI,hpa])
    ·cases p<;>first|rfl|cases hpa
    ·rcases h1 with⟨q,f',lo',t',l',e,hq⟩|⟨_,_,_,_,_,e⟩|h1
     ·injection e with e
      have:=hba q hq
      rw[<-e,hpa]at this
      cases this
     ·cases e
     ·exact h1
   |false=>
   cases hb:bad.any (fun q=>decide (q=p))with
   |true=>exact plain .undef rfl skip (by simp[dI,hb,hpa])
   |false=>
    have hp:p∉bad:=fun hm=>by
     have:=List.any_eq_false.1 hb p hm
     simp at this
    have h1':cC g w (.view p f lo t l) v []:=by
     rcases h1 with⟨q,f',lo',t',l',e,hq⟩|⟨_,_,_,_,_,e⟩|h1
     ·injection e with e;exact absurd (e▸hq) hp
     ·cases e
     ·exact h1
    have hv:=(h1'.2 (.slot 0 0 0)).1
    have R1:=R.giveUpAll fun q=>decide (q=p)
    obtain⟨g',ms,R',F',Fr,L⟩:=zH r (p::bad) (st.giveUp p) (g.free fun q=>decide (q=p)) vs' R1 h2.free (fun q hq=>by rcases List.mem_cons.1 hq with rfl|hq;exact hpa;exact hba q hq)
    have he:dI bad (.view p f lo t l::r) st=(.own t l::(dI (p::bad) r (st.giveUp p)).1,(dI (p::bad) r (st.giveUp p)).2):=by
     simp[dI,hb,hpa]
    rw[he]
    have N0:∀n j o l c,g.lab n= .own (.arg j) o l c->g'.lab n= .own (.arg j) o l c:=by
     intro n j o l c e
     refine L.2 n j o l c (Gh.free_own ?_ e)
     cases p<;>first|rfl|cases hpa
    obtain⟨L,_⟩:=L
    have S0:wn g (g.free fun q=>decide (q=p)) []:=⟨rfl,fun n=>(g.free_turn _ n).imp id fun⟨q,o,l,c,_,e1,e2⟩=>⟨q,o,l,c,e1,e2⟩,fun _ h=>(List.not_mem_nil h).elim⟩
    have L':∀n,g'.lab n=g.lab n\/(∃p o l c,g.lab n= .own p o l c/\g'.lab n= .junk):=by
     intro n
     rcases S0.lab n with e|⟨q,o,l,c,e,e'⟩
     ·rw[<-e];exact L.lab n
     ·rcases L.lab n with e2|⟨_,_,_,_,e2,_⟩
      ·exact .inr ⟨q,o,l,c,e,e2.trans e'⟩
      ·rw[e']at e2;cases e2
    have himm:∀n,g.lab n= .imm->g'.lab n= .imm/\w.heap[n]?=w.heap[n]?:=by
     intro n hn
     rcases L' n with e|⟨_,_,_,_,e,_⟩
     ·exact⟨by rw[e,hn],rfl⟩
     ·rw[hn]at e;cases e
    obtain⟨A,cap,hy,hc,hh⟩:=hv
    by_cases h0:cap=0
    ·exact⟨g',[]::ms,R',bS.cons_none ⟨lo,A,cap,hy,hc, .inl h0⟩ F',Fr,⟨L.bx,L',fun n hn=>by
      obtain⟨q,o,l',c',e⟩:=L.own n hn
      rcases S0.lab n with e'|⟨_,_,_,_,_,e'⟩
      ·exact⟨q,o,l',c',by rw[<-e'];exact e⟩
      ·rw[e]at e';cases e'⟩,N0⟩
    ·obtain⟨b,off,n,c,cs,e,hA,hl,_,hheap,hs,hx⟩:=hh.resolve_left h0
     have hjb:(g.free fun q=>decide (q=p)).lab b= .junk:=Gh.free_gone (by simp) hl
     have hjb':g'.lab b= .junk:=by
      rcases L.lab b with e|⟨_,_,_,_,e,_⟩
      ·rw[e];exact hjb
      ·rw[hjb]at e;cases e
     have hnb:b∉aj ms:=fun hm=>by
      obtain⟨_,_,_,_,e⟩:=L.own b hm
      rw[hjb]at e;cases e
     refine⟨g',[b]::ms,R',⟨v,vs',[b],ms,rfl,rfl,⟨lo,A,cap,hy,hc, .inr ⟨b,off,n,c,cs,e,hA,rfl,(fun h=>by cases h),hheap,hs,fun i x hi=>ER.mono himm (hx i x hi)⟩⟩,F'⟩, ?_,⟨L.bx,L', ?_⟩,N0⟩
     ·refine⟨List.nodup_cons.2 ⟨hnb,Fr.nodup⟩, ?_, ?_⟩
      ·intro k hk
       rcases List.mem_cons.1 hk with rfl|hk
       ·exact hjb'
       ·exact Fr.junk k hk
      ·intro k hk
       rcases List.mem_cons.1 hk with rfl|hk
       ·exact R.size k (by rw[show g.lab k=_ from hl];simp)
       ·exact Fr.size k hk
     ·intro k hk
      rcases List.mem_cons.1 hk with rfl|hk
      ·exact⟨p,off,n,c,hl⟩
      ·obtain⟨q,o,l',c',e⟩:=L.own k hk
       rcases S0.lab k with e'|⟨_,_,_,_,_,e'⟩
       ·exact⟨q,o,l',c',by rw[<-e'];exact e⟩
       ·rw[e]at e';cases e'
  |va q i t x o=>exact plain .undef rfl skip rfl
  |np cs=>rcases h1 with⟨_,_,_,_,_,e,_⟩|⟨_,_,_,_,_,e⟩|h1<;>first|exact h1.np_nil.elim|cases e
  |undef=>exact plain .undef rfl skip rfl
  |v x=>exact plain (.v x) rfl (by rcases h1 with⟨_,_,_,_,_,e,_⟩|⟨_,_,_,_,_,e⟩|h1<;>first|exact h1|cases e) rfl
  |emp=>exact plain .emp rfl (by rcases h1 with⟨_,_,_,_,_,e,_⟩|⟨_,_,_,_,_,e⟩|h1<;>first|exact h1|cases e) rfl
  |sl t l=>exact plain (.sl t l) rfl (by rcases h1 with⟨_,_,_,_,_,e,_⟩|⟨_,_,_,_,_,e⟩|h1<;>first|exact h1|cases e) rfl
  |own t l=>exact plain (.own t l) rfl (by rcases h1 with⟨_,_,_,_,_,e,_⟩|⟨_,_,_,_,_,e⟩|h1<;>first|exact h1|cases e) rfl
  |ptr b o=>exact plain (.ptr b o) rfl (by rcases h1 with⟨_,_,_,_,_,e,_⟩|⟨_,_,_,_,_,e⟩|h1<;>first|exact h1|cases e) rfl
  |gp b o=>exact plain (.gp b o) rfl (by rcases h1 with⟨_,_,_,_,_,e,_⟩|⟨_,_,_,_,_,e⟩|h1<;>first|exact h1|cases e) rfl
  |lb n=>exact plain (.lb n) rfl (by rcases h1 with⟨_,_,_,_,_,e,_⟩|⟨_,_,_,_,_,e⟩|h1<;>first|exact h1|cases e) rfl
  |ea t x o=>exact plain (.ea t x o) rfl (by rcases h1 with⟨_,_,_,_,_,e,_⟩|⟨_,_,_,_,_,e⟩|h1<;>first|exact h1|cases e) rfl
  |fn f caps=>exact plain (.fn f caps) rfl (by rcases h1 with⟨_,_,_,_,_,e,_⟩|⟨_,_,_,_,_,e⟩|h1<;>first|exact h1|cases e) rfl
end Go.Vai
