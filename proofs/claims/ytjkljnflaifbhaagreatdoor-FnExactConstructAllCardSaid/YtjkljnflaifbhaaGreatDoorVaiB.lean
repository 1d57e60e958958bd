/- No conditions. -/
import Derived.Test.YtjkljnflaifbhaaGreatDoorVaiH
namespace Go.Vai
open Go
section
variable {C:gY} {E:iU} {g:Gh} {st:St} {tm:Array Value} {w:World} {Q:Type}
theorem aby{p:Place}{c:CV}{v:Value}(hc:c.isFlat=true)(h:cu g w p c v):
 ∃m,F0 g w c v m/\m.Nodup/\∀b,b∈m->∃o l k,g.lab b= .own p o l k:=by
 cases c with
 |own t l=>
  obtain⟨A,cap,rfl,hc,hh⟩:=h
  by_cases h0:cap=0
  ·exact⟨[],⟨0,A,cap,rfl,hc, .inl h0⟩,by simp,by simp⟩
  ·obtain⟨b,off,n,c,cs,e,hA,hl,hf,hheap,hs,hx⟩:=hh.resolve_left h0
   exact⟨[b],⟨0,A,cap,rfl,hc, .inr ⟨b,off,n,c,cs,e,hA,rfl,(fun h=>by cases h),hheap,hs,hx⟩⟩,by simp,fun b' hb=>by
    simp only[List.mem_singleton]at hb
    subst hb
    exact⟨_,_,_,hl⟩⟩
 |undef=>exact⟨[],⟨rfl,fun _=>trivial⟩,by simp,by simp⟩
 |v x=>exact⟨[],⟨rfl,fun _=>h⟩,by simp,by simp⟩
 |emp=>exact⟨[],⟨rfl,fun _=>h⟩,by simp,by simp⟩
 |sl t l=>exact⟨[],⟨rfl,fun _=>h⟩,by simp,by simp⟩
 |fn f caps=>exact⟨[],⟨rfl,fun _=>h⟩,by simp,by simp⟩
 |_=>cases hc
theorem Yy{b:Nat}:∀{cs:List CV} {i:Nat} {vs:List Value},cs.all CV.isFlat=true->cA g w (.cell b) i cs vs->
 ∃ms,Tu g w cs vs ms/\(aj ms).Nodup/\∀x,x∈aj ms->∃j o l k,i<=j/\g.lab x= .own (.cell b j) o l k
 |[],i,vs,_,h=>⟨[],⟨h,rfl⟩,by simp[aj],by simp[aj]⟩
 |c::r,i,vs,hc,h=>by
  obtain⟨v,vs',rfl,h1,h2⟩:=h
  simp only[List.all_cons,Bool.and_eq_true]at hc
  obtain⟨m,k1,k2,k3⟩:=aby hc.1 h1
  obtain⟨ms,k4,k5,k6⟩:=Yy hc.2 h2
  refine⟨m::ms,⟨v,vs',m,ms,rfl,rfl,k1,k4⟩, ?_, ?_⟩
  ·simp only[aj]
   refine List.nodup_append.2 ⟨k2,k5, ?_⟩
   rintro a ha _ hb rfl
   obtain⟨o,l,k,e⟩:=k3 a ha
   obtain⟨j,o',l',k',hj,e'⟩:=k6 a hb
   rw[e]at e'
   injection e' with e'
   injection e' with _ e'
   omega
  ·intro x hx
   simp only[aj,List.mem_append]at hx
   rcases hx with hx|hx
   ·obtain⟨o,l,k,e⟩:=k3 x hx
    exact⟨i,o,l,k,Nat.le_refl _,e⟩
   ·obtain⟨j,o,l,k,hj,e⟩:=k6 x hx
    exact⟨j,o,l,k,by omega,e⟩
def TP(g:Gh)(w:World):List Nat->List (List CV)->ZA->Prop
 |[],bs,bns=>bs=[]/\bns=[]
 |b::r,bs,bns=>∃cs bs' n mb bns' arr e,bs=cs::bs'/\bns=(n,mb)::bns'/\g.bx b=some n/\g.lab n= .box b/\w.heap[n]?=some (.cells arr e (0,0))/\cs.all CV.isFlat=true/\
   Tu g w cs arr.toList mb/\TP g w r bs' bns'
def afS(g:Gh)(bl:List Nat)(x:Nat):Prop:=(∃b,b∈bl/\g.lab x= .box b)\/(∃b j o l k,b∈bl/\g.lab x= .own (.cell b j) o l k)
theorem acd(R:dG C E g st tm w):∀{bl:List Nat} {bs:List (List CV)},B0 st bl=some bs->mV bl=true->
 ∃bns,TP g w bl bs bns/\(Od bns).Nodup/\(∀x,x∈Od bns->afS g bl x)/\∀y,y∈bns->∀x,x∈aj y.2->∃b j o l k,b∈bl/\g.lab x= .own (.cell b j) o l k
 |[],bs,h,_=>by
  cases h
  exact⟨[],⟨rfl,rfl⟩,by simp[Od],by simp[Od],by simp⟩
 |b::r,bs,h,hd=>by
  simp only[B0]at h
  simp only[mV,Bool.and_eq_true,Bool.not_eq_true',List.contains_eq_mem,decide_eq_false_iff_not]at hd
  split at h
  ·rename_i cs hb
   split at h
   ·rename_i hf
    rw[Option.map_eq_some_iff]at h
    obtain⟨bs',h,rfl⟩:=h
    obtain⟨bns,k1,k2,k3,k4⟩:=acd R h hd.2
    obtain⟨n,arr,e,fz,m1,m2,m3,m4,m5⟩:=R.boxes b false cs hb
    obtain⟨mb,n1,n2,n3⟩:=Yy hf m5
    have hfz:=m4 rfl
    subst hfz
    have m2:g.lab n= .box b:=m2
    refine⟨(n,mb)::bns,⟨cs,bs',n,mb,bns,arr,e,rfl,rfl,m1,m2,m3,hf,n1,k1⟩, ?_, ?_, ?_⟩
    ·simp only[Od,List.nodup_cons,List.mem_append,not_or]
     refine⟨⟨fun hm=> ?_,fun hm=> ?_⟩,List.nodup_append.2 ⟨n2,k2, ?_⟩⟩
     ·obtain⟨j,o,l,k,_,e⟩:=n3 n hm
      rw[m2]at e;cases e
     ·rcases k3 n hm with⟨b',hb',e⟩|⟨b',j,o,l,k,hb',e⟩
      ·rw[m2]at e;injection e with e;subst e;exact hd.1 hb'
      ·rw[m2]at e;cases e
     ·rintro a ha _ hb' rfl
      obtain⟨j,o,l,k,_,e⟩:=n3 a ha
      rcases k3 a hb' with⟨b',hb'',e'⟩|⟨b',j',o',l',k',hb'',e'⟩
      ·rw[e]at e';cases e'
      ·rw[e]at e';injection e' with e';injection e' with e';subst e';exact hd.1 hb''
    ·intro x hx
     simp only[Od,List.mem_cons,List.mem_append]at hx
     rcases hx with rfl|hx|hx
     ·exact .inl ⟨b,by simp,m2⟩
     ·obtain⟨j,o,l,k,_,e⟩:=n3 x hx
      exact .inr ⟨b,j,o,l,k,by simp,e⟩
     ·rcases k3 x hx with⟨b',hb',e⟩|⟨b',j,o,l,k,hb',e⟩
      ·exact .inl ⟨b',by simp[hb'],e⟩
      ·exact .inr ⟨b',j,o,l,k,by simp[hb'],e⟩
    ·intro y hy x hx
     simp only[List.mem_cons]at hy
     rcases hy with rfl|hy
     ·obtain⟨j,o,l,k,_,e⟩:=n3 x hx
      exact⟨b,j,o,l,k,by simp,e⟩
     ·obtain⟨b',j,o,l,k,hb',e⟩:=k4 y hy x hx
      exact⟨b',j,o,l,k,by simp[hb'],e⟩
   ·cases h
  ·cases h
theorem WU:∀(caps:List (Nat×Nat)) (n i:Nat),(R6 n caps)[i]?=(caps[i]?).map fun c=>(n+i,c.2)
 |[],n,i=>by simp[R6]
 |c::r,n,0=>by simp[R6]
 |c::r,n,i+1=>by
  simp only[R6,List.getElem?_cons_succ]
  rw[WU r (n+1) i,show n+1+i=n+(i+1) by omega]
theorem Ps:∀(caps:List (Nat×Nat)) (n:Nat),(R6 n caps).length=caps.length
 |[],_=>rfl
 |_::r,n=>by simp[R6,Ps r]
theorem Pl{g':Gh}(hI:∀n,g.lab n= .imm->g'.lab n= .imm):∀(cs:List CV) (n:Nat) (cs':List CV) (vs:List Value),RY n cs=some cs'->bg g w cs vs->
 (∀(i b m:Nat),(zu cs)[i]?=some b->g.bx b=some m->g'.bx (n+i)=some m)->bg g' w cs' vs
 |[],n,cs',vs,h,hn,_=>by cases h;exact hn
 |c::r,n,cs',vs,h,hn,hb=>by
  obtain⟨v,vs',rfl,h1,h2⟩:=hn
  have I:∀n,g.imm n->g'.imm n/\w.heap[n]?=w.heap[n]?:=fun n hn=>⟨hI n hn,rfl⟩
  have plain:zu (c::r)=zu r->(match c.isImm with
   |true=>(RY n r).map (c::·)
   |false=>none)=some cs'->(c.isImm=true->cC g' w c v [])->bg g' w cs' (v::vs'):=by
   intro hp h hc
   split at h
   ·rename_i hi
    rw[Option.map_eq_some_iff]at h
    obtain⟨l,hl,rfl⟩:=h
    exact⟨v,vs',rfl,hc hi,Pl hI r n l vs' hl h2 (by rw[<-hp];exact hb)⟩
   ·cases h
  cases c with
  |ptr b o=>
   simp only[RY,Option.map_eq_some_iff]at h
   obtain⟨l,hl,rfl⟩:=h
   obtain⟨m,rfl,hm⟩:=h1.2 (.slot 0 0 0)
   refine⟨_,vs',rfl,⟨rfl,fun _=>⟨m,rfl,by simpa using hb 0 b m rfl hm⟩⟩,Pl hI r (n+1) l vs' hl h2 (fun i b m hi hm=> ?_)⟩
   have:=hb (i+1) b m (by simpa[zu]using hi) hm
   rwa [show n+(i+1)=n+1+i by omega]at this
  |fn f caps=>
   simp only[RY,Option.map_eq_some_iff]at h
   obtain⟨l,hl,rfl⟩:=h
   obtain⟨cvs,rfl,hs,hcv⟩:=h1.2 (.slot 0 0 0)
   refine⟨_,vs',rfl,⟨rfl,fun _=>⟨cvs,rfl,by rw[hs,Ps],fun i c hi=> ?_⟩⟩,Pl hI r (n+caps.length) l vs' hl h2 (fun i b m hi hm=> ?_)⟩
   ·rw[WU,Option.map_eq_some_iff]at hi
    obtain⟨c0,hc0,rfl⟩:=hi
    obtain⟨m,hm,hv⟩:=hcv i c0 hc0
    exact⟨m,hb i c0.1 m (by simp only[zu];rw[List.getElem?_append_left (by simpa using (List.getElem?_eq_some_iff.1 hc0).1),List.getElem?_map,hc0];rfl) hm,hv⟩
   ·have:=hb (caps.length+i) b m (by simp only[zu];rw[List.getElem?_append_right (by simp)];simpa using hi) hm
    rwa [show n+(caps.length+i)=n+caps.length+i by omega]at this
  |undef=>exact plain rfl h (fun _=>⟨rfl,fun _=>trivial⟩)
  |v x=>exact plain rfl h (fun _=>h1)
  |emp=>exact plain rfl h (fun _=>h1)
  |sl t l=>exact plain rfl h (fun _=>⟨rfl,fun p=>ER.mono I (h1.2 p)⟩)
  |gp b o=>exact plain rfl h (fun _=>h1)
  |_=>exact plain rfl h (fun e=>by cases e)
theorem U0{g':Gh}(hI:∀n,g.lab n= .imm->g'.lab n= .imm):∀(as:List AV) (n:Nat) (vals:List Val) (vs:List Value),IG n as=some vals->vG g w as vs->
 (∀(i b m:Nat),(fW as)[i]?=some b->g.bx b=some m->g'.bx (n+i)=some m)->Yb g' w vals vs
 |[],n,vals,vs,h,hn,_=>by cases h;exact hn
 | .tup _::_,_,_,_,h,_,_=>by cases h
 | .one x::r,n,vals,vs,h,hn,hb=>by
   obtain⟨v,vs',rfl,h1,h2⟩:=hn
   simp only[IG,Option.bind_eq_some_iff,Option.map_eq_some_iff]at h
   obtain⟨cs,hcs,l,hl,rfl⟩:=h
   have one:∀vs,bg g w x.cs vs->bg g' w cs vs:=fun vs hv=>Pl hI x.cs n cs vs hcs hv (fun i b m hi hm=>hb i b m (by
    simp only[fW];rw[List.getElem?_append_left (List.getElem?_eq_some_iff.1 hi).1];exact hi) hm)
   refine⟨v,vs',rfl, ?_,U0 hI r _ l vs' hl h2 (fun i b m hi hm=> ?_)⟩
   ·obtain⟨xa,xcs⟩:=x
    cases xa with
    |true=>obtain⟨vs,rfl,hv⟩:=h1;exact⟨vs,rfl,one _ hv⟩
    |false=>exact one [v] h1
   ·have:=hb ((zu x.cs).length+i) b m (by simp only[fW];rw[List.getElem?_append_right (by omega),Nat.add_sub_cancel_left];exact hi) hm
    rwa [show n+((zu x.cs).length+i)=n+(zu x.cs).length+i by omega]at this
def ghB(g:Gh)(w:World)(S ns:List Nat):Gh:=
 ⟨fun n=>match g.lab n with
   | .imm=>.imm
   |_=>if n∈S then .junk else if n<w.heap.size then .far else .junk,fun k=>ns[k]?⟩
def Xr(g g':Gh)(w:World):Gh:=
 ⟨fun n=>if n<w.heap.size then(match g.lab n,g'.lab n with
   | .junk, .imm=>.imm
   |x,_=>x)else(match g'.lab n with
   | .imm=>.imm
   |_=>.junk),g.bx⟩
theorem Xs{g g':Gh}{w:World}{n:Nat}(hn:n<w.heap.size)(h:g.lab n≠ .junk):(Xr g g' w).lab n=g.lab n:=by
 simp only[Xr,if_pos hn]
 cases hl:g.lab n<;>first|rfl|exact absurd hl h
theorem JY{g g':Gh}{w:World}{n:Nat}{x:Lab}(h:(Xr g g' w).lab n=x)(h1:x≠ .imm)(h2:x≠ .junk):n<w.heap.size/\g.lab n=x:=by
 simp only[Xr]at h
 split at h
 ·rename_i hn
  refine⟨hn, ?_⟩
  split at h
  ·exact absurd h.symm h1
  ·exact h
 ·split at h
  ·exact absurd h.symm h1
  ·exact absurd h.symm h2
theorem dG.afterB(R:dG C E g st tm w){S bl:List Nat}{g':Gh}{w':World}(hS:∀n,n∈S->g.lab n= .junk\/∃b,b∈bl/\g.lab n= .box b)
 (hU:∀b ro cs n,b∈bl->st.boxes[b]?=some (some (ro,cs))->g.bx b=some n->ro=false/\(∃k,cs=List.replicate k .undef)/\∃arr e,w'.heap[n]?=some (.cells arr e (0,0))/\arr.toList.length=cs.length)
 (hh:∀n,n<w.heap.size->n∉S->w'.heap[n]?=w.heap[n]?) (hs:w.heap.size<=w'.heap.size) (ho:w'.os=w.os) (ht:w'.tape=w.tape) (hu:w'.output=w.output)
 (hi:∀n,g'.lab n= .imm->n<w'.heap.size):dG C E (Xr g g' w) st tm w':=by
 have keep:∀n,g.lab n≠ .junk->(Xr g g' w).lab n=g.lab n:=fun n hn=>Xs (R.size n hn) hn
 have same:∀n,g.lab n≠ .junk->(∀b,b∈bl->g.lab n≠ .box b)->w'.heap[n]?=w.heap[n]?:=fun n h1 h2=>hh n (R.size n h1) (fun hm=>by
  rcases hS n hm with e|⟨b,hb,e⟩
  ·exact h1 e
  ·exact h2 b hb e)
 have H:gM (fun _=>True) (fun _=>True) g (Xr g g' w) w w':={
  imm:=fun n hn=>⟨by rw[keep n (by rw[hn];simp)];exact hn,same n (by rw[hn];simp) (fun b _=>by rw[hn];simp)⟩
  own:=fun n q o l c _ hn=>⟨by rw[keep n (by rw[hn];simp)];exact hn,same n (by rw[hn];simp) (fun b _=>by rw[hn];simp)⟩
  bx:=fun _ _ _ h=>h}
 exact{
  len:=R.len
  lenN:=R.lenN
  lenB:=R.lenB
  io:=R.io.mono H
  slots:=fun i a hi=>by obtain⟨v,hv,ha⟩:=R.slots i a hi;exact⟨v,hv,ha.mono H⟩
  boxes:=by
   intro b ro cs hb
   obtain⟨n,vs,e,fz,k1,k2,k3,k4,k5⟩:=R.boxes b ro cs hb
   have hl:=(keep n (by rw[k2];cases ro<;>simp)).trans k2
   by_cases hbl:b∈bl
   ·obtain⟨rfl,⟨k,rfl⟩,arr,e',h1,h2⟩:=hU b ro cs n hbl hb k1
    refine⟨n,arr,e',(0,0),k1,hl,h1,fun _=>rfl, ?_⟩
    rw[List.length_replicate]at h2
    rw[<-h2];exact cA.undefs _ _
   ·refine⟨n,vs,e,fz,k1,hl, ?_,k4,k5.mono H⟩
    rw[same n (by rw[k2];cases ro<;>simp) (fun b' hb' e'=> ?_)]
    ·exact k3
    ·rw[k2]at e'
     cases ro with
     |true=>cases e'
     |false=>injection e' with e';subst e';exact hbl hb'
  bx:=R.bx
  own:=fun n p o l c hl=>R.own n p o l c (JY hl (by simp) (by simp)).2
  uniq:=fun a b p o l c o' l' c' h1 h2=>R.uniq a b p o l c o' l' c' (JY h1 (by simp) (by simp)).2 (JY h2 (by simp) (by simp)).2
  uniqB:=fun n b hl=>R.uniqB n b (JY hl (by simp) (by simp)).2
  size:=by
   intro n hl
   simp only[Xr]at hl
   split at hl
   ·omega
   ·split at hl
    ·rename_i h;exact hi n h
    ·exact absurd rfl hl
  glob:=by
   intro k cs' hc
   obtain⟨vs',e',fz,k1,k2,k3⟩:=R.glob k cs' hc
   exact⟨vs',e',fz,by rw[(H.imm k k2).2];exact k1,(H.imm k k2).1,k3⟩
  kept:={
   os:=ho.trans R.kept.os
   tape:=ht.trans R.kept.tape
   output:=hu.trans R.kept.output
   size:=Nat.le_trans R.kept.size hs
   imm:=fun m hm hl=>by
    obtain⟨k1,k2⟩:=R.kept.imm m hm hl
    exact⟨(H.imm m k1).1,by rw[(H.imm m k1).2];exact k2⟩
   far:=fun m hm hl=>by
    obtain⟨k1,k2⟩:=R.kept.far m hm hl
    exact⟨by rw[keep m (by rw[k1];simp)];exact k1,by rw[same m (by rw[k1];simp) (fun b _=>by rw[k1];simp)];exact k2⟩
   old:=R.kept.old
   lent:=R.kept.lent}}
theorem Q9:∀(bl ns:List Nat) (css:List (List CV)) (rms:List (List Nat)) (rest:List Nat) (g:Gh) (st:St),dG C E g st tm w->mV bl=true->ns.length=bl.length->
 (∀(k b n:Nat),bl[k]?=some b->ns[k]?=some n->g.bx b=some n/\∃cs0,st.boxes[b]?=some (some (false,cs0)))->(∀b,b∈bl->∀m j o l c,g.lab m≠ .own (.cell b j) o l c)->
 E2 g w ns css rms->dF g w (aj rms++rest)->∃g',dG C E g' (st.refill bl css) tm w/\dF g' w rest/\gM (fun _=>True) (fun _=>True) g g' w w
 |[],[],css,rms,rest,g,st,R,_,_,_,_,hr,F=>by
  obtain⟨rfl,rfl⟩:=hr
  exact⟨g,R,by simpa[aj]using F,⟨fun _ h=>⟨h,rfl⟩,fun _ _ _ _ _ _ h=>⟨h,rfl⟩,fun _ _ _ h=>h⟩⟩
 |[],_::_,_,_,_,_,_,_,_,hl,_,_,_,_=>by cases hl
 |_::_,[],_,_,_,_,_,_,_,hl,_,_,_,_=>by cases hl
 |b::bl,n::ns,css,rms,rest,g,st,R,hd,hl,hb,hno,hr,F=>by
  obtain⟨cs,css',arr,e,m,ms',rfl,rfl,hh,hf,hcs,hr⟩:=hr
  simp only[mV,Bool.and_eq_true,Bool.not_eq_true',List.contains_eq_mem,decide_eq_false_iff_not]at hd
  obtain⟨hbx,cs0,hb0⟩:=hb 0 b n rfl rfl
  rw[cJ,List.append_assoc]at F
  obtain⟨g1,L,R1⟩:=R.fillBox (cs:=cs) hb0 hbx (hno b (by simp)) hh (hcs.fs hf) F.left
  have F1:dF g1 w (aj ms'++rest):=F.mono L
  have H1:=L.steps F.left
  have hmono:∀(ns:List Nat) (css:List (List CV)) (ms:List (List Nat)),E2 g w ns css ms->E2 g1 w ns css ms:=by
   intro ns
   induction ns with
   |nil=>exact fun _ _ h=>h
   |cons n r ih=>
    rintro css ms ⟨cs,css',arr,e,m,ms',rfl,rfl,h1,h2,h3,h4⟩
    exact⟨cs,css',arr,e,m,ms',rfl,rfl,h1,h2,h3.imp (fun c v m hf _ h=>h.mono' H1.imm (fun b hb=>rfl) hf) h2,ih _ _ h4⟩
  obtain⟨g2,R2,F2,H2⟩:=Q9 bl ns css' ms' rest g1 _ R1 hd.2 (by simpa using hl) (fun k b' n' h1 h2=>by
   obtain⟨h3,cs1,h4⟩:=hb (k+1) b' n' (by simpa using h1) (by simpa using h2)
   refine⟨by rw[L.bx];exact h3,cs1, ?_⟩
   have:b'≠b:=fun e=>by subst e;exact hd.1 (List.mem_of_getElem? h1)
   simp only[List.getElem?_set_ne (fun e=>this e.symm)];exact h4) (fun b' hb' m' j o l c e'=>by
   rcases L.lab m' with e2|⟨_,q,_,_,_,⟨j',t,x,hq,_⟩,e2⟩
   ·exact hno b' (by simp[hb']) m' j o l c (by rw[<-e2];exact e')
   ·rw[e']at e2
    injection e2 with e2
    rw[hq]at e2
    injection e2 with e2
    subst e2
    exact hd.1 hb') (hmono _ _ _ hr) F1
  exact⟨g2,R2,F2,⟨fun n h=>let⟨a,_⟩:=H1.imm n h;⟨(H2.imm n a).1,rfl⟩,fun n q o l c _ h=>let⟨a,_⟩:=H1.own n q o l c trivial h;⟨(H2.own n q o l c trivial a).1,rfl⟩,fun b n _ h=>H2.bx b n trivial (H1.bx b n trivial h)⟩⟩
theorem St.back_ok(R:dG C E g st tm w){o:Oper}{a:AV}{v:Value}{ms:List (List Nat)}{k:St->Option Q}{r:Q}(h:LB g w a v ms)(F:dF g w (aj ms))(hk:st.back o a k=some r):
 ∃g' st',k st'=some r/\dG C E g' st' (match o.dst with|some d=>tm.setIfInBounds d v|none=>tm) w:=by
 unfold St.back at hk
 cases hd:o.dst with
 |none=>rw[hd]at hk;exact⟨g,st,hk,R⟩
 |some d=>rw[hd]at hk;exact R.putN h F hk
theorem TP.mono{g g':Gh}(hI:∀n,g.lab n= .imm->g'.lab n= .imm):∀{bl:List Nat} {bs:List (List CV)} {bns:ZA},TP g w bl bs bns->
 bns.length=bs.length/\bs.length=bl.length/\(∀(k:Nat) cs n mb,bs[k]?=some cs->bns[k]?=some (n,mb)->∃arr e b,bl[k]?=some b/\g.bx b=some n/\w.heap[n]?=some (.cells arr e (0,0))/\cs.all CV.isFlat=true/\Tu g' w cs arr.toList mb/\arr.toList.length=cs.length)/\
  (∀(k b:Nat),bl[k]?=some b->∃n mb cs,bns[k]?=some (n,mb)/\bs[k]?=some cs/\g.bx b=some n/\g.lab n= .box b)
 |[],bs,bns,h=>by
  obtain⟨rfl,rfl⟩:=h
  exact⟨rfl,rfl,fun k cs n mb h=>by simp at h,fun k b h=>by simp at h⟩
 |b::r,bs,bns,h=>by
  obtain⟨cs,bs',n,mb,bns',arr,e,rfl,rfl,h1,h2,h3,h4,h5,h6⟩:=h
  obtain⟨k1,k2,k3,k4⟩:=TP.mono hI h6
  refine⟨by simp[k1],by simp[k2],fun k cs' n' mb' hk hk'=> ?_,fun k b' hk=> ?_⟩
  ·cases k with
   |zero=>
    simp only[List.getElem?_cons_zero,Option.some.injEq,Prod.mk.injEq]at hk hk'
    obtain⟨rfl,rfl⟩:=hk'
    subst hk
    exact⟨arr,e,b,rfl,h1,h3,h4,h5.imp (fun c v m hf _ h=>h.mono' (fun n hn=>⟨hI n hn,rfl⟩) (fun b hb=>rfl) hf) h4,((h5.fs h4).length).symm⟩
   |succ k=>
    obtain⟨arr',e',b',m1,m2⟩:=k3 k cs' n' mb' (by simpa using hk) (by simpa using hk')
    exact⟨arr',e',b',by simpa using m1,m2⟩
  ·cases k with
   |zero=>
    simp only[List.getElem?_cons_zero,Option.some.injEq]at hk
    subst hk
    exact⟨n,mb,cs,rfl,rfl,h1,h2⟩
   |succ k=>
    obtain⟨n',mb',cs',m1,m2,m3⟩:=k4 k b' (by simpa using hk)
    exact⟨n',mb',cs',by simpa using m1,by simpa using m2,m3⟩
theorem E2.get{g:Gh}:∀{ns:List Nat} {css:List (List CV)} {ms:List (List Nat)},E2 g w ns css ms->css.length=ns.length/\∀(k n:Nat),ns[k]?=some n->∃cs arr e,css[k]?=some cs/\w.heap[n]?=some (.cells arr e (0,0))/\arr.toList.length=cs.length
 |[],css,ms,h=>by obtain⟨rfl,rfl⟩:=h;exact⟨rfl,fun k n h=>by simp at h⟩
 |n::r,css,ms,h=>by
  obtain⟨cs,css',arr,e,m,ms',rfl,rfl,h1,h2,h3,h4⟩:=h
  obtain⟨k1,k2⟩:=E2.get h4
  refine⟨by simp[k1],fun k n' hk=> ?_⟩
  cases k with
  |zero=>
   simp only[List.getElem?_cons_zero,Option.some.injEq]at hk
   subst hk
   exact⟨cs,arr,e,rfl,h1,((h3.fs h2).length).symm⟩
  |succ k=>
   obtain⟨cs',arr',e',m1,m2⟩:=k2 k n' (by simpa using hk)
   exact⟨cs',arr',e',by simpa using m1,m2⟩
theorem E2.mono{g g':Gh}(hI:∀n,g.lab n= .imm->g'.lab n= .imm):∀{ns:List Nat} {css:List (List CV)} {ms:List (List Nat)},E2 g w ns css ms->E2 g' w ns css ms
 |[],_,_,h=>h
 |n::r,_,_,h=>by
  obtain⟨cs,css',arr,e,m,ms',rfl,rfl,h1,h2,h3,h4⟩:=h
  exact⟨cs,css',arr,e,m,ms',rfl,rfl,h1,h2,h3.imp (fun c v m hf _ h=>h.mono' (fun n hn=>⟨hI n hn,rfl⟩) (fun b hb=>rfl) hf) h2,h4.mono hI⟩
theorem FK:∀{bns:ZA} {n:Nat},n∈Od bns↔∃x,x∈bns/\(n=x.1\/n∈aj x.2)
 |[],n=>by simp[Od]
 |x::r,n=>by
  simp only[Od,List.mem_cons,List.mem_append]
  rw[FK (bns:=r)]
  constructor
  ·rintro (h|h|⟨y,h1,h2⟩)
   ·exact⟨x, .inl rfl, .inl h⟩
   ·exact⟨x, .inl rfl, .inr h⟩
   ·exact⟨y, .inr h1,h2⟩
  ·rintro ⟨y,rfl|h1,h2⟩
   ·rcases h2 with h2|h2
    ·exact .inl h2
    ·exact .inr (.inl h2)
   ·exact .inr (.inr ⟨y,h1,h2⟩)
theorem acB{a b:List (List CV)}(h:Uz a=Uz b){k:Nat}{x y:List CV}(hx:a[k]?=some x)(hy:b[k]?=some y):x.length=y.length:=by
 have:=congrArg (·[k]?) h
 simp only[Uz,List.getElem?_map,hx,hy,Option.map_some,Option.some.injEq]at this
 exact this
theorem Ye(R:dG C E g st tm w)(hS:∀f c,C.ρ f=some c->ag C f c){k:St->Option Q}{r:Q}{o:Oper}{f:AV}{vf:Value}{args:List AV}{vs:List Value}
 (hf:kl g w f vf) (ha:vG g w args vs) (h:MW C st o f args k=some r):
 ∃fid cvs,vf= .func (.func fid) #[] cvs/\nu C.P fid/\Calls C.P fid (vs.toArray++cvs) w fun e w'=>∃v g' st',e= .returned v/\k st'=some r/\
  dG C E g' st' (match o.dst with|some d=>tm.setIfInBounds d v|none=>tm) w':=by
 unfold MW at h
 split at h
 ·rename_i fid caps
  obtain⟨cvs,rfl,hcs,hcv⟩:=hf.one_inv.2 (.slot 0 0 0)
  split at h
  ·rename_i c hc
   have hNA:=ha.append (Ue (g:=g) (w:=w) caps cvs.toList (by simpa using hcs) (fun i c hi=>by simpa using hcv i c hi))
   generalize hall:(args++caps.map fun x=>AV.c (.ptr x.1 x.2))=all at h hNA
   split at h
   ·rename_i vals bs hrw hnv hbs
    obtain⟨hE,hSd⟩:=(hS fid c hc).b hrw
    split at h
    ·rename_i hdist
     cases hG:c.G bs vals with
     |none=>rw[hG]at h;cases h
     |some x=>
      rw[hG]at h
      simp only[Option.bind_some,c.altOk]at h
      split at h
      ·rename_i hcond
       simp only[Bool.and_eq_true,beq_iff_eq]at hcond
       obtain⟨hfl,hlens⟩:=hcond
       refine⟨fid,cvs,rfl,hE, ?_⟩
       have hargs:vs.toArray++cvs=(vs++cvs.toList).toArray:=by apply Array.ext';simp
       obtain⟨bns,hBR,hnd,hlabs,hown⟩:=acd R hbs hdist
       have hIB:∀n,g.lab n= .imm->(ghB g w (Od bns) (bns.map Prod.fst)).lab n= .imm:=fun n hn=>by simp only[ghB,hn]
       obtain⟨l1,l2,l3,l4⟩:=hBR.mono hIB
       have hnotimm:∀x,x∈Od bns->g.lab x≠ .imm/\g.lab x≠ .junk:=fun x hx=>by
        rcases hlabs x hx with⟨b,_,e⟩|⟨b,j,o,l,k,_,e⟩<;>(rw[e];simp)
       have hjB:∀x,x∈Od bns->(ghB g w (Od bns) (bns.map Prod.fst)).lab x= .junk:=fun x hx=>by
        simp only[ghB]
        split
        ·rename_i e;exact absurd e (hnotimm x hx).1
        ·rw[if_pos hx]
       have hNV:=U0 (g':=ghB g w (Od bns) (bns.map Prod.fst)) hIB all 0 vals (vs++cvs.toList) hnv hNA (fun i b m hi hm=>by
        obtain⟨n,mb,cs,k1,k2,k3,k4⟩:=l4 i b hi
        rw[k3]at hm
        cases hm
        simp only[ghB,Nat.zero_add,List.getElem?_map,k1,Option.map_some])
       obtain⟨msA,hV,hmsA⟩:=hNV.fs
       have hP:Lj C (ghB g w (Od bns) (bns.map Prod.fst)) w bs vals (vs++cvs.toList) bns:={
        vals:=⟨msA,hmsA,hV⟩
        free:=⟨hnd,hjB,fun b hb=>R.size b (hnotimm b hb).2⟩
        len:=l1
        boxes:=fun k cs n mb hk hk'=>by
         obtain⟨arr,e,b,m1,m2,m3,m4,m5,_⟩:=l3 k cs n mb hk hk'
         exact⟨arr,e,by simp only[ghB,List.getElem?_map,hk',Option.map_some],m3,m4,m5⟩
        bxs:=fun k n hk=>by
         have:=(List.getElem?_eq_some_iff.1 (show(bns.map Prod.fst)[k]?=some n from hk)).1
         rw[List.length_map,l1]at this
         exact this
        old:=fun n hn=>by
         by_cases hm:n∈Od bns
         ·exact .inr (.inr ⟨hjB n hm,hm⟩)
         ·cases hl:g.lab n with
          |imm=>exact .inl (by simp only[ghB,hl])
          |_=>exact .inr (.inl (by simp only[ghB,hl,if_neg hm,if_pos hn]))
        new:=fun n hn=>by
         have hj:g.lab n= .junk:=by
          cases h:g.lab n with
          |junk=>rfl
          |_=>exact absurd (R.size n (by rw[h];simp)) (by omega)
         simp only[ghB,hj,if_neg (show¬n<w.heap.size by omega)]
         split<;>rfl
        glob:=fun k cs hk=>by
         obtain⟨vs,e,fz,k1,k2,k3⟩:=R.glob k cs hk
         exact⟨vs,e,fz,k1,hIB k k2,k3⟩}
       rw[hargs]
       refine(hSd _ w bs vals _ bns x hP hG).mono ?_
       rintro e w' ⟨v,rfl,g',ms,rms,h1,h2,h3,h4,h5,h6,h7,h8,h9,h10,h11,h12⟩
       have R1:=R.giveUpAll (Place.inBoxes (fW all))
       obtain⟨q1,q2⟩:=h2.get
       have hfree:∀n,n∈Od bns->(∀y,y∈bns->n≠y.1)->(g.free (Place.inBoxes (fW all))).lab n= .junk:=by
        intro n hn hne
        obtain⟨y,hy,e|hm⟩:=FK.1 hn
        ·exact absurd e (hne y hy)
        ·obtain⟨b,j,o,l,k,hb,e⟩:=hown y hy n hm
         exact Gh.free_gone (bad:=Place.inBoxes (fW all)) (by simpa[Place.inBoxes]using hb) e
       have hboxlab:∀y,y∈bns->∃b,b∈fW all/\g.lab y.1= .box b:=by
        intro y hy
        obtain⟨k,hk⟩:=List.getElem?_of_mem hy
        obtain⟨hklt,_⟩:=List.getElem?_eq_some_iff.1 hk
        have hkb:k<(fW all).length:=by rw[<-l2,<-l1];exact hklt
        obtain⟨n,mb,cs,k1,k2,k3,k4⟩:=l4 k _ (List.getElem?_eq_getElem hkb)
        rw[hk]at k1
        cases k1
        exact⟨_,List.getElem_mem hkb,k4⟩
       have RA:dG C E (Xr (g.free (Place.inBoxes (fW all))) g' w) (st.giveUpAll (Place.inBoxes (fW all))) tm w':=by
        refine R1.afterB (S:=Od bns) (bl:=fW all) (fun n hn=> ?_) (fun b ro cs n hb hbx hn=> ?_) h10 h9 h6 h7 h8 h12
        ·by_cases hx:∃y,y∈bns/\n=y.1
         ·obtain⟨y,hy,rfl⟩:=hx
          obtain⟨b,hb,e⟩:=hboxlab y hy
          exact .inr ⟨b,hb,by simp only[Gh.free,e]⟩
         ·exact .inl (hfree n hn (fun y hy e=>hx ⟨y,hy,e⟩))
        ·obtain⟨i,hi⟩:=List.getElem?_of_mem hb
         obtain⟨n',mb,cs0,k1,k2,k3,k4⟩:=l4 i b hi
         have hn:g.bx b=some n:=hn
         rw[k3]at hn
         cases hn
         obtain⟨arr,e,b',m1,m2,m3,m4,m5,m6⟩:=l3 i cs0 n mb k2 k1
         obtain⟨cs1,arr1,e1,n1,n2,n3⟩:=q2 i n (by rw[List.getElem?_map,k1];rfl)
         have hb0:st.boxes[b]?=some (some (false,cs0)):=by
          have:∀{bl:List Nat} {bs:List (List CV)},B0 st bl=some bs->∀(i b:Nat) cs0,bl[i]?=some b->bs[i]?=some cs0->st.boxes[b]?=some (some (false,cs0)):=by
           intro bl
           induction bl with
           |nil=>intro bs _ i b cs0 h;simp at h
           |cons b0 r ih=>
            intro bs h i b cs0 hi hi'
            simp only[B0]at h
            split at h
            ·rename_i cs hb
             split at h
             ·rw[Option.map_eq_some_iff]at h
              obtain⟨bs',h,rfl⟩:=h
              cases i with
              |zero=>simp at hi hi';subst hi;subst hi';exact hb
              |succ i=>exact ih h i b cs0 (by simpa using hi) (by simpa using hi')
             ·cases h
            ·cases h
          exact this hbs i b cs0 hi k2
         have hcsu:∀(F:Place->CV->CV),(∀j c,F (.cell b j) c= .undef)->∀(cs:List CV) (j:Nat),wq (.cell b) F j cs=List.replicate cs.length .undef:=by
          intro F hF cs
          induction cs with
          |nil=>intro j;rfl
          |cons c r ih=>intro j;simp only[wq,hF,ih,List.length_cons,List.replicate_succ]
         have hbx':some (some (ro,cs))=some (some (false,List.replicate cs0.length CV.undef)):=by
          rw[<-hbx]
          simp only[St.giveUpAll,St.mapP,qp,Nat.zero_add,hb0,Option.map_some]
          rw[hcsu _ (fun j c=>by simp[Place.inBoxes,hb])]
         simp only[Option.some.injEq,Prod.mk.injEq]at hbx'
         obtain⟨rfl,rfl⟩:=hbx'
         refine⟨rfl,⟨_,rfl⟩,arr1,e1,n2, ?_⟩
         rw[n3,List.length_replicate]
         exact acB hlens n1 k2
       have hImm:∀n,g'.lab n= .imm->(Xr (g.free (Place.inBoxes (fW all))) g' w).lab n= .imm:=by
        intro n hn
        by_cases hlt:n<w.heap.size
        ·rcases h11 n hlt hn with e|e
         ·have:g.lab n= .imm:=by
           simp only[ghB]at e
           split at e
           ·assumption
           ·split at e
            ·cases e
            ·first|cases e|(split at e<;>cases e)
          rw[Xs hlt (by rw[Gh.free_imm this];simp)]
          exact Gh.free_imm this
         ·have hj:=hfree n e (fun y hy hny=>(h5 y hy).1 (by rw[<-hny];exact hn))
          simp only[Xr,if_pos hlt,hj,hn]
        ·simp only[Xr,if_neg hlt,hn]
       have hJunk:∀b,b∈aj rms++aj ms->(Xr (g.free (Place.inBoxes (fW all))) g' w).lab b= .junk:=by
        intro b hb
        have hj:=h3.junk b hb
        rcases h4 b hb with hge|hin
        ·simp only[Xr,if_neg (show¬b<w.heap.size by omega),hj]
        ·by_cases hlt:b<w.heap.size
         ·have:=hfree b hin (fun y hy hny=>(h5 y hy).2 (by rw[<-hny];exact hj))
          simp only[Xr,if_pos hlt,this,hj]
         ·simp only[Xr,if_neg hlt,hj]
       obtain⟨g2,R2,F2,H2⟩:=Q9 (fW all) (bns.map Prod.fst) (c.encB x) rms (aj ms) _ _ RA hdist (by rw[List.length_map,l1,l2]) (fun k b n hk hk'=>by
        obtain⟨n',mb,cs,k1,k2,k3,k4⟩:=l4 k b hk
        rw[List.getElem?_map,k1]at hk'
        cases hk'
        refine⟨k3, ?_⟩
        obtain⟨x,hx⟩:=RA.bx b n' k3
        obtain⟨ro,cs'⟩:=x
        obtain⟨n2,vs2,e2,fz2,j1,j2,_⟩:=RA.boxes b ro cs' hx
        have:(Xr (g.free (Place.inBoxes (fW all))) g' w).bx b=some n':=k3
        rw[this]at j1
        cases j1
        have hl:(Xr (g.free (Place.inBoxes (fW all))) g' w).lab n'= .box b:=by
         rw[Xs (R.size n' (by rw[k4];simp)) (by simp[Gh.free,k4])]
         simp only[Gh.free,k4]
        rw[hl]at j2
        cases ro with
        |true=>cases j2
        |false=>exact⟨cs',hx⟩)
        (fun b hb m j o l c e=>by
          obtain⟨_,e⟩:=JY e (by simp) (by simp)
          rcases g.free_turn (Place.inBoxes (fW all)) m with e'|⟨_,_,_,_,_,_,e'⟩
          ·have:=Gh.free_gone (bad:=Place.inBoxes (fW all)) (p:=.cell b j) (by simpa[Place.inBoxes]using hb) (e'.symm.trans e)
           rw[e]at this;cases this
          ·rw[e]at e';cases e')
        (h2.mono hImm) ⟨h3.nodup,hJunk,h3.size⟩
       have hF:=LB.imp' (g':=Xr (g.free (Place.inBoxes (fW all))) g' w) (fun c v m hc h=>cC.flat hImm hc h) hfl h1
       obtain⟨g3,st3,z1,z2⟩:=St.back_ok R2 (hF.mono H2 (fun b hb=>rfl)) F2 h
       exact⟨v,g3,st3,rfl,z1,z2⟩
      ·cases h
    ·cases h
   ·cases h
  ·cases h
 ·cases h
end
end Go.Vai
