/- No conditions. -/
import Derived.Test.YtjkljnflaifbhaaGreatDoorVai13
namespace Go.Vai
open Go
theorem Kp(p:Nat->Place):∀(cs:List CV) (i:Nat),wq p (fun _ c=>c) i cs=cs
 |[],_=>rfl
 |_::r,i=>by simp[wq,Kp p r]
theorem UF(i:Nat):∀(l:List Val) (k:Nat),zq i (fun _ c=>c) k l=l
 |[],_=>rfl
 |x::r,k=>by simp[zq,Val.mapP,Kp,UF i r]
theorem Kq:∀(l:List AV) (i:Nat),zp (fun _ c=>c) i l=l
 |[],_=>rfl
 | .one x::r,i=>by simp[zp,AV.mapP,Val.mapP,Kp,Kq r]
 | .tup x::r,i=>by simp[zp,AV.mapP,UF,Kq r]
theorem Ko:∀(l:List (Option (Bool×List CV))) (i:Nat),pk (fun _ c=>c) i l=l
 |[],_=>rfl
 |none::r,i=>by simp[pk,Ko r]
 |some (ro,cs)::r,i=>by simp[pk,Kp,Ko r]
theorem St.mapP_id(st:St):st.mapP (fun _ c=>c)=st:=by
 obtain⟨s,b,io⟩:=st
 simp only[St.mapP,Kq,Ko,Kp]
section
variable {C:gY} {E:iU} {g:Gh} {st:St} {tm:Array Value} {w:World} {Q:Type}
theorem ER.flat{I I':Nat->Prop}{w w':World}:∀{t:Ty} {x:t.T} {vs:List Value},t.isFlat=true->ER I w t x vs->ER I' w' t x vs
 | .int _,_,_,_,h=>h
 | .bool,_,_,_,h=>h
 | .str,_,_,_,h=>h
 | .unit,_,_,_,h=>h
 | .pair a b,_,_,hf,h=>by
   simp only[Ty.isFlat,Bool.and_eq_true]at hf
   exact⟨ER.flat hf.1 h.1,ER.flat hf.2 h.2⟩
 | .slice _,_,_,hf,_=>by cases hf
theorem bS.imp'{g g':Gh}{w':World}{P:CV->Bool}(H:∀c v m,P c=true->cC g w c v m->cC g' w' c v m):
 ∀{cs:List CV} {vs:List Value} {ms:List (List Nat)},cs.all P=true->bS g w cs vs ms->bS g' w' cs vs ms
 |[],_,_,_,h=>h
 |c::r,_,_,ha,h=>by
  obtain⟨v,vs',m,ms',rfl,rfl,h1,h2⟩:=h
  simp only[List.all_cons,Bool.and_eq_true]at ha
  exact⟨v,vs',m,ms',rfl,rfl,H _ _ _ ha.1 h1,bS.imp' H ha.2 h2⟩
theorem FV.imp'{g g':Gh}{w':World}{P:CV->Bool}(H:∀c v m,P c=true->cC g w c v m->cC g' w' c v m){x:Val}{v:Value}{ms:List (List Nat)}
 (ha:x.cs.all P=true) (h:FV g w x v ms):FV g' w' x v ms:=by
 obtain⟨a,cs⟩:=x
 cases a with
 |true=>obtain⟨vs,hv,h⟩:=h;exact⟨vs,hv,h.imp' H ha⟩
 |false=>exact bS.imp' (cs:=cs) H ha h
theorem sR.imp'{g g':Gh}{w':World}{P:CV->Bool}(H:∀c v m,P c=true->cC g w c v m->cC g' w' c v m):∀{l:List Val} {vs:List Value} {ms:List (List Nat)},
 (l.all fun x=>x.cs.all P)=true->sR g w l vs ms->sR g' w' l vs ms
 |[],_,_,_,h=>h
 |x::r,_,_,ha,h=>by
  obtain⟨v,vs',m,ms',rfl,rfl,h1,h2⟩:=h
  simp only[List.all_cons,Bool.and_eq_true]at ha
  exact⟨v,vs',m,ms',rfl,rfl,h1.imp' H ha.1,sR.imp' H ha.2 h2⟩
theorem LB.imp'{g g':Gh}{w':World}{P:CV->Bool}(H:∀c v m,P c=true->cC g w c v m->cC g' w' c v m){a:AV}{v:Value}{ms:List (List Nat)}
 (ha:a.all P=true) (h:LB g w a v ms):LB g' w' a v ms:=by
 cases a with
 |one x=>exact FV.imp' H ha h
 |tup l=>obtain⟨vs,hv,h⟩:=h;exact⟨vs,hv,h.imp' H ha⟩
theorem F0.fresh{g g':Gh}{c:CV}{v:Value}{m:List Nat}(hc:c.isFresh0=true)(h:F0 g w c v m):F0 g' w c v m:=by
 cases c with
 |undef=>exact⟨h.1,fun _=>trivial⟩
 |v x=>exact h
 |emp=>exact h
 |own t l=>
  obtain⟨lo,A,cap,hy,hl,h⟩:=h
  refine⟨lo,A,cap,hy,hl,h.imp id ?_⟩
  rintro ⟨b,off,n,c,cs,e,hA,hm,hf,hh,hs,hx⟩
  exact⟨b,off,n,c,cs,e,hA,hm,hf,hh,hs,fun i x hi=>ER.flat hc (hx i x hi)⟩
 |fn f caps=>
  cases caps with
  |nil=>
   refine⟨h.1,fun p=> ?_⟩
   obtain⟨cvs,hy,hs,_⟩:=h.2 p
   exact⟨cvs,hy,hs,fun i c hi=>by simp at hi⟩
  |cons _ _=>cases hc
 |_=>cases hc
theorem F0.flat{g g':Gh}(hI:∀n,g.lab n= .imm->g'.lab n= .imm){c:CV}{v:Value}{m:List Nat}(hc:c.isFlat=true)(h:F0 g w c v m):F0 g' w c v m:=by
 have I:∀n,g.imm n->g'.imm n/\w.heap[n]?=w.heap[n]?:=fun n hn=>⟨hI n hn,rfl⟩
 cases c with
 |undef=>exact⟨h.1,fun _=>trivial⟩
 |v x=>exact h
 |emp=>exact h
 |sl t l=>exact⟨h.1,fun p=>ER.mono I (h.2 p)⟩
 |own t l=>
  obtain⟨lo,A,cap,hy,hl,h⟩:=h
  refine⟨lo,A,cap,hy,hl,h.imp id ?_⟩
  rintro ⟨b,off,n,c,cs,e,hA,hm,hf,hh,hs,hx⟩
  exact⟨b,off,n,c,cs,e,hA,hm,hf,hh,hs,fun i x hi=>ER.mono I (hx i x hi)⟩
 |fn f caps=>
  cases caps with
  |nil=>
   refine⟨h.1,fun p=> ?_⟩
   obtain⟨cvs,hy,hs,_⟩:=h.2 p
   exact⟨cvs,hy,hs,fun i c hi=>by simp at hi⟩
  |cons _ _=>cases hc
 |_=>cases hc
theorem CV.fresh0_flat{c:CV}(h:c.isFresh0=true):c.isFlat=true:=by
 unfold CV.isFresh0 at h
 split at h<;>first|rfl|cases h
theorem Tu.map{g g':Gh}{P:CV->Bool}(H:∀c v m,P c=true->F0 g w c v m->F0 g' w c v m):∀{cs:List CV} {vs:List Value} {ms:List (List Nat)},cs.all P=true->Tu g w cs vs ms->Tu g' w cs vs ms
 |[],_,_,_,h=>h
 |c::r,_,_,hc,h=>by
  obtain⟨v,vs',m,ms',rfl,rfl,h1,h2⟩:=h
  simp only[List.all_cons,Bool.and_eq_true]at hc
  exact⟨v,vs',m,ms',rfl,rfl,H c v m hc.1 h1,h2.map H hc.2⟩
theorem cC.fresh{g g':Gh}{c:CV}{v:Value}{m:List Nat}(hc:c.isFresh=true)(h:cC g w c v m):cC g' w c v m:=by
 by_cases hn:∃cs,c= .np cs
 ·obtain⟨cs,rfl⟩:=hn
  obtain⟨n,vs,e,ms,h1,h2,h3,h4,h5⟩:=h
  exact⟨n,vs,e,ms,h1,h2,h3,h4,Tu.map (P:=CV.isFresh0) (fun c v m hc h=>h.fresh hc) hc h5⟩
 ·have hc:c.isFresh0=true:=by cases c<;>first|exact hc|exact absurd ⟨_,rfl⟩ hn
  exact((h.f0 (CV.fresh0_flat hc)).fresh hc).f (CV.fresh0_flat hc)
theorem cC.flat{g g':Gh}(hI:∀n,g.lab n= .imm->g'.lab n= .imm){c:CV}{v:Value}{m:List Nat}(hc:c.isFlatN=true)(h:cC g w c v m):cC g' w c v m:=by
 by_cases hn:∃cs,c= .np cs
 ·obtain⟨cs,rfl⟩:=hn
  obtain⟨n,vs,e,ms,h1,h2,h3,h4,h5⟩:=h
  exact⟨n,vs,e,ms,h1,h2,h3,h4,Tu.map (P:=CV.isFlat) (fun c v m hc h=>h.flat hI hc) h4 h5⟩
 ·have hc:c.isFlat=true:=by cases c<;>first|exact hc|exact absurd ⟨_,rfl⟩ hn
  exact((h.f0 hc).flat hI hc).f hc
theorem Y9{g':Gh}(hI:∀n,g.lab n= .imm->g'.lab n= .imm):∀(cs:List CV) (acc acc':List (List CV)) (cs':List CV),cs.all CV.isImm=true->JD st cs acc=some (cs',acc')->
 acc'=acc/\∀vs,bg g w cs vs->bg g' w cs' vs
 |[],acc,acc',cs',_,h=>by cases h;exact⟨rfl,fun _ h=>h⟩
 |c::r,acc,acc',cs',ha,h=>by
  simp only[List.all_cons,Bool.and_eq_true]at ha
  have plain:(match JD st r acc with
   |some (l,acc)=>some (roc c::l,acc)
   |none=>none)=some (cs',acc')->(∀v,cC g w c v []->cC g' w (roc c) v [])->acc'=acc/\∀vs,bg g w (c::r) vs->bg g' w cs' vs:=by
   intro hr hc
   split at hr
   ·rename_i l acc1 hl
    cases hr
    obtain⟨h1,h2⟩:=Y9 hI r acc _ l ha.2 hl
    exact⟨h1,fun vs ⟨v,vs',hv,h3,h4⟩=>⟨v,vs',hv,hc v h3,h2 vs' h4⟩⟩
   ·cases hr
  have I:∀n,g.imm n->g'.imm n/\w.heap[n]?=w.heap[n]?:=fun n hn=>⟨hI n hn,rfl⟩
  cases c with
  |np cs=>cases ha.1
  |undef=>exact plain h (fun v h=>⟨rfl,fun _=>trivial⟩)
  |v x=>exact plain h (fun v h=>h)
  |emp=>exact plain h (fun v h=>h)
  |sl t l=>exact plain h (fun v h=>⟨rfl,fun p=>ER.mono I (h.2 p)⟩)
  |gp b o=>exact plain h (fun v h=>h)
  |lb n=>exact plain h (fun v h=>h)
  |fn f caps=>
   cases caps with
   |nil=>
    simp only[JD,KM]at h
    refine plain h (fun v h=>⟨rfl,fun p=> ?_⟩)
    obtain⟨cvs,hy,hs,_⟩:=h.2 p
    exact⟨cvs,hy,hs,fun i c hi=>by simp at hi⟩
   |cons _ _=>cases ha.1
  |_=>cases ha.1
theorem Vd{g':Gh}(hI:∀n,g.lab n= .imm->g'.lab n= .imm):∀(as:List AV) (acc acc':List (List CV)) (vals:List Val) (vs:List Value),as.all (AV.all CV.isImm)=true->Cc st as acc=some (vals,acc')->
 vG g w as vs->acc'=acc/\Yb g' w vals vs
 |[],acc,acc',vals,vs,_,h,hn=>by cases h;exact⟨rfl,hn⟩
 | .tup _::_,_,_,_,_,_,hr,_=>by simp[Cc]at hr
 | .one x::r,acc,acc',vals,vs,ha,hr,hn=>by
   obtain⟨v,vs',rfl,h1,h2⟩:=hn
   simp only[List.all_cons,Bool.and_eq_true]at ha
   unfold Cc at hr
   split at hr
   ·rename_i cs acc1 hx
    split at hr
    ·rename_i l acc2 hl
     cases hr
     obtain⟨rfl,h3⟩:=Y9 hI x.cs acc acc1 cs ha.1 hx (w:=w)
     obtain⟨rfl,h4⟩:=Vd hI r _ _ l vs' ha.2 hl h2
     refine⟨rfl,v,vs',rfl, ?_,h4⟩
     obtain⟨xa,xcs⟩:=x
     cases xa with
     |true=>obtain⟨vs,rfl,hv⟩:=h1;exact⟨vs,rfl,h3 _ hv⟩
     |false=>exact h3 [v] h1
    ·cases hr
   ·cases hr
theorem vG.append:∀{as:List AV} {vs:List Value},vG g w as vs->∀{as' vs'},vG g w as' vs'->vG g w (as++as') (vs++vs')
 |[],_,h,_,_,h'=>by simp only[vG]at h;subst h;exact h'
 |_::_,_,h,_,_,h'=>by obtain⟨v,vs',rfl,h1,h2⟩:=h;exact⟨v,_,rfl,h1,h2.append h'⟩
theorem Ue:∀(caps:List (Nat×Nat)) (cvs:List Value),cvs.length=caps.length->(∀(i:Nat) (c:Nat×Nat),caps[i]?=some c->∃n,g.bx c.1=some n/\cvs[i]?=some (Value.pointer (some ⟨n,c.2,none⟩)))->
 vG g w (caps.map fun x=>.c (.ptr x.1 x.2)) cvs
 |[],cvs,hl,_=>List.length_eq_zero_iff.1 hl
 |c::r,[],hl,_=>by simp at hl
 |c::r,v::cvs,hl,h=>by
  obtain⟨n,h1,h2⟩:=h 0 c rfl
  simp only[List.getElem?_cons_zero,Option.some.injEq]at h2
  subst h2
  exact⟨_,cvs,rfl,kl.c ⟨rfl,fun _=>⟨n,rfl,h1⟩⟩,Ue r cvs (by simpa using hl) (fun i c hi=>by simpa using h (i+1) c (by simpa using hi))⟩
def dx(g g':Gh)(w:World):Gh:=
 ⟨fun n=>if n<w.heap.size then g.lab n else(match g'.lab n with| .imm=>.imm|_=>.junk),g.bx⟩
theorem dG.after(R:dG C E g st tm w){g':Gh}{w':World}(hh:∀n,n<w.heap.size->w'.heap[n]?=w.heap[n]?)(hs:w.heap.size<=w'.heap.size)(ho:w'.os=w.os)(ht:w'.tape=w.tape)(hu:w'.output=w.output)
 (hi:∀n,g'.lab n= .imm->n<w'.heap.size):dG C E (dx g g' w) st tm w':=by
 have T:E3 E g (dx g g' w) w w':={
  lab:=by
   intro n
   by_cases hn:n<w.heap.size
   ·left;simp only[dx,if_pos hn]
   ·have hj:g.lab n= .junk:=by
     cases h:g.lab n with
     |junk=>rfl
     |_=>exact absurd (R.size n (by rw[h];simp)) hn
    cases h:g'.lab n with
    |imm=>right;left;exact⟨hj,by simp only[dx,if_neg hn,h],hi n h⟩
    |_=>left;simp only[dx,if_neg hn,h,hj]
  bx:=rfl
  imm:=fun n hn=>hh n (R.size n (by rw[hn];simp))
  box:=fun n b hn=>hh n (R.size n (by rw[hn];simp))
  far:=fun n hn=>hh n (R.size n (by rw[hn];simp))
  size:=hs
  os:=ho
  tape:=ht
  output:=hu}
 have H:gM (fun _=>True) (fun _=>True) g (dx g g' w) w w':={
  imm:=fun n hn=>⟨T.immOf hn,T.imm n hn⟩
  own:=fun n q o l c _ hn=>by
   have hs:=R.size n (by rw[hn];simp)
   exact⟨by simp only[dx,if_pos hs];exact hn,hh n hs⟩
  bx:=fun _ _ _ h=>h}
 have:=R.mapP (g':=dx g g' w) (w':=w') (fun _ c=>c) T (fun _=>rfl) (fun p c v _ h=>cu.mono H (CV.uses_true _ _) h) (fun n p o l c _ t x _=>⟨t,x,rfl⟩)
 rwa [St.mapP_id]at this
theorem abY(R:dG C E g st tm w)(hS:∀f c,C.ρ f=some c->ag C f c){k:AV->Option Q}{r:Q}{f:AV}{vf:Value}{args:List AV}{vs:List Value}
 (hf:kl g w f vf) (ha:vG g w args vs) (h:Oe C st f args k=some r):
 ∃fid cvs,vf= .func (.func fid) #[] cvs/\nu C.P fid/\Calls C.P fid (vs.toArray++cvs) w fun e w'=>∃v av g' ms,e= .returned v/\k av=some r/\dG C E g' st tm w'/\LB g' w' av v ms/\dF g' w' (aj ms):=by
 unfold Oe at h
 split at h
 ·rename_i fid caps
  obtain⟨cvs,rfl,hcs,hcv⟩:=hf.one_inv.2 (.slot 0 0 0)
  split at h
  ·rename_i c hc
   split at h
   ·rename_i hio hrw
    obtain⟨hE,hSd⟩:=(hS fid c hc).r hrw
    split at h
    ·rename_i vals bs hro
     cases hG:c.G bs vals with
     |none=>rw[hG]at h;cases h
     |some x=>
      rw[hG]at h
      simp only[Option.bind_some,c.altOk]at h
      refine⟨fid,cvs,rfl,hE, ?_⟩
      have hargs:vs.toArray++cvs=(vs++cvs.toList).toArray:=by apply Array.ext';simp
      have hNA:=ha.append (Ue (g:=g) (w:=w) caps cvs.toList (by simpa using hcs) (fun i c hi=>by simpa using hcv i c hi))
      have Sm:∀(g0:Gh),Yb g0 w vals (vs++cvs.toList)->Ib C g0 w bs vals (vs++cvs.toList) []\/(∃ms,aj ms=[]/\Ib C g0 w bs vals (vs++cvs.toList) ms)->
       (∀(g':Gh) (w':World) v m c,(∀n,n<w.heap.size->g'.lab n= .imm->g0.lab n= .imm)->
         ((c.isFresh=true/\(c.isFresh=true->cC g' w' c v m->cC (dx g g' w) w' c v m))->cC g' w' c v m->cC (dx g g' w) w' c v m))->True:=fun _ _ _ _=>trivial
      clear Sm
      have go:∀(g0:Gh) (ms0:List (List Nat)) (P:CV->Bool),aj ms0=[]->Ib C g0 w bs vals (vs++cvs.toList) ms0->(c.enc x).1.all P=true->k (c.enc x).1=some r->
       (∀(g':Gh) (w':World),(∀n,n<w.heap.size->g'.lab n= .imm->g0.lab n= .imm)->∀c v m,P c=true->cC g' w' c v m->cC (dx g g' w) w' c v m)->
       Calls C.P fid (vs.toArray++cvs) w fun e w'=>∃v av g' ms,e= .returned v/\k av=some r/\dG C E g' st tm w'/\LB g' w' av v ms/\dF g' w' (aj ms):=by
       intro g0 ms0 P hms hP hall hk hcell
       rw[hargs]
       refine(hSd g0 w bs vals _ ms0 x hP hG).mono ?_
       rintro e w' ⟨v,rfl,g',ms,bms,h1,h2,h3,h4,h5,h6,h7,h8,h9,h10,h11⟩
       have hh:∀n,n<w.heap.size->w'.heap[n]?=w.heap[n]?:=fun n hn=>h9 n hn (by rw[hms];exact List.not_mem_nil)
       have h12:dF g' w' (aj ms):=⟨(List.nodup_append.1 h3.nodup).2.1,fun b hb=>h3.junk b (List.mem_append_right _ hb),fun b hb=>h3.size b (List.mem_append_right _ hb)⟩
       refine⟨v,_,dx g g' w,ms,rfl,hk,R.after hh h8 h5 h6 h7 h11,LB.imp' (hcell g' w' (fun n hn hl=>(h10 n hn hl).resolve_right (by rw[hms];exact List.not_mem_nil))) hall h1,h12.nodup,fun b hb=> ?_,h12.size⟩
       have:=(h4 b hb).resolve_right (by rw[hms];exact List.not_mem_nil)
       simp only[dx,if_neg (show¬b<w.heap.size by omega),h12.junk b hb]
      split at h
      ·rename_i hcond
       simp only[Bool.or_eq_true,Bool.and_eq_true]at hcond
       rcases hcond with hfr|⟨⟨hfl,him⟩,hce⟩
       ·obtain⟨ns,hacc,hN⟩:=WX R (S:=[]) (fun _ h=>(List.not_mem_nil h).elim) _ [] bs vals _ [] ⟨rfl,fun k cs hk=>by simp at hk⟩ hro hNA
        have hN:=hN []
        simp only[List.nil_append,List.append_nil]at hN hacc
        obtain⟨ms0,h1,h2⟩:=hN.fs
        refine go (X8 [] w ns) ms0 CV.isFresh h2 ?_ hfr h (fun g' w' _ c v m hc hF=>hF.fresh hc)
        exact{
         vals:=h1
         free:=by rw[h2];exact dF.nil
         boxes:=fun k cs hk=>by
          obtain⟨n,arr,e,fz,k1,k2,k3,k4⟩:=hacc.2 k cs hk
          exact⟨n,arr,e,fz,k1,k2,k3,k4⟩
         bxs:=fun k n hk=>by rw[hacc.1];exact(List.getElem?_eq_some_iff.1 hk).1
         old:=fun n hn=>.inl (by simp only[X8,Iw,if_pos hn,List.not_mem_nil,if_false])
         new:=fun n hn=>by simp only[X8,Iw,if_neg (show¬n<w.heap.size by omega)]
         glob:=fun k cs hk=>by
          obtain⟨vs,e,fz,k1,k2,k3⟩:=R.glob k cs hk
          exact⟨vs,e,fz,k1,BI R (fun _ h=>(List.not_mem_nil h).elim) (by rw[k2];simp),k3⟩}
       ·have hcaps:caps=[]:=by simpa using hce
        subst hcaps
        simp only[List.map_nil,List.append_nil]at hro
        have hcv0:cvs.toList=[]:=List.length_eq_zero_iff.1 (by simpa using hcs)
        have hI:∀n,g.lab n= .imm->(⟨Xy g w,fun _=>none⟩:Gh).lab n= .imm:=fun n hn=>by simp only[Xy,hn]
        obtain⟨rfl,hN⟩:=Vd (g':=⟨Xy g w,fun _=>none⟩) hI args [] bs vals vs him hro ha
        obtain⟨ms0,h1,h2⟩:=hN.fs
        refine go ⟨Xy g w,fun _=>none⟩ ms0 CV.isFlatN h2 ?_ hfl h (fun g' w' hold c v m hc hF=>hF.flat (fun n hn=> ?_) hc)
        ·exact{
          vals:=by rw[hcv0,List.append_nil];exact h1
          free:=by rw[h2];exact dF.nil
          boxes:=fun k cs hk=>by simp at hk
          bxs:=fun k n hk=>by cases hk
          old:=fun n hn=>by
           cases hl:g.lab n with
           |imm=>exact .inl (by simp only[Xy,hl])
           |_=>exact .inr (.inl (by simp only[Xy,hl,if_pos hn]))
          new:=fun n hn=>by
           have hj:g.lab n= .junk:=by
            cases h:g.lab n with
            |junk=>rfl
            |_=>exact absurd (R.size n (by rw[h];simp)) (by omega)
           simp only[Xy,hj,if_neg (show¬n<w.heap.size by omega)]
          glob:=fun k cs hk=>by
           obtain⟨vs,e,fz,k1,k2,k3⟩:=R.glob k cs hk
           exact⟨vs,e,fz,k1,by simp only[Xy,k2],k3⟩}
        ·by_cases hlt:n<w.heap.size
         ·have:=hold n hlt hn
          simp only[Xy]at this
          split at this
          ·rename_i hl
           simp only[dx,if_pos hlt,hl]
          ·rw[if_pos hlt]at this;cases this
         ·simp only[dx,if_neg hlt,hn]
      ·cases h
    ·cases h
   ·cases h
  ·cases h
 ·cases h
theorem Ve{t:Ty}:∀{n:Nat} {cs:List CV} {l:List t.T},rowsOf t n cs=some l->l.length=n/\∀(i:Nat) (y:t.T),l[i]?=some y->t.ofCells ((cs.drop (i*t.size)).take t.size)=some y
 |0,[],l,h=>by
  cases h
  exact⟨rfl,fun i y hy=>by simp at hy⟩
 |0,_::_,l,h=>by cases h
 |n+1,cs,l,h=>by
  unfold rowsOf at h
  split at h
  ·rename_i x l' hx hl
   cases h
   obtain⟨h1,h2⟩:=Ve hl
   refine⟨by simp[h1],fun i y hy=> ?_⟩
   cases i with
   |zero=>
    simp only[List.getElem?_cons_zero,Option.some.injEq]at hy
    subst hy
    simpa using hx
   |succ i=>
    have:=h2 i y (by simpa using hy)
    rw[List.drop_drop]at this
    rw[Nat.add_mul,Nat.one_mul,Nat.add_comm]
    exact this
  ·cases h
theorem UZ:∀(vs:List Value),bg g w (vs.map .v) vs
 |[]=>rfl
 |v::r=>⟨v,r,rfl,⟨rfl,fun _=>rfl⟩,UZ r⟩
theorem ZJ(R:dG C E g st tm w){T:TypeId}{x i:AV}{vx vi:Value}{k:AV->Option Q}{r:Q}(hx:kl g w x vx)(hi:kl g w i vi)(h:Ll C T x i k=some r):
 tM C g w (Instr.indexAt T vx vi) k r:=by
 unfold Ll at h
 split at h
 ·rename_i b n e hu
  split at h
  ·exact Mn hx hi h
  ·split at h
   ·rename_i _ i' t cs hci ht hg
    split at h
    ·rename_i l hl
     simp only[Option.bind_eq_some_iff]at h
     obtain⟨y,hy,h⟩:=h
     obtain⟨h0,hy⟩:=Xv hy
     have:=oS hi hci;subst this
     have hv:vx= .pointer (some ⟨_,_,none⟩):=hx.one_inv.2 (.slot 0 0 0)
     subst hv
     obtain⟨vs,e',fz,h1,h2,h3⟩:=R.glob b cs hg
     obtain⟨hn,hget⟩:=Ve hl
     have hlt:i'.toNat<n:=by rw[<-hn];exact(List.getElem?_eq_some_iff.1 hy).1
     have hsz:=sf ht
     have hE:ER g.imm w t y (nS vs (i'.toNat*t.size) t.size):=by
      refine Et (hget _ _ hy) ?_
      rw[h3,<-List.map_drop,<-List.map_take]
      exact UZ _
     refine⟨_, .pointer (some ⟨b,i'.toNat*t.size,none⟩),h, ?_,kl.c ⟨rfl,fun _=>⟨b,i'.toNat*t.size,vs,e',fz,rfl,h2,h1,hE⟩⟩⟩
     have h1'':i'<(n:Int):=by omega
     simp[Instr.indexAt,asIntOf,an hu,Instr.sureAddr,h0,h1'',dL hsz,Addr.add_eq]
    ·cases h
   ·cases h
 ·exact Mn hx hi h
end
end Go.Vai
