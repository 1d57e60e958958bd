/- No conditions. -/
import Derived.Test.YtjkljnflaifbhaaGreatDoorVaiF
namespace Go.Vai
open Go
section
variable {C:gY} {E:iU} {g:Gh} {st:St} {tm:Array Value} {w:World} {Q:Type}
def Gh.adopt(g:Gh)(n d:Nat):Gh:=⟨fun k=>if k=n then .box d else g.lab k,fun b=>if b=d then some n else g.bx b⟩
theorem cA.undefs{p:Nat->Place}:∀(vs:List Value) (i:Nat),cA g w p i (List.replicate vs.length .undef) vs
 |[],_=>rfl
 |v::r,i=>⟨v,r,rfl,trivial,cA.undefs r (i+1)⟩
theorem dG.adopt(R:dG C E g st tm w){n d:Nat}{arr:Array Value}{e:TypeId}(hdn:d<E.n)(hj:g.lab n= .junk)(hh:w.heap[n]?=some (.cells arr e (0,0)))(hb:st.boxes[d]?=some none):
 gM (fun _=>True) (fun _=>True) g (g.adopt n d) w w/\dG C E (g.adopt n d) ⟨st.slots,st.boxes.set d (some (false,List.replicate arr.toList.length .undef)),st.io⟩ tm w:=by
 have hd:d<st.boxes.length:=(List.getElem?_eq_some_iff.1 hb).1
 have hlt:n<w.heap.size:=(Array.getElem?_eq_some_iff.1 hh).1
 have same:∀k,g.lab k≠ .junk->(g.adopt n d).lab k=g.lab k:=fun k hk=>by
  simp only[Gh.adopt,if_neg (show k≠n from fun e=>hk (e▸hj))]
 have hbd:∀b m,g.bx b=some m->b≠d:=fun b m h e=>by
  obtain⟨x,hx⟩:=R.bx b m h
  rw[e,hb]at hx;cases hx
 have H:gM (fun _=>True) (fun _=>True) g (g.adopt n d) w w:={
  imm:=fun k hk=>⟨by rw[same k (by rw[hk];simp)];exact hk,rfl⟩
  own:=fun k q o l c _ hk=>⟨by rw[same k (by rw[hk];simp)];exact hk,rfl⟩
  bx:=fun b m _ h=>by simp only[Gh.adopt,if_neg (hbd b m h)];exact h}
 have back:∀k x,(g.adopt n d).lab k=x->x≠ .box d->g.lab k=x:=fun k x h hx=>by
  simp only[Gh.adopt]at h
  split at h
  ·exact absurd h.symm hx
  ·exact h
 refine⟨H, ?_⟩
 exact{
  len:=R.len
  lenN:=R.lenN
  lenB:=by simp[R.lenB]
  io:=R.io.mono H
  slots:=fun i a hi=>by obtain⟨v,hv,ha⟩:=R.slots i a hi;exact⟨v,hv,ha.mono H⟩
  boxes:=by
   intro b ro cs' hb'
   by_cases he:b=d
   ·subst he
    simp only[List.getElem?_set_self hd,Option.some.injEq,Prod.mk.injEq]at hb'
    obtain⟨rfl,rfl⟩:=hb'
    exact⟨n,arr,e,(0,0),by simp[Gh.adopt],by simp[Gh.adopt],hh,fun _=>rfl,cA.undefs _ _⟩
   ·simp only[List.getElem?_set_ne (fun e=>he e.symm)]at hb'
    obtain⟨m,vs',e',fz,k1,k2,k3,k4,k5⟩:=R.boxes b ro cs' hb'
    exact⟨m,vs',e',fz,H.bx b m trivial k1,by rw[same m (by rw[k2];cases ro<;>simp)];exact k2,k3,k4,k5.mono H⟩
  bx:=by
   intro b m hm
   by_cases he:b=d
   ·subst he;exact⟨_,List.getElem?_set_self hd⟩
   ·simp only[Gh.adopt,if_neg he]at hm
    obtain⟨x,hx⟩:=R.bx b m hm
    exact⟨x,by rw[List.getElem?_set_ne (fun e=>he e.symm)];exact hx⟩
  own:=by
   intro m p o l c hl
   obtain⟨t,x,hx⟩:=R.own m p o l c (back _ _ hl (by simp))
   refine⟨t,x, ?_⟩
   cases p with
   |slot i k j=>exact hx
   |arg j=>exact hx
   |cell b j=>
    have he:b≠d:=fun e=>by
     subst e
     simp only[St.atPlace,List.getD_eq_getElem?_getD,hb]at hx
     cases hx
    simp only[St.atPlace,List.getD_eq_getElem?_getD,List.getElem?_set_ne (fun e=>he e.symm)]at hx⊢
    exact hx
  uniq:=fun a b p o l c o' l' c' h1 h2=>R.uniq a b p o l c o' l' c' (back _ _ h1 (by simp)) (back _ _ h2 (by simp))
  uniqB:=by
   intro m b hl
   by_cases hm:m=n
   ·subst hm
    simp only[Gh.adopt,if_true,Lab.box.injEq]at hl
    subst hl
    simp[Gh.adopt]
   ·have hl':g.lab m= .box b:=by simpa only[Gh.adopt,if_neg hm]using hl
    exact H.bx b m trivial (R.uniqB m b hl')
  size:=by
   intro m hl
   by_cases hm:m=n
   ·subst hm;exact hlt
   ·exact R.size m (by simpa only[Gh.adopt,if_neg hm]using hl)
  glob:=by
   intro k cs' hc
   obtain⟨vs',e',fz,k1,k2,k3⟩:=R.glob k cs' hc
   exact⟨vs',e',fz,k1,(H.imm k k2).1,k3⟩
  kept:={
   os:=R.kept.os
   tape:=R.kept.tape
   output:=R.kept.output
   size:=R.kept.size
   imm:=fun m hm hl=>by
    obtain⟨k1,k2⟩:=R.kept.imm m hm hl
    exact⟨(H.imm m k1).1,k2⟩
   far:=fun m hm hl=>by
    obtain⟨k1,k2⟩:=R.kept.far m hm hl
    exact⟨by rw[same m (by rw[k1];simp)];exact k1,k2⟩
   old:=R.kept.old
   lent:=fun b m hb h=>by
    simp only[Gh.adopt]at h
    split at h
    ·omega
    ·exact R.kept.lent b m hb h}}
theorem dG.fillBox(R:dG C E g st tm w){b n:Nat}{cs0 cs:List CV}{arr:Array Value}{e:TypeId}{ms:List (List Nat)}(hb:st.boxes[b]?=some (some (false,cs0)))(hn:g.bx b=some n)
 (hno:∀m j o l c,g.lab m≠ .own (.cell b j) o l c) (hh:w.heap[n]?=some (.cells arr e (0,0))) (h:bS g w cs arr.toList ms) (F:dF g w (aj ms)):
 ∃g',GH g g' (aj ms) (fun q=>∃j t x,q= .cell b (0+j)/\cs[j]?=some (.own t x))/\dG C E g' ⟨st.slots,st.boxes.set b (some (false,cs)),st.io⟩ tm w:=by
 have hd:b<st.boxes.length:=(List.getElem?_eq_some_iff.1 hb).1
 obtain⟨g',L,hr⟩:=Qy (.cell b) (fun i j e=>by injection e) cs 0 arr.toList ms g h F (fun j _ m o l c=>hno m j o l c)
 have H:=L.steps F
 have keep:∀m,g.lab m≠ .junk->g'.lab m=g.lab m:=by
  intro m hm'
  rcases L.lab m with e|⟨hm,_⟩
  ·exact e
  ·exact absurd (F.junk m hm) hm'
 refine⟨g',L, ?_⟩
 exact{
  len:=R.len
  lenN:=R.lenN
  lenB:=by simp[R.lenB]
  io:=R.io.mono H
  slots:=fun i a hi=>by obtain⟨v,hv,ha⟩:=R.slots i a hi;exact⟨v,hv,ha.mono H⟩
  boxes:=by
   intro b' ro cs' hb'
   by_cases he:b'=b
   ·subst he
    simp only[List.getElem?_set_self hd,Option.some.injEq,Prod.mk.injEq]at hb'
    obtain⟨rfl,rfl⟩:=hb'
    obtain⟨m,vs',e',fz,k1,k2,k3,k4,k5⟩:=R.boxes b' false cs0 hb
    rw[hn]at k1
    injection k1 with k1
    subst k1
    exact⟨n,arr,e,(0,0),by rw[L.bx];exact hn,by rw[keep n (by rw[k2];simp)];exact k2,hh,fun _=>rfl,hr⟩
   ·simp only[List.getElem?_set_ne (fun e=>he e.symm)]at hb'
    obtain⟨m,vs',e',fz,k1,k2,k3,k4,k5⟩:=R.boxes b' ro cs' hb'
    exact⟨m,vs',e',fz,H.bx b' m trivial k1,by rw[keep m (by rw[k2];cases ro<;>simp)];exact k2,k3,k4,k5.mono H⟩
  bx:=by
   intro b' m hm
   rw[L.bx]at hm
   by_cases he:b'=b
   ·subst he;exact⟨_,List.getElem?_set_self hd⟩
   ·obtain⟨x,hx⟩:=R.bx b' m hm
    exact⟨x,by rw[List.getElem?_set_ne (fun e=>he e.symm)];exact hx⟩
  own:=by
   intro m p o l c hl
   rcases L.lab m with e'|⟨_,q,_,_,_,⟨j,t,x,hq,hj⟩,e'⟩
   ·rw[e']at hl
    obtain⟨t,x,hx⟩:=R.own m p o l c hl
    refine⟨t,x, ?_⟩
    cases p with
    |slot i k j=>exact hx
    |arg j=>exact hx
    |cell b' j=>
     have he:b'≠b:=fun e=>by subst e;exact hno _ _ _ _ _ hl
     simp only[St.atPlace,List.getD_eq_getElem?_getD,List.getElem?_set_ne (fun e=>he e.symm)]at hx⊢
     exact hx
   ·rw[hl]at e';injection e' with e';subst e';subst hq
    refine⟨t,x, ?_⟩
    simp only[St.atPlace,List.getD_eq_getElem?_getD,List.getElem?_set_self hd,Option.getD_some,Nat.zero_add,hj]
  uniq:=by
   intro a m p o l c o' l' c' h1 h2
   by_cases hp:∃j t x,p=Place.cell b (0+j)/\cs[j]?=some (.own t x)
   ·exact L.uniq a m p _ _ _ _ _ _ hp h1 h2
   ·have back:∀n o l c,g'.lab n= .own p o l c->g.lab n= .own p o l c:=by
     intro n o l c h
     rcases L.lab n with e|⟨_,q,o',l',c',hq,e⟩
     ·rw[<-e];exact h
     ·rw[h]at e;injection e with e;subst e;exact(hp hq).elim
    exact R.uniq a m p _ _ _ _ _ _ (back _ _ _ _ h1) (back _ _ _ _ h2)
  uniqB:=by
   intro m b' hl
   rw[L.bx]
   rcases L.lab m with e'|⟨_,q,_,_,_,_,e'⟩
   ·exact R.uniqB m b' (by rw[<-e'];exact hl)
   ·rw[hl]at e';cases e'
  size:=by
   intro m hl
   rcases L.lab m with e'|⟨hm,_⟩
   ·exact R.size m (by rw[<-e'];exact hl)
   ·exact F.size m hm
  glob:=by
   intro k cs' hc
   obtain⟨vs',e',fz,k1,k2,k3⟩:=R.glob k cs' hc
   exact⟨vs',e',fz,k1,(H.imm k k2).1,k3⟩
  kept:={
   os:=R.kept.os
   tape:=R.kept.tape
   output:=R.kept.output
   size:=R.kept.size
   imm:=fun m hm hl=>by
    obtain⟨k1,k2⟩:=R.kept.imm m hm hl
    exact⟨(H.imm m k1).1,k2⟩
   far:=fun m hm hl=>by
    obtain⟨k1,k2⟩:=R.kept.far m hm hl
    exact⟨by rw[keep m (by rw[k1];simp)];exact k1,k2⟩
   old:=R.kept.old
   lent:=fun b m hb h=>R.kept.lent b m hb (by rw[<-L.bx];exact h)}}
theorem acN{x:Val}{cs:List CV}{v:Value}{ms:List (List Nat)}(hx:x.np?=some cs)(h:FV g w x v ms):
 ∃n vs e ms',v= .pointer (some ⟨n,0,none⟩)/\w.heap[n]?=some (.cells vs e (0,0))/\ms=[n::aj ms']/\cs.all CV.isFlat=true/\Tu g w cs vs.toList ms':=by
 unfold Val.np? at hx
 split at hx
 ·cases hx
  obtain⟨v',vs',m,ms',e1,rfl,h1,h2⟩:=(show bS g w [.np cs] [v] ms from h)
  cases e1
  obtain⟨_,rfl⟩:=h2
  obtain⟨n,vs,e,ms,h3,h4,rfl,h5,h6⟩:=h1
  exact⟨n,vs,e,ms,h3,h4,rfl,h5,h6⟩
 ·cases hx
theorem UY{d:Nat}:∀{l:List Val} {cs:List CV} {l':List Val} {vs:List Value} {ms:List (List Nat)},XL d l=some (cs,l')->sR g w l vs ms->
 ∃n arr e mb ms',w.heap[n]?=some (.cells arr e (0,0))/\(aj ms).Perm (n::(aj mb++aj ms'))/\cs.all CV.isFlat=true/\Tu g w cs arr.toList mb/\
  ∀g':Gh,gM (fun _=>True) (fun _=>True) g g' w w->g'.bx d=some n->sR g' w l' vs ms'
 |[],_,_,_,_,h,_=>by cases h
 |x::r,cs,l',vs,ms,h,hF=>by
  obtain⟨v,vs',m,m',rfl,rfl,h1,h2⟩:=hF
  simp only[XL]at h
  split at h
  ·rename_i cs' hx
   cases h
   obtain⟨n,arr,e,mb,rfl,h3,rfl,h4,h5⟩:=acN hx h1
   refine⟨n,arr,e,mb,[]::m',h3, ?_,h4,h5,fun g' H hb=>⟨_,vs',[[]],m',rfl,rfl, ?_,sR.mono H (fun b hb=>rfl) h2⟩⟩
   ·simp[aj]
   ·exact⟨_,[],[],[],rfl,rfl,⟨rfl,fun _=>⟨n,rfl,hb⟩⟩,rfl,rfl⟩
  ·simp only[Option.map_eq_some_iff]at h
   obtain⟨⟨cs',r'⟩,hr,h⟩:=h
   cases h
   obtain⟨n,arr,e,mb,ms',h3,hp,h4,h5,h6⟩:=UY hr h2
   refine⟨n,arr,e,mb,m++ms',h3, ?_,h4,h5,fun g' H hb=>⟨v,vs',m,ms',rfl,rfl,FV.mono H (fun b hb=>rfl) h1,h6 g' H hb⟩⟩
   rw[cJ,cJ]
   refine(List.Perm.append_left _ hp).trans ?_
   refine List.perm_middle.trans (List.Perm.cons _ ?_)
   rw[<-List.append_assoc,<-List.append_assoc]
   exact List.Perm.append_right _ List.perm_append_comm
theorem aac{d:Nat}{a:AV}{cs:List CV}{a':AV}{v:Value}{ms:List (List Nat)}(h:a.npLand d=some (cs,a'))(hF:LB g w a v ms):
 ∃n arr e mb ms',w.heap[n]?=some (.cells arr e (0,0))/\(aj ms).Perm (n::(aj mb++aj ms'))/\cs.all CV.isFlat=true/\Tu g w cs arr.toList mb/\
  ∀g':Gh,gM (fun _=>True) (fun _=>True) g g' w w->g'.bx d=some n->LB g' w a' v ms':=by
 cases a with
 |one x=>
  simp only[AV.npLand,Option.map_eq_some_iff,Prod.mk.injEq]at h
  obtain⟨cs',hx,rfl,rfl⟩:=h
  obtain⟨n,arr,e,mb,rfl,h3,rfl,h4,h5⟩:=acN hx hF
  refine⟨n,arr,e,mb,[[]],h3,by simp[aj],h4,h5,fun g' H hb=> ?_⟩
  exact⟨_,[],[],[],rfl,rfl,⟨rfl,fun _=>⟨n,rfl,hb⟩⟩,rfl,rfl⟩
 |tup l=>
  simp only[AV.npLand,Option.map_eq_some_iff,Prod.mk.injEq]at h
  obtain⟨⟨cs',l'⟩,hl,rfl,rfl⟩:=h
  obtain⟨vs,rfl,hF⟩:=hF
  obtain⟨n,arr,e,mb,ms',h3,hp,h4,h5,h6⟩:=UY hl hF
  exact⟨n,arr,e,mb,ms',h3,hp,h4,h5,fun g' H hb=>⟨vs,rfl,h6 g' H hb⟩⟩
theorem dG.putN(R:dG C E g st tm w){d:Nat}{a:AV}{v:Value}{ms:List (List Nat)}{k:St->Option Q}{r:Q}(h:LB g w a v ms)(F:dF g w (aj ms))(hk:st.putN d a k=some r):
 ∃g' st',k st'=some r/\dG C E g' st' (tm.setIfInBounds d v) w:=by
 unfold St.putN at hk
 split at hk
 ·exact R.put h F hk
 ·rename_i cs a' hl
  split at hk
  ·rename_i hds hb
   have hds:=of_decide_eq_true hds
   obtain⟨n,arr,e,mb,ms',hh,hp,hfl,hcs,hrest⟩:=aac hl h
   have hnd:=hp.nodup_iff.1 F.nodup
   simp only[List.nodup_cons,List.mem_append]at hnd
   obtain⟨hn1,hnd2⟩:=hnd
   have hmem:∀b,b=n\/b∈aj mb\/b∈aj ms'->b∈aj ms:=fun b hb=>hp.mem_iff.2 (by simpa using hb)
   have hjn:=F.junk n (hmem n (.inl rfl))
   obtain⟨H1,R1⟩:=R.adopt (by rw[<-R.lenN];exact hds) hjn hh hb
   have junk1:∀b,b≠n->g.lab b= .junk->(g.adopt n d).lab b= .junk:=fun b hb h=>by simp only[Gh.adopt,if_neg hb];exact h
   have F1:dF (g.adopt n d) w (aj mb):=⟨(List.nodup_append.1 hnd2).1,fun b hb=>junk1 b (fun e=>hn1 (.inl (e▸hb))) (F.junk b (hmem b (.inr (.inl hb)))),fun b hb=>F.size b (hmem b (.inr (.inl hb)))⟩
   have F2:dF (g.adopt n d) w (aj ms'):=⟨(List.nodup_append.1 hnd2).2.1,fun b hb=>junk1 b (fun e=>hn1 (.inr (e▸hb))) (F.junk b (hmem b (.inr (.inr hb)))),fun b hb=>F.size b (hmem b (.inr (.inr hb)))⟩
   have hd:d<st.boxes.length:=(List.getElem?_eq_some_iff.1 hb).1
   have hcs1:bS (g.adopt n d) w cs arr.toList mb:=bS.mono H1 (fun b hb=>rfl) (hcs.fs hfl)
   obtain⟨g2,L,R2⟩:=R1.fillBox (b:=d) (n:=n) (cs:=cs) (ms:=mb) (by simp only;exact List.getElem?_set_self hd) (by simp[Gh.adopt])
    (fun m j o l c hm=>by
      obtain⟨t,x,hx⟩:=R1.own m _ o l c hm
      simp only[St.atPlace,List.getD_eq_getElem?_getD,List.getElem?_set_self hd,Option.getD_some,List.getElem?_replicate]at hx
      split at hx<;>cases hx) hh hcs1 F1
   have H2:=L.steps F1
   have H:gM (fun _=>True) (fun _=>True) g g2 w w:={
    imm:=fun n h=>let⟨a,_⟩:=H1.imm n h;⟨(H2.imm n a).1,rfl⟩
    own:=fun n q o l c _ h=>let⟨a,_⟩:=H1.own n q o l c trivial h;⟨(H2.own n q o l c trivial a).1,rfl⟩
    bx:=fun b n _ h=>H2.bx b n trivial (H1.bx b n trivial h)}
   have hF:=hrest g2 H (H2.bx d n trivial (by simp[Gh.adopt]))
   have F3:dF g2 w (aj ms'):=by
    refine⟨F2.nodup,fun b hb=> ?_,F2.size⟩
    rcases L.lab b with e|⟨hm,_⟩
    ·rw[e];exact F2.junk b hb
    ·exact absurd rfl ((List.nodup_append.1 hnd2).2.2 b hm b hb)
   have hset:(st.boxes.set d (some (false,List.replicate arr.toList.length CV.undef))).set d (some (false,cs))=st.boxes.set d (some (false,cs)):=List.set_set ..
   rw[hset]at R2
   exact R2.put hF F3 hk
  ·cases hk
end
end Go.Vai
