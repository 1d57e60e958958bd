/- No conditions. -/
import Derived.Test.YtjkljnflaifbhaaGreatDoorVai11
namespace Go.Vai
open Go
section
variable {C:gY} {E:iU} {g:Gh} {st:St} {tm:Array Value} {w:World} {Q:Type}
theorem dG.newBox(R:dG C E g st tm w){d:Nat}{cs:List CV}{vs:Array Value}{ms:List (List Nat)}(e:TypeId)(hdn:d<E.n)
 (hb:st.boxes[d]?=some none) (h:bS g w cs vs.toList ms) (F:dF g w (aj ms)):
 ∃g',dG C E g' ⟨st.slots,st.boxes.set d (some (false,cs)),st.io⟩ tm {w with heap:=w.heap.push (.cells vs e)}/\g'.bx d=some w.heap.size:=by
 have hd:d<st.boxes.length:=(List.getElem?_eq_some_iff.1 hb).1
 have hno:∀n,g.bx d≠some n:=fun n hn=>by
  obtain⟨x,hx⟩:=R.bx d n hn
  rw[hb]at hx;cases hx
 obtain⟨g1,L,hr⟩:=Qy (w:=w) (Place.cell d) (fun i j e=>by injection e) cs 0 vs.toList ms g h F (fun j _ n o l c e=>by
  obtain⟨t,x,hx⟩:=R.own n _ o l c e
  simp only[St.atPlace,List.getD_eq_getElem?_getD,hb]at hx
  cases hx)
 have H1:=L.steps F
 have keep:∀n,g.lab n≠ .junk->g1.lab n=g.lab n:=by
  intro n hn'
  rcases L.lab n with e|⟨hm,_⟩
  ·exact e
  ·exact absurd (F.junk n hm) hn'
 have hnew:g1.lab w.heap.size= .junk:=by
  rcases L.lab w.heap.size with e|⟨hm,_⟩
  ·rw[e];exact R.junk
  ·exact absurd (F.size _ hm) (Nat.lt_irrefl _)
 obtain⟨g',hlab,hbx⟩:∃g':Gh,(∀n,g'.lab n=if n=w.heap.size then .box d else g1.lab n)/\(∀b,g'.bx b=if b=d then some w.heap.size else g1.bx b):=
  ⟨⟨fun n=>if n=w.heap.size then .box d else g1.lab n,fun b=>if b=d then some w.heap.size else g1.bx b⟩,fun _=>rfl,fun _=>rfl⟩
 have G:=sS.push w (.cells vs e)
 have old:∀n,n≠w.heap.size->g'.lab n=g1.lab n:=fun n hn=>by rw[hlab,if_neg hn]
 have ne:∀n,g.lab n≠ .junk->n≠w.heap.size:=fun n hn e=>hn (by rw[e];exact R.junk)
 have same:∀n,g.lab n≠ .junk->g'.lab n=g.lab n:=fun n hn=>(old n (ne n hn)).trans (keep n hn)
 have ne1:∀n,g1.lab n≠ .junk->n≠w.heap.size:=fun n hn e=>hn (by rw[e];exact hnew)
 have lt1:∀n,g1.lab n≠ .junk->n<w.heap.size:=fun n hn=>by
  rcases L.lab n with e'|⟨hm,_⟩
  ·exact R.size n (by rw[<-e'];exact hn)
  ·exact F.size n hm
 have heap1:∀n,g1.lab n≠ .junk->(w.heap.push (.cells vs e))[n]?=w.heap[n]?:=fun n hn=>G.heap n (lt1 n hn)
 have bxs:∀b n,g1.bx b=some n->g'.bx b=some n:=fun b n hn=>by
  rw[L.bx]at hn
  have hbd:b≠d:=fun e=>by subst e;exact hno n hn
  rw[hbx,if_neg hbd,L.bx];exact hn
 have H2:gM (fun _=>True) (fun _=>True) g1 g' w {w with heap:=w.heap.push (.cells vs e)}:={
  imm:=fun n hn=>⟨by rw[old n (ne1 n (by rw[hn];simp)),hn],heap1 n (by rw[hn];simp)⟩
  own:=fun n q o l c _ hn=>⟨by rw[old n (ne1 n (by rw[hn];simp)),hn],heap1 n (by rw[hn];simp)⟩
  bx:=fun b n _ hn=>bxs b n hn}
 have H:gM (fun _=>True) (fun _=>True) g g' w {w with heap:=w.heap.push (.cells vs e)}:={
  imm:=fun n hn=>by
   obtain⟨a,b⟩:=H2.imm n (H1.imm n hn).1
   exact⟨a,b⟩
  own:=fun n q o l c _ hn=>by
   obtain⟨a,b⟩:=H2.own n q o l c trivial (H1.own n q o l c trivial hn).1
   exact⟨a,b⟩
  bx:=fun b n _ hn=>bxs b n (by rw[L.bx];exact hn)}
 refine⟨g', ?_,by rw[hbx,if_pos rfl]⟩
 exact{
  len:=R.len
  lenN:=R.lenN
  lenB:=by simp[R.lenB]
  io:=R.io.mono H
  slots:=fun i a hi=>by obtain⟨v,hv,ha⟩:=R.slots i a hi;exact⟨v,hv,ha.mono H⟩
  boxes:=by
   intro b ro cs' hb'
   by_cases he:b=d
   ·subst he
    simp only[List.getElem?_set_self hd,Option.some.injEq,Prod.mk.injEq]at hb'
    obtain⟨rfl,rfl⟩:=hb'
    exact⟨w.heap.size,vs,e,(0,0),by rw[hbx,if_pos rfl],by rw[hlab,if_pos rfl],by simp,fun _=>rfl,hr.mono H2⟩
   ·simp only[List.getElem?_set_ne (fun e=>he e.symm)]at hb'
    obtain⟨n,vs',e',fz,k1,k2,k3,k4,k5⟩:=R.boxes b ro cs' hb'
    have hj:g.lab n≠ .junk:=by rw[k2];cases ro<;>simp
    exact⟨n,vs',e',fz,H.bx b n trivial k1,by rw[same n hj];exact k2,by rw[show(w.heap.push (.cells vs e))[n]?=w.heap[n]? from G.heap n (R.size n hj)];exact k3,k4,k5.mono H⟩
  bx:=by
   intro b n hn
   by_cases he:b=d
   ·subst he;exact⟨_,List.getElem?_set_self hd⟩
   ·rw[hbx,if_neg he,L.bx]at hn
    obtain⟨x,hx⟩:=R.bx b n hn
    exact⟨x,by rw[List.getElem?_set_ne (fun e=>he e.symm)];exact hx⟩
  own:=by
   intro n p o l c hl
   have hn:n≠w.heap.size:=fun e=>by rw[hlab,if_pos e]at hl;cases hl
   rw[old n hn]at hl
   rcases L.lab n with e'|⟨_,q,_,_,_,⟨j,t,x,hq,hj⟩,e'⟩
   ·rw[e']at hl
    obtain⟨t,x,hx⟩:=R.own n p o l c hl
    refine⟨t,x, ?_⟩
    cases p with
    |slot i k j=>exact hx
    |arg j=>exact hx
    |cell b j=>
     have he:b≠d:=fun e=>by
      subst e
      simp only[St.atPlace,List.getD_eq_getElem?_getD,hb]at hx
      cases hx
     simp only[St.atPlace,List.getD_eq_getElem?_getD,List.getElem?_set_ne (fun e=>he e.symm)]at hx⊢
     exact hx
   ·rw[hl]at e';injection e' with e';subst e';subst hq
    refine⟨t,x, ?_⟩
    simp only[St.atPlace,List.getD_eq_getElem?_getD,List.getElem?_set_self hd,Option.getD_some,Nat.zero_add,hj]
  uniq:=by
   intro n m p o l c o' l' c' a1 a2
   have n1:n≠w.heap.size:=fun e=>by rw[hlab,if_pos e]at a1;cases a1
   have n2:m≠w.heap.size:=fun e=>by rw[hlab,if_pos e]at a2;cases a2
   rw[old n n1]at a1
   rw[old m n2]at a2
   by_cases hp:∃j t x,p=Place.cell d (0+j)/\cs[j]?=some (.own t x)
   ·exact L.uniq n m p _ _ _ _ _ _ hp a1 a2
   ·have back:∀n o l c,g1.lab n= .own p o l c->g.lab n= .own p o l c:=by
     intro n o l c h
     rcases L.lab n with e|⟨_,q,o',l',c',hq,e⟩
     ·rw[<-e];exact h
     ·rw[h]at e;injection e with e;subst e;exact(hp hq).elim
    exact R.uniq n m p _ _ _ _ _ _ (back _ _ _ _ a1) (back _ _ _ _ a2)
  uniqB:=by
   intro n b hl
   by_cases hn:n=w.heap.size
   ·rw[hlab,if_pos hn]at hl
    injection hl with hl
    subst hl
    rw[hbx,if_pos rfl,hn]
   ·rw[old n hn]at hl
    rcases L.lab n with e'|⟨_,q,_,_,_,_,e'⟩
    ·exact H.bx b n trivial (R.uniqB n b (by rw[<-e'];exact hl))
    ·rw[hl]at e';cases e'
  size:=by
   intro n hl
   simp only[Array.size_push]
   by_cases hn:n=w.heap.size
   ·omega
   ·rw[old n hn]at hl
    have:=lt1 n hl;omega
  glob:=by
   intro k cs' hc
   obtain⟨vs',e',fz,k1,k2,k3⟩:=R.glob k cs' hc
   exact⟨vs',e',fz,by rw[(H.imm k k2).2];exact k1,(H.imm k k2).1,k3⟩
  kept:={
   os:=R.kept.os
   tape:=R.kept.tape
   output:=R.kept.output
   size:=Nat.le_trans R.kept.size (by simp)
   imm:=fun n hn' hl=>by
    obtain⟨k1,k2⟩:=R.kept.imm n hn' hl
    exact⟨(H.imm n k1).1,by rw[(H.imm n k1).2];exact k2⟩
   far:=fun n hn' hl=>by
    obtain⟨k1,k2⟩:=R.kept.far n hn' hl
    have hj:g.lab n≠ .junk:=by rw[k1];simp
    exact⟨(same n hj).trans k1,(G.heap n (R.size n hj)).trans k2⟩
   old:=R.kept.old
   lent:=fun b n hb' h=>by
    rw[hbx]at h
    split at h
    ·rename_i e;omega
    ·exact R.kept.lent b n hb' (by rw[<-L.bx];exact h)}}
theorem Pk(R:dG C E g st tm w){d:Nat}{cs:List CV}{vs:Array Value}{ms:List (List Nat)}{k:St->Option Q}{r:Q}(e:TypeId)
 (h:bS g w cs vs.toList ms) (F:dF g w (aj ms)) (hk:st.newBox d cs k=some r):
 ∃g' st',k st'=some r/\dG C E g' st' (tm.setIfInBounds d (.pointer (some ⟨w.heap.size,0,none⟩))) {w with heap:=w.heap.push (.cells vs e)}:=by
 unfold St.newBox at hk
 split at hk
 ·rename_i hd
  simp only[Bool.and_eq_true,decide_eq_true_eq]at hd
  obtain⟨hd,hds⟩:=hd
  split at hk
  ·cases hk
  ·split at hk
   ·rename_i hb
    have hb':st.boxes[d]?=some none:=by
     rw[List.getD_eq_getElem?_getD,List.getElem?_eq_getElem hd]at hb
     rw[List.getElem?_eq_getElem hd]
     simpa using hb
    obtain⟨g1,R1,hbx⟩:=R.newBox e (by rw[<-R.lenN];exact hds) hb' h F
    have hF:LB g1 {w with heap:=w.heap.push (.cells vs e)} (.c (.ptr d 0)) (.pointer (some ⟨w.heap.size,0,none⟩)) [[]]:=
     ⟨_,[],[],[],rfl,rfl,⟨rfl,fun _=>⟨_,rfl,hbx⟩⟩,rfl,rfl⟩
    exact R1.put hF dF.nil hk
   ·cases hk
 ·cases hk
theorem NV.stolen(R:dG C E g st tm w){v:Val}{vx:Value}(hx:NV g w v vx):
 ∃g1 ms,dG C E g1 (kp [] v.cs st).2 tm w/\FV g1 w ⟨v.agg,(kp [] v.cs st).1⟩ vx ms/\dF g1 w (aj ms)/\wn g g1 (aj ms):=by
 obtain⟨vg,vcs⟩:=v
 cases vg with
 |true=>
  obtain⟨vs,rfl,hv⟩:=hx
  obtain⟨g1,ms,R1,F1,Fr,L⟩:=uU vcs [] st g _ R hv.ls
  exact⟨g1,ms,R1,⟨vs,rfl,F1⟩,Fr,L⟩
 |false=>
  have hv:bg g w vcs [vx]:=hx
  obtain⟨g1,ms,R1,F1,Fr,L⟩:=uU vcs [] st g _ R hv.ls
  exact⟨g1,ms,R1,F1,Fr,L⟩
theorem NV.stolenB(R:dG C E g st tm w){v:Val}{vx:Value}(hx:NV g w v vx):
 ∃g1 ms,dG C E g1 (dI [] v.cs st).2 tm w/\FV g1 w ⟨v.agg,(dI [] v.cs st).1⟩ vx ms/\dF g1 w (aj ms)/\Ic g g1 (aj ms):=by
 obtain⟨vg,vcs⟩:=v
 cases vg with
 |true=>
  obtain⟨vs,rfl,hv⟩:=hx
  obtain⟨g1,ms,R1,F1,Fr,L⟩:=zH vcs [] st g _ R hv.ls (fun _ h=>(List.not_mem_nil h).elim)
  exact⟨g1,ms,R1,⟨vs,rfl,F1⟩,Fr,L⟩
 |false=>
  have hv:bg g w vcs [vx]:=hx
  obtain⟨g1,ms,R1,F1,Fr,L⟩:=zH vcs [] st g _ R hv.ls (fun _ h=>(List.not_mem_nil h).elim)
  exact⟨g1,ms,R1,F1,Fr,L⟩
theorem ZD{a:Act}(R:dG C E g st a.tmps w){k:St->Option Q}{r:Q}{strict:Bool}{o:Oper}{x:Operand}(h:Tv C strict st o x k=some r):
 ∃d g' st',o.dst=some d/\k st'=some r/\dG C E g' st' (a.tmps.setIfInBounds d (a.eval x)) w:=by
 unfold Tv at h
 split at h
 ·cases h
 ·rename_i d hd
  have hx:=sX R o.type x
  split at h
  ·rename_i v hv
   rw[hv]at hx
   split at h
   ·split at h
    ·obtain⟨ms,h1,h2⟩:=NV.fs (x:=v) hx
     obtain⟨g',st',h3,h4⟩:=R.put (a:=.one v) h1 (by rw[h2];exact dF.nil) h
     exact⟨d,g',st',hd,h3,h4⟩
    ·cases h
   ·obtain⟨g1,ms,R1,F1,Fr,L⟩:=NV.stolenB (v:=v) R hx
    obtain⟨g',st',h3,h4⟩:=R1.put (a:=.one ⟨v.agg,(dI [] v.cs st).1⟩) F1 Fr h
    exact⟨d,g',st',hd,h3,h4⟩
  ·cases h
theorem aaZ(R:dG C E g st tm w){k:St->Option Q}{r:Q}{o:Oper}{T:TypeId}(h:Xa C st o T k=some r):
 ∃d v g' st' w',o.dst=some d/\k st'=some r/\(Instr.alloc T true (.tuple #[])).run C.P w= .ok v w'/\dG C E g' st' (tm.setIfInBounds d v) w':=by
 unfold Xa at h
 split at h
 ·rename_i d t hd ht
  obtain⟨i,z,hi,hz,hs,hf⟩:=IT ht
  obtain⟨ms,h1,h2⟩:=(G0 (g:=g) (w:=w) t _ hf).fs
  obtain⟨g',st',h3,h4⟩:=Pk R T h1 (by rw[h2];exact dF.nil) h
  refine⟨d,_,g',st',_,hd,h3, ?_,h4⟩
  simp only[Instr.alloc,Sem.run_bind,KN hi hz,Result.andThen_ok,newVar,newRow,run_newObj,Sem.run_pure]
 ·cases h
theorem adj{a:Act}(R:dG C E g st a.tmps w){k:St->Option Q}{r:Q}{o:Oper}{T:TypeId}{x:Operand}(h:aew C st o T x k=some r):
 ∃d v g' st' w',o.dst=some d/\k st'=some r/\(Instr.box T (a.eval x)).run C.P w= .ok v w'/\dG C E g' st' (a.tmps.setIfInBounds d v) w':=by
 unfold aew at h
 split at h
 ·rename_i d v hd hv
  have hx:=sX R T x
  rw[hv]at hx
  obtain⟨g1,ms,R1,F1,Fr,L⟩:=NV.stolenB (v:=v) R hx
  have hsol:(dI [] v.cs st).1.all CV.solid=true:=by
   unfold St.newBox at h
   split at h
   ·cases hc:(dI [] v.cs st).1.all CV.solid with
    |true=>rfl
    |false=>rw[hc]at h;cases h
   ·cases h
  obtain⟨g',st',h3,h4⟩:=Pk R1 T (F1.cells hsol) Fr h
  refine⟨d,_,g',st',_,hd,h3, ?_,h4⟩
  simp only[Instr.box,Sem.run_bind,Result.andThen_ok,newVar,newRow,run_newObj,Sem.run_pure]
 ·cases h
theorem XM{α:Type}(k lo:Nat)(ys l:List α):(MK k lo ys l).length=l.length:=by simp[MK]
theorem Q2{α:Type}(k lo:Nat)(ys l:List α)(i:Nat):(MK k lo ys l)[i]?=(l[i]?).map (WD lo ys (k+i)):=by simp[MK,List.getElem?_mapIdx]
theorem Q3{α:Type}(k lo:Nat)(l:List α):MK k lo [] l=l:=by
 apply List.ext_getElem?
 intro i
 rw[Q2]
 cases l[i]? with
 |none=>rfl
 |some x=>simp[WD]
theorem cA.at'{p:Nat->Place}:∀{cs:List CV} {i:Nat} {vs:List Value} {j:Nat} {c:CV},cA g w p i cs vs->cs[j]?=some c->∃v,cu g w (p (i+j)) c v
 |[],_,_,_,_,_,h=>by simp at h
 |c'::r,i,_,j,c,h,hj=>by
  obtain⟨v,vs',_,h1,h2⟩:=h
  cases j with
  |zero=>
   simp at hj;subst hj
   exact⟨v,h1⟩
  |succ j=>
   obtain⟨u,hu⟩:=cA.at' h2 (by simpa using hj)
   exact⟨u,by rw[show i+(j+1)=i+1+j by omega];exact hu⟩
theorem yG.at'{p:Nat->Place}{x:Val}{v:Value}(h:yG g w p x v){j:Nat}{c:CV}(hj:x.cs[j]?=some c):∃u,cu g w (p j) c u:=by
 obtain⟨a,cs⟩:=x
 cases a with
 |true=>
  obtain⟨vs,_,h⟩:=h
  obtain⟨u,hu⟩:=cA.at' h hj
  exact⟨u,by rw[Nat.zero_add]at hu;exact hu⟩
 |false=>
  obtain⟨u,hu⟩:=cA.at' (cs:=cs) h hj
  exact⟨u,by rw[Nat.zero_add]at hu;exact hu⟩
theorem uu.at'{i:Nat}:∀{l:List Val} {k:Nat} {vs:List Value} {m:Nat} {x:Val},uu g w i k l vs->l[m]?=some x->∃v,yG g w (.slot i (k+m)) x v
 |[],_,_,_,_,_,h=>by simp at h
 |y::r,k,_,m,x,h,hm=>by
  obtain⟨v,vs',_,h1,h2⟩:=h
  cases m with
  |zero=>simp at hm;subst hm;exact⟨v,h1⟩
  |succ m=>
   obtain⟨u,hu⟩:=uu.at' h2 (by simpa using hm)
   exact⟨u,by rw[show k+(m+1)=k+1+m by omega];exact hu⟩
theorem dG.atPlace(R:dG C E g st tm w){q:Place}{c:CV}(h:st.atPlace q=c)(hc:c≠ .undef):∃u,cu g w q c u:=by
 have getD:∀{cs:List CV} {j:Nat},cs.getD j .undef=c->cs[j]?=some c:=by
  intro cs j h
  rw[List.getD_eq_getElem?_getD]at h
  cases hj:cs[j]? with
  |none=>rw[hj]at h;exact absurd h.symm hc
  |some c'=>rw[hj]at h;simp at h;rw[h]
 cases q with
 |slot i k j=>
  simp only[St.atPlace,St.get,List.getD_eq_getElem?_getD]at h
  cases hs:st.slots[i]? with
  |none=>
   rw[hs]at h
   simp only[Option.getD_none]at h
   split at h
   ·cases j with
    |zero=>exact absurd h.symm hc
    |succ j=>exact absurd h.symm hc
   ·exact absurd h.symm hc
  |some a=>
   rw[hs]at h
   simp only[Option.getD_some]at h
   obtain⟨v,_,ha⟩:=R.slots i a hs
   cases a with
   |one x=>
    simp only at h
    split at h
    ·rename_i hk
     subst hk
     have ha:yG g w (.slot i 0) x v:=ha
     exact yG.at' ha (getD (by rw[List.getD_eq_getElem?_getD];exact h))
    ·exact absurd h.symm hc
   |tup l=>
    simp only at h
    cases hl:l[k]? with
    |none=>rw[hl]at h;exact absurd h.symm hc
    |some x=>
     rw[hl]at h
     obtain⟨vs,_,hv⟩:=ha
     obtain⟨u,hu⟩:=uu.at' hv hl
     rw[Nat.zero_add]at hu
     exact yG.at' hu (getD (by rw[List.getD_eq_getElem?_getD];exact h))
 |cell b j=>
  simp only[St.atPlace]at h
  split at h
  ·rename_i ro cs hb
   have hb':st.boxes[b]?=some (some (ro,cs)):=by
    rw[List.getD_eq_getElem?_getD]at hb
    cases hx:st.boxes[b]? with
    |none=>rw[hx]at hb;cases hb
    |some y=>rw[hx]at hb;simpa using hb
   obtain⟨n,vs,e,fz,_,_,_,_,h5⟩:=R.boxes b ro cs hb'
   obtain⟨u,hu⟩:=cA.at' h5 (getD h)
   exact⟨u,by rw[Nat.zero_add]at hu;exact hu⟩
  ·exact absurd h.symm hc
 |arg j=>
  obtain⟨u,hu⟩:=cA.at' R.io (getD h)
  exact⟨u,by rw[Nat.zero_add]at hu;exact hu⟩
theorem HR.bulk(R:dG C E g st tm w){w':World}{p:Place}{b off n c:Nat}{arr arr':Array Value}{e e':TypeId}{t:Ty}{lo:Nat}{ys:List t.T}
 (hb:g.lab b= .own p off n c) (hh:w.heap[b]?=some (.cells arr e (0,0))) (hh':w'.heap[b]?=some (.cells arr' e' (0,0))) (hs:arr'.size=arr.size)
 (hin:∀i y,ys[i]?=some y->ER g.imm w' t y (nS arr' (off+(lo+i)*t.size) t.size)) (hout:∀j,j<lo\/lo+ys.length<=j->nS arr' (off+j*t.size) t.size=nS arr (off+j*t.size) t.size)
 (hI:∀n,g.lab n= .imm->g.lab n= .imm/\w'.heap[n]?=w.heap[n]?) {full:Bool} {k:Nat} {l:List t.T} {v:Value} (h:HR g w (g.owns p) full k t l v):
 HR g w' (g.owns p) full k t (MK k lo ys l) v:=by
 have hlen:=XM k lo ys l
 obtain⟨A,cap,hv,hc,h⟩:=h
 refine⟨A,cap,by rw[hlen];exact hv,by rw[hlen];exact hc,h.imp id ?_⟩
 rintro ⟨b0,off0,n0,c0,cs0,e0,hA,hl,hf,hh0,hs0,hx⟩
 have hbb:b0=b:=R.uniq b0 b p off0 n0 c0 off n c hl hb
 subst hbb
 have hl':g.lab b0= .own p off0 n0 c0:=hl
 rw[hb]at hl'
 injection hl' with _ h1 h2 h3
 subst h1;subst h2;subst h3
 rw[hh]at hh0
 simp only[Option.some.injEq,Obj.cells.injEq]at hh0
 obtain⟨rfl,rfl,_⟩:=hh0
 refine⟨b0,off,n,c,arr',e',hA,hb,by rw[hlen];exact hf,hh',by rw[hs];exact hs0,fun i x hi=> ?_⟩
 rw[Q2]at hi
 cases hli:l[i]? with
 |none=>rw[hli]at hi;cases hi
 |some x0=>
  rw[hli]at hi
  simp only[Option.map_some,Option.some.injEq]at hi
  have hx0:=hx i x0 hli
  rw[show off+k*t.size+i*t.size=off+(k+i)*t.size by rw[Nat.add_mul];omega]at hx0⊢
  have old:(k+i<lo\/lo+ys.length<=k+i)->ER g.imm w' t x0 (nS arr' (off+(k+i)*t.size) t.size):=fun h=>by
   rw[hout _ h];exact ER.mono hI hx0
  unfold WD at hi
  by_cases hlo:lo<=k+i
  ·rw[if_pos hlo]at hi
   cases hy:ys[k+i-lo]? with
   |none=>
    rw[hy]at hi
    simp only[Option.getD_none]at hi
    subst hi
    have:=List.getElem?_eq_none_iff.1 hy
    exact old (.inr (by omega))
   |some y=>
    rw[hy]at hi
    simp only[Option.getD_some]at hi
    subst hi
    have:=hin _ _ hy
    rw[show lo+(k+i-lo)=k+i by omega]at this
    exact this
  ·rw[if_neg hlo]at hi
   subst hi
   exact old (.inl (by omega))
theorem dG.bulk(R:dG C E g st tm w){p:Place}{t:Ty}{L:List t.T}(hat:st.atPlace p= .own t L){b off n c:Nat}{arr arr':Array Value}{e:TypeId}{lo:Nat}{ys:List t.T}
 (hlab:g.lab b= .own p off n c) (hheap:w.heap[b]?=some (.cells arr e (0,0))) (hs:arr'.size=arr.size)
 (hin:∀i y,ys[i]?=some y->ER g.imm w t y (nS arr' (off+(lo+i)*t.size) t.size)) (hout:∀j,j<lo\/lo+ys.length<=j->nS arr' (off+j*t.size) t.size=nS arr (off+j*t.size) t.size):
 dG C E g (st.bulk p lo t ys) tm (w.setRow b arr'):=by
 have hheap':=setRow_heap w b arr arr' e (0,0) hheap
 have hI:∀m,g.lab m= .imm->g.lab m= .imm/\(w.setRow b arr').heap[m]?=w.heap[m]?:=
  fun m hm=>⟨hm,setRow_other w b m _ (fun e=>by rw[e,hlab]at hm;cases hm)⟩
 have H:gM (fun q=>q≠p) (fun _=>True) g g w (w.setRow b arr'):={
  imm:=hI
  own:=fun m q o l c hq hm=>⟨hm,setRow_other w b m _ (fun e=>by rw[e,hlab]at hm;injection hm with hm;exact hq hm.symm)⟩
  bx:=fun _ _ _ h=>h}
 have hin':∀i y,ys[i]?=some y->ER g.imm (w.setRow b arr') t y (nS arr' (off+(lo+i)*t.size) t.size):=fun i y hy=>ER.mono hI (hin i y hy)
 refine R.mapP _ ?_ ?_ ?_ ?_
 ·exact{
   lab:=fun _=>.inl rfl
   bx:=rfl
   imm:=fun m hm=>(hI m hm).2
   box:=fun m b' hm=>setRow_other w b m _ (fun e=>by rw[e,hlab]at hm;cases hm)
   far:=fun m hm=>setRow_other w b m _ (fun e=>by rw[e,hlab]at hm;cases hm)
   size:=by simp
   os:=rfl
   tape:=rfl
   output:=rfl}
 ·intro q;split<;>rfl
 ·intro q c u _ hc
  have refr:∀c',(∀t l,q=p->c'≠ .own t l)->cu g w q c' u->cu g (w.setRow b arr') q (c'.bulk p lo t ys) u:=by
   intro c' hno hc
   cases c' with
   |view q' f k t' l'=>
    simp only[CV.bulk]
    split
    ·rename_i hq
     subst hq
     split
     ·rename_i htt
      subst htt
      exact⟨HR.bulk R hlab hheap hheap' hs hin' hout hI hc.1,hc.2⟩
     ·trivial
    ·rename_i hq
     exact cu.mono H (p:=q) (c:=.view q' f k t' l') hq hc
   |va q' i' t' x' o'=>
    simp only[CV.bulk]
    split
    ·trivial
    ·rename_i hq
     exact cu.mono H (p:=q) (c:=.va q' i' t' x' o') hq hc
   |own t' l'=>exact cu.mono H (p:=q) (c:=.own t' l') (fun e=>hno _ _ e rfl) hc
   |np cs=>trivial
   |undef=>trivial
   |v x=>exact hc
   |emp=>exact hc
   |sl t l=>exact cu.mono H (p:=q) (c:=.sl t l) trivial hc
   |ptr b o=>exact cu.mono H (p:=q) (c:=.ptr b o) trivial hc
   |gp b o=>exact hc
   |lb n=>exact hc
   |ea t x o=>exact cu.mono H (p:=q) (c:=.ea t x o) trivial hc
   |fn f caps=>exact cu.mono H (p:=q) (c:=.fn f caps) (fun _ _=>trivial) hc
  by_cases hq:q=p
  ·rw[if_pos hq]
   cases c with
   |own t' l'=>
    simp only[CV.bulkOwn]
    split
    ·rename_i htt
     subst htt
     subst hq
     exact HR.bulk R hlab hheap hheap' hs hin' hout hI hc
    ·trivial
   |_=>exact refr _ (fun _ _ _ e=>by cases e) hc
  ·rw[if_neg hq]
   exact refr c (fun _ _ e=>absurd e hq) hc
 ·intro m q o'' l'' c'' hm t2 x2 hx2
  by_cases hq:q=p
  ·subst hq
   rw[hat]at hx2
   injection hx2 with h1 h2
   subst h1
   exact⟨_,_,by rw[if_pos rfl];simp only[CV.bulkOwn,dif_pos];rfl⟩
  ·exact⟨t2,x2,by rw[if_neg hq];rfl⟩
theorem dG.bulk_nil(R:dG C E g st tm w){p:Place}{t:Ty}{L:List t.T}(hat:st.atPlace p= .own t L){lo:Nat}:dG C E g (st.bulk p lo t []) tm w:=by
 have H:gM (fun _=>True) (fun _=>True) g g w w:=⟨fun _ h=>⟨h,rfl⟩,fun _ _ _ _ _ _ h=>⟨h,rfl⟩,fun _ _ _ h=>h⟩
 refine R.mapP _ ?_ ?_ ?_ ?_
 ·exact{lab:=fun _=>.inl rfl,bx:=rfl,imm:=fun _ _=>rfl,box:=fun _ _ _=>rfl,far:=fun _ _=>rfl,size:=Nat.le_refl _,os:=rfl,tape:=rfl,output:=rfl}
 ·intro q;split<;>rfl
 ·intro q c u _ hc
  have refr:∀c',cu g w q c' u->cu g w q (c'.bulk p lo t []) u:=by
   intro c' hc
   cases c' with
   |view q' f k t' l'=>
    simp only[CV.bulk]
    split
    ·split
     ·rename_i htt
      subst htt
      rw[Q3];exact hc
     ·trivial
    ·exact hc
   |va q' i' t' x' o'=>
    simp only[CV.bulk]
    split
    ·trivial
    ·exact hc
   |_=>exact hc
  by_cases hq:q=p
  ·rw[if_pos hq]
   cases c with
   |own t' l'=>
    simp only[CV.bulkOwn]
    split
    ·rename_i htt
     subst htt
     rw[Q3];exact hc
    ·trivial
   |_=>exact refr _ hc
  ·rw[if_neg hq];exact refr c hc
 ·intro m q o'' l'' c'' hm t2 x2 hx2
  by_cases hq:q=p
  ·subst hq
   rw[hat]at hx2
   injection hx2 with h1 h2
   subst h1
   exact⟨_,_,by rw[if_pos rfl];simp only[CV.bulkOwn,dif_pos];rfl⟩
  ·exact⟨t2,x2,by rw[if_neg hq];rfl⟩
theorem Lv{p:Place}{t:Ty}{L:List t.T}(h:WE st p t=some L):st.atPlace p= .own t L:=by
 unfold WE at h
 split at h
 ·rename_i t' L' hat
  split at h
  ·rename_i e
   subst e
   cases h
   exact hat
  ·cases h
 ·cases h
theorem MZ(R:dG C E g st tm w){p:Place}{t:Ty}{L:List t.T}(hat:st.atPlace p= .own t L){f:Bool}{lo:Nat}{l:List t.T}{A:Option Addr}{len cap:Nat}
 (hv:HR g w (g.owns p) f lo t l (.slice A len cap)) {s:Nat} {ys:List t.T} {news:List Value} (hnl:news.length=ys.length*t.size) (hnr:mz g w t ys news.toArray) (hfit:s+ys.length<=cap):
 ∃w',(match A with|some a=>storeCells (a.add (s*t.size)) news|none=>pure ()).run C.P w= .ok () w'/\dG C E g (st.bulk p (lo+s) t ys) tm w'/\
  ∀f' k (l':List t.T) y,HR g w (g.owns p) f' k t l' y->HR g w' (g.owns p) f' k t (MK k (lo+s) ys l') y:=by
 by_cases h0:ys=[]
 ·subst h0
  have:news=[]:=List.length_eq_zero_iff.1 (by simpa using hnl)
  subst this
  exact⟨w,by cases A<;>simp[storeCells],R.bulk_nil hat,fun f' k l' y h=>by rw[Q3];exact h⟩
 ·have hpos:0<ys.length:=List.length_pos_iff.2 h0
  obtain⟨A',cap',he,hc,hl⟩:=hv
  simp only[Value.slice.injEq]at he
  obtain⟨rfl,_,rfl⟩:=he
  obtain⟨b,off,n,c,cs,e',rfl,hlab,_,hheap,hsize,_⟩:=hl.resolve_left (fun e=>by omega)
  have hm:(s+ys.length)*t.size<=cap*t.size:=Nat.mul_le_mul_right _ hfit
  rw[Nat.add_mul]at hm
  have hO:off+lo*t.size+s*t.size=off+(lo+s)*t.size:=by rw[Nat.add_mul];omega
  have hfits:off+lo*t.size+s*t.size+news.length<=cs.size:=by rw[hnl];omega
  have hst:=run_storeCells_at C.P b (off+lo*t.size+s*t.size) e' news 0 cs w hheap (by simpa using hfits) (mz.oneCell hnr hnl)
  simp only[Nat.add_zero]at hst
  have hal:cs.toList.length=cs.size:=Array.length_toList
  obtain⟨O,hOe⟩:∃O,O=off+lo*t.size+s*t.size:=⟨_,rfl⟩
  rw[<-hOe]at hst hO hfits
  obtain⟨arr',he'⟩:∃arr',arr'=(cs.toList.take O++news++cs.toList.drop (O+news.length)).toArray:=⟨_,rfl⟩
  have hget:∀q,arr'.toList[q]?=if q<O then cs.toList[q]? else if q<O+news.length then news[q-O]? else cs.toList[q]?:=fun q=>by
   rw[he'];exact Pn (l:=cs.toList) (vs:=news) (O:=O) (by rw[hal];omega) q
  have hsz:arr'.size=cs.size:=by
   rw[he']
   simp only[List.size_toArray,List.length_append,List.length_take,List.length_drop,hal];omega
  have hin:∀i y,ys[i]?=some y->ER g.imm w t y (nS arr' (off+(lo+s+i)*t.size) t.size):=by
   intro i y hy
   have hi:i<ys.length:=(List.getElem?_eq_some_iff.1 hy).1
   have hrow:=hnr i y hy
   have hmi:(i+1)*t.size<=ys.length*t.size:=Nat.mul_le_mul_right _ hi
   rw[Nat.add_mul]at hmi
   have e2:(lo+s+i)*t.size=(lo+s)*t.size+i*t.size:=Nat.add_mul ..
   have e:nS arr' (off+(lo+s+i)*t.size) t.size=nS news.toArray (i*t.size) t.size:=by
    apply List.ext_getElem?
    intro k
    rw[uk,uk,show news.toArray.toList=news from rfl,hget]
    by_cases hk:k<t.size
    ·rw[if_pos hk,if_pos hk,if_neg (by omega),if_pos (by omega)]
     congr 1;omega
    ·rw[if_neg hk,if_neg hk]
   rw[e];exact hrow
  have hout:∀j,j<lo+s\/lo+s+ys.length<=j->nS arr' (off+j*t.size) t.size=nS cs (off+j*t.size) t.size:=by
   intro j hj
   apply List.ext_getElem?
   intro k
   rw[uk,uk,hget]
   by_cases hk:k<t.size
   ·rw[if_pos hk,if_pos hk]
    rcases hj with hj|hj
    ·have:(j+1)*t.size<=(lo+s)*t.size:=Nat.mul_le_mul_right _ hj
     rw[Nat.add_mul j]at this
     rw[if_pos (by omega)]
    ·have:(lo+s+ys.length)*t.size<=j*t.size:=Nat.mul_le_mul_right _ hj
     rw[Nat.add_mul (lo+s)]at this
     rw[if_neg (by omega),if_neg (by omega)]
   ·rw[if_neg hk,if_neg hk]
  have hI:∀m,g.lab m= .imm->g.lab m= .imm/\(w.setRow b arr').heap[m]?=w.heap[m]?:=
   fun m hm=>⟨hm,setRow_other w b m _ (fun e=>by rw[e,hlab]at hm;cases hm)⟩
  refine⟨w.setRow b arr', ?_,R.bulk hat hlab hheap hsz hin hout,fun f' k l' y hr=>HR.bulk R hlab hheap (setRow_heap w b cs arr' e' (0,0) hheap) hsz (fun i y hy=>ER.mono hI (hin i y hy)) hout hI hr⟩
  simp only[Addr.add_eq]
  rw[<-hOe,he'];exact hst
theorem WH(R:dG C E g st tm w){p:Place}{t:Ty}{L:List t.T}(hat:st.atPlace p= .own t L){lo:Nat}{A:Option Addr}{len cap:Nat}(hpr:aap g p false lo t (.slice A len cap)){m:Nat}(h:lo+m<=L.length):
 m<=cap:=by
 obtain⟨b,off,n,c,A',len',cap',he,hlab,hc,_⟩:=hpr rfl
 simp only[Value.slice.injEq]at he
 obtain⟨_,_,rfl⟩:=he
 obtain⟨u,hu⟩:=R.atPlace hat (by simp)
 obtain⟨A0,cap0,rfl,hc0,hl⟩:=hu
 rcases hl with h0|⟨b0,off0,n0,c0,cs0,e0,_,hl0,hf0,_⟩
 ·omega
 ·obtain⟨_,_,rfl⟩:=hf0 rfl
  have hbb:=R.uniq b0 b p _ _ _ _ _ _ hl0 hlab
  subst hbb
  have hl0':g.lab b0= .own p off0 n0 c0:=hl0
  rw[hlab]at hl0'
  injection hl0' with _ _ _ k3
  omega
theorem aa3{a:Act}(R:dG C E g st a.tmps w){k:St->Option Q}{r:Q}{o:Oper}{T:TypeId}{x:AV}{vx:Value}(hx:kl g w x vx)(h:ZH C st o T x k=some r)(ty:TypeId):
 ∃g' st' w',k st'=some r/\(Builtin.clear_ #[T] ty #[vx]).run C.P w= .ok (.tuple #[]) w'/\dG C E g' st' (a.put o.dst (.tuple #[])).tmps w':=by
 unfold ZH at h
 split at h
 ·rename_i e t p f lo t' l he
  obtain⟨hu,ht⟩:=xR he
  split at h
  ·rename_i htt
   subst htt
   split at h
   ·rename_i L hown
    have hat:=Lv hown
    obtain⟨i,z,hi,hz,hs,hf⟩:=IT ht
    have hzs:z.cells.size=t'.size:=by have:=(Bh (g:=g) (w:=w) hf).length;simpa using this
    obtain⟨hv,hpr⟩:=hx.one_inv.2 (.slot 0 0 0)
    obtain⟨A,cap,rfl,hc,hl⟩:=hv
    have hrow:mz g w t' (List.replicate l.length t'.zero) (Builtin.zeroCells z.cells l.length).toList.toArray:=by
     have:=mz.zeros (g:=g) (w:=w) hf hzs l.length l.length (Nat.le_refl _)
     rw[Array.toArray_toList]
     simp only[Builtin.zeroCells]
     rw[hzs]at this⊢
     exact this
    obtain⟨w',h1,R1,hHR⟩:=MZ R hat (f:=f) (lo:=lo) (l:=l) (s:=0) (ys:=List.replicate l.length t'.zero) (news:=(Builtin.zeroCells z.cells l.length).toList) ⟨A,cap,rfl,hc,hl⟩
     (by simp[ET,hzs]) hrow (by simpa using hc)
    have hrun:(Builtin.clear_ #[T] ty #[.slice A l.length cap]).run C.P w= .ok (.tuple #[]) w':=by
     cases A with
     |none=>
      simp only[Sem.run_pure,Result.ok.injEq,true_and]at h1
      subst h1
      simp[Builtin.clear_,an hu]
     |some ad=>
      by_cases h0:l.length=0
      ·have hzz:(Builtin.zeroCells z.cells l.length).toList=[]:=List.length_eq_zero_iff.1 (by simp[ET,h0])
       rw[hzz]at h1
       simp only[storeCells,Sem.run_pure,Result.ok.injEq,true_and]at h1
       subst h1
       rw[h0]
       simp[Builtin.clear_,an hu]
      ·obtain⟨m,hm⟩:∃m,l.length=m+1:=⟨l.length-1,by omega⟩
       have h1':(storeCells ad (Builtin.zeroCells z.cells (m+1)).toList).run C.P w= .ok () w':=by
        rw[hm]at h1
        have e:ad.add (0*t'.size)=ad:=by simp[Addr.add]
        simp only at h1
        rw[e]at h1;exact h1
       rw[hm]
       simp[Builtin.clear_,an hu,KN hi hz,h1']
    rw[Nat.add_zero]at R1
    split at h
    ·exact⟨g,_,w',h,hrun,by rename_i hd;rw[hd];exact R1⟩
    ·rename_i d' hd
     obtain⟨ms,k1,k2⟩:=NV.fs (g:=g) (w:=w') (x:=⟨false,[.v (.tuple #[])]⟩) (v:=.tuple #[]) (kl.c ⟨rfl,fun _=>rfl⟩)
     obtain⟨g',st',k3,k4⟩:=R1.put (a:=.c (.v (.tuple #[]))) k1 (by rw[k2];exact dF.nil) h
     exact⟨g',st',w',k3,hrun,by rw[hd];exact k4⟩
   ·cases h
  ·cases h
 ·cases h
theorem ab2{a:Act}(R:dG C E g st a.tmps w){k:St->Option Q}{r:Q}{o:Oper}{T T2:TypeId}{x y:AV}{vx vy:Value}(hx:kl g w x vx)(hy:kl g w y vy)(h:ab1 C st o T T2 x y k=some r)(ty:TypeId):
 ∃g' st' w' v,k st'=some r/\(Builtin.copy_ #[T,T2] ty #[vx,vy]).run C.P w= .ok v w'/\dG C E g' st' (a.put o.dst v).tmps w':=by
 unfold ab1 at h
 split at h
 ·rename_i e t e2 p f lo t' l he hu2
  obtain⟨hu,ht⟩:=xR he
  split at h
  ·rename_i htt
   subst htt
   split at h
   ·rename_i ys L hnew hown
    have hat:=Lv hown
    obtain⟨A',cap',news,rfl,hnl,hnr,hnx⟩:=RX hy hnew
    obtain⟨hv,hpr⟩:=hx.one_inv.2 (.slot 0 0 0)
    obtain⟨A,cap,rfl,hc,hl⟩:=hv
    cases hd:decide (ys.length<=l.length)with
    |false=>rw[hd]at h;cases h
    |true=>
     rw[hd]at h
     simp only[cond_true]at h
     have hle:=of_decide_eq_true hd
     obtain⟨w',h1,R1,hHR⟩:=MZ R hat (f:=f) (lo:=lo) (l:=l) (s:=0) (ys:=ys) (news:=news) ⟨A,cap,rfl,hc,hl⟩ hnl hnr (by omega)
     have hrun:(Builtin.copy_ #[T,T2] ty #[.slice A l.length cap, .slice A' ys.length cap']).run C.P w= .ok (.int .i64 (ys.length:Nat)) w':=by
      have hnx':(Builtin.firstCells t'.size ys.length (.slice A' ys.length cap')).run C.P w= .ok news.toArray w:=hnx C.P w.drawn
      have hmin:Nat.min ys.length l.length=ys.length:=Nat.min_eq_left hle
      cases A with
      |none=>
       simp only[Sem.run_pure,Result.ok.injEq,true_and]at h1
       subst h1
       simp[Builtin.copy_,an hu,dL (sf ht),Builtin.lenOf,hmin,hnx',goInt]
      |some ad=>
       have e:ad.add (0*t'.size)=ad:=by simp[Addr.add]
       simp only at h1
       rw[e]at h1
       simp[Builtin.copy_,an hu,dL (sf ht),Builtin.lenOf,hmin,hnx',goInt,h1]
     rw[Nat.add_zero]at R1
     split at h
     ·exact⟨g,_,w',_,h,hrun,by rename_i hd';rw[hd'];exact R1⟩
     ·rename_i d' hd'
      obtain⟨ms,k1,k2⟩:=NV.fs (g:=g) (w:=w') (x:=⟨false,[.v (.int .i64 (ys.length:Nat))]⟩) (v:=.int .i64 (ys.length:Nat)) (kl.c ⟨rfl,fun _=>rfl⟩)
      obtain⟨g',st',k3,k4⟩:=R1.put (a:=.c (.v (.int .i64 (ys.length:Nat)))) k1 (by rw[k2];exact dF.nil) h
      exact⟨g',st',w',_,k3,hrun,by rw[hd'];exact k4⟩
   ·cases h
  ·cases h
 ·cases h
theorem ZC(R:dG C E g st tm w){k:St->Option Q}{r:Q}{o:Oper}{T T2:TypeId}{s x:AV}{vs vx:Value}(hs:kl g w s vs)(hx:kl g w x vx)
 (h:Lk C st o T T2 s x k=some r) (ty:TypeId):
 ∃d v g' st' w',o.dst=some d/\k st'=some r/\(Builtin.append_ #[T,T2] ty #[vs,vx]).run C.P w= .ok v w'/\dG C E g' st' (tm.setIfInBounds d v) w':=by
 unfold Lk at h
 split at h
 ·rename_i d e t d2 hd he hu2
  obtain⟨hu,ht⟩:=xR he
  split at h
  ·rename_i b new hb hnew
   obtain⟨A',cap',news,hvx,hnl,hnr,hnxd⟩:=RX hx hnew
   have Sm:∀{g1:Gh} {st1:St} {l:List t.T} {m:List Nat} {S:List Nat},dG C E g1 st1 tm w->wn g g1 S->cC g1 w (.own t l) vs m->dF g1 w (aj [m])->
    (l.length+new.length)*b<=70368744177664->l.length+new.length<=70368744177664->st1.put false d (.c (.own t (l++new))) k=some r->
    ∃d v g' st' w',o.dst=some d/\k st'=some r/\(Builtin.append_ #[T,T2] ty #[vs,vx]).run C.P w= .ok v w'/\dG C E g' st' (tm.setIfInBounds d v) w':=by
    intro g1 st1 l m S R1 L hF F h1 h2 hk
    have hnr1:mz g1 w t new news.toArray:=fun i x hi=>ER.mono (fun n hn=>by
     rcases L.lab n with e|⟨_,_,_,_,e,_⟩
     ·exact⟨by rw[Gh.imm,e];exact hn,rfl⟩
     ·have hn:g.lab n= .imm:=hn
      rw[hn]at e;cases e) (hnr i x hi)
    obtain⟨v',w',m',h3,J,h5,h6⟩:=Xj R1 hu hu2 ht hb hF F hvx hnl hnr1 (hnxd C.P) h1 h2 ty
    obtain⟨g',st',h7,h8⟩:=(R1.growJ J).put (a:=.c (.own t (l++new))) (ms:=[m']) ⟨_,[],m',[],rfl,rfl,h5,rfl,rfl⟩ h6 hk
    exact⟨d,v',g',st',w',hd,h7,h3,h8⟩
   split at h
   ·rename_i p f lo t' l
    split at h
    ·rename_i htt
     subst htt
     have old:cond (decide ((l.length+new.length)*b<=70368744177664)) (cond (decide (l.length+new.length<=70368744177664)) ((st.giveUp p).put false d (.c (.own t' (l++new))) k) none) none=some r->
      ∃d v g' st' w',o.dst=some d/\k st'=some r/\(Builtin.append_ #[T,T2] ty #[vs,vx]).run C.P w= .ok v w'/\dG C E g' st' (tm.setIfInBounds d v) w':=by
      intro h
      cases hc1:decide ((l.length+new.length)*b<=70368744177664)with
      |false=>rw[hc1]at h;cases h
      |true=>
       cases hc2:decide (l.length+new.length<=70368744177664)with
       |false=>rw[hc1,hc2]at h;cases h
       |true=>
        rw[hc1,hc2]at h
        simp only[cond_true]at h
        obtain⟨g1,ms,R1,F1,Fr,L⟩:=uU [.view p f lo t' l] [] st g [vs] R (bg.one hs.one_inv).ls
        have es:kp [] [.view p f lo t' l] st=([.own t' l],st.giveUp p):=by simp[kp]
        rw[es]at R1 F1
        obtain⟨v,vs',m,ms',hv,rfl,hF,hn⟩:=F1
        simp only[List.cons.injEq]at hv
        obtain⟨rfl,rfl⟩:=hv
        obtain⟨_,rfl⟩:=hn
        exact Sm R1 L hF Fr (of_decide_eq_true hc1) (of_decide_eq_true hc2) h
     dsimp only at h
     split at h
     ·rename_i L hown
      cases hroom:decide (lo+l.length+new.length<=L.length)with
      |false=>rw[hroom]at h;exact old h
      |true=>
       rw[hroom]at h
       simp only[cond_true]at h
       have hat:=Lv hown
       have hle:=of_decide_eq_true hroom
       obtain⟨hv,hpr⟩:=hs.one_inv.2 (.slot 0 0 0)
       obtain⟨A,cap,rfl,hc,hl⟩:=hv
       have hcap:=WH R hat hpr (m:=l.length+new.length) (by omega)
       obtain⟨w',h1,R1,hHR⟩:=MZ R hat (f:=false) (lo:=lo) (l:=l) (s:=l.length) (ys:=new) (news:=news) ⟨A,cap,rfl,hc,hl⟩ hnl hnr hcap
       subst hvx
       have hnx':(Builtin.firstCells t'.size new.length (.slice A' new.length cap')).run C.P w= .ok news.toArray w:=hnxd C.P w.drawn
       have hrun:(Builtin.append_ #[T,T2] ty #[.slice A l.length cap, .slice A' new.length cap']).run C.P w= .ok (.slice A (l.length+new.length) cap) w':=by
        simp only[Builtin.append_]
        cases A with
        |none=>
         simp only[Sem.run_pure,Result.ok.injEq,true_and]at h1
         subst h1
         simp only[List.getElem?_toArray,List.getElem?_cons_zero,List.getElem?_cons_succ,Sem.run_bind,an hu,an hu2,Result.andThen_ok,dL (sf ht),Sem.run_pure,Bool.false_eq_true,if_false,Builtin.lenOf,hcap,if_true,Bool.not_false,hnx']
        |some ad=>
         simp only at h1
         simp only[List.getElem?_toArray,List.getElem?_cons_zero,List.getElem?_cons_succ,Sem.run_bind,an hu,an hu2,Result.andThen_ok,dL (sf ht),Sem.run_pure,Bool.false_eq_true,if_false,Builtin.lenOf,hcap,if_true,Bool.not_false,hnx',h1]
       obtain⟨fil,hfil⟩:∃fil,fil=(L.drop (lo+l.length)).take new.length:=⟨_,rfl⟩
       have hfl:fil.length=new.length:=by rw[hfil];simp only[List.length_take,List.length_drop];omega
       have hbefore:HR g w (g.owns p) false lo t' (l++fil) (.slice A (l.length+new.length) cap):=by
        refine⟨A,cap,by rw[List.length_append,hfl],by rw[List.length_append,hfl];exact hcap, ?_⟩
        rcases hl with h0|⟨b0,off0,n0,c0,cs0,e0,hA0,hl0,hf0,hh0,hs0,hx0⟩
        ·exact .inl h0
        ·refine .inr ⟨b0,off0,n0,c0,cs0,e0,hA0,hl0,(fun e=>by cases e),hh0,hs0,fun i x hi=> ?_⟩
         by_cases hil:i<l.length
         ·rw[List.getElem?_append_left hil]at hi;exact hx0 i x hi
         ·rw[List.getElem?_append_right (by omega),hfil,List.getElem?_take]at hi
          split at hi
          ·rw[List.getElem?_drop]at hi
           obtain⟨u,hu'⟩:=R.atPlace hat (by simp)
           obtain⟨A1,cap1,rfl,hc1,hl1⟩:=hu'
           have hLpos:lo+l.length+(i-l.length)<L.length:=(List.getElem?_eq_some_iff.1 hi).1
           obtain⟨b1,off1,n1,c1,cs1,e1,_,hlab1,_,hh1,_,hx1⟩:=hl1.resolve_left (fun e=>by omega)
           have hbb:=R.uniq b1 b0 p _ _ _ _ _ _ hlab1 hl0
           subst hbb
           have hl0':g.lab b1= .own p off0 n0 c0:=hl0
           rw[show g.lab b1= .own p off1 n1 c1 from hlab1]at hl0'
           injection hl0' with _ k1 _ _
           subst k1
           rw[hh1]at hh0
           simp only[Option.some.injEq,Obj.cells.injEq]at hh0
           obtain⟨rfl,_,_⟩:=hh0
           have:=hx1 _ _ hi
           have e1:lo+l.length+(i-l.length)=lo+i:=by rw[Nat.add_assoc,Nat.add_sub_of_le (Nat.le_of_not_lt hil)]
           rw[Nat.zero_mul,Nat.add_zero,e1]at this
           rw[show off1+lo*t'.size+i*t'.size=off1+(lo+i)*t'.size from(by rw[Nat.add_mul,Nat.add_assoc])]
           exact this
          ·cases hi
       have hafter:=hHR false lo (l++fil) _ hbefore
       have hover:MK lo (lo+l.length) new (l++fil)=l++new:=by
        apply List.ext_getElem?
        intro i
        rw[Q2]
        by_cases hil:i<l.length
        ·rw[List.getElem?_append_left hil,List.getElem?_append_left hil]
         cases l[i]? with
         |none=>rfl
         |some x=>simp only[Option.map_some,WD,if_neg (show¬lo+l.length<=lo+i by omega)]
        ·rw[List.getElem?_append_right (by omega),List.getElem?_append_right (by omega)]
         by_cases hin:i-l.length<new.length
         ·rw[List.getElem?_eq_getElem (by rw[hfl];exact hin),List.getElem?_eq_getElem hin]
          simp only[Option.map_some,WD,if_pos (show lo+l.length<=lo+i by omega)]
          rw[show lo+i-(lo+l.length)=i-l.length by omega,List.getElem?_eq_getElem hin]
          rfl
         ·rw[List.getElem?_eq_none (by rw[hfl];omega),List.getElem?_eq_none (by omega)];rfl
       rw[hover]at hafter
       have hnewrel:cu g w' (.slot 0 0 0) (.view p false lo t' (l++new)) (.slice A (l.length+new.length) cap):=by
        refine⟨hafter,fun e=> ?_⟩
        obtain⟨b0,off0,n0,c0,A0,len0,cap0,he0,h10,h20,h30⟩:=hpr e
        simp only[Value.slice.injEq]at he0
        obtain⟨rfl,_,rfl⟩:=he0
        exact⟨b0,off0,n0,c0,_,_,_,rfl,h10,h20,h30⟩
       obtain⟨ms,k1,k2⟩:=NV.fs (g:=g) (w:=w') (x:=⟨false,[.view p false lo t' (l++new)]⟩) (v:=.slice A (l.length+new.length) cap) (kl.c ⟨rfl,fun _=>hnewrel⟩)
       obtain⟨g',st',k3,k4⟩:=R1.put (a:=.c (.view p false lo t' (l++new))) k1 (by rw[k2];exact dF.nil) h
       exact⟨d,_,g',st',w',hd,k3,hrun,k4⟩
     ·exact old h
    ·cases h
   ·cases hc1:decide (new.length*b<=70368744177664)with
    |false=>rw[hc1]at h;cases h
    |true=>
     cases hc2:decide (new.length<=70368744177664)with
     |false=>rw[hc1,hc2]at h;cases h
     |true=>
      rw[hc1,hc2]at h
      simp only[cond_true]at h
      obtain⟨A,rfl⟩:=hs.one_inv.2 (.slot 0 0 0)
      refine Sm (l:=[]) (m:=[]) R ⟨rfl,fun n=>.inl rfl,fun n hn=>(List.not_mem_nil hn).elim⟩ ⟨0,A,0,rfl,by simp, .inl rfl⟩ dF.nil ?_ ?_ h
      ·simpa using of_decide_eq_true hc1
      ·simpa using of_decide_eq_true hc2
   ·cases h
  ·cases h
 ·cases h
end
end Go.Vai
