/- No conditions. -/
import Derived.Test.YtjkljnflaifbhaaGreatDoorVai1
namespace Go.Vai
open Go
inductive Lab where
 |imm|own (p:Place) (off len cap:Nat)|box (b:Nat)|junk|far
structure Gh where
 lab:Nat->Lab
 bx:Nat->Option Nat
def Gh.imm(g:Gh)(b:Nat):Prop:=g.lab b= .imm
def nS(cs:Array Value)(o n:Nat):List Value:=(cs.toList.drop o).take n
def ER(I:Nat->Prop)(w:World):(t:Ty)->t.T->List Value->Prop
 | .int k,n,vs=>vs=[.int k n]
 | .bool,b,vs=>vs=[.bool b]
 | .str,s,vs=>vs=[.string s]
 | .unit,_,vs=>vs=[]
 | .pair a b,x,vs=>ER I w a x.1 (vs.take a.size)/\ER I w b x.2 (vs.drop a.size)
 | .slice t,l,vs=>∃A cap,vs=[.slice A l.length cap]/\l.length<=cap/\(l=[]\/∃b off cs e fz,A=some ⟨b,off,none⟩/\I b/\
    w.heap[b]?=some (.cells cs e fz)/\∀i x,l[i]?=some x->ER I w t x (nS cs (off+i*t.size) t.size))
theorem ER.length{I:Nat->Prop}{w:World}:∀{t:Ty} {x:t.T} {vs:List Value},ER I w t x vs->vs.length=t.size
 | .int _,_,_,h=>by simp only[ER]at h;subst h;rfl
 | .bool,_,_,h=>by simp only[ER]at h;subst h;rfl
 | .str,_,_,h=>by simp only[ER]at h;subst h;rfl
 | .unit,_,_,h=>by simp only[ER]at h;subst h;rfl
 | .pair a b,x,vs,h=>by
   obtain⟨h1,h2⟩:=h
   have e1:=ER.length h1
   have e2:=ER.length h2
   simp only[List.length_take,List.length_drop]at e1 e2
   simp only[Ty.size];omega
 | .slice _,_,_,h=>by obtain⟨A,cap,h,_⟩:=h;subst h;rfl
theorem ER.mono{I I':Nat->Prop}{w w':World}(hI:∀b,I b->I' b/\w'.heap[b]?=w.heap[b]?):
 ∀{t:Ty} {x:t.T} {vs:List Value},ER I w t x vs->ER I' w' t x vs
 | .int _,_,_,h=>h
 | .bool,_,_,h=>h
 | .str,_,_,h=>h
 | .unit,_,_,h=>h
 | .pair _ _,_,_,h=>⟨ER.mono hI h.1,ER.mono hI h.2⟩
 | .slice t,l,vs,h=>by
   obtain⟨A,cap,h1,hc,h2⟩:=h
   refine⟨A,cap,h1,hc,h2.imp id ?_⟩
   rintro ⟨b,off,cs,e,fz,hA,hb,hh,hx⟩
   exact⟨b,off,cs,e,fz,hA,(hI b hb).1,by rw[(hI b hb).2];exact hh,fun i x hi=>ER.mono hI (hx i x hi)⟩
def HR(g:Gh)(w:World)(L:Nat->Nat->Nat->Nat->Prop)(full:Bool)(lo:Nat)(t:Ty)(l:List t.T)(y:Value):Prop:=
 ∃A cap,y= .slice A l.length cap/\l.length<=cap/\(cap=0\/∃b off n c cs e,A=some ⟨b,off+lo*t.size,none⟩/\L b off n c/\
  (full=true->lo=0/\n=l.length/\c=cap)/\w.heap[b]?=some (.cells cs e (0,0))/\off+lo*t.size+cap*t.size<=cs.size/\
  ∀i x,l[i]?=some x->ER g.imm w t x (nS cs (off+lo*t.size+i*t.size) t.size))
def aap(g:Gh)(q:Place)(f:Bool)(lo:Nat)(t:Ty)(y:Value):Prop:=
 f=false->∃b off n c A len cap,y= .slice A len cap/\g.lab b= .own q off n c/\c<=cap+lo/\(cap=0\/A=some ⟨b,off+lo*t.size,none⟩)
def Gh.owns(g:Gh)(q:Place)(b off n c:Nat):Prop:=g.lab b= .own q off n c
def cu(g:Gh)(w:World)(p:Place):CV->Value->Prop
 | .undef,_=>True
 | .np _,_=>True
 | .v x,y=>y=x
 | .emp,y=>∃A,y= .slice A 0 0
 | .sl t l,y=>ER g.imm w (.slice t) l [y]
 | .own t l,y=>HR g w (g.owns p) true 0 t l y
 | .view q f lo t l,y=>HR g w (g.owns q) f lo t l y/\aap g q f lo t y
 | .lb n,y=>∃m:Nat,y= .int .i64 m/\n<=m
 | .ptr b o,y=>∃n,y= .pointer (some ⟨n,o,none⟩)/\g.bx b=some n
 | .gp b o,y=>y= .pointer (some ⟨b,o,none⟩)
 | .ea t x o,y=>∃b off cs e fz,y= .pointer (some ⟨b,off+o,none⟩)/\g.lab b= .imm/\w.heap[b]?=some (.cells cs e fz)/\
    ER g.imm w t x (nS cs off t.size)
 | .va q i t x o,y=>∃b off n c cs e,y= .pointer (some ⟨b,off+i*t.size+o,none⟩)/\g.lab b= .own q off n c/\
    w.heap[b]?=some (.cells cs e (0,0))/\ER g.imm w t x (nS cs (off+i*t.size) t.size)
 | .fn f caps,y=>∃cvs,y= .func (.func f) #[] cvs/\cvs.size=caps.length/\
    ∀(i:Nat) (c:Nat×Nat),caps[i]?=some c->∃n,g.bx c.1=some n/\cvs[i]?=some (Value.pointer (some ⟨n,c.2,none⟩))
def cA(g:Gh)(w:World)(p:Nat->Place):Nat->List CV->List Value->Prop
 |_,[],vs=>vs=[]
 |i,c::r,vs=>∃v vs',vs=v::vs'/\cu g w (p i) c v/\cA g w p (i+1) r vs'
def yG(g:Gh)(w:World)(p:Nat->Place)(x:Val)(v:Value):Prop:=
 match x.agg with
 |true=>∃vs,v= .agg vs/\cA g w p 0 x.cs vs.toList
 |false=>cA g w p 0 x.cs [v]
def uu(g:Gh)(w:World)(i:Nat):Nat->List Val->List Value->Prop
 |_,[],vs=>vs=[]
 |k,x::r,vs=>∃v vs',vs=v::vs'/\yG g w (.slot i k) x v/\uu g w i (k+1) r vs'
def yM(g:Gh)(w:World)(i:Nat):AV->Value->Prop
 | .one x,v=>yG g w (.slot i 0) x v
 | .tup l,v=>∃vs,v= .tuple vs/\uu g w i 0 l vs.toList
structure iU where
 w:World
 lab:Nat->Lab
 io:List Value
 n:Nat
 m:Nat
 bx:Nat->Option Nat
def CV.uses(good:Place->Prop)(goodB:Nat->Prop)(p:Place):CV->Prop
 | .own _ _=>good p
 | .view q _ _ _ _=>good q
 | .va q _ _ _ _=>good q
 | .ptr b _=>goodB b
 | .fn _ caps=>∀c,c∈caps->goodB c.1
 |_=>True
structure gM(good:Place->Prop)(goodB:Nat->Prop)(g g':Gh)(w w':World):Prop where
 imm:∀n,g.lab n= .imm->g'.lab n= .imm/\w'.heap[n]?=w.heap[n]?
 own:∀n q o l c,good q->g.lab n= .own q o l c->g'.lab n= .own q o l c/\w'.heap[n]?=w.heap[n]?
 bx:∀b n,goodB b->g.bx b=some n->g'.bx b=some n
theorem HR.mono{g g':Gh}{w w':World}{L L':Nat->Nat->Nat->Nat->Prop}{f:Bool}{lo:Nat}{t:Ty}{l:List t.T}{y:Value}
 (hI:∀n,g.lab n= .imm->g'.lab n= .imm/\w'.heap[n]?=w.heap[n]?)
 (hL:∀b off n c,L b off n c->L' b off n c/\w'.heap[b]?=w.heap[b]?) (h:HR g w L f lo t l y):HR g' w' L' f lo t l y:=by
 obtain⟨A,cap,hy,hc,h⟩:=h
 refine⟨A,cap,hy,hc,h.imp id ?_⟩
 rintro ⟨b,off,n,c,cs,e,hA,hl,hf,hh,hs,hx⟩
 exact⟨b,off,n,c,cs,e,hA,(hL _ _ _ _ hl).1,hf,by rw[(hL _ _ _ _ hl).2];exact hh,hs,fun i x hi=>ER.mono hI (hx i x hi)⟩
theorem cu.mono{good:Place->Prop}{goodB:Nat->Prop}{g g':Gh}{w w':World}(H:gM good goodB g g' w w'){p:Place}:
 ∀{c:CV} {v:Value},c.uses good goodB p->cu g w p c v->cu g' w' p c v
 | .undef,_,_,_=>trivial
 | .np _,_,_,_=>trivial
 | .v _,_,_,h=>h
 | .emp,_,_,h=>h
 | .sl _ _,_,_,h=>ER.mono H.imm h
 | .own _ _,_,u,h=>HR.mono H.imm (fun b off n c hl=>H.own b _ off n c u hl) h
 | .view _ _ _ _ _,_,u,h=>⟨HR.mono H.imm (fun b off n c hl=>H.own b _ off n c u hl) h.1,fun e=>by
    obtain⟨b,off,n,c,A,len,cap,h1,h2,h3⟩:=h.2 e
    exact⟨b,off,n,c,A,len,cap,h1,(H.own b _ off n c u h2).1,h3⟩⟩
 | .lb _,_,_,h=>h
 | .ptr _ _,_,u,h=>by obtain⟨n,hy,hb⟩:=h;exact⟨n,hy,H.bx _ _ u hb⟩
 | .gp _ _,_,_,h=>h
 | .ea _ _ _,_,_,h=>by
   obtain⟨b,off,cs,e,fz,hy,hl,hh,hx⟩:=h
   exact⟨b,off,cs,e,fz,hy,(H.imm b hl).1,by rw[(H.imm b hl).2];exact hh,ER.mono H.imm hx⟩
 | .va _ _ _ _ _,_,u,h=>by
   obtain⟨b,off,n,c,cs,e,hy,hl,hh,hx⟩:=h
   exact⟨b,off,n,c,cs,e,hy,(H.own _ _ _ _ _ u hl).1,by rw[(H.own _ _ _ _ _ u hl).2];exact hh,ER.mono H.imm hx⟩
 | .fn _ _,_,u,h=>by
   obtain⟨cvs,hy,hs,hc⟩:=h
   refine⟨cvs,hy,hs,fun i c hi=> ?_⟩
   obtain⟨n,hn,hv⟩:=hc i c hi
   exact⟨n,H.bx _ _ (u c (List.mem_of_getElem? hi)) hn,hv⟩
theorem cA.imp{g g':Gh}{w w':World}{p:Nat->Place}(f:CV->CV):
 ∀{cs:List CV} {i:Nat} {vs:List Value},(∀j c v,cu g w (p j) c v->cu g' w' (p j) (f c) v)->cA g w p i cs vs->cA g' w' p i (cs.map f) vs
 |[],_,_,_,h=>h
 |_::_,_,_,H,h=>by
  obtain⟨v,vs',hv,h1,h2⟩:=h
  exact⟨v,vs',hv,H _ _ _ h1,cA.imp f H h2⟩
theorem yG.imp{g g':Gh}{w w':World}{p:Nat->Place}(f:CV->CV){x:Val}{v:Value}
 (H:∀j c v,cu g w (p j) c v->cu g' w' (p j) (f c) v) (h:yG g w p x v):yG g' w' p (x.map f) v:=by
 obtain⟨a,cs⟩:=x
 cases a with
 |true=>obtain⟨vs,hv,h⟩:=h;exact⟨vs,hv,cA.imp f H h⟩
 |false=>exact cA.imp (cs:=cs) f H h
theorem uu.imp{g g':Gh}{w w':World}{i:Nat}(f:CV->CV):
 ∀{l:List Val} {k:Nat} {vs:List Value},(∀p c v,cu g w p c v->cu g' w' p (f c) v)->uu g w i k l vs->uu g' w' i k (l.map (Val.map f)) vs
 |[],_,_,_,h=>h
 |_::_,_,_,H,h=>by
  obtain⟨v,vs',hv,h1,h2⟩:=h
  exact⟨v,vs',hv,yG.imp f (fun j c v=>H _ c v) h1,uu.imp f H h2⟩
theorem yM.imp{g g':Gh}{w w':World}{i:Nat}(f:CV->CV){a:AV}{v:Value}
 (H:∀p c v,cu g w p c v->cu g' w' p (f c) v) (h:yM g w i a v):yM g' w' i (a.map f) v:=by
 cases a with
 |one x=>exact yG.imp f (fun j c v=>H _ c v) h
 |tup l=>obtain⟨vs,hv,h⟩:=h;exact⟨vs,hv,uu.imp f H h⟩
structure Kept(E:iU)(g:Gh)(w:World):Prop where
 os:w.os=E.w.os
 tape:w.tape=E.w.tape
 output:w.output=E.w.output
 size:E.w.heap.size<=w.heap.size
 imm:∀n,n<E.w.heap.size->E.lab n= .imm->g.lab n= .imm/\w.heap[n]?=E.w.heap[n]?
 far:∀n,n<E.w.heap.size->E.lab n= .far->g.lab n= .far/\w.heap[n]?=E.w.heap[n]?
 old:∀n,n<E.w.heap.size->E.lab n= .imm\/E.lab n= .far\/E.lab n= .junk
 lent:∀b n,E.n<=b->g.bx b=some n->E.bx b=some n
theorem Kept.immB{E:iU}{g:Gh}{w:World}(K:Kept E g w)(n:Nat)(hn:n<E.w.heap.size)(h:g.lab n= .imm):E.lab n= .imm\/E.lab n= .junk:=by
 rcases K.old n hn with e|e|e
 ·exact .inl e
 ·have:=(K.far n hn e).1
  rw[h]at this;cases this
 ·exact .inr e
structure dG(C:gY)(E:iU)(g:Gh)(st:St)(tm:Array Value)(w:World):Prop where
 len:st.slots.length=tm.size
 lenN:st.slots.length=E.n
 lenB:st.boxes.length=E.m
 io:cA g w .arg 0 st.io E.io
 slots:∀i a,st.slots[i]?=some a->∃v,tm[i]?=some v/\yM g w i a v
 boxes:∀b ro cs,st.boxes[b]?=some (some (ro,cs))->∃n vs e fz,g.bx b=some n/\g.lab n=(match ro with|true=>Lab.imm|false=>Lab.box b)/\
  w.heap[n]?=some (.cells vs e fz)/\(ro=false->fz=(0,0))/\cA g w (Place.cell b) 0 cs vs.toList
 bx:∀b n,g.bx b=some n->∃x,st.boxes[b]?=some (some x)
 own:∀n p o l c,g.lab n= .own p o l c->∃t x,st.atPlace p= .own t x
 uniq:∀n m p o l c o' l' c',g.lab n= .own p o l c->g.lab m= .own p o' l' c'->n=m
 uniqB:∀n b,g.lab n= .box b->g.bx b=some n
 size:∀n,g.lab n≠ .junk->n<w.heap.size
 glob:∀h cs,C.glob h=some cs->∃vs e fz,w.heap[h]?=some (.cells vs e fz)/\g.lab h= .imm/\cs=vs.toList.map .v
 kept:Kept E g w
theorem AV.map_id(a:AV):a.map (fun c=>c)=a:=by
 cases a with
 |one x=>simp[AV.map,Val.map]
 |tup l=>
  have:(Val.map fun c=>c)=id:=by funext x;simp[Val.map]
  simp[AV.map,this]
theorem Fq(f:CV->CV)(hf:f .undef= .undef)(cs:List CV)(j:Nat):(cs.map f).getD j .undef=f (cs.getD j .undef):=by
 simp only[List.getD_eq_getElem?_getD,List.getElem?_map]
 cases cs[j]? with
 |none=>simp[hf]
 |some a=>rfl
theorem Wz(p:Nat->Place)(f:Place->CV->CV):∀(cs:List CV) (i j:Nat),(wq p f i cs)[j]?=(cs[j]?).map (f (p (i+j)))
 |[],_,_=>rfl
 |c::r,i,0=>rfl
 |c::r,i,j+1=>by
  simp only[wq,List.getElem?_cons_succ]
  rw[Wz p f r (i+1) j,show i+1+j=i+(j+1) by omega]
theorem RU(i:Nat)(f:Place->CV->CV):∀(l:List Val) (k m:Nat),(zq i f k l)[m]?=(l[m]?).map fun x=>x.mapP (.slot i (k+m)) f
 |[],_,_=>rfl
 |c::r,k,0=>rfl
 |c::r,k,m+1=>by
  simp only[zq,List.getElem?_cons_succ]
  rw[RU i f r (k+1) m,show k+1+m=k+(m+1) by omega]
theorem wi(f:Place->CV->CV):∀(l:List AV) (i m:Nat),(zp f i l)[m]?=(l[m]?).map fun x=>x.mapP (i+m) f
 |[],_,_=>rfl
 |c::r,k,0=>rfl
 |c::r,k,m+1=>by
  simp only[zp,List.getElem?_cons_succ]
  rw[wi f r (k+1) m,show k+1+m=k+(m+1) by omega]
theorem qp(f:Place->CV->CV):∀(l:List (Option (Bool×List CV))) (b m:Nat),
 (pk f b l)[m]?=(l[m]?).map fun x=>x.map fun y=>(y.1,wq (.cell (b+m)) f 0 y.2)
 |[],_,_=>rfl
 |none::r,k,0=>rfl
 |some (ro,cs)::r,k,0=>rfl
 |none::r,k,m+1=>by
  simp only[pk,List.getElem?_cons_succ]
  rw[qp f r (k+1) m,show k+1+m=k+(m+1) by omega]
 |some (ro,cs)::r,k,m+1=>by
  simp only[pk,List.getElem?_cons_succ]
  rw[qp f r (k+1) m,show k+1+m=k+(m+1) by omega]
theorem pU(f:Place->CV->CV):∀(l:List AV) (i:Nat),(zp f i l).length=l.length
 |[],_=>rfl
 |_::r,i=>by simp[zp,pU f r]
theorem Ca(f:Place->CV->CV):∀(l:List (Option (Bool×List CV))) (i:Nat),(pk f i l).length=l.length
 |[],_=>rfl
 |none::r,i=>by simp[pk,Ca f r]
 |some (_,_)::r,i=>by simp[pk,Ca f r]
theorem IA(p:Nat->Place)(f:Place->CV->CV)(hf:∀q,f q .undef= .undef)(cs:List CV)(j:Nat):
 (wq p f 0 cs).getD j .undef=f (p j) (cs.getD j .undef):=by
 simp only[List.getD_eq_getElem?_getD,Wz,Nat.zero_add]
 cases cs[j]? with
 |none=>simp[hf]
 |some a=>rfl
theorem St.get_mapP(f:Place->CV->CV)(hf:∀q,f q .undef= .undef)(st:St)(i:Nat):(st.mapP f).get i=(st.get i).mapP i f:=by
 simp only[St.get,St.mapP,List.getD_eq_getElem?_getD,wi,Nat.zero_add]
 cases st.slots[i]? with
 |none=>simp[AV.mapP,Val.mapP,wq,hf]
 |some a=>rfl
theorem St.atPlace_mapP(f:Place->CV->CV)(hf:∀q,f q .undef= .undef)(st:St)(p:Place):(st.mapP f).atPlace p=f p (st.atPlace p):=by
 cases p with
 |slot i k j=>
  simp only[St.atPlace,St.get_mapP f hf]
  cases st.get i with
  |one x=>
   simp only[AV.mapP,Val.mapP]
   by_cases hk:k=0
   ·subst hk;simp only[if_true];exact IA _ f hf _ _
   ·simp only[hk,if_false,hf]
  |tup l=>
   simp only[AV.mapP,RU,Nat.zero_add]
   cases l[k]? with
   |none=>simp[hf]
   |some x=>exact IA _ f hf _ _
 |cell b j=>
  simp only[St.atPlace,St.mapP,List.getD_eq_getElem?_getD,qp,Nat.zero_add]
  cases st.boxes[b]? with
  |none=>simp[hf]
  |some x=>
   cases x with
   |none=>simp[hf]
   |some y=>obtain⟨ro,cs⟩:=y;simpa[List.getD_eq_getElem?_getD]using IA (.cell b) f hf cs j
 |arg j=>exact IA .arg f hf _ _
theorem cA.impP{g g':Gh}{w w':World}{p:Nat->Place}(f:Place->CV->CV):
 ∀{cs:List CV} {i:Nat} {vs:List Value},(∀j c v,cs[j]?=some c->cu g w (p (i+j)) c v->cu g' w' (p (i+j)) (f (p (i+j)) c) v)->cA g w p i cs vs->cA g' w' p i (wq p f i cs) vs
 |[],_,_,_,h=>h
 |_::_,i,_,H,h=>by
  obtain⟨v,vs',hv,h1,h2⟩:=h
  refine⟨v,vs',hv,H 0 _ _ rfl h1,cA.impP f (fun j c v hj h=> ?_) h2⟩
  have:=H (j+1) c v (by simpa using hj)
  rw[show i+(j+1)=i+1+j by omega]at this
  exact this h
theorem yG.impP{g g':Gh}{w w':World}{p:Nat->Place}(f:Place->CV->CV){x:Val}{v:Value}
 (H:∀j c v,x.cs[j]?=some c->cu g w (p j) c v->cu g' w' (p j) (f (p j) c) v) (h:yG g w p x v):yG g' w' p (x.mapP p f) v:=by
 obtain⟨a,cs⟩:=x
 have H':∀j c v,cs[j]?=some c->cu g w (p (0+j)) c v->cu g' w' (p (0+j)) (f (p (0+j)) c) v:=by
  intro j;rw[Nat.zero_add];exact H j
 cases a with
 |true=>obtain⟨vs,hv,h⟩:=h;exact⟨vs,hv,cA.impP f H' h⟩
 |false=>exact cA.impP (cs:=cs) f H' h
theorem uu.impP{g g':Gh}{w w':World}{i:Nat}(f:Place->CV->CV):
 ∀{l:List Val} {k:Nat} {vs:List Value},(∀m x j c v,l[m]?=some x->x.cs[j]?=some c->cu g w (.slot i (k+m) j) c v->cu g' w' (.slot i (k+m) j) (f (.slot i (k+m) j) c) v)->
  uu g w i k l vs->uu g' w' i k (zq i f k l) vs
 |[],_,_,_,h=>h
 |x::_,k,_,H,h=>by
  obtain⟨v,vs',hv,h1,h2⟩:=h
  refine⟨v,vs',hv,yG.impP f (fun j c v hj=>H 0 x j c v rfl hj) h1,uu.impP f (fun m y j c v hm hj=> ?_) h2⟩
  have:=H (m+1) y j c v (by simpa using hm) hj
  rwa [show k+(m+1)=k+1+m by omega]at this
theorem yM.impP{g g':Gh}{w w':World}{st:St}{i:Nat}(f:Place->CV->CV){a:AV}{v:Value}(hi:st.get i=a)
 (H:∀p c v,st.atPlace p=c->cu g w p c v->cu g' w' p (f p c) v) (h:yM g w i a v):yM g' w' i (a.mapP i f) v:=by
 subst hi
 cases hg:st.get i with
 |one x=>
  rw[hg]at h
  exact yG.impP f (fun j c v hj=>H _ c v (by simp[St.atPlace,hg,List.getD_eq_getElem?_getD,hj])) h
 |tup l=>
  rw[hg]at h
  obtain⟨vs,hv,h⟩:=h
  refine⟨vs,hv,uu.impP f (fun m x j c v hm hj=> ?_) h⟩
  rw[Nat.zero_add]
  exact H _ c v (by simp[St.atPlace,hg,hm,List.getD_eq_getElem?_getD,hj])
structure E3(E:iU)(g g':Gh)(w w':World):Prop where
 lab:∀n,g'.lab n=g.lab n\/(g.lab n= .junk/\g'.lab n= .imm/\n<w'.heap.size)\/(∃p o l c,g.lab n= .own p o l c/\(g'.lab n= .junk\/g'.lab n= .imm/\w'.heap[n]?=w.heap[n]?))
 bx:g'.bx=g.bx
 imm:∀n,g.lab n= .imm->w'.heap[n]?=w.heap[n]?
 box:∀n b,g.lab n= .box b->w'.heap[n]?=w.heap[n]?
 far:∀n,g.lab n= .far->w'.heap[n]?=w.heap[n]?
 size:w.heap.size<=w'.heap.size
 os:w'.os=w.os
 tape:w'.tape=w.tape
 output:w'.output=w.output
theorem E3.immOf{E:iU}{g g':Gh}{w w':World}(T:E3 E g g' w w'){n:Nat}(h:g.lab n= .imm):g'.lab n= .imm:=by
 rcases T.lab n with e|⟨e,_⟩|⟨p,o,l,c,e,_⟩
 ·rw[e,h]
 ·rw[h]at e;cases e
 ·rw[h]at e;cases e
theorem E3.farOf{E:iU}{g g':Gh}{w w':World}(T:E3 E g g' w w'){n:Nat}(h:g.lab n= .far):g'.lab n= .far:=by
 rcases T.lab n with e|⟨e,_⟩|⟨p,o,l,c,e,_⟩
 ·rw[e,h]
 ·rw[h]at e;cases e
 ·rw[h]at e;cases e
theorem E3.boxOf{E:iU}{g g':Gh}{w w':World}(T:E3 E g g' w w'){n b:Nat}(h:g.lab n= .box b):g'.lab n= .box b:=by
 rcases T.lab n with e|⟨e,_⟩|⟨p,o,l,c,e,_⟩
 ·rw[e,h]
 ·rw[h]at e;cases e
 ·rw[h]at e;cases e
theorem E3.ownFrom{E:iU}{g g':Gh}{w w':World}(T:E3 E g g' w w'){n:Nat}{p o l c}(h:g'.lab n= .own p o l c):g.lab n= .own p o l c:=by
 rcases T.lab n with e|⟨_,e,_⟩|⟨_,_,_,_,_,e⟩
 ·rw[<-e,h]
 ·rw[h]at e;cases e
 ·rcases e with e|⟨e,_⟩<;>(rw[h]at e;cases e)
theorem dG.mapP{C:gY}{E:iU}{g g':Gh}{st:St}{tm:Array Value}{w w':World}(R:dG C E g st tm w)(f:Place->CV->CV)
 (T:E3 E g g' w w') (hf:∀q,f q .undef= .undef)
 (H:∀p c v,st.atPlace p=c->cu g w p c v->cu g' w' p (f p c) v)
 (Ho:∀n p o l c,g'.lab n= .own p o l c->∀t x,st.atPlace p= .own t x->∃t' x',f p (.own t x)= .own t' x'):
 dG C E g' (st.mapP f) tm w' where
 len:=by simp only[St.mapP,pU];exact R.len
 lenN:=by simp only[St.mapP,pU];exact R.lenN
 lenB:=by simp only[St.mapP,Ca];exact R.lenB
 io:=cA.impP f (fun j c v hj=>H _ c v (by simp only[Nat.zero_add,St.atPlace,List.getD_eq_getElem?_getD,hj,Option.getD_some])) R.io
 slots:=by
  intro i a ha
  simp only[St.mapP,wi,Nat.zero_add]at ha
  cases hs:st.slots[i]? with
  |none=>rw[hs]at ha;cases ha
  |some b=>
   rw[hs]at ha
   simp only[Option.map_some,Option.some.injEq]at ha
   obtain⟨v,hv,h⟩:=R.slots i b hs
   exact⟨v,hv,ha▸yM.impP f (by simp[St.get,List.getD_eq_getElem?_getD,hs]) H h⟩
 boxes:=by
  intro b ro cs hb
  simp only[St.mapP,qp,Nat.zero_add]at hb
  cases hs:st.boxes[b]? with
  |none=>rw[hs]at hb;cases hb
  |some x=>
   cases x with
   |none=>rw[hs]at hb;cases hb
   |some y=>
    obtain⟨ro',cs'⟩:=y
    rw[hs]at hb
    simp only[Option.map_some,Option.some.injEq,Prod.mk.injEq]at hb
    obtain⟨rfl,rfl⟩:=hb
    obtain⟨n,vs,e,fz,h1,h2,h3,h4,h5⟩:=R.boxes b ro' cs' hs
    refine⟨n,vs,e,fz,by rw[T.bx];exact h1, ?_, ?_,h4,cA.impP f (fun j c v hj=>H _ c v (by simp[St.atPlace,List.getD_eq_getElem?_getD,hs,hj])) h5⟩
    ·cases ro' with
     |true=>exact T.immOf h2
     |false=>exact T.boxOf h2
    ·cases ro' with
     |true=>rw[T.imm n h2];exact h3
     |false=>rw[T.box n b h2];exact h3
 bx:=by
  intro b n hb
  rw[T.bx]at hb
  obtain⟨x,hx⟩:=R.bx b n hb
  obtain⟨ro,cs⟩:=x
  exact⟨_,by simp only[St.mapP,qp,Nat.zero_add,hx];rfl⟩
 own:=by
  intro n p o l c h
  obtain⟨t,x,hx⟩:=R.own n p o l c (T.ownFrom h)
  obtain⟨t',x',h'⟩:=Ho n p o l c h t x hx
  exact⟨t',x',by rw[St.atPlace_mapP f hf,hx,h']⟩
 uniq:=fun n m p o l c o' l' c' h1 h2=>R.uniq n m p o l c o' l' c' (T.ownFrom h1) (T.ownFrom h2)
 uniqB:=by
  intro n b h
  rw[T.bx]
  rcases T.lab n with e|⟨_,e,_⟩|⟨_,_,_,_,_,e⟩
  ·exact R.uniqB n b (by rw[<-e];exact h)
  ·rw[h]at e;cases e
  ·rcases e with e|⟨e,_⟩<;>(rw[h]at e;cases e)
 size:=by
  intro n h
  rcases T.lab n with e|⟨_,_,e⟩|⟨_,_,_,_,e,_⟩
  ·exact Nat.lt_of_lt_of_le (R.size n (by rw[<-e];exact h)) T.size
  ·exact e
  ·exact Nat.lt_of_lt_of_le (R.size n (by rw[e];simp)) T.size
 glob:=by
  intro h cs hc
  obtain⟨vs,e,fz,h1,h2,h3⟩:=R.glob h cs hc
  exact⟨vs,e,fz,by rw[T.imm h h2];exact h1,T.immOf h2,h3⟩
 kept:={
  os:=T.os.trans R.kept.os
  tape:=T.tape.trans R.kept.tape
  output:=T.output.trans R.kept.output
  size:=Nat.le_trans R.kept.size T.size
  imm:=fun n hn hl=>by
   obtain⟨h1,h2⟩:=R.kept.imm n hn hl
   exact⟨T.immOf h1,by rw[T.imm n h1];exact h2⟩
  far:=fun n hn hl=>by
   obtain⟨h1,h2⟩:=R.kept.far n hn hl
   exact⟨T.farOf h1,by rw[T.far n h1];exact h2⟩
  old:=R.kept.old
  lent:=fun b n hb h=>R.kept.lent b n hb (by rw[<-T.bx];exact h)}
def Gh.free(g:Gh)(bad:Place->Bool):Gh:=
 ⟨fun n=>match g.lab n with
   | .own p o l c=>match bad p with
     |true=>.junk
     |false=>.own p o l c
   |x=>x,g.bx⟩
theorem Gh.free_imm{g:Gh}{bad:Place->Bool}{n:Nat}(h:g.lab n= .imm):(g.free bad).lab n= .imm:=by
 simp only[Gh.free,h]
theorem Gh.free_own{g:Gh}{bad:Place->Bool}{n:Nat}{p o l c}(hb:bad p=false)(h:g.lab n= .own p o l c):(g.free bad).lab n= .own p o l c:=by
 simp only[Gh.free,h,hb]
theorem Gh.free_gone{g:Gh}{bad:Place->Bool}{n:Nat}{p o l c}(hb:bad p=true)(h:g.lab n= .own p o l c):(g.free bad).lab n= .junk:=by
 simp only[Gh.free,h,hb]
theorem Gh.free_turn(g:Gh)(bad:Place->Bool)(n:Nat):
 (g.free bad).lab n=g.lab n\/(∃p o l c,bad p=true/\g.lab n= .own p o l c/\(g.free bad).lab n= .junk):=by
 simp only[Gh.free]
 cases h:g.lab n with
 |own p o l c=>
  cases hb:bad p with
  |true=>exact .inr ⟨p,o,l,c,hb,rfl,by simp[hb]⟩
  |false=>exact .inl (by simp[hb])
 |imm=>exact .inl rfl
 |box b=>exact .inl rfl
 |junk=>exact .inl rfl
 |far=>exact .inl rfl
theorem Gh.free_turns(E:iU)(g:Gh)(bad:Place->Bool)(w:World):E3 E g (g.free bad) w w where
 lab:=fun n=>(g.free_turn bad n).imp id fun⟨p,o,l,c,_,h1,h2⟩=>.inr ⟨p,o,l,c,h1, .inl h2⟩
 bx:=rfl
 imm:=fun _ _=>rfl
 box:=fun _ _ _=>rfl
 far:=fun _ _=>rfl
 size:=Nat.le_refl _
 os:=rfl
 tape:=rfl
 output:=rfl
theorem Gh.free_steps(g:Gh)(bad:Place->Bool)(w:World):gM (fun p=>bad p=false) (fun _=>True) g (g.free bad) w w where
 imm:=fun _ h=>⟨Gh.free_imm h,rfl⟩
 own:=fun _ _ _ _ _ hb h=>⟨Gh.free_own hb h,rfl⟩
 bx:=fun _ _ _ h=>h
theorem cu.unlend{g:Gh}{w:World}{bad:Place->Bool}{p:Place}(hp:bad p=false){c:CV}{v:Value}(h:cu g w p c v):
 cu (g.free bad) w p (c.unlend bad) v:=by
 have H:=g.free_steps bad w
 cases c with
 |view q f lo t l=>
  simp only[CV.unlend]
  cases hb:bad q with
  |true=>exact trivial
  |false=>exact cu.mono H (c:=.view q f lo t l) hb h
 |va q i t x o=>
  simp only[CV.unlend]
  cases hb:bad q with
  |true=>exact trivial
  |false=>exact cu.mono H (c:=.va q i t x o) hb h
 |own t l=>exact cu.mono H (c:=.own t l) hp h
 |undef=>trivial
 |np _=>trivial
 |v x=>exact h
 |emp=>exact h
 |sl t l=>exact cu.mono H (p:=p) (c:=.sl t l) trivial h
 |ptr b o=>exact cu.mono H (p:=p) (c:=.ptr b o) trivial h
 |gp b o=>exact h
 |lb n=>exact h
 |ea t x o=>exact cu.mono H (p:=p) (c:=.ea t x o) trivial h
 |fn f caps=>exact cu.mono H (p:=p) (c:=.fn f caps) (fun _ _=>trivial) h
theorem dG.giveUpAll{C:gY}{E:iU}{g:Gh}{st:St}{tm:Array Value}{w:World}(R:dG C E g st tm w)(bad:Place->Bool):
 dG C E (g.free bad) (st.giveUpAll bad) tm w:=by
 refine R.mapP _ (g.free_turns E bad w) (fun q=>by cases bad q<;>rfl) ?_ ?_
 ·intro p c v _ h
  cases hb:bad p with
  |true=>exact trivial
  |false=>exact h.unlend hb
 ·intro n p o l c h t x _
  rcases g.free_turn bad n with e|⟨_,_,_,_,_,_,e⟩
  ·have hb:bad p=false:=by
    cases hb:bad p with
    |false=>rfl
    |true=>
     rw[h]at e
     have:=Gh.free_gone hb e.symm
     rw[h]at this;cases this
   exact⟨t,x,by simp[hb,CV.unlend]⟩
  ·rw[h]at e;cases e
end Go.Vai
