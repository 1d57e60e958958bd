/- No conditions. -/
import Derived.Test.YtjkljnflaifbhaaGreatDoorVai12
namespace Go.Vai
open Go
structure Ib(C:gY)(g0:Gh)(w:World)(bs:List (List CV))(vs:List Val)(args:List Value)(ms:List (List Nat)):Prop where
 vals:sR g0 w vs args ms
 free:dF g0 w (aj ms)
 boxes:∀k cs,bs[k]?=some cs->∃n arr e fz,g0.bx k=some n/\g0.lab n= .imm/\w.heap[n]?=some (.cells arr e fz)/\∀p,cA ⟨g0.lab,fun _=>none⟩ w p 0 cs arr.toList
 bxs:∀k n,g0.bx k=some n->k<bs.length
 old:∀n,n<w.heap.size->g0.lab n= .imm\/g0.lab n= .far\/(g0.lab n= .junk/\n∈aj ms)
 new:∀n,w.heap.size<=n->g0.lab n= .junk
 glob:∀h cs,C.glob h=some cs->∃vs e fz,w.heap[h]?=some (.cells vs e fz)/\g0.lab h= .imm/\cs=vs.toList.map .v
def Ret(g0:Gh)(w:World)(S:List Nat)(cs:List CV)(bvs:List Value)(a:AV)(v:Value)(w':World):Prop:=
 ∃g' ms bms,LB g' w' a v ms/\bS g' w' cs bvs bms/\dF g' w' (aj bms++aj ms)/\(∀b,b∈aj ms->w.heap.size<=b\/b∈S)/\
  w'.os=w.os/\w'.tape=w.tape/\w'.output=w.output/\w.heap.size<=w'.heap.size/\(∀n,n<w.heap.size->n∉S->w'.heap[n]?=w.heap[n]?)/\
  (∀n,n<w.heap.size->g'.lab n= .imm->g0.lab n= .imm\/n∈S)/\(∀n,g'.lab n= .imm->n<w'.heap.size)
def DB:Value->List Value
 | .agg vs=>vs.toList
 |v=>[v]
def EW:List Value->List Value
 |[]=>[]
 | .slice A n c::r=>.slice A n c::EW r
 |_::r=>EW r
def oq:List Bool->List Value->List Value
 |_,[]=>[]
 |io,x::r=>match io.headD false with
  |true=>EW (DB x)++oq io.tail r
  |false=>oq io.tail r
def nu(P:Program)(f:FuncId):Prop:=∃fn c,P.funcs[f]?=some fn/\fn.body=some c/\(fn.name== "runtime.NumGoroutine")=false
def Gi(C:gY)(f:FuncId)(c:af):Prop:=
 nu C.P f/\∀g0 w bs vs args ms x,Ib C g0 w bs vs args ms->c.G bs vs=some x->
  Calls C.P f args.toArray w fun e w'=>∃v,e= .returned v/\Ret g0 w (aj ms) (c.enc x).2 (oq c.io args) (c.enc x).1 v w'
abbrev ZA:=List (Nat×List (List Nat))
def Od:ZA->List Nat
 |[]=>[]
 |x::r=>x.1::(aj x.2++Od r)
structure Lj(C:gY)(g0:Gh)(w:World)(bs:List (List CV))(vs:List Val)(args:List Value)(bns:ZA):Prop where
 vals:∃ms,aj ms=[]/\sR g0 w vs args ms
 free:dF g0 w (Od bns)
 len:bns.length=bs.length
 boxes:∀(k:Nat) cs n mb,bs[k]?=some cs->bns[k]?=some (n,mb)->∃arr e,g0.bx k=some n/\w.heap[n]?=some (.cells arr e (0,0))/\cs.all CV.isFlat=true/\Tu g0 w cs arr.toList mb
 bxs:∀k n,g0.bx k=some n->k<bs.length
 old:∀n,n<w.heap.size->g0.lab n= .imm\/g0.lab n= .far\/(g0.lab n= .junk/\n∈Od bns)
 new:∀n,w.heap.size<=n->g0.lab n= .junk
 glob:∀h cs,C.glob h=some cs->∃vs e fz,w.heap[h]?=some (.cells vs e fz)/\g0.lab h= .imm/\cs=vs.toList.map .v
def E2(g:Gh)(w:World):List Nat->List (List CV)->List (List Nat)->Prop
 |[],css,ms=>css=[]/\ms=[]
 |n::r,css,ms=>∃cs css' arr e m ms',css=cs::css'/\ms=m++ms'/\w.heap[n]?=some (.cells arr e (0,0))/\cs.all CV.isFlat=true/\Tu g w cs arr.toList m/\E2 g w r css' ms'
def afs(g0:Gh)(w:World)(bns:ZA)(css:List (List CV))(a:AV)(v:Value)(w':World):Prop:=
 ∃g' ms rms,LB g' w' a v ms/\E2 g' w' (bns.map Prod.fst) css rms/\dF g' w' (aj rms++aj ms)/\(∀b,b∈aj rms++aj ms->w.heap.size<=b\/b∈Od bns)/\
  (∀x,x∈bns->g'.lab x.1≠ .imm/\g'.lab x.1≠ .junk)/\w'.os=w.os/\w'.tape=w.tape/\w'.output=w.output/\w.heap.size<=w'.heap.size/\(∀n,n<w.heap.size->n∉Od bns->w'.heap[n]?=w.heap[n]?)/\
  (∀n,n<w.heap.size->g'.lab n= .imm->g0.lab n= .imm\/n∈Od bns)/\(∀n,g'.lab n= .imm->n<w'.heap.size)
def TS(C:gY)(f:FuncId)(c:af):Prop:=
 nu C.P f/\∀g0 w bs vs args bns x,Lj C g0 w bs vs args bns->c.G bs vs=some x->
  Calls C.P f args.toArray w fun e w'=>∃v,e= .returned v/\afs g0 w bns (c.encB x) (c.enc x).1 v w'
def ag(C:gY)(f:FuncId)(c:af):Prop:=
 match c.rw with
 |false=>Gi C f c
 |true=>TS C f c
theorem ag.r{C:gY}{f:FuncId}{c:af}(h:ag C f c)(hc:c.rw=false):Gi C f c:=by
 unfold ag at h;rw[hc]at h;exact h
theorem ag.b{C:gY}{f:FuncId}{c:af}(h:ag C f c)(hc:c.rw=true):TS C f c:=by
 unfold ag at h;rw[hc]at h;exact h
theorem Gi.s{C:gY}{f:FuncId}{c:af}(hc:c.rw=false)(h:Gi C f c):ag C f c:=by
 unfold ag;rw[hc];exact h
theorem TS.s{C:gY}{f:FuncId}{c:af}(hc:c.rw=true)(h:TS C f c):ag C f c:=by
 unfold ag;rw[hc];exact h
theorem ag.enters{C:gY}{f:FuncId}{c:af}(h:ag C f c):nu C.P f:=by
 unfold ag at h
 split at h<;>exact h.1
theorem nu.run{P:Program}{f:FuncId}(h:nu P f)(args:Array Value)(w:World):(callFunc f args).run P w= .ok (.enter f args) w:=by
 obtain⟨fn,c,h1,h2,h3⟩:=h
 simp only[callFunc,Sem.run_bind,run_program,Result.andThen_ok,h1,h2,h3,Option.isNone_some,Bool.false_eq_true,if_false,Sem.run_pure]
section
variable {C:gY} {E:iU} {g:Gh} {st:St} {tm:Array Value} {w:World} {Q:Type}
def Iw(S:List Nat)(w:World)(n:Nat):Lab:=if n<w.heap.size then(if n∈S then .junk else .imm)else .junk
def Xy(g:Gh)(w:World)(n:Nat):Lab:=
 match g.lab n with
 | .imm=>.imm
 |_=>if n<w.heap.size then .far else .junk
theorem BI(R:dG C E g st tm w){S:List Nat}(hJ:∀n,n∈S->g.lab n= .junk){n:Nat}(h:g.lab n≠ .junk):Iw S w n= .imm:=by
 simp only[Iw,if_pos (R.size n h),if_neg (fun hn=>h (hJ n hn))]
theorem HR.sl(R:dG C E g st tm w){S:List Nat}(hJ:∀n,n∈S->g.lab n= .junk){bx:Nat->Option Nat}{L:Nat->Nat->Nat->Nat->Prop}{f:Bool}{lo:Nat}{t:Ty}{l:List t.T}{y:Value}
 (h:HR g w L f lo t l y) (hL:∀b off n c,L b off n c->g.lab b≠ .junk):ER (Gh.imm ⟨Iw S w,bx⟩) w (.slice t) l [y]:=by
 obtain⟨A,cap,rfl,hc,h⟩:=h
 refine⟨A,cap,rfl,hc, ?_⟩
 rcases h with h0|⟨b,off,n,c,cs,e,hA,hl,_,hh,_,hx⟩
 ·exact .inl (List.length_eq_zero_iff.1 (by omega))
 ·exact .inr ⟨b,_,cs,e,_,hA,BI R hJ (hL _ _ _ _ hl),hh,fun i x hi=>ER.mono (fun n hn=>⟨BI R hJ (by rw[show g.lab n=_ from hn];simp),rfl⟩) (hx i x hi)⟩
theorem ac3(R:dG C E g st tm w){S:List Nat}(hJ:∀n,n∈S->g.lab n= .junk){bx:Nat->Option Nat}{p:Place}{c:CV}{v:Value}(h:cu g w p c v)(hp:∀b o,c≠ .ptr b o)(hq:∀f caps,c= .fn f caps->caps=[]):
 cC ⟨Iw S w,bx⟩ w (roc c) v []:=by
 have I:∀n,g.imm n->Gh.imm ⟨Iw S w,bx⟩ n/\w.heap[n]?=w.heap[n]?:=fun n hn=>⟨BI R hJ (by rw[show g.lab n=_ from hn];simp),rfl⟩
 cases c with
 |np cs=>exact⟨rfl,fun _=>trivial⟩
 |undef=>exact⟨rfl,fun _=>trivial⟩
 |v x=>exact⟨rfl,fun _=>h⟩
 |emp=>exact⟨rfl,fun _=>h⟩
 |sl t l=>exact⟨rfl,fun _=>ER.mono I h⟩
 |own t l=>exact⟨rfl,fun _=>HR.sl R hJ h (fun b off n c hl=>by rw[show g.lab b=_ from hl];simp)⟩
 |view q f lo t l=>exact⟨rfl,fun _=>HR.sl R hJ h.1 (fun b off n c hl=>by rw[show g.lab b=_ from hl];simp)⟩
 |ptr b o=>exact absurd rfl (hp b o)
 |gp b o=>exact⟨rfl,fun _=>h⟩
 |lb n=>exact⟨rfl,fun _=>h⟩
 |ea t x o=>
  obtain⟨b,off,cs,e,fz,hy,hl,hh,hx⟩:=h
  exact⟨rfl,fun _=>⟨b,off,cs,e,fz,hy,(I b hl).1,hh,ER.mono I hx⟩⟩
 |va q i t x o=>
  obtain⟨b,off,n,c,cs,e,hy,hl,hh,hx⟩:=h
  exact⟨rfl,fun _=>⟨b,off+i*t.size,cs,e,_,hy,BI R hJ (by rw[hl];simp),hh,ER.mono I hx⟩⟩
 |fn f caps=>
  obtain rfl:=hq f caps rfl
  obtain⟨cvs,hy,hs,_⟩:=h
  exact⟨rfl,fun _=>⟨cvs,hy,hs,fun i c hi=>by simp at hi⟩⟩
theorem adY(R:dG C E g st tm w){S:List Nat}(hJ:∀n,n∈S->g.lab n= .junk){p p':Place}{c:CV}{v:Value}(h:cu g w p c v):cu ⟨Iw S w,fun _=>none⟩ w p' (roc c) v:=by
 by_cases hp:∃b o,c= .ptr b o
 ·obtain⟨b,o,rfl⟩:=hp;trivial
 ·by_cases hq:∃f x caps,c= .fn f (x::caps)
  ·obtain⟨f,x,caps,rfl⟩:=hq;trivial
  ·have:=ac3 R hJ (bx:=fun _=>none) h (fun b o e=>hp ⟨b,o,e⟩) (fun f caps e=>by
    cases caps with
    |nil=>rfl
    |cons x caps=>exact absurd ⟨f,x,caps,e⟩ hq)
   cases c with
   |own t l=>exact this.2 p'
   |np cs=>trivial
   |undef=>trivial
   |fn f caps=>
    cases caps with
    |nil=>exact this.2 p'
    |cons x caps=>trivial
   |_=>exact this.2 p'
theorem WY(R:dG C E g st tm w){S:List Nat}(hJ:∀n,n∈S->g.lab n= .junk){p p':Nat->Place}:∀{cs:List CV} {i:Nat} {vs:List Value},cA g w p i cs vs->cA ⟨Iw S w,fun _=>none⟩ w p' i (cs.map roc) vs
 |[],_,_,h=>h
 |_::_,_,_,h=>by
  obtain⟨v,vs',hv,h1,h2⟩:=h
  exact⟨v,vs',hv,adY R hJ h1,WY R hJ h2⟩
def Cq(S:List Nat)(w:World)(ns:List Nat)(acc:List (List CV)):Prop:=
 acc.length=ns.length/\∀(k:Nat) (cs:List CV),acc[k]?=some cs->∃(n:Nat) (arr:Array Value) (e:TypeId) (fz:Nat×Nat),ns[k]?=some n/\Iw S w n= .imm/\w.heap[n]?=some (.cells arr e fz)/\∀p,cA ⟨Iw S w,fun _=>none⟩ w p 0 cs arr.toList
def X8(S:List Nat)(w:World)(ns:List Nat):Gh:=⟨Iw S w,fun k=>ns[k]?⟩
theorem Cq.push(R:dG C E g st tm w){S:List Nat}(hJ:∀n,n∈S->g.lab n= .junk){ns:List Nat}{acc acc':List (List CV)}{b o n:Nat}{x:Nat×Nat}(h:Cq S w ns acc)(hb:g.bx b=some n)(hr:Vb st b o acc=some (x,acc')):
 x=(ns.length,o)/\Cq S w (ns++ [n]) acc':=by
 unfold Vb at hr
 split at hr
 ·rename_i ro cs hg
  cases hr
  obtain⟨hl,h⟩:=h
  refine⟨by rw[hl],by simp[hl],fun k cs' hk=> ?_⟩
  have hg':st.boxes[b]?=some (some (ro,cs)):=by
   rw[List.getD_eq_getElem?_getD]at hg
   cases hx:st.boxes[b]? with
   |none=>rw[hx]at hg;cases hg
   |some y=>rw[hx]at hg;simpa using hg
  by_cases hkl:k<acc.length
  ·rw[List.getElem?_append_left hkl]at hk
   obtain⟨n',arr,e,fz,h1,h2⟩:=h k cs' hk
   exact⟨n',arr,e,fz,by rw[List.getElem?_append_left (by omega)];exact h1,h2⟩
  ·rw[List.getElem?_append_right (by omega)]at hk
   obtain⟨hk0,rfl⟩:k-acc.length=0/\cs.map roc=cs':=by
    rcases hd:k-acc.length with _|d
    ·rw[hd]at hk;simpa using hk
    ·rw[hd]at hk;simp at hk
   obtain⟨n',vs,e,fz,h1,h2,h3,h4,h5⟩:=R.boxes b ro cs hg'
   rw[hb]at h1
   injection h1 with h1
   subst h1
   exact⟨n,vs,e,fz,by rw[List.getElem?_append_right (by omega)];simp[show k-ns.length=0 by omega],BI R hJ (by rw[h2];cases ro<;>simp),h3,fun p=>WY R hJ h5⟩
 ·cases hr
theorem WW(R:dG C E g st tm w){S:List Nat}(hJ:∀n,n∈S->g.lab n= .junk):∀(caps:List (Nat×Nat)) (acc acc':List (List CV)) (caps':List (Nat×Nat)) (ns:List Nat),Cq S w ns acc->KM st caps acc=some (caps',acc')->
 (∀(i:Nat) (c:Nat×Nat),caps[i]?=some c->∃n,g.bx c.1=some n)->
 ∃ns',Cq S w (ns++ns') acc'/\caps'.length=caps.length/\∀(i:Nat) (c c':Nat×Nat),caps[i]?=some c->caps'[i]?=some c'->c'.2=c.2/\∃n,g.bx c.1=some n/\(ns++ns')[c'.1]?=some n
 |[],acc,acc',caps',ns,h,hr,_=>by
  cases hr
  exact⟨[],by simpa using h,rfl,fun i c c' h=>by simp at h⟩
 |(b,o)::r,acc,acc',caps',ns,h,hr,hc=>by
  unfold KM at hr
  split at hr
  ·rename_i x acc1 hx
   split at hr
   ·rename_i l acc2 hl
    cases hr
    obtain⟨n,hn⟩:=hc 0 (b,o) rfl
    obtain⟨rfl,h1⟩:=h.push R hJ hn hx
    obtain⟨ns',h2,h3,h4⟩:=WW R hJ r acc1 _ l (ns++ [n]) h1 hl (fun i c hi=>hc (i+1) c (by simpa using hi))
    refine⟨n::ns',by simpa using h2,by simp[h3],fun i c c' hi hi'=> ?_⟩
    cases i with
    |zero=>
     simp only[List.getElem?_cons_zero,Option.some.injEq]at hi hi'
     subst hi;subst hi'
     exact⟨rfl,n,hn,by simp⟩
    |succ i=>
     obtain⟨k1,n',k2,k3⟩:=h4 i c c' (by simpa using hi) (by simpa using hi')
     exact⟨k1,n',k2,by simpa using k3⟩
   ·cases hr
  ·cases hr
theorem bg.cons{g:Gh}{c:CV}{cs:List CV}{v:Value}{vs:List Value}(h:cC g w c v [])(h':bg g w cs vs):bg g w (c::cs) (v::vs):=⟨v,vs,rfl,h,h'⟩
theorem cC.cr{g:Gh}{c:CV}{v:Value}(h:cC g w c v []):(∃t l A,c= .own t l/\l=[]/\v= .slice A 0 0)\/∀p,cu g w p c v:=by
 cases c with
 |own t l=>
  obtain⟨lo,A,cap,rfl,hc,h⟩:=h
  rcases h with h0|⟨_,_,_,_,_,_,_,h,_⟩
  ·subst h0
   have:l=[]:=List.length_eq_zero_iff.1 (by omega)
   subst this
   exact .inl ⟨t,[],A,rfl,rfl,rfl⟩
  ·cases h
 |np cs=>exact h.np_nil.elim
 |_=>exact .inr h.2
theorem Pu(R:dG C E g st tm w){S:List Nat}(hJ:∀n,n∈S->g.lab n= .junk):∀(cs:List CV) (acc acc':List (List CV)) (cs':List CV) (vs:List Value) (ns:List Nat),Cq S w ns acc->JD st cs acc=some (cs',acc')->bg g w cs vs->
 ∃ns',Cq S w (ns++ns') acc'/\∀tail,bg (X8 S w (ns++ns'++tail)) w cs' vs
 |[],acc,acc',cs',vs,ns,h,hr,hn=>by
  cases hr
  exact⟨[],by simpa using h,fun _=>hn⟩
 |c::r,acc,acc',cs',vs,ns,h,hr,hn=>by
  obtain⟨v,vs',rfl,h1,h2⟩:=hn
  have plain:(∀b o,c≠ .ptr b o)->(∀f caps,c= .fn f caps->False)->(match JD st r acc with
   |some (l,acc)=>some (roc c::l,acc)
   |none=>none)=some (cs',acc')->∃ns',Cq S w (ns++ns') acc'/\∀tail,bg (X8 S w (ns++ns'++tail)) w cs' (v::vs'):=by
   intro hp hq hr
   split at hr
   ·rename_i l acc1 hl
    cases hr
    obtain⟨ns',h3,h4⟩:=Pu R hJ r acc _ l vs' ns h hl h2
    refine⟨ns',h3,fun tail=>bg.cons ?_ (h4 tail)⟩
    rcases h1.cr with⟨t,l,A,rfl,rfl,rfl⟩|h1
    ·exact⟨rfl,fun _=>⟨A,0,rfl,by simp, .inl rfl⟩⟩
    ·exact ac3 R hJ (h1 (.slot 0 0 0)) hp (fun f caps e=>(hq f caps e).elim)
   ·cases hr
  cases c with
  |ptr b o=>
   unfold JD at hr
   split at hr
   ·rename_i b' o' acc1 hx
    split at hr
    ·rename_i l acc2 hl
     cases hr
     obtain⟨n,rfl,hb⟩:=h1.2 (.slot 0 0 0)
     obtain⟨hx',h3⟩:=h.push R hJ hb hx
     cases hx'
     obtain⟨ns',h4,h5⟩:=Pu R hJ r acc1 _ l vs' (ns++ [n]) h3 hl h2
     refine⟨n::ns',by simpa using h4,fun tail=>bg.cons ⟨rfl,fun _=>⟨n,rfl, ?_⟩⟩ (by simpa using h5 tail)⟩
     simp[X8]
    ·cases hr
   ·cases hr
  |fn f caps=>
   unfold JD at hr
   split at hr
   ·rename_i caps' acc1 hx
    split at hr
    ·rename_i l acc2 hl
     cases hr
     obtain⟨cvs,rfl,hs,hcv⟩:=h1.2 (.slot 0 0 0)
     obtain⟨ns1,h3,h4,h5⟩:=WW R hJ caps acc acc1 caps' ns h hx (fun i c hi=>let⟨n,hn,_⟩:=hcv i c hi;⟨n,hn⟩)
     obtain⟨ns',h6,h7⟩:=Pu R hJ r acc1 _ l vs' (ns++ns1) h3 hl h2
     refine⟨ns1++ns',by simpa using h6,fun tail=>bg.cons ⟨rfl,fun _=>⟨cvs,rfl,by rw[hs,h4],fun i c' hi=> ?_⟩⟩ (by simpa using h7 tail)⟩
     have hil:i<caps.length:=by rw[<-h4];exact(List.getElem?_eq_some_iff.1 hi).1
     obtain⟨k1,n,k2,k3⟩:=h5 i _ c' (List.getElem?_eq_getElem hil) hi
     obtain⟨n',k4,k5⟩:=hcv i _ (List.getElem?_eq_getElem hil)
     rw[k2]at k4
     cases k4
     refine⟨n, ?_,by rw[k1];exact k5⟩
     simp only[X8]
     rw[show ns++(ns1++ns')++tail=(ns++ns1)++(ns'++tail) by simp,List.getElem?_append_left (List.getElem?_eq_some_iff.1 k3).1]
     exact k3
    ·cases hr
   ·cases hr
  |np cs=>exact plain (fun _ _ e=>by cases e) (fun _ _ e=>by cases e) hr
  |undef=>exact plain (fun _ _ e=>by cases e) (fun _ _ e=>by cases e) hr
  |v x=>exact plain (fun _ _ e=>by cases e) (fun _ _ e=>by cases e) hr
  |emp=>exact plain (fun _ _ e=>by cases e) (fun _ _ e=>by cases e) hr
  |sl t l=>exact plain (fun _ _ e=>by cases e) (fun _ _ e=>by cases e) hr
  |own t l=>exact plain (fun _ _ e=>by cases e) (fun _ _ e=>by cases e) hr
  |view q f lo t l=>exact plain (fun _ _ e=>by cases e) (fun _ _ e=>by cases e) hr
  |gp b o=>exact plain (fun _ _ e=>by cases e) (fun _ _ e=>by cases e) hr
  |lb n=>exact plain (fun _ _ e=>by cases e) (fun _ _ e=>by cases e) hr
  |ea t x o=>exact plain (fun _ _ e=>by cases e) (fun _ _ e=>by cases e) hr
  |va q i t x o=>exact plain (fun _ _ e=>by cases e) (fun _ _ e=>by cases e) hr
theorem WX(R:dG C E g st tm w){S:List Nat}(hJ:∀n,n∈S->g.lab n= .junk):∀(as:List AV) (acc acc':List (List CV)) (vals:List Val) (vs:List Value) (ns:List Nat),Cq S w ns acc->Cc st as acc=some (vals,acc')->vG g w as vs->
 ∃ns',Cq S w (ns++ns') acc'/\∀tail,Yb (X8 S w (ns++ns'++tail)) w vals vs
 |[],acc,acc',vals,vs,ns,h,hr,hn=>by
  cases hr
  exact⟨[],by simpa using h,fun _=>hn⟩
 | .tup _::_,_,_,_,_,_,_,hr,_=>by simp[Cc]at hr
 | .one x::r,acc,acc',vals,vs,ns,h,hr,hn=>by
   obtain⟨v,vs',rfl,h1,h2⟩:=hn
   unfold Cc at hr
   split at hr
   ·rename_i cs acc1 hx
    split at hr
    ·rename_i l acc2 hl
     cases hr
     have step:∀(vals:List Value),bg g w x.cs vals->∃ns',Cq S w (ns++ns') acc1/\∀tail,bg (X8 S w (ns++ns'++tail)) w cs vals:=
      fun vals hv=>Pu R hJ x.cs acc acc1 cs vals ns h hx hv
     obtain⟨ns1,h3,h4⟩:∃ns',Cq S w (ns++ns') acc1/\∀tail,NV (X8 S w (ns++ns'++tail)) w ⟨x.agg,cs⟩ v:=by
      obtain⟨xa,xcs⟩:=x
      cases xa with
      |true=>
       obtain⟨vs,rfl,hv⟩:=h1
       obtain⟨ns',h3,h4⟩:=step _ hv
       exact⟨ns',h3,fun tail=>⟨vs,rfl,h4 tail⟩⟩
      |false=>
       obtain⟨ns',h3,h4⟩:=step [v] h1
       exact⟨ns',h3,fun tail=>h4 tail⟩
     obtain⟨ns2,h5,h6⟩:=WX R hJ r acc1 _ l vs' (ns++ns1) h3 hl h2
     refine⟨ns1++ns2,by simpa using h5,fun tail=>⟨v,vs',rfl, ?_,by simpa using h6 tail⟩⟩
     have:=h4 (ns2++tail)
     simpa using this
    ·cases hr
   ·cases hr
end
end Go.Vai
