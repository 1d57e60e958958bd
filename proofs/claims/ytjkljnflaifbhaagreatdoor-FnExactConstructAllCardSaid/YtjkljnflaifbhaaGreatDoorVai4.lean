/- No conditions. -/
import Derived.Test.YtjkljnflaifbhaaGreatDoorVai3
import Derived.Laws.Cells
namespace Go.Vai
open Go
theorem cu.any{g:Gh}{w:World}{p q:Place}{c:CV}{v:Value}(hc:c.isOwn=false)(h:cu g w p c v):cu g w q c v:=by
 cases c<;>first|exact h|cases hc
def bg(g:Gh)(w:World):List CV->List Value->Prop
 |[],vs=>vs=[]
 |c::r,vs=>∃v vs',vs=v::vs'/\cC g w c v []/\bg g w r vs'
def NV(g:Gh)(w:World)(x:Val)(v:Value):Prop:=
 match x.agg with
 |true=>∃vs,v= .agg vs/\bg g w x.cs vs.toList
 |false=>bg g w x.cs [v]
def Yb(g:Gh)(w:World):List Val->List Value->Prop
 |[],vs=>vs=[]
 |x::r,vs=>∃v vs',vs=v::vs'/\NV g w x v/\Yb g w r vs'
def kl(g:Gh)(w:World)(a:AV)(v:Value):Prop:=
 match a with
 | .one x=>NV g w x v
 | .tup l=>∃vs,v= .tuple vs/\Yb g w l vs.toList
theorem bg.fs{g:Gh}{w:World}:∀{cs:List CV} {vs:List Value},bg g w cs vs->∃ms,bS g w cs vs ms/\aj ms=[]
 |[],_,h=>⟨[],⟨h,rfl⟩,rfl⟩
 |c::r,_,h=>by
  obtain⟨v,vs',rfl,h1,h2⟩:=h
  obtain⟨ms,h3,h4⟩:=bg.fs h2
  exact⟨[]::ms,⟨v,vs',[],ms,rfl,rfl,h1,h3⟩,h4⟩
theorem NV.fs{g:Gh}{w:World}{x:Val}{v:Value}(h:NV g w x v):∃ms,FV g w x v ms/\aj ms=[]:=by
 obtain⟨a,cs⟩:=x
 cases a with
 |true=>
  obtain⟨vs,hv,h⟩:=h
  obtain⟨ms,h1,h2⟩:=h.fs
  exact⟨ms,⟨vs,hv,h1⟩,h2⟩
 |false=>exact bg.fs (cs:=cs) h
theorem Yb.fs{g:Gh}{w:World}:∀{l:List Val} {vs:List Value},Yb g w l vs->∃ms,sR g w l vs ms/\aj ms=[]
 |[],_,h=>⟨[],⟨h,rfl⟩,rfl⟩
 |c::r,_,h=>by
  obtain⟨v,vs',rfl,h1,h2⟩:=h
  obtain⟨ms,h3,h4⟩:=h1.fs
  obtain⟨ms',h5,h6⟩:=Yb.fs h2
  exact⟨ms++ms',⟨v,vs',ms,ms',rfl,rfl,h3,h5⟩,by rw[cJ,h4,h6];rfl⟩
theorem kl.fs{g:Gh}{w:World}{a:AV}{v:Value}(h:kl g w a v):∃ms,LB g w a v ms/\aj ms=[]:=by
 cases a with
 |one x=>exact NV.fs h
 |tup l=>
  obtain⟨vs,hv,h⟩:=h
  obtain⟨ms,h1,h2⟩:=h.fs
  exact⟨ms,⟨vs,hv,h1⟩,h2⟩
theorem bg.ls{g:Gh}{w:World}{bad:List Place}:∀{cs:List CV} {vs:List Value},bg g w cs vs->Ry g w bad cs vs
 |[],_,h=>h
 |_::_,_,h=>by
  obtain⟨v,vs',rfl,h1,h2⟩:=h
  exact⟨v,vs',rfl, .inr (.inr h1),h2.ls⟩
theorem bg.length{g:Gh}{w:World}:∀{cs:List CV} {vs:List Value},bg g w cs vs->cs.length=vs.length
 |[],_,h=>by subst h;rfl
 |_::_,_,h=>by obtain⟨v,vs',rfl,_,h2⟩:=h;simp[h2.length]
theorem bg.get{g:Gh}{w:World}:∀{cs:List CV} {vs:List Value},bg g w cs vs->∀{i:Nat} {c:CV},cs[i]?=some c->∃v,vs[i]?=some v/\cC g w c v []
 |[],_,_,_,_,hi=>by simp at hi
 |_::_,_,h,i,c,hi=>by
  obtain⟨v,vs',rfl,h1,h2⟩:=h
  cases i with
  |zero=>simp at hi;subst hi;exact⟨v,rfl,h1⟩
  |succ i=>exact h2.get (by simpa using hi)
theorem bg.drop{g:Gh}{w:World}:∀(n:Nat) {cs:List CV} {vs:List Value},bg g w cs vs->bg g w (cs.drop n) (vs.drop n)
 |0,_,_,h=>h
 |n+1,[],_,h=>by subst h;simp[bg]
 |n+1,_::_,_,h=>by obtain⟨v,vs',rfl,_,h2⟩:=h;exact h2.drop n
theorem bg.take{g:Gh}{w:World}:∀(n:Nat) {cs:List CV} {vs:List Value},bg g w cs vs->bg g w (cs.take n) (vs.take n)
 |0,_,_,_=>by simp[bg]
 |n+1,[],_,h=>by subst h;simp[bg]
 |n+1,_::_,_,h=>by obtain⟨v,vs',rfl,h1,h2⟩:=h;exact⟨v,_,rfl,h1,h2.take n⟩
theorem bg.append{g:Gh}{w:World}:∀{cs:List CV} {vs:List Value},bg g w cs vs->∀{cs' vs'},bg g w cs' vs'->bg g w (cs++cs') (vs++vs')
 |[],_,h,_,_,h'=>by subst h;exact h'
 |_::_,_,h,_,_,h'=>by obtain⟨v,vs',rfl,h1,h2⟩:=h;exact⟨v,_,rfl,h1,h2.append h'⟩
theorem bg.one{g:Gh}{w:World}{c:CV}{v:Value}(h:cC g w c v []):bg g w [c] [v]:=⟨v,[],rfl,h,rfl⟩
theorem bg.map{g:Gh}{w:World}(f:CV->CV)(hf:∀c v,cC g w c v []->cC g w (f c) v []):∀{cs:List CV} {vs:List Value},bg g w cs vs->bg g w (cs.map f) vs
 |[],_,h=>h
 |_::_,_,h=>by obtain⟨v,vs',rfl,h1,h2⟩:=h;exact⟨v,vs',rfl,hf _ _ h1,bg.map f hf h2⟩
theorem cC.lend{g:Gh}{w:World}{p:Place}{c:CV}{v:Value}(h:cu g w p c v):cC g w (adI p c) v []:=by
 cases c with
 |own t l=>exact⟨rfl,fun _=>⟨h,fun e=>by cases e⟩⟩
 |np cs=>exact⟨rfl,fun _=>trivial⟩
 |undef=>exact⟨rfl,fun _=>trivial⟩
 |v x=>exact⟨rfl,fun _=>h⟩
 |emp=>exact⟨rfl,fun _=>h⟩
 |sl t l=>exact⟨rfl,fun _=>h⟩
 |view q f lo t l=>exact⟨rfl,fun _=>h⟩
 |ptr b o=>exact⟨rfl,fun _=>h⟩
 |gp b o=>exact⟨rfl,fun _=>h⟩
 |lb n=>exact⟨rfl,fun _=>h⟩
 |ea t x o=>exact⟨rfl,fun _=>h⟩
 |va q i t x o=>exact⟨rfl,fun _=>h⟩
 |fn f caps=>exact⟨rfl,fun _=>h⟩
theorem bg.lends{g:Gh}{w:World}{p:Nat->Place}:∀{cs:List CV} {i:Nat} {vs:List Value},cA g w p i cs vs->bg g w (pP p i cs) vs
 |[],_,_,h=>h
 |_::_,_,_,h=>by obtain⟨v,vs',rfl,h1,h2⟩:=h;exact⟨v,vs',rfl,cC.lend h1,bg.lends h2⟩
theorem NV.lend{g:Gh}{w:World}{p:Nat->Place}{x:Val}{v:Value}(h:yG g w p x v):NV g w ⟨x.agg,Vai.pP p 0 x.cs⟩ v:=by
 obtain⟨a,cs⟩:=x
 cases a with
 |true=>obtain⟨vs,hv,h⟩:=h;exact⟨vs,hv,bg.lends h⟩
 |false=>exact bg.lends (cs:=cs) h
theorem Yb.lend{g:Gh}{w:World}{i:Nat}:∀{l:List Val} {k:Nat} {vs:List Value},uu g w i k l vs->Yb g w (Uy i k l) vs
 |[],_,_,h=>h
 |_::_,_,_,h=>by obtain⟨v,vs',rfl,h1,h2⟩:=h;exact⟨v,vs',rfl,NV.lend h1,Yb.lend h2⟩
theorem kl.lend{g:Gh}{w:World}{i:Nat}{a:AV}{v:Value}(h:yM g w i a v):kl g w (Ix i a) v:=by
 cases a with
 |one x=>exact NV.lend h
 |tup l=>obtain⟨vs,hv,h⟩:=h;exact⟨vs,hv,Yb.lend h⟩
theorem kl.undef{g:Gh}{w:World}{v:Value}:kl g w .undef v:=bg.one (c:=.undef) ⟨rfl,fun _=>trivial⟩
theorem bg.vs{g:Gh}{w:World}:∀(l:List Value),bg g w (l.map .v) l
 |[]=>rfl
 |x::r=>⟨x,r,rfl,⟨rfl,fun _=>rfl⟩,bg.vs r⟩
theorem kl.c{g:Gh}{w:World}{c:CV}{v:Value}(h:cC g w c v []):kl g w (.c c) v:=bg.one h
theorem kl.v{g:Gh}{w:World}(x:Value):kl g w (.c (.v x)) x:=kl.c ⟨rfl,fun _=>rfl⟩
theorem JS{g:Gh}{w:World}(x:Value):kl g w (TA x) x:=by
 cases x<;>first|exact kl.v _|exact⟨_,rfl,bg.vs _⟩
theorem dG.getD{C:gY}{E:iU}{g:Gh}{st:St}{tm:Array Value}{w:World}(R:dG C E g st tm w)(i:Nat):yM g w i (st.get i) (tm.getD i undef):=by
 simp only[St.get,List.getD_eq_getElem?_getD]
 cases h:st.slots[i]? with
 |none=>exact⟨_,_,rfl,trivial,rfl⟩
 |some a=>
  obtain⟨v,hv,h'⟩:=R.slots i a h
  simp only[Option.getD_some]
  rw[Array.getD_eq_getD_getElem?,hv];exact h'
theorem lC{C:gY}{E:iU}{g:Gh}{st:St}{a:Act}{w:World}(R:dG C E g st a.tmps w)(x:Operand):kl g w (st.opd x) (a.eval x):=by
 cases x with
 |tmp i=>exact kl.lend (R.getD i)
 |const x=>exact JS x
 |global h=>exact kl.c ⟨rfl,fun _=>rfl⟩
 |func f=>exact kl.c ⟨rfl,fun _=>⟨#[],rfl,rfl,fun i c h=>by simp at h⟩⟩
theorem G0{g:Gh}{w:World}:∀(t:Ty) (vs:List Value),t.freshOk vs=true->bg g w t.fresh vs
 | .int k,[.int k' n],h=>by
   simp only[Ty.freshOk,Bool.and_eq_true,decide_eq_true_eq]at h
   obtain⟨rfl,rfl⟩:=h
   exact bg.one ⟨rfl,fun _=>rfl⟩
 | .bool,[.bool b],h=>by
   simp only[Ty.freshOk,Bool.not_eq_true']at h
   subst h
   exact bg.one ⟨rfl,fun _=>rfl⟩
 | .str,[.string s],h=>by
   simp only[Ty.freshOk,decide_eq_true_eq]at h
   have:s=⟨#[]⟩:=by
    cases s with
    |mk d=>simp only[ByteArray.size]at h;rw[Array.eq_empty_of_size_eq_zero h]
   subst this
   exact bg.one ⟨rfl,fun _=>rfl⟩
 | .unit,[],_=>rfl
 | .pair a b,vs,h=>by
   simp only[Ty.freshOk,Bool.and_eq_true]at h
   have:=(G0 a _ h.1).append (G0 (g:=g) (w:=w) b _ h.2)
   rwa [List.take_append_drop]at this
 | .slice t,[.slice none n c],h=>by
   simp only[Ty.freshOk,Bool.and_eq_true,decide_eq_true_eq]at h
   obtain⟨rfl,rfl⟩:=h
   exact bg.one ⟨0,none,0,rfl,by simp, .inl rfl⟩
theorem sX{C:gY}{E:iU}{g:Gh}{st:St}{a:Act}{w:World}(R:dG C E g st a.tmps w)(T:TypeId)(x:Operand):
 kl g w (st.opdT C.P T x) (a.eval x):=by
 cases x with
 |tmp i=>exact lC R (.tmp i)
 |global h=>exact lC R (.global h)
 |func f=>exact lC R (.func f)
 |const x=>
  simp only[St.opdT]
  cases Zs C.P T with
  |none=>exact JS x
  |some y=>
   simp only
   by_cases hf:y.freshOk x.cells.toList=true
   ·rw[if_pos hf]
    have h:=G0 (g:=g) (w:=w) y _ hf
    cases x<;>first|exact h|exact⟨_,rfl,h⟩
   ·rw[if_neg hf];exact JS x
theorem Do{C:gY}{E:iU}{g:Gh}{st:St}{a:Act}{w:World}(R:dG C E g st a.tmps w)(T:TypeId)(x:Operand):
 kl g w (st.eqOpd C.P T x) (a.eval x):=by
 unfold St.eqOpd
 split
 ·exact kl.c ⟨rfl,fun _=>rfl⟩
 ·exact sX R T x
theorem an{P:Program}{t:TypeId}{d:TypeDesc}(h:P.underlying t=some d)(w:World):(underlying t).run P w= .ok d w:=by
 simp[underlying,h]
theorem dL{P:Program}{t:TypeId}{n:Nat}(h:sK P t=some n)(w:World):(sizeOf t).run P w= .ok n w:=by
 simp only[sK,Option.map_eq_some_iff]at h
 obtain⟨i,hi,rfl⟩:=h
 simp[sizeOf,typeInfo,hi]
theorem HM{P:Program}{t:TypeId}{b:Bool}(h:si P t=some b)(w:World):(isAgg t).run P w= .ok b w:=by
 simp only[si,Option.map_eq_some_iff]at h
 obtain⟨d,hd,rfl⟩:=h
 simp only[isAgg,Sem.run_bind,an hd,Result.andThen_ok]
 cases d<;>rfl
theorem cell_of{w:World}{b off:Nat}{vs:Array Value}{e:TypeId}{fz:Nat×Nat}(h:w.heap[b]?=some (.cells vs e fz)):
 w.cell? ⟨b,off,none⟩=vs[off]?:=by
 simp[World.cell?,h]
theorem Jd{P:Program}{w:World}{T:TypeId}{b off:Nat}{vs:Array Value}{e:TypeId}{fz:Nat×Nat}{v:Value}
 (ha:si P T=some false) (h:w.heap[b]?=some (.cells vs e fz)) (hv:vs.toList[off]?=some v):
 (Instr.loadAt T (.pointer (some ⟨b,off,none⟩))).run P w= .ok v w:=by
 have hc:w.cell? ⟨b,off,none⟩=some v:=by rw[cell_of h];simpa using hv
 simp[Instr.loadAt,Instr.sureAddr,loadVar,HM ha,hc]
theorem Jc{P:Program}{w:World}{T:TypeId}{b off n:Nat}{vs:Array Value}{e:TypeId}{fz:Nat×Nat}
 (ha:si P T=some true) (hn:sK P T=some n) (h:w.heap[b]?=some (.cells vs e fz)) (hl:(nS vs off n).length=n):
 (Instr.loadAt T (.pointer (some ⟨b,off,none⟩))).run P w= .ok (.agg (nS vs off n).toArray) w:=by
 have:=run_loadCells_list (P:=P) w ⟨b,off,none⟩ (nS vs off n) (fun j v hj=>by
  have hj':j<n:=by
   have:=(List.getElem?_eq_some_iff.1 hj).1
   omega
  have e:(⟨b,off,none⟩:Addr).add j=⟨b,off+j,none⟩:=by simp[Addr.add]
  rw[e,cell_of h]
  simp only[nS,List.getElem?_take,hj',if_true,List.getElem?_drop]at hj
  simpa using hj)
 rw[hl]at this
 simp[Instr.loadAt,Instr.sureAddr,loadVar,HM ha,dL hn,this]
theorem ER.cells{g:Gh}{w:World}:∀{t:Ty} {x:t.T} {vs:List Value},ER g.imm w t x vs->bg g w (t.cells x) vs
 | .int _,_,_,h=>by simp only[ER]at h;subst h;exact bg.one ⟨rfl,fun _=>rfl⟩
 | .bool,_,_,h=>by simp only[ER]at h;subst h;exact bg.one ⟨rfl,fun _=>rfl⟩
 | .str,_,_,h=>by simp only[ER]at h;subst h;exact bg.one ⟨rfl,fun _=>rfl⟩
 | .unit,_,_,h=>h
 | .pair a b,x,vs,h=>by
   have:=(ER.cells h.1).append (ER.cells h.2)
   rwa [List.take_append_drop]at this
 | .slice t,l,vs,h=>by
   obtain⟨A,cap,rfl,h⟩:=h
   exact bg.one ⟨rfl,fun _=>⟨A,cap,rfl,h⟩⟩
theorem Yv{C:gY}{E:iU}{g:Gh}{st:St}{tm:Array Value}{w:World}(R:dG C E g st tm w){c:CV}{y:Value}{o:Nat}{cs:List CV}
 (hc:cC g w c y []) (h:C5 C st c=some (o,cs)):
 ∃b off vs e fz,y= .pointer (some ⟨b,off+o,none⟩)/\w.heap[b]?=some (.cells vs e fz)/\bg g w cs (nS vs off cs.length):=by
 have full:∀(vs:Array Value),cs.length=vs.toList.length->bg g w cs vs.toList->bg g w cs (nS vs 0 cs.length):=by
  intro vs hl hn
  simp only[nS,List.drop_zero,hl,List.take_length];exact hn
 cases c with
 |ptr b o'=>
  simp only[C5]at h
  obtain⟨n,hy,hb⟩:=hc.2 (.slot 0 0 0)
  cases hbx:st.boxes.getD b none with
  |none=>rw[hbx]at h;cases h
  |some x=>
   obtain⟨ro,cs'⟩:=x
   rw[hbx]at h
   simp only[Option.some.injEq,Prod.mk.injEq]at h
   obtain⟨rfl,rfl⟩:=h
   have hb':st.boxes[b]?=some (some (ro,cs')):=by
    rw[List.getD_eq_getElem?_getD]at hbx
    cases hq:st.boxes[b]? with
    |none=>rw[hq]at hbx;cases hbx
    |some z=>rw[hq]at hbx;simp at hbx;rw[hbx]
   obtain⟨n',vs,e,fz,h1,h2,h3,h4,h5⟩:=R.boxes b ro cs' hb'
   rw[hb]at h1
   simp only[Option.some.injEq]at h1
   subst h1
   have hn:=bg.lends h5
   exact⟨n,0,vs,e,fz,by simpa using hy,h3,full vs (by simpa using hn.length) hn⟩
 |lb n=>cases h
 |gp b o'=>
  simp only[C5]at h
  have hy:=hc.2 (.slot 0 0 0)
  cases hg:C.glob b with
  |none=>rw[hg]at h;cases h
  |some cs'=>
   rw[hg]at h
   simp only[Option.some.injEq,Prod.mk.injEq]at h
   obtain⟨rfl,rfl⟩:=h
   obtain⟨vs,e,fz,h1,h2,h3⟩:=R.glob b _ hg
   have hy:y= .pointer (some ⟨b,_,none⟩):=hy
   refine⟨b,0,vs,e,fz,by simpa using hy,h1,full vs (by rw[h3];simp) (h3▸bg.vs _)⟩
 |ea t x o'=>
  simp only[C5,Option.some.injEq,Prod.mk.injEq]at h
  obtain⟨rfl,rfl⟩:=h
  obtain⟨b,off,vs,e,fz,hy,hl,hh,hx⟩:=hc.2 (.slot 0 0 0)
  have hn:=hx.cells
  refine⟨b,off,vs,e,fz,hy,hh, ?_⟩
  rw[hn.length,hx.length];exact hn
 |va q i t x o'=>
  simp only[C5,Option.some.injEq,Prod.mk.injEq]at h
  obtain⟨rfl,rfl⟩:=h
  obtain⟨b,off,n,c,vs,e,hy,hl,hh,hx⟩:=hc.2 (.slot 0 0 0)
  have hn:=hx.cells
  refine⟨b,off+i*t.size,vs,e,_,hy,hh, ?_⟩
  rw[hn.length,hx.length];exact hn
 |np cs=>cases h
 |undef=>cases h
 |v x=>cases h
 |emp=>cases h
 |sl t l=>cases h
 |own t l=>cases h
 |view q f lo t l=>cases h
 |fn f caps=>cases h
def tM(C:gY)(g:Gh)(w:World){Q:Type}(s:Sem Value)(k:AV->Option Q)(r:Q):Prop:=
 ∃av v,k av=some r/\s.run C.P w= .ok v w/\kl g w av v
theorem kl.one_inv{g:Gh}{w:World}{c:CV}{y:Value}(h:kl g w (.one ⟨false,[c]⟩) y):cC g w c y []:=by
 obtain⟨v,vs',hv,h1,h2⟩:=h
 injection hv with hv _
 subst hv;exact h1
theorem Yh{C:gY}{E:iU}{g:Gh}{st:St}{tm:Array Value}{w:World}(R:dG C E g st tm w){T:TypeId}{a:AV}{y:Value}
 {Q:Type} {k:AV->Option Q} {r:Q} (ha:kl g w a y) (h:JL C st T a k=some r):tM C g w (Instr.loadAt T y) k r:=by
 unfold JL at h
 split at h
 ·rename_i c
  have hc:=ha.one_inv
  split at h
  ·rename_i o cs hcell
   obtain⟨b,off,vs,e,fz,rfl,hh,hn⟩:=Yv R hc hcell
   split at h
   ·rename_i hagg
    split at h
    ·rename_i n hsz
     split at h
     ·rename_i hlen
      have hn':=(hn.drop o).take n
      have hseg:((nS vs off cs.length).drop o).take n=nS vs (off+o) n:=by
       have hl:=hn'.length
       rw[hlen]at hl
       simp only[nS]at hl⊢
       rw[List.drop_take,List.take_take,List.drop_drop]
       congr 1
       simp only[List.length_take,List.length_drop]at hl hlen⊢
       omega
      rw[hseg]at hn'
      have hl':(nS vs (off+o) n).length=n:=by rw[<-hn'.length];exact hlen
      exact⟨_,_,h,Jc hagg hsz hh hl',_,rfl,hn'⟩
     ·cases h
    ·cases h
   ·rename_i hagg
    split at h
    ·rename_i c' hc'
     obtain⟨v,hv,hf⟩:=hn.get hc'
     have hv':vs.toList[off+o]?=some v:=by
      simp only[nS,List.getElem?_take,List.getElem?_drop]at hv
      split at hv
      ·exact hv
      ·cases hv
     exact⟨_,_,h,Jd hagg hh hv',kl.c hf⟩
    ·cases h
   ·cases h
  ·cases h
 ·cases h
end Go.Vai
