/- No conditions. -/
import Derived.Test.YtjkljnflaifbhaaGreatDoorVai3
import Derived.Laws.Cells
namespace Go.Vai
open Go
theorem bF.any{g:Gh}{w:World}{p q:Place}{c:CV}{v:Value}(hc:c.isOwn=false)(h:bF g w p c v):bF g w q c v:=by
 cases c<;>first|exact h|cases hc
def aO(g:Gh)(w:World):List CV->List Value->Prop
 |[],vs=>vs=[]
 |c::r,vs=>∃v vs',vs=v::vs'/\bO g w c v []/\aO g w r vs'
def NV(g:Gh)(w:World)(x:Val)(v:Value):Prop:=
 match x.agg with
 |true=>∃vs,v= .agg vs/\aO g w x.cs vs.toList
 |false=>aO g w x.cs [v]
def JI(g:Gh)(w:World):List Val->List Value->Prop
 |[],vs=>vs=[]
 |x::r,vs=>∃v vs',vs=v::vs'/\NV g w x v/\JI g w r vs'
def fH(g:Gh)(w:World)(a:AV)(v:Value):Prop:=
 match a with
 | .one x=>NV g w x v
 | .tup l=>∃vs,v= .tuple vs/\JI g w l vs.toList
theorem aO.fs{g:Gh}{w:World}:∀{cs:List CV} {vs:List Value},aO g w cs vs->∃ms,bD g w cs vs ms/\ar ms=[]
 |[],_,h=>⟨[],⟨h,rfl⟩,rfl⟩
 |c::r,_,h=>by
  obtain⟨v,vs',rfl,h1,h2⟩:=h
  obtain⟨ms,h3,h4⟩:=aO.fs h2
  exact⟨[]::ms,⟨v,vs',[],ms,rfl,rfl,h1,h3⟩,h4⟩
theorem NV.fs{g:Gh}{w:World}{x:Val}{v:Value}(h:NV g w x v):∃ms,FV g w x v ms/\ar ms=[]:=by
 obtain⟨a,cs⟩:=x
 cases a with
 |true=>
  obtain⟨vs,hv,h⟩:=h
  obtain⟨ms,h1,h2⟩:=h.fs
  exact⟨ms,⟨vs,hv,h1⟩,h2⟩
 |false=>exact aO.fs (cs:=cs) h
theorem JI.fs{g:Gh}{w:World}:∀{l:List Val} {vs:List Value},JI g w l vs->∃ms,wN g w l vs ms/\ar ms=[]
 |[],_,h=>⟨[],⟨h,rfl⟩,rfl⟩
 |c::r,_,h=>by
  obtain⟨v,vs',rfl,h1,h2⟩:=h
  obtain⟨ms,h3,h4⟩:=h1.fs
  obtain⟨ms',h5,h6⟩:=JI.fs h2
  exact⟨ms++ms',⟨v,vs',ms,ms',rfl,rfl,h3,h5⟩,by rw[bW,h4,h6];rfl⟩
theorem fH.fs{g:Gh}{w:World}{a:AV}{v:Value}(h:fH g w a v):∃ms,AL g w a v ms/\ar ms=[]:=by
 cases a with
 |one x=>exact NV.fs h
 |tup l=>
  obtain⟨vs,hv,h⟩:=h
  obtain⟨ms,h1,h2⟩:=h.fs
  exact⟨ms,⟨vs,hv,h1⟩,h2⟩
theorem aO.ls{g:Gh}{w:World}{bad:List Place}:∀{cs:List CV} {vs:List Value},aO g w cs vs->E6 g w bad cs vs
 |[],_,h=>h
 |_::_,_,h=>by
  obtain⟨v,vs',rfl,h1,h2⟩:=h
  exact⟨v,vs',rfl, .inr (.inr h1),h2.ls⟩
theorem aO.length{g:Gh}{w:World}:∀{cs:List CV} {vs:List Value},aO g w cs vs->cs.length=vs.length
 |[],_,h=>by subst h;rfl
 |_::_,_,h=>by obtain⟨v,vs',rfl,_,h2⟩:=h;simp[h2.length]
theorem aO.get{g:Gh}{w:World}:∀{cs:List CV} {vs:List Value},aO g w cs vs->∀{i:Nat} {c:CV},cs[i]?=some c->∃v,vs[i]?=some v/\bO g w c v []
 |[],_,_,_,_,hi=>by simp at hi
 |_::_,_,h,i,c,hi=>by
  obtain⟨v,vs',rfl,h1,h2⟩:=h
  cases i with
  |zero=>simp at hi;subst hi;exact⟨v,rfl,h1⟩
  |succ i=>exact h2.get (by simpa using hi)
theorem aO.drop{g:Gh}{w:World}:∀(n:Nat) {cs:List CV} {vs:List Value},aO g w cs vs->aO g w (cs.drop n) (vs.drop n)
 |0,_,_,h=>h
 |n+1,[],_,h=>by subst h;simp[aO]
 |n+1,_::_,_,h=>by obtain⟨v,vs',rfl,_,h2⟩:=h;exact h2.drop n
theorem aO.take{g:Gh}{w:World}:∀(n:Nat) {cs:List CV} {vs:List Value},aO g w cs vs->aO g w (cs.take n) (vs.take n)
 |0,_,_,_=>by simp[aO]
 |n+1,[],_,h=>by subst h;simp[aO]
 |n+1,_::_,_,h=>by obtain⟨v,vs',rfl,h1,h2⟩:=h;exact⟨v,_,rfl,h1,h2.take n⟩
theorem aO.append{g:Gh}{w:World}:∀{cs:List CV} {vs:List Value},aO g w cs vs->∀{cs' vs'},aO g w cs' vs'->aO g w (cs++cs') (vs++vs')
 |[],_,h,_,_,h'=>by subst h;exact h'
 |_::_,_,h,_,_,h'=>by obtain⟨v,vs',rfl,h1,h2⟩:=h;exact⟨v,_,rfl,h1,h2.append h'⟩
theorem aO.one{g:Gh}{w:World}{c:CV}{v:Value}(h:bO g w c v []):aO g w [c] [v]:=⟨v,[],rfl,h,rfl⟩
theorem aO.map{g:Gh}{w:World}(f:CV->CV)(hf:∀c v,bO g w c v []->bO g w (f c) v []):∀{cs:List CV} {vs:List Value},aO g w cs vs->aO g w (cs.map f) vs
 |[],_,h=>h
 |_::_,_,h=>by obtain⟨v,vs',rfl,h1,h2⟩:=h;exact⟨v,vs',rfl,hf _ _ h1,aO.map f hf h2⟩
theorem bO.lend{g:Gh}{w:World}{p:Place}{c:CV}{v:Value}(h:bF g w p c v):bO g w (Pd p c) v []:=by
 cases c with
 |own t l=>exact⟨rfl,fun _=>⟨h,fun e=>by cases e⟩⟩
 |np cs=>exact⟨rfl,fun _=>trivial⟩
 |undef=>exact⟨rfl,fun _=>trivial⟩
 |v x=>exact⟨rfl,fun _=>h⟩
 |emp=>exact⟨rfl,fun _=>h⟩
 |sl t l=>exact⟨rfl,fun _=>h⟩
 |view q f lo t l=>exact⟨rfl,fun _=>h⟩
 |ptr b o=>exact⟨rfl,fun _=>h⟩
 |gp b o=>exact⟨rfl,fun _=>h⟩
 |lb n=>exact⟨rfl,fun _=>h⟩
 |ea t x o=>exact⟨rfl,fun _=>h⟩
 |va q i t x o=>exact⟨rfl,fun _=>h⟩
 |fn f caps=>exact⟨rfl,fun _=>h⟩
theorem aO.lends{g:Gh}{w:World}{p:Nat->Place}:∀{cs:List CV} {i:Nat} {vs:List Value},bM g w p i cs vs->aO g w (je p i cs) vs
 |[],_,_,h=>h
 |_::_,_,_,h=>by obtain⟨v,vs',rfl,h1,h2⟩:=h;exact⟨v,vs',rfl,bO.lend h1,aO.lends h2⟩
theorem NV.lend{g:Gh}{w:World}{p:Nat->Place}{x:Val}{v:Value}(h:qi g w p x v):NV g w ⟨x.agg,Vai.je p 0 x.cs⟩ v:=by
 obtain⟨a,cs⟩:=x
 cases a with
 |true=>obtain⟨vs,hv,h⟩:=h;exact⟨vs,hv,aO.lends h⟩
 |false=>exact aO.lends (cs:=cs) h
theorem JI.lend{g:Gh}{w:World}{i:Nat}:∀{l:List Val} {k:Nat} {vs:List Value},nh g w i k l vs->JI g w (Hp i k l) vs
 |[],_,_,h=>h
 |_::_,_,_,h=>by obtain⟨v,vs',rfl,h1,h2⟩:=h;exact⟨v,vs',rfl,NV.lend h1,JI.lend h2⟩
theorem fH.lend{g:Gh}{w:World}{i:Nat}{a:AV}{v:Value}(h:qj g w i a v):fH g w (xQ i a) v:=by
 cases a with
 |one x=>exact NV.lend h
 |tup l=>obtain⟨vs,hv,h⟩:=h;exact⟨vs,hv,JI.lend h⟩
theorem fH.undef{g:Gh}{w:World}{v:Value}:fH g w .undef v:=aO.one (c:=.undef) ⟨rfl,fun _=>trivial⟩
theorem aO.vs{g:Gh}{w:World}:∀(l:List Value),aO g w (l.map .v) l
 |[]=>rfl
 |x::r=>⟨x,r,rfl,⟨rfl,fun _=>rfl⟩,aO.vs r⟩
theorem fH.c{g:Gh}{w:World}{c:CV}{v:Value}(h:bO g w c v []):fH g w (.c c) v:=aO.one h
theorem fH.v{g:Gh}{w:World}(x:Value):fH g w (.c (.v x)) x:=fH.c ⟨rfl,fun _=>rfl⟩
theorem zg{g:Gh}{w:World}(x:Value):fH g w (GA x) x:=by
 cases x<;>first|exact fH.v _|exact⟨_,rfl,aO.vs _⟩
theorem cG.getD{C:eo}{E:eU}{g:Gh}{st:St}{tm:Array Value}{w:World}(R:cG C E g st tm w)(i:Nat):qj g w i (st.get i) (tm.getD i undef):=by
 simp only[St.get,List.getD_eq_getElem?_getD]
 cases h:st.slots[i]? with
 |none=>exact⟨_,_,rfl,trivial,rfl⟩
 |some a=>
  obtain⟨v,hv,h'⟩:=R.slots i a h
  simp only[Option.getD_some]
  rw[Array.getD_eq_getD_getElem?,hv];exact h'
theorem gF{C:eo}{E:eU}{g:Gh}{st:St}{a:Act}{w:World}(R:cG C E g st a.tmps w)(x:Operand):fH g w (st.opd x) (a.eval x):=by
 cases x with
 |tmp i=>exact fH.lend (R.getD i)
 |const x=>exact zg x
 |global h=>exact fH.c ⟨rfl,fun _=>rfl⟩
 |func f=>exact fH.c ⟨rfl,fun _=>⟨#[],rfl,rfl,fun i c h=>by simp at h⟩⟩
theorem wX{g:Gh}{w:World}:∀(t:Ty) (vs:List Value),t.freshOk vs=true->aO g w t.fresh vs
 | .int k,[.int k' n],h=>by
   simp only[Ty.freshOk,Bool.and_eq_true,decide_eq_true_eq]at h
   obtain⟨rfl,rfl⟩:=h
   exact aO.one ⟨rfl,fun _=>rfl⟩
 | .bool,[.bool b],h=>by
   simp only[Ty.freshOk,Bool.not_eq_true']at h
   subst h
   exact aO.one ⟨rfl,fun _=>rfl⟩
 | .str,[.string s],h=>by
   simp only[Ty.freshOk,decide_eq_true_eq]at h
   have:s=⟨#[]⟩:=by
    cases s with
    |mk d=>simp only[ByteArray.size]at h;rw[Array.eq_empty_of_size_eq_zero h]
   subst this
   exact aO.one ⟨rfl,fun _=>rfl⟩
 | .unit,[],_=>rfl
 | .pair a b,vs,h=>by
   simp only[Ty.freshOk,Bool.and_eq_true]at h
   have:=(wX a _ h.1).append (wX (g:=g) (w:=w) b _ h.2)
   rwa [List.take_append_drop]at this
 | .slice t,[.slice none n c],h=>by
   simp only[Ty.freshOk,Bool.and_eq_true,decide_eq_true_eq]at h
   obtain⟨rfl,rfl⟩:=h
   exact aO.one ⟨0,none,0,rfl,by simp, .inl rfl⟩
theorem mf{C:eo}{E:eU}{g:Gh}{st:St}{a:Act}{w:World}(R:cG C E g st a.tmps w)(T:TypeId)(x:Operand):
 fH g w (st.opdT C.P T x) (a.eval x):=by
 cases x with
 |tmp i=>exact gF R (.tmp i)
 |global h=>exact gF R (.global h)
 |func f=>exact gF R (.func f)
 |const x=>
  simp only[St.opdT]
  cases LI C.P T with
  |none=>exact zg x
  |some y=>
   simp only
   by_cases hf:y.freshOk x.cells.toList=true
   ·rw[if_pos hf]
    have h:=wX (g:=g) (w:=w) y _ hf
    cases x<;>first|exact h|exact⟨_,rfl,h⟩
   ·rw[if_neg hf];exact zg x
theorem tV{C:eo}{E:eU}{g:Gh}{st:St}{a:Act}{w:World}(R:cG C E g st a.tmps w)(T:TypeId)(x:Operand):
 fH g w (st.eqOpd C.P T x) (a.eval x):=by
 unfold St.eqOpd
 split
 ·exact fH.c ⟨rfl,fun _=>rfl⟩
 ·exact mf R T x
theorem aj{P:Program}{t:TypeId}{d:TypeDesc}(h:P.underlying t=some d)(w:World):(underlying t).run P w= .ok d w:=by
 simp[underlying,h]
theorem cI{P:Program}{t:TypeId}{n:Nat}(h:mJ P t=some n)(w:World):(sizeOf t).run P w= .ok n w:=by
 simp only[mJ,Option.map_eq_some_iff]at h
 obtain⟨i,hi,rfl⟩:=h
 simp[sizeOf,typeInfo,hi]
theorem xn{P:Program}{t:TypeId}{b:Bool}(h:mL P t=some b)(w:World):(isAgg t).run P w= .ok b w:=by
 simp only[mL,Option.map_eq_some_iff]at h
 obtain⟨d,hd,rfl⟩:=h
 simp only[isAgg,Sem.run_bind,aj hd,Result.andThen_ok]
 cases d<;>rfl
theorem cell_of{w:World}{b off:Nat}{vs:Array Value}{e:TypeId}{fz:Nat×Nat}(h:w.heap[b]?=some (.cells vs e fz)):
 w.cell? ⟨b,off,none⟩=vs[off]?:=by
 simp[World.cell?,h]
theorem Gm{P:Program}{w:World}{T:TypeId}{b off:Nat}{vs:Array Value}{e:TypeId}{fz:Nat×Nat}{v:Value}
 (ha:mL P T=some false) (h:w.heap[b]?=some (.cells vs e fz)) (hv:vs.toList[off]?=some v):
 (Instr.loadAt T (.pointer (some ⟨b,off,none⟩))).run P w= .ok v w:=by
 have hc:w.cell? ⟨b,off,none⟩=some v:=by rw[cell_of h];simpa using hv
 simp[Instr.loadAt,Instr.sureAddr,loadVar,xn ha,hc]
theorem Gl{P:Program}{w:World}{T:TypeId}{b off n:Nat}{vs:Array Value}{e:TypeId}{fz:Nat×Nat}
 (ha:mL P T=some true) (hn:mJ P T=some n) (h:w.heap[b]?=some (.cells vs e fz)) (hl:(ke vs off n).length=n):
 (Instr.loadAt T (.pointer (some ⟨b,off,none⟩))).run P w= .ok (.agg (ke vs off n).toArray) w:=by
 have:=run_loadCells_list (P:=P) w ⟨b,off,none⟩ (ke vs off n) (fun j v hj=>by
  have hj':j<n:=by
   have:=(List.getElem?_eq_some_iff.1 hj).1
   omega
  have e:(⟨b,off,none⟩:Addr).add j=⟨b,off+j,none⟩:=by simp[Addr.add]
  rw[e,cell_of h]
  simp only[ke,List.getElem?_take,hj',if_true,List.getElem?_drop]at hj
  simpa using hj)
 rw[hl]at this
 simp[Instr.loadAt,Instr.sureAddr,loadVar,xn ha,cI hn,this]
theorem ER.cells{g:Gh}{w:World}:∀{t:Ty} {x:t.T} {vs:List Value},ER g.imm w t x vs->aO g w (t.cells x) vs
 | .int _,_,_,h=>by simp only[ER]at h;subst h;exact aO.one ⟨rfl,fun _=>rfl⟩
 | .bool,_,_,h=>by simp only[ER]at h;subst h;exact aO.one ⟨rfl,fun _=>rfl⟩
 | .str,_,_,h=>by simp only[ER]at h;subst h;exact aO.one ⟨rfl,fun _=>rfl⟩
 | .unit,_,_,h=>h
 | .pair a b,x,vs,h=>by
   have:=(ER.cells h.1).append (ER.cells h.2)
   rwa [List.take_append_drop]at this
 | .slice t,l,vs,h=>by
   obtain⟨A,cap,rfl,h⟩:=h
   exact aO.one ⟨rfl,fun _=>⟨A,cap,rfl,h⟩⟩
theorem Kd(p:Nat->Place):∀(cs:List CV) (i:Nat),(je p i cs).length=cs.length
 |[],_=>rfl
 |_::r,i=>by simp[je,Kd p r]
theorem K0{C:eo}{E:eU}{g:Gh}{st:St}{tm:Array Value}{w:World}(R:cG C E g st tm w){c:CV}{y:Value}{o:Nat}{cs:List CV}
 (hc:bO g w c y []) (h:tx C st c=some (o,cs)):
 ∃b off vs e fz,y= .pointer (some ⟨b,off+o,none⟩)/\w.heap[b]?=some (.cells vs e fz)/\aO g w cs (ke vs off cs.length):=by
 have full:∀(vs:Array Value),cs.length=vs.toList.length->aO g w cs vs.toList->aO g w cs (ke vs 0 cs.length):=by
  intro vs hl hn
  simp only[ke,List.drop_zero,hl,List.take_length];exact hn
 cases c with
 |ptr b o'=>
  simp only[tx]at h
  obtain⟨n,hy,hb⟩:=hc.2 (.slot 0 0 0)
  cases hbx:st.boxes.getD b none with
  |none=>rw[hbx]at h;cases h
  |some x=>
   obtain⟨ro,cs'⟩:=x
   rw[hbx]at h
   simp only[Option.some.injEq,Prod.mk.injEq]at h
   obtain⟨rfl,rfl⟩:=h
   have hb':st.boxes[b]?=some (some (ro,cs')):=by
    rw[List.getD_eq_getElem?_getD]at hbx
    cases hq:st.boxes[b]? with
    |none=>rw[hq]at hbx;cases hbx
    |some z=>rw[hq]at hbx;simp at hbx;rw[hbx]
   obtain⟨n',vs,e,fz,h1,h2,h3,h4,h5⟩:=R.boxes b ro cs' hb'
   rw[hb]at h1
   simp only[Option.some.injEq]at h1
   subst h1
   have hn:=aO.lends h5
   exact⟨n,0,vs,e,fz,by simpa using hy,h3,full vs (by simpa using hn.length) hn⟩
 |lb n=>cases h
 |gp b o'=>
  simp only[tx]at h
  have hy:=hc.2 (.slot 0 0 0)
  cases hg:C.glob b with
  |none=>rw[hg]at h;cases h
  |some cs'=>
   rw[hg]at h
   simp only[Option.some.injEq,Prod.mk.injEq]at h
   obtain⟨rfl,rfl⟩:=h
   obtain⟨vs,e,fz,h1,h2,h3⟩:=R.glob b _ hg
   have hy:y= .pointer (some ⟨b,_,none⟩):=hy
   refine⟨b,0,vs,e,fz,by simpa using hy,h1,full vs (by rw[h3];simp) (h3▸aO.vs _)⟩
 |ea t x o'=>
  simp only[tx,Option.some.injEq,Prod.mk.injEq]at h
  obtain⟨rfl,rfl⟩:=h
  obtain⟨b,off,vs,e,fz,hy,hl,hh,hx⟩:=hc.2 (.slot 0 0 0)
  have hn:=hx.cells
  refine⟨b,off,vs,e,fz,hy,hh, ?_⟩
  rw[hn.length,hx.length];exact hn
 |va q i t x o'=>
  simp only[tx,Option.some.injEq,Prod.mk.injEq]at h
  obtain⟨rfl,rfl⟩:=h
  obtain⟨b,off,n,c,vs,e,hy,hl,hh,hx⟩:=hc.2 (.slot 0 0 0)
  have hn:=hx.cells
  refine⟨b,off+i*t.size,vs,e,_,hy,hh, ?_⟩
  rw[hn.length,hx.length];exact hn
 |np cs=>cases h
 |undef=>cases h
 |v x=>cases h
 |emp=>cases h
 |sl t l=>cases h
 |own t l=>cases h
 |view q f lo t l=>cases h
 |fn f caps=>cases h
def mH(C:eo)(g:Gh)(w:World){Q:Type}(s:Sem Value)(k:AV->Option Q)(r:Q):Prop:=
 ∃av v,k av=some r/\s.run C.P w= .ok v w/\fH g w av v
theorem fH.one_inv{g:Gh}{w:World}{c:CV}{y:Value}(h:fH g w (.one ⟨false,[c]⟩) y):bO g w c y []:=by
 obtain⟨v,vs',hv,h1,h2⟩:=h
 injection hv with hv _
 subst hv;exact h1
theorem KP{C:eo}{E:eU}{g:Gh}{st:St}{tm:Array Value}{w:World}(R:cG C E g st tm w){T:TypeId}{a:AV}{y:Value}
 {Q:Type} {k:AV->Option Q} {r:Q} (ha:fH g w a y) (h:ze C st T a k=some r):mH C g w (Instr.loadAt T y) k r:=by
 unfold ze at h
 split at h
 ·rename_i c
  have hc:=ha.one_inv
  split at h
  ·rename_i o cs hcell
   obtain⟨b,off,vs,e,fz,rfl,hh,hn⟩:=K0 R hc hcell
   split at h
   ·rename_i hagg
    split at h
    ·rename_i n hsz
     split at h
     ·rename_i hlen
      have hn':=(hn.drop o).take n
      have hseg:((ke vs off cs.length).drop o).take n=ke vs (off+o) n:=by
       have hl:=hn'.length
       rw[hlen]at hl
       simp only[ke]at hl⊢
       rw[List.drop_take,List.take_take,List.drop_drop]
       congr 1
       simp only[List.length_take,List.length_drop]at hl hlen⊢
       omega
      rw[hseg]at hn'
      have hl':(ke vs (off+o) n).length=n:=by rw[<-hn'.length];exact hlen
      exact⟨_,_,h,Gl hagg hsz hh hl',_,rfl,hn'⟩
     ·cases h
    ·cases h
   ·rename_i hagg
    split at h
    ·rename_i c' hc'
     obtain⟨v,hv,hf⟩:=hn.get hc'
     have hv':vs.toList[off+o]?=some v:=by
      simp only[ke,List.getElem?_take,List.getElem?_drop]at hv
      split at hv
      ·exact hv
      ·cases hv
     exact⟨_,_,h,Gm hagg hh hv',fH.c hf⟩
    ·cases h
   ·cases h
  ·cases h
 ·cases h
end Go.Vai
