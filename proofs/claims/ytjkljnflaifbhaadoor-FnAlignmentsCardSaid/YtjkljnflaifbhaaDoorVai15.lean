/- No conditions. -/
import Derived.Test.YtjkljnflaifbhaaDoorVai14
namespace Go.Vai
open Go
section
variable {C:ew} {E:eO} {g:Gh} {st:St} {a:Act} {w:World} {Q:Type}
theorem se(R:cO C E g st a.tmps w):∀l:List Operand,nf g w (l.map st.opd) (l.map a.eval)
 |[]=>rfl
 |x::r=>⟨_,_,rfl,gy R x,se R r⟩
theorem tC(R:cO C E g st a.tmps w):∀(l:List Operand) (ts:List TypeId),nf g w (st.argAVs C.P l ts) (l.map a.eval)
 |[],_=>rfl
 |x::r,T::ts=>⟨_,_,rfl,lN R T x,tC R r ts⟩
 |x::r,[]=>⟨_,_,rfl,gy R x,tC R r []⟩
theorem Ct(R:cO C E g st a.tmps w)(x:Option Operand):Fm g w (x.map st.opd) (x.map a.eval):=by
 cases x with
 |none=>exact trivial
 |some x=>exact gy R x
def P4(C:ew)(E:eO)(st:St)(a:Act)(o:Oper)(w:World){Q:Type}(k:AV->Option Q)(r:Q):Prop:=
 ∀(next:Act->World->Prop) (X:Exit->Act->World->Prop),(∀av v g' ms w',k av=some r->cO C E g' st a.tmps w'->zL g' w' av v ms->cH g' w' (ap ms)->next (a.put o.dst v) w')->o.wp C.P a w next X
theorem PD.goes(R:cO C E g st a.tmps w){o:Oper}{s:Sem Value}{k:AV->Option Q}{r:Q}(he:(execOp a.eval o).run C.P w=(do pure (.value (<-s)):Sem Next).run C.P w)(h:PD C g w s k r):P4 C E st a o w k r:=by
 intro next X hn
 obtain⟨av,v,w',ms,h1,h2,h3,h4,h5⟩:=h
 have:(execOp a.eval o).run C.P w= .ok (.value v) w':=by rw[he];simp[h2]
 unfold Oper.wp
 rw[this,Oper.upon_value]
 exact hn av v g ms w' h1 (R.grow h3) h4 h5
theorem mj.goes(R:cO C E g st a.tmps w){o:Oper}{s:Sem Value}{k:AV->Option Q}{r:Q}(he:(execOp a.eval o).run C.P w=(do pure (.value (<-s)):Sem Next).run C.P w)(h:mj C g w s k r):P4 C E st a o w k r:=
 PD.goes R he h.f
theorem P7(R:cO C E g st a.tmps w)(hS:∀f c,C.ρ f=some c->ag C f c){o:Oper}{k:AV->Option Q}{r:Q}(h:C3 C st o k=some r):P4 C E st a o w k r:=by
 have hd:∀x,fB g w (st.opd x) (a.eval x):=gy R
 have hT:∀T x,fB g w (st.opdT C.P T x) (a.eval x):=lN R
 unfold C3 at h
 split at h
 ·rename_i x ho
  exact mj.goes (s:=pure (a.eval x)) R (by simp only[execOp,ho,Sem.run_bind,Sem.run_pure,Result.andThen_ok]) ⟨_,_,h,rfl,hT _ x⟩
 ·rename_i c x y ho
  have:=NM (C:=C) (hd c) (hd x) (hd y) h
  refine mj.goes R (s:=do pure (if<-asBool (a.eval c)then a.eval x else a.eval y)) (by simp only[execOp,ho];rw[Sem.run_bind,Sem.run_bind,Sem.run_bind];cases(asBool (a.eval c)).run C.P w<;>rfl) this
 ·rename_i t x ho
  exact mj.goes R (by simp only[execOp,ho]) (JL R (hd x) h)
 ·rename_i x ho
  obtain⟨av,h1,h2,ad,h3⟩:=O2 (hd x) h
  exact mj.goes (s:=pure (a.eval x)) R (by simp only[execOp,ho,h3,Sem.run_bind,Sem.run_pure,Result.andThen_ok]) ⟨_,_,h1,rfl,h2⟩
 ·rename_i op t x y e ho
  exact mj.goes R (by simp only[execOp,ho]) (Iz x y (tu R t x) (tu R t y) h)
 ·rename_i op e x ho
  exact mj.goes R (by simp only[execOp,ho]) (P6 (hd x) h)
 ·rename_i s d x ho
  exact mj.goes R (by simp only[execOp,ho]) (NF (hd x) h)
 ·rename_i t x f ho
  exact mj.goes R (by simp only[execOp,ho]) (Hg (hd x) h)
 ·rename_i t x f ho
  exact mj.goes R (by simp only[execOp,ho]) (Mw (hd x) h)
 ·rename_i t x i ho
  exact mj.goes R (by simp only[execOp,ho]) (KY R (hd x) (hd i) h)
 ·rename_i t x i ho
  exact mj.goes R (by simp only[execOp,ho]) (Mx (hd x) (hd i) h)
 ·rename_i t x lo hi mx ho
  exact mj.goes R (by simp only[execOp,ho]) (MC (hd x) (Ct R lo) (Ct R hi) (Ct R mx) h)
 ·rename_i t ps ho
  refine mj.goes R (by simp only[execOp,ho]) (Mr (vs:=ps.map fun(i,x)=>(i,a.eval x)) ?_ ?_ h)
  ·simp
  ·have:=se R (ps.toList.map (·.2))
   simpa[Function.comp_def]using this
 ·rename_i t n ps ho
  refine PD.goes R (by simp only[execOp,ho]) (tB R (vs:=ps.map fun(i,x)=>(i,a.eval x)) ?_ ?_ h)
  ·simp
  ·have:=se R (ps.toList.map (·.2))
   simpa[Function.comp_def]using this
 ·rename_i t n c ho
  exact PD.goes R (by simp only[execOp,ho]) (Hi R (hd n) (hd c) h)
 ·rename_i x i ho
  exact mj.goes R (by simp only[execOp,ho]) (DU (hd x) h)
 ·rename_i f x y ho
  refine mj.goes R (by simp only[execOp,ho]) (IC (va:=x.map a.eval) (vb:=y.map a.eval) ?_ ?_ h)
  ·simpa using se R x.toList
  ·simpa using se R y.toList
 ·rename_i c ho
  split at h
  ·
   rename_i f hc
   obtain⟨fid,cvs,h1,h2,h3⟩:=ND R hS (hd f) (tC R c.args.toList c.argTypes.toList) h
   have hargs:(c.args.toList.map a.eval).toArray=c.args.map a.eval:=by apply Array.ext';simp
   rw[hargs]at h3
   intro next X hn
   have hrun:(execOp a.eval o).run C.P w= .ok (.enter fid (c.args.map a.eval++cvs)) w:=by
    simp only[execOp,ho,resolve,hc,h1,Deferred.ofValue,Sem.run_bind,Sem.run_pure,Result.andThen_ok,invoke,Array.empty_append,pp.run h2]
   unfold Oper.wp
   rw[hrun,Oper.upon_enter]
   refine h3.mono ?_
   rintro e w' ⟨v,av,g',ms,rfl,k1,k2,k3,k4⟩
   exact hn av v g' ms w' k1 k2 k3 k4
  ·rename_i hc
   split at h
   ·rename_i x hx
    have hx':c.args= #[x]:=by apply Array.ext';simpa using hx
    refine mj.goes R ?_ (O1 (hd x) h o.type c.argTypes rfl)
    simp only[execOp,ho,resolve,hc,hx',Sem.run_bind,Sem.run_pure,Result.andThen_ok,invoke,builtin,List.map_toArray,List.map_cons,List.map_nil]
   ·cases h
  ·rename_i hc
   split at h
   ·rename_i x hx
    have hx':c.args= #[x]:=by apply Array.ext';simpa using hx
    refine mj.goes R ?_ (OZ (at':=c.argTypes) rfl o.type (hd x) h)
    simp only[execOp,ho,resolve,hc,hx',Sem.run_bind,Sem.run_pure,Result.andThen_ok,invoke,builtin,List.map_toArray,List.map_cons,List.map_nil]
   ·cases h
  ·rename_i hc
   refine mj.goes R ?_ (LK (mx:=true) (vs:=c.args.map a.eval) (by simpa using se R c.args.toList) h c.argTypes o.type)
   simp only[execOp,ho,resolve,hc,Sem.run_bind,Sem.run_pure,Result.andThen_ok,invoke,builtin,if_true]
  ·rename_i hc
   refine mj.goes R ?_ (LK (mx:=false) (vs:=c.args.map a.eval) (by simpa using se R c.args.toList) h c.argTypes o.type)
   simp only[execOp,ho,resolve,hc,Sem.run_bind,Sem.run_pure,Result.andThen_ok,invoke,builtin,Bool.false_eq_true,if_false]
  ·cases h
 ·cases h
end
end Go.Vai
