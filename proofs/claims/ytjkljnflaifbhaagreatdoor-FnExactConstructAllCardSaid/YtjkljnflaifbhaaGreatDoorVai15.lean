/- No conditions. -/
import Derived.Test.YtjkljnflaifbhaaGreatDoorVai14
namespace Go.Vai
open Go
section
variable {C:gY} {E:iU} {g:Gh} {st:St} {a:Act} {w:World} {Q:Type}
theorem BQ(R:dG C E g st a.tmps w):∀l:List Operand,vG g w (l.map st.opd) (l.map a.eval)
 |[]=>rfl
 |x::r=>⟨_,_,rfl,lC R x,BQ R r⟩
theorem Du(R:dG C E g st a.tmps w):∀(l:List Operand) (ts:List TypeId),vG g w (st.argAVs C.P l ts) (l.map a.eval)
 |[],_=>rfl
 |x::r,T::ts=>⟨_,_,rfl,sX R T x,Du R r ts⟩
 |x::r,[]=>⟨_,_,rfl,lC R x,Du R r []⟩
theorem Pm(R:dG C E g st a.tmps w)(x:Option Operand):TQ g w (x.map st.opd) (x.map a.eval):=by
 cases x with
 |none=>exact trivial
 |some x=>exact lC R x
def aet(C:gY)(E:iU)(st:St)(a:Act)(o:Oper)(w:World){Q:Type}(k:AV->Option Q)(r:Q):Prop:=
 ∀(next:Act->World->Prop) (X:Exit->Act->World->Prop),(∀av v g' ms w',k av=some r->dG C E g' st a.tmps w'->LB g' w' av v ms->dF g' w' (aj ms)->next (a.put o.dst v) w')->o.wp C.P a w next X
theorem FOk.goes(R:dG C E g st a.tmps w){o:Oper}{s:Sem Value}{k:AV->Option Q}{r:Q}(he:(execOp a.eval o).run C.P w=(do pure (.value (<-s)):Sem Next).run C.P w)(h:FOk C g w s k r):aet C E st a o w k r:=by
 intro next X hn
 obtain⟨av,v,w',ms,h1,h2,h3,h4,h5⟩:=h
 have:(execOp a.eval o).run C.P w= .ok (.value v) w':=by rw[he];simp[h2]
 unfold Oper.wp
 rw[this,Oper.upon_value]
 exact hn av v g ms w' h1 (R.grow h3) h4 h5
theorem tM.goes(R:dG C E g st a.tmps w){o:Oper}{s:Sem Value}{k:AV->Option Q}{r:Q}(he:(execOp a.eval o).run C.P w=(do pure (.value (<-s)):Sem Next).run C.P w)(h:tM C g w s k r):aet C E st a o w k r:=
 FOk.goes R he h.f
theorem aey(R:dG C E g st a.tmps w)(hS:∀f c,C.ρ f=some c->ag C f c){o:Oper}{k:AV->Option Q}{r:Q}(h:Qh C st o k=some r):aet C E st a o w k r:=by
 have hd:∀x,kl g w (st.opd x) (a.eval x):=lC R
 have hT:∀T x,kl g w (st.opdT C.P T x) (a.eval x):=sX R
 unfold Qh at h
 split at h
 ·rename_i x ho
  exact tM.goes (s:=pure (a.eval x)) R (by simp only[execOp,ho,Sem.run_bind,Sem.run_pure,Result.andThen_ok]) ⟨_,_,h,rfl,hT _ x⟩
 ·rename_i c x y ho
  have:=ab7 (C:=C) (hd c) (hd x) (hd y) h
  refine tM.goes R (s:=do pure (if<-asBool (a.eval c)then a.eval x else a.eval y)) (by simp only[execOp,ho];rw[Sem.run_bind,Sem.run_bind,Sem.run_bind];cases(asBool (a.eval c)).run C.P w<;>rfl) this
 ·rename_i t x ho
  exact tM.goes R (by simp only[execOp,ho]) (Yh R (hd x) h)
 ·rename_i x ho
  obtain⟨av,h1,h2,ad,h3⟩:=adn (hd x) h
  exact tM.goes (s:=pure (a.eval x)) R (by simp only[execOp,ho,h3,Sem.run_bind,Sem.run_pure,Result.andThen_ok]) ⟨_,_,h1,rfl,h2⟩
 ·rename_i op t x y e ho
  exact tM.goes R (by simp only[execOp,ho]) (Xb x y (Do R t x) (Do R t y) h)
 ·rename_i op e x ho
  exact tM.goes R (by simp only[execOp,ho]) (aex (hd x) h)
 ·rename_i s d x ho
  exact tM.goes R (by simp only[execOp,ho]) (ab0 (hd x) h)
 ·rename_i t x f ho
  exact tM.goes R (by simp only[execOp,ho]) (VK (hd x) h)
 ·rename_i t x f ho
  exact tM.goes R (by simp only[execOp,ho]) (aa5 (hd x) h)
 ·rename_i t x i ho
  exact tM.goes R (by simp only[execOp,ho]) (ZJ R (hd x) (hd i) h)
 ·rename_i t x i ho
  exact tM.goes R (by simp only[execOp,ho]) (aa6 (hd x) (hd i) h)
 ·rename_i t x lo hi mx ho
  exact tM.goes R (by simp only[execOp,ho]) (abb (hd x) (Pm R lo) (Pm R hi) (Pm R mx) h)
 ·rename_i t ps ho
  refine tM.goes R (by simp only[execOp,ho]) (aa0 (vs:=ps.map fun(i,x)=>(i,a.eval x)) ?_ ?_ h)
  ·simp
  ·have:=BQ R (ps.toList.map (·.2))
   simpa[Function.comp_def]using this
 ·rename_i t n ps ho
  refine FOk.goes R (by simp only[execOp,ho]) (Dt R (vs:=ps.map fun(i,x)=>(i,a.eval x)) ?_ ?_ h)
  ·simp
  ·have:=BQ R (ps.toList.map (·.2))
   simpa[Function.comp_def]using this
 ·rename_i t n c ho
  exact FOk.goes R (by simp only[execOp,ho]) (VM R (hd n) (hd c) h)
 ·rename_i x i ho
  exact tM.goes R (by simp only[execOp,ho]) (RB (hd x) h)
 ·rename_i f x y ho
  refine tM.goes R (by simp only[execOp,ho]) (Xe (va:=x.map a.eval) (vb:=y.map a.eval) ?_ ?_ h)
  ·simpa using BQ R x.toList
  ·simpa using BQ R y.toList
 ·rename_i c ho
  split at h
  ·
   rename_i f hc
   obtain⟨fid,cvs,h1,h2,h3⟩:=abY R hS (hd f) (Du R c.args.toList c.argTypes.toList) h
   have hargs:(c.args.toList.map a.eval).toArray=c.args.map a.eval:=by apply Array.ext';simp
   rw[hargs]at h3
   intro next X hn
   have hrun:(execOp a.eval o).run C.P w= .ok (.enter fid (c.args.map a.eval++cvs)) w:=by
    simp only[execOp,ho,resolve,hc,h1,Deferred.ofValue,Sem.run_bind,Sem.run_pure,Result.andThen_ok,invoke,Array.empty_append,nu.run h2]
   unfold Oper.wp
   rw[hrun,Oper.upon_enter]
   refine h3.mono ?_
   rintro e w' ⟨v,av,g',ms,rfl,k1,k2,k3,k4⟩
   exact hn av v g' ms w' k1 k2 k3 k4
  ·rename_i hc
   split at h
   ·rename_i x hx
    have hx':c.args= #[x]:=by apply Array.ext';simpa using hx
    refine tM.goes R ?_ (adm (hd x) h o.type c.argTypes rfl)
    simp only[execOp,ho,resolve,hc,hx',Sem.run_bind,Sem.run_pure,Result.andThen_ok,invoke,builtin,List.map_toArray,List.map_cons,List.map_nil]
   ·cases h
  ·rename_i hc
   split at h
   ·rename_i x hx
    have hx':c.args= #[x]:=by apply Array.ext';simpa using hx
    refine tM.goes R ?_ (adk (at':=c.argTypes) rfl o.type (hd x) h)
    simp only[execOp,ho,resolve,hc,hx',Sem.run_bind,Sem.run_pure,Result.andThen_ok,invoke,builtin,List.map_toArray,List.map_cons,List.map_nil]
   ·cases h
  ·rename_i hc
   refine tM.goes R ?_ (aaq (mx:=true) (vs:=c.args.map a.eval) (by simpa using BQ R c.args.toList) h c.argTypes o.type)
   simp only[execOp,ho,resolve,hc,Sem.run_bind,Sem.run_pure,Result.andThen_ok,invoke,builtin,if_true]
  ·rename_i hc
   refine tM.goes R ?_ (aaq (mx:=false) (vs:=c.args.map a.eval) (by simpa using BQ R c.args.toList) h c.argTypes o.type)
   simp only[execOp,ho,resolve,hc,Sem.run_bind,Sem.run_pure,Result.andThen_ok,invoke,builtin,Bool.false_eq_true,if_false]
  ·cases h
 ·cases h
end
end Go.Vai
