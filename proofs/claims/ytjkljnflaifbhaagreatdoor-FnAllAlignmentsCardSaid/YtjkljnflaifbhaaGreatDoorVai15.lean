/- No conditions. -/
import Derived.Test.YtjkljnflaifbhaaGreatDoorVai14
namespace Go.Vai
open Go
section
variable {C:eo} {E:eU} {g:Gh} {st:St} {a:Act} {w:World} {Q:Type}
theorem sx(R:cG C E g st a.tmps w):∀l:List Operand,nL g w (l.map st.opd) (l.map a.eval)
 |[]=>rfl
 |x::r=>⟨_,_,rfl,gF R x,sx R r⟩
theorem uc(R:cG C E g st a.tmps w):∀(l:List Operand) (ts:List TypeId),nL g w (st.argAVs C.P l ts) (l.map a.eval)
 |[],_=>rfl
 |x::r,T::ts=>⟨_,_,rfl,mf R T x,uc R r ts⟩
 |x::r,[]=>⟨_,_,rfl,gF R x,uc R r []⟩
theorem DE(R:cG C E g st a.tmps w)(x:Option Operand):GN g w (x.map st.opd) (x.map a.eval):=by
 cases x with
 |none=>exact trivial
 |some x=>exact gF R x
def Q7(C:eo)(E:eU)(st:St)(a:Act)(o:Oper)(w:World){Q:Type}(k:AV->Option Q)(r:Q):Prop:=
 ∀(next:Act->World->Prop) (X:Exit->Act->World->Prop),(∀av v g' ms w',k av=some r->cG C E g' st a.tmps w'->AL g' w' av v ms->cB g' w' (ar ms)->next (a.put o.dst v) w')->o.wp C.P a w next X
theorem QF.goes(R:cG C E g st a.tmps w){o:Oper}{s:Sem Value}{k:AV->Option Q}{r:Q}(he:(execOp a.eval o).run C.P w=(do pure (.value (<-s)):Sem Next).run C.P w)(h:QF C g w s k r):Q7 C E st a o w k r:=by
 intro next X hn
 obtain⟨av,v,w',ms,h1,h2,h3,h4,h5⟩:=h
 have:(execOp a.eval o).run C.P w= .ok (.value v) w':=by rw[he];simp[h2]
 unfold Oper.wp
 rw[this,Oper.upon_value]
 exact hn av v g ms w' h1 (R.grow h3) h4 h5
theorem mH.goes(R:cG C E g st a.tmps w){o:Oper}{s:Sem Value}{k:AV->Option Q}{r:Q}(he:(execOp a.eval o).run C.P w=(do pure (.value (<-s)):Sem Next).run C.P w)(h:mH C g w s k r):Q7 C E st a o w k r:=
 QF.goes R he h.f
theorem Ra(R:cG C E g st a.tmps w)(hS:∀f c,C.ρ f=some c->ag C f c){o:Oper}{k:AV->Option Q}{r:Q}(h:Eb C st o k=some r):Q7 C E st a o w k r:=by
 have hd:∀x,fH g w (st.opd x) (a.eval x):=gF R
 have hT:∀T x,fH g w (st.opdT C.P T x) (a.eval x):=mf R
 unfold Eb at h
 split at h
 ·rename_i x ho
  exact mH.goes (s:=pure (a.eval x)) R (by simp only[execOp,ho,Sem.run_bind,Sem.run_pure,Result.andThen_ok]) ⟨_,_,h,rfl,hT _ x⟩
 ·rename_i c x y ho
  have:=OP (C:=C) (hd c) (hd x) (hd y) h
  refine mH.goes R (s:=do pure (if<-asBool (a.eval c)then a.eval x else a.eval y)) (by simp only[execOp,ho];rw[Sem.run_bind,Sem.run_bind,Sem.run_bind];cases(asBool (a.eval c)).run C.P w<;>rfl) this
 ·rename_i t x ho
  exact mH.goes R (by simp only[execOp,ho]) (KP R (hd x) h)
 ·rename_i x ho
  obtain⟨av,h1,h2,ad,h3⟩:=P0 (hd x) h
  exact mH.goes (s:=pure (a.eval x)) R (by simp only[execOp,ho,h3,Sem.run_bind,Sem.run_pure,Result.andThen_ok]) ⟨_,_,h1,rfl,h2⟩
 ·rename_i op t x y e ho
  exact mH.goes R (by simp only[execOp,ho]) (JK x y (tV R t x) (tV R t y) h)
 ·rename_i op e x ho
  exact mH.goes R (by simp only[execOp,ho]) (Q9 (hd x) h)
 ·rename_i s d x ho
  exact mH.goes R (by simp only[execOp,ho]) (OI (hd x) h)
 ·rename_i t x f ho
  exact mH.goes R (by simp only[execOp,ho]) (IA (hd x) h)
 ·rename_i t x f ho
  exact mH.goes R (by simp only[execOp,ho]) (NC (hd x) h)
 ·rename_i t x i ho
  exact mH.goes R (by simp only[execOp,ho]) (L9 R (hd x) (hd i) h)
 ·rename_i t x i ho
  exact mH.goes R (by simp only[execOp,ho]) (ND (hd x) (hd i) h)
 ·rename_i t x lo hi mx ho
  exact mH.goes R (by simp only[execOp,ho]) (NI (hd x) (DE R lo) (DE R hi) (DE R mx) h)
 ·rename_i t ps ho
  refine mH.goes R (by simp only[execOp,ho]) (Nx (vs:=ps.map fun(i,x)=>(i,a.eval x)) ?_ ?_ h)
  ·simp
  ·have:=sx R (ps.toList.map (·.2))
   simpa[Function.comp_def]using this
 ·rename_i t n ps ho
  refine QF.goes R (by simp only[execOp,ho]) (ub R (vs:=ps.map fun(i,x)=>(i,a.eval x)) ?_ ?_ h)
  ·simp
  ·have:=sx R (ps.toList.map (·.2))
   simpa[Function.comp_def]using this
 ·rename_i t n c ho
  exact QF.goes R (by simp only[execOp,ho]) (IC R (hd n) (hd c) h)
 ·rename_i x i ho
  exact mH.goes R (by simp only[execOp,ho]) (E8 (hd x) h)
 ·rename_i f x y ho
  refine mH.goes R (by simp only[execOp,ho]) (JN (va:=x.map a.eval) (vb:=y.map a.eval) ?_ ?_ h)
  ·simpa using sx R x.toList
  ·simpa using sx R y.toList
 ·rename_i c ho
  split at h
  ·
   rename_i f hc
   obtain⟨fid,cvs,h1,h2,h3⟩:=OG R hS (hd f) (uc R c.args.toList c.argTypes.toList) h
   have hargs:(c.args.toList.map a.eval).toArray=c.args.map a.eval:=by apply Array.ext';simp
   rw[hargs]at h3
   intro next X hn
   have hrun:(execOp a.eval o).run C.P w= .ok (.enter fid (c.args.map a.eval++cvs)) w:=by
    simp only[execOp,ho,resolve,hc,h1,Deferred.ofValue,Sem.run_bind,Sem.run_pure,Result.andThen_ok,invoke,Array.empty_append,pE.run h2]
   unfold Oper.wp
   rw[hrun,Oper.upon_enter]
   refine h3.mono ?_
   rintro e w' ⟨v,av,g',ms,rfl,k1,k2,k3,k4⟩
   exact hn av v g' ms w' k1 k2 k3 k4
  ·rename_i hc
   split at h
   ·rename_i x hx
    have hx':c.args= #[x]:=by apply Array.ext';simpa using hx
    refine mH.goes R ?_ (PZ (hd x) h o.type c.argTypes rfl)
    simp only[execOp,ho,resolve,hc,hx',Sem.run_bind,Sem.run_pure,Result.andThen_ok,invoke,builtin,List.map_toArray,List.map_cons,List.map_nil]
   ·cases h
  ·rename_i hc
   split at h
   ·rename_i x hx
    have hx':c.args= #[x]:=by apply Array.ext';simpa using hx
    refine mH.goes R ?_ (PX (at':=c.argTypes) rfl o.type (hd x) h)
    simp only[execOp,ho,resolve,hc,hx',Sem.run_bind,Sem.run_pure,Result.andThen_ok,invoke,builtin,List.map_toArray,List.map_cons,List.map_nil]
   ·cases h
  ·rename_i hc
   refine mH.goes R ?_ (MV (mx:=true) (vs:=c.args.map a.eval) (by simpa using sx R c.args.toList) h c.argTypes o.type)
   simp only[execOp,ho,resolve,hc,Sem.run_bind,Sem.run_pure,Result.andThen_ok,invoke,builtin,if_true]
  ·rename_i hc
   refine mH.goes R ?_ (MV (mx:=false) (vs:=c.args.map a.eval) (by simpa using sx R c.args.toList) h c.argTypes o.type)
   simp only[execOp,ho,resolve,hc,Sem.run_bind,Sem.run_pure,Result.andThen_ok,invoke,builtin,Bool.false_eq_true,if_false]
  ·cases h
 ·cases h
end
end Go.Vai
