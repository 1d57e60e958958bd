/- No conditions. -/
import Derived.Test.YtjkljnflaifbhaaGreatDoorVaiB
namespace Go.Vai
open Go
section
variable {C:gY} {E:iU} {g:Gh} {st:St} {a:Act} {w:World} {Q:Type}
def Next(C:gY)(E:iU)(D:List Deferred){Q:Type}(k:St->Option Q)(r:Q)(next:Act->World->Prop):Prop:=
 ∀g st (a:Act) w,k st=some r->dG C E g st a.tmps w->a.defers=D->next a w
theorem put_defers(a:Act)(d:Option Tmp)(v:Value):(a.put d v).defers=a.defers:=by cases d<;>rfl
theorem ZF(R:dG C E g st a.tmps w)(hS:∀f c,C.ρ f=some c->ag C f c){k:St->Option Q}{r:Q}{o:Oper}{f:Operand}{c:Call}(ho:o.op= .call c)(hc:c.callee= .value f)
 (h:Of C st o (st.opd f) (st.argAVs C.P c.args.toList c.argTypes.toList) k=some r) {next:Act->World->Prop} {X:Exit->Act->World->Prop} (hn:Next C E a.defers k r next):o.wp C.P a w next X:=by
 obtain⟨fid,d,h1,h2,h3,h4⟩:=Xc R hS (lC R f) (Du R c.args.toList c.argTypes.toList) h
 have hargs:(c.args.toList.map a.eval).toArray=c.args.map a.eval:=by apply Array.ext';simp
 rw[hargs]at h4
 have hrun:(execOp a.eval o).run C.P w= .ok (.enter fid (c.args.map a.eval)) w:=by
  simp only[execOp,ho,resolve,hc,h1,Deferred.ofValue,Sem.run_bind,Sem.run_pure,Result.andThen_ok,invoke,Array.empty_append,Array.append_empty,nu.run h3]
 unfold Oper.wp
 rw[hrun,Oper.upon_enter]
 refine h4.mono ?_
 rintro e w' ⟨v,g',st',rfl,k1,k2⟩
 have hput:(a.put o.dst v).tmps=a.tmps.setIfInBounds d v:=by rw[h2];rfl
 exact hn g' st' _ w' k1 (by rw[hput];exact k2) (put_defers _ _ _)
theorem xX(R:dG C E g st a.tmps w)(hS:∀f c,C.ρ f=some c->ag C f c){strict:Bool}{o:Oper}{k:St->Option Q}{r:Q}
 (h:qq C strict st o k=some r)
 {next:Act->World->Prop} {X:Exit->Act->World->Prop} (hn:Next C E a.defers k r next):o.wp C.P a w next X:=by
 unfold qq at h
 refine aey R hS h next X ?_
 intro av v g' ms w' hk R' hF F
 cases hd:o.dst with
 |none=>
  rw[hd]at hk
  exact hn g' st _ w' hk R' rfl
 |some d=>
  rw[hd]at hk
  cases strict with
  |true=>
   obtain⟨g2,st2,h1,h2⟩:=R'.put hF F hk
   exact hn g2 st2 _ w' h1 h2 rfl
  |false=>
   obtain⟨g2,st2,h1,h2⟩:=R'.putN hF F hk
   exact hn g2 st2 _ w' h1 h2 rfl
theorem ZN(R:dG C E g st a.tmps w){o:Oper}{T:TypeId}{x:Operand}{lo hi:Option Operand}{k:St->Option Q}{r:Q}{other:Option Q}
 (h:Xf C st o T (st.opd x) (lo.map st.opd) (hi.map st.opd) k other=some r):
 other=some r\/∃d v g' st',o.dst=some d/\k st'=some r/\(Instr.sliceAt T (a.eval x) (lo.map a.eval) (hi.map a.eval) none).run C.P w= .ok v w/\dG C E g' st' (a.tmps.setIfInBounds d v) w:=by
 have hlo:=Pm R lo
 have hhi:=Pm R hi
 have hx:=lC R x
 unfold Xf at h
 split at h
 ·rename_i d e p o' t l hi' hd hu hxe hhe
  split at h
  ·rename_i t' L ht hown
   split at h
   ·rename_i hts
    rw[hhe]at hhi
    obtain⟨i,j,h,hij,hjn,hs⟩:=ack (C:=C) hlo hhi h
    rw[hxe]at hx
    have hat:=Lv hown
    obtain⟨hv,hpr⟩:=hx.one_inv.2 (.slot 0 0 0)
    obtain⟨A,cap,he,hc,hl⟩:=hv
    rw[he]at hpr⊢
    have hcap:=fun(m:Nat) (hm:o'+m<=L.length)=>WH R hat hpr hm
    have hjcap:L.length-o'<=cap:=by
     by_cases hol:o'<=L.length
     ·exact hcap _ (by omega)
     ·omega
    have hlen:(((L.drop o').take j).drop i).length=j-i:=by simp;omega
    have hrun:(Instr.sliceAt T (.slice A l.length cap) (lo.map a.eval) (hi.map a.eval) none).run C.P w= .ok (.slice (if cap=i then A else A.map (·.add (i*t'.size))) (j-i) (cap-i)) w:=by
     simp[Instr.sliceAt,Instr.slice,an hu,hs true l.length cap hjcap,dL (sf ht)]
    have e1:∀off,off+o'*t.size+i*t.size=off+(o'+i)*t.size:=fun off=>by rw[Nat.add_mul,Nat.add_assoc]
    have hrel:cu g w (.slot 0 0 0) (.view p false (o'+i) t (((L.drop o').take j).drop i)) (.slice (if cap=i then A else A.map (·.add (i*t'.size))) (j-i) (cap-i)):=by
     obtain⟨bk,off,n,c,A2,len2,cap2,he2,hb,hcc,hA⟩:=hpr rfl
     simp only[Value.slice.injEq]at he2
     obtain⟨rfl,_,rfl⟩:=he2
     refine⟨⟨_,_,by rw[hlen],by rw[hlen];omega, ?_⟩,fun _=>⟨bk,off,n,c,_,_,_,rfl,hb,by omega, ?_⟩⟩
     ·by_cases hca:cap=i
      ·exact .inl (by omega)
      ·refine .inr ?_
       rw[if_neg hca]
       have hA':=hA.resolve_left (by omega)
       obtain⟨b0,off0,n0,c0,cs0,e0,hA0,hl0,_,hh0,hs0,_⟩:=hl.resolve_left (by omega)
       have hbb:=R.uniq b0 bk p _ _ _ _ _ _ hl0 hb
       subst hbb
       have hl0':g.lab b0= .own p off0 n0 c0:=hl0
       rw[hb]at hl0'
       injection hl0' with _ k1 k2 k3
       subst k1;subst k2;subst k3
       refine⟨b0,off,n,c,cs0,e0,by rw[hA'];simp[Addr.add_eq,hts,e1],hb,(fun e=>by cases e),hh0, ?_,fun m y hm=> ?_⟩
       ·have hmul:i*t.size+(cap-i)*t.size=cap*t.size:=by rw[<-Nat.add_mul];congr 1;omega
        have:=e1 off
        omega
       ·have hm':=JX hm
        rw[List.getElem?_drop]at hm'
        obtain⟨u,hu'⟩:=R.atPlace hat (by simp)
        obtain⟨A1,cap1,rfl,hc1,hl1⟩:=hu'
        have hLpos:o'+(i+m)<L.length:=(List.getElem?_eq_some_iff.1 hm').1
        obtain⟨b1,off1,n1,c1,cs1,e1',_,hlab1,_,hh1,_,hx1⟩:=hl1.resolve_left (fun e=>by omega)
        have hbb:=R.uniq b1 b0 p _ _ _ _ _ _ hlab1 hb
        subst hbb
        rw[show g.lab b1= .own p off1 n1 c1 from hlab1]at hb
        injection hb with _ k1 _ _
        subst k1
        rw[hh1]at hh0
        simp only[Option.some.injEq,Obj.cells.injEq]at hh0
        obtain⟨rfl,_,_⟩:=hh0
        have:=hx1 _ _ hm'
        rw[Nat.zero_mul,Nat.add_zero,<-Nat.add_assoc,Nat.add_mul,<-Nat.add_assoc]at this
        exact this
     ·by_cases hca:cap=i
      ·exact .inl (by omega)
      ·right
       have hA':=hA.resolve_left (by omega)
       rw[if_neg hca,hA'];simp[Addr.add_eq,hts,e1]
    obtain⟨ms,k1,k2⟩:=NV.fs (g:=g) (w:=w) (x:=⟨false,[.view p false (o'+i) t (((L.drop o').take j).drop i)]⟩) (kl.c ⟨rfl,fun _=>hrel⟩)
    obtain⟨g',st',k3,k4⟩:=R.put (a:=.c (.view p false (o'+i) t (((L.drop o').take j).drop i))) k1 (by rw[k2];exact dF.nil) h
    exact .inr ⟨d,_,g',st',hd,k3,hrun,k4⟩
   ·cases h
  ·exact .inl h
 ·exact .inl h
theorem acW{st:St}{d:Nat}{v:AV}{Q:Type}{k:St->Option Q}{r:Q}(h:st.put true d v k=some r):st.put false d v k=some r:=by
 unfold St.put at h⊢
 cases hd:(st.get d).hasOwn with
 |false=>rw[hd]at h;exact h
 |true=>rw[hd]at h;cases h
theorem Yo{C:gY}{st:St}{strict:Bool}{o:Oper}{T T2:TypeId}{s x:AV}{Q:Type}{k:St->Option Q}{r:Q}
 (h:(match strict with
   |true=>(match o.dst with
    |some d=>Xi C T T2 s x fun v=>st.put true d v k
    |none=>none)
   |false=>Lk C st o T T2 s x k)=some r):Lk C st o T T2 s x k=some r:=by
 cases strict with
 |false=>exact h
 |true=>
  simp only at h
  cases hd:o.dst with
  |none=>rw[hd]at h;cases h
  |some d=>
   rw[hd]at h
   simp only at h
   unfold Xi at h
   unfold Lk
   rw[hd]
   cases he:B2 C.P T with
   |none=>rw[he]at h;cases h
   |some et=>
    obtain⟨e,t⟩:=et
    rw[he]at h
    simp only at h⊢
    split at h
    ·rename_i e2 t2 u hh1 hh2
     cases hh1
     rw[hh2]
     simp only
     cases hb:E6 C.P e with
     |none=>rw[hb]at h;cases h
     |some b=>
      rw[hb]at h
      cases hx:Es t x with
      |none=>rw[hx]at h;cases h
      |some new=>
       rw[hx]at h
       simp only at h⊢
       split at h
       ·cases h2:decide (new.length*b<=70368744177664)with
        |false=>rw[h2]at h;cases h
        |true=>
         rw[h2]at h
         simp only[cond_true]at h⊢
         cases h3:decide (new.length<=70368744177664)with
         |false=>rw[h3]at h;cases h
         |true=>
          rw[h3]at h
          exact acW h
       ·cases h
    ·cases h
theorem VA(R:dG C E g st a.tmps w)(hS:∀f c,C.ρ f=some c->ag C f c){strict:Bool}{o:Oper}{k:St->Option Q}{r:Q}(h:step C strict st o k=some r)
 {next:Act->World->Prop} {X:Exit->Act->World->Prop} (hn:Next C E a.defers k r next):o.wp C.P a w next X:=by
 unfold step at h
 split at h
 ·rename_i x ho
  obtain⟨d,g',st',h1,h2,h3⟩:=ZD R h
  have:(execOp a.eval o).run C.P w= .ok (.value (a.eval x)) w:=by simp only[execOp,ho,Sem.run_pure]
  unfold Oper.wp
  rw[this,Oper.upon_value,h1]
  exact hn g' st' _ w h2 h3 rfl
 ·rename_i T x y ho
  split at h
  ·rename_i hd
   have hst:∃g' st' w',k st'=some r/\(Instr.storeAt T (a.eval x) (a.eval y)).run C.P w= .ok () w'/\dG C E g' st' a.tmps w':=by
    cases strict with
    |true=>exact Lm R (lC R x) (sX R T y) h
    |false=>
     cases hv:afB (st.opd x)with
     |false=>rw[hv]at h;exact Lm R (lC R x) (sX R T y) h
     |true=>
      cases hl:(St.opdT C.P T st y).held with
      |nil=>rw[hv,hl]at h;exact Lm R (lC R x) (sX R T y) h
      |cons p l=>
       rw[hv,hl]at h
       exact Lm (R.freezeAll (p::l)) (kl.frozeAll _ (lC R x)) (kl.frozeAll _ (sX R T y)) h
   obtain⟨g',st',w',h1,h2,h3⟩:=hst
   have:(execOp a.eval o).run C.P w= .ok .skip w':=by simp only[execOp,ho,Sem.run_bind,h2,Result.andThen_ok,Sem.run_pure]
   unfold Oper.wp
   rw[this,Oper.upon_skip,hd]
   exact hn g' st' _ w' h1 h3 rfl
  ·cases h
 ·rename_i T n ps ho
  cases hs:strict with
  |true=>rw[hs]at h;exact xX R hS h hn
  |false=>
  cases hl:ps.toList.flatMap fun p=>(st.opd p.2).held with
  |nil=>rw[hs,hl]at h;exact xX R hS h hn
  |cons p l=>
   rw[hs,hl]at h
   have hp:vG (List.foldl Gh.freeze g (p::l)) w (ps.toList.map fun x=>((st.opd x.2).frozeAll (p::l)).map CV.tidy) (ps.toList.map fun x=>a.eval x.2):=by
    clear h
    generalize ps.toList=L
    induction L with
    |nil=>rfl
    |cons y r ih=>exact⟨_,_,rfl,kl.imp (fun _ _ h=>cC.tidy h) (kl.frozeAll _ (lC R y.2)),ih⟩
   obtain⟨av,v,w',ms,h1,h2,h3,h4,h5⟩:=Dt (vs:=ps.map fun(i,x)=>(i,a.eval x)) (R.freezeAll (p::l)) (by simp[Function.comp_def]) (by simpa[Function.comp_def]using hp) h
   cases hd:o.dst with
   |none=>rw[hd]at h1;cases h1
   |some d=>
    rw[hd]at h1
    have hrun:(execOp a.eval o).run C.P w= .ok (.value v) w':=by
     simp only[execOp,ho,Sem.run_bind,h2,Result.andThen_ok,Sem.run_pure]
    unfold Oper.wp
    rw[hrun,Oper.upon_value,hd]
    obtain⟨g2,st2,h9,h10⟩:=((R.freezeAll (p::l)).grow h3).put h4 h5 h1
    exact hn g2 st2 _ w' h9 h10 rfl
 ·rename_i T ho
  obtain⟨d,v,g',st',w',h1,h2,h3,h4⟩:=aaZ R h
  have:(execOp a.eval o).run C.P w= .ok (.value v) w':=by simp only[execOp,ho,Sem.run_bind,h3,Result.andThen_ok,Sem.run_pure]
  unfold Oper.wp
  rw[this,Oper.upon_value,h1]
  exact hn g' st' _ w' h2 h4 rfl
 ·rename_i T x ho
  obtain⟨d,v,g',st',w',h1,h2,h3,h4⟩:=adj R h
  have:(execOp a.eval o).run C.P w= .ok (.value v) w':=by simp only[execOp,ho,Sem.run_bind,h3,Result.andThen_ok,Sem.run_pure]
  unfold Oper.wp
  rw[this,Oper.upon_value,h1]
  exact hn g' st' _ w' h2 h4 rfl
 ·rename_i T x lo hi mx ho
  split at h
  ·rcases ZN R h with h|⟨d,v,g',st',h1,h2,h3,h4⟩
   ·exact xX R hS h hn
   ·have:(execOp a.eval o).run C.P w= .ok (.value v) w:=by
     simp only[execOp,ho,Sem.run_bind,Option.map_none,h3,Result.andThen_ok,Sem.run_pure]
    unfold Oper.wp
    rw[this,Oper.upon_value,h1]
    exact hn g' st' _ w h2 h4 rfl
  ·exact xX R hS h hn
 ·rename_i c ho
  split at h
  ·rename_i hc
   split at h
   ·rename_i s x T T2 hargs hats
    have h:=Yo h
    obtain⟨d,v,g',st',w',h1,h2,h3,h4⟩:=ZC R (sX R T s) (sX R T2 x) h o.type
    have ha:c.args= #[s,x]:=by apply Array.ext';simpa using hargs
    have ht:c.argTypes= #[T,T2]:=by apply Array.ext';simpa using hats
    have:(execOp a.eval o).run C.P w= .ok (.value v) w':=by
     simp only[execOp,ho,resolve,hc,ha,ht,Sem.run_bind,Sem.run_pure,Result.andThen_ok,invoke,builtin,List.map_toArray,List.map_cons,List.map_nil,h3]
    unfold Oper.wp
    rw[this,Oper.upon_value,h1]
    exact hn g' st' _ w' h2 h4 rfl
   ·cases h
  ·rename_i hc
   split at h
   ·rename_i x T hargs hats
    obtain⟨g',st',w',h2,h3,h4⟩:=aa3 R (lC R x) h o.type
    have ha:c.args= #[x]:=by apply Array.ext';simpa using hargs
    have ht:c.argTypes= #[T]:=by apply Array.ext';simpa using hats
    have:(execOp a.eval o).run C.P w= .ok (.value (.tuple #[])) w':=by
     simp only[execOp,ho,resolve,hc,ha,ht,Sem.run_bind,Sem.run_pure,Result.andThen_ok,invoke,builtin,List.map_toArray,List.map_cons,List.map_nil,h3]
    unfold Oper.wp
    rw[this,Oper.upon_value]
    exact hn g' st' _ w' h2 h4 (put_defers _ _ _)
   ·cases h
  ·rename_i hc
   split at h
   ·rename_i x y T T2 hargs hats
    obtain⟨g',st',w',v,h2,h3,h4⟩:=ab2 R (lC R x) (sX R T2 y) h o.type
    have ha:c.args= #[x,y]:=by apply Array.ext';simpa using hargs
    have ht:c.argTypes= #[T,T2]:=by apply Array.ext';simpa using hats
    have:(execOp a.eval o).run C.P w= .ok (.value v) w':=by
     simp only[execOp,ho,resolve,hc,ha,ht,Sem.run_bind,Sem.run_pure,Result.andThen_ok,invoke,builtin,List.map_toArray,List.map_cons,List.map_nil,h3]
    unfold Oper.wp
    rw[this,Oper.upon_value]
    exact hn g' st' _ w' h2 h4 (put_defers _ _ _)
   ·cases h
  ·rename_i f hc
   split at h
   ·generalize hpl:(st.argAVs C.P c.args.toList c.argTypes.toList).flatMap AV.held=pl at h
    have hN:vG (List.foldl Gh.freeze g pl) w ((st.argAVs C.P c.args.toList c.argTypes.toList).map fun a=>a.frozeAll pl) (c.args.toList.map a.eval):=by
     have h0:=Du R c.args.toList c.argTypes.toList
     clear h hpl
     generalize st.argAVs C.P c.args.toList c.argTypes.toList=L at h0
     generalize c.args.toList.map a.eval=vs at h0
     induction L generalizing vs with
     |nil=>exact h0
     |cons y r ih=>
      obtain⟨v,vs',rfl,h1,h2⟩:=h0
      exact⟨v,vs',rfl,kl.frozeAll pl h1,ih vs' h2⟩
    obtain⟨fid,cvs,h1,h3,h4⟩:=Ye (R.freezeAll pl) hS (kl.frozeAll pl (lC R f)) hN h
    have hargs:(c.args.toList.map a.eval).toArray=c.args.map a.eval:=by apply Array.ext';simp
    rw[hargs]at h4
    have hrun:(execOp a.eval o).run C.P w= .ok (.enter fid (c.args.map a.eval++cvs)) w:=by
     simp only[execOp,ho,resolve,hc,h1,Deferred.ofValue,Sem.run_bind,Sem.run_pure,Result.andThen_ok,invoke,Array.empty_append,nu.run h3]
    unfold Oper.wp
    rw[hrun,Oper.upon_enter]
    refine h4.mono ?_
    rintro e w' ⟨v,g',st',rfl,k1,k2⟩
    cases hd:o.dst with
    |none=>rw[hd]at k2;exact hn g' st' _ w' k1 k2 rfl
    |some d=>rw[hd]at k2;exact hn g' st' _ w' k1 k2 rfl
   ·split at h
    ·exact ZF R hS ho hc h hn
    ·exact xX R hS h hn
  ·exact xX R hS h hn
 ·exact xX R hS h hn
theorem T9{P:Program}{T:TypeId}{vs:Array (Nat×Value)}{v:Value}{w w':World}(h:(Instr.buildSlice T 0 vs).run P w= .ok v w'):∃A,v= .slice A 0 0:=by
 unfold Instr.buildSlice at h
 simp only[Sem.run_bind]at h
 cases h1:(underlying T).run P w with
 |halt x w1=>rw[h1]at h;cases h
 |ok u w1=>
  rw[h1]at h
  simp only[Result.andThen_ok]at h
  cases u with
  |slice e=>
   simp only[Sem.run_bind,Nat.zero_mul]at h
   cases h2:(sizeOf e).run P w1 with
   |halt x w2=>rw[h2]at h;cases h
   |ok n w2=>
    rw[h2]at h
    simp only[Result.andThen_ok]at h
    rw[if_neg (by omega)]at h
    simp only[if_true,Sem.run_pure,Result.andThen_ok,Sem.run_bind]at h
    split at h
    ·simp only[Sem.run_bind]at h
     rename_i cells _
     cases h3:(newRow e cells).run P w2 with
     |halt x w3=>rw[h3]at h;cases h
     |ok A w3=>
      rw[h3]at h
      simp only[Result.andThen_ok,Sem.run_pure,Result.ok.injEq]at h
      exact⟨_,h.1.symm⟩
    ·cases h
  |_=>cases h
theorem abw(R:dG C E g st a.tmps w){o:Oper}{k:St->Option Q}{r:Q}
 (h:OU C st o k=some r)
 {next:Act->World->Prop} {X:Exit->Act->World->Prop} (hn:Next C E a.defers k r next):o.wp C.P a w next X:=by
 unfold OU at h
 split at h
 ·rename_i T ps d ho hd
  simp only[Qh,ho]at h
  have hp:vG g w (ps.toList.map fun p=>st.opd p.2) (ps.toList.map fun p=>a.eval p.2):=by
   have:=BQ R (ps.toList.map (·.2))
   simpa[List.map_map,Function.comp_def]using this
  obtain⟨av,v,w',ms,h1,h2,h3,h4,h5⟩:=Dt (vs:=ps.map fun(i,x)=>(i,a.eval x)) R (by simp[Function.comp_def]) (by simpa[Function.comp_def]using hp) h
  obtain⟨A,rfl⟩:=T9 h2
  have h6:kl g w' (.c .emp) (.slice A 0 0):=kl.c ⟨rfl,fun _=>⟨A,rfl⟩⟩
  obtain⟨ms',h7,h8⟩:=h6.fs
  have hrun:(execOp a.eval o).run C.P w= .ok (.value (.slice A 0 0)) w':=by
   simp only[execOp,ho,Sem.run_bind,h2,Result.andThen_ok,Sem.run_pure]
  unfold Oper.wp
  rw[hrun,Oper.upon_value,hd]
  obtain⟨g2,st2,h9,h10⟩:=(R.grow h3).put h7 (by rw[h8];exact dF.nil) h1
  exact hn g2 st2 _ w' h9 h10 rfl
 ·cases h
theorem Zp{x:Operand}{k:Bool->St->Option Q}{r:Q}(R:dG C E g st a.tmps w)(h:st.test x k=some r):
 ∃b,a.eval x= .bool b/\∃st',k b st'=some r/\dG C E g st' a.tmps w:=by
 unfold St.test at h
 split at h
 ·rename_i d b he
  have hv:=lC R (.tmp d)
  rw[he]at hv
  have hv:a.eval (.tmp d)= .bool b:=hv.one_inv.2 (.slot 0 0 0)
  refine⟨b,hv,st.set d (.c (.v (.bool b))),by cases b<;>exact h, ?_⟩
  have hg:Ix d (st.get d)= .c (.v (.bool b)):=he
  have hg':st.get d= .c (.v (.bool b)):=by
   cases hx:st.get d with
   |tup l=>rw[hx]at hg;cases hg
   |one x=>
    obtain⟨xa,xcs⟩:=x
    rw[hx]at hg
    simp only[Ix,AV.one.injEq,Val.mk.injEq]at hg
    obtain⟨rfl,hg⟩:=hg
    match xcs,hg with
    |[c],hg=>
     simp only[pP,List.cons.injEq,and_true]at hg
     cases c<;>simp only[adI]at hg<;>first|cases hg|skip
     rfl
    |[],hg=>cases hg
    |_::_::_,hg=>simp[pP]at hg
  have:st.set d (.c (.v (.bool b)))=st:=by
   simp only[St.set]
   rw[<-hg']
   simp only[St.get,List.getD_eq_getElem?_getD]
   by_cases hd:d<st.slots.length
   ·rw[List.getElem?_eq_getElem hd]
    simp only[Option.getD_some,List.set_getElem_self]
   ·rw[List.set_eq_of_length_le (Nat.le_of_not_lt hd)]
  rw[this];exact R
 ·rename_i b
  exact⟨b,rfl,st,h,R⟩
 ·cases h
theorem vF{o:Oper}{done:Nat->Option Bool}(h:o.guard=none):Region.wanted o done=true:=by simp[Region.wanted,h]
theorem uR(R:dG C E g st a.tmps w)(hS:∀f c,C.ρ f=some c->ag C f c){strict:Bool}{ops:Array Oper}{o:Oper}{k:St->Option Q}{r:Q}(h:ry C strict ops o st k=some r)
 {next:Act->World->Prop} {X:Exit->Act->World->Prop} (hn:Next C E a.defers k r next):
 if Region.wanted o (yielded ops a.tmps)then o.wp C.P a w next X else next (a.put o.dst undef) w:=by
 unfold ry at h
 split at h
 ·rename_i hg
  rw[if_pos (vF hg)]
  split at h
  ·exact abw R h hn
  ·exact VA R hS h hn
 ·rename_i j want hg
  have pass:∀{st':St},dG C E g st' a.tmps w->HJ strict o st' k=some r->next (a.put o.dst undef) w:=by
   intro st' R1 h1
   unfold HJ at h1
   cases hdst:o.dst with
   |none=>rw[hdst]at h1;exact hn _ _ _ _ h1 R1 rfl
   |some d'=>
    rw[hdst]at h1
    obtain⟨ms,hF,hms⟩:=(show kl g w AV.skip undef from kl.c ⟨rfl,fun _=>rfl⟩).fs
    obtain⟨g',st2,h2,h3⟩:=R1.put hF (by rw[hms];exact dF.nil) h1
    exact hn _ _ _ _ h2 h3 rfl
  split at h
  ·rename_i d hd
   split at h
   ·rename_i hsk
    have hv:=lC R (.tmp d)
    have hno:∃vs,a.eval (.tmp d)= .tuple vs:=by
     have hs:∃vs,st.get d= .one ⟨false,[.v (.tuple vs)]⟩:=by
      unfold AV.isSkip at hsk
      split at hsk
      ·rename_i vs he;exact⟨vs,he⟩
      ·cases hsk
     obtain⟨vs,he⟩:=hs
     have he':st.opd (.tmp d)= .one ⟨false,[.v (.tuple vs)]⟩:=by
      show Ix d (st.get d)=_
      rw[he];rfl
     rw[he']at hv
     exact⟨vs,hv.one_inv.2 (.slot 0 0 0)⟩
    obtain⟨vs,hno⟩:=hno
    have hy:yielded ops a.tmps j≠some want:=by
     simp only[yielded,hd,Option.bind_some]
     simp only[Act.eval,Array.getD_eq_getD_getElem?]at hno
     cases ht:a.tmps[d]? with
     |none=>simp
     |some v=>
      rw[ht]at hno
      simp only[Option.getD_some]at hno
      subst hno
      simp
    have:Region.wanted o (yielded ops a.tmps)=false:=by simp[Region.wanted,hg,hy]
    rw[this]
    simp only[Bool.false_eq_true,if_false]
    exact pass R h
   ·obtain⟨b,hb,st',h1,R1⟩:=Zp R h
    have hy:yielded ops a.tmps j=some b:=by
     have hb':a.tmps[d]?=some (.bool b):=by
      simp only[Act.eval,Array.getD_eq_getD_getElem?]at hb
      cases ht:a.tmps[d]? with
      |none=>rw[ht]at hb;cases hb
      |some v=>rw[ht]at hb;simp at hb;rw[hb]
     simp only[yielded,hd,Option.bind_some,hb']
    by_cases hbw:b=want
    ·rw[if_pos hbw]at h1
     have:Region.wanted o (yielded ops a.tmps)=true:=by simp[Region.wanted,hg,hy,hbw]
     rw[if_pos this]
     exact VA R1 hS h1 hn
    ·rw[if_neg hbw]at h1
     have:Region.wanted o (yielded ops a.tmps)=false:=by simp[Region.wanted,hg,hy,hbw]
     rw[this]
     simp only[Bool.false_eq_true,if_false]
     exact pass R1 h1
  ·cases h
theorem Px(hS:∀f c,C.ρ f=some c->ag C f c){strict:Bool}{ops:Array Oper}{k:St->Option Q}{r:Q}{D:List Deferred}{X:Exit->Act->World->Prop}
 (hn:Next C E D k r (X .normal)):∀(is:List Nat) (l:List Oper) (g:Gh) (st:St) (a:Act) (w:World),is.map (ops[·]?)=l.map some->dG C E g st a.tmps w->a.defers=D->
 XY C strict ops l st k=some r->wpOps C.P ops X is a w
 |[],[],g,st,a,w,_,R,hD,h=>hn g st a w h R hD
 |[],_::_,_,_,_,_,hl,_,_,_=>by simp at hl
 |_::_,[],_,_,_,_,hl,_,_,_=>by simp at hl
 |i::is,o::l,g,st,a,w,hl,R,hD,h=>by
  simp only[List.map_cons,List.cons.injEq]at hl
  simp only[wpOps,hl.1]
  have:=uR R hS h (next:=wpOps C.P ops X is) (X:=X) (fun g' st' a' w' hk R' hD'=>Px hS hn is l g' st' a' w' hl.2 R' (hD'.trans hD) hk)
  split
  ·rename_i hw
   rw[if_pos hw]at this
   exact .inl this
  ·rename_i hw
   rw[if_neg hw]at this
   exact this
theorem XV(hS:∀f c,C.ρ f=some c->ag C f c){id:Nat}{ops:Array Oper}{k:St->Option Q}{r:Q}{X:Exit->Act->World->Prop}
 (R:dG C E g st a.tmps w) (h:XY C false ops ops.toList st k=some r) (hn:Next C E a.defers k r (X .normal)):(Code.region id ops false).wp C.P X a w:=by
 refine wp_region (Px hS hn (List.range ops.size) ops.toList g st a w ?_ R rfl h)
 apply List.ext_getElem?
 intro i
 simp only[List.getElem?_map]
 by_cases hi:i<ops.size
 ·simp[hi]
 ·rw[List.getElem?_eq_none (by simpa using hi),List.getElem?_eq_none (by simpa using hi)];rfl
end
end Go.Vai
