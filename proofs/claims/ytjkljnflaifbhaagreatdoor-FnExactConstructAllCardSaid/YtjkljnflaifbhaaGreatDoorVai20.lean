/- No conditions. -/
import Derived.Test.YtjkljnflaifbhaaGreatDoorVai19
namespace Go.Vai
open Go
section
variable {C:gY} {E:iU} {g:Gh} {st:St} {tm:Array Value} {w:World} {Q:Type}
def NN(tmps:Array Value):ResultVar->Sem Value
 | .tmp t=>pure (tmps.getD t undef)
 | .cell a t=>do loadVar t (<-asAddr (tmps.getD a undef))
theorem ac1{a:Act}(R:dG C E g st a.tmps w){rv:ResultVar}{x:AV}(h:ac0 C st rv=some x):∃v,(NN a.tmps rv).run C.P w= .ok v w/\kl g w x v:=by
 cases rv with
 |tmp i=>
  simp only[ac0,Option.some.injEq]at h
  subst h
  exact⟨_,rfl,lC R (.tmp i)⟩
 |cell i T=>
  have hr:=lC R (.tmp i)
  have h:JL C st T (st.opd (.tmp i)) some=some x:=h
  obtain⟨av,v,h1,h2,h3⟩:=Yh R hr h
  simp only[Option.some.injEq]at h1
  subst h1
  refine⟨v, ?_,h3⟩
  simp only[NN,Sem.run_bind]
  have he:a.tmps.getD i undef=a.eval (.tmp i):=rfl
  rw[he]
  simp only[Instr.loadAt,Sem.run_bind]at h2
  cases hv:a.eval (.tmp i)with
  |pointer p=>
   rw[hv]at h2
   cases p with
   |none=>simp[Instr.sureAddr]at h2
   |some p=>simpa[Instr.sureAddr,asAddr]using h2
  |_=>rw[hv]at h2;simp[Instr.sureAddr]at h2
theorem wn.trans{g g1 g2:Gh}{S1 S2:List Nat}(h1:wn g g1 S1)(h2:wn g1 g2 S2):wn g g2 (S1++S2):=by
 refine⟨h2.bx.trans h1.bx,fun n=> ?_,fun n hn=> ?_⟩
 ·rcases h2.lab n with e2|⟨p,o,l,c,e2,e3⟩
  ·rcases h1.lab n with e1|⟨p,o,l,c,e1,e1'⟩
   ·exact .inl (e2.trans e1)
   ·exact .inr ⟨p,o,l,c,e1,e2.trans e1'⟩
  ·rcases h1.lab n with e1|⟨_,_,_,_,e1,e1'⟩
   ·exact .inr ⟨p,o,l,c,e1.symm.trans e2,e3⟩
   ·rw[e1']at e2;cases e2
 ·rcases List.mem_append.1 hn with hn|hn
  ·exact h1.own n hn
  ·obtain⟨p,o,l,c,e⟩:=h2.own n hn
   rcases h1.lab n with e1|⟨_,_,_,_,_,e1'⟩
   ·exact⟨p,o,l,c,e1.symm.trans e⟩
   ·rw[e1']at e;cases e
theorem wn.junk{g g1:Gh}{S:List Nat}(h:wn g g1 S){n:Nat}(hn:g.lab n= .junk):g1.lab n= .junk:=by
 rcases h.lab n with e|⟨_,_,_,_,e,_⟩
 ·exact e.trans hn
 ·rw[hn]at e;cases e
theorem dF.two{g g1:Gh}{S1 S2:List Nat}(F1:dF g w S1)(F2:dF g1 w S2)(h:wn g g1 S2):dF g1 w (S1++S2):=by
 refine⟨List.nodup_append.2 ⟨F1.nodup,F2.nodup, ?_⟩,fun b hb=> ?_,fun b hb=> ?_⟩
 ·rintro a ha b hb rfl
  obtain⟨_,_,_,_,e⟩:=h.own a hb
  rw[F1.junk a ha]at e;cases e
 ·rcases List.mem_append.1 hb with hb|hb
  ·exact h.junk (F1.junk b hb)
  ·exact F2.junk b hb
 ·rcases List.mem_append.1 hb with hb|hb
  ·exact F1.size b hb
  ·exact F2.size b hb
structure GG(g g':Gh)(S:List Nat):Prop where
 imm:∀n,g.lab n= .imm->g'.lab n= .imm
 junk:∀n,g.lab n= .junk->g'.lab n= .junk
 held:∀n,n∈S->g.lab n≠ .junk
theorem wn.drops{g g':Gh}{S:List Nat}(h:wn g g' S):GG g g' S where
 imm:=fun n hn=>by
  rcases h.lab n with e|⟨_,_,_,_,e,_⟩
  ·exact e.trans hn
  ·rw[hn]at e;cases e
 junk:=fun n hn=>h.junk hn
 held:=fun n hn=>by obtain⟨_,_,_,_,e⟩:=h.own n hn;rw[e];simp
theorem GG.trans{g g1 g2:Gh}{S1 S2:List Nat}(h1:GG g g1 S1)(h2:GG g1 g2 S2):GG g g2 (S1++S2)where
 imm:=fun n h=>h2.imm n (h1.imm n h)
 junk:=fun n h=>h2.junk n (h1.junk n h)
 held:=fun n hn h=>by
  rcases List.mem_append.1 hn with hn|hn
  ·exact h1.held n hn h
  ·exact h2.held n hn (h1.junk n h)
theorem dF.two'{g g1:Gh}{S1 S2:List Nat}(F1:dF g w S1)(F2:dF g1 w S2)(h:GG g g1 S2):dF g1 w (S1++S2):=by
 refine⟨List.nodup_append.2 ⟨F1.nodup,F2.nodup, ?_⟩,fun b hb=> ?_,fun b hb=> ?_⟩
 ·rintro a ha b hb rfl
  exact h.held a hb (F1.junk a ha)
 ·rcases List.mem_append.1 hb with hb|hb
  ·exact h.junk b (F1.junk b hb)
  ·exact F2.junk b hb
 ·rcases List.mem_append.1 hb with hb|hb
  ·exact F1.size b hb
  ·exact F2.size b hb
theorem dF.sub{g:Gh}{S S':List Nat}(F:dF g w S)(h:S'.Sublist S):dF g w S':=
 ⟨F.nodup.sublist h,fun b hb=>F.junk b (h.subset hb),fun b hb=>F.size b (h.subset hb)⟩
theorem GG.sub{g g':Gh}{S S':List Nat}(h:GG g g' S)(hs:S'.Sublist S):GG g g' S':=
 ⟨h.imm,h.junk,fun n hn=>h.held n (hs.subset hn)⟩
theorem bS.res0:∀{cs:List CV} {vs:List Value} {ms:List (List Nat)},bS g w cs vs ms->∃ms',Tu g w (cs.map CV.resC0) vs ms'/\(aj ms').Sublist (aj ms)
 |[],_,_,h=>⟨[],⟨h.1,rfl⟩,by simp[aj]⟩
 |c::r,_,_,h=>by
  obtain⟨v,vs',m,ms',rfl,rfl,h1,h2⟩:=h
  obtain⟨ms2,h3,h4⟩:=h2.res0
  cases hc:c.isFlat with
  |true=>
   refine⟨m::ms2,⟨v,vs',m,ms2,rfl,rfl, ?_,h3⟩,by simp only[aj];exact List.Sublist.append (List.Sublist.refl _) h4⟩
   simp only[CV.resC0,hc];exact h1.f0 hc
  |false=>
   refine⟨[]::ms2,⟨v,vs',[],ms2,rfl,rfl, ?_,h3⟩,by simp only[aj,List.nil_append];exact h4.trans (List.sublist_append_right _ _)⟩
   simp only[CV.resC0,hc];exact⟨rfl,fun _=>trivial⟩
theorem bS.res:∀{cs:List CV} {vs:List Value} {ms:List (List Nat)},bS g w cs vs ms->∃ms',bS g w (cs.map CV.resC) vs ms'/\(aj ms').Sublist (aj ms)
 |[],_,_,h=>⟨[],⟨h.1,rfl⟩,by simp[aj]⟩
 |c::r,_,_,h=>by
  obtain⟨v,vs',m,ms',rfl,rfl,h1,h2⟩:=h
  obtain⟨ms2,h3,h4⟩:=h2.res
  cases hc:c.isFlatN with
  |true=>
   refine⟨m::ms2,⟨v,vs',m,ms2,rfl,rfl, ?_,h3⟩,by simp only[aj];exact List.Sublist.append (List.Sublist.refl _) h4⟩
   simp only[CV.resC,hc];exact h1
  |false=>
   refine⟨[]::ms2,⟨v,vs',[],ms2,rfl,rfl, ?_,h3⟩,by simp only[aj,List.nil_append];exact h4.trans (List.sublist_append_right _ _)⟩
   simp only[CV.resC,hc];exact⟨rfl,fun _=>trivial⟩
theorem abB(cs:List CV):(cs.map CV.resC).all CV.isFlatN=true:=by
 rw[List.all_eq_true]
 intro c hc
 rw[List.mem_map]at hc
 obtain⟨c0,_,rfl⟩:=hc
 unfold CV.resC
 split
 ·assumption
 ·rfl
theorem Ey(cs:List CV):(cs.map CV.resC0).all CV.isFlat=true:=by
 rw[List.all_eq_true]
 intro c hc
 rw[List.mem_map]at hc
 obtain⟨c0,_,rfl⟩:=hc
 unfold CV.resC0
 split
 ·assumption
 ·rfl
theorem FV.res{x:Val}{v:Value}{ms:List (List Nat)}(h:FV g w x v ms):∃ms',FV g w ⟨x.agg,x.cs.map CV.resC⟩ v ms'/\(aj ms').Sublist (aj ms):=by
 obtain⟨a,cs⟩:=x
 cases a with
 |true=>
  obtain⟨vs,hv,h⟩:=h
  obtain⟨ms',h1,h2⟩:=h.res
  exact⟨ms',⟨vs,hv,h1⟩,h2⟩
 |false=>exact bS.res (cs:=cs) h
theorem aaV(R:dG C E g st tm w){b:Nat}{cs:List CV}(hb:st.boxes[b]?=some (some (false,cs))):
 ∃n arr e g' ms,g.bx b=some n/\g.lab n= .box b/\g'.lab n= .box b/\g'.bx=g.bx/\w.heap[n]?=some (.cells arr e (0,0))/\dG C E g' (kp [] (pP (.cell b) 0 cs) st).2 tm w/\
  Tu g' w ((kp [] (pP (.cell b) 0 cs) st).1.map CV.resC0) arr.toList ms/\dF g' w (aj ms)/\wn g g' (aj ms):=by
 obtain⟨n,arr,e,fz,h1,h2,h3,h4,h5⟩:=R.boxes b false cs hb
 have h2:g.lab n= .box b:=h2
 have:=h4 rfl
 subst this
 obtain⟨g1,ms,R1,F1,Fr,L⟩:=uU (pP (.cell b) 0 cs) [] st g arr.toList R (bg.lends h5).ls
 obtain⟨ms',F2,hsub⟩:=F1.res0
 refine⟨n,arr,e,g1,ms',h1,h2, ?_,L.bx,h3,R1,F2,Fr.sub hsub,⟨L.bx,L.lab,fun n hn=>L.own n (hsub.subset hn)⟩⟩
 rcases L.lab n with e|⟨_,_,_,_,e,_⟩
 ·exact e.trans h2
 ·rw[h2]at e;cases e
theorem abz(R:dG C E g st tm w){n:Nat}{x:Val}{v:Value}{cs:List CV}{st1:St}(hx:NV g w x v)(h:XS n st x=some (cs,st1)):
 ∃ms g',dG C E g' st1 tm w/\FV g' w ⟨false,[.np cs]⟩ v ms/\dF g' w (aj ms)/\GG g g' (aj ms):=by
 unfold XS at h
 split at h
 ·rename_i b
  split at h
  ·rename_i cs0 _ hb
   simp only[Option.some.injEq,Prod.mk.injEq]at h
   obtain⟨rfl,rfl⟩:=h
   obtain⟨m,arr,e,g1,ms,h1,h2,h3,h4,h5,R1,F1,Fr,L⟩:=aaV R hb
   obtain⟨v',vs',e1,hF,hn⟩:=(show bg g w [.ptr b 0] [v]from hx)
   cases e1
   obtain⟨m',rfl,hm'⟩:=hF.2 (.slot 0 0 0)
   rw[h1]at hm'
   cases hm'
   have R2:=R1.back (List.range (kp [] (pP (.cell b) 0 cs0) st).2.slots.length) ((List.range (kp [] (pP (.cell b) 0 cs0) st).2.boxes.length).filter (· !=b))
   rw[<-R1.lenN,<-R1.lenB]at R2
   have hI:∀n,g1.lab n= .imm->(g1.keep (List.range (kp [] (pP (.cell b) 0 cs0) st).2.slots.length) ((List.range (kp [] (pP (.cell b) 0 cs0) st).2.boxes.length).filter (· !=b))).lab n= .imm:=fun n hn=>Gh.keep_imm hn
   have hJ:∀n,g1.lab n= .junk->(g1.keep (List.range (kp [] (pP (.cell b) 0 cs0) st).2.slots.length) ((List.range (kp [] (pP (.cell b) 0 cs0) st).2.boxes.length).filter (· !=b))).lab n= .junk:=fun n hn=>by
    rcases Gh.keep_back (g:=g1) (s:=List.range (kp [] (pP (.cell b) 0 cs0) st).2.slots.length) (b:=(List.range (kp [] (pP (.cell b) 0 cs0) st).2.boxes.length).filter (· !=b)) (n:=n)with e|e
    ·exact e
    ·exact e.trans hn
   have hno:m∉aj ms:=fun hm=>by
    obtain⟨_,_,_,_,e⟩:=L.own m hm
    rw[h2]at e;cases e
   have hjm:(g1.keep (List.range (kp [] (pP (.cell b) 0 cs0) st).2.slots.length) ((List.range (kp [] (pP (.cell b) 0 cs0) st).2.boxes.length).filter (· !=b))).lab m= .junk:=by
    simp only[Gh.keep,h3]
    have:((List.range (kp [] (pP (.cell b) 0 cs0) st).2.boxes.length).filter (· !=b)).contains b=false:=by simp
    rw[this]
   refine⟨[m::aj ms],_,R2, ?_, ?_, ?_⟩
   ·refine⟨_,[],m::aj ms,[],rfl,rfl,⟨m,arr,e,ms,rfl,h5,rfl,Ey _, ?_⟩,rfl,rfl⟩
    exact F1.imp (fun c v m hf _ h=>h.flat hI hf) (Ey _)
   ·simp only[aj,List.append_nil]
    refine⟨List.nodup_cons.2 ⟨hno,Fr.nodup⟩,fun k hk=> ?_,fun k hk=> ?_⟩
    ·rcases List.mem_cons.1 hk with rfl|hk
     ·exact hjm
     ·exact hJ k (Fr.junk k hk)
    ·rcases List.mem_cons.1 hk with rfl|hk
     ·exact R.size k (by rw[h2];simp)
     ·exact Fr.size k hk
   ·simp only[aj,List.append_nil]
    refine⟨fun k hk=>hI k (L.drops.imm k hk),fun k hk=>hJ k (L.drops.junk k hk),fun k hk=> ?_⟩
    rcases List.mem_cons.1 hk with rfl|hk
    ·rw[h2];simp
    ·exact L.drops.held k hk
  ·cases h
 ·cases h
theorem NO{a:Act}{nt:Nat}:∀(rs:List ResultVar) (g:Gh) (st:St) (l:List Val) (st':St),dG C E g st a.tmps w->yD C nt rs st=some (l,st')->
 ∃vals ms g',(rs.mapM (NN a.tmps)).run C.P w= .ok vals w/\dG C E g' st' a.tmps w/\sR g' w l vals ms/\dF g' w (aj ms)/\GG g g' (aj ms)/\(l.all fun x=>x.cs.all CV.isFlatN)=true
 |[],g,st,l,st',R,h=>by
  simp only[yD,Option.some.injEq,Prod.mk.injEq]at h
  obtain⟨rfl,rfl⟩:=h
  exact⟨[],[],g,rfl,R,⟨rfl,rfl⟩,dF.nil,⟨fun _ h=>h,fun _ h=>h,fun _ h=>(List.not_mem_nil h).elim⟩,rfl⟩
 |rv::rs,g,st,l,st',R,h=>by
  simp only[yD]at h
  split at h
  ·rename_i x hx
   obtain⟨v,h1,h2⟩:=ac1 R hx
   have Sm:∀(y:Val) (st1:St) (g1:Gh) (ms1:List (List Nat)) (l':List Val) (st'':St),dG C E g1 st1 a.tmps w->FV g1 w y v ms1->dF g1 w (aj ms1)->GG g g1 (aj ms1)->y.cs.all CV.isFlatN=true->
    yD C nt rs st1=some (l',st'')->∃vals ms g',((rv::rs).mapM (NN a.tmps)).run C.P w= .ok vals w/\dG C E g' st'' a.tmps w/\sR g' w (y::l') vals ms/\dF g' w (aj ms)/\GG g g' (aj ms)/\
     ((y::l').all fun x=>x.cs.all CV.isFlatN)=true:=by
    intro y st1 g1 ms1 l' st'' R1 F1 Fr1 L1 hy hl
    obtain⟨vals,ms2,g2,h3,R2,F2,Fr2,L2,hla⟩:=NO rs g1 _ l' st'' R1 hl
    refine⟨v::vals,ms1++ms2,g2, ?_,R2,⟨v,vals,ms1,ms2,rfl,rfl, ?_,F2⟩, ?_, ?_, ?_⟩
    ·simp only[List.mapM_cons,Sem.run_bind,h1,Result.andThen_ok,h3,Sem.run_pure]
    ·exact FV.imp' (P:=CV.isFlatN) (fun c v m hc h=>cC.flat L2.imm hc h) hy F1
    ·rw[cJ];exact Fr1.two' Fr2 L2
    ·rw[cJ];exact L1.trans L2
    ·simp only[List.all_cons,hla,Bool.and_true];exact hy
   split at h
   ·rename_i cs st1 hp
    obtain⟨ms1,g1,R1,F1,Fr1,L1⟩:=abz R (v:=v) h2 hp
    have hflat:cs.all CV.isFlat=true:=by
     unfold XS at hp
     split at hp
     ·split at hp
      ·simp only[Option.some.injEq,Prod.mk.injEq]at hp
       obtain⟨rfl,_⟩:=hp
       exact Ey _
      ·cases hp
     ·cases hp
    split at h
    ·rename_i l' st'' hl
     simp only[Option.some.injEq,Prod.mk.injEq]at h
     obtain⟨rfl,rfl⟩:=h
     exact Sm _ _ g1 ms1 l' st'' R1 F1 Fr1 L1 (by simpa[CV.isFlatN]using hflat) hl
    ·cases h
   ·split at h
    ·rename_i l' st'' hl
     simp only[Option.some.injEq,Prod.mk.injEq]at h
     obtain⟨rfl,rfl⟩:=h
     obtain⟨g1,ms1,R1,F1,Fr1,L1⟩:=NV.stolen (v:=x) R h2
     obtain⟨ms2,F2,hsub⟩:=F1.res
     exact Sm _ _ g1 ms2 l' st'' R1 F2 (Fr1.sub hsub) (L1.drops.sub hsub) (abB _) hl
    ·cases h
  ·cases h
def ae7(vals:List Value):Value:=match vals with|[x]=>x|l=>.tuple l.toArray
theorem R7{fn:Func}{tmps:Array Value}{vals:List Value}(h:(fn.results.toList.mapM (NN tmps)).run C.P w= .ok vals w):
 (results fn tmps).run C.P w= .ok (ae7 vals) w:=by
 have hm:(fn.results.mapM (NN tmps)).run C.P w= .ok vals.toArray w:=by
  rw[Array.mapM_eq_mapM_toList]
  simp only[map_eq_pure_bind,Sem.run_bind,h,Result.andThen_ok,Sem.run_pure]
 have hr:results fn tmps=(do let vs<-fn.results.mapM (NN tmps);pure (if h:vs.size=1 then vs[0]else .tuple vs)):=by
  unfold results
  congr 1
 rw[hr]
 simp only[Sem.run_bind,hm,Result.andThen_ok,Sem.run_pure]
 match vals with
 |[]=>rfl
 |[x]=>rfl
 |x::y::r=>simp[ae7]
theorem WV{l:List Val}{vals:List Value}{ms:List (List Nat)}(hF:sR g w l vals ms):LB g w (aai l) (ae7 vals) ms:=by
 match l,vals,hF with
 |[],[],hF=>exact⟨_,rfl,hF⟩
 |[x],[v],hF=>
  obtain⟨v',vs',m,ms',hv,rfl,h2,h3⟩:=hF
  simp only[List.cons.injEq]at hv
  obtain⟨rfl,rfl⟩:=hv
  obtain⟨_,rfl⟩:=h3
  have h4:FV g w x v (m++ []):=by rw[List.append_nil];exact h2
  exact h4
 |x::y::r,u::v::vs,hF=>exact⟨_,rfl,hF⟩
 |[],_::_,hF=>exact absurd hF.1 (by simp)
 |[x],[],hF=>obtain⟨v',vs',m,ms',hv,_⟩:=hF;cases hv
 |[x],_::_::_,hF=>obtain⟨v',vs',m,ms',hv,_,_,h3⟩:=hF;simp only[List.cons.injEq]at hv;obtain⟨_,rfl⟩:=hv;exact absurd h3.1 (by simp)
 |x::y::r,[],hF=>obtain⟨v',vs',m,ms',hv,_⟩:=hF;cases hv
 |x::y::r,[v],hF=>obtain⟨v',vs',m,ms',hv,_,_,h3⟩:=hF;simp only[List.cons.injEq]at hv;obtain⟨_,rfl⟩:=hv;obtain⟨_,_,_,_,h4,_⟩:=h3;cases h4
theorem Wo{a:Act}(R:dG C E g st a.tmps w){fn:Func}{k:AV->List CV->Option Q}{r:Q}(h:finish C fn st k=some r):
 ∃av cs v g' ms bms,k av cs=some r/\(results fn a.tmps).run C.P w= .ok v w/\LB g' w av v ms/\bS g' w cs E.io bms/\dF g' w (aj bms++aj ms)/\Kept E g' w/\(∀n,g'.lab n≠ .junk->n<w.heap.size):=by
 unfold finish at h
 split at h
 ·rename_i l st1 hl
  obtain⟨vals,ms,g1,h1,R1,F1,Fr1,L1,hla⟩:=NO _ g st l st1 R hl
  obtain⟨g2,bms,R2,F2,Fr2,L2⟩:=uU (pP .arg 0 st1.io) [] st1 g1 E.io R1 (bg.lends R1.io).ls
  refine⟨_,_,_,g2,ms,bms,h,R7 h1, ?_,F2, ?_,R2.kept,R2.size⟩
  ·exact WV (sR.imp' (P:=CV.isFlatN) (fun c v m hc h=>cC.flat L2.drops.imm hc h) hla F1)
  ·have:=Fr1.two Fr2 L2
   exact⟨List.nodup_append.2 ⟨Fr2.nodup,Fr1.nodup,fun a ha b hb e=>(List.nodup_append.1 this.nodup).2.2 b hb a ha e.symm⟩,
    fun b hb=>this.junk b (List.mem_append.2 ((List.mem_append.1 hb).symm)),fun b hb=>this.size b (List.mem_append.2 ((List.mem_append.1 hb).symm))⟩
 ·cases h
theorem ag.of_run{fid:FuncId}{f:Func}{code:Code}{c:af}(hf:C.P.funcs[fid]?=some f)(hb:f.body=some code)(hname:(f.name== "runtime.NumGoroutine")=false)(hrw:c.rw=false)
 (hm:C.P.follows .mixedOrders=true) (hS:∀f c,C.ρ f=some c->ag C f c)
 (hrun:∀bs vs x,c.G bs vs=some x->∃(h:fq (AV×List CV)) (fuel:Nat),ak C ⟨f.ntmps,f.ntmps+bs.length⟩ h fuel (ca code)/\Za C h fuel f c.io bs vs (fun a cs=>some (a,cs))=some (c.enc x)):
 ag C fid c:=by
 refine Gi.s hrw ⟨⟨f,code,hf,hb,hname⟩,fun g0 w bs vs args ms x hP hG=> ?_⟩
 obtain⟨h,fuel,hH,hr⟩:=hrun bs vs x hG
 unfold Za at hr
 rw[hb]at hr
 simp only at hr
 split at hr
 ·rename_i hcond
  simp only[Bool.and_eq_true,decide_eq_true_eq]at hcond
  obtain⟨g,R⟩:=YV hP hcond.1 hcond.2
  refine calls_of_wp hf hb (Qp (E:=⟨w,g0.lab,oq c.io args,f.ntmps,f.ntmps+bs.length,(g0.shift f.ntmps).bx⟩) (D:=[]) rfl hm hS code hH _ _ g _ _ w hr R rfl ?_)
  have Sm:∀g st (a:Act) w',finish C f st (fun a cs=>some (a,cs))=some (c.enc x)->dG C ⟨w,g0.lab,oq c.io args,f.ntmps,f.ntmps+bs.length,(g0.shift f.ntmps).bx⟩ g st a.tmps w'->a.defers=[]->
   a.defers=[]/\∃v,(results f a.tmps).run C.P w'= .ok v w'/\∃v',Ending.returned v= .returned v'/\Ret g0 w (aj ms) (c.enc x).2 (oq c.io args) (c.enc x).1 v' w':=by
   intro g st a w' hfin R hD
   obtain⟨av,cs,v,g',ms',bms,h1,h2,h3,h4,h5,h6,h7⟩:=Wo R hfin
   simp only[Option.some.injEq]at h1
   refine⟨hD,v,h2,v,rfl,g',ms',bms,by rw[<-h1];exact h3,by rw[<-h1];exact h4,h5, ?_,h6.os,h6.tape,h6.output,h6.size, ?_,fun n hlt hn=>(by
    rcases hP.old n hlt with h|h|h
    ·exact .inl h
    ·have:=(h6.far n hlt h).1;rw[hn]at this;cases this
    ·exact .inr h.2),fun n hn=>h7 n (by rw[hn];simp)⟩
   ·intro b hb
    rcases Nat.lt_or_ge b w.heap.size with hlt|hge
    ·right
     have hj:=h5.junk b (List.mem_append_right _ hb)
     rcases hP.old b hlt with h|h|h
     ·rw[(h6.imm b hlt h).1]at hj;cases hj
     ·rw[(h6.far b hlt h).1]at hj;cases hj
     ·exact h.2
    ·exact .inl hge
   ·intro n hlt hn
    rcases hP.old n hlt with h|h|h
    ·exact(h6.imm n hlt h).2
    ·exact(h6.far n hlt h).2
    ·exact absurd h.2 hn
  intro e g st a w' hk R' hD'
  cases e with
  |normal=>exact Sm g st a w' hk R' hD'
  |ret=>exact Sm g st a w' hk R' hD'
  |exit id=>cases hk
 ·cases hr
theorem bS.forget{g:Gh}{w:World}:∀{cs:List CV} {vs:List Value} {ms:List (List Nat)},bS g w cs vs ms->bS g w (cs.map fun _=>.undef) vs (ms.map fun _=>[])
 |[],_,_,h=>by obtain⟨rfl,rfl⟩:=h;exact⟨rfl,rfl⟩
 |c::r,_,_,h=>by
  obtain⟨v,vs',m,ms',rfl,rfl,h1,h2⟩:=h
  exact⟨v,vs',[],ms'.map fun _=>[],rfl,rfl,⟨rfl,fun _=>trivial⟩,h2.forget⟩
theorem Vs:∀(ms:List (List Nat)),aj (ms.map fun _=>[])=[]
 |[]=>rfl
 |_::r=>by simp only[List.map_cons,aj,List.nil_append];exact Vs r
theorem ag.of_runTake{fid:FuncId}{f:Func}{code:Code}{c:af}(hf:C.P.funcs[fid]?=some f)(hb:f.body=some code)(hname:(f.name== "runtime.NumGoroutine")=false)(hrw:c.rw=false)
 (hm:C.P.follows .mixedOrders=true) (hS:∀f c,C.ρ f=some c->ag C f c)
 (hrun:∀bs vs x,c.G bs vs=some x->∃(h:fq (AV×List CV)) (fuel:Nat),ak C ⟨f.ntmps,f.ntmps+bs.length⟩ h fuel (ca code)/\Za C h fuel f c.io bs vs (fun a cs=>some (a,cs.map fun _=>.undef))=some (c.enc x)):
 ag C fid c:=by
 refine Gi.s hrw ⟨⟨f,code,hf,hb,hname⟩,fun g0 w bs vs args ms x hP hG=> ?_⟩
 obtain⟨h,fuel,hH,hr⟩:=hrun bs vs x hG
 unfold Za at hr
 rw[hb]at hr
 simp only at hr
 split at hr
 ·rename_i hcond
  simp only[Bool.and_eq_true,decide_eq_true_eq]at hcond
  obtain⟨g,R⟩:=YV hP hcond.1 hcond.2
  refine calls_of_wp hf hb (Qp (E:=⟨w,g0.lab,oq c.io args,f.ntmps,f.ntmps+bs.length,(g0.shift f.ntmps).bx⟩) (D:=[]) rfl hm hS code hH _ _ g _ _ w hr R rfl ?_)
  have Sm:∀g st (a:Act) w',finish C f st (fun a cs=>some (a,cs.map fun _=>.undef))=some (c.enc x)->dG C ⟨w,g0.lab,oq c.io args,f.ntmps,f.ntmps+bs.length,(g0.shift f.ntmps).bx⟩ g st a.tmps w'->a.defers=[]->
   a.defers=[]/\∃v,(results f a.tmps).run C.P w'= .ok v w'/\∃v',Ending.returned v= .returned v'/\Ret g0 w (aj ms) (c.enc x).2 (oq c.io args) (c.enc x).1 v' w':=by
   intro g st a w' hfin R hD
   obtain⟨av,cs,v,g',ms',bms,h1,h2,h3,h4,h5,h6,h7⟩:=Wo R hfin
   simp only[Option.some.injEq]at h1
   refine⟨hD,v,h2,v,rfl,g',ms',bms.map fun _=>[],by rw[<-h1];exact h3,by rw[<-h1];exact h4.forget,by rw[Vs];exact⟨(List.nodup_append.1 h5.nodup).2.1,fun b hb=>h5.junk b (List.mem_append_right _ hb),fun b hb=>h5.size b (List.mem_append_right _ hb)⟩, ?_,h6.os,h6.tape,h6.output,h6.size, ?_,fun n hlt hn=>(by
    rcases hP.old n hlt with h|h|h
    ·exact .inl h
    ·have:=(h6.far n hlt h).1;rw[hn]at this;cases this
    ·exact .inr h.2),fun n hn=>h7 n (by rw[hn];simp)⟩
   ·intro b hb
    rcases Nat.lt_or_ge b w.heap.size with hlt|hge
    ·right
     have hj:=h5.junk b (List.mem_append_right _ hb)
     rcases hP.old b hlt with h|h|h
     ·rw[(h6.imm b hlt h).1]at hj;cases hj
     ·rw[(h6.far b hlt h).1]at hj;cases hj
     ·exact h.2
    ·exact .inl hge
   ·intro n hlt hn
    rcases hP.old n hlt with h|h|h
    ·exact(h6.imm n hlt h).2
    ·exact(h6.far n hlt h).2
    ·exact absurd h.2 hn
  intro e g st a w' hk R' hD'
  cases e with
  |normal=>exact Sm g st a w' hk R' hD'
  |ret=>exact Sm g st a w' hk R' hD'
  |exit id=>cases hk
 ·cases hr
end
end Go.Vai
