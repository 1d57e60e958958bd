/- No conditions. -/
import Derived.Test.YtjkljnflaifbhaaGreatDoorVai9
namespace Go.Vai
open Go
section
variable {C:gY} {E:iU} {g:Gh} {st:St} {tm:Array Value} {w:World}
theorem cA.length{p:Nat->Place}:∀{cs:List CV} {i:Nat} {vs:List Value},cA g w p i cs vs->cs.length=vs.length
 |[],_,_,h=>by simp only[cA]at h;subst h;rfl
 |_::_,_,_,h=>by obtain⟨v,vs',rfl,_,h2⟩:=h;simp[h2.length]
theorem cA.ofList{p:Nat->Place}{cs:List CV}{i:Nat}{vs:List Value}(h:cA g w p i cs vs):cA g w p i cs vs.toArray.toList:=h
theorem cA.take{p:Nat->Place}:∀(n:Nat) {cs:List CV} {i:Nat} {vs:List Value},cA g w p i cs vs->cA g w p i (cs.take n) (vs.take n)
 |0,_,_,_,_=>by simp[cA]
 |n+1,[],_,_,h=>by simp only[cA]at h;subst h;simp[cA]
 |n+1,_::_,_,_,h=>by obtain⟨v,vs',rfl,h1,h2⟩:=h;exact⟨v,_,rfl,h1,h2.take n⟩
theorem cA.drop{p:Nat->Place}:∀(n:Nat) {cs:List CV} {i:Nat} {vs:List Value},cA g w p i cs vs->cA g w p (i+n) (cs.drop n) (vs.drop n)
 |0,_,_,_,h=>h
 |n+1,[],_,_,h=>by simp only[cA]at h;subst h;simp[cA]
 |n+1,_::_,i,_,h=>by
  obtain⟨v,vs',rfl,h1,h2⟩:=h
  have:=h2.drop n
  rwa [show i+1+n=i+(n+1) by omega]at this
theorem cA.append{p:Nat->Place}:∀{cs:List CV} {i:Nat} {vs:List Value},cA g w p i cs vs->∀{cs' vs'},cA g w p (i+cs.length) cs' vs'->
 cA g w p i (cs++cs') (vs++vs')
 |[],_,_,h,_,_,h'=>by simp only[cA]at h;subst h;exact h'
 |_::r,i,_,h,_,_,h'=>by
  obtain⟨v,vs',rfl,h1,h2⟩:=h
  refine⟨v,_,rfl,h1,h2.append ?_⟩
  rwa [show i+1+r.length=i+(r.length+1) by omega]
theorem bS.length:∀{cs:List CV} {vs:List Value} {ms:List (List Nat)},bS g w cs vs ms->cs.length=vs.length
 |[],_,_,h=>by obtain⟨rfl,_⟩:=h;rfl
 |_::_,_,_,h=>by obtain⟨v,vs',m,ms',rfl,rfl,_,h2⟩:=h;simp[h2.length]
theorem cC.oneCell{c:CV}{v:Value}{m:List Nat}(hs:c.solid=true)(h:cC g w c v m):v.oneCell'=true:=by
 cases c with
 |np cs=>cases hs
 |undef=>cases hs
 |v x=>
  have:=h.2 (.slot 0 0 0)
  simp only[cu]at this
  subst this
  cases v<;>first|rfl|cases hs
 |emp=>obtain⟨A,rfl⟩:=h.2 (.slot 0 0 0);rfl
 |sl t l=>
  obtain⟨A,cap,hv,_⟩:=h.2 (.slot 0 0 0)
  simp only[List.cons.injEq,and_true]at hv
  subst hv;rfl
 |own t l=>obtain⟨lo,A,cap,rfl,_⟩:=h;rfl
 |view q f lo t l=>obtain⟨⟨A,cap,rfl,_⟩,_⟩:=h.2 (.slot 0 0 0);rfl
 |lb n=>obtain⟨m,rfl,_⟩:=h.2 (.slot 0 0 0);rfl
 |ptr b o=>obtain⟨n,rfl,_⟩:=h.2 (.slot 0 0 0);rfl
 |gp b o=>
  have:v= .pointer (some ⟨_,_,none⟩):=h.2 (.slot 0 0 0)
  subst this;rfl
 |ea t x o=>obtain⟨b,off,cs,e,fz,rfl,_⟩:=h.2 (.slot 0 0 0);rfl
 |va q i t x o=>obtain⟨b,off,n,c,cs,e,rfl,_⟩:=h.2 (.slot 0 0 0);rfl
 |fn f caps=>obtain⟨cvs,rfl,_⟩:=h.2 (.slot 0 0 0);rfl
theorem bS.oneCell:∀{cs:List CV} {vs:List Value} {ms:List (List Nat)},cs.all CV.solid=true->bS g w cs vs ms->∀v,v∈vs->v.oneCell'=true
 |[],_,_,_,h,v,hv=>by obtain⟨rfl,_⟩:=h;cases hv
 |_::_,_,_,hs,h,v,hv=>by
  obtain⟨u,vs',m,ms',rfl,rfl,h1,h2⟩:=h
  simp only[List.all_cons,Bool.and_eq_true]at hs
  rcases List.mem_cons.1 hv with rfl|hv
  ·exact h1.oneCell hs.1
  ·exact bS.oneCell hs.2 h2 v hv
theorem FL{α:Type}{l:List (Option α)}{b:Nat}{x:α}(F:α->α)(h:l[b]?=some (some x)):(l.modify b (Option.map F))[b]?=some (some (F x)):=by
 rw[List.getElem?_modify,h];simp
theorem QE{α:Type}{l:List (Option α)}{b b':Nat}(f:Option α->Option α)(h:b≠b'):(l.modify b f)[b']?=l[b']?:=by
 rw[List.getElem?_modify]
 cases l[b']?<;>simp[h]
theorem dG.writeBox(R:dG C E g st tm w){b o:Nat}{cs new:List CV}{vs:List Value}{ms:List (List Nat)}
 (hb:st.boxes[b]?=some (some (false,cs))) (hn:∀j n o' l c,o<=j->j<o+new.length->g.lab n≠ .own (.cell b j) o' l c)
 (h:bS g w new vs ms) (F:dF g w (aj ms)) (ho:o+new.length<=cs.length):
 ∃nb arr e,g.bx b=some nb/\w.heap[nb]?=some (.cells arr e (0,0))/\arr.size=cs.length/\
  ∃g',dG C E g' ⟨st.slots,st.boxes.modify b (Option.map fun x=>(x.1,Cg x.2 o new)),st.io⟩ tm
   (w.setRow nb (arr.toList.take o++vs++arr.toList.drop (o+vs.length)).toArray):=by
 obtain⟨nb,arr,e,fz,h1,h2,h3,h4,h5⟩:=R.boxes b false cs hb
 have hfz:=h4 rfl
 subst hfz
 have hl5:=h5.length
 have hvl:=h.length
 refine⟨nb,arr,e,h1,h3,by simpa using hl5.symm, ?_⟩
 have hinj:∀i j,Place.cell b i=Place.cell b j->i=j:=fun i j e=>by injection e
 obtain⟨g',L,hr⟩:∃g',GH g g' (aj ms) (fun q=>∃j t x,q=Place.cell b (o+j)/\new[j]?=some (.own t x))/\cA g' w (Place.cell b) o new vs:=by
  have hland:∀(cs:List CV) (i:Nat) (vs:List Value) (ms:List (List Nat)) (g:Gh),bS g w cs vs ms->dF g w (aj ms)->
   (∀j,i<=j->j<i+cs.length->∀n o l c,g.lab n≠ .own (.cell b j) o l c)->
   ∃g',GH g g' (aj ms) (fun q=>∃j t x,q= .cell b (i+j)/\cs[j]?=some (.own t x))/\cA g' w (.cell b) i cs vs:=by
   intro cs
   induction cs with
   |nil=>
    intro i vs ms g h _ _
    obtain⟨rfl,rfl⟩:=h
    exact⟨g,⟨rfl,fun n=>.inl rfl,fun n m q o l c o' l' c' ⟨j,t,x,_,hq⟩ _ _=>by simp at hq⟩,rfl⟩
   |cons c r ih=>
    intro i vs ms g h F hn
    obtain⟨v,vs',m,ms',rfl,rfl,h1,h2⟩:=h
    have es:aj (m::ms')=aj [m]++aj ms':=by rw[<-cJ];rfl
    rw[es]at F
    obtain⟨g1,L1,hc⟩:=aei (.cell b i) (hn i (Nat.le_refl _) (by simp)) h1 F.left
    have F2:=F.mono L1
    have hn2:∀j,i+1<=j->j<i+1+r.length->∀n o l c,g1.lab n≠ .own (.cell b j) o l c:=by
     intro j hj hj' n o l c e
     rcases L1.lab n with e'|⟨_,q,o',l',c',hq,e'⟩
     ·exact hn j (by omega) (by simp;omega) n o l c (by rw[<-e'];exact e)
     ·rw[e]at e';injection e' with e';rw[hq.1]at e';injection e' with _ e';omega
    have h2':=bS.mono (L1.steps F.left) (fun b hb=>rfl) h2
    obtain⟨g2,L2,hr⟩:=ih (i+1) vs' ms' g1 h2' F2 hn2
    refine⟨g2,(L1.trans L2 ?_).weaken ?_ ?_ es.symm,v,vs',rfl,cu.mono (L2.steps F2) (CV.uses_true _ _) hc,hr⟩
    ·rintro q ⟨rfl,_⟩ ⟨j,t,x,hq,_⟩
     injection hq with _ hq;omega
    ·rintro q (⟨rfl,t,x,rfl⟩|⟨j,t,x,hq,hj⟩)
     ·exact⟨0,t,x,rfl,rfl⟩
     ·exact⟨j+1,t,x,by rw[hq];congr 1;omega,by simpa using hj⟩
    ·rintro q ⟨j,t,x,hq,hj⟩
     cases j with
     |zero=>exact .inl ⟨hq,t,x,by simpa using hj⟩
     |succ j=>exact .inr ⟨j,t,x,by rw[hq];congr 1;omega,by simpa using hj⟩
  exact hland new o vs ms g h F (fun j hj hj' n o' l c=>hn j n o' l c hj hj')
 have H:=L.steps F
 have keep:∀n,g.lab n≠ .junk->g'.lab n=g.lab n:=by
  intro n hn'
  rcases L.lab n with e|⟨hm,_⟩
  ·exact e
  ·exact absurd (F.junk n hm) hn'
 have hnb':g'.lab nb= .box b:=by rw[keep nb (by rw[h2];simp)];exact h2
 have HW:gM (fun _=>True) (fun _=>True) g' g' w (w.setRow nb (arr.toList.take o++vs++arr.toList.drop (o+vs.length)).toArray):={
  imm:=fun n hn=>⟨hn,setRow_other w nb n _ (fun e=>by rw[e,hnb']at hn;cases hn)⟩
  own:=fun n q o l c _ hn=>⟨hn,setRow_other w nb n _ (fun e=>by rw[e,hnb']at hn;cases hn)⟩
  bx:=fun _ _ _ h=>h}
 have HS:gM (fun _=>True) (fun _=>True) g g' w (w.setRow nb (arr.toList.take o++vs++arr.toList.drop (o+vs.length)).toArray):={
  imm:=fun n hn=>⟨(H.imm n hn).1,(HW.imm n (H.imm n hn).1).2⟩
  own:=fun n q o' l c _ hn=>⟨(H.own n q o' l c trivial hn).1,(HW.own n q o' l c trivial (H.own n q o' l c trivial hn).1).2⟩
  bx:=fun b' n _ hn=>by rw[L.bx];exact hn}
 refine⟨g', ?_⟩
 exact{
  len:=R.len
  lenN:=R.lenN
  lenB:=by simp[R.lenB]
  io:=R.io.mono HS
  slots:=fun i a hi=>by obtain⟨v,hv,ha⟩:=R.slots i a hi;exact⟨v,hv,ha.mono HS⟩
  boxes:=by
   intro b' ro cs' hb'
   by_cases he:b=b'
   ·subst he
    rw[FL _ hb]at hb'
    simp only[Option.some.injEq,Prod.mk.injEq]at hb'
    obtain⟨rfl,rfl⟩:=hb'
    refine⟨nb,_,e,(0,0),by rw[L.bx];exact h1,hnb',setRow_heap w nb arr _ e (0,0) h3,fun _=>rfl, ?_⟩
    have t1:=(h5.mono HS).take o
    have t2:=hr.mono HW
    have t3:=(h5.mono HS).drop (o+new.length)
    have hlo:(cs.take o).length=o:=by simp;omega
    rw[hvl]at t3
    simp only[Cg]
    refine cA.ofList ((t1.append (cs':=new) (vs':=vs) (by rw[hlo,Nat.zero_add];exact t2)).append ?_)
    rw[List.length_append,hlo,hvl]
    simpa using t3
   ·rw[QE _ he]at hb'
    obtain⟨n,vs',e',fz,k1,k2,k3,k4,k5⟩:=R.boxes b' ro cs' hb'
    have hne:n≠nb:=fun e=>by
     subst e
     rw[h2]at k2
     cases ro with
     |true=>cases k2
     |false=>injection k2 with k2;exact he k2
    exact⟨n,vs',e',fz,by rw[L.bx];exact k1,by rw[keep n (by rw[k2];cases ro<;>simp)];exact k2,by rw[setRow_other w nb n _ hne];exact k3,k4,k5.mono HS⟩
  bx:=by
   intro b' n hn'
   rw[L.bx]at hn'
   obtain⟨x,hx⟩:=R.bx b' n hn'
   by_cases he:b=b'
   ·subst he;exact⟨_,FL _ hb⟩
   ·exact⟨x,by rw[QE _ he];exact hx⟩
  own:=by
   intro n p o' l c hl
   rcases L.lab n with e'|⟨_,q,_,_,_,⟨j,t,x,hq,hj⟩,e'⟩
   ·rw[e']at hl
    obtain⟨t,x,hx⟩:=R.own n p o' l c hl
    refine⟨t,x, ?_⟩
    cases p with
    |slot i k j=>exact hx
    |arg j=>exact hx
    |cell b' j=>
     simp only[St.atPlace,List.getD_eq_getElem?_getD]at hx⊢
     by_cases he:b=b'
     ·subst he
      have hout:¬(o<=j/\j<o+new.length):=fun⟨a1,a2⟩=>hn j n o' l c a1 a2 hl
      rw[hb]at hx
      rw[FL _ hb]
      simp only[Option.getD_some]at hx⊢
      rw[<-hx]
      simp only[Cg,List.getElem?_append,List.length_append,List.length_take,List.getElem?_take,List.getElem?_drop]
      have hmin:min o cs.length=o:=by omega
      rw[hmin]
      by_cases hjo:j<o
      ·rw[if_pos (by omega),if_pos hjo,if_pos hjo]
      ·rw[if_neg (by omega)]
       congr 2;omega
     ·rw[QE _ he]
      exact hx
   ·rw[hl]at e';injection e' with e';subst e';subst hq
    refine⟨t,x, ?_⟩
    have hjl:j<new.length:=(List.getElem?_eq_some_iff.1 hj).1
    simp only[St.atPlace,List.getD_eq_getElem?_getD]
    rw[FL _ hb]
    simp only[Option.getD_some,Cg]
    have hmin:(cs.take o).length=o:=by simp;omega
    rw[List.append_assoc,List.getElem?_append_right (by omega),hmin,List.getElem?_append_left (by omega),show o+j-o=j by omega,hj]
    rfl
  uniq:=by
   intro n m p o1 l c o' l' c' a1 a2
   by_cases hp:∃j t x,p=Place.cell b (o+j)/\new[j]?=some (.own t x)
   ·exact L.uniq n m p _ _ _ _ _ _ hp a1 a2
   ·have back:∀n o l c,g'.lab n= .own p o l c->g.lab n= .own p o l c:=by
     intro n o l c h
     rcases L.lab n with e|⟨_,q,o',l',c',hq,e⟩
     ·rw[<-e];exact h
     ·rw[h]at e;injection e with e;subst e;exact(hp hq).elim
    exact R.uniq n m p _ _ _ _ _ _ (back _ _ _ _ a1) (back _ _ _ _ a2)
  uniqB:=by
   intro n b' hl
   rw[L.bx]
   rcases L.lab n with e'|⟨_,q,_,_,_,_,e'⟩
   ·exact R.uniqB n b' (by rw[<-e'];exact hl)
   ·rw[hl]at e';cases e'
  size:=by
   intro n hl
   rw[size_setRow]
   rcases L.lab n with e'|⟨hm,_⟩
   ·exact R.size n (by rw[<-e'];exact hl)
   ·exact F.size n hm
  glob:=by
   intro k cs' hc
   obtain⟨vs',e',fz,k1,k2,k3⟩:=R.glob k cs' hc
   exact⟨vs',e',fz,by rw[(HS.imm k k2).2];exact k1,(HS.imm k k2).1,k3⟩
  kept:={
   os:=R.kept.os
   tape:=R.kept.tape
   output:=R.kept.output
   size:=by rw[size_setRow];exact R.kept.size
   imm:=fun n hn' hl=>by
    obtain⟨k1,k2⟩:=R.kept.imm n hn' hl
    exact⟨(HS.imm n k1).1,by rw[(HS.imm n k1).2];exact k2⟩
   far:=fun n hn' hl=>by
    obtain⟨k1,k2⟩:=R.kept.far n hn' hl
    exact⟨by rw[keep n (by rw[k1];simp)];exact k1,by rw[setRow_other w nb n _ (fun e=>by rw[e,h2]at k1;cases k1)];exact k2⟩
   old:=R.kept.old
   lent:=fun b n hb h=>R.kept.lent b n hb (by rw[<-L.bx];exact h)}}
end
end Go.Vai
