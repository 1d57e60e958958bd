/- No conditions. -/
import Derived.Test.YtjkljnflaifbhaaGreatDoorVai16
namespace Go.Vai
open Go
theorem Bc{α:Type}:∀(s:List Nat) (xs l:List α),(GA s xs l).length=l.length
 |[],_,_=>by simp[GA]
 |_::_,[],_=>by simp[GA]
 |i::r,x::xs,l=>by simp[GA,Bc r xs]
theorem NQ{α:Type}(f:Nat->α):∀(s:List Nat) (l:List α) (i:Nat),(GA s (s.map f) l)[i]?=if i∈s/\i<l.length then some (f i)else l[i]?
 |[],l,i=>by simp[GA]
 |j::r,l,i=>by
  simp only[List.map_cons,GA]
  rw[NQ f r (l.set j (f j)) i]
  simp only[List.length_set,List.mem_cons]
  by_cases hl:i<l.length
  ·by_cases hr:i∈r
   ·simp[hr,hl]
   ·by_cases hj:i=j
    ·subst hj
     simp[hr,hl]
    ·simp only[hr,hj,hl,false_and,or_self,if_false]
     rw[List.getElem?_set_ne (fun e=>hj e.symm)]
  ·simp only[hl,and_false,if_false]
   rw[List.getElem?_eq_none (by simp;omega),List.getElem?_eq_none (by omega)]
section
variable {C:gY} {E:iU} {g:Gh} {st:St} {tm:Array Value} {w:World} {Q:Type}
theorem uu.impS{g g':Gh}{w w':World}{i:Nat}(f:CV->CV):
 ∀{l:List Val} {k:Nat} {vs:List Value},(∀k j c v,cu g w (.slot i k j) c v->cu g' w' (.slot i k j) (f c) v)->uu g w i k l vs->uu g' w' i k (l.map (Val.map f)) vs
 |[],_,_,_,h=>h
 |_::_,k,_,H,h=>by
  obtain⟨v,vs',hv,h1,h2⟩:=h
  exact⟨v,vs',hv,yG.imp f (fun j c v=>H k j c v) h1,uu.impS f H h2⟩
theorem yM.impS{g g':Gh}{w w':World}{i:Nat}(f:CV->CV){a:AV}{v:Value}
 (H:∀k j c v,cu g w (.slot i k j) c v->cu g' w' (.slot i k j) (f c) v) (h:yM g w i a v):yM g' w' i (a.map f) v:=by
 cases a with
 |one x=>exact yG.imp f (fun j c v=>H 0 j c v) h
 |tup l=>obtain⟨vs,hv,h⟩:=h;exact⟨vs,hv,uu.impS f H h⟩
def Gh.keep(g:Gh)(s b:List Nat):Gh:=
 ⟨fun n=>match g.lab n with
   | .own p o l c=>match p.lives s b with
     |true=>.own p o l c
     |false=>.junk
   | .box i=>match b.contains i with
     |true=>.box i
     |false=>.junk
   |x=>x,fun i=>match b.contains i with
    |true=>g.bx i
    |false=>none⟩
theorem Gh.keep_imm{s b:List Nat}{n:Nat}(h:g.lab n= .imm):(g.keep s b).lab n= .imm:=by simp only[Gh.keep,h]
theorem Gh.keep_far{s b:List Nat}{n:Nat}(h:g.lab n= .far):(g.keep s b).lab n= .far:=by simp only[Gh.keep,h]
theorem Gh.keep_own{s b:List Nat}{n:Nat}{p o l c}(hp:p.lives s b=true)(h:g.lab n= .own p o l c):(g.keep s b).lab n= .own p o l c:=by simp only[Gh.keep,h,hp]
theorem Gh.keep_box{s b:List Nat}{n i:Nat}(hp:b.contains i=true)(h:g.lab n= .box i):(g.keep s b).lab n= .box i:=by simp only[Gh.keep,h,hp]
theorem Gh.keep_back{s b:List Nat}{n:Nat}:(g.keep s b).lab n= .junk\/(g.keep s b).lab n=g.lab n:=by
 simp only[Gh.keep]
 cases h:g.lab n with
 |own p o l c=>cases hp:p.lives s b<;>simp[hp]
 |box i=>
  cases hp:b.contains i with
  |true=>exact .inr (by simp only[hp])
  |false=>exact .inl (by simp only[hp])
 |_=>simp
theorem Gh.keep_ownBack{s b:List Nat}{n:Nat}{p o l c}(h:(g.keep s b).lab n= .own p o l c):p.lives s b=true/\g.lab n= .own p o l c:=by
 rcases Gh.keep_back (g:=g) (s:=s) (b:=b) (n:=n)with e|e
 ·rw[h]at e;cases e
 ·rw[h]at e
  refine⟨?_,e.symm⟩
  cases hp:p.lives s b with
  |true=>rfl
  |false=>
   simp only[Gh.keep,<-e,hp]at h
   cases h
theorem Gh.keep_steps(g:Gh)(s b:List Nat)(w:World):gM (fun p=>p.lives s b=true) (fun i=>b.contains i=true) g (g.keep s b) w w where
 imm:=fun n hn=>⟨Gh.keep_imm hn,rfl⟩
 own:=fun n q o l c hq hn=>⟨Gh.keep_own hq hn,rfl⟩
 bx:=fun i n hi hn=>by simp only[Gh.keep,hi];exact hn
theorem cu.keep{s b:List Nat}{p:Place}{c:CV}{v:Value}(hp:p.lives s b=true)(h:cu g w p c v):cu (g.keep s b) w p (c.keep s b) v:=by
 have H:=g.keep_steps s b w
 cases c with
 |view q f lo t l=>
  simp only[CV.keep]
  cases hq:q.lives s b with
  |true=>rw[if_pos rfl];exact cu.mono H (c:=.view q f lo t l) hq h
  |false=>trivial
 |va q i t x o=>
  simp only[CV.keep]
  cases hq:q.lives s b with
  |true=>rw[if_pos rfl];exact cu.mono H (c:=.va q i t x o) hq h
  |false=>trivial
 |ptr i o=>
  simp only[CV.keep]
  cases hq:b.contains i with
  |true=>rw[if_pos rfl];exact cu.mono H (p:=p) (c:=.ptr i o) hq h
  |false=>trivial
 |fn f caps=>
  simp only[CV.keep]
  cases hq:caps.all fun c=>b.contains c.1 with
  |true=>rw[if_pos rfl];exact cu.mono H (p:=p) (c:=.fn f caps) (fun c hc=>List.all_eq_true.1 hq c hc) h
  |false=>trivial
 |own t l=>exact cu.mono H (c:=.own t l) hp h
 |np cs=>trivial
 |undef=>trivial
 |v x=>exact h
 |emp=>exact h
 |sl t l=>exact cu.mono H (p:=p) (c:=.sl t l) trivial h
 |gp b o=>exact h
 |lb n=>exact h
 |ea t x o=>exact cu.mono H (p:=p) (c:=.ea t x o) trivial h
theorem T7{d:Tt}{s b:List Nat}(i:Nat):(d.back s b (st.live s b)).slots[i]?=if i∈s/\i<d.n then some ((st.get i).map (CV.keep s b))else(if i<d.n then some .undef else none):=by
 simp only[Tt.back,St.live]
 rw[NQ (fun i=>(st.get i).map (CV.keep s b))]
 simp only[List.length_replicate,List.getElem?_replicate]
theorem MY{d:Tt}{s b:List Nat}(i:Nat):(d.back s b (st.live s b)).boxes[i]?=if i∈b/\i<d.m then some ((st.boxes.getD i none).map fun x=>(x.1,x.2.map (CV.keep s b)))else(if i<d.m then some none else none):=by
 simp only[Tt.back,St.live]
 rw[NQ (fun i=>(st.boxes.getD i none).map fun x=>(x.1,x.2.map (CV.keep s b)))]
 simp only[List.length_replicate,List.getElem?_replicate]
theorem cA.keep{s b:List Nat}{p:Nat->Place}{cs:List CV}{i:Nat}{vs:List Value}(hp:∀j,(p j).lives s b=true)(h:cA g w p i cs vs):cA (g.keep s b) w p i (cs.map (CV.keep s b)) vs:=
 cA.imp _ (fun j _ _ h=>h.keep (hp j)) h
theorem Wq{α:Type}{l:List (Option α)}{i:Nat}{x:α}(h:l.getD i none=some x):l[i]?=some (some x):=by
 rw[List.getD_eq_getElem?_getD]at h
 cases hx:l[i]? with
 |none=>rw[hx]at h;cases h
 |some y=>rw[hx]at h;simpa using h
theorem dG.back(R:dG C E g st tm w)(s b:List Nat):dG C E (g.keep s b) ((⟨E.n,E.m⟩:Tt).back s b (st.live s b)) tm w where
 len:=by simp only[Tt.back,Bc,List.length_replicate];rw[<-R.lenN];exact R.len
 lenN:=by simp only[Tt.back,Bc,List.length_replicate]
 lenB:=by simp only[Tt.back,Bc,List.length_replicate]
 io:=cA.keep (fun j=>rfl) R.io
 slots:=by
  intro i a ha
  rw[T7]at ha
  have hi:i<E.n:=by
   split at ha
   ·rename_i h;exact h.2
   ·split at ha
    ·assumption
    ·cases ha
  have hit:i<tm.size:=by rw[<-R.len,R.lenN];exact hi
  refine⟨tm[i],by simp[hit], ?_⟩
  split at ha
  ·rename_i h
   simp only[Option.some.injEq]at ha
   subst ha
   have hv:=R.getD i
   rw[show tm.getD i undef=tm[i] by simp[hit]]at hv
   exact yM.impS _ (fun k j c v hc=>hc.keep (by simp only[Place.lives,List.contains_iff_mem];exact h.1)) hv
  ·try rw[if_pos hi]at ha
   simp only[Option.some.injEq]at ha
   subst ha
   exact⟨_,[],rfl,trivial,rfl⟩
 boxes:=by
  intro i ro cs hb
  rw[MY]at hb
  split at hb
  ·rename_i h
   simp only[Option.some.injEq]at hb
   cases hx:st.boxes.getD i none with
   |none=>rw[hx]at hb;cases hb
   |some x=>
    rw[hx]at hb
    simp only[Option.map_some,Option.some.injEq,Prod.mk.injEq]at hb
    obtain⟨rfl,rfl⟩:=hb
    obtain⟨n,vs,e,fz,h1,h2,h3,h4,h5⟩:=R.boxes i x.1 x.2 (Wq hx)
    have hc:b.contains i=true:=by rw[List.contains_iff_mem];exact h.1
    refine⟨n,vs,e,fz,(g.keep_steps s b w).bx i n hc h1, ?_,h3,h4,h5.keep (fun j=>by simp only[Place.lives];exact hc)⟩
    cases hro:x.1 with
    |true=>rw[hro]at h2;exact Gh.keep_imm h2
    |false=>rw[hro]at h2;exact Gh.keep_box hc h2
  ·split at hb<;>cases hb
 bx:=by
  intro i n hn
  simp only[Gh.keep]at hn
  split at hn
  ·rename_i hc
   obtain⟨x,hx⟩:=R.bx i n hn
   refine⟨(x.1,x.2.map (CV.keep s b)), ?_⟩
   rw[MY,if_pos ⟨List.contains_iff_mem.1 hc,by rw[<-R.lenB];exact(List.getElem?_eq_some_iff.1 hx).1⟩]
   simp only[List.getD_eq_getElem?_getD,hx,Option.getD_some,Option.map_some]
  ·cases hn
 own:=by
  intro n p o l c hl
  obtain⟨hp,hl⟩:=Gh.keep_ownBack hl
  obtain⟨t,x,hx⟩:=R.own n p o l c hl
  refine⟨t,x, ?_⟩
  cases p with
  |slot i k j=>
   have hi:i∈s:=by simpa[Place.lives]using hp
   have hin:i<E.n:=by
    rw[<-R.lenN]
    rcases Nat.lt_or_ge i st.slots.length with h|h
    ·exact h
    ·simp only[St.atPlace,St.get,List.getD_eq_getElem?_getD,List.getElem?_eq_none h,Option.getD_none]at hx
     split at hx
     ·cases j with
      |zero=>cases hx
      |succ j=>simp at hx
     ·cases hx
   have hg:((⟨E.n,E.m⟩:Tt).back s b (st.live s b)).get i=(st.get i).map (CV.keep s b):=by
    have h1:=T7 (st:=st) (d:=⟨E.n,E.m⟩) (s:=s) (b:=b) i
    rw[if_pos ⟨hi,hin⟩]at h1
    rw[St.get,List.getD_eq_getElem?_getD,h1,Option.getD_some]
   simp only[St.atPlace,hg]at hx⊢
   cases hg':st.get i with
   |one y=>
    rw[hg']at hx
    simp only[AV.map,Val.map]at hx⊢
    by_cases hk:k=0
    ·simp only[hk,if_true]at hx⊢
     rw[Fq _ rfl,hx];rfl
    ·simp only[hk,if_false]at hx;cases hx
   |tup l'=>
    rw[hg']at hx
    simp only[AV.map,List.getElem?_map]at hx⊢
    cases hk:l'[k]? with
    |none=>rw[hk]at hx;cases hx
    |some y=>
     rw[hk]at hx
     simp only[Option.map_some,Val.map]at hx⊢
     rw[Fq _ rfl,hx];rfl
  |cell i j=>
   have hi:i∈b:=by simpa[Place.lives]using hp
   simp only[St.atPlace]at hx⊢
   cases hg:st.boxes.getD i none with
   |none=>rw[hg]at hx;cases hx
   |some y=>
    simp only[hg]at hx
    have him:i<E.m:=by rw[<-R.lenB];exact(List.getElem?_eq_some_iff.1 (Wq hg)).1
    have h1:=MY (st:=st) (d:=⟨E.n,E.m⟩) (s:=s) (b:=b) i
    rw[if_pos ⟨hi,him⟩,hg]at h1
    rw[List.getD_eq_getElem?_getD,h1]
    simp only[Option.map_some,Option.getD_some]
    rw[Fq _ rfl,hx];rfl
  |arg j=>
   simp only[St.atPlace]at hx⊢
   simp only[Tt.back,St.live]
   rw[Fq _ rfl,hx];rfl
 uniq:=fun n m p o l c o' l' c' h1 h2=>R.uniq n m p o l c o' l' c' (Gh.keep_ownBack h1).2 (Gh.keep_ownBack h2).2
 uniqB:=by
  intro n i hl
  rcases Gh.keep_back (g:=g) (s:=s) (b:=b) (n:=n)with e|e
  ·rw[hl]at e;cases e
  ·rw[hl]at e
   have hc:b.contains i=true:=by
    cases hc:b.contains i with
    |true=>rfl
    |false=>
     simp only[Gh.keep,<-e,hc]at hl
     cases hl
   exact(g.keep_steps s b w).bx i n hc (R.uniqB n i e.symm)
 size:=by
  intro n hl
  rcases Gh.keep_back (g:=g) (s:=s) (b:=b) (n:=n)with e|e
  ·exact absurd e hl
  ·exact R.size n (by rw[<-e];exact hl)
 glob:=by
  intro k cs hc
  obtain⟨vs,e,fz,h1,h2,h3⟩:=R.glob k cs hc
  exact⟨vs,e,fz,h1,Gh.keep_imm h2,h3⟩
 kept:={
  os:=R.kept.os
  tape:=R.kept.tape
  output:=R.kept.output
  size:=R.kept.size
  imm:=fun n hn hl=>let⟨h1,h2⟩:=R.kept.imm n hn hl;⟨Gh.keep_imm h1,h2⟩
  far:=fun n hn hl=>let⟨h1,h2⟩:=R.kept.far n hn hl;⟨Gh.keep_far h1,h2⟩
  old:=R.kept.old
  lent:=fun i n hi h=>R.kept.lent i n hi (by simp only[Gh.keep]at h;split at h<;>first|exact h|cases h)}
end
end Go.Vai
