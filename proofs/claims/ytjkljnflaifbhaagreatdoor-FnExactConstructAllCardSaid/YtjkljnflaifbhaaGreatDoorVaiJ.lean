/- No conditions. -/
import Derived.Test.YtjkljnflaifbhaaGreatDoorVaiM
namespace Go.Vai
open Go
section
variable {C:gY} {E:iU} {g:Gh} {st:St} {tm:Array Value} {w:World} {Q:Type}
theorem YW:∀vs:List Val,Xx [] vs=true
 |[]=>rfl
 |x::r=>by simp only[Xx,List.headD_nil,List.tail_nil,YW r,Bool.and_self]
theorem Se:∀(vs:List Val) (j:Nat),km [] j vs=(vs,[])
 |[],_=>rfl
 |x::r,j=>by simp only[km,List.headD_nil,List.tail_nil,Se r]
def Ok:ZA->Nat->Nat->Option Nat
 |[],_,_=>none
 |x::r,k,n=>if x.1=n then some k else Ok r (k+1) n
theorem Dm:∀{bns:ZA} {k n b:Nat},Ok bns k n=some b->∃i mb,b=k+i/\bns[i]?=some (n,mb)
 |[],_,_,_,h=>by cases h
 |x::r,k,n,b,h=>by
  simp only[Ok]at h
  split at h
  ·rename_i e
   cases h
   exact⟨0,x.2,rfl,by rw[<-e];rfl⟩
  ·obtain⟨i,mb,h1,h2⟩:=Dm h
   exact⟨i+1,mb,by omega,by simpa using h2⟩
theorem T8:∀{bns:ZA} {k n:Nat},Ok bns k n=none->∀x,x∈bns->x.1≠n
 |[],_,_,_,x,hx=>(List.not_mem_nil hx).elim
 |y::r,k,n,h,x,hx=>by
  simp only[Ok]at h
  split at h
  ·cases h
  ·rename_i hy
   rcases List.mem_cons.1 hx with rfl|hx
   ·exact hy
   ·exact T8 h x hx
theorem aat:∀{bns:ZA},(Od bns).Nodup->∀(i j:Nat) x y,bns[i]?=some x->bns[j]?=some y->x.1=y.1->i=j
 |[],_,i,j,x,y,h,_,_=>by simp at h
 |z::r,hd,i,j,x,y,h1,h2,he=>by
  simp only[Od,List.nodup_cons,List.mem_append,not_or]at hd
  have hno:∀(k:Nat) u,r[k]?=some u->u.1≠z.1:=fun k u hu e=>hd.1.2 (FK.2 ⟨u,List.mem_of_getElem? hu, .inl e.symm⟩)
  cases i with
  |zero=>
   cases j with
   |zero=>rfl
   |succ j=>simp at h1 h2;subst h1;exact absurd he.symm (hno j y h2)
  |succ i=>
   cases j with
   |zero=>simp at h1 h2;subst h2;exact absurd he (hno i x h1)
   |succ j=>rw[aat (List.nodup_append.1 hd.2).2.1 i j x y (by simpa using h1) (by simpa using h2) he]
theorem U8:∀(bs:List (List CV)) (s:List AV) (io:List CV) (P:List Box) (n:Nat),P.length=n->
 (⟨s,P++bs.map (fun b=>some (false,List.replicate b.length .undef)),io⟩:St).refill (mg n bs.length) bs=⟨s,P++bs.map (fun b=>some (false,b)),io⟩
 |[],s,io,P,n,h=>by simp[mg,St.refill]
 |b::r,s,io,P,n,h=>by
  simp only[mg,List.length_cons,St.refill,List.map_cons]
  have e:(P++some (false,List.replicate b.length CV.undef)::r.map (fun b=>some (false,List.replicate b.length CV.undef))).set n (some (false,b))=
   (P++ [some (false,b)])++r.map (fun b=>some (false,List.replicate b.length CV.undef)):=by
   rw[List.set_append_right _ _ (by omega),h,Nat.sub_self,List.set_cons_zero,List.append_assoc];rfl
  rw[e,U8 r s io (P++ [some (false,b)]) (n+1) (by simp[h]),List.append_assoc];rfl
theorem A8:∀(k n i:Nat),(mg n k)[i]?=if i<k then some (n+i)else none
 |0,n,i=>by simp[mg]
 |k+1,n,0=>by simp[mg]
 |k+1,n,i+1=>by
  simp only[mg,List.getElem?_cons_succ]
  rw[A8 k (n+1) i]
  by_cases h:i<k
  ·rw[if_pos h,if_pos (by omega),show n+1+i=n+(i+1) by omega]
  ·rw[if_neg h,if_neg (by omega)]
theorem VV{k n b:Nat}(h:b∈mg n k):∃i,i<k/\b=n+i:=by
 obtain⟨i,hi⟩:=List.getElem?_of_mem h
 rw[A8]at hi
 split at hi
 ·rename_i hk;cases hi;exact⟨i,hk,rfl⟩
 ·cases hi
theorem Eg:∀(k n:Nat),mV (mg n k)=true
 |0,_=>rfl
 |k+1,n=>by
  simp only[mg,mV,Bool.and_eq_true,Bool.not_eq_true',List.contains_eq_mem,decide_eq_false_iff_not]
  refine⟨fun h=> ?_,Eg k (n+1)⟩
  obtain⟨i,_,e⟩:=VV h
  omega
theorem At:∀(k n:Nat),(mg n k).length=k
 |0,_=>rfl
 |k+1,n=>by simp[mg,At k]
theorem WK{g0 g:Gh}(hI:∀n,g0.lab n= .imm->g.lab n= .imm):∀(bs:List (List CV)) (bns:ZA),bns.length=bs.length->
 (∀(k:Nat) cs n mb,bs[k]?=some cs->bns[k]?=some (n,mb)->∃arr e,w.heap[n]?=some (.cells arr e (0,0))/\cs.all CV.isFlat=true/\Tu g0 w cs arr.toList mb)->
 E2 g w (bns.map Prod.fst) bs (bns.flatMap Prod.snd)
 |[],[],_,_=>⟨rfl,rfl⟩
 |[],_::_,h,_=>by cases h
 |_::_,[],h,_=>by cases h
 |cs::bs,(n,mb)::bns,hl,H=>by
  obtain⟨arr,e,h1,h2,h3⟩:=H 0 cs n mb rfl rfl
  exact⟨cs,bs,arr,e,mb,bns.flatMap Prod.snd,rfl,rfl,h1,h2,h3.imp (fun c v m hf _ h=>h.mono' (fun n hn=>⟨hI n hn,rfl⟩) (fun b hb=>rfl) hf) h2,
   WK hI bs bns (by simpa using hl) (fun k cs n mb hk hk'=>H (k+1) cs n mb (by simpa using hk) (by simpa using hk'))⟩
theorem IM:∀{bns:ZA} {n:Nat},n∈aj (bns.flatMap Prod.snd)->∃x,x∈bns/\n∈aj x.2
 |[],n,h=>(List.not_mem_nil h).elim
 |x::r,n,h=>by
  simp only[List.flatMap_cons,cJ,List.mem_append]at h
  rcases h with h|h
  ·exact⟨x,by simp,h⟩
  ·obtain⟨y,h1,h2⟩:=IM h
   exact⟨y,by simp[h1],h2⟩
theorem HZ:∀{bns:ZA},(Od bns).Nodup->(aj (bns.flatMap Prod.snd)).Nodup/\∀x,x∈bns->x.1∉aj (bns.flatMap Prod.snd)
 |[],_=>⟨List.nodup_nil,fun _ h=>(List.not_mem_nil h).elim⟩
 |x::r,hd=>by
  simp only[Od,List.nodup_cons,List.mem_append,not_or]at hd
  obtain⟨⟨h1,h2⟩,h3⟩:=hd
  obtain⟨h4,h5,h6⟩:=List.nodup_append.1 h3
  obtain⟨k1,k2⟩:=HZ h5
  have sub:∀n,n∈aj (r.flatMap Prod.snd)->n∈Od r:=fun n hn=>by
   obtain⟨y,hy,hn⟩:=IM hn
   exact FK.2 ⟨y,hy, .inr hn⟩
  simp only[List.flatMap_cons,cJ]
  refine⟨List.nodup_append.2 ⟨h4,k1,fun a ha b hb=>h6 a ha b (sub b hb)⟩,fun y hy=> ?_⟩
  simp only[List.mem_append,not_or]
  rcases List.mem_cons.1 hy with rfl|hy
  ·exact⟨h1,fun h=>h2 (sub _ h)⟩
  ·exact⟨fun h=>h6 _ h _ (FK.2 ⟨y,hy, .inl rfl⟩) rfl,k2 y hy⟩
theorem abt{g0:Gh}{bs:List (List CV)}{vs:List Val}{args:List Value}{bns:ZA}(hP:Lj C g0 w bs vs args bns){f:Func}(hn:vs.length<=f.ntmps):
 ∃g,dG C ⟨w,g0.lab,[],f.ntmps,f.ntmps+bs.length,(g0.shift f.ntmps).bx⟩ g (Lq f bs vs) (args.toArray++Array.replicate (f.ntmps-args.toArray.size) undef) w:=by
 have noOwn:∀n p o l c,g0.lab n≠ .own p o l c:=by
  intro n p o l c e
  rcases Nat.lt_or_ge n w.heap.size with h|h
  ·rcases hP.old n h with h|h|⟨h,_⟩<;>rw[e]at h<;>cases h
  ·rw[hP.new n h]at e;cases e
 have noBox:∀n b,g0.lab n≠ .box b:=by
  intro n b e
  rcases Nat.lt_or_ge n w.heap.size with h|h
  ·rcases hP.old n h with h|h|⟨h,_⟩<;>rw[e]at h<;>cases h
  ·rw[hP.new n h]at e;cases e
 obtain⟨ms,hms,hV⟩:=hP.vals
 obtain⟨g1,L,hlen,hsl,_⟩:=OS [] vs 0 0 args ms g0 (YW vs) hV (by rw[hms];exact dF.nil) (fun n o l c i' k x _=>noOwn n _ o l c) (fun n o l c j' _=>noOwn n _ o l c)
 rw[hms]at L
 have hg1:g1=g0:=by
  obtain⟨lab1,bx1⟩:=g1
  obtain⟨lab0,bx0⟩:=g0
  have h1:lab1=lab0:=by
   funext n
   rcases L.lab n with e|⟨h,_⟩
   ·exact e
   ·exact(List.not_mem_nil h).elim
  have h2:bx1=bx0:=L.bx
  rw[h1,h2]
 subst hg1
 rw[Se]at hsl
 have hal:=hV.length
 have hjunk:∀i n mb,bns[i]?=some (n,mb)->g1.lab n= .junk/\n<w.heap.size:=fun i n mb hi=>by
  have:n∈Od bns:=FK.2 ⟨(n,mb),List.mem_of_getElem? hi, .inl rfl⟩
  exact⟨hP.free.junk n this,hP.free.size n this⟩
 let gb:Gh:=⟨fun n=>match Ok bns f.ntmps n with|some b=>.box b|none=>g1.lab n,g1.bx⟩
 have gbl:∀n,(∃b,Ok bns f.ntmps n=some b/\gb.lab n= .box b)\/(Ok bns f.ntmps n=none/\gb.lab n=g1.lab n):=fun n=>by
  simp only[gb]
  cases Ok bns f.ntmps n with
  |some b=>exact .inl ⟨b,rfl,rfl⟩
  |none=>exact .inr ⟨rfl,rfl⟩
 have keep:∀n,g1.lab n≠ .junk->gb.lab n=g1.lab n:=fun n hn=>by
  rcases gbl n with⟨b,h,_⟩|⟨_,h⟩
  ·obtain⟨i,mb,_,hi⟩:=Dm h
   exact absurd (hjunk i n mb hi).1 hn
  ·exact h
 have H:gM (fun _=>True) (fun _=>True) g1 gb w w:={
  imm:=fun n hn=>⟨by rw[keep n (by rw[hn];simp)];exact hn,rfl⟩
  own:=fun n q o l c _ hn=>absurd hn (noOwn n q o l c)
  bx:=fun _ _ _ h=>h}
 have back:∀n p o l c,(gb.shift f.ntmps).lab n= .own p o l c->False:=fun n p o l c e=>by
  have e:gb.lab n= .own p o l c:=e
  rcases gbl n with⟨b,_,h⟩|⟨_,h⟩
  ·rw[h]at e;cases e
  ·rw[h]at e;exact noOwn n p o l c e
 have hbase:dG C ⟨w,g1.lab,[],f.ntmps,f.ntmps+bs.length,(g1.shift f.ntmps).bx⟩ (gb.shift f.ntmps)
  ⟨(Lq f bs vs).slots,List.replicate f.ntmps none++bs.map (fun b=>some (false,List.replicate b.length .undef)),[]⟩ (args.toArray++Array.replicate (f.ntmps-args.toArray.size) undef) w:={
  len:=by simp[Lq,hal]
  lenN:=by simp[Lq];omega
  lenB:=by simp
  io:=rfl
  slots:=by
   intro i a hi
   simp only[Lq]at hi
   by_cases hlt:i<vs.length
   ·rw[List.getElem?_append_left (by simpa using hlt),List.getElem?_map]at hi
    cases hx:vs[i]? with
    |none=>rw[hx]at hi;cases hi
    |some x=>
     rw[hx]at hi
     cases hi
     obtain⟨v,hv,hr⟩:=hsl i x hx
     rw[Nat.zero_add]at hr
     refine⟨v, ?_,yG.imp _ (fun j c v h=>h.shift) (hr.mono H)⟩
     rw[Array.getElem?_append_left (by simp;omega)]
     simpa using hv
   ·rw[List.getElem?_append_right (by simp;omega),List.getElem?_replicate]at hi
    split at hi
    ·rename_i hlt2
     cases hi
     refine⟨undef, ?_,undef,[],rfl,trivial,rfl⟩
     simp only[List.length_map]at hlt2
     rw[Array.getElem?_append_right (by simp;omega)]
     simp only[List.size_toArray]
     rw[Array.getElem?_replicate,if_pos (by omega)]
    ·cases hi
  boxes:=by
   intro b ro cs hb
   by_cases hlt:b<f.ntmps
   ·rw[List.getElem?_append_left (by simpa using hlt),List.getElem?_replicate,if_pos hlt]at hb
    cases hb
   ·rw[List.getElem?_append_right (by simp;omega),List.getElem?_map,List.length_replicate]at hb
    cases hx:bs[b-f.ntmps]? with
    |none=>rw[hx]at hb;cases hb
    |some cs'=>
     rw[hx]at hb
     simp only[Option.map_some,Option.some.injEq,Prod.mk.injEq]at hb
     obtain⟨rfl,rfl⟩:=hb
     have hk:b-f.ntmps<bns.length:=by rw[hP.len];exact(List.getElem?_eq_some_iff.1 hx).1
     rcases hnm:bns[b-f.ntmps]with⟨n,mb⟩
     have hnm':bns[b-f.ntmps]?=some (n,mb):=by rw[List.getElem?_eq_getElem hk,hnm]
     obtain⟨arr,e,h1,h2,h3,h4⟩:=hP.boxes _ _ n mb hx hnm'
     refine⟨n,arr,e,(0,0), ?_, ?_,h2,fun _=>rfl, ?_⟩
     ·simp only[Gh.shift];rw[if_neg hlt];exact h1
     ·show gb.lab n= .box b
      rcases gbl n with⟨b',h,h'⟩|⟨h,_⟩
      ·rw[h']
       obtain⟨i,mb',rfl,hi⟩:=Dm h
       have:=aat hP.free.nodup i (b-f.ntmps) _ _ hi hnm' rfl
       rw[this,show f.ntmps+(b-f.ntmps)=b by omega]
      ·exact absurd rfl (T8 h _ (List.mem_of_getElem? hnm'))
     ·rw[show cs'.length=arr.toList.length from(h4.fs h3).length]
      exact cA.undefs _ _
  bx:=by
   intro b n hb
   simp only[Gh.shift]at hb
   split at hb
   ·cases hb
   ·rename_i hlt
    have hk:=hP.bxs _ _ hb
    refine⟨(false,List.replicate bs[b-f.ntmps].length .undef), ?_⟩
    rw[List.getElem?_append_right (by simp;omega),List.getElem?_map,List.length_replicate,List.getElem?_eq_getElem hk]
    rfl
  own:=fun n p o l c hl=>(back n p o l c hl).elim
  uniq:=fun n m p o l c o' l' c' h1 _=>(back n p o l c h1).elim
  uniqB:=by
   intro n b hl
   have hl:gb.lab n= .box b:=hl
   rcases gbl n with⟨b',h,h'⟩|⟨_,h⟩
   ·rw[h']at hl
    cases hl
    obtain⟨i,mb,rfl,hi⟩:=Dm h
    have hk:i<bs.length:=by rw[<-hP.len];exact(List.getElem?_eq_some_iff.1 hi).1
    obtain⟨arr,e,h1,_⟩:=hP.boxes i _ n mb (List.getElem?_eq_getElem hk) hi
    simp only[Gh.shift]
    rw[if_neg (by omega),Nat.add_sub_cancel_left]
    exact h1
   ·rw[h]at hl;exact absurd hl (noBox n b)
  size:=by
   intro n hl
   have hl:gb.lab n≠ .junk:=hl
   rcases gbl n with⟨b',h,_⟩|⟨_,h⟩
   ·obtain⟨i,mb,_,hi⟩:=Dm h
    exact(hjunk i n mb hi).2
   ·rw[h]at hl
    rcases Nat.lt_or_ge n w.heap.size with h'|h'
    ·exact h'
    ·exact absurd (hP.new n h') hl
  glob:=by
   intro k cs hc
   obtain⟨vs',e,fz,h1,h2,h3⟩:=hP.glob k cs hc
   exact⟨vs',e,fz,h1,(H.imm k h2).1,h3⟩
  kept:={
   os:=rfl
   tape:=rfl
   output:=rfl
   size:=Nat.le_refl _
   imm:=fun n _ hl=>⟨(H.imm n hl).1,rfl⟩
   far:=fun n _ hl=>⟨(keep n (by rw[show g1.lab n=_ from hl];simp)).trans hl,rfl⟩
   old:=fun n hn=>(hP.old n hn).imp id (fun h=>h.imp id And.left)
   lent:=fun b n _ h=>h}}
 have hrw:=WK (w:=w) (g0:=g1) (g:=gb.shift f.ntmps) (fun n hn=>(H.imm n hn).1) bs bns hP.len (fun k cs n mb hk hk'=>by
  obtain⟨arr,e,_,h2,h3,h4⟩:=hP.boxes k cs n mb hk hk'
  exact⟨arr,e,h2,h3,h4⟩)
 obtain⟨hnd1,hnd2⟩:=HZ hP.free.nodup
 obtain⟨g2,R2,_,_⟩:=Q9 (mg f.ntmps bs.length) (bns.map Prod.fst) bs (bns.flatMap Prod.snd) [] _ _ hbase (Eg _ _) (by rw[At,List.length_map,hP.len])
  (fun k b n hk hk'=>by
    rw[A8]at hk
    split at hk
    ·rename_i hlt
     cases hk
     rw[List.getElem?_map]at hk'
     cases hx:bns[k]? with
     |none=>rw[hx]at hk';cases hk'
     |some x=>
      rw[hx]at hk'
      cases hk'
      obtain⟨n,mb⟩:=x
      obtain⟨arr,e,h1,_⟩:=hP.boxes k _ n mb (List.getElem?_eq_getElem hlt) hx
      refine⟨?_,List.replicate bs[k].length .undef, ?_⟩
      ·simp only[Gh.shift]
       rw[if_neg (by omega),Nat.add_sub_cancel_left]
       exact h1
      ·rw[List.getElem?_append_right (by simp),List.getElem?_map,List.length_replicate,Nat.add_sub_cancel_left,List.getElem?_eq_getElem hlt];rfl
    ·cases hk)
  (fun b _ m j o l c e=>back m _ o l c e) hrw
  (by
    rw[List.append_nil]
    refine⟨hnd1,fun n hn=> ?_,fun n hn=> ?_⟩
    ·obtain⟨x,hx,hm⟩:=IM hn
     show gb.lab n= .junk
     rcases gbl n with⟨b,h,_⟩|⟨_,h⟩
     ·obtain⟨i,mb,_,hi⟩:=Dm h
      exact absurd hn (hnd2 _ (List.mem_of_getElem? hi))
     ·rw[h];exact hP.free.junk n (FK.2 ⟨x,hx, .inr hm⟩)
    ·obtain⟨x,hx,hm⟩:=IM hn
     exact hP.free.size n (FK.2 ⟨x,hx, .inr hm⟩))
 refine⟨g2, ?_⟩
 rw[U8 bs _ _ _ _ (by simp)]at R2
 exact R2
theorem aaR:∀(bl:List Nat) (ns:List Nat) (g:Gh) (st:St) (css:List (List CV)),dG C E g st tm w->adZ bl st=some css->ns.length=bl.length->
 (∀(k b n:Nat),bl[k]?=some b->ns[k]?=some n->E.n<=b/\E.bx b=some n)->
 ∃g' rms,E2 g' w ns css rms/\dF g' w (aj rms)/\wn g g' (aj rms)/\Kept E g' w/\(∀n,g'.lab n≠ .junk->n<w.heap.size)/\∀n,n∈ns->∃b,g'.lab n= .box b
 |[],[],g,st,css,R,h,_,_=>by
  cases h
  exact⟨g,[],⟨rfl,rfl⟩,dF.nil,⟨rfl,fun _=>.inl rfl,fun _ h=>(List.not_mem_nil h).elim⟩,R.kept,R.size,fun _ h=>(List.not_mem_nil h).elim⟩
 |[],_::_,_,_,_,_,_,hl,_=>by cases hl
 |_::_,[],_,_,_,_,_,hl,_=>by cases hl
 |b::bl,n::ns,g,st,css,R,h,hl,hb=>by
  simp only[adZ]at h
  split at h
  ·rename_i cs hbx
   rw[Option.map_eq_some_iff]at h
   obtain⟨css',h,rfl⟩:=h
   obtain⟨m,arr,e,g1,ms,h1,h2,h3,h4,h5,R1,F1,Fr1,L1⟩:=aaV R hbx
   obtain⟨hbn,hEb⟩:=hb 0 b n rfl rfl
   have:=R.kept.lent b m hbn h1
   rw[hEb]at this
   cases this
   obtain⟨g2,rms,k1,k2,k3,k4,k5,k6⟩:=aaR bl ns g1 _ css' R1 h (by simpa using hl) (fun k b' n' hk hk'=>hb (k+1) b' n' (by simpa using hk) (by simpa using hk'))
   refine⟨g2,ms++rms,⟨_,css',arr,e,ms,rms,rfl,rfl,h5,Ey _,F1.imp (fun c v m hf _ h=>h.flat k3.drops.imm hf) (Ey _),k1⟩, ?_, ?_,k4,k5, ?_⟩
   ·rw[cJ];exact Fr1.two k2 k3
   ·rw[cJ];exact L1.trans k3
   ·intro n' hn'
    rcases List.mem_cons.1 hn' with rfl|hn'
    ·refine⟨b, ?_⟩
     rcases k3.lab n' with e'|⟨_,_,_,_,e',_⟩
     ·exact e'.trans h3
     ·rw[h3]at e';cases e'
    ·exact k6 n' hn'
  ·cases h
theorem ZZ{a:Act}(R:dG C E g st a.tmps w){fn:Func}{nb:Nat}{ns:List Nat}{k:AV->List (List CV)->Option Q}{r:Q}(h:Oy C fn nb st k=some r)(hl:ns.length=nb)
 (hb:∀(i n:Nat),ns[i]?=some n->E.n<=fn.ntmps+i/\E.bx (fn.ntmps+i)=some n):
 ∃av css v g' ms rms,k av css=some r/\(results fn a.tmps).run C.P w= .ok v w/\LB g' w av v ms/\E2 g' w ns css rms/\dF g' w (aj rms++aj ms)/\Kept E g' w/\(∀n,g'.lab n≠ .junk->n<w.heap.size)/\
  ∀n,n∈ns->∃b,g'.lab n= .box b:=by
 unfold Oy at h
 split at h
 ·rename_i l st1 hr
  split at h
  ·rename_i css hc
   obtain⟨vals,ms,g1,h1,R1,F1,Fr1,L1,hla⟩:=NO _ g st l st1 R hr
   obtain⟨g2,rms,k1,k2,k3,k4,k5,k6⟩:=aaR _ ns g1 st1 css R1 hc (by rw[At];exact hl) (fun i b n hi hi'=>by
    rw[A8]at hi
    split at hi
    ·cases hi;exact hb i n hi'
    ·cases hi)
   refine⟨_,css,_,g2,ms,rms,h,R7 h1,WV (sR.imp' (P:=CV.isFlatN) (fun c v m hc h=>cC.flat k3.drops.imm hc h) hla F1),k1, ?_,k4,k5,k6⟩
   have:=Fr1.two k2 k3
   exact⟨List.nodup_append.2 ⟨k2.nodup,Fr1.nodup,fun a ha b hb e=>(List.nodup_append.1 this.nodup).2.2 b hb a ha e.symm⟩,
    fun b hb=>this.junk b (List.mem_append.2 ((List.mem_append.1 hb).symm)),fun b hb=>this.size b (List.mem_append.2 ((List.mem_append.1 hb).symm))⟩
  ·cases h
 ·cases h
theorem ag.of_runB{fid:FuncId}{f:Func}{code:Code}{c:af}(hf:C.P.funcs[fid]?=some f)(hb:f.body=some code)(hname:(f.name== "runtime.NumGoroutine")=false)(hrw:c.rw=true)
 (hm:C.P.follows .mixedOrders=true) (hS:∀f c,C.ρ f=some c->ag C f c)
 (hrun:∀bs vs x,c.G bs vs=some x->∃(h:fq (AV×List (List CV))) (fuel:Nat),ak C ⟨f.ntmps,f.ntmps+bs.length⟩ h fuel (ca code)/\
   ac4 C h fuel f bs vs (fun a css=>some (a,css))=some ((c.enc x).1,c.encB x)):
 ag C fid c:=by
 refine TS.s hrw ⟨⟨f,code,hf,hb,hname⟩,fun g0 w bs vs args bns x hP hG=> ?_⟩
 obtain⟨h,fuel,hH,hr⟩:=hrun bs vs x hG
 unfold ac4 at hr
 rw[hb]at hr
 simp only at hr
 split at hr
 ·rename_i hcond
  obtain⟨g,R⟩:=abt hP hcond
  refine calls_of_wp hf hb (Qp (E:=⟨w,g0.lab,[],f.ntmps,f.ntmps+bs.length,(g0.shift f.ntmps).bx⟩) (D:=[]) rfl hm hS code hH _ _ g _ _ w hr R rfl ?_)
  have Sm:∀g st (a:Act) w',Oy C f bs.length st (fun a css=>some (a,css))=some ((c.enc x).1,c.encB x)->dG C ⟨w,g0.lab,[],f.ntmps,f.ntmps+bs.length,(g0.shift f.ntmps).bx⟩ g st a.tmps w'->a.defers=[]->
   a.defers=[]/\∃v,(results f a.tmps).run C.P w'= .ok v w'/\∃v',Ending.returned v= .returned v'/\afs g0 w bns (c.encB x) (c.enc x).1 v' w':=by
   intro g st a w' hfin R hD
   obtain⟨av,css,v,g',ms',rms,h1,h2,h3,h4,h5,h6,h7,h8⟩:=ZZ R (ns:=bns.map Prod.fst) hfin (by rw[List.length_map,hP.len]) (fun i n hi=>by
    refine⟨Nat.le_add_right _ _, ?_⟩
    rw[List.getElem?_map]at hi
    cases hx:bns[i]? with
    |none=>rw[hx]at hi;cases hi
    |some y=>
     rw[hx]at hi
     cases hi
     obtain⟨n,mb⟩:=y
     have hk:i<bs.length:=by rw[<-hP.len];exact(List.getElem?_eq_some_iff.1 hx).1
     obtain⟨arr,e,k1,_⟩:=hP.boxes i _ n mb (List.getElem?_eq_getElem hk) hx
     simp only[Gh.shift]
     rw[if_neg (by omega),Nat.add_sub_cancel_left]
     exact k1)
   simp only[Option.some.injEq,Prod.mk.injEq]at h1
   obtain⟨e1,e2⟩:=h1
   refine⟨hD,v,h2,v,rfl,g',ms',rms,by rw[<-e1];exact h3,by rw[<-e2];exact h4,h5, ?_, ?_,h6.os,h6.tape,h6.output,h6.size, ?_, ?_,fun n hn=>h7 n (by rw[hn];simp)⟩
   ·intro b hb
    rcases Nat.lt_or_ge b w.heap.size with hlt|hge
    ·right
     have hj:=h5.junk b hb
     rcases hP.old b hlt with h|h|h
     ·rw[(h6.imm b hlt h).1]at hj;cases hj
     ·rw[(h6.far b hlt h).1]at hj;cases hj
     ·exact h.2
    ·exact .inl hge
   ·intro y hy
    obtain⟨b,hb⟩:=h8 y.1 (List.mem_map_of_mem hy)
    rw[hb];simp
   ·intro n hlt hn
    rcases hP.old n hlt with h|h|h
    ·exact(h6.imm n hlt h).2
    ·exact(h6.far n hlt h).2
    ·exact absurd h.2 hn
   ·intro n hlt hn
    rcases hP.old n hlt with h|h|h
    ·exact .inl h
    ·have:=(h6.far n hlt h).1;rw[hn]at this;cases this
    ·exact .inr h.2
  intro e g st a w' hk R' hD'
  cases e with
  |normal=>exact Sm g st a w' hk R' hD'
  |ret=>exact Sm g st a w' hk R' hD'
  |exit id=>cases hk
 ·cases hr
end
abbrev RvB:=AV×List (List CV)
abbrev KB:AV->List (List CV)->Option RvB:=fun a css=>some (a,css)
def af.fb(as:List AX)(β:Type)(g:zY as->Option β)(enc:β->AV×List (List CV))(alt:{R:Type}->β->(β->Option R)->Option R:=fun x k=>k x)(altOk:∀{R:Type} (x:β) (k:β->Option R),alt x k=k x:=by intros;rfl):af:=
 {io:=[],rw:=true,β:=β,G:=fun bs vs=>(jB as 0 bs vs).bind g,enc:=fun b=>((enc b).1,[]),encB:=fun b=>(enc b).2,alt:=alt,altOk:=altOk}
theorem ag.fb{C:gY}{t:List (FuncId×af)}{e:Bool}(hT:qd C t)(hm:C.P.follows .mixedOrders=true){fid:FuncId}{f:Func}(hf:C.P.funcs[fid]?=some f)(hb:f.body.isSome=true)
 (hname:(f.name== "runtime.NumGoroutine")=false) {as:List AX} {β:Type} {g:zY as->Option β} {enc:β->AV×List (List CV)} {alt:{R:Type}->β->(β->Option R)->Option R} {altOk:∀{R:Type} (x:β) (k:β->Option R),alt x k=k x} (h:fq RvB) (fuel:Nat)
 (hH:ak (gN C t e) ⟨f.ntmps,f.ntmps+Jt as⟩ h fuel (ca (aX f)))
 (hrun:∀z,ac4 (gN C t e) h fuel f (qP as z) (wu as 0 z) KB=(g z).bind fun b=>some (enc b)):ag C fid (af.fb as β g enc @alt @altOk):=by
 have hb:f.body=some (aX f):=by
  unfold aX
  cases h:f.body with
  |none=>rw[h]at hb;cases hb
  |some c=>rfl
 refine ag.ctx (C:=gN C t e) (C':=C) rfl rfl (ag.of_runB (C:=gN C t e) hf hb hname rfl hm hT.rho ?_)
 intro bs vs (x:β) hG
 have hG:(jB as 0 bs vs).bind g=some x:=hG
 rw[Option.bind_eq_some_iff]at hG
 obtain⟨z,hz,hx⟩:=hG
 obtain⟨rfl,rfl⟩:=oR hz
 refine⟨h,fuel,by rw[jA];exact hH, ?_⟩
 have:=hrun z
 rw[hx]at this
 exact this
end Go.Vai
