/- No conditions. -/
import Derived.Test.YtjkljnflaifbhaaGreatDoorVaiE
namespace Go.Vai
open Go
section
variable {C:gY} {st:St} {Q:Type}
def gup(bl:List Nat)(q:Place)(c:CV):CV:=
 match Place.inBoxes bl q with
 |true=>.undef
 |false=>c.unlend (Place.inBoxes bl)
theorem Hw{p:Nat->Place}{f:Place->CV->CV}:∀{cs:List CV} {i:Nat},(∀j c,c∈cs->f (p j) c=c)->wq p f i cs=cs
 |[],_,_=>rfl
 |c::r,i,h=>by simp only[wq];rw[h i c (by simp),Hw fun j c hc=>h j c (by simp[hc])]
theorem RT{i:Nat}{f:Place->CV->CV}:∀{l:List Val} {k:Nat},(∀k j x c,x∈l->c∈x.cs->f (.slot i k j) c=c)->zq i f k l=l
 |[],_,_=>rfl
 |x::r,k,h=>by
  simp only[zq,Val.mapP]
  rw[Hw (fun j c hc=>h k j x c (by simp) hc),RT fun k j y c hy hc=>h k j y c (by simp[hy]) hc]
structure abX(pl:List Place)(bl:List Nat)(f:Place->CV->CV):Prop where
 undef:∀q,f q .undef= .undef
 slot:∀i k j c,c.stable pl bl=true->f (.slot i k j) c=c
 cell:∀b j c,b∉bl->(c.isOwn||c.stable pl bl)=true->f (.cell b j) c=c
 own:∀q c,(f q c).isOwn=true->c.isOwn=true
theorem acu(pl:List Place)(bl:List Nat):abX pl bl (gup bl):=by
 have un:∀c:CV,c.stable pl bl=true->c.unlend (Place.inBoxes bl)=c:=by
  intro c h
  cases c<;>first|rfl|skip
  all_goals
   simp only[CV.stable,Bool.and_eq_true,Bool.not_eq_true']at h
   simp only[CV.unlend,h.1,Bool.false_eq_true,if_false]
 refine⟨fun q=> ?_,fun i k j c h=>un c h,fun b j c hb h=> ?_,fun q c h=> ?_⟩
 ·unfold gup;split<;>rfl
 ·have hq:Place.inBoxes bl (.cell b j)=false:=by simp[Place.inBoxes,hb]
  unfold gup;rw[hq]
  simp only
  rcases Bool.or_eq_true _ _▸h with h|h
  ·cases c<;>first|rfl|cases h
  ·exact un c h
 ·unfold gup at h
  split at h
  ·cases h
  ·cases c<;>first|exact h|skip
   all_goals
    simp only[CV.unlend]at h
    split at h<;>exact h
theorem Z1{pl:List Place}{bl:List Nat}(hs:pl.all Place.isSlot=true){p:Place}(hp:p∈pl):abX pl bl (CV.frozeOwn p):=by
 have un:∀q c,c.isOwn=false->c.stable pl bl=true->CV.frozeOwn p q c=c:=by
  intro q c ho h
  cases c<;>first|rfl|(cases ho;done)|skip
  all_goals
   simp only[CV.stable,Bool.and_eq_true,Bool.not_eq_true',List.contains_eq_mem,decide_eq_false_iff_not]at h
   rename_i q' _ _ _ _
   have hne:¬q'=p:=fun e=>h.2 (e▸hp)
   simp only[CV.frozeOwn,CV.froze,if_neg hne]
 have hne:pl.isEmpty=false:=by cases pl with|nil=>cases hp|cons _ _=>rfl
 refine⟨fun q=>rfl,fun i k j c h=> ?_,fun b j c hb h=> ?_,fun q c h=> ?_⟩
 ·cases ho:c.isOwn with
  |false=>exact un _ c ho h
  |true=>
   cases c<;>try(cases ho;done)
   simp only[CV.stable,hne]at h
   cases h
 ·cases ho:c.isOwn with
  |false=>rw[ho,Bool.false_or]at h;exact un _ c ho h
  |true=>
   cases c<;>try(cases ho;done)
   have hq:¬(Place.cell b j)=p:=fun e=>by
    have:=List.all_eq_true.1 hs p hp
    rw[<-e]at this;cases this
   simp only[CV.frozeOwn,if_neg hq]
 ·cases c<;>first|rfl|exact h|skip
  all_goals
   simp only[CV.frozeOwn,CV.froze]at h
   split at h<;>exact h
section mild
variable {pl:List Place} {bl:List Nat} {f:Place->CV->CV} (M:abX pl bl f)
include M
theorem RR{a:AV}{d:Nat}(h:a.all (CV.stable pl bl)=true):a.mapP d f=a:=by
 cases a with
 |one x=>
  simp only[AV.all,List.all_eq_true]at h
  simp only[AV.mapP,Val.mapP]
  rw[Hw fun j c hc=>M.slot _ _ _ c (h c hc)]
 |tup l=>
  simp only[AV.all,List.all_eq_true]at h
  simp only[AV.mapP]
  rw[RT fun k j x c hx hc=>M.slot _ _ _ c (h x hx c hc)]
theorem QB{p:Nat->Place}:∀{cs:List CV} {i:Nat},(wq p f i cs).any CV.isOwn=true->cs.any CV.isOwn=true
 |[],_,h=>h
 |c::r,i,h=>by
  simp only[wq,List.any_cons,Bool.or_eq_true]at h⊢
  exact h.imp (M.own _ _) QB
theorem RS{i:Nat}:∀{l:List Val} {k:Nat},(zq i f k l).any Val.hasOwn=true->l.any Val.hasOwn=true
 |[],_,h=>h
 |x::r,k,h=>by
  simp only[zq,List.any_cons,Bool.or_eq_true]at h⊢
  exact h.imp (QB M) RS
theorem acH{a:AV}{d:Nat}(h:a.hasOwn=false):(a.mapP d f).hasOwn=false:=by
 cases hb:(a.mapP d f).hasOwn with
 |false=>rfl
 |true=>
  cases a with
  |one x=>rw[show AV.hasOwn (.one x)=true from QB M hb]at h;cases h
  |tup l=>rw[show AV.hasOwn (.tup l)=true from RS M hb]at h;cases h
theorem Y2(st:St)(d:Nat):(st.mapP f).get d=(st.get d).mapP d f:=by
 simp only[St.get,St.mapP,List.getD_eq_getElem?_getD]
 rw[wi,Nat.zero_add]
 cases st.slots[d]? with
 |none=>
  simp only[Option.map_none,Option.getD_none,AV.mapP,Val.mapP,wq,M.undef]
 |some a=>rfl
theorem acI{st:St}{d:Nat}{v:AV}(h:d<st.slots.length->v.all (CV.stable pl bl)=true):(st.set d v).mapP f=(st.mapP f).set d v:=by
 simp only[St.mapP,St.set]
 congr 1
 apply List.ext_getElem?
 intro i
 rw[wi,List.getElem?_set,List.getElem?_set,wi,pU]
 by_cases hi:d=i
 ·subst hi
  rw[if_pos rfl,if_pos rfl]
  by_cases hl:d<st.slots.length
  ·rw[if_pos hl]
   simp only[Option.map_some,Nat.zero_add,RR M (h hl)]
  ·rw[if_neg hl];rfl
 ·rw[if_neg hi,if_neg hi]
omit M in
theorem IU:∀(l:List Box) (n m:Nat) (x:Bool×List CV),fr pl bl n l=true->l[m]?=some (some x)->n+m∉bl->x.2.all (fun c=>c.isOwn||c.stable pl bl)=true
 |[],_,_,_,_,h,_=>by simp at h
 |y::r,n,0,x,hs,h,hn=>by
  simp only[List.getElem?_cons_zero,Option.some.injEq]at h
  subst h
  simp only[fr,Bool.and_eq_true,Bool.or_eq_true,List.contains_eq_mem,decide_eq_true_eq]at hs
  have h1:=hs.1.resolve_left hn
  simpa only[List.all_eq_true,Bool.or_eq_true]using h1
 |y::r,n,m+1,x,hs,h,hn=>by
  simp only[fr,Bool.and_eq_true]at hs
  exact IU r (n+1) m x hs.2 (by simpa using h) (by rw[show n+1+m=n+(m+1) by omega];exact hn)
theorem acG{st:St}{b:Nat}{x:Bool×List CV}(hs:fr pl bl 0 st.boxes=true)(hb:b∉bl)(h:st.boxes.getD b none=some x):(st.mapP f).boxes.getD b none=some x:=by
 simp only[St.mapP,List.getD_eq_getElem?_getD]at h⊢
 rw[qp,Nat.zero_add]
 cases hx:st.boxes[b]? with
 |none=>rw[hx]at h;cases h
 |some y=>
  rw[hx]at h
  simp only[Option.getD_some]at h
  subst h
  obtain⟨ro,cs⟩:=x
  have hst:=IU st.boxes 0 b (ro,cs) hs hx (by rw[Nat.zero_add];exact hb)
  simp only[Option.map_some,Option.getD_some]
  rw[Hw fun j c hc=>M.cell b j c hb (List.all_eq_true.1 hst c hc)]
theorem QC{st:St}(hs:fr pl bl 0 st.boxes=true):fr pl bl 0 (st.mapP f).boxes=true:=by
 have key:∀(l:List Box) (n:Nat),fr pl bl n l=true->fr pl bl n (pk f n l)=true:=by
  intro l
  induction l with
  |nil=>intro n _;rfl
  |cons y r ih=>
   intro n h
   simp only[fr,Bool.and_eq_true]at h
   cases y with
   |none=>
    simp only[pk,fr,Bool.and_eq_true]
    exact⟨h.1,ih _ h.2⟩
   |some z=>
    obtain⟨ro,cs⟩:=z
    simp only[pk,fr,Bool.and_eq_true]
    refine⟨?_,ih _ h.2⟩
    by_cases hb:n∈bl
    ·simp[hb]
    ·have h1:=h.1
     simp only[Bool.or_eq_true,List.contains_eq_mem,decide_eq_true_eq]at h1
     have h2:=h1.resolve_left hb
     rw[Hw fun j c hc=>M.cell n j c hb (by simpa only[Bool.or_eq_true]using List.all_eq_true.1 h2 c hc)]
     exact h.1
 exact key st.boxes 0 hs
end mild
def St.ahead(st:St)(pl:List Place)(bl:List Nat):St:=(st.freezeAll pl).giveUpAll (Place.inBoxes bl)
structure Gf(pl:List Place)(bl:List Nat)(F:St->St):Prop where
 get:∀st d,(st.get d).all (CV.stable pl bl)=true->(F st).get d=st.get d
 own:∀st d,(st.get d).hasOwn=false->((F st).get d).hasOwn=false
 set:∀st d v,(d<st.slots.length->v.all (CV.stable pl bl)=true)->F (st.set d v)=(F st).set d v
 len:∀st,(F st).slots.length=st.slots.length
 box:∀st b x,fr pl bl 0 st.boxes=true->b∉bl->st.boxes.getD b none=some x->(F st).boxes.getD b none=some x
 stable:∀st,fr pl bl 0 st.boxes=true->fr pl bl 0 (F st).boxes=true
theorem abX.aheads{pl:List Place}{bl:List Nat}{f:Place->CV->CV}(M:abX pl bl f):Gf pl bl (fun st=>st.mapP f)where
 get:=fun st d h=>by rw[Y2 M,RR M h]
 own:=fun st d h=>by rw[Y2 M];exact acH M h
 set:=fun st d v h=>acI M h
 len:=fun st=>by simp only[St.mapP,pU]
 box:=fun st b x hs hb h=>acG M hs hb h
 stable:=fun st hs=>QC M hs
theorem Gf.comp{pl:List Place}{bl:List Nat}{F G:St->St}(hF:Gf pl bl F)(hG:Gf pl bl G):Gf pl bl (fun st=>G (F st))where
 get:=fun st d h=>by rw[hG.get _ _ (by rw[hF.get _ _ h];exact h),hF.get _ _ h]
 own:=fun st d h=>hG.own _ _ (hF.own _ _ h)
 set:=fun st d v h=>by rw[hF.set _ _ _ h,hG.set _ _ _ (by rw[hF.len];exact h)]
 len:=fun st=>by rw[hG.len,hF.len]
 box:=fun st b x hs hb h=>hG.box _ _ _ (hF.stable _ hs) hb (hF.box _ _ _ hs hb h)
 stable:=fun st hs=>hG.stable _ (hF.stable _ hs)
theorem abd(pl:List Place)(bl:List Nat):Gf pl bl (fun st=>st)where
 get:=fun _ _ _=>rfl
 own:=fun _ _ h=>h
 set:=fun _ _ _ _=>rfl
 len:=fun _=>rfl
 box:=fun _ _ _ _ _ h=>h
 stable:=fun _ h=>h
theorem Mq{pl:List Place}{bl:List Nat}(hs:pl.all Place.isSlot=true):∀(l:List Place),(∀p,p∈l->p∈pl)->Gf pl bl (fun st=>st.freezeAll l)
 |[],_=>abd pl bl
 |p::r,h=>Gf.comp (F:=fun st=>st.freeze p) (G:=fun st=>st.freezeAll r) (Z1 hs (h p (by simp))).aheads (Mq hs r fun q hq=>h q (by simp[hq]))
theorem Xg{pl:List Place}(hs:pl.all Place.isSlot=true)(bl:List Nat):Gf pl bl (fun st=>st.ahead pl bl):=
 Gf.comp (F:=fun st=>st.freezeAll pl) (G:=fun st=>st.giveUpAll (Place.inBoxes bl)) (Mq hs pl fun _ h=>h) (acu pl bl).aheads
theorem JW(f:FuncId):∀pl:List Place,AV.frozeAll (.c (.fn f [])) pl= .c (.fn f [])
 |[]=>rfl
 |_::r=>JW f r
theorem Xq(l:List Place):∀(st:St) (d:Nat) (v:AV),((st.set d v).freezeAll l).boxes=(st.freezeAll l).boxes:=by
 have key:∀(l:List Place) (st st':St),st'.boxes=st.boxes->(st'.freezeAll l).boxes=(st.freezeAll l).boxes:=by
  intro l
  induction l with
  |nil=>intro st st' h;exact h
  |cons p r ih=>
   intro st st' h
   refine ih (st.freeze p) (st'.freeze p) ?_
   simp only[St.freeze,St.mapP,h]
 exact fun st d v=>key l st (st.set d v) rfl
theorem U9:∀(bl:List Nat) (css:List (List CV)) (st:St) (d:Nat) (v:AV),(st.set d v).refill bl css=(st.refill bl css).set d v
 |[],_,_,_,_=>by simp only[St.refill]
 |_::_,[],_,_,_=>by simp only[St.refill]
 |b::r,cs::css,st,d,v=>by
  simp only[St.refill]
  exact U9 r css ⟨st.slots,st.boxes.set b (some (false,cs)),st.io⟩ d v
theorem Pr:∀(bl:List Nat) (css:List (List CV)) (st:St),(st.refill bl css).slots=st.slots
 |[],_,_=>by simp only[St.refill]
 |_::_,[],_=>by simp only[St.refill]
 |b::r,cs::css,st=>by
  simp only[St.refill]
  exact Pr r css _
theorem U7:∀(bl:List Nat) (css:List (List CV)) (st:St) (b:Nat),b∉bl->(st.refill bl css).boxes[b]?=st.boxes[b]?
 |[],_,_,_,_=>by simp only[St.refill]
 |_::_,[],_,_,_=>by simp only[St.refill]
 |b'::r,cs::css,st,b,h=>by
  simp only[St.refill]
  rw[U7 r css _ b (fun hb=>h (by simp[hb]))]
  simp only
  rw[List.getElem?_set_ne (fun e=>h (by simp[e]))]
theorem R4{st:St}{d:Nat}{a:AV}(h:(st.get d).hasOwn=false):st.putN d a some=match a.npLand d with
 |none=>some (st.set d a)
 |some (cs,a')=>match decide (d<st.slots.length),st.boxes[d]? with
  |true,some none=>some (⟨st.slots.set d a',st.boxes.set d (some (false,cs)),st.io⟩:St)
  |_,_=>none:=by
 unfold St.putN
 cases a.npLand d with
 |none=>simp only[St.put,h]
 |some y=>
  obtain⟨cs,a'⟩:=y
  simp only
  split
  ·rename_i h1 h2
   rw[h1,h2]
   simp only[St.put]
   have:((⟨st.slots,st.boxes.set d (some (false,cs)),st.io⟩:St).get d).hasOwn=false:=h
   rw[this]
   rfl
  ·rename_i hno
   split
   ·rename_i h1 h2;exact(hno h1 h2).elim
   ·rfl
theorem Yr{st s2:St}{d:Nat}{v:AV}{o:Oper}{a:AV}(hd:o.dst≠some d)(ho:∀d',o.dst=some d'->(st.get d').hasOwn=false)(h:(st.set d v).back o a some=some s2):
 ∃s1,st.back o a some=some s1/\s2=s1.set d v/\(∀t,o.dst≠some t->s1.get t=st.get t)/\∀b x,st.boxes.getD b none=some x->s1.boxes.getD b none=some x:=by
 unfold St.back at h⊢
 cases hdst:o.dst with
 |none=>
  rw[hdst]at h
  simp only at h⊢
  cases h
  exact⟨st,rfl,rfl,fun _ _=>rfl,fun _ _ h=>h⟩
 |some d2=>
  rw[hdst]at h
  simp only at h⊢
  have hne:d2≠d:=fun e=>hd (by rw[hdst,e])
  have hg:((st.set d v).get d2)=st.get d2:=nD (st:=st) hne
  rw[R4 (by rw[hg];exact ho d2 hdst)]at h
  rw[R4 (ho d2 hdst)]
  have hgs:∀(a:AV) (bx:List Box) t,some d2≠some t->(⟨st.slots.set d2 a,bx,st.io⟩:St).get t=st.get t:=fun a bx t ht=>by
   exact nD (st:=st) (fun e=>ht (by rw[e]))
  cases hnp:a.npLand d2 with
  |none=>
   rw[hnp]at h
   simp only at h⊢
   cases h
   refine⟨_,rfl, ?_,fun t ht=>hgs a _ t ht,fun _ _ h=>h⟩
   simp only[St.set]
   rw[List.set_comm _ _ hne.symm]
  |some y=>
   obtain⟨cs,a'⟩:=y
   rw[hnp]at h
   simp only[St.set,List.length_set]at h⊢
   split at h
   ·rename_i h1 h2
    cases h
    refine⟨_,rfl, ?_,fun t ht=>hgs a' _ t ht,fun b x hb=> ?_⟩
    ·simp only
     rw[List.set_comm _ _ hne.symm]
    ·simp only[List.getD_eq_getElem?_getD]at hb⊢
     by_cases hbd:d2=b
     ·subst hbd;rw[h2]at hb;cases hb
     ·rw[List.getElem?_set_ne hbd];exact hb
   ·cases h
theorem abf{ops:Array Oper}{o:Oper}(hb:iN C o=true)(hg:o.guard=none):
 ∃ct:af,∀st st':St,ry C false ops o st some=some st'↔
  ∃vs bs x,IG 0 (wo C st o)=some vs/\B0 (st.freezeAll (SZ C st o)) (fW (wo C st o))=some bs/\mV (fW (wo C st o))=true/\ct.G bs vs=some x/\((ct.enc x).1.all CV.isFlatN&&Uz (ct.encB x)==Uz bs)=true/\
   ((st.ahead (SZ C st o) (fW (wo C st o))).refill (fW (wo C st o)) (ct.encB x)).back o (ct.enc x).1 some=some st':=by
 cases o with
 |mk dst op type pos after guard=>
  cases hg
  cases op<;>try(simp only[iN]at hb;cases hb)
  rename_i c
  obtain⟨callee,args,ats⟩:=c
  cases callee<;>try(simp only[iN]at hb;cases hb)
  rename_i f
  cases f<;>try(simp only[iN]at hb;cases hb)
  rename_i f
  simp only[iN]at hb
  cases hρ:C.ρ f with
  |none=>rw[hρ]at hb;cases hb
  |some ct=>
   rw[hρ]at hb
   simp only at hb
   refine⟨ct,fun st st'=> ?_⟩
   have hrw:abu C (st.opd (.func f))=true:=by
    simp only[St.opd,abu,hρ,hb]
   have e:ry C false ops ⟨dst, .call ⟨.value (.func f),args,ats⟩,type,pos,after,none⟩ st some=
    MW C (st.freezeAll (SZ C st ⟨dst, .call ⟨.value (.func f),args,ats⟩,type,pos,after,none⟩)) ⟨dst, .call ⟨.value (.func f),args,ats⟩,type,pos,after,none⟩ (.c (.fn f [])) (wo C st ⟨dst, .call ⟨.value (.func f),args,ats⟩,type,pos,after,none⟩) some:=by
    have h0:(st.opd (.func f)).frozeAll (SZ C st ⟨dst, .call ⟨.value (.func f),args,ats⟩,type,pos,after,none⟩)= .c (.fn f []):=JW f _
    simp only[ry,Bool.false_and,step,hrw]
    rw[<-h0]
    rfl
   generalize SZ C st ⟨dst, .call ⟨.value (.func f),args,ats⟩,type,pos,after,none⟩=pl at e⊢
   generalize wo C st ⟨dst, .call ⟨.value (.func f),args,ats⟩,type,pos,after,none⟩=aa at e⊢
   rw[e]
   unfold MW
   simp only[hρ,List.map_nil,List.append_nil]
   cases IG 0 aa with
   |none=>simp
   |some vs=>
    cases B0 (st.freezeAll pl) (fW aa)with
    |none=>simp
    |some bs=>
     simp only[hb]
     by_cases hdi:mV (fW aa)=true
     ·simp only[hdi,if_true,Option.some.injEq,true_and]
      cases hG:ct.G bs vs with
      |none=>
       simp only[Option.bind_none]
       constructor
       ·intro h;cases h
       ·rintro ⟨_,_,x,rfl,rfl,h,_⟩;rw[hG]at h;cases h
      |some x=>
       simp only[Option.bind_some,ct.altOk]
       by_cases hc:((ct.enc x).1.all CV.isFlatN&&Uz (ct.encB x)==Uz bs)=true
       ·rw[if_pos hc]
        constructor
        ·intro h;exact⟨vs,bs,x,rfl,rfl,hG,hc,h⟩
        ·rintro ⟨_,_,x',rfl,rfl,h,_,h'⟩
         rw[hG]at h;cases h;exact h'
       ·rw[if_neg hc]
        constructor
        ·intro h;cases h
        ·rintro ⟨_,_,x',rfl,rfl,h,h',_⟩
         rw[hG]at h;cases h;exact(hc h').elim
     ·simp only[hdi,Bool.false_eq_true,if_false]
      constructor
      ·intro h;cases h
      ·rintro ⟨_,_,_,_,_,h,_⟩;exact h.elim
theorem Wt(bl:List Nat):∀(l:List Box) (n m:Nat),(Ws bl n l)[m]?=if(n+m)∈bl then(l[m]?).map fun _=>none else l[m]?
 |[],n,m=>by simp[Ws]
 |x::r,n,0=>by
  simp only[Ws,List.getElem?_cons_zero,Nat.add_zero,Option.map_some]
  by_cases h:n∈bl
  ·simp[h]
  ·simp[h]
 |x::r,n,m+1=>by
  simp only[Ws,List.getElem?_cons_succ]
  rw[Wt bl r (n+1) m,show n+1+m=n+(m+1) by omega]
theorem YN{bl:List Nat}{st:St}{b:Nat}{x:Bool×List CV}(h:(st.hide bl).boxes.getD b none=some x):b∉bl/\st.boxes.getD b none=some x:=by
 simp only[St.hide,List.getD_eq_getElem?_getD]at h⊢
 rw[Wt,Nat.zero_add]at h
 split at h
 ·exfalso
  cases hx:st.boxes[b]? with
  |none=>rw[hx]at h;cases h
  |some y=>rw[hx]at h;cases h
 ·rename_i hn
  exact⟨hn,h⟩
theorem RD{st st':St}(h:st'.boxes=st.boxes):∀l:List Nat,B0 st' l=B0 st l
 |[]=>rfl
 |b::r=>by simp only[B0,RD h r,h]
theorem T6{o:Oper}{st st':St}(h:TR (Eu o) st st')(hb:iN C o=true):Oi C st' o=Oi C st o:=by
 unfold Oi
 cases ho:o.op<;>try rfl
 rename_i c
 simp only
 refine E4 h C.P c.args.toList c.argTypes.toList (fun x hx=> ?_)
 rw[ho]
 simp only[Op.operands,Call.operands]
 simp only[iN,ho]at hb
 split at hb
 ·rename_i f hc
  rw[hc]
  simp only[Array.toList_append,List.mem_append]
  exact .inr hx
 ·cases hb
theorem FU{ops:Array Oper}{p:Oper}(h:Bb C ops p=true):p.guard=none/\tW C p= .pure/\∃d,p.dst=some d/\d∉wH ops p:=by
 simp only[Bb,Bool.and_eq_true]at h
 obtain⟨⟨h1,h2⟩,h3⟩:=h
 refine⟨by simpa using h1, ?_, ?_⟩
 ·split at h2
  ·assumption
  ·cases h2
 ·split at h3
  ·rename_i d hd
   exact⟨d,hd,by simpa using h3⟩
  ·cases h3
theorem XZ(st:St)(d:Nat):st.set d (st.get d)=st:=by
 obtain⟨sl,bx,io⟩:=st
 simp only[St.set,St.get,List.getD_eq_getElem?_getD]
 congr 1
 apply List.ext_getElem?
 intro i
 rw[List.getElem?_set]
 split
 ·rename_i hi
  subst hi
  split
  ·rename_i hl;rw[List.getElem?_eq_getElem hl];rfl
  ·rename_i hl;rw[List.getElem?_eq_none (by omega)]
 ·rfl
theorem ach{ops:Array Oper}{p o:Oper}{st st1 st2:St}(hr:Bb C ops p=true)(hb:iN C o=true)(hg:o.guard=none)(hap:apart ops p o=true)
 (h1:BR C ops p st=some st1) (h2:ry C false ops o st1 some=some st2) (hh:(SZ C st1 o).all Place.isSlot=true) (hd2:∀d,o.dst=some d->(st1.get d).hasOwn=false)
 (hs:fr (SZ C st1 o) (fW (wo C st1 o)) 0 st1.boxes=true) (hf:Ev C ops (SZ C st1 o) (fW (wo C st1 o)) st1 p=true):
 ∃st1',ry C false ops o st some=some st1'/\BR C ops p st1'=some st2:=by
 obtain⟨hpg,hpc,d,hpd,hdt⟩:=FU hr
 have hpc':tW C p≠ .other:=by rw[hpc];simp
 simp only[apart,hpd,Bool.and_eq_true,Bool.not_eq_true',bne_iff_ne,ne_eq]at hap
 obtain⟨⟨hdo,hod⟩,hap2⟩:=hap
 have hdo:d∉wH ops o:=by simpa using hdo
 have hop:∀t,t∈wH ops p->o.dst≠some t:=by
  intro t ht e
  rw[e]at hap2
  simp[ht]at hap2
 obtain⟨ct,hct⟩:=abf (ops:=ops) hb hg
 unfold BR at h1
 cases hep:Jp C ops st p with
 |none=>rw[hep]at h1;cases h1
 |some e=>
  rw[hep]at h1
  simp only[Option.bind_some]at h1
  obtain⟨e1,e2,e3⟩:=Ou hpc' hep
  have e2:=e2 (by rw[hpc];simp)
  have e3:=e3 hpc
  have hbx:st1.boxes=st.boxes:=Gg.boxSame e2 e3 h1
  have hgt:∀t,t≠d->st1.get t=st.get t:=fun t ht=>Gg.get_ne e1 h1 (by rw[hpd];exact fun he=>ht (by cases he;rfl))
  have hargs:Oi C st1 o=Oi C st o:=T6 ⟨fun t ht=>hgt t (fun e=>hdo (by rw[<-e,LA];exact List.mem_append_left _ ht))⟩ hb
  have hplE:SZ C st1 o=SZ C st o:=by unfold SZ;rw[hargs]
  have hargF:wo C st1 o=wo C st o:=by unfold wo;rw[hargs,hplE]
  obtain⟨vs,bs,x,k1,k2,k3,k4,k5,k6⟩:=(hct st1 st2).1 h2
  rw[hargF]at k1 k2 k3 k6 hs hf
  rw[hplE]at k2 k6 hh hs hf
  generalize hbl:fW (wo C st o)=bl at k2 k3 k6 hs hf
  generalize hpl:SZ C st o=pl at hh k2 k6 hs hf
  have A:=Xg hh bl
  simp only[Ev,hpd,Bool.and_eq_true,List.all_eq_true]at hf
  obtain⟨⟨f1,f2⟩,f3⟩:=hf
  rw[rz hpc']at f3
  obtain⟨eh,heh⟩:∃eh,Jp C ops (st1.hide bl) p=some eh:=by
   unfold BR at f3
   cases hx:Jp C ops (st1.hide bl) p with
   |none=>rw[hx]at f3;cases f3
   |some eh=>exact⟨eh,rfl⟩
  have hget:∀t,t∈wH ops p->st1.get t=st.get t:=fun t ht=>hgt t (fun e=>hdt (by rw[<-e];exact ht))
  have hee:eh=e:=by
   have:=GZ (st:=st1.hide bl) (st':=st) hpc' ⟨fun t ht=>(hget t ht).symm⟩ (.inr (.inr fun b x hx=>by
    have:=(YN hx).2
    rwa [hbx]at this)) heh
   rw[hep]at this;cases this;rfl
  subst hee
  let G:=(st.ahead pl bl).refill bl (ct.encB x)
  have hGget:∀t,G.get t=(st.ahead pl bl).get t:=fun t=>by
   simp only[G,St.get,Pr]
  have key:∀(s1:St),(∀t,o.dst≠some t->s1.get t=G.get t)->(∀b x,G.boxes.getD b none=some x->s1.boxes.getD b none=some x)->Jp C ops s1 p=some eh:=by
   intro s1 hg1 hb1
   refine GZ (st:=st1.hide bl) (st':=s1) hpc' ⟨fun t ht=> ?_⟩ (.inr (.inr fun b x hx=> ?_)) heh
   ·rw[hg1 t (hop t ht),hGget,A.get _ _ (by rw[<-hget t ht];exact f1 t ht)]
    exact(hget t ht).symm
   ·obtain⟨hnb,hx⟩:=YN hx
    refine hb1 b x ?_
    rw[hbx]at hx
    have:=A.box st b x (by rw[<-hbx];exact hs) hnb hx
    simp only[G,List.getD_eq_getElem?_getD]at this⊢
    rw[U7 _ _ _ _ hnb]
    exact this
  have hown:∀d',o.dst=some d'->(G.get d').hasOwn=false:=fun d' hd'=>by
   rw[hGget]
   refine A.own _ _ ?_
   have hne:d'≠d:=fun e=>hod (by rw[hd',e])
   rw[<-hgt d' hne]
   exact hd2 d' hd'
  cases eh with
  |none=>
   cases h1
   refine⟨st2,h2, ?_⟩
   unfold BR
   obtain⟨s1,m1,m2,m3,m4⟩:=Yr (st:=G) (d:=d) (v:=G.get d) hod hown (by rw[XZ];exact k6)
   have hs2:G.back o (ct.enc x).1 some=some st2:=k6
   rw[m1]at hs2
   have hs2:=Option.some.inj hs2
   subst hs2
   rw[key s1 m3 m4]
   rfl
  |alloc d' cs=>cases e3
  |boxmod b off new=>cases e2
  |set d' v=>
   have hdd:d'=d:=by
    have:p.dst=some d':=e1
    rw[hpd]at this;cases this;rfl
   subst hdd
   obtain⟨n1,rfl⟩:=lP.1 h1
   have hv:d'<st.slots.length->v.all (CV.stable pl bl)=true:=fun hl=>by
    have:(st.set d' v).get d'=v:=by simp[St.set,St.get,hl]
    rw[this]at f2;exact f2
   rw[show(st.set d' v).ahead pl bl=(st.ahead pl bl).set d' v from A.set _ _ _ hv,U9]at k6
   obtain⟨s1,m1,m2,m3,m4⟩:=Yr (st:=G) hod hown k6
   refine⟨s1,(hct st s1).2 ⟨vs,bs,x,k1, ?_, ?_,k4,k5, ?_⟩, ?_⟩
   ·rw[hbl,hpl,<-RD (Xq pl st d' v)];exact k2
   ·rw[hbl];exact k3
   ·rw[hbl,hpl];exact m1
   ·unfold BR
    rw[key s1 m3 m4]
    simp only[Option.bind_some]
    refine lP.2 ⟨?_,m2⟩
    rw[m3 d' hod,hGget]
    exact A.own _ _ n1
theorem aca{st:St}{o:Oper}{a:AV}(k:St->Option Q):st.back o a k=(st.back o a some).bind k:=by
 have hp:∀(st:St) (d:Nat) (a:AV),st.put false d a k=(st.put false d a some).bind k:=by
  intro st d a
  unfold St.put
  cases(st.get d).hasOwn with
  |false=>rfl
  |true=>
   simp only
   by_cases h:a.all (CV.avoids d)=true
   ·rw[if_pos h,if_pos h];rfl
   ·rw[if_neg h,if_neg h];rfl
 unfold St.back
 cases o.dst with
 |none=>rfl
 |some d=>
  simp only[St.putN]
  cases a.npLand d with
  |none=>exact hp _ _ _
  |some y=>
   obtain⟨cs,a'⟩:=y
   simp only
   split
   ·exact hp _ _ _
   ·rfl
theorem Wh{ops:Array Oper}{o:Oper}(hb:iN C o=true)(hg:o.guard=none){st:St}(k:St->Option Q):
 ry C false ops o st k=(ry C false ops o st some).bind k:=by
 cases o with
 |mk dst op type pos after guard=>
  cases hg
  cases op<;>try(simp only[iN]at hb;cases hb)
  rename_i c
  obtain⟨callee,args,ats⟩:=c
  cases callee<;>try(simp only[iN]at hb;cases hb)
  rename_i f
  cases f<;>try(simp only[iN]at hb;cases hb)
  rename_i f
  simp only[iN]at hb
  cases hρ:C.ρ f with
  |none=>rw[hρ]at hb;cases hb
  |some ct=>
   rw[hρ]at hb
   simp only at hb
   have hrw:abu C (st.opd (.func f))=true:=by
    simp only[St.opd,abu,hρ,hb]
   have e:∀{Q:Type} (k:St->Option Q),ry C false ops ⟨dst, .call ⟨.value (.func f),args,ats⟩,type,pos,after,none⟩ st k=
    MW C (st.freezeAll (SZ C st ⟨dst, .call ⟨.value (.func f),args,ats⟩,type,pos,after,none⟩)) ⟨dst, .call ⟨.value (.func f),args,ats⟩,type,pos,after,none⟩ (.c (.fn f [])) (wo C st ⟨dst, .call ⟨.value (.func f),args,ats⟩,type,pos,after,none⟩) k:=by
    intro Q k
    have h0:(st.opd (.func f)).frozeAll (SZ C st ⟨dst, .call ⟨.value (.func f),args,ats⟩,type,pos,after,none⟩)= .c (.fn f []):=JW f _
    simp only[ry,Bool.false_and,step,hrw]
    rw[<-h0]
    rfl
   generalize SZ C st ⟨dst, .call ⟨.value (.func f),args,ats⟩,type,pos,after,none⟩=pl at e⊢
   generalize wo C st ⟨dst, .call ⟨.value (.func f),args,ats⟩,type,pos,after,none⟩=aa at e⊢
   rw[e,e]
   unfold MW
   simp only[hρ,List.map_nil,List.append_nil]
   cases IG 0 aa with
   |none=>simp only[hb];rfl
   |some vs=>
    cases B0 (st.freezeAll pl) (fW aa)with
    |none=>simp only[hb];rfl
    |some bs=>
     simp only[hb]
     by_cases hdi:mV (fW aa)=true
     ·simp only[hdi,if_true]
      cases ct.G bs vs with
      |none=>rfl
      |some x=>
       simp only[Option.bind_some,ct.altOk]
       by_cases hc:((ct.enc x).1.all CV.isFlatN&&Uz (ct.encB x)==Uz bs)=true
       ·rw[if_pos hc,if_pos hc];exact aca k
       ·rw[if_neg hc,if_neg hc];rfl
     ·simp only[hdi,Bool.false_eq_true,if_false];rfl
def NP(C:gY)(ops:Array Oper):List Nat->St->Option St
 |[],st=>some st
 |j::r,st=>match ops[j]? with
  |some p=>(BR C ops p st).bind (NP C ops r)
  |none=>NP C ops r st
def ZB(C:gY)(ops:Array Oper)(j:Nat):Prop:=∃p,ops[j]?=some p/\iN C p=false/\Dw ops j=false/\tW C p≠ .other
theorem Ez{ops:Array Oper}{rest:List Nat}{k:St->Option Q}:∀(pre:List Nat) (st:St),(∀j,j∈pre->ZB C ops j)->
 zx C ops (pre++rest) st k=(NP C ops pre st).bind fun st=>zx C ops rest st k
 |[],_,_=>rfl
 |j::r,st,h=>by
  obtain⟨p,h1,h2,h3,h4⟩:=h j (by simp)
  simp only[List.cons_append,zx,NP,h1,h2,h3,Bool.not_false]
  rw[rz h4]
  cases BR C ops p st with
  |none=>rfl
  |some st1=>exact Ez r st1 fun j hj=>h j (by simp[hj])
theorem aeo{ops:Array Oper}{o:Oper}:∀(pre:List Nat) (st sa sb:St),(∀j,j∈pre->∃p,ops[j]?=some p/\kH C ops p o=true)->NP C ops pre st=some sa->BR C ops o sa=some sb->
 ∃st',BR C ops o st=some st'/\NP C ops pre st'=some sb
 |[],st,sa,sb,_,h1,h2=>by cases h1;exact⟨sb,h2,rfl⟩
 |j::r,st,sa,sb,hp,h1,h2=>by
  obtain⟨p,hj,hm⟩:=hp j (by simp)
  simp only[NP,hj]at h1⊢
  cases hr:BR C ops p st with
  |none=>rw[hr]at h1;cases h1
  |some s1=>
   rw[hr]at h1
   obtain⟨s2,h3,h4⟩:=aeo r s1 sa sb (fun q hq=>hp q (by simp[hq])) h1 h2
   obtain⟨_,_,s3,h5,h6⟩:=aax hm hr h3
   exact⟨s3,h5,by rw[h6];exact h4⟩
theorem Vf{ops:Array Oper}:∀(pre:List Nat) (st st1:St),(∀j,j∈pre->∃p,ops[j]?=some p/\Bb C ops p=true)->NP C ops pre st=some st1->
 st1.boxes=st.boxes/\∀t,(∀j,j∈pre->∀p,ops[j]?=some p->p.dst≠some t)->st1.get t=st.get t
 |[],st,st1,_,h=>by cases h;exact⟨rfl,fun _ _=>rfl⟩
 |j::r,st,st1,hp,h=>by
  obtain⟨p,hj,hr⟩:=hp j (by simp)
  obtain⟨_,hpc,_⟩:=FU hr
  simp only[NP,hj]at h
  cases hs:BR C ops p st with
  |none=>rw[hs]at h;cases h
  |some sa=>
   rw[hs]at h
   obtain⟨h1,h2⟩:=Vf r sa st1 (fun q hq=>hp q (by simp[hq])) h
   unfold BR at hs
   cases he:Jp C ops st p with
   |none=>rw[he]at hs;cases hs
   |some e=>
    rw[he]at hs
    obtain⟨e1,e2,e3⟩:=Ou (by rw[hpc];simp) he
    refine⟨h1.trans (Gg.boxSame (e2 (by rw[hpc];simp)) (e3 hpc) hs),fun t ht=>(h2 t fun q hq=>ht q (by simp[hq])).trans (Gg.get_ne e1 hs (ht j (by simp) p hj))⟩
theorem V0{ops:Array Oper}{pl:List Place}{bl:List Nat}{st st1:St}{p:Oper}(hr:Bb C ops p=true)(hb:st1.boxes=st.boxes)(hg:∀t,t∈wH ops p\/p.dst=some t->st1.get t=st.get t)
 (h:Ev C ops pl bl st1 p=true):Ev C ops pl bl st p=true:=by
 obtain⟨_,hpc,d,hpd,_⟩:=FU hr
 have hpc':tW C p≠ .other:=by rw[hpc];simp
 simp only[Ev,hpd,Bool.and_eq_true,List.all_eq_true]at h⊢
 obtain⟨⟨f1,f2⟩,f3⟩:=h
 refine⟨⟨fun t ht=>by rw[<-hg t (.inl ht)];exact f1 t ht,by rw[<-hg d (.inr hpd)];exact f2⟩, ?_⟩
 rw[rz hpc']at f3⊢
 unfold BR at f3⊢
 cases he:Jp C ops (st1.hide bl) p with
 |none=>rw[he]at f3;cases f3
 |some e=>
  rw[he]at f3
  have he':Jp C ops (st.hide bl) p=some e:=by
   refine GZ (st:=st1.hide bl) (st':=st.hide bl) hpc' ⟨fun t ht=>(hg t (.inl ht)).symm⟩ (.inr (.inr fun b x hx=> ?_)) he
   have:(st.hide bl).boxes=(st1.hide bl).boxes:=by simp only[St.hide,hb]
   rw[this];exact hx
  rw[he']
  obtain⟨e1,e2,e3⟩:=Ou hpc' he
  have e2:=e2 (by rw[hpc];simp)
  have e3:=e3 hpc
  cases e with
  |none=>rfl
  |alloc d' cs=>cases e3
  |boxmod b off new=>cases e2
  |set d' v=>
   have hdd:d'=d:=by
    have:p.dst=some d':=e1
    rw[hpd]at this;cases this;rfl
   subst hdd
   simp only[Option.bind_some]at f3⊢
   cases ha:(Gg.set d' v).apply (st1.hide bl)with
   |none=>rw[ha]at f3;cases f3
   |some s=>
    obtain⟨n1,_⟩:=lP.1 ha
    have n2:((st.hide bl).get d').hasOwn=false:=by
     have:(st.hide bl).get d'=(st1.hide bl).get d':=(hg d' (.inr hpd)).symm
     rw[this];exact n1
    rw[(lP (st1:=(st.hide bl).set d' v)).2 ⟨n2,rfl⟩]
    rfl
theorem aen{ops:Array Oper}{o:Oper}(hb:iN C o=true)(hg:o.guard=none):∀(pre:List Nat) (st st1 st2:St),(∀j,j∈pre->∃p,ops[j]?=some p/\Bb C ops p=true/\apart ops p o=true)->
 pre.Pairwise (fun a b=>∀p q,ops[a]?=some p->ops[b]?=some q->T4 ops p q=true)->NP C ops pre st=some st1->ry C false ops o st1 some=some st2->
 (SZ C st1 o).all Place.isSlot=true->(∀d,o.dst=some d->(st1.get d).hasOwn=false)->fr (SZ C st1 o) (fW (wo C st1 o)) 0 st1.boxes=true->
 (∀j,j∈pre->∀p,ops[j]?=some p->Ev C ops (SZ C st1 o) (fW (wo C st1 o)) st1 p=true)->∃st',ry C false ops o st some=some st'/\NP C ops pre st'=some st2
 |[],st,st1,st2,_,_,h1,h2,_,_,_,_=>by cases h1;exact⟨st2,h2,rfl⟩
 |j::r,st,st1,st2,hp,hpw,h1,h2,hh,hd,hs,hf=>by
  obtain⟨p,hj,hr,hap⟩:=hp j (by simp)
  have hpr:∀q,q∈r->∃p,ops[q]?=some p/\Bb C ops p=true/\apart ops p o=true:=fun q hq=>hp q (by simp[hq])
  simp only[NP,hj]at h1⊢
  cases hs1:BR C ops p st with
  |none=>rw[hs1]at h1;cases h1
  |some sa=>
   rw[hs1]at h1
   have h1:NP C ops r sa=some st1:=h1
   obtain⟨hpw1,hpw2⟩:=List.pairwise_cons.1 hpw
   obtain⟨sb,k1,k2⟩:=aen hb hg r sa st1 st2 hpr hpw2 h1 h2 hh hd hs (fun q hq=>hf q (by simp[hq]))
   obtain⟨m1,m2⟩:=Vf r sa st1 (fun q hq=>let⟨p,a,b,_⟩:=hpr q hq;⟨p,a,b⟩) h1
   have off:∀t,t∈wH ops o\/o.dst=some t->st1.get t=sa.get t:=by
    intro t ht
    refine m2 t fun q hq pq hpq e=> ?_
    obtain⟨pq',hq',_,hapq⟩:=hpr q hq
    rw[hpq]at hq';cases hq'
    simp only[apart,e,Bool.and_eq_true,Bool.not_eq_true',bne_iff_ne,ne_eq]at hapq
    rcases ht with ht|ht
    ·have:=hapq.1.1
     simp[ht]at this
    ·exact hapq.1.2 ht
   have offp:∀t,t∈wH ops p\/p.dst=some t->st1.get t=sa.get t:=by
    intro t ht
    refine m2 t fun q hq pq hpq e=> ?_
    have:=hpw1 q hq p pq hj hpq
    simp only[T4,e,Bool.and_eq_true,Bool.not_eq_true',bne_iff_ne,ne_eq]at this
    rcases ht with ht|ht
    ·have:=this.1
     simp[ht]at this
    ·exact this.2 ht
   have hargs:Oi C st1 o=Oi C sa o:=T6 ⟨fun t ht=>off t (.inl (by rw[LA];exact List.mem_append_left _ ht))⟩ hb
   have hplE:SZ C st1 o=SZ C sa o:=by unfold SZ;rw[hargs]
   have hargF:wo C st1 o=wo C sa o:=by unfold wo;rw[hargs,hplE]
   rw[hargF]at hs hf
   rw[hplE]at hh hs hf
   obtain⟨s',n1,n2⟩:=ach hr hb hg hap hs1 k1 hh (fun d hd'=>by rw[<-off d (.inr hd')];exact hd d hd') (by rw[<-m1];exact hs) (V0 hr m1 offp (hf j (by simp) p hj))
   exact⟨s',n1,by rw[n2];exact k2⟩
variable {E:iU} {g:Gh} {a:Act} {w:World}
def CJ(ord:List Nat)(listed:Array Bool):List Nat:=ord.filter fun i=> !listed.getD i true
theorem WG{ops:Array Oper}{ah:List (List Nat)}:∀{l:List Nat},XP C ops ah l=true->l.Pairwise fun a b=>WF C ops ah a b=true
 |[],_=>List.Pairwise.nil
 |x::r,h=>by
  simp only[XP,Bool.and_eq_true,List.all_eq_true]at h
  exact List.Pairwise.cons h.1 (WG h.2)
theorem Ij:∀{l:List Nat},mV l=true->l.Nodup
 |[],_=>List.nodup_nil
 |x::r,h=>by
  simp only[mV,Bool.and_eq_true,Bool.not_eq_true',List.contains_eq_mem,decide_eq_false_iff_not]at h
  exact List.nodup_cons.2 ⟨h.1,Ij h.2⟩
theorem Lo{o:Oper}(h:iN C o=true):tW C o= .other:=by
 cases o with
 |mk dst op type pos after guard=>
  cases op<;>try(simp only[iN]at h;cases h)
  rename_i c
  obtain⟨callee,args,ats⟩:=c
  cases callee<;>try(simp only[iN]at h;cases h)
  rename_i f
  cases f<;>try(simp only[iN]at h;cases h)
  rename_i f
  simp only[iN]at h
  have hio:acy C (.func f)=true:=by
   simp only[acy]
   split at h
   ·rename_i ct hρ
    simp[h]
   ·cases h
  simp only[tW,hio,if_true]
theorem YH(hS:∀f c,C.ρ f=some c->ag C f c){ops:Array Oper}{ord:List Nat}(hd:Im C ops ord=true){k:St->Option Q}{r:Q}{D:List Deferred}{X:Exit->Act->World->Prop}
 (hn:Next C E D k r (X .normal)):∀(fuel:Nat) (listed:Array Bool) (g:Gh) (st:St) (a:Act) (w:World),listed.size=ops.size->(CJ ord listed).length=fuel->
   (∀(j:Nat) o,ops.toList[j]?=some o->listed.getD j false=true->∀e,e∈o.after.toList->Region.binds .any e=true->listed.getD e.on false=true)->
   dG C E g st a.tmps w->a.defers=D->zx C ops (CJ ord listed) st k=some r->wpAny C.P .any ops X fuel listed a w:=by
 simp only[Im,Bool.and_eq_true]at hd
 obtain⟨⟨⟨⟨hd1,hd2⟩,hd3⟩,hd4⟩,hd5⟩:=hd
 have hlt:∀(j:Nat) o,ops.toList[j]?=some o->∀e,e∈o.after.toList->Region.binds .any e=true->e.on<j:=by
  intro j o ho e he hb
  have ho':ops[j]?=some o:=by simpa using ho
  have hj:j<ops.size:=(Array.getElem?_eq_some_iff.1 ho').1
  have:=List.all_eq_true.1 hd1 j (by simpa using hj)
  rw[ho']at this
  simp only[Option.all_some]at this
  have:=Array.all_eq_true_iff_forall_mem.1 this e (by simpa using he)
  simpa[hb]using this
 have hcov:∀i,i<ops.size->i∈ord:=fun i hi=>by
  have:=List.all_eq_true.1 hd2 i (by simpa using hi)
  simpa using this
 have hbd:∀i,i∈ord->i<ops.size:=fun i hi=>by
  have:=List.all_eq_true.1 hd4 i hi
  simpa using this
 have hnd:=Ij hd3
 have hpwO:=WG hd5
 have hsub:∀listed i,i∈Region.ready .any ops listed->i∈CJ ord listed:=by
  intro listed i hi
  simp only[Region.ready,List.mem_filter,Bool.and_eq_true]at hi
  exact List.mem_filter.2 ⟨hcov i (by simpa using hi.1),hi.2.1⟩
 have hmem:∀listed i,i∈CJ ord listed->i<ops.size/\listed.getD i true=false:=by
  intro listed i hi
  obtain⟨h1,h2⟩:=List.mem_filter.1 hi
  exact⟨hbd i h1,by simpa using h2⟩
 intro fuel
 induction fuel with
 |zero=>
  intro listed g st a w hsz hl hcl R hD h
  have h0:=List.length_eq_zero_iff.1 hl
  refine⟨?_, ?_⟩
  ·cases hr:Region.ready .any ops listed with
   |nil=>rfl
   |cons x xs=>
    have:=hsub listed x (by rw[hr];simp)
    rw[h0]at this;cases this
  ·rw[h0]at h
   exact hn g st a w h R hD
 |succ fuel ih=>
  intro listed g st a w hsz hl hcl R hD h
  refine⟨fun hr=> ?_,fun i hi=> ?_⟩
  ·exfalso
   obtain⟨i0,hi0⟩:∃i,i∈CJ ord listed:=by
    cases hx:CJ ord listed with
    |nil=>rw[hx]at hl;cases hl
    |cons x xs=>exact⟨x,by simp⟩
   obtain⟨hi0s,hi0f⟩:=hmem listed i0 hi0
   have hne:left ops listed≠ []:=fun e=>by
    have:i0∈left ops listed:=List.mem_filter.2 ⟨by simpa using hi0s,by simp[hi0f]⟩
    rw[e]at this;cases this
   have hpw:List.Pairwise (·<·) (left ops listed):=List.pairwise_lt_range.filter _
   cases hlf:left ops listed with
   |nil=>exact hne hlf
   |cons i rest=>
    have hil:i∈left ops listed:=by rw[hlf];simp
    obtain⟨h1,h2⟩:=List.mem_filter.1 hil
    have his:i<ops.size:=by simpa using h1
    obtain⟨o,ho⟩:∃o,ops[i]?=some o:=⟨_,Array.getElem?_eq_getElem his⟩
    have:i∈Region.ready .any ops listed:=by
     refine List.mem_filter.2 ⟨h1, ?_⟩
     rw[h2,ho]
     simp only[Bool.true_and,Option.map_some,Option.getD_some]
     rw[Array.all_eq_true_iff_forall_mem]
     intro e hem
     cases hb:Region.binds .any e with
     |false=>rfl
     |true=>
      simp only[Bool.not_true,Bool.false_or]
      have hei:=hlt i o (by simpa using ho) e (by simpa using hem) hb
      cases hle:listed.getD e.on false with
      |true=>rfl
      |false=>
       exfalso
       have hel:e.on∈left ops listed:=List.mem_filter.2 ⟨by simp;omega,by rw[ke (by omega),hle];rfl⟩
       rw[hlf]at hel hpw
       rcases List.mem_cons.1 hel with h|h
       ·omega
       ·have:=List.rel_of_pairwise_cons hpw h
        omega
    rw[hr]at this;cases this
  ·have hil:=hsub listed i hi
   obtain⟨his,hif⟩:=hmem listed i hil
   obtain⟨o,ho⟩:∃o,ops[i]?=some o:=⟨_,Array.getElem?_eq_getElem his⟩
   obtain⟨pre,post,hpp⟩:=List.append_of_mem hil
   have hndL:(CJ ord listed).Nodup:=hnd.filter _
   have hpwL:(CJ ord listed).Pairwise fun a b=>WF C ops (gW ops.toList) a b=true:=hpwO.filter _
   rw[hpp]at hndL hpwL
   obtain⟨hn1,hn2,hn3⟩:=List.nodup_append.1 hndL
   have hpre:∀j,j∈pre->j≠i:=fun j hj=>hn3 j hj i (by simp)
   have hpost:∀j,j∈post->j≠i:=fun j hj e=>(List.nodup_cons.1 hn2).1 (e▸hj)
   obtain⟨hq1,hq2,hq3⟩:=List.pairwise_append.1 hpwL
   have hpairs:∀j,j∈pre->WF C ops (gW ops.toList) j i=true:=fun j hj=>hq3 j hj i (by simp)
   have hisz:i<listed.size:=by omega
   have hedge:∀e,e∈o.after.toList->Region.binds .any e=true->listed.getD e.on false=true:=by
    intro e he hb
    have:=(List.mem_filter.1 hi).2
    rw[ho]at this
    simp only[Bool.and_eq_true,Option.map_some,Option.getD_some]at this
    have:=Array.all_eq_true_iff_forall_mem.1 this.2 e (by simpa using he)
    simpa[hb]using this
   have hleft:CJ ord (listed.setIfInBounds i true)=pre++post:=by
    have e1:CJ ord (listed.setIfInBounds i true)=(CJ ord listed).filter fun j=>decide (j≠i):=by
     simp only[CJ,List.filter_filter]
     apply List.filter_congr
     intro j hj
     rw[lH true hisz]
     by_cases hji:j=i
     ·simp[hji]
     ·simp[hji]
    rw[e1,hpp,List.filter_append,List.filter_cons]
    simp only[ne_eq,not_true_eq_false,decide_false,Bool.false_eq_true,if_false]
    rw[List.filter_eq_self.2 (fun j hj=>by simpa using hpre j hj),List.filter_eq_self.2 (fun j hj=>by simpa using hpost j hj)]
   have hlen:(CJ ord (listed.setIfInBounds i true)).length=fuel:=by
    rw[hleft];rw[hpp]at hl;simp at hl⊢;omega
   have hcl':∀(j:Nat) o,ops.toList[j]?=some o->(listed.setIfInBounds i true).getD j false=true->∀e,e∈o.after.toList->Region.binds .any e=true->(listed.setIfInBounds i true).getD e.on false=true:=by
    intro j o' ho' hj e he hb
    rw[lH false hisz]at hj⊢
    split
    ·rfl
    ·by_cases hji:j=i
     ·subst hji
      have:o'=o:=by
       have ho'':ops[j]?=some o':=by simpa using ho'
       rw[ho]at ho'';cases ho'';rfl
      subst this
      exact hedge e he hb
     ·rw[if_neg hji]at hj
      exact hcl j o' ho' hj e he hb
   have ahead_listed:∀j,j∈(gW ops.toList).getD i []->listed.getD j false=true:=fun j hj=>
    Dl (fun j=>listed.getD j false=true) ops.toList hcl hlt i o (by simpa using ho) hedge j hj
   have notAhead:∀j,j∈pre->j∉(gW ops.toList).getD i []:=by
    intro j hj hja
    have h1:=ahead_listed j hja
    obtain⟨hjs,hjf⟩:=hmem listed j (by rw[hpp];simp[hj])
    rw[ke (by omega),h1]at hjf;cases hjf
   have hpair:∀j,j∈pre->i∉(gW ops.toList).getD j []/\∃p,ops[j]?=some p/\T4 ops p o=true/\(kH C ops p o=true\/(iN C o=true/\o.guard=none/\Bb C ops p=true/\apart ops p o=true)):=by
    intro j hj
    have h1:=hpairs j hj
    obtain⟨p,hjp⟩:∃p,ops[j]?=some p:=⟨_,Array.getElem?_eq_getElem (hmem listed j (by rw[hpp];simp[hj])).1⟩
    simp only[WF,hjp,ho,Bool.and_eq_true,Bool.or_eq_true,Bool.not_eq_true',List.contains_eq_mem,decide_eq_false_iff_not,decide_eq_true_eq,Option.isNone_iff_eq_none]at h1
    obtain⟨h1,h2,h3⟩:=h1
    refine⟨h1,p,hjp,h2, ?_⟩
    rcases h3 with(h3|h3)|h3
    ·exact absurd h3 (notAhead j hj)
    ·exact .inl h3
    ·exact .inr ⟨h3.1.1.1,h3.1.1.2,h3.1.2,h3.2⟩
   have nobar:∀j,j∈pre->Dw ops j=false/\Dw ops i=false:=by
    intro j hj
    obtain⟨h1,_⟩:=hpair j hj
    have h2:=notAhead j hj
    have hjs:=(hmem listed j (by rw[hpp];simp[hj])).1
    have hji:=hpre j hj
    constructor
    ·cases hb:Dw ops j with
     |false=>rfl
     |true=>
      have:=List.all_eq_true.1 hb i (by simpa using his)
      simp only[Bool.or_eq_true,List.contains_eq_mem,decide_eq_true_eq]at this
      rcases this with(h3|h3)|h3
      ·exact(hji (Nat.eq_of_beq_eq_true h3).symm).elim
      ·exact(h1 h3).elim
      ·exact(h2 h3).elim
    ·cases hb:Dw ops i with
     |false=>rfl
     |true=>
      have:=List.all_eq_true.1 hb j (by simpa using hjs)
      simp only[Bool.or_eq_true,List.contains_eq_mem,decide_eq_true_eq]at this
      rcases this with(h3|h3)|h3
      ·exact(hji (Nat.eq_of_beq_eq_true h3)).elim
      ·exact(h2 h3).elim
      ·exact(h1 h3).elim
   rw[hpp]at h
   have hrun:∃s,ry C s ops o st (fun st=>zx C ops (CJ ord (listed.setIfInBounds i true)) st k)=some r:=by
    rw[hleft]
    cases hcb:iN C o with
    |true=>
     have hread:∀j,j∈pre->∃p,ops[j]?=some p/\Bb C ops p=true/\apart ops p o=true:=fun j hj=>by
      obtain⟨_,p,h1,_,h2⟩:=hpair j hj
      rcases h2 with h2|⟨_,_,h3,h4⟩
      ·exfalso
       simp only[kH,Lo hcb,Bool.and_eq_true]at h2
       cases hc:tW C p<;>rw[hc]at h2<;>cases h2.2
      ·exact⟨p,h1,h3,h4⟩
     have hplain:∀j,j∈pre->ZB C ops j:=fun j hj=>by
      obtain⟨p,h1,h2,_⟩:=hread j hj
      obtain⟨_,hpc,_⟩:=FU h2
      refine⟨p,h1, ?_,(nobar j hj).1,by rw[hpc];simp⟩
      cases hpb:iN C p with
      |false=>rfl
      |true=>rw[Lo hpb]at hpc;cases hpc
     rw[Ez pre st hplain]at h
     cases hst1:NP C ops pre st with
     |none=>rw[hst1]at h;cases h
     |some st1=>
      rw[hst1]at h
      simp only[Option.bind_some,zx,ho,hcb]at h
      cases hfl:Xp C ops i o st1 with
      |false=>rw[hfl]at h;cases h
      |true=>
       rw[hfl]at h
       simp only[cond_true]at h
       refine⟨false, ?_⟩
       cases hpc:pre with
       |nil=>rw[hpc]at hst1;cases hst1;exact h
       |cons j0 pr=>
        have hg:o.guard=none:=by
         obtain⟨_,p,_,_,h2⟩:=hpair j0 (by rw[hpc];simp)
         rcases h2 with h2|⟨_,h3,_⟩
         ·exfalso
          simp only[kH,Lo hcb,Bool.and_eq_true]at h2
          cases hc:tW C p<;>rw[hc]at h2<;>cases h2.2
         ·exact h3
        rw[<-hpc]
        simp only[Xp,Bool.and_eq_true]at hfl
        obtain⟨⟨⟨f1,f2⟩,f3⟩,f4⟩:=hfl
        rw[List.all_eq_true]at f4
        rw[Wh hcb hg]at h
        cases hst2:ry C false ops o st1 some with
        |none=>rw[hst2]at h;cases h
        |some st2=>
         rw[hst2]at h
         simp only[Option.bind_some]at h
         have hpwA:pre.Pairwise (fun a b=>∀p q,ops[a]?=some p->ops[b]?=some q->T4 ops p q=true):=by
          refine hq1.imp ?_
          intro x y hxy p q hp hq
          simp only[WF,hp,hq,Bool.and_eq_true]at hxy
          exact hxy.2.1
         obtain⟨st',n1,n2⟩:=aen hcb hg pre st st1 st2 hread hpwA hst1 hst2 f1 (fun d hd'=>by rw[hd']at f2;simpa using f2) f3 (fun j hj p hp=>by
          have:=f4 j (by simpa using (hmem listed j (by rw[hpp];simp[hj])).1)
          rw[hp]at this
          simp only[Bool.or_eq_true,List.contains_eq_mem,decide_eq_true_eq]at this
          rcases this with((h3|h3)|h3)|h3
          ·exact absurd (Nat.eq_of_beq_eq_true h3) (hpre j hj)
          ·exact absurd h3 (notAhead j hj)
          ·exact absurd h3 (hpair j hj).1
          ·exact h3)
         rw[Wh hcb hg,n1]
         simp only[Option.bind_some]
         rw[Ez pre st' hplain,n2]
         exact h
    |false=>
     refine⟨!Dw ops i, ?_⟩
     cases hpc:pre with
     |nil=>
      rw[hpc]at h
      simpa only[List.nil_append,zx,ho,hcb]using h
     |cons j0 pr=>
      have hm:∀j,j∈pre->∃p,ops[j]?=some p/\kH C ops p o=true:=fun j hj=>by
       obtain⟨_,p,h1,_,h2⟩:=hpair j hj
       rcases h2 with h2|⟨h3,_⟩
       ·exact⟨p,h1,h2⟩
       ·rw[hcb]at h3;cases h3
      have hcls:∀p,kH C ops p o=true->tW C p≠ .other/\tW C o≠ .other:=by
       intro p hmp
       simp only[kH,Bool.and_eq_true]at hmp
       have h5:=hmp.2
       constructor
       ·intro e;rw[e]at h5;cases h5
       ·intro e;rw[e]at h5;cases hc:tW C p<;>rw[hc]at h5<;>cases h5
      have hplain:∀j,j∈pre->ZB C ops j:=fun j hj=>by
       obtain⟨p,h1,h2⟩:=hm j hj
       refine⟨p,h1, ?_,(nobar j hj).1,(hcls p h2).1⟩
       cases hpb:iN C p with
       |false=>rfl
       |true=>exact absurd (Lo hpb) (hcls p h2).1
      have hj0:j0∈pre:=by rw[hpc];simp
      obtain⟨p0,_,hp0⟩:=hm j0 hj0
      have hoc:=(hcls p0 hp0).2
      rw[<-hpc,(nobar j0 hj0).2,Bool.not_false]
      rw[Ez pre st hplain]at h
      cases hst1:NP C ops pre st with
      |none=>rw[hst1]at h;cases h
      |some st1=>
       rw[hst1]at h
       simp only[Option.bind_some,zx,ho,hcb,(nobar j0 hj0).2,Bool.not_false]at h
       rw[rz hoc]at h
       cases hst2:BR C ops o st1 with
       |none=>rw[hst2]at h;cases h
       |some st2=>
        rw[hst2]at h
        obtain⟨st',n1,n2⟩:=aeo pre st st1 st2 hm hst1 hst2
        rw[rz hoc,n1]
        simp only[Option.bind_some]
        rw[Ez pre st' hplain,n2]
        exact h
   obtain⟨s,hrun⟩:=hrun
   have hop:=uR R hS hrun (next:=wpAny C.P .any ops X fuel (listed.setIfInBounds i true)) (X:=X)
    (fun g' st' a' w' hk R' hD'=>ih _ g' st' a' w' (by simpa using hsz) hlen hcl' R' (hD'.trans hD) hk)
   unfold wpOp
   rw[ho]
   simp only
   split
   ·rename_i hw
    rw[if_pos hw]at hop
    exact .inl hop
   ·rename_i hw
    rw[if_neg hw]at hop
    exact hop
theorem YB(hm:C.P.follows .mixedOrders=true)(hS:∀f c,C.ρ f=some c->ag C f c){id:Nat}{ops:Array Oper}{ord:List Nat}{k:St->Option Q}{r:Q}{X:Exit->Act->World->Prop}
 (R:dG C E g st a.tmps w) (hd:Im C ops ord=true) (h:zx C ops ord st k=some r) (hn:Next C E a.defers k r (X .normal)):(Code.region id ops true).wp C.P X a w:=by
 have hbd:∀i,i∈ord->i<ops.size:=fun i hi=>by
  simp only[Im,Bool.and_eq_true]at hd
  have:=List.all_eq_true.1 hd.1.2 i hi
  simpa using this
 have hall:CJ ord (Array.replicate ops.size false)=ord:=by
  simp only[CJ]
  rw[List.filter_eq_self]
  intro i hi
  have hi:=hbd i hi
  simp[Array.getD_eq_getD_getElem?,hi]
 have hlen:ord.length=ops.size:=by
  simp only[Im,Bool.and_eq_true]at hd
  have hnd:=Ij hd.1.1.2
  have hp:ord.Perm (List.range ops.size):=by
   refine(List.perm_ext_iff_of_nodup hnd List.nodup_range).2 fun x=> ?_
   constructor
   ·intro hx;simpa using hbd x hx
   ·intro hx
    have:=List.all_eq_true.1 hd.1.1.1.2 x hx
    simpa using this
  simpa using hp.length_eq
 refine wp_region_any hm (YH hS hd hn ops.size (Array.replicate ops.size false) g st a _ (by simp) (by rw[hall];exact hlen) ?_ (R.grow (sS.drew w)) rfl ?_)
 ·intro j o ho hj
  exfalso
  simp only[Array.getD_eq_getD_getElem?,Array.getElem?_replicate]at hj
  split at hj<;>cases hj
 ·rw[hall];exact h
end
end Go.Vai
