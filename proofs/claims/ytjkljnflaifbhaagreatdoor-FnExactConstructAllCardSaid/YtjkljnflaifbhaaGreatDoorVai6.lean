/- No conditions. -/
import Derived.Test.YtjkljnflaifbhaaGreatDoorVai5
namespace Go.Vai
open Go
section
variable {C:gY} {g:Gh} {w:World} {Q:Type} {k:AV->Option Q} {r:Q}
theorem aa6{T:TypeId}{x i:AV}{vx vi:Value}(hx:kl g w x vx)(hi:kl g w i vi)(h:Qe C.P T x i k=some r):
 tM C g w (Instr.index T vx vi) k r:=by
 unfold Qe at h
 split at h
 ·rename_i s κ i' hu hci
  have:=oS hi hci;subst this
  have:=hx.v_inv;subst this
  simp only[Option.bind_eq_some_iff]at h
  obtain⟨b,hb,h⟩:=h
  refine tM.v h ?_
  unfold B3 at hb
  simp[Instr.index,asIntOf,an hu,hb]
 ·cases h
def TQ(g:Gh)(w:World):Option AV->Option Value->Prop
 |none,none=>True
 |some a,some v=>kl g w a v
 |_,_=>False
theorem js{P:Program}{κ:IntKind}{i:Int}{y:Nat}(code:BoundsCode)(h0:0<=i)(h1:i<=(y:Int)):
 (Instr.sliceBound (.int κ i) y code).run P w= .ok i.toNat w:=by
 simp[Instr.sliceBound,asIntOf,h0,h1]
theorem On{n:Nat}{lo hi:Option AV}{vlo vhi:Option Value}{q:Nat->Nat->Option Q}(hlo:TQ g w lo vlo)(hhi:TQ g w hi vhi)(h:cutAt n lo hi q=some r):
 ∃a b,q a b=some r/\a<=b/\b<=n/\∀(s:Bool) (cap:Nat),n<=cap->(Instr.sliceBounds s n cap vlo vhi none).run C.P w= .ok (a,b,cap) w:=by
 unfold cutAt at h
 split at h
 ·cases vlo with
  |some _=>exact hlo.elim
  |none=>
   cases vhi with
   |some _=>exact hhi.elim
   |none=>exact⟨0,n,h,Nat.zero_le _,Nat.le_refl _,fun s cap hc=>by simp[Instr.sliceBounds]⟩
 ·cases vhi with
  |some _=>exact hhi.elim
  |none=>
   cases vlo with
   |none=>exact hlo.elim
   |some v=>
    split at h
    ·rename_i κ i hc
     have:=oS hlo hc;subst this
     rcases ep h with⟨h0,h⟩|⟨_,h⟩
     ·rcases ep h with⟨h1,h⟩|⟨_,h⟩
      ·simp only[decide_eq_true_eq]at h0 h1
       exact⟨i.toNat,n,h,by omega,Nat.le_refl _,fun s cap hc=>by simp[Instr.sliceBounds,js _ h0 h1]⟩
      ·cases h
     ·cases h
    ·cases h
 ·cases vlo with
  |some _=>exact hlo.elim
  |none=>
   cases vhi with
   |none=>exact hhi.elim
   |some v=>
    split at h
    ·rename_i κ i hc
     have:=oS hhi hc;subst this
     rcases ep h with⟨h0,h⟩|⟨_,h⟩
     ·rcases ep h with⟨h1,h⟩|⟨_,h⟩
      ·simp only[decide_eq_true_eq]at h0 h1
       exact⟨0,i.toNat,h,Nat.zero_le _,by omega,fun s cap hc=>by
        have h2:i<=(cap:Int):=by omega
        simp[Instr.sliceBounds,js _ h0 h2]⟩
      ·cases h
     ·cases h
    ·cases h
 ·cases vlo with
  |none=>exact hlo.elim
  |some v=>
   cases vhi with
   |none=>exact hhi.elim
   |some v'=>
    split at h
    ·rename_i κ i κ' j hc hc'
     have:=oS hlo hc;subst this
     have:=oS hhi hc';subst this
     rcases ep h with⟨h0,h⟩|⟨_,h⟩
     ·rcases ep h with⟨h1,h⟩|⟨_,h⟩
      ·rcases ep h with⟨h2,h⟩|⟨_,h⟩
       ·simp only[decide_eq_true_eq]at h0 h1 h2
        exact⟨i.toNat,j.toNat,h,by omega,by omega,fun s cap hc=>by
         have h3:j<=(cap:Int):=by omega
         have h4:i<=(j.toNat:Int):=by omega
         have h5:0<=j:=by omega
         simp[Instr.sliceBounds,js _ h5 h3,js _ h0 h4]⟩
       ·cases h
      ·cases h
     ·cases h
    ·cases h
theorem ack{n:Nat}{lo:Option AV}{hi:AV}{vlo vhi:Option Value}{q:Nat->Nat->Option Q}(hlo:TQ g w lo vlo)(hhi:TQ g w (some hi) vhi)(h:cutAt n lo (some hi) q=some r):
 ∃a b,q a b=some r/\a<=b/\b<=n/\∀(s:Bool) (len cap:Nat),n<=cap->(Instr.sliceBounds s len cap vlo vhi none).run C.P w= .ok (a,b,cap) w:=by
 cases vhi with
 |none=>exact hhi.elim
 |some v'=>
  cases lo with
  |none=>
   cases vlo with
   |some _=>exact hlo.elim
   |none=>
    simp only[cutAt]at h
    split at h
    ·rename_i κ i hc
     have:=oS hhi hc;subst this
     rcases ep h with⟨h0,h⟩|⟨_,h⟩
     ·rcases ep h with⟨h1,h⟩|⟨_,h⟩
      ·simp only[decide_eq_true_eq]at h0 h1
       exact⟨0,i.toNat,h,Nat.zero_le _,by omega,fun s len cap hc=>by
        have h2:i<=(cap:Int):=by omega
        simp[Instr.sliceBounds,js _ h0 h2]⟩
      ·cases h
     ·cases h
    ·cases h
  |some lo=>
   cases vlo with
   |none=>exact hlo.elim
   |some v=>
    simp only[cutAt]at h
    split at h
    ·rename_i κ i κ' j hc hc'
     have:=oS hlo hc;subst this
     have:=oS hhi hc';subst this
     rcases ep h with⟨h0,h⟩|⟨_,h⟩
     ·rcases ep h with⟨h1,h⟩|⟨_,h⟩
      ·rcases ep h with⟨h2,h⟩|⟨_,h⟩
       ·simp only[decide_eq_true_eq]at h0 h1 h2
        exact⟨i.toNat,j.toNat,h,by omega,by omega,fun s len cap hc=>by
         have h3:j<=(cap:Int):=by omega
         have h4:i<=(j.toNat:Int):=by omega
         have h5:0<=j:=by omega
         simp[Instr.sliceBounds,js _ h5 h3,js _ h0 h4]⟩
       ·cases h
      ·cases h
     ·cases h
    ·cases h
theorem JX{α:Type}{l:List α}{a b i:Nat}{x:α}(h:((l.take b).drop a)[i]?=some x):l[a+i]?=some x:=by
 rw[List.getElem?_drop,List.getElem?_take]at h
 split at h
 ·exact h
 ·cases h
theorem Uu{a:AV}{v:Value}(h:kl g w a v)(hz:isZero a=true):∃κ,v= .int κ 0:=by
 unfold isZero at hz
 split at hz
 ·exact⟨_,h.v_inv⟩
 ·cases hz
theorem abj{n:Nat}{lo hi mx:AV}{vlo vhi vmx:Option Value}{k:Option Q}{r:Q}(hlo:TQ g w (some lo) vlo)(hhi:TQ g w (some hi) vhi)(hmx:TQ g w (some mx) vmx)(h:Qm n lo hi mx k=some r):
 ∃a b c:Nat,k=some r/\a<=b/\b<=c/\c<=n/\∀(s:Bool) (cap:Nat),n<=cap->(Instr.sliceBounds s n cap vlo vhi vmx).run C.P w= .ok (a,b,c) w:=by
 unfold Qm at h
 cases vlo with
 |none=>exact hlo.elim
 |some v=>
  cases vhi with
  |none=>exact hhi.elim
  |some v'=>
   cases vmx with
   |none=>exact hmx.elim
   |some v''=>
    split at h
    ·rename_i κ i κ' j κ'' m hc hc' hc''
     have:=oS hlo hc;subst this
     have:=oS hhi hc';subst this
     have:=oS hmx hc'';subst this
     rcases ep h with⟨h0,h⟩|⟨_,h⟩
     ·rcases ep h with⟨h1,h⟩|⟨_,h⟩
      ·rcases ep h with⟨h2,h⟩|⟨_,h⟩
       ·rcases ep h with⟨h3,h⟩|⟨_,h⟩
        ·simp only[decide_eq_true_eq]at h0 h1 h2 h3
         exact⟨i.toNat,j.toNat,m.toNat,h,by omega,by omega,by omega,fun s cap hc=>by
          have k1:m<=(cap:Int):=by omega
          have k2:j<=(m.toNat:Int):=by omega
          have k3:i<=(j.toNat:Int):=by omega
          have k4:0<=m:=by omega
          have k5:0<=j:=by omega
          simp[Instr.sliceBounds,js _ k4 k1,js _ k5 k2,js _ h0 k3]⟩
        ·cases h
       ·cases h
      ·cases h
     ·cases h
    ·cases h
theorem abb{em:Bool}{T:TypeId}{x:AV}{vx:Value}{lo hi mx:Option AV}{vlo vhi vmx:Option Value}(hx:kl g w x vx)
 (hlo:TQ g w lo vlo) (hhi:TQ g w hi vhi) (hmx:TQ g w mx vmx) (h:Qf C.P em T x lo hi mx k=some r):
 tM C g w (Instr.sliceAt T vx vlo vhi vmx) k r:=by
 unfold Qf at h
 split at h
 ·rename_i s hu
  have:=hx.v_inv;subst this
  split at h
  ·cases vmx with
   |some _=>exact hmx.elim
   |none=>
    obtain⟨a,b,h,hab,hbn,hs⟩:=On (C:=C) hlo hhi h
    refine tM.v h ?_
    simp[Instr.sliceAt,Instr.slice,an hu,hs false s.size (Nat.le_refl _)]
  ·cases h
 ·rename_i e c hu
  have hc:=hx.one_inv
  split at h
  ·cases h
  ·rename_i t' ht
   have hsz:=sf ht
   split at h
   ·rename_i m
    split at h
    ·rename_i hi'
     split at h
     ·rename_i hz
      simp only[Bool.and_eq_true]at hz
      cases vmx with
      |none=>exact hmx.elim
      |some vm=>
       cases vhi with
       |none=>exact hhi.elim
       |some vh=>
        cases vlo with
        |some _=>exact hlo.elim
        |none=>
         obtain⟨κ,rfl⟩:=Uu hhi hz.1
         obtain⟨κ',rfl⟩:=Uu hmx hz.2
         have run:∀A n cap,(Instr.sliceAt T (.slice A n cap) none (some (.int κ 0)) (some (.int κ' 0))).run C.P w= .ok (.slice A 0 0) w:=by
          intro A n cap
          simp[Instr.sliceAt,Instr.slice,an hu,Instr.sliceBounds,Instr.sliceBound,asIntOf,dL hsz]
         split at h
         ·obtain⟨A,cap,hv,_⟩:=hc.2 (.slot 0 0 0)
          simp only[List.cons.injEq,and_true]at hv
          subst hv
          exact⟨_,_,h,run _ _ _,kl.c ⟨rfl,fun _=>⟨A,rfl⟩⟩⟩
         ·obtain⟨⟨A,cap,hv,_⟩,_⟩:=hc.2 (.slot 0 0 0)
          subst hv
          exact⟨_,_,h,run _ _ _,kl.c ⟨rfl,fun _=>⟨A,rfl⟩⟩⟩
         ·obtain⟨A,hv⟩:=hc.2 (.slot 0 0 0)
          subst hv
          exact⟨_,_,h,run _ _ _,kl.c ⟨rfl,fun _=>⟨A,rfl⟩⟩⟩
         ·cases h
     ·cases h
    ·rename_i lo' hi'
     split at h
     ·rename_i f t l
      split at h
      ·rename_i hts
       obtain⟨a,b,c,h,_,_,_,hs⟩:=abj (C:=C) hlo hhi hmx h
       obtain⟨⟨A,cap,hv,hcap,_⟩,_⟩:=hc.2 (.slot 0 0 0)
       subst hv
       exact⟨_, .slice (if c=a then A else A.map (·.add (a*t'.size))) (b-a) (c-a),h,by simp[Instr.sliceAt,Instr.slice,an hu,hs true cap hcap,dL hsz],kl.c ⟨rfl,fun _=>trivial⟩⟩
      ·cases h
     ·cases h
    ·cases h
   ·cases vmx with
    |some _=>exact hmx.elim
    |none=>
     split at h
     ·rename_i t l
      split at h
      ·rename_i hts
       obtain⟨a,b,h,hab,hbn,hs⟩:=On (C:=C) hlo hhi h
       obtain⟨A,cap,hv,hcap,hl⟩:=hc.2 (.slot 0 0 0)
       simp only[List.cons.injEq,and_true]at hv
       subst hv
       have hlen:((l.take b).drop a).length=b-a:=by simp;omega
       refine⟨_, .slice (if cap=a then A else A.map (·.add (a*t'.size))) (b-a) (cap-a),h, ?_,kl.c ⟨rfl,fun _=>⟨_,_,by rw[hlen],by omega, ?_⟩⟩⟩
       ·simp[Instr.sliceAt,Instr.slice,an hu,hs true cap hcap,dL hsz]
       ·by_cases he:(l.take b).drop a=[]
        ·exact .inl he
        ·refine .inr ?_
         have hne:0<b-a:=by
          rw[<-hlen];exact List.length_pos_iff.2 he
         obtain⟨bk,off,cs,e',fz,rfl,hb,hh,hel⟩:=hl.resolve_left (fun e=>by subst e;simp at he)
         rw[if_neg (by omega)]
         refine⟨bk,off+a*t.size,cs,e',fz,by simp[Addr.add_eq,hts],hb,hh,fun i x hi=> ?_⟩
         have:=hel _ _ (JX hi)
         rwa [Nat.add_mul,<-Nat.add_assoc]at this
      ·cases h
     ·rename_i p f o t l
      split at h
      ·rename_i hts
       have key:(f=true->0<l.length)->cutAt l.length lo hi (fun a b=>k (.c (.view p false (o+a) t ((l.take b).drop a))))=some r->tM C g w (Instr.sliceAt T vx vlo vhi none) k r:=by
        intro hpos h
        obtain⟨a,b,h,hab,hbn,hs⟩:=On (C:=C) hlo hhi h
        obtain⟨⟨A,cap,hv,hcap,hl⟩,hpr⟩:=hc.2 (.slot 0 0 0)
        subst hv
        have hlen:((l.take b).drop a).length=b-a:=by simp;omega
        refine⟨_, .slice (if cap=a then A else A.map (·.add (a*t'.size))) (b-a) (cap-a),h, ?_,kl.c ⟨rfl,fun _=>⟨⟨_,_,by rw[hlen],by rw[hlen];omega, ?_⟩,fun _=> ?_⟩⟩⟩
        ·simp[Instr.sliceAt,Instr.slice,an hu,hs true cap hcap,dL hsz]
        ·by_cases hca:cap=a
         ·exact .inl (by omega)
         ·refine .inr ?_
          obtain⟨bk,off,n,c,cs,e',rfl,hb,_,hh,hsize,hel⟩:=hl.resolve_left (fun e=>by omega)
          rw[if_neg hca]
          have e1:off+o*t.size+a*t.size=off+(o+a)*t.size:=by rw[Nat.add_mul,Nat.add_assoc]
          refine⟨bk,off,n,c,cs,e',by simp[Addr.add_eq,hts,e1],hb,(fun h=>by cases h),hh, ?_,fun i x hi=> ?_⟩
          ·have hmul:a*t.size+(cap-a)*t.size=cap*t.size:=by rw[<-Nat.add_mul];congr 1;omega
           omega
          ·have:=hel _ _ (JX hi)
           rw[<-e1]
           rwa [Nat.add_mul,<-Nat.add_assoc]at this
        ·have e1:∀off,off+o*t.size+a*t.size=off+(o+a)*t.size:=fun off=>by rw[Nat.add_mul,Nat.add_assoc]
         cases f with
         |true=>
          have hp:=hpos rfl
          obtain⟨bk,off,n,c,cs,e',rfl,hb,hf,hh,hsize,hel⟩:=hl.resolve_left (fun e=>by omega)
          obtain⟨rfl,_,rfl⟩:=hf rfl
          refine⟨bk,off,n,c,_,_,_,rfl,hb,by omega, ?_⟩
          by_cases hca:c=a
          ·exact .inl (by omega)
          ·right;rw[if_neg hca];simp[Addr.add_eq,hts]
         |false=>
          obtain⟨bk,off,n,c,A2,len2,cap2,he,hb,hcc,hA⟩:=hpr rfl
          simp only[Value.slice.injEq]at he
          obtain⟨rfl,_,rfl⟩:=he
          refine⟨bk,off,n,c,_,_,_,rfl,hb,by omega, ?_⟩
          by_cases hca:cap=a
          ·exact .inl (by omega)
          ·right
           rcases hA with h0|rfl
           ·omega
           ·rw[if_neg hca];simp[Addr.add_eq,hts,e1]
       split at h
       ·cases hd:decide (0<l.length)with
        |false=>
         rw[hd,cond_false]at h
         cases em<;>try(cases h;done)
         simp only at h
         have h0:l.length=0:=by
          have:=of_decide_eq_false hd
          omega
         obtain⟨a,b,h,hab,hbn,hs⟩:=On (C:=C) hlo hhi h
         obtain⟨⟨A,cap,hv,hcap,hl⟩,hpr⟩:=hc.2 (.slot 0 0 0)
         subst hv
         rw[h0]
         refine⟨_, .slice (if cap=a then A else A.map (·.add (a*t'.size))) (b-a) (cap-a),h, ?_,kl.c ⟨rfl,fun _=>⟨_,_,by rw[show b-a=0 by omega];rfl,Nat.zero_le _, .inl rfl⟩⟩⟩
         simp[Instr.sliceAt,Instr.slice,an hu,hs true cap (Nat.zero_le _),dL hsz]
        |true=>rw[hd]at h;exact key (fun _=>of_decide_eq_true hd) h
       ·exact key (fun e=>by cases e) h
      ·cases h
     ·cases h
 ·cases h
end
end Go.Vai
