/- No conditions. -/
import Derived.Test.YtjkljnflaifbhaaGreatDoorZ3a
namespace Go.Proofs.YtjkljnflaifbhaaGreatDoor
open Go.Vai
theorem aaj{d:Int}(h0:0<=d)(h1:d<16):kd d=some (X5 d):=by
 obtain⟨hv1,hv2⟩:=gX h0 h1
 obtain⟨v1,v2⟩:=wJ h0 h1
 have m1:=mK hv1 hv1 (by decide) (by decide) (by decide) (by decide)
 have m2:=mK hv2 hv2 (by decide) (by decide) (by decide) (by decide)
 have a:=wv (fA (V:=1) (by decide) hv1 hv1) (fA (V:=1) (by decide) hv2 hv2) (by decide) (by decide) (by decide) (by decide) (by decide)
 rw[kd,se,v1]
 simp only[Option.bind_some,bj,dN,cb,cY]
 rw[m1.1,m2.1]
 simp only[Option.bind_some]
 rw[a.1];rfl
def pO(d:Int)(l:Int):Nm:=pQ (fL (l+4)) (fL (d+4))
def ZR(y:Nm):Bool:=
 decide (y.2.2=0)&&((decide (y.1=0)&&decide (y.2.1=0))||
  (decide (y.1*y.1-2*y.2.1*y.2.1≠0)&&(decide ((li 64 (y.1*y.1-2*y.2.1*y.2.1)).1=1)||decide ((li 64 (y.1*y.1-2*y.2.1*y.2.1)).1= -1))&&decide ((li 64 (y.1*y.1-2*y.2.1*y.2.1)).2<=8)&&
    (decide ((2*y.1)*(2*y.1)-2*(2*y.2.1)*(2*y.2.1)≠0)&&(decide ((li 64 ((2*y.1)*(2*y.1)-2*(2*y.2.1)*(2*y.2.1))).1=1)||decide ((li 64 ((2*y.1)*(2*y.1)-2*(2*y.2.1)*(2*y.2.1))).1= -1))&&decide ((li 64 ((2*y.1)*(2*y.1)-2*(2*y.2.1)*(2*y.2.1))).2<=8))))
theorem aeA:((List.range 8).all fun a=>(List.range 8).all fun d=>ZR (pO (d:Int) (a:Int)))=true:=by decide+kernel
theorem ads{d l:Int}(h0:0<=d)(h1:d<8)(h2:0<=l)(h3:l<8):ZR (pO d l)=true:=by
 have h:=List.all_eq_true.1 (List.all_eq_true.1 aeA l.toNat (by simp;omega)) d.toNat (by simp;omega)
 rw[Int.toNat_of_nonneg h0,Int.toNat_of_nonneg h2]at h
 exact h
theorem ace{d l:Int}(h0:0<=d)(h1:d<8)(h2:0<=l)(h3:l<8):Bd 6 0 (pO d l):=
 sw (V:=1) (by decide) (gX (d:=l+4) (by omega) (by omega)) (gX (d:=d+4) (by omega) (by omega))
def uQ(p:Pt)(l:Ln):Nm:=sh l.2 (pQ (fL (l.1+4)) p)
def abP(d:Int)(p:Pt)(l:Ln):Nm:=(LC (ur (uQ p l) (X5 (d+4))) (ku (pO d l.1) (pO d l.1))).1
def Qa(d:Int)(p:Pt)(l:Ln):Ln:=(d,ku (pQ (fL (d+4)) p) (abP d p l))
def EU(x:Nm):Bool:=decide (x.1=0/\x.2.1=0)
def RW(d:Int)(p:Pt)(l:Ln):Ln×Int:=
 cond (EU (pO d l.1)) (cond (EU (uQ p l)) ((0,(0,(0,0))),2) ((0,(0,(0,0))),0)) (Qa d p l,1)
theorem Y7{p:Pt}{l:Ln}(h0:0<=l.1)(h1:l.1<=7)(hl:Bd 131072 10 l.2)(hp:Bd 131072 10 p.1/\Bd 131072 10 p.2):Bd 917504 10 (uQ p l):=
 Bf hl (sw (V:=1) (by decide) (gX (d:=l.1+4) (by omega) (by omega)) hp)
theorem Rt{d:Int}{p:Pt}{l:Ln}(h0:0<=d)(h1:d<8)(hl0:0<=l.1)(hl1:l.1<=7)(hl:Bd 131072 10 l.2)(hp:Bd 131072 10 p.1/\Bd 131072 10 p.2)(hz:EU (pO d l.1)=false):
 ∃t,LC (ur (uQ p l) (X5 (d+4))) (pO d l.1)=(t,true)/\Bd 396361728 18 t/\
  LC (ur (uQ p l) (X5 (d+4))) (ku (pO d l.1) (pO d l.1))=(abP d p l,true)/\Bd 396361728 18 (abP d p l)/\∀y,ku y (sj t)=ku y (abP d p l):=by
 have hg:=ads h0 h1 hl0 (by omega:l.1<8)
 have hy:=ace h0 h1 hl0 (by omega:l.1<8)
 have hr:=Y7 hl0 hl1 hl hp
 have hx:=fA (by decide) hr (GE (d:=d+4) (by omega) (by omega))
 simp only[ZR,Bool.and_eq_true,Bool.or_eq_true,decide_eq_true_eq]at hg
 obtain⟨hy0,hg⟩:=hg
 have hg:=hg.resolve_left (fun e=>by
  unfold EU at hz
  rw[aR e]at hz
  cases hz)
 obtain⟨⟨⟨g1,g2⟩,g3⟩,⟨g4,g5⟩,g6⟩:=hg
 have htw:=afL hy0
 have hy2:Bd 12 0 (ku (pO d l.1) (pO d l.1)):=by
  have:=mB hy hy
  exact this
 obtain⟨t,t1,t2,t3,t4,t5⟩:=Qq (by decide) hx hy (m:=(li 64 ((pO d l.1).1*(pO d l.1).1-2*(pO d l.1).2.1*(pO d l.1).2.1)).1) (t:=(li 64 ((pO d l.1).1*(pO d l.1).1-2*(pO d l.1).2.1*(pO d l.1).2.1)).2) rfl g2 g1
 have e1:(ku (pO d l.1) (pO d l.1)).1=2*(pO d l.1).1:=by rw[htw]
 have e2:(ku (pO d l.1) (pO d l.1)).2.1=2*(pO d l.1).2.1:=by rw[htw]
 obtain⟨s,s1,s2,s3,s4,s5⟩:=Qq (by decide) hx hy2 (m:=(li 64 ((2*(pO d l.1).1)*(2*(pO d l.1).1)-2*(2*(pO d l.1).2.1)*(2*(pO d l.1).2.1))).1) (t:=(li 64 ((2*(pO d l.1).1)*(2*(pO d l.1).1)-2*(2*(pO d l.1).2.1)*(2*(pO d l.1).2.1))).2) (by rw[e1,e2]) g5 (by rw[e1,e2];exact g4)
 have hw:abP d p l=s:=by unfold abP;rw[s1]
 refine⟨t,t1,t3.mono (by decide) (by omega), ?_, ?_, ?_⟩
 ·rw[hw];exact s1
 ·rw[hw];exact s3.mono (by decide) (by omega)
 ·intro y
  rw[hw]
  rw[e1,e2]at s4 s5
  have hN:(((pO d l.1).1*(pO d l.1).1-2*(pO d l.1).2.1*(pO d l.1).2.1:Int):Rat)≠0:=fun e=>g1 (Rat.intCast_inj.1 e)
  have hN2:(((2*(pO d l.1).1)*(2*(pO d l.1).1)-2*(2*(pO d l.1).2.1)*(2*(pO d l.1).2.1):Int):Rat)=4*(((pO d l.1).1*(pO d l.1).1-2*(pO d l.1).2.1*(pO d l.1).2.1:Int):Rat):=by
   have:(2*(pO d l.1).1)*(2*(pO d l.1).1)-2*(2*(pO d l.1).2.1)*(2*(pO d l.1).2.1)=4*((pO d l.1).1*(pO d l.1).1-2*(pO d l.1).2.1*(pO d l.1).2.1):=by grind
   rw[this,Rat.intCast_mul];rfl
  have c2:∀z:Int,((2*z:Int):Rat)=2*(z:Rat):=fun z=>by rw[Rat.intCast_mul];rfl
  rw[hN2,c2,c2]at s4 s5
  refine Am (lE _ _) (lE _ _) ?_ ?_
  ·rw[AQ,AQ,YL t2.1,t4,s4]
   generalize (((pO d l.1).1*(pO d l.1).1-2*(pO d l.1).2.1*(pO d l.1).2.1:Int):Rat)=N at*
   grind
  ·rw[AR,AR,YM t2.1,t5,s5]
   generalize (((pO d l.1).1*(pO d l.1).1-2*(pO d l.1).2.1*(pO d l.1).2.1:Int):Rat)=N at*
   grind
theorem T0{d:Int}{p:Pt}{l:Ln}(h0:0<=d)(h1:d<8)(hl0:0<=l.1)(hl1:l.1<=7)(hl:Bd 131072 10 l.2)(hp:Bd 131072 10 p.1/\Bd 131072 10 p.2)(hz:EU (pO d l.1)=false):Bd 397148160 18 (Qa d p l).2:=by
 obtain⟨t,_,_,_,hw,_⟩:=Rt h0 h1 hl0 hl1 hl hp hz
 have:=mB (sw (V:=1) (by decide) (gX (d:=d+4) (by omega) (by omega)) hp) hw
 exact this.mono (by decide) (by decide)
theorem Lt{d:Int}{p:Pt}{l:Ln}(h0:0<=d)(h1:d<8)(hl0:0<=l.1)(hl1:l.1<=7)(hl:Bd 131072 10 l.2)(hp:Bd 131072 10 p.1/\Bd 131072 10 p.2):
 kE d p l=some (RW d p l)/\lk d p l=some (RW d p l):=by
 have hd0:0<=d+4:=by omega
 have hd1:d+4<16:=by omega
 have hl4:0<=l.1+4:=by omega
 have hl5:l.1+4<16:=by omega
 have hwd:IntKind.wrap .i64 (d+4)=d+4:=aM (by omega) (by omega)
 have hwl:IntKind.wrap .i64 (l.1+4)=l.1+4:=aM (by omega) (by omega)
 have dby:=B1 (d:=l.1+4) hl4 hl5 (by decide) (by decide) (gX hd0 hd1) (by decide)
 have dp:=B1 (d:=l.1+4) hl4 hl5 (by decide) (by decide) hp (by decide)
 have dpd:=B1 (d:=d+4) hd0 hd1 (by decide) (by decide) hp (by decide)
 have hdl:=sw (V:=1) (by decide) (gX hl4 hl5) hp
 have sr:=sL hl hdl (by decide) (by decide) (by decide) (by decide) (by decide)
 have hr:=Y7 hl0 hl1 hl hp
 have hsq:=GE (d:=d+4) hd0 hd1
 have mr:=mK hr hsq (by decide) (by decide) (by decide) (by decide)
 have hx:=fA (by decide) hr hsq
 have hy:=ace h0 h1 hl0 (by omega:l.1<8)
 have ay:=wv hy hy (by decide) (by decide) (by decide) (by decide) (by decide)
 have hy2:Bd 12 0 (ku (pO d l.1) (pO d l.1)):=mB hy hy
 have dv1:=Il hx hy (by decide) (by decide) (by decide) (by decide) (by decide) (by decide)
 have dv2:=Il hx hy2 (by decide) (by decide) (by decide) (by decide) (by decide) (by decide)
 have hbyc:(pO d l.1).can:=lE _ _
 have hrc:(uQ p l).can:=Zo _ _
 have hdpb:=sw (V:=1) (by decide) (gX hd0 hd1) hp
 constructor
 ·rw[kE,vC,hwd,hwl,(wJ hd0 hd1).1]
  simp only[Option.bind_some,bj,dN,cb,cY]
  have dby1:de (l.1+4) ((fL (d+4)).1,(fL (d+4)).2)=some (pO d l.1):=dby.1
  rw[dby1,Option.bind_some,dp.1,Option.bind_some,sr.1,Option.bind_some,TO,Option.bind_some]
  unfold RW
  show cond (EU (pO d l.1)) _ _=_
  cases hz:EU (pO d l.1)
  ·obtain⟨t,w1,w2,w3,w4,w5⟩:=Rt h0 h1 hl0 hl1 hl hp hz
   have hb:=DU (by decide) w2
   have aa:=(wv hdpb hb (by decide) (by decide) (by decide) (by decide) (by decide)).1
   rw[w1]at dv1
   rw[cond_false,cond_false,aaj hd0 hd1,Option.bind_some]
   have mr1:cM (sh l.2 (pQ (fL (l.1+4)) p)) (X5 (d+4))=_:=mr.1
   rw[mr1,Option.bind_some,dv1.1,Option.bind_some,dpd.1,Option.bind_some]
   simp only
   rw[PR t w2.1 (by have:=w2.2.1;omega),Option.bind_some,aa,Option.bind_some,w5]
   rfl
  ·rw[cond_true,cond_true,TO,Option.bind_some]
   show cond (EU (uQ p l)) _ _=_
   cases EU (uQ p l)<;>rfl
 ·rw[lk,tg,hwd,(wJ hd0 hd1).2,cd,dM]
  simp only[Option.bind_some]
  rw[hwl,(wJ hl4 hl5).2]
  simp only[Option.bind_some]
  have dby2:cH (fL (l.1+4)) (fL (d+4))=some (pO d l.1):=dby.2
  have sr2:cy l.2 (pQ (fL (l.1+4)) p)=some (uQ p l):=sr.2
  rw[dby2,Option.bind_some,dp.2,Option.bind_some,sr2,Option.bind_some,U1 hbyc,U1 hrc]
  unfold RW
  show cond (EU (pO d l.1)) (cond (EU (uQ p l)) _ _) _=_
  cases hz:EU (pO d l.1)
  ·obtain⟨t,w1,w2,w3,w4,w5⟩:=Rt h0 h1 hl0 hl1 hl hp hz
   have aa:=(wv hdpb w4 (by decide) (by decide) (by decide) (by decide) (by decide)).2
   rw[w3]at dv2
   rw[cond_false,cond_false,Z3 hd0 hd1,Option.bind_some,mr.2,Option.bind_some,ay.2,Option.bind_some,dv2.2,Option.bind_some]
   simp only[Bool.not_true,cond_false]
   rw[dpd.2,Option.bind_some,aa,Option.bind_some]
   rfl
  ·rw[cond_true,cond_true]
   cases EU (uQ p l)<;>rfl
theorem jN{l:Ln}(h:nR l=true):0<=l.1/\l.1<=7/\Bd 131072 10 l.2/\l.2.can:=by
 simp only[nR,Bool.and_eq_true,decide_eq_true_eq]at h
 exact⟨h.1.1,h.1.2,U2 h.2,adQ h.2⟩
def Tw(p:Pt)(l m:Ln):Ln×Int:=
 cond (pN p&&(nR l&&nR m)) (cond (decide (l.1=m.1)) ((0,(0,(0,0))),7) (V1 (Qa ((m.1+4)%8) p l))) ((0,(0,(0,0))),1)
theorem ZQ:((List.range 8).all fun a=>(List.range 8).all fun m=>decide (a=m)|| !EU (pO (((m:Int)+4)%8) (a:Int)))=true:=by decide+kernel
theorem We{l m:Int}(h0:0<=l)(h1:l<=7)(h2:0<=m)(h3:m<=7)(hne:l≠m):EU (pO ((m+4)%8) l)=false:=by
 have h:=List.all_eq_true.1 (List.all_eq_true.1 ZQ l.toNat (by simp;omega)) m.toNat (by simp;omega)
 rw[Int.toNat_of_nonneg h0,Int.toNat_of_nonneg h2]at h
 simp only[Bool.or_eq_true,decide_eq_true_eq,Bool.not_eq_true']at h
 exact h.resolve_left (fun e=>hne (by omega))
theorem Zi(p:Pt)(l m:Ln):kC p l m=some (Tw p l m):=by
 rw[kC,qy,fJ,fY,fY]
 unfold Tw
 simp only[Option.bind_some]
 cases hp:pN p
 ·rfl
 cases hl:nR l
 ·rfl
 cases hm:nR m
 ·rfl
 have bp:=jr hp
 obtain⟨l0,l1,lb,lc⟩:=jN hl
 obtain⟨m0,m1,mb,mc⟩:=jN hm
 simp only[Bool.not_true,cond_false,Bool.and_self,cond_true,bj,dN,bR,fK,cb,cY,Option.bind_some]
 rw[show(l.1==m.1)=decide (l.1=m.1)from rfl]
 by_cases hd:l.1=m.1
 ·rw[aR hd];rfl
 ·rw[aW hd,cond_false,cond_false,aM (n:=m.1+4) (by omega) (by omega),Int.tmod_eq_emod_of_nonneg (by omega)]
  have hz:=We l0 l1 m0 m1 hd
  have mv:=(Lt (d:=(m.1+4)%8) (by omega) (by omega) l0 l1 lb bp).1
  unfold RW at mv
  rw[hz,cond_false]at mv
  have mv:kE ((m.1+4)%8) (p.1,p.2) (l.1,l.2)=_:=mv
  rw[mv,Option.bind_some]
  have hb:=T0 (d:=(m.1+4)%8) (by omega) (by omega) l0 l1 lb bp hz
  have hi:=Dy hb (by decide) (by decide)
  have so:=Vy (l:=Qa ((m.1+4)%8) p l) (lE _ _) (by have:=hb.2.1;omega) hi.1 hi.2
  simp only
  rw[so]
  rfl
theorem YP(p:Pt)(l m:Ln):ky p l m=some (Tw p l m):=by
 rw[ky,qs,fX,fo,fo]
 unfold Tw
 simp only[Option.bind_some]
 cases hp:pN p
 ·rfl
 cases hl:nR l
 ·rfl
 cases hm:nR m
 ·rfl
 have bp:=jr hp
 obtain⟨l0,l1,lb,lc⟩:=jN hl
 obtain⟨m0,m1,mb,mc⟩:=jN hm
 simp only[Bool.not_true,cond_false,Bool.and_self,cond_true]
 rw[show(l.1==m.1)=decide (l.1=m.1)from rfl]
 by_cases hd:l.1=m.1
 ·rw[aR hd];rfl
 ·rw[aW hd,cond_false,cond_false,aM (n:=m.1+4) (by omega) (by omega),Int.tmod_eq_emod_of_nonneg (by omega)]
  have hz:=We l0 l1 m0 m1 hd
  have mv:=(Lt (d:=(m.1+4)%8) (by omega) (by omega) l0 l1 lb bp).2
  unfold RW at mv
  rw[hz,cond_false]at mv
  rw[mv,Option.bind_some]
  have ir:=Ut (l:=Qa ((m.1+4)%8) p l) (by show 0<=(m.1+4)%8;omega) (by show(m.1+4)%8<=7;omega)
  simp only
  rw[show((1:Int)==1)=true from rfl,ir]
  rfl
def Oz(l:Ln)(p:Pt):Ln×Int:=cond (nR l&&pN p) (V1 (BX p ((l.1+4)%8))) ((0,(0,(0,0))),1)
theorem V8(l:Ln)(p:Pt):eU l p=some (Oz l p):=by
 rw[eU,jy,fY,fJ]
 unfold Oz
 simp only[Option.bind_some]
 cases hl:nR l
 ·rfl
 ·cases hp:pN p
  ·rfl
  ·have hd:=aaP hl
   have hb:=jr hp
   simp only[Bool.not_true,cond_false,Bool.and_self,cond_true,bj,dN,cb,cY,Option.bind_some]
   rw[aM (n:=l.1+4) (by omega) (by omega)]
   have ht:=AJ (V:=131072) (κ:=10) (d:=l.1+4) (p:=p) (by omega) (by omega) (by decide) (by decide) hb (by decide)
   have ht:dJ (p.1,p.2) (l.1+4)=_:=ht
   rw[ht]
   have hdb:=sw (V:=1) (by decide) (gX (d:=(l.1+4)%8+4) (by omega) (by omega)) hb
   have hi:=Dy hdb (by decide) (by decide)
   simp only[Option.bind_some]
   rw[Vy (l:=BX p ((l.1+4)%8)) (lE _ _) (by have:=hdb.2.1;exact Int.le_trans this (by decide)) hi.1 hi.2]
   rfl
theorem VU(l:Ln)(p:Pt):eT l p=some (Oz l p):=by
 rw[eT,jx,fo,fX]
 unfold Oz
 simp only[Option.bind_some]
 cases hl:nR l
 ·rfl
 ·cases hp:pN p
  ·rfl
  ·have hd:=aaP hl
   have hb:=jr hp
   simp only[Bool.not_true,cond_false,Bool.and_self,cond_true]
   rw[aM (n:=l.1+4) (by omega) (by omega),Int.tmod_eq_emod_of_nonneg (by omega)]
   rw[Au (V:=131072) (κ:=10) (d:=(l.1+4)%8) (p:=p) (by omega) (by omega) (by decide) (by decide) hb (by decide)]
   simp only[Option.bind_some]
   rw[Ut (l:=BX p ((l.1+4)%8)) (by show 0<=(l.1+4)%8;omega) (by show(l.1+4)%8<=7;omega)]
   rfl
theorem w1{k:Int}(h0:0<=k)(h1:k<=1000000):IntKind.wrap .i64 (k+1)=k+1:=aM (by omega) (by omega)
theorem sm{α:Type}(q s:List α)(y v:α):List.set (q++y::s) (0+Int.toNat ((q.length:Nat):Int)) v=q++v::s:=by
 rw[X0 rfl,List.append_assoc];rfl
theorem im{α:Type}(q s:List α)(y:α):gq (q++y::s) ((q.length:Nat):Int)=some y:=ix rfl
def abm(l:Ln):Prop:=l.2.can/\l.2.2.2<=1000/\JK l.2.1/\JK l.2.2.1
def T3(l:List Ln):List Ln×Int:=cond (l.all fun x=>BY x.2) (l,0) ([],2)
theorem abH{l:Ln}(h:abm l):jo l=some (cond (BY l.2) (l,true) ((0,(0,(0,0))),false)):=by
 rw[jo,pF,aad h.1 h.2.1 h.2.2.1 h.2.2.2,Option.bind_some]
 cases BY l.2<;>rfl
theorem PP(l:List Ln)(hl:l.length<=1000)(hf:∀x,x∈l->abm x):∀(r p:List Ln),l=p++r->
 (qb (xI l p ((p.length:Nat):Int))).bind (qi iJ (fun e=>some (((e.1.1.1:List Ln),(e.1.2.1.1:Int)):List Ln×Int),fun e=>some ((e.1.2.2.1.1:List Ln),0),()))=
   some (cond (r.all fun x=>BY x.2) (l,0) ([],2))
 |[],p,h=>by
  rw[wm,jD,qJ h,cond_false]
  rw[List.append_nil]at h
  subst h;rfl
 |x::r,p,h=>by
  have hx:=abH (hf x (by rw[h];simp))
  have hlen:p.length+(r.length+1)<=1000:=by rw[h]at hl;simpa using hl
  rw[wm,jD,uM h,cond_true,ix h]
  simp only[Option.bind_some,hx]
  rw[List.all_cons]
  cases hok:BY x.2
  ·rfl
  ·simp only[cond_true,Bool.not_true,cond_false,Bool.true_and,List.length_singleton]
   rw[aR (show(p.length+1)*32<=70368744177664 by omega),aR (show p.length+1<=70368744177664 by omega),cond_true,cond_true,wr h (by omega)]
   exact PP l hl hf r (p++ [x]) (Ya h)
theorem TN(l:List Ln)(hl:l.length<=1000)(hf:∀x,x∈l->abm x):fN l=some (T3 l):=by
 have h:=PP l hl hf l [] rfl
 rw[fN,tJ]
 exact h
theorem aeC(a b:Int):kX a b=some (if a<b then -1 else if a>b then 1 else 0):=by
 rw[kX,nV,kw,ni,kw,ni]
 simp only[bne_self_eq_false,Option.bind_some,cond_false]
 by_cases h:a<b
 ·rw[aR h,cond_true,if_pos h]
 ·rw[aW h,cond_false,if_neg h]
  by_cases h':a>b
  ·rw[aR h',cond_true,if_pos h']
  ·rw[aW h',cond_false,if_neg h']
theorem aeD{x y:Nm}(hx:BY x=true)(hy:BY y=true):∃c,lV x y=some c:=by
 have bx:=U2 hx
 have by':=U2 hy
 have s:=sL bx by' (by decide) (by decide) (by decide) (by decide) (by decide)
 have hb:=(Bf bx by').pow_le (by decide)
 have e:((131072+131072:Int))*2^(max 10 10)=268435456:=by decide
 rw[e]at hb
 rw[lV,pu,s.2,Option.bind_some,(X2 (by omega) (by omega) (by omega) (by omega)).2]
 exact⟨_,rfl⟩
theorem aef{x y:Ln}(hx:BY x.2=true)(hy:BY y.2=true)(hd:x.1≠y.1):kc x y=some (if x.1<y.1 then -1 else 1):=by
 obtain⟨c,hc⟩:=aeD hx hy
 rw[kc,mQ,aeC,Option.bind_some,hc,Option.bind_some,yZ,zI,Ts,sg]
 by_cases h:x.1<y.1
 ·simp only[if_pos h];rfl
 ·have h':x.1>y.1:=by omega
  simp only[if_neg h,if_pos h'];rfl
def R8:List Ln->Prop
 |[]=>True
 |[_]=>True
 |x::y::r=>x.1<y.1/\R8 (y::r)
theorem Y8:∀(l:List Ln) (i:Nat) (x y:Ln),R8 l->l[i]?=some x->l[i+1]?=some y->x.1<y.1
 |[],i,x,y,_,h,_=>by simp at h
 |[a],i,x,y,_,_,h=>by simp at h
 |a::b::r,0,x,y,hr,h,h'=>by
  simp at h h'
  subst h;subst h'
  exact hr.1
 |a::b::r,i+1,x,y,hr,h,h'=>Y8 (b::r) i x y hr.2 (by simpa using h) (by simpa using h')
theorem Vt(l:List Ln)(hl:l.length<=12)(hv:∀x,x∈l->BY x.2=true)(hr:R8 l):∀(n i:Nat),i+n=l.length->1<=i->
 aw (aJ l 0 ((l.length:Nat):Int) ((i:Nat):Int) l)=
  some (.inl (cL l))
 |0,i,h,hi=>by
  rw[bu,au,aW (by omega),cond_false];rfl
 |n+1,i,h,hi=>by
  have IH:=Vt l hl hv hr n (i+1) (by omega) (by omega)
  have hx:l[i]?=some l[i]:=List.getElem?_eq_getElem (by omega)
  have hy:l[i-1]?=some l[i-1]:=List.getElem?_eq_getElem (by omega)
  have hlt:=Y8 l (i-1) l[i-1] l[i] hr hy (by rw[show i-1+1=i by omega];exact hx)
  rw[bu,au,aR (by omega),cond_true,
   cR,aK,aR (by omega),cond_true,zf,hx,Option.bind_some,
   aM (n:=((i:Nat):Int)-1) (by omega) (by omega),show((i:Nat):Int)-1=((i-1:Nat):Int) by omega,zf,hy,Option.bind_some,
   aef (hv _ (List.mem_of_getElem? hx)) (hv _ (List.mem_of_getElem? hy)) (by omega),Option.bind_some,if_neg (by omega)]
  show(some _).bind _=_
  rw[Option.bind_some]
  show aw (aJ l 0 ((l.length:Nat):Int) (IntKind.wrap .i64 (((i:Nat):Int)+1)) l)=_
  rw[aM (n:=((i:Nat):Int)+1) (by omega) (by omega)]
  exact IH
theorem adH{n:Int}(h0:0<=n)(h1:n<=12):∃y,sT (IntKind.wrap .u64 n)=some y:=by
 have:n=0\/n=1\/n=2\/n=3\/n=4\/n=5\/n=6\/n=7\/n=8\/n=9\/n=10\/n=11\/n=12:=by omega
 rcases this with rfl|rfl|rfl|rfl|rfl|rfl|rfl|rfl|rfl|rfl|rfl|rfl|rfl
 ·exact⟨0,by kernel_rfl⟩
 ·exact⟨1,by kernel_rfl⟩
 ·exact⟨2,by kernel_rfl⟩
 ·exact⟨2,by kernel_rfl⟩
 ·exact⟨3,by kernel_rfl⟩
 ·exact⟨3,by kernel_rfl⟩
 ·exact⟨3,by kernel_rfl⟩
 ·exact⟨3,by kernel_rfl⟩
 ·exact⟨4,by kernel_rfl⟩
 ·exact⟨4,by kernel_rfl⟩
 ·exact⟨4,by kernel_rfl⟩
 ·exact⟨4,by kernel_rfl⟩
 ·exact⟨4,by kernel_rfl⟩
theorem ac5(l s:List Ln)(hl:l.length<=12)
 (h:aw (aJ l 0 ((l.length:Nat):Int) 1 l)=some (.inl (cL s))):
 bf l=some s:=by
 obtain⟨y,hy⟩:=adH (n:=((l.length:Nat):Int)) (by omega) (by omega)
 have hi:aZ l 0 ((l.length:Nat):Int)=some s:=by
  rw[aZ,bF,aM (n:=(0:Int)+1) (by decide) (by decide)]
  have h':aw (aJ l 0 ((l.length:Nat):Int) (0+1) l)=_:=h
  rw[h'];rfl
 rw[bf,bI,hy,Option.bind_some]
 simp only[decide_true,cond_true]
 rw[bT,bU,mS,bi,
  aM (n:=((l.length:Nat):Int)-0) (by omega) (by omega),aR (by omega),hi]
 simp only[decide_true,cond_true,Option.bind_some]
 rfl
theorem RG(l:List Ln)(hl:l.length<=1000):aU l=some (!(l.all fun x=>nR x)):=by
 have loop:∀(r p:List Ln),l=p++r->(aP (bv l ((l.length:Nat):Int) ((p.length:Nat):Int))).bind
  (qi az (fun e=>some (decide ((e.1.1.1:Int)>=0)),fun _=>some (decide ((-1:Int)>=0)),()))=some (!(r.all fun x=>nR x)):=by
  intro r
  induction r with
  |nil=>
   intro p h
   rw[eK,aN,qJ h,cond_false];rfl
  |cons x r ih=>
   intro p h
   rw[eK,aN,uM h,cond_true,ix h,Option.bind_some,mH,mP,fo,
    Option.bind_some,Option.bind_some,List.all_cons]
   cases nR x
   ·show some (decide (((p.length:Nat):Int)>=0))=_
    rw[aR (by omega)];rfl
   ·simp only[Bool.not_true,cond_false,Bool.true_and]
    rw[wr h (by omega)]
    exact ih (p++ [x]) (Ya h)
 have h:=loop l [] rfl
 rw[aU,bo,bA,bD]
 refine Eq.trans ?_ h
 cases aP (bv l ((l.length:Nat):Int) 0)with
 |none=>rfl
 |some z=>
  match z with
  | .inl z=>rfl
  | .inr (.inl z)=>rfl
theorem De(l:List Ln)(hl:l.length<=12)(hd:∀x,x∈l->0<=x.1/\x.1<=7)(hr:R8 l):cP l=some (T3 l):=by
 have e:(l.all fun x=>nR x)=(l.all fun x=>BY x.2):=by
  rw[Bool.eq_iff_iff,List.all_eq_true,List.all_eq_true]
  constructor
  ·intro h x hx
   have:=h x hx
   simp only[nR,Bool.and_eq_true]at this
   exact this.2
  ·intro h x hx
   have:=hd x hx
   simp only[nR,Bool.and_eq_true,decide_eq_true_eq]
   exact⟨⟨this.1,this.2⟩,h x hx⟩
 rw[cP,mn,RG l (by omega),Option.bind_some,e]
 unfold T3
 cases hv:l.all fun x=>BY x.2
 ·rfl
 ·simp only[Bool.not_true,cond_false,decide_true,cond_true]
  have hv':∀x,x∈l->BY x.2=true:=fun x hx=>List.all_eq_true.1 hv x hx
  rw[ac5 l l hl ?_]
  ·rfl
  ·cases hc:l.length with
   |zero=>
    have:l=[]:=List.length_eq_zero_iff.1 hc
    subst this
    rw[bu,au,aW (by decide),cond_false];rfl
   |succ n=>
    have:=Vt l hl hv' hr n 1 (by omega) (by omega)
    rw[hc]at this
    exact this
theorem XX(x y:Ln)(hx:0<=x.1/\x.1<=7)(hy:0<=y.1/\y.1<=7)(h:y.1<x.1):cP [x,y]=some (T3 [y,x]):=by
 have e:([x,y].all fun x=>nR x)=([y,x].all fun x=>BY x.2):=by
  simp only[List.all_cons,List.all_nil,Bool.and_true,nR,aR hx.1,aR hx.2,aR hy.1,aR hy.2,Bool.true_and,Bool.and_self]
  exact Bool.and_comm _ _
 rw[cP,mn,RG [x,y] (by simp),Option.bind_some,e]
 unfold T3
 cases hv: [y,x].all fun x=>BY x.2
 ·rfl
 ·simp only[Bool.not_true,cond_false,decide_true,cond_true]
  have hv':∀z,z∈ [y,x]->BY z.2=true:=fun z hz=>List.all_eq_true.1 hv z hz
  have hvx:=hv' x (by simp)
  have hvy:=hv' y (by simp)
  rw[ac5 [x,y] [y,x] (by simp) ?_]
  ·rfl
  ·rw[bu,au,aR (by simp),cond_true,
    cR,aK,aR (by decide),cond_true,
    show gq [x,y] (1:Int)=some y from rfl,Option.bind_some,aM (n:=(1:Int)-1) (by decide) (by decide),show gq [x,y] ((1:Int)-1)=some x from rfl,Option.bind_some,
    aef hvy hvx (by omega),Option.bind_some,if_pos h,aR (by decide),cond_true,Option.bind_some,Option.bind_some,Option.bind_some,
    show gq (List.set [x,y] (0+Int.toNat 1) x) ((1:Int)-1)=some x from rfl,Option.bind_some,
    cR,aK,aW (by decide),cond_false]
   show(some _).bind _=_
   rw[Option.bind_some]
   show aw (aJ [y,x] 0 2 (IntKind.wrap .i64 (1+1)) [y,x])=_
   rw[aM (n:=(1:Int)+1) (by decide) (by decide),bu,au,aW (by decide),cond_false];rfl
def aeE(v w:Pt):Nm:=sh (ur v.1 w.2) (ur v.2 w.1)
def Yz(a b:Int):Nm:=aeE (fL (a+4)) (fL (b+4))
def TB(y:Nm):Bool:=
 decide (y.1*y.1-2*y.2.1*y.2.1≠0)&&(decide ((li 64 (y.1*y.1-2*y.2.1*y.2.1)).1=1)||decide ((li 64 (y.1*y.1-2*y.2.1*y.2.1)).1= -1))&&decide ((li 64 (y.1*y.1-2*y.2.1*y.2.1)).2<=8)
theorem adv:((List.range 8).all fun a=>(List.range 8).all fun b=>decide (a=b)||TB (Yz (a:Int) (b:Int)))=true:=by decide+kernel
theorem YA{a b:Int}(h0:0<=a)(h1:a<=7)(h2:0<=b)(h3:b<=7)(hne:a≠b){P:Prop}(_hp:P):TB (Yz a b)=true:=by
 have h:=List.all_eq_true.1 (List.all_eq_true.1 adv a.toNat (by simp;omega)) b.toNat (by simp;omega)
 rw[Int.toNat_of_nonneg h0,Int.toNat_of_nonneg h2]at h
 simp only[Bool.or_eq_true,decide_eq_true_eq]at h
 rcases h with h|h
 ·omega
 ·exact h
theorem ZU{a b:Int}(h0:0<=a)(h1:a<=7)(h2:0<=b)(h3:b<=7):Bd 6 0 (Yz a b):=by
 obtain⟨v1,v2⟩:=gX (d:=a+4) (by omega) (by omega)
 obtain⟨w1,w2⟩:=gX (d:=b+4) (by omega) (by omega)
 exact Bf (fA (by decide) v1 w2) (fA (by decide) v2 w1)
def aaJ(l m:Ln):Nm:=sh (ur l.2 (fL (m.1+4)).2) (ur m.2 (fL (l.1+4)).2)
def aaK(l m:Ln):Nm:=sh (ur m.2 (fL (l.1+4)).1) (ur l.2 (fL (m.1+4)).1)
def oA(l m:Ln):Pt:=((LC (aaJ l m) (Yz l.1 m.1)).1,(LC (aaK l m) (Yz l.1 m.1)).1)
theorem UK{l m:Ln}(hl:nR l=true)(hm:nR m=true):Bd 786432 10 (aaJ l m)/\Bd 786432 10 (aaK l m):=by
 obtain⟨l0,l1,lb,_⟩:=jN hl
 obtain⟨m0,m1,mb,_⟩:=jN hm
 obtain⟨v1,v2⟩:=gX (d:=l.1+4) (by omega) (by omega)
 obtain⟨w1,w2⟩:=gX (d:=m.1+4) (by omega) (by omega)
 exact⟨Bf (fA (by decide) lb w2) (fA (by decide) mb v2),Bf (fA (by decide) mb v1) (fA (by decide) lb w1)⟩
theorem TJ{x y:Nm}(hx:Bd 786432 10 x)(hy:Bd 6 0 y)(hg:TB y=true):LC x y=((LC x y).1,true)/\Bd 14155776 18 (LC x y).1:=by
 simp only[TB,Bool.and_eq_true,Bool.or_eq_true,decide_eq_true_eq]at hg
 obtain⟨⟨g1,g2⟩,g3⟩:=hg
 obtain⟨t,t1,t2,t3,_,_⟩:=Qq (by decide) hx hy (m:=(li 64 (y.1*y.1-2*y.2.1*y.2.1)).1) (t:=(li 64 (y.1*y.1-2*y.2.1*y.2.1)).2) rfl g2 g1
 rw[t1]
 exact⟨rfl,t3.mono (by decide) (by omega)⟩
theorem UJ{l m:Ln}(hl:nR l=true)(hm:nR m=true)(hne:l.1≠m.1){P:Prop}(hp:P):Bd 14155776 18 (oA l m).1/\Bd 14155776 18 (oA l m).2:=by
 obtain⟨l0,l1,_,_⟩:=jN hl
 obtain⟨m0,m1,_,_⟩:=jN hm
 have hg:=YA l0 l1 m0 m1 hne hp
 have hd:=ZU l0 l1 m0 m1
 have hb:=UK hl hm
 exact⟨(TJ hb.1 hd hg).2,(TJ hb.2 hd hg).2⟩
theorem Zg{l m:Ln}(hl:nR l=true)(hm:nR m=true)(_hne:l.1≠m.1){P:Prop}(_hp:P):mI l m=some (oA l m):=by
 obtain⟨l0,l1,lb,_⟩:=jN hl
 obtain⟨m0,m1,mb,_⟩:=jN hm
 obtain⟨v1,v2⟩:=gX (d:=l.1+4) (by omega) (by omega)
 obtain⟨w1,w2⟩:=gX (d:=m.1+4) (by omega) (by omega)
 have hd:=ZU l0 l1 m0 m1
 have hb:=UK hl hm
 have a1:=(mK v1 w2 (by decide) (by decide) (by decide) (by decide)).1
 have a2:=(mK v2 w1 (by decide) (by decide) (by decide) (by decide)).1
 have a3:=(sL (fA (by decide) v1 w2) (fA (by decide) v2 w1) (by decide) (by decide) (by decide) (by decide) (by decide)).1
 have b1:=(mK lb w2 (by decide) (by decide) (by decide) (by decide)).1
 have b2:=(mK mb v2 (by decide) (by decide) (by decide) (by decide)).1
 have b3:=(sL (fA (by decide) lb w2) (fA (by decide) mb v2) (by decide) (by decide) (by decide) (by decide) (by decide)).1
 have c1:=(mK mb v1 (by decide) (by decide) (by decide) (by decide)).1
 have c2:=(mK lb w1 (by decide) (by decide) (by decide) (by decide)).1
 have c3:=(sL (fA (by decide) mb v1) (fA (by decide) lb w1) (by decide) (by decide) (by decide) (by decide) (by decide)).1
 have d1:=(Il hb.1 hd (by decide) (by decide) (by decide) (by decide) (by decide) (by decide)).1
 have d2:=(Il hb.2 hd (by decide) (by decide) (by decide) (by decide) (by decide) (by decide)).1
 unfold aaJ Yz aeE at d1
 unfold aaK Yz aeE at d2
 rw[mI,vu,aM (n:=l.1+4) (by omega) (by omega),aM (n:=m.1+4) (by omega) (by omega),(wJ (d:=l.1+4) (by omega) (by omega)).1,(wJ (d:=m.1+4) (by omega) (by omega)).1]
 simp only[Option.bind_some,bj,dN,cb,cY]
 rw[a1,Option.bind_some,a2,Option.bind_some,a3,Option.bind_some,b1,Option.bind_some,b2,Option.bind_some,b3,Option.bind_some,d1,Option.bind_some,c1,Option.bind_some,c2,Option.bind_some,c3,Option.bind_some,d2,Option.bind_some]
 rfl
theorem YO{l m:Ln}(hl:nR l=true)(hm:nR m=true)(hne:l.1≠m.1){P:Prop}(hp:P):lT l m=some (oA l m,true):=by
 obtain⟨l0,l1,lb,_⟩:=jN hl
 obtain⟨m0,m1,mb,_⟩:=jN hm
 obtain⟨v1,v2⟩:=gX (d:=l.1+4) (by omega) (by omega)
 obtain⟨w1,w2⟩:=gX (d:=m.1+4) (by omega) (by omega)
 have hd:=ZU l0 l1 m0 m1
 have hg:=YA l0 l1 m0 m1 hne hp
 have hb:=UK hl hm
 have a1:=(mK v1 w2 (by decide) (by decide) (by decide) (by decide)).2
 have a2:=(mK v2 w1 (by decide) (by decide) (by decide) (by decide)).2
 have a3:=(sL (fA (by decide) v1 w2) (fA (by decide) v2 w1) (by decide) (by decide) (by decide) (by decide) (by decide)).2
 have b1:=(mK lb w2 (by decide) (by decide) (by decide) (by decide)).2
 have b2:=(mK mb v2 (by decide) (by decide) (by decide) (by decide)).2
 have b3:=(sL (fA (by decide) lb w2) (fA (by decide) mb v2) (by decide) (by decide) (by decide) (by decide) (by decide)).2
 have c1:=(mK mb v1 (by decide) (by decide) (by decide) (by decide)).2
 have c2:=(mK lb w1 (by decide) (by decide) (by decide) (by decide)).2
 have c3:=(sL (fA (by decide) mb v1) (fA (by decide) lb w1) (by decide) (by decide) (by decide) (by decide) (by decide)).2
 have q1:=(TJ hb.1 hd hg).1
 have q2:=(TJ hb.2 hd hg).1
 have d1:=(Il hb.1 hd (by decide) (by decide) (by decide) (by decide) (by decide) (by decide)).2
 have d2:=(Il hb.2 hd (by decide) (by decide) (by decide) (by decide) (by decide) (by decide)).2
 rw[q1]at d1
 rw[q2]at d2
 have a3':cy (ur (fL (l.1+4)).1 (fL (m.1+4)).2) (ur (fL (l.1+4)).2 (fL (m.1+4)).1)=some (Yz l.1 m.1):=a3
 have b3':cy (ur l.2 (fL (m.1+4)).2) (ur m.2 (fL (l.1+4)).2)=some (aaJ l m):=b3
 have c3':cy (ur m.2 (fL (l.1+4)).1) (ur l.2 (fL (m.1+4)).1)=some (aaK l m):=c3
 rw[lT,rI,cd,dM,cd,dM]
 try simp only
 rw[aM (n:=l.1+4) (by omega) (by omega),aM (n:=m.1+4) (by omega) (by omega),(wJ (d:=l.1+4) (by omega) (by omega)).2,(wJ (d:=m.1+4) (by omega) (by omega)).2]
 simp only[Option.bind_some,ig,mm]
 rw[a1,Option.bind_some,a2,Option.bind_some,a3',Option.bind_some,Option.bind_some,b1,Option.bind_some,b2,Option.bind_some,b3',Option.bind_some,d1,Option.bind_some,c1,Option.bind_some,c2,Option.bind_some,c3',Option.bind_some,d2,Option.bind_some]
 rfl
theorem aeF(a b:Ln):((a.1==b.1)&&(((a.2.1==b.2.1)&&((a.2.2.1==b.2.2.1)&&((a.2.2.2==b.2.2.2)&&true)))&&true))=decide (a=b):=by
 obtain⟨a1,a2,a3,a4⟩:=a
 obtain⟨b1,b2,b3,b4⟩:=b
 rw[Bool.eq_iff_iff]
 simp only[Bool.and_eq_true,beq_iff_eq,decide_eq_true_eq,Prod.mk.injEq,and_true]
def JZ(l m:Ln):Ln:=(l.1,low ((ku l.2 m.2).2.2.toNat+1) (ku l.2 m.2).1 (ku l.2 m.2).2.1)
def aan(l m:Ln):List Ln:=cond (decide ((l.1+m.1)/2<=3)) [BX (oA l m) ((l.1+m.1)/2),BX (oA l m) ((l.1+m.1)/2+4)] [BX (oA l m) ((l.1+m.1)/2-4),BX (oA l m) ((l.1+m.1)/2)]
def XD(l m:Ln):List Ln×Int:=
 cond (nR l&&nR m) (cond (decide (l=m)) ([],7) (cond (decide (l.1=m.1)) (T3 [JZ l m]) (cond (decide ((l.1+m.1)%2=0)) (T3 (aan l m)) ([],0)))) ([],1)
theorem TF{p:Pt}(hp:Bd 14155776 18 p.1/\Bd 14155776 18 p.2){d:Int}(h0:0<=d)(h1:d<8):abm (BX p d):=by
 have hb:=sw (V:=1) (by decide) (gX (d:=d+4) (by omega) (by omega)) hp
 have hi:=Dy hb (by decide) (by decide)
 exact⟨lE _ _,by have:=hb.2.1;exact Int.le_trans this (by decide),hi.1,hi.2⟩
theorem adW(x:Ln):mF [] x=some [x]:=by
 rw[mF,tK,AL,ln]
 rfl
theorem adX(x y:Ln)(hne:x.1≠y.1):mF [x] y=some (cond (decide (x.1>y.1)) [y,x] [x,y]):=by
 rw[mF,tK,AL,ln,aR (by simp),cond_true,show((([x]:List Ln).length:Nat):Int)=1 from rfl,aM (n:=(1:Int)-1) (by decide) (by decide),
  show gq [x] ((1:Int)-1)=some x from rfl]
 simp only[Option.bind_some]
 by_cases h:x.1>y.1
 ·rw[aR h,cond_true,cond_true,AL,ln]
  rfl
 ·rw[aW h,cond_false,cond_false,show(x.1==y.1)=false by simpa using hne,cond_false]
  rfl
theorem X3{l m:Ln}(hl:nR l=true)(hm:nR m=true):fN [(l.1,sj (ku l.2 m.2))]=some (T3 [JZ l m]):=by
 obtain⟨l0,l1,lb,_⟩:=jN hl
 obtain⟨m0,m1,mb,_⟩:=jN hm
 have hb:=mB lb mb
 have hh:=DU (by decide) hb
 have hi:=Dy hh (by decide) (by decide)
 have hk:=hh.1
 have hk':=hh.2.1
 have lo:=Lz (a:=(sj (ku l.2 m.2)).1) (b:=(sj (ku l.2 m.2)).2.1) hk (Int.le_trans hk' (by decide)) hi.1 hi.2
 have e:(sj (ku l.2 m.2)).2.2.toNat=(ku l.2 m.2).2.2.toNat+1:=by
  have:=hb.1
  show((ku l.2 m.2).2.2+1).toNat=_;omega
 rw[e]at lo
 have hn:eW (sj (ku l.2 m.2))=some (cond (BY (JZ l m).2) ((JZ l m).2,true) ((0,(0,0)),false)):=by
  rw[eW,qN]
  have lo':iv (sj (ku l.2 m.2))=some (JZ l m).2:=lo
  rw[lo']
  simp only[Option.bind_some,Lc]
  cases BY (JZ l m).2<;>rfl
 have hx:jo (l.1,sj (ku l.2 m.2))=some (cond (BY (JZ l m).2) (JZ l m,true) ((0,(0,(0,0))),false)):=by
  rw[jo,pF,hn,Option.bind_some]
  cases BY (JZ l m).2<;>rfl
 rw[fN,tJ,wm,jD,aR (by simp),cond_true,show gq [(l.1,sj (ku l.2 m.2))] (0:Int)=some (l.1,sj (ku l.2 m.2))from rfl,Option.bind_some,hx,Option.bind_some]
 unfold T3
 simp only[List.all_cons,List.all_nil,Bool.and_true]
 cases BY (JZ l m).2
 ·rfl
 ·simp only[cond_true,Bool.not_true,cond_false]
  rw[aR (by simp),aR (by simp),cond_true,cond_true,aM (n:=(0:Int)+1) (by decide) (by decide),wm,jD,aW (by simp),cond_false]
  rfl
theorem afj(a:Int)(h0:0<=a):(Int.tmod a 2==1)=decide (a%2=1):=by
 rw[Int.tmod_eq_emod_of_nonneg h0];rfl
theorem aal(l m:Ln):lX l m=some (XD l m):=by
 rw[lX,rY,fY,fY]
 unfold XD
 simp only[Option.bind_some]
 cases hl:nR l
 ·rfl
 cases hm:nR m
 ·rfl
 obtain⟨l0,l1,lb,_⟩:=jN hl
 obtain⟨m0,m1,mb,_⟩:=jN hm
 rw[aeF]
 simp only[Bool.not_true,cond_false,Bool.and_self,cond_true]
 by_cases he:l=m
 ·rw[aR he];rfl
 ·rw[aW he,cond_false,cond_false]
  simp only[bR,fK,cb,cY,Option.bind_some]
  by_cases hd:l.1=m.1
  ·rw[show(l.1==m.1)=true by simpa using hd,aR hd,cond_true,cond_true]
   have hb:=mB lb mb
   rw[(wv lb mb (by decide) (by decide) (by decide) (by decide) (by decide)).1,Option.bind_some,PR _ hb.1 (Int.le_trans hb.2.1 (by decide)),Option.bind_some,List.nil_append,X3 hl hm]
   rfl
  ·rw[show(l.1==m.1)=false by simpa using hd,aW hd,cond_false,cond_false,aM (n:=l.1+m.1) (by omega) (by omega),Zr]
   by_cases hp:(l.1+m.1)%2=0
   ·have hb:=UJ hl hm hd hp
    rw[aR hp,cond_true,cond_true,Zg hl hm hd hp,Option.bind_some,Int.tdiv_eq_ediv_of_nonneg (by omega),aM (n:=(l.1+m.1)/2) (by omega) (by omega),aM (n:=(l.1+m.1)/2+4) (by omega) (by omega),
     AJ (by omega) (by omega) (by decide) (by decide) hb (by decide),Option.bind_some,adW,Option.bind_some,AJ (by omega) (by omega) (by decide) (by decide) hb (by decide),Option.bind_some,
     adX _ _ (show(l.1+m.1)/2%8≠((l.1+m.1)/2+4)%8 by omega),Option.bind_some]
    have hlist:cond (decide ((BX (oA l m) ((l.1+m.1)/2%8)).1>(BX (oA l m) (((l.1+m.1)/2+4)%8)).1)) [BX (oA l m) (((l.1+m.1)/2+4)%8),BX (oA l m) ((l.1+m.1)/2%8)] [BX (oA l m) ((l.1+m.1)/2%8),BX (oA l m) (((l.1+m.1)/2+4)%8)]=aan l m:=by
     unfold aan
     rw[show(l.1+m.1)/2%8=(l.1+m.1)/2 by omega]
     by_cases h3:(l.1+m.1)/2<=3
     ·rw[aR h3,cond_true,show((l.1+m.1)/2+4)%8=(l.1+m.1)/2+4 by omega,aW (show¬(BX (oA l m) ((l.1+m.1)/2)).1>(BX (oA l m) ((l.1+m.1)/2+4)).1 from(by show¬(l.1+m.1)/2>(l.1+m.1)/2+4;omega))];rfl
     ·rw[aW h3,cond_false,show((l.1+m.1)/2+4)%8=(l.1+m.1)/2-4 by omega,aR (show(BX (oA l m) ((l.1+m.1)/2)).1>(BX (oA l m) ((l.1+m.1)/2-4)).1 from(by show(l.1+m.1)/2>(l.1+m.1)/2-4;omega))];rfl
    rw[hlist,TN (aan l m) (by unfold aan;cases decide ((l.1+m.1)/2<=3)<;>simp) ?_]
    ·rfl
    ·intro x hx
     unfold aan at hx
     by_cases h3:(l.1+m.1)/2<=3
     ·rw[aR h3,cond_true]at hx
      simp only[List.mem_cons,List.not_mem_nil,or_false]at hx
      rcases hx with rfl|rfl
      ·exact TF hb (by omega) (by omega)
      ·exact TF hb (by omega) (by omega)
     ·rw[aW h3,cond_false]at hx
      simp only[List.mem_cons,List.not_mem_nil,or_false]at hx
      rcases hx with rfl|rfl
      ·exact TF hb (by omega) (by omega)
      ·exact TF hb (by omega) (by omega)
   ·rw[aW hp,cond_false,cond_false,TN [] (by simp) (fun x hx=>(List.not_mem_nil hx).elim)]
    rfl
theorem Z5(l m:Ln):lQ l m=some (XD l m):=by
 rw[lQ,rG,fo,fo]
 unfold XD
 simp only[Option.bind_some]
 cases hl:nR l
 ·rfl
 cases hm:nR m
 ·rfl
 obtain⟨l0,l1,lb,_⟩:=jN hl
 obtain⟨m0,m1,mb,_⟩:=jN hm
 rw[aeF]
 simp only[Bool.not_true,cond_false,Bool.and_self,cond_true]
 by_cases he:l=m
 ·rw[aR he];rfl
 ·rw[aW he,cond_false,cond_false,aM (n:=l.1+m.1) (by omega) (by omega),afj _ (by omega)]
  by_cases hd:l.1=m.1
  ·rw[aW (show¬(l.1+m.1)%2=1 by omega),cond_false,show(l.1==m.1)=true by simpa using hd,aR hd,cond_true,cond_true]
   have hb:=mB lb mb
   rw[(wv lb mb (by decide) (by decide) (by decide) (by decide) (by decide)).2,Option.bind_some,J3 hb (by decide) (by decide) (by decide),Option.bind_some]
   have h:=De [JZ l m] (by simp) (fun x hx=>by simp only[List.mem_cons,List.not_mem_nil,or_false]at hx;subst hx;exact⟨l0,l1⟩) trivial
   have h':cP [(l.1,low ((ku l.2 m.2).2.2.toNat+1) (ku l.2 m.2).1 (ku l.2 m.2).2.1)]=_:=h
   rw[h'];rfl
  ·by_cases hp:(l.1+m.1)%2=0
   ·have hb:=UJ hl hm hd hp
    rw[aW (show¬(l.1+m.1)%2=1 by omega),cond_false,show(l.1==m.1)=false by simpa using hd,aW hd,cond_false,cond_false,aR hp,cond_true,YO hl hm hd hp,Option.bind_some]
    simp only[Bool.not_true,cond_false]
    rw[Int.tdiv_eq_ediv_of_nonneg (by omega),aM (n:=(l.1+m.1)/2) (by omega) (by omega),aM (n:=(l.1+m.1)/2+4) (by omega) (by omega),Int.tmod_eq_emod_of_nonneg (by omega),
     Au (by omega) (by omega) (by decide) (by decide) hb (by decide),Option.bind_some,Au (by omega) (by omega) (by decide) (by decide) hb (by decide),Option.bind_some]
    unfold aan
    by_cases h3:(l.1+m.1)/2<=3
    ·rw[aR h3,cond_true,show((l.1+m.1)/2+4)%8=(l.1+m.1)/2+4 by omega,
      De [BX (oA l m) ((l.1+m.1)/2),BX (oA l m) ((l.1+m.1)/2+4)] (by simp) (fun x hx=>by
       simp only[List.mem_cons,List.not_mem_nil,or_false]at hx
       rcases hx with rfl|rfl
       ·exact⟨by show 0<=(l.1+m.1)/2;omega,by show(l.1+m.1)/2<=7;omega⟩
       ·exact⟨by show 0<=(l.1+m.1)/2+4;omega,by show(l.1+m.1)/2+4<=7;omega⟩) ⟨by show(l.1+m.1)/2<(l.1+m.1)/2+4;omega,trivial⟩]
     rfl
    ·rw[aW h3,cond_false,show((l.1+m.1)/2+4)%8=(l.1+m.1)/2-4 by omega,
      XX (BX (oA l m) ((l.1+m.1)/2)) (BX (oA l m) ((l.1+m.1)/2-4)) ⟨by show 0<=(l.1+m.1)/2;omega,by show(l.1+m.1)/2<=7;omega⟩
       ⟨by show 0<=(l.1+m.1)/2-4;omega,by show(l.1+m.1)/2-4<=7;omega⟩ (by show(l.1+m.1)/2-4<(l.1+m.1)/2;omega)]
     rfl
   ·rw[aR (show(l.1+m.1)%2=1 by omega),cond_true,aW hd,cond_false,aW hp,cond_false]
def Jk(p:Pt)(l:Ln)(q:Pt)(m:Ln)(d:Int):List Ln:=
 cond (EU (pO d l.1))
  (cond (EU (uQ p l)) (cond (EU (pO d m.1)) [] [Qa d q m]) [])
  (cond (EU (pO d m.1)) (cond (EU (uQ q m)) [Qa d p l] []) (cond (decide (Qa d p l=Qa d q m)) [Qa d p l] []))
def nk(p:Pt)(l:Ln)(q:Pt)(m:Ln):Nat->Int->List Ln
 |0,_=>[]
 |n+1,d=>Jk p l q m d++nk p l q m n (d+1)
theorem BT(p:Pt)(l:Ln)(q:Pt)(m:Ln)(d:Int):Jk p l q m d=[]\/∃x,Jk p l q m d=[x]/\((x=Qa d p l/\EU (pO d l.1)=false)\/(x=Qa d q m/\EU (pO d m.1)=false)):=by
 unfold Jk
 cases h1:EU (pO d l.1)
 ·cases h2:EU (pO d m.1)
  ·simp only[cond_false]
   cases decide (Qa d p l=Qa d q m)
   ·exact .inl rfl
   ·exact .inr ⟨_,rfl, .inl ⟨rfl,trivial⟩⟩
  ·simp only[cond_false,cond_true]
   cases EU (uQ q m)
   ·exact .inl rfl
   ·exact .inr ⟨_,rfl, .inl ⟨rfl,trivial⟩⟩
 ·simp only[cond_true]
  cases EU (uQ p l)
  ·exact .inl rfl
  ·cases h2:EU (pO d m.1)
   ·exact .inr ⟨_,rfl, .inr ⟨rfl,rfl⟩⟩
   ·exact .inl rfl
theorem Lh(p:Pt)(l:Ln)(q:Pt)(m:Ln):∀(n:Nat) (d:Int) (x:Ln),x∈nk p l q m n d->∃e,d<=e/\e<d+n/\x.1=e/\((x=Qa e p l/\EU (pO e l.1)=false)\/(x=Qa e q m/\EU (pO e m.1)=false))
 |0,d,x,h=>(List.not_mem_nil h).elim
 |n+1,d,x,h=>by
  rcases List.mem_append.1 h with h|h
  ·rcases BT p l q m d with e|⟨y,e,hy⟩
   ·rw[e]at h;cases h
   ·rw[e]at h
    simp only[List.mem_cons,List.not_mem_nil,or_false]at h
    subst h
    refine⟨d,Int.le_refl _,by omega, ?_,hy⟩
    rcases hy with⟨rfl,_⟩|⟨rfl,_⟩<;>rfl
  ·obtain⟨e,h1,h2,h3⟩:=Lh p l q m n (d+1) x h
   exact⟨e,by omega,by omega,h3⟩
theorem EP(p:Pt)(l:Ln)(q:Pt)(m:Ln):∀(n:Nat) (d:Int),(nk p l q m n d).length<=n
 |0,d=>Nat.le_refl _
 |n+1,d=>by
  have:=EP p l q m n (d+1)
  rcases BT p l q m d with e|⟨y,e,_⟩
  ·simp only[nk,e,List.nil_append];omega
  ·simp only[nk,e,List.length_append,List.length_singleton];omega
theorem Va{x:Ln}:∀{l:List Ln},(∀y,y∈l->x.1<y.1)->R8 l->R8 (x::l)
 |[],_,_=>trivial
 |y::r,h,hr=>⟨h y (by simp),hr⟩
theorem MT(p:Pt)(l:Ln)(q:Pt)(m:Ln):∀(n:Nat) (d:Int),R8 (nk p l q m n d)
 |0,d=>trivial
 |n+1,d=>by
  have ih:=MT p l q m n (d+1)
  rcases BT p l q m d with e|⟨y,e,hy⟩
  ·simp only[nk,e,List.nil_append];exact ih
  ·simp only[nk,e,List.singleton_append]
   refine Va (fun z hz=> ?_) ih
   obtain⟨e,h1,_,h3,_⟩:=Lh p l q m n (d+1) z hz
   have:y.1=d:=by rcases hy with⟨rfl,_⟩|⟨rfl,_⟩<;>rfl
   omega
section
variable {p q:Pt} {l m:Ln} (hp:pN p=true) (hl:nR l=true) (hq:pN q=true) (hm:nR m=true)
include hp hl hq hm
theorem VG{d:Int}(h0:0<=d)(h1:d<8)(acc:List Ln)(hacc:acc.length<=1000){R:Type}(nx:fH.T->Option R)(hx:mA R gG):
 ki nx hx acc d p.1.1 p.1.2.1 p.1.2.2 p.2.1 p.2.2.1 p.2.2.2 l.1 l.2.1 l.2.2.1 l.2.2.2 q.1.1 q.1.2.1 q.1.2.2 q.2.1 q.2.2.1 q.2.2.2 m.1 m.2.1 m.2.2.1 m.2.2.2=
  nx (bH (acc++Jk p l q m d) (d+1) p.1.1 p.1.2.1 p.1.2.2 p.2.1 p.2.2.1 p.2.2.2 l.1 l.2.1 l.2.2.1 l.2.2.2 q.1.1 q.1.2.1 q.1.2.2 q.2.1 q.2.2.1 q.2.2.2 m.1 m.2.1 m.2.2.1 m.2.2.2):=by
 obtain⟨l0,l1,lb,_⟩:=jN hl
 obtain⟨m0,m1,mb,_⟩:=jN hm
 have bp:=jr hp
 have bq:=jr hq
 have mv1:=(Lt h0 h1 l0 l1 lb bp).1
 have mv2:=(Lt h0 h1 m0 m1 mb bq).1
 have k1:decide ((acc.length+1)*32<=70368744177664)=true:=aR (by omega)
 have k2:decide (acc.length+1<=70368744177664)=true:=aR (by omega)
 rw[ki,aR h1,cond_true,aM (n:=d+1) (by omega) (by omega)]
 simp only[bR,fK,bj,dN,cb,cY,Option.bind_some]
 rw[mv1,Option.bind_some,mv2,Option.bind_some]
 unfold RW Jk
 cases z1:EU (pO d l.1)
 ·cases z2:EU (pO d m.1)
  ·have b1:=T0 h0 h1 l0 l1 lb bp z1
   have b2:=T0 h0 h1 m0 m1 mb bq z2
   have sb:=(sL b1 b2 (by decide) (by decide) (by decide) (by decide) (by decide)).1
   have hz:=X6 (x:=(Qa d p l).2) (y:=(Qa d q m).2) (lE _ _) (lE _ _)
   have hz':decide ((sh (Qa d p l).2 (Qa d q m).2).1=0/\(sh (Qa d p l).2 (Qa d q m).2).2.1=0)=decide (Qa d p l=Qa d q m):=by
    rw[Bool.eq_iff_iff,decide_eq_true_eq,decide_eq_true_eq,hz]
    exact⟨fun h=>Prod.ext rfl h,fun h=>by rw[h]⟩
   simp only[cond_false,show((1:Int)==1)=true from rfl,show((1:Int)==2)=false from rfl,cond_true,sb,Option.bind_some,TO,hz']
   cases decide (Qa d p l=Qa d q m)
   ·simp only[cond_false,List.append_nil]
   ·simp only[cond_true,List.length_singleton,k1,k2]
  ·cases EU (uQ q m)
   ·simp only[cond_false,cond_true,show((1:Int)==1)=true from rfl,show((0:Int)==2)=false from rfl,show((1:Int)==2)=false from rfl,show((0:Int)==1)=false from rfl,List.append_nil]
   ·simp only[cond_false,cond_true,show((1:Int)==1)=true from rfl,show((2:Int)==2)=true from rfl,List.length_singleton,k1,k2]
 ·cases EU (uQ p l)
  ·cases z2:EU (pO d m.1)<;>cases EU (uQ q m)<;>
    simp only[cond_false,cond_true,show((0:Int)==1)=false from rfl,show((0:Int)==2)=false from rfl,List.append_nil]
  ·cases z2:EU (pO d m.1)
   ·simp only[cond_false,cond_true,show((2:Int)==1)=false from rfl,show((2:Int)==2)=true from rfl,show((1:Int)==1)=true from rfl,List.length_singleton,k1,k2]
   ·cases EU (uQ q m)<;>
     simp only[cond_false,cond_true,show((2:Int)==1)=false from rfl,show((0:Int)==1)=false from rfl,show((2:Int)==2)=true from rfl,List.append_nil]
theorem VF{d:Int}(h0:0<=d)(h1:d<8)(acc:List Ln)(hacc:acc.length<=1000){R:Type}(nx:fG.T->Option R)(hx:mA R gF):
 kh nx hx acc d p.1.1 p.1.2.1 p.1.2.2 p.2.1 p.2.2.1 p.2.2.2 l.1 l.2.1 l.2.2.1 l.2.2.2 q.1.1 q.1.2.1 q.1.2.2 q.2.1 q.2.2.1 q.2.2.2 m.1 m.2.1 m.2.2.1 m.2.2.2=
  nx (dd (acc++Jk p l q m d) (d+1) p.1.1 p.1.2.1 p.1.2.2 p.2.1 p.2.2.1 p.2.2.2 l.1 l.2.1 l.2.2.1 l.2.2.2 q.1.1 q.1.2.1 q.1.2.2 q.2.1 q.2.2.1 q.2.2.2 m.1 m.2.1 m.2.2.1 m.2.2.2):=by
 obtain⟨l0,l1,lb,_⟩:=jN hl
 obtain⟨m0,m1,mb,_⟩:=jN hm
 have bp:=jr hp
 have bq:=jr hq
 have mv1:=(Lt h0 h1 l0 l1 lb bp).2
 have mv2:=(Lt h0 h1 m0 m1 mb bq).2
 have k1:decide ((acc.length+1)*32<=70368744177664)=true:=aR (by omega)
 have k2:decide (acc.length+1<=70368744177664)=true:=aR (by omega)
 rw[kh,aR h1,cond_true,aM (n:=d+1) (by omega) (by omega)]
 rw[mv1,Option.bind_some,mv2,Option.bind_some]
 unfold RW Jk
 cases z1:EU (pO d l.1)
 ·cases z2:EU (pO d m.1)
  ·simp only[cond_false,show((1:Int)==0)=false from rfl,show((1:Int)==2)=false from rfl,show((1:Int)==3)=false from rfl,aeF]
   cases decide (Qa d p l=Qa d q m)
   ·simp only[cond_false,List.append_nil]
   ·simp only[cond_true,List.length_singleton,k1,k2]
  ·cases EU (uQ q m)
   ·simp only[cond_false,cond_true,show((1:Int)==0)=false from rfl,show((0:Int)==0)=true from rfl,List.append_nil]
   ·simp only[cond_false,cond_true,show((1:Int)==0)=false from rfl,show((2:Int)==0)=false from rfl,show((1:Int)==2)=false from rfl,show((1:Int)==3)=false from rfl,
     show((2:Int)==3)=false from rfl,show((2:Int)==2)=true from rfl,List.length_singleton,k1,k2]
 ·cases EU (uQ p l)
  ·cases z2:EU (pO d m.1)<;>cases EU (uQ q m)<;>
    simp only[cond_false,cond_true,show((0:Int)==0)=true from rfl,List.append_nil]
  ·cases z2:EU (pO d m.1)
   ·simp only[cond_false,cond_true,show((2:Int)==0)=false from rfl,show((1:Int)==0)=false from rfl,show((2:Int)==2)=true from rfl,show((1:Int)==2)=false from rfl,
     show((2:Int)==3)=false from rfl,show((1:Int)==3)=false from rfl,List.length_singleton,k1,k2]
   ·cases EU (uQ q m)
    ·simp only[cond_false,cond_true,show((2:Int)==0)=false from rfl,show((0:Int)==0)=true from rfl,List.append_nil]
    ·simp only[cond_false,cond_true,show((2:Int)==0)=false from rfl,show((2:Int)==2)=true from rfl,List.append_nil]
theorem MV:∀(n:Nat) (d:Int) (acc:List Ln),0<=d->d+n=8->acc.length<=900-n->
 oP (bH acc d p.1.1 p.1.2.1 p.1.2.2 p.2.1 p.2.2.1 p.2.2.2 l.1 l.2.1 l.2.2.1 l.2.2.2 q.1.1 q.1.2.1 q.1.2.2 q.2.1 q.2.2.1 q.2.2.2 m.1 m.2.1 m.2.2.1 m.2.2.2)=some (.inl (DJ (acc++nk p l q m n d)))
 |0,d,acc,h0,h1,ha=>by
  rw[Ge,ki,aW (by omega),cond_false]
  simp only[nk,List.append_nil];rfl
 |n+1,d,acc,h0,h1,ha=>by
  rw[Ge,VG hp hl hq hm h0 (by omega) acc (by omega)]
  have hlen:(Jk p l q m d).length<=1:=by
   rcases BT p l q m d with e|⟨y,e,_⟩<;>rw[e]<;>simp
  refine(MV n (d+1) (acc++Jk p l q m d) (by omega) (by omega) (by simp only[List.length_append];omega)).trans ?_
  rw[nk,List.append_assoc]
theorem MU:∀(n:Nat) (d:Int) (acc:List Ln),0<=d->d+n=8->acc.length<=900-n->
 oO (dd acc d p.1.1 p.1.2.1 p.1.2.2 p.2.1 p.2.2.1 p.2.2.2 l.1 l.2.1 l.2.2.1 l.2.2.2 q.1.1 q.1.2.1 q.1.2.2 q.2.1 q.2.2.1 q.2.2.2 m.1 m.2.1 m.2.2.1 m.2.2.2)=some (.inr (.inl (DE (acc++nk p l q m n d))))
 |0,d,acc,h0,h1,ha=>by
  rw[Ga,kh,aW (by omega),cond_false]
  simp only[nk,List.append_nil];rfl
 |n+1,d,acc,h0,h1,ha=>by
  rw[Ga,VF hp hl hq hm h0 (by omega) acc (by omega)]
  have hlen:(Jk p l q m d).length<=1:=by
   rcases BT p l q m d with e|⟨y,e,_⟩<;>rw[e]<;>simp
  refine(MU n (d+1) (acc++Jk p l q m d) (by omega) (by omega) (by simp only[List.length_append];omega)).trans ?_
  rw[nk,List.append_assoc]
end
def aea(p:Pt)(l:Ln)(q:Pt)(m:Ln):List Ln×Int:=cond (pN p&&(nR l&&(pN q&&nR m))) (T3 (nk p l q m 8 0)) ([],1)
theorem Sf{p q:Pt}{l m:Ln}(hp:pN p=true)(hl:nR l=true)(hq:pN q=true)(hm:nR m=true)(x:Ln)(hx:x∈nk p l q m 8 0):abm x/\0<=x.1/\x.1<=7:=by
 obtain⟨l0,l1,lb,_⟩:=jN hl
 obtain⟨m0,m1,mb,_⟩:=jN hm
 obtain⟨e,h1,h2,h3,h4⟩:=Lh p l q m 8 0 x hx
 refine⟨?_,by omega,by omega⟩
 rcases h4 with⟨rfl,hz⟩|⟨rfl,hz⟩
 ·have hb:=T0 (by omega) (by omega) l0 l1 lb (jr hp) hz
  have hi:=Dy hb (by decide) (by decide)
  exact⟨lE _ _,by have:=hb.2.1;exact Int.le_trans this (by decide),hi.1,hi.2⟩
 ·have hb:=T0 (by omega) (by omega) m0 m1 mb (jr hq) hz
  have hi:=Dy hb (by decide) (by decide)
  exact⟨lE _ _,by have:=hb.2.1;exact Int.le_trans this (by decide),hi.1,hi.2⟩
theorem ac7(p:Pt)(l:Ln)(q:Pt)(m:Ln):oZ p l q m=some (aea p l q m):=by
 rw[oZ,vo,fY,fY,fJ,fJ]
 unfold aea
 simp only[Option.bind_some]
 cases hp:pN p
 ·rfl
 cases hl:nR l
 ·rfl
 cases hq:pN q
 ·rfl
 cases hm:nR m
 ·rfl
 simp only[Bool.not_true,cond_false,Bool.and_self,cond_true]
 rw[MV hp hl hq hm 8 0 [] (by decide) (by decide) (by simp),List.nil_append]
 have h:=TN (nk p l q m 8 0) (Nat.le_trans (EP p l q m 8 0) (by decide)) (fun x hx=>(Sf hp hl hq hm x hx).1)
 show(fN (nk p l q m 8 0)).bind _=_
 rw[h];rfl
theorem acx(p:Pt)(l:Ln)(q:Pt)(m:Ln):oT p l q m=some (aea p l q m):=by
 rw[oT,uV,fo,fo,fX,fX]
 unfold aea
 simp only[Option.bind_some]
 cases hp:pN p
 ·rfl
 cases hl:nR l
 ·rfl
 cases hq:pN q
 ·rfl
 cases hm:nR m
 ·rfl
 simp only[Bool.not_true,cond_false,Bool.and_self,cond_true]
 rw[MU hp hl hq hm 8 0 [] (by decide) (by decide) (by simp),List.nil_append]
 have h:=De (nk p l q m 8 0) (Nat.le_trans (EP p l q m 8 0) (by decide)) (fun x hx=>(Sf hp hl hq hm x hx).2) (MT p l q m 8 0)
 show cond (decide True) ((cP (nk p l q m 8 0)).bind _) none=_
 rw[aR trivial,cond_true,h];rfl
theorem Zq{V V':Int}{κ κ':Nat}{v:Pt}{x:Nm}(hv:Bd V κ v.1/\Bd V κ v.2)(hx:Bd V' κ' x)(hV:0<=V)(hκ:κ+κ'<=1000)(h1:V*2^κ<=2305843009213693952)(h2:3*(V*V')*2^(κ+κ')<=4611686018427387904):
 jI v x=some (VC v x):=by
 rw[jI,py,(mK hv.1 hx hV hκ h1 h2).2,(mK hv.2 hx hV hκ h1 h2).2];rfl
def FW(l:Ln)(p:Pt):Pt:=
 WM p (VC (fL (l.1+4)) (ku (LD (sqT (l.1+4)) (sh l.2 (pQ (fL (l.1+4)) p)) (X5 (l.1+4))) (LD (sqT (l.1+4)) (sh l.2 (pQ (fL (l.1+4)) p)) (X5 (l.1+4)))))
theorem WT(t:Nat)(p n a b s:Nm):sh p (ur (ku (LD t (sh a b) s) (LD t (sh a b) s)) n)=ku p (ur n (ku (LD t (sh b a) s) (LD t (sh b a) s))):=by
 refine Am (Ba _ _ _) (Ba _ _ _) ?_ ?_
 ·rw[IR,AQ,TG,TG,AQ,AQ,AR,AR,TD,TD,TE,TE,IR,IR,IS,IS]
  have:=bM t
  grind
 ·rw[IS,AR,TH,TH,AQ,AQ,AR,AR,TD,TD,TE,TE,IR,IR,IS,IS]
  have:=bM t
  grind
theorem KL{V:Int}{κ:Nat}{l:Ln}{p:Pt}(h0:0<=l.1)(h1:l.1<=7)(hl:Bd 786432 10 l.2)(hV:0<=V)(hκ:10<=κ)(hp:Bd V κ p.1/\Bd V κ p.2):Bd (V+72*(786432+6*V)) (κ+3) (FW l p).1/\Bd (V+72*(786432+6*V)) (κ+3) (FW l p).2:=by
 have hd0:0<=l.1+4:=by omega
 have hd1:l.1+4<16:=by omega
 have hdot:=sw (V:=1) (by decide) (gX hd0 hd1) hp
 have hsub:=Bf hl hdot
 have hdiv:=Ot (by omega) hsub (GE hd0 hd1) (Vz hd0 hd1)
 have hadd:=mB hdiv hdiv
 have ht:=Rr (V:=1) (by decide) (gX hd0 hd1) hadd
 have:=acT hp ht
 exact⟨this.1.mono (by omega) (by omega),this.2.mono (by omega) (by omega)⟩
theorem Ew{V:Int}{κ:Nat}{l:Ln}{p:Pt}(h0:0<=l.1)(h1:l.1<=7)(hl:Bd 786432 10 l.2)(hV:0<=V)(hκ:10<=κ)(hκ':κ<=50)(hp:Bd V κ p.1/\Bd V κ p.2)(h:(V+72*(786432+6*V))*2^(κ+3)<=4611686018427387904):
 jg l p=some (FW l p)/\dS l p=some (FW l p):=by
 have hd0:0<=l.1+4:=by omega
 have hd1:l.1+4<16:=by omega
 have hp8:(2:Int)^(κ+3)=8*2^κ:=by rw[Int.pow_add];grind
 have hVp:0<=V*2^κ:=Int.mul_nonneg hV (Int.le_of_lt (Int.pow_pos (by decide)))
 have hpp:(0:Int)<2^κ:=Int.pow_pos (by decide)
 have eh:(V+72*(786432+6*V))*2^(κ+3)=3464*(V*2^κ)+452984832*2^κ:=by rw[hp8];grind
 rw[eh]at h
 have hdot:=sw (V:=1) (by decide) (gX hd0 hd1) hp
 have okdot:=B1 (d:=l.1+4) hd0 hd1 hV (by omega) hp (by have:6*V*2^κ=6*(V*2^κ):=Int.mul_assoc .. ;omega)
 have hdot:Bd (6*V) κ (pQ (fL (l.1+4)) p):=hdot.mono (by omega) (by omega)
 have hmax:max 10 κ=κ:=by omega
 have hmax2:max κ 10=κ:=by omega
 have e1:(786432+6*V)*2^κ=786432*2^κ+6*(V*2^κ):=by grind
 have s1:=sL hl hdot (by decide) (by omega) (by decide) (by omega) (by rw[hmax,e1];omega)
 have s2:=sL hdot hl (by omega) (by decide) (by omega) (by decide) (by rw[hmax2,Int.add_comm,e1];omega)
 have hs1:=Bf hl hdot
 have hs2:=Bf hdot hl
 rw[hmax]at hs1
 rw[hmax2,Int.add_comm]at hs2
 have e4:3*((786432+6*V)*4)*2^(κ+0)=12*((786432+6*V)*2^κ):=by rw[Nat.add_zero];grind
 have d1:=Il hs1 (GE hd0 hd1) (by omega) (by decide) (by decide) (by omega) (by rw[e1];omega) (by rw[e4,e1];omega)
 have d2:=Il hs2 (GE hd0 hd1) (by omega) (by decide) (by decide) (by omega) (by rw[e1];omega) (by rw[e4,e1];omega)
 rw[aaS hd0 hd1]at d1 d2
 have b1:=Ot (by omega) hs1 (GE hd0 hd1) (Vz hd0 hd1)
 have b2:=Ot (by omega) hs2 (GE hd0 hd1) (Vz hd0 hd1)
 have e5:(12*(786432+6*V)+12*(786432+6*V))*2^(κ+3)=192*((786432+6*V)*2^κ):=by rw[hp8];grind
 have a1:=wv b1 b1 (by omega) (by omega) (by omega) (by omega) (by rw[Nat.max_self,e5,e1];omega)
 have a2:=wv b2 b2 (by omega) (by omega) (by omega) (by omega) (by rw[Nat.max_self,e5,e1];omega)
 have c1:=mB b1 b1
 have c2:=mB b2 b2
 rw[Nat.max_self]at c1 c2
 obtain⟨v1,v2⟩:=gX hd0 hd1
 have e6:3*((12*(786432+6*V)+12*(786432+6*V))*1)*2^(κ+3+0)=576*((786432+6*V)*2^κ):=by rw[Nat.add_zero,hp8];grind
 have e7:3*(1*(12*(786432+6*V)+12*(786432+6*V)))*2^(0+(κ+3))=576*((786432+6*V)*2^κ):=by rw[Nat.zero_add,hp8];grind
 have m1:=mK c2 v1 (by omega) (by omega) (by rw[e5,e1];omega) (by rw[e6,e1];omega)
 have m2:=mK c2 v2 (by omega) (by omega) (by rw[e5,e1];omega) (by rw[e6,e1];omega)
 have t1:=Zq (gX hd0 hd1) c1 (by decide) (by omega) (by decide) (by rw[e7,e1];omega)
 have tb:=Rr (V:=1) (by decide) (gX hd0 hd1) c1
 have mb1:=fA (by omega) c2 v1
 have mb2:=fA (by omega) c2 v2
 have e8:(V+3*((12*(786432+6*V)+12*(786432+6*V))*1))*2^(κ+3)=8*(V*2^κ)+576*((786432+6*V)*2^κ):=by rw[hp8];grind
 have e9:(V+3*(1*(12*(786432+6*V)+12*(786432+6*V))))*2^(κ+3)=8*(V*2^κ)+576*((786432+6*V)*2^κ):=by rw[hp8];grind
 have hm1:max κ (κ+3+0)=κ+3:=by omega
 have hm2:max κ (0+(κ+3))=κ+3:=by omega
 have f1:=sL hp.1 mb1 hV (by omega) (by omega) (by omega) (by rw[hm1,e8,e1];omega)
 have f2:=sL hp.2 mb2 hV (by omega) (by omega) (by omega) (by rw[hm1,e8,e1];omega)
 have p1:=XQ hp tb hV (by omega) (by omega) (by omega) (by rw[hm2,e9,e1];omega)
 have hw:IntKind.wrap .i64 (l.1+4)=l.1+4:=aM (by omega) (by omega)
 constructor
 ·rw[jg,qz,hw,(wJ hd0 hd1).1]
  simp only[Option.bind_some,bj,dN,cb,cY]
  rw[okdot.1,Option.bind_some,s2.1,Option.bind_some,aaj hd0 hd1,Option.bind_some,d2.1,Option.bind_some]
  try simp only
  rw[a2.1,Option.bind_some,m1.1,Option.bind_some,m2.1,Option.bind_some,jC,pW,f1.1,Option.bind_some,f2.1,Option.bind_some,Option.bind_some,WT,WT]
  rfl
 ·rw[dS,nX,cd,dM]
  try simp only
  rw[hw,(wJ hd0 hd1).2]
  simp only[Option.bind_some]
  rw[okdot.2,Option.bind_some,s1.2,Option.bind_some,Z3 hd0 hd1,Option.bind_some,d1.2,Option.bind_some]
  try simp only
  rw[a1.2,Option.bind_some,t1,Option.bind_some,p1]
  rfl
end Go.Proofs.YtjkljnflaifbhaaGreatDoor
namespace Go.Proofs.YtjkljnflaifbhaaGreatDoor
open Go.Vai
def VZ(l:Ln)(p:Pt):Nm:=sh (pQ (fL (l.1+4)) p) l.2
theorem ad2{V:Int}{κ:Nat}{l:Ln}{p:Pt}(h0:0<=l.1)(h1:l.1<=7)(hl:Bd 131072 10 l.2)(hV:0<=V)(hκ:10<=κ)(hκ':κ<=50)(hp:Bd V κ p.1/\Bd V κ p.2)(h:(131072+6*V)*2^κ<=4611686018427387904):
 rn l p=fE (VZ l p)/\ka l p=ew (VZ l p):=by
 have hd0:0<=l.1+4:=by omega
 have hd1:l.1+4<16:=by omega
 have hpp:(0:Int)<2^κ:=Int.pow_pos (by decide)
 have e1:(131072+6*V)*2^κ=131072*2^κ+6*V*2^κ:=Int.add_mul ..
 have okdot:=B1 (d:=l.1+4) hd0 hd1 hV (by omega) hp (by omega)
 have hdot:=sw (V:=1) (by decide) (gX hd0 hd1) hp
 have hdot:Bd (6*V) κ (pQ (fL (l.1+4)) p):=hdot.mono (by omega) (by omega)
 have hmax:max κ 10=κ:=by omega
 have s:=sL hdot hl (by omega) (by decide) (by omega) (by decide) (by rw[hmax,Int.add_comm];exact h)
 have hw:IntKind.wrap .i64 (l.1+4)=l.1+4:=aM (by omega) (by omega)
 constructor
 ·rw[rn,vv,hw,okdot.1,Option.bind_some,s.1,Option.bind_some]
  show(fE (VZ l p)).bind (fun y=>some y)=_
  cases fE (VZ l p)<;>rfl
 ·rw[ka,rJ,cd,dM]
  try simp only
  rw[hw,(wJ hd0 hd1).2]
  simp only[Option.bind_some]
  rw[okdot.2,Option.bind_some,s.2,Option.bind_some]
  show(ew (VZ l p)).bind (fun y=>some y)=_
  cases ew (VZ l p)<;>rfl
def Gj(p:Pt)(l:Ln)(q:Pt)(d:Int):Bool:=decide ((VZ l (FW (BX q d) p)).1=0/\(VZ l (FW (BX q d) p)).2.1=0)
def jm(p:Pt)(l:Ln)(q:Pt):Nat->Int->List Ln
 |0,_=>[]
 |n+1,d=>cond (Gj p l q d) [BX q d] []++jm p l q n (d+1)
theorem Gz(p:Pt)(l:Ln)(q:Pt):∀(n:Nat) (d:Int) (x:Ln),x∈jm p l q n d->∃e,d<=e/\e<d+n/\x=BX q e
 |0,d,x,h=>(List.not_mem_nil h).elim
 |n+1,d,x,h=>by
  rcases List.mem_append.1 h with h|h
  ·cases hb:Gj p l q d
   ·rw[hb]at h;cases h
   ·rw[hb,cond_true]at h
    simp only[List.mem_cons,List.not_mem_nil,or_false]at h
    exact⟨d,Int.le_refl _,by omega,h⟩
  ·obtain⟨e,h1,h2,h3⟩:=Gz p l q n (d+1) x h
   exact⟨e,by omega,by omega,h3⟩
theorem Aw(p:Pt)(l:Ln)(q:Pt):∀(n:Nat) (d:Int),(jm p l q n d).length<=n
 |0,d=>Nat.le_refl _
 |n+1,d=>by
  have:=Aw p l q n (d+1)
  simp only[jm,List.length_append]
  cases Gj p l q d<;>simp only[cond_true,cond_false,List.length_nil,List.length_singleton]<;>omega
theorem I9(p:Pt)(l:Ln)(q:Pt):∀(n:Nat) (d:Int),R8 (jm p l q n d)
 |0,d=>trivial
 |n+1,d=>by
  have ih:=I9 p l q n (d+1)
  simp only[jm]
  cases Gj p l q d
  ·exact ih
  ·simp only[cond_true,List.singleton_append]
   refine Va (fun z hz=> ?_) ih
   obtain⟨e,h1,_,rfl⟩:=Gz p l q n (d+1) z hz
   show d<e
   omega
theorem aaG{q:Pt}(hq:pN q=true){d:Int}(h0:0<=d)(h1:d<8):Bd 786432 10 (BX q d).2:=
 sw (V:=1) (by decide) (gX (d:=d+4) (by omega) (by omega)) (jr hq)
section
variable {p q:Pt} {l:Ln} (hp:pN p=true) (hl:nR l=true) (hq:pN q=true)
include hp hl hq
theorem T1{d:Int}(h0:0<=d)(h1:d<8):mX (BX q d) p l=some (Gj p l q d)/\
 ∃y s,dS (BX q d) p=some y/\ka l y=some s/\(s==0)=Gj p l q d:=by
 obtain⟨l0,l1,lb,_⟩:=jN hl
 have bp:=jr hp
 have bl:=aaG hq h0 h1
 have d0:0<=(BX q d).1:=h0
 have d1:(BX q d).1<=7:=by show d<=7;omega
 have hr:=Ew d0 d1 bl (by decide) (by decide) (by decide) bp (by decide)
 have hrb:=KL d0 d1 bl (by decide) (by decide) bp
 have hs:=ad2 l0 l1 lb (by decide) (by decide) (by decide) hrb (by decide)
 constructor
 ·rw[mX,qB,hr.1,Option.bind_some,hs.1]
  obtain⟨s,k1,k2⟩:=V7 (VZ l (FW (BX q d) p))
  rw[k1,Option.bind_some]
  congr 1
  unfold Gj
  rw[show(s==0)=decide (s=0)from rfl]
  by_cases h:s=0
  ·rw[aR h,aR (k2.1 h)]
  ·rw[aW h,aW (fun e=>h (k2.2 e))]
 ·obtain⟨s,k1,k2⟩:=VT (VZ l (FW (BX q d) p))
  refine⟨_,s,hr.2,by rw[hs.2,k1], ?_⟩
  unfold Gj
  rw[show(s==0)=decide (s=0)from rfl]
  by_cases h:s=0
  ·rw[aR h,aR (k2.1 h)]
  ·rw[aW h,aW (fun e=>h (k2.2 e))]
theorem Jb:∀(n:Nat) (d:Int) (acc:List Ln),0<=d->d+n=8->acc.length<=900-n->
 iQ (kG acc d p.1.1 p.1.2.1 p.1.2.2 p.2.1 p.2.2.1 p.2.2.2 l.1 l.2.1 l.2.2.1 l.2.2.2 q.1.1 q.1.2.1 q.1.2.2 q.2.1 q.2.2.1 q.2.2.2)=some (.inl (wM (acc++jm p l q n d)))
 |0,d,acc,h0,h1,ha=>by
  rw[yF,ga,aW (by omega),cond_false]
  simp only[jm,List.append_nil];rfl
 |n+1,d,acc,h0,h1,ha=>by
  have IH:=fun acc'=>Jb n (d+1) acc' (by omega) (by omega)
  have bq:=jr hq
  have hal:=(T1 hp hl hq h0 (by omega)).1
  have k1:decide ((acc.length+1)*32<=70368744177664)=true:=aR (by omega)
  have k2:decide (acc.length+1<=70368744177664)=true:=aR (by omega)
  rw[yF,ga,aR (by omega),cond_true,aM (n:=d+1) (by omega) (by omega)]
  simp only[bR,fK,bj,dN,cb,cY,Option.bind_some]
  have ht:=AJ (d:=d) (by omega) (by omega) (by decide) (by decide) bq (by decide)
  rw[show d%8=d by omega]at ht
  rw[ht,Option.bind_some,hal,Option.bind_some]
  simp only[jm]
  cases Gj p l q d
  ·exact IH acc (by omega)
  ·simp only[cond_true,List.length_singleton,k1,k2]
   rw[<-List.append_assoc]
   exact IH (acc++ [BX q d]) (by simp only[List.length_append,List.length_singleton];omega)
theorem Ja:∀(n:Nat) (d:Int) (acc:List Ln),0<=d->d+n=8->acc.length<=900-n->
 iO (kF acc d p.1.1 p.1.2.1 p.1.2.2 p.2.1 p.2.2.1 p.2.2.2 l.1 l.2.1 l.2.2.1 l.2.2.2 q.1.1 q.1.2.1 q.1.2.2 q.2.1 q.2.2.1 q.2.2.2)=some (.inl (wL (acc++jm p l q n d)))
 |0,d,acc,h0,h1,ha=>by
  rw[yE,fZ,aW (by omega),cond_false]
  simp only[jm,List.append_nil];rfl
 |n+1,d,acc,h0,h1,ha=>by
  have IH:=fun acc'=>Ja n (d+1) acc' (by omega) (by omega)
  have bq:=jr hq
  obtain⟨y,s,e1,e2,e3⟩:=(T1 hp hl hq h0 (show d<8 by omega)).2
  have k1:decide ((acc.length+1)*32<=70368744177664)=true:=aR (by omega)
  have k2:decide (acc.length+1<=70368744177664)=true:=aR (by omega)
  rw[yE,fZ,aR (by omega),cond_true,aM (n:=d+1) (by omega) (by omega)]
  have ht:=Au (d:=d) h0 (by omega) (by decide) (by decide) bq (by decide)
  have ht':gz ((q.1.1,(q.1.2.1,q.1.2.2)),(q.2.1,(q.2.2.1,q.2.2.2))) d=some (BX q d):=ht
  have e1':dS (BX q d) ((p.1.1,(p.1.2.1,p.1.2.2)),(p.2.1,(p.2.2.1,p.2.2.2)))=some y:=e1
  have e2':ka (l.1,(l.2.1,(l.2.2.1,l.2.2.2))) y=some s:=e2
  rw[ht',Option.bind_some,e1',Option.bind_some,e2',Option.bind_some,e3]
  simp only[jm]
  cases Gj p l q d
  ·exact IH acc (by omega)
  ·simp only[cond_true,List.length_singleton,k1,k2]
   rw[<-List.append_assoc]
   exact IH (acc++ [BX q d]) (by simp only[List.length_append,List.length_singleton];omega)
end
theorem ML{p q:Pt}{l:Ln}(hq:pN q=true)(x:Ln)(hx:x∈jm p l q 8 0):abm x/\0<=x.1/\x.1<=7:=by
 obtain⟨e,h1,h2,rfl⟩:=Gz p l q 8 0 x hx
 have hb:=aaG hq (show 0<=e by omega) (by omega)
 have hi:=Dy hb (by decide) (by decide)
 exact⟨⟨lE _ _,by have:=hb.2.1;exact Int.le_trans this (by decide),hi.1,hi.2⟩,by show 0<=e;omega,by show e<=7;omega⟩
def XR(p:Pt)(l:Ln)(q:Pt):List Ln×Int:=cond (pN p&&(nR l&&pN q)) (T3 (jm p l q 8 0)) ([],1)
theorem aam(p:Pt)(l:Ln)(q:Pt):ij p l q=some (XR p l q):=by
 rw[ij,mR,fY,fJ,fJ]
 unfold XR
 simp only[Option.bind_some]
 cases hp:pN p
 ·rfl
 cases hl:nR l
 ·rfl
 cases hq:pN q
 ·rfl
 simp only[Bool.not_true,cond_false,Bool.and_self,cond_true]
 rw[Jb hp hl hq 8 0 [] (by decide) (by decide) (by simp),List.nil_append]
 have h:=TN (jm p l q 8 0) (Nat.le_trans (Aw p l q 8 0) (by decide)) (fun x hx=>(ML hq x hx).1)
 show(fN (jm p l q 8 0)).bind _=_
 rw[h];rfl
theorem Z7(p:Pt)(l:Ln)(q:Pt):ie p l q=some (XR p l q):=by
 rw[ie,mN,fo,fX,fX]
 unfold XR
 simp only[Option.bind_some]
 cases hp:pN p
 ·rfl
 cases hl:nR l
 ·rfl
 cases hq:pN q
 ·rfl
 simp only[Bool.not_true,cond_false,Bool.and_self,cond_true]
 rw[Ja hp hl hq 8 0 [] (by decide) (by decide) (by simp),List.nil_append]
 have h:=De (jm p l q 8 0) (Nat.le_trans (Aw p l q 8 0) (by decide)) (fun x hx=>(ML hq x hx).2) (I9 p l q 8 0)
 show cond (decide True) ((cP (jm p l q 8 0)).bind _) none=_
 rw[aR trivial,cond_true,h];rfl
def Mp(l:Ln):Pt:=VC (fL (l.1+4)) (LD (sqT (l.1+4)) l.2 (X5 (l.1+4)))
theorem YJ{l:Ln}(h0:0<=l.1)(h1:l.1<=7)(hl:Bd 131072 10 l.2):Bd 4718592 13 (Mp l).1/\Bd 4718592 13 (Mp l).2:=by
 have:=Rr (V:=1) (by decide) (gX (d:=l.1+4) (by omega) (by omega)) (Ot (by decide) hl (GE (d:=l.1+4) (by omega) (by omega)) (Vz (d:=l.1+4) (by omega) (by omega)))
 exact this
theorem aaC{l:Ln}(h0:0<=l.1)(h1:l.1<=7)(hl:Bd 131072 10 l.2):rm l=some (Mp l)/\oC l=some (Mp l):=by
 have hd0:0<=l.1+4:=by omega
 have hd1:l.1+4<16:=by omega
 have hdiv:=Il hl (GE hd0 hd1) (by decide) (by decide) (by decide) (by decide) (by decide) (by decide)
 rw[aaS hd0 hd1]at hdiv
 have hb:=Ot (by decide) hl (GE hd0 hd1) (Vz hd0 hd1)
 obtain⟨v1,v2⟩:=gX hd0 hd1
 have hw:IntKind.wrap .i64 (l.1+4)=l.1+4:=aM (by omega) (by omega)
 constructor
 ·rw[rm,vq,hw,(wJ hd0 hd1).1]
  simp only[Option.bind_some,bj,dN,cb,cY]
  rw[aaj hd0 hd1,Option.bind_some,hdiv.1,Option.bind_some]
  try simp only
  rw[(mK hb v1 (by decide) (by decide) (by decide) (by decide)).1,Option.bind_some,(mK hb v2 (by decide) (by decide) (by decide) (by decide)).1,Option.bind_some,WA,WA _ (fL (l.1+4)).2]
  rfl
 ·rw[oC,rH,cd,dM]
  try simp only
  rw[hw,(wJ hd0 hd1).2]
  simp only[Option.bind_some]
  rw[Z3 hd0 hd1,Option.bind_some,hdiv.2,Option.bind_some]
  try simp only
  rw[Zq (gX hd0 hd1) hb (by decide) (by decide) (by decide) (by decide)]
  rfl
end Go.Proofs.YtjkljnflaifbhaaGreatDoor
namespace Go.Proofs.YtjkljnflaifbhaaGreatDoor
open Go.Vai
def zNm:Nm:=(0,(0,0))
def zPt:Pt:=(zNm,zNm)
def zLn:Ln:=(0,zNm)
def Av(x:Nm):Nm:=low x.2.2.toNat x.1 x.2.1
def Fit(x:Nm):Prop:=0<=x.2.2/\x.2.2<=1000/\JK x.1/\JK x.2.1
theorem Dx{V:Int}{κ:Nat}{x:Nm}(h:Bd V κ x)(hV:0<=V)(hκ:κ<=60)(hb:V*2^κ<=4611686018427387904):Fit x:=by
 have hi:=Dy h hV hb
 have h1:=h.1
 have h2:=h.2.1
 exact⟨h1,by omega,hi.1,hi.2⟩
theorem Vx{x:Nm}(h:Fit x):eW x=some (cond (BY (Av x)) (Av x,true) (zNm,false)):=by
 obtain⟨h1,h2,h3,h4⟩:=h
 rw[eW,qN]
 have:=Lz (a:=x.1) (b:=x.2.1) h1 h2 h3 h4
 have this:iv x=some (Av x):=this
 rw[this]
 simp only[Option.bind_some,Lc]
 cases BY (Av x)<;>rfl
theorem YS{x:Nm}(h:Fit x):jH x=some (cond (BY (Av x)) (Av x,true) (zNm,false)):=by
 obtain⟨h1,h2,h3,h4⟩:=h
 rw[jH,pt]
 have:=OI (a:=x.1) (b:=x.2.1) h1 h2 h3 h4
 have this:du x=some (Av x):=this
 rw[this]
 simp only[Option.bind_some,J4]
 cases BY (Av x)<;>rfl
def XW(p:Pt):Pt×Bool:=cond (pN (Av p.1,Av p.2)) ((Av p.1,Av p.2),true) (zPt,false)
theorem Rh{p:Pt}(h1:Fit p.1)(h2:Fit p.2):mE p=some (XW p):=by
 rw[mE,xt,Vx h1,Vx h2]
 unfold XW pN
 cases BY (Av p.1)<;>cases BY (Av p.2)<;>rfl
theorem Qu{p:Pt}(h1:Fit p.1)(h2:Fit p.2):ez p=some (XW p):=by
 rw[ez,mO,YS h1,YS h2]
 unfold XW pN
 cases BY (Av p.1)<;>cases BY (Av p.2)<;>rfl
def aaL(p q:Pt):Pt×Bool:=cond (pN p&&pN q) (XW (UM p q)) (zPt,false)
theorem Wy{x:Nm}(h:0<=x.2.2):Av (sj x)=low (x.2.2.toNat+1) x.1 x.2.1:=by
 show low (x.2.2+1).toNat x.1 x.2.1=_
 rw[show(x.2.2+1).toNat=x.2.2.toNat+1 by omega]
theorem acE(k:Nat)(a b:Int):Av (low k a b)=low k a b:=UD (Ba k a b)
theorem ac6(p q:Pt):nA p q=some (aaL p q):=by
 rw[nA,tk,fJ,fJ]
 unfold aaL
 simp only[Option.bind_some]
 cases hp:pN p
 ·rfl
 cases hq:pN q
 ·rfl
 have bp:=jr hp
 have bq:=jr hq
 simp only[Bool.not_true,cond_false,Bool.and_self,cond_true,cb,cY,Option.bind_some]
 have a1:=(wv bp.1 bq.1 (by decide) (by decide) (by decide) (by decide) (by decide)).1
 have a2:=(wv bp.2 bq.2 (by decide) (by decide) (by decide) (by decide) (by decide)).1
 have b1:=mB bp.1 bq.1
 have b2:=mB bp.2 bq.2
 have c1:=b1.1
 have c2:=b2.1
 have d1:=b1.2.1
 have d2:=b2.2.1
 have hb1:=DU (by decide) b1
 have hb2:=DU (by decide) b2
 simp only[a1,a2,Option.bind_some]
 rw[aM (n:=(ku p.1 q.1).2.2+1) (by omega) (by have:=d1;omega),aM (n:=(ku p.2 q.2).2.2+1) (by omega) (by have:=d2;omega)]
 show(mE (sj (ku p.1 q.1),sj (ku p.2 q.2))).bind _=_
 rw[Rh (Dx hb1 (by decide) (by decide) (by decide)) (Dx hb2 (by decide) (by decide) (by decide))]
 unfold XW UM
 simp only[Wy c1,Wy c2,acE,Option.bind_some]
theorem acw(p q:Pt):ny p q=some (aaL p q):=by
 rw[ny,ta,fX,fX]
 unfold aaL
 simp only[Option.bind_some]
 cases hp:pN p
 ·rfl
 cases hq:pN q
 ·rfl
 have bp:=jr hp
 have bq:=jr hq
 simp only[Bool.not_true,cond_false,Bool.and_self,cond_true]
 have b1:=mB bp.1 bq.1
 have b2:=mB bp.2 bq.2
 rw[qD,tF,XQ bp bq (by decide) (by decide) (by decide) (by decide) (by decide),Option.bind_some]
 unfold WM
 try simp only
 rw[J3 b1 (by decide) (by decide) (by decide),Option.bind_some,J3 b2 (by decide) (by decide) (by decide),Option.bind_some,Option.bind_some]
 have h1:=yx (by decide) b1
 have h2:=yx (by decide) b2
 show(ez (UM p q)).bind _=_
 rw[Qu (p:=UM p q) (Dx h1 (by decide) (by decide) (by decide)) (Dx h2 (by decide) (by decide) (by decide)),Option.bind_some]
def XU(l:Ln)(p:Pt):Pt×Bool:=cond (nR l&&pN p) (XW (FW l p)) (zPt,false)
theorem Zm(l:Ln)(p:Pt):iZ l p=some (XU l p):=by
 rw[iZ,oa,fY,fJ]
 unfold XU
 simp only[Option.bind_some]
 cases hl:nR l
 ·rfl
 cases hp:pN p
 ·rfl
 obtain⟨l0,l1,lb,_⟩:=jN hl
 have bp:=jr hp
 have bl:=lb.mono (V':=786432) (κ':=10) (by decide) (by decide)
 simp only[Bool.not_true,cond_false,Bool.and_self,cond_true,bR,fK,bj,dN,cb,cY,Option.bind_some]
 have hb:=KL l0 l1 bl (by decide) (by decide) bp
 rw[(Ew l0 l1 bl (by decide) (by decide) (by decide) bp (by decide)).1,Option.bind_some,Rh (Dx hb.1 (by decide) (by decide) (by decide)) (Dx hb.2 (by decide) (by decide) (by decide)),Option.bind_some]
theorem YU(l:Ln)(p:Pt):iX l p=some (XU l p):=by
 rw[iX,nY,fo,fX]
 unfold XU
 simp only[Option.bind_some]
 cases hl:nR l
 ·rfl
 cases hp:pN p
 ·rfl
 obtain⟨l0,l1,lb,_⟩:=jN hl
 have bp:=jr hp
 have bl:=lb.mono (V':=786432) (κ':=10) (by decide) (by decide)
 simp only[Bool.not_true,cond_false,Bool.and_self,cond_true]
 have hb:=KL l0 l1 bl (by decide) (by decide) bp
 rw[(Ew l0 l1 bl (by decide) (by decide) (by decide) bp (by decide)).2,Option.bind_some,Qu (Dx hb.1 (by decide) (by decide) (by decide)) (Dx hb.2 (by decide) (by decide) (by decide)),Option.bind_some]
def lnR(X:Ln):Ln×Bool:=cond (BY X.2) (X,true) (zLn,false)
def VY(f l:Ln):Int:=(2*f.1-l.1)%8
def XT(f l:Ln):Ln×Bool:=cond (nR f&&nR l) (lnR (BX (FW f (Mp l)) (VY f l))) (zLn,false)
theorem afD(p:Pt)(d:Int):(BX p d).2=pQ (fL (d+4)) p:=rfl
theorem ad3(X:Ln)(hX:X.2.can)(hf:Fit X.2):(Option.bind (eW X.2) fun y=>cond (!y.2) (some (((0:Int),((0:Int),((0:Int),(0:Int)))),Bool.false)) (some ((X.1,y.1),Bool.true)))=some (lnR X):=by
 rw[Vx hf,show Av X.2=X.2 from UD hX]
 unfold lnR
 cases BY X.2<;>rfl
theorem adB(X:Ln):(Option.bind (fD X.2) fun y=>cond (!y) (some (((0:Int),((0:Int),((0:Int),(0:Int)))),Bool.false)) (some (X,Bool.true)))=some (lnR X):=by
 rw[J4]
 unfold lnR
 simp only[Option.bind_some]
 cases BY X.2<;>rfl
theorem Zl(f l:Ln):jK f l=some (XT f l):=by
 rw[jK,pE,fY,fY]
 unfold XT
 simp only[Option.bind_some]
 cases hf:nR f
 ·rfl
 cases hl:nR l
 ·rfl
 obtain⟨f0,f1,fb,fc⟩:=jN hf
 obtain⟨l0,l1,lb,lc⟩:=jN hl
 have fb:=fb.mono (V':=786432) (κ':=10) (by decide) (by decide)
 simp only[Bool.not_true,cond_false,Bool.and_self,cond_true,bR,fK,cb,cY,Option.bind_some]
 have hfb:=YJ l0 l1 lb
 have hrb:=KL f0 f1 fb (by decide) (by decide) hfb
 have e1:=(aaC l0 l1 lb).1
 have e2:=(Ew f0 f1 fb (by decide) (by decide) (by decide) hfb (by decide)).1
 have e3:=AJ (d:=2*f.1-l.1) (by omega) (by omega) (by decide) (by decide) hrb (by decide)
 have hm:(2*f.1-l.1)%8=VY f l:=rfl
 have h0:0<=VY f l:=by unfold VY;omega
 have h7:VY f l<=7:=by unfold VY;omega
 rw[hm]at e3
 have hdb:=sw (V:=1) (by decide) (gX (d:=VY f l+4) (by omega) (by omega)) hrb
 have hF:=Dx hdb (by decide) (by decide) (by decide)
 have hC:(pQ (fL (VY f l+4)) (FW f (Mp l))).can:=lE _ _
 rw[<-afD]at hF hC
 have hX:=ad3 _ hC hF
 generalize BX (FW f (Mp l)) (VY f l)=X at e3 hX
 generalize FW f (Mp l)=Y at e2 e3
 generalize Mp l=Z at e1 e2
 rw[aM (n:=2*f.1) (by omega) (by omega),aM (n:=2*f.1-l.1) (by omega) (by omega),e1,Option.bind_some,e2,Option.bind_some,e3,Option.bind_some]
 exact hX
theorem YT(f l:Ln):jJ f l=some (XT f l):=by
 rw[jJ,pz,fo,fo]
 unfold XT
 simp only[Option.bind_some]
 cases hf:nR f
 ·rfl
 cases hl:nR l
 ·rfl
 obtain⟨f0,f1,fb,fc⟩:=jN hf
 obtain⟨l0,l1,lb,lc⟩:=jN hl
 have fb:=fb.mono (V':=786432) (κ':=10) (by decide) (by decide)
 simp only[Bool.not_true,cond_false,Bool.and_self,cond_true]
 have hfb:=YJ l0 l1 lb
 have hrb:=KL f0 f1 fb (by decide) (by decide) hfb
 rw[(aaC l0 l1 lb).2,Option.bind_some,(Ew f0 f1 fb (by decide) (by decide) (by decide) hfb (by decide)).2,Option.bind_some,afT,aM (n:=2*f.1) (by omega) (by omega),aM (n:=2*f.1-l.1) (by omega) (by omega),
  Au (by omega) (by omega) (by decide) (by decide) hrb (by decide),Option.bind_some]
 exact adB (BX (FW f (Mp l)) (VY f l))
def XF(l m:Ln):Pt×Int:=cond (nR l&&nR m) (cond (l.1==m.1) (zPt,7) (cond (pN (Av (oA l m).1,Av (oA l m).2)) ((Av (oA l m).1,Av (oA l m).2),0) (zPt,2))) (zPt,1)
theorem Y3{l m:Ln}(hl:nR l=true)(hm:nR m=true)(hne:l.1≠m.1):Fit (oA l m).1/\Fit (oA l m).2:=by
 have h:=UJ hl hm hne trivial
 exact⟨Dx h.1 (by decide) (by decide) (by decide),Dx h.2 (by decide) (by decide) (by decide)⟩
theorem Zk(l m:Ln):ma l m=some (XF l m):=by
 rw[ma,rZ,fY,fY]
 unfold XF
 simp only[Option.bind_some]
 cases hl:nR l
 ·rfl
 cases hm:nR m
 ·rfl
 simp only[Bool.not_true,cond_false,Bool.and_self,cond_true,bR,fK,cb,cY,Option.bind_some]
 cases he:l.1==m.1
 ·have hne:l.1≠m.1:=fun e=>by rw[e]at he;simp at he
  obtain⟨f1,f2⟩:=Y3 hl hm hne
  simp only[cond_false]
  show(mI l m).bind _=_
  rw[Zg hl hm hne trivial,Option.bind_some,Rh f1 f2,Option.bind_some]
  unfold XW
  cases pN (Av (oA l m).1,Av (oA l m).2)<;>rfl
 ·rfl
theorem YR(l m:Ln):lU l m=some (XF l m):=by
 rw[lU,rK,fo,fo]
 unfold XF
 simp only[Option.bind_some]
 cases hl:nR l
 ·rfl
 cases hm:nR m
 ·rfl
 simp only[Bool.not_true,cond_false,Bool.and_self,cond_true]
 cases he:l.1==m.1
 ·have hne:l.1≠m.1:=fun e=>by rw[e]at he;simp at he
  obtain⟨f1,f2⟩:=Y3 hl hm hne
  simp only[cond_false]
  rw[YO hl hm hne trivial,Option.bind_some]
  simp only[Bool.not_true,cond_false]
  rw[Qu f1 f2,Option.bind_some]
  unfold XW
  cases pN (Av (oA l m).1,Av (oA l m).2)<;>rfl
 ·rfl
end Go.Proofs.YtjkljnflaifbhaaGreatDoor
