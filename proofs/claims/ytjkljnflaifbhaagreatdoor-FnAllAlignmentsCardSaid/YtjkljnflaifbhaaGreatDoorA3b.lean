/- No conditions. -/
import Derived.Test.YtjkljnflaifbhaaGreatDoorA3a
namespace Go.Proofs.YtjkljnflaifbhaaGreatDoor
open Go.Vai
theorem MT{d:Int}(h0:0<=d)(h1:d<16):gS d=some (pU d):=by
 obtain⟨hv1,hv2⟩:=el h0 h1
 obtain⟨v1,v2⟩:=nH h0 h1
 have m1:=gB hv1 hv1 (by decide) (by decide) (by decide) (by decide)
 have m2:=gB hv2 hv2 (by decide) (by decide) (by decide) (by decide)
 have a:=mI (cR (V:=1) (by decide) hv1 hv1) (cR (V:=1) (by decide) hv2 hv2) (by decide) (by decide) (by decide) (by decide) (by decide)
 rw[gS,ob,v1]
 simp only[Option.bind_some,aM,cC,aX,bX]
 rw[m1.1,m2.1]
 simp only[Option.bind_some]
 rw[a.1];rfl
def iE(d:Int)(l:Int):Nm:=bI (aq (l+4)) (aq (d+4))
def JU(y:Nm):Bool:=
 decide (y.2.2=0)&&((decide (y.1=0)&&decide (y.2.1=0))||
  (decide (y.1*y.1-2*y.2.1*y.2.1≠0)&&(decide ((fC 64 (y.1*y.1-2*y.2.1*y.2.1)).1=1)||decide ((fC 64 (y.1*y.1-2*y.2.1*y.2.1)).1= -1))&&decide ((fC 64 (y.1*y.1-2*y.2.1*y.2.1)).2<=8)&&
    (decide ((2*y.1)*(2*y.1)-2*(2*y.2.1)*(2*y.2.1)≠0)&&(decide ((fC 64 ((2*y.1)*(2*y.1)-2*(2*y.2.1)*(2*y.2.1))).1=1)||decide ((fC 64 ((2*y.1)*(2*y.1)-2*(2*y.2.1)*(2*y.2.1))).1= -1))&&decide ((fC 64 ((2*y.1)*(2*y.1)-2*(2*y.2.1)*(2*y.2.1))).2<=8))))
theorem Rb:((List.range 8).all fun a=>(List.range 8).all fun d=>JU (iE (d:Int) (a:Int)))=true:=by decide+kernel
theorem MZ{d l:Int}(h0:0<=d)(h1:d<8)(h2:0<=l)(h3:l<8):JU (iE d l)=true:=by
 have h:=List.all_eq_true.1 (List.all_eq_true.1 Rb l.toNat (by simp;omega)) d.toNat (by simp;omega)
 rw[Int.toNat_of_nonneg h0,Int.toNat_of_nonneg h2]at h
 exact h
theorem Mj{d l:Int}(h0:0<=d)(h1:d<8)(h2:0<=l)(h3:l<8):Bd 6 0 (iE d l):=
 lI (V:=1) (by decide) (el (d:=l+4) (by omega) (by omega)) (el (d:=d+4) (by omega) (by omega))
def jw(p:Pt)(l:Ln):Nm:=kW l.2 (bI (aq (l.1+4)) p)
def D2(d:Int)(p:Pt)(l:Ln):Nm:=(uq (kQ (jw p l) (pU (d+4))) (ej (iE d l.1) (iE d l.1))).1
def AM(d:Int)(p:Pt)(l:Ln):Ln:=(d,ej (bI (aq (d+4)) p) (D2 d p l))
def th(x:Nm):Bool:=decide (x.1=0/\x.2.1=0)
def Ft(d:Int)(p:Pt)(l:Ln):Ln×Int:=
 cond (th (iE d l.1)) (cond (th (jw p l)) ((0,(0,(0,0))),2) ((0,(0,(0,0))),0)) (AM d p l,1)
theorem HT{p:Pt}{l:Ln}(h0:0<=l.1)(h1:l.1<=7)(hl:Bd 131072 10 l.2)(hp:Bd 131072 10 p.1/\Bd 131072 10 p.2):Bd 917504 10 (jw p l):=
 rT hl (lI (V:=1) (by decide) (el (d:=l.1+4) (by omega) (by omega)) hp)
theorem E1{d:Int}{p:Pt}{l:Ln}(h0:0<=d)(h1:d<8)(hl0:0<=l.1)(hl1:l.1<=7)(hl:Bd 131072 10 l.2)(hp:Bd 131072 10 p.1/\Bd 131072 10 p.2)(hz:th (iE d l.1)=false):
 ∃t,uq (kQ (jw p l) (pU (d+4))) (iE d l.1)=(t,true)/\Bd 396361728 18 t/\
  uq (kQ (jw p l) (pU (d+4))) (ej (iE d l.1) (iE d l.1))=(D2 d p l,true)/\Bd 396361728 18 (D2 d p l)/\∀y,ej y (lE t)=ej y (D2 d p l):=by
 have hg:=MZ h0 h1 hl0 (by omega:l.1<8)
 have hy:=Mj h0 h1 hl0 (by omega:l.1<8)
 have hr:=HT hl0 hl1 hl hp
 have hx:=cR (by decide) hr (vk (d:=d+4) (by omega) (by omega))
 simp only[JU,Bool.and_eq_true,Bool.or_eq_true,decide_eq_true_eq]at hg
 obtain⟨hy0,hg⟩:=hg
 have hg:=hg.resolve_left (fun e=>by
  unfold th at hz
  rw[bG e]at hz
  cases hz)
 obtain⟨⟨⟨g1,g2⟩,g3⟩,⟨g4,g5⟩,g6⟩:=hg
 have htw:=QZ hy0
 have hy2:Bd 12 0 (ej (iE d l.1) (iE d l.1)):=by
  have:=fI hy hy
  exact this
 obtain⟨t,t1,t2,t3,t4,t5⟩:=At (by decide) hx hy (m:=(fC 64 ((iE d l.1).1*(iE d l.1).1-2*(iE d l.1).2.1*(iE d l.1).2.1)).1) (t:=(fC 64 ((iE d l.1).1*(iE d l.1).1-2*(iE d l.1).2.1*(iE d l.1).2.1)).2) rfl g2 g1
 have e1:(ej (iE d l.1) (iE d l.1)).1=2*(iE d l.1).1:=by rw[htw]
 have e2:(ej (iE d l.1) (iE d l.1)).2.1=2*(iE d l.1).2.1:=by rw[htw]
 obtain⟨s,s1,s2,s3,s4,s5⟩:=At (by decide) hx hy2 (m:=(fC 64 ((2*(iE d l.1).1)*(2*(iE d l.1).1)-2*(2*(iE d l.1).2.1)*(2*(iE d l.1).2.1))).1) (t:=(fC 64 ((2*(iE d l.1).1)*(2*(iE d l.1).1)-2*(2*(iE d l.1).2.1)*(2*(iE d l.1).2.1))).2) (by rw[e1,e2]) g5 (by rw[e1,e2];exact g4)
 have hw:D2 d p l=s:=by unfold D2;rw[s1]
 refine⟨t,t1,t3.mono (by decide) (by omega), ?_, ?_, ?_⟩
 ·rw[hw];exact s1
 ·rw[hw];exact s3.mono (by decide) (by omega)
 ·intro y
  rw[hw]
  rw[e1,e2]at s4 s5
  have hN:(((iE d l.1).1*(iE d l.1).1-2*(iE d l.1).2.1*(iE d l.1).2.1:Int):Rat)≠0:=fun e=>g1 (Rat.intCast_inj.1 e)
  have hN2:(((2*(iE d l.1).1)*(2*(iE d l.1).1)-2*(2*(iE d l.1).2.1)*(2*(iE d l.1).2.1):Int):Rat)=4*(((iE d l.1).1*(iE d l.1).1-2*(iE d l.1).2.1*(iE d l.1).2.1:Int):Rat):=by
   have:(2*(iE d l.1).1)*(2*(iE d l.1).1)-2*(2*(iE d l.1).2.1)*(2*(iE d l.1).2.1)=4*((iE d l.1).1*(iE d l.1).1-2*(iE d l.1).2.1*(iE d l.1).2.1):=by grind
   rw[this,Rat.intCast_mul];rfl
  have c2:∀z:Int,((2*z:Int):Rat)=2*(z:Rat):=fun z=>by rw[Rat.intCast_mul];rfl
  rw[hN2,c2,c2]at s4 s5
  refine ex (co _ _) (co _ _) ?_ ?_
  ·rw[iH,iH,zm t2.1,t4,s4]
   generalize (((iE d l.1).1*(iE d l.1).1-2*(iE d l.1).2.1*(iE d l.1).2.1:Int):Rat)=N at*
   grind
  ·rw[iI,iI,zn t2.1,t5,s5]
   generalize (((iE d l.1).1*(iE d l.1).1-2*(iE d l.1).2.1*(iE d l.1).2.1:Int):Rat)=N at*
   grind
theorem GX{d:Int}{p:Pt}{l:Ln}(h0:0<=d)(h1:d<8)(hl0:0<=l.1)(hl1:l.1<=7)(hl:Bd 131072 10 l.2)(hp:Bd 131072 10 p.1/\Bd 131072 10 p.2)(hz:th (iE d l.1)=false):Bd 397148160 18 (AM d p l).2:=by
 obtain⟨t,_,_,_,hw,_⟩:=E1 h0 h1 hl0 hl1 hl hp hz
 have:=fI (lI (V:=1) (by decide) (el (d:=d+4) (by omega) (by omega)) hp) hw
 exact this.mono (by decide) (by decide)
theorem Ax{d:Int}{p:Pt}{l:Ln}(h0:0<=d)(h1:d<8)(hl0:0<=l.1)(hl1:l.1<=7)(hl:Bd 131072 10 l.2)(hp:Bd 131072 10 p.1/\Bd 131072 10 p.2):
 iu d p l=some (Ft d p l)/\iT d p l=some (Ft d p l):=by
 have hd0:0<=d+4:=by omega
 have hd1:d+4<16:=by omega
 have hl4:0<=l.1+4:=by omega
 have hl5:l.1+4<16:=by omega
 have hwd:IntKind.wrap .i64 (d+4)=d+4:=aD (by omega) (by omega)
 have hwl:IntKind.wrap .i64 (l.1+4)=l.1+4:=aD (by omega) (by omega)
 have dby:=sD (d:=l.1+4) hl4 hl5 (by decide) (by decide) (el hd0 hd1) (by decide)
 have dp:=sD (d:=l.1+4) hl4 hl5 (by decide) (by decide) hp (by decide)
 have dpd:=sD (d:=d+4) hd0 hd1 (by decide) (by decide) hp (by decide)
 have hdl:=lI (V:=1) (by decide) (el hl4 hl5) hp
 have sr:=lS hl hdl (by decide) (by decide) (by decide) (by decide) (by decide)
 have hr:=HT hl0 hl1 hl hp
 have hsq:=vk (d:=d+4) hd0 hd1
 have mr:=gB hr hsq (by decide) (by decide) (by decide) (by decide)
 have hx:=cR (by decide) hr hsq
 have hy:=Mj h0 h1 hl0 (by omega:l.1<8)
 have ay:=mI hy hy (by decide) (by decide) (by decide) (by decide) (by decide)
 have hy2:Bd 12 0 (ej (iE d l.1) (iE d l.1)):=fI hy hy
 have dv1:=xL hx hy (by decide) (by decide) (by decide) (by decide) (by decide) (by decide)
 have dv2:=xL hx hy2 (by decide) (by decide) (by decide) (by decide) (by decide) (by decide)
 have hbyc:(iE d l.1).can:=co _ _
 have hrc:(jw p l).can:=LD _ _
 have hdpb:=lI (V:=1) (by decide) (el hd0 hd1) hp
 constructor
 ·rw[iu,qY,hwd,hwl,(nH hd0 hd1).1]
  simp only[Option.bind_some,aM,cC,aX,bX]
  have dby1:ci (l.1+4) ((aq (d+4)).1,(aq (d+4)).2)=some (iE d l.1):=dby.1
  rw[dby1,Option.bind_some,dp.1,Option.bind_some,sr.1,Option.bind_some,GL,Option.bind_some]
  unfold Ft
  show cond (th (iE d l.1)) _ _=_
  cases hz:th (iE d l.1)
  ·obtain⟨t,w1,w2,w3,w4,w5⟩:=E1 h0 h1 hl0 hl1 hl hp hz
   have hb:=uA (by decide) w2
   have aa:=(mI hdpb hb (by decide) (by decide) (by decide) (by decide) (by decide)).1
   rw[w1]at dv1
   rw[cond_false,cond_false,MT hd0 hd1,Option.bind_some]
   have mr1:bK (kW l.2 (bI (aq (l.1+4)) p)) (pU (d+4))=_:=mr.1
   rw[mr1,Option.bind_some,dv1.1,Option.bind_some,dpd.1,Option.bind_some]
   simp only
   rw[DW t w2.1 (by have:=w2.2.1;omega),Option.bind_some,aa,Option.bind_some,w5]
   rfl
  ·rw[cond_true,cond_true,GL,Option.bind_some]
   show cond (th (jw p l)) _ _=_
   cases th (jw p l)<;>rfl
 ·rw[iT,py,hwd,(nH hd0 hd1).2,bv,cM]
  simp only[Option.bind_some]
  rw[hwl,(nH hl4 hl5).2]
  simp only[Option.bind_some]
  have dby2:bS (aq (l.1+4)) (aq (d+4))=some (iE d l.1):=dby.2
  have sr2:bJ l.2 (bI (aq (l.1+4)) p)=some (jw p l):=sr.2
  rw[dby2,Option.bind_some,dp.2,Option.bind_some,sr2,Option.bind_some,HI hbyc,HI hrc]
  unfold Ft
  show cond (th (iE d l.1)) (cond (th (jw p l)) _ _) _=_
  cases hz:th (iE d l.1)
  ·obtain⟨t,w1,w2,w3,w4,w5⟩:=E1 h0 h1 hl0 hl1 hl hp hz
   have aa:=(mI hdpb w4 (by decide) (by decide) (by decide) (by decide) (by decide)).2
   rw[w3]at dv2
   rw[cond_false,cond_false,Mx hd0 hd1,Option.bind_some,mr.2,Option.bind_some,ay.2,Option.bind_some,dv2.2,Option.bind_some]
   simp only[Bool.not_true,cond_false]
   rw[dpd.2,Option.bind_some,aa,Option.bind_some]
   rfl
  ·rw[cond_true,cond_true]
   cases th (jw p l)<;>rfl
theorem du{l:Ln}(h:jd l=true):0<=l.1/\l.1<=7/\Bd 131072 10 l.2/\l.2.can:=by
 simp only[jd,Bool.and_eq_true,decide_eq_true_eq]at h
 exact⟨h.1.1,h.1.2,EG h.2,Kr h.2⟩
def Gx(p:Pt)(l m:Ln):Ln×Int:=
 cond (jF p&&(jd l&&jd m)) (cond (decide (l.1=m.1)) ((0,(0,(0,0))),7) (Gk (AM ((m.1+4)%8) p l))) ((0,(0,(0,0))),1)
theorem Mg:((List.range 8).all fun a=>(List.range 8).all fun m=>decide (a=m)|| !th (iE (((m:Int)+4)%8) (a:Int)))=true:=by decide+kernel
theorem IU{l m:Int}(h0:0<=l)(h1:l<=7)(h2:0<=m)(h3:m<=7)(hne:l≠m):th (iE ((m+4)%8) l)=false:=by
 have h:=List.all_eq_true.1 (List.all_eq_true.1 Mg l.toNat (by simp;omega)) m.toNat (by simp;omega)
 rw[Int.toNat_of_nonneg h0,Int.toNat_of_nonneg h2]at h
 simp only[Bool.or_eq_true,decide_eq_true_eq,Bool.not_eq_true']at h
 exact h.resolve_left (fun e=>hne (by omega))
theorem QS(p:Pt)(l m:Ln):mR p l m=some (Gx p l m):=by
 rw[mR,nc,kD,lm,lm]
 unfold Gx
 simp only[Option.bind_some]
 cases hp:jF p
 ·rfl
 cases hl:jd l
 ·rfl
 cases hm:jd m
 ·rfl
 have bp:=ew hp
 obtain⟨l0,l1,lb,lc⟩:=du hl
 obtain⟨m0,m1,mb,mc⟩:=du hm
 simp only[Bool.not_true,cond_false,Bool.and_self,cond_true,aM,cC,bu,ee,aX,bX,Option.bind_some]
 rw[show(l.1==m.1)=decide (l.1=m.1)from rfl]
 by_cases hd:l.1=m.1
 ·rw[bG hd];rfl
 ·rw[bT hd,cond_false,cond_false,aD (n:=m.1+4) (by omega) (by omega),Int.tmod_eq_emod_of_nonneg (by omega)]
  have hz:=IU l0 l1 m0 m1 hd
  have mv:=(Ax (d:=(m.1+4)%8) (by omega) (by omega) l0 l1 lb bp).1
  unfold Ft at mv
  rw[hz,cond_false]at mv
  have mv:iu ((m.1+4)%8) (p.1,p.2) (l.1,l.2)=_:=mv
  rw[mv,Option.bind_some]
  have hb:=GX (d:=(m.1+4)%8) (by omega) (by omega) l0 l1 lb bp hz
  have hi:=uf hb (by decide) (by decide)
  have so:=Ip (l:=AM ((m.1+4)%8) p l) (co _ _) (by have:=hb.2.1;omega) hi.1 hi.2
  simp only
  rw[so]
  rfl
theorem QJ(p:Pt)(l m:Ln):mP p l m=some (Gx p l m):=by
 rw[mP,mZ,iw,iv,iv]
 unfold Gx
 simp only[Option.bind_some]
 cases hp:jF p
 ·rfl
 cases hl:jd l
 ·rfl
 cases hm:jd m
 ·rfl
 have bp:=ew hp
 obtain⟨l0,l1,lb,lc⟩:=du hl
 obtain⟨m0,m1,mb,mc⟩:=du hm
 simp only[Bool.not_true,cond_false,Bool.and_self,cond_true]
 rw[show(l.1==m.1)=decide (l.1=m.1)from rfl]
 by_cases hd:l.1=m.1
 ·rw[bG hd];rfl
 ·rw[bT hd,cond_false,cond_false,aD (n:=m.1+4) (by omega) (by omega),Int.tmod_eq_emod_of_nonneg (by omega)]
  have hz:=IU l0 l1 m0 m1 hd
  have mv:=(Ax (d:=(m.1+4)%8) (by omega) (by omega) l0 l1 lb bp).2
  unfold Ft at mv
  rw[hz,cond_false]at mv
  rw[mv,Option.bind_some]
  have ir:=Hh (l:=AM ((m.1+4)%8) p l) (by show 0<=(m.1+4)%8;omega) (by show(m.1+4)%8<=7;omega)
  simp only
  rw[show((1:Int)==1)=true from rfl,ir]
  rfl
def C2(l:Ln)(p:Pt):Ln×Int:=cond (jd l&&jF p) (Gk (jz p ((l.1+4)%8))) ((0,(0,(0,0))),1)
theorem PV(l:Ln)(p:Pt):ii l p=some (C2 l p):=by
 rw[ii,il,lm,kD]
 unfold C2
 simp only[Option.bind_some]
 cases hl:jd l
 ·rfl
 ·cases hp:jF p
  ·rfl
  ·have hd:=No hl
   have hb:=ew hp
   simp only[Bool.not_true,cond_false,Bool.and_self,cond_true,aM,cC,aX,bX,Option.bind_some]
   rw[aD (n:=l.1+4) (by omega) (by omega)]
   have ht:=rE (V:=131072) (κ:=10) (d:=l.1+4) (p:=p) (by omega) (by omega) (by decide) (by decide) hb (by decide)
   have ht:dh (p.1,p.2) (l.1+4)=_:=ht
   rw[ht]
   have hdb:=lI (V:=1) (by decide) (el (d:=(l.1+4)%8+4) (by omega) (by omega)) hb
   have hi:=uf hdb (by decide) (by decide)
   simp only[Option.bind_some]
   rw[Ip (l:=jz p ((l.1+4)%8)) (co _ _) (by have:=hdb.2.1;exact Int.le_trans this (by decide)) hi.1 hi.2]
   rfl
theorem PT(l:Ln)(p:Pt):ie l p=some (C2 l p):=by
 rw[ie,ik,iv,iw]
 unfold C2
 simp only[Option.bind_some]
 cases hl:jd l
 ·rfl
 ·cases hp:jF p
  ·rfl
  ·have hd:=No hl
   have hb:=ew hp
   simp only[Bool.not_true,cond_false,Bool.and_self,cond_true]
   rw[aD (n:=l.1+4) (by omega) (by omega),Int.tmod_eq_emod_of_nonneg (by omega)]
   rw[qd (V:=131072) (κ:=10) (d:=(l.1+4)%8) (p:=p) (by omega) (by omega) (by decide) (by decide) hb (by decide)]
   simp only[Option.bind_some]
   rw[Hh (l:=jz p ((l.1+4)%8)) (by show 0<=(l.1+4)%8;omega) (by show(l.1+4)%8<=7;omega)]
   rfl
noncomputable def SB(k:Int):Ln:=(k,(k+1,(k+1+1,k+1+1+1)))
noncomputable def Pn:Int->Nat->List Ln
 |_,0=>[]
 |k,n+1=>SB k::Pn (k+1+1+1+1) n
theorem Kl:∀(n:Nat) (k:Int),(Pn k n).length=n
 |0,_=>rfl
 |n+1,k=>by simp[Pn,Kl n]
theorem w1{k:Int}(h0:0<=k)(h1:k<=1000000):IntKind.wrap .i64 (k+1)=k+1:=aD (by omega) (by omega)
theorem sm{α:Type}(q s:List α)(y v:α):List.set (q++y::s) (0+Int.toNat ((q.length:Nat):Int)) v=q++v::s:=by
 rw[Qv rfl,List.append_assoc];rfl
theorem im{α:Type}(q s:List α)(y:α):vu (q++y::s) ((q.length:Nat):Int)=some y:=ix rfl
def NQ(l:Ln):Prop:=l.2.can/\l.2.2.2<=1000/\zb l.2.1/\zb l.2.2.1
def AN(l:List Ln):List Ln×Int:=cond (l.all fun x=>nu x.2) (l,0) ([],2)
theorem Ok{l:Ln}(h:NQ l):fY l=some (cond (nu l.2) (l,true) ((0,(0,(0,0))),false)):=by
 rw[fY,lA,ML h.1 h.2.1 h.2.2.1 h.2.2.2,Option.bind_some]
 cases nu l.2<;>rfl
theorem DU(l:List Ln)(hl:l.length<=1000)(hf:∀x,x∈l->NQ x):∀(r p:List Ln),l=p++r->
 (pD (pt l p ((p.length:Nat):Int))).bind (sj jc (fun e=>some (((e.1.1.1:List Ln),(e.1.2.1.1:Int)):List Ln×Int),fun e=>some ((e.1.2.2.1.1:List Ln),0),()))=
   some (cond (r.all fun x=>nu x.2) (l,0) ([],2))
 |[],p,h=>by
  rw[oh,fj,MB h,cond_false]
  rw[List.append_nil]at h
  subst h;rfl
 |x::r,p,h=>by
  have hx:=Ok (hf x (by rw[h];simp))
  have hlen:p.length+(r.length+1)<=1000:=by rw[h]at hl;simpa using hl
  rw[oh,fj,Pi h,cond_true,ix h]
  simp only[Option.bind_some,hx]
  rw[List.all_cons]
  cases hok:nu x.2
  ·rfl
  ·simp only[cond_true,Bool.not_true,cond_false,Bool.true_and,List.length_singleton]
   rw[bG (show(p.length+1)*32<=70368744177664 by omega),bG (show p.length+1<=70368744177664 by omega),cond_true,cond_true,wr h (by omega)]
   exact DU l hl hf r (p++ [x]) (SC h)
theorem GK(l:List Ln)(hl:l.length<=1000)(hf:∀x,x∈l->NQ x):ec l=some (AN l):=by
 have h:=DU l hl hf l [] rfl
 rw[ec,oZ]
 exact h
theorem Rc(a b:Int):gq a b=some (if a<b then -1 else if a>b then 1 else 0):=by
 rw[gq,ji,fS,iN,fS,iN]
 simp only[bne_self_eq_false,Option.bind_some,cond_false]
 by_cases h:a<b
 ·rw[bG h,cond_true,if_pos h]
 ·rw[bT h,cond_false,if_neg h]
  by_cases h':a>b
  ·rw[bG h',cond_true,if_pos h']
  ·rw[bT h',cond_false,if_neg h']
theorem Rd{x y:Nm}(hx:nu x=true)(hy:nu y=true):∃c,fl x y=some c:=by
 have bx:=EG hx
 have by':=EG hy
 have s:=lS bx by' (by decide) (by decide) (by decide) (by decide) (by decide)
 have hb:=(rT bx by').pow_le (by decide)
 have e:((131072+131072:Int))*2^(max 10 10)=268435456:=by decide
 rw[e]at hb
 rw[fl,jP,s.2,Option.bind_some,(KE (by omega) (by omega) (by omega) (by omega)).2]
 exact⟨_,rfl⟩
theorem QG{x y:Ln}(hx:nu x.2=true)(hy:nu y.2=true)(hd:x.1≠y.1):fv x y=some (if x.1<y.1 then -1 else 1):=by
 obtain⟨c,hc⟩:=Rd hx hy
 rw[fv,iC,Rc,Option.bind_some,hc,Option.bind_some,qp,qJ,Gv,lC]
 by_cases h:x.1<y.1
 ·simp only[if_pos h];rfl
 ·have h':x.1>y.1:=by omega
  simp only[if_neg h,if_pos h'];rfl
def xm:List Ln->Prop
 |[]=>True
 |[_]=>True
 |x::y::r=>x.1<y.1/\xm (y::r)
theorem HU:∀(l:List Ln) (i:Nat) (x y:Ln),xm l->l[i]?=some x->l[i+1]?=some y->x.1<y.1
 |[],i,x,y,_,h,_=>by simp at h
 |[a],i,x,y,_,_,h=>by simp at h
 |a::b::r,0,x,y,hr,h,h'=>by
  simp at h h'
  subst h;subst h'
  exact hr.1
 |a::b::r,i+1,x,y,hr,h,h'=>HU (b::r) i x y hr.2 (by simpa using h) (by simpa using h')
theorem Il(l:List Ln)(hl:l.length<=12)(hv:∀x,x∈l->nu x.2=true)(hr:xm l):∀(n i:Nat),i+n=l.length->1<=i->
 ao (aA l 0 ((l.length:Nat):Int) ((i:Nat):Int) l)=
  some (.inl (bU l))
 |0,i,h,hi=>by
  rw[aR,an,bT (by omega),cond_false];rfl
 |n+1,i,h,hi=>by
  have IH:=Il l hl hv hr n (i+1) (by omega) (by omega)
  have hx:l[i]?=some l[i]:=List.getElem?_eq_getElem (by omega)
  have hy:l[i-1]?=some l[i-1]:=List.getElem?_eq_getElem (by omega)
  have hlt:=HU l (i-1) l[i-1] l[i] hr hy (by rw[show i-1+1=i by omega];exact hx)
  rw[aR,an,bG (by omega),cond_true,
   bY,aB,bG (by omega),cond_true,J6,hx,Option.bind_some,
   aD (n:=((i:Nat):Int)-1) (by omega) (by omega),show((i:Nat):Int)-1=((i-1:Nat):Int) by omega,J6,hy,Option.bind_some,
   QG (hv _ (List.mem_of_getElem? hx)) (hv _ (List.mem_of_getElem? hy)) (by omega),Option.bind_some,if_neg (by omega)]
  show(some _).bind _=_
  rw[Option.bind_some]
  show ao (aA l 0 ((l.length:Nat):Int) (IntKind.wrap .i64 (((i:Nat):Int)+1)) l)=_
  rw[aD (n:=((i:Nat):Int)+1) (by omega) (by omega)]
  exact IH
theorem Qe{n:Int}(h0:0<=n)(h1:n<=12):∃y,md (IntKind.wrap .u64 n)=some y:=by
 have:n=0\/n=1\/n=2\/n=3\/n=4\/n=5\/n=6\/n=7\/n=8\/n=9\/n=10\/n=11\/n=12:=by omega
 rcases this with rfl|rfl|rfl|rfl|rfl|rfl|rfl|rfl|rfl|rfl|rfl|rfl|rfl
 ·exact⟨0,by kernel_rfl⟩
 ·exact⟨1,by kernel_rfl⟩
 ·exact⟨2,by kernel_rfl⟩
 ·exact⟨2,by kernel_rfl⟩
 ·exact⟨3,by kernel_rfl⟩
 ·exact⟨3,by kernel_rfl⟩
 ·exact⟨3,by kernel_rfl⟩
 ·exact⟨3,by kernel_rfl⟩
 ·exact⟨4,by kernel_rfl⟩
 ·exact⟨4,by kernel_rfl⟩
 ·exact⟨4,by kernel_rfl⟩
 ·exact⟨4,by kernel_rfl⟩
 ·exact⟨4,by kernel_rfl⟩
theorem PM(l s:List Ln)(hl:l.length<=12)
 (h:ao (aA l 0 ((l.length:Nat):Int) 1 l)=some (.inl (bU s))):
 aL l=some s:=by
 obtain⟨y,hy⟩:=Qe (n:=((l.length:Nat):Int)) (by omega) (by omega)
 have hi:aJ l 0 ((l.length:Nat):Int)=some s:=by
  rw[aJ,aW,aD (n:=(0:Int)+1) (by decide) (by decide)]
  have h':ao (aA l 0 ((l.length:Nat):Int) (0+1) l)=_:=h
  rw[h'];rfl
 rw[aL,bc,hy,Option.bind_some]
 simp only[decide_true,cond_true]
 rw[bi,bj,iD,aP,
  aD (n:=((l.length:Nat):Int)-0) (by omega) (by omega),bG (by omega),hi]
 simp only[decide_true,cond_true,Option.bind_some]
 rfl
theorem Fc(l:List Ln)(hl:l.length<=1000):aH l=some (!(l.all fun x=>jd x)):=by
 have loop:∀(r p:List Ln),l=p++r->(aF (aS l ((l.length:Nat):Int) ((p.length:Nat):Int))).bind
  (sj ap (fun e=>some (decide ((e.1.1.1:Int)>=0)),fun _=>some (decide ((-1:Int)>=0)),()))=some (!(r.all fun x=>jd x)):=by
  intro r
  induction r with
  |nil=>
   intro p h
   rw[dk,aE,MB h,cond_false];rfl
  |cons x r ih=>
   intro p h
   rw[dk,aE,Pi h,cond_true,ix h,Option.bind_some,iq,iB,iv,
    Option.bind_some,Option.bind_some,List.all_cons]
   cases jd x
   ·show some (decide (((p.length:Nat):Int)>=0))=_
    rw[bG (by omega)];rfl
   ·simp only[Bool.not_true,cond_false,Bool.true_and]
    rw[wr h (by omega)]
    exact ih (p++ [x]) (SC h)
 have h:=loop l [] rfl
 rw[aH,aQ,aU,aV]
 refine Eq.trans ?_ h
 cases aF (aS l ((l.length:Nat):Int) 0)with
 |none=>rfl
 |some z=>
  match z with
  | .inl z=>rfl
  | .inr (.inl z)=>rfl
theorem tJ(l:List Ln)(hl:l.length<=12)(hd:∀x,x∈l->0<=x.1/\x.1<=7)(hr:xm l):bV l=some (AN l):=by
 have e:(l.all fun x=>jd x)=(l.all fun x=>nu x.2):=by
  rw[Bool.eq_iff_iff,List.all_eq_true,List.all_eq_true]
  constructor
  ·intro h x hx
   have:=h x hx
   simp only[jd,Bool.and_eq_true]at this
   exact this.2
  ·intro h x hx
   have:=hd x hx
   simp only[jd,Bool.and_eq_true,decide_eq_true_eq]
   exact⟨⟨this.1,this.2⟩,h x hx⟩
 rw[bV,gX,Fc l (by omega),Option.bind_some,e]
 unfold AN
 cases hv:l.all fun x=>nu x.2
 ·rfl
 ·simp only[Bool.not_true,cond_false,decide_true,cond_true]
  have hv':∀x,x∈l->nu x.2=true:=fun x hx=>List.all_eq_true.1 hv x hx
  rw[PM l l hl ?_]
  ·rfl
  ·cases hc:l.length with
   |zero=>
    have:l=[]:=List.length_eq_zero_iff.1 hc
    subst this
    rw[aR,an,bT (by decide),cond_false];rfl
   |succ n=>
    have:=Il l hl hv' hr n 1 (by omega) (by omega)
    rw[hc]at this
    exact this
theorem Ky(x y:Ln)(hx:0<=x.1/\x.1<=7)(hy:0<=y.1/\y.1<=7)(h:y.1<x.1):bV [x,y]=some (AN [y,x]):=by
 have e:([x,y].all fun x=>jd x)=([y,x].all fun x=>nu x.2):=by
  simp only[List.all_cons,List.all_nil,Bool.and_true,jd,bG hx.1,bG hx.2,bG hy.1,bG hy.2,Bool.true_and,Bool.and_self]
  exact Bool.and_comm _ _
 rw[bV,gX,Fc [x,y] (by simp),Option.bind_some,e]
 unfold AN
 cases hv: [y,x].all fun x=>nu x.2
 ·rfl
 ·simp only[Bool.not_true,cond_false,decide_true,cond_true]
  have hv':∀z,z∈ [y,x]->nu z.2=true:=fun z hz=>List.all_eq_true.1 hv z hz
  have hvx:=hv' x (by simp)
  have hvy:=hv' y (by simp)
  rw[PM [x,y] [y,x] (by simp) ?_]
  ·rfl
  ·rw[aR,an,bG (by simp),cond_true,
    bY,aB,bG (by decide),cond_true,
    show vu [x,y] (1:Int)=some y from rfl,Option.bind_some,aD (n:=(1:Int)-1) (by decide) (by decide),show vu [x,y] ((1:Int)-1)=some x from rfl,Option.bind_some,
    QG hvy hvx (by omega),Option.bind_some,if_pos h,bG (by decide),cond_true,Option.bind_some,Option.bind_some,Option.bind_some,
    show vu (List.set [x,y] (0+Int.toNat 1) x) ((1:Int)-1)=some x from rfl,Option.bind_some,
    bY,aB,bT (by decide),cond_false]
   show(some _).bind _=_
   rw[Option.bind_some]
   show ao (aA [y,x] 0 2 (IntKind.wrap .i64 (1+1)) [y,x])=_
   rw[aD (n:=(1:Int)+1) (by decide) (by decide),aR,an,bT (by decide),cond_false];rfl
theorem vC(l:List Ln)(h:l.length<=12):(AN l).1.length<=1000:=by
 unfold AN
 cases l.all fun x=>nu x.2
 ·exact Nat.zero_le _
 ·exact Nat.le_trans h (by decide)
def Mm(v w:Pt):Nm:=kW (kQ v.1 w.2) (kQ v.2 w.1)
def Ei(a b:Int):Nm:=Mm (aq (a+4)) (aq (b+4))
def Ar(y:Nm):Bool:=
 decide (y.1*y.1-2*y.2.1*y.2.1≠0)&&(decide ((fC 64 (y.1*y.1-2*y.2.1*y.2.1)).1=1)||decide ((fC 64 (y.1*y.1-2*y.2.1*y.2.1)).1= -1))&&decide ((fC 64 (y.1*y.1-2*y.2.1*y.2.1)).2<=8)
theorem P8:((List.range 8).all fun a=>(List.range 8).all fun b=>decide (a=b)||Ar (Ei (a:Int) (b:Int)))=true:=by decide+kernel
theorem CP{a b:Int}(h0:0<=a)(h1:a<=7)(h2:0<=b)(h3:b<=7)(hne:a≠b){P:Prop}(_hp:P):Ar (Ei a b)=true:=by
 have h:=List.all_eq_true.1 (List.all_eq_true.1 P8 a.toNat (by simp;omega)) b.toNat (by simp;omega)
 rw[Int.toNat_of_nonneg h0,Int.toNat_of_nonneg h2]at h
 simp only[Bool.or_eq_true,decide_eq_true_eq]at h
 rcases h with h|h
 ·omega
 ·exact h
theorem JY{a b:Int}(h0:0<=a)(h1:a<=7)(h2:0<=b)(h3:b<=7):Bd 6 0 (Ei a b):=by
 obtain⟨v1,v2⟩:=el (d:=a+4) (by omega) (by omega)
 obtain⟨w1,w2⟩:=el (d:=b+4) (by omega) (by omega)
 exact rT (cR (by decide) v1 w2) (cR (by decide) v2 w1)
def Jd(l m:Ln):Nm:=kW (kQ l.2 (aq (m.1+4)).2) (kQ m.2 (aq (l.1+4)).2)
def Je(l m:Ln):Nm:=kW (kQ m.2 (aq (l.1+4)).1) (kQ l.2 (aq (m.1+4)).1)
def fB(l m:Ln):Pt:=((uq (Jd l m) (Ei l.1 m.1)).1,(uq (Je l m) (Ei l.1 m.1)).1)
theorem Dj{l m:Ln}(hl:jd l=true)(hm:jd m=true):Bd 786432 10 (Jd l m)/\Bd 786432 10 (Je l m):=by
 obtain⟨l0,l1,lb,_⟩:=du hl
 obtain⟨m0,m1,mb,_⟩:=du hm
 obtain⟨v1,v2⟩:=el (d:=l.1+4) (by omega) (by omega)
 obtain⟨w1,w2⟩:=el (d:=m.1+4) (by omega) (by omega)
 exact⟨rT (cR (by decide) lb w2) (cR (by decide) mb v2),rT (cR (by decide) mb v1) (cR (by decide) lb w1)⟩
theorem GH{x y:Nm}(hx:Bd 786432 10 x)(hy:Bd 6 0 y)(hg:Ar y=true):uq x y=((uq x y).1,true)/\Bd 14155776 18 (uq x y).1:=by
 simp only[Ar,Bool.and_eq_true,Bool.or_eq_true,decide_eq_true_eq]at hg
 obtain⟨⟨g1,g2⟩,g3⟩:=hg
 obtain⟨t,t1,t2,t3,_,_⟩:=At (by decide) hx hy (m:=(fC 64 (y.1*y.1-2*y.2.1*y.2.1)).1) (t:=(fC 64 (y.1*y.1-2*y.2.1*y.2.1)).2) rfl g2 g1
 rw[t1]
 exact⟨rfl,t3.mono (by decide) (by omega)⟩
theorem Hw{l m:Ln}(hl:jd l=true)(hm:jd m=true)(hne:l.1≠m.1){P:Prop}(hp:P):Bd 14155776 18 (fB l m).1/\Bd 14155776 18 (fB l m).2:=by
 obtain⟨l0,l1,_,_⟩:=du hl
 obtain⟨m0,m1,_,_⟩:=du hm
 have hg:=CP l0 l1 m0 m1 hne hp
 have hd:=JY l0 l1 m0 m1
 have hb:=Dj hl hm
 exact⟨(GH hb.1 hd hg).2,(GH hb.2 hd hg).2⟩
theorem LA{l m:Ln}(hl:jd l=true)(hm:jd m=true)(_hne:l.1≠m.1){P:Prop}(_hp:P):jK l m=some (fB l m):=by
 obtain⟨l0,l1,lb,_⟩:=du hl
 obtain⟨m0,m1,mb,_⟩:=du hm
 obtain⟨v1,v2⟩:=el (d:=l.1+4) (by omega) (by omega)
 obtain⟨w1,w2⟩:=el (d:=m.1+4) (by omega) (by omega)
 have hd:=JY l0 l1 m0 m1
 have hb:=Dj hl hm
 have a1:=(gB v1 w2 (by decide) (by decide) (by decide) (by decide)).1
 have a2:=(gB v2 w1 (by decide) (by decide) (by decide) (by decide)).1
 have a3:=(lS (cR (by decide) v1 w2) (cR (by decide) v2 w1) (by decide) (by decide) (by decide) (by decide) (by decide)).1
 have b1:=(gB lb w2 (by decide) (by decide) (by decide) (by decide)).1
 have b2:=(gB mb v2 (by decide) (by decide) (by decide) (by decide)).1
 have b3:=(lS (cR (by decide) lb w2) (cR (by decide) mb v2) (by decide) (by decide) (by decide) (by decide) (by decide)).1
 have c1:=(gB mb v1 (by decide) (by decide) (by decide) (by decide)).1
 have c2:=(gB lb w1 (by decide) (by decide) (by decide) (by decide)).1
 have c3:=(lS (cR (by decide) mb v1) (cR (by decide) lb w1) (by decide) (by decide) (by decide) (by decide) (by decide)).1
 have d1:=(xL hb.1 hd (by decide) (by decide) (by decide) (by decide) (by decide) (by decide)).1
 have d2:=(xL hb.2 hd (by decide) (by decide) (by decide) (by decide) (by decide) (by decide)).1
 unfold Jd Ei Mm at d1
 unfold Je Ei Mm at d2
 rw[jK,qV,aD (n:=l.1+4) (by omega) (by omega),aD (n:=m.1+4) (by omega) (by omega),(nH (d:=l.1+4) (by omega) (by omega)).1,(nH (d:=m.1+4) (by omega) (by omega)).1]
 simp only[Option.bind_some,aM,cC,aX,bX]
 rw[a1,Option.bind_some,a2,Option.bind_some,a3,Option.bind_some,b1,Option.bind_some,b2,Option.bind_some,b3,Option.bind_some,d1,Option.bind_some,c1,Option.bind_some,c2,Option.bind_some,c3,Option.bind_some,d2,Option.bind_some]
 rfl
theorem Lc{l m:Ln}(hl:jd l=true)(hm:jd m=true)(hne:l.1≠m.1){P:Prop}(hp:P):gN l m=some (fB l m,true):=by
 obtain⟨l0,l1,lb,_⟩:=du hl
 obtain⟨m0,m1,mb,_⟩:=du hm
 obtain⟨v1,v2⟩:=el (d:=l.1+4) (by omega) (by omega)
 obtain⟨w1,w2⟩:=el (d:=m.1+4) (by omega) (by omega)
 have hd:=JY l0 l1 m0 m1
 have hg:=CP l0 l1 m0 m1 hne hp
 have hb:=Dj hl hm
 have a1:=(gB v1 w2 (by decide) (by decide) (by decide) (by decide)).2
 have a2:=(gB v2 w1 (by decide) (by decide) (by decide) (by decide)).2
 have a3:=(lS (cR (by decide) v1 w2) (cR (by decide) v2 w1) (by decide) (by decide) (by decide) (by decide) (by decide)).2
 have b1:=(gB lb w2 (by decide) (by decide) (by decide) (by decide)).2
 have b2:=(gB mb v2 (by decide) (by decide) (by decide) (by decide)).2
 have b3:=(lS (cR (by decide) lb w2) (cR (by decide) mb v2) (by decide) (by decide) (by decide) (by decide) (by decide)).2
 have c1:=(gB mb v1 (by decide) (by decide) (by decide) (by decide)).2
 have c2:=(gB lb w1 (by decide) (by decide) (by decide) (by decide)).2
 have c3:=(lS (cR (by decide) mb v1) (cR (by decide) lb w1) (by decide) (by decide) (by decide) (by decide) (by decide)).2
 have q1:=(GH hb.1 hd hg).1
 have q2:=(GH hb.2 hd hg).1
 have d1:=(xL hb.1 hd (by decide) (by decide) (by decide) (by decide) (by decide) (by decide)).2
 have d2:=(xL hb.2 hd (by decide) (by decide) (by decide) (by decide) (by decide) (by decide)).2
 rw[q1]at d1
 rw[q2]at d2
 have a3':bJ (kQ (aq (l.1+4)).1 (aq (m.1+4)).2) (kQ (aq (l.1+4)).2 (aq (m.1+4)).1)=some (Ei l.1 m.1):=a3
 have b3':bJ (kQ l.2 (aq (m.1+4)).2) (kQ m.2 (aq (l.1+4)).2)=some (Jd l m):=b3
 have c3':bJ (kQ m.2 (aq (l.1+4)).1) (kQ l.2 (aq (m.1+4)).1)=some (Je l m):=c3
 rw[gN,lq,bv,cM,bv,cM]
 try simp only
 rw[aD (n:=l.1+4) (by omega) (by omega),aD (n:=m.1+4) (by omega) (by omega),(nH (d:=l.1+4) (by omega) (by omega)).2,(nH (d:=m.1+4) (by omega) (by omega)).2]
 simp only[Option.bind_some,eD,gW]
 rw[a1,Option.bind_some,a2,Option.bind_some,a3',Option.bind_some,Option.bind_some,b1,Option.bind_some,b2,Option.bind_some,b3',Option.bind_some,d1,Option.bind_some,c1,Option.bind_some,c2,Option.bind_some,c3',Option.bind_some,d2,Option.bind_some]
 rfl
theorem Rg(a b:Ln):((a.1==b.1)&&(((a.2.1==b.2.1)&&((a.2.2.1==b.2.2.1)&&((a.2.2.2==b.2.2.2)&&true)))&&true))=decide (a=b):=by
 obtain⟨a1,a2,a3,a4⟩:=a
 obtain⟨b1,b2,b3,b4⟩:=b
 rw[Bool.eq_iff_iff]
 simp only[Bool.and_eq_true,beq_iff_eq,decide_eq_true_eq,Prod.mk.injEq,and_true]
def yl(l m:Ln):Ln:=(l.1,low ((ej l.2 m.2).2.2.toNat+1) (ej l.2 m.2).1 (ej l.2 m.2).2.1)
def Gu(l m:Ln):List Ln:=cond (decide ((l.1+m.1)/2<=3)) [jz (fB l m) ((l.1+m.1)/2),jz (fB l m) ((l.1+m.1)/2+4)] [jz (fB l m) ((l.1+m.1)/2-4),jz (fB l m) ((l.1+m.1)/2)]
def ry(l m:Ln):List Ln×Int:=
 cond (jd l&&jd m) (cond (decide (l=m)) ([],7) (cond (decide (l.1=m.1)) (AN [yl l m]) (cond (decide ((l.1+m.1)%2=0)) (AN (Gu l m)) ([],0)))) ([],1)
theorem GD{p:Pt}(hp:Bd 14155776 18 p.1/\Bd 14155776 18 p.2){d:Int}(h0:0<=d)(h1:d<8):NQ (jz p d):=by
 have hb:=lI (V:=1) (by decide) (el (d:=d+4) (by omega) (by omega)) hp
 have hi:=uf hb (by decide) (by decide)
 exact⟨co _ _,by have:=hb.2.1;exact Int.le_trans this (by decide),hi.1,hi.2⟩
theorem Qp(x:Ln):jv [] x=some [x]:=by
 rw[jv,pc,rG,gy]
 rfl
theorem Qq(x y:Ln)(hne:x.1≠y.1):jv [x] y=some (cond (decide (x.1>y.1)) [y,x] [x,y]):=by
 rw[jv,pc,rG,gy,bG (by simp),cond_true,show((([x]:List Ln).length:Nat):Int)=1 from rfl,aD (n:=(1:Int)-1) (by decide) (by decide),
  show vu [x] ((1:Int)-1)=some x from rfl]
 simp only[Option.bind_some]
 by_cases h:x.1>y.1
 ·rw[bG h,cond_true,cond_true,rG,gy]
  rfl
 ·rw[bT h,cond_false,cond_false,show(x.1==y.1)=false by simpa using hne,cond_false]
  rfl
theorem KF{l m:Ln}(hl:jd l=true)(hm:jd m=true):ec [(l.1,lE (ej l.2 m.2))]=some (AN [yl l m]):=by
 obtain⟨l0,l1,lb,_⟩:=du hl
 obtain⟨m0,m1,mb,_⟩:=du hm
 have hb:=fI lb mb
 have hh:=uA (by decide) hb
 have hi:=uf hh (by decide) (by decide)
 have hk:=hh.1
 have hk':=hh.2.1
 have lo:=AI (a:=(lE (ej l.2 m.2)).1) (b:=(lE (ej l.2 m.2)).2.1) hk (Int.le_trans hk' (by decide)) hi.1 hi.2
 have e:(lE (ej l.2 m.2)).2.2.toNat=(ej l.2 m.2).2.2.toNat+1:=by
  have:=hb.1
  show((ej l.2 m.2).2.2+1).toNat=_;omega
 rw[e]at lo
 have hn:bz (lE (ej l.2 m.2))=some (cond (nu (yl l m).2) ((yl l m).2,true) ((0,(0,0)),false)):=by
  rw[bz,kS]
  have lo':eF (lE (ej l.2 m.2))=some (yl l m).2:=lo
  rw[lo']
  simp only[Option.bind_some,Ai]
  cases nu (yl l m).2<;>rfl
 have hx:fY (l.1,lE (ej l.2 m.2))=some (cond (nu (yl l m).2) (yl l m,true) ((0,(0,(0,0))),false)):=by
  rw[fY,lA,hn,Option.bind_some]
  cases nu (yl l m).2<;>rfl
 rw[ec,oZ,oh,fj,bG (by simp),cond_true,show vu [(l.1,lE (ej l.2 m.2))] (0:Int)=some (l.1,lE (ej l.2 m.2))from rfl,Option.bind_some,hx,Option.bind_some]
 unfold AN
 simp only[List.all_cons,List.all_nil,Bool.and_true]
 cases nu (yl l m).2
 ·rfl
 ·simp only[cond_true,Bool.not_true,cond_false]
  rw[bG (by simp),bG (by simp),cond_true,cond_true,aD (n:=(0:Int)+1) (by decide) (by decide),oh,fj,bT (by simp),cond_false]
  rfl
theorem Rt(a:Int)(h0:0<=a):(Int.tmod a 2==1)=decide (a%2=1):=by
 rw[Int.tmod_eq_emod_of_nonneg h0];rfl
theorem Rq(l m:Ln):nP l m=some (ry l m):=by
 rw[nP,nZ,lm,lm]
 unfold ry
 simp only[Option.bind_some]
 cases hl:jd l
 ·rfl
 cases hm:jd m
 ·rfl
 obtain⟨l0,l1,lb,_⟩:=du hl
 obtain⟨m0,m1,mb,_⟩:=du hm
 rw[Rg]
 simp only[Bool.not_true,cond_false,Bool.and_self,cond_true]
 by_cases he:l=m
 ·rw[bG he];rfl
 ·rw[bT he,cond_false,cond_false]
  simp only[bu,ee,aX,bX,Option.bind_some]
  by_cases hd:l.1=m.1
  ·rw[show(l.1==m.1)=true by simpa using hd,bG hd,cond_true,cond_true]
   have hb:=fI lb mb
   rw[(mI lb mb (by decide) (by decide) (by decide) (by decide) (by decide)).1,Option.bind_some,DW _ hb.1 (Int.le_trans hb.2.1 (by decide)),Option.bind_some,List.nil_append,KF hl hm]
   rfl
  ·rw[show(l.1==m.1)=false by simpa using hd,bT hd,cond_false,cond_false,aD (n:=l.1+m.1) (by omega) (by omega),LH]
   by_cases hp:(l.1+m.1)%2=0
   ·have hb:=Hw hl hm hd hp
    rw[bG hp,cond_true,cond_true,LA hl hm hd hp,Option.bind_some,Int.tdiv_eq_ediv_of_nonneg (by omega),aD (n:=(l.1+m.1)/2) (by omega) (by omega),aD (n:=(l.1+m.1)/2+4) (by omega) (by omega),
     rE (by omega) (by omega) (by decide) (by decide) hb (by decide),Option.bind_some,Qp,Option.bind_some,rE (by omega) (by omega) (by decide) (by decide) hb (by decide),Option.bind_some,
     Qq _ _ (show(l.1+m.1)/2%8≠((l.1+m.1)/2+4)%8 by omega),Option.bind_some]
    have hlist:cond (decide ((jz (fB l m) ((l.1+m.1)/2%8)).1>(jz (fB l m) (((l.1+m.1)/2+4)%8)).1)) [jz (fB l m) (((l.1+m.1)/2+4)%8),jz (fB l m) ((l.1+m.1)/2%8)] [jz (fB l m) ((l.1+m.1)/2%8),jz (fB l m) (((l.1+m.1)/2+4)%8)]=Gu l m:=by
     unfold Gu
     rw[show(l.1+m.1)/2%8=(l.1+m.1)/2 by omega]
     by_cases h3:(l.1+m.1)/2<=3
     ·rw[bG h3,cond_true,show((l.1+m.1)/2+4)%8=(l.1+m.1)/2+4 by omega,bT (show¬(jz (fB l m) ((l.1+m.1)/2)).1>(jz (fB l m) ((l.1+m.1)/2+4)).1 from(by show¬(l.1+m.1)/2>(l.1+m.1)/2+4;omega))];rfl
     ·rw[bT h3,cond_false,show((l.1+m.1)/2+4)%8=(l.1+m.1)/2-4 by omega,bG (show(jz (fB l m) ((l.1+m.1)/2)).1>(jz (fB l m) ((l.1+m.1)/2-4)).1 from(by show(l.1+m.1)/2>(l.1+m.1)/2-4;omega))];rfl
    rw[hlist,GK (Gu l m) (by unfold Gu;cases decide ((l.1+m.1)/2<=3)<;>simp) ?_]
    ·rfl
    ·intro x hx
     unfold Gu at hx
     by_cases h3:(l.1+m.1)/2<=3
     ·rw[bG h3,cond_true]at hx
      simp only[List.mem_cons,List.not_mem_nil,or_false]at hx
      rcases hx with rfl|rfl
      ·exact GD hb (by omega) (by omega)
      ·exact GD hb (by omega) (by omega)
     ·rw[bT h3,cond_false]at hx
      simp only[List.mem_cons,List.not_mem_nil,or_false]at hx
      rcases hx with rfl|rfl
      ·exact GD hb (by omega) (by omega)
      ·exact GD hb (by omega) (by omega)
   ·rw[bT hp,cond_false,cond_false,GK [] (by simp) (fun x hx=>(List.not_mem_nil hx).elim)]
    rfl
theorem My(l m:Ln):jx l m=some (ry l m):=by
 rw[jx,ln,iv,iv]
 unfold ry
 simp only[Option.bind_some]
 cases hl:jd l
 ·rfl
 cases hm:jd m
 ·rfl
 obtain⟨l0,l1,lb,_⟩:=du hl
 obtain⟨m0,m1,mb,_⟩:=du hm
 rw[Rg]
 simp only[Bool.not_true,cond_false,Bool.and_self,cond_true]
 by_cases he:l=m
 ·rw[bG he];rfl
 ·rw[bT he,cond_false,cond_false,aD (n:=l.1+m.1) (by omega) (by omega),Rt _ (by omega)]
  by_cases hd:l.1=m.1
  ·rw[bT (show¬(l.1+m.1)%2=1 by omega),cond_false,show(l.1==m.1)=true by simpa using hd,bG hd,cond_true,cond_true]
   have hb:=fI lb mb
   rw[(mI lb mb (by decide) (by decide) (by decide) (by decide) (by decide)).2,Option.bind_some,zq hb (by decide) (by decide) (by decide),Option.bind_some]
   have h:=tJ [yl l m] (by simp) (fun x hx=>by simp only[List.mem_cons,List.not_mem_nil,or_false]at hx;subst hx;exact⟨l0,l1⟩) trivial
   have h':bV [(l.1,low ((ej l.2 m.2).2.2.toNat+1) (ej l.2 m.2).1 (ej l.2 m.2).2.1)]=_:=h
   rw[h'];rfl
  ·by_cases hp:(l.1+m.1)%2=0
   ·have hb:=Hw hl hm hd hp
    rw[bT (show¬(l.1+m.1)%2=1 by omega),cond_false,show(l.1==m.1)=false by simpa using hd,bT hd,cond_false,cond_false,bG hp,cond_true,Lc hl hm hd hp,Option.bind_some]
    simp only[Bool.not_true,cond_false]
    rw[Int.tdiv_eq_ediv_of_nonneg (by omega),aD (n:=(l.1+m.1)/2) (by omega) (by omega),aD (n:=(l.1+m.1)/2+4) (by omega) (by omega),Int.tmod_eq_emod_of_nonneg (by omega),
     qd (by omega) (by omega) (by decide) (by decide) hb (by decide),Option.bind_some,qd (by omega) (by omega) (by decide) (by decide) hb (by decide),Option.bind_some]
    unfold Gu
    by_cases h3:(l.1+m.1)/2<=3
    ·rw[bG h3,cond_true,show((l.1+m.1)/2+4)%8=(l.1+m.1)/2+4 by omega,
      tJ [jz (fB l m) ((l.1+m.1)/2),jz (fB l m) ((l.1+m.1)/2+4)] (by simp) (fun x hx=>by
       simp only[List.mem_cons,List.not_mem_nil,or_false]at hx
       rcases hx with rfl|rfl
       ·exact⟨by show 0<=(l.1+m.1)/2;omega,by show(l.1+m.1)/2<=7;omega⟩
       ·exact⟨by show 0<=(l.1+m.1)/2+4;omega,by show(l.1+m.1)/2+4<=7;omega⟩) ⟨by show(l.1+m.1)/2<(l.1+m.1)/2+4;omega,trivial⟩]
     rfl
    ·rw[bT h3,cond_false,show((l.1+m.1)/2+4)%8=(l.1+m.1)/2-4 by omega,
      Ky (jz (fB l m) ((l.1+m.1)/2)) (jz (fB l m) ((l.1+m.1)/2-4)) ⟨by show 0<=(l.1+m.1)/2;omega,by show(l.1+m.1)/2<=7;omega⟩
       ⟨by show 0<=(l.1+m.1)/2-4;omega,by show(l.1+m.1)/2-4<=7;omega⟩ (by show(l.1+m.1)/2-4<(l.1+m.1)/2;omega)]
     rfl
   ·rw[bG (show(l.1+m.1)%2=1 by omega),cond_true,bT hd,cond_false,bT hp,cond_false]
theorem II(l m:Ln):(ry l m).1.length<=1000:=by
 unfold ry
 cases jd l&&jd m
 ·exact Nat.zero_le _
 ·cases decide (l=m)
  ·cases decide (l.1=m.1)
   ·cases decide ((l.1+m.1)%2=0)
    ·exact Nat.zero_le _
    ·exact vC _ (by unfold Gu;cases decide ((l.1+m.1)/2<=3)<;>simp)
   ·exact vC _ (by simp)
  ·exact Nat.zero_le _
def yH(p:Pt)(l:Ln)(q:Pt)(m:Ln)(d:Int):List Ln:=
 cond (th (iE d l.1))
  (cond (th (jw p l)) (cond (th (iE d m.1)) [] [AM d q m]) [])
  (cond (th (iE d m.1)) (cond (th (jw q m)) [AM d p l] []) (cond (decide (AM d p l=AM d q m)) [AM d p l] []))
def iP(p:Pt)(l:Ln)(q:Pt)(m:Ln):Nat->Int->List Ln
 |0,_=>[]
 |n+1,d=>yH p l q m d++iP p l q m n (d+1)
theorem sB(p:Pt)(l:Ln)(q:Pt)(m:Ln)(d:Int):yH p l q m d=[]\/∃x,yH p l q m d=[x]/\((x=AM d p l/\th (iE d l.1)=false)\/(x=AM d q m/\th (iE d m.1)=false)):=by
 unfold yH
 cases h1:th (iE d l.1)
 ·cases h2:th (iE d m.1)
  ·simp only[cond_false]
   cases decide (AM d p l=AM d q m)
   ·exact .inl rfl
   ·exact .inr ⟨_,rfl, .inl ⟨rfl,trivial⟩⟩
  ·simp only[cond_false,cond_true]
   cases th (jw q m)
   ·exact .inl rfl
   ·exact .inr ⟨_,rfl, .inl ⟨rfl,trivial⟩⟩
 ·simp only[cond_true]
  cases th (jw p l)
  ·exact .inl rfl
  ·cases h2:th (iE d m.1)
   ·exact .inr ⟨_,rfl, .inr ⟨rfl,rfl⟩⟩
   ·exact .inl rfl
theorem Ak(p:Pt)(l:Ln)(q:Pt)(m:Ln):∀(n:Nat) (d:Int) (x:Ln),x∈iP p l q m n d->∃e,d<=e/\e<d+n/\x.1=e/\((x=AM e p l/\th (iE e l.1)=false)\/(x=AM e q m/\th (iE e m.1)=false))
 |0,d,x,h=>(List.not_mem_nil h).elim
 |n+1,d,x,h=>by
  rcases List.mem_append.1 h with h|h
  ·rcases sB p l q m d with e|⟨y,e,hy⟩
   ·rw[e]at h;cases h
   ·rw[e]at h
    simp only[List.mem_cons,List.not_mem_nil,or_false]at h
    subst h
    refine⟨d,Int.le_refl _,by omega, ?_,hy⟩
    rcases hy with⟨rfl,_⟩|⟨rfl,_⟩<;>rfl
  ·obtain⟨e,h1,h2,h3⟩:=Ak p l q m n (d+1) x h
   exact⟨e,by omega,by omega,h3⟩
theorem qZ(p:Pt)(l:Ln)(q:Pt)(m:Ln):∀(n:Nat) (d:Int),(iP p l q m n d).length<=n
 |0,d=>Nat.le_refl _
 |n+1,d=>by
  have:=qZ p l q m n (d+1)
  rcases sB p l q m d with e|⟨y,e,_⟩
  ·simp only[iP,e,List.nil_append];omega
  ·simp only[iP,e,List.length_append,List.length_singleton];omega
theorem xX{x:Ln}:∀{l:List Ln},(∀y,y∈l->x.1<y.1)->xm l->xm (x::l)
 |[],_,_=>trivial
 |y::r,h,hr=>⟨h y (by simp),hr⟩
theorem BS(p:Pt)(l:Ln)(q:Pt)(m:Ln):∀(n:Nat) (d:Int),xm (iP p l q m n d)
 |0,d=>trivial
 |n+1,d=>by
  have ih:=BS p l q m n (d+1)
  rcases sB p l q m d with e|⟨y,e,hy⟩
  ·simp only[iP,e,List.nil_append];exact ih
  ·simp only[iP,e,List.singleton_append]
   refine xX (fun z hz=> ?_) ih
   obtain⟨e,h1,_,h3,_⟩:=Ak p l q m n (d+1) z hz
   have:y.1=d:=by rcases hy with⟨rfl,_⟩|⟨rfl,_⟩<;>rfl
   omega
section
variable {p q:Pt} {l m:Ln} (hp:jF p=true) (hl:jd l=true) (hq:jF q=true) (hm:jd m=true)
include hp hl hq hm
theorem Ix{d:Int}(h0:0<=d)(h1:d<8)(acc:List Ln)(hacc:acc.length<=1000){R:Type}(nx:jB.T->Option R)(hx:ma R hQ):
 fE nx hx acc d p.1.1 p.1.2.1 p.1.2.2 p.2.1 p.2.2.1 p.2.2.2 l.1 l.2.1 l.2.2.1 l.2.2.2 q.1.1 q.1.2.1 q.1.2.2 q.2.1 q.2.2.1 q.2.2.2 m.1 m.2.1 m.2.2.1 m.2.2.2=
  nx (aZ (acc++yH p l q m d) (d+1) p.1.1 p.1.2.1 p.1.2.2 p.2.1 p.2.2.1 p.2.2.2 l.1 l.2.1 l.2.2.1 l.2.2.2 q.1.1 q.1.2.1 q.1.2.2 q.2.1 q.2.2.1 q.2.2.2 m.1 m.2.1 m.2.2.1 m.2.2.2):=by
 obtain⟨l0,l1,lb,_⟩:=du hl
 obtain⟨m0,m1,mb,_⟩:=du hm
 have bp:=ew hp
 have bq:=ew hq
 have mv1:=(Ax h0 h1 l0 l1 lb bp).1
 have mv2:=(Ax h0 h1 m0 m1 mb bq).1
 have k1:decide ((acc.length+1)*32<=70368744177664)=true:=bG (by omega)
 have k2:decide (acc.length+1<=70368744177664)=true:=bG (by omega)
 rw[fE,bG h1,cond_true,aD (n:=d+1) (by omega) (by omega)]
 simp only[bu,ee,aM,cC,aX,bX,Option.bind_some]
 rw[mv1,Option.bind_some,mv2,Option.bind_some]
 unfold Ft yH
 cases z1:th (iE d l.1)
 ·cases z2:th (iE d m.1)
  ·have b1:=GX h0 h1 l0 l1 lb bp z1
   have b2:=GX h0 h1 m0 m1 mb bq z2
   have sb:=(lS b1 b2 (by decide) (by decide) (by decide) (by decide) (by decide)).1
   have hz:=KI (x:=(AM d p l).2) (y:=(AM d q m).2) (co _ _) (co _ _)
   have hz':decide ((kW (AM d p l).2 (AM d q m).2).1=0/\(kW (AM d p l).2 (AM d q m).2).2.1=0)=decide (AM d p l=AM d q m):=by
    rw[Bool.eq_iff_iff,decide_eq_true_eq,decide_eq_true_eq,hz]
    exact⟨fun h=>Prod.ext rfl h,fun h=>by rw[h]⟩
   simp only[cond_false,show((1:Int)==1)=true from rfl,show((1:Int)==2)=false from rfl,cond_true,sb,Option.bind_some,GL,hz']
   cases decide (AM d p l=AM d q m)
   ·simp only[cond_false,List.append_nil]
   ·simp only[cond_true,List.length_singleton,k1,k2]
  ·cases th (jw q m)
   ·simp only[cond_false,cond_true,show((1:Int)==1)=true from rfl,show((0:Int)==2)=false from rfl,show((1:Int)==2)=false from rfl,show((0:Int)==1)=false from rfl,List.append_nil]
   ·simp only[cond_false,cond_true,show((1:Int)==1)=true from rfl,show((2:Int)==2)=true from rfl,List.length_singleton,k1,k2]
 ·cases th (jw p l)
  ·cases z2:th (iE d m.1)<;>cases th (jw q m)<;>
    simp only[cond_false,cond_true,show((0:Int)==1)=false from rfl,show((0:Int)==2)=false from rfl,List.append_nil]
  ·cases z2:th (iE d m.1)
   ·simp only[cond_false,cond_true,show((2:Int)==1)=false from rfl,show((2:Int)==2)=true from rfl,show((1:Int)==1)=true from rfl,List.length_singleton,k1,k2]
   ·cases th (jw q m)<;>
     simp only[cond_false,cond_true,show((2:Int)==1)=false from rfl,show((0:Int)==1)=false from rfl,show((2:Int)==2)=true from rfl,List.append_nil]
theorem Iw{d:Int}(h0:0<=d)(h1:d<8)(acc:List Ln)(hacc:acc.length<=1000){R:Type}(nx:jA.T->Option R)(hx:ma R gZ):
 fD nx hx acc d p.1.1 p.1.2.1 p.1.2.2 p.2.1 p.2.2.1 p.2.2.2 l.1 l.2.1 l.2.2.1 l.2.2.2 q.1.1 q.1.2.1 q.1.2.2 q.2.1 q.2.2.1 q.2.2.2 m.1 m.2.1 m.2.2.1 m.2.2.2=
  nx (ch (acc++yH p l q m d) (d+1) p.1.1 p.1.2.1 p.1.2.2 p.2.1 p.2.2.1 p.2.2.2 l.1 l.2.1 l.2.2.1 l.2.2.2 q.1.1 q.1.2.1 q.1.2.2 q.2.1 q.2.2.1 q.2.2.2 m.1 m.2.1 m.2.2.1 m.2.2.2):=by
 obtain⟨l0,l1,lb,_⟩:=du hl
 obtain⟨m0,m1,mb,_⟩:=du hm
 have bp:=ew hp
 have bq:=ew hq
 have mv1:=(Ax h0 h1 l0 l1 lb bp).2
 have mv2:=(Ax h0 h1 m0 m1 mb bq).2
 have k1:decide ((acc.length+1)*32<=70368744177664)=true:=bG (by omega)
 have k2:decide (acc.length+1<=70368744177664)=true:=bG (by omega)
 rw[fD,bG h1,cond_true,aD (n:=d+1) (by omega) (by omega)]
 rw[mv1,Option.bind_some,mv2,Option.bind_some]
 unfold Ft yH
 cases z1:th (iE d l.1)
 ·cases z2:th (iE d m.1)
  ·simp only[cond_false,show((1:Int)==0)=false from rfl,show((1:Int)==2)=false from rfl,show((1:Int)==3)=false from rfl,Rg]
   cases decide (AM d p l=AM d q m)
   ·simp only[cond_false,List.append_nil]
   ·simp only[cond_true,List.length_singleton,k1,k2]
  ·cases th (jw q m)
   ·simp only[cond_false,cond_true,show((1:Int)==0)=false from rfl,show((0:Int)==0)=true from rfl,List.append_nil]
   ·simp only[cond_false,cond_true,show((1:Int)==0)=false from rfl,show((2:Int)==0)=false from rfl,show((1:Int)==2)=false from rfl,show((1:Int)==3)=false from rfl,
     show((2:Int)==3)=false from rfl,show((2:Int)==2)=true from rfl,List.length_singleton,k1,k2]
 ·cases th (jw p l)
  ·cases z2:th (iE d m.1)<;>cases th (jw q m)<;>
    simp only[cond_false,cond_true,show((0:Int)==0)=true from rfl,List.append_nil]
  ·cases z2:th (iE d m.1)
   ·simp only[cond_false,cond_true,show((2:Int)==0)=false from rfl,show((1:Int)==0)=false from rfl,show((2:Int)==2)=true from rfl,show((1:Int)==2)=false from rfl,
     show((2:Int)==3)=false from rfl,show((1:Int)==3)=false from rfl,List.length_singleton,k1,k2]
   ·cases th (jw q m)
    ·simp only[cond_false,cond_true,show((2:Int)==0)=false from rfl,show((0:Int)==0)=true from rfl,List.append_nil]
    ·simp only[cond_false,cond_true,show((2:Int)==0)=false from rfl,show((2:Int)==2)=true from rfl,List.append_nil]
theorem BU:∀(n:Nat) (d:Int) (acc:List Ln),0<=d->d+n=8->acc.length<=900-n->
 oe (aZ acc d p.1.1 p.1.2.1 p.1.2.2 p.2.1 p.2.2.1 p.2.2.2 l.1 l.2.1 l.2.2.1 l.2.2.2 q.1.1 q.1.2.1 q.1.2.2 q.2.1 q.2.2.1 q.2.2.2 m.1 m.2.1 m.2.2.1 m.2.2.2)=some (.inl (uo (acc++iP p l q m n d)))
 |0,d,acc,h0,h1,ha=>by
  rw[wn,fE,bT (by omega),cond_false]
  simp only[iP,List.append_nil];rfl
 |n+1,d,acc,h0,h1,ha=>by
  rw[wn,Ix hp hl hq hm h0 (by omega) acc (by omega)]
  have hlen:(yH p l q m d).length<=1:=by
   rcases sB p l q m d with e|⟨y,e,_⟩<;>rw[e]<;>simp
  refine(BU n (d+1) (acc++yH p l q m d) (by omega) (by omega) (by simp only[List.length_append];omega)).trans ?_
  rw[iP,List.append_assoc]
theorem BT:∀(n:Nat) (d:Int) (acc:List Ln),0<=d->d+n=8->acc.length<=900-n->
 oc (ch acc d p.1.1 p.1.2.1 p.1.2.2 p.2.1 p.2.2.1 p.2.2.2 l.1 l.2.1 l.2.2.1 l.2.2.2 q.1.1 q.1.2.1 q.1.2.2 q.2.1 q.2.2.1 q.2.2.2 m.1 m.2.1 m.2.2.1 m.2.2.2)=some (.inr (.inl (ul (acc++iP p l q m n d))))
 |0,d,acc,h0,h1,ha=>by
  rw[wl,fD,bT (by omega),cond_false]
  simp only[iP,List.append_nil];rfl
 |n+1,d,acc,h0,h1,ha=>by
  rw[wl,Iw hp hl hq hm h0 (by omega) acc (by omega)]
  have hlen:(yH p l q m d).length<=1:=by
   rcases sB p l q m d with e|⟨y,e,_⟩<;>rw[e]<;>simp
  refine(BT n (d+1) (acc++yH p l q m d) (by omega) (by omega) (by simp only[List.length_append];omega)).trans ?_
  rw[iP,List.append_assoc]
end
def On(p:Pt)(l:Ln)(q:Pt)(m:Ln):List Ln×Int:=cond (jF p&&(jd l&&(jF q&&jd m))) (AN (iP p l q m 8 0)) ([],1)
theorem FJ{p q:Pt}{l m:Ln}(hp:jF p=true)(hl:jd l=true)(hq:jF q=true)(hm:jd m=true)(x:Ln)(hx:x∈iP p l q m 8 0):NQ x/\0<=x.1/\x.1<=7:=by
 obtain⟨l0,l1,lb,_⟩:=du hl
 obtain⟨m0,m1,mb,_⟩:=du hm
 obtain⟨e,h1,h2,h3,h4⟩:=Ak p l q m 8 0 x hx
 refine⟨?_,by omega,by omega⟩
 rcases h4 with⟨rfl,hz⟩|⟨rfl,hz⟩
 ·have hb:=GX (by omega) (by omega) l0 l1 lb (ew hp) hz
  have hi:=uf hb (by decide) (by decide)
  exact⟨co _ _,by have:=hb.2.1;exact Int.le_trans this (by decide),hi.1,hi.2⟩
 ·have hb:=GX (by omega) (by omega) m0 m1 mb (ew hq) hz
  have hi:=uf hb (by decide) (by decide)
  exact⟨co _ _,by have:=hb.2.1;exact Int.le_trans this (by decide),hi.1,hi.2⟩
theorem Sb(p:Pt)(l:Ln)(q:Pt)(m:Ln):qv p l q m=some (On p l q m):=by
 rw[qv,qP,lm,lm,kD,kD]
 unfold On
 simp only[Option.bind_some]
 cases hp:jF p
 ·rfl
 cases hl:jd l
 ·rfl
 cases hq:jF q
 ·rfl
 cases hm:jd m
 ·rfl
 simp only[Bool.not_true,cond_false,Bool.and_self,cond_true]
 rw[BU hp hl hq hm 8 0 [] (by decide) (by decide) (by simp),List.nil_append]
 have h:=GK (iP p l q m 8 0) (Nat.le_trans (qZ p l q m 8 0) (by decide)) (fun x hx=>(FJ hp hl hq hm x hx).1)
 show(ec (iP p l q m 8 0)).bind _=_
 rw[h];rfl
theorem RZ(p:Pt)(l:Ln)(q:Pt)(m:Ln):qq p l q m=some (On p l q m):=by
 rw[qq,qK,iv,iv,iw,iw]
 unfold On
 simp only[Option.bind_some]
 cases hp:jF p
 ·rfl
 cases hl:jd l
 ·rfl
 cases hq:jF q
 ·rfl
 cases hm:jd m
 ·rfl
 simp only[Bool.not_true,cond_false,Bool.and_self,cond_true]
 rw[BT hp hl hq hm 8 0 [] (by decide) (by decide) (by simp),List.nil_append]
 have h:=tJ (iP p l q m 8 0) (Nat.le_trans (qZ p l q m 8 0) (by decide)) (fun x hx=>(FJ hp hl hq hm x hx).2) (BS p l q m 8 0)
 show cond (decide True) ((bV (iP p l q m 8 0)).bind _) none=_
 rw[bG trivial,cond_true,h];rfl
theorem Q0(p:Pt)(l:Ln)(q:Pt)(m:Ln):(On p l q m).1.length<=1000:=by
 unfold On
 cases jF p&&(jd l&&(jF q&&jd m))
 ·exact Nat.zero_le _
 ·exact vC _ (Nat.le_trans (qZ p l q m 8 0) (by decide))
theorem LG{V V':Int}{κ κ':Nat}{v:Pt}{x:Nm}(hv:Bd V κ v.1/\Bd V κ v.2)(hx:Bd V' κ' x)(hV:0<=V)(hκ:κ+κ'<=1000)(h1:V*2^κ<=2305843009213693952)(h2:3*(V*V')*2^(κ+κ')<=4611686018427387904):
 fm v x=some (yg v x):=by
 rw[fm,jS,(gB hv.1 hx hV hκ h1 h2).2,(gB hv.2 hx hV hκ h1 h2).2];rfl
def bL(l:Ln)(p:Pt):Pt:=
 BG p (yg (aq (l.1+4)) (ej (ur (KH (l.1+4)) (kW l.2 (bI (aq (l.1+4)) p)) (pU (l.1+4))) (ur (KH (l.1+4)) (kW l.2 (bI (aq (l.1+4)) p)) (pU (l.1+4)))))
theorem Ju(t:Nat)(p n a b s:Nm):kW p (kQ (ej (ur t (kW a b) s) (ur t (kW a b) s)) n)=ej p (kQ n (ej (ur t (kW b a) s) (ur t (kW b a) s))):=by
 refine ex (lN _ _ _) (lN _ _ _) ?_ ?_
 ·rw[mW,iH,lO,lO,iH,iH,iI,iI,CT,CT,CU,CU,mW,mW,mX,mX]
  have:=aN t
  grind
 ·rw[mX,iI,lP,lP,iH,iH,iI,iI,CT,CT,CU,CU,mW,mW,mX,mX]
  have:=aN t
  grind
theorem zW{V:Int}{κ:Nat}{l:Ln}{p:Pt}(h0:0<=l.1)(h1:l.1<=7)(hl:Bd 786432 10 l.2)(hV:0<=V)(hκ:10<=κ)(hp:Bd V κ p.1/\Bd V κ p.2):Bd (V+72*(786432+6*V)) (κ+3) (bL l p).1/\Bd (V+72*(786432+6*V)) (κ+3) (bL l p).2:=by
 have hd0:0<=l.1+4:=by omega
 have hd1:l.1+4<16:=by omega
 have hdot:=lI (V:=1) (by decide) (el hd0 hd1) hp
 have hsub:=rT hl hdot
 have hdiv:=CR (by omega) hsub (vk hd0 hd1) (Iq hd0 hd1)
 have hadd:=fI hdiv hdiv
 have ht:=E0 (V:=1) (by decide) (el hd0 hd1) hadd
 have:=Py hp ht
 exact⟨this.1.mono (by omega) (by omega),this.2.mono (by omega) (by omega)⟩
theorem uT{V:Int}{κ:Nat}{l:Ln}{p:Pt}(h0:0<=l.1)(h1:l.1<=7)(hl:Bd 786432 10 l.2)(hV:0<=V)(hκ:10<=κ)(hκ':κ<=50)(hp:Bd V κ p.1/\Bd V κ p.2)(h:(V+72*(786432+6*V))*2^(κ+3)<=4611686018427387904):
 fX l p=some (bL l p)/\cP l p=some (bL l p):=by
 have hd0:0<=l.1+4:=by omega
 have hd1:l.1+4<16:=by omega
 have hp8:(2:Int)^(κ+3)=8*2^κ:=by rw[Int.pow_add];grind
 have hVp:0<=V*2^κ:=Int.mul_nonneg hV (Int.le_of_lt (Int.pow_pos (by decide)))
 have hpp:(0:Int)<2^κ:=Int.pow_pos (by decide)
 have eh:(V+72*(786432+6*V))*2^(κ+3)=3464*(V*2^κ)+452984832*2^κ:=by rw[hp8];grind
 rw[eh]at h
 have hdot:=lI (V:=1) (by decide) (el hd0 hd1) hp
 have okdot:=sD (d:=l.1+4) hd0 hd1 hV (by omega) hp (by have:6*V*2^κ=6*(V*2^κ):=Int.mul_assoc .. ;omega)
 have hdot:Bd (6*V) κ (bI (aq (l.1+4)) p):=hdot.mono (by omega) (by omega)
 have hmax:max 10 κ=κ:=by omega
 have hmax2:max κ 10=κ:=by omega
 have e1:(786432+6*V)*2^κ=786432*2^κ+6*(V*2^κ):=by grind
 have s1:=lS hl hdot (by decide) (by omega) (by decide) (by omega) (by rw[hmax,e1];omega)
 have s2:=lS hdot hl (by omega) (by decide) (by omega) (by decide) (by rw[hmax2,Int.add_comm,e1];omega)
 have hs1:=rT hl hdot
 have hs2:=rT hdot hl
 rw[hmax]at hs1
 rw[hmax2,Int.add_comm]at hs2
 have e4:3*((786432+6*V)*4)*2^(κ+0)=12*((786432+6*V)*2^κ):=by rw[Nat.add_zero];grind
 have d1:=xL hs1 (vk hd0 hd1) (by omega) (by decide) (by decide) (by omega) (by rw[e1];omega) (by rw[e4,e1];omega)
 have d2:=xL hs2 (vk hd0 hd1) (by omega) (by decide) (by decide) (by omega) (by rw[e1];omega) (by rw[e4,e1];omega)
 rw[Nq hd0 hd1]at d1 d2
 have b1:=CR (by omega) hs1 (vk hd0 hd1) (Iq hd0 hd1)
 have b2:=CR (by omega) hs2 (vk hd0 hd1) (Iq hd0 hd1)
 have e5:(12*(786432+6*V)+12*(786432+6*V))*2^(κ+3)=192*((786432+6*V)*2^κ):=by rw[hp8];grind
 have a1:=mI b1 b1 (by omega) (by omega) (by omega) (by omega) (by rw[Nat.max_self,e5,e1];omega)
 have a2:=mI b2 b2 (by omega) (by omega) (by omega) (by omega) (by rw[Nat.max_self,e5,e1];omega)
 have c1:=fI b1 b1
 have c2:=fI b2 b2
 rw[Nat.max_self]at c1 c2
 obtain⟨v1,v2⟩:=el hd0 hd1
 have e6:3*((12*(786432+6*V)+12*(786432+6*V))*1)*2^(κ+3+0)=576*((786432+6*V)*2^κ):=by rw[Nat.add_zero,hp8];grind
 have e7:3*(1*(12*(786432+6*V)+12*(786432+6*V)))*2^(0+(κ+3))=576*((786432+6*V)*2^κ):=by rw[Nat.zero_add,hp8];grind
 have m1:=gB c2 v1 (by omega) (by omega) (by rw[e5,e1];omega) (by rw[e6,e1];omega)
 have m2:=gB c2 v2 (by omega) (by omega) (by rw[e5,e1];omega) (by rw[e6,e1];omega)
 have t1:=LG (el hd0 hd1) c1 (by decide) (by omega) (by decide) (by rw[e7,e1];omega)
 have tb:=E0 (V:=1) (by decide) (el hd0 hd1) c1
 have mb1:=cR (by omega) c2 v1
 have mb2:=cR (by omega) c2 v2
 have e8:(V+3*((12*(786432+6*V)+12*(786432+6*V))*1))*2^(κ+3)=8*(V*2^κ)+576*((786432+6*V)*2^κ):=by rw[hp8];grind
 have e9:(V+3*(1*(12*(786432+6*V)+12*(786432+6*V))))*2^(κ+3)=8*(V*2^κ)+576*((786432+6*V)*2^κ):=by rw[hp8];grind
 have hm1:max κ (κ+3+0)=κ+3:=by omega
 have hm2:max κ (0+(κ+3))=κ+3:=by omega
 have f1:=lS hp.1 mb1 hV (by omega) (by omega) (by omega) (by rw[hm1,e8,e1];omega)
 have f2:=lS hp.2 mb2 hV (by omega) (by omega) (by omega) (by rw[hm1,e8,e1];omega)
 have p1:=Kv hp tb hV (by omega) (by omega) (by omega) (by rw[hm2,e9,e1];omega)
 have hw:IntKind.wrap .i64 (l.1+4)=l.1+4:=aD (by omega) (by omega)
 constructor
 ·rw[fX,nd,hw,(nH hd0 hd1).1]
  simp only[Option.bind_some,aM,cC,aX,bX]
  rw[okdot.1,Option.bind_some,s2.1,Option.bind_some,MT hd0 hd1,Option.bind_some,d2.1,Option.bind_some]
  try simp only
  rw[a2.1,Option.bind_some,m1.1,Option.bind_some,m2.1,Option.bind_some,fi,km,f1.1,Option.bind_some,f2.1,Option.bind_some,Option.bind_some,Ju,Ju]
  rfl
 ·rw[cP,jj,bv,cM]
  try simp only
  rw[hw,(nH hd0 hd1).2]
  simp only[Option.bind_some]
  rw[okdot.2,Option.bind_some,s1.2,Option.bind_some,Mx hd0 hd1,Option.bind_some,d1.2,Option.bind_some]
  try simp only
  rw[a1.2,Option.bind_some,t1,Option.bind_some,p1]
  rfl
end Go.Proofs.YtjkljnflaifbhaaGreatDoor
