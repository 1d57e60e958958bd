/- No conditions. -/
import Derived.Test.YtjkljnflaifbhaaDoorL3a
namespace Go.Proofs.YtjkljnflaifbhaaDoor
open Go.Vai
theorem LG{d:Int}(h0:0<=d)(h1:d<16):gM d=some (pJ d):=by
 obtain⟨hv1,hv2⟩:=en h0 h1
 obtain⟨v1,v2⟩:=na h0 h1
 have m1:=gu hv1 hv1 (by decide) (by decide) (by decide) (by decide)
 have m2:=gu hv2 hv2 (by decide) (by decide) (by decide) (by decide)
 have a:=ml (cX (V:=1) (by decide) hv1 hv1) (cX (V:=1) (by decide) hv2 hv2) (by decide) (by decide) (by decide) (by decide) (by decide)
 rw[gM,nC,v1]
 simp only[Option.bind_some,aV,cI,bo,cg]
 rw[m1.1,m2.1]
 simp only[Option.bind_some]
 rw[a.1];rfl
def gU(d:Int)(l:Int):Nm:=cw (aC (l+4)) (aC (d+4))
def IK(y:Nm):Bool:=
 decide (y.2.2=0)&&((decide (y.1=0)&&decide (y.2.1=0))||
  (decide (y.1*y.1-2*y.2.1*y.2.1≠0)&&(decide ((fv 64 (y.1*y.1-2*y.2.1*y.2.1)).1=1)||decide ((fv 64 (y.1*y.1-2*y.2.1*y.2.1)).1= -1))&&decide ((fv 64 (y.1*y.1-2*y.2.1*y.2.1)).2<=8)&&
    (decide ((2*y.1)*(2*y.1)-2*(2*y.2.1)*(2*y.2.1)≠0)&&(decide ((fv 64 ((2*y.1)*(2*y.1)-2*(2*y.2.1)*(2*y.2.1))).1=1)||decide ((fv 64 ((2*y.1)*(2*y.1)-2*(2*y.2.1)*(2*y.2.1))).1= -1))&&decide ((fv 64 ((2*y.1)*(2*y.1)-2*(2*y.2.1)*(2*y.2.1))).2<=8))))
theorem P8:((List.range 8).all fun a=>(List.range 8).all fun d=>IK (gU (d:Int) (a:Int)))=true:=by decide+kernel
theorem LP{d l:Int}(h0:0<=d)(h1:d<8)(h2:0<=l)(h3:l<8):IK (gU d l)=true:=by
 have h:=List.all_eq_true.1 (List.all_eq_true.1 P8 l.toNat (by simp;omega)) d.toNat (by simp;omega)
 rw[Int.toNat_of_nonneg h0,Int.toNat_of_nonneg h2]at h
 exact h
theorem K9{d l:Int}(h0:0<=d)(h1:d<8)(h2:0<=l)(h3:l<8):Bd 6 0 (gU d l):=
 ln (V:=1) (by decide) (en (d:=l+4) (by omega) (by omega)) (en (d:=d+4) (by omega) (by omega))
def ig(p:Pt)(l:Ln):Nm:=kG l.2 (cw (aC (l.1+4)) p)
def CR(d:Int)(p:Pt)(l:Ln):Nm:=(tO (kB (ig p l) (pJ (d+4))) (ej (gU d l.1) (gU d l.1))).1
def xL(d:Int)(p:Pt)(l:Ln):Ln:=(d,ej (cw (aC (d+4)) p) (CR d p l))
def qR(x:Nm):Bool:=decide (x.1=0/\x.2.1=0)
def Eb(d:Int)(p:Pt)(l:Ln):Ln×Int:=
 cond (qR (gU d l.1)) (cond (qR (ig p l)) ((0,(0,(0,0))),2) ((0,(0,(0,0))),0)) (xL d p l,1)
theorem GE{p:Pt}{l:Ln}(h0:0<=l.1)(h1:l.1<=7)(hl:Bd 131072 10 l.2)(hp:Bd 131072 10 p.1/\Bd 131072 10 p.2):Bd 917504 10 (ig p l):=
 rE hl (ln (V:=1) (by decide) (en (d:=l.1+4) (by omega) (by omega)) hp)
theorem DN{d:Int}{p:Pt}{l:Ln}(h0:0<=d)(h1:d<8)(hl0:0<=l.1)(hl1:l.1<=7)(hl:Bd 131072 10 l.2)(hp:Bd 131072 10 p.1/\Bd 131072 10 p.2)(hz:qR (gU d l.1)=false):
 ∃t,tO (kB (ig p l) (pJ (d+4))) (gU d l.1)=(t,true)/\Bd 396361728 18 t/\
  tO (kB (ig p l) (pJ (d+4))) (ej (gU d l.1) (gU d l.1))=(CR d p l,true)/\Bd 396361728 18 (CR d p l)/\∀y,ej y (lj t)=ej y (CR d p l):=by
 have hg:=LP h0 h1 hl0 (by omega:l.1<8)
 have hy:=K9 h0 h1 hl0 (by omega:l.1<8)
 have hr:=GE hl0 hl1 hl hp
 have hx:=cX (by decide) hr (ux (d:=d+4) (by omega) (by omega))
 simp only[IK,Bool.and_eq_true,Bool.or_eq_true,decide_eq_true_eq]at hg
 obtain⟨hy0,hg⟩:=hg
 have hg:=hg.resolve_left (fun e=>by
  unfold qR at hz
  rw[bM e]at hz
  cases hz)
 obtain⟨⟨⟨g1,g2⟩,g3⟩,⟨g4,g5⟩,g6⟩:=hg
 have htw:=P3 hy0
 have hy2:Bd 12 0 (ej (gU d l.1) (gU d l.1)):=by
  have:=fC hy hy
  exact this
 obtain⟨t,t1,t2,t3,t4,t5⟩:=zv (by decide) hx hy (m:=(fv 64 ((gU d l.1).1*(gU d l.1).1-2*(gU d l.1).2.1*(gU d l.1).2.1)).1) (t:=(fv 64 ((gU d l.1).1*(gU d l.1).1-2*(gU d l.1).2.1*(gU d l.1).2.1)).2) rfl g2 g1
 have e1:(ej (gU d l.1) (gU d l.1)).1=2*(gU d l.1).1:=by rw[htw]
 have e2:(ej (gU d l.1) (gU d l.1)).2.1=2*(gU d l.1).2.1:=by rw[htw]
 obtain⟨s,s1,s2,s3,s4,s5⟩:=zv (by decide) hx hy2 (m:=(fv 64 ((2*(gU d l.1).1)*(2*(gU d l.1).1)-2*(2*(gU d l.1).2.1)*(2*(gU d l.1).2.1))).1) (t:=(fv 64 ((2*(gU d l.1).1)*(2*(gU d l.1).1)-2*(2*(gU d l.1).2.1)*(2*(gU d l.1).2.1))).2) (by rw[e1,e2]) g5 (by rw[e1,e2];exact g4)
 have hw:CR d p l=s:=by unfold CR;rw[s1]
 refine⟨t,t1,t3.mono (by decide) (by omega), ?_, ?_, ?_⟩
 ·rw[hw];exact s1
 ·rw[hw];exact s3.mono (by decide) (by omega)
 ·intro y
  rw[hw]
  rw[e1,e2]at s4 s5
  have hN:(((gU d l.1).1*(gU d l.1).1-2*(gU d l.1).2.1*(gU d l.1).2.1:Int):Rat)≠0:=fun e=>g1 (Rat.intCast_inj.1 e)
  have hN2:(((2*(gU d l.1).1)*(2*(gU d l.1).1)-2*(2*(gU d l.1).2.1)*(2*(gU d l.1).2.1):Int):Rat)=4*(((gU d l.1).1*(gU d l.1).1-2*(gU d l.1).2.1*(gU d l.1).2.1:Int):Rat):=by
   have:(2*(gU d l.1).1)*(2*(gU d l.1).1)-2*(2*(gU d l.1).2.1)*(2*(gU d l.1).2.1)=4*((gU d l.1).1*(gU d l.1).1-2*(gU d l.1).2.1*(gU d l.1).2.1):=by grind
   rw[this,Rat.intCast_mul];rfl
  have c2:∀z:Int,((2*z:Int):Rat)=2*(z:Rat):=fun z=>by rw[Rat.intCast_mul];rfl
  rw[hN2,c2,c2]at s4 s5
  refine kq (ep _ _) (ep _ _) ?_ ?_
  ·rw[iv,iv,yp t2.1,t4,s4]
   generalize (((gU d l.1).1*(gU d l.1).1-2*(gU d l.1).2.1*(gU d l.1).2.1:Int):Rat)=N at*
   grind
  ·rw[iw,iw,yq t2.1,t5,s5]
   generalize (((gU d l.1).1*(gU d l.1).1-2*(gU d l.1).2.1*(gU d l.1).2.1:Int):Rat)=N at*
   grind
theorem Fz{d:Int}{p:Pt}{l:Ln}(h0:0<=d)(h1:d<8)(hl0:0<=l.1)(hl1:l.1<=7)(hl:Bd 131072 10 l.2)(hp:Bd 131072 10 p.1/\Bd 131072 10 p.2)(hz:qR (gU d l.1)=false):Bd 397148160 18 (xL d p l).2:=by
 obtain⟨t,_,_,_,hw,_⟩:=DN h0 h1 hl0 hl1 hl hp hz
 have:=fC (ln (V:=1) (by decide) (en (d:=d+4) (by omega) (by omega)) hp) hw
 exact this.mono (by decide) (by decide)
theorem zA{d:Int}{p:Pt}{l:Ln}(h0:0<=d)(h1:d<8)(hl0:0<=l.1)(hl1:l.1<=7)(hl:Bd 131072 10 l.2)(hp:Bd 131072 10 p.1/\Bd 131072 10 p.2):
 ic d p l=some (Eb d p l)/\gk d p l=some (Eb d p l):=by
 have hd0:0<=d+4:=by omega
 have hd1:d+4<16:=by omega
 have hl4:0<=l.1+4:=by omega
 have hl5:l.1+4<16:=by omega
 have hwd:IntKind.wrap .i64 (d+4)=d+4:=aG (by omega) (by omega)
 have hwl:IntKind.wrap .i64 (l.1+4)=l.1+4:=aG (by omega) (by omega)
 have dby:=sp (d:=l.1+4) hl4 hl5 (by decide) (by decide) (en hd0 hd1) (by decide)
 have dp:=sp (d:=l.1+4) hl4 hl5 (by decide) (by decide) hp (by decide)
 have dpd:=sp (d:=d+4) hd0 hd1 (by decide) (by decide) hp (by decide)
 have hdl:=ln (V:=1) (by decide) (en hl4 hl5) hp
 have sr:=lC hl hdl (by decide) (by decide) (by decide) (by decide) (by decide)
 have hr:=GE hl0 hl1 hl hp
 have hsq:=ux (d:=d+4) hd0 hd1
 have mr:=gu hr hsq (by decide) (by decide) (by decide) (by decide)
 have hx:=cX (by decide) hr hsq
 have hy:=K9 h0 h1 hl0 (by omega:l.1<8)
 have ay:=ml hy hy (by decide) (by decide) (by decide) (by decide) (by decide)
 have hy2:Bd 12 0 (ej (gU d l.1) (gU d l.1)):=fC hy hy
 have dv1:=wY hx hy (by decide) (by decide) (by decide) (by decide) (by decide) (by decide)
 have dv2:=wY hx hy2 (by decide) (by decide) (by decide) (by decide) (by decide) (by decide)
 have hbyc:(gU d l.1).can:=ep _ _
 have hrc:(ig p l).can:=Ky _ _
 have hdpb:=ln (V:=1) (by decide) (en hd0 hd1) hp
 constructor
 ·rw[ic,qO,hwd,hwl,(na hd0 hd1).1]
  simp only[Option.bind_some,aV,cI,bo,cg]
  have dby1:cE (l.1+4) ((aC (d+4)).1,(aC (d+4)).2)=some (gU d l.1):=dby.1
  rw[dby1,Option.bind_some,dp.1,Option.bind_some,sr.1,Option.bind_some,Fk,Option.bind_some]
  unfold Eb
  show cond (qR (gU d l.1)) _ _=_
  cases hz:qR (gU d l.1)
  ·obtain⟨t,w1,w2,w3,w4,w5⟩:=DN h0 h1 hl0 hl1 hl hp hz
   have hb:=tW (by decide) w2
   have aa:=(ml hdpb hb (by decide) (by decide) (by decide) (by decide) (by decide)).1
   rw[w1]at dv1
   rw[cond_false,cond_false,LG hd0 hd1,Option.bind_some]
   have mr1:bT (kG l.2 (cw (aC (l.1+4)) p)) (pJ (d+4))=_:=mr.1
   rw[mr1,Option.bind_some,dv1.1,Option.bind_some,dpd.1,Option.bind_some]
   simp only
   rw[CK t w2.1 (by have:=w2.2.1;omega),Option.bind_some,aa,Option.bind_some,w5]
   rfl
  ·rw[cond_true,cond_true,Fk,Option.bind_some]
   show cond (qR (ig p l)) _ _=_
   cases qR (ig p l)<;>rfl
 ·rw[gk,lW,hwd,(na hd0 hd1).2,bH,cU]
  simp only[Option.bind_some]
  rw[hwl,(na hl4 hl5).2]
  simp only[Option.bind_some]
  have dby2:ca (aC (l.1+4)) (aC (d+4))=some (gU d l.1):=dby.2
  have sr2:bS l.2 (cw (aC (l.1+4)) p)=some (ig p l):=sr.2
  rw[dby2,Option.bind_some,dp.2,Option.bind_some,sr2,Option.bind_some,Gu hbyc,Gu hrc]
  unfold Eb
  show cond (qR (gU d l.1)) (cond (qR (ig p l)) _ _) _=_
  cases hz:qR (gU d l.1)
  ·obtain⟨t,w1,w2,w3,w4,w5⟩:=DN h0 h1 hl0 hl1 hl hp hz
   have aa:=(ml hdpb w4 (by decide) (by decide) (by decide) (by decide) (by decide)).2
   rw[w3]at dv2
   rw[cond_false,cond_false,Lm hd0 hd1,Option.bind_some,mr.2,Option.bind_some,ay.2,Option.bind_some,dv2.2,Option.bind_some]
   simp only[Bool.not_true,cond_false]
   rw[dpd.2,Option.bind_some,aa,Option.bind_some]
   rfl
  ·rw[cond_true,cond_true]
   cases qR (ig p l)<;>rfl
theorem cV{l:Ln}(h:fg l=true):0<=l.1/\l.1<=7/\Bd 131072 10 l.2/\l.2.can:=by
 simp only[fg,Bool.and_eq_true,decide_eq_true_eq]at h
 exact⟨h.1.1,h.1.2,Du h.2,Jk h.2⟩
def tc(p:Pt)(l m:Ln):Ln×Int:=
 cond (jk p&&(fg l&&fg m)) (cond (decide (l.1=m.1)) ((0,(0,(0,0))),7) (DD (xL ((m.1+4)%8) p l))) ((0,(0,(0,0))),1)
theorem K7:((List.range 8).all fun a=>(List.range 8).all fun m=>decide (a=m)|| !qR (gU (((m:Int)+4)%8) (a:Int)))=true:=by decide+kernel
theorem C2{l m:Int}(h0:0<=l)(h1:l<=7)(h2:0<=m)(h3:m<=7)(hne:l≠m):qR (gU ((m+4)%8) l)=false:=by
 have h:=List.all_eq_true.1 (List.all_eq_true.1 K7 l.toNat (by simp;omega)) m.toNat (by simp;omega)
 rw[Int.toNat_of_nonneg h0,Int.toNat_of_nonneg h2]at h
 simp only[Bool.or_eq_true,decide_eq_true_eq,Bool.not_eq_true']at h
 exact h.resolve_left (fun e=>hne (by omega))
theorem PT(p:Pt)(l m:Ln):mw p l m=some (tc p l m):=by
 rw[mw,mF,kh,kQ,kQ]
 unfold tc
 simp only[Option.bind_some]
 cases hp:jk p
 ·rfl
 cases hl:fg l
 ·rfl
 cases hm:fg m
 ·rfl
 have bp:=ek hp
 obtain⟨l0,l1,lb,lc⟩:=cV hl
 obtain⟨m0,m1,mb,mc⟩:=cV hm
 simp only[Bool.not_true,cond_false,Bool.and_self,cond_true,aV,cI,bF,dZ,bo,cg,Option.bind_some]
 rw[show(l.1==m.1)=decide (l.1=m.1)from rfl]
 by_cases hd:l.1=m.1
 ·rw[bM hd];rfl
 ·rw[bX hd,cond_false,cond_false,aG (n:=m.1+4) (by omega) (by omega),Int.tmod_eq_emod_of_nonneg (by omega)]
  have hz:=C2 l0 l1 m0 m1 hd
  have mv:=(zA (d:=(m.1+4)%8) (by omega) (by omega) l0 l1 lb bp).1
  unfold Eb at mv
  rw[hz,cond_false]at mv
  have mv:ic ((m.1+4)%8) (p.1,p.2) (l.1,l.2)=_:=mv
  rw[mv,Option.bind_some]
  have hb:=Fz (d:=(m.1+4)%8) (by omega) (by omega) l0 l1 lb bp hz
  have hi:=tF hb (by decide) (by decide)
  have so:=G3 (l:=xL ((m.1+4)%8) p l) (ep _ _) (by have:=hb.2.1;omega) hi.1 hi.2
  simp only
  rw[so]
  rfl
theorem J6(p:Pt)(l m:Ln):co p l m=some (tc p l m):=by
 rw[co,kj,jx,eW,eW]
 unfold tc
 simp only[Option.bind_some]
 cases hp:jk p
 ·rfl
 cases hl:fg l
 ·rfl
 cases hm:fg m
 ·rfl
 have bp:=ek hp
 obtain⟨l0,l1,lb,lc⟩:=cV hl
 obtain⟨m0,m1,mb,mc⟩:=cV hm
 simp only[Bool.not_true,cond_false,Bool.and_self,cond_true]
 rw[show(l.1==m.1)=decide (l.1=m.1)from rfl]
 by_cases hd:l.1=m.1
 ·rw[bM hd];rfl
 ·rw[bX hd,cond_false,cond_false,aG (n:=m.1+4) (by omega) (by omega),Int.tmod_eq_emod_of_nonneg (by omega)]
  have hz:=C2 l0 l1 m0 m1 hd
  have mv:=(zA (d:=(m.1+4)%8) (by omega) (by omega) l0 l1 lb bp).2
  unfold Eb at mv
  rw[hz,cond_false]at mv
  rw[mv,Option.bind_some]
  have ir:=FX (l:=xL ((m.1+4)%8) p l) (by show 0<=(m.1+4)%8;omega) (by show(m.1+4)%8<=7;omega)
  simp only
  rw[show((1:Int)==1)=true from rfl,ir]
  rfl
def wi(l:Ln)(p:Pt):Ln×Int:=cond (fg l&&jk p) (DD (kA p ((l.1+4)%8))) ((0,(0,(0,0))),1)
theorem OX(l:Ln)(p:Pt):gX l p=some (wi l p):=by
 rw[gX,gZ,kQ,kh]
 unfold wi
 simp only[Option.bind_some]
 cases hl:fg l
 ·rfl
 ·cases hp:jk p
  ·rfl
  ·have hd:=Mi hl
   have hb:=ek hp
   simp only[Bool.not_true,cond_false,Bool.and_self,cond_true,aV,cI,bo,cg,Option.bind_some]
   rw[aG (n:=l.1+4) (by omega) (by omega)]
   have ht:=rk (V:=131072) (κ:=10) (d:=l.1+4) (p:=p) (by omega) (by omega) (by decide) (by decide) hb (by decide)
   have ht:dn (p.1,p.2) (l.1+4)=_:=ht
   rw[ht]
   have hdb:=ln (V:=1) (by decide) (en (d:=(l.1+4)%8+4) (by omega) (by omega)) hb
   have hi:=tF hdb (by decide) (by decide)
   simp only[Option.bind_some]
   rw[G3 (l:=kA p ((l.1+4)%8)) (ep _ _) (by have:=hdb.2.1;exact Int.le_trans this (by decide)) hi.1 hi.2]
   rfl
theorem Hm(l:Ln)(p:Pt):cd l p=some (wi l p):=by
 rw[cd,eZ,eW,jx]
 unfold wi
 simp only[Option.bind_some]
 cases hl:fg l
 ·rfl
 ·cases hp:jk p
  ·rfl
  ·have hd:=Mi hl
   have hb:=ek hp
   simp only[Bool.not_true,cond_false,Bool.and_self,cond_true]
   rw[aG (n:=l.1+4) (by omega) (by omega),Int.tmod_eq_emod_of_nonneg (by omega)]
   rw[pS (V:=131072) (κ:=10) (d:=(l.1+4)%8) (p:=p) (by omega) (by omega) (by decide) (by decide) hb (by decide)]
   simp only[Option.bind_some]
   rw[FX (l:=kA p ((l.1+4)%8)) (by show 0<=(l.1+4)%8;omega) (by show(l.1+4)%8<=7;omega)]
   rfl
noncomputable def Rt(k:Int):Ln:=(k,(k+1,(k+1+1,k+1+1+1)))
noncomputable def Ou:Int->Nat->List Ln
 |_,0=>[]
 |k,n+1=>Rt k::Ou (k+1+1+1+1) n
theorem Jc:∀(n:Nat) (k:Int),(Ou k n).length=n
 |0,_=>rfl
 |n+1,k=>by simp[Ou,Jc n]
theorem w1{k:Int}(h0:0<=k)(h1:k<=1000000):IntKind.wrap .i64 (k+1)=k+1:=aG (by omega) (by omega)
theorem sm{α:Type}(q s:List α)(y v:α):List.set (q++y::s) (0+Int.toNat ((q.length:Nat):Int)) v=q++v::s:=by
 rw[Pw rfl,List.append_assoc];rfl
theorem im{α:Type}(q s:List α)(y:α):xd (q++y::s) ((q.length:Nat):Int)=some y:=ix rfl
def MK(l:Ln):Prop:=l.2.can/\l.2.2.2<=1000/\ye l.2.1/\ye l.2.2.1
def AK(l:List Ln):List Ln×Int:=cond (l.all fun x=>nN x.2) (l,0) ([],2)
theorem Nh{l:Ln}(h:MK l):fP l=some (cond (nN l.2) (l,true) ((0,(0,(0,0))),false)):=by
 rw[fP,ld,Lz h.1 h.2.1 h.2.2.1 h.2.2.2,Option.bind_some]
 cases nN l.2<;>rfl
theorem CI(l:List Ln)(hl:l.length<=1000)(hf:∀x,x∈l->MK x):∀(r p:List Ln),l=p++r->
 (po (pc l p ((p.length:Nat):Int))).bind (jP iU (fun e=>some (((e.1.1.1:List Ln),(e.1.2.1.1:Int)):List Ln×Int),fun e=>some ((e.1.2.2.1.1:List Ln),0),()))=
   some (cond (r.all fun x=>nN x.2) (l,0) ([],2))
 |[],p,h=>by
  rw[nF,ff,Ge h,cond_false]
  rw[List.append_nil]at h
  subst h;rfl
 |x::r,p,h=>by
  have hx:=Nh (hf x (by rw[h];simp))
  have hlen:p.length+(r.length+1)<=1000:=by rw[h]at hl;simpa using hl
  rw[nF,ff,Ke h,cond_true,ix h]
  simp only[Option.bind_some,hx]
  rw[List.all_cons]
  cases hok:nN x.2
  ·rfl
  ·simp only[cond_true,Bool.not_true,cond_false,Bool.true_and,List.length_singleton]
   rw[bM (show(p.length+1)*32<=70368744177664 by omega),bM (show p.length+1<=70368744177664 by omega),cond_true,cond_true,wr h (by omega)]
   exact CI l hl hf r (p++ [x]) (Q1 h)
theorem Fj(l:List Ln)(hl:l.length<=1000)(hf:∀x,x∈l->MK x):dY l=some (AK l):=by
 have h:=CI l hl hf l [] rfl
 rw[dY,oM]
 exact h
theorem P9(a b:Int):fZ a b=some (if a<b then -1 else if a>b then 1 else 0):=by
 rw[fZ,ja,fL,iH,fL,iH]
 simp only[bne_self_eq_false,Option.bind_some,cond_false]
 by_cases h:a<b
 ·rw[bM h,cond_true,if_pos h]
 ·rw[bX h,cond_false,if_neg h]
  by_cases h':a>b
  ·rw[bM h',cond_true,if_pos h']
  ·rw[bX h',cond_false,if_neg h']
theorem Qa{x y:Nm}(hx:nN x=true)(hy:nN y=true):∃c,gJ x y=some c:=by
 have bx:=Du hx
 have by':=Du hy
 have s:=lC bx by' (by decide) (by decide) (by decide) (by decide) (by decide)
 have hb:=(rE bx by').pow_le (by decide)
 have e:((131072+131072:Int))*2^(max 10 10)=268435456:=by decide
 rw[e]at hb
 rw[gJ,jD,s.2,Option.bind_some,(Jy (by omega) (by omega) (by omega) (by omega)).2]
 exact⟨_,rfl⟩
theorem PI{x y:Ln}(hx:nN x.2=true)(hy:nN y.2=true)(hd:x.1≠y.1):fp x y=some (if x.1<y.1 then -1 else 1):=by
 obtain⟨c,hc⟩:=Qa hx hy
 rw[fp,iq,P9,Option.bind_some,hc,Option.bind_some,qg,qz,E0,lg]
 by_cases h:x.1<y.1
 ·simp only[if_pos h];rfl
 ·have h':x.1>y.1:=by omega
  simp only[if_neg h,if_pos h'];rfl
def El:List Ln->Prop
 |[]=>True
 |[_]=>True
 |x::y::r=>x.1<y.1/\El (y::r)
theorem Kn:∀(l:List Ln) (i:Nat) (x y:Ln),El l->l[i]?=some x->l[i+1]?=some y->x.1<y.1
 |[],i,x,y,_,h,_=>by simp at h
 |[a],i,x,y,_,_,h=>by simp at h
 |a::b::r,0,x,y,hr,h,h'=>by
  simp at h h'
  subst h;subst h'
  exact hr.1
 |a::b::r,i+1,x,y,hr,h,h'=>Kn (b::r) i x y hr.2 (by simpa using h) (by simpa using h')
theorem G0(l:List Ln)(hl:l.length<=12)(hv:∀x,x∈l->nN x.2=true)(hr:El l):∀(n i:Nat),i+n=l.length->1<=i->
 an (az l 0 ((l.length:Nat):Int) ((i:Nat):Int) l)=
  some (.inl (cc l))
 |0,i,h,hi=>by
  rw[be,am,bX (by omega),cond_false];rfl
 |n+1,i,h,hi=>by
  have IH:=G0 l hl hv hr n (i+1) (by omega) (by omega)
  have hx:l[i]?=some l[i]:=List.getElem?_eq_getElem (by omega)
  have hy:l[i-1]?=some l[i-1]:=List.getElem?_eq_getElem (by omega)
  have hlt:=Kn l (i-1) l[i-1] l[i] hr hy (by rw[show i-1+1=i by omega];exact hx)
  rw[be,am,bM (by omega),cond_true,
   ch,aA,bM (by omega),cond_true,IY,hx,Option.bind_some,
   aG (n:=((i:Nat):Int)-1) (by omega) (by omega),show((i:Nat):Int)-1=((i-1:Nat):Int) by omega,IY,hy,Option.bind_some,
   PI (hv _ (List.mem_of_getElem? hx)) (hv _ (List.mem_of_getElem? hy)) (by omega),Option.bind_some,if_neg (by omega)]
  show(some _).bind _=_
  rw[Option.bind_some]
  show an (az l 0 ((l.length:Nat):Int) (IntKind.wrap .i64 (((i:Nat):Int)+1)) l)=_
  rw[aG (n:=((i:Nat):Int)+1) (by omega) (by omega)]
  exact IH
theorem Pg{n:Int}(h0:0<=n)(h1:n<=12):∃y,lL (IntKind.wrap .u64 n)=some y:=by
 have:n=0\/n=1\/n=2\/n=3\/n=4\/n=5\/n=6\/n=7\/n=8\/n=9\/n=10\/n=11\/n=12:=by omega
 rcases this with rfl|rfl|rfl|rfl|rfl|rfl|rfl|rfl|rfl|rfl|rfl|rfl|rfl
 ·exact⟨0,by kernel_rfl⟩
 ·exact⟨1,by kernel_rfl⟩
 ·exact⟨2,by kernel_rfl⟩
 ·exact⟨2,by kernel_rfl⟩
 ·exact⟨3,by kernel_rfl⟩
 ·exact⟨3,by kernel_rfl⟩
 ·exact⟨3,by kernel_rfl⟩
 ·exact⟨3,by kernel_rfl⟩
 ·exact⟨4,by kernel_rfl⟩
 ·exact⟨4,by kernel_rfl⟩
 ·exact⟨4,by kernel_rfl⟩
 ·exact⟨4,by kernel_rfl⟩
 ·exact⟨4,by kernel_rfl⟩
theorem OP(l s:List Ln)(hl:l.length<=12)
 (h:an (az l 0 ((l.length:Nat):Int) 1 l)=some (.inl (cc s))):
 aU l=some s:=by
 obtain⟨y,hy⟩:=Pg (n:=((l.length:Nat):Int)) (by omega) (by omega)
 have hi:aS l 0 ((l.length:Nat):Int)=some s:=by
  rw[aS,bn,aG (n:=(0:Int)+1) (by decide) (by decide)]
  have h':an (az l 0 ((l.length:Nat):Int) (0+1) l)=_:=h
  rw[h'];rfl
 rw[aU,bu,hy,Option.bind_some]
 simp only[decide_true,cond_true]
 rw[bA,bB,it,bc,
  aG (n:=((l.length:Nat):Int)-0) (by omega) (by omega),bM (by omega),hi]
 simp only[decide_true,cond_true,Option.bind_some]
 rfl
theorem DY(l:List Ln)(hl:l.length<=1000):aP l=some (!(l.all fun x=>fg x)):=by
 have loop:∀(r p:List Ln),l=p++r->(aL (bf l ((l.length:Nat):Int) ((p.length:Nat):Int))).bind
  (jP ao (fun e=>some (decide ((e.1.1.1:Int)>=0)),fun _=>some (decide ((-1:Int)>=0)),()))=some (!(r.all fun x=>fg x)):=by
  intro r
  induction r with
  |nil=>
   intro p h
   rw[du,aK,Ge h,cond_false];rfl
  |cons x r ih=>
   intro p h
   rw[du,aK,Ke h,cond_true,ix h,Option.bind_some,hY,il,eW,
    Option.bind_some,Option.bind_some,List.all_cons]
   cases fg x
   ·show some (decide (((p.length:Nat):Int)>=0))=_
    rw[bM (by omega)];rfl
   ·simp only[Bool.not_true,cond_false,Bool.true_and]
    rw[wr h (by omega)]
    exact ih (p++ [x]) (Q1 h)
 have h:=loop l [] rfl
 rw[aP,bd,bi,bj]
 refine Eq.trans ?_ h
 cases aL (bf l ((l.length:Nat):Int) 0)with
 |none=>rfl
 |some z=>
  match z with
  | .inl z=>rfl
  | .inr (.inl z)=>rfl
theorem tk(l:List Ln)(hl:l.length<=12)(hd:∀x,x∈l->0<=x.1/\x.1<=7)(hr:El l):ce l=some (AK l):=by
 have e:(l.all fun x=>fg x)=(l.all fun x=>nN x.2):=by
  rw[Bool.eq_iff_iff,List.all_eq_true,List.all_eq_true]
  constructor
  ·intro h x hx
   have:=h x hx
   simp only[fg,Bool.and_eq_true]at this
   exact this.2
  ·intro h x hx
   have:=hd x hx
   simp only[fg,Bool.and_eq_true,decide_eq_true_eq]
   exact⟨⟨this.1,this.2⟩,h x hx⟩
 rw[ce,gQ,DY l (by omega),Option.bind_some,e]
 unfold AK
 cases hv:l.all fun x=>nN x.2
 ·rfl
 ·simp only[Bool.not_true,cond_false,decide_true,cond_true]
  have hv':∀x,x∈l->nN x.2=true:=fun x hx=>List.all_eq_true.1 hv x hx
  rw[OP l l hl ?_]
  ·rfl
  ·cases hc:l.length with
   |zero=>
    have:l=[]:=List.length_eq_zero_iff.1 hc
    subst this
    rw[be,am,bX (by decide),cond_false];rfl
   |succ n=>
    have:=G0 l hl hv' hr n 1 (by omega) (by omega)
    rw[hc]at this
    exact this
theorem Js(x y:Ln)(hx:0<=x.1/\x.1<=7)(hy:0<=y.1/\y.1<=7)(h:y.1<x.1):ce [x,y]=some (AK [y,x]):=by
 have e:([x,y].all fun x=>fg x)=([y,x].all fun x=>nN x.2):=by
  simp only[List.all_cons,List.all_nil,Bool.and_true,fg,bM hx.1,bM hx.2,bM hy.1,bM hy.2,Bool.true_and,Bool.and_self]
  exact Bool.and_comm _ _
 rw[ce,gQ,DY [x,y] (by simp),Option.bind_some,e]
 unfold AK
 cases hv: [y,x].all fun x=>nN x.2
 ·rfl
 ·simp only[Bool.not_true,cond_false,decide_true,cond_true]
  have hv':∀z,z∈ [y,x]->nN z.2=true:=fun z hz=>List.all_eq_true.1 hv z hz
  have hvx:=hv' x (by simp)
  have hvy:=hv' y (by simp)
  rw[OP [x,y] [y,x] (by simp) ?_]
  ·rfl
  ·rw[be,am,bM (by simp),cond_true,
    ch,aA,bM (by decide),cond_true,
    show xd [x,y] (1:Int)=some y from rfl,Option.bind_some,aG (n:=(1:Int)-1) (by decide) (by decide),show xd [x,y] ((1:Int)-1)=some x from rfl,Option.bind_some,
    PI hvy hvx (by omega),Option.bind_some,if_pos h,bM (by decide),cond_true,Option.bind_some,Option.bind_some,Option.bind_some,
    show xd (List.set [x,y] (0+Int.toNat 1) x) ((1:Int)-1)=some x from rfl,Option.bind_some,
    ch,aA,bX (by decide),cond_false]
   show(some _).bind _=_
   rw[Option.bind_some]
   show an (az [y,x] 0 2 (IntKind.wrap .i64 (1+1)) [y,x])=_
   rw[aG (n:=(1:Int)+1) (by decide) (by decide),be,am,bX (by decide),cond_false];rfl
theorem uG(l:List Ln)(h:l.length<=12):(AK l).1.length<=1000:=by
 unfold AK
 cases l.all fun x=>nN x.2
 ·exact Nat.zero_le _
 ·exact Nat.le_trans h (by decide)
def Lc(v w:Pt):Nm:=kG (kB v.1 w.2) (kB v.2 w.1)
def Da(a b:Int):Nm:=Lc (aC (a+4)) (aC (b+4))
def zt(y:Nm):Bool:=
 decide (y.1*y.1-2*y.2.1*y.2.1≠0)&&(decide ((fv 64 (y.1*y.1-2*y.2.1*y.2.1)).1=1)||decide ((fv 64 (y.1*y.1-2*y.2.1*y.2.1)).1= -1))&&decide ((fv 64 (y.1*y.1-2*y.2.1*y.2.1)).2<=8)
theorem O7:((List.range 8).all fun a=>(List.range 8).all fun b=>decide (a=b)||zt (Da (a:Int) (b:Int)))=true:=by decide+kernel
theorem BG{a b:Int}(h0:0<=a)(h1:a<=7)(h2:0<=b)(h3:b<=7)(hne:a≠b){P:Prop}(_hp:P):zt (Da a b)=true:=by
 have h:=List.all_eq_true.1 (List.all_eq_true.1 O7 a.toNat (by simp;omega)) b.toNat (by simp;omega)
 rw[Int.toNat_of_nonneg h0,Int.toNat_of_nonneg h2]at h
 simp only[Bool.or_eq_true,decide_eq_true_eq]at h
 rcases h with h|h
 ·omega
 ·exact h
theorem IP{a b:Int}(h0:0<=a)(h1:a<=7)(h2:0<=b)(h3:b<=7):Bd 6 0 (Da a b):=by
 obtain⟨v1,v2⟩:=en (d:=a+4) (by omega) (by omega)
 obtain⟨w1,w2⟩:=en (d:=b+4) (by omega) (by omega)
 exact rE (cX (by decide) v1 w2) (cX (by decide) v2 w1)
def HY(l m:Ln):Nm:=kG (kB l.2 (aC (m.1+4)).2) (kB m.2 (aC (l.1+4)).2)
def HZ(l m:Ln):Nm:=kG (kB m.2 (aC (l.1+4)).1) (kB l.2 (aC (m.1+4)).1)
def eP(l m:Ln):Pt:=((tO (HY l m) (Da l.1 m.1)).1,(tO (HZ l m) (Da l.1 m.1)).1)
theorem Ca{l m:Ln}(hl:fg l=true)(hm:fg m=true):Bd 786432 10 (HY l m)/\Bd 786432 10 (HZ l m):=by
 obtain⟨l0,l1,lb,_⟩:=cV hl
 obtain⟨m0,m1,mb,_⟩:=cV hm
 obtain⟨v1,v2⟩:=en (d:=l.1+4) (by omega) (by omega)
 obtain⟨w1,w2⟩:=en (d:=m.1+4) (by omega) (by omega)
 exact⟨rE (cX (by decide) lb w2) (cX (by decide) mb v2),rE (cX (by decide) mb v1) (cX (by decide) lb w1)⟩
theorem Fa{x y:Nm}(hx:Bd 786432 10 x)(hy:Bd 6 0 y)(hg:zt y=true):tO x y=((tO x y).1,true)/\Bd 14155776 18 (tO x y).1:=by
 simp only[zt,Bool.and_eq_true,Bool.or_eq_true,decide_eq_true_eq]at hg
 obtain⟨⟨g1,g2⟩,g3⟩:=hg
 obtain⟨t,t1,t2,t3,_,_⟩:=zv (by decide) hx hy (m:=(fv 64 (y.1*y.1-2*y.2.1*y.2.1)).1) (t:=(fv 64 (y.1*y.1-2*y.2.1*y.2.1)).2) rfl g2 g1
 rw[t1]
 exact⟨rfl,t3.mono (by decide) (by omega)⟩
theorem Gi{l m:Ln}(hl:fg l=true)(hm:fg m=true)(hne:l.1≠m.1){P:Prop}(hp:P):Bd 14155776 18 (eP l m).1/\Bd 14155776 18 (eP l m).2:=by
 obtain⟨l0,l1,_,_⟩:=cV hl
 obtain⟨m0,m1,_,_⟩:=cV hm
 have hg:=BG l0 l1 m0 m1 hne hp
 have hd:=IP l0 l1 m0 m1
 have hb:=Ca hl hm
 exact⟨(Fa hb.1 hd hg).2,(Fa hb.2 hd hg).2⟩
theorem Kv{l m:Ln}(hl:fg l=true)(hm:fg m=true)(_hne:l.1≠m.1){P:Prop}(_hp:P):jw l m=some (eP l m):=by
 obtain⟨l0,l1,lb,_⟩:=cV hl
 obtain⟨m0,m1,mb,_⟩:=cV hm
 obtain⟨v1,v2⟩:=en (d:=l.1+4) (by omega) (by omega)
 obtain⟨w1,w2⟩:=en (d:=m.1+4) (by omega) (by omega)
 have hd:=IP l0 l1 m0 m1
 have hb:=Ca hl hm
 have a1:=(gu v1 w2 (by decide) (by decide) (by decide) (by decide)).1
 have a2:=(gu v2 w1 (by decide) (by decide) (by decide) (by decide)).1
 have a3:=(lC (cX (by decide) v1 w2) (cX (by decide) v2 w1) (by decide) (by decide) (by decide) (by decide) (by decide)).1
 have b1:=(gu lb w2 (by decide) (by decide) (by decide) (by decide)).1
 have b2:=(gu mb v2 (by decide) (by decide) (by decide) (by decide)).1
 have b3:=(lC (cX (by decide) lb w2) (cX (by decide) mb v2) (by decide) (by decide) (by decide) (by decide) (by decide)).1
 have c1:=(gu mb v1 (by decide) (by decide) (by decide) (by decide)).1
 have c2:=(gu lb w1 (by decide) (by decide) (by decide) (by decide)).1
 have c3:=(lC (cX (by decide) mb v1) (cX (by decide) lb w1) (by decide) (by decide) (by decide) (by decide) (by decide)).1
 have d1:=(wY hb.1 hd (by decide) (by decide) (by decide) (by decide) (by decide) (by decide)).1
 have d2:=(wY hb.2 hd (by decide) (by decide) (by decide) (by decide) (by decide) (by decide)).1
 unfold HY Da Lc at d1
 unfold HZ Da Lc at d2
 rw[jw,qK,aG (n:=l.1+4) (by omega) (by omega),aG (n:=m.1+4) (by omega) (by omega),(na (d:=l.1+4) (by omega) (by omega)).1,(na (d:=m.1+4) (by omega) (by omega)).1]
 simp only[Option.bind_some,aV,cI,bo,cg]
 rw[a1,Option.bind_some,a2,Option.bind_some,a3,Option.bind_some,b1,Option.bind_some,b2,Option.bind_some,b3,Option.bind_some,d1,Option.bind_some,c1,Option.bind_some,c2,Option.bind_some,c3,Option.bind_some,d2,Option.bind_some]
 rfl
theorem J5{l m:Ln}(hl:fg l=true)(hm:fg m=true)(hne:l.1≠m.1){P:Prop}(hp:P):gI l m=some (eP l m,true):=by
 obtain⟨l0,l1,lb,_⟩:=cV hl
 obtain⟨m0,m1,mb,_⟩:=cV hm
 obtain⟨v1,v2⟩:=en (d:=l.1+4) (by omega) (by omega)
 obtain⟨w1,w2⟩:=en (d:=m.1+4) (by omega) (by omega)
 have hd:=IP l0 l1 m0 m1
 have hg:=BG l0 l1 m0 m1 hne hp
 have hb:=Ca hl hm
 have a1:=(gu v1 w2 (by decide) (by decide) (by decide) (by decide)).2
 have a2:=(gu v2 w1 (by decide) (by decide) (by decide) (by decide)).2
 have a3:=(lC (cX (by decide) v1 w2) (cX (by decide) v2 w1) (by decide) (by decide) (by decide) (by decide) (by decide)).2
 have b1:=(gu lb w2 (by decide) (by decide) (by decide) (by decide)).2
 have b2:=(gu mb v2 (by decide) (by decide) (by decide) (by decide)).2
 have b3:=(lC (cX (by decide) lb w2) (cX (by decide) mb v2) (by decide) (by decide) (by decide) (by decide) (by decide)).2
 have c1:=(gu mb v1 (by decide) (by decide) (by decide) (by decide)).2
 have c2:=(gu lb w1 (by decide) (by decide) (by decide) (by decide)).2
 have c3:=(lC (cX (by decide) mb v1) (cX (by decide) lb w1) (by decide) (by decide) (by decide) (by decide) (by decide)).2
 have q1:=(Fa hb.1 hd hg).1
 have q2:=(Fa hb.2 hd hg).1
 have d1:=(wY hb.1 hd (by decide) (by decide) (by decide) (by decide) (by decide) (by decide)).2
 have d2:=(wY hb.2 hd (by decide) (by decide) (by decide) (by decide) (by decide) (by decide)).2
 rw[q1]at d1
 rw[q2]at d2
 have a3':bS (kB (aC (l.1+4)).1 (aC (m.1+4)).2) (kB (aC (l.1+4)).2 (aC (m.1+4)).1)=some (Da l.1 m.1):=a3
 have b3':bS (kB l.2 (aC (m.1+4)).2) (kB m.2 (aC (l.1+4)).2)=some (HY l m):=b3
 have c3':bS (kB m.2 (aC (l.1+4)).1) (kB l.2 (aC (m.1+4)).1)=some (HZ l m):=c3
 rw[gI,kT,bH,cU,bH,cU]
 try simp only
 rw[aG (n:=l.1+4) (by omega) (by omega),aG (n:=m.1+4) (by omega) (by omega),(na (d:=l.1+4) (by omega) (by omega)).2,(na (d:=m.1+4) (by omega) (by omega)).2]
 simp only[Option.bind_some,ey,gP]
 rw[a1,Option.bind_some,a2,Option.bind_some,a3',Option.bind_some,Option.bind_some,b1,Option.bind_some,b2,Option.bind_some,b3',Option.bind_some,d1,Option.bind_some,c1,Option.bind_some,c2,Option.bind_some,c3',Option.bind_some,d2,Option.bind_some]
 rfl
theorem Qd(a b:Ln):((a.1==b.1)&&(((a.2.1==b.2.1)&&((a.2.2.1==b.2.2.1)&&((a.2.2.2==b.2.2.2)&&true)))&&true))=decide (a=b):=by
 obtain⟨a1,a2,a3,a4⟩:=a
 obtain⟨b1,b2,b3,b4⟩:=b
 rw[Bool.eq_iff_iff]
 simp only[Bool.and_eq_true,beq_iff_eq,decide_eq_true_eq,Prod.mk.injEq,and_true]
def tV(l m:Ln):Ln:=(l.1,low ((ej l.2 m.2).2.2.toNat+1) (ej l.2 m.2).1 (ej l.2 m.2).2.1)
def JD(l m:Ln):List Ln:=cond (decide ((l.1+m.1)/2<=3)) [kA (eP l m) ((l.1+m.1)/2),kA (eP l m) ((l.1+m.1)/2+4)] [kA (eP l m) ((l.1+m.1)/2-4),kA (eP l m) ((l.1+m.1)/2)]
def vR(l m:Ln):List Ln×Int:=
 cond (fg l&&fg m) (cond (decide (l=m)) ([],7) (cond (decide (l.1=m.1)) (AK [tV l m]) (cond (decide ((l.1+m.1)%2=0)) (AK (JD l m)) ([],0)))) ([],1)
theorem E8{p:Pt}(hp:Bd 14155776 18 p.1/\Bd 14155776 18 p.2){d:Int}(h0:0<=d)(h1:d<8):MK (kA p d):=by
 have hb:=ln (V:=1) (by decide) (en (d:=d+4) (by omega) (by omega)) hp
 have hi:=tF hb (by decide) (by decide)
 exact⟨ep _ _,by have:=hb.2.1;exact Int.le_trans this (by decide),hi.1,hi.2⟩
theorem Pp(x:Ln):jj [] x=some [x]:=by
 rw[jj,oN,rm,gn]
 rfl
theorem Pq(x y:Ln)(hne:x.1≠y.1):jj [x] y=some (cond (decide (x.1>y.1)) [y,x] [x,y]):=by
 rw[jj,oN,rm,gn,bM (by simp),cond_true,show((([x]:List Ln).length:Nat):Int)=1 from rfl,aG (n:=(1:Int)-1) (by decide) (by decide),
  show xd [x] ((1:Int)-1)=some x from rfl]
 simp only[Option.bind_some]
 by_cases h:x.1>y.1
 ·rw[bM h,cond_true,cond_true,rm,gn]
  rfl
 ·rw[bX h,cond_false,cond_false,show(x.1==y.1)=false by simpa using hne,cond_false]
  rfl
theorem Jz{l m:Ln}(hl:fg l=true)(hm:fg m=true):dY [(l.1,lj (ej l.2 m.2))]=some (AK [tV l m]):=by
 obtain⟨l0,l1,lb,_⟩:=cV hl
 obtain⟨m0,m1,mb,_⟩:=cV hm
 have hb:=fC lb mb
 have hh:=tW (by decide) hb
 have hi:=tF hh (by decide) (by decide)
 have hk:=hh.1
 have hk':=hh.2.1
 have lo:=zI (a:=(lj (ej l.2 m.2)).1) (b:=(lj (ej l.2 m.2)).2.1) hk (Int.le_trans hk' (by decide)) hi.1 hi.2
 have e:(lj (ej l.2 m.2)).2.2.toNat=(ej l.2 m.2).2.2.toNat+1:=by
  have:=hb.1
  show((ej l.2 m.2).2.2+1).toNat=_;omega
 rw[e]at lo
 have hn:bI (lj (ej l.2 m.2))=some (cond (nN (tV l m).2) ((tV l m).2,true) ((0,(0,0)),false)):=by
  rw[bI,kD]
  have lo':eD (lj (ej l.2 m.2))=some (tV l m).2:=lo
  rw[lo']
  simp only[Option.bind_some,zk]
  cases nN (tV l m).2<;>rfl
 have hx:fP (l.1,lj (ej l.2 m.2))=some (cond (nN (tV l m).2) (tV l m,true) ((0,(0,(0,0))),false)):=by
  rw[fP,ld,hn,Option.bind_some]
  cases nN (tV l m).2<;>rfl
 rw[dY,oM,nF,ff,bM (by simp),cond_true,show xd [(l.1,lj (ej l.2 m.2))] (0:Int)=some (l.1,lj (ej l.2 m.2))from rfl,Option.bind_some,hx,Option.bind_some]
 unfold AK
 simp only[List.all_cons,List.all_nil,Bool.and_true]
 cases nN (tV l m).2
 ·rfl
 ·simp only[cond_true,Bool.not_true,cond_false]
  rw[bM (by simp),bM (by simp),cond_true,cond_true,aG (n:=(0:Int)+1) (by decide) (by decide),nF,ff,bX (by simp),cond_false]
  rfl
theorem Qo(a:Int)(h0:0<=a):(Int.tmod a 2==1)=decide (a%2=1):=by
 rw[Int.tmod_eq_emod_of_nonneg h0];rfl
theorem Ql(l m:Ln):nj l m=some (vR l m):=by
 rw[nj,nA,kQ,kQ]
 unfold vR
 simp only[Option.bind_some]
 cases hl:fg l
 ·rfl
 cases hm:fg m
 ·rfl
 obtain⟨l0,l1,lb,_⟩:=cV hl
 obtain⟨m0,m1,mb,_⟩:=cV hm
 rw[Qd]
 simp only[Bool.not_true,cond_false,Bool.and_self,cond_true]
 by_cases he:l=m
 ·rw[bM he];rfl
 ·rw[bX he,cond_false,cond_false]
  simp only[bF,dZ,bo,cg,Option.bind_some]
  by_cases hd:l.1=m.1
  ·rw[show(l.1==m.1)=true by simpa using hd,bM hd,cond_true,cond_true]
   have hb:=fC lb mb
   rw[(ml lb mb (by decide) (by decide) (by decide) (by decide) (by decide)).1,Option.bind_some,CK _ hb.1 (Int.le_trans hb.2.1 (by decide)),Option.bind_some,List.nil_append,Jz hl hm]
   rfl
  ·rw[show(l.1==m.1)=false by simpa using hd,bX hd,cond_false,cond_false,aG (n:=l.1+m.1) (by omega) (by omega),KC]
   by_cases hp:(l.1+m.1)%2=0
   ·have hb:=Gi hl hm hd hp
    rw[bM hp,cond_true,cond_true,Kv hl hm hd hp,Option.bind_some,Int.tdiv_eq_ediv_of_nonneg (by omega),aG (n:=(l.1+m.1)/2) (by omega) (by omega),aG (n:=(l.1+m.1)/2+4) (by omega) (by omega),
     rk (by omega) (by omega) (by decide) (by decide) hb (by decide),Option.bind_some,Pp,Option.bind_some,rk (by omega) (by omega) (by decide) (by decide) hb (by decide),Option.bind_some,
     Pq _ _ (show(l.1+m.1)/2%8≠((l.1+m.1)/2+4)%8 by omega),Option.bind_some]
    have hlist:cond (decide ((kA (eP l m) ((l.1+m.1)/2%8)).1>(kA (eP l m) (((l.1+m.1)/2+4)%8)).1)) [kA (eP l m) (((l.1+m.1)/2+4)%8),kA (eP l m) ((l.1+m.1)/2%8)] [kA (eP l m) ((l.1+m.1)/2%8),kA (eP l m) (((l.1+m.1)/2+4)%8)]=JD l m:=by
     unfold JD
     rw[show(l.1+m.1)/2%8=(l.1+m.1)/2 by omega]
     by_cases h3:(l.1+m.1)/2<=3
     ·rw[bM h3,cond_true,show((l.1+m.1)/2+4)%8=(l.1+m.1)/2+4 by omega,bX (show¬(kA (eP l m) ((l.1+m.1)/2)).1>(kA (eP l m) ((l.1+m.1)/2+4)).1 from(by show¬(l.1+m.1)/2>(l.1+m.1)/2+4;omega))];rfl
     ·rw[bX h3,cond_false,show((l.1+m.1)/2+4)%8=(l.1+m.1)/2-4 by omega,bM (show(kA (eP l m) ((l.1+m.1)/2)).1>(kA (eP l m) ((l.1+m.1)/2-4)).1 from(by show(l.1+m.1)/2>(l.1+m.1)/2-4;omega))];rfl
    rw[hlist,Fj (JD l m) (by unfold JD;cases decide ((l.1+m.1)/2<=3)<;>simp) ?_]
    ·rfl
    ·intro x hx
     unfold JD at hx
     by_cases h3:(l.1+m.1)/2<=3
     ·rw[bM h3,cond_true]at hx
      simp only[List.mem_cons,List.not_mem_nil,or_false]at hx
      rcases hx with rfl|rfl
      ·exact E8 hb (by omega) (by omega)
      ·exact E8 hb (by omega) (by omega)
     ·rw[bX h3,cond_false]at hx
      simp only[List.mem_cons,List.not_mem_nil,or_false]at hx
      rcases hx with rfl|rfl
      ·exact E8 hb (by omega) (by omega)
      ·exact E8 hb (by omega) (by omega)
   ·rw[bX hp,cond_false,cond_false,Fj [] (by simp) (fun x hx=>(List.not_mem_nil hx).elim)]
    rfl
theorem Lo(l m:Ln):bv l m=some (vR l m):=by
 rw[bv,kR,eW,eW]
 unfold vR
 simp only[Option.bind_some]
 cases hl:fg l
 ·rfl
 cases hm:fg m
 ·rfl
 obtain⟨l0,l1,lb,_⟩:=cV hl
 obtain⟨m0,m1,mb,_⟩:=cV hm
 rw[Qd]
 simp only[Bool.not_true,cond_false,Bool.and_self,cond_true]
 by_cases he:l=m
 ·rw[bM he];rfl
 ·rw[bX he,cond_false,cond_false,aG (n:=l.1+m.1) (by omega) (by omega),Qo _ (by omega)]
  by_cases hd:l.1=m.1
  ·rw[bX (show¬(l.1+m.1)%2=1 by omega),cond_false,show(l.1==m.1)=true by simpa using hd,bM hd,cond_true,cond_true]
   have hb:=fC lb mb
   rw[(ml lb mb (by decide) (by decide) (by decide) (by decide) (by decide)).2,Option.bind_some,yu hb (by decide) (by decide) (by decide),Option.bind_some]
   have h:=tk [tV l m] (by simp) (fun x hx=>by simp only[List.mem_cons,List.not_mem_nil,or_false]at hx;subst hx;exact⟨l0,l1⟩) trivial
   have h':ce [(l.1,low ((ej l.2 m.2).2.2.toNat+1) (ej l.2 m.2).1 (ej l.2 m.2).2.1)]=_:=h
   rw[h'];rfl
  ·by_cases hp:(l.1+m.1)%2=0
   ·have hb:=Gi hl hm hd hp
    rw[bX (show¬(l.1+m.1)%2=1 by omega),cond_false,show(l.1==m.1)=false by simpa using hd,bX hd,cond_false,cond_false,bM hp,cond_true,J5 hl hm hd hp,Option.bind_some]
    simp only[Bool.not_true,cond_false]
    rw[Int.tdiv_eq_ediv_of_nonneg (by omega),aG (n:=(l.1+m.1)/2) (by omega) (by omega),aG (n:=(l.1+m.1)/2+4) (by omega) (by omega),Int.tmod_eq_emod_of_nonneg (by omega),
     pS (by omega) (by omega) (by decide) (by decide) hb (by decide),Option.bind_some,pS (by omega) (by omega) (by decide) (by decide) hb (by decide),Option.bind_some]
    unfold JD
    by_cases h3:(l.1+m.1)/2<=3
    ·rw[bM h3,cond_true,show((l.1+m.1)/2+4)%8=(l.1+m.1)/2+4 by omega,
      tk [kA (eP l m) ((l.1+m.1)/2),kA (eP l m) ((l.1+m.1)/2+4)] (by simp) (fun x hx=>by
       simp only[List.mem_cons,List.not_mem_nil,or_false]at hx
       rcases hx with rfl|rfl
       ·exact⟨by show 0<=(l.1+m.1)/2;omega,by show(l.1+m.1)/2<=7;omega⟩
       ·exact⟨by show 0<=(l.1+m.1)/2+4;omega,by show(l.1+m.1)/2+4<=7;omega⟩) ⟨by show(l.1+m.1)/2<(l.1+m.1)/2+4;omega,trivial⟩]
     rfl
    ·rw[bX h3,cond_false,show((l.1+m.1)/2+4)%8=(l.1+m.1)/2-4 by omega,
      Js (kA (eP l m) ((l.1+m.1)/2)) (kA (eP l m) ((l.1+m.1)/2-4)) ⟨by show 0<=(l.1+m.1)/2;omega,by show(l.1+m.1)/2<=7;omega⟩
       ⟨by show 0<=(l.1+m.1)/2-4;omega,by show(l.1+m.1)/2-4<=7;omega⟩ (by show(l.1+m.1)/2-4<(l.1+m.1)/2;omega)]
     rfl
   ·rw[bM (show(l.1+m.1)%2=1 by omega),cond_true,bX hd,cond_false,bX hp,cond_false]
theorem Hp(l m:Ln):(vR l m).1.length<=1000:=by
 unfold vR
 cases fg l&&fg m
 ·exact Nat.zero_le _
 ·cases decide (l=m)
  ·cases decide (l.1=m.1)
   ·cases decide ((l.1+m.1)%2=0)
    ·exact Nat.zero_le _
    ·exact uG _ (by unfold JD;cases decide ((l.1+m.1)/2<=3)<;>simp)
   ·exact uG _ (by simp)
  ·exact Nat.zero_le _
def vC(p:Pt)(l:Ln)(q:Pt)(m:Ln)(d:Int):List Ln:=
 cond (qR (gU d l.1))
  (cond (qR (ig p l)) (cond (qR (gU d m.1)) [] [xL d q m]) [])
  (cond (qR (gU d m.1)) (cond (qR (ig q m)) [xL d p l] []) (cond (decide (xL d p l=xL d q m)) [xL d p l] []))
def hQ(p:Pt)(l:Ln)(q:Pt)(m:Ln):Nat->Int->List Ln
 |0,_=>[]
 |n+1,d=>vC p l q m d++hQ p l q m n (d+1)
theorem sh(p:Pt)(l:Ln)(q:Pt)(m:Ln)(d:Int):vC p l q m d=[]\/∃x,vC p l q m d=[x]/\((x=xL d p l/\qR (gU d l.1)=false)\/(x=xL d q m/\qR (gU d m.1)=false)):=by
 unfold vC
 cases h1:qR (gU d l.1)
 ·cases h2:qR (gU d m.1)
  ·simp only[cond_false]
   cases decide (xL d p l=xL d q m)
   ·exact .inl rfl
   ·exact .inr ⟨_,rfl, .inl ⟨rfl,trivial⟩⟩
  ·simp only[cond_false,cond_true]
   cases qR (ig q m)
   ·exact .inl rfl
   ·exact .inr ⟨_,rfl, .inl ⟨rfl,trivial⟩⟩
 ·simp only[cond_true]
  cases qR (ig p l)
  ·exact .inl rfl
  ·cases h2:qR (gU d m.1)
   ·exact .inr ⟨_,rfl, .inr ⟨rfl,rfl⟩⟩
   ·exact .inl rfl
theorem zm(p:Pt)(l:Ln)(q:Pt)(m:Ln):∀(n:Nat) (d:Int) (x:Ln),x∈hQ p l q m n d->∃e,d<=e/\e<d+n/\x.1=e/\((x=xL e p l/\qR (gU e l.1)=false)\/(x=xL e q m/\qR (gU e m.1)=false))
 |0,d,x,h=>(List.not_mem_nil h).elim
 |n+1,d,x,h=>by
  rcases List.mem_append.1 h with h|h
  ·rcases sh p l q m d with e|⟨y,e,hy⟩
   ·rw[e]at h;cases h
   ·rw[e]at h
    simp only[List.mem_cons,List.not_mem_nil,or_false]at h
    subst h
    refine⟨d,Int.le_refl _,by omega, ?_,hy⟩
    rcases hy with⟨rfl,_⟩|⟨rfl,_⟩<;>rfl
  ·obtain⟨e,h1,h2,h3⟩:=zm p l q m n (d+1) x h
   exact⟨e,by omega,by omega,h3⟩
theorem qP(p:Pt)(l:Ln)(q:Pt)(m:Ln):∀(n:Nat) (d:Int),(hQ p l q m n d).length<=n
 |0,d=>Nat.le_refl _
 |n+1,d=>by
  have:=qP p l q m n (d+1)
  rcases sh p l q m d with e|⟨y,e,_⟩
  ·simp only[hQ,e,List.nil_append];omega
  ·simp only[hQ,e,List.length_append,List.length_singleton];omega
theorem GF{x:Ln}:∀{l:List Ln},(∀y,y∈l->x.1<y.1)->El l->El (x::l)
 |[],_,_=>trivial
 |y::r,h,hr=>⟨h y (by simp),hr⟩
theorem AF(p:Pt)(l:Ln)(q:Pt)(m:Ln):∀(n:Nat) (d:Int),El (hQ p l q m n d)
 |0,d=>trivial
 |n+1,d=>by
  have ih:=AF p l q m n (d+1)
  rcases sh p l q m d with e|⟨y,e,hy⟩
  ·simp only[hQ,e,List.nil_append];exact ih
  ·simp only[hQ,e,List.singleton_append]
   refine GF (fun z hz=> ?_) ih
   obtain⟨e,h1,_,h3,_⟩:=zm p l q m n (d+1) z hz
   have:y.1=d:=by rcases hy with⟨rfl,_⟩|⟨rfl,_⟩<;>rfl
   omega
section
variable {p q:Pt} {l m:Ln} (hp:jk p=true) (hl:fg l=true) (hq:jk q=true) (hm:fg m=true)
include hp hl hq hm
theorem Hd{d:Int}(h0:0<=d)(h1:d<8)(acc:List Ln)(hacc:acc.length<=1000){R:Type}(nx:jl.T->Option R)(hx:mJ R gR):
 fy nx hx acc d p.1.1 p.1.2.1 p.1.2.2 p.2.1 p.2.2.1 p.2.2.2 l.1 l.2.1 l.2.2.1 l.2.2.2 q.1.1 q.1.2.1 q.1.2.2 q.2.1 q.2.2.1 q.2.2.2 m.1 m.2.1 m.2.2.1 m.2.2.2=
  nx (bt (acc++vC p l q m d) (d+1) p.1.1 p.1.2.1 p.1.2.2 p.2.1 p.2.2.1 p.2.2.2 l.1 l.2.1 l.2.2.1 l.2.2.2 q.1.1 q.1.2.1 q.1.2.2 q.2.1 q.2.2.1 q.2.2.2 m.1 m.2.1 m.2.2.1 m.2.2.2):=by
 obtain⟨l0,l1,lb,_⟩:=cV hl
 obtain⟨m0,m1,mb,_⟩:=cV hm
 have bp:=ek hp
 have bq:=ek hq
 have mv1:=(zA h0 h1 l0 l1 lb bp).1
 have mv2:=(zA h0 h1 m0 m1 mb bq).1
 have k1:decide ((acc.length+1)*32<=70368744177664)=true:=bM (by omega)
 have k2:decide (acc.length+1<=70368744177664)=true:=bM (by omega)
 rw[fy,bM h1,cond_true,aG (n:=d+1) (by omega) (by omega)]
 simp only[bF,dZ,aV,cI,bo,cg,Option.bind_some]
 rw[mv1,Option.bind_some,mv2,Option.bind_some]
 unfold Eb vC
 cases z1:qR (gU d l.1)
 ·cases z2:qR (gU d m.1)
  ·have b1:=Fz h0 h1 l0 l1 lb bp z1
   have b2:=Fz h0 h1 m0 m1 mb bq z2
   have sb:=(lC b1 b2 (by decide) (by decide) (by decide) (by decide) (by decide)).1
   have hz:=JC (x:=(xL d p l).2) (y:=(xL d q m).2) (ep _ _) (ep _ _)
   have hz':decide ((kG (xL d p l).2 (xL d q m).2).1=0/\(kG (xL d p l).2 (xL d q m).2).2.1=0)=decide (xL d p l=xL d q m):=by
    rw[Bool.eq_iff_iff,decide_eq_true_eq,decide_eq_true_eq,hz]
    exact⟨fun h=>Prod.ext rfl h,fun h=>by rw[h]⟩
   simp only[cond_false,show((1:Int)==1)=true from rfl,show((1:Int)==2)=false from rfl,cond_true,sb,Option.bind_some,Fk,hz']
   cases decide (xL d p l=xL d q m)
   ·simp only[cond_false,List.append_nil]
   ·simp only[cond_true,List.length_singleton,k1,k2]
  ·cases qR (ig q m)
   ·simp only[cond_false,cond_true,show((1:Int)==1)=true from rfl,show((0:Int)==2)=false from rfl,show((1:Int)==2)=false from rfl,show((0:Int)==1)=false from rfl,List.append_nil]
   ·simp only[cond_false,cond_true,show((1:Int)==1)=true from rfl,show((2:Int)==2)=true from rfl,List.length_singleton,k1,k2]
 ·cases qR (ig p l)
  ·cases z2:qR (gU d m.1)<;>cases qR (ig q m)<;>
    simp only[cond_false,cond_true,show((0:Int)==1)=false from rfl,show((0:Int)==2)=false from rfl,List.append_nil]
  ·cases z2:qR (gU d m.1)
   ·simp only[cond_false,cond_true,show((2:Int)==1)=false from rfl,show((2:Int)==2)=true from rfl,show((1:Int)==1)=true from rfl,List.length_singleton,k1,k2]
   ·cases qR (ig q m)<;>
     simp only[cond_false,cond_true,show((2:Int)==1)=false from rfl,show((0:Int)==1)=false from rfl,show((2:Int)==2)=true from rfl,List.append_nil]
theorem Hc{d:Int}(h0:0<=d)(h1:d<8)(acc:List Ln)(hacc:acc.length<=1000){R:Type}(nx:dC.T->Option R)(hx:mJ R ec):
 fw nx hx acc d p.1.1 p.1.2.1 p.1.2.2 p.2.1 p.2.2.1 p.2.2.2 l.1 l.2.1 l.2.2.1 l.2.2.2 q.1.1 q.1.2.1 q.1.2.2 q.2.1 q.2.2.1 q.2.2.2 m.1 m.2.1 m.2.2.1 m.2.2.2=
  nx (cq (acc++vC p l q m d) (d+1) p.1.1 p.1.2.1 p.1.2.2 p.2.1 p.2.2.1 p.2.2.2 l.1 l.2.1 l.2.2.1 l.2.2.2 q.1.1 q.1.2.1 q.1.2.2 q.2.1 q.2.2.1 q.2.2.2 m.1 m.2.1 m.2.2.1 m.2.2.2):=by
 obtain⟨l0,l1,lb,_⟩:=cV hl
 obtain⟨m0,m1,mb,_⟩:=cV hm
 have bp:=ek hp
 have bq:=ek hq
 have mv1:=(zA h0 h1 l0 l1 lb bp).2
 have mv2:=(zA h0 h1 m0 m1 mb bq).2
 have k1:decide ((acc.length+1)*32<=70368744177664)=true:=bM (by omega)
 have k2:decide (acc.length+1<=70368744177664)=true:=bM (by omega)
 rw[fw,bM h1,cond_true,aG (n:=d+1) (by omega) (by omega)]
 rw[mv1,Option.bind_some,mv2,Option.bind_some]
 unfold Eb vC
 cases z1:qR (gU d l.1)
 ·cases z2:qR (gU d m.1)
  ·simp only[cond_false,show((1:Int)==0)=false from rfl,show((1:Int)==2)=false from rfl,show((1:Int)==3)=false from rfl,Qd]
   cases decide (xL d p l=xL d q m)
   ·simp only[cond_false,List.append_nil]
   ·simp only[cond_true,List.length_singleton,k1,k2]
  ·cases qR (ig q m)
   ·simp only[cond_false,cond_true,show((1:Int)==0)=false from rfl,show((0:Int)==0)=true from rfl,List.append_nil]
   ·simp only[cond_false,cond_true,show((1:Int)==0)=false from rfl,show((2:Int)==0)=false from rfl,show((1:Int)==2)=false from rfl,show((1:Int)==3)=false from rfl,
     show((2:Int)==3)=false from rfl,show((2:Int)==2)=true from rfl,List.length_singleton,k1,k2]
 ·cases qR (ig p l)
  ·cases z2:qR (gU d m.1)<;>cases qR (ig q m)<;>
    simp only[cond_false,cond_true,show((0:Int)==0)=true from rfl,List.append_nil]
  ·cases z2:qR (gU d m.1)
   ·simp only[cond_false,cond_true,show((2:Int)==0)=false from rfl,show((1:Int)==0)=false from rfl,show((2:Int)==2)=true from rfl,show((1:Int)==2)=false from rfl,
     show((2:Int)==3)=false from rfl,show((1:Int)==3)=false from rfl,List.length_singleton,k1,k2]
   ·cases qR (ig q m)
    ·simp only[cond_false,cond_true,show((2:Int)==0)=false from rfl,show((0:Int)==0)=true from rfl,List.append_nil]
    ·simp only[cond_false,cond_true,show((2:Int)==0)=false from rfl,show((2:Int)==2)=true from rfl,List.append_nil]
theorem AH:∀(n:Nat) (d:Int) (acc:List Ln),0<=d->d+n=8->acc.length<=900-n->
 nD (bt acc d p.1.1 p.1.2.1 p.1.2.2 p.2.1 p.2.2.1 p.2.2.2 l.1 l.2.1 l.2.2.1 l.2.2.2 q.1.1 q.1.2.1 q.1.2.2 q.2.1 q.2.2.1 q.2.2.2 m.1 m.2.1 m.2.2.1 m.2.2.2)=some (.inl (tM (acc++hQ p l q m n d)))
 |0,d,acc,h0,h1,ha=>by
  rw[vF,fy,bX (by omega),cond_false]
  simp only[hQ,List.append_nil];rfl
 |n+1,d,acc,h0,h1,ha=>by
  rw[vF,Hd hp hl hq hm h0 (by omega) acc (by omega)]
  have hlen:(vC p l q m d).length<=1:=by
   rcases sh p l q m d with e|⟨y,e,_⟩<;>rw[e]<;>simp
  refine(AH n (d+1) (acc++vC p l q m d) (by omega) (by omega) (by simp only[List.length_append];omega)).trans ?_
  rw[hQ,List.append_assoc]
theorem AG:∀(n:Nat) (d:Int) (acc:List Ln),0<=d->d+n=8->acc.length<=900-n->
 jp (cq acc d p.1.1 p.1.2.1 p.1.2.2 p.2.1 p.2.2.1 p.2.2.2 l.1 l.2.1 l.2.2.1 l.2.2.2 q.1.1 q.1.2.1 q.1.2.2 q.2.1 q.2.2.1 q.2.2.2 m.1 m.2.1 m.2.2.1 m.2.2.2)=some (.inr (.inl (tL (acc++hQ p l q m n d))))
 |0,d,acc,h0,h1,ha=>by
  rw[vE,fw,bX (by omega),cond_false]
  simp only[hQ,List.append_nil];rfl
 |n+1,d,acc,h0,h1,ha=>by
  rw[vE,Hc hp hl hq hm h0 (by omega) acc (by omega)]
  have hlen:(vC p l q m d).length<=1:=by
   rcases sh p l q m d with e|⟨y,e,_⟩<;>rw[e]<;>simp
  refine(AG n (d+1) (acc++vC p l q m d) (by omega) (by omega) (by simp only[List.length_append];omega)).trans ?_
  rw[hQ,List.append_assoc]
end
def Hz(p:Pt)(l:Ln)(q:Pt)(m:Ln):List Ln×Int:=cond (jk p&&(fg l&&(jk q&&fg m))) (AK (hQ p l q m 8 0)) ([],1)
theorem Eu{p q:Pt}{l m:Ln}(hp:jk p=true)(hl:fg l=true)(hq:jk q=true)(hm:fg m=true)(x:Ln)(hx:x∈hQ p l q m 8 0):MK x/\0<=x.1/\x.1<=7:=by
 obtain⟨l0,l1,lb,_⟩:=cV hl
 obtain⟨m0,m1,mb,_⟩:=cV hm
 obtain⟨e,h1,h2,h3,h4⟩:=zm p l q m 8 0 x hx
 refine⟨?_,by omega,by omega⟩
 rcases h4 with⟨rfl,hz⟩|⟨rfl,hz⟩
 ·have hb:=Fz (by omega) (by omega) l0 l1 lb (ek hp) hz
  have hi:=tF hb (by decide) (by decide)
  exact⟨ep _ _,by have:=hb.2.1;exact Int.le_trans this (by decide),hi.1,hi.2⟩
 ·have hb:=Fz (by omega) (by omega) m0 m1 mb (ek hq) hz
  have hi:=tF hb (by decide) (by decide)
  exact⟨ep _ _,by have:=hb.2.1;exact Int.le_trans this (by decide),hi.1,hi.2⟩
theorem Q4(p:Pt)(l:Ln)(q:Pt)(m:Ln):qj p l q m=some (Hz p l q m):=by
 rw[qj,qD,kQ,kQ,kh,kh]
 unfold Hz
 simp only[Option.bind_some]
 cases hp:jk p
 ·rfl
 cases hl:fg l
 ·rfl
 cases hq:jk q
 ·rfl
 cases hm:fg m
 ·rfl
 simp only[Bool.not_true,cond_false,Bool.and_self,cond_true]
 rw[AH hp hl hq hm 8 0 [] (by decide) (by decide) (by simp),List.nil_append]
 have h:=Fj (hQ p l q m 8 0) (Nat.le_trans (qP p l q m 8 0) (by decide)) (fun x hx=>(Eu hp hl hq hm x hx).1)
 show(dY (hQ p l q m 8 0)).bind _=_
 rw[h];rfl
theorem Oa(p:Pt)(l:Ln)(q:Pt)(m:Ln):bN p l q m=some (Hz p l q m):=by
 rw[bN,mV,eW,eW,jx,jx]
 unfold Hz
 simp only[Option.bind_some]
 cases hp:jk p
 ·rfl
 cases hl:fg l
 ·rfl
 cases hq:jk q
 ·rfl
 cases hm:fg m
 ·rfl
 simp only[Bool.not_true,cond_false,Bool.and_self,cond_true]
 rw[AG hp hl hq hm 8 0 [] (by decide) (by decide) (by simp),List.nil_append]
 have h:=tk (hQ p l q m 8 0) (Nat.le_trans (qP p l q m 8 0) (by decide)) (fun x hx=>(Eu hp hl hq hm x hx).2) (AF p l q m 8 0)
 show cond (decide True) ((ce (hQ p l q m 8 0)).bind _) none=_
 rw[bM trivial,cond_true,h];rfl
theorem KD(p:Pt)(l:Ln)(q:Pt)(m:Ln):(Hz p l q m).1.length<=1000:=by
 unfold Hz
 cases jk p&&(fg l&&(jk q&&fg m))
 ·exact Nat.zero_le _
 ·exact uG _ (Nat.le_trans (qP p l q m 8 0) (by decide))
theorem KA{V V':Int}{κ κ':Nat}{v:Pt}{x:Nm}(hv:Bd V κ v.1/\Bd V κ v.2)(hx:Bd V' κ' x)(hV:0<=V)(hκ:κ+κ'<=1000)(h1:V*2^κ<=2305843009213693952)(h2:3*(V*V')*2^(κ+κ')<=4611686018427387904):
 fk v x=some (xq v x):=by
 rw[fk,jG,(gu hv.1 hx hV hκ h1 h2).2,(gu hv.2 hx hV hκ h1 h2).2];rfl
def dT(l:Ln)(p:Pt):Pt:=
 Ax p (xq (aC (l.1+4)) (ej (tP (JB (l.1+4)) (kG l.2 (cw (aC (l.1+4)) p)) (pJ (l.1+4))) (tP (JB (l.1+4)) (kG l.2 (cw (aC (l.1+4)) p)) (pJ (l.1+4)))))
theorem Ih(t:Nat)(p n a b s:Nm):kG p (kB (ej (tP t (kG a b) s) (tP t (kG a b) s)) n)=ej p (kB n (ej (tP t (kG b a) s) (tP t (kG b a) s))):=by
 refine kq (mA _ _ _) (mA _ _ _) ?_ ?_
 ·rw[mC,iv,ly,ly,iv,iv,iw,iw,BI,BI,BJ,BJ,mC,mC,mD,mD]
  have:=aY t
  grind
 ·rw[mD,iw,lz,lz,iv,iv,iw,iw,BI,BI,BJ,BJ,mC,mC,mD,mD]
  have:=aY t
  grind
theorem uo{V:Int}{κ:Nat}{l:Ln}{p:Pt}(h0:0<=l.1)(h1:l.1<=7)(hl:Bd 786432 10 l.2)(hV:0<=V)(hκ:10<=κ)(hp:Bd V κ p.1/\Bd V κ p.2):Bd (V+72*(786432+6*V)) (κ+3) (dT l p).1/\Bd (V+72*(786432+6*V)) (κ+3) (dT l p).2:=by
 have hd0:0<=l.1+4:=by omega
 have hd1:l.1+4<16:=by omega
 have hdot:=ln (V:=1) (by decide) (en hd0 hd1) hp
 have hsub:=rE hl hdot
 have hdiv:=BH (by omega) hsub (ux hd0 hd1) (G4 hd0 hd1)
 have hadd:=fC hdiv hdiv
 have ht:=DM (V:=1) (by decide) (en hd0 hd1) hadd
 have:=OD hp ht
 exact⟨this.1.mono (by omega) (by omega),this.2.mono (by omega) (by omega)⟩
theorem pG{V:Int}{κ:Nat}{l:Ln}{p:Pt}(h0:0<=l.1)(h1:l.1<=7)(hl:Bd 786432 10 l.2)(hV:0<=V)(hκ:10<=κ)(hκ':κ<=50)(hp:Bd V κ p.1/\Bd V κ p.2)(h:(V+72*(786432+6*V))*2^(κ+3)<=4611686018427387904):
 fO l p=some (dT l p)/\cu l p=some (dT l p):=by
 have hd0:0<=l.1+4:=by omega
 have hd1:l.1+4<16:=by omega
 have hp8:(2:Int)^(κ+3)=8*2^κ:=by rw[Int.pow_add];grind
 have hVp:0<=V*2^κ:=Int.mul_nonneg hV (Int.le_of_lt (Int.pow_pos (by decide)))
 have hpp:(0:Int)<2^κ:=Int.pow_pos (by decide)
 have eh:(V+72*(786432+6*V))*2^(κ+3)=3464*(V*2^κ)+452984832*2^κ:=by rw[hp8];grind
 rw[eh]at h
 have hdot:=ln (V:=1) (by decide) (en hd0 hd1) hp
 have okdot:=sp (d:=l.1+4) hd0 hd1 hV (by omega) hp (by have:6*V*2^κ=6*(V*2^κ):=Int.mul_assoc .. ;omega)
 have hdot:Bd (6*V) κ (cw (aC (l.1+4)) p):=hdot.mono (by omega) (by omega)
 have hmax:max 10 κ=κ:=by omega
 have hmax2:max κ 10=κ:=by omega
 have e1:(786432+6*V)*2^κ=786432*2^κ+6*(V*2^κ):=by grind
 have s1:=lC hl hdot (by decide) (by omega) (by decide) (by omega) (by rw[hmax,e1];omega)
 have s2:=lC hdot hl (by omega) (by decide) (by omega) (by decide) (by rw[hmax2,Int.add_comm,e1];omega)
 have hs1:=rE hl hdot
 have hs2:=rE hdot hl
 rw[hmax]at hs1
 rw[hmax2,Int.add_comm]at hs2
 have e4:3*((786432+6*V)*4)*2^(κ+0)=12*((786432+6*V)*2^κ):=by rw[Nat.add_zero];grind
 have d1:=wY hs1 (ux hd0 hd1) (by omega) (by decide) (by decide) (by omega) (by rw[e1];omega) (by rw[e4,e1];omega)
 have d2:=wY hs2 (ux hd0 hd1) (by omega) (by decide) (by decide) (by omega) (by rw[e1];omega) (by rw[e4,e1];omega)
 rw[Mk hd0 hd1]at d1 d2
 have b1:=BH (by omega) hs1 (ux hd0 hd1) (G4 hd0 hd1)
 have b2:=BH (by omega) hs2 (ux hd0 hd1) (G4 hd0 hd1)
 have e5:(12*(786432+6*V)+12*(786432+6*V))*2^(κ+3)=192*((786432+6*V)*2^κ):=by rw[hp8];grind
 have a1:=ml b1 b1 (by omega) (by omega) (by omega) (by omega) (by rw[Nat.max_self,e5,e1];omega)
 have a2:=ml b2 b2 (by omega) (by omega) (by omega) (by omega) (by rw[Nat.max_self,e5,e1];omega)
 have c1:=fC b1 b1
 have c2:=fC b2 b2
 rw[Nat.max_self]at c1 c2
 obtain⟨v1,v2⟩:=en hd0 hd1
 have e6:3*((12*(786432+6*V)+12*(786432+6*V))*1)*2^(κ+3+0)=576*((786432+6*V)*2^κ):=by rw[Nat.add_zero,hp8];grind
 have e7:3*(1*(12*(786432+6*V)+12*(786432+6*V)))*2^(0+(κ+3))=576*((786432+6*V)*2^κ):=by rw[Nat.zero_add,hp8];grind
 have m1:=gu c2 v1 (by omega) (by omega) (by rw[e5,e1];omega) (by rw[e6,e1];omega)
 have m2:=gu c2 v2 (by omega) (by omega) (by rw[e5,e1];omega) (by rw[e6,e1];omega)
 have t1:=KA (en hd0 hd1) c1 (by decide) (by omega) (by decide) (by rw[e7,e1];omega)
 have tb:=DM (V:=1) (by decide) (en hd0 hd1) c1
 have mb1:=cX (by omega) c2 v1
 have mb2:=cX (by omega) c2 v2
 have e8:(V+3*((12*(786432+6*V)+12*(786432+6*V))*1))*2^(κ+3)=8*(V*2^κ)+576*((786432+6*V)*2^κ):=by rw[hp8];grind
 have e9:(V+3*(1*(12*(786432+6*V)+12*(786432+6*V))))*2^(κ+3)=8*(V*2^κ)+576*((786432+6*V)*2^κ):=by rw[hp8];grind
 have hm1:max κ (κ+3+0)=κ+3:=by omega
 have hm2:max κ (0+(κ+3))=κ+3:=by omega
 have f1:=lC hp.1 mb1 hV (by omega) (by omega) (by omega) (by rw[hm1,e8,e1];omega)
 have f2:=lC hp.2 mb2 hV (by omega) (by omega) (by omega) (by rw[hm1,e8,e1];omega)
 have p1:=Jo hp tb hV (by omega) (by omega) (by omega) (by rw[hm2,e9,e1];omega)
 have hw:IntKind.wrap .i64 (l.1+4)=l.1+4:=aG (by omega) (by omega)
 constructor
 ·rw[fO,mG,hw,(na hd0 hd1).1]
  simp only[Option.bind_some,aV,cI,bo,cg]
  rw[okdot.1,Option.bind_some,s2.1,Option.bind_some,LG hd0 hd1,Option.bind_some,d2.1,Option.bind_some]
  try simp only
  rw[a2.1,Option.bind_some,m1.1,Option.bind_some,m2.1,Option.bind_some,gl,lY,f1.1,Option.bind_some,f2.1,Option.bind_some,Option.bind_some,Ih,Ih]
  rfl
 ·rw[cu,jb,bH,cU]
  try simp only
  rw[hw,(na hd0 hd1).2]
  simp only[Option.bind_some]
  rw[okdot.2,Option.bind_some,s1.2,Option.bind_some,Lm hd0 hd1,Option.bind_some,d1.2,Option.bind_some]
  try simp only
  rw[a1.2,Option.bind_some,t1,Option.bind_some,p1]
  rfl
end Go.Proofs.YtjkljnflaifbhaaDoor
