/- No conditions. -/
import Derived.Test.YtjkljnflaifbhaaGreatDoorZ3a
namespace Go.Proofs.YtjkljnflaifbhaaGreatDoor
open Go.Vai
theorem W8{d:Int}(h0:0<=d)(h1:d<16):jA d=some (UZ d):=by
 obtain⟨hv1,hv2⟩:=gv h0 h1
 obtain⟨v1,v2⟩:=uJ h0 h1
 have m1:=lP hv1 hv1 (by decide) (by decide) (by decide) (by decide)
 have m2:=lP hv2 hv2 (by decide) (by decide) (by decide) (by decide)
 have a:=ux (eY (V:=1) (by decide) hv1 hv1) (eY (V:=1) (by decide) hv2 hv2) (by decide) (by decide) (by decide) (by decide) (by decide)
 rw[jA,qJ,v1]
 simp only[Option.bind_some,bj,dH,bY,cV]
 rw[m1.1,m2.1]
 simp only[Option.bind_some]
 rw[a.1];rfl
def oF(d:Int)(l:Int):Nm:=oG (fo (l+4)) (fo (d+4))
def WF(y:Nm):Bool:=
 decide (y.2.2=0)&&((decide (y.1=0)&&decide (y.2.1=0))||
  (decide (y.1*y.1-2*y.2.1*y.2.1≠0)&&(decide ((kv 64 (y.1*y.1-2*y.2.1*y.2.1)).1=1)||decide ((kv 64 (y.1*y.1-2*y.2.1*y.2.1)).1= -1))&&decide ((kv 64 (y.1*y.1-2*y.2.1*y.2.1)).2<=8)&&
    (decide ((2*y.1)*(2*y.1)-2*(2*y.2.1)*(2*y.2.1)≠0)&&(decide ((kv 64 ((2*y.1)*(2*y.1)-2*(2*y.2.1)*(2*y.2.1))).1=1)||decide ((kv 64 ((2*y.1)*(2*y.1)-2*(2*y.2.1)*(2*y.2.1))).1= -1))&&decide ((kv 64 ((2*y.1)*(2*y.1)-2*(2*y.2.1)*(2*y.2.1))).2<=8))))
theorem abc:((List.range 8).all fun a=>(List.range 8).all fun d=>WF (oF (d:Int) (a:Int)))=true:=by decide+kernel
theorem aad{d l:Int}(h0:0<=d)(h1:d<8)(h2:0<=l)(h3:l<8):WF (oF d l)=true:=by
 have h:=List.all_eq_true.1 (List.all_eq_true.1 abc l.toNat (by simp;omega)) d.toNat (by simp;omega)
 rw[Int.toNat_of_nonneg h0,Int.toNat_of_nonneg h2]at h
 exact h
theorem YX{d l:Int}(h0:0<=d)(h1:d<8)(h2:0<=l)(h3:l<8):Bd 6 0 (oF d l):=
 qT (V:=1) (by decide) (gv (d:=l+4) (by omega) (by omega)) (gv (d:=d+4) (by omega) (by omega))
def th(p:Pt)(l:Ln):Nm:=qM l.2 (oG (fo (l.1+4)) p)
def Yz(d:Int)(p:Pt)(l:Ln):Nm:=(I6 (sn (th p l) (UZ (d+4))) (jQ (oF d l.1) (oF d l.1))).1
def M8(d:Int)(p:Pt)(l:Ln):Ln:=(d,jQ (oG (fo (d+4)) p) (Yz d p l))
def Df(x:Nm):Bool:=decide (x.1=0/\x.2.1=0)
def O5(d:Int)(p:Pt)(l:Ln):Ln×Int:=
 cond (Df (oF d l.1)) (cond (Df (th p l)) ((0,(0,(0,0))),2) ((0,(0,(0,0))),0)) (M8 d p l,1)
theorem VU{p:Pt}{l:Ln}(h0:0<=l.1)(h1:l.1<=7)(hl:Bd 131072 10 l.2)(hp:Bd 131072 10 p.1/\Bd 131072 10 p.2):Bd 917504 10 (th p l):=
 zk hl (qT (V:=1) (by decide) (gv (d:=l.1+4) (by omega) (by omega)) hp)
theorem OD{d:Int}{p:Pt}{l:Ln}(h0:0<=d)(h1:d<8)(hl0:0<=l.1)(hl1:l.1<=7)(hl:Bd 131072 10 l.2)(hp:Bd 131072 10 p.1/\Bd 131072 10 p.2)(hz:Df (oF d l.1)=false):
 ∃t,I6 (sn (th p l) (UZ (d+4))) (oF d l.1)=(t,true)/\Bd 396361728 18 t/\
  I6 (sn (th p l) (UZ (d+4))) (jQ (oF d l.1) (oF d l.1))=(Yz d p l,true)/\Bd 396361728 18 (Yz d p l)/\∀y,jQ y (qO t)=jQ y (Yz d p l):=by
 have hg:=aad h0 h1 hl0 (by omega:l.1<8)
 have hy:=YX h0 h1 hl0 (by omega:l.1<8)
 have hr:=VU hl0 hl1 hl hp
 have hx:=eY (by decide) hr (EM (d:=d+4) (by omega) (by omega))
 simp only[WF,Bool.and_eq_true,Bool.or_eq_true,decide_eq_true_eq]at hg
 obtain⟨hy0,hg⟩:=hg
 have hg:=hg.resolve_left (fun e=>by
  unfold Df at hz
  rw[aT e]at hz
  cases hz)
 obtain⟨⟨⟨g1,g2⟩,g3⟩,⟨g4,g5⟩,g6⟩:=hg
 have htw:=act hy0
 have hy2:Bd 12 0 (jQ (oF d l.1) (oF d l.1)):=by
  have:=lG hy hy
  exact this
 obtain⟨t,t1,t2,t3,t4,t5⟩:=Nq (by decide) hx hy (m:=(kv 64 ((oF d l.1).1*(oF d l.1).1-2*(oF d l.1).2.1*(oF d l.1).2.1)).1) (t:=(kv 64 ((oF d l.1).1*(oF d l.1).1-2*(oF d l.1).2.1*(oF d l.1).2.1)).2) rfl g2 g1
 have e1:(jQ (oF d l.1) (oF d l.1)).1=2*(oF d l.1).1:=by rw[htw]
 have e2:(jQ (oF d l.1) (oF d l.1)).2.1=2*(oF d l.1).2.1:=by rw[htw]
 obtain⟨s,s1,s2,s3,s4,s5⟩:=Nq (by decide) hx hy2 (m:=(kv 64 ((2*(oF d l.1).1)*(2*(oF d l.1).1)-2*(2*(oF d l.1).2.1)*(2*(oF d l.1).2.1))).1) (t:=(kv 64 ((2*(oF d l.1).1)*(2*(oF d l.1).1)-2*(2*(oF d l.1).2.1)*(2*(oF d l.1).2.1))).2) (by rw[e1,e2]) g5 (by rw[e1,e2];exact g4)
 have hw:Yz d p l=s:=by unfold Yz;rw[s1]
 refine⟨t,t1,t3.mono (by decide) (by omega), ?_, ?_, ?_⟩
 ·rw[hw];exact s1
 ·rw[hw];exact s3.mono (by decide) (by omega)
 ·intro y
  rw[hw]
  rw[e1,e2]at s4 s5
  have hN:(((oF d l.1).1*(oF d l.1).1-2*(oF d l.1).2.1*(oF d l.1).2.1:Int):Rat)≠0:=fun e=>g1 (Rat.intCast_inj.1 e)
  have hN2:(((2*(oF d l.1).1)*(2*(oF d l.1).1)-2*(2*(oF d l.1).2.1)*(2*(oF d l.1).2.1):Int):Rat)=4*(((oF d l.1).1*(oF d l.1).1-2*(oF d l.1).2.1*(oF d l.1).2.1:Int):Rat):=by
   have:(2*(oF d l.1).1)*(2*(oF d l.1).1)-2*(2*(oF d l.1).2.1)*(2*(oF d l.1).2.1)=4*((oF d l.1).1*(oF d l.1).1-2*(oF d l.1).2.1*(oF d l.1).2.1):=by grind
   rw[this,Rat.intCast_mul];rfl
  have c2:∀z:Int,((2*z:Int):Rat)=2*(z:Rat):=fun z=>by rw[Rat.intCast_mul];rfl
  rw[hN2,c2,c2]at s4 s5
  refine wd (kM _ _) (kM _ _) ?_ ?_
  ·rw[yU,yU,Vy t2.1,t4,s4]
   generalize (((oF d l.1).1*(oF d l.1).1-2*(oF d l.1).2.1*(oF d l.1).2.1:Int):Rat)=N at*
   grind
  ·rw[yV,yV,Vz t2.1,t5,s5]
   generalize (((oF d l.1).1*(oF d l.1).1-2*(oF d l.1).2.1*(oF d l.1).2.1:Int):Rat)=N at*
   grind
theorem QX{d:Int}{p:Pt}{l:Ln}(h0:0<=d)(h1:d<8)(hl0:0<=l.1)(hl1:l.1<=7)(hl:Bd 131072 10 l.2)(hp:Bd 131072 10 p.1/\Bd 131072 10 p.2)(hz:Df (oF d l.1)=false):Bd 397148160 18 (M8 d p l).2:=by
 obtain⟨t,_,_,_,hw,_⟩:=OD h0 h1 hl0 hl1 hl hp hz
 have:=lG (qT (V:=1) (by decide) (gv (d:=d+4) (by omega) (by omega)) hp) hw
 exact this.mono (by decide) (by decide)
theorem IW{d:Int}{p:Pt}{l:Ln}(h0:0<=d)(h1:d<8)(hl0:0<=l.1)(hl1:l.1<=7)(hl:Bd 131072 10 l.2)(hp:Bd 131072 10 p.1/\Bd 131072 10 p.2):
 jY d p l=some (O5 d p l)/\ky d p l=some (O5 d p l):=by
 have hd0:0<=d+4:=by omega
 have hd1:d+4<16:=by omega
 have hl4:0<=l.1+4:=by omega
 have hl5:l.1+4<16:=by omega
 have hwd:IntKind.wrap .i64 (d+4)=d+4:=aM (by omega) (by omega)
 have hwl:IntKind.wrap .i64 (l.1+4)=l.1+4:=aM (by omega) (by omega)
 have dby:=Ak (d:=l.1+4) hl4 hl5 (by decide) (by decide) (gv hd0 hd1) (by decide)
 have dp:=Ak (d:=l.1+4) hl4 hl5 (by decide) (by decide) hp (by decide)
 have dpd:=Ak (d:=d+4) hd0 hd1 (by decide) (by decide) hp (by decide)
 have hdl:=qT (V:=1) (by decide) (gv hl4 hl5) hp
 have sr:=ri hl hdl (by decide) (by decide) (by decide) (by decide) (by decide)
 have hr:=VU hl0 hl1 hl hp
 have hsq:=EM (d:=d+4) hd0 hd1
 have mr:=lP hr hsq (by decide) (by decide) (by decide) (by decide)
 have hx:=eY (by decide) hr hsq
 have hy:=YX h0 h1 hl0 (by omega:l.1<8)
 have ay:=ux hy hy (by decide) (by decide) (by decide) (by decide) (by decide)
 have hy2:Bd 12 0 (jQ (oF d l.1) (oF d l.1)):=lG hy hy
 have dv1:=F8 hx hy (by decide) (by decide) (by decide) (by decide) (by decide) (by decide)
 have dv2:=F8 hx hy2 (by decide) (by decide) (by decide) (by decide) (by decide) (by decide)
 have hbyc:(oF d l.1).can:=kM _ _
 have hrc:(th p l).can:=Wa _ _
 have hdpb:=qT (V:=1) (by decide) (gv hd0 hd1) hp
 constructor
 ·rw[jY,tH,hwd,hwl,(uJ hd0 hd1).1]
  simp only[Option.bind_some,bj,dH,bY,cV]
  have dby1:dc (l.1+4) ((fo (d+4)).1,(fo (d+4)).2)=some (oF d l.1):=dby.1
  rw[dby1,Option.bind_some,dp.1,Option.bind_some,sr.1,Option.bind_some,QL,Option.bind_some]
  unfold O5
  show cond (Df (oF d l.1)) _ _=_
  cases hz:Df (oF d l.1)
  ·obtain⟨t,w1,w2,w3,w4,w5⟩:=OD h0 h1 hl0 hl1 hl hp hz
   have hb:=Ci (by decide) w2
   have aa:=(ux hdpb hb (by decide) (by decide) (by decide) (by decide) (by decide)).1
   rw[w1]at dv1
   rw[cond_false,cond_false,W8 hd0 hd1,Option.bind_some]
   have mr1:cJ (qM l.2 (oG (fo (l.1+4)) p)) (UZ (d+4))=_:=mr.1
   rw[mr1,Option.bind_some,dv1.1,Option.bind_some,dpd.1,Option.bind_some]
   simp only
   rw[MX t w2.1 (by have:=w2.2.1;omega),Option.bind_some,aa,Option.bind_some,w5]
   rfl
  ·rw[cond_true,cond_true,QL,Option.bind_some]
   show cond (Df (th p l)) _ _=_
   cases Df (th p l)<;>rfl
 ·rw[ky,rF,hwd,(uJ hd0 hd1).2,ca,dF]
  simp only[Option.bind_some]
  rw[hwl,(uJ hl4 hl5).2]
  simp only[Option.bind_some]
  have dby2:cG (fo (l.1+4)) (fo (d+4))=some (oF d l.1):=dby.2
  have sr2:cq l.2 (oG (fo (l.1+4)) p)=some (th p l):=sr.2
  rw[dby2,Option.bind_some,dp.2,Option.bind_some,sr2,Option.bind_some,RY hbyc,RY hrc]
  unfold O5
  show cond (Df (oF d l.1)) (cond (Df (th p l)) _ _) _=_
  cases hz:Df (oF d l.1)
  ·obtain⟨t,w1,w2,w3,w4,w5⟩:=OD h0 h1 hl0 hl1 hl hp hz
   have aa:=(ux hdpb w4 (by decide) (by decide) (by decide) (by decide) (by decide)).2
   rw[w3]at dv2
   rw[cond_false,cond_false,WS hd0 hd1,Option.bind_some,mr.2,Option.bind_some,ay.2,Option.bind_some,dv2.2,Option.bind_some]
   simp only[Bool.not_true,cond_false]
   rw[dpd.2,Option.bind_some,aa,Option.bind_some]
   rfl
  ·rw[cond_true,cond_true]
   cases Df (th p l)<;>rfl
theorem jk{l:Ln}(h:lY l=true):0<=l.1/\l.1<=7/\Bd 131072 10 l.2/\l.2.can:=by
 simp only[lY,Bool.and_eq_true,decide_eq_true_eq]at h
 exact⟨h.1.1,h.1.2,RZ h.2,aay h.2⟩
def Qs(p:Pt)(l m:Ln):Ln×Int:=
 cond (ny p&&(lY l&&lY m)) (cond (decide (l.1=m.1)) ((0,(0,(0,0))),7) (S4 (M8 ((m.1+4)%8) p l))) ((0,(0,(0,0))),1)
theorem WE:((List.range 8).all fun a=>(List.range 8).all fun m=>decide (a=m)|| !Df (oF (((m:Int)+4)%8) (a:Int)))=true:=by decide+kernel
theorem Th{l m:Int}(h0:0<=l)(h1:l<=7)(h2:0<=m)(h3:m<=7)(hne:l≠m):Df (oF ((m+4)%8) l)=false:=by
 have h:=List.all_eq_true.1 (List.all_eq_true.1 WE l.toNat (by simp;omega)) m.toNat (by simp;omega)
 rw[Int.toNat_of_nonneg h0,Int.toNat_of_nonneg h2]at h
 simp only[Bool.or_eq_true,decide_eq_true_eq,Bool.not_eq_true']at h
 exact h.resolve_left (fun e=>hne (by omega))
theorem V5(p:Pt)(l m:Ln):jW p l m=some (Qs p l m):=by
 rw[jW,pz,fk,fE,fE]
 unfold Qs
 simp only[Option.bind_some]
 cases hp:ny p
 ·rfl
 cases hl:lY l
 ·rfl
 cases hm:lY m
 ·rfl
 have bp:=iQ hp
 obtain⟨l0,l1,lb,lc⟩:=jk hl
 obtain⟨m0,m1,mb,mc⟩:=jk hm
 simp only[Bool.not_true,cond_false,Bool.and_self,cond_true,bj,dH,bP,fm,bY,cV,Option.bind_some]
 rw[show(l.1==m.1)=decide (l.1=m.1)from rfl]
 by_cases hd:l.1=m.1
 ·rw[aT hd];rfl
 ·rw[aW hd,cond_false,cond_false,aM (n:=m.1+4) (by omega) (by omega),Int.tmod_eq_emod_of_nonneg (by omega)]
  have hz:=Th l0 l1 m0 m1 hd
  have mv:=(IW (d:=(m.1+4)%8) (by omega) (by omega) l0 l1 lb bp).1
  unfold O5 at mv
  rw[hz,cond_false]at mv
  have mv:jY ((m.1+4)%8) (p.1,p.2) (l.1,l.2)=_:=mv
  rw[mv,Option.bind_some]
  have hb:=QX (d:=(m.1+4)%8) (by omega) (by omega) l0 l1 lb bp hz
  have hi:=BY hb (by decide) (by decide)
  have so:=Sx (l:=M8 ((m.1+4)%8) p l) (kM _ _) (by have:=hb.2.1;omega) hi.1 hi.2
  simp only
  rw[so]
  rfl
theorem VC(p:Pt)(l m:Ln):jT p l m=some (Qs p l m):=by
 rw[jT,pp,fD,eS,eS]
 unfold Qs
 simp only[Option.bind_some]
 cases hp:ny p
 ·rfl
 cases hl:lY l
 ·rfl
 cases hm:lY m
 ·rfl
 have bp:=iQ hp
 obtain⟨l0,l1,lb,lc⟩:=jk hl
 obtain⟨m0,m1,mb,mc⟩:=jk hm
 simp only[Bool.not_true,cond_false,Bool.and_self,cond_true]
 rw[show(l.1==m.1)=decide (l.1=m.1)from rfl]
 by_cases hd:l.1=m.1
 ·rw[aT hd];rfl
 ·rw[aW hd,cond_false,cond_false,aM (n:=m.1+4) (by omega) (by omega),Int.tmod_eq_emod_of_nonneg (by omega)]
  have hz:=Th l0 l1 m0 m1 hd
  have mv:=(IW (d:=(m.1+4)%8) (by omega) (by omega) l0 l1 lb bp).2
  unfold O5 at mv
  rw[hz,cond_false]at mv
  rw[mv,Option.bind_some]
  have ir:=Rm (l:=M8 ((m.1+4)%8) p l) (by show 0<=(m.1+4)%8;omega) (by show(m.1+4)%8<=7;omega)
  simp only
  rw[show((1:Int)==1)=true from rfl,ir]
  rfl
def LI(l:Ln)(p:Pt):Ln×Int:=cond (lY l&&ny p) (S4 (Ah p ((l.1+4)%8))) ((0,(0,(0,0))),1)
theorem Tb(l:Ln)(p:Pt):eG l p=some (LI l p):=by
 rw[eG,iX,fE,fk]
 unfold LI
 simp only[Option.bind_some]
 cases hl:lY l
 ·rfl
 ·cases hp:ny p
  ·rfl
  ·have hd:=XB hl
   have hb:=iQ hp
   simp only[Bool.not_true,cond_false,Bool.and_self,cond_true,bj,dH,bY,cV,Option.bind_some]
   rw[aM (n:=l.1+4) (by omega) (by omega)]
   have ht:=yK (V:=131072) (κ:=10) (d:=l.1+4) (p:=p) (by omega) (by omega) (by decide) (by decide) hb (by decide)
   have ht:dC (p.1,p.2) (l.1+4)=_:=ht
   rw[ht]
   have hdb:=qT (V:=1) (by decide) (gv (d:=(l.1+4)%8+4) (by omega) (by omega)) hb
   have hi:=BY hdb (by decide) (by decide)
   simp only[Option.bind_some]
   rw[Sx (l:=Ah p ((l.1+4)%8)) (kM _ _) (by have:=hdb.2.1;exact Int.le_trans this (by decide)) hi.1 hi.2]
   rfl
theorem ST(l:Ln)(p:Pt):eF l p=some (LI l p):=by
 rw[eF,iW,eS,fD]
 unfold LI
 simp only[Option.bind_some]
 cases hl:lY l
 ·rfl
 ·cases hp:ny p
  ·rfl
  ·have hd:=XB hl
   have hb:=iQ hp
   simp only[Bool.not_true,cond_false,Bool.and_self,cond_true]
   rw[aM (n:=l.1+4) (by omega) (by omega),Int.tmod_eq_emod_of_nonneg (by omega)]
   rw[yr (V:=131072) (κ:=10) (d:=(l.1+4)%8) (p:=p) (by omega) (by omega) (by decide) (by decide) hb (by decide)]
   simp only[Option.bind_some]
   rw[Rm (l:=Ah p ((l.1+4)%8)) (by show 0<=(l.1+4)%8;omega) (by show(l.1+4)%8<=7;omega)]
   rfl
noncomputable def acM(k:Int):Ln:=(k,(k+1,(k+1+1,k+1+1+1)))
noncomputable def Zu:Int->Nat->List Ln
 |_,0=>[]
 |k,n+1=>acM k::Zu (k+1+1+1+1) n
theorem UD:∀(n:Nat) (k:Int),(Zu k n).length=n
 |0,_=>rfl
 |n+1,k=>by simp[Zu,UD n]
theorem w1{k:Int}(h0:0<=k)(h1:k<=1000000):IntKind.wrap .i64 (k+1)=k+1:=aM (by omega) (by omega)
theorem sm{α:Type}(q s:List α)(y v:α):List.set (q++y::s) (0+Int.toNat ((q.length:Nat):Int)) v=q++v::s:=by
 rw[UU rfl,List.append_assoc];rfl
theorem im{α:Type}(q s:List α)(y:α):fY (q++y::s) ((q.length:Nat):Int)=some y:=ix rfl
def X7(l:Ln):Prop:=l.2.can/\l.2.2.2<=1000/\Hm l.2.1/\Hm l.2.2.1
def Nf(l:List Ln):List Ln×Int:=cond (l.all fun x=>Aa x.2) (l,0) ([],2)
theorem Yr{l:Ln}(h:X7 l):iP l=some (cond (Aa l.2) (l,true) ((0,(0,(0,0))),false)):=by
 rw[iP,ot,W2 h.1 h.2.1 h.2.2.1 h.2.2.2,Option.bind_some]
 cases Aa l.2<;>rfl
theorem MV(l:List Ln)(hl:l.length<=1000)(hf:∀x,x∈l->X7 x):∀(r p:List Ln),l=p++r->
 (oV (vW l p ((p.length:Nat):Int))).bind (pD hY (fun e=>some (((e.1.1.1:List Ln),(e.1.2.1.1:Int)):List Ln×Int),fun e=>some ((e.1.2.2.1.1:List Ln),0),()))=
   some (cond (r.all fun x=>Aa x.2) (l,0) ([],2))
 |[],p,h=>by
  rw[ur,ja,sk h,cond_false]
  rw[List.append_nil]at h
  subst h;rfl
 |x::r,p,h=>by
  have hx:=Yr (hf x (by rw[h];simp))
  have hlen:p.length+(r.length+1)<=1000:=by rw[h]at hl;simpa using hl
  rw[ur,ja,yd h,cond_true,ix h]
  simp only[Option.bind_some,hx]
  rw[List.all_cons]
  cases hok:Aa x.2
  ·rfl
  ·simp only[cond_true,Bool.not_true,cond_false,Bool.true_and,List.length_singleton]
   rw[aT (show(p.length+1)*32<=70368744177664 by omega),aT (show p.length+1<=70368744177664 by omega),cond_true,cond_true,wr h (by omega)]
   exact MV l hl hf r (p++ [x]) (Wn h)
theorem QK(l:List Ln)(hl:l.length<=1000)(hf:∀x,x∈l->X7 x):fq l=some (Nf l):=by
 have h:=MV l hl hf l [] rfl
 rw[fq,sf]
 exact h
theorem abd(a b:Int):kp a b=some (if a<b then -1 else if a>b then 1 else 0):=by
 rw[kp,mX,jS,mp,jS,mp]
 simp only[bne_self_eq_false,Option.bind_some,cond_false]
 by_cases h:a<b
 ·rw[aT h,cond_true,if_pos h]
 ·rw[aW h,cond_false,if_neg h]
  by_cases h':a>b
  ·rw[aT h',cond_true,if_pos h']
  ·rw[aW h',cond_false,if_neg h']
theorem abe{x y:Nm}(hx:Aa x=true)(hy:Aa y=true):∃c,ld x y=some c:=by
 have bx:=RZ hx
 have by':=RZ hy
 have s:=ri bx by' (by decide) (by decide) (by decide) (by decide) (by decide)
 have hb:=(zk bx by').pow_le (by decide)
 have e:((131072+131072:Int))*2^(max 10 10)=268435456:=by decide
 rw[e]at hb
 rw[ld,oc,s.2,Option.bind_some,(UW (by omega) (by omega) (by omega) (by omega)).2]
 exact⟨_,rfl⟩
theorem aaS{x y:Ln}(hx:Aa x.2=true)(hy:Aa y.2=true)(hd:x.1≠y.1):jz x y=some (if x.1<y.1 then -1 else 1):=by
 obtain⟨c,hc⟩:=abe hx hy
 rw[jz,lV,abd,Option.bind_some,hc,Option.bind_some,xc,xG,Qq,qL]
 by_cases h:x.1<y.1
 ·simp only[if_pos h];rfl
 ·have h':x.1>y.1:=by omega
  simp only[if_neg h,if_pos h'];rfl
def Pf:List Ln->Prop
 |[]=>True
 |[_]=>True
 |x::y::r=>x.1<y.1/\Pf (y::r)
theorem VV:∀(l:List Ln) (i:Nat) (x y:Ln),Pf l->l[i]?=some x->l[i+1]?=some y->x.1<y.1
 |[],i,x,y,_,h,_=>by simp at h
 |[a],i,x,y,_,_,h=>by simp at h
 |a::b::r,0,x,y,hr,h,h'=>by
  simp at h h'
  subst h;subst h'
  exact hr.1
 |a::b::r,i+1,x,y,hr,h,h'=>VV (b::r) i x y hr.2 (by simpa using h) (by simpa using h')
theorem Ss(l:List Ln)(hl:l.length<=12)(hv:∀x,x∈l->Aa x.2=true)(hr:Pf l):∀(n i:Nat),i+n=l.length->1<=i->
 ar (aI l 0 ((l.length:Nat):Int) ((i:Nat):Int) l)=
  some (.inl (cI l))
 |0,i,h,hi=>by
  rw[bu,aq,aW (by omega),cond_false];rfl
 |n+1,i,h,hi=>by
  have IH:=Ss l hl hv hr n (i+1) (by omega) (by omega)
  have hx:l[i]?=some l[i]:=List.getElem?_eq_getElem (by omega)
  have hy:l[i-1]?=some l[i-1]:=List.getElem?_eq_getElem (by omega)
  have hlt:=VV l (i-1) l[i-1] l[i] hr hy (by rw[show i-1+1=i by omega];exact hx)
  rw[bu,aq,aT (by omega),cond_true,
   cN,aJ,aT (by omega),cond_true,xi,hx,Option.bind_some,
   aM (n:=((i:Nat):Int)-1) (by omega) (by omega),show((i:Nat):Int)-1=((i-1:Nat):Int) by omega,xi,hy,Option.bind_some,
   aaS (hv _ (List.mem_of_getElem? hx)) (hv _ (List.mem_of_getElem? hy)) (by omega),Option.bind_some,if_neg (by omega)]
  show(some _).bind _=_
  rw[Option.bind_some]
  show ar (aI l 0 ((l.length:Nat):Int) (IntKind.wrap .i64 (((i:Nat):Int)+1)) l)=_
  rw[aM (n:=((i:Nat):Int)+1) (by omega) (by omega)]
  exact IH
theorem aaq{n:Int}(h0:0<=n)(h1:n<=12):∃y,rr (IntKind.wrap .u64 n)=some y:=by
 have:n=0\/n=1\/n=2\/n=3\/n=4\/n=5\/n=6\/n=7\/n=8\/n=9\/n=10\/n=11\/n=12:=by omega
 rcases this with rfl|rfl|rfl|rfl|rfl|rfl|rfl|rfl|rfl|rfl|rfl|rfl|rfl
 ·exact⟨0,by kernel_rfl⟩
 ·exact⟨1,by kernel_rfl⟩
 ·exact⟨2,by kernel_rfl⟩
 ·exact⟨2,by kernel_rfl⟩
 ·exact⟨3,by kernel_rfl⟩
 ·exact⟨3,by kernel_rfl⟩
 ·exact⟨3,by kernel_rfl⟩
 ·exact⟨3,by kernel_rfl⟩
 ·exact⟨4,by kernel_rfl⟩
 ·exact⟨4,by kernel_rfl⟩
 ·exact⟨4,by kernel_rfl⟩
 ·exact⟨4,by kernel_rfl⟩
 ·exact⟨4,by kernel_rfl⟩
theorem ZN(l s:List Ln)(hl:l.length<=12)
 (h:ar (aI l 0 ((l.length:Nat):Int) 1 l)=some (.inl (cI s))):
 bd l=some s:=by
 obtain⟨y,hy⟩:=aaq (n:=((l.length:Nat):Int)) (by omega) (by omega)
 have hi:aY l 0 ((l.length:Nat):Int)=some s:=by
  rw[aY,bF,aM (n:=(0:Int)+1) (by decide) (by decide)]
  have h':ar (aI l 0 ((l.length:Nat):Int) (0+1) l)=_:=h
  rw[h'];rfl
 rw[bd,bI,hy,Option.bind_some]
 simp only[decide_true,cond_true]
 rw[bR,bS,lX,bi,
  aM (n:=((l.length:Nat):Int)-0) (by omega) (by omega),aT (by omega),hi]
 simp only[decide_true,cond_true,Option.bind_some]
 rfl
theorem OP(l:List Ln)(hl:l.length<=1000):aU l=some (!(l.all fun x=>lY x)):=by
 have loop:∀(r p:List Ln),l=p++r->(aP (bv l ((l.length:Nat):Int) ((p.length:Nat):Int))).bind
  (pD au (fun e=>some (decide ((e.1.1.1:Int)>=0)),fun _=>some (decide ((-1:Int)>=0)),()))=some (!(r.all fun x=>lY x)):=by
  intro r
  induction r with
  |nil=>
   intro p h
   rw[ep,aN,sk h,cond_false];rfl
  |cons x r ih=>
   intro p h
   rw[ep,aN,yd h,cond_true,ix h,Option.bind_some,lM,lU,eS,
    Option.bind_some,Option.bind_some,List.all_cons]
   cases lY x
   ·show some (decide (((p.length:Nat):Int)>=0))=_
    rw[aT (by omega)];rfl
   ·simp only[Bool.not_true,cond_false,Bool.true_and]
    rw[wr h (by omega)]
    exact ih (p++ [x]) (Wn h)
 have h:=loop l [] rfl
 rw[aU,bo,bA,bD]
 refine Eq.trans ?_ h
 cases aP (bv l ((l.length:Nat):Int) 0)with
 |none=>rfl
 |some z=>
  match z with
  | .inl z=>rfl
  | .inr (.inl z)=>rfl
theorem BC(l:List Ln)(hl:l.length<=12)(hd:∀x,x∈l->0<=x.1/\x.1<=7)(hr:Pf l):cK l=some (Nf l):=by
 have e:(l.all fun x=>lY x)=(l.all fun x=>Aa x.2):=by
  rw[Bool.eq_iff_iff,List.all_eq_true,List.all_eq_true]
  constructor
  ·intro h x hx
   have:=h x hx
   simp only[lY,Bool.and_eq_true]at this
   exact this.2
  ·intro h x hx
   have:=hd x hx
   simp only[lY,Bool.and_eq_true,decide_eq_true_eq]
   exact⟨⟨this.1,this.2⟩,h x hx⟩
 rw[cK,lA,OP l (by omega),Option.bind_some,e]
 unfold Nf
 cases hv:l.all fun x=>Aa x.2
 ·rfl
 ·simp only[Bool.not_true,cond_false,decide_true,cond_true]
  have hv':∀x,x∈l->Aa x.2=true:=fun x hx=>List.all_eq_true.1 hv x hx
  rw[ZN l l hl ?_]
  ·rfl
  ·cases hc:l.length with
   |zero=>
    have:l=[]:=List.length_eq_zero_iff.1 hc
    subst this
    rw[bu,aq,aW (by decide),cond_false];rfl
   |succ n=>
    have:=Ss l hl hv' hr n 1 (by omega) (by omega)
    rw[hc]at this
    exact this
theorem UR(x y:Ln)(hx:0<=x.1/\x.1<=7)(hy:0<=y.1/\y.1<=7)(h:y.1<x.1):cK [x,y]=some (Nf [y,x]):=by
 have e:([x,y].all fun x=>lY x)=([y,x].all fun x=>Aa x.2):=by
  simp only[List.all_cons,List.all_nil,Bool.and_true,lY,aT hx.1,aT hx.2,aT hy.1,aT hy.2,Bool.true_and,Bool.and_self]
  exact Bool.and_comm _ _
 rw[cK,lA,OP [x,y] (by simp),Option.bind_some,e]
 unfold Nf
 cases hv: [y,x].all fun x=>Aa x.2
 ·rfl
 ·simp only[Bool.not_true,cond_false,decide_true,cond_true]
  have hv':∀z,z∈ [y,x]->Aa z.2=true:=fun z hz=>List.all_eq_true.1 hv z hz
  have hvx:=hv' x (by simp)
  have hvy:=hv' y (by simp)
  rw[ZN [x,y] [y,x] (by simp) ?_]
  ·rfl
  ·rw[bu,aq,aT (by simp),cond_true,
    cN,aJ,aT (by decide),cond_true,
    show fY [x,y] (1:Int)=some y from rfl,Option.bind_some,aM (n:=(1:Int)-1) (by decide) (by decide),show fY [x,y] ((1:Int)-1)=some x from rfl,Option.bind_some,
    aaS hvy hvx (by omega),Option.bind_some,if_pos h,aT (by decide),cond_true,Option.bind_some,Option.bind_some,Option.bind_some,
    show fY (List.set [x,y] (0+Int.toNat 1) x) ((1:Int)-1)=some x from rfl,Option.bind_some,
    cN,aJ,aW (by decide),cond_false]
   show(some _).bind _=_
   rw[Option.bind_some]
   show ar (aI [y,x] 0 2 (IntKind.wrap .i64 (1+1)) [y,x])=_
   rw[aM (n:=(1:Int)+1) (by decide) (by decide),bu,aq,aW (by decide),cond_false];rfl
theorem Dp(l:List Ln)(h:l.length<=12):(Nf l).1.length<=1000:=by
 unfold Nf
 cases l.all fun x=>Aa x.2
 ·exact Nat.zero_le _
 ·exact Nat.le_trans h (by decide)
def abf(v w:Pt):Nm:=qM (sn v.1 w.2) (sn v.2 w.1)
def Vn(a b:Int):Nm:=abf (fo (a+4)) (fo (b+4))
def Qw(y:Nm):Bool:=
 decide (y.1*y.1-2*y.2.1*y.2.1≠0)&&(decide ((kv 64 (y.1*y.1-2*y.2.1*y.2.1)).1=1)||decide ((kv 64 (y.1*y.1-2*y.2.1*y.2.1)).1= -1))&&decide ((kv 64 (y.1*y.1-2*y.2.1*y.2.1)).2<=8)
theorem aaf:((List.range 8).all fun a=>(List.range 8).all fun b=>decide (a=b)||Qw (Vn (a:Int) (b:Int)))=true:=by decide+kernel
theorem Vo{a b:Int}(h0:0<=a)(h1:a<=7)(h2:0<=b)(h3:b<=7)(hne:a≠b){P:Prop}(_hp:P):Qw (Vn a b)=true:=by
 have h:=List.all_eq_true.1 (List.all_eq_true.1 aaf a.toNat (by simp;omega)) b.toNat (by simp;omega)
 rw[Int.toNat_of_nonneg h0,Int.toNat_of_nonneg h2]at h
 simp only[Bool.or_eq_true,decide_eq_true_eq]at h
 rcases h with h|h
 ·omega
 ·exact h
theorem WI{a b:Int}(h0:0<=a)(h1:a<=7)(h2:0<=b)(h3:b<=7):Bd 6 0 (Vn a b):=by
 obtain⟨v1,v2⟩:=gv (d:=a+4) (by omega) (by omega)
 obtain⟨w1,w2⟩:=gv (d:=b+4) (by omega) (by omega)
 exact zk (eY (by decide) v1 w2) (eY (by decide) v2 w1)
def Xv(l m:Ln):Nm:=qM (sn l.2 (fo (m.1+4)).2) (sn m.2 (fo (l.1+4)).2)
def Xw(l m:Ln):Nm:=qM (sn m.2 (fo (l.1+4)).1) (sn l.2 (fo (m.1+4)).1)
def nl(l m:Ln):Pt:=((I6 (Xv l m) (Vn l.1 m.1)).1,(I6 (Xw l m) (Vn l.1 m.1)).1)
theorem RG{l m:Ln}(hl:lY l=true)(hm:lY m=true):Bd 786432 10 (Xv l m)/\Bd 786432 10 (Xw l m):=by
 obtain⟨l0,l1,lb,_⟩:=jk hl
 obtain⟨m0,m1,mb,_⟩:=jk hm
 obtain⟨v1,v2⟩:=gv (d:=l.1+4) (by omega) (by omega)
 obtain⟨w1,w2⟩:=gv (d:=m.1+4) (by omega) (by omega)
 exact⟨zk (eY (by decide) lb w2) (eY (by decide) mb v2),zk (eY (by decide) mb v1) (eY (by decide) lb w1)⟩
theorem QG{x y:Nm}(hx:Bd 786432 10 x)(hy:Bd 6 0 y)(hg:Qw y=true):I6 x y=((I6 x y).1,true)/\Bd 14155776 18 (I6 x y).1:=by
 simp only[Qw,Bool.and_eq_true,Bool.or_eq_true,decide_eq_true_eq]at hg
 obtain⟨⟨g1,g2⟩,g3⟩:=hg
 obtain⟨t,t1,t2,t3,_,_⟩:=Nq (by decide) hx hy (m:=(kv 64 (y.1*y.1-2*y.2.1*y.2.1)).1) (t:=(kv 64 (y.1*y.1-2*y.2.1*y.2.1)).2) rfl g2 g1
 rw[t1]
 exact⟨rfl,t3.mono (by decide) (by omega)⟩
theorem RF{l m:Ln}(hl:lY l=true)(hm:lY m=true)(hne:l.1≠m.1){P:Prop}(hp:P):Bd 14155776 18 (nl l m).1/\Bd 14155776 18 (nl l m).2:=by
 obtain⟨l0,l1,_,_⟩:=jk hl
 obtain⟨m0,m1,_,_⟩:=jk hm
 have hg:=Vo l0 l1 m0 m1 hne hp
 have hd:=WI l0 l1 m0 m1
 have hb:=RG hl hm
 exact⟨(QG hb.1 hd hg).2,(QG hb.2 hd hg).2⟩
theorem V3{l m:Ln}(hl:lY l=true)(hm:lY m=true)(_hne:l.1≠m.1){P:Prop}(_hp:P):lN l m=some (nl l m):=by
 obtain⟨l0,l1,lb,_⟩:=jk hl
 obtain⟨m0,m1,mb,_⟩:=jk hm
 obtain⟨v1,v2⟩:=gv (d:=l.1+4) (by omega) (by omega)
 obtain⟨w1,w2⟩:=gv (d:=m.1+4) (by omega) (by omega)
 have hd:=WI l0 l1 m0 m1
 have hb:=RG hl hm
 have a1:=(lP v1 w2 (by decide) (by decide) (by decide) (by decide)).1
 have a2:=(lP v2 w1 (by decide) (by decide) (by decide) (by decide)).1
 have a3:=(ri (eY (by decide) v1 w2) (eY (by decide) v2 w1) (by decide) (by decide) (by decide) (by decide) (by decide)).1
 have b1:=(lP lb w2 (by decide) (by decide) (by decide) (by decide)).1
 have b2:=(lP mb v2 (by decide) (by decide) (by decide) (by decide)).1
 have b3:=(ri (eY (by decide) lb w2) (eY (by decide) mb v2) (by decide) (by decide) (by decide) (by decide) (by decide)).1
 have c1:=(lP mb v1 (by decide) (by decide) (by decide) (by decide)).1
 have c2:=(lP lb w1 (by decide) (by decide) (by decide) (by decide)).1
 have c3:=(ri (eY (by decide) mb v1) (eY (by decide) lb w1) (by decide) (by decide) (by decide) (by decide) (by decide)).1
 have d1:=(F8 hb.1 hd (by decide) (by decide) (by decide) (by decide) (by decide) (by decide)).1
 have d2:=(F8 hb.2 hd (by decide) (by decide) (by decide) (by decide) (by decide) (by decide)).1
 unfold Xv Vn abf at d1
 unfold Xw Vn abf at d2
 rw[lN,tD,aM (n:=l.1+4) (by omega) (by omega),aM (n:=m.1+4) (by omega) (by omega),(uJ (d:=l.1+4) (by omega) (by omega)).1,(uJ (d:=m.1+4) (by omega) (by omega)).1]
 simp only[Option.bind_some,bj,dH,bY,cV]
 rw[a1,Option.bind_some,a2,Option.bind_some,a3,Option.bind_some,b1,Option.bind_some,b2,Option.bind_some,b3,Option.bind_some,d1,Option.bind_some,c1,Option.bind_some,c2,Option.bind_some,c3,Option.bind_some,d2,Option.bind_some]
 rfl
theorem VB{l m:Ln}(hl:lY l=true)(hm:lY m=true)(hne:l.1≠m.1){P:Prop}(hp:P):kZ l m=some (nl l m,true):=by
 obtain⟨l0,l1,lb,_⟩:=jk hl
 obtain⟨m0,m1,mb,_⟩:=jk hm
 obtain⟨v1,v2⟩:=gv (d:=l.1+4) (by omega) (by omega)
 obtain⟨w1,w2⟩:=gv (d:=m.1+4) (by omega) (by omega)
 have hd:=WI l0 l1 m0 m1
 have hg:=Vo l0 l1 m0 m1 hne hp
 have hb:=RG hl hm
 have a1:=(lP v1 w2 (by decide) (by decide) (by decide) (by decide)).2
 have a2:=(lP v2 w1 (by decide) (by decide) (by decide) (by decide)).2
 have a3:=(ri (eY (by decide) v1 w2) (eY (by decide) v2 w1) (by decide) (by decide) (by decide) (by decide) (by decide)).2
 have b1:=(lP lb w2 (by decide) (by decide) (by decide) (by decide)).2
 have b2:=(lP mb v2 (by decide) (by decide) (by decide) (by decide)).2
 have b3:=(ri (eY (by decide) lb w2) (eY (by decide) mb v2) (by decide) (by decide) (by decide) (by decide) (by decide)).2
 have c1:=(lP mb v1 (by decide) (by decide) (by decide) (by decide)).2
 have c2:=(lP lb w1 (by decide) (by decide) (by decide) (by decide)).2
 have c3:=(ri (eY (by decide) mb v1) (eY (by decide) lb w1) (by decide) (by decide) (by decide) (by decide) (by decide)).2
 have q1:=(QG hb.1 hd hg).1
 have q2:=(QG hb.2 hd hg).1
 have d1:=(F8 hb.1 hd (by decide) (by decide) (by decide) (by decide) (by decide) (by decide)).2
 have d2:=(F8 hb.2 hd (by decide) (by decide) (by decide) (by decide) (by decide) (by decide)).2
 rw[q1]at d1
 rw[q2]at d2
 have a3':cq (sn (fo (l.1+4)).1 (fo (m.1+4)).2) (sn (fo (l.1+4)).2 (fo (m.1+4)).1)=some (Vn l.1 m.1):=a3
 have b3':cq (sn l.2 (fo (m.1+4)).2) (sn m.2 (fo (l.1+4)).2)=some (Xv l m):=b3
 have c3':cq (sn m.2 (fo (l.1+4)).1) (sn l.2 (fo (m.1+4)).1)=some (Xw l m):=c3
 rw[kZ,qo,ca,dF,ca,dF]
 try simp only
 rw[aM (n:=l.1+4) (by omega) (by omega),aM (n:=m.1+4) (by omega) (by omega),(uJ (d:=l.1+4) (by omega) (by omega)).2,(uJ (d:=m.1+4) (by omega) (by omega)).2]
 simp only[Option.bind_some,gC,lz]
 rw[a1,Option.bind_some,a2,Option.bind_some,a3',Option.bind_some,Option.bind_some,b1,Option.bind_some,b2,Option.bind_some,b3',Option.bind_some,d1,Option.bind_some,c1,Option.bind_some,c2,Option.bind_some,c3',Option.bind_some,d2,Option.bind_some]
 rfl
theorem abg(a b:Ln):((a.1==b.1)&&(((a.2.1==b.2.1)&&((a.2.2.1==b.2.2.1)&&((a.2.2.2==b.2.2.2)&&true)))&&true))=decide (a=b):=by
 obtain⟨a1,a2,a3,a4⟩:=a
 obtain⟨b1,b2,b3,b4⟩:=b
 rw[Bool.eq_iff_iff]
 simp only[Bool.and_eq_true,beq_iff_eq,decide_eq_true_eq,Prod.mk.injEq,and_true]
def HC(l m:Ln):Ln:=(l.1,low ((jQ l.2 m.2).2.2.toNat+1) (jQ l.2 m.2).1 (jQ l.2 m.2).2.1)
def Wf(l m:Ln):List Ln:=cond (decide ((l.1+m.1)/2<=3)) [Ah (nl l m) ((l.1+m.1)/2),Ah (nl l m) ((l.1+m.1)/2+4)] [Ah (nl l m) ((l.1+m.1)/2-4),Ah (nl l m) ((l.1+m.1)/2)]
def ND(l m:Ln):List Ln×Int:=
 cond (lY l&&lY m) (cond (decide (l=m)) ([],7) (cond (decide (l.1=m.1)) (Nf [HC l m]) (cond (decide ((l.1+m.1)%2=0)) (Nf (Wf l m)) ([],0)))) ([],1)
theorem QC{p:Pt}(hp:Bd 14155776 18 p.1/\Bd 14155776 18 p.2){d:Int}(h0:0<=d)(h1:d<8):X7 (Ah p d):=by
 have hb:=qT (V:=1) (by decide) (gv (d:=d+4) (by omega) (by omega)) hp
 have hi:=BY hb (by decide) (by decide)
 exact⟨kM _ _,by have:=hb.2.1;exact Int.le_trans this (by decide),hi.1,hi.2⟩
theorem aaC(x:Ln):lL [] x=some [x]:=by
 rw[lL,sg,yO,kB]
 rfl
theorem aaD(x y:Ln)(hne:x.1≠y.1):lL [x] y=some (cond (decide (x.1>y.1)) [y,x] [x,y]):=by
 rw[lL,sg,yO,kB,aT (by simp),cond_true,show((([x]:List Ln).length:Nat):Int)=1 from rfl,aM (n:=(1:Int)-1) (by decide) (by decide),
  show fY [x] ((1:Int)-1)=some x from rfl]
 simp only[Option.bind_some]
 by_cases h:x.1>y.1
 ·rw[aT h,cond_true,cond_true,yO,kB]
  rfl
 ·rw[aW h,cond_false,cond_false,show(x.1==y.1)=false by simpa using hne,cond_false]
  rfl
theorem UX{l m:Ln}(hl:lY l=true)(hm:lY m=true):fq [(l.1,qO (jQ l.2 m.2))]=some (Nf [HC l m]):=by
 obtain⟨l0,l1,lb,_⟩:=jk hl
 obtain⟨m0,m1,mb,_⟩:=jk hm
 have hb:=lG lb mb
 have hh:=Ci (by decide) hb
 have hi:=BY hh (by decide) (by decide)
 have hk:=hh.1
 have hk':=hh.2.1
 have lo:=I3 (a:=(qO (jQ l.2 m.2)).1) (b:=(qO (jQ l.2 m.2)).2.1) hk (Int.le_trans hk' (by decide)) hi.1 hi.2
 have e:(qO (jQ l.2 m.2)).2.2.toNat=(jQ l.2 m.2).2.2.toNat+1:=by
  have:=hb.1
  show((jQ l.2 m.2).2.2+1).toNat=_;omega
 rw[e]at lo
 have hn:eI (qO (jQ l.2 m.2))=some (cond (Aa (HC l m).2) ((HC l m).2,true) ((0,(0,0)),false)):=by
  rw[eI,pM]
  have lo':gO (qO (jQ l.2 m.2))=some (HC l m).2:=lo
  rw[lo']
  simp only[Option.bind_some,IG]
  cases Aa (HC l m).2<;>rfl
 have hx:iP (l.1,qO (jQ l.2 m.2))=some (cond (Aa (HC l m).2) (HC l m,true) ((0,(0,(0,0))),false)):=by
  rw[iP,ot,hn,Option.bind_some]
  cases Aa (HC l m).2<;>rfl
 rw[fq,sf,ur,ja,aT (by simp),cond_true,show fY [(l.1,qO (jQ l.2 m.2))] (0:Int)=some (l.1,qO (jQ l.2 m.2))from rfl,Option.bind_some,hx,Option.bind_some]
 unfold Nf
 simp only[List.all_cons,List.all_nil,Bool.and_true]
 cases Aa (HC l m).2
 ·rfl
 ·simp only[cond_true,Bool.not_true,cond_false]
  rw[aT (by simp),aT (by simp),cond_true,cond_true,aM (n:=(0:Int)+1) (by decide) (by decide),ur,ja,aW (by simp),cond_false]
  rfl
theorem abT(a:Int)(h0:0<=a):(Int.tmod a 2==1)=decide (a%2=1):=by
 rw[Int.tmod_eq_emod_of_nonneg h0];rfl
theorem Xc(l m:Ln):lj l m=some (ND l m):=by
 rw[lj,qF,fE,fE]
 unfold ND
 simp only[Option.bind_some]
 cases hl:lY l
 ·rfl
 cases hm:lY m
 ·rfl
 obtain⟨l0,l1,lb,_⟩:=jk hl
 obtain⟨m0,m1,mb,_⟩:=jk hm
 rw[abg]
 simp only[Bool.not_true,cond_false,Bool.and_self,cond_true]
 by_cases he:l=m
 ·rw[aT he];rfl
 ·rw[aW he,cond_false,cond_false]
  simp only[bP,fm,bY,cV,Option.bind_some]
  by_cases hd:l.1=m.1
  ·rw[show(l.1==m.1)=true by simpa using hd,aT hd,cond_true,cond_true]
   have hb:=lG lb mb
   rw[(ux lb mb (by decide) (by decide) (by decide) (by decide) (by decide)).1,Option.bind_some,MX _ hb.1 (Int.le_trans hb.2.1 (by decide)),Option.bind_some,List.nil_append,UX hl hm]
   rfl
  ·rw[show(l.1==m.1)=false by simpa using hd,aW hd,cond_false,cond_false,aM (n:=l.1+m.1) (by omega) (by omega),We]
   by_cases hp:(l.1+m.1)%2=0
   ·have hb:=RF hl hm hd hp
    rw[aT hp,cond_true,cond_true,V3 hl hm hd hp,Option.bind_some,Int.tdiv_eq_ediv_of_nonneg (by omega),aM (n:=(l.1+m.1)/2) (by omega) (by omega),aM (n:=(l.1+m.1)/2+4) (by omega) (by omega),
     yK (by omega) (by omega) (by decide) (by decide) hb (by decide),Option.bind_some,aaC,Option.bind_some,yK (by omega) (by omega) (by decide) (by decide) hb (by decide),Option.bind_some,
     aaD _ _ (show(l.1+m.1)/2%8≠((l.1+m.1)/2+4)%8 by omega),Option.bind_some]
    have hlist:cond (decide ((Ah (nl l m) ((l.1+m.1)/2%8)).1>(Ah (nl l m) (((l.1+m.1)/2+4)%8)).1)) [Ah (nl l m) (((l.1+m.1)/2+4)%8),Ah (nl l m) ((l.1+m.1)/2%8)] [Ah (nl l m) ((l.1+m.1)/2%8),Ah (nl l m) (((l.1+m.1)/2+4)%8)]=Wf l m:=by
     unfold Wf
     rw[show(l.1+m.1)/2%8=(l.1+m.1)/2 by omega]
     by_cases h3:(l.1+m.1)/2<=3
     ·rw[aT h3,cond_true,show((l.1+m.1)/2+4)%8=(l.1+m.1)/2+4 by omega,aW (show¬(Ah (nl l m) ((l.1+m.1)/2)).1>(Ah (nl l m) ((l.1+m.1)/2+4)).1 from(by show¬(l.1+m.1)/2>(l.1+m.1)/2+4;omega))];rfl
     ·rw[aW h3,cond_false,show((l.1+m.1)/2+4)%8=(l.1+m.1)/2-4 by omega,aT (show(Ah (nl l m) ((l.1+m.1)/2)).1>(Ah (nl l m) ((l.1+m.1)/2-4)).1 from(by show(l.1+m.1)/2>(l.1+m.1)/2-4;omega))];rfl
    rw[hlist,QK (Wf l m) (by unfold Wf;cases decide ((l.1+m.1)/2<=3)<;>simp) ?_]
    ·rfl
    ·intro x hx
     unfold Wf at hx
     by_cases h3:(l.1+m.1)/2<=3
     ·rw[aT h3,cond_true]at hx
      simp only[List.mem_cons,List.not_mem_nil,or_false]at hx
      rcases hx with rfl|rfl
      ·exact QC hb (by omega) (by omega)
      ·exact QC hb (by omega) (by omega)
     ·rw[aW h3,cond_false]at hx
      simp only[List.mem_cons,List.not_mem_nil,or_false]at hx
      rcases hx with rfl|rfl
      ·exact QC hb (by omega) (by omega)
      ·exact QC hb (by omega) (by omega)
   ·rw[aW hp,cond_false,cond_false,QK [] (by simp) (fun x hx=>(List.not_mem_nil hx).elim)]
    rfl
theorem WV(l m:Ln):kW l m=some (ND l m):=by
 rw[kW,qm,eS,eS]
 unfold ND
 simp only[Option.bind_some]
 cases hl:lY l
 ·rfl
 cases hm:lY m
 ·rfl
 obtain⟨l0,l1,lb,_⟩:=jk hl
 obtain⟨m0,m1,mb,_⟩:=jk hm
 rw[abg]
 simp only[Bool.not_true,cond_false,Bool.and_self,cond_true]
 by_cases he:l=m
 ·rw[aT he];rfl
 ·rw[aW he,cond_false,cond_false,aM (n:=l.1+m.1) (by omega) (by omega),abT _ (by omega)]
  by_cases hd:l.1=m.1
  ·rw[aW (show¬(l.1+m.1)%2=1 by omega),cond_false,show(l.1==m.1)=true by simpa using hd,aT hd,cond_true,cond_true]
   have hb:=lG lb mb
   rw[(ux lb mb (by decide) (by decide) (by decide) (by decide) (by decide)).2,Option.bind_some,HE hb (by decide) (by decide) (by decide),Option.bind_some]
   have h:=BC [HC l m] (by simp) (fun x hx=>by simp only[List.mem_cons,List.not_mem_nil,or_false]at hx;subst hx;exact⟨l0,l1⟩) trivial
   have h':cK [(l.1,low ((jQ l.2 m.2).2.2.toNat+1) (jQ l.2 m.2).1 (jQ l.2 m.2).2.1)]=_:=h
   rw[h'];rfl
  ·by_cases hp:(l.1+m.1)%2=0
   ·have hb:=RF hl hm hd hp
    rw[aW (show¬(l.1+m.1)%2=1 by omega),cond_false,show(l.1==m.1)=false by simpa using hd,aW hd,cond_false,cond_false,aT hp,cond_true,VB hl hm hd hp,Option.bind_some]
    simp only[Bool.not_true,cond_false]
    rw[Int.tdiv_eq_ediv_of_nonneg (by omega),aM (n:=(l.1+m.1)/2) (by omega) (by omega),aM (n:=(l.1+m.1)/2+4) (by omega) (by omega),Int.tmod_eq_emod_of_nonneg (by omega),
     yr (by omega) (by omega) (by decide) (by decide) hb (by decide),Option.bind_some,yr (by omega) (by omega) (by decide) (by decide) hb (by decide),Option.bind_some]
    unfold Wf
    by_cases h3:(l.1+m.1)/2<=3
    ·rw[aT h3,cond_true,show((l.1+m.1)/2+4)%8=(l.1+m.1)/2+4 by omega,
      BC [Ah (nl l m) ((l.1+m.1)/2),Ah (nl l m) ((l.1+m.1)/2+4)] (by simp) (fun x hx=>by
       simp only[List.mem_cons,List.not_mem_nil,or_false]at hx
       rcases hx with rfl|rfl
       ·exact⟨by show 0<=(l.1+m.1)/2;omega,by show(l.1+m.1)/2<=7;omega⟩
       ·exact⟨by show 0<=(l.1+m.1)/2+4;omega,by show(l.1+m.1)/2+4<=7;omega⟩) ⟨by show(l.1+m.1)/2<(l.1+m.1)/2+4;omega,trivial⟩]
     rfl
    ·rw[aW h3,cond_false,show((l.1+m.1)/2+4)%8=(l.1+m.1)/2-4 by omega,
      UR (Ah (nl l m) ((l.1+m.1)/2)) (Ah (nl l m) ((l.1+m.1)/2-4)) ⟨by show 0<=(l.1+m.1)/2;omega,by show(l.1+m.1)/2<=7;omega⟩
       ⟨by show 0<=(l.1+m.1)/2-4;omega,by show(l.1+m.1)/2-4<=7;omega⟩ (by show(l.1+m.1)/2-4<(l.1+m.1)/2;omega)]
     rfl
   ·rw[aT (show(l.1+m.1)%2=1 by omega),cond_true,aW hd,cond_false,aW hp,cond_false]
theorem ZY(l m:Ln):(ND l m).1.length<=1000:=by
 unfold ND
 cases lY l&&lY m
 ·exact Nat.zero_le _
 ·cases decide (l=m)
  ·cases decide (l.1=m.1)
   ·cases decide ((l.1+m.1)%2=0)
    ·exact Nat.zero_le _
    ·exact Dp _ (by unfold Wf;cases decide ((l.1+m.1)/2<=3)<;>simp)
   ·exact Dp _ (by simp)
  ·exact Nat.zero_le _
def GY(p:Pt)(l:Ln)(q:Pt)(m:Ln)(d:Int):List Ln:=
 cond (Df (oF d l.1))
  (cond (Df (th p l)) (cond (Df (oF d m.1)) [] [M8 d q m]) [])
  (cond (Df (oF d m.1)) (cond (Df (th q m)) [M8 d p l] []) (cond (decide (M8 d p l=M8 d q m)) [M8 d p l] []))
def mt(p:Pt)(l:Ln)(q:Pt)(m:Ln):Nat->Int->List Ln
 |0,_=>[]
 |n+1,d=>GY p l q m d++mt p l q m n (d+1)
theorem Ae(p:Pt)(l:Ln)(q:Pt)(m:Ln)(d:Int):GY p l q m d=[]\/∃x,GY p l q m d=[x]/\((x=M8 d p l/\Df (oF d l.1)=false)\/(x=M8 d q m/\Df (oF d m.1)=false)):=by
 unfold GY
 cases h1:Df (oF d l.1)
 ·cases h2:Df (oF d m.1)
  ·simp only[cond_false]
   cases decide (M8 d p l=M8 d q m)
   ·exact .inl rfl
   ·exact .inr ⟨_,rfl, .inl ⟨rfl,trivial⟩⟩
  ·simp only[cond_false,cond_true]
   cases Df (th q m)
   ·exact .inl rfl
   ·exact .inr ⟨_,rfl, .inl ⟨rfl,trivial⟩⟩
 ·simp only[cond_true]
  cases Df (th p l)
  ·exact .inl rfl
  ·cases h2:Df (oF d m.1)
   ·exact .inr ⟨_,rfl, .inr ⟨rfl,rfl⟩⟩
   ·exact .inl rfl
theorem IL(p:Pt)(l:Ln)(q:Pt)(m:Ln):∀(n:Nat) (d:Int) (x:Ln),x∈mt p l q m n d->∃e,d<=e/\e<d+n/\x.1=e/\((x=M8 e p l/\Df (oF e l.1)=false)\/(x=M8 e q m/\Df (oF e m.1)=false))
 |0,d,x,h=>(List.not_mem_nil h).elim
 |n+1,d,x,h=>by
  rcases List.mem_append.1 h with h|h
  ·rcases Ae p l q m d with e|⟨y,e,hy⟩
   ·rw[e]at h;cases h
   ·rw[e]at h
    simp only[List.mem_cons,List.not_mem_nil,or_false]at h
    subst h
    refine⟨d,Int.le_refl _,by omega, ?_,hy⟩
    rcases hy with⟨rfl,_⟩|⟨rfl,_⟩<;>rfl
  ·obtain⟨e,h1,h2,h3⟩:=IL p l q m n (d+1) x h
   exact⟨e,by omega,by omega,h3⟩
theorem xR(p:Pt)(l:Ln)(q:Pt)(m:Ln):∀(n:Nat) (d:Int),(mt p l q m n d).length<=n
 |0,d=>Nat.le_refl _
 |n+1,d=>by
  have:=xR p l q m n (d+1)
  rcases Ae p l q m d with e|⟨y,e,_⟩
  ·simp only[mt,e,List.nil_append];omega
  ·simp only[mt,e,List.length_append,List.length_singleton];omega
theorem R8{x:Ln}:∀{l:List Ln},(∀y,y∈l->x.1<y.1)->Pf l->Pf (x::l)
 |[],_,_=>trivial
 |y::r,h,hr=>⟨h y (by simp),hr⟩
theorem Ki(p:Pt)(l:Ln)(q:Pt)(m:Ln):∀(n:Nat) (d:Int),Pf (mt p l q m n d)
 |0,d=>trivial
 |n+1,d=>by
  have ih:=Ki p l q m n (d+1)
  rcases Ae p l q m d with e|⟨y,e,hy⟩
  ·simp only[mt,e,List.nil_append];exact ih
  ·simp only[mt,e,List.singleton_append]
   refine R8 (fun z hz=> ?_) ih
   obtain⟨e,h1,_,h3,_⟩:=IL p l q m n (d+1) z hz
   have:y.1=d:=by rcases hy with⟨rfl,_⟩|⟨rfl,_⟩<;>rfl
   omega
section
variable {p q:Pt} {l m:Ln} (hp:ny p=true) (hl:lY l=true) (hq:ny q=true) (hm:lY m=true)
include hp hl hq hm
theorem SF{d:Int}(h0:0<=d)(h1:d<8)(acc:List Ln)(hacc:acc.length<=1000){R:Type}(nx:fi.T->Option R)(hx:lF R gf):
 jG nx hx acc d p.1.1 p.1.2.1 p.1.2.2 p.2.1 p.2.2.1 p.2.2.2 l.1 l.2.1 l.2.2.1 l.2.2.2 q.1.1 q.1.2.1 q.1.2.2 q.2.1 q.2.2.1 q.2.2.2 m.1 m.2.1 m.2.2.1 m.2.2.2=
  nx (bH (acc++GY p l q m d) (d+1) p.1.1 p.1.2.1 p.1.2.2 p.2.1 p.2.2.1 p.2.2.2 l.1 l.2.1 l.2.2.1 l.2.2.2 q.1.1 q.1.2.1 q.1.2.2 q.2.1 q.2.2.1 q.2.2.2 m.1 m.2.1 m.2.2.1 m.2.2.2):=by
 obtain⟨l0,l1,lb,_⟩:=jk hl
 obtain⟨m0,m1,mb,_⟩:=jk hm
 have bp:=iQ hp
 have bq:=iQ hq
 have mv1:=(IW h0 h1 l0 l1 lb bp).1
 have mv2:=(IW h0 h1 m0 m1 mb bq).1
 have k1:decide ((acc.length+1)*32<=70368744177664)=true:=aT (by omega)
 have k2:decide (acc.length+1<=70368744177664)=true:=aT (by omega)
 rw[jG,aT h1,cond_true,aM (n:=d+1) (by omega) (by omega)]
 simp only[bP,fm,bj,dH,bY,cV,Option.bind_some]
 rw[mv1,Option.bind_some,mv2,Option.bind_some]
 unfold O5 GY
 cases z1:Df (oF d l.1)
 ·cases z2:Df (oF d m.1)
  ·have b1:=QX h0 h1 l0 l1 lb bp z1
   have b2:=QX h0 h1 m0 m1 mb bq z2
   have sb:=(ri b1 b2 (by decide) (by decide) (by decide) (by decide) (by decide)).1
   have hz:=U0 (x:=(M8 d p l).2) (y:=(M8 d q m).2) (kM _ _) (kM _ _)
   have hz':decide ((qM (M8 d p l).2 (M8 d q m).2).1=0/\(qM (M8 d p l).2 (M8 d q m).2).2.1=0)=decide (M8 d p l=M8 d q m):=by
    rw[Bool.eq_iff_iff,decide_eq_true_eq,decide_eq_true_eq,hz]
    exact⟨fun h=>Prod.ext rfl h,fun h=>by rw[h]⟩
   simp only[cond_false,show((1:Int)==1)=true from rfl,show((1:Int)==2)=false from rfl,cond_true,sb,Option.bind_some,QL,hz']
   cases decide (M8 d p l=M8 d q m)
   ·simp only[cond_false,List.append_nil]
   ·simp only[cond_true,List.length_singleton,k1,k2]
  ·cases Df (th q m)
   ·simp only[cond_false,cond_true,show((1:Int)==1)=true from rfl,show((0:Int)==2)=false from rfl,show((1:Int)==2)=false from rfl,show((0:Int)==1)=false from rfl,List.append_nil]
   ·simp only[cond_false,cond_true,show((1:Int)==1)=true from rfl,show((2:Int)==2)=true from rfl,List.length_singleton,k1,k2]
 ·cases Df (th p l)
  ·cases z2:Df (oF d m.1)<;>cases Df (th q m)<;>
    simp only[cond_false,cond_true,show((0:Int)==1)=false from rfl,show((0:Int)==2)=false from rfl,List.append_nil]
  ·cases z2:Df (oF d m.1)
   ·simp only[cond_false,cond_true,show((2:Int)==1)=false from rfl,show((2:Int)==2)=true from rfl,show((1:Int)==1)=true from rfl,List.length_singleton,k1,k2]
   ·cases Df (th q m)<;>
     simp only[cond_false,cond_true,show((2:Int)==1)=false from rfl,show((0:Int)==1)=false from rfl,show((2:Int)==2)=true from rfl,List.append_nil]
theorem SE{d:Int}(h0:0<=d)(h1:d<8)(acc:List Ln)(hacc:acc.length<=1000){R:Type}(nx:fh.T->Option R)(hx:lF R ge):
 jF nx hx acc d p.1.1 p.1.2.1 p.1.2.2 p.2.1 p.2.2.1 p.2.2.2 l.1 l.2.1 l.2.2.1 l.2.2.2 q.1.1 q.1.2.1 q.1.2.2 q.2.1 q.2.2.1 q.2.2.2 m.1 m.2.1 m.2.2.1 m.2.2.2=
  nx (cZ (acc++GY p l q m d) (d+1) p.1.1 p.1.2.1 p.1.2.2 p.2.1 p.2.2.1 p.2.2.2 l.1 l.2.1 l.2.2.1 l.2.2.2 q.1.1 q.1.2.1 q.1.2.2 q.2.1 q.2.2.1 q.2.2.2 m.1 m.2.1 m.2.2.1 m.2.2.2):=by
 obtain⟨l0,l1,lb,_⟩:=jk hl
 obtain⟨m0,m1,mb,_⟩:=jk hm
 have bp:=iQ hp
 have bq:=iQ hq
 have mv1:=(IW h0 h1 l0 l1 lb bp).2
 have mv2:=(IW h0 h1 m0 m1 mb bq).2
 have k1:decide ((acc.length+1)*32<=70368744177664)=true:=aT (by omega)
 have k2:decide (acc.length+1<=70368744177664)=true:=aT (by omega)
 rw[jF,aT h1,cond_true,aM (n:=d+1) (by omega) (by omega)]
 rw[mv1,Option.bind_some,mv2,Option.bind_some]
 unfold O5 GY
 cases z1:Df (oF d l.1)
 ·cases z2:Df (oF d m.1)
  ·simp only[cond_false,show((1:Int)==0)=false from rfl,show((1:Int)==2)=false from rfl,show((1:Int)==3)=false from rfl,abg]
   cases decide (M8 d p l=M8 d q m)
   ·simp only[cond_false,List.append_nil]
   ·simp only[cond_true,List.length_singleton,k1,k2]
  ·cases Df (th q m)
   ·simp only[cond_false,cond_true,show((1:Int)==0)=false from rfl,show((0:Int)==0)=true from rfl,List.append_nil]
   ·simp only[cond_false,cond_true,show((1:Int)==0)=false from rfl,show((2:Int)==0)=false from rfl,show((1:Int)==2)=false from rfl,show((1:Int)==3)=false from rfl,
     show((2:Int)==3)=false from rfl,show((2:Int)==2)=true from rfl,List.length_singleton,k1,k2]
 ·cases Df (th p l)
  ·cases z2:Df (oF d m.1)<;>cases Df (th q m)<;>
    simp only[cond_false,cond_true,show((0:Int)==0)=true from rfl,List.append_nil]
  ·cases z2:Df (oF d m.1)
   ·simp only[cond_false,cond_true,show((2:Int)==0)=false from rfl,show((1:Int)==0)=false from rfl,show((2:Int)==2)=true from rfl,show((1:Int)==2)=false from rfl,
     show((2:Int)==3)=false from rfl,show((1:Int)==3)=false from rfl,List.length_singleton,k1,k2]
   ·cases Df (th q m)
    ·simp only[cond_false,cond_true,show((2:Int)==0)=false from rfl,show((0:Int)==0)=true from rfl,List.append_nil]
    ·simp only[cond_false,cond_true,show((2:Int)==0)=false from rfl,show((2:Int)==2)=true from rfl,List.append_nil]
theorem Kk:∀(n:Nat) (d:Int) (acc:List Ln),0<=d->d+n=8->acc.length<=900-n->
 nE (bH acc d p.1.1 p.1.2.1 p.1.2.2 p.2.1 p.2.2.1 p.2.2.2 l.1 l.2.1 l.2.2.1 l.2.2.2 q.1.1 q.1.2.1 q.1.2.2 q.2.1 q.2.2.1 q.2.2.2 m.1 m.2.1 m.2.2.1 m.2.2.2)=some (.inl (B7 (acc++mt p l q m n d)))
 |0,d,acc,h0,h1,ha=>by
  rw[Ep,jG,aW (by omega),cond_false]
  simp only[mt,List.append_nil];rfl
 |n+1,d,acc,h0,h1,ha=>by
  rw[Ep,SF hp hl hq hm h0 (by omega) acc (by omega)]
  have hlen:(GY p l q m d).length<=1:=by
   rcases Ae p l q m d with e|⟨y,e,_⟩<;>rw[e]<;>simp
  refine(Kk n (d+1) (acc++GY p l q m d) (by omega) (by omega) (by simp only[List.length_append];omega)).trans ?_
  rw[mt,List.append_assoc]
theorem Kj:∀(n:Nat) (d:Int) (acc:List Ln),0<=d->d+n=8->acc.length<=900-n->
 nD (cZ acc d p.1.1 p.1.2.1 p.1.2.2 p.2.1 p.2.2.1 p.2.2.2 l.1 l.2.1 l.2.2.1 l.2.2.2 q.1.1 q.1.2.1 q.1.2.2 q.2.1 q.2.2.1 q.2.2.2 m.1 m.2.1 m.2.2.1 m.2.2.2)=some (.inr (.inl (B4 (acc++mt p l q m n d))))
 |0,d,acc,h0,h1,ha=>by
  rw[Em,jF,aW (by omega),cond_false]
  simp only[mt,List.append_nil];rfl
 |n+1,d,acc,h0,h1,ha=>by
  rw[Em,SE hp hl hq hm h0 (by omega) acc (by omega)]
  have hlen:(GY p l q m d).length<=1:=by
   rcases Ae p l q m d with e|⟨y,e,_⟩<;>rw[e]<;>simp
  refine(Kj n (d+1) (acc++GY p l q m d) (by omega) (by omega) (by simp only[List.length_append];omega)).trans ?_
  rw[mt,List.append_assoc]
end
def Yw(p:Pt)(l:Ln)(q:Pt)(m:Ln):List Ln×Int:=cond (ny p&&(lY l&&(ny q&&lY m))) (Nf (mt p l q m 8 0)) ([],1)
theorem Pm{p q:Pt}{l m:Ln}(hp:ny p=true)(hl:lY l=true)(hq:ny q=true)(hm:lY m=true)(x:Ln)(hx:x∈mt p l q m 8 0):X7 x/\0<=x.1/\x.1<=7:=by
 obtain⟨l0,l1,lb,_⟩:=jk hl
 obtain⟨m0,m1,mb,_⟩:=jk hm
 obtain⟨e,h1,h2,h3,h4⟩:=IL p l q m 8 0 x hx
 refine⟨?_,by omega,by omega⟩
 rcases h4 with⟨rfl,hz⟩|⟨rfl,hz⟩
 ·have hb:=QX (by omega) (by omega) l0 l1 lb (iQ hp) hz
  have hi:=BY hb (by decide) (by decide)
  exact⟨kM _ _,by have:=hb.2.1;exact Int.le_trans this (by decide),hi.1,hi.2⟩
 ·have hb:=QX (by omega) (by omega) m0 m1 mb (iQ hq) hz
  have hi:=BY hb (by decide) (by decide)
  exact⟨kM _ _,by have:=hb.2.1;exact Int.le_trans this (by decide),hi.1,hi.2⟩
theorem ZQ(p:Pt)(l:Ln)(q:Pt)(m:Ln):nP p l q m=some (Yw p l q m):=by
 rw[nP,tz,fE,fE,fk,fk]
 unfold Yw
 simp only[Option.bind_some]
 cases hp:ny p
 ·rfl
 cases hl:lY l
 ·rfl
 cases hq:ny q
 ·rfl
 cases hm:lY m
 ·rfl
 simp only[Bool.not_true,cond_false,Bool.and_self,cond_true]
 rw[Kk hp hl hq hm 8 0 [] (by decide) (by decide) (by simp),List.nil_append]
 have h:=QK (mt p l q m 8 0) (Nat.le_trans (xR p l q m 8 0) (by decide)) (fun x hx=>(Pm hp hl hq hm x hx).1)
 show(fq (mt p l q m 8 0)).bind _=_
 rw[h];rfl
theorem Zf(p:Pt)(l:Ln)(q:Pt)(m:Ln):nJ p l q m=some (Yw p l q m):=by
 rw[nJ,tp,eS,eS,fD,fD]
 unfold Yw
 simp only[Option.bind_some]
 cases hp:ny p
 ·rfl
 cases hl:lY l
 ·rfl
 cases hq:ny q
 ·rfl
 cases hm:lY m
 ·rfl
 simp only[Bool.not_true,cond_false,Bool.and_self,cond_true]
 rw[Kj hp hl hq hm 8 0 [] (by decide) (by decide) (by simp),List.nil_append]
 have h:=BC (mt p l q m 8 0) (Nat.le_trans (xR p l q m 8 0) (by decide)) (fun x hx=>(Pm hp hl hq hm x hx).2) (Ki p l q m 8 0)
 show cond (decide True) ((cK (mt p l q m 8 0)).bind _) none=_
 rw[aT trivial,cond_true,h];rfl
theorem aa6(p:Pt)(l:Ln)(q:Pt)(m:Ln):(Yw p l q m).1.length<=1000:=by
 unfold Yw
 cases ny p&&(lY l&&(ny q&&lY m))
 ·exact Nat.zero_le _
 ·exact Dp _ (Nat.le_trans (xR p l q m 8 0) (by decide))
theorem Wd{V V':Int}{κ κ':Nat}{v:Pt}{x:Nm}(hv:Bd V κ v.1/\Bd V κ v.2)(hx:Bd V' κ' x)(hV:0<=V)(hκ:κ+κ'<=1000)(h1:V*2^κ<=2305843009213693952)(h2:3*(V*V')*2^(κ+κ')<=4611686018427387904):
 jf v x=some (SB v x):=by
 rw[jf,oh,(lP hv.1 hx hV hκ h1 h2).2,(lP hv.2 hx hV hκ h1 h2).2];rfl
def Ee(l:Ln)(p:Pt):Pt:=
 TN p (SB (fo (l.1+4)) (jQ (Hw (sqT (l.1+4)) (qM l.2 (oG (fo (l.1+4)) p)) (UZ (l.1+4))) (Hw (sqT (l.1+4)) (qM l.2 (oG (fo (l.1+4)) p)) (UZ (l.1+4)))))
theorem TT(t:Nat)(p n a b s:Nm):qM p (sn (jQ (Hw t (qM a b) s) (Hw t (qM a b) s)) n)=jQ p (sn n (jQ (Hw t (qM b a) s) (Hw t (qM b a) s))):=by
 refine wd (sL _ _ _) (sL _ _ _) ?_ ?_
 ·rw[Gw,yU,QD,QD,yU,yU,yV,yV,Qy,Qy,Qz,Qz,Gw,Gw,Gx,Gx]
  have:=bf t
  grind
 ·rw[Gx,yV,QE,QE,yU,yU,yV,yV,Qy,Qy,Qz,Qz,Gw,Gw,Gx,Gx]
  have:=bf t
  grind
theorem Ip{V:Int}{κ:Nat}{l:Ln}{p:Pt}(h0:0<=l.1)(h1:l.1<=7)(hl:Bd 786432 10 l.2)(hV:0<=V)(hκ:10<=κ)(hp:Bd V κ p.1/\Bd V κ p.2):Bd (V+72*(786432+6*V)) (κ+3) (Ee l p).1/\Bd (V+72*(786432+6*V)) (κ+3) (Ee l p).2:=by
 have hd0:0<=l.1+4:=by omega
 have hd1:l.1+4<16:=by omega
 have hdot:=qT (V:=1) (by decide) (gv hd0 hd1) hp
 have hsub:=zk hl hdot
 have hdiv:=LA (by omega) hsub (EM hd0 hd1) (Sy hd0 hd1)
 have hadd:=lG hdiv hdiv
 have ht:=OA (V:=1) (by decide) (gv hd0 hd1) hadd
 have:=ZC hp ht
 exact⟨this.1.mono (by omega) (by omega),this.2.mono (by omega) (by omega)⟩
theorem CT{V:Int}{κ:Nat}{l:Ln}{p:Pt}(h0:0<=l.1)(h1:l.1<=7)(hl:Bd 786432 10 l.2)(hV:0<=V)(hκ:10<=κ)(hκ':κ<=50)(hp:Bd V κ p.1/\Bd V κ p.2)(h:(V+72*(786432+6*V))*2^(κ+3)<=4611686018427387904):
 iI l p=some (Ee l p)/\dJ l p=some (Ee l p):=by
 have hd0:0<=l.1+4:=by omega
 have hd1:l.1+4<16:=by omega
 have hp8:(2:Int)^(κ+3)=8*2^κ:=by rw[Int.pow_add];grind
 have hVp:0<=V*2^κ:=Int.mul_nonneg hV (Int.le_of_lt (Int.pow_pos (by decide)))
 have hpp:(0:Int)<2^κ:=Int.pow_pos (by decide)
 have eh:(V+72*(786432+6*V))*2^(κ+3)=3464*(V*2^κ)+452984832*2^κ:=by rw[hp8];grind
 rw[eh]at h
 have hdot:=qT (V:=1) (by decide) (gv hd0 hd1) hp
 have okdot:=Ak (d:=l.1+4) hd0 hd1 hV (by omega) hp (by have:6*V*2^κ=6*(V*2^κ):=Int.mul_assoc .. ;omega)
 have hdot:Bd (6*V) κ (oG (fo (l.1+4)) p):=hdot.mono (by omega) (by omega)
 have hmax:max 10 κ=κ:=by omega
 have hmax2:max κ 10=κ:=by omega
 have e1:(786432+6*V)*2^κ=786432*2^κ+6*(V*2^κ):=by grind
 have s1:=ri hl hdot (by decide) (by omega) (by decide) (by omega) (by rw[hmax,e1];omega)
 have s2:=ri hdot hl (by omega) (by decide) (by omega) (by decide) (by rw[hmax2,Int.add_comm,e1];omega)
 have hs1:=zk hl hdot
 have hs2:=zk hdot hl
 rw[hmax]at hs1
 rw[hmax2,Int.add_comm]at hs2
 have e4:3*((786432+6*V)*4)*2^(κ+0)=12*((786432+6*V)*2^κ):=by rw[Nat.add_zero];grind
 have d1:=F8 hs1 (EM hd0 hd1) (by omega) (by decide) (by decide) (by omega) (by rw[e1];omega) (by rw[e4,e1];omega)
 have d2:=F8 hs2 (EM hd0 hd1) (by omega) (by decide) (by decide) (by omega) (by rw[e1];omega) (by rw[e4,e1];omega)
 rw[XE hd0 hd1]at d1 d2
 have b1:=LA (by omega) hs1 (EM hd0 hd1) (Sy hd0 hd1)
 have b2:=LA (by omega) hs2 (EM hd0 hd1) (Sy hd0 hd1)
 have e5:(12*(786432+6*V)+12*(786432+6*V))*2^(κ+3)=192*((786432+6*V)*2^κ):=by rw[hp8];grind
 have a1:=ux b1 b1 (by omega) (by omega) (by omega) (by omega) (by rw[Nat.max_self,e5,e1];omega)
 have a2:=ux b2 b2 (by omega) (by omega) (by omega) (by omega) (by rw[Nat.max_self,e5,e1];omega)
 have c1:=lG b1 b1
 have c2:=lG b2 b2
 rw[Nat.max_self]at c1 c2
 obtain⟨v1,v2⟩:=gv hd0 hd1
 have e6:3*((12*(786432+6*V)+12*(786432+6*V))*1)*2^(κ+3+0)=576*((786432+6*V)*2^κ):=by rw[Nat.add_zero,hp8];grind
 have e7:3*(1*(12*(786432+6*V)+12*(786432+6*V)))*2^(0+(κ+3))=576*((786432+6*V)*2^κ):=by rw[Nat.zero_add,hp8];grind
 have m1:=lP c2 v1 (by omega) (by omega) (by rw[e5,e1];omega) (by rw[e6,e1];omega)
 have m2:=lP c2 v2 (by omega) (by omega) (by rw[e5,e1];omega) (by rw[e6,e1];omega)
 have t1:=Wd (gv hd0 hd1) c1 (by decide) (by omega) (by decide) (by rw[e7,e1];omega)
 have tb:=OA (V:=1) (by decide) (gv hd0 hd1) c1
 have mb1:=eY (by omega) c2 v1
 have mb2:=eY (by omega) c2 v2
 have e8:(V+3*((12*(786432+6*V)+12*(786432+6*V))*1))*2^(κ+3)=8*(V*2^κ)+576*((786432+6*V)*2^κ):=by rw[hp8];grind
 have e9:(V+3*(1*(12*(786432+6*V)+12*(786432+6*V))))*2^(κ+3)=8*(V*2^κ)+576*((786432+6*V)*2^κ):=by rw[hp8];grind
 have hm1:max κ (κ+3+0)=κ+3:=by omega
 have hm2:max κ (0+(κ+3))=κ+3:=by omega
 have f1:=ri hp.1 mb1 hV (by omega) (by omega) (by omega) (by rw[hm1,e8,e1];omega)
 have f2:=ri hp.2 mb2 hV (by omega) (by omega) (by omega) (by rw[hm1,e8,e1];omega)
 have p1:=UL hp tb hV (by omega) (by omega) (by omega) (by rw[hm2,e9,e1];omega)
 have hw:IntKind.wrap .i64 (l.1+4)=l.1+4:=aM (by omega) (by omega)
 constructor
 ·rw[iI,pA,hw,(uJ hd0 hd1).1]
  simp only[Option.bind_some,bj,dH,bY,cV]
  rw[okdot.1,Option.bind_some,s2.1,Option.bind_some,W8 hd0 hd1,Option.bind_some,d2.1,Option.bind_some]
  try simp only
  rw[a2.1,Option.bind_some,m1.1,Option.bind_some,m2.1,Option.bind_some,iZ,oQ,f1.1,Option.bind_some,f2.1,Option.bind_some,Option.bind_some,TT,TT]
  rfl
 ·rw[dJ,mZ,ca,dF]
  try simp only
  rw[hw,(uJ hd0 hd1).2]
  simp only[Option.bind_some]
  rw[okdot.2,Option.bind_some,s1.2,Option.bind_some,WS hd0 hd1,Option.bind_some,d1.2,Option.bind_some]
  try simp only
  rw[a1.2,Option.bind_some,t1,Option.bind_some,p1]
  rfl
end Go.Proofs.YtjkljnflaifbhaaGreatDoor
