/- No conditions. -/
import Derived.Test.YtjkljnflaifbhaaGreatDoorA3d
namespace Go.Proofs.YtjkljnflaifbhaaGreatDoor
open Go.Vai
theorem ey(v p:Pt):vA (bI v p)=vA v.1*vA p.1+2*(vB v.1*vB p.1)+(vA v.2*vA p.2+2*(vB v.2*vB p.2)):=by
 unfold bI;rw[iH,lO,lO]
theorem ez(v p:Pt):vB (bI v p)=vA v.1*vB p.1+vB v.1*vA p.1+(vA v.2*vB p.2+vB v.2*vA p.2):=by
 unfold bI;rw[iI,lP,lP]
theorem Sq:vA (aq 0).1=1/\vB (aq 0).1=0/\vA (aq 0).2=0/\vB (aq 0).2=0:=⟨by decide+kernel,by decide+kernel,by decide+kernel,by decide+kernel⟩
theorem Sr:vA (aq 1).1=1/\vB (aq 1).1=0/\vA (aq 1).2= -1/\vB (aq 1).2=1:=⟨by decide+kernel,by decide+kernel,by decide+kernel,by decide+kernel⟩
theorem Ss:vA (aq 2).1=1/\vB (aq 2).1=0/\vA (aq 2).2=1/\vB (aq 2).2=0:=⟨by decide+kernel,by decide+kernel,by decide+kernel,by decide+kernel⟩
theorem Su:vA (aq 3).1= -1/\vB (aq 3).1=1/\vA (aq 3).2=1/\vB (aq 3).2=0:=⟨by decide+kernel,by decide+kernel,by decide+kernel,by decide+kernel⟩
theorem Q1:vA (aq 4).1=0/\vB (aq 4).1=0/\vA (aq 4).2=1/\vB (aq 4).2=0:=⟨by decide+kernel,by decide+kernel,by decide+kernel,by decide+kernel⟩
theorem Q2:vA (aq 5).1=1/\vB (aq 5).1= -1/\vA (aq 5).2=1/\vB (aq 5).2=0:=⟨by decide+kernel,by decide+kernel,by decide+kernel,by decide+kernel⟩
theorem Q3:vA (aq 6).1= -1/\vB (aq 6).1=0/\vA (aq 6).2=1/\vB (aq 6).2=0:=⟨by decide+kernel,by decide+kernel,by decide+kernel,by decide+kernel⟩
theorem Q4:vA (aq 7).1= -1/\vB (aq 7).1=0/\vA (aq 7).2= -1/\vB (aq 7).2=1:=⟨by decide+kernel,by decide+kernel,by decide+kernel,by decide+kernel⟩
theorem Q5:vA (aq 8).1= -1/\vB (aq 8).1=0/\vA (aq 8).2=0/\vB (aq 8).2=0:=⟨by decide+kernel,by decide+kernel,by decide+kernel,by decide+kernel⟩
theorem Q6:vA (aq 9).1= -1/\vB (aq 9).1=0/\vA (aq 9).2=1/\vB (aq 9).2= -1:=⟨by decide+kernel,by decide+kernel,by decide+kernel,by decide+kernel⟩
theorem LL:vA (aq 10).1= -1/\vB (aq 10).1=0/\vA (aq 10).2= -1/\vB (aq 10).2=0:=⟨by decide+kernel,by decide+kernel,by decide+kernel,by decide+kernel⟩
theorem LM:vA (aq 11).1=1/\vB (aq 11).1= -1/\vA (aq 11).2= -1/\vB (aq 11).2=0:=⟨by decide+kernel,by decide+kernel,by decide+kernel,by decide+kernel⟩
theorem Qz:vA (aq 12).1=0/\vB (aq 12).1=0/\vA (aq 12).2= -1/\vB (aq 12).2=0:=⟨by decide+kernel,by decide+kernel,by decide+kernel,by decide+kernel⟩
theorem QA:vA (aq 13).1= -1/\vB (aq 13).1=1/\vA (aq 13).2= -1/\vB (aq 13).2=0:=⟨by decide+kernel,by decide+kernel,by decide+kernel,by decide+kernel⟩
theorem QB:vA (aq 14).1=1/\vB (aq 14).1=0/\vA (aq 14).2= -1/\vB (aq 14).2=0:=⟨by decide+kernel,by decide+kernel,by decide+kernel,by decide+kernel⟩
theorem QC:vA (aq 15).1=1/\vB (aq 15).1=0/\vA (aq 15).2=1/\vB (aq 15).2= -1:=⟨by decide+kernel,by decide+kernel,by decide+kernel,by decide+kernel⟩
theorem eight{d:Int}(h0:0<=d)(h1:d<=7):d=0\/d=1\/d=2\/d=3\/d=4\/d=5\/d=6\/d=7:=by omega
theorem PO{d:Int}(h0:0<=d)(h1:d<16)(x:Nm):
 vA (ur (KH d) x (pU d))*vA (pU d)+2*(vB (ur (KH d) x (pU d))*vB (pU d))=vA x/\vA (ur (KH d) x (pU d))*vB (pU d)+vB (ur (KH d) x (pU d))*vA (pU d)=vB x:=by
 rw[CT,CU]
 have h:=pe h0 h1
 have hs:pU d=bI (aq d) (aq d):=rfl
 rw[<-hs]at h
 rcases h with h|h|h
 ·have e1:vA (pU d)=1:=by rw[h];decide+kernel
  have e2:vB (pU d)=0:=by rw[h];decide+kernel
  have e3:KH d=0:=by unfold KH;rw[h];decide+kernel
  rw[e1,e2,e3,h]
  constructor<;>grind
 ·have e1:vA (pU d)=4:=by rw[h];decide+kernel
  have e2:vB (pU d)= -2:=by rw[h];decide+kernel
  have e3:KH d=3:=by unfold KH;rw[h];decide+kernel
  rw[e1,e2,e3,h]
  constructor<;>grind
 ·have e1:vA (pU d)=2:=by rw[h];decide+kernel
  have e2:vB (pU d)=0:=by rw[h];decide+kernel
  have e3:KH d=2:=by unfold KH;rw[h];decide+kernel
  rw[e1,e2,e3,h]
  constructor<;>grind
def mV(l:Ln)(p:Pt):Nm:=ur (KH (l.1+4)) (kW l.2 (bI (aq (l.1+4)) p)) (pU (l.1+4))
theorem AB(l:Ln)(p:Pt):vA (bL l p).1=vA p.1+(vA (aq (l.1+4)).1*(2*vA (mV l p))+2*(vB (aq (l.1+4)).1*(2*vB (mV l p)))):=by
 unfold bL BG yg mV;simp only[iH,iI,lO];grind
theorem AC(l:Ln)(p:Pt):vB (bL l p).1=vB p.1+(vA (aq (l.1+4)).1*(2*vB (mV l p))+vB (aq (l.1+4)).1*(2*vA (mV l p))):=by
 unfold bL BG yg mV;simp only[iH,iI,lP];grind
theorem AD(l:Ln)(p:Pt):vA (bL l p).2=vA p.2+(vA (aq (l.1+4)).2*(2*vA (mV l p))+2*(vB (aq (l.1+4)).2*(2*vB (mV l p)))):=by
 unfold bL BG yg mV;simp only[iH,iI,lO];grind
theorem AE(l:Ln)(p:Pt):vB (bL l p).2=vB p.2+(vA (aq (l.1+4)).2*(2*vB (mV l p))+vB (aq (l.1+4)).2*(2*vA (mV l p))):=by
 unfold bL BG yg mV;simp only[iH,iI,lP];grind
theorem BQ(d:Int):vA (pU d)=vA (aq d).1*vA (aq d).1+2*(vB (aq d).1*vB (aq d).1)+(vA (aq d).2*vA (aq d).2+2*(vB (aq d).2*vB (aq d).2)):=ey _ _
theorem BR(d:Int):vB (pU d)=vA (aq d).1*vB (aq d).1+vB (aq d).1*vA (aq d).1+(vA (aq d).2*vB (aq d).2+vB (aq d).2*vA (aq d).2):=ez _ _
theorem Ir{l:Ln}(h0:0<=l.1)(h1:l.1<=7)(p:Pt):
 vA (mV l p)*vA (pU (l.1+4))+2*(vB (mV l p)*vB (pU (l.1+4)))=vA l.2-vA (bI (aq (l.1+4)) p)/\vA (mV l p)*vB (pU (l.1+4))+vB (mV l p)*vA (pU (l.1+4))=vB l.2-vB (bI (aq (l.1+4)) p):=by
 have h:=PO (d:=l.1+4) (by omega) (by omega) (kW l.2 (bI (aq (l.1+4)) p))
 rw[mW,mX]at h
 exact h
theorem HP{l:Ln}(h0:0<=l.1)(h1:l.1<=7)(p:Pt):
 vA (bI (aq (l.1+4)) (bL l p))=2*vA l.2-vA (bI (aq (l.1+4)) p)/\vB (bI (aq (l.1+4)) (bL l p))=2*vB l.2-vB (bI (aq (l.1+4)) p):=by
 have h:=Ir h0 h1 p
 rw[BQ,BR,ey,ez]at h
 rw[ey,ez,ey,ez,AB,AC,AD,AE]
 obtain⟨h2,h3⟩:=h
 constructor<;>grind
end Go.Proofs.YtjkljnflaifbhaaGreatDoor
namespace Go.Proofs.YtjkljnflaifbhaaGreatDoor
open Go.Vai
theorem J0{V M:Int}{κ:Nat}{x y:Nm}(hV:0<=V)(hx:Bd V κ x)(hy:Bd M 0 y)(g1:y.1*y.1-2*y.2.1*y.2.1≠0)(g2:(fC 64 (y.1*y.1-2*y.2.1*y.2.1)).1=1\/(fC 64 (y.1*y.1-2*y.2.1*y.2.1)).1= -1):
 vA (uq x y).1*vA y+2*(vB (uq x y).1*vB y)=vA x/\vA (uq x y).1*vB y+vB (uq x y).1*vA y=vB x:=by
 obtain⟨r,e,_,_,hA,hB⟩:=At hV hx hy (m:=(fC 64 (y.1*y.1-2*y.2.1*y.2.1)).1) (t:=(fC 64 (y.1*y.1-2*y.2.1*y.2.1)).2) rfl g2 g1
 have hk:y.2.2.toNat=0:=by have:=hy.1;have:=hy.2.1;omega
 have yA:vA y=(y.1:Rat):=by unfold vA;rw[hk];grind
 have yB:vB y=(y.2.1:Rat):=by unfold vB;rw[hk];grind
 have hN:((y.1*y.1-2*y.2.1*y.2.1:Int):Rat)=(y.1:Rat)*(y.1:Rat)-2*(y.2.1:Rat)*(y.2.1:Rat):=by push_cast;rfl
 have hz:((y.1*y.1-2*y.2.1*y.2.1:Int):Rat)≠0:=fun h=>g1 (by exact_mod_cast h)
 rw[hN]at hz hA hB
 rw[e,yA,yB]
 simp only
 rw[hA,hB]
 constructor<;>grind
theorem JF{x:Nm}(h:x.1=0/\x.2.1=0):vA x=0/\vB x=0:=nG.1 h
theorem RK{x:Nm}(h:vA x=0/\vB x=0):xp x=0:=by
 obtain⟨h1,h2⟩:=nG.2 h
 unfold xp PU
 rw[if_pos ⟨h1,h2⟩]
theorem Kp(l:Ln)(p:Pt):vA (sw l p)=vA (bI (aq (l.1+4)) p)-vA l.2:=by unfold sw;rw[mW]
theorem Kq(l:Ln)(p:Pt):vB (sw l p)=vB (bI (aq (l.1+4)) p)-vB l.2:=by unfold sw;rw[mX]
theorem M1:∀(n:Nat) (d:Int) (p:Pt) (r:Int),CQ n d p=some r->ym r p=true
 |0,_,_,_,h=>by cases h
 |n+1,d,p,r,h=>by
  rw[CQ]at h
  cases hc:ym d p
  ·rw[hc]at h
   exact M1 n (d+1) p r h
  ·rw[hc]at h
   simp only[cond_true,Option.some.injEq]at h
   rw[<-h];exact hc
theorem As{p q:Pt}{d:Int}(h:AO p q=some d):0<=d/\d<16/\vA (bI (aq ((d+4)%16)) (ye q p))=0/\vB (bI (aq ((d+4)%16)) (ye q p))=0:=by
 have h1:=JZ 16 0 _ _ h
 have h2:=M1 16 0 _ _ h
 simp only[ym,Bool.and_eq_true,decide_eq_true_eq]at h2
 have h3:=nG.1 h2.1
 exact⟨h1.1,by omega,h3.1,h3.2⟩
theorem EZ(p q:Pt):vA (ye p q).1=vA p.1-vA q.1/\vB (ye p q).1=vB p.1-vB q.1/\vA (ye p q).2=vA p.2-vA q.2/\vB (ye p q).2=vB p.2-vB q.2:=by
 unfold ye;exact⟨mW _ _,mX _ _,mW _ _,mX _ _⟩
theorem Lm{p q:Pt}(h1:0<=(ej p.1 q.1).2.2)(h2:0<=(ej p.2 q.2).2.2):vA (nW p q).1=(vA p.1+vA q.1)/2/\vB (nW p q).1=(vB p.1+vB q.1)/2/\vA (nW p q).2=(vA p.2+vA q.2)/2/\vB (nW p q).2=(vB p.2+vB q.2)/2:=by
 unfold nW
 refine⟨?_, ?_, ?_, ?_⟩
 ·rw[nl h1,zm h1,iH]
 ·rw[nm h1,zn h1,iI]
 ·rw[nl h2,zm h2,iH]
 ·rw[nm h2,zn h2,iI]
theorem So{p q:Pt}{d:Int}(h:AO p q=some d):vA (bI (aq (d%8+4)) q)=vA (bI (aq (d%8+4)) p)/\vB (bI (aq (d%8+4)) q)=vB (bI (aq (d%8+4)) p):=by
 obtain⟨h0,h1,hA,hB⟩:=As h
 obtain⟨s1,s2,s3,s4⟩:=EZ q p
 rw[ey,s1,s2,s3,s4]at hA
 rw[ez,s1,s2,s3,s4]at hB
 rw[ey,ez,ey,ez]
 clear h s1 s2 s3 s4
 rcases xZ h0 h1 with rfl|rfl|rfl|rfl|rfl|rfl|rfl|rfl|rfl|rfl|rfl|rfl|rfl|rfl|rfl|rfl<;>(simp only[Int.reduceAdd,Int.reduceMod,Sq,Sr,Ss,Su,Q1,Q2,Q3,Q4,Q5,Q6,LL,LM,Qz,QA,QB,QC]at hA hB⊢;constructor<;>grind)
theorem RH{p q:Pt}{d:Int}(h:AO p q=some d)(c1:q.1.can)(c2:q.2.can):bL (jz (nW p q) ((d+4)%8)) p=q:=by
 obtain⟨h0,h1,hA,hB⟩:=As h
 obtain⟨s1,s2,s3,s4⟩:=EZ q p
 obtain⟨m1,m2,m3,m4⟩:=Lm (p:=p) (q:=q) (co _ _).1 (co _ _).1
 have hs:=Ir (l:=jz (nW p q) ((d+4)%8)) (show 0<=(d+4)%8 by omega) (show(d+4)%8<=7 by omega) p
 have e1:(jz (nW p q) ((d+4)%8)).1=(d+4)%8:=rfl
 have e2:(jz (nW p q) ((d+4)%8)).2=bI (aq ((d+4)%8+4)) (nW p q):=rfl
 rw[e1,e2,BQ,BR,ey,ez,ey,ez,m1,m2,m3,m4]at hs
 rw[ey,s1,s2,s3,s4]at hA
 rw[ez,s1,s2,s3,s4]at hB
 have g1:=AB (jz (nW p q) ((d+4)%8)) p
 have g2:=AC (jz (nW p q) ((d+4)%8)) p
 have g3:=AD (jz (nW p q) ((d+4)%8)) p
 have g4:=AE (jz (nW p q) ((d+4)%8)) p
 rw[e1]at g1 g2 g3 g4
 have k:(vA (bL (jz (nW p q) ((d+4)%8)) p).1=vA q.1/\vB (bL (jz (nW p q) ((d+4)%8)) p).1=vB q.1)/\(vA (bL (jz (nW p q) ((d+4)%8)) p).2=vA q.2/\vB (bL (jz (nW p q) ((d+4)%8)) p).2=vB q.2):=by
  rw[g1,g2,g3,g4]
  clear g1 g2 g3 g4 e1 e2 h s1 s2 s3 s4 m1 m2 m3 m4
  obtain⟨hs1,hs2⟩:=hs
  generalize vA (mV (jz (nW p q) ((d+4)%8)) p)=T1 at*
  generalize vB (mV (jz (nW p q) ((d+4)%8)) p)=T2 at*
  rcases xZ h0 h1 with rfl|rfl|rfl|rfl|rfl|rfl|rfl|rfl|rfl|rfl|rfl|rfl|rfl|rfl|rfl|rfl<;>(simp only[Int.reduceAdd,Int.reduceMod,Sq,Sr,Ss,Su,Q1,Q2,Q3,Q4,Q5,Q6,LL,LM,Qz,QA,QB,QC]at hA hB hs1 hs2⊢;refine⟨⟨?_, ?_⟩, ?_, ?_⟩<;>grind)
 exact Prod.ext (ex (co _ _) c1 k.1.1 k.1.2) (ex (co _ _) c2 k.2.1 k.2.2)
end Go.Proofs.YtjkljnflaifbhaaGreatDoor
namespace Go.Proofs.YtjkljnflaifbhaaGreatDoor
open Go.Vai
def re(l:Ln):Nm:=ur (KH (l.1+4)) l.2 (pU (l.1+4))
theorem tA(l:Ln):vA (fu l).1=vA (aq (l.1+4)).1*vA (re l)+2*(vB (aq (l.1+4)).1*vB (re l)):=lO _ _
theorem tB(l:Ln):vB (fu l).1=vA (aq (l.1+4)).1*vB (re l)+vB (aq (l.1+4)).1*vA (re l):=lP _ _
theorem tC(l:Ln):vA (fu l).2=vA (aq (l.1+4)).2*vA (re l)+2*(vB (aq (l.1+4)).2*vB (re l)):=lO _ _
theorem tD(l:Ln):vB (fu l).2=vA (aq (l.1+4)).2*vB (re l)+vB (aq (l.1+4)).2*vA (re l):=lP _ _
theorem C3{l:Ln}(h0:0<=l.1)(h1:l.1<=7):vA (re l)*vA (pU (l.1+4))+2*(vB (re l)*vB (pU (l.1+4)))=vA l.2/\vA (re l)*vB (pU (l.1+4))+vB (re l)*vA (pU (l.1+4))=vB l.2:=
 PO (d:=l.1+4) (by omega) (by omega) l.2
theorem zo{x:Ln}(x0:0<=x.1)(x1:x.1<=7)(v p:Pt):∃T1 T2:Rat,
 (T1*vA (pU (x.1+4))+2*(T2*vB (pU (x.1+4)))=vA x.2-vA (bI (aq (x.1+4)) p)/\T1*vB (pU (x.1+4))+T2*vA (pU (x.1+4))=vB x.2-vB (bI (aq (x.1+4)) p))/\
 vA (bI v (bL x p))=vA (bI v p)+(vA (bI v (aq (x.1+4)))*(2*T1)+2*(vB (bI v (aq (x.1+4)))*(2*T2)))/\
 vB (bI v (bL x p))=vB (bI v p)+(vA (bI v (aq (x.1+4)))*(2*T2)+vB (bI v (aq (x.1+4)))*(2*T1)):=by
 refine⟨vA (mV x p),vB (mV x p),Ir x0 x1 _, ?_, ?_⟩
 ·rw[ey,AB,AC,AD,AE,ey,ey,ez];grind
 ·rw[ez,AB,AC,AD,AE,ez,ez,ey];grind
theorem MO{x l:Ln}(l0:0<=l.1)(l1:l.1<=7)(e:x.1=(l.1+4)%8):
 vA (bI (aq (l.1+4)) (bL x (fu l)))=vA l.2/\vB (bI (aq (l.1+4)) (bL x (fu l)))=vB l.2:=by
 have hf:=C3 l0 l1
 obtain⟨T1,T2,_,g1,g2⟩:=zo (x:=x) (by omega) (by omega) (aq (l.1+4)) (fu l)
 rw[e]at g1 g2
 rw[g1,g2,ey (aq (l.1+4)) (fu l),ez (aq (l.1+4)) (fu l),ey (aq (l.1+4)) (aq ((l.1+4)%8+4)),ez (aq (l.1+4)) (aq ((l.1+4)%8+4)),tA,tB,tC,tD]
 rw[BQ,BR]at hf
 obtain⟨b1,b2⟩:=hf
 generalize vA (re l)=t1 at b1 b2⊢
 generalize vB (re l)=t2 at b1 b2⊢
 clear g1 g2 e
 obtain⟨d,L⟩:=l
 simp only at l0 l1 b1 b2⊢
 rcases eight l0 l1 with rfl|rfl|rfl|rfl|rfl|rfl|rfl|rfl<;>(simp only[Int.reduceAdd,Int.reduceMod,Q1,Q2,Q3,Q4,Q5,Q6,LL,LM]at b1 b2⊢;constructor<;>grind)
theorem Re(v u:Pt):vA (Mm v u)=vA v.1*vA u.2+2*(vB v.1*vB u.2)-(vA v.2*vA u.1+2*(vB v.2*vB u.1)):=by unfold Mm;rw[mW,lO,lO]
theorem Rf(v u:Pt):vB (Mm v u)=vA v.1*vB u.2+vB v.1*vA u.2-(vA v.2*vB u.1+vB v.2*vA u.1):=by unfold Mm;rw[mX,lP,lP]
theorem SA:∀a b:Int,0<=a->a<=7->0<=b->b<=7->a≠b->¬(vA (Ei a b)=0/\vB (Ei a b)=0):=by
 intro a b a0 a1 b0 b1 hne h
 have hg:=CP a0 a1 b0 b1 hne trivial
 simp only[Ar,Bool.and_eq_true,Bool.or_eq_true,decide_eq_true_eq]at hg
 have hz:=nG.2 h
 apply hg.1.1
 rw[hz.1,hz.2];rfl
theorem Sg{a b x y:Rat}(h1:x*a+2*(y*b)=0)(h2:x*b+y*a=0)(hn:a*a-2*(b*b)≠0):x=0/\y=0:=by
 constructor<;>grind
theorem Qj{l m:Ln}(hl:jd l=true)(hm:jd m=true)(hne:l.1≠m.1):
 (vA (bI (aq (l.1+4)) (fB l m))=vA l.2/\vB (bI (aq (l.1+4)) (fB l m))=vB l.2)/\(vA (bI (aq (m.1+4)) (fB l m))=vA m.2/\vB (bI (aq (m.1+4)) (fB l m))=vB m.2):=by
 obtain⟨l0,l1,lb,_⟩:=du hl
 obtain⟨m0,m1,mb,_⟩:=du hm
 have hg:=CP l0 l1 m0 m1 hne trivial
 simp only[Ar,Bool.and_eq_true,Bool.or_eq_true,decide_eq_true_eq]at hg
 have hb:=Dj hl hm
 have hd:=JY l0 l1 m0 m1
 have r1:=J0 (by decide) hb.1 hd hg.1.1 hg.1.2
 have r2:=J0 (by decide) hb.2 hd hg.1.1 hg.1.2
 have e1:(uq (Jd l m) (Ei l.1 m.1)).1=(fB l m).1:=rfl
 have e2:(uq (Je l m) (Ei l.1 m.1)).1=(fB l m).2:=rfl
 rw[e1]at r1
 rw[e2]at r2
 generalize fB l m=P at r1 r2⊢
 clear e1 e2 hg hb hd lb mb hl hm
 unfold Jd at r1
 unfold Je at r2
 rw[mW,mX,lO,lO,lP,lP]at r1 r2
 unfold Ei at r1 r2
 rw[Re,Rf]at r1 r2
 rw[ey,ez,ey,ez]
 obtain⟨d,L⟩:=l
 obtain⟨c,M⟩:=m
 simp only at l0 l1 m0 m1 hne r1 r2⊢
 obtain⟨r1,r1'⟩:=r1
 obtain⟨r2,r2'⟩:=r2
 rcases eight l0 l1 with rfl|rfl|rfl|rfl|rfl|rfl|rfl|rfl<;>rcases eight m0 m1 with rfl|rfl|rfl|rfl|rfl|rfl|rfl|rfl<;>first
  |exact absurd rfl hne
  |(clear hne;simp only[Int.reduceAdd,Q1,Q2,Q3,Q4,Q5,Q6,LL,LM]at r1 r1' r2 r2'⊢;refine⟨⟨?_, ?_⟩, ?_, ?_⟩<;>grind)
end Go.Proofs.YtjkljnflaifbhaaGreatDoor
namespace Go.Proofs.YtjkljnflaifbhaaGreatDoor
open Go.Vai
theorem M7{l:Ln}(l0:0<=l.1)(l1:l.1<=7):vA (bI (aq (l.1+4)) (fu l))=vA l.2/\vB (bI (aq (l.1+4)) (fu l))=vB l.2:=by
 have hf:=C3 l0 l1
 rw[BQ,BR]at hf
 rw[ey,ez,tA,tB,tC,tD]
 obtain⟨h1,h2⟩:=hf
 constructor<;>grind
theorem Ri{x l m:Ln}(l0:0<=l.1)(l1:l.1<=7)(e1:x.1=l.1)(e2:m.1=l.1)(hA:vA x.2=(vA l.2+vA m.2)/2)(hB:vB x.2=(vB l.2+vB m.2)/2):
 vA (bI (aq (m.1+4)) (bL x (fu l)))=vA m.2/\vB (bI (aq (m.1+4)) (bL x (fu l)))=vB m.2:=by
 have h:=HP (l:=x) (by omega) (by omega) (fu l)
 have hf:=M7 l0 l1
 rw[e1]at h
 rw[e2,h.1,h.2,hf.1,hf.2,hA,hB]
 constructor<;>grind
theorem Sz{x l m:Ln}(x0:0<=x.1)(x1:x.1<=7)(l0:0<=l.1)(l1:l.1<=7)(e:m.1=(2*x.1-l.1)%8)(P:Pt)(hx:vA x.2=vA (bI (aq (x.1+4)) P)/\vB x.2=vB (bI (aq (x.1+4)) P))
 (hl:vA (bI (aq (l.1+4)) P)=vA l.2/\vB (bI (aq (l.1+4)) P)=vB l.2) (hm:vA (bI (aq (m.1+4)) P)=vA m.2/\vB (bI (aq (m.1+4)) P)=vB m.2):
 vA (bI (aq (m.1+4)) (bL x (fu l)))=vA m.2/\vB (bI (aq (m.1+4)) (bL x (fu l)))=vB m.2:=by
 have hf:=C3 l0 l1
 obtain⟨T1,T2,⟨s1,s2⟩,g1,g2⟩:=zo (x:=x) x0 x1 (aq (m.1+4)) (fu l)
 rw[g1,g2,ey (aq (m.1+4)) (fu l),ez (aq (m.1+4)) (fu l),ey (aq (m.1+4)) (aq (x.1+4)),ez (aq (m.1+4)) (aq (x.1+4)),tA,tB,tC,tD]
 rw[BQ,BR]at hf
 rw[BQ,BR,ey,tA,tB,tC,tD]at s1
 rw[BQ,BR,ez,tA,tB,tC,tD]at s2
 rw[ey,ez]at hx hl hm
 obtain⟨b1,b2⟩:=hf
 obtain⟨hx1,hx2⟩:=hx
 obtain⟨hl1,hl2⟩:=hl
 obtain⟨hm1,hm2⟩:=hm
 generalize vA (re l)=t1 at b1 b2 s1 s2⊢
 generalize vB (re l)=t2 at b1 b2 s1 s2⊢
 clear g1 g2
 obtain⟨a,X⟩:=x
 obtain⟨b,L⟩:=l
 obtain⟨c,M⟩:=m
 simp only at x0 x1 l0 l1 e b1 b2 s1 s2 hx1 hx2 hl1 hl2 hm1 hm2⊢
 rw[hx1]at s1
 rw[hx2]at s2
 rw[<-hl1]at b1
 rw[<-hl2]at b2
 rw[<-hm1,<-hm2]
 subst e
 clear hx1 hx2 hl1 hl2 hm1 hm2
 rcases eight x0 x1 with rfl|rfl|rfl|rfl|rfl|rfl|rfl|rfl<;>rcases eight l0 l1 with rfl|rfl|rfl|rfl|rfl|rfl|rfl|rfl<;>(simp only[Int.reduceAdd,Int.reduceMul,Int.reduceSub,Int.reduceMod,Q1,Q2,Q3,Q4,Q5,Q6,LL,LM]at b1 b2 s1 s2⊢;constructor<;>grind)
theorem Gz(d l:Int):vA (iE d l)=vA (bI (aq (l+4)) (aq (d+4)))/\vB (iE d l)=vB (bI (aq (l+4)) (aq (d+4))):=⟨rfl,rfl⟩
theorem AF(p:Pt)(l:Ln):vA (jw p l)=vA l.2-vA (bI (aq (l.1+4)) p)/\vB (jw p l)=vB l.2-vB (bI (aq (l.1+4)) p):=⟨mW _ _,mX _ _⟩
theorem RR{x:Ln}{p:Pt}{l:Ln}(x0:0<=x.1)(x1:x.1<=7)(hz:th (iE x.1 l.1)=true)(hr:th (jw p l)=true):vA (sw l (bL x p))=0/\vB (sw l (bL x p))=0:=by
 obtain⟨T1,T2,_,g1,g2⟩:=zo (x:=x) x0 x1 (aq (l.1+4)) p
 have z:=JF (of_decide_eq_true hz)
 have r:=JF (of_decide_eq_true hr)
 rw[(Gz _ _).1,(Gz _ _).2]at z
 rw[(AF _ _).1,(AF _ _).2]at r
 rw[Kp,Kq,g1,g2,z.1,z.2]
 obtain⟨r1,r2⟩:=r
 constructor<;>grind
theorem QD{d:Int}{p:Pt}{l:Ln}(h0:0<=d)(h1:d<8)(hl0:0<=l.1)(hl1:l.1<=7)(hl:Bd 131072 10 l.2)(hp:Bd 131072 10 p.1/\Bd 131072 10 p.2)(hz:th (iE d l.1)=false):
 (vA (D2 d p l)*(2*vA (iE d l.1))+2*(vB (D2 d p l)*(2*vB (iE d l.1)))=vA (jw p l)*vA (pU (d+4))+2*(vB (jw p l)*vB (pU (d+4)))/\
   vA (D2 d p l)*(2*vB (iE d l.1))+vB (D2 d p l)*(2*vA (iE d l.1))=vA (jw p l)*vB (pU (d+4))+vB (jw p l)*vA (pU (d+4))):=by
 have hg:=MZ h0 h1 hl0 (by omega:l.1<8)
 have hy:=Mj h0 h1 hl0 (by omega:l.1<8)
 have hr:=HT hl0 hl1 hl hp
 have hx:=cR (by decide) hr (vk (d:=d+4) (by omega) (by omega))
 simp only[JU,Bool.and_eq_true,Bool.or_eq_true,decide_eq_true_eq]at hg
 obtain⟨hy0,hg⟩:=hg
 have hg:=hg.resolve_left (fun e=>by
  unfold th at hz
  rw[bG e]at hz
  cases hz)
 have h2:=fI hy hy
 rw[Nat.max_self]at h2
 have ht:=QZ hy0
 have r:=J0 (x:=kQ (jw p l) (pU (d+4))) (y:=ej (iE d l.1) (iE d l.1)) (by decide) hx h2 (by rw[ht];exact hg.2.1.1) (by rw[ht];exact hg.2.1.2)
 rw[iH,iI,lO,lP]at r
 have e:(uq (kQ (jw p l) (pU (d+4))) (ej (iE d l.1) (iE d l.1))).1=D2 d p l:=rfl
 rw[e]at r
 obtain⟨r1,r2⟩:=r
 constructor<;>grind
theorem PN{d:Int}(h0:0<=d)(h1:d<16):(vA (pU d)=1/\vB (pU d)=0)\/(vA (pU d)=4/\vB (pU d)= -2)\/(vA (pU d)=2/\vB (pU d)=0):=by
 have h:=pe h0 h1
 have hs:pU d=bI (aq d) (aq d):=rfl
 rw[<-hs]at h
 rcases h with h|h|h<;>rw[h]
 ·exact .inl ⟨by decide+kernel,by decide+kernel⟩
 ·exact .inr (.inl ⟨by decide+kernel,by decide+kernel⟩)
 ·exact .inr (.inr ⟨by decide+kernel,by decide+kernel⟩)
theorem Sd{d:Int}{p:Pt}{l:Ln}(h0:0<=d)(h1:d<8)(hl0:0<=l.1)(hl1:l.1<=7)(hl:Bd 131072 10 l.2)(hp:Bd 131072 10 p.1/\Bd 131072 10 p.2)(hz:th (iE d l.1)=false):
 vA (sw l (bL (AM d p l) p))=0/\vB (sw l (bL (AM d p l) p))=0:=by
 have hw:=QD h0 h1 hl0 hl1 hl hp hz
 obtain⟨T1,T2,⟨s1,s2⟩,g1,g2⟩:=zo (x:=AM d p l) h0 (show d<=7 by omega) (aq (l.1+4)) p
 have e1:(AM d p l).1=d:=rfl
 have e2:(AM d p l).2=ej (bI (aq (d+4)) p) (D2 d p l):=rfl
 rw[e1,e2,iH]at s1
 rw[e1,e2,iI]at s2
 rw[e1]at g1 g2
 rw[(Gz _ _).1,(Gz _ _).2,(AF _ _).1,(AF _ _).2]at hw
 rw[Kp,Kq,g1,g2]
 obtain⟨w1,w2⟩:=hw
 clear g1 g2 e1 e2 hl hp hz
 generalize vA (bI (aq (l.1+4)) (aq (d+4)))=B1 at w1 w2⊢
 generalize vB (bI (aq (l.1+4)) (aq (d+4)))=B2 at w1 w2⊢
 generalize vA (D2 d p l)=W1 at w1 w2 s1 s2
 generalize vB (D2 d p l)=W2 at w1 w2 s1 s2
 generalize vA l.2=L1 at w1 w2⊢
 generalize vB l.2=L2 at w1 w2⊢
 generalize vA (bI (aq (l.1+4)) p)=N1 at w1 w2⊢
 generalize vB (bI (aq (l.1+4)) p)=N2 at w1 w2⊢
 rcases PN (d:=d+4) (by omega) (by omega)with⟨c1,c2⟩|⟨c1,c2⟩|⟨c1,c2⟩<;>(rw[c1,c2]at w1 w2 s1 s2;constructor<;>grind)
end Go.Proofs.YtjkljnflaifbhaaGreatDoor
namespace Go.Proofs.YtjkljnflaifbhaaGreatDoor
open Go.Vai
theorem Kk{f l m:Ln}(f0:0<=f.1)(f1:f.1<=7)(l0:0<=l.1)(l1:l.1<=7)(e:m.1=(2*f.1-l.1)%8)(hne:l.1≠m.1)(P:Pt)
 (hM:vA m.2=vA (bI (aq (m.1+4)) (bL f (fu l)))/\vB m.2=vB (bI (aq (m.1+4)) (bL f (fu l))))
 (hl:vA (bI (aq (l.1+4)) P)=vA l.2/\vB (bI (aq (l.1+4)) P)=vB l.2) (hm:vA (bI (aq (m.1+4)) P)=vA m.2/\vB (bI (aq (m.1+4)) P)=vB m.2):
 vA (bI (aq (f.1+4)) P)=vA f.2/\vB (bI (aq (f.1+4)) P)=vB f.2:=by
 have hf:=C3 l0 l1
 obtain⟨T1,T2,⟨s1,s2⟩,g1,g2⟩:=zo (x:=f) f0 f1 (aq (m.1+4)) (fu l)
 rw[hM.1,g1,ey (aq (m.1+4)) (fu l),ey (aq (m.1+4)) (aq (f.1+4)),ez (aq (m.1+4)) (aq (f.1+4)),tA,tB,tC,tD,hM.2,g2,ez (aq (m.1+4)) (fu l),ey (aq (m.1+4)) (aq (f.1+4)),ez (aq (m.1+4)) (aq (f.1+4)),tA,tB,tC,tD,ey,ez]at hm
 rw[BQ,BR]at hf
 rw[BQ,BR,ey,tA,tB,tC,tD]at s1
 rw[BQ,BR,ez,tA,tB,tC,tD]at s2
 rw[ey,ez]at hl
 rw[ey,ez]
 obtain⟨b1,b2⟩:=hf
 obtain⟨hl1,hl2⟩:=hl
 obtain⟨hm1,hm2⟩:=hm
 rw[<-hl1]at b1
 rw[<-hl2]at b2
 generalize vA (re l)=t1 at b1 b2 s1 s2 hm1 hm2
 generalize vB (re l)=t2 at b1 b2 s1 s2 hm1 hm2
 clear g1 g2 hM hl1 hl2
 obtain⟨a,F⟩:=f
 obtain⟨b,L⟩:=l
 obtain⟨c,M⟩:=m
 simp only at f0 f1 l0 l1 e hne b1 b2 s1 s2 hm1 hm2⊢
 subst e
 rcases eight f0 f1 with rfl|rfl|rfl|rfl|rfl|rfl|rfl|rfl<;>rcases eight l0 l1 with rfl|rfl|rfl|rfl|rfl|rfl|rfl|rfl<;>first
  |exact absurd (by decide) hne
  |(clear hne;simp only[Int.reduceAdd,Int.reduceMul,Int.reduceSub,Int.reduceMod,Q1,Q2,Q3,Q4,Q5,Q6,LL,LM]at b1 b2 s1 s2 hm1 hm2⊢;constructor<;>grind)
theorem Mu{f l m:Ln}(hf:jd f=true)(hl:jd l=true)(hm:jd m=true)(e:m.1=(2*f.1-l.1)%8)
 (hM:vA m.2=vA (bI (aq (m.1+4)) (bL f (fu l)))/\vB m.2=vB (bI (aq (m.1+4)) (bL f (fu l)))) (hne:l≠m):
 (ry l m).2=2\/(f∈(ry l m).1/\xm (ry l m).1):=by
 obtain⟨f0,f1,fb,fc⟩:=du hf
 obtain⟨l0,l1,lb,lc⟩:=du hl
 obtain⟨m0,m1,mb,mc⟩:=du hm
 have hfn:nu f.2=true:=by
  simp only[jd,Bool.and_eq_true]at hf
  exact hf.2
 unfold ry
 rw[hl,hm,decide_eq_false hne]
 simp only[Bool.and_self,cond_true,cond_false]
 by_cases e1:l.1=m.1
 ·rw[decide_eq_true e1,cond_true]
  have hx:f.1=l.1:=by
   by_cases h4:f.1=(l.1+4)%8
   ·exfalso
    apply hne
    have k:=MO (x:=f) l0 l1 h4
    rw[<-e1]at hM
    obtain⟨d,L⟩:=l
    obtain⟨c,M⟩:=m
    simp only at e1 hM k
    subst e1
    exact congrArg (Prod.mk d) (ex lc mc (k.1.symm.trans hM.1.symm) (k.2.symm.trans hM.2.symm))
   ·omega
  have h:=HP (l:=f) f0 f1 (fu l)
  have hfo:=M7 l0 l1
  rw[<-e1]at hM
  rw[hx]at h
  rw[h.1,h.2,hfo.1,hfo.2]at hM
  have hk:0<=(ej l.2 m.2).2.2:=(co _ _).1
  have hh:yl l m=f:=by
   obtain⟨a,F⟩:=f
   simp only at hx
   subst hx
   refine congrArg (Prod.mk l.1) (ex (lN _ _ _) fc ?_ ?_)
   ·show vA (low ((ej l.2 m.2).2.2.toNat+1) (ej l.2 m.2).1 (ej l.2 m.2).2.1)=vA F
    rw[nl hk,zm hk,iH,hM.1];grind
   ·show vB (low ((ej l.2 m.2).2.2.toNat+1) (ej l.2 m.2).1 (ej l.2 m.2).2.1)=vB F
    rw[nm hk,zn hk,iI,hM.2];grind
  rw[hh]
  unfold AN
  have e3:([f].all fun x=>nu x.2)=true:=by simp[hfn]
  rw[e3]
  exact .inr ⟨List.mem_singleton.2 rfl,trivial⟩
 ·rw[decide_eq_false e1,cond_false]
  have e2:(l.1+m.1)%2=0:=by omega
  rw[decide_eq_true e2,cond_true]
  obtain⟨on1,on2⟩:=Qj hl hm e1
  have k:=Kk (f:=f) f0 f1 l0 l1 e e1 (fB l m) hM on1 on2
  have hh:jz (fB l m) f.1=f:=by
   obtain⟨a,F⟩:=f
   exact congrArg (Prod.mk a) (ex (co _ _) fc k.1 k.2)
  have hin:f∈Gu l m/\xm (Gu l m):=by
   unfold Gu
   by_cases h3:(l.1+m.1)/2<=3
   ·rw[decide_eq_true h3,cond_true]
    refine⟨?_, ?_⟩
    ·simp only[List.mem_cons,List.not_mem_nil,or_false]
     have:f.1=(l.1+m.1)/2\/f.1=(l.1+m.1)/2+4:=by omega
     rcases this with h|h
     ·exact .inl (by rw[<-h,hh])
     ·exact .inr (by rw[<-h,hh])
    ·exact xX (fun y hy=>by rw[List.mem_singleton.1 hy];show(l.1+m.1)/2<(l.1+m.1)/2+4;omega) trivial
   ·rw[decide_eq_false h3,cond_false]
    refine⟨?_, ?_⟩
    ·simp only[List.mem_cons,List.not_mem_nil,or_false]
     have:f.1=(l.1+m.1)/2-4\/f.1=(l.1+m.1)/2:=by omega
     rcases this with h|h
     ·exact .inl (by rw[<-h,hh])
     ·exact .inr (by rw[<-h,hh])
    ·exact xX (fun y hy=>by rw[List.mem_singleton.1 hy];show(l.1+m.1)/2-4<(l.1+m.1)/2;omega) trivial
  unfold AN
  cases hc:(Gu l m).all fun x=>nu x.2
  ·exact .inl rfl
  ·exact .inr hin
theorem PL(x:Nm):xp (Gi x)= -xp x:=by
 obtain⟨a,b,k⟩:=x
 show PU (decide (-a* -a<2*(-b* -b))) (-a) (-b)= -PU (decide (a*a<2*(b*b))) a b
 have e1: -a* -a=a*a:=by grind
 have e2: -b* -b=b*b:=by grind
 rw[e1,e2]
 generalize decide (a*a<2*(b*b))=r
 unfold PU
 by_cases h1:a=0/\b=0
 ·rw[if_pos h1,if_pos (by omega)];rfl
 ·rw[if_neg h1,if_neg (by omega)]
  by_cases h2:0<=a/\0<=b
  ·rw[if_pos h2,if_neg (by omega),if_pos (by omega)]
  ·rw[if_neg h2]
   by_cases h3:a<=0/\b<=0
   ·rw[if_pos h3,if_pos (by omega)];rfl
   ·rw[if_neg h3,if_neg (by omega),if_neg (by omega)]
    by_cases hb:b>0
    ·rw[decide_eq_true hb,decide_eq_false (show¬ -b>0 by omega)]
     cases r<;>rfl
    ·rw[decide_eq_false hb,decide_eq_true (show -b>0 by omega)]
     cases r<;>rfl
theorem Qw{x:Nm}(h:¬(vA x=0/\vB x=0)):xp x=1\/xp x= -1:=by
 have h:¬(x.1=0/\x.2.1=0):=fun e=>h (nG.1 e)
 unfold xp PU
 rw[if_neg h]
 split
 ·exact .inl rfl
 ·split
  ·exact .inr rfl
  ·split
   ·exact .inl rfl
   ·exact .inr rfl
theorem IY:∀(n:Nat) (d k:Int) (p:Pt),d<=k->k<d+n->ym k p=true->∃r,CQ n d p=some r
 |0,d,k,p,h1,h2,_=>by omega
 |n+1,d,k,p,h1,h2,h3=>by
  rw[CQ]
  cases hc:ym d p
  ·by_cases e:k=d
   ·rw[e,hc]at h3;cases h3
   ·exact IY n (d+1) k p (by omega) (by omega) h3
  ·exact⟨d,rfl⟩
theorem Mi{e d:Int}(e0:4<=e)(e1:e<=11)(d0:0<=d)(d1:d<16){W:Pt}{T1 T2:Rat}(hT:¬(T1=0/\T2=0))
 (w1:vA W.1=vA (aq e).1*T1+2*(vB (aq e).1*T2)) (w2:vB W.1=vA (aq e).1*T2+vB (aq e).1*T1) (w3:vA W.2=vA (aq e).2*T1+2*(vB (aq e).2*T2)) (w4:vB W.2=vA (aq e).2*T2+vB (aq e).2*T1)
 (h:vA (bI (aq ((d+4)%16)) W)=0/\vB (bI (aq ((d+4)%16)) W)=0):(d-e)%8=0:=by
 rw[ey,ez,w1,w2,w3,w4]at h
 clear w1 w2 w3 w4
 obtain⟨h1,h2⟩:=h
 have he:e=4\/e=5\/e=6\/e=7\/e=8\/e=9\/e=10\/e=11:=by omega
 rcases he with rfl|rfl|rfl|rfl|rfl|rfl|rfl|rfl<;>rcases xZ d0 d1 with rfl|rfl|rfl|rfl|rfl|rfl|rfl|rfl|rfl|rfl|rfl|rfl|rfl|rfl|rfl|rfl<;>first
  |decide
  |(exfalso;apply hT;simp only[Int.reduceAdd,Int.reduceMod,Sq,Sr,Ss,Su,Q1,Q2,Q3,Q4,Q5,Q6,LL,LM,Qz,QA,QB,QC]at h1 h2;constructor<;>grind)
theorem Mh{e:Int}(e0:4<=e)(e1:e<=11){W:Pt}{T1 T2:Rat}(hT:¬(T1=0/\T2=0))
 (w1:vA W.1=vA (aq e).1*T1+2*(vB (aq e).1*T2)) (w2:vB W.1=vA (aq e).1*T2+vB (aq e).1*T1) (w3:vA W.2=vA (aq e).2*T1+2*(vB (aq e).2*T2)) (w4:vB W.2=vA (aq e).2*T2+vB (aq e).2*T1):
 (vA (bI (aq ((e+4)%16)) W)=0/\vB (bI (aq ((e+4)%16)) W)=0)/\(vA (bI (aq (((e+8)%16+4)%16)) W)=0/\vB (bI (aq (((e+8)%16+4)%16)) W)=0)/\
 (vA (bI (aq ((e+8)%16)) W)= -vA (bI (aq e) W)/\vB (bI (aq ((e+8)%16)) W)= -vB (bI (aq e) W))/\¬(vA (bI (aq e) W)=0/\vB (bI (aq e) W)=0):=by
 simp only[ey,ez,w1,w2,w3,w4]
 clear w1 w2 w3 w4
 have he:e=4\/e=5\/e=6\/e=7\/e=8\/e=9\/e=10\/e=11:=by omega
 rcases he with rfl|rfl|rfl|rfl|rfl|rfl|rfl|rfl<;>
  (simp only[Int.reduceAdd,Int.reduceMod,Sq,Sr,Ss,Su,Q1,Q2,Q3,Q4,Q5,Q6,LL,LM,Qz,QA,QB,QC];refine⟨⟨?_, ?_⟩,⟨?_, ?_⟩,⟨?_, ?_⟩,fun h=>hT ⟨?_, ?_⟩⟩<;>grind)
theorem MN{f:Ln}{r:Pt}(hf:jd f=true)(hr:jF r=true)(ht:jF (bL f r)=true)(hne:bL f r≠r):Jg r (bL f r)=(f,0):=by
 obtain⟨f0,f1,fb,fc⟩:=du hf
 have hfn:nu f.2=true:=by
  simp only[jd,Bool.and_eq_true]at hf
  exact hf.2
 have hr':=hr
 simp only[jF,Bool.and_eq_true]at hr'
 have r1:=Kr hr'.1
 have r2:=Kr hr'.2
 obtain⟨s1,s2,s3,s4⟩:=EZ (bL f r) r
 rw[AB]at s1
 rw[AC]at s2
 rw[AD]at s3
 rw[AE]at s4
 have hT:¬(2*vA (mV f r)=0/\2*vB (mV f r)=0):=by
  rintro ⟨h1,h2⟩
  apply hne
  refine Prod.ext (ex (co _ _) r1 ?_ ?_) (ex (co _ _) r2 ?_ ?_)
  ·refine(AB f r).trans ?_;rw[h1,h2];grind
  ·refine(AC f r).trans ?_;rw[h1,h2];grind
  ·refine(AD f r).trans ?_;rw[h1,h2];grind
  ·refine(AE f r).trans ?_;rw[h1,h2];grind
 generalize vA (mV f r)=T1 at*
 generalize vB (mV f r)=T2 at*
 have w1:vA (ye (bL f r) r).1=vA (aq (f.1+4)).1*(2*T1)+2*(vB (aq (f.1+4)).1*(2*T2)):=by rw[s1];grind
 have w2:vB (ye (bL f r) r).1=vA (aq (f.1+4)).1*(2*T2)+vB (aq (f.1+4)).1*(2*T1):=by rw[s2];grind
 have w3:vA (ye (bL f r) r).2=vA (aq (f.1+4)).2*(2*T1)+2*(vB (aq (f.1+4)).2*(2*T2)):=by rw[s3];grind
 have w4:vB (ye (bL f r) r).2=vA (aq (f.1+4)).2*(2*T2)+vB (aq (f.1+4)).2*(2*T1):=by rw[s4];grind
 obtain⟨z1,z2,⟨n1,n2⟩,nz⟩:=Mh (e:=f.1+4) (by omega) (by omega) hT w1 w2 w3 w4
 have neg:bI (aq ((f.1+4+8)%16)) (ye (bL f r) r)=Gi (bI (aq (f.1+4)) (ye (bL f r) r)):=
  ex (co _ _) (Pr (co _ _)) (by rw[n1,GE]) (by rw[n2,GF])
 have some_dir:∃k,0<=k/\k<0+((16:Nat):Int)/\ym k (ye (bL f r) r)=true:=by
  rcases Qw nz with h|h
  ·refine⟨f.1+4,by omega,by omega, ?_⟩
   unfold ym
   rw[decide_eq_true (nG.2 z1),h];rfl
  ·refine⟨(f.1+4+8)%16,by omega,by omega, ?_⟩
   unfold ym
   rw[decide_eq_true (nG.2 z2),neg,PL,h];rfl
 obtain⟨k,k0,k1,k2⟩:=some_dir
 obtain⟨d,hd⟩:=IY 16 0 k _ k0 k1 k2
 have hd':AO r (bL f r)=some d:=hd
 obtain⟨d0,d1,c1,c2⟩:=As hd'
 have hmod:=Mi (e:=f.1+4) (by omega) (by omega) d0 d1 hT w1 w2 w3 w4 ⟨c1,c2⟩
 have hdir:(d+4)%8=f.1:=by omega
 have ho:=HP (l:=f) f0 f1 r
 have hl:jz (nW r (bL f r)) f.1=f:=by
  obtain⟨m1,m2,m3,m4⟩:=Lm (p:=r) (q:=bL f r) (co _ _).1 (co _ _).1
  have o1:=ho.1
  have o2:=ho.2
  rw[ey,ey]at o1
  rw[ez,ez]at o2
  obtain⟨a,F⟩:=f
  refine congrArg (Prod.mk a) (ex (co _ _) fc ?_ ?_)
  ·show vA (bI (aq (a+4)) (nW r (bL (a,F) r)))=vA F
   rw[ey,m1,m2,m3,m4]
   simp only at o1
   grind
  ·show vB (bI (aq (a+4)) (nW r (bL (a,F) r)))=vB F
   rw[ez,m1,m2,m3,m4]
   simp only at o2
   grind
 unfold Jg
 rw[hr,ht,hd']
 simp only[Bool.and_self,cond_true]
 rw[hdir,hl]
 unfold Gk
 rw[hfn];rfl
theorem IJ(p:Pt)(l:Ln)(q:Pt)(e:Int)(h3:qm p l q e=true)(n:Nat):∀d:Int,d<=e->e<d+n->jz q e∈cO p l q n d:=by
 induction n with
 |zero=>intro d h1 h2;omega
 |succ n ih=>
  intro d h1 h2
  by_cases h:d=e
  ·subst h
   have k:cO p l q (n+1) d=[jz q d]++cO p l q n (d+1):=by rw[cO,h3,cond_true]
   rw[k]
   exact List.mem_append_left _ (List.mem_singleton_self _)
  ·have k:cO p l q (n+1) d=cond (qm p l q d) [jz q d] []++cO p l q n (d+1):=by rw[cO]
   rw[k]
   exact List.mem_append_right _ (ih (d+1) (by omega) (by omega))
theorem Lr{f:Ln}{r q:Pt}{b:Int}(hf:jd f=true)(hr:jF r=true)(hq:jF q=true)(ha:jd (jz (bL f r) b)=true)(hz:vA (sw f q)=0/\vB (sw f q)=0):
 (rz r (jz (bL f r) b) q).2=2\/(f∈(rz r (jz (bL f r) b) q).1/\xm (rz r (jz (bL f r) b) q).1):=by
 obtain⟨f0,f1,fb,fc⟩:=du hf
 have hl:jz q f.1=f:=by
  rw[Kp,Kq]at hz
  obtain⟨a,F⟩:=f
  obtain⟨z1,z2⟩:=hz
  refine congrArg (Prod.mk a) (ex (co _ _) fc ?_ ?_)
  ·simp only at z1;grind
  ·simp only at z2;grind
 have hb:qm r (jz (bL f r) b) q f.1=true:=by
  unfold qm
  rw[hl]
  refine decide_eq_true (nG.2 ?_)
  rw[Kp,Kq]
  have e1:(jz (bL f r) b).1=b:=rfl
  have e2:(jz (bL f r) b).2=bI (aq (b+4)) (bL f r):=rfl
  rw[e1,e2]
  constructor<;>grind
 have hin:=IJ r (jz (bL f r) b) q f.1 hb 8 0 f0 (by omega)
 rw[hl]at hin
 unfold rz
 rw[hr,ha,hq]
 simp only[Bool.and_self,cond_true]
 unfold AN
 cases hc:(cO r (jz (bL f r) b) q 8 0).all fun x=>nu x.2
 ·exact .inl rfl
 ·exact .inr ⟨hin,sQ _ _ _ 8 0⟩
end Go.Proofs.YtjkljnflaifbhaaGreatDoor
