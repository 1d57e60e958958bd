/- No conditions. -/
import Derived.Test.YtjkljnflaifbhaaDoorL3d
namespace Go.Proofs.YtjkljnflaifbhaaDoor
open Go.Vai
theorem jr(v p:Pt):vA (cw v p)=vA v.1*vA p.1+2*(vB v.1*vB p.1)+(vA v.2*vA p.2+2*(vB v.2*vB p.2)):=by
 unfold cw;rw[iv,ly,ly]
theorem js(v p:Pt):vB (cw v p)=vA v.1*vB p.1+vB v.1*vA p.1+(vA v.2*vB p.2+vB v.2*vA p.2):=by
 unfold cw;rw[iw,lz,lz]
theorem Rz:vA (aC 0).1=1/\vB (aC 0).1=0/\vA (aC 0).2=0/\vB (aC 0).2=0:=⟨by decide+kernel,by decide+kernel,by decide+kernel,by decide+kernel⟩
theorem RB:vA (aC 1).1=1/\vB (aC 1).1=0/\vA (aC 1).2= -1/\vB (aC 1).2=1:=⟨by decide+kernel,by decide+kernel,by decide+kernel,by decide+kernel⟩
theorem RC:vA (aC 2).1=1/\vB (aC 2).1=0/\vA (aC 2).2=1/\vB (aC 2).2=0:=⟨by decide+kernel,by decide+kernel,by decide+kernel,by decide+kernel⟩
theorem RD:vA (aC 3).1= -1/\vB (aC 3).1=1/\vA (aC 3).2=1/\vB (aC 3).2=0:=⟨by decide+kernel,by decide+kernel,by decide+kernel,by decide+kernel⟩
theorem Q9:vA (aC 4).1=0/\vB (aC 4).1=0/\vA (aC 4).2=1/\vB (aC 4).2=0:=⟨by decide+kernel,by decide+kernel,by decide+kernel,by decide+kernel⟩
theorem Ra:vA (aC 5).1=1/\vB (aC 5).1= -1/\vA (aC 5).2=1/\vB (aC 5).2=0:=⟨by decide+kernel,by decide+kernel,by decide+kernel,by decide+kernel⟩
theorem Rb:vA (aC 6).1= -1/\vB (aC 6).1=0/\vA (aC 6).2=1/\vB (aC 6).2=0:=⟨by decide+kernel,by decide+kernel,by decide+kernel,by decide+kernel⟩
theorem Rc:vA (aC 7).1= -1/\vB (aC 7).1=0/\vA (aC 7).2= -1/\vB (aC 7).2=1:=⟨by decide+kernel,by decide+kernel,by decide+kernel,by decide+kernel⟩
theorem Rd:vA (aC 8).1= -1/\vB (aC 8).1=0/\vA (aC 8).2=0/\vB (aC 8).2=0:=⟨by decide+kernel,by decide+kernel,by decide+kernel,by decide+kernel⟩
theorem Re:vA (aC 9).1= -1/\vB (aC 9).1=0/\vA (aC 9).2=1/\vB (aC 9).2= -1:=⟨by decide+kernel,by decide+kernel,by decide+kernel,by decide+kernel⟩
theorem OU:vA (aC 10).1= -1/\vB (aC 10).1=0/\vA (aC 10).2= -1/\vB (aC 10).2=0:=⟨by decide+kernel,by decide+kernel,by decide+kernel,by decide+kernel⟩
theorem OV:vA (aC 11).1=1/\vB (aC 11).1= -1/\vA (aC 11).2= -1/\vB (aC 11).2=0:=⟨by decide+kernel,by decide+kernel,by decide+kernel,by decide+kernel⟩
theorem Q5:vA (aC 12).1=0/\vB (aC 12).1=0/\vA (aC 12).2= -1/\vB (aC 12).2=0:=⟨by decide+kernel,by decide+kernel,by decide+kernel,by decide+kernel⟩
theorem Q6:vA (aC 13).1= -1/\vB (aC 13).1=1/\vA (aC 13).2= -1/\vB (aC 13).2=0:=⟨by decide+kernel,by decide+kernel,by decide+kernel,by decide+kernel⟩
theorem Q7:vA (aC 14).1=1/\vB (aC 14).1=0/\vA (aC 14).2= -1/\vB (aC 14).2=0:=⟨by decide+kernel,by decide+kernel,by decide+kernel,by decide+kernel⟩
theorem Q8:vA (aC 15).1=1/\vB (aC 15).1=0/\vA (aC 15).2=1/\vB (aC 15).2= -1:=⟨by decide+kernel,by decide+kernel,by decide+kernel,by decide+kernel⟩
theorem eight{d:Int}(h0:0<=d)(h1:d<=7):d=0\/d=1\/d=2\/d=3\/d=4\/d=5\/d=6\/d=7:=by omega
theorem OR{d:Int}(h0:0<=d)(h1:d<16)(x:Nm):
 vA (tP (JB d) x (pJ d))*vA (pJ d)+2*(vB (tP (JB d) x (pJ d))*vB (pJ d))=vA x/\vA (tP (JB d) x (pJ d))*vB (pJ d)+vB (tP (JB d) x (pJ d))*vA (pJ d)=vB x:=by
 rw[BI,BJ]
 have h:=oO h0 h1
 have hs:pJ d=cw (aC d) (aC d):=rfl
 rw[<-hs]at h
 rcases h with h|h|h
 ·have e1:vA (pJ d)=1:=by rw[h];decide+kernel
  have e2:vB (pJ d)=0:=by rw[h];decide+kernel
  have e3:JB d=0:=by unfold JB;rw[h];decide+kernel
  rw[e1,e2,e3,h]
  constructor<;>grind
 ·have e1:vA (pJ d)=4:=by rw[h];decide+kernel
  have e2:vB (pJ d)= -2:=by rw[h];decide+kernel
  have e3:JB d=3:=by unfold JB;rw[h];decide+kernel
  rw[e1,e2,e3,h]
  constructor<;>grind
 ·have e1:vA (pJ d)=2:=by rw[h];decide+kernel
  have e2:vB (pJ d)=0:=by rw[h];decide+kernel
  have e3:JB d=2:=by unfold JB;rw[h];decide+kernel
  rw[e1,e2,e3,h]
  constructor<;>grind
def pU(l:Ln)(p:Pt):Nm:=tP (JB (l.1+4)) (kG l.2 (cw (aC (l.1+4)) p)) (pJ (l.1+4))
theorem Fc(l:Ln)(p:Pt):vA (dT l p).1=vA p.1+(vA (aC (l.1+4)).1*(2*vA (pU l p))+2*(vB (aC (l.1+4)).1*(2*vB (pU l p)))):=by
 unfold dT Ax xq pU;simp only[iv,iw,ly];grind
theorem Fe(l:Ln)(p:Pt):vB (dT l p).1=vB p.1+(vA (aC (l.1+4)).1*(2*vB (pU l p))+vB (aC (l.1+4)).1*(2*vA (pU l p))):=by
 unfold dT Ax xq pU;simp only[iv,iw,lz];grind
theorem Ff(l:Ln)(p:Pt):vA (dT l p).2=vA p.2+(vA (aC (l.1+4)).2*(2*vA (pU l p))+2*(vB (aC (l.1+4)).2*(2*vB (pU l p)))):=by
 unfold dT Ax xq pU;simp only[iv,iw,ly];grind
theorem Fg(l:Ln)(p:Pt):vB (dT l p).2=vB p.2+(vA (aC (l.1+4)).2*(2*vB (pU l p))+vB (aC (l.1+4)).2*(2*vA (pU l p))):=by
 unfold dT Ax xq pU;simp only[iv,iw,lz];grind
theorem G5(d:Int):vA (pJ d)=vA (aC d).1*vA (aC d).1+2*(vB (aC d).1*vB (aC d).1)+(vA (aC d).2*vA (aC d).2+2*(vB (aC d).2*vB (aC d).2)):=jr _ _
theorem G6(d:Int):vB (pJ d)=vA (aC d).1*vB (aC d).1+vB (aC d).1*vA (aC d).1+(vA (aC d).2*vB (aC d).2+vB (aC d).2*vA (aC d).2):=js _ _
theorem G7{l:Ln}(h0:0<=l.1)(h1:l.1<=7)(p:Pt):
 vA (pU l p)*vA (pJ (l.1+4))+2*(vB (pU l p)*vB (pJ (l.1+4)))=vA l.2-vA (cw (aC (l.1+4)) p)/\vA (pU l p)*vB (pJ (l.1+4))+vB (pU l p)*vA (pJ (l.1+4))=vB l.2-vB (cw (aC (l.1+4)) p):=by
 have h:=OR (d:=l.1+4) (by omega) (by omega) (kG l.2 (cw (aC (l.1+4)) p))
 rw[mC,mD]at h
 exact h
theorem OJ{l:Ln}(h0:0<=l.1)(h1:l.1<=7)(p:Pt):
 vA (cw (aC (l.1+4)) (dT l p))=2*vA l.2-vA (cw (aC (l.1+4)) p)/\vB (cw (aC (l.1+4)) (dT l p))=2*vB l.2-vB (cw (aC (l.1+4)) p):=by
 have h:=G7 h0 h1 p
 rw[G5,G6,jr,js]at h
 rw[jr,js,jr,js,Fc,Fe,Ff,Fg]
 obtain⟨h2,h3⟩:=h
 constructor<;>grind
end Go.Proofs.YtjkljnflaifbhaaDoor
namespace Go.Proofs.YtjkljnflaifbhaaDoor
open Go.Vai
theorem IR{V M:Int}{κ:Nat}{x y:Nm}(hV:0<=V)(hx:Bd V κ x)(hy:Bd M 0 y)(g1:y.1*y.1-2*y.2.1*y.2.1≠0)(g2:(fv 64 (y.1*y.1-2*y.2.1*y.2.1)).1=1\/(fv 64 (y.1*y.1-2*y.2.1*y.2.1)).1= -1):
 vA (tO x y).1*vA y+2*(vB (tO x y).1*vB y)=vA x/\vA (tO x y).1*vB y+vB (tO x y).1*vA y=vB x:=by
 obtain⟨r,e,_,_,hA,hB⟩:=zv hV hx hy (m:=(fv 64 (y.1*y.1-2*y.2.1*y.2.1)).1) (t:=(fv 64 (y.1*y.1-2*y.2.1*y.2.1)).2) rfl g2 g1
 have hk:y.2.2.toNat=0:=by have:=hy.1;have:=hy.2.1;omega
 have yA:vA y=(y.1:Rat):=by unfold vA;rw[hk];grind
 have yB:vB y=(y.2.1:Rat):=by unfold vB;rw[hk];grind
 have hN:((y.1*y.1-2*y.2.1*y.2.1:Int):Rat)=(y.1:Rat)*(y.1:Rat)-2*(y.2.1:Rat)*(y.2.1:Rat):=by push_cast;rfl
 have hz:((y.1*y.1-2*y.2.1*y.2.1:Int):Rat)≠0:=fun h=>g1 (by exact_mod_cast h)
 rw[hN]at hz hA hB
 rw[e,yA,yB]
 simp only
 rw[hA,hB]
 constructor<;>grind
theorem Iv{x:Nm}(h:x.1=0/\x.2.1=0):vA x=0/\vB x=0:=si.1 h
theorem QD{x:Nm}(h:vA x=0/\vB x=0):Er x=0:=by
 obtain⟨h1,h2⟩:=si.2 h
 unfold Er QC
 rw[if_pos ⟨h1,h2⟩]
theorem Ji(l:Ln)(p:Pt):vA (pE l p)=vA (cw (aC (l.1+4)) p)-vA l.2:=by unfold pE;rw[mC]
theorem Jj(l:Ln)(p:Pt):vB (pE l p)=vB (cw (aC (l.1+4)) p)-vB l.2:=by unfold pE;rw[mD]
theorem LR:∀(n:Nat) (d:Int) (p:Pt) (r:Int),EA n d p=some r->FY r p=true
 |0,_,_,_,h=>by cases h
 |n+1,d,p,r,h=>by
  rw[EA]at h
  cases hc:FY d p
  ·rw[hc]at h
   exact LR n (d+1) p r h
  ·rw[hc]at h
   simp only[cond_true,Option.some.injEq]at h
   rw[<-h];exact hc
theorem zu{p q:Pt}{d:Int}(h:zM p q=some d):0<=d/\d<16/\vA (cw (aC ((d+4)%16)) (EZ q p))=0/\vB (cw (aC ((d+4)%16)) (EZ q p))=0:=by
 have h1:=IQ 16 0 _ _ h
 have h2:=LR 16 0 _ _ h
 simp only[FY,Bool.and_eq_true,decide_eq_true_eq]at h2
 have h3:=si.1 h2.1
 exact⟨h1.1,by omega,h3.1,h3.2⟩
theorem Ir(p q:Pt):vA (EZ p q).1=vA p.1-vA q.1/\vB (EZ p q).1=vB p.1-vB q.1/\vA (EZ p q).2=vA p.2-vA q.2/\vB (EZ p q).2=vB p.2-vB q.2:=by
 unfold EZ;exact⟨mC _ _,mD _ _,mC _ _,mD _ _⟩
theorem Ot{p q:Pt}(h1:0<=(ej p.1 q.1).2.2)(h2:0<=(ej p.2 q.2).2.2):vA (om p q).1=(vA p.1+vA q.1)/2/\vB (om p q).1=(vB p.1+vB q.1)/2/\vA (om p q).2=(vA p.2+vA q.2)/2/\vB (om p q).2=(vB p.2+vB q.2)/2:=by
 unfold om
 refine⟨?_, ?_, ?_, ?_⟩
 ·rw[mO h1,yp h1,iv]
 ·rw[mP h1,yq h1,iw]
 ·rw[mO h2,yp h2,iv]
 ·rw[mP h2,yq h2,iw]
theorem Pz{p q:Pt}{d:Int}(h:zM p q=some d):vA (cw (aC (d%8+4)) q)=vA (cw (aC (d%8+4)) p)/\vB (cw (aC (d%8+4)) q)=vB (cw (aC (d%8+4)) p):=by
 obtain⟨h0,h1,hA,hB⟩:=zu h
 obtain⟨s1,s2,s3,s4⟩:=Ir q p
 rw[jr,s1,s2,s3,s4]at hA
 rw[js,s1,s2,s3,s4]at hB
 rw[jr,js,jr,js]
 clear h s1 s2 s3 s4
 rcases zH h0 h1 with rfl|rfl|rfl|rfl|rfl|rfl|rfl|rfl|rfl|rfl|rfl|rfl|rfl|rfl|rfl|rfl<;>(simp only[Int.reduceAdd,Int.reduceMod,Rz,RB,RC,RD,Q9,Ra,Rb,Rc,Rd,Re,OU,OV,Q5,Q6,Q7,Q8]at hA hB⊢;constructor<;>grind)
theorem M6{p q:Pt}{d:Int}(h:zM p q=some d)(c1:q.1.can)(c2:q.2.can):dT (kA (om p q) ((d+4)%8)) p=q:=by
 obtain⟨h0,h1,hA,hB⟩:=zu h
 obtain⟨s1,s2,s3,s4⟩:=Ir q p
 obtain⟨m1,m2,m3,m4⟩:=Ot (p:=p) (q:=q) (ep _ _).1 (ep _ _).1
 have hs:=G7 (l:=kA (om p q) ((d+4)%8)) (show 0<=(d+4)%8 by omega) (show(d+4)%8<=7 by omega) p
 have e1:(kA (om p q) ((d+4)%8)).1=(d+4)%8:=rfl
 have e2:(kA (om p q) ((d+4)%8)).2=cw (aC ((d+4)%8+4)) (om p q):=rfl
 rw[e1,e2,G5,G6,jr,js,jr,js,m1,m2,m3,m4]at hs
 rw[jr,s1,s2,s3,s4]at hA
 rw[js,s1,s2,s3,s4]at hB
 have g1:=Fc (kA (om p q) ((d+4)%8)) p
 have g2:=Fe (kA (om p q) ((d+4)%8)) p
 have g3:=Ff (kA (om p q) ((d+4)%8)) p
 have g4:=Fg (kA (om p q) ((d+4)%8)) p
 rw[e1]at g1 g2 g3 g4
 have k:(vA (dT (kA (om p q) ((d+4)%8)) p).1=vA q.1/\vB (dT (kA (om p q) ((d+4)%8)) p).1=vB q.1)/\(vA (dT (kA (om p q) ((d+4)%8)) p).2=vA q.2/\vB (dT (kA (om p q) ((d+4)%8)) p).2=vB q.2):=by
  rw[g1,g2,g3,g4]
  clear g1 g2 g3 g4 e1 e2 h s1 s2 s3 s4 m1 m2 m3 m4
  obtain⟨hs1,hs2⟩:=hs
  generalize vA (pU (kA (om p q) ((d+4)%8)) p)=T1 at*
  generalize vB (pU (kA (om p q) ((d+4)%8)) p)=T2 at*
  rcases zH h0 h1 with rfl|rfl|rfl|rfl|rfl|rfl|rfl|rfl|rfl|rfl|rfl|rfl|rfl|rfl|rfl|rfl<;>(simp only[Int.reduceAdd,Int.reduceMod,Rz,RB,RC,RD,Q9,Ra,Rb,Rc,Rd,Re,OU,OV,Q5,Q6,Q7,Q8]at hA hB hs1 hs2⊢;refine⟨⟨?_, ?_⟩, ?_, ?_⟩<;>grind)
 exact Prod.ext (kq (ep _ _) c1 k.1.1 k.1.2) (kq (ep _ _) c2 k.2.1 k.2.2)
end Go.Proofs.YtjkljnflaifbhaaDoor
namespace Go.Proofs.YtjkljnflaifbhaaDoor
open Go.Vai
def sS(l:Ln):Nm:=tP (JB (l.1+4)) l.2 (pJ (l.1+4))
theorem BP(l:Ln):vA (iz l).1=vA (aC (l.1+4)).1*vA (sS l)+2*(vB (aC (l.1+4)).1*vB (sS l)):=ly _ _
theorem BQ(l:Ln):vB (iz l).1=vA (aC (l.1+4)).1*vB (sS l)+vB (aC (l.1+4)).1*vA (sS l):=lz _ _
theorem BR(l:Ln):vA (iz l).2=vA (aC (l.1+4)).2*vA (sS l)+2*(vB (aC (l.1+4)).2*vB (sS l)):=ly _ _
theorem BS(l:Ln):vB (iz l).2=vA (aC (l.1+4)).2*vB (sS l)+vB (aC (l.1+4)).2*vA (sS l):=lz _ _
theorem FP{l:Ln}(h0:0<=l.1)(h1:l.1<=7):vA (sS l)*vA (pJ (l.1+4))+2*(vB (sS l)*vB (pJ (l.1+4)))=vA l.2/\vA (sS l)*vB (pJ (l.1+4))+vB (sS l)*vA (pJ (l.1+4))=vB l.2:=
 OR (d:=l.1+4) (by omega) (by omega) l.2
theorem BU{x:Ln}(x0:0<=x.1)(x1:x.1<=7)(v p:Pt):∃T1 T2:Rat,
 (T1*vA (pJ (x.1+4))+2*(T2*vB (pJ (x.1+4)))=vA x.2-vA (cw (aC (x.1+4)) p)/\T1*vB (pJ (x.1+4))+T2*vA (pJ (x.1+4))=vB x.2-vB (cw (aC (x.1+4)) p))/\
 vA (cw v (dT x p))=vA (cw v p)+(vA (cw v (aC (x.1+4)))*(2*T1)+2*(vB (cw v (aC (x.1+4)))*(2*T2)))/\
 vB (cw v (dT x p))=vB (cw v p)+(vA (cw v (aC (x.1+4)))*(2*T2)+vB (cw v (aC (x.1+4)))*(2*T1)):=by
 refine⟨vA (pU x p),vB (pU x p),G7 x0 x1 _, ?_, ?_⟩
 ·rw[jr,Fc,Fe,Ff,Fg,jr,jr,js];grind
 ·rw[js,Fc,Fe,Ff,Fg,js,js,jr];grind
theorem LA{x l:Ln}(l0:0<=l.1)(l1:l.1<=7)(e:x.1=(l.1+4)%8):
 vA (cw (aC (l.1+4)) (dT x (iz l)))=vA l.2/\vB (cw (aC (l.1+4)) (dT x (iz l)))=vB l.2:=by
 have hf:=FP l0 l1
 obtain⟨T1,T2,_,g1,g2⟩:=BU (x:=x) (by omega) (by omega) (aC (l.1+4)) (iz l)
 rw[e]at g1 g2
 rw[g1,g2,jr (aC (l.1+4)) (iz l),js (aC (l.1+4)) (iz l),jr (aC (l.1+4)) (aC ((l.1+4)%8+4)),js (aC (l.1+4)) (aC ((l.1+4)%8+4)),BP,BQ,BR,BS]
 rw[G5,G6]at hf
 obtain⟨b1,b2⟩:=hf
 generalize vA (sS l)=t1 at b1 b2⊢
 generalize vB (sS l)=t2 at b1 b2⊢
 clear g1 g2 e
 obtain⟨d,L⟩:=l
 simp only at l0 l1 b1 b2⊢
 rcases eight l0 l1 with rfl|rfl|rfl|rfl|rfl|rfl|rfl|rfl<;>(simp only[Int.reduceAdd,Int.reduceMod,Q9,Ra,Rb,Rc,Rd,Re,OU,OV]at b1 b2⊢;constructor<;>grind)
theorem Qb(v u:Pt):vA (Lc v u)=vA v.1*vA u.2+2*(vB v.1*vB u.2)-(vA v.2*vA u.1+2*(vB v.2*vB u.1)):=by unfold Lc;rw[mC,ly,ly]
theorem Qc(v u:Pt):vB (Lc v u)=vA v.1*vB u.2+vB v.1*vA u.2-(vA v.2*vB u.1+vB v.2*vA u.1):=by unfold Lc;rw[mD,lz,lz]
theorem Rs:∀a b:Int,0<=a->a<=7->0<=b->b<=7->a≠b->¬(vA (Da a b)=0/\vB (Da a b)=0):=by
 intro a b a0 a1 b0 b1 hne h
 have hg:=BG a0 a1 b0 b1 hne trivial
 simp only[zt,Bool.and_eq_true,Bool.or_eq_true,decide_eq_true_eq]at hg
 have hz:=si.2 h
 apply hg.1.1
 rw[hz.1,hz.2];rfl
theorem Ri{a b x y:Rat}(h1:x*a+2*(y*b)=0)(h2:x*b+y*a=0)(hn:a*a-2*(b*b)≠0):x=0/\y=0:=by
 constructor<;>grind
theorem Pj{l m:Ln}(hl:fg l=true)(hm:fg m=true)(hne:l.1≠m.1):
 (vA (cw (aC (l.1+4)) (eP l m))=vA l.2/\vB (cw (aC (l.1+4)) (eP l m))=vB l.2)/\(vA (cw (aC (m.1+4)) (eP l m))=vA m.2/\vB (cw (aC (m.1+4)) (eP l m))=vB m.2):=by
 obtain⟨l0,l1,lb,_⟩:=cV hl
 obtain⟨m0,m1,mb,_⟩:=cV hm
 have hg:=BG l0 l1 m0 m1 hne trivial
 simp only[zt,Bool.and_eq_true,Bool.or_eq_true,decide_eq_true_eq]at hg
 have hb:=Ca hl hm
 have hd:=IP l0 l1 m0 m1
 have r1:=IR (by decide) hb.1 hd hg.1.1 hg.1.2
 have r2:=IR (by decide) hb.2 hd hg.1.1 hg.1.2
 have e1:(tO (HY l m) (Da l.1 m.1)).1=(eP l m).1:=rfl
 have e2:(tO (HZ l m) (Da l.1 m.1)).1=(eP l m).2:=rfl
 rw[e1]at r1
 rw[e2]at r2
 generalize eP l m=P at r1 r2⊢
 clear e1 e2 hg hb hd lb mb hl hm
 unfold HY at r1
 unfold HZ at r2
 rw[mC,mD,ly,ly,lz,lz]at r1 r2
 unfold Da at r1 r2
 rw[Qb,Qc]at r1 r2
 rw[jr,js,jr,js]
 obtain⟨d,L⟩:=l
 obtain⟨c,M⟩:=m
 simp only at l0 l1 m0 m1 hne r1 r2⊢
 obtain⟨r1,r1'⟩:=r1
 obtain⟨r2,r2'⟩:=r2
 rcases eight l0 l1 with rfl|rfl|rfl|rfl|rfl|rfl|rfl|rfl<;>rcases eight m0 m1 with rfl|rfl|rfl|rfl|rfl|rfl|rfl|rfl<;>first
  |exact absurd rfl hne
  |(clear hne;simp only[Int.reduceAdd,Q9,Ra,Rb,Rc,Rd,Re,OU,OV]at r1 r1' r2 r2'⊢;refine⟨⟨?_, ?_⟩, ?_, ?_⟩<;>grind)
end Go.Proofs.YtjkljnflaifbhaaDoor
namespace Go.Proofs.YtjkljnflaifbhaaDoor
open Go.Vai
theorem Pa{l:Ln}(l0:0<=l.1)(l1:l.1<=7):vA (cw (aC (l.1+4)) (iz l))=vA l.2/\vB (cw (aC (l.1+4)) (iz l))=vB l.2:=by
 have hf:=FP l0 l1
 rw[G5,G6]at hf
 rw[jr,js,BP,BQ,BR,BS]
 obtain⟨h1,h2⟩:=hf
 constructor<;>grind
theorem FQ{x l m:Ln}(l0:0<=l.1)(l1:l.1<=7)(e1:x.1=l.1)(e2:m.1=l.1)(hA:vA x.2=(vA l.2+vA m.2)/2)(hB:vB x.2=(vB l.2+vB m.2)/2):
 vA (cw (aC (m.1+4)) (dT x (iz l)))=vA m.2/\vB (cw (aC (m.1+4)) (dT x (iz l)))=vB m.2:=by
 have h:=OJ (l:=x) (by omega) (by omega) (iz l)
 have hf:=Pa l0 l1
 rw[e1]at h
 rw[e2,h.1,h.2,hf.1,hf.2,hA,hB]
 constructor<;>grind
theorem NS{x l m:Ln}(x0:0<=x.1)(x1:x.1<=7)(l0:0<=l.1)(l1:l.1<=7)(e:m.1=(2*x.1-l.1)%8)(P:Pt)(hx:vA x.2=vA (cw (aC (x.1+4)) P)/\vB x.2=vB (cw (aC (x.1+4)) P))
 (hl:vA (cw (aC (l.1+4)) P)=vA l.2/\vB (cw (aC (l.1+4)) P)=vB l.2) (hm:vA (cw (aC (m.1+4)) P)=vA m.2/\vB (cw (aC (m.1+4)) P)=vB m.2):
 vA (cw (aC (m.1+4)) (dT x (iz l)))=vA m.2/\vB (cw (aC (m.1+4)) (dT x (iz l)))=vB m.2:=by
 have hf:=FP l0 l1
 obtain⟨T1,T2,⟨s1,s2⟩,g1,g2⟩:=BU (x:=x) x0 x1 (aC (m.1+4)) (iz l)
 rw[g1,g2,jr (aC (m.1+4)) (iz l),js (aC (m.1+4)) (iz l),jr (aC (m.1+4)) (aC (x.1+4)),js (aC (m.1+4)) (aC (x.1+4)),BP,BQ,BR,BS]
 rw[G5,G6]at hf
 rw[G5,G6,jr,BP,BQ,BR,BS]at s1
 rw[G5,G6,js,BP,BQ,BR,BS]at s2
 rw[jr,js]at hx hl hm
 obtain⟨b1,b2⟩:=hf
 obtain⟨hx1,hx2⟩:=hx
 obtain⟨hl1,hl2⟩:=hl
 obtain⟨hm1,hm2⟩:=hm
 generalize vA (sS l)=t1 at b1 b2 s1 s2⊢
 generalize vB (sS l)=t2 at b1 b2 s1 s2⊢
 clear g1 g2
 obtain⟨a,X⟩:=x
 obtain⟨b,L⟩:=l
 obtain⟨c,M⟩:=m
 simp only at x0 x1 l0 l1 e b1 b2 s1 s2 hx1 hx2 hl1 hl2 hm1 hm2⊢
 rw[hx1]at s1
 rw[hx2]at s2
 rw[<-hl1]at b1
 rw[<-hl2]at b2
 rw[<-hm1,<-hm2]
 subst e
 clear hx1 hx2 hl1 hl2 hm1 hm2
 rcases eight x0 x1 with rfl|rfl|rfl|rfl|rfl|rfl|rfl|rfl<;>rcases eight l0 l1 with rfl|rfl|rfl|rfl|rfl|rfl|rfl|rfl<;>(simp only[Int.reduceAdd,Int.reduceMul,Int.reduceSub,Int.reduceMod,Q9,Ra,Rb,Rc,Rd,Re,OU,OV]at b1 b2 s1 s2⊢;constructor<;>grind)
theorem E4(d l:Int):vA (gU d l)=vA (cw (aC (l+4)) (aC (d+4)))/\vB (gU d l)=vB (cw (aC (l+4)) (aC (d+4))):=⟨rfl,rfl⟩
theorem zE(p:Pt)(l:Ln):vA (ig p l)=vA l.2-vA (cw (aC (l.1+4)) p)/\vB (ig p l)=vB l.2-vB (cw (aC (l.1+4)) p):=⟨mC _ _,mD _ _⟩
theorem NP{x:Ln}{p:Pt}{l:Ln}(x0:0<=x.1)(x1:x.1<=7)(hz:qR (gU x.1 l.1)=true)(hr:qR (ig p l)=true):vA (pE l (dT x p))=0/\vB (pE l (dT x p))=0:=by
 obtain⟨T1,T2,_,g1,g2⟩:=BU (x:=x) x0 x1 (aC (l.1+4)) p
 have z:=Iv (of_decide_eq_true hz)
 have r:=Iv (of_decide_eq_true hr)
 rw[(E4 _ _).1,(E4 _ _).2]at z
 rw[(zE _ _).1,(zE _ _).2]at r
 rw[Ji,Jj,g1,g2,z.1,z.2]
 obtain⟨r1,r2⟩:=r
 constructor<;>grind
theorem PB{d:Int}{p:Pt}{l:Ln}(h0:0<=d)(h1:d<8)(hl0:0<=l.1)(hl1:l.1<=7)(hl:Bd 131072 10 l.2)(hp:Bd 131072 10 p.1/\Bd 131072 10 p.2)(hz:qR (gU d l.1)=false):
 (vA (CR d p l)*(2*vA (gU d l.1))+2*(vB (CR d p l)*(2*vB (gU d l.1)))=vA (ig p l)*vA (pJ (d+4))+2*(vB (ig p l)*vB (pJ (d+4)))/\
   vA (CR d p l)*(2*vB (gU d l.1))+vB (CR d p l)*(2*vA (gU d l.1))=vA (ig p l)*vB (pJ (d+4))+vB (ig p l)*vA (pJ (d+4))):=by
 have hg:=LP h0 h1 hl0 (by omega:l.1<8)
 have hy:=K9 h0 h1 hl0 (by omega:l.1<8)
 have hr:=GE hl0 hl1 hl hp
 have hx:=cX (by decide) hr (ux (d:=d+4) (by omega) (by omega))
 simp only[IK,Bool.and_eq_true,Bool.or_eq_true,decide_eq_true_eq]at hg
 obtain⟨hy0,hg⟩:=hg
 have hg:=hg.resolve_left (fun e=>by
  unfold qR at hz
  rw[bM e]at hz
  cases hz)
 have h2:=fC hy hy
 rw[Nat.max_self]at h2
 have ht:=P3 hy0
 have r:=IR (x:=kB (ig p l) (pJ (d+4))) (y:=ej (gU d l.1) (gU d l.1)) (by decide) hx h2 (by rw[ht];exact hg.2.1.1) (by rw[ht];exact hg.2.1.2)
 rw[iv,iw,ly,lz]at r
 have e:(tO (kB (ig p l) (pJ (d+4))) (ej (gU d l.1) (gU d l.1))).1=CR d p l:=rfl
 rw[e]at r
 obtain⟨r1,r2⟩:=r
 constructor<;>grind
theorem OQ{d:Int}(h0:0<=d)(h1:d<16):(vA (pJ d)=1/\vB (pJ d)=0)\/(vA (pJ d)=4/\vB (pJ d)= -2)\/(vA (pJ d)=2/\vB (pJ d)=0):=by
 have h:=oO h0 h1
 have hs:pJ d=cw (aC d) (aC d):=rfl
 rw[<-hs]at h
 rcases h with h|h|h<;>rw[h]
 ·exact .inl ⟨by decide+kernel,by decide+kernel⟩
 ·exact .inr (.inl ⟨by decide+kernel,by decide+kernel⟩)
 ·exact .inr (.inr ⟨by decide+kernel,by decide+kernel⟩)
theorem LL{d:Int}{p:Pt}{l:Ln}(h0:0<=d)(h1:d<8)(hl0:0<=l.1)(hl1:l.1<=7)(hl:Bd 131072 10 l.2)(hp:Bd 131072 10 p.1/\Bd 131072 10 p.2)(hz:qR (gU d l.1)=false):
 vA (pE l (dT (xL d p l) p))=0/\vB (pE l (dT (xL d p l) p))=0:=by
 have hw:=PB h0 h1 hl0 hl1 hl hp hz
 obtain⟨T1,T2,⟨s1,s2⟩,g1,g2⟩:=BU (x:=xL d p l) h0 (show d<=7 by omega) (aC (l.1+4)) p
 have e1:(xL d p l).1=d:=rfl
 have e2:(xL d p l).2=ej (cw (aC (d+4)) p) (CR d p l):=rfl
 rw[e1,e2,iv]at s1
 rw[e1,e2,iw]at s2
 rw[e1]at g1 g2
 rw[(E4 _ _).1,(E4 _ _).2,(zE _ _).1,(zE _ _).2]at hw
 rw[Ji,Jj,g1,g2]
 obtain⟨w1,w2⟩:=hw
 clear g1 g2 e1 e2 hl hp hz
 generalize vA (cw (aC (l.1+4)) (aC (d+4)))=B1 at w1 w2⊢
 generalize vB (cw (aC (l.1+4)) (aC (d+4)))=B2 at w1 w2⊢
 generalize vA (CR d p l)=W1 at w1 w2 s1 s2
 generalize vB (CR d p l)=W2 at w1 w2 s1 s2
 generalize vA l.2=L1 at w1 w2⊢
 generalize vB l.2=L2 at w1 w2⊢
 generalize vA (cw (aC (l.1+4)) p)=N1 at w1 w2⊢
 generalize vB (cw (aC (l.1+4)) p)=N2 at w1 w2⊢
 rcases OQ (d:=d+4) (by omega) (by omega)with⟨c1,c2⟩|⟨c1,c2⟩|⟨c1,c2⟩<;>(rw[c1,c2]at w1 w2 s1 s2;constructor<;>grind)
end Go.Proofs.YtjkljnflaifbhaaDoor
