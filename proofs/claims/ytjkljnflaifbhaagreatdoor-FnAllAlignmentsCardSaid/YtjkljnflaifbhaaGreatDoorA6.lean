/- No conditions. -/
import Derived.Test.YtjkljnflaifbhaaGreatDoorA2b
import Derived.Test.YtjkljnflaifbhaaGreatDoorA5
namespace Go.Proofs.YtjkljnflaifbhaaGreatDoor
open Go Go.Vai
theorem SD{l:Ln}{p:Pt}(hl:jd l=true)(hp:jF p=true)(h:vA (sw l p)=0/\vB (sw l p)=0):ig l p=some 0:=by
 rw[ig,mE,iv,iw,hl,hp]
 obtain⟨l0,l1,lb,_⟩:=du hl
 simp only[Option.bind_some,Bool.not_true,cond_false]
 rw[(KD l0 l1 lb (by decide) (by decide) (by decide) (ew hp) (by decide)).2]
 obtain⟨s,h1,h2⟩:=ws (sw l p)
 rw[h1,h2.2 (nG.2 h)];rfl
theorem PJ{l:Ln}{p:Pt}(hl:jd l=true)(hp:jF p=true):∃s,ig l p=some s/\(s=0->vA (sw l p)=0/\vB (sw l p)=0):=by
 rw[ig,mE,iv,iw,hl,hp]
 obtain⟨l0,l1,lb,_⟩:=du hl
 simp only[Option.bind_some,Bool.not_true,cond_false]
 rw[(KD l0 l1 lb (by decide) (by decide) (by decide) (ew hp) (by decide)).2]
 obtain⟨s,h1,h2⟩:=ws (sw l p)
 rw[h1]
 exact⟨s,rfl,fun h=>nG.1 (h2.1 h)⟩
theorem MM{x:Ln}(h0:0<=x.1)(h1:x.1<=7)(h:nu x.2=true):jd x=true:=by
 unfold jd
 rw[h,decide_eq_true h0,decide_eq_true h1];rfl
theorem Qf{p:Pt}(hp:jF p=true){d:Int}(h0:0<=d)(h1:d<=7):kJ p d=some (Qh (jz p d)):=by
 have hb:=ew hp
 rw[kJ,oJ,iw,hp]
 simp only[Option.bind_some,Bool.not_true,cond_false]
 rw[J7,decide_eq_true h0,decide_eq_true h1,Option.bind_some,Bool.and_self,Bool.not_true,cond_false,qd h0 (by omega) (by decide) (by decide) hb (by decide),Option.bind_some]
 exact M9 (jz p d)
theorem O4(x:Ln)(a b c d:Int):((x.1==a)&&(((x.2.1==b)&&((x.2.2.1==c)&&((x.2.2.2==d)&&true)))&&true))=decide (x=(a,(b,(c,d)))):=by
 obtain⟨x0,x1,x2,x3⟩:=x
 rw[Bool.eq_iff_iff]
 simp
theorem RU(x y:Ln):((x.1==y.1)&&(((x.2.1==y.2.1)&&((x.2.2.1==y.2.2.1)&&((x.2.2.2==y.2.2.2)&&true)))&&true))=decide (x=y):=by
 obtain⟨y0,y1,y2,y3⟩:=y
 exact O4 x y0 y1 y2 y3
theorem RV(x y:Pt):(((x.1.1==y.1.1)&&((x.1.2.1==y.1.2.1)&&((x.1.2.2==y.1.2.2)&&true)))&&(((x.2.1==y.2.1)&&((x.2.2.1==y.2.2.1)&&((x.2.2.2==y.2.2.2)&&true)))&&true))=decide (x=y):=by
 obtain⟨⟨x0,x1,x2⟩,x3,x4,x5⟩:=x
 obtain⟨⟨y0,y1,y2⟩,y3,y4,y5⟩:=y
 rw[Bool.eq_iff_iff]
 simp[and_assoc]
theorem MA(L:List Ln)(hL:L.length<=1000)(hr:xm L)(a b c d:Int):∀(r s:List Ln) (v:Bool),L=s++r->
 fG (dE L v ((s.length:Nat):Int) a b c d)=some (.inr (.inl (pH (v||r.any fun x=>decide (x=(a,(b,(c,d)))))))):=by
 intro r
 induction r with
 |nil=>
  intro s v hs
  rw[wm,gY,MB hs,cond_false,List.any_nil,Bool.or_false];rfl
 |cons x r ih=>
  intro s v hs
  have hlen:=Pc hs
  have step:∀v',fG (dE L v' (((s.length:Nat):Int)+1) a b c d)=some (.inr (.inl (pH (v'||r.any fun x=>decide (x=(a,(b,(c,d)))))))):=by
   intro v'
   have h:=ih (s++ [x]) v' (SC hs)
   have e:(((s++ [x]).length:Nat):Int)=((s.length:Nat):Int)+1:=by simp
   rw[e]at h
   exact h
  have last:∀v0:Bool,(v0||(x::r).any fun x=>decide (x=(a,(b,(c,d)))))=(cond v0 true (decide (x=(a,(b,(c,d)))))||r.any fun x=>decide (x=(a,(b,(c,d))))):=by
   intro v0
   rw[List.any_cons]
   cases v0<;>simp
  rw[wm,gY,Pi hs,cond_true]
  by_cases h0:((s.length:Nat):Int)>0
  ·rw[decide_eq_true h0,cond_true,aD (n:=((s.length:Nat):Int)-1) (by omega) (by omega)]
   obtain⟨s',y,rfl⟩:∃s' y,s=s'++ [y]:=⟨s.dropLast,s.getLast (by intro e;rw[e]at h0;exact absurd h0 (by decide)),(List.dropLast_concat_getLast _).symm⟩
   have hs2:L=s'++y::(x::r):=by rw[hs];simp
   have i1:vu L ((((s'++ [y]).length:Nat):Int)-1)=some y:=by
    have e:(((s'++ [y]).length:Nat):Int)-1=((s'.length:Nat):Int):=by simp
    rw[e];exact ix hs2
   have i2:vu L (((s'++ [y]).length:Nat):Int)=some x:=ix hs
   have hlt:y.1<x.1:=by
    refine HU L s'.length y x hr ?_ ?_
    ·rw[hs2];simp
    ·rw[hs2];simp
   simp only[i1,i2,Option.bind_some]
   rw[decide_eq_false (show¬y.1>x.1 by omega),cond_false,show(y.1==x.1)=false from(by rw[beq_eq_false_iff_ne];omega),cond_false,aD (n:=(((s'++ [y]).length:Nat):Int)+1) (by omega) (by omega)]
   rw[last]
   cases v
   ·simp only[cond_false,O4]
    exact step _
   ·simp only[cond_true]
    exact step _
  ·rw[decide_eq_false h0,cond_false,aD (n:=((s.length:Nat):Int)+1) (by omega) (by omega),last]
   have i2:vu L ((s.length:Nat):Int)=some x:=ix hs
   cases v
   ·simp only[i2,Option.bind_some,cond_false,O4]
    exact step _
   ·simp only[cond_true]
    exact step _
theorem Ja{L:List Ln}(hL:L.length<=1000)(hr:xm L){x:Ln}(hx:x∈L):fV L x=some true:=by
 obtain⟨a,b,c,d⟩:=x
 have h:=MA L hL hr a b c d L [] false rfl
 have h':fG (dE L false 0 a b c d)=_:=h
 have e:(L.any fun x=>decide (x=(a,(b,(c,d)))))=true:=List.any_eq_true.2 ⟨_,hx,decide_eq_true rfl⟩
 rw[fV,nC,h',e];rfl
theorem P6{c:List Int}(hc:JH c):FM (fun i=>0<=i/\i<=7) (mz c 0 8):=by
 rw[mz,oN]
 by_cases h:(0:Int)>=((c.length:Nat):Int)
 ·refine R9 h ⟨_,rfl, ?_⟩
  constructor<;>omega
 ·refine QQ h ?_
  refine ff (M8 c (by omega) (by omega)) fun y hy=> ?_
  have hb:=hc y hy
  refine QQ (by decide) ?_
  rw[aD (n:=y) (by omega) (by omega),Int.tmod_eq_emod_of_nonneg (by omega)]
  exact⟨_,rfl,by omega,by omega⟩
theorem Rk{c:List Int}(hc:JH c){f:Ln}{q r t:Pt}(hf:jd f=true)(hq:jF q=true)(hr:jF r=true)(ht:jF t=true)(e:t=bL f r):
 dJ (gd c q.1.1 q.1.2.1 q.1.2.2 q.2.1 q.2.2.1 q.2.2.2 f.1 f.2.1 f.2.2.1 f.2.2.2 r.1.1 r.1.2.1 r.1.2.2 r.2.1 r.2.2.1 r.2.2.2 t.1.1 t.1.2.1 t.1.2.2 t.2.1 t.2.2.1 t.2.2.2)=
  some (.inl (dW true)):=by
 rw[tR,dI]
 obtain⟨b,e1,b0,b1⟩:=P6 hc
 have e2:kJ ((t.1.1,(t.1.2.1,t.1.2.2)),(t.2.1,(t.2.2.1,t.2.2.2))) b=some (Qh (jz t b)):=Qf ht b0 b1
 rw[e1,Option.bind_some,e2,Option.bind_some]
 unfold Qh
 cases hn:nu (jz t b).2
 ·rfl
 rw[cond_true,Bool.not_true,cond_false]
 have ha:jd (jz t b)=true:=MM b0 b1 hn
 obtain⟨s,e3,hs⟩:=PJ hf hq
 have e3':ig (f.1,(f.2.1,(f.2.2.1,f.2.2.2))) ((q.1.1,(q.1.2.1,q.1.2.2)),(q.2.1,(q.2.2.1,q.2.2.2)))=some s:=e3
 rw[e3',Option.bind_some]
 by_cases h0:s=0
 ·rw[show(s !=0)=false from(by simp[h0]),cond_false]
  have e4:eC ((r.1.1,(r.1.2.1,r.1.2.2)),(r.2.1,(r.2.2.1,r.2.2.2))) (jz t b) ((q.1.1,(q.1.2.1,q.1.2.2)),(q.2.1,(q.2.2.1,q.2.2.2)))=some (rz r (jz t b) q):=Mz r (jz t b) q
  rw[e4,Option.bind_some]
  subst e
  rcases Lr hf hr hq ha (hs h0)with h|⟨h1,h2⟩
  ·rw[beq_iff_eq.2 h];rfl
  ·cases(rz r (jz (bL f r) b) q).2==2
   ·have e5:fV (rz r (jz (bL f r) b) q).1 (f.1,(f.2.1,(f.2.2.1,f.2.2.2)))=some true:=Ja (IK _ _ _) h2 h1
    rw[cond_false,e5];rfl
   ·rfl
 ·rw[show(s !=0)=true from(by simp[h0])];rfl
theorem Rj{c:List Int}(hc:JH c){f l:Ln}{p q:Pt}(hf:jd f=true)(hq:jF q=true):
 cm (dD c p.1.1 p.1.2.1 p.1.2.2 p.2.1 p.2.2.1 p.2.2.2 q.1.1 q.1.2.1 q.1.2.2 q.2.1 q.2.2.1 q.2.2.2 f.1 f.2.1 f.2.2.1 f.2.2.2 l.1 l.2.1 l.2.2.1 l.2.2.2)=
  some (.inl (ce true)):=by
 rw[tQ,dH]
 have e1:dy (l.1,(l.2.1,(l.2.2.1,l.2.2.2))) ((p.1.1,(p.1.2.1,p.1.2.2)),(p.2.1,(p.2.2.1,p.2.2.2)))=some (sR l p):=Fh l p
 rw[e1,Option.bind_some]
 cases h1:(sR l p).2
 ·rfl
 rw[Bool.not_true,cond_false,iw,Option.bind_some]
 cases hr:jF (sR l p).1
 ·rfl
 rw[Bool.not_true,cond_false]
 generalize (sR l p).1=r at hr⊢
 have e2:dy (f.1,(f.2.1,(f.2.2.1,f.2.2.2))) r=some (sR f r):=Fh f r
 rw[e2,Option.bind_some]
 cases h2:(sR f r).2
 ·rfl
 rw[Bool.not_true,cond_false]
 have k:(sR f r).1=bL f r/\jF (bL f r)=true:=by
  unfold sR at h2⊢
  rw[hf,hr]at h2⊢
  simp only[Bool.and_self,cond_true]at h2⊢
  have c1:(bL f r).1.can:=co _ _
  have c2:(bL f r).2.can:=co _ _
  unfold HQ pR at h2⊢
  rw[zA c1,zA c2]at h2⊢
  have e:((bL f r).1,(bL f r).2)=bL f r:=rfl
  rw[e]at h2⊢
  cases hh:jF (bL f r)
  ·rw[hh]at h2;cases h2
  ·exact⟨rfl,rfl⟩
 obtain⟨k1,k2⟩:=k
 rw[k1,RV]
 have j:=Rk hc hf hq hr k2 rfl
 by_cases h3:bL f r=r
 ·rw[decide_eq_true h3,Bool.not_true,cond_false,j];rfl
 ·rw[decide_eq_false h3,Bool.not_false,cond_true,NS,MN hf hr k2 h3]
  simp only[Option.bind_some,bne_self_eq_false,cond_false,beq_self_eq_true,Bool.and_self,Bool.not_true]
  rw[j];rfl
theorem O9{c m:List Int}(hc:JH c)(hm:JH m){f:Ln}{p q:Pt}(hf:jd f=true)(hq:jF q=true):
 cl (dC c m p.1.1 p.1.2.1 p.1.2.2 p.2.1 p.2.2.1 p.2.2.2 q.1.1 q.1.2.1 q.1.2.2 q.2.1 q.2.2.1 q.2.2.2 f.1 f.2.1 f.2.2.1 f.2.2.2)=
  some (.inl (dd true)):=by
 rw[tP,dG]
 obtain⟨l,e1,hl⟩:=Nb hc
 have e2:fo (f.1,(f.2.1,(f.2.2.1,f.2.2.2))) l=some (ou f l):=Le f l
 rw[e1,Option.bind_some,e2,Option.bind_some]
 have j:=Rj hm (l:=l) (p:=p) hf hq
 cases h1:(ou f l).2
 ·rw[cond_false,j];rfl
 rw[cond_true,RU]
 by_cases h2:(ou f l).1=l
 ·rw[decide_eq_true h2,Bool.not_true,cond_false,j];rfl
 rw[decide_eq_false h2,Bool.not_false,cond_true,My,Option.bind_some]
 have k:jd (ou f l).1=true/\(ou f l).1=jz (bL f (fu l)) (AS f l):=by
  obtain⟨f0,f1,_,_⟩:=du hf
  obtain⟨l0,l1,_,_⟩:=du hl
  have hX:(jz (bL f (fu l)) (AS f l)).1=(2*f.1-l.1)%8:=by unfold jz AS;rfl
  unfold ou Qh at h1⊢
  rw[hf,hl]at h1⊢
  simp only[Bool.and_self,cond_true]at h1⊢
  generalize jz (bL f (fu l)) (AS f l)=X at h1 hX⊢
  cases hn:nu X.2
  ·rw[hn]at h1;cases h1
  ·exact⟨MM (by rw[cond_true,hX];omega) (by rw[cond_true,hX];omega) (by rw[cond_true];exact hn),rfl⟩
 obtain⟨k1,k2⟩:=k
 have e3:(ou f l).1.1=(2*f.1-l.1)%8:=by rw[k2];unfold jz AS;rfl
 have e4:(ou f l).1.2=bI (aq ((ou f l).1.1+4)) (bL f (fu l)):=by rw[e3,k2,QM];unfold AS;rfl
 rcases Mu hf hl k1 e3 (by rw[e4];exact⟨rfl,rfl⟩) (fun e=>h2 e.symm)with h|⟨h3,h4⟩
 ·rw[show((ry l (ou f l).1).2 !=2)=false from(by simp[h]),cond_false,j];rfl
 ·cases(ry l (ou f l).1).2 !=2
  ·rw[cond_false,j];rfl
  ·have e5:fV (ry l (ou f l).1).1 (f.1,(f.2.1,(f.2.2.1,f.2.2.2)))=some true:=Ja (II _ _) h4 h3
   rw[cond_true,e5,Option.bind_some,Bool.not_true,cond_false,j];rfl
theorem PP{p q:Pt}(h:(yG p q).2=0):jd (yG p q).1=true:=by
 unfold yG at h⊢
 cases hc:jF p&&jF q
 ·rw[hc]at h;exact absurd (show(1:Int)=0 from h) (by decide)
 rw[hc]at h
 simp only[cond_true]at h⊢
 cases hd:AO p q with
 |none=>rw[hd]at h;exact absurd (show(7:Int)=0 from h) (by decide)
 |some d=>
  rw[hd]at h
  simp only at h⊢
  obtain⟨d0,d1,_,_⟩:=As hd
  unfold Gk at h⊢
  cases hn:nu (jz p (d%8)).2
  ·rw[hn]at h;exact absurd (show(2:Int)=0 from h) (by decide)
  ·exact MM (show 0<=d%8 by omega) (show d%8<=7 by omega) hn
theorem Df{c m:List Int}(hc:JH c)(hm:JH m):fU c m=some true:=by
 rw[fU,gm]
 have long:∃b,mA c m=some b:=by
  rw[mA,oO]
  cases decide (((c.length:Nat):Int)>3000)<;>exact⟨_,rfl⟩
 obtain⟨b,e⟩:=long
 rw[e,Option.bind_some]
 cases b
 case true=>rfl
 rw[cond_false]
 obtain⟨pq,e1,_,h2⟩:=Od hc
 obtain⟨l,e2,h3⟩:=Nb hm
 have i0:gL pq.2 pq.1=some (yG pq.2 pq.1):=by
  rw[gL,jM,NT];rfl
 have s0:gP pq.2 pq.1=some (yG pq.2 pq.1):=by
  rw[gP,jX,Ol];rfl
 rw[e1,Option.bind_some,i0,Option.bind_some,s0,Option.bind_some,bne_self_eq_false,cond_false]
 simp only[beq_self_eq_true,Bool.and_self,Bool.not_true,cond_false]
 have jl:=O9 hc hm (p:=pq.1) h3 h2
 by_cases h:(yG pq.2 pq.1).2=0
 ·have jt:=O9 hc hm (p:=pq.1) (PP h) h2
  rw[beq_iff_eq.2 h,cond_true,show((yG pq.2 pq.1).2 !=0)=false from(by simp[h]),cond_false,jt];rfl
 ·rw[beq_eq_false_iff_ne.2 h,cond_false,show((yG pq.2 pq.1).2 !=0)=true from(by simp[h]),cond_true,e2,Option.bind_some,jl];rfl
theorem OV{z:List Int}(h:Ty.wf (.slice (.int .u8)) z):JH z:=fun x hx=>by
 have h1:(Lit.int .u8 x).wf=true:=h.2 x hx
 have h2:IntKind.min .u8<=x/\x<=IntKind.max .u8:=by simpa[Lit.wf]using h1
 have e1:IntKind.min .u8=0:=by decide
 have e2:IntKind.max .u8=255:=by decide
 rw[e1,e2]at h2
 exact h2
end Go.Proofs.YtjkljnflaifbhaaGreatDoor
