/- No conditions. -/
import Derived.Test.YtjkljnflaifbhaaGreatDoorA3c
namespace Go.Proofs.YtjkljnflaifbhaaGreatDoor
open Go.Vai
def Sc:Nm:=(0,(0,0))
def RO:Pt:=(Sc,Sc)
def SG:Ln:=(0,Sc)
def pR(x:Nm):Nm:=low x.2.2.toNat x.1 x.2.1
def Fit(x:Nm):Prop:=0<=x.2.2/\x.2.2<=1000/\zb x.1/\zb x.2.1
theorem rk{V:Int}{κ:Nat}{x:Nm}(h:Bd V κ x)(hV:0<=V)(hκ:κ<=60)(hb:V*2^κ<=4611686018427387904):Fit x:=by
 have hi:=uf h hV hb
 have h1:=h.1
 have h2:=h.2.1
 exact⟨h1,by omega,hi.1,hi.2⟩
theorem DY{x:Nm}(h:Fit x):bz x=some (cond (nu (pR x)) (pR x,true) (Sc,false)):=by
 obtain⟨h1,h2,h3,h4⟩:=h
 rw[bz,kS]
 have:=AI (a:=x.1) (b:=x.2.1) h1 h2 h3 h4
 have this:eF x=some (pR x):=this
 rw[this]
 simp only[Option.bind_some,Ai]
 cases nu (pR x)<;>rfl
theorem Ld{x:Nm}(h:Fit x):fk x=some (cond (nu (pR x)) (pR x,true) (Sc,false)):=by
 obtain⟨h1,h2,h3,h4⟩:=h
 rw[fk,jO]
 have:=C7 (a:=x.1) (b:=x.2.1) h1 h2 h3 h4
 have this:cw x=some (pR x):=this
 rw[this]
 simp only[Option.bind_some,zr]
 cases nu (pR x)<;>rfl
def HQ(p:Pt):Pt×Bool:=cond (jF (pR p.1,pR p.2)) ((pR p.1,pR p.2),true) (RO,false)
theorem AJ{p:Pt}(h1:Fit p.1)(h2:Fit p.2):fQ p=some (HQ p):=by
 rw[fQ,oY,DY h1,DY h2]
 unfold HQ jF
 cases nu (pR p.1)<;>cases nu (pR p.2)<;>rfl
theorem Ek{p:Pt}(h1:Fit p.1)(h2:Fit p.2):dg p=some (HQ p):=by
 rw[dg,iA,Ld h1,Ld h2]
 unfold HQ jF
 cases nu (pR p.1)<;>cases nu (pR p.2)<;>rfl
def Nd(p q:Pt):Pt×Bool:=cond (jF p&&jF q) (HQ (nW p q)) (RO,false)
theorem Jb{x:Nm}(h:0<=x.2.2):pR (lE x)=low (x.2.2.toNat+1) x.1 x.2.1:=by
 show low (x.2.2+1).toNat x.1 x.2.1=_
 rw[show(x.2.2+1).toNat=x.2.2.toNat+1 by omega]
theorem Ph(k:Nat)(a b:Int):pR (low k a b)=low k a b:=zA (lN k a b)
theorem Sa(p q:Pt):pj p q=some (Nd p q):=by
 rw[pj,pB,kD,kD]
 unfold Nd
 simp only[Option.bind_some]
 cases hp:jF p
 ·rfl
 cases hq:jF q
 ·rfl
 have bp:=ew hp
 have bq:=ew hq
 simp only[Bool.not_true,cond_false,Bool.and_self,cond_true,aX,bX,Option.bind_some]
 have a1:=(mI bp.1 bq.1 (by decide) (by decide) (by decide) (by decide) (by decide)).1
 have a2:=(mI bp.2 bq.2 (by decide) (by decide) (by decide) (by decide) (by decide)).1
 have b1:=fI bp.1 bq.1
 have b2:=fI bp.2 bq.2
 have c1:=b1.1
 have c2:=b2.1
 have d1:=b1.2.1
 have d2:=b2.2.1
 have hb1:=uA (by decide) b1
 have hb2:=uA (by decide) b2
 simp only[a1,a2,Option.bind_some]
 rw[aD (n:=(ej p.1 q.1).2.2+1) (by omega) (by have:=d1;omega),aD (n:=(ej p.2 q.2).2.2+1) (by omega) (by have:=d2;omega)]
 show(fQ (lE (ej p.1 q.1),lE (ej p.2 q.2))).bind _=_
 rw[AJ (rk hb1 (by decide) (by decide) (by decide)) (rk hb2 (by decide) (by decide) (by decide))]
 unfold HQ nW
 simp only[Jb c1,Jb c2,Ph,Option.bind_some]
theorem RY(p q:Pt):pg p q=some (Nd p q):=by
 rw[pg,pw,iw,iw]
 unfold Nd
 simp only[Option.bind_some]
 cases hp:jF p
 ·rfl
 cases hq:jF q
 ·rfl
 have bp:=ew hp
 have bq:=ew hq
 simp only[Bool.not_true,cond_false,Bool.and_self,cond_true]
 have b1:=fI bp.1 bq.1
 have b2:=fI bp.2 bq.2
 rw[kL,mF,Kv bp bq (by decide) (by decide) (by decide) (by decide) (by decide),Option.bind_some]
 unfold BG
 try simp only
 rw[zq b1 (by decide) (by decide) (by decide),Option.bind_some,zq b2 (by decide) (by decide) (by decide),Option.bind_some,Option.bind_some]
 have h1:=qc (by decide) b1
 have h2:=qc (by decide) b2
 show(dg (nW p q)).bind _=_
 rw[Ek (p:=nW p q) (rk h1 (by decide) (by decide) (by decide)) (rk h2 (by decide) (by decide) (by decide)),Option.bind_some]
def sR(l:Ln)(p:Pt):Pt×Bool:=cond (jd l&&jF p) (HQ (bL l p)) (RO,false)
theorem QV(l:Ln)(p:Pt):kY l p=some (sR l p):=by
 rw[kY,ld,lm,kD]
 unfold sR
 simp only[Option.bind_some]
 cases hl:jd l
 ·rfl
 cases hp:jF p
 ·rfl
 obtain⟨l0,l1,lb,_⟩:=du hl
 have bp:=ew hp
 have bl:=lb.mono (V':=786432) (κ':=10) (by decide) (by decide)
 simp only[Bool.not_true,cond_false,Bool.and_self,cond_true,bu,ee,aM,cC,aX,bX,Option.bind_some]
 have hb:=zW l0 l1 bl (by decide) (by decide) bp
 rw[(uT l0 l1 bl (by decide) (by decide) (by decide) bp (by decide)).1,Option.bind_some,AJ (rk hb.1 (by decide) (by decide) (by decide)) (rk hb.2 (by decide) (by decide) (by decide)),Option.bind_some]
theorem Fh(l:Ln)(p:Pt):dy l p=some (sR l p):=by
 rw[dy,jk,iv,iw]
 unfold sR
 simp only[Option.bind_some]
 cases hl:jd l
 ·rfl
 cases hp:jF p
 ·rfl
 obtain⟨l0,l1,lb,_⟩:=du hl
 have bp:=ew hp
 have bl:=lb.mono (V':=786432) (κ':=10) (by decide) (by decide)
 simp only[Bool.not_true,cond_false,Bool.and_self,cond_true]
 have hb:=zW l0 l1 bl (by decide) (by decide) bp
 rw[(uT l0 l1 bl (by decide) (by decide) (by decide) bp (by decide)).2,Option.bind_some,Ek (rk hb.1 (by decide) (by decide) (by decide)) (rk hb.2 (by decide) (by decide) (by decide)),Option.bind_some]
def Qh(X:Ln):Ln×Bool:=cond (nu X.2) (X,true) (SG,false)
def AS(f l:Ln):Int:=(2*f.1-l.1)%8
def ou(f l:Ln):Ln×Bool:=cond (jd f&&jd l) (Qh (jz (bL f (fu l)) (AS f l))) (SG,false)
theorem QM(p:Pt)(d:Int):(jz p d).2=bI (aq (d+4)) p:=rfl
theorem Qx(X:Ln)(hX:X.2.can)(hf:Fit X.2):(Option.bind (bz X.2) fun y=>cond (!y.2) (some (((0:Int),((0:Int),((0:Int),(0:Int)))),Bool.false)) (some ((X.1,y.1),Bool.true)))=some (Qh X):=by
 rw[DY hf,show pR X.2=X.2 from zA hX]
 unfold Qh
 cases nu X.2<;>rfl
theorem M9(X:Ln):(Option.bind (cx X.2) fun y=>cond (!y) (some (((0:Int),((0:Int),((0:Int),(0:Int)))),Bool.false)) (some (X,Bool.true)))=some (Qh X):=by
 rw[zr]
 unfold Qh
 simp only[Option.bind_some]
 cases nu X.2<;>rfl
theorem QU(f l:Ln):lJ f l=some (ou f l):=by
 rw[lJ,lU,lm,lm]
 unfold ou
 simp only[Option.bind_some]
 cases hf:jd f
 ·rfl
 cases hl:jd l
 ·rfl
 obtain⟨f0,f1,fb,fc⟩:=du hf
 obtain⟨l0,l1,lb,lc⟩:=du hl
 have fb:=fb.mono (V':=786432) (κ':=10) (by decide) (by decide)
 simp only[Bool.not_true,cond_false,Bool.and_self,cond_true,bu,ee,aX,bX,Option.bind_some]
 have hfb:=La l0 l1 lb
 have hrb:=zW f0 f1 fb (by decide) (by decide) hfb
 have e1:=(M6 l0 l1 lb).1
 have e2:=(uT f0 f1 fb (by decide) (by decide) (by decide) hfb (by decide)).1
 have e3:=rE (d:=2*f.1-l.1) (by omega) (by omega) (by decide) (by decide) hrb (by decide)
 have hm:(2*f.1-l.1)%8=AS f l:=rfl
 have h0:0<=AS f l:=by unfold AS;omega
 have h7:AS f l<=7:=by unfold AS;omega
 rw[hm]at e3
 have hdb:=lI (V:=1) (by decide) (el (d:=AS f l+4) (by omega) (by omega)) hrb
 have hF:=rk hdb (by decide) (by decide) (by decide)
 have hC:(bI (aq (AS f l+4)) (bL f (fu l))).can:=co _ _
 rw[<-QM]at hF hC
 have hX:=Qx _ hC hF
 generalize jz (bL f (fu l)) (AS f l)=X at e3 hX
 generalize bL f (fu l)=Y at e2 e3
 generalize fu l=Z at e1 e2
 rw[aD (n:=2*f.1) (by omega) (by omega),aD (n:=2*f.1-l.1) (by omega) (by omega),e1,Option.bind_some,e2,Option.bind_some,e3,Option.bind_some]
 exact hX
theorem Le(f l:Ln):fo f l=some (ou f l):=by
 rw[fo,jT,iv,iv]
 unfold ou
 simp only[Option.bind_some]
 cases hf:jd f
 ·rfl
 cases hl:jd l
 ·rfl
 obtain⟨f0,f1,fb,fc⟩:=du hf
 obtain⟨l0,l1,lb,lc⟩:=du hl
 have fb:=fb.mono (V':=786432) (κ':=10) (by decide) (by decide)
 simp only[Bool.not_true,cond_false,Bool.and_self,cond_true]
 have hfb:=La l0 l1 lb
 have hrb:=zW f0 f1 fb (by decide) (by decide) hfb
 rw[(M6 l0 l1 lb).2,Option.bind_some,(uT f0 f1 fb (by decide) (by decide) (by decide) hfb (by decide)).2,Option.bind_some,Sy,aD (n:=2*f.1) (by omega) (by omega),aD (n:=2*f.1-l.1) (by omega) (by omega),
  qd (by omega) (by omega) (by decide) (by decide) hrb (by decide),Option.bind_some]
 exact M9 (jz (bL f (fu l)) (AS f l))
def Kj(l m:Ln):Pt×Int:=cond (jd l&&jd m) (cond (l.1==m.1) (RO,7) (cond (jF (pR (fB l m).1,pR (fB l m).2)) ((pR (fB l m).1,pR (fB l m).2),0) (RO,2))) (RO,1)
theorem Ll{l m:Ln}(hl:jd l=true)(hm:jd m=true)(hne:l.1≠m.1):Fit (fB l m).1/\Fit (fB l m).2:=by
 have h:=Hw hl hm hne trivial
 exact⟨rk h.1 (by decide) (by decide) (by decide),rk h.2 (by decide) (by decide) (by decide)⟩
theorem QT(l m:Ln):nQ l m=some (Kj l m):=by
 rw[nQ,oa,lm,lm]
 unfold Kj
 simp only[Option.bind_some]
 cases hl:jd l
 ·rfl
 cases hm:jd m
 ·rfl
 simp only[Bool.not_true,cond_false,Bool.and_self,cond_true,bu,ee,aX,bX,Option.bind_some]
 cases he:l.1==m.1
 ·have hne:l.1≠m.1:=fun e=>by rw[e]at he;simp at he
  obtain⟨f1,f2⟩:=Ll hl hm hne
  simp only[cond_false]
  show(jK l m).bind _=_
  rw[LA hl hm hne trivial,Option.bind_some,AJ f1 f2,Option.bind_some]
  unfold HQ
  cases jF (pR (fB l m).1,pR (fB l m).2)<;>rfl
 ·rfl
theorem QK(l m:Ln):nN l m=some (Kj l m):=by
 rw[nN,nY,iv,iv]
 unfold Kj
 simp only[Option.bind_some]
 cases hl:jd l
 ·rfl
 cases hm:jd m
 ·rfl
 simp only[Bool.not_true,cond_false,Bool.and_self,cond_true]
 cases he:l.1==m.1
 ·have hne:l.1≠m.1:=fun e=>by rw[e]at he;simp at he
  obtain⟨f1,f2⟩:=Ll hl hm hne
  simp only[cond_false]
  rw[Lc hl hm hne trivial,Option.bind_some]
  simp only[Bool.not_true,cond_false]
  rw[Ek f1 f2,Option.bind_some]
  unfold HQ
  cases jF (pR (fB l m).1,pR (fB l m).2)<;>rfl
 ·rfl
end Go.Proofs.YtjkljnflaifbhaaGreatDoor
