/- No conditions. -/
import Derived.Test.YtjkljnflaifbhaaDoorL3c
namespace Go.Proofs.YtjkljnflaifbhaaDoor
open Go.Vai
def Rf:Nm:=(0,(0,0))
def QI:Pt:=(Rf,Rf)
def RE:Ln:=(0,Rf)
def pD(x:Nm):Nm:=low x.2.2.toNat x.1 x.2.1
def Fit(x:Nm):Prop:=0<=x.2.2/\x.2.2<=1000/\ye x.1/\ye x.2.1
theorem qW{V:Int}{κ:Nat}{x:Nm}(h:Bd V κ x)(hV:0<=V)(hκ:κ<=60)(hb:V*2^κ<=4611686018427387904):Fit x:=by
 have hi:=tF h hV hb
 have h1:=h.1
 have h2:=h.2.1
 exact⟨h1,by omega,hi.1,hi.2⟩
theorem CM{x:Nm}(h:Fit x):bI x=some (cond (nN (pD x)) (pD x,true) (Rf,false)):=by
 obtain⟨h1,h2,h3,h4⟩:=h
 rw[bI,kD]
 have:=zI (a:=x.1) (b:=x.2.1) h1 h2 h3 h4
 have this:eD x=some (pD x):=this
 rw[this]
 simp only[Option.bind_some,zk]
 cases nN (pD x)<;>rfl
theorem J7{x:Nm}(h:Fit x):fj x=some (cond (nN (pD x)) (pD x,true) (Rf,false)):=by
 obtain⟨h1,h2,h3,h4⟩:=h
 rw[fj,jC]
 have:=BX (a:=x.1) (b:=x.2.1) h1 h2 h3 h4
 have this:cF x=some (pD x):=this
 rw[this]
 simp only[Option.bind_some,yv]
 cases nN (pD x)<;>rfl
def GD(p:Pt):Pt×Bool:=cond (jk (pD p.1,pD p.2)) ((pD p.1,pD p.2),true) (QI,false)
theorem zJ{p:Pt}(h1:Fit p.1)(h2:Fit p.2):fK p=some (GD p):=by
 rw[fK,oL,CM h1,CM h2]
 unfold GD jk
 cases nN (pD p.1)<;>cases nN (pD p.2)<;>rfl
theorem Dc{p:Pt}(h1:Fit p.1)(h2:Fit p.2):dm p=some (GD p):=by
 rw[dm,ik,J7 h1,J7 h2]
 unfold GD jk
 cases nN (pD p.1)<;>cases nN (pD p.2)<;>rfl
def L8(p q:Pt):Pt×Bool:=cond (jk p&&jk q) (GD (om p q)) (QI,false)
theorem HV{x:Nm}(h:0<=x.2.2):pD (lj x)=low (x.2.2.toNat+1) x.1 x.2.1:=by
 show low (x.2.2+1).toNat x.1 x.2.1=_
 rw[show(x.2.2+1).toNat=x.2.2.toNat+1 by omega]
theorem Ol(k:Nat)(a b:Int):pD (low k a b)=low k a b:=yD (mA k a b)
theorem Q3(p q:Pt):oU p q=some (L8 p q):=by
 rw[oU,pk,kh,kh]
 unfold L8
 simp only[Option.bind_some]
 cases hp:jk p
 ·rfl
 cases hq:jk q
 ·rfl
 have bp:=ek hp
 have bq:=ek hq
 simp only[Bool.not_true,cond_false,Bool.and_self,cond_true,bo,cg,Option.bind_some]
 have a1:=(ml bp.1 bq.1 (by decide) (by decide) (by decide) (by decide) (by decide)).1
 have a2:=(ml bp.2 bq.2 (by decide) (by decide) (by decide) (by decide) (by decide)).1
 have b1:=fC bp.1 bq.1
 have b2:=fC bp.2 bq.2
 have c1:=b1.1
 have c2:=b2.1
 have d1:=b1.2.1
 have d2:=b2.2.1
 have hb1:=tW (by decide) b1
 have hb2:=tW (by decide) b2
 simp only[a1,a2,Option.bind_some]
 rw[aG (n:=(ej p.1 q.1).2.2+1) (by omega) (by have:=d1;omega),aG (n:=(ej p.2 q.2).2.2+1) (by omega) (by have:=d2;omega)]
 show(fK (lj (ej p.1 q.1),lj (ej p.2 q.2))).bind _=_
 rw[zJ (qW hb1 (by decide) (by decide) (by decide)) (qW hb2 (by decide) (by decide) (by decide))]
 unfold GD om
 simp only[HV c1,HV c2,Ol,Option.bind_some]
theorem QR(p q:Pt):oS p q=some (L8 p q):=by
 rw[oS,pg,jx,jx]
 unfold L8
 simp only[Option.bind_some]
 cases hp:jk p
 ·rfl
 cases hq:jk q
 ·rfl
 have bp:=ek hp
 have bq:=ek hq
 simp only[Bool.not_true,cond_false,Bool.and_self,cond_true]
 have b1:=fC bp.1 bq.1
 have b2:=fC bp.2 bq.2
 rw[ks,mg,Jo bp bq (by decide) (by decide) (by decide) (by decide) (by decide),Option.bind_some]
 unfold Ax
 try simp only
 rw[yu b1 (by decide) (by decide) (by decide),Option.bind_some,yu b2 (by decide) (by decide) (by decide),Option.bind_some,Option.bind_some]
 have h1:=pR (by decide) b1
 have h2:=pR (by decide) b2
 show(dm (om p q)).bind _=_
 rw[Dc (p:=om p q) (qW h1 (by decide) (by decide) (by decide)) (qW h2 (by decide) (by decide) (by decide)),Option.bind_some]
def DC(l:Ln)(p:Pt):Pt×Bool:=cond (fg l&&jk p) (GD (dT l p)) (QI,false)
theorem PW(l:Ln)(p:Pt):kH l p=some (DC l p):=by
 rw[kH,kJ,kQ,kh]
 unfold DC
 simp only[Option.bind_some]
 cases hl:fg l
 ·rfl
 cases hp:jk p
 ·rfl
 obtain⟨l0,l1,lb,_⟩:=cV hl
 have bp:=ek hp
 have bl:=lb.mono (V':=786432) (κ':=10) (by decide) (by decide)
 simp only[Bool.not_true,cond_false,Bool.and_self,cond_true,bF,dZ,aV,cI,bo,cg,Option.bind_some]
 have hb:=uo l0 l1 bl (by decide) (by decide) bp
 rw[(pG l0 l1 bl (by decide) (by decide) (by decide) bp (by decide)).1,Option.bind_some,zJ (qW hb.1 (by decide) (by decide) (by decide)) (qW hb.2 (by decide) (by decide) (by decide)),Option.bind_some]
theorem J8(l:Ln)(p:Pt):ee l p=some (DC l p):=by
 rw[ee,jc,eW,jx]
 unfold DC
 simp only[Option.bind_some]
 cases hl:fg l
 ·rfl
 cases hp:jk p
 ·rfl
 obtain⟨l0,l1,lb,_⟩:=cV hl
 have bp:=ek hp
 have bl:=lb.mono (V':=786432) (κ':=10) (by decide) (by decide)
 simp only[Bool.not_true,cond_false,Bool.and_self,cond_true]
 have hb:=uo l0 l1 bl (by decide) (by decide) bp
 rw[(pG l0 l1 bl (by decide) (by decide) (by decide) bp (by decide)).2,Option.bind_some,Dc (qW hb.1 (by decide) (by decide) (by decide)) (qW hb.2 (by decide) (by decide) (by decide)),Option.bind_some]
def QU(X:Ln):Ln×Bool:=cond (nN X.2) (X,true) (RE,false)
def Hq(f l:Ln):Int:=(2*f.1-l.1)%8
def Jq(f l:Ln):Ln×Bool:=cond (fg f&&fg l) (QU (kA (dT f (iz l)) (Hq f l))) (RE,false)
theorem QT(p:Pt)(d:Int):(kA p d).2=cw (aC (d+4)) p:=rfl
theorem Px(X:Ln)(hX:X.2.can)(hf:Fit X.2):(Option.bind (bI X.2) fun y=>cond (!y.2) (some (((0:Int),((0:Int),((0:Int),(0:Int)))),Bool.false)) (some ((X.1,y.1),Bool.true)))=some (QU X):=by
 rw[CM hf,show pD X.2=X.2 from yD hX]
 unfold QU
 cases nN X.2<;>rfl
theorem Pf(X:Ln):(Option.bind (dA X.2) fun y=>cond (!y) (some (((0:Int),((0:Int),((0:Int),(0:Int)))),Bool.false)) (some (X,Bool.true)))=some (QU X):=by
 rw[yv]
 unfold QU
 simp only[Option.bind_some]
 cases nN X.2<;>rfl
theorem PV(f l:Ln):lr f l=some (Jq f l):=by
 rw[lr,lJ,kQ,kQ]
 unfold Jq
 simp only[Option.bind_some]
 cases hf:fg f
 ·rfl
 cases hl:fg l
 ·rfl
 obtain⟨f0,f1,fb,fc⟩:=cV hf
 obtain⟨l0,l1,lb,lc⟩:=cV hl
 have fb:=fb.mono (V':=786432) (κ':=10) (by decide) (by decide)
 simp only[Bool.not_true,cond_false,Bool.and_self,cond_true,bF,dZ,bo,cg,Option.bind_some]
 have hfb:=FO l0 l1 lb
 have hrb:=uo f0 f1 fb (by decide) (by decide) hfb
 have e1:=(IT l0 l1 lb).1
 have e2:=(pG f0 f1 fb (by decide) (by decide) (by decide) hfb (by decide)).1
 have e3:=rk (d:=2*f.1-l.1) (by omega) (by omega) (by decide) (by decide) hrb (by decide)
 have hm:(2*f.1-l.1)%8=Hq f l:=rfl
 have h0:0<=Hq f l:=by unfold Hq;omega
 have h7:Hq f l<=7:=by unfold Hq;omega
 rw[hm]at e3
 have hdb:=ln (V:=1) (by decide) (en (d:=Hq f l+4) (by omega) (by omega)) hrb
 have hF:=qW hdb (by decide) (by decide) (by decide)
 have hC:(cw (aC (Hq f l+4)) (dT f (iz l))).can:=ep _ _
 rw[<-QT]at hF hC
 have hX:=Px _ hC hF
 generalize kA (dT f (iz l)) (Hq f l)=X at e3 hX
 generalize dT f (iz l)=Y at e2 e3
 generalize iz l=Z at e1 e2
 rw[aG (n:=2*f.1) (by omega) (by omega),aG (n:=2*f.1-l.1) (by omega) (by omega),e1,Option.bind_some,e2,Option.bind_some,e3,Option.bind_some]
 exact hX
theorem PN(f l:Ln):lp f l=some (Jq f l):=by
 rw[lp,lE,eW,eW]
 unfold Jq
 simp only[Option.bind_some]
 cases hf:fg f
 ·rfl
 cases hl:fg l
 ·rfl
 obtain⟨f0,f1,fb,fc⟩:=cV hf
 obtain⟨l0,l1,lb,lc⟩:=cV hl
 have fb:=fb.mono (V':=786432) (κ':=10) (by decide) (by decide)
 simp only[Bool.not_true,cond_false,Bool.and_self,cond_true]
 have hfb:=FO l0 l1 lb
 have hrb:=uo f0 f1 fb (by decide) (by decide) hfb
 rw[(IT l0 l1 lb).2,Option.bind_some,(pG f0 f1 fb (by decide) (by decide) (by decide) hfb (by decide)).2,Option.bind_some,QM,aG (n:=2*f.1) (by omega) (by omega),aG (n:=2*f.1-l.1) (by omega) (by omega),
  pS (by omega) (by omega) (by decide) (by decide) hrb (by decide),Option.bind_some]
 exact Pf (kA (dT f (iz l)) (Hq f l))
def Jb(l m:Ln):Pt×Int:=cond (fg l&&fg m) (cond (l.1==m.1) (QI,7) (cond (jk (pD (eP l m).1,pD (eP l m).2)) ((pD (eP l m).1,pD (eP l m).2),0) (QI,2))) (QI,1)
theorem Kg{l m:Ln}(hl:fg l=true)(hm:fg m=true)(hne:l.1≠m.1):Fit (eP l m).1/\Fit (eP l m).2:=by
 have h:=Gi hl hm hne trivial
 exact⟨qW h.1 (by decide) (by decide) (by decide),qW h.2 (by decide) (by decide) (by decide)⟩
theorem PU(l m:Ln):nk l m=some (Jb l m):=by
 rw[nk,nB,kQ,kQ]
 unfold Jb
 simp only[Option.bind_some]
 cases hl:fg l
 ·rfl
 cases hm:fg m
 ·rfl
 simp only[Bool.not_true,cond_false,Bool.and_self,cond_true,bF,dZ,bo,cg,Option.bind_some]
 cases he:l.1==m.1
 ·have hne:l.1≠m.1:=fun e=>by rw[e]at he;simp at he
  obtain⟨f1,f2⟩:=Kg hl hm hne
  simp only[cond_false]
  show(jw l m).bind _=_
  rw[Kv hl hm hne trivial,Option.bind_some,zJ f1 f2,Option.bind_some]
  unfold GD
  cases jk (pD (eP l m).1,pD (eP l m).2)<;>rfl
 ·rfl
theorem PM(l m:Ln):nh l m=some (Jb l m):=by
 rw[nh,nz,eW,eW]
 unfold Jb
 simp only[Option.bind_some]
 cases hl:fg l
 ·rfl
 cases hm:fg m
 ·rfl
 simp only[Bool.not_true,cond_false,Bool.and_self,cond_true]
 cases he:l.1==m.1
 ·have hne:l.1≠m.1:=fun e=>by rw[e]at he;simp at he
  obtain⟨f1,f2⟩:=Kg hl hm hne
  simp only[cond_false]
  rw[J5 hl hm hne trivial,Option.bind_some]
  simp only[Bool.not_true,cond_false]
  rw[Dc f1 f2,Option.bind_some]
  unfold GD
  cases jk (pD (eP l m).1,pD (eP l m).2)<;>rfl
 ·rfl
end Go.Proofs.YtjkljnflaifbhaaDoor
