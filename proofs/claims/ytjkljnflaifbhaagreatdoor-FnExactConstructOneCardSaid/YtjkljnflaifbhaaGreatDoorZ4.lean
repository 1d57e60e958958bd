/- No conditions. -/
import Derived.Test.YtjkljnflaifbhaaGreatDoorZ3c
namespace Go.Proofs.YtjkljnflaifbhaaGreatDoor
open Go.Vai
def zNm:Nm:=(0,(0,0))
def zPt:Pt:=(zNm,zNm)
def zLn:Ln:=(0,zNm)
def yu(x:Nm):Nm:=low x.2.2.toNat x.1 x.2.1
def Fit(x:Nm):Prop:=0<=x.2.2/\x.2.2<=1000/\Hm x.1/\Hm x.2.1
theorem BX{V:Int}{κ:Nat}{x:Nm}(h:Bd V κ x)(hV:0<=V)(hκ:κ<=60)(hb:V*2^κ<=4611686018427387904):Fit x:=by
 have hi:=BY h hV hb
 have h1:=h.1
 have h2:=h.2.1
 exact⟨h1,by omega,hi.1,hi.2⟩
theorem Sw{x:Nm}(h:Fit x):eI x=some (cond (Aa (yu x)) (yu x,true) (zNm,false)):=by
 obtain⟨h1,h2,h3,h4⟩:=h
 rw[eI,pM]
 have:=I3 (a:=x.1) (b:=x.2.1) h1 h2 h3 h4
 have this:gO x=some (yu x):=this
 rw[this]
 simp only[Option.bind_some,IG]
 cases Aa (yu x)<;>rfl
theorem VE{x:Nm}(h:Fit x):je x=some (cond (Aa (yu x)) (yu x,true) (zNm,false)):=by
 obtain⟨h1,h2,h3,h4⟩:=h
 rw[je,ob]
 have:=LT (a:=x.1) (b:=x.2.1) h1 h2 h3 h4
 have this:dk x=some (yu x):=this
 rw[this]
 simp only[Option.bind_some,HF]
 cases Aa (yu x)<;>rfl
def UQ(p:Pt):Pt×Bool:=cond (ny (yu p.1,yu p.2)) ((yu p.1,yu p.2),true) (zPt,false)
theorem On{p:Pt}(h1:Fit p.1)(h2:Fit p.2):lK p=some (UQ p):=by
 rw[lK,vH,Sw h1,Sw h2]
 unfold UQ ny
 cases Aa (yu p.1)<;>cases Aa (yu p.2)<;>rfl
theorem Nu{p:Pt}(h1:Fit p.1)(h2:Fit p.2):eg p=some (UQ p):=by
 rw[eg,lT,VE h1,VE h2]
 unfold UQ ny
 cases Aa (yu p.1)<;>cases Aa (yu p.2)<;>rfl
def Xx(p q:Pt):Pt×Bool:=cond (ny p&&ny q) (UQ (RI p q)) (zPt,false)
theorem Tz{x:Nm}(h:0<=x.2.2):yu (qO x)=low (x.2.2.toNat+1) x.1 x.2.1:=by
 show low (x.2.2+1).toNat x.1 x.2.1=_
 rw[show(x.2.2+1).toNat=x.2.2.toNat+1 by omega]
theorem Zn(k:Nat)(a b:Int):yu (low k a b)=low k a b:=Ry (sL k a b)
theorem ZP(p q:Pt):mE p q=some (Xx p q):=by
 rw[mE,rJ,fk,fk]
 unfold Xx
 simp only[Option.bind_some]
 cases hp:ny p
 ·rfl
 cases hq:ny q
 ·rfl
 have bp:=iQ hp
 have bq:=iQ hq
 simp only[Bool.not_true,cond_false,Bool.and_self,cond_true,bY,cV,Option.bind_some]
 have a1:=(ux bp.1 bq.1 (by decide) (by decide) (by decide) (by decide) (by decide)).1
 have a2:=(ux bp.2 bq.2 (by decide) (by decide) (by decide) (by decide) (by decide)).1
 have b1:=lG bp.1 bq.1
 have b2:=lG bp.2 bq.2
 have c1:=b1.1
 have c2:=b2.1
 have d1:=b1.2.1
 have d2:=b2.2.1
 have hb1:=Ci (by decide) b1
 have hb2:=Ci (by decide) b2
 simp only[a1,a2,Option.bind_some]
 rw[aM (n:=(jQ p.1 q.1).2.2+1) (by omega) (by have:=d1;omega),aM (n:=(jQ p.2 q.2).2.2+1) (by omega) (by have:=d2;omega)]
 show(lK (qO (jQ p.1 q.1),qO (jQ p.2 q.2))).bind _=_
 rw[On (BX hb1 (by decide) (by decide) (by decide)) (BX hb2 (by decide) (by decide) (by decide))]
 unfold UQ RI
 simp only[Tz c1,Tz c2,Zn,Option.bind_some]
theorem Ze(p q:Pt):mC p q=some (Xx p q):=by
 rw[mC,rA,fD,fD]
 unfold Xx
 simp only[Option.bind_some]
 cases hp:ny p
 ·rfl
 cases hq:ny q
 ·rfl
 have bp:=iQ hp
 have bq:=iQ hq
 simp only[Bool.not_true,cond_false,Bool.and_self,cond_true]
 have b1:=lG bp.1 bq.1
 have b2:=lG bp.2 bq.2
 rw[pF,rZ,UL bp bq (by decide) (by decide) (by decide) (by decide) (by decide),Option.bind_some]
 unfold TN
 try simp only
 rw[HE b1 (by decide) (by decide) (by decide),Option.bind_some,HE b2 (by decide) (by decide) (by decide),Option.bind_some,Option.bind_some]
 have h1:=wE (by decide) b1
 have h2:=wE (by decide) b2
 show(eg (RI p q)).bind _=_
 rw[Nu (p:=RI p q) (BX h1 (by decide) (by decide) (by decide)) (BX h2 (by decide) (by decide) (by decide)),Option.bind_some]
def UO(l:Ln)(p:Pt):Pt×Bool:=cond (lY l&&ny p) (UQ (Ee l p)) (zPt,false)
theorem V8(l:Ln)(p:Pt):iA l p=some (UO l p):=by
 rw[iA,nd,fE,fk]
 unfold UO
 simp only[Option.bind_some]
 cases hl:lY l
 ·rfl
 cases hp:ny p
 ·rfl
 obtain⟨l0,l1,lb,_⟩:=jk hl
 have bp:=iQ hp
 have bl:=lb.mono (V':=786432) (κ':=10) (by decide) (by decide)
 simp only[Bool.not_true,cond_false,Bool.and_self,cond_true,bP,fm,bj,dH,bY,cV,Option.bind_some]
 have hb:=Ip l0 l1 bl (by decide) (by decide) bp
 rw[(CT l0 l1 bl (by decide) (by decide) (by decide) bp (by decide)).1,Option.bind_some,On (BX hb.1 (by decide) (by decide) (by decide)) (BX hb.2 (by decide) (by decide) (by decide)),Option.bind_some]
theorem VG(l:Ln)(p:Pt):iz l p=some (UO l p):=by
 rw[iz,na,eS,fD]
 unfold UO
 simp only[Option.bind_some]
 cases hl:lY l
 ·rfl
 cases hp:ny p
 ·rfl
 obtain⟨l0,l1,lb,_⟩:=jk hl
 have bp:=iQ hp
 have bl:=lb.mono (V':=786432) (κ':=10) (by decide) (by decide)
 simp only[Bool.not_true,cond_false,Bool.and_self,cond_true]
 have hb:=Ip l0 l1 bl (by decide) (by decide) bp
 rw[(CT l0 l1 bl (by decide) (by decide) (by decide) bp (by decide)).2,Option.bind_some,Nu (BX hb.1 (by decide) (by decide) (by decide)) (BX hb.2 (by decide) (by decide) (by decide)),Option.bind_some]
def lnR(X:Ln):Ln×Bool:=cond (Aa X.2) (X,true) (zLn,false)
def SX(f l:Ln):Int:=(2*f.1-l.1)%8
def UN(f l:Ln):Ln×Bool:=cond (lY f&&lY l) (lnR (Ah (Ee f (JO l)) (SX f l))) (zLn,false)
theorem ach(p:Pt)(d:Int):(Ah p d).2=oG (fo (d+4)) p:=rfl
theorem aaJ(X:Ln)(hX:X.2.can)(hf:Fit X.2):(Option.bind (eI X.2) fun y=>cond (!y.2) (some (((0:Int),((0:Int),((0:Int),(0:Int)))),Bool.false)) (some ((X.1,y.1),Bool.true)))=some (lnR X):=by
 rw[Sw hf,show yu X.2=X.2 from Ry hX]
 unfold lnR
 cases Aa X.2<;>rfl
theorem aak(X:Ln):(Option.bind (fd X.2) fun y=>cond (!y) (some (((0:Int),((0:Int),((0:Int),(0:Int)))),Bool.false)) (some (X,Bool.true)))=some (lnR X):=by
 rw[HF]
 unfold lnR
 simp only[Option.bind_some]
 cases Aa X.2<;>rfl
theorem V7(f l:Ln):jh f l=some (UN f l):=by
 rw[jh,oq,fE,fE]
 unfold UN
 simp only[Option.bind_some]
 cases hf:lY f
 ·rfl
 cases hl:lY l
 ·rfl
 obtain⟨f0,f1,fb,fc⟩:=jk hf
 obtain⟨l0,l1,lb,lc⟩:=jk hl
 have fb:=fb.mono (V':=786432) (κ':=10) (by decide) (by decide)
 simp only[Bool.not_true,cond_false,Bool.and_self,cond_true,bP,fm,bY,cV,Option.bind_some]
 have hfb:=Vw l0 l1 lb
 have hrb:=Ip f0 f1 fb (by decide) (by decide) hfb
 have e1:=(Xo l0 l1 lb).1
 have e2:=(CT f0 f1 fb (by decide) (by decide) (by decide) hfb (by decide)).1
 have e3:=yK (d:=2*f.1-l.1) (by omega) (by omega) (by decide) (by decide) hrb (by decide)
 have hm:(2*f.1-l.1)%8=SX f l:=rfl
 have h0:0<=SX f l:=by unfold SX;omega
 have h7:SX f l<=7:=by unfold SX;omega
 rw[hm]at e3
 have hdb:=qT (V:=1) (by decide) (gv (d:=SX f l+4) (by omega) (by omega)) hrb
 have hF:=BX hdb (by decide) (by decide) (by decide)
 have hC:(oG (fo (SX f l+4)) (Ee f (JO l))).can:=kM _ _
 rw[<-ach]at hF hC
 have hX:=aaJ _ hC hF
 generalize Ah (Ee f (JO l)) (SX f l)=X at e3 hX
 generalize Ee f (JO l)=Y at e2 e3
 generalize JO l=Z at e1 e2
 rw[aM (n:=2*f.1) (by omega) (by omega),aM (n:=2*f.1-l.1) (by omega) (by omega),e1,Option.bind_some,e2,Option.bind_some,e3,Option.bind_some]
 exact hX
theorem VF(f l:Ln):jg f l=some (UN f l):=by
 rw[jg,oi,eS,eS]
 unfold UN
 simp only[Option.bind_some]
 cases hf:lY f
 ·rfl
 cases hl:lY l
 ·rfl
 obtain⟨f0,f1,fb,fc⟩:=jk hf
 obtain⟨l0,l1,lb,lc⟩:=jk hl
 have fb:=fb.mono (V':=786432) (κ':=10) (by decide) (by decide)
 simp only[Bool.not_true,cond_false,Bool.and_self,cond_true]
 have hfb:=Vw l0 l1 lb
 have hrb:=Ip f0 f1 fb (by decide) (by decide) hfb
 rw[(Xo l0 l1 lb).2,Option.bind_some,(CT f0 f1 fb (by decide) (by decide) (by decide) hfb (by decide)).2,Option.bind_some,acH,aM (n:=2*f.1) (by omega) (by omega),aM (n:=2*f.1-l.1) (by omega) (by omega),
  yr (by omega) (by omega) (by decide) (by decide) hrb (by decide),Option.bind_some]
 exact aak (Ah (Ee f (JO l)) (SX f l))
def UC(l m:Ln):Pt×Int:=cond (lY l&&lY m) (cond (l.1==m.1) (zPt,7) (cond (ny (yu (nl l m).1,yu (nl l m).2)) ((yu (nl l m).1,yu (nl l m).2),0) (zPt,2))) (zPt,1)
theorem VQ{l m:Ln}(hl:lY l=true)(hm:lY m=true)(hne:l.1≠m.1):Fit (nl l m).1/\Fit (nl l m).2:=by
 have h:=RF hl hm hne trivial
 exact⟨BX h.1 (by decide) (by decide) (by decide),BX h.2 (by decide) (by decide) (by decide)⟩
theorem V6(l m:Ln):lm l m=some (UC l m):=by
 rw[lm,qG,fE,fE]
 unfold UC
 simp only[Option.bind_some]
 cases hl:lY l
 ·rfl
 cases hm:lY m
 ·rfl
 simp only[Bool.not_true,cond_false,Bool.and_self,cond_true,bP,fm,bY,cV,Option.bind_some]
 cases he:l.1==m.1
 ·have hne:l.1≠m.1:=fun e=>by rw[e]at he;simp at he
  obtain⟨f1,f2⟩:=VQ hl hm hne
  simp only[cond_false]
  show(lN l m).bind _=_
  rw[V3 hl hm hne trivial,Option.bind_some,On f1 f2,Option.bind_some]
  unfold UQ
  cases ny (yu (nl l m).1,yu (nl l m).2)<;>rfl
 ·rfl
theorem VD(l m:Ln):la l m=some (UC l m):=by
 rw[la,qq,eS,eS]
 unfold UC
 simp only[Option.bind_some]
 cases hl:lY l
 ·rfl
 cases hm:lY m
 ·rfl
 simp only[Bool.not_true,cond_false,Bool.and_self,cond_true]
 cases he:l.1==m.1
 ·have hne:l.1≠m.1:=fun e=>by rw[e]at he;simp at he
  obtain⟨f1,f2⟩:=VQ hl hm hne
  simp only[cond_false]
  rw[VB hl hm hne trivial,Option.bind_some]
  simp only[Bool.not_true,cond_false]
  rw[Nu f1 f2,Option.bind_some]
  unfold UQ
  cases ny (yu (nl l m).1,yu (nl l m).2)<;>rfl
 ·rfl
end Go.Proofs.YtjkljnflaifbhaaGreatDoor
