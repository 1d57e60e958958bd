/- No conditions. -/
import Derived.Test.YtjkljnflaifbhaaGreatDoorPK
namespace Go.Vai
abbrev Nm:=Int×(Int×Int)
def low:Nat->Int->Int->Nm
 |0,a,b=>(a,(b,0))
 |k+1,a,b=>if a%2=0/\b%2=0 then low k (a/2) (b/2)else(a,(b,((k+1:Nat):Int)))
def Nm.can(x:Nm):Prop:=0<=x.2.2/\(x.2.2=0\/x.1%2≠0\/x.2.1%2≠0)
def vA(x:Nm):Rat:=(x.1:Rat)/2^x.2.2.toNat
def vB(x:Nm):Rat:=(x.2.1:Rat)/2^x.2.2.toNat
theorem aN(k:Nat):(2:Rat)^k≠0:=by
 have:(0:Rat)<2^k:=Rat.pow_pos (by decide)
 intro h
 rw[h]at this
 exact absurd this (by decide)
theorem lN:∀k a b,(low k a b).can
 |0,a,b=>⟨by simp[low], .inl rfl⟩
 |k+1,a,b=>by
  rw[low]
  split
  ·exact lN k _ _
  ·rename_i h
   refine⟨by simp;omega, .inr ?_⟩
   by_cases ha:a%2=0
   ·exact .inr (fun hb=>h ⟨ha,hb⟩)
   ·exact .inl ha
theorem R4(k:Nat)(a b:Int):0<=(low k a b).2.2:=(lN k a b).1
theorem Lj:∀(k:Nat) (a b:Int),(low k a b).2.2<=k
 |0,a,b=>by simp[low]
 |k+1,a,b=>by
  rw[low]
  split
  ·have:=Lj k (a/2) (b/2)
   omega
  ·simp
theorem I5{a:Int}(h:a%2=0):((a/2:Int):Rat)=(a:Rat)/2:=by
 have:a=2*(a/2):=by omega
 have h2:(a:Rat)=2*((a/2:Int):Rat):=by
  conv=>lhs;rw[this]
  simp
 grind
theorem Kh:∀(k:Nat) (a b:Int),vA (low k a b)=(a:Rat)/2^k/\vB (low k a b)=(b:Rat)/2^k
 |0,a,b=>by simp[low,vA,vB]
 |k+1,a,b=>by
  rw[low]
  split
  ·rename_i h
   have IH:=Kh k (a/2) (b/2)
   rw[I5 h.1,I5 h.2]at IH
   have:=aN k
   constructor
   ·rw[IH.1];grind
   ·rw[IH.2];grind
  ·exact⟨rfl,rfl⟩
theorem sK(k:Nat)(a b:Int):vA (low k a b)=(a:Rat)/2^k:=(Kh k a b).1
theorem sL(k:Nat)(a b:Int):vB (low k a b)=(b:Rat)/2^k:=(Kh k a b).2
theorem JE{x y:Nm}(hA:vA x=vA y):x.1*2^y.2.2.toNat=y.1*2^x.2.2.toNat:=by
 have h1:=aN x.2.2.toNat
 have h2:=aN y.2.2.toNat
 unfold vA at hA
 have:(x.1:Rat)*2^y.2.2.toNat=(y.1:Rat)*2^x.2.2.toNat:=by grind
 have h3:((x.1*2^y.2.2.toNat:Int):Rat)=((y.1*2^x.2.2.toNat:Int):Rat):=by simpa using this
 exact Rat.intCast_inj.1 h3
theorem Iy{x y:Nm}(hA:vB x=vB y):x.2.1*2^y.2.2.toNat=y.2.1*2^x.2.2.toNat:=by
 have h1:=aN x.2.2.toNat
 have h2:=aN y.2.2.toNat
 unfold vB at hA
 have:(x.2.1:Rat)*2^y.2.2.toNat=(y.2.1:Rat)*2^x.2.2.toNat:=by grind
 have h3:((x.2.1*2^y.2.2.toNat:Int):Rat)=((y.2.1*2^x.2.2.toNat:Int):Rat):=by simpa using this
 exact Rat.intCast_inj.1 h3
theorem Jp{m n:Nat}(h:m<=n):(2:Int)^n=2^m*2^(n-m):=by
 rw[<-Int.pow_add];congr 1;omega
theorem xI{a b:Int}{m:Nat}(h:a*2^m=b*2^m):a=b:=
 Int.eq_of_mul_eq_mul_right (Int.ne_of_gt (Int.pow_pos (by decide))) h
theorem K6(a:Int){m:Nat}(h:0<m):(a*2^m)%2=0:=by
 obtain⟨j,rfl⟩:∃j,m=j+1:=⟨m-1,by omega⟩
 rw[Int.pow_succ]
 have:a*(2^j*2)=2*(a*2^j):=by grind
 rw[this];omega
theorem OW{x y:Nm}(hy:y.can)(hA:vA x=vA y)(hB:vB x=vB y):y.2.2.toNat<=x.2.2.toNat:=by
 have h1:=JE hA
 have h2:=Iy hB
 by_cases h:y.2.2.toNat<=x.2.2.toNat
 ·exact h
 ·exfalso
  have hs:=Jp (show x.2.2.toNat<=y.2.2.toNat by omega)
  rw[hs,<-Int.mul_assoc,Int.mul_right_comm]at h1 h2
  have e1:=xI h1
  have e2:=xI h2
  have hm:0<y.2.2.toNat-x.2.2.toNat:=by omega
  have p1:=K6 x.1 hm
  have p2:=K6 x.2.1 hm
  rw[e1]at p1
  rw[e2]at p2
  rcases hy.2 with h|h|h
  ·omega
  ·exact h p1
  ·exact h p2
theorem ex{x y:Nm}(hx:x.can)(hy:y.can)(hA:vA x=vA y)(hB:vB x=vB y):x=y:=by
 have h1:=OW hy hA hB
 have h2:=OW hx hA.symm hB.symm
 have hk:x.2.2=y.2.2:=by have:=hx.1;have:=hy.1;omega
 have e1:=JE hA
 have e2:=Iy hB
 rw[hk]at e1 e2
 exact Prod.ext (xI e1) (Prod.ext (xI e2) hk)
def ej(x y:Nm):Nm:=
 low (max x.2.2.toNat y.2.2.toNat) (x.1*2^(max x.2.2.toNat y.2.2.toNat-x.2.2.toNat)+y.1*2^(max x.2.2.toNat y.2.2.toNat-y.2.2.toNat))
  (x.2.1*2^(max x.2.2.toNat y.2.2.toNat-x.2.2.toNat)+y.2.1*2^(max x.2.2.toNat y.2.2.toNat-y.2.2.toNat))
def kQ(x y:Nm):Nm:=low (x.2.2.toNat+y.2.2.toNat) (x.1*y.1+2*x.2.1*y.2.1) (x.1*y.2.1+x.2.1*y.1)
def Gi(x:Nm):Nm:=(-x.1,(-x.2.1,x.2.2))
def ur(t:Nat)(x y:Nm):Nm:=low (x.2.2.toNat+t) (x.1*y.1-2*x.2.1*y.2.1) (x.2.1*y.1-x.1*y.2.1)
theorem jf(m:Nat):∀n:Nat,(2:Rat)^(m+n)=2^m*2^n
 |0=>by simp
 |n+1=>by
  rw[<-Nat.add_assoc,Rat.pow_succ,Rat.pow_succ,jf m n]
  grind
theorem EM{m n:Nat}(h:m<=n):(2:Rat)^n=2^m*2^(n-m):=by
 rw[<-jf];congr 1;omega
theorem iH(x y:Nm):vA (ej x y)=vA x+vA y:=by
 unfold ej
 rw[sK]
 unfold vA
 have h1:=aN x.2.2.toNat
 have h2:=aN y.2.2.toNat
 have h3:=EM (Nat.le_max_left x.2.2.toNat y.2.2.toNat)
 have h4:=EM (Nat.le_max_right x.2.2.toNat y.2.2.toNat)
 have h5:=aN (max x.2.2.toNat y.2.2.toNat)
 simp only[Rat.intCast_add,Rat.intCast_mul,Rat.intCast_pow]
 simp only[Rat.intCast_ofNat]
 generalize (2:Rat)^(max x.2.2.toNat y.2.2.toNat-x.2.2.toNat)=u at*
 generalize (2:Rat)^(max x.2.2.toNat y.2.2.toNat-y.2.2.toNat)=v at*
 generalize (2:Rat)^(max x.2.2.toNat y.2.2.toNat)=w at*
 generalize (2:Rat)^x.2.2.toNat=p at*
 generalize (2:Rat)^y.2.2.toNat=q at*
 grind
theorem iI(x y:Nm):vB (ej x y)=vB x+vB y:=by
 unfold ej
 rw[sL]
 unfold vB
 have h1:=aN x.2.2.toNat
 have h2:=aN y.2.2.toNat
 have h3:=EM (Nat.le_max_left x.2.2.toNat y.2.2.toNat)
 have h4:=EM (Nat.le_max_right x.2.2.toNat y.2.2.toNat)
 have h5:=aN (max x.2.2.toNat y.2.2.toNat)
 simp only[Rat.intCast_add,Rat.intCast_mul,Rat.intCast_pow]
 simp only[Rat.intCast_ofNat]
 generalize (2:Rat)^(max x.2.2.toNat y.2.2.toNat-x.2.2.toNat)=u at*
 generalize (2:Rat)^(max x.2.2.toNat y.2.2.toNat-y.2.2.toNat)=v at*
 generalize (2:Rat)^(max x.2.2.toNat y.2.2.toNat)=w at*
 generalize (2:Rat)^x.2.2.toNat=p at*
 generalize (2:Rat)^y.2.2.toNat=q at*
 grind
theorem lO(x y:Nm):vA (kQ x y)=vA x*vA y+2*(vB x*vB y):=by
 unfold kQ
 rw[sK]
 unfold vA vB
 have h1:=aN x.2.2.toNat
 have h2:=aN y.2.2.toNat
 rw[jf]
 simp only[Rat.intCast_add,Rat.intCast_mul,Rat.intCast_ofNat]
 grind
theorem lP(x y:Nm):vB (kQ x y)=vA x*vB y+vB x*vA y:=by
 unfold kQ
 rw[sL]
 unfold vA vB
 have h1:=aN x.2.2.toNat
 have h2:=aN y.2.2.toNat
 rw[jf]
 simp only[Rat.intCast_add,Rat.intCast_mul]
 grind
theorem GE(x:Nm):vA (Gi x)= -vA x:=by
 unfold Gi vA
 simp only[Rat.intCast_neg]
 grind
theorem GF(x:Nm):vB (Gi x)= -vB x:=by
 unfold Gi vB
 simp only[Rat.intCast_neg]
 grind
theorem CT(t:Nat)(x y:Nm):vA (ur t x y)=(vA x*y.1-2*(vB x*y.2.1))/2^t:=by
 unfold ur
 rw[sK]
 unfold vA vB
 have h1:=aN x.2.2.toNat
 have h2:=aN t
 rw[jf]
 simp only[Rat.intCast_sub,Rat.intCast_mul,Rat.intCast_ofNat]
 grind
theorem CU(t:Nat)(x y:Nm):vB (ur t x y)=(vB x*y.1-vA x*y.2.1)/2^t:=by
 unfold ur
 rw[sL]
 unfold vA vB
 have h1:=aN x.2.2.toNat
 have h2:=aN t
 rw[jf]
 simp only[Rat.intCast_sub,Rat.intCast_mul]
 grind
theorem co(x y:Nm):(ej x y).can:=lN _ _ _
theorem R5(x y:Nm):(kQ x y).can:=lN _ _ _
theorem RS(t:Nat)(x y:Nm):(ur t x y).can:=lN _ _ _
theorem Pr{x:Nm}(h:x.can):(Gi x).can:=by
 refine⟨h.1, ?_⟩
 rcases h.2 with h|h|h
 ·exact .inl h
 ·refine .inr (.inl ?_);show(-x.1)%2≠0;omega
 ·refine .inr (.inr ?_);show(-x.2.1)%2≠0;omega
def Bd(V:Int)(κ:Nat)(x:Nm):Prop:=
 0<=x.2.2/\x.2.2<=κ/\(-(V*2^x.2.2.toNat)<=x.1/\x.1<=V*2^x.2.2.toNat)/\(-(V*2^x.2.2.toNat)<=x.2.1/\x.2.1<=V*2^x.2.2.toNat)
theorem B9{V:Int}:∀(k:Nat) (a b:Int), -(V*2^k)<=a->a<=V*2^k-> -(V*2^k)<=b->b<=V*2^k->Bd V k (low k a b)
 |0,a,b,h1,h2,h3,h4=>⟨by simp[low],by simp[low],⟨h1,h2⟩,⟨h3,h4⟩⟩
 |k+1,a,b,h1,h2,h3,h4=>by
  rw[low]
  split
  ·rename_i h
   have e:V*2^(k+1)=2*(V*2^k):=by rw[Int.pow_succ];grind
   rw[e]at h1 h2 h3 h4
   have:=B9 (V:=V) k (a/2) (b/2) (by omega) (by omega) (by omega) (by omega)
   exact⟨this.1,by have:=this.2.1;omega,this.2.2⟩
  ·exact⟨by simp;omega,by simp,⟨h1,h2⟩,⟨h3,h4⟩⟩
theorem Bd.mono{V V':Int}{κ κ':Nat}{x:Nm}(h:Bd V κ x)(hV:V<=V')(hκ:κ<=κ'):Bd V' κ' x:=by
 have:V*2^x.2.2.toNat<=V'*2^x.2.2.toNat:=Int.mul_le_mul_of_nonneg_right hV (Int.le_of_lt (Int.pow_pos (by decide)))
 obtain⟨h1,h2,h3,h4⟩:=h
 exact⟨h1,by omega,by omega,by omega⟩
theorem FF{V a:Int}{k K:Nat}(hk:k<=K)(h1: -(V*2^k)<=a)(h2:a<=V*2^k): -(V*2^K)<=a*2^(K-k)/\a*2^(K-k)<=V*2^K:=by
 have hp:(0:Int)<=2^(K-k):=Int.le_of_lt (Int.pow_pos (by decide))
 have e:V*2^K=V*2^k*2^(K-k):=by rw[Int.mul_assoc,<-Jp hk]
 rw[e]
 refine⟨?_,Int.mul_le_mul_of_nonneg_right h2 hp⟩
 have:=Int.mul_le_mul_of_nonneg_right h1 hp
 rw[Int.neg_mul]at this
 exact this
theorem fI{V V':Int}{κ κ':Nat}{x y:Nm}(hx:Bd V κ x)(hy:Bd V' κ' y):Bd (V+V') (max κ κ') (ej x y):=by
 obtain⟨x1,x2,x3,x4⟩:=hx
 obtain⟨y1,y2,y3,y4⟩:=hy
 have hK:max x.2.2.toNat y.2.2.toNat<=max κ κ':=by omega
 have a1:=FF (Nat.le_max_left x.2.2.toNat y.2.2.toNat) x3.1 x3.2
 have a2:=FF (Nat.le_max_left x.2.2.toNat y.2.2.toNat) x4.1 x4.2
 have a3:=FF (Nat.le_max_right x.2.2.toNat y.2.2.toNat) y3.1 y3.2
 have a4:=FF (Nat.le_max_right x.2.2.toNat y.2.2.toNat) y4.1 y4.2
 unfold ej
 have e:(V+V')*2^(max x.2.2.toNat y.2.2.toNat)=V*2^(max x.2.2.toNat y.2.2.toNat)+V'*2^(max x.2.2.toNat y.2.2.toNat):=Int.add_mul ..
 refine(B9 (V:=V+V') _ _ _ ?_ ?_ ?_ ?_).mono (Int.le_refl _) hK<;>rw[e]<;>omega
theorem gG{a b V V' p q:Int}(hV:0<=V)(hp:0<=p)(h1: -(V*p)<=a)(h2:a<=V*p)(h3: -(V'*q)<=b)(h4:b<=V'*q): -(V*V'*(p*q))<=a*b/\a*b<=V*V'*(p*q):=by
 have e:V*V'*(p*q)=(V*p)*(V'*q):=by grind
 have hA:0<=V*p:=Int.mul_nonneg hV hp
 rw[e]
 generalize V*p=A at*
 generalize V'*q=B at*
 have hB:0<=B:=by omega
 have k1:0<=(A-a)*(B+b):=Int.mul_nonneg (by omega) (by omega)
 have k2:0<=(A+a)*(B-b):=Int.mul_nonneg (by omega) (by omega)
 have k3:0<=(A-a)*(B-b):=Int.mul_nonneg (by omega) (by omega)
 have k4:0<=(A+a)*(B+b):=Int.mul_nonneg (by omega) (by omega)
 have e1:(A-a)*(B+b)+(A+a)*(B-b)=2*(A*B)-2*(a*b):=by grind
 have e2:(A-a)*(B-b)+(A+a)*(B+b)=2*(A*B)+2*(a*b):=by grind
 omega
theorem cR{V V':Int}{κ κ':Nat}{x y:Nm}(hV:0<=V)(hx:Bd V κ x)(hy:Bd V' κ' y):Bd (3*(V*V')) (κ+κ') (kQ x y):=by
 obtain⟨x1,x2,x3,x4⟩:=hx
 obtain⟨y1,y2,y3,y4⟩:=hy
 have hK:x.2.2.toNat+y.2.2.toNat<=κ+κ':=by omega
 have hp:(0:Int)<=2^x.2.2.toNat:=Int.le_of_lt (Int.pow_pos (by decide))
 have aa:=gG hV hp x3.1 x3.2 y3.1 y3.2
 have bb:=gG hV hp x4.1 x4.2 y4.1 y4.2
 have ab:=gG hV hp x3.1 x3.2 y4.1 y4.2
 have ba:=gG hV hp x4.1 x4.2 y3.1 y3.2
 have e:3*(V*V')*2^(x.2.2.toNat+y.2.2.toNat)=3*(V*V'*(2^x.2.2.toNat*2^y.2.2.toNat)):=by rw[Int.pow_add];grind
 have e2:2*x.2.1*y.2.1=2*(x.2.1*y.2.1):=Int.mul_assoc ..
 have hVV:0<=V*V'*(2^x.2.2.toNat*2^y.2.2.toNat):=by omega
 unfold kQ
 refine(B9 (V:=3*(V*V')) _ _ _ ?_ ?_ ?_ ?_).mono (Int.le_refl _) hK<;>rw[e]<;>(try rw[e2])<;>omega
theorem Nj{V:Int}{κ:Nat}{x:Nm}(hx:Bd V κ x):Bd V κ (Gi x):=by
 obtain⟨x1,x2,x3,x4⟩:=hx
 refine⟨x1,x2, ?_, ?_⟩
 ·show -(V*2^x.2.2.toNat)<= -x.1/\ -x.1<=V*2^x.2.2.toNat
  omega
 ·show -(V*2^x.2.2.toNat)<= -x.2.1/\ -x.2.1<=V*2^x.2.2.toNat
  omega
theorem Bd.pow_le{V:Int}{κ:Nat}{x:Nm}(h:Bd V κ x)(hV:0<=V):(-(V*2^κ)<=x.1/\x.1<=V*2^κ)/\(-(V*2^κ)<=x.2.1/\x.2.1<=V*2^κ):=by
 obtain⟨x1,x2,x3,x4⟩:=h
 have:(2:Int)^x.2.2.toNat<=2^κ:=by
  have:=Nat.pow_le_pow_right (show 0<2 by decide) (show x.2.2.toNat<=κ by omega)
  exact_mod_cast this
 have:=Int.mul_le_mul_of_nonneg_left this hV
 omega
theorem Jf(x y:Nm):kQ x y=kQ y x:=by
 unfold kQ
 rw[Nat.add_comm,show x.1*y.1+2*x.2.1*y.2.1=y.1*x.1+2*y.2.1*x.2.1 by grind,show x.1*y.2.1+x.2.1*y.1=y.1*x.2.1+y.2.1*x.1 by grind]
theorem Sl(t k:Nat)(a b:Int):low ((low k a b).2.2.toNat+t) (low k a b).1 (low k a b).2.1=low (k+t) a b:=by
 refine ex (lN _ _ _) (lN _ _ _) ?_ ?_
 ·rw[sK,sK,jf,jf]
  have h:=sK k a b
  unfold vA at h
  have h1:=aN (low k a b).2.2.toNat
  have h2:=aN k
  have h3:=aN t
  grind
 ·rw[sL,sL,jf,jf]
  have h:=sL k a b
  unfold vB at h
  have h1:=aN (low k a b).2.2.toNat
  have h2:=aN k
  have h3:=aN t
  grind
def kW(x y:Nm):Nm:=ej x (Gi y)
theorem mW(x y:Nm):vA (kW x y)=vA x-vA y:=by unfold kW;rw[iH,GE];grind
theorem mX(x y:Nm):vB (kW x y)=vB x-vB y:=by unfold kW;rw[iI,GF];grind
theorem LD(x y:Nm):(kW x y).can:=lN _ _ _
theorem rT{V V':Int}{κ κ':Nat}{x y:Nm}(hx:Bd V κ x)(hy:Bd V' κ' y):Bd (V+V') (max κ κ') (kW x y):=fI hx (Nj hy)
theorem nG{x:Nm}:(x.1=0/\x.2.1=0)↔(vA x=0/\vB x=0):=by
 have h1:=aN x.2.2.toNat
 unfold vA vB
 constructor
 ·rintro ⟨h,h'⟩
  have e0:((0:Int):Rat)=0:=rfl
  rw[h,h',e0]
  constructor<;>grind
 ·rintro ⟨h,h'⟩
  have e1:(x.1:Rat)=0:=by grind
  have e2:(x.2.1:Rat)=0:=by grind
  exact⟨by simpa using e1,by simpa using e2⟩
theorem KI{x y:Nm}(hx:x.can)(hy:y.can):((kW x y).1=0/\(kW x y).2.1=0)↔x=y:=by
 rw[nG,mW,mX]
 constructor
 ·rintro ⟨h,h'⟩
  exact ex hx hy (by grind) (by grind)
 ·rintro rfl
  constructor<;>grind
theorem CR{V:Int}{κ t:Nat}{x y:Nm}(hV:0<=V)(hx:Bd V κ x)(hy:Bd 4 0 y)(ht:t<=3):Bd (12*V) (κ+3) (ur t x y):=by
 obtain⟨x1,x2,x3,x4⟩:=hx
 obtain⟨y1,y2,y3,y4⟩:=hy
 have hy0:y.2.2.toNat=0:=by omega
 rw[hy0]at y3 y4
 have hp:(0:Int)<=2^x.2.2.toNat:=Int.le_of_lt (Int.pow_pos (by decide))
 have aa:=gG hV hp x3.1 x3.2 y3.1 y3.2
 have bb:=gG hV hp x4.1 x4.2 y4.1 y4.2
 have ab:=gG hV hp x3.1 x3.2 y4.1 y4.2
 have ba:=gG hV hp x4.1 x4.2 y3.1 y3.2
 have e0:V*4*(2^x.2.2.toNat*2^0)=4*(V*2^x.2.2.toNat):=by grind
 rw[e0]at aa bb ab ba
 have e2:2*x.2.1*y.2.1=2*(x.2.1*y.2.1):=Int.mul_assoc ..
 have hVp:0<=V*2^x.2.2.toNat:=Int.mul_nonneg hV hp
 have ht1:(1:Int)<=2^t:=Int.pow_pos (by decide)
 have hle:V*2^x.2.2.toNat<=V*2^x.2.2.toNat*2^t:=by
  have:=Int.mul_le_mul_of_nonneg_left ht1 hVp
  omega
 have e:12*V*2^(x.2.2.toNat+t)=12*(V*2^x.2.2.toNat*2^t):=by rw[Int.pow_add];grind
 unfold ur
 refine(B9 (V:=12*V) _ _ _ ?_ ?_ ?_ ?_).mono (Int.le_refl _) (by omega)<;>rw[e]<;>(try rw[e2])<;>omega
def fC:Nat->Int->Int×Nat
 |0,x=>(x,0)
 |n+1,x=>if x%2=0 then((fC n (x/2)).1,(fC n (x/2)).2+1)else(x,0)
theorem Lp:∀(n:Nat) (x:Int),x=(fC n x).1*2^(fC n x).2
 |0,x=>by simp[fC]
 |n+1,x=>by
  rw[fC]
  split
  ·rename_i h
   have IH:=Lp n (x/2)
   simp only[Int.pow_succ]
   have:x=2*(x/2):=by omega
   rw[<-Int.mul_assoc,<-IH]
   omega
  ·simp
theorem Lq:∀(n:Nat) (x:Int),x≠0-> -(2^n)<x->x<2^n->(fC n x).1%2≠0
 |0,x,h0,h1,h2=>by simp at h1 h2;omega
 |n+1,x,h0,h1,h2=>by
  rw[fC]
  rw[Int.pow_succ]at h1 h2
  split
  ·exact Lq n (x/2) (by omega) (by omega) (by omega)
  ·rename_i h;exact h
theorem Nl:∀(n:Nat) (x:Int),(fC n x).2<=n
 |0,x=>by simp[fC]
 |n+1,x=>by
  rw[fC]
  split
  ·have:=Nl n (x/2);simp;omega
  ·simp
def uq(x y:Nm):Nm×Bool:=
 if y.1*y.1-2*y.2.1*y.2.1=0 then((0,(0,0)),false)else
 if(x.1*y.1-2*x.2.1*y.2.1)%(fC 64 (y.1*y.1-2*y.2.1*y.2.1)).1=0/\(x.2.1*y.1-x.1*y.2.1)%(fC 64 (y.1*y.1-2*y.2.1*y.2.1)).1=0 then
  (low (x.2.2.toNat+(fC 64 (y.1*y.1-2*y.2.1*y.2.1)).2) ((x.1*y.1-2*x.2.1*y.2.1)/(fC 64 (y.1*y.1-2*y.2.1*y.2.1)).1) ((x.2.1*y.1-x.1*y.2.1)/(fC 64 (y.1*y.1-2*y.2.1*y.2.1)).1),true)
 else((0,(0,0)),false)
theorem Nn{m z:Int}(hm:m%2≠0):∀j:Nat,m∣z*2^j->m∣z
 |0,h=>by simpa using h
 |j+1,h=>by
  apply Nn hm j
  rw[Int.pow_succ,<-Int.mul_assoc]at h
  obtain⟨c,hc⟩:=h
  have hce:c%2=0:=by
   have h2:(m*c)%2=0:=by rw[<-hc];omega
   rw[Int.mul_emod]at h2
   have hm1:m%2=1:=by omega
   rw[hm1]at h2
   omega
  refine⟨c/2, ?_⟩
  have hc2:c=2*(c/2):=by omega
  have:2*(z*2^j)=2*(m*(c/2)):=by
   have e:m*c=2*(m*(c/2)):=by
    conv=>lhs;rw[hc2]
    grind
   omega
  omega
theorem Qi{m:Int}(hm:m%2≠0)(k t:Nat)(a b:Int):
 (((low k a b).1%m=0/\(low k a b).2.1%m=0)↔(a%m=0/\b%m=0))/\
 ((a%m=0/\b%m=0)->low ((low k a b).2.2.toNat+t) ((low k a b).1/m) ((low k a b).2.1/m)=low (k+t) (a/m) (b/m)):=by
 have hle:(low k a b).2.2.toNat<=k:=by have:=Lj k a b;have:=R4 k a b;omega
 have hA:a=(low k a b).1*2^(k-(low k a b).2.2.toNat):=by
  have h:=sK k a b
  unfold vA at h
  have h1:=aN (low k a b).2.2.toNat
  have h2:=aN k
  have h3:=EM hle
  have:(a:Rat)=((low k a b).1:Rat)*2^(k-(low k a b).2.2.toNat):=by grind
  have h4:((a:Int):Rat)=(((low k a b).1*2^(k-(low k a b).2.2.toNat):Int):Rat):=by simpa using this
  exact Rat.intCast_inj.1 h4
 have hB:b=(low k a b).2.1*2^(k-(low k a b).2.2.toNat):=by
  have h:=sL k a b
  unfold vB at h
  have h1:=aN (low k a b).2.2.toNat
  have h2:=aN k
  have h3:=EM hle
  have:(b:Rat)=((low k a b).2.1:Rat)*2^(k-(low k a b).2.2.toNat):=by grind
  have h4:((b:Int):Rat)=(((low k a b).2.1*2^(k-(low k a b).2.2.toNat):Int):Rat):=by simpa using this
  exact Rat.intCast_inj.1 h4
 have dv:∀z w:Int,z=w*2^(k-(low k a b).2.2.toNat)->(w%m=0↔z%m=0):=by
  intro z w h
  rw[<-Int.dvd_iff_emod_eq_zero,<-Int.dvd_iff_emod_eq_zero]
  constructor
  ·intro hd;rw[h];exact Int.dvd_mul_of_dvd_left hd
  ·intro hd;rw[h]at hd;exact Nn hm _ hd
 refine⟨?_, ?_⟩
 ·rw[dv a _ hA,dv b _ hB]
 ·rintro ⟨ha,hb⟩
  have ha':=(dv a _ hA).2 ha
  have hb':=(dv b _ hB).2 hb
  have hm0:(m:Rat)≠0:=by
   intro h
   have:m=0:=by simpa using h
   rw[this]at hm
   exact hm rfl
  have q:∀z:Int,z%m=0->((z/m:Int):Rat)=(z:Rat)/m:=by
   intro z hz
   have:z=m*(z/m):=by
    have:=Int.mul_ediv_add_emod z m
    omega
   have h2:(z:Rat)=(m:Rat)*((z/m:Int):Rat):=by
    conv=>lhs;rw[this]
    simp
   grind
  refine ex (lN _ _ _) (lN _ _ _) ?_ ?_
  ·rw[sK,sK,jf,jf,q _ ha,q _ ha']
   have h:=sK k a b
   unfold vA at h
   have h1:=aN (low k a b).2.2.toNat
   have h2:=aN k
   have h3:=aN t
   grind
  ·rw[sL,sL,jf,jf,q _ hb,q _ hb']
   have h:=sL k a b
   unfold vB at h
   have h1:=aN (low k a b).2.2.toNat
   have h2:=aN k
   have h3:=aN t
   grind
theorem O1{x y:Nm}{t:Nat}(h:fC 64 (y.1*y.1-2*y.2.1*y.2.1)=(1,t))(h0:y.1*y.1-2*y.2.1*y.2.1≠0):uq x y=(ur t x y,true):=by
 unfold uq ur
 rw[if_neg h0,h,if_pos ⟨Int.emod_one _,Int.emod_one _⟩,Int.ediv_one,Int.ediv_one]
theorem PC(a b P T m:Rat)(hP:P≠0)(hT:T≠0)(hm:m≠0)(ya yb:Rat):(a*ya-2*b*yb)/m/(P*T)=(a/P*ya-2*(b/P*yb))/(m*T):=by
 have h1:P*T≠0:=fun h=>(Rat.mul_eq_zero.1 h).elim hP hT
 have h2:m*T≠0:=fun h=>(Rat.mul_eq_zero.1 h).elim hm hT
 grind
theorem Of(a b P T m:Rat)(hP:P≠0)(hT:T≠0)(hm:m≠0)(ya yb:Rat):(b*ya-a*yb)/m/(P*T)=(b/P*ya-a/P*yb)/(m*T):=by
 have h1:P*T≠0:=fun h=>(Rat.mul_eq_zero.1 h).elim hP hT
 have h2:m*T≠0:=fun h=>(Rat.mul_eq_zero.1 h).elim hm hT
 grind
theorem At{V M:Int}{κ t:Nat}{x y:Nm}{m:Int}(hV:0<=V)(hx:Bd V κ x)(hy:Bd M 0 y)(h:fC 64 (y.1*y.1-2*y.2.1*y.2.1)=(m,t))(hm:m=1\/m= -1)(h0:y.1*y.1-2*y.2.1*y.2.1≠0):
 ∃r,uq x y=(r,true)/\r.can/\Bd (3*(V*M)) (κ+t) r/\vA r=(vA x*y.1-2*(vB x*y.2.1))/((y.1*y.1-2*y.2.1*y.2.1:Int):Rat)/\vB r=(vB x*y.1-vA x*y.2.1)/((y.1*y.1-2*y.2.1*y.2.1:Int):Rat):=by
 have hN:=Lp 64 (y.1*y.1-2*y.2.1*y.2.1)
 rw[h]at hN
 simp only at hN
 have hNq:((y.1*y.1-2*y.2.1*y.2.1:Int):Rat)=(m:Rat)*2^t:=by
  rw[hN];simp
 have hd:∀z:Int,z%m=0:=by
  intro z
  rcases hm with e|e<;>rw[e]
  ·exact Int.emod_one z
  ·rw[Int.emod_neg];exact Int.emod_one z
 have hq:∀z:Int,((z/m:Int):Rat)=(z:Rat)/m:=by
  intro z
  rcases hm with e|e<;>rw[e]
  ·rw[Int.ediv_one];have:((1:Int):Rat)=1:=rfl;rw[this];grind
  ·have e2:z/(-1)= -z:=by rw[Int.ediv_neg,Int.ediv_one]
   rw[e2]
   have:((-1:Int):Rat)= -1:=rfl
   rw[this,Rat.intCast_neg];grind
 have hb:∀z:Int,z/m=z\/z/m= -z:=by
  intro z
  rcases hm with e|e<;>rw[e]
  ·exact .inl (Int.ediv_one z)
  ·right;rw[Int.ediv_neg,Int.ediv_one]
 refine⟨low (x.2.2.toNat+t) ((x.1*y.1-2*x.2.1*y.2.1)/m) ((x.2.1*y.1-x.1*y.2.1)/m), ?_,lN _ _ _, ?_, ?_, ?_⟩
 ·unfold uq
  rw[if_neg h0,h,if_pos ⟨hd _,hd _⟩]
 ·obtain⟨x1,x2,x3,x4⟩:=hx
  obtain⟨y1,y2,y3,y4⟩:=hy
  have hy0:y.2.2.toNat=0:=by omega
  rw[hy0]at y3 y4
  have hp:(0:Int)<=2^x.2.2.toNat:=Int.le_of_lt (Int.pow_pos (by decide))
  have aa:=gG hV hp x3.1 x3.2 y3.1 y3.2
  have bb:=gG hV hp x4.1 x4.2 y4.1 y4.2
  have ab:=gG hV hp x3.1 x3.2 y4.1 y4.2
  have ba:=gG hV hp x4.1 x4.2 y3.1 y3.2
  have e2:2*x.2.1*y.2.1=2*(x.2.1*y.2.1):=Int.mul_assoc ..
  have ht1:(1:Int)<=2^t:=Int.pow_pos (by decide)
  have hE:0<=V*M*(2^x.2.2.toNat*2^0):=by omega
  have hle:V*M*(2^x.2.2.toNat*2^0)<=V*M*(2^x.2.2.toNat*2^0)*2^t:=by
   have:=Int.mul_le_mul_of_nonneg_left ht1 hE
   omega
  have e:3*(V*M)*2^(x.2.2.toNat+t)=3*(V*M*(2^x.2.2.toNat*2^0)*2^t):=by rw[Int.pow_add];grind
  have h1:=hb (x.1*y.1-2*x.2.1*y.2.1)
  have h2:=hb (x.2.1*y.1-x.1*y.2.1)
  refine(B9 (V:=3*(V*M)) _ _ _ ?_ ?_ ?_ ?_).mono (Int.le_refl _) (by omega)<;>rw[e]<;>omega
 ·rw[sK,hq,hNq,jf]
  unfold vA vB
  have h1:=aN x.2.2.toNat
  have h2:=aN t
  have hm0:(m:Rat)≠0:=by rcases hm with e|e<;>rw[e]<;>decide
  simp only[Rat.intCast_sub,Rat.intCast_mul,Rat.intCast_ofNat]
  exact PC _ _ _ _ _ h1 h2 hm0 _ _
 ·rw[sL,hq,hNq,jf]
  unfold vA vB
  have h1:=aN x.2.2.toNat
  have h2:=aN t
  have hm0:(m:Rat)≠0:=by rcases hm with e|e<;>rw[e]<;>decide
  simp only[Rat.intCast_sub,Rat.intCast_mul]
  exact Of _ _ _ _ _ h1 h2 hm0 _ _
theorem QZ{y:Nm}(h:y.2.2=0):ej y y=(2*y.1,(2*y.2.1,0)):=by
 unfold ej
 rw[h]
 show low 0 _ _=_
 rw[low]
 simp
 omega
end Go.Vai
