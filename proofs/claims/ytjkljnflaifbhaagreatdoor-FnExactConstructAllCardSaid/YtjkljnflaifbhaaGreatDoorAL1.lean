/- No conditions. -/
import Derived.Test.YtjkljnflaifbhaaGreatDoorPK
namespace Go.Vai
abbrev Nm:=Int×(Int×Int)
def low:Nat->Int->Int->Nm
 |0,a,b=>(a,(b,0))
 |k+1,a,b=>if a%2=0/\b%2=0 then low k (a/2) (b/2)else(a,(b,((k+1:Nat):Int)))
def Nm.can(x:Nm):Prop:=0<=x.2.2/\(x.2.2=0\/x.1%2≠0\/x.2.1%2≠0)
def vA(x:Nm):Rat:=(x.1:Rat)/2^x.2.2.toNat
def vB(x:Nm):Rat:=(x.2.1:Rat)/2^x.2.2.toNat
theorem bM(k:Nat):(2:Rat)^k≠0:=by
 have:(0:Rat)<2^k:=Rat.pow_pos (by decide)
 intro h
 rw[h]at this
 exact absurd this (by decide)
theorem Ba:∀k a b,(low k a b).can
 |0,a,b=>⟨by simp[low], .inl rfl⟩
 |k+1,a,b=>by
  rw[low]
  split
  ·exact Ba k _ _
  ·rename_i h
   refine⟨by simp;omega, .inr ?_⟩
   by_cases ha:a%2=0
   ·exact .inr (fun hb=>h ⟨ha,hb⟩)
   ·exact .inl ha
theorem afF(k:Nat)(a b:Int):0<=(low k a b).2.2:=(Ba k a b).1
theorem Y1:∀(k:Nat) (a b:Int),(low k a b).2.2<=k
 |0,a,b=>by simp[low]
 |k+1,a,b=>by
  rw[low]
  split
  ·have:=Y1 k (a/2) (b/2)
   omega
  ·simp
theorem Wr{a:Int}(h:a%2=0):((a/2:Int):Rat)=(a:Rat)/2:=by
 have:a=2*(a/2):=by omega
 have h2:(a:Rat)=2*((a/2:Int):Rat):=by
  conv=>lhs;rw[this]
  simp
 grind
theorem XE:∀(k:Nat) (a b:Int),vA (low k a b)=(a:Rat)/2^k/\vB (low k a b)=(b:Rat)/2^k
 |0,a,b=>by simp[low,vA,vB]
 |k+1,a,b=>by
  rw[low]
  split
  ·rename_i h
   have IH:=XE k (a/2) (b/2)
   rw[Wr h.1,Wr h.2]at IH
   have:=bM k
   constructor
   ·rw[IH.1];grind
   ·rw[IH.2];grind
  ·exact⟨rfl,rfl⟩
theorem Iy(k:Nat)(a b:Int):vA (low k a b)=(a:Rat)/2^k:=(XE k a b).1
theorem Iz(k:Nat)(a b:Int):vB (low k a b)=(b:Rat)/2^k:=(XE k a b).2
theorem W7{x y:Nm}(hA:vA x=vA y):x.1*2^y.2.2.toNat=y.1*2^x.2.2.toNat:=by
 have h1:=bM x.2.2.toNat
 have h2:=bM y.2.2.toNat
 unfold vA at hA
 have:(x.1:Rat)*2^y.2.2.toNat=(y.1:Rat)*2^x.2.2.toNat:=by grind
 have h3:((x.1*2^y.2.2.toNat:Int):Rat)=((y.1*2^x.2.2.toNat:Int):Rat):=by simpa using this
 exact Rat.intCast_inj.1 h3
theorem VH{x y:Nm}(hA:vB x=vB y):x.2.1*2^y.2.2.toNat=y.2.1*2^x.2.2.toNat:=by
 have h1:=bM x.2.2.toNat
 have h2:=bM y.2.2.toNat
 unfold vB at hA
 have:(x.2.1:Rat)*2^y.2.2.toNat=(y.2.1:Rat)*2^x.2.2.toNat:=by grind
 have h3:((x.2.1*2^y.2.2.toNat:Int):Rat)=((y.2.1*2^x.2.2.toNat:Int):Rat):=by simpa using this
 exact Rat.intCast_inj.1 h3
theorem WN{m n:Nat}(h:m<=n):(2:Int)^n=2^m*2^(n-m):=by
 rw[<-Int.pow_add];congr 1;omega
theorem Ii{a b:Int}{m:Nat}(h:a*2^m=b*2^m):a=b:=
 Int.eq_of_mul_eq_mul_right (Int.ne_of_gt (Int.pow_pos (by decide))) h
theorem YF(a:Int){m:Nat}(h:0<m):(a*2^m)%2=0:=by
 obtain⟨j,rfl⟩:∃j,m=j+1:=⟨m-1,by omega⟩
 rw[Int.pow_succ]
 have:a*(2^j*2)=2*(a*2^j):=by grind
 rw[this];omega
theorem acg{x y:Nm}(hy:y.can)(hA:vA x=vA y)(hB:vB x=vB y):y.2.2.toNat<=x.2.2.toNat:=by
 have h1:=W7 hA
 have h2:=VH hB
 by_cases h:y.2.2.toNat<=x.2.2.toNat
 ·exact h
 ·exfalso
  have hs:=WN (show x.2.2.toNat<=y.2.2.toNat by omega)
  rw[hs,<-Int.mul_assoc,Int.mul_right_comm]at h1 h2
  have e1:=Ii h1
  have e2:=Ii h2
  have hm:0<y.2.2.toNat-x.2.2.toNat:=by omega
  have p1:=YF x.1 hm
  have p2:=YF x.2.1 hm
  rw[e1]at p1
  rw[e2]at p2
  rcases hy.2 with h|h|h
  ·omega
  ·exact h p1
  ·exact h p2
theorem Am{x y:Nm}(hx:x.can)(hy:y.can)(hA:vA x=vA y)(hB:vB x=vB y):x=y:=by
 have h1:=acg hy hA hB
 have h2:=acg hx hA.symm hB.symm
 have hk:x.2.2=y.2.2:=by have:=hx.1;have:=hy.1;omega
 have e1:=W7 hA
 have e2:=VH hB
 rw[hk]at e1 e2
 exact Prod.ext (Ii e1) (Prod.ext (Ii e2) hk)
def ku(x y:Nm):Nm:=
 low (max x.2.2.toNat y.2.2.toNat) (x.1*2^(max x.2.2.toNat y.2.2.toNat-x.2.2.toNat)+y.1*2^(max x.2.2.toNat y.2.2.toNat-y.2.2.toNat))
  (x.2.1*2^(max x.2.2.toNat y.2.2.toNat-x.2.2.toNat)+y.2.1*2^(max x.2.2.toNat y.2.2.toNat-y.2.2.toNat))
def ur(x y:Nm):Nm:=low (x.2.2.toNat+y.2.2.toNat) (x.1*y.1+2*x.2.1*y.2.1) (x.1*y.2.1+x.2.1*y.1)
def XI(x:Nm):Nm:=(-x.1,(-x.2.1,x.2.2))
def LD(t:Nat)(x y:Nm):Nm:=low (x.2.2.toNat+t) (x.1*y.1-2*x.2.1*y.2.1) (x.2.1*y.1-x.1*y.2.1)
theorem sY(m:Nat):∀n:Nat,(2:Rat)^(m+n)=2^m*2^n
 |0=>by simp
 |n+1=>by
  rw[<-Nat.add_assoc,Rat.pow_succ,Rat.pow_succ,sY m n]
  grind
theorem Q7{m n:Nat}(h:m<=n):(2:Rat)^n=2^m*2^(n-m):=by
 rw[<-sY];congr 1;omega
theorem AQ(x y:Nm):vA (ku x y)=vA x+vA y:=by
 unfold ku
 rw[Iy]
 unfold vA
 have h1:=bM x.2.2.toNat
 have h2:=bM y.2.2.toNat
 have h3:=Q7 (Nat.le_max_left x.2.2.toNat y.2.2.toNat)
 have h4:=Q7 (Nat.le_max_right x.2.2.toNat y.2.2.toNat)
 have h5:=bM (max x.2.2.toNat y.2.2.toNat)
 simp only[Rat.intCast_add,Rat.intCast_mul,Rat.intCast_pow]
 simp only[Rat.intCast_ofNat]
 generalize (2:Rat)^(max x.2.2.toNat y.2.2.toNat-x.2.2.toNat)=u at*
 generalize (2:Rat)^(max x.2.2.toNat y.2.2.toNat-y.2.2.toNat)=v at*
 generalize (2:Rat)^(max x.2.2.toNat y.2.2.toNat)=w at*
 generalize (2:Rat)^x.2.2.toNat=p at*
 generalize (2:Rat)^y.2.2.toNat=q at*
 grind
theorem AR(x y:Nm):vB (ku x y)=vB x+vB y:=by
 unfold ku
 rw[Iz]
 unfold vB
 have h1:=bM x.2.2.toNat
 have h2:=bM y.2.2.toNat
 have h3:=Q7 (Nat.le_max_left x.2.2.toNat y.2.2.toNat)
 have h4:=Q7 (Nat.le_max_right x.2.2.toNat y.2.2.toNat)
 have h5:=bM (max x.2.2.toNat y.2.2.toNat)
 simp only[Rat.intCast_add,Rat.intCast_mul,Rat.intCast_pow]
 simp only[Rat.intCast_ofNat]
 generalize (2:Rat)^(max x.2.2.toNat y.2.2.toNat-x.2.2.toNat)=u at*
 generalize (2:Rat)^(max x.2.2.toNat y.2.2.toNat-y.2.2.toNat)=v at*
 generalize (2:Rat)^(max x.2.2.toNat y.2.2.toNat)=w at*
 generalize (2:Rat)^x.2.2.toNat=p at*
 generalize (2:Rat)^y.2.2.toNat=q at*
 grind
theorem TG(x y:Nm):vA (ur x y)=vA x*vA y+2*(vB x*vB y):=by
 unfold ur
 rw[Iy]
 unfold vA vB
 have h1:=bM x.2.2.toNat
 have h2:=bM y.2.2.toNat
 rw[sY]
 simp only[Rat.intCast_add,Rat.intCast_mul,Rat.intCast_ofNat]
 grind
theorem TH(x y:Nm):vB (ur x y)=vA x*vB y+vB x*vA y:=by
 unfold ur
 rw[Iz]
 unfold vA vB
 have h1:=bM x.2.2.toNat
 have h2:=bM y.2.2.toNat
 rw[sY]
 simp only[Rat.intCast_add,Rat.intCast_mul]
 grind
theorem XJ(x:Nm):vA (XI x)= -vA x:=by
 unfold XI vA
 simp only[Rat.intCast_neg]
 grind
theorem XK(x:Nm):vB (XI x)= -vB x:=by
 unfold XI vB
 simp only[Rat.intCast_neg]
 grind
theorem TD(t:Nat)(x y:Nm):vA (LD t x y)=(vA x*y.1-2*(vB x*y.2.1))/2^t:=by
 unfold LD
 rw[Iy]
 unfold vA vB
 have h1:=bM x.2.2.toNat
 have h2:=bM t
 rw[sY]
 simp only[Rat.intCast_sub,Rat.intCast_mul,Rat.intCast_ofNat]
 grind
theorem TE(t:Nat)(x y:Nm):vB (LD t x y)=(vB x*y.1-vA x*y.2.1)/2^t:=by
 unfold LD
 rw[Iz]
 unfold vA vB
 have h1:=bM x.2.2.toNat
 have h2:=bM t
 rw[sY]
 simp only[Rat.intCast_sub,Rat.intCast_mul]
 grind
theorem lE(x y:Nm):(ku x y).can:=Ba _ _ _
def Bd(V:Int)(κ:Nat)(x:Nm):Prop:=
 0<=x.2.2/\x.2.2<=κ/\(-(V*2^x.2.2.toNat)<=x.1/\x.1<=V*2^x.2.2.toNat)/\(-(V*2^x.2.2.toNat)<=x.2.1/\x.2.1<=V*2^x.2.2.toNat)
theorem Ni{V:Int}:∀(k:Nat) (a b:Int), -(V*2^k)<=a->a<=V*2^k-> -(V*2^k)<=b->b<=V*2^k->Bd V k (low k a b)
 |0,a,b,h1,h2,h3,h4=>⟨by simp[low],by simp[low],⟨h1,h2⟩,⟨h3,h4⟩⟩
 |k+1,a,b,h1,h2,h3,h4=>by
  rw[low]
  split
  ·rename_i h
   have e:V*2^(k+1)=2*(V*2^k):=by rw[Int.pow_succ];grind
   rw[e]at h1 h2 h3 h4
   have:=Ni (V:=V) k (a/2) (b/2) (by omega) (by omega) (by omega) (by omega)
   exact⟨this.1,by have:=this.2.1;omega,this.2.2⟩
  ·exact⟨by simp;omega,by simp,⟨h1,h2⟩,⟨h3,h4⟩⟩
theorem Bd.mono{V V':Int}{κ κ':Nat}{x:Nm}(h:Bd V κ x)(hV:V<=V')(hκ:κ<=κ'):Bd V' κ' x:=by
 have:V*2^x.2.2.toNat<=V'*2^x.2.2.toNat:=Int.mul_le_mul_of_nonneg_right hV (Int.le_of_lt (Int.pow_pos (by decide)))
 obtain⟨h1,h2,h3,h4⟩:=h
 exact⟨h1,by omega,by omega,by omega⟩
theorem Sb{V a:Int}{k K:Nat}(hk:k<=K)(h1: -(V*2^k)<=a)(h2:a<=V*2^k): -(V*2^K)<=a*2^(K-k)/\a*2^(K-k)<=V*2^K:=by
 have hp:(0:Int)<=2^(K-k):=Int.le_of_lt (Int.pow_pos (by decide))
 have e:V*2^K=V*2^k*2^(K-k):=by rw[Int.mul_assoc,<-WN hk]
 rw[e]
 refine⟨?_,Int.mul_le_mul_of_nonneg_right h2 hp⟩
 have:=Int.mul_le_mul_of_nonneg_right h1 hp
 rw[Int.neg_mul]at this
 exact this
theorem mB{V V':Int}{κ κ':Nat}{x y:Nm}(hx:Bd V κ x)(hy:Bd V' κ' y):Bd (V+V') (max κ κ') (ku x y):=by
 obtain⟨x1,x2,x3,x4⟩:=hx
 obtain⟨y1,y2,y3,y4⟩:=hy
 have hK:max x.2.2.toNat y.2.2.toNat<=max κ κ':=by omega
 have a1:=Sb (Nat.le_max_left x.2.2.toNat y.2.2.toNat) x3.1 x3.2
 have a2:=Sb (Nat.le_max_left x.2.2.toNat y.2.2.toNat) x4.1 x4.2
 have a3:=Sb (Nat.le_max_right x.2.2.toNat y.2.2.toNat) y3.1 y3.2
 have a4:=Sb (Nat.le_max_right x.2.2.toNat y.2.2.toNat) y4.1 y4.2
 unfold ku
 have e:(V+V')*2^(max x.2.2.toNat y.2.2.toNat)=V*2^(max x.2.2.toNat y.2.2.toNat)+V'*2^(max x.2.2.toNat y.2.2.toNat):=Int.add_mul ..
 refine(Ni (V:=V+V') _ _ _ ?_ ?_ ?_ ?_).mono (Int.le_refl _) hK<;>rw[e]<;>omega
theorem lD{a b V V' p q:Int}(hV:0<=V)(hp:0<=p)(h1: -(V*p)<=a)(h2:a<=V*p)(h3: -(V'*q)<=b)(h4:b<=V'*q): -(V*V'*(p*q))<=a*b/\a*b<=V*V'*(p*q):=by
 have e:V*V'*(p*q)=(V*p)*(V'*q):=by grind
 have hA:0<=V*p:=Int.mul_nonneg hV hp
 rw[e]
 generalize V*p=A at*
 generalize V'*q=B at*
 have hB:0<=B:=by omega
 have k1:0<=(A-a)*(B+b):=Int.mul_nonneg (by omega) (by omega)
 have k2:0<=(A+a)*(B-b):=Int.mul_nonneg (by omega) (by omega)
 have k3:0<=(A-a)*(B-b):=Int.mul_nonneg (by omega) (by omega)
 have k4:0<=(A+a)*(B+b):=Int.mul_nonneg (by omega) (by omega)
 have e1:(A-a)*(B+b)+(A+a)*(B-b)=2*(A*B)-2*(a*b):=by grind
 have e2:(A-a)*(B-b)+(A+a)*(B+b)=2*(A*B)+2*(a*b):=by grind
 omega
theorem fA{V V':Int}{κ κ':Nat}{x y:Nm}(hV:0<=V)(hx:Bd V κ x)(hy:Bd V' κ' y):Bd (3*(V*V')) (κ+κ') (ur x y):=by
 obtain⟨x1,x2,x3,x4⟩:=hx
 obtain⟨y1,y2,y3,y4⟩:=hy
 have hK:x.2.2.toNat+y.2.2.toNat<=κ+κ':=by omega
 have hp:(0:Int)<=2^x.2.2.toNat:=Int.le_of_lt (Int.pow_pos (by decide))
 have aa:=lD hV hp x3.1 x3.2 y3.1 y3.2
 have bb:=lD hV hp x4.1 x4.2 y4.1 y4.2
 have ab:=lD hV hp x3.1 x3.2 y4.1 y4.2
 have ba:=lD hV hp x4.1 x4.2 y3.1 y3.2
 have e:3*(V*V')*2^(x.2.2.toNat+y.2.2.toNat)=3*(V*V'*(2^x.2.2.toNat*2^y.2.2.toNat)):=by rw[Int.pow_add];grind
 have e2:2*x.2.1*y.2.1=2*(x.2.1*y.2.1):=Int.mul_assoc ..
 have hVV:0<=V*V'*(2^x.2.2.toNat*2^y.2.2.toNat):=by omega
 unfold ur
 refine(Ni (V:=3*(V*V')) _ _ _ ?_ ?_ ?_ ?_).mono (Int.le_refl _) hK<;>rw[e]<;>(try rw[e2])<;>omega
theorem aaM{V:Int}{κ:Nat}{x:Nm}(hx:Bd V κ x):Bd V κ (XI x):=by
 obtain⟨x1,x2,x3,x4⟩:=hx
 refine⟨x1,x2, ?_, ?_⟩
 ·show -(V*2^x.2.2.toNat)<= -x.1/\ -x.1<=V*2^x.2.2.toNat
  omega
 ·show -(V*2^x.2.2.toNat)<= -x.2.1/\ -x.2.1<=V*2^x.2.2.toNat
  omega
theorem Bd.pow_le{V:Int}{κ:Nat}{x:Nm}(h:Bd V κ x)(hV:0<=V):(-(V*2^κ)<=x.1/\x.1<=V*2^κ)/\(-(V*2^κ)<=x.2.1/\x.2.1<=V*2^κ):=by
 obtain⟨x1,x2,x3,x4⟩:=h
 have:(2:Int)^x.2.2.toNat<=2^κ:=by
  have:=Nat.pow_le_pow_right (show 0<2 by decide) (show x.2.2.toNat<=κ by omega)
  exact_mod_cast this
 have:=Int.mul_le_mul_of_nonneg_left this hV
 omega
theorem WA(x y:Nm):ur x y=ur y x:=by
 unfold ur
 rw[Nat.add_comm,show x.1*y.1+2*x.2.1*y.2.1=y.1*x.1+2*y.2.1*x.2.1 by grind,show x.1*y.2.1+x.2.1*y.1=y.1*x.2.1+y.2.1*x.1 by grind]
def sh(x y:Nm):Nm:=ku x (XI y)
theorem IR(x y:Nm):vA (sh x y)=vA x-vA y:=by unfold sh;rw[AQ,XJ];grind
theorem IS(x y:Nm):vB (sh x y)=vB x-vB y:=by unfold sh;rw[AR,XK];grind
theorem Zo(x y:Nm):(sh x y).can:=Ba _ _ _
theorem Bf{V V':Int}{κ κ':Nat}{x y:Nm}(hx:Bd V κ x)(hy:Bd V' κ' y):Bd (V+V') (max κ κ') (sh x y):=mB hx (aaM hy)
theorem adf{x:Nm}:(x.1=0/\x.2.1=0)↔(vA x=0/\vB x=0):=by
 have h1:=bM x.2.2.toNat
 unfold vA vB
 constructor
 ·rintro ⟨h,h'⟩
  have e0:((0:Int):Rat)=0:=rfl
  rw[h,h',e0]
  constructor<;>grind
 ·rintro ⟨h,h'⟩
  have e1:(x.1:Rat)=0:=by grind
  have e2:(x.2.1:Rat)=0:=by grind
  exact⟨by simpa using e1,by simpa using e2⟩
theorem X6{x y:Nm}(hx:x.can)(hy:y.can):((sh x y).1=0/\(sh x y).2.1=0)↔x=y:=by
 rw[adf,IR,IS]
 constructor
 ·rintro ⟨h,h'⟩
  exact Am hx hy (by grind) (by grind)
 ·rintro rfl
  constructor<;>grind
theorem Ot{V:Int}{κ t:Nat}{x y:Nm}(hV:0<=V)(hx:Bd V κ x)(hy:Bd 4 0 y)(ht:t<=3):Bd (12*V) (κ+3) (LD t x y):=by
 obtain⟨x1,x2,x3,x4⟩:=hx
 obtain⟨y1,y2,y3,y4⟩:=hy
 have hy0:y.2.2.toNat=0:=by omega
 rw[hy0]at y3 y4
 have hp:(0:Int)<=2^x.2.2.toNat:=Int.le_of_lt (Int.pow_pos (by decide))
 have aa:=lD hV hp x3.1 x3.2 y3.1 y3.2
 have bb:=lD hV hp x4.1 x4.2 y4.1 y4.2
 have ab:=lD hV hp x3.1 x3.2 y4.1 y4.2
 have ba:=lD hV hp x4.1 x4.2 y3.1 y3.2
 have e0:V*4*(2^x.2.2.toNat*2^0)=4*(V*2^x.2.2.toNat):=by grind
 rw[e0]at aa bb ab ba
 have e2:2*x.2.1*y.2.1=2*(x.2.1*y.2.1):=Int.mul_assoc ..
 have hVp:0<=V*2^x.2.2.toNat:=Int.mul_nonneg hV hp
 have ht1:(1:Int)<=2^t:=Int.pow_pos (by decide)
 have hle:V*2^x.2.2.toNat<=V*2^x.2.2.toNat*2^t:=by
  have:=Int.mul_le_mul_of_nonneg_left ht1 hVp
  omega
 have e:12*V*2^(x.2.2.toNat+t)=12*(V*2^x.2.2.toNat*2^t):=by rw[Int.pow_add];grind
 unfold LD
 refine(Ni (V:=12*V) _ _ _ ?_ ?_ ?_ ?_).mono (Int.le_refl _) (by omega)<;>rw[e]<;>(try rw[e2])<;>omega
def li:Nat->Int->Int×Nat
 |0,x=>(x,0)
 |n+1,x=>if x%2=0 then((li n (x/2)).1,(li n (x/2)).2+1)else(x,0)
theorem Y4:∀(n:Nat) (x:Int),x=(li n x).1*2^(li n x).2
 |0,x=>by simp[li]
 |n+1,x=>by
  rw[li]
  split
  ·rename_i h
   have IH:=Y4 n (x/2)
   simp only[Int.pow_succ]
   have:x=2*(x/2):=by omega
   rw[<-Int.mul_assoc,<-IH]
   omega
  ·simp
theorem Y5:∀(n:Nat) (x:Int),x≠0-> -(2^n)<x->x<2^n->(li n x).1%2≠0
 |0,x,h0,h1,h2=>by simp at h1 h2;omega
 |n+1,x,h0,h1,h2=>by
  rw[li]
  rw[Int.pow_succ]at h1 h2
  split
  ·exact Y5 n (x/2) (by omega) (by omega) (by omega)
  ·rename_i h;exact h
theorem aaN:∀(n:Nat) (x:Int),(li n x).2<=n
 |0,x=>by simp[li]
 |n+1,x=>by
  rw[li]
  split
  ·have:=aaN n (x/2);simp;omega
  ·simp
def LC(x y:Nm):Nm×Bool:=
 if y.1*y.1-2*y.2.1*y.2.1=0 then((0,(0,0)),false)else
 if(x.1*y.1-2*x.2.1*y.2.1)%(li 64 (y.1*y.1-2*y.2.1*y.2.1)).1=0/\(x.2.1*y.1-x.1*y.2.1)%(li 64 (y.1*y.1-2*y.2.1*y.2.1)).1=0 then
  (low (x.2.2.toNat+(li 64 (y.1*y.1-2*y.2.1*y.2.1)).2) ((x.1*y.1-2*x.2.1*y.2.1)/(li 64 (y.1*y.1-2*y.2.1*y.2.1)).1) ((x.2.1*y.1-x.1*y.2.1)/(li 64 (y.1*y.1-2*y.2.1*y.2.1)).1),true)
 else((0,(0,0)),false)
theorem aaO{m z:Int}(hm:m%2≠0):∀j:Nat,m∣z*2^j->m∣z
 |0,h=>by simpa using h
 |j+1,h=>by
  apply aaO hm j
  rw[Int.pow_succ,<-Int.mul_assoc]at h
  obtain⟨c,hc⟩:=h
  have hce:c%2=0:=by
   have h2:(m*c)%2=0:=by rw[<-hc];omega
   rw[Int.mul_emod]at h2
   have hm1:m%2=1:=by omega
   rw[hm1]at h2
   omega
  refine⟨c/2, ?_⟩
  have hc2:c=2*(c/2):=by omega
  have:2*(z*2^j)=2*(m*(c/2)):=by
   have e:m*c=2*(m*(c/2)):=by
    conv=>lhs;rw[hc2]
    grind
   omega
  omega
theorem adK{m:Int}(hm:m%2≠0)(k t:Nat)(a b:Int):
 (((low k a b).1%m=0/\(low k a b).2.1%m=0)↔(a%m=0/\b%m=0))/\
 ((a%m=0/\b%m=0)->low ((low k a b).2.2.toNat+t) ((low k a b).1/m) ((low k a b).2.1/m)=low (k+t) (a/m) (b/m)):=by
 have hle:(low k a b).2.2.toNat<=k:=by have:=Y1 k a b;have:=afF k a b;omega
 have hA:a=(low k a b).1*2^(k-(low k a b).2.2.toNat):=by
  have h:=Iy k a b
  unfold vA at h
  have h1:=bM (low k a b).2.2.toNat
  have h2:=bM k
  have h3:=Q7 hle
  have:(a:Rat)=((low k a b).1:Rat)*2^(k-(low k a b).2.2.toNat):=by grind
  have h4:((a:Int):Rat)=(((low k a b).1*2^(k-(low k a b).2.2.toNat):Int):Rat):=by simpa using this
  exact Rat.intCast_inj.1 h4
 have hB:b=(low k a b).2.1*2^(k-(low k a b).2.2.toNat):=by
  have h:=Iz k a b
  unfold vB at h
  have h1:=bM (low k a b).2.2.toNat
  have h2:=bM k
  have h3:=Q7 hle
  have:(b:Rat)=((low k a b).2.1:Rat)*2^(k-(low k a b).2.2.toNat):=by grind
  have h4:((b:Int):Rat)=(((low k a b).2.1*2^(k-(low k a b).2.2.toNat):Int):Rat):=by simpa using this
  exact Rat.intCast_inj.1 h4
 have dv:∀z w:Int,z=w*2^(k-(low k a b).2.2.toNat)->(w%m=0↔z%m=0):=by
  intro z w h
  rw[<-Int.dvd_iff_emod_eq_zero,<-Int.dvd_iff_emod_eq_zero]
  constructor
  ·intro hd;rw[h];exact Int.dvd_mul_of_dvd_left hd
  ·intro hd;rw[h]at hd;exact aaO hm _ hd
 refine⟨?_, ?_⟩
 ·rw[dv a _ hA,dv b _ hB]
 ·rintro ⟨ha,hb⟩
  have ha':=(dv a _ hA).2 ha
  have hb':=(dv b _ hB).2 hb
  have hm0:(m:Rat)≠0:=by
   intro h
   have:m=0:=by simpa using h
   rw[this]at hm
   exact hm rfl
  have q:∀z:Int,z%m=0->((z/m:Int):Rat)=(z:Rat)/m:=by
   intro z hz
   have:z=m*(z/m):=by
    have:=Int.mul_ediv_add_emod z m
    omega
   have h2:(z:Rat)=(m:Rat)*((z/m:Int):Rat):=by
    conv=>lhs;rw[this]
    simp
   grind
  refine Am (Ba _ _ _) (Ba _ _ _) ?_ ?_
  ·rw[Iy,Iy,sY,sY,q _ ha,q _ ha']
   have h:=Iy k a b
   unfold vA at h
   have h1:=bM (low k a b).2.2.toNat
   have h2:=bM k
   have h3:=bM t
   grind
  ·rw[Iz,Iz,sY,sY,q _ hb,q _ hb']
   have h:=Iz k a b
   unfold vB at h
   have h1:=bM (low k a b).2.2.toNat
   have h2:=bM k
   have h3:=bM t
   grind
theorem acn{x y:Nm}{t:Nat}(h:li 64 (y.1*y.1-2*y.2.1*y.2.1)=(1,t))(h0:y.1*y.1-2*y.2.1*y.2.1≠0):LC x y=(LD t x y,true):=by
 unfold LC LD
 rw[if_neg h0,h,if_pos ⟨Int.emod_one _,Int.emod_one _⟩,Int.ediv_one,Int.ediv_one]
theorem acY(a b P T m:Rat)(hP:P≠0)(hT:T≠0)(hm:m≠0)(ya yb:Rat):(a*ya-2*b*yb)/m/(P*T)=(a/P*ya-2*(b/P*yb))/(m*T):=by
 have h1:P*T≠0:=fun h=>(Rat.mul_eq_zero.1 h).elim hP hT
 have h2:m*T≠0:=fun h=>(Rat.mul_eq_zero.1 h).elim hm hT
 grind
theorem abA(a b P T m:Rat)(hP:P≠0)(hT:T≠0)(hm:m≠0)(ya yb:Rat):(b*ya-a*yb)/m/(P*T)=(b/P*ya-a/P*yb)/(m*T):=by
 have h1:P*T≠0:=fun h=>(Rat.mul_eq_zero.1 h).elim hP hT
 have h2:m*T≠0:=fun h=>(Rat.mul_eq_zero.1 h).elim hm hT
 grind
theorem Qq{V M:Int}{κ t:Nat}{x y:Nm}{m:Int}(hV:0<=V)(hx:Bd V κ x)(hy:Bd M 0 y)(h:li 64 (y.1*y.1-2*y.2.1*y.2.1)=(m,t))(hm:m=1\/m= -1)(h0:y.1*y.1-2*y.2.1*y.2.1≠0):
 ∃r,LC x y=(r,true)/\r.can/\Bd (3*(V*M)) (κ+t) r/\vA r=(vA x*y.1-2*(vB x*y.2.1))/((y.1*y.1-2*y.2.1*y.2.1:Int):Rat)/\vB r=(vB x*y.1-vA x*y.2.1)/((y.1*y.1-2*y.2.1*y.2.1:Int):Rat):=by
 have hN:=Y4 64 (y.1*y.1-2*y.2.1*y.2.1)
 rw[h]at hN
 simp only at hN
 have hNq:((y.1*y.1-2*y.2.1*y.2.1:Int):Rat)=(m:Rat)*2^t:=by
  rw[hN];simp
 have hd:∀z:Int,z%m=0:=by
  intro z
  rcases hm with e|e<;>rw[e]
  ·exact Int.emod_one z
  ·rw[Int.emod_neg];exact Int.emod_one z
 have hq:∀z:Int,((z/m:Int):Rat)=(z:Rat)/m:=by
  intro z
  rcases hm with e|e<;>rw[e]
  ·rw[Int.ediv_one];have:((1:Int):Rat)=1:=rfl;rw[this];grind
  ·have e2:z/(-1)= -z:=by rw[Int.ediv_neg,Int.ediv_one]
   rw[e2]
   have:((-1:Int):Rat)= -1:=rfl
   rw[this,Rat.intCast_neg];grind
 have hb:∀z:Int,z/m=z\/z/m= -z:=by
  intro z
  rcases hm with e|e<;>rw[e]
  ·exact .inl (Int.ediv_one z)
  ·right;rw[Int.ediv_neg,Int.ediv_one]
 refine⟨low (x.2.2.toNat+t) ((x.1*y.1-2*x.2.1*y.2.1)/m) ((x.2.1*y.1-x.1*y.2.1)/m), ?_,Ba _ _ _, ?_, ?_, ?_⟩
 ·unfold LC
  rw[if_neg h0,h,if_pos ⟨hd _,hd _⟩]
 ·obtain⟨x1,x2,x3,x4⟩:=hx
  obtain⟨y1,y2,y3,y4⟩:=hy
  have hy0:y.2.2.toNat=0:=by omega
  rw[hy0]at y3 y4
  have hp:(0:Int)<=2^x.2.2.toNat:=Int.le_of_lt (Int.pow_pos (by decide))
  have aa:=lD hV hp x3.1 x3.2 y3.1 y3.2
  have bb:=lD hV hp x4.1 x4.2 y4.1 y4.2
  have ab:=lD hV hp x3.1 x3.2 y4.1 y4.2
  have ba:=lD hV hp x4.1 x4.2 y3.1 y3.2
  have e2:2*x.2.1*y.2.1=2*(x.2.1*y.2.1):=Int.mul_assoc ..
  have ht1:(1:Int)<=2^t:=Int.pow_pos (by decide)
  have hE:0<=V*M*(2^x.2.2.toNat*2^0):=by omega
  have hle:V*M*(2^x.2.2.toNat*2^0)<=V*M*(2^x.2.2.toNat*2^0)*2^t:=by
   have:=Int.mul_le_mul_of_nonneg_left ht1 hE
   omega
  have e:3*(V*M)*2^(x.2.2.toNat+t)=3*(V*M*(2^x.2.2.toNat*2^0)*2^t):=by rw[Int.pow_add];grind
  have h1:=hb (x.1*y.1-2*x.2.1*y.2.1)
  have h2:=hb (x.2.1*y.1-x.1*y.2.1)
  refine(Ni (V:=3*(V*M)) _ _ _ ?_ ?_ ?_ ?_).mono (Int.le_refl _) (by omega)<;>rw[e]<;>omega
 ·rw[Iy,hq,hNq,sY]
  unfold vA vB
  have h1:=bM x.2.2.toNat
  have h2:=bM t
  have hm0:(m:Rat)≠0:=by rcases hm with e|e<;>rw[e]<;>decide
  simp only[Rat.intCast_sub,Rat.intCast_mul,Rat.intCast_ofNat]
  exact acY _ _ _ _ _ h1 h2 hm0 _ _
 ·rw[Iz,hq,hNq,sY]
  unfold vA vB
  have h1:=bM x.2.2.toNat
  have h2:=bM t
  have hm0:(m:Rat)≠0:=by rcases hm with e|e<;>rw[e]<;>decide
  simp only[Rat.intCast_sub,Rat.intCast_mul]
  exact abA _ _ _ _ _ h1 h2 hm0 _ _
theorem afL{y:Nm}(h:y.2.2=0):ku y y=(2*y.1,(2*y.2.1,0)):=by
 unfold ku
 rw[h]
 show low 0 _ _=_
 rw[low]
 simp
 omega
end Go.Vai
