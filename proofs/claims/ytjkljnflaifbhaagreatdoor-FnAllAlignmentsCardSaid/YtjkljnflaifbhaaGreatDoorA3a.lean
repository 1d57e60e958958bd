/- No conditions. -/
import Derived.Test.YtjkljnflaifbhaaGreatDoorPK
import Derived.Test.YtjkljnflaifbhaaGreatDoorAL1
import Derived.Test.YtjkljnflaifbhaaGreatDoorA2s
namespace Go.Proofs.YtjkljnflaifbhaaGreatDoor
open Go.Vai
def zb(a:Int):Prop:= -9223372036854775808<=a/\a<=9223372036854775807
theorem wI{a:Int}(h:zb a):IntKind.wrap .i64 a=a:=aD h.1 h.2
theorem LH(a:Int):(Int.tmod a 2==0)=decide (a%2=0):=by
 rw[show(Int.tmod a 2==0)=decide (Int.tmod a 2=0) by rfl]
 congr 1
 apply propext
 rw[Int.tmod_eq_emod]
 split<;>omega
theorem Ru(a:Int):(Int.tmod a 2 !=0)=decide (a%2≠0):=by
 rw[bne,LH]
 by_cases h:a%2=0<;>simp[h]
theorem JD{a:Int}(h:a%2=0):Int.tdiv a 2=a/2:=by
 rw[Int.tdiv_eq_ediv]
 split<;>omega
theorem JQ(a:Int)(m:Nat)(hm:m<18446744073709551616):(BitVec.toNat ((BitVec.ofInt 64 a)&&&(BitVec.ofInt 64 (m:Int))))=(a%18446744073709551616).toNat&&&m:=by
 rw[BitVec.toNat_and]
 congr 1
 rw[BitVec.toNat_ofInt]
 omega
theorem P5(a:Int):IntKind.wrap IntKind.i64 (((BitVec.toNat ((BitVec.ofInt 64 a)&&&(BitVec.ofInt 64 (1:Int)))):Nat):Int)=a%2:=by
 have:=JQ a 1 (by omega)
 rw[show((1:Nat):Int)=1 from rfl]at this
 rw[this,Nat.and_one_is_mod,aD (by omega) (by omega)]
 omega
theorem Sy(a:Int):IntKind.wrap IntKind.i64 (((BitVec.toNat ((BitVec.ofInt 64 a)&&&(BitVec.ofInt 64 (7:Int)))):Nat):Int)=a%8:=by
 have:=JQ a 7 (by omega)
 rw[show((7:Nat):Int)=7 from rfl]at this
 rw[this,show(7:Nat)=2^3-1 from rfl,Nat.and_two_pow_sub_one_eq_mod,aD (by omega) (by omega)]
 omega
theorem Ht:∀k,low k 0 0=(0,(0,0))
 |0=>rfl
 |k+1=>by rw[low,if_pos ⟨rfl,rfl⟩];exact Ht k
theorem DX(p q r:Int):∀(k:Nat) (a b:Int),k<=1000->zb a->zb b->
 ja (me a b (k:Int) p q r)=some (.inl (mN (low k a b).1 (low k a b).2.1 (low k a b).2.2 p q r))
 |0,a,b,hk,ha,hb=>by
  rw[xC,iZ,bT (by omega),cond_false];rfl
 |k+1,a,b,hk,ha,hb=>by
  have h1:=ha.1;have h2:=ha.2;have h3:=hb.1;have h4:=hb.2
  rw[xC,iZ,bG (by omega),cond_true,LH,LH,low]
  by_cases h:a%2=0
  ·rw[bG h,cond_true]
   by_cases h':b%2=0
   ·rw[bG h',cond_true,if_pos ⟨h,h'⟩,JD h,JD h',aD (n:=a/2) (by omega) (by omega),aD (n:=b/2) (by omega) (by omega),aD (by omega) (by omega),
     show((k+1:Nat):Int)-1=(k:Int) by omega]
    exact DX p q r k _ _ (by omega) ⟨by omega,by omega⟩ ⟨by omega,by omega⟩
   ·rw[bT h',cond_false,if_neg (fun e=>h' e.2)];rfl
  ·rw[bT h,cond_false,if_neg (fun e=>h e.1)];rfl
theorem AI{a b k:Int}(hk:0<=k)(hk':k<=1000)(ha:zb a)(hb:zb b):eF (a,(b,k))=some (low k.toNat a b):=by
 have hw:=DX 0 0 0 k.toNat a b (by omega) ha hb
 rw[Int.toNat_of_nonneg hk]at hw
 rw[eF,oT]
 simp only
 rw[hw]
 rw[show(a==0)=decide (a=0) by rfl,show(b==0)=decide (b=0) by rfl]
 by_cases h:a=0
 ·by_cases h':b=0
  ·subst h;subst h';rw[Ht];rfl
  ·rw[bG h,bT h'];rfl
 ·rw[bT h];rfl
theorem xP(p q r:Int):∀(k:Nat) (a b:Int),k<=1000->zb a->zb b->
 fF (fA a b (k:Int) p q r)=some (.inl (jp (low k a b).1 (low k a b).2.1 (low k a b).2.2 p q r))
 |0,a,b,hk,ha,hb=>by
  rw[rh,eE,bT (by omega),cond_false];rfl
 |k+1,a,b,hk,ha,hb=>by
  have h1:=ha.1;have h2:=ha.2;have h3:=hb.1;have h4:=hb.2
  rw[rh,eE,bG (by omega),cond_true,P5,P5,low]
  rw[show(a%2==0)=decide (a%2=0) by rfl,show(b%2==0)=decide (b%2=0) by rfl]
  by_cases h:a%2=0
  ·rw[bG h,cond_true]
   by_cases h':b%2=0
   ·rw[bG h',cond_true,if_pos ⟨h,h'⟩,JD h,JD h',aD (n:=a/2) (by omega) (by omega),aD (n:=b/2) (by omega) (by omega),aD (n:=((k+1:Nat):Int)-1) (by omega) (by omega),
     show((k+1:Nat):Int)-1=(k:Int) by omega]
    have IH:=xP p q r k (a/2) (b/2) (by omega) ⟨by omega,by omega⟩ ⟨by omega,by omega⟩
    rw[show(a/2==0)=decide (a/2=0) by rfl,show(b/2==0)=decide (b/2=0) by rfl]
    by_cases e:a/2=0
    ·by_cases e':b/2=0
     ·rw[bG e,bG e',cond_true,cond_true,e,e',Ht]
      have I0:=xP p q r 0 0 0 (by omega) ⟨by omega,by omega⟩ ⟨by omega,by omega⟩
      exact I0
     ·rw[bG e,bT e',cond_true,cond_false];exact IH
    ·rw[bT e,cond_false];exact IH
   ·rw[bT h',cond_false,if_neg (fun e=>h' e.2)];rfl
  ·rw[bT h,cond_false,if_neg (fun e=>h e.1)];rfl
theorem C7{a b k:Int}(hk:0<=k)(hk':k<=1000)(ha:zb a)(hb:zb b):cw (a,(b,k))=some (low k.toNat a b):=by
 have hw:=xP 0 0 0 k.toNat a b (by omega) ha hb
 rw[Int.toNat_of_nonneg hk]at hw
 rw[cw,jQ]
 simp only
 rw[hw]
 rfl
theorem Ew{V V':Int}{κ κ':Nat}{x y:Nm}(hx:Bd V κ x)(hy:Bd V' κ' y)(hV:0<=V)(h1:V*2^κ<=2305843009213693952)(h2:3*(V*V')*2^(κ+κ')<=4611686018427387904):
 (zb (x.1*y.1)/\zb (2*x.2.1)/\zb (2*x.2.1*y.2.1)/\zb (x.1*y.1+2*x.2.1*y.2.1))/\(zb (x.1*y.2.1)/\zb (x.2.1*y.1)/\zb (x.1*y.2.1+x.2.1*y.1)):=by
 have bx:=hx.pow_le hV
 obtain⟨x1,x2,x3,x4⟩:=hx
 obtain⟨y1,y2,y3,y4⟩:=hy
 have hp:(0:Int)<=2^x.2.2.toNat:=Int.le_of_lt (Int.pow_pos (by decide))
 have aa:=gG hV hp x3.1 x3.2 y3.1 y3.2
 have bb:=gG hV hp x4.1 x4.2 y4.1 y4.2
 have ab:=gG hV hp x3.1 x3.2 y4.1 y4.2
 have ba:=gG hV hp x4.1 x4.2 y3.1 y3.2
 have hVV:0<=V*V'*(2^x.2.2.toNat*2^y.2.2.toNat):=by omega
 have hV':0<=V*V':=by
  have hq:(0:Int)<2^x.2.2.toNat*2^y.2.2.toNat:=Int.mul_pos (Int.pow_pos (by decide)) (Int.pow_pos (by decide))
  by_cases h:0<=V*V'
  ·exact h
  ·exfalso
   have:=Int.mul_neg_of_neg_of_pos (show V*V'<0 by omega) hq
   omega
 have hle:V*V'*(2^x.2.2.toNat*2^y.2.2.toNat)<=V*V'*2^(κ+κ'):=by
  rw[<-Int.pow_add]
  refine Int.mul_le_mul_of_nonneg_left ?_ hV'
  have:=Nat.pow_le_pow_right (show 0<2 by decide) (show x.2.2.toNat+y.2.2.toNat<=κ+κ' by omega)
  exact_mod_cast this
 have h3:3*(V*V'*2^(κ+κ'))<=4611686018427387904:=by rw[<-Int.mul_assoc];exact h2
 have e2:2*x.2.1*y.2.1=2*(x.2.1*y.2.1):=Int.mul_assoc ..
 rw[e2]
 unfold zb
 refine⟨⟨⟨?_, ?_⟩,⟨?_, ?_⟩,⟨?_, ?_⟩,⟨?_, ?_⟩⟩,⟨⟨?_, ?_⟩,⟨?_, ?_⟩,⟨?_, ?_⟩⟩⟩<;>omega
theorem gB{V V':Int}{κ κ':Nat}{x y:Nm}(hx:Bd V κ x)(hy:Bd V' κ' y)(hV:0<=V)(hκ:κ+κ'<=1000)(h1:V*2^κ<=2305843009213693952)(h2:3*(V*V')*2^(κ+κ')<=4611686018427387904):
 bK x y=some (kQ x y)/\bR x y=some (kQ x y):=by
 obtain⟨⟨f1,f2,f3,f4⟩,f5,f6,f7⟩:=Ew hx hy hV h1 h2
 have hk1:=hx.1
 have hk2:=hx.2.1
 have hk3:=hy.1
 have hk4:=hy.2.1
 have hk:(x.2.2+y.2.2).toNat=x.2.2.toNat+y.2.2.toNat:=by omega
 constructor
 ·rw[bK,oU]
  rw[wI f1,wI f2,wI f3,wI f4,wI f5,wI f6,wI f7,aD (n:=x.2.2+y.2.2) (by omega) (by omega),AI (by omega) (by omega) f4 f7,hk]
  rfl
 ·rw[bR,lv]
  rw[wI f1,wI f2,wI f3,wI f4,wI f5,wI f6,wI f7,aD (n:=x.2.2+y.2.2) (by omega) (by omega),C7 (by omega) (by omega) f4 f7,hk]
  rfl
theorem KC{a:Int}{n:Nat}(h1: -4611686018427387904<=a*2^(n+1))(h2:a*2^(n+1)<=4611686018427387904):zb (a*2)/\(-4611686018427387904<=a*2*2^n/\a*2*2^n<=4611686018427387904):=by
 have e:a*2^(n+1)=a*2*2^n:=by rw[Int.pow_succ];grind
 rw[e]at h1 h2
 have hp:(1:Int)<=2^n:=Int.pow_pos (by decide)
 refine⟨⟨?_, ?_⟩,h1,h2⟩
 ·by_cases h:0<=a*2
  ·omega
  ·have:=Int.mul_le_mul_of_nonneg_left hp (show 0<= -(a*2) by omega)
   rw[Int.neg_mul,Int.neg_mul]at this
   omega
 ·by_cases h:0<=a*2
  ·have:=Int.mul_le_mul_of_nonneg_left hp h
   omega
  ·omega
theorem BM(a' b' k' p q r:Int)(hk':k'<=1000):∀(n:Nat) (a b k:Int),0<=k->n=(k'-k).toNat->(-4611686018427387904<=a*2^n/\a*2^n<=4611686018427387904)->(-4611686018427387904<=b*2^n/\b*2^n<=4611686018427387904)->
 ko (pn a b k a' b' k' p q r)=some (.inl (vH (a*2^n) (b*2^n) (k+n) a' b' k' p q r))
 |0,a,b,k,hk,hn,ha,hb=>by
  rw[xA,iX,bT (by omega),cond_false]
  simp;rfl
 |n+1,a,b,k,hk,hn,ha,hb=>by
  obtain⟨ia,ha'⟩:=KC ha.1 ha.2
  obtain⟨ib,hb'⟩:=KC hb.1 hb.2
  rw[xA,iX,bG (by omega),cond_true,wI ia,wI ib,aD (n:=k+1) (by omega) (by omega)]
  refine(BM a' b' k' p q r hk' n (a*2) (b*2) (k+1) (by omega) (by omega) ha' hb').trans ?_
  rw[show a*2*2^n=a*2^(n+1) by rw[Int.pow_succ];grind,show b*2*2^n=b*2^(n+1) by rw[Int.pow_succ];grind,show k+1+(n:Int)=k+((n+1:Nat):Int) by omega]
theorem BN(a' b' k' p q r:Int)(hk':k'<=1000):∀(n:Nat) (a b k:Int),0<=k->n=(k'-k).toNat->(-4611686018427387904<=a*2^n/\a*2^n<=4611686018427387904)->(-4611686018427387904<=b*2^n/\b*2^n<=4611686018427387904)->
 kp (po a' b' k' a b k p q r)=some (.inl (vI a' b' k' (a*2^n) (b*2^n) (k+n) p q r))
 |0,a,b,k,hk,hn,ha,hb=>by
  rw[xB,iY,bT (by omega),cond_false]
  simp;rfl
 |n+1,a,b,k,hk,hn,ha,hb=>by
  obtain⟨ia,ha'⟩:=KC ha.1 ha.2
  obtain⟨ib,hb'⟩:=KC hb.1 hb.2
  rw[xB,iY,bG (by omega),cond_true,wI ia,wI ib,aD (n:=k+1) (by omega) (by omega)]
  refine(BN a' b' k' p q r hk' n (a*2) (b*2) (k+1) (by omega) (by omega) ha' hb').trans ?_
  rw[show a*2*2^n=a*2^(n+1) by rw[Int.pow_succ];grind,show b*2*2^n=b*2^(n+1) by rw[Int.pow_succ];grind,show k+1+(n:Int)=k+((n+1:Nat):Int) by omega]
theorem mI{V V':Int}{κ κ':Nat}{x y:Nm}(hx:Bd V κ x)(hy:Bd V' κ' y)(hV:0<=V)(hV':0<=V')(hκ:κ<=60)(hκ':κ'<=60)(h:(V+V')*2^(max κ κ')<=4611686018427387904):
 cE x y=some (ej x y)/\de x y=some (ej x y):=by
 obtain⟨x1,x2,x3,x4⟩:=hx
 obtain⟨y1,y2,y3,y4⟩:=hy
 have hK:max x.2.2.toNat y.2.2.toNat<=max κ κ':=by omega
 have a1:=FF (Nat.le_max_left x.2.2.toNat y.2.2.toNat) x3.1 x3.2
 have a2:=FF (Nat.le_max_left x.2.2.toNat y.2.2.toNat) x4.1 x4.2
 have a3:=FF (Nat.le_max_right x.2.2.toNat y.2.2.toNat) y3.1 y3.2
 have a4:=FF (Nat.le_max_right x.2.2.toNat y.2.2.toNat) y4.1 y4.2
 have hp:(2:Int)^(max x.2.2.toNat y.2.2.toNat)<=2^(max κ κ'):=by
  have:=Nat.pow_le_pow_right (show 0<2 by decide) hK
  exact_mod_cast this
 have e1:=Int.mul_le_mul_of_nonneg_left hp hV
 have e2:=Int.mul_le_mul_of_nonneg_left hp hV'
 have e3:(V+V')*2^(max κ κ')=V*2^(max κ κ')+V'*2^(max κ κ'):=Int.add_mul ..
 have p1:0<=V*2^(max x.2.2.toNat y.2.2.toNat):=Int.mul_nonneg hV (Int.le_of_lt (Int.pow_pos (by decide)))
 have p2:0<=V'*2^(max x.2.2.toNat y.2.2.toNat):=Int.mul_nonneg hV' (Int.le_of_lt (Int.pow_pos (by decide)))
 have hm:((max x.2.2.toNat y.2.2.toNat:Nat):Int)=max x.2.2 y.2.2:=by omega
 have hkx:max x.2.2.toNat y.2.2.toNat-x.2.2.toNat=(y.2.2-x.2.2).toNat:=by omega
 have hky:max x.2.2.toNat y.2.2.toNat-y.2.2.toNat=(x.2.2-y.2.2).toNat:=by omega
 have i1:zb (x.1*2^(max x.2.2.toNat y.2.2.toNat-x.2.2.toNat)+y.1*2^(max x.2.2.toNat y.2.2.toNat-y.2.2.toNat)):=⟨by omega,by omega⟩
 have i2:zb (x.2.1*2^(max x.2.2.toNat y.2.2.toNat-x.2.2.toNat)+y.2.1*2^(max x.2.2.toNat y.2.2.toNat-y.2.2.toNat)):=⟨by omega,by omega⟩
 constructor
 ·rw[cE,oR]
  rw[BM y.1 y.2.1 y.2.2 0 0 0 (by omega) (y.2.2-x.2.2).toNat x.1 x.2.1 x.2.2 x1 rfl (by rw[<-hkx];omega) (by rw[<-hkx];omega)]
  simp only[Option.bind_some,sj,eJ,dZ]
  rw[BN _ _ _ 0 0 0 (by omega) (x.2.2-y.2.2).toNat y.1 y.2.1 y.2.2 y1 (by omega) (by rw[<-hky];omega) (by rw[<-hky];omega)]
  simp only[Option.bind_some,dZ]
  rw[<-hkx,<-hky,wI i1,wI i2,AI (by omega) (by omega) i1 i2]
  rw[show(x.2.2+((max x.2.2.toNat y.2.2.toNat-x.2.2.toNat:Nat):Int)).toNat=max x.2.2.toNat y.2.2.toNat by omega]
  rfl
 ·rw[de,mm]
  have hM:(if y.2.2>x.2.2 then y.2.2 else x.2.2)=((max x.2.2.toNat y.2.2.toNat:Nat):Int):=by split<;>omega
  simp only[if_true,hM]
  have w1:IntKind.wrap IntKind.i64 (((max x.2.2.toNat y.2.2.toNat:Nat):Int)-x.2.2)=((max x.2.2.toNat y.2.2.toNat-x.2.2.toNat:Nat):Int):=by rw[aD (by omega) (by omega)];omega
  have w2:IntKind.wrap IntKind.i64 (((max x.2.2.toNat y.2.2.toNat:Nat):Int)-y.2.2)=((max x.2.2.toNat y.2.2.toNat-y.2.2.toNat:Nat):Int):=by rw[aD (by omega) (by omega)];omega
  rw[w1,w2,bT (by omega),bT (by omega),Int.toNat_natCast,Int.toNat_natCast]
  simp only[cond_false]
  rw[show min (max x.2.2.toNat y.2.2.toNat-x.2.2.toNat) 64=max x.2.2.toNat y.2.2.toNat-x.2.2.toNat by omega,show min (max x.2.2.toNat y.2.2.toNat-y.2.2.toNat) 64=max x.2.2.toNat y.2.2.toNat-y.2.2.toNat by omega]
  rw[aD (n:=x.1*_) (by omega) (by omega),aD (n:=y.1*_) (by omega) (by omega),aD (n:=x.2.1*_) (by omega) (by omega),aD (n:=y.2.1*_) (by omega) (by omega),wI i1,wI i2,C7 (by omega) (by omega) i1 i2,Int.toNat_natCast]
  rfl
theorem Rn{V:Int}{κ:Nat}{x:Nm}(hx:Bd V κ x)(hV:0<=V)(h:V*2^κ<=4611686018427387904):mB x=some (Gi x)/\bE x=some (Gi x):=by
 have:=hx.pow_le hV
 constructor
 ·rw[mB,oV,aD (n:=0-x.1) (by omega) (by omega),aD (n:=0-x.2.1) (by omega) (by omega),Int.zero_sub,Int.zero_sub];rfl
 ·rw[bE,nA,aD (n:=0-x.1) (by omega) (by omega),aD (n:=0-x.2.1) (by omega) (by omega),Int.zero_sub,Int.zero_sub];rfl
theorem lS{V V':Int}{κ κ':Nat}{x y:Nm}(hx:Bd V κ x)(hy:Bd V' κ' y)(hV:0<=V)(hV':0<=V')(hκ:κ<=60)(hκ':κ'<=60)(h:(V+V')*2^(max κ κ')<=4611686018427387904):
 cp x y=some (kW x y)/\bJ x y=some (kW x y):=by
 have h':V'*2^κ'<=4611686018427387904:=by
  have hp:(2:Int)^κ'<=2^(max κ κ'):=by
   have:=Nat.pow_le_pow_right (show 0<2 by decide) (Nat.le_max_right κ κ')
   exact_mod_cast this
  have e2:=Int.mul_le_mul_of_nonneg_left hp hV'
  have e3:(V+V')*2^(max κ κ')=V*2^(max κ κ')+V'*2^(max κ κ'):=Int.add_mul ..
  have p1:0<=V*2^(max κ κ'):=Int.mul_nonneg hV (Int.le_of_lt (Int.pow_pos (by decide)))
  omega
 have hn:=Rn hy hV' h'
 have ha:=mI hx (Nj hy) hV hV' hκ hκ' h
 constructor
 ·rw[cp,oW,hn.1,Option.bind_some,ha.1];rfl
 ·rw[bJ,lu,hn.2,Option.bind_some,ha.2];rfl
def nu(x:Nm):Bool:=(decide (-131072<=x.1)&&decide (x.1<=131072))&&((decide (-131072<=x.2.1)&&decide (x.2.1<=131072))&&((decide (0<=x.2.2)&&decide (x.2.2<=10))&&(decide (x.2.2=0)||(decide (x.1%2≠0)||decide (x.2.1%2≠0)))))
theorem J8(x a b:Int):ij x a b=some (decide (a<=x)&&decide (x<=b)):=by
 unfold ij qR
 rw[show decide (x>=a)=decide (a<=x)from rfl]
 cases decide (a<=x)<;>simp
theorem J7(x a b:Int):fO x a b=some (decide (a<=x)&&decide (x<=b)):=by
 unfold fO oM
 rw[show decide (x>=a)=decide (a<=x)from rfl]
 cases decide (a<=x)<;>simp
theorem Ai(x:Nm):jq x=some (nu x):=by
 unfold jq qS nu
 simp only[J8,Option.bind_some,Ru]
 rw[show(x.2.2==0)=decide (x.2.2=0)from rfl]
 cases(decide (-131072<=x.1)&&decide (x.1<=131072))<;>cases(decide (-131072<=x.2.1)&&decide (x.2.1<=131072))<;>cases(decide (0<=x.2.2)&&decide (x.2.2<=10))<;>cases decide (x.2.2=0)<;>cases decide (x.1%2≠0)<;>simp
theorem Qk(a:Int):(a%2==1)=decide (a%2≠0):=by
 rw[show(a%2==1)=decide (a%2=1)from rfl]
 congr 1
 apply propext
 omega
theorem zr(x:Nm):cx x=some (nu x):=by
 unfold cx mp nu
 simp only[J7,Option.bind_some,P5,Qk]
 rw[show(x.2.2==0)=decide (x.2.2=0)from rfl]
 cases(decide (-131072<=x.1)&&decide (x.1<=131072))<;>cases(decide (-131072<=x.2.1)&&decide (x.2.1<=131072))<;>cases(decide (0<=x.2.2)&&decide (x.2.2<=10))<;>cases decide (x.2.2=0)<;>cases decide (x.1%2≠0)<;>simp
def jd(l:Ln):Bool:=(decide (0<=l.1)&&decide (l.1<=7))&&nu l.2
def jF(p:Pt):Bool:=nu p.1&&nu p.2
theorem EG{x:Nm}(h:nu x=true):Bd 131072 10 x:=by
 simp only[nu,Bool.and_eq_true,decide_eq_true_eq]at h
 obtain⟨⟨h1,h2⟩,⟨h3,h4⟩,⟨h5,h6⟩,_⟩:=h
 have:(1:Int)<=2^x.2.2.toNat:=Int.pow_pos (by decide)
 exact⟨h5,by omega,by omega,by omega⟩
theorem Kr{x:Nm}(h:nu x=true):x.can:=by
 simp only[nu,Bool.and_eq_true,Bool.or_eq_true,decide_eq_true_eq]at h
 obtain⟨_,_,⟨h5,h6⟩,h7⟩:=h
 exact⟨h5,h7⟩
def SE:List Pt:=[((1,(0,0)),(0,(0,0))),((1,(0,0)),(-1,(1,0))),((1,(0,0)),(1,(0,0))),((-1,(1,0)),(1,(0,0))),((0,(0,0)),(1,(0,0))),((1,(-1,0)),(1,(0,0))),((-1,(0,0)),(1,(0,0))),((-1,(0,0)),(-1,(1,0))),
 ((-1,(0,0)),(0,(0,0))),((-1,(0,0)),(1,(-1,0))),((-1,(0,0)),(-1,(0,0))),((1,(-1,0)),(-1,(0,0))),((0,(0,0)),(-1,(0,0))),((-1,(1,0)),(-1,(0,0))),((1,(0,0)),(-1,(0,0))),((1,(0,0)),(1,(-1,0)))]
def aq(d:Int):Pt:=SE.getD d.toNat ((0,(0,0)),(0,(0,0)))
theorem xZ{d:Int}(h0:0<=d)(h1:d<16):d=0\/d=1\/d=2\/d=3\/d=4\/d=5\/d=6\/d=7\/d=8\/d=9\/d=10\/d=11\/d=12\/d=13\/d=14\/d=15:=by omega
theorem nH{d:Int}(h0:0<=d)(h1:d<16):cQ d=some (aq d)/\kN d=some (aq d):=by
 rcases xZ h0 h1 with rfl|rfl|rfl|rfl|rfl|rfl|rfl|rfl|rfl|rfl|rfl|rfl|rfl|rfl|rfl|rfl<;>exact⟨by kernel_rfl,by kernel_rfl⟩
theorem el{d:Int}(h0:0<=d)(h1:d<16):Bd 1 0 (aq d).1/\Bd 1 0 (aq d).2:=by
 rcases xZ h0 h1 with rfl|rfl|rfl|rfl|rfl|rfl|rfl|rfl|rfl|rfl|rfl|rfl|rfl|rfl|rfl|rfl<;>(unfold Bd;decide)
theorem MC(d:Int)(_h0: -1000<=d)(_h1:d<=1000):kO d=some (d%16):=by
 unfold kO oX
 have h2: -16<Int.tmod d 16:=by rw[Int.tmod_eq_emod];split<;>omega
 have h3:Int.tmod d 16<16:=Int.tmod_lt_of_pos d (by decide)
 rw[aD (by omega) (by omega),Int.tmod_eq_emod_of_nonneg (by omega)]
 have:Int.tmod d 16%16=d%16:=by
  rw[Int.tmod_eq_emod]
  split<;>omega
 congr 1
 omega
def bI(v p:Pt):Nm:=ej (kQ v.1 p.1) (kQ v.2 p.2)
theorem lI{V V':Int}{κ κ':Nat}{v p:Pt}(hV:0<=V)(hv:Bd V κ v.1/\Bd V κ v.2)(hp:Bd V' κ' p.1/\Bd V' κ' p.2):Bd (3*(V*V')+3*(V*V')) (κ+κ') (bI v p):=by
 have:=fI (cR hV hv.1 hp.1) (cR hV hv.2 hp.2)
 rw[Nat.max_self]at this
 exact this
theorem sD{V:Int}{κ:Nat}{d:Int}{p:Pt}(h0:0<=d)(h1:d<16)(hV:0<=V)(hκ:κ<=60)(hp:Bd V κ p.1/\Bd V κ p.2)(h:6*V*2^κ<=4611686018427387904):
 ci d p=some (bI (aq d) p)/\bS (aq d) p=some (bI (aq d) p):=by
 obtain⟨hv1,hv2⟩:=el h0 h1
 have hpw:0<=V*2^κ:=Int.mul_nonneg hV (Int.le_of_lt (Int.pow_pos (by decide)))
 have e:6*V*2^κ=6*(V*2^κ):=Int.mul_assoc ..
 have k3:3*(1*V)*2^(0+κ)<=4611686018427387904:=by
  rw[Nat.zero_add,Int.one_mul,Int.mul_assoc];omega
 have m1:=gB hv1 hp.1 (by decide) (by omega) (by decide) k3
 have m2:=gB hv2 hp.2 (by decide) (by omega) (by decide) k3
 have b1:=cR (V:=1) (by decide) hv1 hp.1
 have b2:=cR (V:=1) (by decide) hv2 hp.2
 have a:=mI b1 b2 (by omega) (by omega) (by omega) (by omega) (by
  rw[Nat.max_self,Nat.zero_add]
  have:(3*(1*V)+3*(1*V))*2^κ=6*(V*2^κ):=by grind
  omega)
 obtain⟨v1,v2⟩:=nH h0 h1
 constructor
 ·rw[ci,kT,v1]
  simp only[Option.bind_some,aM,cC,aX,bX]
  rw[m1.1,m2.1]
  simp only[Option.bind_some]
  rw[a.1];rfl
 ·rw[bS,lw,m1.2,m2.2]
  simp only[Option.bind_some]
  rw[a.2];rfl
def jz(p:Pt)(d:Int):Ln:=(d,bI (aq (d+4)) p)
theorem qd{V:Int}{κ:Nat}{d:Int}{p:Pt}(h0:0<=d)(h1:d<8)(hV:0<=V)(hκ:κ<=60)(hp:Bd V κ p.1/\Bd V κ p.2)(h:6*V*2^κ<=4611686018427387904):
 dL p d=some (jz p d):=by
 rw[dL,oK,bv,cM]
 simp only
 rw[aD (n:=d+4) (by omega) (by omega),(nH (d:=d+4) (by omega) (by omega)).2]
 simp only[Option.bind_some]
 rw[(sD (by omega) (by omega) hV hκ hp h).2];rfl
theorem Iv(x:Nm):nO x=some x:=rfl
theorem zA{x:Nm}(h:x.can):low x.2.2.toNat x.1 x.2.1=x:=by
 have hk:=h.1
 cases hn:x.2.2.toNat with
 |zero=>
  rw[low]
  have:x.2.2=0:=by omega
  exact Prod.ext rfl (Prod.ext rfl this.symm)
 |succ n=>
  rw[low,if_neg]
  ·exact Prod.ext rfl (Prod.ext rfl (by show((n+1:Nat):Int)=x.2.2;omega))
  ·rintro ⟨h1,h2⟩
   rcases h.2 with h|h|h
   ·omega
   ·exact h h1
   ·exact h h2
theorem ML{x:Nm}(hc:x.can)(hk:x.2.2<=1000)(ha:zb x.1)(hb:zb x.2.1):bz x=some (cond (nu x) (x,true) ((0,(0,0)),false)):=by
 rw[bz,kS]
 have:=AI (a:=x.1) (b:=x.2.1) hc.1 hk ha hb
 rw[zA hc]at this
 have this:eF x=some x:=this
 rw[this]
 simp only[Option.bind_some,Ai]
 cases nu x<;>rfl
def Gk(l:Ln):Ln×Int:=cond (nu l.2) (l,0) ((0,(0,(0,0))),2)
theorem kD(p:Pt):bN p=some (jF p):=by
 unfold bN mu jF
 simp only[Option.bind_some,Ai]
 cases nu p.1<;>simp
theorem iw(p:Pt):bf p=some (jF p):=by
 unfold bf kF jF
 simp only[Option.bind_some,zr]
 cases nu p.1<;>simp
theorem ew{p:Pt}(h:jF p=true):Bd 131072 10 p.1/\Bd 131072 10 p.2:=by
 simp only[jF,Bool.and_eq_true]at h
 exact⟨EG h.1,EG h.2⟩
theorem No{l:Ln}(h:jd l=true):0<=l.1/\l.1<=7:=by
 simp only[jd,Bool.and_eq_true,decide_eq_true_eq]at h
 exact h.1
theorem uf{V:Int}{κ:Nat}{x:Nm}(h:Bd V κ x)(hV:0<=V)(hb:V*2^κ<=4611686018427387904):zb x.1/\zb x.2.1:=by
 have:=h.pow_le hV
 exact⟨⟨by omega,by omega⟩,⟨by omega,by omega⟩⟩
theorem Mo(x:Nm):qt x x=some true:=by
 rw[qt,tO]
 simp
theorem QH(l:Ln):rJ l l=some true:=by
 rw[rJ,rV,Mo]
 simp
theorem Rw(p:Pt):qu p=some p:=by
 rw[qu,qN,Iv,Iv];rfl
theorem pe{d:Int}(h0:0<=d)(h1:d<16):bI (aq d) (aq d)=(1,(0,0))\/bI (aq d) (aq d)=(4,(-2,0))\/bI (aq d) (aq d)=(2,(0,0)):=by
 rcases xZ h0 h1 with rfl|rfl|rfl|rfl|rfl|rfl|rfl|rfl|rfl|rfl|rfl|rfl|rfl|rfl|rfl|rfl<;>decide
def pU(d:Int):Nm:=bI (aq d) (aq d)
theorem vk{d:Int}(h0:0<=d)(h1:d<16):Bd 4 0 (pU d):=by
 unfold pU
 rcases pe h0 h1 with h|h|h<;>rw[h]<;>(unfold Bd;decide)
def KH(d:Int):Nat:=(fC 64 ((pU d).1*(pU d).1-2*(pU d).2.1*(pU d).2.1)).2
theorem Nq{d:Int}(h0:0<=d)(h1:d<16)(x:Nm):uq x (pU d)=(ur (KH d) x (pU d),true):=by
 have h:=pe h0 h1
 have hs:pU d=bI (aq d) (aq d):=rfl
 rw[<-hs]at h
 refine O1 ?_ ?_
 ·unfold KH
  rcases h with h|h|h<;>rw[h]<;>decide
 ·rcases h with h|h|h<;>rw[h]<;>decide
theorem Iq{d:Int}(h0:0<=d)(h1:d<16):KH d<=3:=by
 have h:=pe h0 h1
 have hs:pU d=bI (aq d) (aq d):=rfl
 rw[<-hs]at h
 unfold KH
 rcases h with h|h|h<;>rw[h]<;>decide
theorem Mx{d:Int}(h0:0<=d)(h1:d<16):bS (aq d) (aq d)=some (pU d):=
 (sD h0 h1 (by decide) (by decide) (el h0 h1) (by decide)).2
def yg(v:Pt)(x:Nm):Pt:=(kQ v.1 x,kQ v.2 x)
def BG(p q:Pt):Pt:=(ej p.1 q.1,ej p.2 q.2)
theorem E0{V V':Int}{κ κ':Nat}{v:Pt}{x:Nm}(hV:0<=V)(hv:Bd V κ v.1/\Bd V κ v.2)(hx:Bd V' κ' x):Bd (3*(V*V')) (κ+κ') (yg v x).1/\Bd (3*(V*V')) (κ+κ') (yg v x).2:=
 ⟨cR hV hv.1 hx,cR hV hv.2 hx⟩
theorem Py{V V':Int}{κ κ':Nat}{p q:Pt}(hp:Bd V κ p.1/\Bd V κ p.2)(hq:Bd V' κ' q.1/\Bd V' κ' q.2):Bd (V+V') (max κ κ') (BG p q).1/\Bd (V+V') (max κ κ') (BG p q).2:=
 ⟨fI hp.1 hq.1,fI hp.2 hq.2⟩
theorem GL(x:Nm):dY x=some (decide (x.1=0/\x.2.1=0)):=by
 rw[dY,nF,show(x.1==0)=decide (x.1=0)from rfl,show(x.2.1==0)=decide (x.2.1=0)from rfl]
 by_cases h:x.1=0
 ·rw[bG h,cond_true]
  congr 1
  by_cases h':x.2.1=0
  ·rw[bG h',bG ⟨h,h'⟩]
  ·rw[bT h',bT (fun e=>h' e.2)]
 ·rw[bT h,cond_false,bT (fun e=>h e.1)]
theorem HI{x:Nm}(hc:x.can):((x.1==0)&&((x.2.1==0)&&((x.2.2==0)&&true)))=decide (x.1=0/\x.2.1=0):=by
 rw[Bool.eq_iff_iff]
 simp only[Bool.and_eq_true,beq_iff_eq,Bool.and_true,decide_eq_true_eq]
 constructor
 ·exact fun h=>⟨h.1,h.2.1⟩
 ·rintro ⟨h1,h2⟩
  refine⟨h1,h2, ?_⟩
  rcases hc.2 with h|h|h
  ·exact h
  ·rw[h1]at h;exact absurd rfl h
  ·rw[h2]at h;exact absurd rfl h
theorem vp{A:Type}{c:Bool}{x y:Option A}(h:∃r,x=some r)(h':∃r,y=some r):∃r,cond c x y=some r:=by
 cases c
 ·exact h'
 ·exact h
theorem Ah(a:Int):∃r,eO a=some r:=by
 unfold eO jD
 exact vp (vp ⟨_,rfl⟩ ⟨_,rfl⟩) (vp ⟨_,rfl⟩ ⟨_,rfl⟩)
theorem KG(a b:Int):∃r,cA a b=some r:=by
 obtain⟨r,hr⟩:=Ah a
 obtain⟨s,hs⟩:=Ah b
 unfold cA lz
 rw[hr,hs]
 exact vp ⟨_,rfl⟩ (vp ⟨_,rfl⟩ ⟨_,rfl⟩)
def PU(r:Bool)(a b:Int):Int:=
 if a=0/\b=0 then 0 else if 0<=a/\0<=b then 1 else if a<=0/\b<=0 then -1 else if r=decide (b>0)then 1 else -1
theorem FH{x:Nm}{r:Bool}(h:cA x.1 x.2.1=some r):dA x=some (PU r x.1 x.2.1):=by
 unfold dA nE PU
 simp only[h,Option.bind_some]
 rw[show(x.1==0)=decide (x.1=0)from rfl,show(x.2.1==0)=decide (x.2.1=0)from rfl,show(r==decide (x.2.1>0))=decide (r=decide (x.2.1>0))from rfl]
 generalize x.1=a
 generalize x.2.1=b
 by_cases h1:a=0<;>by_cases h2:b=0<;>by_cases h3:0<=a<;>by_cases h4:0<=b<;>by_cases h5:a<=0<;>by_cases h6:b<=0<;>first
  |omega
  |(by_cases h7:r=decide (b>0)<;>simp[h1,h2,h3,h4,h5,h6,h7])
def FG(a:Int):Int:=if a>0 then 1 else if a<0 then -1 else 0
theorem Mw(a:Int):kM a=some (FG a):=by
 unfold kM oL FG
 congr 1
 simp only[if_true,Bool.false_eq_true,if_false]
 repeat' split
 all_goals omega
theorem FP(a b:Int):∃r,eN a b=some r:=by
 unfold eN jC kK rC er iO
 simp only[Option.bind_some]
 exact vp ⟨_,rfl⟩ (vp ⟨_,rfl⟩ ⟨_,rfl⟩)
def Sn(r:Bool)(a b:Int):Int:=
 if FG a=FG b then FG a else if FG b=0 then FG a else if FG a=0 then FG b else if r=true then FG a else FG b
theorem Fg{x:Nm}{r:Bool}(h:eN x.1 x.2.1=some r):df x=some (Sn r x.1 x.2.1):=by
 unfold df mn Sn
 simp only[h,Mw,Option.bind_some]
 rw[show(FG x.1==FG x.2.1)=decide (FG x.1=FG x.2.1)from rfl,show(FG x.2.1==0)=decide (FG x.2.1=0)from rfl,show(FG x.1==0)=decide (FG x.1=0)from rfl]
 by_cases h1:FG x.1=FG x.2.1
 ·simp[h1]
 ·by_cases h2:FG x.2.1=0
  ·simp[h2]
  ·by_cases h3:FG x.1=0
   ·rw[bT h1,bT h2,bG h3,cond_false,cond_false,cond_true,if_neg h1,if_neg h2,if_pos h3]
   ·cases r<;>simp[h1,h2,h3]
theorem IN(x:Nm):∃s,dA x=some s/\(s=0↔(x.1=0/\x.2.1=0)):=by
 obtain⟨r,hr⟩:=KG x.1 x.2.1
 refine⟨_,FH hr, ?_⟩
 unfold PU
 repeat' split
 all_goals(constructor<;>intro h<;>omega)
theorem uW{a:Int}:FG a=0↔a=0:=by unfold FG;repeat' split
                                 all_goals omega
theorem ws(x:Nm):∃s,df x=some s/\(s=0↔(x.1=0/\x.2.1=0)):=by
 obtain⟨r,hr⟩:=FP x.1 x.2.1
 refine⟨_,Fg hr, ?_⟩
 unfold Sn
 repeat' split
 ·rename_i h;rw[uW];constructor
  ·intro e;exact⟨e,by rw[<-uW,<-h,uW];exact e⟩
  ·exact fun e=>e.1
 ·rename_i h;rw[uW]at h⊢;exact⟨fun e=>⟨e,h⟩,fun e=>e.1⟩
 ·rename_i h;rw[uW]at h⊢;exact⟨fun e=>⟨h,e⟩,fun e=>e.2⟩
 ·rename_i h _;rw[uW]at h⊢;exact⟨fun e=>absurd e h,fun e=>absurd e.1 h⟩
 ·rename_i h _ _;rw[uW]at h⊢;exact⟨fun e=>absurd e h,fun e=>absurd e.2 h⟩
theorem wU{n:Int}(h0:0<=n)(h1:n<18446744073709551616):IntKind.wrap .u64 n=n:=by
 simp only[IntKind.wrap,IntKind.bits,IntKind.signed]
 have:n%(2^64:Int)=n:=by omega
 simp only[this]
 simp
theorem MW{u:Int}(h0:0<=u)(h1:u<4294967296):IntKind.wrap .u64 (((BitVec.toNat ((BitVec.ofInt 64 u)&&&(BitVec.ofInt 64 (4294967295:Int)))):Nat):Int)=u:=by
 have:=JQ u 4294967295 (by omega)
 rw[show((4294967295:Nat):Int)=4294967295 from rfl]at this
 rw[this,show(4294967295:Nat)=2^32-1 from rfl,Nat.and_two_pow_sub_one_eq_mod,wU (by omega) (by omega)]
 omega
theorem Mr{u:Int}(h0:0<=u)(h1:u<4294967296):Int.fdiv u ((2:Int)^(Min.min (Int.toNat (32:Int)) 64))=0:=by
 rw[show((2:Int)^(Min.min (Int.toNat (32:Int)) 64))=4294967296 from rfl,Int.fdiv_eq_ediv_of_nonneg _ (by decide)]
 omega
theorem RM{a:Int}(h0: -2147483647<=a)(h1:a<=2147483647):0<=a*a/\a*a<=4611686014132420609:=by
 have:=gG (a:=a) (b:=a) (V:=2147483647) (V':=2147483647) (p:=1) (q:=1) (by decide) (by decide) (by omega) (by omega) (by omega) (by omega)
 refine⟨?_,by omega⟩
 by_cases h:0<=a
 ·exact Int.mul_nonneg h h
 ·have:=Int.mul_nonneg (show 0<= -a by omega) (show 0<= -a by omega)
  rw[Int.neg_mul_neg]at this
  exact this
theorem BP{a:Int}(h0: -2147483647<=a)(h1:a<=2147483647):eO a=some (0,a*a):=by
 have hs:=RM h0 h1
 unfold eO jD
 by_cases h:a<0
 ·have eu:IntKind.wrap .u64 (IntKind.wrap .i64 (0-a))= -a:=by rw[aD (by omega) (by omega),wU (by omega) (by omega)];omega
  have hs': -a* -a=a*a:=Int.neg_mul_neg a a
  rw[bG h,cond_true,eu,MW (by omega) (by omega),Mr (by omega) (by omega)]
  simp only[Int.mul_zero,hs']
  rw[wU hs.1 (by omega),wU (n:=0) (by decide) (by decide),Mr (by decide) (by decide),Int.zero_mul,wU (n:=0) (by decide) (by decide),Int.add_zero,wU hs.1 (by omega),bT (by omega),cond_false]
  rfl
 ·have eu:IntKind.wrap .u64 a=a:=wU (by omega) (by omega)
  rw[bT h,cond_false,eu,MW (by omega) (by omega),Mr (by omega) (by omega)]
  simp only[Int.mul_zero]
  rw[wU hs.1 (by omega),wU (n:=0) (by decide) (by decide),Mr (by decide) (by decide),Int.zero_mul,wU (n:=0) (by decide) (by decide),Int.add_zero,wU hs.1 (by omega),bT (by omega),cond_false]
  rfl
theorem RW{u:Int}(h0:0<=u)(h1:u<=4611686014132420609):Int.fdiv u ((2:Int)^(Min.min (Int.toNat (63:Int)) 64))=0:=by
 rw[show((2:Int)^(Min.min (Int.toNat (63:Int)) 64))=9223372036854775808 from rfl,Int.fdiv_eq_ediv_of_nonneg _ (by decide)]
 omega
theorem Lz{a b:Int}(h0: -2147483647<=a)(h1:a<=2147483647)(h2: -2147483647<=b)(h3:b<=2147483647):cA a b=some (decide (a*a<2*(b*b))):=by
 have ha:=RM h0 h1
 have hb:=RM h2 h3
 unfold cA lz
 rw[BP h0 h1,BP h2 h3]
 simp only[Option.bind_some]
 rw[RW hb.1 hb.2,Int.zero_mul,wU (n:=0) (by decide) (by decide),Int.add_zero,wU (n:=0) (by decide) (by decide),bT (by decide),cond_false,wU (n:=b*b*2) (by omega) (by omega),Int.mul_comm (b*b) 2]
 rfl
theorem He{a:Int}(h0: -2147483647<=a)(h1:a<=2147483647):kK a=some (if a<0 then -a else a):=by
 unfold kK rC
 congr 1
 simp only[if_true]
 rw[aD (n:=0-a) (by omega) (by omega)]
 repeat' split
 all_goals omega
theorem Po{u:Int}(h0:0<=u)(h1:u<=2147483647):er u u=some (0,u*u):=by
 have hs:=RM (a:=u) (by omega) h1
 unfold er iO
 rw[MW h0 (by omega),Mr h0 (by omega)]
 simp only[Int.zero_mul,Int.mul_zero]
 rw[wU (n:=0) (by decide) (by decide),Int.zero_add,wU hs.1 (by omega)]
 have hf:0<=Int.fdiv (u*u) ((2:Int)^(Min.min (Int.toNat (32:Int)) 64))/\Int.fdiv (u*u) ((2:Int)^(Min.min (Int.toNat (32:Int)) 64))<4294967296:=by
  rw[show((2:Int)^(Min.min (Int.toNat (32:Int)) 64))=4294967296 from rfl,Int.fdiv_eq_ediv_of_nonneg _ (by decide)]
  omega
 generalize Int.fdiv (u*u) ((2:Int)^(Min.min (Int.toNat (32:Int)) 64))=t at*
 rw[Int.zero_add,wU (n:=t) (by omega) (by omega),Mr (u:=t) (by omega) (by omega),MW (u:=t) (by omega) (by omega),Int.add_zero,wU (n:=t) (by omega) (by omega),Mr (u:=t) (by omega) (by omega)]
 rfl
theorem Hg{a b:Int}(h0: -2147483647<=a)(h1:a<=2147483647)(h2: -2147483647<=b)(h3:b<=2147483647):eN a b=some (decide (a*a>2*(b*b))):=by
 have ha:=RM h0 h1
 have hb:=RM h2 h3
 have ab:∀c:Int, -2147483647<=c->c<=2147483647->er (IntKind.wrap .u64 (if c<0 then -c else c)) (IntKind.wrap .u64 (if c<0 then -c else c))=some (0,c*c):=by
  intro c k0 k1
  rw[wU (by split<;>omega) (by split<;>omega),Po (by split<;>omega) (by split<;>omega)]
  split
  ·rw[Int.neg_mul_neg]
  ·rfl
 unfold eN jC
 simp only[He h0 h1,He h2 h3,Option.bind_some,ab a h0 h1,ab b h2 h3]
 rw[RW hb.1 hb.2,Int.zero_mul,wU (n:=0) (by decide) (by decide)]
 have hz:IntKind.wrap IntKind.u64 (((BitVec.toNat ((BitVec.ofInt 64 (0:Int))|||(BitVec.ofInt 64 (0:Int)))):Nat):Int)=0:=by decide
 rw[hz,bT (by decide),cond_false,show((2:Int)^(Min.min (Int.toNat (1:Int)) 64))=2 from rfl,wU (n:=b*b*2) (by omega) (by omega),Int.mul_comm (b*b) 2]
 rfl
theorem PQ:∀(n:Nat) (a b:Int),a.natAbs<=n->a*a=2*(b*b)->a=0
 |0,a,b,h,_=>by omega
 |n+1,a,b,h,e=>by
  by_cases h0:a=0
  ·exact h0
  ·exfalso
   have ha:a%2=0:=by
    by_cases h2:a%2=0
    ·exact h2
    ·have:(a*a)%2=1:=by rw[Int.mul_emod,show a%2=1 by omega];rfl
     omega
   have ea:a=2*(a/2):=by omega
   have e2:b*b=2*((a/2)*(a/2)):=by
    have:a*a=4*((a/2)*(a/2)):=by
     conv=>lhs;rw[ea]
     grind
    omega
   have hb:b%2=0:=by
    by_cases h2:b%2=0
    ·exact h2
    ·have:(b*b)%2=1:=by rw[Int.mul_emod,show b%2=1 by omega];rfl
     omega
   have eb:b=2*(b/2):=by omega
   have e3:(a/2)*(a/2)=2*((b/2)*(b/2)):=by
    have:b*b=4*((b/2)*(b/2)):=by
     conv=>lhs;rw[eb]
     grind
    omega
   have:=PQ n (a/2) (b/2) (by omega) e3
   omega
def xp(x:Nm):Int:=PU (decide (x.1*x.1<2*(x.2.1*x.2.1))) x.1 x.2.1
theorem KE{x:Nm}(h0: -2147483647<=x.1)(h1:x.1<=2147483647)(h2: -2147483647<=x.2.1)(h3:x.2.1<=2147483647):dA x=some (xp x)/\df x=some (xp x):=by
 refine⟨FH (Lz h0 h1 h2 h3),(Fg (Hg h0 h1 h2 h3)).trans ?_⟩
 congr 1
 unfold xp Sn PU
 have hne:x.1*x.1=2*(x.2.1*x.2.1)->x.1=0:=PQ _ _ _ (Nat.le_refl _)
 have hsq:∀a:Int,a≠0->0<a*a:=by
  intro a ha
  by_cases h:0<a
  ·exact Int.mul_pos h h
  ·have:=Int.mul_pos (show 0< -a by omega) (show 0< -a by omega)
   rw[Int.neg_mul_neg]at this
   exact this
 generalize hp:x.1*x.1=p at*
 generalize hq:x.2.1*x.2.1=q at*
 have k1:=hsq x.1
 have k2:=hsq x.2.1
 rw[hp]at k1
 rw[hq]at k2
 generalize x.1=a at*
 generalize x.2.1=b at*
 unfold FG
 by_cases l1:p<2*q
 ·have l2:¬p>2*q:=by omega
  simp only[l1,l2,decide_true,decide_false]
  by_cases a0:a>0<;>by_cases a1:a<0<;>by_cases b0:b>0<;>by_cases b1:b<0<;>first
   |omega
   |(simp[a0,a1,b0,b1];try omega)
 ·by_cases l2:p>2*q
  ·simp only[l1,l2,decide_true,decide_false]
   by_cases a0:a>0<;>by_cases a1:a<0<;>by_cases b0:b>0<;>by_cases b1:b<0<;>first
    |omega
    |(simp[a0,a1,b0,b1];try omega)
  ·have ha0:a=0:=hne (by omega)
   have hb0:b=0:=by
    by_cases hb:b=0
    ·exact hb
    ·have hq0:=k2 hb
     have hp0:p=0:=by rw[<-hp,ha0];rfl
     omega
   rw[ha0,hb0]
   simp
theorem LB{d:Int}(h0:0<=d)(h1:d<=900):cQ d=cQ (d%16):=by
 rw[cQ,mG,cQ,mG,MC d (by omega) (by omega),MC (d%16) (by omega) (by omega),show d%16%16=d%16 by omega]
theorem Ly{d:Int}(h0:0<=d)(h1:d<=900)(p:Pt):ci d p=ci (d%16) p:=by
 rw[ci,kT,ci,kT,LB h0 h1]
theorem PR{d:Int}(h0:0<=d)(h1:d<16):(aq ((d+4)%16)).1=Gi (aq d).2/\(aq ((d+4)%16)).2=(aq d).1:=by
 rcases xZ h0 h1 with rfl|rfl|rfl|rfl|rfl|rfl|rfl|rfl|rfl|rfl|rfl|rfl|rfl|rfl|rfl|rfl<;>decide
theorem OY{d:Int}(h0:0<=d)(h1:d<16)(p:Pt):kW (kQ (aq d).1 p.2) (kQ (aq d).2 p.1)=bI (aq ((d+4)%16)) p:=by
 obtain⟨e1,e2⟩:=PR h0 h1
 unfold bI
 rw[e1,e2]
 refine ex (LD _ _) (co _ _) ?_ ?_
 ·simp only[mW,iH,lO,GE,GF];grind
 ·simp only[mX,iI,lP,GE,GF];grind
theorem OZ{V:Int}{κ:Nat}{d:Int}{p:Pt}(h0:0<=d)(h1:d<16)(hV:0<=V)(hκ:κ<=60)(hp:Bd V κ p.1/\Bd V κ p.2)(h:6*V*2^κ<=4611686018427387904):
 eD (aq d) p=some (bI (aq ((d+4)%16)) p):=by
 obtain⟨hv1,hv2⟩:=el h0 h1
 have hpw:0<=V*2^κ:=Int.mul_nonneg hV (Int.le_of_lt (Int.pow_pos (by decide)))
 have e:6*V*2^κ=6*(V*2^κ):=Int.mul_assoc ..
 have k3:3*(1*V)*2^(0+κ)<=4611686018427387904:=by
  rw[Nat.zero_add,Int.one_mul,Int.mul_assoc];omega
 have m1:=gB hv1 hp.2 (by decide) (by omega) (by decide) k3
 have m2:=gB hv2 hp.1 (by decide) (by omega) (by decide) k3
 have b1:=cR (V:=1) (by decide) hv1 hp.2
 have b2:=cR (V:=1) (by decide) hv2 hp.1
 have a:=lS b1 b2 (by omega) (by omega) (by omega) (by omega) (by
  rw[Nat.max_self,Nat.zero_add]
  have:(3*(1*V)+3*(1*V))*2^κ=6*(V*2^κ):=by grind
  omega)
 rw[eD,gW,m1.2,Option.bind_some,m2.2,Option.bind_some,a.2,OY h0 h1]
 rfl
def ym(d:Int)(p:Pt):Bool:=decide ((bI (aq ((d+4)%16)) p).1=0/\(bI (aq ((d+4)%16)) p).2.1=0)&&decide (xp (bI (aq d) p)>0)
def CQ:Nat->Int->Pt->Option Int
 |0,_,_=>none
 |n+1,d,p=>cond (ym d p) (some d) (CQ n (d+1) p)
theorem JZ:∀(n:Nat) (d:Int) (p:Pt) (r:Int),CQ n d p=some r->d<=r/\r<d+n
 |0,_,_,_,h=>by cases h
 |n+1,d,p,r,h=>by
  rw[CQ]at h
  cases hc:ym d p
  ·rw[hc]at h
   have:=JZ n (d+1) p r h
   omega
  ·rw[hc]at h
   simp only[cond_true,Option.some.injEq]at h
   omega
theorem M2{p:Pt}(hp:Bd 262144 10 p.1/\Bd 262144 10 p.2){d:Int}(h0:0<=d)(h1:d<16):(-2147483647<=(bI (aq d) p).1/\(bI (aq d) p).1<=2147483647)/\(-2147483647<=(bI (aq d) p).2.1/\(bI (aq d) p).2.1<=2147483647):=by
 have hb:=lI (V:=1) (by decide) (el h0 h1) hp
 have:=hb.pow_le (by decide)
 have e:(3*(1*262144)+3*(1*262144):Int)*2^(0+10)=1610612736:=by decide
 rw[e]at this
 omega
theorem DV{p:Pt}(hp:Bd 262144 10 p.1/\Bd 262144 10 p.2):∀(n:Nat) (d:Int),0<=d->d+n=16->
 en (fa d p.1.1 p.1.2.1 p.1.2.2 p.2.1 p.2.2.1 p.2.2.2)=some (match CQ n d p with|some r=>.inl (pX r)|none=>.inr (.inl pY))
 |0,d,h0,h1=>by
  rw[rc,ek,bT (by omega),cond_false];rfl
 |n+1,d,h0,h1=>by
  have hd:=sD (d:=d) h0 (by omega) (by decide) (by decide) hp (by decide)
  have hd4:=sD (d:=(d+4)%16) (by omega) (by omega) (by decide) (by decide) hp (by decide)
  have hs:=M2 hp h0 (show d<16 by omega)
  have IH:=DV hp n (d+1) (by omega) (by omega)
  rw[rc,ek,bG (by omega),cond_true,aD (n:=d+4) (by omega) (by omega),Ly (by omega) (by omega)]
  try simp only
  rw[hd4.1,Option.bind_some,GL,Option.bind_some,CQ]
  unfold ym
  by_cases hz:(bI (aq ((d+4)%16)) p).1=0/\(bI (aq ((d+4)%16)) p).2.1=0
  ·rw[bG hz,cond_true,hd.1,Option.bind_some,(KE hs.1.1 hs.1.2 hs.2.1 hs.2.2).1,Option.bind_some,Bool.true_and]
   by_cases hg:xp (bI (aq d) p)>0
   ·rw[bG hg,cond_true,cond_true];rfl
   ·rw[bT hg,cond_false,cond_false,aD (n:=d+1) (by omega) (by omega)]
    exact IH
  ·rw[bT hz,cond_false,Bool.false_and,cond_false,aD (n:=d+1) (by omega) (by omega)]
   exact IH
theorem C6{p:Pt}(hp:Bd 262144 10 p.1/\Bd 262144 10 p.2):∀(n:Nat) (d:Int),0<=d->d+n=16->
 ft (gU d p.1.1 p.1.2.1 p.1.2.2 p.2.1 p.2.2.1 p.2.2.2)=some (match CQ n d p with|some r=>.inl (sc r)|none=>.inr (.inl se))
 |0,d,h0,h1=>by
  rw[tv,fr,bT (by omega),cond_false];rfl
 |n+1,d,h0,h1=>by
  have hd:=sD (d:=d) h0 (by omega) (by decide) (by decide) hp (by decide)
  have hc:=OZ (d:=d) h0 (by omega) (by decide) (by decide) hp (by decide)
  have hs:=M2 hp h0 (show d<16 by omega)
  have IH:=C6 hp n (d+1) (by omega) (by omega)
  rw[tv,fr,bG (by omega),cond_true,(nH h0 (show d<16 by omega)).2,Option.bind_some]
  try simp only
  rw[hc,Option.bind_some,HI (show(bI (aq ((d+4)%16)) p).can from co _ _),CQ]
  unfold ym
  by_cases hz:(bI (aq ((d+4)%16)) p).1=0/\(bI (aq ((d+4)%16)) p).2.1=0
  ·rw[bG hz,cond_true,hd.2,Option.bind_some,(KE hs.1.1 hs.1.2 hs.2.1 hs.2.2).2,Option.bind_some,Bool.true_and]
   by_cases hg:xp (bI (aq d) p)>0
   ·rw[bG hg,cond_true,cond_true];rfl
   ·rw[bT hg,cond_false,cond_false,aD (n:=d+1) (by omega) (by omega)]
    exact IH
  ·rw[bT hz,cond_false,Bool.false_and,cond_false,aD (n:=d+1) (by omega) (by omega)]
   exact IH
def ye(p q:Pt):Pt:=(kW p.1 q.1,kW p.2 q.2)
theorem Nr{p q:Pt}(hp:jF p=true)(hq:jF q=true):Bd 262144 10 (ye p q).1/\Bd 262144 10 (ye p q).2:=by
 have bp:=ew hp
 have bq:=ew hq
 exact⟨rT bp.1 bq.1,rT bp.2 bq.2⟩
def AO(p q:Pt):Option Int:=CQ 16 0 (ye q p)
theorem Im{p q:Pt}(hp:jF p=true)(hq:jF q=true):(fi q p).bind (fun v=>eV v)=some (match AO p q with|some d=>d|none=> -1):=by
 have bp:=ew hp
 have bq:=ew hq
 have hb:=Nr hq hp
 have s1:=lS bq.1 bp.1 (by decide) (by decide) (by decide) (by decide) (by decide)
 have s2:=lS bq.2 bp.2 (by decide) (by decide) (by decide) (by decide) (by decide)
 rw[fi,km,s1.1,Option.bind_some,s2.1,Option.bind_some,Option.bind_some,eV,jn]
 have hl:=DV hb 16 0 (by decide) (by decide)
 unfold AO
 have hl':en (fa 0 (kW q.1 p.1).1 (kW q.1 p.1).2.1 (kW q.1 p.1).2.2 (kW q.2 p.2).1 (kW q.2 p.2).2.1 (kW q.2 p.2).2.2)=_:=hl
 rw[hl']
 cases CQ 16 0 (ye q p)<;>rfl
theorem Hf{p q:Pt}(hp:jF p=true)(hq:jF q=true):gO p q=some (match AO p q with|some d=>d|none=> -1):=by
 have bp:=ew hp
 have bq:=ew hq
 have hb:=Nr hq hp
 have s1:=lS bq.1 bp.1 (by decide) (by decide) (by decide) (by decide) (by decide)
 have s2:=lS bq.2 bp.2 (by decide) (by decide) (by decide) (by decide) (by decide)
 rw[gO,ly,jH,jR,s1.2,Option.bind_some,s2.2,Option.bind_some,Option.bind_some]
 have hl:=C6 hb 16 0 (by decide) (by decide)
 unfold AO
 have hl':ft (gU 0 (kW q.1 p.1).1 (kW q.1 p.1).2.1 (kW q.1 p.1).2.2 (kW q.2 p.2).1 (kW q.2 p.2).2.1 (kW q.2 p.2).2.2)=_:=hl
 rw[hl']
 cases CQ 16 0 (ye q p)<;>rfl
theorem GB{p q:Pt}{d:Int}(h:AO p q=some d):0<=d/\d<16:=by
 have:=JZ 16 0 _ _ h
 omega
def yG(p q:Pt):Ln×Int:=cond (jF p&&jF q) (match AO p q with|some d=>Gk (jz p (d%8))|none=>((0,(0,(0,0))),7)) ((0,(0,(0,0))),1)
theorem Ol(p q:Pt):gQ p q=some (yG p q):=by
 rw[gQ,jY,kD,kD]
 unfold yG
 simp only[Option.bind_some]
 cases hp:jF p
 ·rfl
 cases hq:jF q
 ·rfl
 have hb:=ew hp
 simp only[Bool.not_true,cond_false,Bool.and_self,cond_true,aM,cC,aX,bX,Option.bind_some]
 have hd:=Im hp hq
 rw[Option.bind_eq_some_iff]at hd
 obtain⟨v,h1,h2⟩:=hd
 rw[h1,Option.bind_some,h2,Option.bind_some]
 cases hdn:AO p q with
 |none=>rfl
 |some d=>
  have hdb:=GB hdn
  try simp only
  rw[bT (show¬d<0 by omega),cond_false,Int.tmod_eq_emod_of_nonneg (by omega),oE,oQ,kD,hp]
  simp only[Option.bind_some,Bool.not_true,cond_false,J8]
  rw[bG (show 0<=d%8 by omega),bG (show d%8<=7 by omega)]
  simp only[Bool.and_self,Bool.not_true,cond_false,aM,cC,aX,bX,Option.bind_some]
  rw[aD (n:=d%8+4) (by omega) (by omega)]
  have hdot:=(sD (d:=d%8+4) (by omega) (by omega) (by decide) (by decide) hb (by decide)).1
  have hbd:=lI (V:=1) (by decide) (el (d:=d%8+4) (by omega) (by omega)) hb
  have hi:=uf hbd (by decide) (by decide)
  rw[hdot,Option.bind_some,ML (x:=bI (aq (d%8+4)) p) (co _ _) (by have:=hbd.2.1;exact Int.le_trans this (by decide)) hi.1 hi.2]
  unfold Gk jz
  simp only[Option.bind_some]
  cases nu (bI (aq (d%8+4)) p)<;>rfl
theorem NT(p q:Pt):gM p q=some (yG p q):=by
 rw[gM,jN,iw,iw]
 unfold yG
 simp only[Option.bind_some]
 cases hp:jF p
 ·rfl
 cases hq:jF q
 ·rfl
 have hb:=ew hp
 simp only[Bool.not_true,cond_false,Bool.and_self,cond_true]
 rw[Hf hp hq,Option.bind_some]
 cases hdn:AO p q with
 |none=>rfl
 |some d=>
  have hdb:=GB hdn
  try simp only
  rw[bT (show¬d<0 by omega),cond_false,Int.tmod_eq_emod_of_nonneg (by omega),qd (d:=d%8) (by omega) (by omega) (by decide) (by decide) hb (by decide),Option.bind_some,zr,Option.bind_some]
  unfold Gk jz
  cases nu (bI (aq (d%8+4)) p)<;>rfl
theorem iv(l:Ln):bh l=some (jd l):=by
 unfold bh lx jd
 simp only[J7,Option.bind_some,zr]
 cases(decide (0<=l.1)&&decide (l.1<=7))<;>simp
theorem rE{V:Int}{κ:Nat}{d:Int}{p:Pt}(h0: -1000<=d)(h1:d<=1000)(hV:0<=V)(hκ:κ<=60)(hp:Bd V κ p.1/\Bd V κ p.2)(h:6*V*2^κ<=4611686018427387904):
 dh p d=some (jz p (d%8)):=by
 rw[dh,nf,MC d h0 h1]
 simp only[Option.bind_some]
 rw[Int.tmod_eq_emod_of_nonneg (by omega),show d%16%8=d%8 by omega,aD (n:=d%8+4) (by omega) (by omega)]
 rw[(sD (by omega) (by omega) hV hκ hp h).1];rfl
theorem Ip{l:Ln}(hc:l.2.can)(hk:l.2.2.2<=1000)(ha:zb l.2.1)(hb:zb l.2.2.1):kP l=some (Gk l):=by
 rw[kP,rX,fY,lA,ML hc hk ha hb]
 unfold Gk
 simp only[Option.bind_some]
 cases nu l.2<;>rfl
theorem Hh{l:Ln}(h0:0<=l.1)(h1:l.1<=7):eY l true=some (Gk l):=by
 rw[eY,kG,iv]
 unfold Gk jd
 rw[bG h0,bG h1]
 simp only[Option.bind_some,Bool.not_true,cond_false,Bool.and_self,Bool.true_and]
 cases nu l.2<;>rfl
theorem Kv{V V':Int}{κ κ':Nat}{p q:Pt}(hp:Bd V κ p.1/\Bd V κ p.2)(hq:Bd V' κ' q.1/\Bd V' κ' q.2)(hV:0<=V)(hV':0<=V')(hκ:κ<=60)(hκ':κ'<=60)(h:(V+V')*2^(max κ κ')<=4611686018427387904):
 fT p q=some (BG p q):=by
 rw[fT,kE,(mI hp.1 hq.1 hV hV' hκ hκ' h).2,(mI hp.2 hq.2 hV hV' hκ hκ' h).2];rfl
def lE(x:Nm):Nm:=(x.1,(x.2.1,x.2.2+1))
theorem uA{V:Int}{κ:Nat}{x:Nm}(hV:0<=V)(h:Bd V κ x):Bd V (κ+1) (lE x):=by
 obtain⟨h1,h2,h3,h4⟩:=h
 have e:(x.2.2+1).toNat=x.2.2.toNat+1:=by omega
 have hp:0<=V*2^x.2.2.toNat:=Int.mul_nonneg hV (Int.le_of_lt (Int.pow_pos (by decide)))
 have e2:V*2^(x.2.2.toNat+1)=2*(V*2^x.2.2.toNat):=by rw[Int.pow_succ];grind
 refine⟨?_, ?_, ?_, ?_⟩
 ·show 0<=x.2.2+1;omega
 ·show x.2.2+1<=((κ+1:Nat):Int);omega
 ·show -(V*2^(x.2.2+1).toNat)<=x.1/\x.1<=V*2^(x.2.2+1).toNat
  rw[e,e2];omega
 ·show -(V*2^(x.2.2+1).toNat)<=x.2.1/\x.2.1<=V*2^(x.2.2+1).toNat
  rw[e,e2];omega
theorem zm{x:Nm}(h:0<=x.2.2):vA (lE x)=vA x/2:=by
 have e:(x.2.2+1).toNat=x.2.2.toNat+1:=by omega
 show(x.1:Rat)/2^(x.2.2+1).toNat=vA x/2
 unfold vA
 rw[e,Rat.pow_succ]
 have:=aN x.2.2.toNat
 grind
theorem zn{x:Nm}(h:0<=x.2.2):vB (lE x)=vB x/2:=by
 have e:(x.2.2+1).toNat=x.2.2.toNat+1:=by omega
 show(x.2.1:Rat)/2^(x.2.2+1).toNat=vB x/2
 unfold vB
 rw[e,Rat.pow_succ]
 have:=aN x.2.2.toNat
 grind
theorem DW(x:Nm)(h0:0<=x.2.2)(h:x.2.2<=1000):it x=some (lE x):=by
 rw[it,qX,aD (n:=x.2.2+1) (by omega) (by omega)];rfl
theorem zq{V:Int}{κ:Nat}{x:Nm}(hx:Bd V κ x)(hV:0<=V)(hκ:κ<=60)(h:V*2^κ<=4611686018427387904):gw x=some (low (x.2.2.toNat+1) x.1 x.2.1):=by
 have hi:=uf hx hV h
 have h1:=hx.1
 have h2:=hx.2.1
 rw[gw,ml,aD (n:=x.2.2+1) (by omega) (by omega),C7 (by omega) (by omega) hi.1 hi.2,show(x.2.2+1).toNat=x.2.2.toNat+1 by omega]
 rfl
def nW(p q:Pt):Pt:=(low ((ej p.1 q.1).2.2.toNat+1) (ej p.1 q.1).1 (ej p.1 q.1).2.1,low ((ej p.2 q.2).2.2.toNat+1) (ej p.2 q.2).1 (ej p.2 q.2).2.1)
theorem nl{x:Nm}(h:0<=x.2.2):vA (low (x.2.2.toNat+1) x.1 x.2.1)=vA (lE x):=by
 rw[zm h,sK]
 unfold vA
 rw[Rat.pow_succ]
 have:=aN x.2.2.toNat
 grind
theorem nm{x:Nm}(h:0<=x.2.2):vB (low (x.2.2.toNat+1) x.1 x.2.1)=vB (lE x):=by
 rw[zn h,sL]
 unfold vB
 rw[Rat.pow_succ]
 have:=aN x.2.2.toNat
 grind
theorem qc{V:Int}{κ:Nat}{x:Nm}(hV:0<=V)(hx:Bd V κ x):Bd V (κ+1) (low (x.2.2.toNat+1) x.1 x.2.1):=by
 have h:=uA hV hx
 obtain⟨h1,h2,h3,h4⟩:=h
 have k0:=hx.1
 have k1:=hx.2.1
 have e:(lE x).2.2.toNat=x.2.2.toNat+1:=by show(x.2.2+1).toNat=_;omega
 rw[e]at h3 h4
 exact(B9 (V:=V) _ _ _ h3.1 h3.2 h4.1 h4.2).mono (Int.le_refl _) (by omega)
theorem O2(v:Pt){x y:Nm}(hx:0<=x.2.2)(hy:0<=y.2.2):bI v (lE x,lE y)=bI v (low (x.2.2.toNat+1) x.1 x.2.1,low (y.2.2.toNat+1) y.1 y.2.1):=by
 unfold bI
 refine ex (co _ _) (co _ _) ?_ ?_
 ·simp only[iH,lO,nl hx,nl hy,nm hx,nm hy]
 ·simp only[iI,lP,nl hx,nl hy,nm hx,nm hy]
def Jg(p q:Pt):Ln×Int:=cond (jF p&&jF q) (match AO p q with|some d=>Gk (jz (nW p q) ((d+4)%8))|none=>((0,(0,(0,0))),7)) ((0,(0,(0,0))),1)
theorem RL(p q:Pt):pi p q=some (Jg p q):=by
 rw[pi,pA,kD,kD]
 unfold Jg
 simp only[Option.bind_some]
 cases hp:jF p
 ·rfl
 cases hq:jF q
 ·rfl
 have bp:=ew hp
 have bq:=ew hq
 simp only[Bool.not_true,cond_false,Bool.and_self,cond_true,aM,cC,aX,bX,Option.bind_some]
 have hd:=Im hp hq
 rw[Option.bind_eq_some_iff]at hd
 obtain⟨v,h1,h2⟩:=hd
 rw[h1,Option.bind_some,h2,Option.bind_some]
 cases hdn:AO p q with
 |none=>rfl
 |some d=>
  have hdb:=GB hdn
  try simp only
  rw[bT (show¬d<0 by omega),cond_false]
  have a1:=(mI bp.1 bq.1 (by decide) (by decide) (by decide) (by decide) (by decide)).1
  have a2:=(mI bp.2 bq.2 (by decide) (by decide) (by decide) (by decide) (by decide)).1
  have b1:=fI bp.1 bq.1
  have b2:=fI bp.2 bq.2
  have c1:=b1.1
  have c2:=b2.1
  have hb1:=uA (by decide) b1
  have hb2:=uA (by decide) b2
  rw[a1,Option.bind_some,DW _ c1 (by have:=b1.2.1;exact Int.le_trans this (by decide)),Option.bind_some,a2,Option.bind_some,DW _ c2 (by have:=b2.2.1;exact Int.le_trans this (by decide)),Option.bind_some,
   aD (n:=d+4) (by omega) (by omega),rE (p:=(lE (ej p.1 q.1),lE (ej p.2 q.2))) (by omega) (by omega) (by decide) (by decide) ⟨hb1,hb2⟩ (by decide),Option.bind_some]
  have hl:jz (lE (ej p.1 q.1),lE (ej p.2 q.2)) ((d+4)%8)=jz (nW p q) ((d+4)%8):=by
   unfold jz nW
   rw[O2 _ c1 c2]
  rw[hl]
  have hbd:=lI (V:=1) (by decide) (el (d:=(d+4)%8+4) (by omega) (by omega)) (p:=nW p q) ⟨qc (by decide) b1,qc (by decide) b2⟩
  have hi:=uf hbd (by decide) (by decide)
  rw[Ip (l:=jz (nW p q) ((d+4)%8)) (co _ _) (by have:=hbd.2.1;exact Int.le_trans this (by decide)) hi.1 hi.2]
  rfl
theorem NS(p q:Pt):kh p q=some (Jg p q):=by
 rw[kh,mj,iw,iw]
 unfold Jg
 simp only[Option.bind_some]
 cases hp:jF p
 ·rfl
 cases hq:jF q
 ·rfl
 have bp:=ew hp
 have bq:=ew hq
 simp only[Bool.not_true,cond_false,Bool.and_self,cond_true]
 rw[Hf hp hq,Option.bind_some]
 cases hdn:AO p q with
 |none=>rfl
 |some d=>
  have hdb:=GB hdn
  try simp only
  have b1:=fI bp.1 bq.1
  have b2:=fI bp.2 bq.2
  rw[bT (show¬d<0 by omega),cond_false,kL,mF,Kv bp bq (by decide) (by decide) (by decide) (by decide) (by decide),Option.bind_some]
  unfold BG
  try simp only
  rw[zq b1 (by decide) (by decide) (by decide),Option.bind_some,zq b2 (by decide) (by decide) (by decide),Option.bind_some,Option.bind_some,
   aD (n:=d+4) (by omega) (by omega),Int.tmod_eq_emod_of_nonneg (by omega)]
  have hl:=qd (d:=(d+4)%8) (p:=nW p q) (by omega) (by omega) (by decide) (by decide) ⟨qc (by decide) b1,qc (by decide) b2⟩ (by decide)
  unfold nW at hl⊢
  rw[hl,Option.bind_some,Hh (l:=jz _ ((d+4)%8)) (by show 0<=(d+4)%8;omega) (by show(d+4)%8<=7;omega)]
  rfl
theorem lm(l:Ln):ck l=some (jd l):=by
 unfold ck qU jd
 simp only[J8,Option.bind_some,Ai]
 cases(decide (0<=l.1)&&decide (l.1<=7))<;>simp
theorem RN(l:Ln):rK l=some l:=by
 rw[rK,rW,Iv];rfl
theorem Nt(a m:Int):(Int.tmod a m !=0)=decide (a%m≠0):=by
 have:(Int.tmod a m=0)↔(a%m=0):=by rw[<-Int.dvd_iff_tmod_eq_zero,<-Int.dvd_iff_emod_eq_zero]
 rw[bne,show(Int.tmod a m==0)=decide (Int.tmod a m=0)from rfl]
 by_cases h:a%m=0
 ·rw[bG (this.2 h),bT (fun e=>e h)];rfl
 ·rw[bT (fun e=>h (this.1 e)),bG h];rfl
theorem GG{a m:Int}(hm:m≠0)(h:a%m=0)(h1: -4611686018427387904<=a)(h2:a<=4611686018427387904):IntKind.wrap .i64 (Int.tdiv a m)=a/m/\zb (a/m):=by
 have hd:m∣a:=Int.dvd_iff_emod_eq_zero.2 h
 rw[Int.tdiv_eq_ediv_of_dvd hd]
 have e:a=m*(a/m):=by have:=Int.mul_ediv_add_emod a m;omega
 have hn:(a/m).natAbs<=a.natAbs:=by
  have e2:a.natAbs=m.natAbs*(a/m).natAbs:=by rw[<-Int.natAbs_mul,<-e]
  rw[e2]
  exact Nat.le_mul_of_pos_left _ (by omega)
 have hi:zb (a/m):=⟨by omega,by omega⟩
 exact⟨wI hi,hi⟩
theorem BO(c1 c2 c3 c4 c5 c6 A B:Int):∀(n:Nat) (x k:Int),n<=64->x≠0-> -(2^n)<x->x<2^n->zb x->0<=k->k+n<=1000->
 pC (pp x c1 c2 c3 c4 c5 c6 A B k)=some (.inl (vJ (fC n x).1 c1 c2 c3 c4 c5 c6 A B (k+(fC n x).2)))
 |0,x,k,hn,h0,h1,h2,hi,hk,hk'=>by simp at h1 h2;omega
 |n+1,x,k,hn,h0,h1,h2,hi,hk,hk'=>by
  have i1:=hi.1
  have i2:=hi.2
  rw[E3,kn,LH,fC]
  rw[Int.pow_succ]at h1 h2
  by_cases h:x%2=0
  ·rw[bG h,cond_true,if_pos h,JD h,aD (n:=x/2) (by omega) (by omega),aD (n:=k+1) (by omega) (by omega)]
   refine(BO c1 c2 c3 c4 c5 c6 A B n (x/2) (k+1) (by omega) (by omega) (by omega) (by omega) ⟨by omega,by omega⟩ (by omega) (by omega)).trans ?_
   simp only
   rw[show k+1+((fC n (x/2)).2:Int)=k+(((fC n (x/2)).2+1:Nat):Int) by omega]
  ·rw[bT h,cond_false,if_neg h]
   simp;rfl
theorem Bs(c1 c2 c3 A B:Int):∀(n:Nat) (x k:Int),n<=64->x≠0-> -(2^n)<x->x<2^n->zb x->0<=k->k+n<=1000->
 iR (mU x c1 c2 c3 A B k)=some (.inl (ta (fC n x).1 c1 c2 c3 A B (k+(fC n x).2)))
 |0,x,k,hn,h0,h1,h2,hi,hk,hk'=>by simp at h1 h2;omega
 |n+1,x,k,hn,h0,h1,h2,hi,hk,hk'=>by
  have i1:=hi.1
  have i2:=hi.2
  rw[CB,iQ,P5,fC,show(x%2==0)=decide (x%2=0)from rfl]
  rw[Int.pow_succ]at h1 h2
  by_cases h:x%2=0
  ·rw[bG h,cond_true,if_pos h,JD h,aD (n:=x/2) (by omega) (by omega),aD (n:=k+1) (by omega) (by omega)]
   refine(Bs c1 c2 c3 A B n (x/2) (k+1) (by omega) (by omega) (by omega) (by omega) ⟨by omega,by omega⟩ (by omega) (by omega)).trans ?_
   simp only
   rw[show k+1+((fC n (x/2)).2:Int)=k+(((fC n (x/2)).2+1:Nat):Int) by omega]
  ·rw[bT h,cond_false,if_neg h]
   simp;rfl
theorem Io(c1 c2 c3 A B K:Int):og (lf 0 c1 c2 c3 A B K)=some (.inl (up c1 c2 c3 A B K)):=by
 rw[D3,jE,bT (by omega),cond_false];rfl
theorem xL{V M:Int}{κ:Nat}{x y:Nm}(hx:Bd V κ x)(hy:Bd M 0 y)(hV:0<=V)(hM:0<=M)(hM':M<=1000000000)(hκ:κ<=60)(h1:V*2^κ<=2305843009213693952)(h2:3*(V*M)*2^(κ+0)<=4611686018427387904):
 fP x y=some (uq x y)/\dX x y=some (uq x y):=by
 have hyn:Bd M 0 (y.1,(-y.2.1,0)):=by
  obtain⟨y1,y2,y3,y4⟩:=hy
  have:y.2.2=0:=by omega
  rw[this]at y3 y4
  exact⟨by simp,by simp,y3,by simp only at y4⊢;omega⟩
 obtain⟨⟨f1,f2,f3,_⟩,f5,f6,_⟩:=Ew hx hy hV h1 h2
 obtain⟨⟨_,_,_,g4⟩,_,_,g7⟩:=Ew hx hyn hV h1 h2
 simp only at g4 g7
 have eA:x.1*y.1+2*x.2.1* -y.2.1=x.1*y.1-2*x.2.1*y.2.1:=by grind
 have eB:x.1* -y.2.1+x.2.1*y.1=x.2.1*y.1-x.1*y.2.1:=by grind
 have hmul:=(gB hx hyn hV (by omega) h1 h2).2
 have hbm:=cR hV hx hyn
 have hk1:=hx.1
 have hk2:=hx.2.1
 have hyk:y.2.2=0:=by have:=hy.1;have:=hy.2.1;omega
 have hyb:=hy.pow_le hM
 simp only[Int.pow_zero,Int.mul_one]at hyb
 have sq:∀a b:Int, -M<=a->a<=M-> -M<=b->b<=M-> -1000000000000000000<=a*b/\a*b<=1000000000000000000:=by
  intro a b p1 p2 p3 p4
  have:=gG (a:=a) (b:=b) (V:=M) (V':=M) (p:=1) (q:=1) hM (by decide) (by omega) (by omega) (by omega) (by omega)
  have hMM:M*M<=1000000000*1000000000:=Int.mul_le_mul hM' hM' hM (by decide)
  omega
 have s1:=sq y.1 y.1 (by omega) (by omega) (by omega) (by omega)
 have s2:=sq y.2.1 y.2.1 (by omega) (by omega) (by omega) (by omega)
 have e2y:2*y.2.1*y.2.1=2*(y.2.1*y.2.1):=Int.mul_assoc ..
 have n1:IntKind.wrap IntKind.i64 ((IntKind.wrap .i64 (y.1*y.1))-(IntKind.wrap .i64 ((IntKind.wrap .i64 (2*y.2.1))*y.2.1)))=y.1*y.1-2*y.2.1*y.2.1:=by
  rw[aD (n:=y.1*y.1) (by omega) (by omega),aD (n:=2*y.2.1) (by omega) (by omega),aD (n:=2*y.2.1*y.2.1) (by omega) (by omega),aD (by omega) (by omega)]
 have nI:zb (y.1*y.1-2*y.2.1*y.2.1):=⟨by omega,by omega⟩
 have hAb: -4611686018427387904<=x.1*y.1-2*x.2.1*y.2.1/\x.1*y.1-2*x.2.1*y.2.1<=4611686018427387904/\ -4611686018427387904<=x.2.1*y.1-x.1*y.2.1/\x.2.1*y.1-x.1*y.2.1<=4611686018427387904:=by
  obtain⟨x1,x2,x3,x4⟩:=hx
  have hp:(0:Int)<=2^x.2.2.toNat:=Int.le_of_lt (Int.pow_pos (by decide))
  have hpl:(2:Int)^x.2.2.toNat<=2^κ:=by
   have:=Nat.pow_le_pow_right (show 0<2 by decide) (show x.2.2.toNat<=κ by omega)
   exact_mod_cast this
  have aa:=gG (p:=2^x.2.2.toNat) (q:=1) (V':=M) hV hp x3.1 x3.2 (b:=y.1) (by omega) (by omega)
  have bb:=gG (p:=2^x.2.2.toNat) (q:=1) (V':=M) hV hp x4.1 x4.2 (b:=y.2.1) (by omega) (by omega)
  have ab:=gG (p:=2^x.2.2.toNat) (q:=1) (V':=M) hV hp x3.1 x3.2 (b:=y.2.1) (by omega) (by omega)
  have ba:=gG (p:=2^x.2.2.toNat) (q:=1) (V':=M) hV hp x4.1 x4.2 (b:=y.1) (by omega) (by omega)
  rw[Int.mul_one]at aa bb ab ba
  have hVM:0<=V*M:=Int.mul_nonneg hV hM
  have hle:=Int.mul_le_mul_of_nonneg_left hpl hVM
  have h3:3*(V*M*2^κ)<=4611686018427387904:=by rw[<-Int.mul_assoc];exact h2
  have e2:2*x.2.1*y.2.1=2*(x.2.1*y.2.1):=Int.mul_assoc ..
  omega
 have w1:IntKind.wrap IntKind.i64 ((IntKind.wrap .i64 (x.1*y.1))-(IntKind.wrap .i64 ((IntKind.wrap .i64 (2*x.2.1))*y.2.1)))=x.1*y.1-2*x.2.1*y.2.1:=by
  rw[wI f1,wI f2,wI f3,aD (by omega) (by omega)]
 have w2:IntKind.wrap IntKind.i64 ((IntKind.wrap .i64 (x.2.1*y.1))-(IntKind.wrap .i64 (x.1*y.2.1)))=x.2.1*y.1-x.1*y.2.1:=by
  rw[wI f5,wI f6,aD (by omega) (by omega)]
 unfold uq
 generalize hA:x.1*y.1-2*x.2.1*y.2.1=A at*
 generalize hB:x.2.1*y.1-x.1*y.2.1=B at*
 generalize hN:y.1*y.1-2*y.2.1*y.2.1=N at*
 by_cases h0:N=0
 ·rw[if_pos h0]
  constructor
  ·rw[fP,oS,n1,h0];rfl
  ·rw[dX,kl,n1,h0];rfl
 ·rw[if_neg h0]
  have i1:=nI.1
  have i2:=nI.2
  have hodd:(fC 64 N).1%2≠0:=Lq 64 N h0 (by omega) (by omega)
  have hle:=Nl 64 N
  have hm0:(fC 64 N).1≠0:=fun e=>by rw[e]at hodd;exact hodd rfl
  have hNb:(N==0)=false:=by rw[show(N==0)=decide (N=0)from rfl,bT h0]
  constructor
  ·rw[fP,oS,n1,hNb,cond_false,w1,w2,BO y.1 y.2.1 y.2.2 0 0 0 A B 64 N x.2.2 (by omega) h0 (by omega) (by omega) nI hk1 (by omega)]
   simp only[Option.bind_some,sj,jb]
   rw[bT hm0,cond_false,Nt,Nt]
   by_cases hd:A%(fC 64 N).1=0
   ·by_cases hd':B%(fC 64 N).1=0
    ·obtain⟨q1,q1'⟩:=GG hm0 hd hAb.1 hAb.2.1
     obtain⟨q2,q2'⟩:=GG hm0 hd' hAb.2.2.1 hAb.2.2.2
     rw[bT (fun e=>e hd),bT (fun e=>e hd'),if_pos ⟨hd,hd'⟩]
     simp only[cond_false]
     rw[q1,q2,hyk,Io]
     simp only[Option.bind_some,hY]
     rw[AI (by omega) (by omega) q1' q2']
     simp only[Option.bind_some]
     rw[show(x.2.2+((fC 64 N).2:Int)).toNat=x.2.2.toNat+(fC 64 N).2 by omega]
    ·rw[bT (fun e=>e hd),bG hd',if_neg (fun e=>hd' e.2)];rfl
   ·rw[bG hd,if_neg (fun e=>hd e.1)];rfl
  ·have hz:IntKind.wrap IntKind.i64 (0-y.2.1)= -y.2.1:=by rw[aD (by omega) (by omega)];omega
   have hT:kQ x (y.1,(-y.2.1,0))=low x.2.2.toNat A B:=by
    unfold kQ
    simp only
    rw[eA,eB];rfl
   have hk3:=hbm.1
   have hk4:=hbm.2.1
   rw[hT]at hk3 hk4
   rw[dX,kl,n1,hNb,cond_false,hz,hmul,hT]
   simp only[Option.bind_some]
   rw[hyk,Int.sub_zero,aD (n:=(low x.2.2.toNat A B).2.2) (by omega) (by omega),Bs 0 0 0 _ _ 64 N _ (by omega) h0 (by omega) (by omega) nI hk3 (by omega)]
   obtain⟨ld1,ld2⟩:=Qi hodd x.2.2.toNat (fC 64 N).2 A B
   have hTb:=B9 (V:=4611686018427387904) x.2.2.toNat A B
   have hp1:(1:Int)<=2^x.2.2.toNat:=Int.pow_pos (by decide)
   have hrng:(-4611686018427387904<=(low x.2.2.toNat A B).1/\(low x.2.2.toNat A B).1<=4611686018427387904)/\(-4611686018427387904<=(low x.2.2.toNat A B).2.1/\(low x.2.2.toNat A B).2.1<=4611686018427387904):=by
    have hb:=hbm.pow_le (by have:=Int.mul_nonneg hV hM;omega)
    rw[hT]at hb
    omega
   simp only[Option.bind_some,sj,dQ]
   rw[bT hm0,cond_false,Nt,Nt]
   by_cases hd:A%(fC 64 N).1=0/\B%(fC 64 N).1=0
   ·have hd2:=ld1.2 hd
    obtain⟨q1,q1'⟩:=GG hm0 hd2.1 hrng.1.1 hrng.1.2
    obtain⟨q2,q2'⟩:=GG hm0 hd2.2 hrng.2.1 hrng.2.2
    rw[bT (fun e=>e hd2.1),bT (fun e=>e hd2.2),if_pos hd]
    simp only[cond_false]
    rw[bT (show¬((low x.2.2.toNat A B).2.2+((fC 64 N).2:Int)<0) by omega),cond_false,q1,q2,C7 (by omega) (by omega) q1' q2']
    simp only[Option.bind_some]
    rw[show((low x.2.2.toNat A B).2.2+((fC 64 N).2:Int)).toNat=(low x.2.2.toNat A B).2.2.toNat+(fC 64 N).2 by omega,ld2 hd]
   ·rw[if_neg hd]
    by_cases hd1:(low x.2.2.toNat A B).1%(fC 64 N).1=0
    ·have hd3:(low x.2.2.toNat A B).2.1%(fC 64 N).1≠0:=fun e=>hd (ld1.1 ⟨hd1,e⟩)
     rw[bT (fun e=>e hd1),bG hd3];rfl
    ·rw[bG hd1];rfl
end Go.Proofs.YtjkljnflaifbhaaGreatDoor
