/- No conditions. -/
import Derived.Test.YtjkljnflaifbhaaGreatDoorPK
import Derived.Test.YtjkljnflaifbhaaGreatDoorAL1
import Derived.Test.YtjkljnflaifbhaaGreatDoorZ2d
namespace Go.Proofs.YtjkljnflaifbhaaGreatDoor
open Go.Vai
def JK(a:Int):Prop:= -9223372036854775808<=a/\a<=9223372036854775807
theorem wI{a:Int}(h:JK a):IntKind.wrap .i64 a=a:=aM h.1 h.2
theorem Zr(a:Int):(Int.tmod a 2==0)=decide (a%2=0):=by
 rw[show(Int.tmod a 2==0)=decide (Int.tmod a 2=0) by rfl]
 congr 1
 apply propext
 rw[Int.tmod_eq_emod]
 split<;>omega
theorem afk(a:Int):(Int.tmod a 2 !=0)=decide (a%2≠0):=by
 rw[bne,Zr]
 by_cases h:a%2=0<;>simp[h]
theorem W4{a:Int}(h:a%2=0):Int.tdiv a 2=a/2:=by
 rw[Int.tdiv_eq_ediv]
 split<;>omega
theorem Xh(a:Int)(m:Nat)(hm:m<18446744073709551616):(BitVec.toNat ((BitVec.ofInt 64 a)&&&(BitVec.ofInt 64 (m:Int))))=(a%18446744073709551616).toNat&&&m:=by
 rw[BitVec.toNat_and]
 congr 1
 rw[BitVec.toNat_ofInt]
 omega
theorem adr(a:Int):IntKind.wrap IntKind.i64 (((BitVec.toNat ((BitVec.ofInt 64 a)&&&(BitVec.ofInt 64 (1:Int)))):Nat):Int)=a%2:=by
 have:=Xh a 1 (by omega)
 rw[show((1:Nat):Int)=1 from rfl]at this
 rw[this,Nat.and_one_is_mod,aM (by omega) (by omega)]
 omega
theorem afT(a:Int):IntKind.wrap IntKind.i64 (((BitVec.toNat ((BitVec.ofInt 64 a)&&&(BitVec.ofInt 64 (7:Int)))):Nat):Int)=a%8:=by
 have:=Xh a 7 (by omega)
 rw[show((7:Nat):Int)=7 from rfl]at this
 rw[this,show(7:Nat)=2^3-1 from rfl,Nat.and_two_pow_sub_one_eq_mod,aM (by omega) (by omega)]
 omega
theorem UE:∀k,low k 0 0=(0,(0,0))
 |0=>rfl
 |k+1=>by rw[low,if_pos ⟨rfl,rfl⟩];exact UE k
theorem PS(p q r:Int):∀(k:Nat) (a b:Int),k<=1000->JK a->JK b->
 nO (sW a b (k:Int) p q r)=some (.inl (tX (low k a b).1 (low k a b).2.1 (low k a b).2.2 p q r))
 |0,a,b,hk,ha,hb=>by
  rw[H8,nL,aW (by omega),cond_false];rfl
 |k+1,a,b,hk,ha,hb=>by
  have h1:=ha.1;have h2:=ha.2;have h3:=hb.1;have h4:=hb.2
  rw[H8,nL,aR (by omega),cond_true,Zr,Zr,low]
  by_cases h:a%2=0
  ·rw[aR h,cond_true]
   by_cases h':b%2=0
   ·rw[aR h',cond_true,if_pos ⟨h,h'⟩,W4 h,W4 h',aM (n:=a/2) (by omega) (by omega),aM (n:=b/2) (by omega) (by omega),aM (by omega) (by omega),
     show((k+1:Nat):Int)-1=(k:Int) by omega]
    exact PS p q r k _ _ (by omega) ⟨by omega,by omega⟩ ⟨by omega,by omega⟩
   ·rw[aW h',cond_false,if_neg (fun e=>h' e.2)];rfl
  ·rw[aW h,cond_false,if_neg (fun e=>h e.1)];rfl
theorem Lz{a b k:Int}(hk:0<=k)(hk':k<=1000)(ha:JK a)(hb:JK b):iv (a,(b,k))=some (low k.toNat a b):=by
 have hw:=PS 0 0 0 k.toNat a b (by omega) ha hb
 rw[Int.toNat_of_nonneg hk]at hw
 rw[iv,xn]
 simp only
 rw[hw]
 rw[show(a==0)=decide (a=0) by rfl,show(b==0)=decide (b=0) by rfl]
 by_cases h:a=0
 ·by_cases h':b=0
  ·subst h;subst h';rw[UE];rfl
  ·rw[aR h,aW h'];rfl
 ·rw[aW h];rfl
theorem Iq(p q r:Int):∀(k:Nat) (a b:Int),k<=1000->JK a->JK b->
 kj (kg a b (k:Int) p q r)=some (.inl (og (low k a b).1 (low k a b).2.1 (low k a b).2.2 p q r))
 |0,a,b,hk,ha,hb=>by
  rw[Ah,il,aW (by omega),cond_false];rfl
 |k+1,a,b,hk,ha,hb=>by
  have h1:=ha.1;have h2:=ha.2;have h3:=hb.1;have h4:=hb.2
  rw[Ah,il,aR (by omega),cond_true,adr,adr,low]
  rw[show(a%2==0)=decide (a%2=0) by rfl,show(b%2==0)=decide (b%2=0) by rfl]
  by_cases h:a%2=0
  ·rw[aR h,cond_true]
   by_cases h':b%2=0
   ·rw[aR h',cond_true,if_pos ⟨h,h'⟩,W4 h,W4 h',aM (n:=a/2) (by omega) (by omega),aM (n:=b/2) (by omega) (by omega),aM (n:=((k+1:Nat):Int)-1) (by omega) (by omega),
     show((k+1:Nat):Int)-1=(k:Int) by omega]
    have IH:=Iq p q r k (a/2) (b/2) (by omega) ⟨by omega,by omega⟩ ⟨by omega,by omega⟩
    rw[show(a/2==0)=decide (a/2=0) by rfl,show(b/2==0)=decide (b/2=0) by rfl]
    by_cases e:a/2=0
    ·by_cases e':b/2=0
     ·rw[aR e,aR e',cond_true,cond_true,e,e',UE]
      have I0:=Iq p q r 0 0 0 (by omega) ⟨by omega,by omega⟩ ⟨by omega,by omega⟩
      exact I0
     ·rw[aR e,aW e',cond_true,cond_false];exact IH
    ·rw[aW e,cond_false];exact IH
   ·rw[aW h',cond_false,if_neg (fun e=>h' e.2)];rfl
  ·rw[aW h,cond_false,if_neg (fun e=>h e.1)];rfl
theorem OI{a b k:Int}(hk:0<=k)(hk':k<=1000)(ha:JK a)(hb:JK b):du (a,(b,k))=some (low k.toNat a b):=by
 have hw:=Iq 0 0 0 k.toNat a b (by omega) ha hb
 rw[Int.toNat_of_nonneg hk]at hw
 rw[du,pv]
 simp only
 rw[hw]
 rfl
theorem QF{V V':Int}{κ κ':Nat}{x y:Nm}(hx:Bd V κ x)(hy:Bd V' κ' y)(hV:0<=V)(h1:V*2^κ<=2305843009213693952)(h2:3*(V*V')*2^(κ+κ')<=4611686018427387904):
 (JK (x.1*y.1)/\JK (2*x.2.1)/\JK (2*x.2.1*y.2.1)/\JK (x.1*y.1+2*x.2.1*y.2.1))/\(JK (x.1*y.2.1)/\JK (x.2.1*y.1)/\JK (x.1*y.2.1+x.2.1*y.1)):=by
 have bx:=hx.pow_le hV
 obtain⟨x1,x2,x3,x4⟩:=hx
 obtain⟨y1,y2,y3,y4⟩:=hy
 have hp:(0:Int)<=2^x.2.2.toNat:=Int.le_of_lt (Int.pow_pos (by decide))
 have aa:=lD hV hp x3.1 x3.2 y3.1 y3.2
 have bb:=lD hV hp x4.1 x4.2 y4.1 y4.2
 have ab:=lD hV hp x3.1 x3.2 y4.1 y4.2
 have ba:=lD hV hp x4.1 x4.2 y3.1 y3.2
 have hVV:0<=V*V'*(2^x.2.2.toNat*2^y.2.2.toNat):=by omega
 have hV':0<=V*V':=by
  have hq:(0:Int)<2^x.2.2.toNat*2^y.2.2.toNat:=Int.mul_pos (Int.pow_pos (by decide)) (Int.pow_pos (by decide))
  by_cases h:0<=V*V'
  ·exact h
  ·exfalso
   have:=Int.mul_neg_of_neg_of_pos (show V*V'<0 by omega) hq
   omega
 have hle:V*V'*(2^x.2.2.toNat*2^y.2.2.toNat)<=V*V'*2^(κ+κ'):=by
  rw[<-Int.pow_add]
  refine Int.mul_le_mul_of_nonneg_left ?_ hV'
  have:=Nat.pow_le_pow_right (show 0<2 by decide) (show x.2.2.toNat+y.2.2.toNat<=κ+κ' by omega)
  exact_mod_cast this
 have h3:3*(V*V'*2^(κ+κ'))<=4611686018427387904:=by rw[<-Int.mul_assoc];exact h2
 have e2:2*x.2.1*y.2.1=2*(x.2.1*y.2.1):=Int.mul_assoc ..
 rw[e2]
 unfold JK
 refine⟨⟨⟨?_, ?_⟩,⟨?_, ?_⟩,⟨?_, ?_⟩,⟨?_, ?_⟩⟩,⟨⟨?_, ?_⟩,⟨?_, ?_⟩,⟨?_, ?_⟩⟩⟩<;>omega
theorem mK{V V':Int}{κ κ':Nat}{x y:Nm}(hx:Bd V κ x)(hy:Bd V' κ' y)(hV:0<=V)(hκ:κ+κ'<=1000)(h1:V*2^κ<=2305843009213693952)(h2:3*(V*V')*2^(κ+κ')<=4611686018427387904):
 cM x y=some (ur x y)/\cG x y=some (ur x y):=by
 obtain⟨⟨f1,f2,f3,f4⟩,f5,f6,f7⟩:=QF hx hy hV h1 h2
 have hk1:=hx.1
 have hk2:=hx.2.1
 have hk3:=hy.1
 have hk4:=hy.2.1
 have hk:(x.2.2+y.2.2).toNat=x.2.2.toNat+y.2.2.toNat:=by omega
 constructor
 ·rw[cM,xo]
  rw[wI f1,wI f2,wI f3,wI f4,wI f5,wI f6,wI f7,aM (n:=x.2.2+y.2.2) (by omega) (by omega),Lz (by omega) (by omega) f4 f7,hk]
  rfl
 ·rw[cG,rM]
  rw[wI f1,wI f2,wI f3,wI f4,wI f5,wI f6,wI f7,aM (n:=x.2.2+y.2.2) (by omega) (by omega),OI (by omega) (by omega) f4 f7,hk]
  rfl
theorem X1{a:Int}{n:Nat}(h1: -4611686018427387904<=a*2^(n+1))(h2:a*2^(n+1)<=4611686018427387904):JK (a*2)/\(-4611686018427387904<=a*2*2^n/\a*2*2^n<=4611686018427387904):=by
 have e:a*2^(n+1)=a*2*2^n:=by rw[Int.pow_succ];grind
 rw[e]at h1 h2
 have hp:(1:Int)<=2^n:=Int.pow_pos (by decide)
 refine⟨⟨?_, ?_⟩,h1,h2⟩
 ·by_cases h:0<=a*2
  ·omega
  ·have:=Int.mul_le_mul_of_nonneg_left hp (show 0<= -(a*2) by omega)
   rw[Int.neg_mul,Int.neg_mul]at this
   omega
 ·by_cases h:0<=a*2
  ·have:=Int.mul_le_mul_of_nonneg_left hp h
   omega
  ·omega
theorem MP(a' b' k' p q r:Int)(hk':k'<=1000):∀(n:Nat) (a b k:Int),0<=k->n=(k'-k).toNat->(-4611686018427387904<=a*2^n/\a*2^n<=4611686018427387904)->(-4611686018427387904<=b*2^n/\b*2^n<=4611686018427387904)->
 pY (xF a b k a' b' k' p q r)=some (.inl (E9 (a*2^n) (b*2^n) (k+n) a' b' k' p q r))
 |0,a,b,k,hk,hn,ha,hb=>by
  rw[H6,nJ,aW (by omega),cond_false]
  simp;rfl
 |n+1,a,b,k,hk,hn,ha,hb=>by
  obtain⟨ia,ha'⟩:=X1 ha.1 ha.2
  obtain⟨ib,hb'⟩:=X1 hb.1 hb.2
  rw[H6,nJ,aR (by omega),cond_true,wI ia,wI ib,aM (n:=k+1) (by omega) (by omega)]
  refine(MP a' b' k' p q r hk' n (a*2) (b*2) (k+1) (by omega) (by omega) ha' hb').trans ?_
  rw[show a*2*2^n=a*2^(n+1) by rw[Int.pow_succ];grind,show b*2*2^n=b*2^(n+1) by rw[Int.pow_succ];grind,show k+1+(n:Int)=k+((n+1:Nat):Int) by omega]
theorem MQ(a' b' k' p q r:Int)(hk':k'<=1000):∀(n:Nat) (a b k:Int),0<=k->n=(k'-k).toNat->(-4611686018427387904<=a*2^n/\a*2^n<=4611686018427387904)->(-4611686018427387904<=b*2^n/\b*2^n<=4611686018427387904)->
 pZ (xG a' b' k' a b k p q r)=some (.inl (Fa a' b' k' (a*2^n) (b*2^n) (k+n) p q r))
 |0,a,b,k,hk,hn,ha,hb=>by
  rw[H7,nK,aW (by omega),cond_false]
  simp;rfl
 |n+1,a,b,k,hk,hn,ha,hb=>by
  obtain⟨ia,ha'⟩:=X1 ha.1 ha.2
  obtain⟨ib,hb'⟩:=X1 hb.1 hb.2
  rw[H7,nK,aR (by omega),cond_true,wI ia,wI ib,aM (n:=k+1) (by omega) (by omega)]
  refine(MQ a' b' k' p q r hk' n (a*2) (b*2) (k+1) (by omega) (by omega) ha' hb').trans ?_
  rw[show a*2*2^n=a*2^(n+1) by rw[Int.pow_succ];grind,show b*2*2^n=b*2^(n+1) by rw[Int.pow_succ];grind,show k+1+(n:Int)=k+((n+1:Nat):Int) by omega]
theorem wv{V V':Int}{κ κ':Nat}{x y:Nm}(hx:Bd V κ x)(hy:Bd V' κ' y)(hV:0<=V)(hV':0<=V')(hκ:κ<=60)(hκ':κ'<=60)(h:(V+V')*2^(max κ κ')<=4611686018427387904):
 eV x y=some (ku x y)/\ev x y=some (ku x y):=by
 obtain⟨x1,x2,x3,x4⟩:=hx
 obtain⟨y1,y2,y3,y4⟩:=hy
 have hK:max x.2.2.toNat y.2.2.toNat<=max κ κ':=by omega
 have a1:=Sb (Nat.le_max_left x.2.2.toNat y.2.2.toNat) x3.1 x3.2
 have a2:=Sb (Nat.le_max_left x.2.2.toNat y.2.2.toNat) x4.1 x4.2
 have a3:=Sb (Nat.le_max_right x.2.2.toNat y.2.2.toNat) y3.1 y3.2
 have a4:=Sb (Nat.le_max_right x.2.2.toNat y.2.2.toNat) y4.1 y4.2
 have hp:(2:Int)^(max x.2.2.toNat y.2.2.toNat)<=2^(max κ κ'):=by
  have:=Nat.pow_le_pow_right (show 0<2 by decide) hK
  exact_mod_cast this
 have e1:=Int.mul_le_mul_of_nonneg_left hp hV
 have e2:=Int.mul_le_mul_of_nonneg_left hp hV'
 have e3:(V+V')*2^(max κ κ')=V*2^(max κ κ')+V'*2^(max κ κ'):=Int.add_mul ..
 have p1:0<=V*2^(max x.2.2.toNat y.2.2.toNat):=Int.mul_nonneg hV (Int.le_of_lt (Int.pow_pos (by decide)))
 have p2:0<=V'*2^(max x.2.2.toNat y.2.2.toNat):=Int.mul_nonneg hV' (Int.le_of_lt (Int.pow_pos (by decide)))
 have hm:((max x.2.2.toNat y.2.2.toNat:Nat):Int)=max x.2.2 y.2.2:=by omega
 have hkx:max x.2.2.toNat y.2.2.toNat-x.2.2.toNat=(y.2.2-x.2.2).toNat:=by omega
 have hky:max x.2.2.toNat y.2.2.toNat-y.2.2.toNat=(x.2.2-y.2.2).toNat:=by omega
 have i1:JK (x.1*2^(max x.2.2.toNat y.2.2.toNat-x.2.2.toNat)+y.1*2^(max x.2.2.toNat y.2.2.toNat-y.2.2.toNat)):=⟨by omega,by omega⟩
 have i2:JK (x.2.1*2^(max x.2.2.toNat y.2.2.toNat-x.2.2.toNat)+y.2.1*2^(max x.2.2.toNat y.2.2.toNat-y.2.2.toNat)):=⟨by omega,by omega⟩
 constructor
 ·rw[eV,xm]
  rw[MP y.1 y.2.1 y.2.2 0 0 0 (by omega) (y.2.2-x.2.2).toNat x.1 x.2.1 x.2.2 x1 rfl (by rw[<-hkx];omega) (by rw[<-hkx];omega)]
  simp only[Option.bind_some,qi,iG,gx]
  rw[MQ _ _ _ 0 0 0 (by omega) (x.2.2-y.2.2).toNat y.1 y.2.1 y.2.2 y1 (by omega) (by rw[<-hky];omega) (by rw[<-hky];omega)]
  simp only[Option.bind_some,gx]
  rw[<-hkx,<-hky,wI i1,wI i2,Lz (by omega) (by omega) i1 i2]
  rw[show(x.2.2+((max x.2.2.toNat y.2.2.toNat-x.2.2.toNat:Nat):Int)).toNat=max x.2.2.toNat y.2.2.toNat by omega]
  rfl
 ·rw[ev,td]
  have hM:(if y.2.2>x.2.2 then y.2.2 else x.2.2)=((max x.2.2.toNat y.2.2.toNat:Nat):Int):=by split<;>omega
  simp only[if_true,hM]
  have w1:IntKind.wrap IntKind.i64 (((max x.2.2.toNat y.2.2.toNat:Nat):Int)-x.2.2)=((max x.2.2.toNat y.2.2.toNat-x.2.2.toNat:Nat):Int):=by rw[aM (by omega) (by omega)];omega
  have w2:IntKind.wrap IntKind.i64 (((max x.2.2.toNat y.2.2.toNat:Nat):Int)-y.2.2)=((max x.2.2.toNat y.2.2.toNat-y.2.2.toNat:Nat):Int):=by rw[aM (by omega) (by omega)];omega
  rw[w1,w2,aW (by omega),aW (by omega),Int.toNat_natCast,Int.toNat_natCast]
  simp only[cond_false]
  rw[show min (max x.2.2.toNat y.2.2.toNat-x.2.2.toNat) 64=max x.2.2.toNat y.2.2.toNat-x.2.2.toNat by omega,show min (max x.2.2.toNat y.2.2.toNat-y.2.2.toNat) 64=max x.2.2.toNat y.2.2.toNat-y.2.2.toNat by omega]
  rw[aM (n:=x.1*_) (by omega) (by omega),aM (n:=y.1*_) (by omega) (by omega),aM (n:=x.2.1*_) (by omega) (by omega),aM (n:=y.2.1*_) (by omega) (by omega),wI i1,wI i2,OI (by omega) (by omega) i1 i2,Int.toNat_natCast]
  rfl
theorem ae5{V:Int}{κ:Nat}{x:Nm}(hx:Bd V κ x)(hV:0<=V)(h:V*2^κ<=4611686018427387904):tB x=some (XI x)/\cn x=some (XI x):=by
 have:=hx.pow_le hV
 constructor
 ·rw[tB,xp,aM (n:=0-x.1) (by omega) (by omega),aM (n:=0-x.2.1) (by omega) (by omega),Int.zero_sub,Int.zero_sub];rfl
 ·rw[cn,uW,aM (n:=0-x.1) (by omega) (by omega),aM (n:=0-x.2.1) (by omega) (by omega),Int.zero_sub,Int.zero_sub];rfl
theorem sL{V V':Int}{κ κ':Nat}{x y:Nm}(hx:Bd V κ x)(hy:Bd V' κ' y)(hV:0<=V)(hV':0<=V')(hκ:κ<=60)(hκ':κ'<=60)(h:(V+V')*2^(max κ κ')<=4611686018427387904):
 dn x y=some (sh x y)/\cy x y=some (sh x y):=by
 have h':V'*2^κ'<=4611686018427387904:=by
  have hp:(2:Int)^κ'<=2^(max κ κ'):=by
   have:=Nat.pow_le_pow_right (show 0<2 by decide) (Nat.le_max_right κ κ')
   exact_mod_cast this
  have e2:=Int.mul_le_mul_of_nonneg_left hp hV'
  have e3:(V+V')*2^(max κ κ')=V*2^(max κ κ')+V'*2^(max κ κ'):=Int.add_mul ..
  have p1:0<=V*2^(max κ κ'):=Int.mul_nonneg hV (Int.le_of_lt (Int.pow_pos (by decide)))
  omega
 have hn:=ae5 hy hV' h'
 have ha:=wv hx (aaM hy) hV hV' hκ hκ' h
 constructor
 ·rw[dn,xq,hn.1,Option.bind_some,ha.1];rfl
 ·rw[cy,rL,hn.2,Option.bind_some,ha.2];rfl
def BY(x:Nm):Bool:=(decide (-131072<=x.1)&&decide (x.1<=131072))&&((decide (-131072<=x.2.1)&&decide (x.2.1<=131072))&&((decide (0<=x.2.2)&&decide (x.2.2<=10))&&(decide (x.2.2=0)||(decide (x.1%2≠0)||decide (x.2.1%2≠0)))))
theorem hZ(x a b:Int):cI x a b=some (decide (a<=x)&&decide (x<=b)):=by
 unfold cI zO
 rw[show decide (x>=a)=decide (a<=x)from rfl]
 cases decide (a<=x)<;>simp
theorem pK(x a b:Int):bZ x a b=some (decide (a<=x)&&decide (x<=b)):=by
 unfold bZ tG
 rw[show decide (x>=a)=decide (a<=x)from rfl]
 cases decide (a<=x)<;>simp
theorem Lc(x:Nm):oh x=some (BY x):=by
 unfold oh zQ BY
 simp only[hZ,Option.bind_some,afk]
 rw[show(x.2.2==0)=decide (x.2.2=0)from rfl]
 cases(decide (-131072<=x.1)&&decide (x.1<=131072))<;>cases(decide (-131072<=x.2.1)&&decide (x.2.1<=131072))<;>cases(decide (0<=x.2.2)&&decide (x.2.2<=10))<;>cases decide (x.2.2=0)<;>cases decide (x.1%2≠0)<;>simp
theorem adP(a:Int):(a%2==1)=decide (a%2≠0):=by
 rw[show(a%2==1)=decide (a%2=1)from rfl]
 congr 1
 apply propext
 omega
theorem J4(x:Nm):fD x=some (BY x):=by
 unfold fD tf BY
 simp only[pK,Option.bind_some,adr,adP]
 rw[show(x.2.2==0)=decide (x.2.2=0)from rfl]
 cases(decide (-131072<=x.1)&&decide (x.1<=131072))<;>cases(decide (-131072<=x.2.1)&&decide (x.2.1<=131072))<;>cases(decide (0<=x.2.2)&&decide (x.2.2<=10))<;>cases decide (x.2.2=0)<;>cases decide (x.1%2≠0)<;>simp
def nR(l:Ln):Bool:=(decide (0<=l.1)&&decide (l.1<=7))&&BY l.2
def pN(p:Pt):Bool:=BY p.1&&BY p.2
theorem U2{x:Nm}(h:BY x=true):Bd 131072 10 x:=by
 simp only[BY,Bool.and_eq_true,decide_eq_true_eq]at h
 obtain⟨⟨h1,h2⟩,⟨h3,h4⟩,⟨h5,h6⟩,_⟩:=h
 have:(1:Int)<=2^x.2.2.toNat:=Int.pow_pos (by decide)
 exact⟨h5,by omega,by omega,by omega⟩
theorem adQ{x:Nm}(h:BY x=true):x.can:=by
 simp only[BY,Bool.and_eq_true,Bool.or_eq_true,decide_eq_true_eq]at h
 obtain⟨_,_,⟨h5,h6⟩,h7⟩:=h
 exact⟨h5,h7⟩
def afZ:List Pt:=[((1,(0,0)),(0,(0,0))),((1,(0,0)),(-1,(1,0))),((1,(0,0)),(1,(0,0))),((-1,(1,0)),(1,(0,0))),((0,(0,0)),(1,(0,0))),((1,(-1,0)),(1,(0,0))),((-1,(0,0)),(1,(0,0))),((-1,(0,0)),(-1,(1,0))),
 ((-1,(0,0)),(0,(0,0))),((-1,(0,0)),(1,(-1,0))),((-1,(0,0)),(-1,(0,0))),((1,(-1,0)),(-1,(0,0))),((0,(0,0)),(-1,(0,0))),((-1,(1,0)),(-1,(0,0))),((1,(0,0)),(-1,(0,0))),((1,(0,0)),(1,(-1,0)))]
def fL(d:Int):Pt:=afZ.getD d.toNat ((0,(0,0)),(0,(0,0)))
theorem TL{d:Int}(h0:0<=d)(h1:d<16):d=0\/d=1\/d=2\/d=3\/d=4\/d=5\/d=6\/d=7\/d=8\/d=9\/d=10\/d=11\/d=12\/d=13\/d=14\/d=15:=by omega
theorem wJ{d:Int}(h0:0<=d)(h1:d<16):eX d=some (fL d)/\qF d=some (fL d):=by
 rcases TL h0 h1 with rfl|rfl|rfl|rfl|rfl|rfl|rfl|rfl|rfl|rfl|rfl|rfl|rfl|rfl|rfl|rfl<;>exact⟨by kernel_rfl,by kernel_rfl⟩
theorem gX{d:Int}(h0:0<=d)(h1:d<16):Bd 1 0 (fL d).1/\Bd 1 0 (fL d).2:=by
 rcases TL h0 h1 with rfl|rfl|rfl|rfl|rfl|rfl|rfl|rfl|rfl|rfl|rfl|rfl|rfl|rfl|rfl|rfl<;>(unfold Bd;decide)
theorem Z9(d:Int)(_h0: -1000<=d)(_h1:d<=1000):qI d=some (d%16):=by
 unfold qI xr
 have h2: -16<Int.tmod d 16:=by rw[Int.tmod_eq_emod];split<;>omega
 have h3:Int.tmod d 16<16:=Int.tmod_lt_of_pos d (by decide)
 rw[aM (by omega) (by omega),Int.tmod_eq_emod_of_nonneg (by omega)]
 have:Int.tmod d 16%16=d%16:=by
  rw[Int.tmod_eq_emod]
  split<;>omega
 congr 1
 omega
def pQ(v p:Pt):Nm:=ku (ur v.1 p.1) (ur v.2 p.2)
theorem sw{V V':Int}{κ κ':Nat}{v p:Pt}(hV:0<=V)(hv:Bd V κ v.1/\Bd V κ v.2)(hp:Bd V' κ' p.1/\Bd V' κ' p.2):Bd (3*(V*V')+3*(V*V')) (κ+κ') (pQ v p):=by
 have:=mB (fA hV hv.1 hp.1) (fA hV hv.2 hp.2)
 rw[Nat.max_self]at this
 exact this
theorem B1{V:Int}{κ:Nat}{d:Int}{p:Pt}(h0:0<=d)(h1:d<16)(hV:0<=V)(hκ:κ<=60)(hp:Bd V κ p.1/\Bd V κ p.2)(h:6*V*2^κ<=4611686018427387904):
 de d p=some (pQ (fL d) p)/\cH (fL d) p=some (pQ (fL d) p):=by
 obtain⟨hv1,hv2⟩:=gX h0 h1
 have hpw:0<=V*2^κ:=Int.mul_nonneg hV (Int.le_of_lt (Int.pow_pos (by decide)))
 have e:6*V*2^κ=6*(V*2^κ):=Int.mul_assoc ..
 have k3:3*(1*V)*2^(0+κ)<=4611686018427387904:=by
  rw[Nat.zero_add,Int.one_mul,Int.mul_assoc];omega
 have m1:=mK hv1 hp.1 (by decide) (by omega) (by decide) k3
 have m2:=mK hv2 hp.2 (by decide) (by omega) (by decide) k3
 have b1:=fA (V:=1) (by decide) hv1 hp.1
 have b2:=fA (V:=1) (by decide) hv2 hp.2
 have a:=wv b1 b2 (by omega) (by omega) (by omega) (by omega) (by
  rw[Nat.max_self,Nat.zero_add]
  have:(3*(1*V)+3*(1*V))*2^κ=6*(V*2^κ):=by grind
  omega)
 obtain⟨v1,v2⟩:=wJ h0 h1
 constructor
 ·rw[de,qO,v1]
  simp only[Option.bind_some,bj,dN,cb,cY]
  rw[m1.1,m2.1]
  simp only[Option.bind_some]
  rw[a.1];rfl
 ·rw[cH,rN,m1.2,m2.2]
  simp only[Option.bind_some]
  rw[a.2];rfl
def BX(p:Pt)(d:Int):Ln:=(d,pQ (fL (d+4)) p)
theorem Au{V:Int}{κ:Nat}{d:Int}{p:Pt}(h0:0<=d)(h1:d<8)(hV:0<=V)(hκ:κ<=60)(hp:Bd V κ p.1/\Bd V κ p.2)(h:6*V*2^κ<=4611686018427387904):
 gz p d=some (BX p d):=by
 rw[gz,xd,cd,dM]
 simp only
 rw[aM (n:=d+4) (by omega) (by omega),(wJ (d:=d+4) (by omega) (by omega)).2]
 simp only[Option.bind_some]
 rw[(B1 (by omega) (by omega) hV hκ hp h).2];rfl
theorem VD(x:Nm):sx x=some x:=rfl
theorem UD{x:Nm}(h:x.can):low x.2.2.toNat x.1 x.2.1=x:=by
 have hk:=h.1
 cases hn:x.2.2.toNat with
 |zero=>
  rw[low]
  have:x.2.2=0:=by omega
  exact Prod.ext rfl (Prod.ext rfl this.symm)
 |succ n=>
  rw[low,if_neg]
  ·exact Prod.ext rfl (Prod.ext rfl (by show((n+1:Nat):Int)=x.2.2;omega))
  ·rintro ⟨h1,h2⟩
   rcases h.2 with h|h|h
   ·omega
   ·exact h h1
   ·exact h h2
theorem aad{x:Nm}(hc:x.can)(hk:x.2.2<=1000)(ha:JK x.1)(hb:JK x.2.1):eW x=some (cond (BY x) (x,true) ((0,(0,0)),false)):=by
 rw[eW,qN]
 have:=Lz (a:=x.1) (b:=x.2.1) hc.1 hk ha hb
 rw[UD hc]at this
 have this:iv x=some x:=this
 rw[this]
 simp only[Option.bind_some,Lc]
 cases BY x<;>rfl
def V1(l:Ln):Ln×Int:=cond (BY l.2) (l,0) ((0,(0,(0,0))),2)
theorem fJ(p:Pt):bh p=some (pN p):=by
 unfold bh tp pN
 simp only[Option.bind_some,Lc]
 cases BY p.1<;>simp
theorem fX(p:Pt):aH p=some (pN p):=by
 unfold aH qv pN
 simp only[Option.bind_some,J4]
 cases BY p.1<;>simp
theorem jr{p:Pt}(h:pN p=true):Bd 131072 10 p.1/\Bd 131072 10 p.2:=by
 simp only[pN,Bool.and_eq_true]at h
 exact⟨U2 h.1,U2 h.2⟩
theorem aaP{l:Ln}(h:nR l=true):0<=l.1/\l.1<=7:=by
 simp only[nR,Bool.and_eq_true,decide_eq_true_eq]at h
 exact h.1
theorem Dy{V:Int}{κ:Nat}{x:Nm}(h:Bd V κ x)(hV:0<=V)(hb:V*2^κ<=4611686018427387904):JK x.1/\JK x.2.1:=by
 have:=h.pow_le hV
 exact⟨⟨by omega,by omega⟩,⟨by omega,by omega⟩⟩
theorem Nb(x:Nm):qj x x=some true:=by
 rw[qj,zK]
 simp
theorem RI(l:Ln):qG l l=some true:=by
 rw[qG,xg,Nb]
 simp
theorem VE(p:Pt):oY p=some p:=by
 rw[oY,vk,VD,VD];rfl
theorem GF{d:Int}(h0:0<=d)(h1:d<16):pQ (fL d) (fL d)=(1,(0,0))\/pQ (fL d) (fL d)=(4,(-2,0))\/pQ (fL d) (fL d)=(2,(0,0)):=by
 rcases TL h0 h1 with rfl|rfl|rfl|rfl|rfl|rfl|rfl|rfl|rfl|rfl|rfl|rfl|rfl|rfl|rfl|rfl<;>decide
def X5(d:Int):Nm:=pQ (fL d) (fL d)
theorem GE{d:Int}(h0:0<=d)(h1:d<16):Bd 4 0 (X5 d):=by
 unfold X5
 rcases GF h0 h1 with h|h|h<;>rw[h]<;>(unfold Bd;decide)
def sqT(d:Int):Nat:=(li 64 ((X5 d).1*(X5 d).1-2*(X5 d).2.1*(X5 d).2.1)).2
theorem aaS{d:Int}(h0:0<=d)(h1:d<16)(x:Nm):LC x (X5 d)=(LD (sqT d) x (X5 d),true):=by
 have h:=GF h0 h1
 have hs:X5 d=pQ (fL d) (fL d):=rfl
 rw[<-hs]at h
 refine acn ?_ ?_
 ·unfold sqT
  rcases h with h|h|h<;>rw[h]<;>decide
 ·rcases h with h|h|h<;>rw[h]<;>decide
theorem Vz{d:Int}(h0:0<=d)(h1:d<16):sqT d<=3:=by
 have h:=GF h0 h1
 have hs:X5 d=pQ (fL d) (fL d):=rfl
 rw[<-hs]at h
 unfold sqT
 rcases h with h|h|h<;>rw[h]<;>decide
theorem Z3{d:Int}(h0:0<=d)(h1:d<16):cH (fL d) (fL d)=some (X5 d):=
 (B1 h0 h1 (by decide) (by decide) (gX h0 h1) (by decide)).2
def VC(v:Pt)(x:Nm):Pt:=(ur v.1 x,ur v.2 x)
def WM(p q:Pt):Pt:=(ku p.1 q.1,ku p.2 q.2)
theorem Rr{V V':Int}{κ κ':Nat}{v:Pt}{x:Nm}(hV:0<=V)(hv:Bd V κ v.1/\Bd V κ v.2)(hx:Bd V' κ' x):Bd (3*(V*V')) (κ+κ') (VC v x).1/\Bd (3*(V*V')) (κ+κ') (VC v x).2:=
 ⟨fA hV hv.1 hx,fA hV hv.2 hx⟩
theorem acT{V V':Int}{κ κ':Nat}{p q:Pt}(hp:Bd V κ p.1/\Bd V κ p.2)(hq:Bd V' κ' q.1/\Bd V' κ' q.2):Bd (V+V') (max κ κ') (WM p q).1/\Bd (V+V') (max κ κ') (WM p q).2:=
 ⟨mB hp.1 hq.1,mB hp.2 hq.2⟩
theorem TO(x:Nm):gv x=some (decide (x.1=0/\x.2.1=0)):=by
 rw[gv,vw,show(x.1==0)=decide (x.1=0)from rfl,show(x.2.1==0)=decide (x.2.1=0)from rfl]
 by_cases h:x.1=0
 ·rw[aR h,cond_true]
  congr 1
  by_cases h':x.2.1=0
  ·rw[aR h',aR ⟨h,h'⟩]
  ·rw[aW h',aW (fun e=>h' e.2)]
 ·rw[aW h,cond_false,aW (fun e=>h e.1)]
theorem U1{x:Nm}(hc:x.can):((x.1==0)&&((x.2.1==0)&&((x.2.2==0)&&true)))=decide (x.1=0/\x.2.1=0):=by
 rw[Bool.eq_iff_iff]
 simp only[Bool.and_eq_true,beq_iff_eq,Bool.and_true,decide_eq_true_eq]
 constructor
 ·exact fun h=>⟨h.1,h.2.1⟩
 ·rintro ⟨h1,h2⟩
  refine⟨h1,h2, ?_⟩
  rcases hc.2 with h|h|h
  ·exact h
  ·rw[h1]at h;exact absurd rfl h
  ·rw[h2]at h;exact absurd rfl h
theorem EO{A:Type}{c:Bool}{x y:Option A}(h:∃r,x=some r)(h':∃r,y=some r):∃r,cond c x y=some r:=by
 cases c
 ·exact h'
 ·exact h
theorem La(a:Int):∃r,iM a=some r:=by
 unfold iM oM
 exact EO (EO ⟨_,rfl⟩ ⟨_,rfl⟩) (EO ⟨_,rfl⟩ ⟨_,rfl⟩)
theorem X4(a b:Int):∃r,dy a b=some r:=by
 obtain⟨r,hr⟩:=La a
 obtain⟨s,hs⟩:=La b
 unfold dy sc
 rw[hr,hs]
 exact EO ⟨_,rfl⟩ (EO ⟨_,rfl⟩ ⟨_,rfl⟩)
def sgS(r:Bool)(a b:Int):Int:=
 if a=0/\b=0 then 0 else if 0<=a/\0<=b then 1 else if a<=0/\b<=0 then -1 else if r=decide (b>0)then 1 else -1
theorem Sd{x:Nm}{r:Bool}(h:dy x.1 x.2.1=some r):fE x=some (sgS r x.1 x.2.1):=by
 unfold fE vp sgS
 simp only[h,Option.bind_some]
 rw[show(x.1==0)=decide (x.1=0)from rfl,show(x.2.1==0)=decide (x.2.1=0)from rfl,show(r==decide (x.2.1>0))=decide (r=decide (x.2.1>0))from rfl]
 generalize x.1=a
 generalize x.2.1=b
 by_cases h1:a=0<;>by_cases h2:b=0<;>by_cases h3:0<=a<;>by_cases h4:0<=b<;>by_cases h5:a<=0<;>by_cases h6:b<=0<;>first
  |omega
  |(by_cases h7:r=decide (b>0)<;>simp[h1,h2,h3,h4,h5,h6,h7])
def Sc(a:Int):Int:=if a>0 then 1 else if a<0 then -1 else 0
theorem Z2(a:Int):qE a=some (Sc a):=by
 unfold qE xe Sc
 congr 1
 simp only[if_true,Bool.false_eq_true,if_false]
 repeat' split
 all_goals omega
theorem Su(a b:Int):∃r,iK a b=some r:=by
 unfold iK oL qC AD gS nj
 simp only[Option.bind_some]
 exact EO ⟨_,rfl⟩ (EO ⟨_,rfl⟩ ⟨_,rfl⟩)
def sgI(r:Bool)(a b:Int):Int:=
 if Sc a=Sc b then Sc a else if Sc b=0 then Sc a else if Sc a=0 then Sc b else if r=true then Sc a else Sc b
theorem RL{x:Nm}{r:Bool}(h:iK x.1 x.2.1=some r):ew x=some (sgI r x.1 x.2.1):=by
 unfold ew te sgI
 simp only[h,Z2,Option.bind_some]
 rw[show(Sc x.1==Sc x.2.1)=decide (Sc x.1=Sc x.2.1)from rfl,show(Sc x.2.1==0)=decide (Sc x.2.1=0)from rfl,show(Sc x.1==0)=decide (Sc x.1=0)from rfl]
 by_cases h1:Sc x.1=Sc x.2.1
 ·simp[h1]
 ·by_cases h2:Sc x.2.1=0
  ·simp[h2]
  ·by_cases h3:Sc x.1=0
   ·rw[aW h1,aW h2,aR h3,cond_false,cond_false,cond_true,if_neg h1,if_neg h2,if_pos h3]
   ·cases r<;>simp[h1,h2,h3]
theorem V7(x:Nm):∃s,fE x=some s/\(s=0↔(x.1=0/\x.2.1=0)):=by
 obtain⟨r,hr⟩:=X4 x.1 x.2.1
 refine⟨_,Sd hr, ?_⟩
 unfold sgS
 repeat' split
 all_goals(constructor<;>intro h<;>omega)
theorem EA{a:Int}:Sc a=0↔a=0:=by unfold Sc;repeat' split
                                 all_goals omega
theorem VT(x:Nm):∃s,ew x=some s/\(s=0↔(x.1=0/\x.2.1=0)):=by
 obtain⟨r,hr⟩:=Su x.1 x.2.1
 refine⟨_,RL hr, ?_⟩
 unfold sgI
 repeat' split
 ·rename_i h;rw[EA];constructor
  ·intro e;exact⟨e,by rw[<-EA,<-h,EA];exact e⟩
  ·exact fun e=>e.1
 ·rename_i h;rw[EA]at h⊢;exact⟨fun e=>⟨e,h⟩,fun e=>e.1⟩
 ·rename_i h;rw[EA]at h⊢;exact⟨fun e=>⟨h,e⟩,fun e=>e.2⟩
 ·rename_i h _;rw[EA]at h⊢;exact⟨fun e=>absurd e h,fun e=>absurd e.1 h⟩
 ·rename_i h _ _;rw[EA]at h⊢;exact⟨fun e=>absurd e h,fun e=>absurd e.2 h⟩
theorem wU{n:Int}(h0:0<=n)(h1:n<18446744073709551616):IntKind.wrap .u64 n=n:=by
 simp only[IntKind.wrap,IntKind.bits,IntKind.signed]
 have:n%(2^64:Int)=n:=by omega
 simp only[this]
 simp
theorem aar{u:Int}(h0:0<=u)(h1:u<4294967296):IntKind.wrap .u64 (((BitVec.toNat ((BitVec.ofInt 64 u)&&&(BitVec.ofInt 64 (4294967295:Int)))):Nat):Int)=u:=by
 have:=Xh u 4294967295 (by omega)
 rw[show((4294967295:Nat):Int)=4294967295 from rfl]at this
 rw[this,show(4294967295:Nat)=2^32-1 from rfl,Nat.and_two_pow_sub_one_eq_mod,wU (by omega) (by omega)]
 omega
theorem ZY{u:Int}(h0:0<=u)(h1:u<4294967296):Int.fdiv u ((2:Int)^(Min.min (Int.toNat (32:Int)) 64))=0:=by
 rw[show((2:Int)^(Min.min (Int.toNat (32:Int)) 64))=4294967296 from rfl,Int.fdiv_eq_ediv_of_nonneg _ (by decide)]
 omega
theorem sqb{a:Int}(h0: -2147483647<=a)(h1:a<=2147483647):0<=a*a/\a*a<=4611686014132420609:=by
 have:=lD (a:=a) (b:=a) (V:=2147483647) (V':=2147483647) (p:=1) (q:=1) (by decide) (by decide) (by omega) (by omega) (by omega) (by omega)
 refine⟨?_,by omega⟩
 by_cases h:0<=a
 ·exact Int.mul_nonneg h h
 ·have:=Int.mul_nonneg (show 0<= -a by omega) (show 0<= -a by omega)
  rw[Int.neg_mul_neg]at this
  exact this
theorem MS{a:Int}(h0: -2147483647<=a)(h1:a<=2147483647):iM a=some (0,a*a):=by
 have hs:=sqb h0 h1
 unfold iM oM
 by_cases h:a<0
 ·have eu:IntKind.wrap .u64 (IntKind.wrap .i64 (0-a))= -a:=by rw[aM (by omega) (by omega),wU (by omega) (by omega)];omega
  have hs': -a* -a=a*a:=Int.neg_mul_neg a a
  rw[aR h,cond_true,eu,aar (by omega) (by omega),ZY (by omega) (by omega)]
  simp only[Int.mul_zero,hs']
  rw[wU hs.1 (by omega),wU (n:=0) (by decide) (by decide),ZY (by decide) (by decide),Int.zero_mul,wU (n:=0) (by decide) (by decide),Int.add_zero,wU hs.1 (by omega),aW (by omega),cond_false]
  rfl
 ·have eu:IntKind.wrap .u64 a=a:=wU (by omega) (by omega)
  rw[aW h,cond_false,eu,aar (by omega) (by omega),ZY (by omega) (by omega)]
  simp only[Int.mul_zero]
  rw[wU hs.1 (by omega),wU (n:=0) (by decide) (by decide),ZY (by decide) (by decide),Int.zero_mul,wU (n:=0) (by decide) (by decide),Int.add_zero,wU hs.1 (by omega),aW (by omega),cond_false]
  rfl
theorem afA{u:Int}(h0:0<=u)(h1:u<=4611686014132420609):Int.fdiv u ((2:Int)^(Min.min (Int.toNat (63:Int)) 64))=0:=by
 rw[show((2:Int)^(Min.min (Int.toNat (63:Int)) 64))=9223372036854775808 from rfl,Int.fdiv_eq_ediv_of_nonneg _ (by decide)]
 omega
theorem Zf{a b:Int}(h0: -2147483647<=a)(h1:a<=2147483647)(h2: -2147483647<=b)(h3:b<=2147483647):dy a b=some (decide (a*a<2*(b*b))):=by
 have ha:=sqb h0 h1
 have hb:=sqb h2 h3
 unfold dy sc
 rw[MS h0 h1,MS h2 h3]
 simp only[Option.bind_some]
 rw[afA hb.1 hb.2,Int.zero_mul,wU (n:=0) (by decide) (by decide),Int.add_zero,wU (n:=0) (by decide) (by decide),aW (by decide),cond_false,wU (n:=b*b*2) (by omega) (by omega),Int.mul_comm (b*b) 2]
 rfl
theorem Uq{a:Int}(h0: -2147483647<=a)(h1:a<=2147483647):qC a=some (if a<0 then -a else a):=by
 unfold qC AD
 congr 1
 simp only[if_true]
 rw[aM (n:=0-a) (by omega) (by omega)]
 repeat' split
 all_goals omega
theorem acM{u:Int}(h0:0<=u)(h1:u<=2147483647):gS u u=some (0,u*u):=by
 have hs:=sqb (a:=u) (by omega) h1
 unfold gS nj
 rw[aar h0 (by omega),ZY h0 (by omega)]
 simp only[Int.zero_mul,Int.mul_zero]
 rw[wU (n:=0) (by decide) (by decide),Int.zero_add,wU hs.1 (by omega)]
 have hf:0<=Int.fdiv (u*u) ((2:Int)^(Min.min (Int.toNat (32:Int)) 64))/\Int.fdiv (u*u) ((2:Int)^(Min.min (Int.toNat (32:Int)) 64))<4294967296:=by
  rw[show((2:Int)^(Min.min (Int.toNat (32:Int)) 64))=4294967296 from rfl,Int.fdiv_eq_ediv_of_nonneg _ (by decide)]
  omega
 generalize Int.fdiv (u*u) ((2:Int)^(Min.min (Int.toNat (32:Int)) 64))=t at*
 rw[Int.zero_add,wU (n:=t) (by omega) (by omega),ZY (u:=t) (by omega) (by omega),aar (u:=t) (by omega) (by omega),Int.add_zero,wU (n:=t) (by omega) (by omega),ZY (u:=t) (by omega) (by omega)]
 rfl
theorem Us{a b:Int}(h0: -2147483647<=a)(h1:a<=2147483647)(h2: -2147483647<=b)(h3:b<=2147483647):iK a b=some (decide (a*a>2*(b*b))):=by
 have ha:=sqb h0 h1
 have hb:=sqb h2 h3
 have ab:∀c:Int, -2147483647<=c->c<=2147483647->gS (IntKind.wrap .u64 (if c<0 then -c else c)) (IntKind.wrap .u64 (if c<0 then -c else c))=some (0,c*c):=by
  intro c k0 k1
  rw[wU (by split<;>omega) (by split<;>omega),acM (by split<;>omega) (by split<;>omega)]
  split
  ·rw[Int.neg_mul_neg]
  ·rfl
 unfold iK oL
 simp only[Uq h0 h1,Uq h2 h3,Option.bind_some,ab a h0 h1,ab b h2 h3]
 rw[afA hb.1 hb.2,Int.zero_mul,wU (n:=0) (by decide) (by decide)]
 have hz:IntKind.wrap IntKind.u64 (((BitVec.toNat ((BitVec.ofInt 64 (0:Int))|||(BitVec.ofInt 64 (0:Int)))):Nat):Int)=0:=by decide
 rw[hz,aW (by decide),cond_false,show((2:Int)^(Min.min (Int.toNat (1:Int)) 64))=2 from rfl,wU (n:=b*b*2) (by omega) (by omega),Int.mul_comm (b*b) 2]
 rfl
theorem ade:∀(n:Nat) (a b:Int),a.natAbs<=n->a*a=2*(b*b)->a=0
 |0,a,b,h,_=>by omega
 |n+1,a,b,h,e=>by
  by_cases h0:a=0
  ·exact h0
  ·exfalso
   have ha:a%2=0:=by
    by_cases h2:a%2=0
    ·exact h2
    ·have:(a*a)%2=1:=by rw[Int.mul_emod,show a%2=1 by omega];rfl
     omega
   have ea:a=2*(a/2):=by omega
   have e2:b*b=2*((a/2)*(a/2)):=by
    have:a*a=4*((a/2)*(a/2)):=by
     conv=>lhs;rw[ea]
     grind
    omega
   have hb:b%2=0:=by
    by_cases h2:b%2=0
    ·exact h2
    ·have:(b*b)%2=1:=by rw[Int.mul_emod,show b%2=1 by omega];rfl
     omega
   have eb:b=2*(b/2):=by omega
   have e3:(a/2)*(a/2)=2*((b/2)*(b/2)):=by
    have:b*b=4*((b/2)*(b/2)):=by
     conv=>lhs;rw[eb]
     grind
    omega
   have:=ade n (a/2) (b/2) (by omega) e3
   omega
def W0(x:Nm):Int:=sgS (decide (x.1*x.1<2*(x.2.1*x.2.1))) x.1 x.2.1
theorem X2{x:Nm}(h0: -2147483647<=x.1)(h1:x.1<=2147483647)(h2: -2147483647<=x.2.1)(h3:x.2.1<=2147483647):fE x=some (W0 x)/\ew x=some (W0 x):=by
 refine⟨Sd (Zf h0 h1 h2 h3),(RL (Us h0 h1 h2 h3)).trans ?_⟩
 congr 1
 unfold W0 sgI sgS
 have hne:x.1*x.1=2*(x.2.1*x.2.1)->x.1=0:=ade _ _ _ (Nat.le_refl _)
 have hsq:∀a:Int,a≠0->0<a*a:=by
  intro a ha
  by_cases h:0<a
  ·exact Int.mul_pos h h
  ·have:=Int.mul_pos (show 0< -a by omega) (show 0< -a by omega)
   rw[Int.neg_mul_neg]at this
   exact this
 generalize hp:x.1*x.1=p at*
 generalize hq:x.2.1*x.2.1=q at*
 have k1:=hsq x.1
 have k2:=hsq x.2.1
 rw[hp]at k1
 rw[hq]at k2
 generalize x.1=a at*
 generalize x.2.1=b at*
 unfold Sc
 by_cases l1:p<2*q
 ·have l2:¬p>2*q:=by omega
  simp only[l1,l2,decide_true,decide_false]
  by_cases a0:a>0<;>by_cases a1:a<0<;>by_cases b0:b>0<;>by_cases b1:b<0<;>first
   |omega
   |(simp[a0,a1,b0,b1];try omega)
 ·by_cases l2:p>2*q
  ·simp only[l1,l2,decide_true,decide_false]
   by_cases a0:a>0<;>by_cases a1:a<0<;>by_cases b0:b>0<;>by_cases b1:b<0<;>first
    |omega
    |(simp[a0,a1,b0,b1];try omega)
  ·have ha0:a=0:=hne (by omega)
   have hb0:b=0:=by
    by_cases hb:b=0
    ·exact hb
    ·have hq0:=k2 hb
     have hp0:p=0:=by rw[<-hp,ha0];rfl
     omega
   rw[ha0,hb0]
   simp
theorem Zh{d:Int}(h0:0<=d)(h1:d<=900):eX d=eX (d%16):=by
 rw[eX,tI,eX,tI,Z9 d (by omega) (by omega),Z9 (d%16) (by omega) (by omega),show d%16%16=d%16 by omega]
theorem Ze{d:Int}(h0:0<=d)(h1:d<=900)(p:Pt):de d p=de (d%16) p:=by
 rw[de,qO,de,qO,Zh h0 h1]
theorem adg{d:Int}(h0:0<=d)(h1:d<16):(fL ((d+4)%16)).1=XI (fL d).2/\(fL ((d+4)%16)).2=(fL d).1:=by
 rcases TL h0 h1 with rfl|rfl|rfl|rfl|rfl|rfl|rfl|rfl|rfl|rfl|rfl|rfl|rfl|rfl|rfl|rfl<;>decide
theorem aci{d:Int}(h0:0<=d)(h1:d<16)(p:Pt):sh (ur (fL d).1 p.2) (ur (fL d).2 p.1)=pQ (fL ((d+4)%16)) p:=by
 obtain⟨e1,e2⟩:=adg h0 h1
 unfold pQ
 rw[e1,e2]
 refine Am (Zo _ _) (lE _ _) ?_ ?_
 ·simp only[IR,AQ,TG,XJ,XK];grind
 ·simp only[IS,AR,TH,XJ,XK];grind
theorem acj{V:Int}{κ:Nat}{d:Int}{p:Pt}(h0:0<=d)(h1:d<16)(hV:0<=V)(hκ:κ<=60)(hp:Bd V κ p.1/\Bd V κ p.2)(h:6*V*2^κ<=4611686018427387904):
 ig (fL d) p=some (pQ (fL ((d+4)%16)) p):=by
 obtain⟨hv1,hv2⟩:=gX h0 h1
 have hpw:0<=V*2^κ:=Int.mul_nonneg hV (Int.le_of_lt (Int.pow_pos (by decide)))
 have e:6*V*2^κ=6*(V*2^κ):=Int.mul_assoc ..
 have k3:3*(1*V)*2^(0+κ)<=4611686018427387904:=by
  rw[Nat.zero_add,Int.one_mul,Int.mul_assoc];omega
 have m1:=mK hv1 hp.2 (by decide) (by omega) (by decide) k3
 have m2:=mK hv2 hp.1 (by decide) (by omega) (by decide) k3
 have b1:=fA (V:=1) (by decide) hv1 hp.2
 have b2:=fA (V:=1) (by decide) hv2 hp.1
 have a:=sL b1 b2 (by omega) (by omega) (by omega) (by omega) (by
  rw[Nat.max_self,Nat.zero_add]
  have:(3*(1*V)+3*(1*V))*2^κ=6*(V*2^κ):=by grind
  omega)
 rw[ig,mm,m1.2,Option.bind_some,m2.2,Option.bind_some,a.2,aci h0 h1]
 rfl
def aaE(d:Int)(p:Pt):Bool:=decide ((pQ (fL ((d+4)%16)) p).1=0/\(pQ (fL ((d+4)%16)) p).2.1=0)&&decide (W0 (pQ (fL d) p)>0)
def VO:Nat->Int->Pt->Option Int
 |0,_,_=>none
 |n+1,d,p=>cond (aaE d p) (some d) (VO n (d+1) p)
theorem aay:∀(n:Nat) (d:Int) (p:Pt) (r:Int),VO n d p=some r->d<=r/\r<d+n
 |0,_,_,_,h=>by cases h
 |n+1,d,p,r,h=>by
  rw[VO]at h
  cases hc:aaE d p
  ·rw[hc]at h
   have:=aay n (d+1) p r h
   omega
  ·rw[hc]at h
   simp only[cond_true,Option.some.injEq]at h
   omega
theorem aaz{p:Pt}(hp:Bd 262144 10 p.1/\Bd 262144 10 p.2){d:Int}(h0:0<=d)(h1:d<16):(-2147483647<=(pQ (fL d) p).1/\(pQ (fL d) p).1<=2147483647)/\(-2147483647<=(pQ (fL d) p).2.1/\(pQ (fL d) p).2.1<=2147483647):=by
 have hb:=sw (V:=1) (by decide) (gX h0 h1) hp
 have:=hb.pow_le (by decide)
 have e:(3*(1*262144)+3*(1*262144):Int)*2^(0+10)=1610612736:=by decide
 rw[e]at this
 omega
theorem PQ{p:Pt}(hp:Bd 262144 10 p.1/\Bd 262144 10 p.2):∀(n:Nat) (d:Int),0<=d->d+n=16->
 gR (jl d p.1.1 p.1.2.1 p.1.2.2 p.2.1 p.2.2.1 p.2.2.2)=some (match VO n d p with|some r=>.inl (yn r)|none=>.inr (.inl yo))
 |0,d,h0,h1=>by
  rw[zX,gO,aW (by omega),cond_false];rfl
 |n+1,d,h0,h1=>by
  have hd:=B1 (d:=d) h0 (by omega) (by decide) (by decide) hp (by decide)
  have hd4:=B1 (d:=(d+4)%16) (by omega) (by omega) (by decide) (by decide) hp (by decide)
  have hs:=aaz hp h0 (show d<16 by omega)
  have IH:=PQ hp n (d+1) (by omega) (by omega)
  rw[zX,gO,aR (by omega),cond_true,aM (n:=d+4) (by omega) (by omega),Ze (by omega) (by omega)]
  try simp only
  rw[hd4.1,Option.bind_some,TO,Option.bind_some,VO]
  unfold aaE
  by_cases hz:(pQ (fL ((d+4)%16)) p).1=0/\(pQ (fL ((d+4)%16)) p).2.1=0
  ·rw[aR hz,cond_true,hd.1,Option.bind_some,(X2 hs.1.1 hs.1.2 hs.2.1 hs.2.2).1,Option.bind_some,Bool.true_and]
   by_cases hg:W0 (pQ (fL d) p)>0
   ·rw[aR hg,cond_true,cond_true];rfl
   ·rw[aW hg,cond_false,cond_false,aM (n:=d+1) (by omega) (by omega)]
    exact IH
  ·rw[aW hz,cond_false,Bool.false_and,cond_false,aM (n:=d+1) (by omega) (by omega)]
   exact IH
theorem OH{p:Pt}(hp:Bd 262144 10 p.1/\Bd 262144 10 p.2):∀(n:Nat) (d:Int),0<=d->d+n=16->
 jV (mh d p.1.1 p.1.2.1 p.1.2.2 p.2.1 p.2.2.1 p.2.2.2)=some (match VO n d p with|some r=>.inl (Bl r)|none=>.inr (.inl Bm))
 |0,d,h0,h1=>by
  rw[CT,jP,aW (by omega),cond_false];rfl
 |n+1,d,h0,h1=>by
  have hd:=B1 (d:=d) h0 (by omega) (by decide) (by decide) hp (by decide)
  have hc:=acj (d:=d) h0 (by omega) (by decide) (by decide) hp (by decide)
  have hs:=aaz hp h0 (show d<16 by omega)
  have IH:=OH hp n (d+1) (by omega) (by omega)
  rw[CT,jP,aR (by omega),cond_true,(wJ h0 (show d<16 by omega)).2,Option.bind_some]
  try simp only
  rw[hc,Option.bind_some,U1 (show(pQ (fL ((d+4)%16)) p).can from lE _ _),VO]
  unfold aaE
  by_cases hz:(pQ (fL ((d+4)%16)) p).1=0/\(pQ (fL ((d+4)%16)) p).2.1=0
  ·rw[aR hz,cond_true,hd.2,Option.bind_some,(X2 hs.1.1 hs.1.2 hs.2.1 hs.2.2).2,Option.bind_some,Bool.true_and]
   by_cases hg:W0 (pQ (fL d) p)>0
   ·rw[aR hg,cond_true,cond_true];rfl
   ·rw[aW hg,cond_false,cond_false,aM (n:=d+1) (by omega) (by omega)]
    exact IH
  ·rw[aW hz,cond_false,Bool.false_and,cond_false,aM (n:=d+1) (by omega) (by omega)]
   exact IH
def ac8(p q:Pt):Pt:=(sh p.1 q.1,sh p.2 q.2)
theorem aaT{p q:Pt}(hp:pN p=true)(hq:pN q=true):Bd 262144 10 (ac8 p q).1/\Bd 262144 10 (ac8 p q).2:=by
 have bp:=jr hp
 have bq:=jr hq
 exact⟨Bf bp.1 bq.1,Bf bp.2 bq.2⟩
def Ug(p q:Pt):Option Int:=VO 16 0 (ac8 q p)
theorem Vu{p q:Pt}(hp:pN p=true)(hq:pN q=true):(jC q p).bind (fun v=>ja v)=some (match Ug p q with|some d=>d|none=> -1):=by
 have bp:=jr hp
 have bq:=jr hq
 have hb:=aaT hq hp
 have s1:=sL bq.1 bp.1 (by decide) (by decide) (by decide) (by decide) (by decide)
 have s2:=sL bq.2 bp.2 (by decide) (by decide) (by decide) (by decide) (by decide)
 rw[jC,pW,s1.1,Option.bind_some,s2.1,Option.bind_some,Option.bind_some,ja,ob]
 have hl:=PQ hb 16 0 (by decide) (by decide)
 unfold Ug
 have hl':gR (jl 0 (sh q.1 p.1).1 (sh q.1 p.1).2.1 (sh q.1 p.1).2.2 (sh q.2 p.2).1 (sh q.2 p.2).2.1 (sh q.2 p.2).2.2)=_:=hl
 rw[hl']
 cases VO 16 0 (ac8 q p)<;>rfl
theorem Ur{p q:Pt}(hp:pN p=true)(hq:pN q=true):lW p q=some (match Ug p q with|some d=>d|none=> -1):=by
 have bp:=jr hp
 have bq:=jr hq
 have hb:=aaT hq hp
 have s1:=sL bq.1 bp.1 (by decide) (by decide) (by decide) (by decide) (by decide)
 have s2:=sL bq.2 bp.2 (by decide) (by decide) (by decide) (by decide) (by decide)
 rw[lW,rQ,oU,pw,s1.2,Option.bind_some,s2.2,Option.bind_some,Option.bind_some]
 have hl:=OH hb 16 0 (by decide) (by decide)
 unfold Ug
 have hl':jV (mh 0 (sh q.1 p.1).1 (sh q.1 p.1).2.1 (sh q.1 p.1).2.2 (sh q.2 p.2).1 (sh q.2 p.2).2.1 (sh q.2 p.2).2.2)=_:=hl
 rw[hl']
 cases VO 16 0 (ac8 q p)<;>rfl
theorem TC{p q:Pt}{d:Int}(h:Ug p q=some d):0<=d/\d<16:=by
 have:=aay 16 0 _ _ h
 omega
def aaW(p q:Pt):Ln×Int:=cond (pN p&&pN q) (match Ug p q with|some d=>V1 (BX p (d%8))|none=>((0,(0,(0,0))),7)) ((0,(0,(0,0))),1)
theorem abJ(p q:Pt):lZ p q=some (aaW p q):=by
 rw[lZ,pD,fJ,fJ]
 unfold aaW
 simp only[Option.bind_some]
 cases hp:pN p
 ·rfl
 cases hq:pN q
 ·rfl
 have hb:=jr hp
 simp only[Bool.not_true,cond_false,Bool.and_self,cond_true,bj,dN,cb,cY,Option.bind_some]
 have hd:=Vu hp hq
 rw[Option.bind_eq_some_iff]at hd
 obtain⟨v,h1,h2⟩:=hd
 rw[h1,Option.bind_some,h2,Option.bind_some]
 cases hdn:Ug p q with
 |none=>rfl
 |some d=>
  have hdb:=TC hdn
  try simp only
  rw[aW (show¬d<0 by omega),cond_false,Int.tmod_eq_emod_of_nonneg (by omega),wQ,xl,fJ,hp]
  simp only[Option.bind_some,Bool.not_true,cond_false,hZ]
  rw[aR (show 0<=d%8 by omega),aR (show d%8<=7 by omega)]
  simp only[Bool.and_self,Bool.not_true,cond_false,bj,dN,cb,cY,Option.bind_some]
  rw[aM (n:=d%8+4) (by omega) (by omega)]
  have hdot:=(B1 (d:=d%8+4) (by omega) (by omega) (by decide) (by decide) hb (by decide)).1
  have hbd:=sw (V:=1) (by decide) (gX (d:=d%8+4) (by omega) (by omega)) hb
  have hi:=Dy hbd (by decide) (by decide)
  rw[hdot,Option.bind_some,aad (x:=pQ (fL (d%8+4)) p) (lE _ _) (by have:=hbd.2.1;exact Int.le_trans this (by decide)) hi.1 hi.2]
  unfold V1 BX
  simp only[Option.bind_some]
  cases BY (pQ (fL (d%8+4)) p)<;>rfl
theorem abr(p q:Pt):lS p q=some (aaW p q):=by
 rw[lS,pp,fX,fX]
 unfold aaW
 simp only[Option.bind_some]
 cases hp:pN p
 ·rfl
 cases hq:pN q
 ·rfl
 have hb:=jr hp
 simp only[Bool.not_true,cond_false,Bool.and_self,cond_true]
 rw[Ur hp hq,Option.bind_some]
 cases hdn:Ug p q with
 |none=>rfl
 |some d=>
  have hdb:=TC hdn
  try simp only
  rw[aW (show¬d<0 by omega),cond_false,Int.tmod_eq_emod_of_nonneg (by omega),Au (d:=d%8) (by omega) (by omega) (by decide) (by decide) hb (by decide),Option.bind_some,J4,Option.bind_some]
  unfold V1 BX
  cases BY (pQ (fL (d%8+4)) p)<;>rfl
theorem fo(l:Ln):aI l=some (nR l):=by
 unfold aI rO nR
 simp only[pK,Option.bind_some,J4]
 cases(decide (0<=l.1)&&decide (l.1<=7))<;>simp
theorem AJ{V:Int}{κ:Nat}{d:Int}{p:Pt}(h0: -1000<=d)(h1:d<=1000)(hV:0<=V)(hκ:κ<=60)(hp:Bd V κ p.1/\Bd V κ p.2)(h:6*V*2^κ<=4611686018427387904):
 dJ p d=some (BX p (d%8)):=by
 rw[dJ,qA,Z9 d h0 h1]
 simp only[Option.bind_some]
 rw[Int.tmod_eq_emod_of_nonneg (by omega),show d%16%8=d%8 by omega,aM (n:=d%8+4) (by omega) (by omega)]
 rw[(B1 (by omega) (by omega) hV hκ hp h).1];rfl
theorem Vy{l:Ln}(hc:l.2.can)(hk:l.2.2.2<=1000)(ha:JK l.2.1)(hb:JK l.2.2.1):ov l=some (V1 l):=by
 rw[ov,xu,jo,pF,aad hc hk ha hb]
 unfold V1
 simp only[Option.bind_some]
 cases BY l.2<;>rfl
theorem Ut{l:Ln}(h0:0<=l.1)(h1:l.1<=7):jf l true=some (V1 l):=by
 rw[jf,qx,fo]
 unfold V1 nR
 rw[aR h0,aR h1]
 simp only[Option.bind_some,Bool.not_true,cond_false,Bool.and_self,Bool.true_and]
 cases BY l.2<;>rfl
theorem XQ{V V':Int}{κ κ':Nat}{p q:Pt}(hp:Bd V κ p.1/\Bd V κ p.2)(hq:Bd V' κ' q.1/\Bd V' κ' q.2)(hV:0<=V)(hV':0<=V')(hκ:κ<=60)(hκ':κ'<=60)(h:(V+V')*2^(max κ κ')<=4611686018427387904):
 kz p q=some (WM p q):=by
 rw[kz,qt,(wv hp.1 hq.1 hV hV' hκ hκ' h).2,(wv hp.2 hq.2 hV hV' hκ hκ' h).2];rfl
def sj(x:Nm):Nm:=(x.1,(x.2.1,x.2.2+1))
theorem DU{V:Int}{κ:Nat}{x:Nm}(hV:0<=V)(h:Bd V κ x):Bd V (κ+1) (sj x):=by
 obtain⟨h1,h2,h3,h4⟩:=h
 have e:(x.2.2+1).toNat=x.2.2.toNat+1:=by omega
 have hp:0<=V*2^x.2.2.toNat:=Int.mul_nonneg hV (Int.le_of_lt (Int.pow_pos (by decide)))
 have e2:V*2^(x.2.2.toNat+1)=2*(V*2^x.2.2.toNat):=by rw[Int.pow_succ];grind
 refine⟨?_, ?_, ?_, ?_⟩
 ·show 0<=x.2.2+1;omega
 ·show x.2.2+1<=((κ+1:Nat):Int);omega
 ·show -(V*2^(x.2.2+1).toNat)<=x.1/\x.1<=V*2^(x.2.2+1).toNat
  rw[e,e2];omega
 ·show -(V*2^(x.2.2+1).toNat)<=x.2.1/\x.2.1<=V*2^(x.2.2+1).toNat
  rw[e,e2];omega
theorem YL{x:Nm}(h:0<=x.2.2):vA (sj x)=vA x/2:=by
 have e:(x.2.2+1).toNat=x.2.2.toNat+1:=by omega
 show(x.1:Rat)/2^(x.2.2+1).toNat=vA x/2
 unfold vA
 rw[e,Rat.pow_succ]
 have:=bM x.2.2.toNat
 grind
theorem YM{x:Nm}(h:0<=x.2.2):vB (sj x)=vB x/2:=by
 have e:(x.2.2+1).toNat=x.2.2.toNat+1:=by omega
 show(x.2.1:Rat)/2^(x.2.2+1).toNat=vB x/2
 unfold vB
 rw[e,Rat.pow_succ]
 have:=bM x.2.2.toNat
 grind
theorem PR(x:Nm)(h0:0<=x.2.2)(h:x.2.2<=1000):kD x=some (sj x):=by
 rw[kD,vz,aM (n:=x.2.2+1) (by omega) (by omega)];rfl
theorem J3{V:Int}{κ:Nat}{x:Nm}(hx:Bd V κ x)(hV:0<=V)(hκ:κ<=60)(h:V*2^κ<=4611686018427387904):lj x=some (low (x.2.2.toNat+1) x.1 x.2.1):=by
 have hi:=Dy hx hV h
 have h1:=hx.1
 have h2:=hx.2.1
 rw[lj,tc,aM (n:=x.2.2+1) (by omega) (by omega),OI (by omega) (by omega) hi.1 hi.2,show(x.2.2+1).toNat=x.2.2.toNat+1 by omega]
 rfl
def UM(p q:Pt):Pt:=(low ((ku p.1 q.1).2.2.toNat+1) (ku p.1 q.1).1 (ku p.1 q.1).2.1,low ((ku p.2 q.2).2.2.toNat+1) (ku p.2 q.2).1 (ku p.2 q.2).2.1)
theorem Fs{x:Nm}(h:0<=x.2.2):vA (low (x.2.2.toNat+1) x.1 x.2.1)=vA (sj x):=by
 rw[YL h,Iy]
 unfold vA
 rw[Rat.pow_succ]
 have:=bM x.2.2.toNat
 grind
theorem Ft{x:Nm}(h:0<=x.2.2):vB (low (x.2.2.toNat+1) x.1 x.2.1)=vB (sj x):=by
 rw[YM h,Iz]
 unfold vB
 rw[Rat.pow_succ]
 have:=bM x.2.2.toNat
 grind
theorem yx{V:Int}{κ:Nat}{x:Nm}(hV:0<=V)(hx:Bd V κ x):Bd V (κ+1) (low (x.2.2.toNat+1) x.1 x.2.1):=by
 have h:=DU hV hx
 obtain⟨h1,h2,h3,h4⟩:=h
 have k0:=hx.1
 have k1:=hx.2.1
 have e:(sj x).2.2.toNat=x.2.2.toNat+1:=by show(x.2.2+1).toNat=_;omega
 rw[e]at h3 h4
 exact(Ni (V:=V) _ _ _ h3.1 h3.2 h4.1 h4.2).mono (Int.le_refl _) (by omega)
theorem aco(v:Pt){x y:Nm}(hx:0<=x.2.2)(hy:0<=y.2.2):pQ v (sj x,sj y)=pQ v (low (x.2.2.toNat+1) x.1 x.2.1,low (y.2.2.toNat+1) y.1 y.2.1):=by
 unfold pQ
 refine Am (lE _ _) (lE _ _) ?_ ?_
 ·simp only[AQ,TG,Fs hx,Fs hy,Ft hx,Ft hy]
 ·simp only[AR,TH,Fs hx,Fs hy,Ft hx,Ft hy]
def aaQ(p q:Pt):Ln×Int:=cond (pN p&&pN q) (match Ug p q with|some d=>V1 (BX (UM p q) ((d+4)%8))|none=>((0,(0,(0,0))),7)) ((0,(0,(0,0))),1)
theorem abI(p q:Pt):nz p q=some (aaQ p q):=by
 rw[nz,tj,fJ,fJ]
 unfold aaQ
 simp only[Option.bind_some]
 cases hp:pN p
 ·rfl
 cases hq:pN q
 ·rfl
 have bp:=jr hp
 have bq:=jr hq
 simp only[Bool.not_true,cond_false,Bool.and_self,cond_true,bj,dN,cb,cY,Option.bind_some]
 have hd:=Vu hp hq
 rw[Option.bind_eq_some_iff]at hd
 obtain⟨v,h1,h2⟩:=hd
 rw[h1,Option.bind_some,h2,Option.bind_some]
 cases hdn:Ug p q with
 |none=>rfl
 |some d=>
  have hdb:=TC hdn
  try simp only
  rw[aW (show¬d<0 by omega),cond_false]
  have a1:=(wv bp.1 bq.1 (by decide) (by decide) (by decide) (by decide) (by decide)).1
  have a2:=(wv bp.2 bq.2 (by decide) (by decide) (by decide) (by decide) (by decide)).1
  have b1:=mB bp.1 bq.1
  have b2:=mB bp.2 bq.2
  have c1:=b1.1
  have c2:=b2.1
  have hb1:=DU (by decide) b1
  have hb2:=DU (by decide) b2
  rw[a1,Option.bind_some,PR _ c1 (by have:=b1.2.1;exact Int.le_trans this (by decide)),Option.bind_some,a2,Option.bind_some,PR _ c2 (by have:=b2.2.1;exact Int.le_trans this (by decide)),Option.bind_some,
   aM (n:=d+4) (by omega) (by omega),AJ (p:=(sj (ku p.1 q.1),sj (ku p.2 q.2))) (by omega) (by omega) (by decide) (by decide) ⟨hb1,hb2⟩ (by decide),Option.bind_some]
  have hl:BX (sj (ku p.1 q.1),sj (ku p.2 q.2)) ((d+4)%8)=BX (UM p q) ((d+4)%8):=by
   unfold BX UM
   rw[aco _ c1 c2]
  rw[hl]
  have hbd:=sw (V:=1) (by decide) (gX (d:=(d+4)%8+4) (by omega) (by omega)) (p:=UM p q) ⟨yx (by decide) b1,yx (by decide) b2⟩
  have hi:=Dy hbd (by decide) (by decide)
  rw[Vy (l:=BX (UM p q) ((d+4)%8)) (lE _ _) (by have:=hbd.2.1;exact Int.le_trans this (by decide)) hi.1 hi.2]
  rfl
theorem abq(p q:Pt):nw p q=some (aaQ p q):=by
 rw[nw,sZ,fX,fX]
 unfold aaQ
 simp only[Option.bind_some]
 cases hp:pN p
 ·rfl
 cases hq:pN q
 ·rfl
 have bp:=jr hp
 have bq:=jr hq
 simp only[Bool.not_true,cond_false,Bool.and_self,cond_true]
 rw[Ur hp hq,Option.bind_some]
 cases hdn:Ug p q with
 |none=>rfl
 |some d=>
  have hdb:=TC hdn
  try simp only
  have b1:=mB bp.1 bq.1
  have b2:=mB bp.2 bq.2
  rw[aW (show¬d<0 by omega),cond_false,qD,tF,XQ bp bq (by decide) (by decide) (by decide) (by decide) (by decide),Option.bind_some]
  unfold WM
  try simp only
  rw[J3 b1 (by decide) (by decide) (by decide),Option.bind_some,J3 b2 (by decide) (by decide) (by decide),Option.bind_some,Option.bind_some,
   aM (n:=d+4) (by omega) (by omega),Int.tmod_eq_emod_of_nonneg (by omega)]
  have hl:=Au (d:=(d+4)%8) (p:=UM p q) (by omega) (by omega) (by decide) (by decide) ⟨yx (by decide) b1,yx (by decide) b2⟩ (by decide)
  unfold UM at hl⊢
  rw[hl,Option.bind_some,Ut (l:=BX _ ((d+4)%8)) (by show 0<=(d+4)%8;omega) (by show(d+4)%8<=7;omega)]
  rfl
theorem fY(l:Ln):bG l=some (nR l):=by
 unfold bG vt nR
 simp only[hZ,Option.bind_some,Lc]
 cases(decide (0<=l.1)&&decide (l.1<=7))<;>simp
theorem W5(l:Ln):qH l=some l:=by
 rw[qH,xj,VD];rfl
theorem aaX(a m:Int):(Int.tmod a m !=0)=decide (a%m≠0):=by
 have:(Int.tmod a m=0)↔(a%m=0):=by rw[<-Int.dvd_iff_tmod_eq_zero,<-Int.dvd_iff_emod_eq_zero]
 rw[bne,show(Int.tmod a m==0)=decide (Int.tmod a m=0)from rfl]
 by_cases h:a%m=0
 ·rw[aR (this.2 h),aW (fun e=>e h)];rfl
 ·rw[aW (fun e=>h (this.1 e)),aR h];rfl
theorem TI{a m:Int}(hm:m≠0)(h:a%m=0)(h1: -4611686018427387904<=a)(h2:a<=4611686018427387904):IntKind.wrap .i64 (Int.tdiv a m)=a/m/\JK (a/m):=by
 have hd:m∣a:=Int.dvd_iff_emod_eq_zero.2 h
 rw[Int.tdiv_eq_ediv_of_dvd hd]
 have e:a=m*(a/m):=by have:=Int.mul_ediv_add_emod a m;omega
 have hn:(a/m).natAbs<=a.natAbs:=by
  have e2:a.natAbs=m.natAbs*(a/m).natAbs:=by rw[<-Int.natAbs_mul,<-e]
  rw[e2]
  exact Nat.le_mul_of_pos_left _ (by omega)
 have hi:JK (a/m):=⟨by omega,by omega⟩
 exact⟨wI hi,hi⟩
theorem MR(c1 c2 c3 c4 c5 c6 A B:Int):∀(n:Nat) (x k:Int),n<=64->x≠0-> -(2^n)<x->x<2^n->JK x->0<=k->k+n<=1000->
 qa (xH x c1 c2 c3 c4 c5 c6 A B k)=some (.inl (Fb (li n x).1 c1 c2 c3 c4 c5 c6 A B (k+(li n x).2)))
 |0,x,k,hn,h0,h1,h2,hi,hk,hk'=>by simp at h1 h2;omega
 |n+1,x,k,hn,h0,h1,h2,hi,hk,hk'=>by
  have i1:=hi.1
  have i2:=hi.2
  rw[Rw,pX,Zr,li]
  rw[Int.pow_succ]at h1 h2
  by_cases h:x%2=0
  ·rw[aR h,cond_true,if_pos h,W4 h,aM (n:=x/2) (by omega) (by omega),aM (n:=k+1) (by omega) (by omega)]
   refine(MR c1 c2 c3 c4 c5 c6 A B n (x/2) (k+1) (by omega) (by omega) (by omega) (by omega) ⟨by omega,by omega⟩ (by omega) (by omega)).trans ?_
   simp only
   rw[show k+1+((li n (x/2)).2:Int)=k+(((li n (x/2)).2+1:Nat):Int) by omega]
  ·rw[aW h,cond_false,if_neg h]
   simp;rfl
theorem Mr(c1 c2 c3 A B:Int):∀(n:Nat) (x k:Int),n<=64->x≠0-> -(2^n)<x->x<2^n->JK x->0<=k->k+n<=1000->
 nq (ui x c1 c2 c3 A B k)=some (.inl (Cr (li n x).1 c1 c2 c3 A B (k+(li n x).2)))
 |0,x,k,hn,h0,h1,h2,hi,hk,hk'=>by simp at h1 h2;omega
 |n+1,x,k,hn,h0,h1,h2,hi,hk,hk'=>by
  have i1:=hi.1
  have i2:=hi.2
  rw[Ob,nl,adr,li,show(x%2==0)=decide (x%2=0)from rfl]
  rw[Int.pow_succ]at h1 h2
  by_cases h:x%2=0
  ·rw[aR h,cond_true,if_pos h,W4 h,aM (n:=x/2) (by omega) (by omega),aM (n:=k+1) (by omega) (by omega)]
   refine(Mr c1 c2 c3 A B n (x/2) (k+1) (by omega) (by omega) (by omega) (by omega) ⟨by omega,by omega⟩ (by omega) (by omega)).trans ?_
   simp only
   rw[show k+1+((li n (x/2)).2:Int)=k+(((li n (x/2)).2+1:Nat):Int) by omega]
  ·rw[aW h,cond_false,if_neg h]
   simp;rfl
theorem Vv(c1 c2 c3 A B K:Int):oQ (ru 0 c1 c2 c3 A B K)=some (.inl (DK c1 c2 c3 A B K)):=by
 rw[P9,oN,aW (by omega),cond_false];rfl
theorem Il{V M:Int}{κ:Nat}{x y:Nm}(hx:Bd V κ x)(hy:Bd M 0 y)(hV:0<=V)(hM:0<=M)(hM':M<=1000000000)(hκ:κ<=60)(h1:V*2^κ<=2305843009213693952)(h2:3*(V*M)*2^(κ+0)<=4611686018427387904):
 jn x y=some (LC x y)/\gu x y=some (LC x y):=by
 have hyn:Bd M 0 (y.1,(-y.2.1,0)):=by
  obtain⟨y1,y2,y3,y4⟩:=hy
  have:y.2.2=0:=by omega
  rw[this]at y3 y4
  exact⟨by simp,by simp,y3,by simp only at y4⊢;omega⟩
 obtain⟨⟨f1,f2,f3,_⟩,f5,f6,_⟩:=QF hx hy hV h1 h2
 obtain⟨⟨_,_,_,g4⟩,_,_,g7⟩:=QF hx hyn hV h1 h2
 simp only at g4 g7
 have eA:x.1*y.1+2*x.2.1* -y.2.1=x.1*y.1-2*x.2.1*y.2.1:=by grind
 have eB:x.1* -y.2.1+x.2.1*y.1=x.2.1*y.1-x.1*y.2.1:=by grind
 have hmul:=(mK hx hyn hV (by omega) h1 h2).2
 have hbm:=fA hV hx hyn
 have hk1:=hx.1
 have hk2:=hx.2.1
 have hyk:y.2.2=0:=by have:=hy.1;have:=hy.2.1;omega
 have hyb:=hy.pow_le hM
 simp only[Int.pow_zero,Int.mul_one]at hyb
 have sq:∀a b:Int, -M<=a->a<=M-> -M<=b->b<=M-> -1000000000000000000<=a*b/\a*b<=1000000000000000000:=by
  intro a b p1 p2 p3 p4
  have:=lD (a:=a) (b:=b) (V:=M) (V':=M) (p:=1) (q:=1) hM (by decide) (by omega) (by omega) (by omega) (by omega)
  have hMM:M*M<=1000000000*1000000000:=Int.mul_le_mul hM' hM' hM (by decide)
  omega
 have s1:=sq y.1 y.1 (by omega) (by omega) (by omega) (by omega)
 have s2:=sq y.2.1 y.2.1 (by omega) (by omega) (by omega) (by omega)
 have e2y:2*y.2.1*y.2.1=2*(y.2.1*y.2.1):=Int.mul_assoc ..
 have n1:IntKind.wrap IntKind.i64 ((IntKind.wrap .i64 (y.1*y.1))-(IntKind.wrap .i64 ((IntKind.wrap .i64 (2*y.2.1))*y.2.1)))=y.1*y.1-2*y.2.1*y.2.1:=by
  rw[aM (n:=y.1*y.1) (by omega) (by omega),aM (n:=2*y.2.1) (by omega) (by omega),aM (n:=2*y.2.1*y.2.1) (by omega) (by omega),aM (by omega) (by omega)]
 have nI:JK (y.1*y.1-2*y.2.1*y.2.1):=⟨by omega,by omega⟩
 have hAb: -4611686018427387904<=x.1*y.1-2*x.2.1*y.2.1/\x.1*y.1-2*x.2.1*y.2.1<=4611686018427387904/\ -4611686018427387904<=x.2.1*y.1-x.1*y.2.1/\x.2.1*y.1-x.1*y.2.1<=4611686018427387904:=by
  obtain⟨x1,x2,x3,x4⟩:=hx
  have hp:(0:Int)<=2^x.2.2.toNat:=Int.le_of_lt (Int.pow_pos (by decide))
  have hpl:(2:Int)^x.2.2.toNat<=2^κ:=by
   have:=Nat.pow_le_pow_right (show 0<2 by decide) (show x.2.2.toNat<=κ by omega)
   exact_mod_cast this
  have aa:=lD (p:=2^x.2.2.toNat) (q:=1) (V':=M) hV hp x3.1 x3.2 (b:=y.1) (by omega) (by omega)
  have bb:=lD (p:=2^x.2.2.toNat) (q:=1) (V':=M) hV hp x4.1 x4.2 (b:=y.2.1) (by omega) (by omega)
  have ab:=lD (p:=2^x.2.2.toNat) (q:=1) (V':=M) hV hp x3.1 x3.2 (b:=y.2.1) (by omega) (by omega)
  have ba:=lD (p:=2^x.2.2.toNat) (q:=1) (V':=M) hV hp x4.1 x4.2 (b:=y.1) (by omega) (by omega)
  rw[Int.mul_one]at aa bb ab ba
  have hVM:0<=V*M:=Int.mul_nonneg hV hM
  have hle:=Int.mul_le_mul_of_nonneg_left hpl hVM
  have h3:3*(V*M*2^κ)<=4611686018427387904:=by rw[<-Int.mul_assoc];exact h2
  have e2:2*x.2.1*y.2.1=2*(x.2.1*y.2.1):=Int.mul_assoc ..
  omega
 have w1:IntKind.wrap IntKind.i64 ((IntKind.wrap .i64 (x.1*y.1))-(IntKind.wrap .i64 ((IntKind.wrap .i64 (2*x.2.1))*y.2.1)))=x.1*y.1-2*x.2.1*y.2.1:=by
  rw[wI f1,wI f2,wI f3,aM (by omega) (by omega)]
 have w2:IntKind.wrap IntKind.i64 ((IntKind.wrap .i64 (x.2.1*y.1))-(IntKind.wrap .i64 (x.1*y.2.1)))=x.2.1*y.1-x.1*y.2.1:=by
  rw[wI f5,wI f6,aM (by omega) (by omega)]
 unfold LC
 generalize hA:x.1*y.1-2*x.2.1*y.2.1=A at*
 generalize hB:x.2.1*y.1-x.1*y.2.1=B at*
 generalize hN:y.1*y.1-2*y.2.1*y.2.1=N at*
 by_cases h0:N=0
 ·rw[if_pos h0]
  constructor
  ·rw[jn,tH,n1,h0];rfl
  ·rw[gu,pV,n1,h0];rfl
 ·rw[if_neg h0]
  have i1:=nI.1
  have i2:=nI.2
  have hodd:(li 64 N).1%2≠0:=Y5 64 N h0 (by omega) (by omega)
  have hle:=aaN 64 N
  have hm0:(li 64 N).1≠0:=fun e=>by rw[e]at hodd;exact hodd rfl
  have hNb:(N==0)=false:=by rw[show(N==0)=decide (N=0)from rfl,aW h0]
  constructor
  ·rw[jn,tH,n1,hNb,cond_false,w1,w2,MR y.1 y.2.1 y.2.2 0 0 0 A B 64 N x.2.2 (by omega) h0 (by omega) (by omega) nI hk1 (by omega)]
   simp only[Option.bind_some,qi,iH]
   rw[aW hm0,cond_false,aaX,aaX]
   by_cases hd:A%(li 64 N).1=0
   ·by_cases hd':B%(li 64 N).1=0
    ·obtain⟨q1,q1'⟩:=TI hm0 hd hAb.1 hAb.2.1
     obtain⟨q2,q2'⟩:=TI hm0 hd' hAb.2.2.1 hAb.2.2.2
     rw[aW (fun e=>e hd),aW (fun e=>e hd'),if_pos ⟨hd,hd'⟩]
     simp only[cond_false]
     rw[q1,q2,hyk,Vv]
     simp only[Option.bind_some,gH]
     rw[Lz (by omega) (by omega) q1' q2']
     simp only[Option.bind_some]
     rw[show(x.2.2+((li 64 N).2:Int)).toNat=x.2.2.toNat+(li 64 N).2 by omega]
    ·rw[aW (fun e=>e hd),aR hd',if_neg (fun e=>hd' e.2)];rfl
   ·rw[aR hd,if_neg (fun e=>hd e.1)];rfl
  ·have hz:IntKind.wrap IntKind.i64 (0-y.2.1)= -y.2.1:=by rw[aM (by omega) (by omega)];omega
   have hT:ur x (y.1,(-y.2.1,0))=low x.2.2.toNat A B:=by
    unfold ur
    simp only
    rw[eA,eB];rfl
   have hk3:=hbm.1
   have hk4:=hbm.2.1
   rw[hT]at hk3 hk4
   rw[gu,pV,n1,hNb,cond_false,hz,hmul,hT]
   simp only[Option.bind_some]
   rw[hyk,Int.sub_zero,aM (n:=(low x.2.2.toNat A B).2.2) (by omega) (by omega),Mr 0 0 0 _ _ 64 N _ (by omega) h0 (by omega) (by omega) nI hk3 (by omega)]
   obtain⟨ld1,ld2⟩:=adK hodd x.2.2.toNat (li 64 N).2 A B
   have hTb:=Ni (V:=4611686018427387904) x.2.2.toNat A B
   have hp1:(1:Int)<=2^x.2.2.toNat:=Int.pow_pos (by decide)
   have hrng:(-4611686018427387904<=(low x.2.2.toNat A B).1/\(low x.2.2.toNat A B).1<=4611686018427387904)/\(-4611686018427387904<=(low x.2.2.toNat A B).2.1/\(low x.2.2.toNat A B).2.1<=4611686018427387904):=by
    have hb:=hbm.pow_le (by have:=Int.mul_nonneg hV hM;omega)
    rw[hT]at hb
    omega
   simp only[Option.bind_some,qi,fV]
   rw[aW hm0,cond_false,aaX,aaX]
   by_cases hd:A%(li 64 N).1=0/\B%(li 64 N).1=0
   ·have hd2:=ld1.2 hd
    obtain⟨q1,q1'⟩:=TI hm0 hd2.1 hrng.1.1 hrng.1.2
    obtain⟨q2,q2'⟩:=TI hm0 hd2.2 hrng.2.1 hrng.2.2
    rw[aW (fun e=>e hd2.1),aW (fun e=>e hd2.2),if_pos hd]
    simp only[cond_false]
    rw[aW (show¬((low x.2.2.toNat A B).2.2+((li 64 N).2:Int)<0) by omega),cond_false,q1,q2,OI (by omega) (by omega) q1' q2']
    simp only[Option.bind_some]
    rw[show((low x.2.2.toNat A B).2.2+((li 64 N).2:Int)).toNat=(low x.2.2.toNat A B).2.2.toNat+(li 64 N).2 by omega,ld2 hd]
   ·rw[if_neg hd]
    by_cases hd1:(low x.2.2.toNat A B).1%(li 64 N).1=0
    ·have hd3:(low x.2.2.toNat A B).2.1%(li 64 N).1≠0:=fun e=>hd (ld1.1 ⟨hd1,e⟩)
     rw[aW (fun e=>e hd1),aR hd3];rfl
    ·rw[aR hd1];rfl
end Go.Proofs.YtjkljnflaifbhaaGreatDoor
