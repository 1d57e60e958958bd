/- No conditions. -/
import Derived.Test.YtjkljnflaifbhaaGreatDoorPK
import Derived.Test.YtjkljnflaifbhaaGreatDoorAL1
import Derived.Test.YtjkljnflaifbhaaGreatDoorZ2d
namespace Go.Proofs.YtjkljnflaifbhaaGreatDoor
open Go.Vai
def Hm(a:Int):Prop:= -9223372036854775808<=a/\a<=9223372036854775807
theorem wI{a:Int}(h:Hm a):IntKind.wrap .i64 a=a:=aM h.1 h.2
theorem We(a:Int):(Int.tmod a 2==0)=decide (a%2=0):=by
 rw[show(Int.tmod a 2==0)=decide (Int.tmod a 2=0) by rfl]
 congr 1
 apply propext
 rw[Int.tmod_eq_emod]
 split<;>omega
theorem abU(a:Int):(Int.tmod a 2 !=0)=decide (a%2≠0):=by
 rw[bne,We]
 by_cases h:a%2=0<;>simp[h]
theorem T4{a:Int}(h:a%2=0):Int.tdiv a 2=a/2:=by
 rw[Int.tdiv_eq_ediv]
 split<;>omega
theorem Ug(a:Int)(m:Nat)(hm:m<18446744073709551616):(BitVec.toNat ((BitVec.ofInt 64 a)&&&(BitVec.ofInt 64 (m:Int))))=(a%18446744073709551616).toNat&&&m:=by
 rw[BitVec.toNat_and]
 congr 1
 rw[BitVec.toNat_ofInt]
 omega
theorem aac(a:Int):IntKind.wrap IntKind.i64 (((BitVec.toNat ((BitVec.ofInt 64 a)&&&(BitVec.ofInt 64 (1:Int)))):Nat):Int)=a%2:=by
 have:=Ug a 1 (by omega)
 rw[show((1:Nat):Int)=1 from rfl]at this
 rw[this,Nat.and_one_is_mod,aM (by omega) (by omega)]
 omega
theorem acH(a:Int):IntKind.wrap IntKind.i64 (((BitVec.toNat ((BitVec.ofInt 64 a)&&&(BitVec.ofInt 64 (7:Int)))):Nat):Int)=a%8:=by
 have:=Ug a 7 (by omega)
 rw[show((7:Nat):Int)=7 from rfl]at this
 rw[this,show(7:Nat)=2^3-1 from rfl,Nat.and_two_pow_sub_one_eq_mod,aM (by omega) (by omega)]
 omega
theorem Rz:∀k,low k 0 0=(0,(0,0))
 |0=>rfl
 |k+1=>by rw[low,if_pos ⟨rfl,rfl⟩];exact Rz k
theorem MY(p q r:Int):∀(k:Nat) (a b:Int),k<=1000->Hm a->Hm b->
 mQ (rx a b (k:Int) p q r)=some (.inl (sA (low k a b).1 (low k a b).2.1 (low k a b).2.2 p q r))
 |0,a,b,hk,ha,hb=>by
  rw[FS,mN,aW (by omega),cond_false];rfl
 |k+1,a,b,hk,ha,hb=>by
  have h1:=ha.1;have h2:=ha.2;have h3:=hb.1;have h4:=hb.2
  rw[FS,mN,aT (by omega),cond_true,We,We,low]
  by_cases h:a%2=0
  ·rw[aT h,cond_true]
   by_cases h':b%2=0
   ·rw[aT h',cond_true,if_pos ⟨h,h'⟩,T4 h,T4 h',aM (n:=a/2) (by omega) (by omega),aM (n:=b/2) (by omega) (by omega),aM (by omega) (by omega),
     show((k+1:Nat):Int)-1=(k:Int) by omega]
    exact MY p q r k _ _ (by omega) ⟨by omega,by omega⟩ ⟨by omega,by omega⟩
   ·rw[aW h',cond_false,if_neg (fun e=>h' e.2)];rfl
  ·rw[aW h,cond_false,if_neg (fun e=>h e.1)];rfl
theorem I3{a b k:Int}(hk:0<=k)(hk':k<=1000)(ha:Hm a)(hb:Hm b):gO (a,(b,k))=some (low k.toNat a b):=by
 have hw:=MY 0 0 0 k.toNat a b (by omega) ha hb
 rw[Int.toNat_of_nonneg hk]at hw
 rw[gO,vC]
 simp only
 rw[hw]
 rw[show(a==0)=decide (a=0) by rfl,show(b==0)=decide (b=0) by rfl]
 by_cases h:a=0
 ·by_cases h':b=0
  ·subst h;subst h';rw[Rz];rfl
  ·rw[aT h,aW h'];rfl
 ·rw[aW h];rfl
theorem Gc(p q r:Int):∀(k:Nat) (a b:Int),k<=1000->Hm a->Hm b->
 jH (jD a b (k:Int) p q r)=some (.inl (ng (low k a b).1 (low k a b).2.1 (low k a b).2.2 p q r))
 |0,a,b,hk,ha,hb=>by
  rw[yg,gK,aW (by omega),cond_false];rfl
 |k+1,a,b,hk,ha,hb=>by
  have h1:=ha.1;have h2:=ha.2;have h3:=hb.1;have h4:=hb.2
  rw[yg,gK,aT (by omega),cond_true,aac,aac,low]
  rw[show(a%2==0)=decide (a%2=0) by rfl,show(b%2==0)=decide (b%2=0) by rfl]
  by_cases h:a%2=0
  ·rw[aT h,cond_true]
   by_cases h':b%2=0
   ·rw[aT h',cond_true,if_pos ⟨h,h'⟩,T4 h,T4 h',aM (n:=a/2) (by omega) (by omega),aM (n:=b/2) (by omega) (by omega),aM (n:=((k+1:Nat):Int)-1) (by omega) (by omega),
     show((k+1:Nat):Int)-1=(k:Int) by omega]
    have IH:=Gc p q r k (a/2) (b/2) (by omega) ⟨by omega,by omega⟩ ⟨by omega,by omega⟩
    rw[show(a/2==0)=decide (a/2=0) by rfl,show(b/2==0)=decide (b/2=0) by rfl]
    by_cases e:a/2=0
    ·by_cases e':b/2=0
     ·rw[aT e,aT e',cond_true,cond_true,e,e',Rz]
      have I0:=Gc p q r 0 0 0 (by omega) ⟨by omega,by omega⟩ ⟨by omega,by omega⟩
      exact I0
     ·rw[aT e,aW e',cond_true,cond_false];exact IH
    ·rw[aW e,cond_false];exact IH
   ·rw[aW h',cond_false,if_neg (fun e=>h' e.2)];rfl
  ·rw[aW h,cond_false,if_neg (fun e=>h e.1)];rfl
theorem LT{a b k:Int}(hk:0<=k)(hk':k<=1000)(ha:Hm a)(hb:Hm b):dk (a,(b,k))=some (low k.toNat a b):=by
 have hw:=Gc 0 0 0 k.toNat a b (by omega) ha hb
 rw[Int.toNat_of_nonneg hk]at hw
 rw[dk,oe]
 simp only
 rw[hw]
 rfl
theorem NI{V V':Int}{κ κ':Nat}{x y:Nm}(hx:Bd V κ x)(hy:Bd V' κ' y)(hV:0<=V)(h1:V*2^κ<=2305843009213693952)(h2:3*(V*V')*2^(κ+κ')<=4611686018427387904):
 (Hm (x.1*y.1)/\Hm (2*x.2.1)/\Hm (2*x.2.1*y.2.1)/\Hm (x.1*y.1+2*x.2.1*y.2.1))/\(Hm (x.1*y.2.1)/\Hm (x.2.1*y.1)/\Hm (x.1*y.2.1+x.2.1*y.1)):=by
 have bx:=hx.pow_le hV
 obtain⟨x1,x2,x3,x4⟩:=hx
 obtain⟨y1,y2,y3,y4⟩:=hy
 have hp:(0:Int)<=2^x.2.2.toNat:=Int.le_of_lt (Int.pow_pos (by decide))
 have aa:=kL hV hp x3.1 x3.2 y3.1 y3.2
 have bb:=kL hV hp x4.1 x4.2 y4.1 y4.2
 have ab:=kL hV hp x3.1 x3.2 y4.1 y4.2
 have ba:=kL hV hp x4.1 x4.2 y3.1 y3.2
 have hVV:0<=V*V'*(2^x.2.2.toNat*2^y.2.2.toNat):=by omega
 have hV':0<=V*V':=by
  have hq:(0:Int)<2^x.2.2.toNat*2^y.2.2.toNat:=Int.mul_pos (Int.pow_pos (by decide)) (Int.pow_pos (by decide))
  by_cases h:0<=V*V'
  ·exact h
  ·exfalso
   have:=Int.mul_neg_of_neg_of_pos (show V*V'<0 by omega) hq
   omega
 have hle:V*V'*(2^x.2.2.toNat*2^y.2.2.toNat)<=V*V'*2^(κ+κ'):=by
  rw[<-Int.pow_add]
  refine Int.mul_le_mul_of_nonneg_left ?_ hV'
  have:=Nat.pow_le_pow_right (show 0<2 by decide) (show x.2.2.toNat+y.2.2.toNat<=κ+κ' by omega)
  exact_mod_cast this
 have h3:3*(V*V'*2^(κ+κ'))<=4611686018427387904:=by rw[<-Int.mul_assoc];exact h2
 have e2:2*x.2.1*y.2.1=2*(x.2.1*y.2.1):=Int.mul_assoc ..
 rw[e2]
 unfold Hm
 refine⟨⟨⟨?_, ?_⟩,⟨?_, ?_⟩,⟨?_, ?_⟩,⟨?_, ?_⟩⟩,⟨⟨?_, ?_⟩,⟨?_, ?_⟩,⟨?_, ?_⟩⟩⟩<;>omega
theorem lP{V V':Int}{κ κ':Nat}{x y:Nm}(hx:Bd V κ x)(hy:Bd V' κ' y)(hV:0<=V)(hκ:κ+κ'<=1000)(h1:V*2^κ<=2305843009213693952)(h2:3*(V*V')*2^(κ+κ')<=4611686018427387904):
 cJ x y=some (sn x y)/\cF x y=some (sn x y):=by
 obtain⟨⟨f1,f2,f3,f4⟩,f5,f6,f7⟩:=NI hx hy hV h1 h2
 have hk1:=hx.1
 have hk2:=hx.2.1
 have hk3:=hy.1
 have hk4:=hy.2.1
 have hk:(x.2.2+y.2.2).toNat=x.2.2.toNat+y.2.2.toNat:=by omega
 constructor
 ·rw[cJ,vD]
  rw[wI f1,wI f2,wI f3,wI f4,wI f5,wI f6,wI f7,aM (n:=x.2.2+y.2.2) (by omega) (by omega),I3 (by omega) (by omega) f4 f7,hk]
  rfl
 ·rw[cF,qs]
  rw[wI f1,wI f2,wI f3,wI f4,wI f5,wI f6,wI f7,aM (n:=x.2.2+y.2.2) (by omega) (by omega),LT (by omega) (by omega) f4 f7,hk]
  rfl
theorem UV{a:Int}{n:Nat}(h1: -4611686018427387904<=a*2^(n+1))(h2:a*2^(n+1)<=4611686018427387904):Hm (a*2)/\(-4611686018427387904<=a*2*2^n/\a*2*2^n<=4611686018427387904):=by
 have e:a*2^(n+1)=a*2*2^n:=by rw[Int.pow_succ];grind
 rw[e]at h1 h2
 have hp:(1:Int)<=2^n:=Int.pow_pos (by decide)
 refine⟨⟨?_, ?_⟩,h1,h2⟩
 ·by_cases h:0<=a*2
  ·omega
  ·have:=Int.mul_le_mul_of_nonneg_left hp (show 0<= -(a*2) by omega)
   rw[Int.neg_mul,Int.neg_mul]at this
   omega
 ·by_cases h:0<=a*2
  ·have:=Int.mul_le_mul_of_nonneg_left hp h
   omega
  ·omega
theorem Ke(a' b' k' p q r:Int)(hk':k'<=1000):∀(n:Nat) (a b k:Int),0<=k->n=(k'-k).toNat->(-4611686018427387904<=a*2^n/\a*2^n<=4611686018427387904)->(-4611686018427387904<=b*2^n/\b*2^n<=4611686018427387904)->
 oS (vT a b k a' b' k' p q r)=some (.inl (Dw (a*2^n) (b*2^n) (k+n) a' b' k' p q r))
 |0,a,b,k,hk,hn,ha,hb=>by
  rw[FQ,mL,aW (by omega),cond_false]
  simp;rfl
 |n+1,a,b,k,hk,hn,ha,hb=>by
  obtain⟨ia,ha'⟩:=UV ha.1 ha.2
  obtain⟨ib,hb'⟩:=UV hb.1 hb.2
  rw[FQ,mL,aT (by omega),cond_true,wI ia,wI ib,aM (n:=k+1) (by omega) (by omega)]
  refine(Ke a' b' k' p q r hk' n (a*2) (b*2) (k+1) (by omega) (by omega) ha' hb').trans ?_
  rw[show a*2*2^n=a*2^(n+1) by rw[Int.pow_succ];grind,show b*2*2^n=b*2^(n+1) by rw[Int.pow_succ];grind,show k+1+(n:Int)=k+((n+1:Nat):Int) by omega]
theorem Kf(a' b' k' p q r:Int)(hk':k'<=1000):∀(n:Nat) (a b k:Int),0<=k->n=(k'-k).toNat->(-4611686018427387904<=a*2^n/\a*2^n<=4611686018427387904)->(-4611686018427387904<=b*2^n/\b*2^n<=4611686018427387904)->
 oT (vU a' b' k' a b k p q r)=some (.inl (Dx a' b' k' (a*2^n) (b*2^n) (k+n) p q r))
 |0,a,b,k,hk,hn,ha,hb=>by
  rw[FR,mM,aW (by omega),cond_false]
  simp;rfl
 |n+1,a,b,k,hk,hn,ha,hb=>by
  obtain⟨ia,ha'⟩:=UV ha.1 ha.2
  obtain⟨ib,hb'⟩:=UV hb.1 hb.2
  rw[FR,mM,aT (by omega),cond_true,wI ia,wI ib,aM (n:=k+1) (by omega) (by omega)]
  refine(Kf a' b' k' p q r hk' n (a*2) (b*2) (k+1) (by omega) (by omega) ha' hb').trans ?_
  rw[show a*2*2^n=a*2^(n+1) by rw[Int.pow_succ];grind,show b*2*2^n=b*2^(n+1) by rw[Int.pow_succ];grind,show k+1+(n:Int)=k+((n+1:Nat):Int) by omega]
theorem ux{V V':Int}{κ κ':Nat}{x y:Nm}(hx:Bd V κ x)(hy:Bd V' κ' y)(hV:0<=V)(hV':0<=V')(hκ:κ<=60)(hκ':κ'<=60)(h:(V+V')*2^(max κ κ')<=4611686018427387904):
 eH x y=some (jQ x y)/\ed x y=some (jQ x y):=by
 obtain⟨x1,x2,x3,x4⟩:=hx
 obtain⟨y1,y2,y3,y4⟩:=hy
 have hK:max x.2.2.toNat y.2.2.toNat<=max κ κ':=by omega
 have a1:=Pi (Nat.le_max_left x.2.2.toNat y.2.2.toNat) x3.1 x3.2
 have a2:=Pi (Nat.le_max_left x.2.2.toNat y.2.2.toNat) x4.1 x4.2
 have a3:=Pi (Nat.le_max_right x.2.2.toNat y.2.2.toNat) y3.1 y3.2
 have a4:=Pi (Nat.le_max_right x.2.2.toNat y.2.2.toNat) y4.1 y4.2
 have hp:(2:Int)^(max x.2.2.toNat y.2.2.toNat)<=2^(max κ κ'):=by
  have:=Nat.pow_le_pow_right (show 0<2 by decide) hK
  exact_mod_cast this
 have e1:=Int.mul_le_mul_of_nonneg_left hp hV
 have e2:=Int.mul_le_mul_of_nonneg_left hp hV'
 have e3:(V+V')*2^(max κ κ')=V*2^(max κ κ')+V'*2^(max κ κ'):=Int.add_mul ..
 have p1:0<=V*2^(max x.2.2.toNat y.2.2.toNat):=Int.mul_nonneg hV (Int.le_of_lt (Int.pow_pos (by decide)))
 have p2:0<=V'*2^(max x.2.2.toNat y.2.2.toNat):=Int.mul_nonneg hV' (Int.le_of_lt (Int.pow_pos (by decide)))
 have hm:((max x.2.2.toNat y.2.2.toNat:Nat):Int)=max x.2.2 y.2.2:=by omega
 have hkx:max x.2.2.toNat y.2.2.toNat-x.2.2.toNat=(y.2.2-x.2.2).toNat:=by omega
 have hky:max x.2.2.toNat y.2.2.toNat-y.2.2.toNat=(x.2.2-y.2.2).toNat:=by omega
 have i1:Hm (x.1*2^(max x.2.2.toNat y.2.2.toNat-x.2.2.toNat)+y.1*2^(max x.2.2.toNat y.2.2.toNat-y.2.2.toNat)):=⟨by omega,by omega⟩
 have i2:Hm (x.2.1*2^(max x.2.2.toNat y.2.2.toNat-x.2.2.toNat)+y.2.1*2^(max x.2.2.toNat y.2.2.toNat-y.2.2.toNat)):=⟨by omega,by omega⟩
 constructor
 ·rw[eH,vz]
  rw[Ke y.1 y.2.1 y.2.2 0 0 0 (by omega) (y.2.2-x.2.2).toNat x.1 x.2.1 x.2.2 x1 rfl (by rw[<-hkx];omega) (by rw[<-hkx];omega)]
  simp only[Option.bind_some,pD,gY,fV]
  rw[Kf _ _ _ 0 0 0 (by omega) (x.2.2-y.2.2).toNat y.1 y.2.1 y.2.2 y1 (by omega) (by rw[<-hky];omega) (by rw[<-hky];omega)]
  simp only[Option.bind_some,fV]
  rw[<-hkx,<-hky,wI i1,wI i2,I3 (by omega) (by omega) i1 i2]
  rw[show(x.2.2+((max x.2.2.toNat y.2.2.toNat-x.2.2.toNat:Nat):Int)).toNat=max x.2.2.toNat y.2.2.toNat by omega]
  rfl
 ·rw[ed,rC]
  have hM:(if y.2.2>x.2.2 then y.2.2 else x.2.2)=((max x.2.2.toNat y.2.2.toNat:Nat):Int):=by split<;>omega
  simp only[if_true,hM]
  have w1:IntKind.wrap IntKind.i64 (((max x.2.2.toNat y.2.2.toNat:Nat):Int)-x.2.2)=((max x.2.2.toNat y.2.2.toNat-x.2.2.toNat:Nat):Int):=by rw[aM (by omega) (by omega)];omega
  have w2:IntKind.wrap IntKind.i64 (((max x.2.2.toNat y.2.2.toNat:Nat):Int)-y.2.2)=((max x.2.2.toNat y.2.2.toNat-y.2.2.toNat:Nat):Int):=by rw[aM (by omega) (by omega)];omega
  rw[w1,w2,aW (by omega),aW (by omega),Int.toNat_natCast,Int.toNat_natCast]
  simp only[cond_false]
  rw[show min (max x.2.2.toNat y.2.2.toNat-x.2.2.toNat) 64=max x.2.2.toNat y.2.2.toNat-x.2.2.toNat by omega,show min (max x.2.2.toNat y.2.2.toNat-y.2.2.toNat) 64=max x.2.2.toNat y.2.2.toNat-y.2.2.toNat by omega]
  rw[aM (n:=x.1*_) (by omega) (by omega),aM (n:=y.1*_) (by omega) (by omega),aM (n:=x.2.1*_) (by omega) (by omega),aM (n:=y.2.1*_) (by omega) (by omega),wI i1,wI i2,LT (by omega) (by omega) i1 i2,Int.toNat_natCast]
  rfl
theorem abD{V:Int}{κ:Nat}{x:Nm}(hx:Bd V κ x)(hV:0<=V)(h:V*2^κ<=4611686018427387904):rV x=some (SY x)/\cj x=some (SY x):=by
 have:=hx.pow_le hV
 constructor
 ·rw[rV,vE,aM (n:=0-x.1) (by omega) (by omega),aM (n:=0-x.2.1) (by omega) (by omega),Int.zero_sub,Int.zero_sub];rfl
 ·rw[cj,tq,aM (n:=0-x.1) (by omega) (by omega),aM (n:=0-x.2.1) (by omega) (by omega),Int.zero_sub,Int.zero_sub];rfl
theorem ri{V V':Int}{κ κ':Nat}{x y:Nm}(hx:Bd V κ x)(hy:Bd V' κ' y)(hV:0<=V)(hV':0<=V')(hκ:κ<=60)(hκ':κ'<=60)(h:(V+V')*2^(max κ κ')<=4611686018427387904):
 di x y=some (qM x y)/\cq x y=some (qM x y):=by
 have h':V'*2^κ'<=4611686018427387904:=by
  have hp:(2:Int)^κ'<=2^(max κ κ'):=by
   have:=Nat.pow_le_pow_right (show 0<2 by decide) (Nat.le_max_right κ κ')
   exact_mod_cast this
  have e2:=Int.mul_le_mul_of_nonneg_left hp hV'
  have e3:(V+V')*2^(max κ κ')=V*2^(max κ κ')+V'*2^(max κ κ'):=Int.add_mul ..
  have p1:0<=V*2^(max κ κ'):=Int.mul_nonneg hV (Int.le_of_lt (Int.pow_pos (by decide)))
  omega
 have hn:=abD hy hV' h'
 have ha:=ux hx (Xy hy) hV hV' hκ hκ' h
 constructor
 ·rw[di,vF,hn.1,Option.bind_some,ha.1];rfl
 ·rw[cq,qr,hn.2,Option.bind_some,ha.2];rfl
def Aa(x:Nm):Bool:=(decide (-131072<=x.1)&&decide (x.1<=131072))&&((decide (-131072<=x.2.1)&&decide (x.2.1<=131072))&&((decide (0<=x.2.2)&&decide (x.2.2<=10))&&(decide (x.2.2=0)||(decide (x.1%2≠0)||decide (x.2.1%2≠0)))))
theorem gz(x a b:Int):cH x a b=some (decide (a<=x)&&decide (x<=b)):=by
 unfold cH xJ
 rw[show decide (x>=a)=decide (a<=x)from rfl]
 cases decide (a<=x)<;>simp
theorem oB(x a b:Int):bX x a b=some (decide (a<=x)&&decide (x<=b)):=by
 unfold bX sc
 rw[show decide (x>=a)=decide (a<=x)from rfl]
 cases decide (a<=x)<;>simp
theorem IG(x:Nm):nh x=some (Aa x):=by
 unfold nh xK Aa
 simp only[gz,Option.bind_some,abU]
 rw[show(x.2.2==0)=decide (x.2.2=0)from rfl]
 cases(decide (-131072<=x.1)&&decide (x.1<=131072))<;>cases(decide (-131072<=x.2.1)&&decide (x.2.1<=131072))<;>cases(decide (0<=x.2.2)&&decide (x.2.2<=10))<;>cases decide (x.2.2=0)<;>cases decide (x.1%2≠0)<;>simp
theorem aax(a:Int):(a%2==1)=decide (a%2≠0):=by
 rw[show(a%2==1)=decide (a%2=1)from rfl]
 congr 1
 apply propext
 omega
theorem HF(x:Nm):fd x=some (Aa x):=by
 unfold fd rE Aa
 simp only[oB,Option.bind_some,aac,aax]
 rw[show(x.2.2==0)=decide (x.2.2=0)from rfl]
 cases(decide (-131072<=x.1)&&decide (x.1<=131072))<;>cases(decide (-131072<=x.2.1)&&decide (x.2.1<=131072))<;>cases(decide (0<=x.2.2)&&decide (x.2.2<=10))<;>cases decide (x.2.2=0)<;>cases decide (x.1%2≠0)<;>simp
def lY(l:Ln):Bool:=(decide (0<=l.1)&&decide (l.1<=7))&&Aa l.2
def ny(p:Pt):Bool:=Aa p.1&&Aa p.2
theorem RZ{x:Nm}(h:Aa x=true):Bd 131072 10 x:=by
 simp only[Aa,Bool.and_eq_true,decide_eq_true_eq]at h
 obtain⟨⟨h1,h2⟩,⟨h3,h4⟩,⟨h5,h6⟩,_⟩:=h
 have:(1:Int)<=2^x.2.2.toNat:=Int.pow_pos (by decide)
 exact⟨h5,by omega,by omega,by omega⟩
theorem aay{x:Nm}(h:Aa x=true):x.can:=by
 simp only[Aa,Bool.and_eq_true,Bool.or_eq_true,decide_eq_true_eq]at h
 obtain⟨_,_,⟨h5,h6⟩,h7⟩:=h
 exact⟨h5,h7⟩
def acN:List Pt:=[((1,(0,0)),(0,(0,0))),((1,(0,0)),(-1,(1,0))),((1,(0,0)),(1,(0,0))),((-1,(1,0)),(1,(0,0))),((0,(0,0)),(1,(0,0))),((1,(-1,0)),(1,(0,0))),((-1,(0,0)),(1,(0,0))),((-1,(0,0)),(-1,(1,0))),
 ((-1,(0,0)),(0,(0,0))),((-1,(0,0)),(1,(-1,0))),((-1,(0,0)),(-1,(0,0))),((1,(-1,0)),(-1,(0,0))),((0,(0,0)),(-1,(0,0))),((-1,(1,0)),(-1,(0,0))),((1,(0,0)),(-1,(0,0))),((1,(0,0)),(1,(-1,0)))]
def fo(d:Int):Pt:=acN.getD d.toNat ((0,(0,0)),(0,(0,0)))
theorem QI{d:Int}(h0:0<=d)(h1:d<16):d=0\/d=1\/d=2\/d=3\/d=4\/d=5\/d=6\/d=7\/d=8\/d=9\/d=10\/d=11\/d=12\/d=13\/d=14\/d=15:=by omega
theorem uJ{d:Int}(h0:0<=d)(h1:d<16):eJ d=some (fo d)/\pH d=some (fo d):=by
 rcases QI h0 h1 with rfl|rfl|rfl|rfl|rfl|rfl|rfl|rfl|rfl|rfl|rfl|rfl|rfl|rfl|rfl|rfl<;>exact⟨by kernel_rfl,by kernel_rfl⟩
theorem gv{d:Int}(h0:0<=d)(h1:d<16):Bd 1 0 (fo d).1/\Bd 1 0 (fo d).2:=by
 rcases QI h0 h1 with rfl|rfl|rfl|rfl|rfl|rfl|rfl|rfl|rfl|rfl|rfl|rfl|rfl|rfl|rfl|rfl<;>(unfold Bd;decide)
theorem WY(d:Int)(_h0: -1000<=d)(_h1:d<=1000):pK d=some (d%16):=by
 unfold pK vG
 have h2: -16<Int.tmod d 16:=by rw[Int.tmod_eq_emod];split<;>omega
 have h3:Int.tmod d 16<16:=Int.tmod_lt_of_pos d (by decide)
 rw[aM (by omega) (by omega),Int.tmod_eq_emod_of_nonneg (by omega)]
 have:Int.tmod d 16%16=d%16:=by
  rw[Int.tmod_eq_emod]
  split<;>omega
 congr 1
 omega
def oG(v p:Pt):Nm:=jQ (sn v.1 p.1) (sn v.2 p.2)
theorem qT{V V':Int}{κ κ':Nat}{v p:Pt}(hV:0<=V)(hv:Bd V κ v.1/\Bd V κ v.2)(hp:Bd V' κ' p.1/\Bd V' κ' p.2):Bd (3*(V*V')+3*(V*V')) (κ+κ') (oG v p):=by
 have:=lG (eY hV hv.1 hp.1) (eY hV hv.2 hp.2)
 rw[Nat.max_self]at this
 exact this
theorem Ak{V:Int}{κ:Nat}{d:Int}{p:Pt}(h0:0<=d)(h1:d<16)(hV:0<=V)(hκ:κ<=60)(hp:Bd V κ p.1/\Bd V κ p.2)(h:6*V*2^κ<=4611686018427387904):
 dc d p=some (oG (fo d) p)/\cG (fo d) p=some (oG (fo d) p):=by
 obtain⟨hv1,hv2⟩:=gv h0 h1
 have hpw:0<=V*2^κ:=Int.mul_nonneg hV (Int.le_of_lt (Int.pow_pos (by decide)))
 have e:6*V*2^κ=6*(V*2^κ):=Int.mul_assoc ..
 have k3:3*(1*V)*2^(0+κ)<=4611686018427387904:=by
  rw[Nat.zero_add,Int.one_mul,Int.mul_assoc];omega
 have m1:=lP hv1 hp.1 (by decide) (by omega) (by decide) k3
 have m2:=lP hv2 hp.2 (by decide) (by omega) (by decide) k3
 have b1:=eY (V:=1) (by decide) hv1 hp.1
 have b2:=eY (V:=1) (by decide) hv2 hp.2
 have a:=ux b1 b2 (by omega) (by omega) (by omega) (by omega) (by
  rw[Nat.max_self,Nat.zero_add]
  have:(3*(1*V)+3*(1*V))*2^κ=6*(V*2^κ):=by grind
  omega)
 obtain⟨v1,v2⟩:=uJ h0 h1
 constructor
 ·rw[dc,pN,v1]
  simp only[Option.bind_some,bj,dH,bY,cV]
  rw[m1.1,m2.1]
  simp only[Option.bind_some]
  rw[a.1];rfl
 ·rw[cG,qt,m1.2,m2.2]
  simp only[Option.bind_some]
  rw[a.2];rfl
def Ah(p:Pt)(d:Int):Ln:=(d,oG (fo (d+4)) p)
theorem yr{V:Int}{κ:Nat}{d:Int}{p:Pt}(h0:0<=d)(h1:d<8)(hV:0<=V)(hκ:κ<=60)(hp:Bd V κ p.1/\Bd V κ p.2)(h:6*V*2^κ<=4611686018427387904):
 fX p d=some (Ah p d):=by
 rw[fX,vj,ca,dF]
 simp only
 rw[aM (n:=d+4) (by omega) (by omega),(uJ (d:=d+4) (by omega) (by omega)).2]
 simp only[Option.bind_some]
 rw[(Ak (by omega) (by omega) hV hκ hp h).2];rfl
theorem SC(x:Nm):qU x=some x:=rfl
theorem Ry{x:Nm}(h:x.can):low x.2.2.toNat x.1 x.2.1=x:=by
 have hk:=h.1
 cases hn:x.2.2.toNat with
 |zero=>
  rw[low]
  have:x.2.2=0:=by omega
  exact Prod.ext rfl (Prod.ext rfl this.symm)
 |succ n=>
  rw[low,if_neg]
  ·exact Prod.ext rfl (Prod.ext rfl (by show((n+1:Nat):Int)=x.2.2;omega))
  ·rintro ⟨h1,h2⟩
   rcases h.2 with h|h|h
   ·omega
   ·exact h h1
   ·exact h h2
theorem W2{x:Nm}(hc:x.can)(hk:x.2.2<=1000)(ha:Hm x.1)(hb:Hm x.2.1):eI x=some (cond (Aa x) (x,true) ((0,(0,0)),false)):=by
 rw[eI,pM]
 have:=I3 (a:=x.1) (b:=x.2.1) hc.1 hk ha hb
 rw[Ry hc]at this
 have this:gO x=some x:=this
 rw[this]
 simp only[Option.bind_some,IG]
 cases Aa x<;>rfl
def S4(l:Ln):Ln×Int:=cond (Aa l.2) (l,0) ((0,(0,(0,0))),2)
theorem fk(p:Pt):be p=some (ny p):=by
 unfold be rL ny
 simp only[Option.bind_some,IG]
 cases Aa p.1<;>simp
theorem fD(p:Pt):aG p=some (ny p):=by
 unfold aG pv ny
 simp only[Option.bind_some,HF]
 cases Aa p.1<;>simp
theorem iQ{p:Pt}(h:ny p=true):Bd 131072 10 p.1/\Bd 131072 10 p.2:=by
 simp only[ny,Bool.and_eq_true]at h
 exact⟨RZ h.1,RZ h.2⟩
theorem XB{l:Ln}(h:lY l=true):0<=l.1/\l.1<=7:=by
 simp only[lY,Bool.and_eq_true,decide_eq_true_eq]at h
 exact h.1
theorem BY{V:Int}{κ:Nat}{x:Nm}(h:Bd V κ x)(hV:0<=V)(hb:V*2^κ<=4611686018427387904):Hm x.1/\Hm x.2.1:=by
 have:=h.pow_le hV
 exact⟨⟨by omega,by omega⟩,⟨by omega,by omega⟩⟩
theorem Kr(x:Nm):lJ x x=some true:=by
 rw[lJ,uq]
 simp
theorem OS(l:Ln):pI l l=some true:=by
 rw[pI,vp,Kr]
 simp
theorem SD(p:Pt):nO p=some p:=by
 rw[nO,tx,SC,SC];rfl
theorem EN{d:Int}(h0:0<=d)(h1:d<16):oG (fo d) (fo d)=(1,(0,0))\/oG (fo d) (fo d)=(4,(-2,0))\/oG (fo d) (fo d)=(2,(0,0)):=by
 rcases QI h0 h1 with rfl|rfl|rfl|rfl|rfl|rfl|rfl|rfl|rfl|rfl|rfl|rfl|rfl|rfl|rfl|rfl<;>decide
def UZ(d:Int):Nm:=oG (fo d) (fo d)
theorem EM{d:Int}(h0:0<=d)(h1:d<16):Bd 4 0 (UZ d):=by
 unfold UZ
 rcases EN h0 h1 with h|h|h<;>rw[h]<;>(unfold Bd;decide)
def sqT(d:Int):Nat:=(kv 64 ((UZ d).1*(UZ d).1-2*(UZ d).2.1*(UZ d).2.1)).2
theorem XE{d:Int}(h0:0<=d)(h1:d<16)(x:Nm):I6 x (UZ d)=(Hw (sqT d) x (UZ d),true):=by
 have h:=EN h0 h1
 have hs:UZ d=oG (fo d) (fo d):=rfl
 rw[<-hs]at h
 refine Y5 ?_ ?_
 ·unfold sqT
  rcases h with h|h|h<;>rw[h]<;>decide
 ·rcases h with h|h|h<;>rw[h]<;>decide
theorem Sy{d:Int}(h0:0<=d)(h1:d<16):sqT d<=3:=by
 have h:=EN h0 h1
 have hs:UZ d=oG (fo d) (fo d):=rfl
 rw[<-hs]at h
 unfold sqT
 rcases h with h|h|h<;>rw[h]<;>decide
theorem WS{d:Int}(h0:0<=d)(h1:d<16):cG (fo d) (fo d)=some (UZ d):=
 (Ak h0 h1 (by decide) (by decide) (gv h0 h1) (by decide)).2
def SB(v:Pt)(x:Nm):Pt:=(sn v.1 x,sn v.2 x)
def TN(p q:Pt):Pt:=(jQ p.1 q.1,jQ p.2 q.2)
theorem OA{V V':Int}{κ κ':Nat}{v:Pt}{x:Nm}(hV:0<=V)(hv:Bd V κ v.1/\Bd V κ v.2)(hx:Bd V' κ' x):Bd (3*(V*V')) (κ+κ') (SB v x).1/\Bd (3*(V*V')) (κ+κ') (SB v x).2:=
 ⟨eY hV hv.1 hx,eY hV hv.2 hx⟩
theorem ZC{V V':Int}{κ κ':Nat}{p q:Pt}(hp:Bd V κ p.1/\Bd V κ p.2)(hq:Bd V' κ' q.1/\Bd V' κ' q.2):Bd (V+V') (max κ κ') (TN p q).1/\Bd (V+V') (max κ κ') (TN p q).2:=
 ⟨lG hp.1 hq.1,lG hp.2 hq.2⟩
theorem QL(x:Nm):fT x=some (decide (x.1=0/\x.2.1=0)):=by
 rw[fT,tF,show(x.1==0)=decide (x.1=0)from rfl,show(x.2.1==0)=decide (x.2.1=0)from rfl]
 by_cases h:x.1=0
 ·rw[aT h,cond_true]
  congr 1
  by_cases h':x.2.1=0
  ·rw[aT h',aT ⟨h,h'⟩]
  ·rw[aW h',aW (fun e=>h' e.2)]
 ·rw[aW h,cond_false,aW (fun e=>h e.1)]
theorem RY{x:Nm}(hc:x.can):((x.1==0)&&((x.2.1==0)&&((x.2.2==0)&&true)))=decide (x.1=0/\x.2.1=0):=by
 rw[Bool.eq_iff_iff]
 simp only[Bool.and_eq_true,beq_iff_eq,Bool.and_true,decide_eq_true_eq]
 constructor
 ·exact fun h=>⟨h.1,h.2.1⟩
 ·rintro ⟨h1,h2⟩
  refine⟨h1,h2, ?_⟩
  rcases hc.2 with h|h|h
  ·exact h
  ·rw[h1]at h;exact absurd rfl h
  ·rw[h2]at h;exact absurd rfl h
theorem Db{A:Type}{c:Bool}{x y:Option A}(h:∃r,x=some r)(h':∃r,y=some r):∃r,cond c x y=some r:=by
 cases c
 ·exact h'
 ·exact h
theorem IE(a:Int):∃r,ie a=some r:=by
 unfold ie nB
 exact Db (Db ⟨_,rfl⟩ ⟨_,rfl⟩) (Db ⟨_,rfl⟩ ⟨_,rfl⟩)
theorem UY(a b:Int):∃r,dn a b=some r:=by
 obtain⟨r,hr⟩:=IE a
 obtain⟨s,hs⟩:=IE b
 unfold dn qH
 rw[hr,hs]
 exact Db ⟨_,rfl⟩ (Db ⟨_,rfl⟩ ⟨_,rfl⟩)
def sgS(r:Bool)(a b:Int):Int:=
 if a=0/\b=0 then 0 else if 0<=a/\0<=b then 1 else if a<=0/\b<=0 then -1 else if r=decide (b>0)then 1 else -1
theorem Pk{x:Nm}{r:Bool}(h:dn x.1 x.2.1=some r):ff x=some (sgS r x.1 x.2.1):=by
 unfold ff tA sgS
 simp only[h,Option.bind_some]
 rw[show(x.1==0)=decide (x.1=0)from rfl,show(x.2.1==0)=decide (x.2.1=0)from rfl,show(r==decide (x.2.1>0))=decide (r=decide (x.2.1>0))from rfl]
 generalize x.1=a
 generalize x.2.1=b
 by_cases h1:a=0<;>by_cases h2:b=0<;>by_cases h3:0<=a<;>by_cases h4:0<=b<;>by_cases h5:a<=0<;>by_cases h6:b<=0<;>first
  |omega
  |(by_cases h7:r=decide (b>0)<;>simp[h1,h2,h3,h4,h5,h6,h7])
def Pj(a:Int):Int:=if a>0 then 1 else if a<0 then -1 else 0
theorem WR(a:Int):pG a=some (Pj a):=by
 unfold pG vk Pj
 congr 1
 simp only[if_true,Bool.false_eq_true,if_false]
 repeat' split
 all_goals omega
theorem Pz(a b:Int):∃r,ic a b=some r:=by
 unfold ic nA pE yD gn mq
 simp only[Option.bind_some]
 exact Db ⟨_,rfl⟩ (Db ⟨_,rfl⟩ ⟨_,rfl⟩)
def sgI(r:Bool)(a b:Int):Int:=
 if Pj a=Pj b then Pj a else if Pj b=0 then Pj a else if Pj a=0 then Pj b else if r=true then Pj a else Pj b
theorem OU{x:Nm}{r:Bool}(h:ic x.1 x.2.1=some r):ee x=some (sgI r x.1 x.2.1):=by
 unfold ee rD sgI
 simp only[h,WR,Option.bind_some]
 rw[show(Pj x.1==Pj x.2.1)=decide (Pj x.1=Pj x.2.1)from rfl,show(Pj x.2.1==0)=decide (Pj x.2.1=0)from rfl,show(Pj x.1==0)=decide (Pj x.1=0)from rfl]
 by_cases h1:Pj x.1=Pj x.2.1
 ·simp[h1]
 ·by_cases h2:Pj x.2.1=0
  ·simp[h2]
  ·by_cases h3:Pj x.1=0
   ·rw[aW h1,aW h2,aT h3,cond_false,cond_false,cond_true,if_neg h1,if_neg h2,if_pos h3]
   ·cases r<;>simp[h1,h2,h3]
theorem Ta(x:Nm):∃s,ff x=some s/\(s=0↔(x.1=0/\x.2.1=0)):=by
 obtain⟨r,hr⟩:=UY x.1 x.2.1
 refine⟨_,Pk hr, ?_⟩
 unfold sgS
 repeat' split
 all_goals(constructor<;>intro h<;>omega)
theorem CX{a:Int}:Pj a=0↔a=0:=by unfold Pj;repeat' split
                                 all_goals omega
theorem SS(x:Nm):∃s,ee x=some s/\(s=0↔(x.1=0/\x.2.1=0)):=by
 obtain⟨r,hr⟩:=Pz x.1 x.2.1
 refine⟨_,OU hr, ?_⟩
 unfold sgI
 repeat' split
 ·rename_i h;rw[CX];constructor
  ·intro e;exact⟨e,by rw[<-CX,<-h,CX];exact e⟩
  ·exact fun e=>e.1
 ·rename_i h;rw[CX]at h⊢;exact⟨fun e=>⟨e,h⟩,fun e=>e.1⟩
 ·rename_i h;rw[CX]at h⊢;exact⟨fun e=>⟨h,e⟩,fun e=>e.2⟩
 ·rename_i h _;rw[CX]at h⊢;exact⟨fun e=>absurd e h,fun e=>absurd e.1 h⟩
 ·rename_i h _ _;rw[CX]at h⊢;exact⟨fun e=>absurd e h,fun e=>absurd e.2 h⟩
theorem wU{n:Int}(h0:0<=n)(h1:n<18446744073709551616):IntKind.wrap .u64 n=n:=by
 simp only[IntKind.wrap,IntKind.bits,IntKind.signed]
 have:n%(2^64:Int)=n:=by omega
 simp only[this]
 simp
theorem Xg{u:Int}(h0:0<=u)(h1:u<4294967296):IntKind.wrap .u64 (((BitVec.toNat ((BitVec.ofInt 64 u)&&&(BitVec.ofInt 64 (4294967295:Int)))):Nat):Int)=u:=by
 have:=Ug u 4294967295 (by omega)
 rw[show((4294967295:Nat):Int)=4294967295 from rfl]at this
 rw[this,show(4294967295:Nat)=2^32-1 from rfl,Nat.and_two_pow_sub_one_eq_mod,wU (by omega) (by omega)]
 omega
theorem WN{u:Int}(h0:0<=u)(h1:u<4294967296):Int.fdiv u ((2:Int)^(Min.min (Int.toNat (32:Int)) 64))=0:=by
 rw[show((2:Int)^(Min.min (Int.toNat (32:Int)) 64))=4294967296 from rfl,Int.fdiv_eq_ediv_of_nonneg _ (by decide)]
 omega
theorem sqb{a:Int}(h0: -2147483647<=a)(h1:a<=2147483647):0<=a*a/\a*a<=4611686014132420609:=by
 have:=kL (a:=a) (b:=a) (V:=2147483647) (V':=2147483647) (p:=1) (q:=1) (by decide) (by decide) (by omega) (by omega) (by omega) (by omega)
 refine⟨?_,by omega⟩
 by_cases h:0<=a
 ·exact Int.mul_nonneg h h
 ·have:=Int.mul_nonneg (show 0<= -a by omega) (show 0<= -a by omega)
  rw[Int.neg_mul_neg]at this
  exact this
theorem Kh{a:Int}(h0: -2147483647<=a)(h1:a<=2147483647):ie a=some (0,a*a):=by
 have hs:=sqb h0 h1
 unfold ie nB
 by_cases h:a<0
 ·have eu:IntKind.wrap .u64 (IntKind.wrap .i64 (0-a))= -a:=by rw[aM (by omega) (by omega),wU (by omega) (by omega)];omega
  have hs': -a* -a=a*a:=Int.neg_mul_neg a a
  rw[aT h,cond_true,eu,Xg (by omega) (by omega),WN (by omega) (by omega)]
  simp only[Int.mul_zero,hs']
  rw[wU hs.1 (by omega),wU (n:=0) (by decide) (by decide),WN (by decide) (by decide),Int.zero_mul,wU (n:=0) (by decide) (by decide),Int.add_zero,wU hs.1 (by omega),aW (by omega),cond_false]
  rfl
 ·have eu:IntKind.wrap .u64 a=a:=wU (by omega) (by omega)
  rw[aW h,cond_false,eu,Xg (by omega) (by omega),WN (by omega) (by omega)]
  simp only[Int.mul_zero]
  rw[wU hs.1 (by omega),wU (n:=0) (by decide) (by decide),WN (by decide) (by decide),Int.zero_mul,wU (n:=0) (by decide) (by decide),Int.add_zero,wU hs.1 (by omega),aW (by omega),cond_false]
  rfl
theorem acd{u:Int}(h0:0<=u)(h1:u<=4611686014132420609):Int.fdiv u ((2:Int)^(Min.min (Int.toNat (63:Int)) 64))=0:=by
 rw[show((2:Int)^(Min.min (Int.toNat (63:Int)) 64))=9223372036854775808 from rfl,Int.fdiv_eq_ediv_of_nonneg _ (by decide)]
 omega
theorem V2{a b:Int}(h0: -2147483647<=a)(h1:a<=2147483647)(h2: -2147483647<=b)(h3:b<=2147483647):dn a b=some (decide (a*a<2*(b*b))):=by
 have ha:=sqb h0 h1
 have hb:=sqb h2 h3
 unfold dn qH
 rw[Kh h0 h1,Kh h2 h3]
 simp only[Option.bind_some]
 rw[acd hb.1 hb.2,Int.zero_mul,wU (n:=0) (by decide) (by decide),Int.add_zero,wU (n:=0) (by decide) (by decide),aW (by decide),cond_false,wU (n:=b*b*2) (by omega) (by omega),Int.mul_comm (b*b) 2]
 rfl
theorem Rj{a:Int}(h0: -2147483647<=a)(h1:a<=2147483647):pE a=some (if a<0 then -a else a):=by
 unfold pE yD
 congr 1
 simp only[if_true]
 rw[aM (n:=0-a) (by omega) (by omega)]
 repeat' split
 all_goals omega
theorem Zw{u:Int}(h0:0<=u)(h1:u<=2147483647):gn u u=some (0,u*u):=by
 have hs:=sqb (a:=u) (by omega) h1
 unfold gn mq
 rw[Xg h0 (by omega),WN h0 (by omega)]
 simp only[Int.zero_mul,Int.mul_zero]
 rw[wU (n:=0) (by decide) (by decide),Int.zero_add,wU hs.1 (by omega)]
 have hf:0<=Int.fdiv (u*u) ((2:Int)^(Min.min (Int.toNat (32:Int)) 64))/\Int.fdiv (u*u) ((2:Int)^(Min.min (Int.toNat (32:Int)) 64))<4294967296:=by
  rw[show((2:Int)^(Min.min (Int.toNat (32:Int)) 64))=4294967296 from rfl,Int.fdiv_eq_ediv_of_nonneg _ (by decide)]
  omega
 generalize Int.fdiv (u*u) ((2:Int)^(Min.min (Int.toNat (32:Int)) 64))=t at*
 rw[Int.zero_add,wU (n:=t) (by omega) (by omega),WN (u:=t) (by omega) (by omega),Xg (u:=t) (by omega) (by omega),Int.add_zero,wU (n:=t) (by omega) (by omega),WN (u:=t) (by omega) (by omega)]
 rfl
theorem Rl{a b:Int}(h0: -2147483647<=a)(h1:a<=2147483647)(h2: -2147483647<=b)(h3:b<=2147483647):ic a b=some (decide (a*a>2*(b*b))):=by
 have ha:=sqb h0 h1
 have hb:=sqb h2 h3
 have ab:∀c:Int, -2147483647<=c->c<=2147483647->gn (IntKind.wrap .u64 (if c<0 then -c else c)) (IntKind.wrap .u64 (if c<0 then -c else c))=some (0,c*c):=by
  intro c k0 k1
  rw[wU (by split<;>omega) (by split<;>omega),Zw (by split<;>omega) (by split<;>omega)]
  split
  ·rw[Int.neg_mul_neg]
  ·rfl
 unfold ic nA
 simp only[Rj h0 h1,Rj h2 h3,Option.bind_some,ab a h0 h1,ab b h2 h3]
 rw[acd hb.1 hb.2,Int.zero_mul,wU (n:=0) (by decide) (by decide)]
 have hz:IntKind.wrap IntKind.u64 (((BitVec.toNat ((BitVec.ofInt 64 (0:Int))|||(BitVec.ofInt 64 (0:Int)))):Nat):Int)=0:=by decide
 rw[hz,aW (by decide),cond_false,show((2:Int)^(Min.min (Int.toNat (1:Int)) 64))=2 from rfl,wU (n:=b*b*2) (by omega) (by omega),Int.mul_comm (b*b) 2]
 rfl
theorem ZU:∀(n:Nat) (a b:Int),a.natAbs<=n->a*a=2*(b*b)->a=0
 |0,a,b,h,_=>by omega
 |n+1,a,b,h,e=>by
  by_cases h0:a=0
  ·exact h0
  ·exfalso
   have ha:a%2=0:=by
    by_cases h2:a%2=0
    ·exact h2
    ·have:(a*a)%2=1:=by rw[Int.mul_emod,show a%2=1 by omega];rfl
     omega
   have ea:a=2*(a/2):=by omega
   have e2:b*b=2*((a/2)*(a/2)):=by
    have:a*a=4*((a/2)*(a/2)):=by
     conv=>lhs;rw[ea]
     grind
    omega
   have hb:b%2=0:=by
    by_cases h2:b%2=0
    ·exact h2
    ·have:(b*b)%2=1:=by rw[Int.mul_emod,show b%2=1 by omega];rfl
     omega
   have eb:b=2*(b/2):=by omega
   have e3:(a/2)*(a/2)=2*((b/2)*(b/2)):=by
    have:b*b=4*((b/2)*(b/2)):=by
     conv=>lhs;rw[eb]
     grind
    omega
   have:=ZU n (a/2) (b/2) (by omega) e3
   omega
def T0(x:Nm):Int:=sgS (decide (x.1*x.1<2*(x.2.1*x.2.1))) x.1 x.2.1
theorem UW{x:Nm}(h0: -2147483647<=x.1)(h1:x.1<=2147483647)(h2: -2147483647<=x.2.1)(h3:x.2.1<=2147483647):ff x=some (T0 x)/\ee x=some (T0 x):=by
 refine⟨Pk (V2 h0 h1 h2 h3),(OU (Rl h0 h1 h2 h3)).trans ?_⟩
 congr 1
 unfold T0 sgI sgS
 have hne:x.1*x.1=2*(x.2.1*x.2.1)->x.1=0:=ZU _ _ _ (Nat.le_refl _)
 have hsq:∀a:Int,a≠0->0<a*a:=by
  intro a ha
  by_cases h:0<a
  ·exact Int.mul_pos h h
  ·have:=Int.mul_pos (show 0< -a by omega) (show 0< -a by omega)
   rw[Int.neg_mul_neg]at this
   exact this
 generalize hp:x.1*x.1=p at*
 generalize hq:x.2.1*x.2.1=q at*
 have k1:=hsq x.1
 have k2:=hsq x.2.1
 rw[hp]at k1
 rw[hq]at k2
 generalize x.1=a at*
 generalize x.2.1=b at*
 unfold Pj
 by_cases l1:p<2*q
 ·have l2:¬p>2*q:=by omega
  simp only[l1,l2,decide_true,decide_false]
  by_cases a0:a>0<;>by_cases a1:a<0<;>by_cases b0:b>0<;>by_cases b1:b<0<;>first
   |omega
   |(simp[a0,a1,b0,b1];try omega)
 ·by_cases l2:p>2*q
  ·simp only[l1,l2,decide_true,decide_false]
   by_cases a0:a>0<;>by_cases a1:a<0<;>by_cases b0:b>0<;>by_cases b1:b<0<;>first
    |omega
    |(simp[a0,a1,b0,b1];try omega)
  ·have ha0:a=0:=hne (by omega)
   have hb0:b=0:=by
    by_cases hb:b=0
    ·exact hb
    ·have hq0:=k2 hb
     have hp0:p=0:=by rw[<-hp,ha0];rfl
     omega
   rw[ha0,hb0]
   simp
theorem V4{d:Int}(h0:0<=d)(h1:d<=900):eJ d=eJ (d%16):=by
 rw[eJ,se,eJ,se,WY d (by omega) (by omega),WY (d%16) (by omega) (by omega),show d%16%16=d%16 by omega]
theorem V1{d:Int}(h0:0<=d)(h1:d<=900)(p:Pt):dc d p=dc (d%16) p:=by
 rw[dc,pN,dc,pN,V4 h0 h1]
theorem ZW{d:Int}(h0:0<=d)(h1:d<16):(fo ((d+4)%16)).1=SY (fo d).2/\(fo ((d+4)%16)).2=(fo d).1:=by
 rcases QI h0 h1 with rfl|rfl|rfl|rfl|rfl|rfl|rfl|rfl|rfl|rfl|rfl|rfl|rfl|rfl|rfl|rfl<;>decide
theorem Y0{d:Int}(h0:0<=d)(h1:d<16)(p:Pt):qM (sn (fo d).1 p.2) (sn (fo d).2 p.1)=oG (fo ((d+4)%16)) p:=by
 obtain⟨e1,e2⟩:=ZW h0 h1
 unfold oG
 rw[e1,e2]
 refine wd (Wa _ _) (kM _ _) ?_ ?_
 ·simp only[Gw,yU,QD,UF,UG];grind
 ·simp only[Gx,yV,QE,UF,UG];grind
theorem Y1{V:Int}{κ:Nat}{d:Int}{p:Pt}(h0:0<=d)(h1:d<16)(hV:0<=V)(hκ:κ<=60)(hp:Bd V κ p.1/\Bd V κ p.2)(h:6*V*2^κ<=4611686018427387904):
 gC (fo d) p=some (oG (fo ((d+4)%16)) p):=by
 obtain⟨hv1,hv2⟩:=gv h0 h1
 have hpw:0<=V*2^κ:=Int.mul_nonneg hV (Int.le_of_lt (Int.pow_pos (by decide)))
 have e:6*V*2^κ=6*(V*2^κ):=Int.mul_assoc ..
 have k3:3*(1*V)*2^(0+κ)<=4611686018427387904:=by
  rw[Nat.zero_add,Int.one_mul,Int.mul_assoc];omega
 have m1:=lP hv1 hp.2 (by decide) (by omega) (by decide) k3
 have m2:=lP hv2 hp.1 (by decide) (by omega) (by decide) k3
 have b1:=eY (V:=1) (by decide) hv1 hp.2
 have b2:=eY (V:=1) (by decide) hv2 hp.1
 have a:=ri b1 b2 (by omega) (by omega) (by omega) (by omega) (by
  rw[Nat.max_self,Nat.zero_add]
  have:(3*(1*V)+3*(1*V))*2^κ=6*(V*2^κ):=by grind
  omega)
 rw[gC,lz,m1.2,Option.bind_some,m2.2,Option.bind_some,a.2,Y0 h0 h1]
 rfl
def Xq(d:Int)(p:Pt):Bool:=decide ((oG (fo ((d+4)%16)) p).1=0/\(oG (fo ((d+4)%16)) p).2.1=0)&&decide (T0 (oG (fo d) p)>0)
def SN:Nat->Int->Pt->Option Int
 |0,_,_=>none
 |n+1,d,p=>cond (Xq d p) (some d) (SN n (d+1) p)
theorem Xk:∀(n:Nat) (d:Int) (p:Pt) (r:Int),SN n d p=some r->d<=r/\r<d+n
 |0,_,_,_,h=>by cases h
 |n+1,d,p,r,h=>by
  rw[SN]at h
  cases hc:Xq d p
  ·rw[hc]at h
   have:=Xk n (d+1) p r h
   omega
  ·rw[hc]at h
   simp only[cond_true,Option.some.injEq]at h
   omega
theorem Xl{p:Pt}(hp:Bd 262144 10 p.1/\Bd 262144 10 p.2){d:Int}(h0:0<=d)(h1:d<16):(-2147483647<=(oG (fo d) p).1/\(oG (fo d) p).1<=2147483647)/\(-2147483647<=(oG (fo d) p).2.1/\(oG (fo d) p).2.1<=2147483647):=by
 have hb:=qT (V:=1) (by decide) (gv h0 h1) hp
 have:=hb.pow_le (by decide)
 have e:(3*(1*262144)+3*(1*262144):Int)*2^(0+10)=1610612736:=by decide
 rw[e]at this
 omega
theorem MW{p:Pt}(hp:Bd 262144 10 p.1/\Bd 262144 10 p.2):∀(n:Nat) (d:Int),0<=d->d+n=16->
 gm (iM d p.1.1 p.1.2.1 p.1.2.2 p.2.1 p.2.2.1 p.2.2.2)=some (match SN n d p with|some r=>.inl (wA r)|none=>.inr (.inl wB))
 |0,d,h0,h1=>by
  rw[xS,gl,aW (by omega),cond_false];rfl
 |n+1,d,h0,h1=>by
  have hd:=Ak (d:=d) h0 (by omega) (by decide) (by decide) hp (by decide)
  have hd4:=Ak (d:=(d+4)%16) (by omega) (by omega) (by decide) (by decide) hp (by decide)
  have hs:=Xl hp h0 (show d<16 by omega)
  have IH:=MW hp n (d+1) (by omega) (by omega)
  rw[xS,gl,aT (by omega),cond_true,aM (n:=d+4) (by omega) (by omega),V1 (by omega) (by omega)]
  try simp only
  rw[hd4.1,Option.bind_some,QL,Option.bind_some,SN]
  unfold Xq
  by_cases hz:(oG (fo ((d+4)%16)) p).1=0/\(oG (fo ((d+4)%16)) p).2.1=0
  ·rw[aT hz,cond_true,hd.1,Option.bind_some,(UW hs.1.1 hs.1.2 hs.2.1 hs.2.2).1,Option.bind_some,Bool.true_and]
   by_cases hg:T0 (oG (fo d) p)>0
   ·rw[aT hg,cond_true,cond_true];rfl
   ·rw[aW hg,cond_false,cond_false,aM (n:=d+1) (by omega) (by omega)]
    exact IH
  ·rw[aW hz,cond_false,Bool.false_and,cond_false,aM (n:=d+1) (by omega) (by omega)]
   exact IH
theorem LR{p:Pt}(hp:Bd 262144 10 p.1/\Bd 262144 10 p.2):∀(n:Nat) (d:Int),0<=d->d+n=16->
 js (lu d p.1.1 p.1.2.1 p.1.2.2 p.2.1 p.2.2.1 p.2.2.2)=some (match SN n d p with|some r=>.inl (zq r)|none=>.inr (.inl zr))
 |0,d,h0,h1=>by
  rw[Bi,jm,aW (by omega),cond_false];rfl
 |n+1,d,h0,h1=>by
  have hd:=Ak (d:=d) h0 (by omega) (by decide) (by decide) hp (by decide)
  have hc:=Y1 (d:=d) h0 (by omega) (by decide) (by decide) hp (by decide)
  have hs:=Xl hp h0 (show d<16 by omega)
  have IH:=LR hp n (d+1) (by omega) (by omega)
  rw[Bi,jm,aT (by omega),cond_true,(uJ h0 (show d<16 by omega)).2,Option.bind_some]
  try simp only
  rw[hc,Option.bind_some,RY (show(oG (fo ((d+4)%16)) p).can from kM _ _),SN]
  unfold Xq
  by_cases hz:(oG (fo ((d+4)%16)) p).1=0/\(oG (fo ((d+4)%16)) p).2.1=0
  ·rw[aT hz,cond_true,hd.2,Option.bind_some,(UW hs.1.1 hs.1.2 hs.2.1 hs.2.2).2,Option.bind_some,Bool.true_and]
   by_cases hg:T0 (oG (fo d) p)>0
   ·rw[aT hg,cond_true,cond_true];rfl
   ·rw[aW hg,cond_false,cond_false,aM (n:=d+1) (by omega) (by omega)]
    exact IH
  ·rw[aW hz,cond_false,Bool.false_and,cond_false,aM (n:=d+1) (by omega) (by omega)]
   exact IH
def ZR(p q:Pt):Pt:=(qM p.1 q.1,qM p.2 q.2)
theorem XF{p q:Pt}(hp:ny p=true)(hq:ny q=true):Bd 262144 10 (ZR p q).1/\Bd 262144 10 (ZR p q).2:=by
 have bp:=iQ hp
 have bq:=iQ hq
 exact⟨zk bp.1 bq.1,zk bp.2 bq.2⟩
def Q9(p q:Pt):Option Int:=SN 16 0 (ZR q p)
theorem Su{p q:Pt}(hp:ny p=true)(hq:ny q=true):(iZ q p).bind (fun v=>iB v)=some (match Q9 p q with|some d=>d|none=> -1):=by
 have bp:=iQ hp
 have bq:=iQ hq
 have hb:=XF hq hp
 have s1:=ri bq.1 bp.1 (by decide) (by decide) (by decide) (by decide) (by decide)
 have s2:=ri bq.2 bp.2 (by decide) (by decide) (by decide) (by decide) (by decide)
 rw[iZ,oQ,s1.1,Option.bind_some,s2.1,Option.bind_some,Option.bind_some,iB,nf]
 have hl:=MW hb 16 0 (by decide) (by decide)
 unfold Q9
 have hl':gm (iM 0 (qM q.1 p.1).1 (qM q.1 p.1).2.1 (qM q.1 p.1).2.2 (qM q.2 p.2).1 (qM q.2 p.2).2.1 (qM q.2 p.2).2.2)=_:=hl
 rw[hl']
 cases SN 16 0 (ZR q p)<;>rfl
theorem Rk{p q:Pt}(hp:ny p=true)(hq:ny q=true):le p q=some (match Q9 p q with|some d=>d|none=> -1):=by
 have bp:=iQ hp
 have bq:=iQ hq
 have hb:=XF hq hp
 have s1:=ri bq.1 bp.1 (by decide) (by decide) (by decide) (by decide) (by decide)
 have s2:=ri bq.2 bp.2 (by decide) (by decide) (by decide) (by decide) (by decide)
 rw[le,qw,nK,og,s1.2,Option.bind_some,s2.2,Option.bind_some,Option.bind_some]
 have hl:=LR hb 16 0 (by decide) (by decide)
 unfold Q9
 have hl':js (lu 0 (qM q.1 p.1).1 (qM q.1 p.1).2.1 (qM q.1 p.1).2.2 (qM q.2 p.2).1 (qM q.2 p.2).2.1 (qM q.2 p.2).2.2)=_:=hl
 rw[hl']
 cases SN 16 0 (ZR q p)<;>rfl
theorem Qx{p q:Pt}{d:Int}(h:Q9 p q=some d):0<=d/\d<16:=by
 have:=Xk 16 0 _ _ h
 omega
def XI(p q:Pt):Ln×Int:=cond (ny p&&ny q) (match Q9 p q with|some d=>S4 (Ah p (d%8))|none=>((0,(0,(0,0))),7)) ((0,(0,(0,0))),1)
theorem Yt(p q:Pt):ll p q=some (XI p q):=by
 rw[ll,oo,fk,fk]
 unfold XI
 simp only[Option.bind_some]
 cases hp:ny p
 ·rfl
 cases hq:ny q
 ·rfl
 have hb:=iQ hp
 simp only[Bool.not_true,cond_false,Bool.and_self,cond_true,bj,dH,bY,cV,Option.bind_some]
 have hd:=Su hp hq
 rw[Option.bind_eq_some_iff]at hd
 obtain⟨v,h1,h2⟩:=hd
 rw[h1,Option.bind_some,h2,Option.bind_some]
 cases hdn:Q9 p q with
 |none=>rfl
 |some d=>
  have hdb:=Qx hdn
  try simp only
  rw[aW (show¬d<0 by omega),cond_false,Int.tmod_eq_emod_of_nonneg (by omega),uQ,vw,fk,hp]
  simp only[Option.bind_some,Bool.not_true,cond_false,gz]
  rw[aT (show 0<=d%8 by omega),aT (show d%8<=7 by omega)]
  simp only[Bool.and_self,Bool.not_true,cond_false,bj,dH,bY,cV,Option.bind_some]
  rw[aM (n:=d%8+4) (by omega) (by omega)]
  have hdot:=(Ak (d:=d%8+4) (by omega) (by omega) (by decide) (by decide) hb (by decide)).1
  have hbd:=qT (V:=1) (by decide) (gv (d:=d%8+4) (by omega) (by omega)) hb
  have hi:=BY hbd (by decide) (by decide)
  rw[hdot,Option.bind_some,W2 (x:=oG (fo (d%8+4)) p) (kM _ _) (by have:=hbd.2.1;exact Int.le_trans this (by decide)) hi.1 hi.2]
  unfold S4 Ah
  simp only[Option.bind_some]
  cases Aa (oG (fo (d%8+4)) p)<;>rfl
theorem Yc(p q:Pt):kY p q=some (XI p q):=by
 rw[kY,oa,fD,fD]
 unfold XI
 simp only[Option.bind_some]
 cases hp:ny p
 ·rfl
 cases hq:ny q
 ·rfl
 have hb:=iQ hp
 simp only[Bool.not_true,cond_false,Bool.and_self,cond_true]
 rw[Rk hp hq,Option.bind_some]
 cases hdn:Q9 p q with
 |none=>rfl
 |some d=>
  have hdb:=Qx hdn
  try simp only
  rw[aW (show¬d<0 by omega),cond_false,Int.tmod_eq_emod_of_nonneg (by omega),yr (d:=d%8) (by omega) (by omega) (by decide) (by decide) hb (by decide),Option.bind_some,HF,Option.bind_some]
  unfold S4 Ah
  cases Aa (oG (fo (d%8+4)) p)<;>rfl
theorem eS(l:Ln):aH l=some (lY l):=by
 unfold aH qu lY
 simp only[oB,Option.bind_some,HF]
 cases(decide (0<=l.1)&&decide (l.1<=7))<;>simp
theorem yK{V:Int}{κ:Nat}{d:Int}{p:Pt}(h0: -1000<=d)(h1:d<=1000)(hV:0<=V)(hκ:κ<=60)(hp:Bd V κ p.1/\Bd V κ p.2)(h:6*V*2^κ<=4611686018427387904):
 dC p d=some (Ah p (d%8)):=by
 rw[dC,pB,WY d h0 h1]
 simp only[Option.bind_some]
 rw[Int.tmod_eq_emod_of_nonneg (by omega),show d%16%8=d%8 by omega,aM (n:=d%8+4) (by omega) (by omega)]
 rw[(Ak (by omega) (by omega) hV hκ hp h).1];rfl
theorem Sx{l:Ln}(hc:l.2.can)(hk:l.2.2.2<=1000)(ha:Hm l.2.1)(hb:Hm l.2.2.1):nk l=some (S4 l):=by
 rw[nk,vI,iP,ot,W2 hc hk ha hb]
 unfold S4
 simp only[Option.bind_some]
 cases Aa l.2<;>rfl
theorem Rm{l:Ln}(h0:0<=l.1)(h1:l.1<=7):iH l true=some (S4 l):=by
 rw[iH,py,eS]
 unfold S4 lY
 rw[aT h0,aT h1]
 simp only[Option.bind_some,Bool.not_true,cond_false,Bool.and_self,Bool.true_and]
 cases Aa l.2<;>rfl
theorem UL{V V':Int}{κ κ':Nat}{p q:Pt}(hp:Bd V κ p.1/\Bd V κ p.2)(hq:Bd V' κ' q.1/\Bd V' κ' q.2)(hV:0<=V)(hV':0<=V')(hκ:κ<=60)(hκ':κ'<=60)(h:(V+V')*2^(max κ κ')<=4611686018427387904):
 jU p q=some (TN p q):=by
 rw[jU,pt,(ux hp.1 hq.1 hV hV' hκ hκ' h).2,(ux hp.2 hq.2 hV hV' hκ hκ' h).2];rfl
def qO(x:Nm):Nm:=(x.1,(x.2.1,x.2.2+1))
theorem Ci{V:Int}{κ:Nat}{x:Nm}(hV:0<=V)(h:Bd V κ x):Bd V (κ+1) (qO x):=by
 obtain⟨h1,h2,h3,h4⟩:=h
 have e:(x.2.2+1).toNat=x.2.2.toNat+1:=by omega
 have hp:0<=V*2^x.2.2.toNat:=Int.mul_nonneg hV (Int.le_of_lt (Int.pow_pos (by decide)))
 have e2:V*2^(x.2.2.toNat+1)=2*(V*2^x.2.2.toNat):=by rw[Int.pow_succ];grind
 refine⟨?_, ?_, ?_, ?_⟩
 ·show 0<=x.2.2+1;omega
 ·show x.2.2+1<=((κ+1:Nat):Int);omega
 ·show -(V*2^(x.2.2+1).toNat)<=x.1/\x.1<=V*2^(x.2.2+1).toNat
  rw[e,e2];omega
 ·show -(V*2^(x.2.2+1).toNat)<=x.2.1/\x.2.1<=V*2^(x.2.2+1).toNat
  rw[e,e2];omega
theorem Vy{x:Nm}(h:0<=x.2.2):vA (qO x)=vA x/2:=by
 have e:(x.2.2+1).toNat=x.2.2.toNat+1:=by omega
 show(x.1:Rat)/2^(x.2.2+1).toNat=vA x/2
 unfold vA
 rw[e,Rat.pow_succ]
 have:=bf x.2.2.toNat
 grind
theorem Vz{x:Nm}(h:0<=x.2.2):vB (qO x)=vB x/2:=by
 have e:(x.2.2+1).toNat=x.2.2.toNat+1:=by omega
 show(x.2.1:Rat)/2^(x.2.2+1).toNat=vB x/2
 unfold vB
 rw[e,Rat.pow_succ]
 have:=bf x.2.2.toNat
 grind
theorem MX(x:Nm)(h0:0<=x.2.2)(h:x.2.2<=1000):jX x=some (qO x):=by
 rw[jX,tG,aM (n:=x.2.2+1) (by omega) (by omega)];rfl
theorem HE{V:Int}{κ:Nat}{x:Nm}(hx:Bd V κ x)(hV:0<=V)(hκ:κ<=60)(h:V*2^κ<=4611686018427387904):kw x=some (low (x.2.2.toNat+1) x.1 x.2.1):=by
 have hi:=BY hx hV h
 have h1:=hx.1
 have h2:=hx.2.1
 rw[kw,rB,aM (n:=x.2.2+1) (by omega) (by omega),LT (by omega) (by omega) hi.1 hi.2,show(x.2.2+1).toNat=x.2.2.toNat+1 by omega]
 rfl
def RI(p q:Pt):Pt:=(low ((jQ p.1 q.1).2.2.toNat+1) (jQ p.1 q.1).1 (jQ p.1 q.1).2.1,low ((jQ p.2 q.2).2.2.toNat+1) (jQ p.2 q.2).1 (jQ p.2 q.2).2.1)
theorem DL{x:Nm}(h:0<=x.2.2):vA (low (x.2.2.toNat+1) x.1 x.2.1)=vA (qO x):=by
 rw[Vy h,As]
 unfold vA
 rw[Rat.pow_succ]
 have:=bf x.2.2.toNat
 grind
theorem DM{x:Nm}(h:0<=x.2.2):vB (low (x.2.2.toNat+1) x.1 x.2.1)=vB (qO x):=by
 rw[Vz h,At]
 unfold vB
 rw[Rat.pow_succ]
 have:=bf x.2.2.toNat
 grind
theorem wE{V:Int}{κ:Nat}{x:Nm}(hV:0<=V)(hx:Bd V κ x):Bd V (κ+1) (low (x.2.2.toNat+1) x.1 x.2.1):=by
 have h:=Ci hV hx
 obtain⟨h1,h2,h3,h4⟩:=h
 have k0:=hx.1
 have k1:=hx.2.1
 have e:(qO x).2.2.toNat=x.2.2.toNat+1:=by show(x.2.2+1).toNat=_;omega
 rw[e]at h3 h4
 exact(Kw (V:=V) _ _ _ h3.1 h3.2 h4.1 h4.2).mono (Int.le_refl _) (by omega)
theorem Y6(v:Pt){x y:Nm}(hx:0<=x.2.2)(hy:0<=y.2.2):oG v (qO x,qO y)=oG v (low (x.2.2.toNat+1) x.1 x.2.1,low (y.2.2.toNat+1) y.1 y.2.1):=by
 unfold oG
 refine wd (kM _ _) (kM _ _) ?_ ?_
 ·simp only[yU,QD,DL hx,DL hy,DM hx,DM hy]
 ·simp only[yV,QE,DL hx,DL hy,DM hx,DM hy]
def XC(p q:Pt):Ln×Int:=cond (ny p&&ny q) (match Q9 p q with|some d=>S4 (Ah (RI p q) ((d+4)%8))|none=>((0,(0,(0,0))),7)) ((0,(0,(0,0))),1)
theorem Ys(p q:Pt):mD p q=some (XC p q):=by
 rw[mD,rI,fk,fk]
 unfold XC
 simp only[Option.bind_some]
 cases hp:ny p
 ·rfl
 cases hq:ny q
 ·rfl
 have bp:=iQ hp
 have bq:=iQ hq
 simp only[Bool.not_true,cond_false,Bool.and_self,cond_true,bj,dH,bY,cV,Option.bind_some]
 have hd:=Su hp hq
 rw[Option.bind_eq_some_iff]at hd
 obtain⟨v,h1,h2⟩:=hd
 rw[h1,Option.bind_some,h2,Option.bind_some]
 cases hdn:Q9 p q with
 |none=>rfl
 |some d=>
  have hdb:=Qx hdn
  try simp only
  rw[aW (show¬d<0 by omega),cond_false]
  have a1:=(ux bp.1 bq.1 (by decide) (by decide) (by decide) (by decide) (by decide)).1
  have a2:=(ux bp.2 bq.2 (by decide) (by decide) (by decide) (by decide) (by decide)).1
  have b1:=lG bp.1 bq.1
  have b2:=lG bp.2 bq.2
  have c1:=b1.1
  have c2:=b2.1
  have hb1:=Ci (by decide) b1
  have hb2:=Ci (by decide) b2
  rw[a1,Option.bind_some,MX _ c1 (by have:=b1.2.1;exact Int.le_trans this (by decide)),Option.bind_some,a2,Option.bind_some,MX _ c2 (by have:=b2.2.1;exact Int.le_trans this (by decide)),Option.bind_some,
   aM (n:=d+4) (by omega) (by omega),yK (p:=(qO (jQ p.1 q.1),qO (jQ p.2 q.2))) (by omega) (by omega) (by decide) (by decide) ⟨hb1,hb2⟩ (by decide),Option.bind_some]
  have hl:Ah (qO (jQ p.1 q.1),qO (jQ p.2 q.2)) ((d+4)%8)=Ah (RI p q) ((d+4)%8):=by
   unfold Ah RI
   rw[Y6 _ c1 c2]
  rw[hl]
  have hbd:=qT (V:=1) (by decide) (gv (d:=(d+4)%8+4) (by omega) (by omega)) (p:=RI p q) ⟨wE (by decide) b1,wE (by decide) b2⟩
  have hi:=BY hbd (by decide) (by decide)
  rw[Sx (l:=Ah (RI p q) ((d+4)%8)) (kM _ _) (by have:=hbd.2.1;exact Int.le_trans this (by decide)) hi.1 hi.2]
  rfl
theorem Yb(p q:Pt):mB p q=some (XC p q):=by
 rw[mB,rz,fD,fD]
 unfold XC
 simp only[Option.bind_some]
 cases hp:ny p
 ·rfl
 cases hq:ny q
 ·rfl
 have bp:=iQ hp
 have bq:=iQ hq
 simp only[Bool.not_true,cond_false,Bool.and_self,cond_true]
 rw[Rk hp hq,Option.bind_some]
 cases hdn:Q9 p q with
 |none=>rfl
 |some d=>
  have hdb:=Qx hdn
  try simp only
  have b1:=lG bp.1 bq.1
  have b2:=lG bp.2 bq.2
  rw[aW (show¬d<0 by omega),cond_false,pF,rZ,UL bp bq (by decide) (by decide) (by decide) (by decide) (by decide),Option.bind_some]
  unfold TN
  try simp only
  rw[HE b1 (by decide) (by decide) (by decide),Option.bind_some,HE b2 (by decide) (by decide) (by decide),Option.bind_some,Option.bind_some,
   aM (n:=d+4) (by omega) (by omega),Int.tmod_eq_emod_of_nonneg (by omega)]
  have hl:=yr (d:=(d+4)%8) (p:=RI p q) (by omega) (by omega) (by decide) (by decide) ⟨wE (by decide) b1,wE (by decide) b2⟩ (by decide)
  unfold RI at hl⊢
  rw[hl,Option.bind_some,Rm (l:=Ah _ ((d+4)%8)) (by show 0<=(d+4)%8;omega) (by show(d+4)%8<=7;omega)]
  rfl
theorem fE(l:Ln):bG l=some (lY l):=by
 unfold bG tC lY
 simp only[gz,Option.bind_some,IG]
 cases(decide (0<=l.1)&&decide (l.1<=7))<;>simp
theorem T5(l:Ln):pJ l=some l:=by
 rw[pJ,vu,SC];rfl
theorem XJ(a m:Int):(Int.tmod a m !=0)=decide (a%m≠0):=by
 have:(Int.tmod a m=0)↔(a%m=0):=by rw[<-Int.dvd_iff_tmod_eq_zero,<-Int.dvd_iff_emod_eq_zero]
 rw[bne,show(Int.tmod a m==0)=decide (Int.tmod a m=0)from rfl]
 by_cases h:a%m=0
 ·rw[aT (this.2 h),aW (fun e=>e h)];rfl
 ·rw[aW (fun e=>h (this.1 e)),aT h];rfl
theorem QF{a m:Int}(hm:m≠0)(h:a%m=0)(h1: -4611686018427387904<=a)(h2:a<=4611686018427387904):IntKind.wrap .i64 (Int.tdiv a m)=a/m/\Hm (a/m):=by
 have hd:m∣a:=Int.dvd_iff_emod_eq_zero.2 h
 rw[Int.tdiv_eq_ediv_of_dvd hd]
 have e:a=m*(a/m):=by have:=Int.mul_ediv_add_emod a m;omega
 have hn:(a/m).natAbs<=a.natAbs:=by
  have e2:a.natAbs=m.natAbs*(a/m).natAbs:=by rw[<-Int.natAbs_mul,<-e]
  rw[e2]
  exact Nat.le_mul_of_pos_left _ (by omega)
 have hi:Hm (a/m):=⟨by omega,by omega⟩
 exact⟨wI hi,hi⟩
theorem Kg(c1 c2 c3 c4 c5 c6 A B:Int):∀(n:Nat) (x k:Int),n<=64->x≠0-> -(2^n)<x->x<2^n->Hm x->0<=k->k+n<=1000->
 oU (vV x c1 c2 c3 c4 c5 c6 A B k)=some (.inl (Dy (kv n x).1 c1 c2 c3 c4 c5 c6 A B (k+(kv n x).2)))
 |0,x,k,hn,h0,h1,h2,hi,hk,hk'=>by simp at h1 h2;omega
 |n+1,x,k,hn,h0,h1,h2,hi,hk,hk'=>by
  have i1:=hi.1
  have i2:=hi.2
  rw[OF,oR,We,kv]
  rw[Int.pow_succ]at h1 h2
  by_cases h:x%2=0
  ·rw[aT h,cond_true,if_pos h,T4 h,aM (n:=x/2) (by omega) (by omega),aM (n:=k+1) (by omega) (by omega)]
   refine(Kg c1 c2 c3 c4 c5 c6 A B n (x/2) (k+1) (by omega) (by omega) (by omega) (by omega) ⟨by omega,by omega⟩ (by omega) (by omega)).trans ?_
   simp only
   rw[show k+1+((kv n (x/2)).2:Int)=k+(((kv n (x/2)).2+1:Nat):Int) by omega]
  ·rw[aW h,cond_false,if_neg h]
   simp;rfl
theorem JQ(c1 c2 c3 A B:Int):∀(n:Nat) (x k:Int),n<=64->x≠0-> -(2^n)<x->x<2^n->Hm x->0<=k->k+n<=1000->
 my (sM x c1 c2 c3 A B k)=some (.inl (AL (kv n x).1 c1 c2 c3 A B (k+(kv n x).2)))
 |0,x,k,hn,h0,h1,h2,hi,hk,hk'=>by simp at h1 h2;omega
 |n+1,x,k,hn,h0,h1,h2,hi,hk,hk'=>by
  have i1:=hi.1
  have i2:=hi.2
  rw[Lk,mu,aac,kv,show(x%2==0)=decide (x%2=0)from rfl]
  rw[Int.pow_succ]at h1 h2
  by_cases h:x%2=0
  ·rw[aT h,cond_true,if_pos h,T4 h,aM (n:=x/2) (by omega) (by omega),aM (n:=k+1) (by omega) (by omega)]
   refine(JQ c1 c2 c3 A B n (x/2) (k+1) (by omega) (by omega) (by omega) (by omega) ⟨by omega,by omega⟩ (by omega) (by omega)).trans ?_
   simp only
   rw[show k+1+((kv n (x/2)).2:Int)=k+(((kv n (x/2)).2+1:Nat):Int) by omega]
  ·rw[aW h,cond_false,if_neg h]
   simp;rfl
theorem Sv(c1 c2 c3 A B K:Int):nF (qe 0 c1 c2 c3 A B K)=some (.inl (B8 c1 c2 c3 A B K)):=by
 rw[M7,nC,aW (by omega),cond_false];rfl
theorem F8{V M:Int}{κ:Nat}{x y:Nm}(hx:Bd V κ x)(hy:Bd M 0 y)(hV:0<=V)(hM:0<=M)(hM':M<=1000000000)(hκ:κ<=60)(h1:V*2^κ<=2305843009213693952)(h2:3*(V*M)*2^(κ+0)<=4611686018427387904):
 iO x y=some (I6 x y)/\fS x y=some (I6 x y):=by
 have hyn:Bd M 0 (y.1,(-y.2.1,0)):=by
  obtain⟨y1,y2,y3,y4⟩:=hy
  have:y.2.2=0:=by omega
  rw[this]at y3 y4
  exact⟨by simp,by simp,y3,by simp only at y4⊢;omega⟩
 obtain⟨⟨f1,f2,f3,_⟩,f5,f6,_⟩:=NI hx hy hV h1 h2
 obtain⟨⟨_,_,_,g4⟩,_,_,g7⟩:=NI hx hyn hV h1 h2
 simp only at g4 g7
 have eA:x.1*y.1+2*x.2.1* -y.2.1=x.1*y.1-2*x.2.1*y.2.1:=by grind
 have eB:x.1* -y.2.1+x.2.1*y.1=x.2.1*y.1-x.1*y.2.1:=by grind
 have hmul:=(lP hx hyn hV (by omega) h1 h2).2
 have hbm:=eY hV hx hyn
 have hk1:=hx.1
 have hk2:=hx.2.1
 have hyk:y.2.2=0:=by have:=hy.1;have:=hy.2.1;omega
 have hyb:=hy.pow_le hM
 simp only[Int.pow_zero,Int.mul_one]at hyb
 have sq:∀a b:Int, -M<=a->a<=M-> -M<=b->b<=M-> -1000000000000000000<=a*b/\a*b<=1000000000000000000:=by
  intro a b p1 p2 p3 p4
  have:=kL (a:=a) (b:=b) (V:=M) (V':=M) (p:=1) (q:=1) hM (by decide) (by omega) (by omega) (by omega) (by omega)
  have hMM:M*M<=1000000000*1000000000:=Int.mul_le_mul hM' hM' hM (by decide)
  omega
 have s1:=sq y.1 y.1 (by omega) (by omega) (by omega) (by omega)
 have s2:=sq y.2.1 y.2.1 (by omega) (by omega) (by omega) (by omega)
 have e2y:2*y.2.1*y.2.1=2*(y.2.1*y.2.1):=Int.mul_assoc ..
 have n1:IntKind.wrap IntKind.i64 ((IntKind.wrap .i64 (y.1*y.1))-(IntKind.wrap .i64 ((IntKind.wrap .i64 (2*y.2.1))*y.2.1)))=y.1*y.1-2*y.2.1*y.2.1:=by
  rw[aM (n:=y.1*y.1) (by omega) (by omega),aM (n:=2*y.2.1) (by omega) (by omega),aM (n:=2*y.2.1*y.2.1) (by omega) (by omega),aM (by omega) (by omega)]
 have nI:Hm (y.1*y.1-2*y.2.1*y.2.1):=⟨by omega,by omega⟩
 have hAb: -4611686018427387904<=x.1*y.1-2*x.2.1*y.2.1/\x.1*y.1-2*x.2.1*y.2.1<=4611686018427387904/\ -4611686018427387904<=x.2.1*y.1-x.1*y.2.1/\x.2.1*y.1-x.1*y.2.1<=4611686018427387904:=by
  obtain⟨x1,x2,x3,x4⟩:=hx
  have hp:(0:Int)<=2^x.2.2.toNat:=Int.le_of_lt (Int.pow_pos (by decide))
  have hpl:(2:Int)^x.2.2.toNat<=2^κ:=by
   have:=Nat.pow_le_pow_right (show 0<2 by decide) (show x.2.2.toNat<=κ by omega)
   exact_mod_cast this
  have aa:=kL (p:=2^x.2.2.toNat) (q:=1) (V':=M) hV hp x3.1 x3.2 (b:=y.1) (by omega) (by omega)
  have bb:=kL (p:=2^x.2.2.toNat) (q:=1) (V':=M) hV hp x4.1 x4.2 (b:=y.2.1) (by omega) (by omega)
  have ab:=kL (p:=2^x.2.2.toNat) (q:=1) (V':=M) hV hp x3.1 x3.2 (b:=y.2.1) (by omega) (by omega)
  have ba:=kL (p:=2^x.2.2.toNat) (q:=1) (V':=M) hV hp x4.1 x4.2 (b:=y.1) (by omega) (by omega)
  rw[Int.mul_one]at aa bb ab ba
  have hVM:0<=V*M:=Int.mul_nonneg hV hM
  have hle:=Int.mul_le_mul_of_nonneg_left hpl hVM
  have h3:3*(V*M*2^κ)<=4611686018427387904:=by rw[<-Int.mul_assoc];exact h2
  have e2:2*x.2.1*y.2.1=2*(x.2.1*y.2.1):=Int.mul_assoc ..
  omega
 have w1:IntKind.wrap IntKind.i64 ((IntKind.wrap .i64 (x.1*y.1))-(IntKind.wrap .i64 ((IntKind.wrap .i64 (2*x.2.1))*y.2.1)))=x.1*y.1-2*x.2.1*y.2.1:=by
  rw[wI f1,wI f2,wI f3,aM (by omega) (by omega)]
 have w2:IntKind.wrap IntKind.i64 ((IntKind.wrap .i64 (x.2.1*y.1))-(IntKind.wrap .i64 (x.1*y.2.1)))=x.2.1*y.1-x.1*y.2.1:=by
  rw[wI f5,wI f6,aM (by omega) (by omega)]
 unfold I6
 generalize hA:x.1*y.1-2*x.2.1*y.2.1=A at*
 generalize hB:x.2.1*y.1-x.1*y.2.1=B at*
 generalize hN:y.1*y.1-2*y.2.1*y.2.1=N at*
 by_cases h0:N=0
 ·rw[if_pos h0]
  constructor
  ·rw[iO,sd,n1,h0];rfl
  ·rw[fS,oP,n1,h0];rfl
 ·rw[if_neg h0]
  have i1:=nI.1
  have i2:=nI.2
  have hodd:(kv 64 N).1%2≠0:=VS 64 N h0 (by omega) (by omega)
  have hle:=Xz 64 N
  have hm0:(kv 64 N).1≠0:=fun e=>by rw[e]at hodd;exact hodd rfl
  have hNb:(N==0)=false:=by rw[show(N==0)=decide (N=0)from rfl,aW h0]
  constructor
  ·rw[iO,sd,n1,hNb,cond_false,w1,w2,Kg y.1 y.2.1 y.2.2 0 0 0 A B 64 N x.2.2 (by omega) h0 (by omega) (by omega) nI hk1 (by omega)]
   simp only[Option.bind_some,pD,gZ]
   rw[aW hm0,cond_false,XJ,XJ]
   by_cases hd:A%(kv 64 N).1=0
   ·by_cases hd':B%(kv 64 N).1=0
    ·obtain⟨q1,q1'⟩:=QF hm0 hd hAb.1 hAb.2.1
     obtain⟨q2,q2'⟩:=QF hm0 hd' hAb.2.2.1 hAb.2.2.2
     rw[aW (fun e=>e hd),aW (fun e=>e hd'),if_pos ⟨hd,hd'⟩]
     simp only[cond_false]
     rw[q1,q2,hyk,Sv]
     simp only[Option.bind_some,gg]
     rw[I3 (by omega) (by omega) q1' q2']
     simp only[Option.bind_some]
     rw[show(x.2.2+((kv 64 N).2:Int)).toNat=x.2.2.toNat+(kv 64 N).2 by omega]
    ·rw[aW (fun e=>e hd),aT hd',if_neg (fun e=>hd' e.2)];rfl
   ·rw[aT hd,if_neg (fun e=>hd e.1)];rfl
  ·have hz:IntKind.wrap IntKind.i64 (0-y.2.1)= -y.2.1:=by rw[aM (by omega) (by omega)];omega
   have hT:sn x (y.1,(-y.2.1,0))=low x.2.2.toNat A B:=by
    unfold sn
    simp only
    rw[eA,eB];rfl
   have hk3:=hbm.1
   have hk4:=hbm.2.1
   rw[hT]at hk3 hk4
   rw[fS,oP,n1,hNb,cond_false,hz,hmul,hT]
   simp only[Option.bind_some]
   rw[hyk,Int.sub_zero,aM (n:=(low x.2.2.toNat A B).2.2) (by omega) (by omega),JQ 0 0 0 _ _ 64 N _ (by omega) h0 (by omega) (by omega) nI hk3 (by omega)]
   obtain⟨ld1,ld2⟩:=aas hodd x.2.2.toNat (kv 64 N).2 A B
   have hTb:=Kw (V:=4611686018427387904) x.2.2.toNat A B
   have hp1:(1:Int)<=2^x.2.2.toNat:=Int.pow_pos (by decide)
   have hrng:(-4611686018427387904<=(low x.2.2.toNat A B).1/\(low x.2.2.toNat A B).1<=4611686018427387904)/\(-4611686018427387904<=(low x.2.2.toNat A B).2.1/\(low x.2.2.toNat A B).2.1<=4611686018427387904):=by
    have hb:=hbm.pow_le (by have:=Int.mul_nonneg hV hM;omega)
    rw[hT]at hb
    omega
   simp only[Option.bind_some,pD,fB]
   rw[aW hm0,cond_false,XJ,XJ]
   by_cases hd:A%(kv 64 N).1=0/\B%(kv 64 N).1=0
   ·have hd2:=ld1.2 hd
    obtain⟨q1,q1'⟩:=QF hm0 hd2.1 hrng.1.1 hrng.1.2
    obtain⟨q2,q2'⟩:=QF hm0 hd2.2 hrng.2.1 hrng.2.2
    rw[aW (fun e=>e hd2.1),aW (fun e=>e hd2.2),if_pos hd]
    simp only[cond_false]
    rw[aW (show¬((low x.2.2.toNat A B).2.2+((kv 64 N).2:Int)<0) by omega),cond_false,q1,q2,LT (by omega) (by omega) q1' q2']
    simp only[Option.bind_some]
    rw[show((low x.2.2.toNat A B).2.2+((kv 64 N).2:Int)).toNat=(low x.2.2.toNat A B).2.2.toNat+(kv 64 N).2 by omega,ld2 hd]
   ·rw[if_neg hd]
    by_cases hd1:(low x.2.2.toNat A B).1%(kv 64 N).1=0
    ·have hd3:(low x.2.2.toNat A B).2.1%(kv 64 N).1≠0:=fun e=>hd (ld1.1 ⟨hd1,e⟩)
     rw[aW (fun e=>e hd1),aT hd3];rfl
    ·rw[aT hd1];rfl
end Go.Proofs.YtjkljnflaifbhaaGreatDoor
