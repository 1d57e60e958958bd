/- No conditions. -/
import Derived.Test.YtjkljnflaifbhaaDoorPK
import Derived.Test.YtjkljnflaifbhaaDoorAL1
import Derived.Test.YtjkljnflaifbhaaDoorL2s
namespace Go.Proofs.YtjkljnflaifbhaaDoor
open Go.Vai
def ye(a:Int):Prop:= -9223372036854775808<=a/\a<=9223372036854775807
theorem wI{a:Int}(h:ye a):IntKind.wrap .i64 a=a:=aG h.1 h.2
theorem KC(a:Int):(Int.tmod a 2==0)=decide (a%2=0):=by
 rw[show(Int.tmod a 2==0)=decide (Int.tmod a 2=0) by rfl]
 congr 1
 apply propext
 rw[Int.tmod_eq_emod]
 split<;>omega
theorem Qp(a:Int):(Int.tmod a 2 !=0)=decide (a%2≠0):=by
 rw[bne,KC]
 by_cases h:a%2=0<;>simp[h]
theorem Is{a:Int}(h:a%2=0):Int.tdiv a 2=a/2:=by
 rw[Int.tdiv_eq_ediv]
 split<;>omega
theorem IF(a:Int)(m:Nat)(hm:m<18446744073709551616):(BitVec.toNat ((BitVec.ofInt 64 a)&&&(BitVec.ofInt 64 (m:Int))))=(a%18446744073709551616).toNat&&&m:=by
 rw[BitVec.toNat_and]
 congr 1
 rw[BitVec.toNat_ofInt]
 omega
theorem O5(a:Int):IntKind.wrap IntKind.i64 (((BitVec.toNat ((BitVec.ofInt 64 a)&&&(BitVec.ofInt 64 (1:Int)))):Nat):Int)=a%2:=by
 have:=IF a 1 (by omega)
 rw[show((1:Nat):Int)=1 from rfl]at this
 rw[this,Nat.and_one_is_mod,aG (by omega) (by omega)]
 omega
theorem QM(a:Int):IntKind.wrap IntKind.i64 (((BitVec.toNat ((BitVec.ofInt 64 a)&&&(BitVec.ofInt 64 (7:Int)))):Nat):Int)=a%8:=by
 have:=IF a 7 (by omega)
 rw[show((7:Nat):Int)=7 from rfl]at this
 rw[this,show(7:Nat)=2^3-1 from rfl,Nat.and_two_pow_sub_one_eq_mod,aG (by omega) (by omega)]
 omega
theorem Gd:∀k,low k 0 0=(0,(0,0))
 |0=>rfl
 |k+1=>by rw[low,if_pos ⟨rfl,rfl⟩];exact Gd k
theorem CL(p q r:Int):∀(k:Nat) (a b:Int),k<=1000->ye a->ye b->
 iS (lM a b (k:Int) p q r)=some (.inl (mq (low k a b).1 (low k a b).2.1 (low k a b).2.2 p q r))
 |0,a,b,hk,ha,hb=>by
  rw[wN,iR,bX (by omega),cond_false];rfl
 |k+1,a,b,hk,ha,hb=>by
  have h1:=ha.1;have h2:=ha.2;have h3:=hb.1;have h4:=hb.2
  rw[wN,iR,bM (by omega),cond_true,KC,KC,low]
  by_cases h:a%2=0
  ·rw[bM h,cond_true]
   by_cases h':b%2=0
   ·rw[bM h',cond_true,if_pos ⟨h,h'⟩,Is h,Is h',aG (n:=a/2) (by omega) (by omega),aG (n:=b/2) (by omega) (by omega),aG (by omega) (by omega),
     show((k+1:Nat):Int)-1=(k:Int) by omega]
    exact CL p q r k _ _ (by omega) ⟨by omega,by omega⟩ ⟨by omega,by omega⟩
   ·rw[bX h',cond_false,if_neg (fun e=>h' e.2)];rfl
  ·rw[bX h,cond_false,if_neg (fun e=>h e.1)];rfl
theorem zI{a b k:Int}(hk:0<=k)(hk':k<=1000)(ha:ye a)(hb:ye b):eD (a,(b,k))=some (low k.toNat a b):=by
 have hw:=CL 0 0 0 k.toNat a b (by omega) ha hb
 rw[Int.toNat_of_nonneg hk]at hw
 rw[eD,oI]
 simp only
 rw[hw]
 rw[show(a==0)=decide (a=0) by rfl,show(b==0)=decide (b=0) by rfl]
 by_cases h:a=0
 ·by_cases h':b=0
  ·subst h;subst h';rw[Gd];rfl
  ·rw[bM h,bX h'];rfl
 ·rw[bX h];rfl
theorem xe(p q r:Int):∀(k:Nat) (a b:Int),k<=1000->ye a->ye b->
 fA (fu a b (k:Int) p q r)=some (.inl (jg (low k a b).1 (low k a b).2.1 (low k a b).2.2 p q r))
 |0,a,b,hk,ha,hb=>by
  rw[qT,eC,bX (by omega),cond_false];rfl
 |k+1,a,b,hk,ha,hb=>by
  have h1:=ha.1;have h2:=ha.2;have h3:=hb.1;have h4:=hb.2
  rw[qT,eC,bM (by omega),cond_true,O5,O5,low]
  rw[show(a%2==0)=decide (a%2=0) by rfl,show(b%2==0)=decide (b%2=0) by rfl]
  by_cases h:a%2=0
  ·rw[bM h,cond_true]
   by_cases h':b%2=0
   ·rw[bM h',cond_true,if_pos ⟨h,h'⟩,Is h,Is h',aG (n:=a/2) (by omega) (by omega),aG (n:=b/2) (by omega) (by omega),aG (n:=((k+1:Nat):Int)-1) (by omega) (by omega),
     show((k+1:Nat):Int)-1=(k:Int) by omega]
    have IH:=xe p q r k (a/2) (b/2) (by omega) ⟨by omega,by omega⟩ ⟨by omega,by omega⟩
    rw[show(a/2==0)=decide (a/2=0) by rfl,show(b/2==0)=decide (b/2=0) by rfl]
    by_cases e:a/2=0
    ·by_cases e':b/2=0
     ·rw[bM e,bM e',cond_true,cond_true,e,e',Gd]
      have I0:=xe p q r 0 0 0 (by omega) ⟨by omega,by omega⟩ ⟨by omega,by omega⟩
      exact I0
     ·rw[bM e,bX e',cond_true,cond_false];exact IH
    ·rw[bX e,cond_false];exact IH
   ·rw[bX h',cond_false,if_neg (fun e=>h' e.2)];rfl
  ·rw[bX h,cond_false,if_neg (fun e=>h e.1)];rfl
theorem BX{a b k:Int}(hk:0<=k)(hk':k<=1000)(ha:ye a)(hb:ye b):cF (a,(b,k))=some (low k.toNat a b):=by
 have hw:=xe 0 0 0 k.toNat a b (by omega) ha hb
 rw[Int.toNat_of_nonneg hk]at hw
 rw[cF,jE]
 simp only
 rw[hw]
 rfl
theorem Do{V V':Int}{κ κ':Nat}{x y:Nm}(hx:Bd V κ x)(hy:Bd V' κ' y)(hV:0<=V)(h1:V*2^κ<=2305843009213693952)(h2:3*(V*V')*2^(κ+κ')<=4611686018427387904):
 (ye (x.1*y.1)/\ye (2*x.2.1)/\ye (2*x.2.1*y.2.1)/\ye (x.1*y.1+2*x.2.1*y.2.1))/\(ye (x.1*y.2.1)/\ye (x.2.1*y.1)/\ye (x.1*y.2.1+x.2.1*y.1)):=by
 have bx:=hx.pow_le hV
 obtain⟨x1,x2,x3,x4⟩:=hx
 obtain⟨y1,y2,y3,y4⟩:=hy
 have hp:(0:Int)<=2^x.2.2.toNat:=Int.le_of_lt (Int.pow_pos (by decide))
 have aa:=gz hV hp x3.1 x3.2 y3.1 y3.2
 have bb:=gz hV hp x4.1 x4.2 y4.1 y4.2
 have ab:=gz hV hp x3.1 x3.2 y4.1 y4.2
 have ba:=gz hV hp x4.1 x4.2 y3.1 y3.2
 have hVV:0<=V*V'*(2^x.2.2.toNat*2^y.2.2.toNat):=by omega
 have hV':0<=V*V':=by
  have hq:(0:Int)<2^x.2.2.toNat*2^y.2.2.toNat:=Int.mul_pos (Int.pow_pos (by decide)) (Int.pow_pos (by decide))
  by_cases h:0<=V*V'
  ·exact h
  ·exfalso
   have:=Int.mul_neg_of_neg_of_pos (show V*V'<0 by omega) hq
   omega
 have hle:V*V'*(2^x.2.2.toNat*2^y.2.2.toNat)<=V*V'*2^(κ+κ'):=by
  rw[<-Int.pow_add]
  refine Int.mul_le_mul_of_nonneg_left ?_ hV'
  have:=Nat.pow_le_pow_right (show 0<2 by decide) (show x.2.2.toNat+y.2.2.toNat<=κ+κ' by omega)
  exact_mod_cast this
 have h3:3*(V*V'*2^(κ+κ'))<=4611686018427387904:=by rw[<-Int.mul_assoc];exact h2
 have e2:2*x.2.1*y.2.1=2*(x.2.1*y.2.1):=Int.mul_assoc ..
 rw[e2]
 unfold ye
 refine⟨⟨⟨?_, ?_⟩,⟨?_, ?_⟩,⟨?_, ?_⟩,⟨?_, ?_⟩⟩,⟨⟨?_, ?_⟩,⟨?_, ?_⟩,⟨?_, ?_⟩⟩⟩<;>omega
theorem gu{V V':Int}{κ κ':Nat}{x y:Nm}(hx:Bd V κ x)(hy:Bd V' κ' y)(hV:0<=V)(hκ:κ+κ'<=1000)(h1:V*2^κ<=2305843009213693952)(h2:3*(V*V')*2^(κ+κ')<=4611686018427387904):
 bT x y=some (kB x y)/\bZ x y=some (kB x y):=by
 obtain⟨⟨f1,f2,f3,f4⟩,f5,f6,f7⟩:=Do hx hy hV h1 h2
 have hk1:=hx.1
 have hk2:=hx.2.1
 have hk3:=hy.1
 have hk4:=hy.2.1
 have hk:(x.2.2+y.2.2).toNat=x.2.2.toNat+y.2.2.toNat:=by omega
 constructor
 ·rw[bT,oJ]
  rw[wI f1,wI f2,wI f3,wI f4,wI f5,wI f6,wI f7,aG (n:=x.2.2+y.2.2) (by omega) (by omega),zI (by omega) (by omega) f4 f7,hk]
  rfl
 ·rw[bZ,kW]
  rw[wI f1,wI f2,wI f3,wI f4,wI f5,wI f6,wI f7,aG (n:=x.2.2+y.2.2) (by omega) (by omega),BX (by omega) (by omega) f4 f7,hk]
  rfl
theorem Jv{a:Int}{n:Nat}(h1: -4611686018427387904<=a*2^(n+1))(h2:a*2^(n+1)<=4611686018427387904):ye (a*2)/\(-4611686018427387904<=a*2*2^n/\a*2*2^n<=4611686018427387904):=by
 have e:a*2^(n+1)=a*2*2^n:=by rw[Int.pow_succ];grind
 rw[e]at h1 h2
 have hp:(1:Int)<=2^n:=Int.pow_pos (by decide)
 refine⟨⟨?_, ?_⟩,h1,h2⟩
 ·by_cases h:0<=a*2
  ·omega
  ·have:=Int.mul_le_mul_of_nonneg_left hp (show 0<= -(a*2) by omega)
   rw[Int.neg_mul,Int.neg_mul]at this
   omega
 ·by_cases h:0<=a*2
  ·have:=Int.mul_le_mul_of_nonneg_left hp h
   omega
  ·omega
theorem AB(a' b' k' p q r:Int)(hk':k'<=1000):∀(n:Nat) (a b k:Int),0<=k->n=(k'-k).toNat->(-4611686018427387904<=a*2^n/\a*2^n<=4611686018427387904)->(-4611686018427387904<=b*2^n/\b*2^n<=4611686018427387904)->
 jV (oX a b k a' b' k' p q r)=some (.inl (uL (a*2^n) (b*2^n) (k+n) a' b' k' p q r))
 |0,a,b,k,hk,hn,ha,hb=>by
  rw[wL,iP,bX (by omega),cond_false]
  simp;rfl
 |n+1,a,b,k,hk,hn,ha,hb=>by
  obtain⟨ia,ha'⟩:=Jv ha.1 ha.2
  obtain⟨ib,hb'⟩:=Jv hb.1 hb.2
  rw[wL,iP,bM (by omega),cond_true,wI ia,wI ib,aG (n:=k+1) (by omega) (by omega)]
  refine(AB a' b' k' p q r hk' n (a*2) (b*2) (k+1) (by omega) (by omega) ha' hb').trans ?_
  rw[show a*2*2^n=a*2^(n+1) by rw[Int.pow_succ];grind,show b*2*2^n=b*2^(n+1) by rw[Int.pow_succ];grind,show k+1+(n:Int)=k+((n+1:Nat):Int) by omega]
theorem AC(a' b' k' p q r:Int)(hk':k'<=1000):∀(n:Nat) (a b k:Int),0<=k->n=(k'-k).toNat->(-4611686018427387904<=a*2^n/\a*2^n<=4611686018427387904)->(-4611686018427387904<=b*2^n/\b*2^n<=4611686018427387904)->
 jW (oY a' b' k' a b k p q r)=some (.inl (uM a' b' k' (a*2^n) (b*2^n) (k+n) p q r))
 |0,a,b,k,hk,hn,ha,hb=>by
  rw[wM,iQ,bX (by omega),cond_false]
  simp;rfl
 |n+1,a,b,k,hk,hn,ha,hb=>by
  obtain⟨ia,ha'⟩:=Jv ha.1 ha.2
  obtain⟨ib,hb'⟩:=Jv hb.1 hb.2
  rw[wM,iQ,bM (by omega),cond_true,wI ia,wI ib,aG (n:=k+1) (by omega) (by omega)]
  refine(AC a' b' k' p q r hk' n (a*2) (b*2) (k+1) (by omega) (by omega) ha' hb').trans ?_
  rw[show a*2*2^n=a*2^(n+1) by rw[Int.pow_succ];grind,show b*2*2^n=b*2^(n+1) by rw[Int.pow_succ];grind,show k+1+(n:Int)=k+((n+1:Nat):Int) by omega]
theorem ml{V V':Int}{κ κ':Nat}{x y:Nm}(hx:Bd V κ x)(hy:Bd V' κ' y)(hV:0<=V)(hV':0<=V')(hκ:κ<=60)(hκ':κ'<=60)(h:(V+V')*2^(max κ κ')<=4611686018427387904):
 cL x y=some (ej x y)/\dj x y=some (ej x y):=by
 obtain⟨x1,x2,x3,x4⟩:=hx
 obtain⟨y1,y2,y3,y4⟩:=hy
 have hK:max x.2.2.toNat y.2.2.toNat<=max κ κ':=by omega
 have a1:=Eo (Nat.le_max_left x.2.2.toNat y.2.2.toNat) x3.1 x3.2
 have a2:=Eo (Nat.le_max_left x.2.2.toNat y.2.2.toNat) x4.1 x4.2
 have a3:=Eo (Nat.le_max_right x.2.2.toNat y.2.2.toNat) y3.1 y3.2
 have a4:=Eo (Nat.le_max_right x.2.2.toNat y.2.2.toNat) y4.1 y4.2
 have hp:(2:Int)^(max x.2.2.toNat y.2.2.toNat)<=2^(max κ κ'):=by
  have:=Nat.pow_le_pow_right (show 0<2 by decide) hK
  exact_mod_cast this
 have e1:=Int.mul_le_mul_of_nonneg_left hp hV
 have e2:=Int.mul_le_mul_of_nonneg_left hp hV'
 have e3:(V+V')*2^(max κ κ')=V*2^(max κ κ')+V'*2^(max κ κ'):=Int.add_mul ..
 have p1:0<=V*2^(max x.2.2.toNat y.2.2.toNat):=Int.mul_nonneg hV (Int.le_of_lt (Int.pow_pos (by decide)))
 have p2:0<=V'*2^(max x.2.2.toNat y.2.2.toNat):=Int.mul_nonneg hV' (Int.le_of_lt (Int.pow_pos (by decide)))
 have hm:((max x.2.2.toNat y.2.2.toNat:Nat):Int)=max x.2.2 y.2.2:=by omega
 have hkx:max x.2.2.toNat y.2.2.toNat-x.2.2.toNat=(y.2.2-x.2.2).toNat:=by omega
 have hky:max x.2.2.toNat y.2.2.toNat-y.2.2.toNat=(x.2.2-y.2.2).toNat:=by omega
 have i1:ye (x.1*2^(max x.2.2.toNat y.2.2.toNat-x.2.2.toNat)+y.1*2^(max x.2.2.toNat y.2.2.toNat-y.2.2.toNat)):=⟨by omega,by omega⟩
 have i2:ye (x.2.1*2^(max x.2.2.toNat y.2.2.toNat-x.2.2.toNat)+y.2.1*2^(max x.2.2.toNat y.2.2.toNat-y.2.2.toNat)):=⟨by omega,by omega⟩
 constructor
 ·rw[cL,oG]
  rw[AB y.1 y.2.1 y.2.2 0 0 0 (by omega) (y.2.2-x.2.2).toNat x.1 x.2.1 x.2.2 x1 rfl (by rw[<-hkx];omega) (by rw[<-hkx];omega)]
  simp only[Option.bind_some,jP,eH,dW]
  rw[AC _ _ _ 0 0 0 (by omega) (x.2.2-y.2.2).toNat y.1 y.2.1 y.2.2 y1 (by omega) (by rw[<-hky];omega) (by rw[<-hky];omega)]
  simp only[Option.bind_some,dW]
  rw[<-hkx,<-hky,wI i1,wI i2,zI (by omega) (by omega) i1 i2]
  rw[show(x.2.2+((max x.2.2.toNat y.2.2.toNat-x.2.2.toNat:Nat):Int)).toNat=max x.2.2.toNat y.2.2.toNat by omega]
  rfl
 ·rw[dj,lT]
  have hM:(if y.2.2>x.2.2 then y.2.2 else x.2.2)=((max x.2.2.toNat y.2.2.toNat:Nat):Int):=by split<;>omega
  simp only[if_true,hM]
  have w1:IntKind.wrap IntKind.i64 (((max x.2.2.toNat y.2.2.toNat:Nat):Int)-x.2.2)=((max x.2.2.toNat y.2.2.toNat-x.2.2.toNat:Nat):Int):=by rw[aG (by omega) (by omega)];omega
  have w2:IntKind.wrap IntKind.i64 (((max x.2.2.toNat y.2.2.toNat:Nat):Int)-y.2.2)=((max x.2.2.toNat y.2.2.toNat-y.2.2.toNat:Nat):Int):=by rw[aG (by omega) (by omega)];omega
  rw[w1,w2,bX (by omega),bX (by omega),Int.toNat_natCast,Int.toNat_natCast]
  simp only[cond_false]
  rw[show min (max x.2.2.toNat y.2.2.toNat-x.2.2.toNat) 64=max x.2.2.toNat y.2.2.toNat-x.2.2.toNat by omega,show min (max x.2.2.toNat y.2.2.toNat-y.2.2.toNat) 64=max x.2.2.toNat y.2.2.toNat-y.2.2.toNat by omega]
  rw[aG (n:=x.1*_) (by omega) (by omega),aG (n:=y.1*_) (by omega) (by omega),aG (n:=x.2.1*_) (by omega) (by omega),aG (n:=y.2.1*_) (by omega) (by omega),wI i1,wI i2,BX (by omega) (by omega) i1 i2,Int.toNat_natCast]
  rfl
theorem Qi{V:Int}{κ:Nat}{x:Nm}(hx:Bd V κ x)(hV:0<=V)(h:V*2^κ<=4611686018427387904):oj x=some (Hr x)/\bO x=some (Hr x):=by
 have:=hx.pow_le hV
 constructor
 ·rw[oj,rJ,aG (n:=0-x.1) (by omega) (by omega),aG (n:=0-x.2.1) (by omega) (by omega),Int.zero_sub,Int.zero_sub];rfl
 ·rw[bO,mW,aG (n:=0-x.1) (by omega) (by omega),aG (n:=0-x.2.1) (by omega) (by omega),Int.zero_sub,Int.zero_sub];rfl
theorem lC{V V':Int}{κ κ':Nat}{x y:Nm}(hx:Bd V κ x)(hy:Bd V' κ' y)(hV:0<=V)(hV':0<=V')(hκ:κ<=60)(hκ':κ'<=60)(h:(V+V')*2^(max κ κ')<=4611686018427387904):
 cM x y=some (kG x y)/\bS x y=some (kG x y):=by
 have h':V'*2^κ'<=4611686018427387904:=by
  have hp:(2:Int)^κ'<=2^(max κ κ'):=by
   have:=Nat.pow_le_pow_right (show 0<2 by decide) (Nat.le_max_right κ κ')
   exact_mod_cast this
  have e2:=Int.mul_le_mul_of_nonneg_left hp hV'
  have e3:(V+V')*2^(max κ κ')=V*2^(max κ κ')+V'*2^(max κ κ'):=Int.add_mul ..
  have p1:0<=V*2^(max κ κ'):=Int.mul_nonneg hV (Int.le_of_lt (Int.pow_pos (by decide)))
  omega
 have hn:=Qi hy hV' h'
 have ha:=ml hx (Me hy) hV hV' hκ hκ' h
 constructor
 ·rw[cM,rK,hn.1,Option.bind_some,ha.1];rfl
 ·rw[bS,kV,hn.2,Option.bind_some,ha.2];rfl
def nN(x:Nm):Bool:=(decide (-131072<=x.1)&&decide (x.1<=131072))&&((decide (-131072<=x.2.1)&&decide (x.2.1<=131072))&&((decide (0<=x.2.2)&&decide (x.2.2<=10))&&(decide (x.2.2=0)||(decide (x.1%2≠0)||decide (x.2.1%2≠0)))))
theorem IZ(x a b:Int):gY x a b=some (decide (a<=x)&&decide (x<=b)):=by
 unfold gY qF
 rw[show decide (x>=a)=decide (a<=x)from rfl]
 cases decide (a<=x)<;>simp
theorem LZ(x a b:Int):gW x a b=some (decide (a<=x)&&decide (x<=b)):=by
 unfold gW oD
 rw[show decide (x>=a)=decide (a<=x)from rfl]
 cases decide (a<=x)<;>simp
theorem zk(x:Nm):jh x=some (nN x):=by
 unfold jh qG nN
 simp only[IZ,Option.bind_some,Qp]
 rw[show(x.2.2==0)=decide (x.2.2=0)from rfl]
 cases(decide (-131072<=x.1)&&decide (x.1<=131072))<;>cases(decide (-131072<=x.2.1)&&decide (x.2.1<=131072))<;>cases(decide (0<=x.2.2)&&decide (x.2.2<=10))<;>cases decide (x.2.2=0)<;>cases decide (x.1%2≠0)<;>simp
theorem Pk(a:Int):(a%2==1)=decide (a%2≠0):=by
 rw[show(a%2==1)=decide (a%2=1)from rfl]
 congr 1
 apply propext
 omega
theorem yv(x:Nm):dA x=some (nN x):=by
 unfold dA lV nN
 simp only[LZ,Option.bind_some,O5,Pk]
 rw[show(x.2.2==0)=decide (x.2.2=0)from rfl]
 cases(decide (-131072<=x.1)&&decide (x.1<=131072))<;>cases(decide (-131072<=x.2.1)&&decide (x.2.1<=131072))<;>cases(decide (0<=x.2.2)&&decide (x.2.2<=10))<;>cases decide (x.2.2=0)<;>cases decide (x.1%2≠0)<;>simp
def fg(l:Ln):Bool:=(decide (0<=l.1)&&decide (l.1<=7))&&nN l.2
def jk(p:Pt):Bool:=nN p.1&&nN p.2
theorem Du{x:Nm}(h:nN x=true):Bd 131072 10 x:=by
 simp only[nN,Bool.and_eq_true,decide_eq_true_eq]at h
 obtain⟨⟨h1,h2⟩,⟨h3,h4⟩,⟨h5,h6⟩,_⟩:=h
 have:(1:Int)<=2^x.2.2.toNat:=Int.pow_pos (by decide)
 exact⟨h5,by omega,by omega,by omega⟩
theorem Jk{x:Nm}(h:nN x=true):x.can:=by
 simp only[nN,Bool.and_eq_true,Bool.or_eq_true,decide_eq_true_eq]at h
 obtain⟨_,_,⟨h5,h6⟩,h7⟩:=h
 exact⟨h5,h7⟩
def Ru:List Pt:=[((1,(0,0)),(0,(0,0))),((1,(0,0)),(-1,(1,0))),((1,(0,0)),(1,(0,0))),((-1,(1,0)),(1,(0,0))),((0,(0,0)),(1,(0,0))),((1,(-1,0)),(1,(0,0))),((-1,(0,0)),(1,(0,0))),((-1,(0,0)),(-1,(1,0))),
 ((-1,(0,0)),(0,(0,0))),((-1,(0,0)),(1,(-1,0))),((-1,(0,0)),(-1,(0,0))),((1,(-1,0)),(-1,(0,0))),((0,(0,0)),(-1,(0,0))),((-1,(1,0)),(-1,(0,0))),((1,(0,0)),(-1,(0,0))),((1,(0,0)),(1,(-1,0)))]
def aC(d:Int):Pt:=Ru.getD d.toNat ((0,(0,0)),(0,(0,0)))
theorem zH{d:Int}(h0:0<=d)(h1:d<16):d=0\/d=1\/d=2\/d=3\/d=4\/d=5\/d=6\/d=7\/d=8\/d=9\/d=10\/d=11\/d=12\/d=13\/d=14\/d=15:=by omega
theorem na{d:Int}(h0:0<=d)(h1:d<16):cW d=some (aC d)/\ku d=some (aC d):=by
 rcases zH h0 h1 with rfl|rfl|rfl|rfl|rfl|rfl|rfl|rfl|rfl|rfl|rfl|rfl|rfl|rfl|rfl|rfl<;>exact⟨by kernel_rfl,by kernel_rfl⟩
theorem en{d:Int}(h0:0<=d)(h1:d<16):Bd 1 0 (aC d).1/\Bd 1 0 (aC d).2:=by
 rcases zH h0 h1 with rfl|rfl|rfl|rfl|rfl|rfl|rfl|rfl|rfl|rfl|rfl|rfl|rfl|rfl|rfl|rfl<;>(unfold Bd;decide)
theorem Lq(d:Int)(_h0: -1000<=d)(_h1:d<=1000):kw d=some (d%16):=by
 unfold kw oK
 have h2: -16<Int.tmod d 16:=by rw[Int.tmod_eq_emod];split<;>omega
 have h3:Int.tmod d 16<16:=Int.tmod_lt_of_pos d (by decide)
 rw[aG (by omega) (by omega),Int.tmod_eq_emod_of_nonneg (by omega)]
 have:Int.tmod d 16%16=d%16:=by
  rw[Int.tmod_eq_emod]
  split<;>omega
 congr 1
 omega
def cw(v p:Pt):Nm:=ej (kB v.1 p.1) (kB v.2 p.2)
theorem ln{V V':Int}{κ κ':Nat}{v p:Pt}(hV:0<=V)(hv:Bd V κ v.1/\Bd V κ v.2)(hp:Bd V' κ' p.1/\Bd V' κ' p.2):Bd (3*(V*V')+3*(V*V')) (κ+κ') (cw v p):=by
 have:=fC (cX hV hv.1 hp.1) (cX hV hv.2 hp.2)
 rw[Nat.max_self]at this
 exact this
theorem sp{V:Int}{κ:Nat}{d:Int}{p:Pt}(h0:0<=d)(h1:d<16)(hV:0<=V)(hκ:κ<=60)(hp:Bd V κ p.1/\Bd V κ p.2)(h:6*V*2^κ<=4611686018427387904):
 cE d p=some (cw (aC d) p)/\ca (aC d) p=some (cw (aC d) p):=by
 obtain⟨hv1,hv2⟩:=en h0 h1
 have hpw:0<=V*2^κ:=Int.mul_nonneg hV (Int.le_of_lt (Int.pow_pos (by decide)))
 have e:6*V*2^κ=6*(V*2^κ):=Int.mul_assoc ..
 have k3:3*(1*V)*2^(0+κ)<=4611686018427387904:=by
  rw[Nat.zero_add,Int.one_mul,Int.mul_assoc];omega
 have m1:=gu hv1 hp.1 (by decide) (by omega) (by decide) k3
 have m2:=gu hv2 hp.2 (by decide) (by omega) (by decide) k3
 have b1:=cX (V:=1) (by decide) hv1 hp.1
 have b2:=cX (V:=1) (by decide) hv2 hp.2
 have a:=ml b1 b2 (by omega) (by omega) (by omega) (by omega) (by
  rw[Nat.max_self,Nat.zero_add]
  have:(3*(1*V)+3*(1*V))*2^κ=6*(V*2^κ):=by grind
  omega)
 obtain⟨v1,v2⟩:=na h0 h1
 constructor
 ·rw[cE,mh,v1]
  simp only[Option.bind_some,aV,cI,bo,cg]
  rw[m1.1,m2.1]
  simp only[Option.bind_some]
  rw[a.1];rfl
 ·rw[ca,kX,m1.2,m2.2]
  simp only[Option.bind_some]
  rw[a.2];rfl
def kA(p:Pt)(d:Int):Ln:=(d,cw (aC (d+4)) p)
theorem pS{V:Int}{κ:Nat}{d:Int}{p:Pt}(h0:0<=d)(h1:d<8)(hV:0<=V)(hκ:κ<=60)(hp:Bd V κ p.1/\Bd V κ p.2)(h:6*V*2^κ<=4611686018427387904):
 dF p d=some (kA p d):=by
 rw[dF,oB,bH,cU]
 simp only
 rw[aG (n:=d+4) (by omega) (by omega),(na (d:=d+4) (by omega) (by omega)).2]
 simp only[Option.bind_some]
 rw[(sp (by omega) (by omega) hV hκ hp h).2];rfl
theorem Hb(x:Nm):ni x=some x:=rfl
theorem yD{x:Nm}(h:x.can):low x.2.2.toNat x.1 x.2.1=x:=by
 have hk:=h.1
 cases hn:x.2.2.toNat with
 |zero=>
  rw[low]
  have:x.2.2=0:=by omega
  exact Prod.ext rfl (Prod.ext rfl this.symm)
 |succ n=>
  rw[low,if_neg]
  ·exact Prod.ext rfl (Prod.ext rfl (by show((n+1:Nat):Int)=x.2.2;omega))
  ·rintro ⟨h1,h2⟩
   rcases h.2 with h|h|h
   ·omega
   ·exact h h1
   ·exact h h2
theorem Lz{x:Nm}(hc:x.can)(hk:x.2.2<=1000)(ha:ye x.1)(hb:ye x.2.1):bI x=some (cond (nN x) (x,true) ((0,(0,0)),false)):=by
 rw[bI,kD]
 have:=zI (a:=x.1) (b:=x.2.1) hc.1 hk ha hb
 rw[yD hc]at this
 have this:eD x=some x:=this
 rw[this]
 simp only[Option.bind_some,zk]
 cases nN x<;>rfl
def DD(l:Ln):Ln×Int:=cond (nN l.2) (l,0) ((0,(0,(0,0))),2)
theorem kh(p:Pt):cb p=some (jk p):=by
 unfold cb pm jk
 simp only[Option.bind_some,zk]
 cases nN p.1<;>simp
theorem jx(p:Pt):bz p=some (jk p):=by
 unfold bz kl jk
 simp only[Option.bind_some,yv]
 cases nN p.1<;>simp
theorem ek{p:Pt}(h:jk p=true):Bd 131072 10 p.1/\Bd 131072 10 p.2:=by
 simp only[jk,Bool.and_eq_true]at h
 exact⟨Du h.1,Du h.2⟩
theorem Mi{l:Ln}(h:fg l=true):0<=l.1/\l.1<=7:=by
 simp only[fg,Bool.and_eq_true,decide_eq_true_eq]at h
 exact h.1
theorem tF{V:Int}{κ:Nat}{x:Nm}(h:Bd V κ x)(hV:0<=V)(hb:V*2^κ<=4611686018427387904):ye x.1/\ye x.2.1:=by
 have:=h.pow_le hV
 exact⟨⟨by omega,by omega⟩,⟨by omega,by omega⟩⟩
theorem Le(x:Nm):qh x x=some true:=by
 rw[qh,tp]
 simp
theorem PJ(l:Ln):rq l l=some true:=by
 rw[rq,rG,Le]
 simp
theorem Qq(p:Pt):qi p=some p:=by
 rw[qi,qB,Hb,Hb];rfl
theorem oO{d:Int}(h0:0<=d)(h1:d<16):cw (aC d) (aC d)=(1,(0,0))\/cw (aC d) (aC d)=(4,(-2,0))\/cw (aC d) (aC d)=(2,(0,0)):=by
 rcases zH h0 h1 with rfl|rfl|rfl|rfl|rfl|rfl|rfl|rfl|rfl|rfl|rfl|rfl|rfl|rfl|rfl|rfl<;>decide
def pJ(d:Int):Nm:=cw (aC d) (aC d)
theorem ux{d:Int}(h0:0<=d)(h1:d<16):Bd 4 0 (pJ d):=by
 unfold pJ
 rcases oO h0 h1 with h|h|h<;>rw[h]<;>(unfold Bd;decide)
def JB(d:Int):Nat:=(fv 64 ((pJ d).1*(pJ d).1-2*(pJ d).2.1*(pJ d).2.1)).2
theorem Mk{d:Int}(h0:0<=d)(h1:d<16)(x:Nm):tO x (pJ d)=(tP (JB d) x (pJ d),true):=by
 have h:=oO h0 h1
 have hs:pJ d=cw (aC d) (aC d):=rfl
 rw[<-hs]at h
 refine N4 ?_ ?_
 ·unfold JB
  rcases h with h|h|h<;>rw[h]<;>decide
 ·rcases h with h|h|h<;>rw[h]<;>decide
theorem G4{d:Int}(h0:0<=d)(h1:d<16):JB d<=3:=by
 have h:=oO h0 h1
 have hs:pJ d=cw (aC d) (aC d):=rfl
 rw[<-hs]at h
 unfold JB
 rcases h with h|h|h<;>rw[h]<;>decide
theorem Lm{d:Int}(h0:0<=d)(h1:d<16):ca (aC d) (aC d)=some (pJ d):=
 (sp h0 h1 (by decide) (by decide) (en h0 h1) (by decide)).2
def xq(v:Pt)(x:Nm):Pt:=(kB v.1 x,kB v.2 x)
def Ax(p q:Pt):Pt:=(ej p.1 q.1,ej p.2 q.2)
theorem DM{V V':Int}{κ κ':Nat}{v:Pt}{x:Nm}(hV:0<=V)(hv:Bd V κ v.1/\Bd V κ v.2)(hx:Bd V' κ' x):Bd (3*(V*V')) (κ+κ') (xq v x).1/\Bd (3*(V*V')) (κ+κ') (xq v x).2:=
 ⟨cX hV hv.1 hx,cX hV hv.2 hx⟩
theorem OD{V V':Int}{κ κ':Nat}{p q:Pt}(hp:Bd V κ p.1/\Bd V κ p.2)(hq:Bd V' κ' q.1/\Bd V' κ' q.2):Bd (V+V') (max κ κ') (Ax p q).1/\Bd (V+V') (max κ κ') (Ax p q).2:=
 ⟨fC hp.1 hq.1,fC hp.2 hq.2⟩
theorem Fk(x:Nm):ez x=some (decide (x.1=0/\x.2.1=0)):=by
 rw[ez,qM,show(x.1==0)=decide (x.1=0)from rfl,show(x.2.1==0)=decide (x.2.1=0)from rfl]
 by_cases h:x.1=0
 ·rw[bM h,cond_true]
  congr 1
  by_cases h':x.2.1=0
  ·rw[bM h',bM ⟨h,h'⟩]
  ·rw[bX h',bX (fun e=>h' e.2)]
 ·rw[bX h,cond_false,bX (fun e=>h e.1)]
theorem Gu{x:Nm}(hc:x.can):((x.1==0)&&((x.2.1==0)&&((x.2.2==0)&&true)))=decide (x.1=0/\x.2.1=0):=by
 rw[Bool.eq_iff_iff]
 simp only[Bool.and_eq_true,beq_iff_eq,Bool.and_true,decide_eq_true_eq]
 constructor
 ·exact fun h=>⟨h.1,h.2.1⟩
 ·rintro ⟨h1,h2⟩
  refine⟨h1,h2, ?_⟩
  rcases hc.2 with h|h|h
  ·exact h
  ·rw[h1]at h;exact absurd rfl h
  ·rw[h2]at h;exact absurd rfl h
theorem uz{A:Type}{c:Bool}{x y:Option A}(h:∃r,x=some r)(h':∃r,y=some r):∃r,cond c x y=some r:=by
 cases c
 ·exact h'
 ·exact h
theorem zj(a:Int):∃r,fq a=some r:=by
 unfold fq la
 exact uz (uz ⟨_,rfl⟩ ⟨_,rfl⟩) (uz ⟨_,rfl⟩ ⟨_,rfl⟩)
theorem JA(a b:Int):∃r,cS a b=some r:=by
 obtain⟨r,hr⟩:=zj a
 obtain⟨s,hs⟩:=zj b
 unfold cS mZ
 rw[hr,hs]
 exact uz ⟨_,rfl⟩ (uz ⟨_,rfl⟩ ⟨_,rfl⟩)
def QC(r:Bool)(a b:Int):Int:=
 if a=0/\b=0 then 0 else if 0<=a/\0<=b then 1 else if a<=0/\b<=0 then -1 else if r=decide (b>0)then 1 else -1
theorem Es{x:Nm}{r:Bool}(h:cS x.1 x.2.1=some r):dV x=some (QC r x.1 x.2.1):=by
 unfold dV qH QC
 simp only[h,Option.bind_some]
 rw[show(x.1==0)=decide (x.1=0)from rfl,show(x.2.1==0)=decide (x.2.1=0)from rfl,show(r==decide (x.2.1>0))=decide (r=decide (x.2.1>0))from rfl]
 generalize x.1=a
 generalize x.2.1=b
 by_cases h1:a=0<;>by_cases h2:b=0<;>by_cases h3:0<=a<;>by_cases h4:0<=b<;>by_cases h5:a<=0<;>by_cases h6:b<=0<;>first
  |omega
  |(by_cases h7:r=decide (b>0)<;>simp[h1,h2,h3,h4,h5,h6,h7])
def Ep(a:Int):Int:=if a>0 then 1 else if a<0 then -1 else 0
theorem Ll(a:Int):kt a=some (Ep a):=by
 unfold kt oC Ep
 congr 1
 simp only[if_true,Bool.false_eq_true,if_false]
 repeat' split
 all_goals omega
theorem EC(a b:Int):∃r,eJ a b=some r:=by
 unfold eJ jn kr rj er iI
 simp only[Option.bind_some]
 exact uz ⟨_,rfl⟩ (uz ⟨_,rfl⟩ ⟨_,rfl⟩)
def Ro(r:Bool)(a b:Int):Int:=
 if Ep a=Ep b then Ep a else if Ep b=0 then Ep a else if Ep a=0 then Ep b else if r=true then Ep a else Ep b
theorem D1{x:Nm}{r:Bool}(h:eJ x.1 x.2.1=some r):dk x=some (Ro r x.1 x.2.1):=by
 unfold dk lU Ro
 simp only[h,Ll,Option.bind_some]
 rw[show(Ep x.1==Ep x.2.1)=decide (Ep x.1=Ep x.2.1)from rfl,show(Ep x.2.1==0)=decide (Ep x.2.1=0)from rfl,show(Ep x.1==0)=decide (Ep x.1=0)from rfl]
 by_cases h1:Ep x.1=Ep x.2.1
 ·simp[h1]
 ·by_cases h2:Ep x.2.1=0
  ·simp[h2]
  ·by_cases h3:Ep x.1=0
   ·rw[bX h1,bX h2,bM h3,cond_false,cond_false,cond_true,if_neg h1,if_neg h2,if_pos h3]
   ·cases r<;>simp[h1,h2,h3]
theorem Hy(x:Nm):∃s,dV x=some s/\(s=0↔(x.1=0/\x.2.1=0)):=by
 obtain⟨r,hr⟩:=JA x.1 x.2.1
 refine⟨_,Es hr, ?_⟩
 unfold QC
 repeat' split
 all_goals(constructor<;>intro h<;>omega)
theorem ur{a:Int}:Ep a=0↔a=0:=by unfold Ep;repeat' split
                                 all_goals omega
theorem vI(x:Nm):∃s,dk x=some s/\(s=0↔(x.1=0/\x.2.1=0)):=by
 obtain⟨r,hr⟩:=EC x.1 x.2.1
 refine⟨_,D1 hr, ?_⟩
 unfold Ro
 repeat' split
 ·rename_i h;rw[ur];constructor
  ·intro e;exact⟨e,by rw[<-ur,<-h,ur];exact e⟩
  ·exact fun e=>e.1
 ·rename_i h;rw[ur]at h⊢;exact⟨fun e=>⟨e,h⟩,fun e=>e.1⟩
 ·rename_i h;rw[ur]at h⊢;exact⟨fun e=>⟨h,e⟩,fun e=>e.2⟩
 ·rename_i h _;rw[ur]at h⊢;exact⟨fun e=>absurd e h,fun e=>absurd e.1 h⟩
 ·rename_i h _ _;rw[ur]at h⊢;exact⟨fun e=>absurd e h,fun e=>absurd e.2 h⟩
theorem wU{n:Int}(h0:0<=n)(h1:n<18446744073709551616):IntKind.wrap .u64 n=n:=by
 simp only[IntKind.wrap,IntKind.bits,IntKind.signed]
 have:n%(2^64:Int)=n:=by omega
 simp only[this]
 simp
theorem LM{u:Int}(h0:0<=u)(h1:u<4294967296):IntKind.wrap .u64 (((BitVec.toNat ((BitVec.ofInt 64 u)&&&(BitVec.ofInt 64 (4294967295:Int)))):Nat):Int)=u:=by
 have:=IF u 4294967295 (by omega)
 rw[show((4294967295:Nat):Int)=4294967295 from rfl]at this
 rw[this,show(4294967295:Nat)=2^32-1 from rfl,Nat.and_two_pow_sub_one_eq_mod,wU (by omega) (by omega)]
 omega
theorem Lh{u:Int}(h0:0<=u)(h1:u<4294967296):Int.fdiv u ((2:Int)^(Min.min (Int.toNat (32:Int)) 64))=0:=by
 rw[show((2:Int)^(Min.min (Int.toNat (32:Int)) 64))=4294967296 from rfl,Int.fdiv_eq_ediv_of_nonneg _ (by decide)]
 omega
theorem QG{a:Int}(h0: -2147483647<=a)(h1:a<=2147483647):0<=a*a/\a*a<=4611686014132420609:=by
 have:=gz (a:=a) (b:=a) (V:=2147483647) (V':=2147483647) (p:=1) (q:=1) (by decide) (by decide) (by omega) (by omega) (by omega) (by omega)
 refine⟨?_,by omega⟩
 by_cases h:0<=a
 ·exact Int.mul_nonneg h h
 ·have:=Int.mul_nonneg (show 0<= -a by omega) (show 0<= -a by omega)
  rw[Int.neg_mul_neg]at this
  exact this
theorem AE{a:Int}(h0: -2147483647<=a)(h1:a<=2147483647):fq a=some (0,a*a):=by
 have hs:=QG h0 h1
 unfold fq la
 by_cases h:a<0
 ·have eu:IntKind.wrap .u64 (IntKind.wrap .i64 (0-a))= -a:=by rw[aG (by omega) (by omega),wU (by omega) (by omega)];omega
  have hs': -a* -a=a*a:=Int.neg_mul_neg a a
  rw[bM h,cond_true,eu,LM (by omega) (by omega),Lh (by omega) (by omega)]
  simp only[Int.mul_zero,hs']
  rw[wU hs.1 (by omega),wU (n:=0) (by decide) (by decide),Lh (by decide) (by decide),Int.zero_mul,wU (n:=0) (by decide) (by decide),Int.add_zero,wU hs.1 (by omega),bX (by omega),cond_false]
  rfl
 ·have eu:IntKind.wrap .u64 a=a:=wU (by omega) (by omega)
  rw[bX h,cond_false,eu,LM (by omega) (by omega),Lh (by omega) (by omega)]
  simp only[Int.mul_zero]
  rw[wU hs.1 (by omega),wU (n:=0) (by decide) (by decide),Lh (by decide) (by decide),Int.zero_mul,wU (n:=0) (by decide) (by decide),Int.add_zero,wU hs.1 (by omega),bX (by omega),cond_false]
  rfl
theorem QP{u:Int}(h0:0<=u)(h1:u<=4611686014132420609):Int.fdiv u ((2:Int)^(Min.min (Int.toNat (63:Int)) 64))=0:=by
 rw[show((2:Int)^(Min.min (Int.toNat (63:Int)) 64))=9223372036854775808 from rfl,Int.fdiv_eq_ediv_of_nonneg _ (by decide)]
 omega
theorem Ku{a b:Int}(h0: -2147483647<=a)(h1:a<=2147483647)(h2: -2147483647<=b)(h3:b<=2147483647):cS a b=some (decide (a*a<2*(b*b))):=by
 have ha:=QG h0 h1
 have hb:=QG h2 h3
 unfold cS mZ
 rw[AE h0 h1,AE h2 h3]
 simp only[Option.bind_some]
 rw[QP hb.1 hb.2,Int.zero_mul,wU (n:=0) (by decide) (by decide),Int.add_zero,wU (n:=0) (by decide) (by decide),bX (by decide),cond_false,wU (n:=b*b*2) (by omega) (by omega),Int.mul_comm (b*b) 2]
 rfl
theorem FT{a:Int}(h0: -2147483647<=a)(h1:a<=2147483647):kr a=some (if a<0 then -a else a):=by
 unfold kr rj
 congr 1
 simp only[if_true]
 rw[aG (n:=0-a) (by omega) (by omega)]
 repeat' split
 all_goals omega
theorem Ov{u:Int}(h0:0<=u)(h1:u<=2147483647):er u u=some (0,u*u):=by
 have hs:=QG (a:=u) (by omega) h1
 unfold er iI
 rw[LM h0 (by omega),Lh h0 (by omega)]
 simp only[Int.zero_mul,Int.mul_zero]
 rw[wU (n:=0) (by decide) (by decide),Int.zero_add,wU hs.1 (by omega)]
 have hf:0<=Int.fdiv (u*u) ((2:Int)^(Min.min (Int.toNat (32:Int)) 64))/\Int.fdiv (u*u) ((2:Int)^(Min.min (Int.toNat (32:Int)) 64))<4294967296:=by
  rw[show((2:Int)^(Min.min (Int.toNat (32:Int)) 64))=4294967296 from rfl,Int.fdiv_eq_ediv_of_nonneg _ (by decide)]
  omega
 generalize Int.fdiv (u*u) ((2:Int)^(Min.min (Int.toNat (32:Int)) 64))=t at*
 rw[Int.zero_add,wU (n:=t) (by omega) (by omega),Lh (u:=t) (by omega) (by omega),LM (u:=t) (by omega) (by omega),Int.add_zero,wU (n:=t) (by omega) (by omega),Lh (u:=t) (by omega) (by omega)]
 rfl
theorem FW{a b:Int}(h0: -2147483647<=a)(h1:a<=2147483647)(h2: -2147483647<=b)(h3:b<=2147483647):eJ a b=some (decide (a*a>2*(b*b))):=by
 have ha:=QG h0 h1
 have hb:=QG h2 h3
 have ab:∀c:Int, -2147483647<=c->c<=2147483647->er (IntKind.wrap .u64 (if c<0 then -c else c)) (IntKind.wrap .u64 (if c<0 then -c else c))=some (0,c*c):=by
  intro c k0 k1
  rw[wU (by split<;>omega) (by split<;>omega),Ov (by split<;>omega) (by split<;>omega)]
  split
  ·rw[Int.neg_mul_neg]
  ·rfl
 unfold eJ jn
 simp only[FT h0 h1,FT h2 h3,Option.bind_some,ab a h0 h1,ab b h2 h3]
 rw[QP hb.1 hb.2,Int.zero_mul,wU (n:=0) (by decide) (by decide)]
 have hz:IntKind.wrap IntKind.u64 (((BitVec.toNat ((BitVec.ofInt 64 (0:Int))|||(BitVec.ofInt 64 (0:Int)))):Nat):Int)=0:=by decide
 rw[hz,bX (by decide),cond_false,show((2:Int)^(Min.min (Int.toNat (1:Int)) 64))=2 from rfl,wU (n:=b*b*2) (by omega) (by omega),Int.mul_comm (b*b) 2]
 rfl
theorem OS:∀(n:Nat) (a b:Int),a.natAbs<=n->a*a=2*(b*b)->a=0
 |0,a,b,h,_=>by omega
 |n+1,a,b,h,e=>by
  by_cases h0:a=0
  ·exact h0
  ·exfalso
   have ha:a%2=0:=by
    by_cases h2:a%2=0
    ·exact h2
    ·have:(a*a)%2=1:=by rw[Int.mul_emod,show a%2=1 by omega];rfl
     omega
   have ea:a=2*(a/2):=by omega
   have e2:b*b=2*((a/2)*(a/2)):=by
    have:a*a=4*((a/2)*(a/2)):=by
     conv=>lhs;rw[ea]
     grind
    omega
   have hb:b%2=0:=by
    by_cases h2:b%2=0
    ·exact h2
    ·have:(b*b)%2=1:=by rw[Int.mul_emod,show b%2=1 by omega];rfl
     omega
   have eb:b=2*(b/2):=by omega
   have e3:(a/2)*(a/2)=2*((b/2)*(b/2)):=by
    have:b*b=4*((b/2)*(b/2)):=by
     conv=>lhs;rw[eb]
     grind
    omega
   have:=OS n (a/2) (b/2) (by omega) e3
   omega
def Er(x:Nm):Int:=QC (decide (x.1*x.1<2*(x.2.1*x.2.1))) x.1 x.2.1
theorem Jy{x:Nm}(h0: -2147483647<=x.1)(h1:x.1<=2147483647)(h2: -2147483647<=x.2.1)(h3:x.2.1<=2147483647):dV x=some (Er x)/\dk x=some (Er x):=by
 refine⟨Es (Ku h0 h1 h2 h3),(D1 (FW h0 h1 h2 h3)).trans ?_⟩
 congr 1
 unfold Er Ro QC
 have hne:x.1*x.1=2*(x.2.1*x.2.1)->x.1=0:=OS _ _ _ (Nat.le_refl _)
 have hsq:∀a:Int,a≠0->0<a*a:=by
  intro a ha
  by_cases h:0<a
  ·exact Int.mul_pos h h
  ·have:=Int.mul_pos (show 0< -a by omega) (show 0< -a by omega)
   rw[Int.neg_mul_neg]at this
   exact this
 generalize hp:x.1*x.1=p at*
 generalize hq:x.2.1*x.2.1=q at*
 have k1:=hsq x.1
 have k2:=hsq x.2.1
 rw[hp]at k1
 rw[hq]at k2
 generalize x.1=a at*
 generalize x.2.1=b at*
 unfold Ep
 by_cases l1:p<2*q
 ·have l2:¬p>2*q:=by omega
  simp only[l1,l2,decide_true,decide_false]
  by_cases a0:a>0<;>by_cases a1:a<0<;>by_cases b0:b>0<;>by_cases b1:b<0<;>first
   |omega
   |(simp[a0,a1,b0,b1];try omega)
 ·by_cases l2:p>2*q
  ·simp only[l1,l2,decide_true,decide_false]
   by_cases a0:a>0<;>by_cases a1:a<0<;>by_cases b0:b>0<;>by_cases b1:b<0<;>first
    |omega
    |(simp[a0,a1,b0,b1];try omega)
  ·have ha0:a=0:=hne (by omega)
   have hb0:b=0:=by
    by_cases hb:b=0
    ·exact hb
    ·have hq0:=k2 hb
     have hp0:p=0:=by rw[<-hp,ha0];rfl
     omega
   rw[ha0,hb0]
   simp
theorem Kw{d:Int}(h0:0<=d)(h1:d<=900):cW d=cW (d%16):=by
 rw[cW,mi,cW,mi,Lq d (by omega) (by omega),Lq (d%16) (by omega) (by omega),show d%16%16=d%16 by omega]
theorem Kt{d:Int}(h0:0<=d)(h1:d<=900)(p:Pt):cE d p=cE (d%16) p:=by
 rw[cE,mh,cE,mh,Kw h0 h1]
theorem OT{d:Int}(h0:0<=d)(h1:d<16):(aC ((d+4)%16)).1=Hr (aC d).2/\(aC ((d+4)%16)).2=(aC d).1:=by
 rcases zH h0 h1 with rfl|rfl|rfl|rfl|rfl|rfl|rfl|rfl|rfl|rfl|rfl|rfl|rfl|rfl|rfl|rfl<;>decide
theorem NY{d:Int}(h0:0<=d)(h1:d<16)(p:Pt):kG (kB (aC d).1 p.2) (kB (aC d).2 p.1)=cw (aC ((d+4)%16)) p:=by
 obtain⟨e1,e2⟩:=OT h0 h1
 unfold cw
 rw[e1,e2]
 refine kq (Ky _ _) (ep _ _) ?_ ?_
 ·simp only[mC,iv,ly,Jf,Jg];grind
 ·simp only[mD,iw,lz,Jf,Jg];grind
theorem NZ{V:Int}{κ:Nat}{d:Int}{p:Pt}(h0:0<=d)(h1:d<16)(hV:0<=V)(hκ:κ<=60)(hp:Bd V κ p.1/\Bd V κ p.2)(h:6*V*2^κ<=4611686018427387904):
 ey (aC d) p=some (cw (aC ((d+4)%16)) p):=by
 obtain⟨hv1,hv2⟩:=en h0 h1
 have hpw:0<=V*2^κ:=Int.mul_nonneg hV (Int.le_of_lt (Int.pow_pos (by decide)))
 have e:6*V*2^κ=6*(V*2^κ):=Int.mul_assoc ..
 have k3:3*(1*V)*2^(0+κ)<=4611686018427387904:=by
  rw[Nat.zero_add,Int.one_mul,Int.mul_assoc];omega
 have m1:=gu hv1 hp.2 (by decide) (by omega) (by decide) k3
 have m2:=gu hv2 hp.1 (by decide) (by omega) (by decide) k3
 have b1:=cX (V:=1) (by decide) hv1 hp.2
 have b2:=cX (V:=1) (by decide) hv2 hp.1
 have a:=lC b1 b2 (by omega) (by omega) (by omega) (by omega) (by
  rw[Nat.max_self,Nat.zero_add]
  have:(3*(1*V)+3*(1*V))*2^κ=6*(V*2^κ):=by grind
  omega)
 rw[ey,gP,m1.2,Option.bind_some,m2.2,Option.bind_some,a.2,NY h0 h1]
 rfl
def FY(d:Int)(p:Pt):Bool:=decide ((cw (aC ((d+4)%16)) p).1=0/\(cw (aC ((d+4)%16)) p).2.1=0)&&decide (Er (cw (aC d) p)>0)
def EA:Nat->Int->Pt->Option Int
 |0,_,_=>none
 |n+1,d,p=>cond (FY d p) (some d) (EA n (d+1) p)
theorem IQ:∀(n:Nat) (d:Int) (p:Pt) (r:Int),EA n d p=some r->d<=r/\r<d+n
 |0,_,_,_,h=>by cases h
 |n+1,d,p,r,h=>by
  rw[EA]at h
  cases hc:FY d p
  ·rw[hc]at h
   have:=IQ n (d+1) p r h
   omega
  ·rw[hc]at h
   simp only[cond_true,Option.some.injEq]at h
   omega
theorem LU{p:Pt}(hp:Bd 262144 10 p.1/\Bd 262144 10 p.2){d:Int}(h0:0<=d)(h1:d<16):(-2147483647<=(cw (aC d) p).1/\(cw (aC d) p).1<=2147483647)/\(-2147483647<=(cw (aC d) p).2.1/\(cw (aC d) p).2.1<=2147483647):=by
 have hb:=ln (V:=1) (by decide) (en h0 h1) hp
 have:=hb.pow_le (by decide)
 have e:(3*(1*262144)+3*(1*262144):Int)*2^(0+10)=1610612736:=by decide
 rw[e]at this
 omega
theorem CJ{p:Pt}(hp:Bd 262144 10 p.1/\Bd 262144 10 p.2):∀(n:Nat) (d:Int),0<=d->d+n=16->
 gE (eU d p.1.1 p.1.2.1 p.1.2.2 p.2.1 p.2.2.1 p.2.2.2)=some (match EA n d p with|some r=>.inl (pM r)|none=>.inr (.inl pN))
 |0,d,h0,h1=>by
  rw[qQ,el,bX (by omega),cond_false];rfl
 |n+1,d,h0,h1=>by
  have hd:=sp (d:=d) h0 (by omega) (by decide) (by decide) hp (by decide)
  have hd4:=sp (d:=(d+4)%16) (by omega) (by omega) (by decide) (by decide) hp (by decide)
  have hs:=LU hp h0 (show d<16 by omega)
  have IH:=CJ hp n (d+1) (by omega) (by omega)
  rw[qQ,el,bM (by omega),cond_true,aG (n:=d+4) (by omega) (by omega),Kt (by omega) (by omega)]
  try simp only
  rw[hd4.1,Option.bind_some,Fk,Option.bind_some,EA]
  unfold FY
  by_cases hz:(cw (aC ((d+4)%16)) p).1=0/\(cw (aC ((d+4)%16)) p).2.1=0
  ·rw[bM hz,cond_true,hd.1,Option.bind_some,(Jy hs.1.1 hs.1.2 hs.2.1 hs.2.2).1,Option.bind_some,Bool.true_and]
   by_cases hg:Er (cw (aC d) p)>0
   ·rw[bM hg,cond_true,cond_true];rfl
   ·rw[bX hg,cond_false,cond_false,aG (n:=d+1) (by omega) (by omega)]
    exact IH
  ·rw[bX hz,cond_false,Bool.false_and,cond_false,aG (n:=d+1) (by omega) (by omega)]
   exact IH
theorem BW{p:Pt}(hp:Bd 262144 10 p.1/\Bd 262144 10 p.2):∀(n:Nat) (d:Int),0<=d->d+n=16->
 fo (gO d p.1.1 p.1.2.1 p.1.2.2 p.2.1 p.2.2.1 p.2.2.2)=some (match EA n d p with|some r=>.inl (rP r)|none=>.inr (.inl rQ))
 |0,d,h0,h1=>by
  rw[sZ,fm,bX (by omega),cond_false];rfl
 |n+1,d,h0,h1=>by
  have hd:=sp (d:=d) h0 (by omega) (by decide) (by decide) hp (by decide)
  have hc:=NZ (d:=d) h0 (by omega) (by decide) (by decide) hp (by decide)
  have hs:=LU hp h0 (show d<16 by omega)
  have IH:=BW hp n (d+1) (by omega) (by omega)
  rw[sZ,fm,bM (by omega),cond_true,(na h0 (show d<16 by omega)).2,Option.bind_some]
  try simp only
  rw[hc,Option.bind_some,Gu (show(cw (aC ((d+4)%16)) p).can from ep _ _),EA]
  unfold FY
  by_cases hz:(cw (aC ((d+4)%16)) p).1=0/\(cw (aC ((d+4)%16)) p).2.1=0
  ·rw[bM hz,cond_true,hd.2,Option.bind_some,(Jy hs.1.1 hs.1.2 hs.2.1 hs.2.2).2,Option.bind_some,Bool.true_and]
   by_cases hg:Er (cw (aC d) p)>0
   ·rw[bM hg,cond_true,cond_true];rfl
   ·rw[bX hg,cond_false,cond_false,aG (n:=d+1) (by omega) (by omega)]
    exact IH
  ·rw[bX hz,cond_false,Bool.false_and,cond_false,aG (n:=d+1) (by omega) (by omega)]
   exact IH
def EZ(p q:Pt):Pt:=(kG p.1 q.1,kG p.2 q.2)
theorem Ml{p q:Pt}(hp:jk p=true)(hq:jk q=true):Bd 262144 10 (EZ p q).1/\Bd 262144 10 (EZ p q).2:=by
 have bp:=ek hp
 have bq:=ek hq
 exact⟨rE bp.1 bq.1,rE bp.2 bq.2⟩
def zM(p q:Pt):Option Int:=EA 16 0 (EZ q p)
theorem G1{p q:Pt}(hp:jk p=true)(hq:jk q=true):(gl q p).bind (fun v=>ga v)=some (match zM p q with|some d=>d|none=> -1):=by
 have bp:=ek hp
 have bq:=ek hq
 have hb:=Ml hq hp
 have s1:=lC bq.1 bp.1 (by decide) (by decide) (by decide) (by decide) (by decide)
 have s2:=lC bq.2 bp.2 (by decide) (by decide) (by decide) (by decide) (by decide)
 rw[gl,lY,s1.1,Option.bind_some,s2.1,Option.bind_some,Option.bind_some,ga,kK]
 have hl:=CJ hb 16 0 (by decide) (by decide)
 unfold zM
 have hl':gE (eU 0 (kG q.1 p.1).1 (kG q.1 p.1).2.1 (kG q.1 p.1).2.2 (kG q.2 p.2).1 (kG q.2 p.2).2.1 (kG q.2 p.2).2.2)=_:=hl
 rw[hl']
 cases EA 16 0 (EZ q p)<;>rfl
theorem FU{p q:Pt}(hp:jk p=true)(hq:jk q=true):gK p q=some (match zM p q with|some d=>d|none=> -1):=by
 have bp:=ek hp
 have bq:=ek hq
 have hb:=Ml hq hp
 have s1:=lC bq.1 bp.1 (by decide) (by decide) (by decide) (by decide) (by decide)
 have s2:=lC bq.2 bp.2 (by decide) (by decide) (by decide) (by decide) (by decide)
 rw[gK,kZ,jt,jF,s1.2,Option.bind_some,s2.2,Option.bind_some,Option.bind_some]
 have hl:=BW hb 16 0 (by decide) (by decide)
 unfold zM
 have hl':fo (gO 0 (kG q.1 p.1).1 (kG q.1 p.1).2.1 (kG q.1 p.1).2.2 (kG q.2 p.2).1 (kG q.2 p.2).2.1 (kG q.2 p.2).2.2)=_:=hl
 rw[hl']
 cases EA 16 0 (EZ q p)<;>rfl
theorem E6{p q:Pt}{d:Int}(h:zM p q=some d):0<=d/\d<16:=by
 have:=IQ 16 0 _ _ h
 omega
def Ha(p q:Pt):Ln×Int:=cond (jk p&&jk q) (match zM p q with|some d=>DD (kA p (d%8))|none=>((0,(0,(0,0))),7)) ((0,(0,(0,0))),1)
theorem QF(p q:Pt):lq p q=some (Ha p q):=by
 rw[lq,lI,kh,kh]
 unfold Ha
 simp only[Option.bind_some]
 cases hp:jk p
 ·rfl
 cases hq:jk q
 ·rfl
 have hb:=ek hp
 simp only[Bool.not_true,cond_false,Bool.and_self,cond_true,aV,cI,bo,cg,Option.bind_some]
 have hd:=G1 hp hq
 rw[Option.bind_eq_some_iff]at hd
 obtain⟨v,h1,h2⟩:=hd
 rw[h1,Option.bind_some,h2,Option.bind_some]
 cases hdn:zM p q with
 |none=>rfl
 |some d=>
  have hdb:=E6 hdn
  try simp only
  rw[bX (show¬d<0 by omega),cond_false,Int.tmod_eq_emod_of_nonneg (by omega),ru,rI,kh,hp]
  simp only[Option.bind_some,Bool.not_true,cond_false,IZ]
  rw[bM (show 0<=d%8 by omega),bM (show d%8<=7 by omega)]
  simp only[Bool.and_self,Bool.not_true,cond_false,aV,cI,bo,cg,Option.bind_some]
  rw[aG (n:=d%8+4) (by omega) (by omega)]
  have hdot:=(sp (d:=d%8+4) (by omega) (by omega) (by decide) (by decide) hb (by decide)).1
  have hbd:=ln (V:=1) (by decide) (en (d:=d%8+4) (by omega) (by omega)) hb
  have hi:=tF hbd (by decide) (by decide)
  rw[hdot,Option.bind_some,Lz (x:=cw (aC (d%8+4)) p) (ep _ _) (by have:=hbd.2.1;exact Int.le_trans this (by decide)) hi.1 hi.2]
  unfold DD kA
  simp only[Option.bind_some]
  cases nN (cw (aC (d%8+4)) p)<;>rfl
theorem MN(p q:Pt):gG p q=some (Ha p q):=by
 rw[gG,jB,jx,jx]
 unfold Ha
 simp only[Option.bind_some]
 cases hp:jk p
 ·rfl
 cases hq:jk q
 ·rfl
 have hb:=ek hp
 simp only[Bool.not_true,cond_false,Bool.and_self,cond_true]
 rw[FU hp hq,Option.bind_some]
 cases hdn:zM p q with
 |none=>rfl
 |some d=>
  have hdb:=E6 hdn
  try simp only
  rw[bX (show¬d<0 by omega),cond_false,Int.tmod_eq_emod_of_nonneg (by omega),pS (d:=d%8) (by omega) (by omega) (by decide) (by decide) hb (by decide),Option.bind_some,yv,Option.bind_some]
  unfold DD kA
  cases nN (cw (aC (d%8+4)) p)<;>rfl
theorem eW(l:Ln):aX l=some (fg l):=by
 unfold aX kY fg
 simp only[LZ,Option.bind_some,yv]
 cases(decide (0<=l.1)&&decide (l.1<=7))<;>simp
theorem rk{V:Int}{κ:Nat}{d:Int}{p:Pt}(h0: -1000<=d)(h1:d<=1000)(hV:0<=V)(hκ:κ<=60)(hp:Bd V κ p.1/\Bd V κ p.2)(h:6*V*2^κ<=4611686018427387904):
 dn p d=some (kA p (d%8)):=by
 rw[dn,mH,Lq d h0 h1]
 simp only[Option.bind_some]
 rw[Int.tmod_eq_emod_of_nonneg (by omega),show d%16%8=d%8 by omega,aG (n:=d%8+4) (by omega) (by omega)]
 rw[(sp (by omega) (by omega) hV hκ hp h).1];rfl
theorem G3{l:Ln}(hc:l.2.can)(hk:l.2.2.2<=1000)(ha:ye l.2.1)(hb:ye l.2.2.1):ky l=some (DD l):=by
 rw[ky,rL,fP,ld,Lz hc hk ha hb]
 unfold DD
 simp only[Option.bind_some]
 cases nN l.2<;>rfl
theorem FX{l:Ln}(h0:0<=l.1)(h1:l.1<=7):eS l true=some (DD l):=by
 rw[eS,km,eW]
 unfold DD fg
 rw[bM h0,bM h1]
 simp only[Option.bind_some,Bool.not_true,cond_false,Bool.and_self,Bool.true_and]
 cases nN l.2<;>rfl
theorem Jo{V V':Int}{κ κ':Nat}{p q:Pt}(hp:Bd V κ p.1/\Bd V κ p.2)(hq:Bd V' κ' q.1/\Bd V' κ' q.2)(hV:0<=V)(hV':0<=V')(hκ:κ<=60)(hκ':κ'<=60)(h:(V+V')*2^(max κ κ')<=4611686018427387904):
 fM p q=some (Ax p q):=by
 rw[fM,kk,(ml hp.1 hq.1 hV hV' hκ hκ' h).2,(ml hp.2 hq.2 hV hV' hκ hκ' h).2];rfl
def lj(x:Nm):Nm:=(x.1,(x.2.1,x.2.2+1))
theorem tW{V:Int}{κ:Nat}{x:Nm}(hV:0<=V)(h:Bd V κ x):Bd V (κ+1) (lj x):=by
 obtain⟨h1,h2,h3,h4⟩:=h
 have e:(x.2.2+1).toNat=x.2.2.toNat+1:=by omega
 have hp:0<=V*2^x.2.2.toNat:=Int.mul_nonneg hV (Int.le_of_lt (Int.pow_pos (by decide)))
 have e2:V*2^(x.2.2.toNat+1)=2*(V*2^x.2.2.toNat):=by rw[Int.pow_succ];grind
 refine⟨?_, ?_, ?_, ?_⟩
 ·show 0<=x.2.2+1;omega
 ·show x.2.2+1<=((κ+1:Nat):Int);omega
 ·show -(V*2^(x.2.2+1).toNat)<=x.1/\x.1<=V*2^(x.2.2+1).toNat
  rw[e,e2];omega
 ·show -(V*2^(x.2.2+1).toNat)<=x.2.1/\x.2.1<=V*2^(x.2.2+1).toNat
  rw[e,e2];omega
theorem yp{x:Nm}(h:0<=x.2.2):vA (lj x)=vA x/2:=by
 have e:(x.2.2+1).toNat=x.2.2.toNat+1:=by omega
 show(x.1:Rat)/2^(x.2.2+1).toNat=vA x/2
 unfold vA
 rw[e,Rat.pow_succ]
 have:=aY x.2.2.toNat
 grind
theorem yq{x:Nm}(h:0<=x.2.2):vB (lj x)=vB x/2:=by
 have e:(x.2.2+1).toNat=x.2.2.toNat+1:=by omega
 show(x.2.1:Rat)/2^(x.2.2+1).toNat=vB x/2
 unfold vB
 rw[e,Rat.pow_succ]
 have:=aY x.2.2.toNat
 grind
theorem CK(x:Nm)(h0:0<=x.2.2)(h:x.2.2<=1000):hZ x=some (lj x):=by
 rw[hZ,qN,aG (n:=x.2.2+1) (by omega) (by omega)];rfl
theorem yu{V:Int}{κ:Nat}{x:Nm}(hx:Bd V κ x)(hV:0<=V)(hκ:κ<=60)(h:V*2^κ<=4611686018427387904):gj x=some (low (x.2.2.toNat+1) x.1 x.2.1):=by
 have hi:=tF hx hV h
 have h1:=hx.1
 have h2:=hx.2.1
 rw[gj,lS,aG (n:=x.2.2+1) (by omega) (by omega),BX (by omega) (by omega) hi.1 hi.2,show(x.2.2+1).toNat=x.2.2.toNat+1 by omega]
 rfl
def om(p q:Pt):Pt:=(low ((ej p.1 q.1).2.2.toNat+1) (ej p.1 q.1).1 (ej p.1 q.1).2.1,low ((ej p.2 q.2).2.2.toNat+1) (ej p.2 q.2).1 (ej p.2 q.2).2.1)
theorem mO{x:Nm}(h:0<=x.2.2):vA (low (x.2.2.toNat+1) x.1 x.2.1)=vA (lj x):=by
 rw[yp h,sB]
 unfold vA
 rw[Rat.pow_succ]
 have:=aY x.2.2.toNat
 grind
theorem mP{x:Nm}(h:0<=x.2.2):vB (low (x.2.2.toNat+1) x.1 x.2.1)=vB (lj x):=by
 rw[yq h,sC]
 unfold vB
 rw[Rat.pow_succ]
 have:=aY x.2.2.toNat
 grind
theorem pR{V:Int}{κ:Nat}{x:Nm}(hV:0<=V)(hx:Bd V κ x):Bd V (κ+1) (low (x.2.2.toNat+1) x.1 x.2.1):=by
 have h:=tW hV hx
 obtain⟨h1,h2,h3,h4⟩:=h
 have k0:=hx.1
 have k1:=hx.2.1
 have e:(lj x).2.2.toNat=x.2.2.toNat+1:=by show(x.2.2+1).toNat=_;omega
 rw[e]at h3 h4
 exact(AY (V:=V) _ _ _ h3.1 h3.2 h4.1 h4.2).mono (Int.le_refl _) (by omega)
theorem N5(v:Pt){x y:Nm}(hx:0<=x.2.2)(hy:0<=y.2.2):cw v (lj x,lj y)=cw v (low (x.2.2.toNat+1) x.1 x.2.1,low (y.2.2.toNat+1) y.1 y.2.1):=by
 unfold cw
 refine kq (ep _ _) (ep _ _) ?_ ?_
 ·simp only[iv,ly,mO hx,mO hy,mP hx,mP hy]
 ·simp only[iw,lz,mO hx,mO hy,mP hx,mP hy]
def Gw(p q:Pt):Ln×Int:=cond (jk p&&jk q) (match zM p q with|some d=>DD (kA (om p q) ((d+4)%8))|none=>((0,(0,(0,0))),7)) ((0,(0,(0,0))),1)
theorem QE(p q:Pt):oT p q=some (Gw p q):=by
 rw[oT,pj,kh,kh]
 unfold Gw
 simp only[Option.bind_some]
 cases hp:jk p
 ·rfl
 cases hq:jk q
 ·rfl
 have bp:=ek hp
 have bq:=ek hq
 simp only[Bool.not_true,cond_false,Bool.and_self,cond_true,aV,cI,bo,cg,Option.bind_some]
 have hd:=G1 hp hq
 rw[Option.bind_eq_some_iff]at hd
 obtain⟨v,h1,h2⟩:=hd
 rw[h1,Option.bind_some,h2,Option.bind_some]
 cases hdn:zM p q with
 |none=>rfl
 |some d=>
  have hdb:=E6 hdn
  try simp only
  rw[bX (show¬d<0 by omega),cond_false]
  have a1:=(ml bp.1 bq.1 (by decide) (by decide) (by decide) (by decide) (by decide)).1
  have a2:=(ml bp.2 bq.2 (by decide) (by decide) (by decide) (by decide) (by decide)).1
  have b1:=fC bp.1 bq.1
  have b2:=fC bp.2 bq.2
  have c1:=b1.1
  have c2:=b2.1
  have hb1:=tW (by decide) b1
  have hb2:=tW (by decide) b2
  rw[a1,Option.bind_some,CK _ c1 (by have:=b1.2.1;exact Int.le_trans this (by decide)),Option.bind_some,a2,Option.bind_some,CK _ c2 (by have:=b2.2.1;exact Int.le_trans this (by decide)),Option.bind_some,
   aG (n:=d+4) (by omega) (by omega),rk (p:=(lj (ej p.1 q.1),lj (ej p.2 q.2))) (by omega) (by omega) (by decide) (by decide) ⟨hb1,hb2⟩ (by decide),Option.bind_some]
  have hl:kA (lj (ej p.1 q.1),lj (ej p.2 q.2)) ((d+4)%8)=kA (om p q) ((d+4)%8):=by
   unfold kA om
   rw[N5 _ c1 c2]
  rw[hl]
  have hbd:=ln (V:=1) (by decide) (en (d:=(d+4)%8+4) (by omega) (by omega)) (p:=om p q) ⟨pR (by decide) b1,pR (by decide) b2⟩
  have hi:=tF hbd (by decide) (by decide)
  rw[G3 (l:=kA (om p q) ((d+4)%8)) (ep _ _) (by have:=hbd.2.1;exact Int.le_trans this (by decide)) hi.1 hi.2]
  rfl
theorem MM(p q:Pt):gi p q=some (Gw p q):=by
 rw[gi,lR,jx,jx]
 unfold Gw
 simp only[Option.bind_some]
 cases hp:jk p
 ·rfl
 cases hq:jk q
 ·rfl
 have bp:=ek hp
 have bq:=ek hq
 simp only[Bool.not_true,cond_false,Bool.and_self,cond_true]
 rw[FU hp hq,Option.bind_some]
 cases hdn:zM p q with
 |none=>rfl
 |some d=>
  have hdb:=E6 hdn
  try simp only
  have b1:=fC bp.1 bq.1
  have b2:=fC bp.2 bq.2
  rw[bX (show¬d<0 by omega),cond_false,ks,mg,Jo bp bq (by decide) (by decide) (by decide) (by decide) (by decide),Option.bind_some]
  unfold Ax
  try simp only
  rw[yu b1 (by decide) (by decide) (by decide),Option.bind_some,yu b2 (by decide) (by decide) (by decide),Option.bind_some,Option.bind_some,
   aG (n:=d+4) (by omega) (by omega),Int.tmod_eq_emod_of_nonneg (by omega)]
  have hl:=pS (d:=(d+4)%8) (p:=om p q) (by omega) (by omega) (by decide) (by decide) ⟨pR (by decide) b1,pR (by decide) b2⟩ (by decide)
  unfold om at hl⊢
  rw[hl,Option.bind_some,FX (l:=kA _ ((d+4)%8)) (by show 0<=(d+4)%8;omega) (by show(d+4)%8<=7;omega)]
  rfl
theorem kQ(l:Ln):cC l=some (fg l):=by
 unfold cC qJ fg
 simp only[IZ,Option.bind_some,zk]
 cases(decide (0<=l.1)&&decide (l.1<=7))<;>simp
theorem QH(l:Ln):rr l=some l:=by
 rw[rr,rH,Hb];rfl
theorem Mn(a m:Int):(Int.tmod a m !=0)=decide (a%m≠0):=by
 have:(Int.tmod a m=0)↔(a%m=0):=by rw[<-Int.dvd_iff_tmod_eq_zero,<-Int.dvd_iff_emod_eq_zero]
 rw[bne,show(Int.tmod a m==0)=decide (Int.tmod a m=0)from rfl]
 by_cases h:a%m=0
 ·rw[bM (this.2 h),bX (fun e=>e h)];rfl
 ·rw[bX (fun e=>h (this.1 e)),bM h];rfl
theorem E9{a m:Int}(hm:m≠0)(h:a%m=0)(h1: -4611686018427387904<=a)(h2:a<=4611686018427387904):IntKind.wrap .i64 (Int.tdiv a m)=a/m/\ye (a/m):=by
 have hd:m∣a:=Int.dvd_iff_emod_eq_zero.2 h
 rw[Int.tdiv_eq_ediv_of_dvd hd]
 have e:a=m*(a/m):=by have:=Int.mul_ediv_add_emod a m;omega
 have hn:(a/m).natAbs<=a.natAbs:=by
  have e2:a.natAbs=m.natAbs*(a/m).natAbs:=by rw[<-Int.natAbs_mul,<-e]
  rw[e2]
  exact Nat.le_mul_of_pos_left _ (by omega)
 have hi:ye (a/m):=⟨by omega,by omega⟩
 exact⟨wI hi,hi⟩
theorem AD(c1 c2 c3 c4 c5 c6 A B:Int):∀(n:Nat) (x k:Int),n<=64->x≠0-> -(2^n)<x->x<2^n->ye x->0<=k->k+n<=1000->
 pn (oZ x c1 c2 c3 c4 c5 c6 A B k)=some (.inl (uN (fv n x).1 c1 c2 c3 c4 c5 c6 A B (k+(fv n x).2)))
 |0,x,k,hn,h0,h1,h2,hi,hk,hk'=>by simp at h1 h2;omega
 |n+1,x,k,hn,h0,h1,h2,hi,hk,hk'=>by
  have i1:=hi.1
  have i2:=hi.2
  rw[DP,jU,KC,fv]
  rw[Int.pow_succ]at h1 h2
  by_cases h:x%2=0
  ·rw[bM h,cond_true,if_pos h,Is h,aG (n:=x/2) (by omega) (by omega),aG (n:=k+1) (by omega) (by omega)]
   refine(AD c1 c2 c3 c4 c5 c6 A B n (x/2) (k+1) (by omega) (by omega) (by omega) (by omega) ⟨by omega,by omega⟩ (by omega) (by omega)).trans ?_
   simp only
   rw[show k+1+((fv n (x/2)).2:Int)=k+(((fv n (x/2)).2+1:Nat):Int) by omega]
  ·rw[bX h,cond_false,if_neg h]
   simp;rfl
theorem Am(c1 c2 c3 A B:Int):∀(n:Nat) (x k:Int),n<=64->x≠0-> -(2^n)<x->x<2^n->ye x->0<=k->k+n<=1000->
 iK (mB x c1 c2 c3 A B k)=some (.inl (sM (fv n x).1 c1 c2 c3 A B (k+(fv n x).2)))
 |0,x,k,hn,h0,h1,h2,hi,hk,hk'=>by simp at h1 h2;omega
 |n+1,x,k,hn,h0,h1,h2,hi,hk,hk'=>by
  have i1:=hi.1
  have i2:=hi.2
  rw[Br,iJ,O5,fv,show(x%2==0)=decide (x%2=0)from rfl]
  rw[Int.pow_succ]at h1 h2
  by_cases h:x%2=0
  ·rw[bM h,cond_true,if_pos h,Is h,aG (n:=x/2) (by omega) (by omega),aG (n:=k+1) (by omega) (by omega)]
   refine(Am c1 c2 c3 A B n (x/2) (k+1) (by omega) (by omega) (by omega) (by omega) ⟨by omega,by omega⟩ (by omega) (by omega)).trans ?_
   simp only
   rw[show k+1+((fv n (x/2)).2:Int)=k+(((fv n (x/2)).2+1:Nat):Int) by omega]
  ·rw[bX h,cond_false,if_neg h]
   simp;rfl
theorem G2(c1 c2 c3 A B K:Int):nE (kL 0 c1 c2 c3 A B K)=some (.inl (tN c1 c2 c3 A B K)):=by
 rw[CT,jo,bX (by omega),cond_false];rfl
theorem wY{V M:Int}{κ:Nat}{x y:Nm}(hx:Bd V κ x)(hy:Bd M 0 y)(hV:0<=V)(hM:0<=M)(hM':M<=1000000000)(hκ:κ<=60)(h1:V*2^κ<=2305843009213693952)(h2:3*(V*M)*2^(κ+0)<=4611686018427387904):
 fJ x y=some (tO x y)/\dU x y=some (tO x y):=by
 have hyn:Bd M 0 (y.1,(-y.2.1,0)):=by
  obtain⟨y1,y2,y3,y4⟩:=hy
  have:y.2.2=0:=by omega
  rw[this]at y3 y4
  exact⟨by simp,by simp,y3,by simp only at y4⊢;omega⟩
 obtain⟨⟨f1,f2,f3,_⟩,f5,f6,_⟩:=Do hx hy hV h1 h2
 obtain⟨⟨_,_,_,g4⟩,_,_,g7⟩:=Do hx hyn hV h1 h2
 simp only at g4 g7
 have eA:x.1*y.1+2*x.2.1* -y.2.1=x.1*y.1-2*x.2.1*y.2.1:=by grind
 have eB:x.1* -y.2.1+x.2.1*y.1=x.2.1*y.1-x.1*y.2.1:=by grind
 have hmul:=(gu hx hyn hV (by omega) h1 h2).2
 have hbm:=cX hV hx hyn
 have hk1:=hx.1
 have hk2:=hx.2.1
 have hyk:y.2.2=0:=by have:=hy.1;have:=hy.2.1;omega
 have hyb:=hy.pow_le hM
 simp only[Int.pow_zero,Int.mul_one]at hyb
 have sq:∀a b:Int, -M<=a->a<=M-> -M<=b->b<=M-> -1000000000000000000<=a*b/\a*b<=1000000000000000000:=by
  intro a b p1 p2 p3 p4
  have:=gz (a:=a) (b:=b) (V:=M) (V':=M) (p:=1) (q:=1) hM (by decide) (by omega) (by omega) (by omega) (by omega)
  have hMM:M*M<=1000000000*1000000000:=Int.mul_le_mul hM' hM' hM (by decide)
  omega
 have s1:=sq y.1 y.1 (by omega) (by omega) (by omega) (by omega)
 have s2:=sq y.2.1 y.2.1 (by omega) (by omega) (by omega) (by omega)
 have e2y:2*y.2.1*y.2.1=2*(y.2.1*y.2.1):=Int.mul_assoc ..
 have n1:IntKind.wrap IntKind.i64 ((IntKind.wrap .i64 (y.1*y.1))-(IntKind.wrap .i64 ((IntKind.wrap .i64 (2*y.2.1))*y.2.1)))=y.1*y.1-2*y.2.1*y.2.1:=by
  rw[aG (n:=y.1*y.1) (by omega) (by omega),aG (n:=2*y.2.1) (by omega) (by omega),aG (n:=2*y.2.1*y.2.1) (by omega) (by omega),aG (by omega) (by omega)]
 have nI:ye (y.1*y.1-2*y.2.1*y.2.1):=⟨by omega,by omega⟩
 have hAb: -4611686018427387904<=x.1*y.1-2*x.2.1*y.2.1/\x.1*y.1-2*x.2.1*y.2.1<=4611686018427387904/\ -4611686018427387904<=x.2.1*y.1-x.1*y.2.1/\x.2.1*y.1-x.1*y.2.1<=4611686018427387904:=by
  obtain⟨x1,x2,x3,x4⟩:=hx
  have hp:(0:Int)<=2^x.2.2.toNat:=Int.le_of_lt (Int.pow_pos (by decide))
  have hpl:(2:Int)^x.2.2.toNat<=2^κ:=by
   have:=Nat.pow_le_pow_right (show 0<2 by decide) (show x.2.2.toNat<=κ by omega)
   exact_mod_cast this
  have aa:=gz (p:=2^x.2.2.toNat) (q:=1) (V':=M) hV hp x3.1 x3.2 (b:=y.1) (by omega) (by omega)
  have bb:=gz (p:=2^x.2.2.toNat) (q:=1) (V':=M) hV hp x4.1 x4.2 (b:=y.2.1) (by omega) (by omega)
  have ab:=gz (p:=2^x.2.2.toNat) (q:=1) (V':=M) hV hp x3.1 x3.2 (b:=y.2.1) (by omega) (by omega)
  have ba:=gz (p:=2^x.2.2.toNat) (q:=1) (V':=M) hV hp x4.1 x4.2 (b:=y.1) (by omega) (by omega)
  rw[Int.mul_one]at aa bb ab ba
  have hVM:0<=V*M:=Int.mul_nonneg hV hM
  have hle:=Int.mul_le_mul_of_nonneg_left hpl hVM
  have h3:3*(V*M*2^κ)<=4611686018427387904:=by rw[<-Int.mul_assoc];exact h2
  have e2:2*x.2.1*y.2.1=2*(x.2.1*y.2.1):=Int.mul_assoc ..
  omega
 have w1:IntKind.wrap IntKind.i64 ((IntKind.wrap .i64 (x.1*y.1))-(IntKind.wrap .i64 ((IntKind.wrap .i64 (2*x.2.1))*y.2.1)))=x.1*y.1-2*x.2.1*y.2.1:=by
  rw[wI f1,wI f2,wI f3,aG (by omega) (by omega)]
 have w2:IntKind.wrap IntKind.i64 ((IntKind.wrap .i64 (x.2.1*y.1))-(IntKind.wrap .i64 (x.1*y.2.1)))=x.2.1*y.1-x.1*y.2.1:=by
  rw[wI f5,wI f6,aG (by omega) (by omega)]
 unfold tO
 generalize hA:x.1*y.1-2*x.2.1*y.2.1=A at*
 generalize hB:x.2.1*y.1-x.1*y.2.1=B at*
 generalize hN:y.1*y.1-2*y.2.1*y.2.1=N at*
 by_cases h0:N=0
 ·rw[if_pos h0]
  constructor
  ·rw[fJ,oH,n1,h0];rfl
  ·rw[dU,jT,n1,h0];rfl
 ·rw[if_neg h0]
  have i1:=nI.1
  have i2:=nI.2
  have hodd:(fv 64 N).1%2≠0:=Kl 64 N h0 (by omega) (by omega)
  have hle:=Mg 64 N
  have hm0:(fv 64 N).1≠0:=fun e=>by rw[e]at hodd;exact hodd rfl
  have hNb:(N==0)=false:=by rw[show(N==0)=decide (N=0)from rfl,bX h0]
  constructor
  ·rw[fJ,oH,n1,hNb,cond_false,w1,w2,AD y.1 y.2.1 y.2.2 0 0 0 A B 64 N x.2.2 (by omega) h0 (by omega) (by omega) nI hk1 (by omega)]
   simp only[Option.bind_some,jP,iT]
   rw[bX hm0,cond_false,Mn,Mn]
   by_cases hd:A%(fv 64 N).1=0
   ·by_cases hd':B%(fv 64 N).1=0
    ·obtain⟨q1,q1'⟩:=E9 hm0 hd hAb.1 hAb.2.1
     obtain⟨q2,q2'⟩:=E9 hm0 hd' hAb.2.2.1 hAb.2.2.2
     rw[bX (fun e=>e hd),bX (fun e=>e hd'),if_pos ⟨hd,hd'⟩]
     simp only[cond_false]
     rw[q1,q2,hyk,G2]
     simp only[Option.bind_some,gS]
     rw[zI (by omega) (by omega) q1' q2']
     simp only[Option.bind_some]
     rw[show(x.2.2+((fv 64 N).2:Int)).toNat=x.2.2.toNat+(fv 64 N).2 by omega]
    ·rw[bX (fun e=>e hd),bM hd',if_neg (fun e=>hd' e.2)];rfl
   ·rw[bM hd,if_neg (fun e=>hd e.1)];rfl
  ·have hz:IntKind.wrap IntKind.i64 (0-y.2.1)= -y.2.1:=by rw[aG (by omega) (by omega)];omega
   have hT:kB x (y.1,(-y.2.1,0))=low x.2.2.toNat A B:=by
    unfold kB
    simp only
    rw[eA,eB];rfl
   have hk3:=hbm.1
   have hk4:=hbm.2.1
   rw[hT]at hk3 hk4
   rw[dU,jT,n1,hNb,cond_false,hz,hmul,hT]
   simp only[Option.bind_some]
   rw[hyk,Int.sub_zero,aG (n:=(low x.2.2.toNat A B).2.2) (by omega) (by omega),Am 0 0 0 _ _ 64 N _ (by omega) h0 (by omega) (by omega) nI hk3 (by omega)]
   obtain⟨ld1,ld2⟩:=Pi hodd x.2.2.toNat (fv 64 N).2 A B
   have hTb:=AY (V:=4611686018427387904) x.2.2.toNat A B
   have hp1:(1:Int)<=2^x.2.2.toNat:=Int.pow_pos (by decide)
   have hrng:(-4611686018427387904<=(low x.2.2.toNat A B).1/\(low x.2.2.toNat A B).1<=4611686018427387904)/\(-4611686018427387904<=(low x.2.2.toNat A B).2.1/\(low x.2.2.toNat A B).2.1<=4611686018427387904):=by
    have hb:=hbm.pow_le (by have:=Int.mul_nonneg hV hM;omega)
    rw[hT]at hb
    omega
   simp only[Option.bind_some,jP,dJ]
   rw[bX hm0,cond_false,Mn,Mn]
   by_cases hd:A%(fv 64 N).1=0/\B%(fv 64 N).1=0
   ·have hd2:=ld1.2 hd
    obtain⟨q1,q1'⟩:=E9 hm0 hd2.1 hrng.1.1 hrng.1.2
    obtain⟨q2,q2'⟩:=E9 hm0 hd2.2 hrng.2.1 hrng.2.2
    rw[bX (fun e=>e hd2.1),bX (fun e=>e hd2.2),if_pos hd]
    simp only[cond_false]
    rw[bX (show¬((low x.2.2.toNat A B).2.2+((fv 64 N).2:Int)<0) by omega),cond_false,q1,q2,BX (by omega) (by omega) q1' q2']
    simp only[Option.bind_some]
    rw[show((low x.2.2.toNat A B).2.2+((fv 64 N).2:Int)).toNat=(low x.2.2.toNat A B).2.2.toNat+(fv 64 N).2 by omega,ld2 hd]
   ·rw[if_neg hd]
    by_cases hd1:(low x.2.2.toNat A B).1%(fv 64 N).1=0
    ·have hd3:(low x.2.2.toNat A B).2.1%(fv 64 N).1≠0:=fun e=>hd (ld1.1 ⟨hd1,e⟩)
     rw[bX (fun e=>e hd1),bM hd3];rfl
    ·rw[bM hd1];rfl
end Go.Proofs.YtjkljnflaifbhaaDoor
