/- No conditions. -/
import Derived.Test.YtjkljnflaifbhaaDoorL4
namespace Go.Proofs.YtjkljnflaifbhaaDoor
open Go.Vai
theorem Qt{n:Int}(h0:0<=n)(h1:n<=1000000):IntKind.wrap .u64 n=n:=by
 simp only[IntKind.wrap,IntKind.bits,IntKind.signed]
 simp
 omega
theorem NO(x:Int):0<=IntKind.wrap .i64 (IntKind.wrap .u64 (((BitVec.toNat ((BitVec.ofInt 64 x)&&&(BitVec.ofInt 64 (255:Int)))):Nat):Int))/\
 IntKind.wrap .i64 (IntKind.wrap .u64 (((BitVec.toNat ((BitVec.ofInt 64 x)&&&(BitVec.ofInt 64 (255:Int)))):Nat):Int))<=255:=by
 have h:(BitVec.toNat ((BitVec.ofInt 64 x)&&&(BitVec.ofInt 64 (255:Int))))<=255:=by
  rw[BitVec.toNat_and]
  exact Nat.and_le_right
 generalize (BitVec.toNat ((BitVec.ofInt 64 x)&&&(BitVec.ofInt 64 (255:Int))))=n at h
 rw[Qt (by omega) (by omega),aG (by omega) (by omega)]
 omega
def LI(c:List Int):Prop:=∀x,x∈c->0<=x/\x<=255
theorem Mf{c:List Int}(hc:LI c){i:Int}(h0:0<=i)(h1:i<=1000000)(sd:Int):∃n sd',fl c i sd=some (n,(c,(i+1,sd')))/\0<=n/\n<=255:=by
 rw[fl,jH,aG (n:=i+1) (by omega) (by omega)]
 by_cases hi:i<(c.length:Int)
 ·have hlt:i.toNat<c.length:=by omega
  have hx:xd c i=some c[i.toNat]:=by unfold xd;rw[if_pos h0,List.getElem?_eq_getElem hlt]
  have hb:=hc c[i.toNat] (List.getElem_mem hlt)
  rw[decide_eq_true hi,cond_true,hx,Option.bind_some,aG (n:=c[i.toNat]) (by omega) (by omega)]
  cases decide (i+1<=(c.length:Int))
  ·exact⟨_,_,rfl,NO _⟩
  ·exact⟨_,_,rfl,hb⟩
 ·rw[decide_eq_false hi,cond_false]
  cases decide (i+1<=(c.length:Int))
  ·exact⟨_,_,rfl,NO _⟩
  ·exact⟨_,_,rfl,by omega,by omega⟩
def Src(c:List Int)(k:Int)(s:List Int×(Int×Int)):Prop:=s.1=c/\0<=s.2.1/\s.2.1<=k
theorem Pn{c:List Int}(hc:LI c){k:Int}(hk:k<=900000){s:List Int×(Int×Int)}(hs:Src c k s)(m:Int)(hm:m<=1000000):
 ∃n s',br s.1 s.2.1 s.2.2 m=some (n,s')/\Src c (k+2) s'/\0<=n/\(n<m\/(m<=1/\n=0)):=by
 obtain⟨c',i,sd⟩:=s
 obtain⟨rfl,h0,h1⟩:=hs
 simp only at h0 h1⊢
 rw[br,jI]
 by_cases h:m<=1
 ·rw[decide_eq_true h,cond_true]
  exact⟨0,(c',(i,sd)),rfl,⟨rfl,h0,by simp only;omega⟩,by omega, .inr ⟨h,rfl⟩⟩
 ·obtain⟨a,sd1,e1,a0,a1⟩:=Mf hc h0 (by omega) sd
  rw[decide_eq_false h,cond_false,e1,Option.bind_some]
  simp only
  by_cases h2:m>200
  ·obtain⟨b,sd2,e2,b0,b1⟩:=Mf hc (i:=i+1) (by omega) (by omega) sd1
   rw[decide_eq_true h2,cond_true,e2,Option.bind_some]
   simp only
   rw[aG (n:=a*256) (by omega) (by omega),aG (n:=a*256+b) (by omega) (by omega)]
   simp only[cond_false,decide_eq_false (show¬m=0 by omega)]
   refine⟨_,_,rfl,⟨rfl,by simp only;omega,by simp only;omega⟩, ?_, .inl ?_⟩
   ·rw[Int.tmod_eq_emod_of_nonneg (by omega)];exact Int.emod_nonneg _ (by omega)
   ·rw[Int.tmod_eq_emod_of_nonneg (by omega)];exact Int.emod_lt_of_pos _ (by omega)
  ·rw[decide_eq_false h2,cond_false]
   simp only[decide_eq_false (show¬m=0 by omega),cond_false]
   refine⟨_,_,rfl,⟨rfl,by simp only;omega,by simp only;omega⟩, ?_, .inl ?_⟩
   ·rw[Int.tmod_eq_emod_of_nonneg (by omega)];exact Int.emod_nonneg _ (by omega)
   ·rw[Int.tmod_eq_emod_of_nonneg (by omega)];exact Int.emod_lt_of_pos _ (by omega)
def E1{α:Type}(P:α->Prop)(o:Option α):Prop:=∃r,o=some r/\P r
theorem Ry{p:Prop} [Decidable p]{α:Type}{P:α->Prop}{a b:Option α}(hp:p)(h:E1 P a):E1 P (cond (decide p) a b):=by rw[decide_eq_true hp];exact h
theorem Rx{p:Prop} [Decidable p]{α:Type}{P:α->Prop}{a b:Option α}(hp:¬p)(h:E1 P b):E1 P (cond (decide p) a b):=by rw[decide_eq_false hp];exact h
theorem Cr{c:Bool}{α:Type}{P:α->Prop}{a b:Option α}(h1:c=true->E1 P a)(h2:c=false->E1 P b):E1 P (cond c a b):=by
 cases c
 ·exact h2 rfl
 ·exact h1 rfl
theorem fh{α β:Type}{P:β->Prop}{Q:α->Prop}{o:Option α}{f:α->Option β}(h:E1 Q o)(hf:∀x,Q x->E1 P (f x)):E1 P (Option.bind o f):=by
 obtain⟨r,rfl,hr⟩:=h
 exact hf r hr
theorem Pe(l:List Int){i:Int}(h0:0<=i)(h1:i<l.length):E1 (fun x=>x∈l) (xd l i):=by
 unfold xd
 rw[if_pos h0,List.getElem?_eq_getElem (show i.toNat<l.length by omega)]
 exact⟨_,rfl,List.getElem_mem _⟩
theorem Src.mono{c:List Int}{k k':Int}{s:List Int×(Int×Int)}(h:Src c k s)(hk:k<=k'):Src c k' s:=⟨h.1,h.2.1,by have:=h.2.2;omega⟩
theorem qs{c:List Int}(hc:LI c){k:Int}(hk:k<=900000){s:List Int×(Int×Int)}(hs:Src c k s)(m:Int)(hm:m<=1000000):
 E1 (fun y=>Src c (k+2) y.2/\0<=y.1/\(y.1<m\/(m<=1/\y.1=0))) (br s.1 s.2.1 s.2.2 m):=by
 obtain⟨n,s',e,h1,h2,h3⟩:=Pn hc hk hs m hm
 exact⟨(n,s'),e,h1,h2,h3⟩
theorem Cs{c:List Int}(hc:LI c){k:Int}(hk:k<=900000){s:List Int×(Int×Int)}(hs:Src c k s)(m:Int)(hm:m<=1000000):
 E1 (fun y=>Src c (k+2) y.2) (cp s.1 s.2.1 s.2.2 m):=by
 rw[cp,ko]
 refine fh (qs hc hk hs m hm) fun y ⟨s1,p1,q1⟩=> ?_
 exact⟨_,rfl,s1⟩
theorem uH{c:List Int}(hc:LI c){k:Int}(hk:k<=900000){s:List Int×(Int×Int)}(hs:Src c k s)(l:List Int)(h0:0<l.length)(hm:l.length<=1000000):
 E1 (fun y=>Src c (k+2) y.2/\y.1∈l) (ci s.1 s.2.1 s.2.2 l):=by
 rw[ci,je]
 refine fh (qs hc hk hs _ (by omega)) fun y ⟨s1,p1,q1⟩=> ?_
 refine fh (Pe l p1 (by omega)) fun z hz=> ?_
 exact⟨_,rfl,s1,hz⟩
theorem Oz{x:Nm}(h:Fit x):E1 (fun y=>y.2=true->nN y.1=true) (bI x):=by
 rw[CM h]
 refine⟨_,rfl, ?_⟩
 cases hc:nN (pD x)
 ·intro h;cases h
 ·intro _;exact hc
theorem pQ{a b k:Int}(ha: -131072<=a/\a<=131072)(hb: -131072<=b/\b<=131072)(hk:0<=k/\k<=100):Fit (a,(b,k)):=by
 unfold Fit ye;simp only;omega
theorem vu{c:List Int}{k:Int}{x:Nm}(h:Fit x){s:List Int×(Int×Int)}(hs:Src c k s):
 E1 (fun y=>nN y.1=true/\Src c k y.2) (Option.bind (bI x) fun y=>cond (!y.2) (some (((1:Int),((0:Int),(0:Int))),s)) (some (y.1,s))):=by
 refine fh (Oz h) fun y hy=> ?_
 cases h2:y.2
 ·exact⟨_,rfl,(by decide:nN (1,(0,0))=true),hs⟩
 ·exact⟨_,rfl,hy h2,hs⟩
theorem sc{c:List Int}{k k':Int}{o:Option (Nm×(List Int×(Int×Int)))}(hk:k<=k')(h:E1 (fun y=>nN y.1=true/\Src c k y.2) o):E1 (fun y=>nN y.1=true/\Src c k' y.2) o:=by
 obtain⟨r,e,h1,h2⟩:=h
 exact⟨r,e,h1,h2.mono hk⟩
theorem O9(x:Int)(h:x∈ [(131072:Int),(-(131072:Int)),(99999:Int),(46341:Int),(1:Int)]): -131072<=x/\x<=131072:=by
 simp only[List.mem_cons,List.not_mem_nil,or_false]at h;omega
theorem LX(x:Int)(h:x∈ [(131072:Int),(-(131072:Int)),(-(92681:Int)),(-(70710:Int)),(32768:Int)]): -131072<=x/\x<=131072:=by
 simp only[List.mem_cons,List.not_mem_nil,or_false]at h;omega
theorem BK{c:List Int}(hc:LI c){k:Int}(k0:0<=k)(hk:k<=800000){s:List Int×(Int×Int)}(hs:Src c k s):
 E1 (fun y=>nN y.1=true/\Src c (k+18) y.2) (fN s.1 s.2.1 s.2.2):=by
 rw[fN,mY]
 refine fh (qs hc (by omega) hs 9 (by omega)) fun y33 ⟨s1,p1,q1⟩=> ?_
 rw[aG (n:=y33.1-4) (by omega) (by omega)]
 refine fh (Cs hc (by omega) s1 3 (by omega)) fun y34 s2=> ?_
 refine Cr (fun _=> ?_) (fun _=> ?_)
 ·refine fh (qs hc (by omega) s2 9 (by omega)) fun y35 ⟨s3,p3,q3⟩=> ?_
  rw[aG (n:=y35.1-4) (by omega) (by omega)]
  refine fh (Cs hc (by omega) s3 3 (by omega)) fun y36 s4=> ?_
  refine Cr (fun _=> ?_) (fun _=> ?_)
  ·refine fh (qs hc (by omega) s4 4 (by omega)) fun y37 ⟨s5,p5,q5⟩=> ?_
   refine fh (Cs hc (by omega) s5 12 (by omega)) fun y38 t1=> ?_
   refine Cr (fun _=> ?_) (fun _=> ?_)
   ·refine fh (uH hc (by omega) t1 _ (by decide) (by decide)) fun y45 ⟨t2,a1⟩=> ?_
    refine fh (uH hc (by omega) t2 _ (by decide) (by decide)) fun y46 ⟨t3,a2⟩=> ?_
    refine fh (qs hc (by omega) t3 11 (by omega)) fun y47 ⟨t4,b1,b2⟩=> ?_
    have:=O9 _ a1
    have:=LX _ a2
    exact sc (by omega) (vu (pQ (by omega) (by omega) (by omega)) t4)
   ·exact sc (by omega) (vu (pQ (by omega) (by omega) (by omega)) t1)
  ·skip
   refine fh (Cs hc (by omega) s4 12 (by omega)) fun y38 t1=> ?_
   refine Cr (fun _=> ?_) (fun _=> ?_)
   ·refine fh (uH hc (by omega) t1 _ (by decide) (by decide)) fun y45 ⟨t2,a1⟩=> ?_
    refine fh (uH hc (by omega) t2 _ (by decide) (by decide)) fun y46 ⟨t3,a2⟩=> ?_
    refine fh (qs hc (by omega) t3 11 (by omega)) fun y47 ⟨t4,b1,b2⟩=> ?_
    have:=O9 _ a1
    have:=LX _ a2
    exact sc (by omega) (vu (pQ (by omega) (by omega) (by omega)) t4)
   ·exact sc (by omega) (vu (pQ (by omega) (by omega) (by omega)) t1)
 ·refine fh (Cs hc (by omega) s2 3 (by omega)) fun y36 s4=> ?_
  refine Cr (fun _=> ?_) (fun _=> ?_)
  ·refine fh (qs hc (by omega) s4 4 (by omega)) fun y37 ⟨s5,p5,q5⟩=> ?_
   refine fh (Cs hc (by omega) s5 12 (by omega)) fun y38 t1=> ?_
   refine Cr (fun _=> ?_) (fun _=> ?_)
   ·refine fh (uH hc (by omega) t1 _ (by decide) (by decide)) fun y45 ⟨t2,a1⟩=> ?_
    refine fh (uH hc (by omega) t2 _ (by decide) (by decide)) fun y46 ⟨t3,a2⟩=> ?_
    refine fh (qs hc (by omega) t3 11 (by omega)) fun y47 ⟨t4,b1,b2⟩=> ?_
    have:=O9 _ a1
    have:=LX _ a2
    exact sc (by omega) (vu (pQ (by omega) (by omega) (by omega)) t4)
   ·exact sc (by omega) (vu (pQ (by omega) (by omega) (by omega)) t1)
  ·skip
   refine fh (Cs hc (by omega) s4 12 (by omega)) fun y38 t1=> ?_
   refine Cr (fun _=> ?_) (fun _=> ?_)
   ·refine fh (uH hc (by omega) t1 _ (by decide) (by decide)) fun y45 ⟨t2,a1⟩=> ?_
    refine fh (uH hc (by omega) t2 _ (by decide) (by decide)) fun y46 ⟨t3,a2⟩=> ?_
    refine fh (qs hc (by omega) t3 11 (by omega)) fun y47 ⟨t4,b1,b2⟩=> ?_
    have:=O9 _ a1
    have:=LX _ a2
    exact sc (by omega) (vu (pQ (by omega) (by omega) (by omega)) t4)
   ·exact sc (by omega) (vu (pQ (by omega) (by omega) (by omega)) t1)
theorem FM{c:List Int}(hc:LI c){k:Int}(k0:0<=k)(hk:k<=700000){s:List Int×(Int×Int)}(hs:Src c k s):
 E1 (fun y=>jk y.1=true/\Src c (k+36) y.2) (eQ s.1 s.2.1 s.2.2):=by
 rw[eQ,jf]
 refine fh (BK hc k0 (by omega) hs) fun y1 ⟨h1,s1⟩=> ?_
 refine fh (BK hc (by omega) (by omega) s1) fun y2 ⟨h2,s2⟩=> ?_
 refine⟨_,rfl, ?_,s2.mono (by omega)⟩
 unfold jk
 rw[h1,h2];rfl
theorem Iq{n:Int}(h0:0<=n)(h1:n<=100):nN (n,(0,0))=true:=by
 simp only[nN,Bool.and_eq_true,Bool.or_eq_true,decide_eq_true_eq]
 exact⟨⟨by omega,by omega⟩,⟨by omega,by omega⟩,⟨by omega,by omega⟩, .inl trivial⟩
theorem N6{c:List Int}(hc:LI c){k:Int}(k0:0<=k)(hk:k<=600000){s:List Int×(Int×Int)}(hs:Src c k s):
 E1 (fun y=>jk y.1=true/\Src c (k+38) y.2) (jR s.1 s.2.1 s.2.2):=by
 rw[jR,lZ]
 refine fh (Cs hc (by omega) hs 3 (by omega)) fun y26 s1=> ?_
 refine Cr (fun _=> ?_) (fun _=> ?_)
 ·refine fh (FM hc (by omega) (by omega) s1) fun y2 ⟨h2,s2⟩=> ?_
  exact⟨_,rfl,h2,s2.mono (by omega)⟩
 ·refine fh (qs hc (by omega) s1 5 (by omega)) fun y2 ⟨s2,p2,q2⟩=> ?_
  refine fh (qs hc (by omega) s2 5 (by omega)) fun y3 ⟨s3,p3,q3⟩=> ?_
  refine⟨_,rfl, ?_,s3.mono (by omega)⟩
  unfold jk
  rw[Iq (n:=y2.1) p2 (by omega),Iq (n:=y3.1) p3 (by omega)];rfl
theorem MJ{c:List Int}(hc:LI c){k:Int}(k0:0<=k)(hk:k<=600000){s:List Int×(Int×Int)}(hs:Src c k s){p:Pt}(hp:jk p=true):
 E1 (fun y=>jk y.1=true) (gL s.1 s.2.1 s.2.2 p):=by
 rw[gL,jK]
 refine fh (qs hc (by omega) hs 16 (by omega)) fun y1 ⟨s1,p1,q1⟩=> ?_
 refine fh (BK hc (by omega) (by omega) s1) fun y2 ⟨h2,s2⟩=> ?_
 have hv:=en (d:=y1.1) p1 (by omega)
 have hb:=ek hp
 have ht:=Du h2
 rw[(na p1 (show y1.1<16 by omega)).1,Option.bind_some]
 simp only[aV,cI,bo,cg,Option.bind_some]
 have m1:=cX (by decide) ht hv.1
 have m2:=cX (by decide) ht hv.2
 have a1:=fC hb.1 m1
 have a2:=fC hb.2 m2
 rw[(gu ht hv.1 (by decide) (by decide) (by decide) (by decide)).1,Option.bind_some,(ml hb.1 m1 (by decide) (by decide) (by decide) (by decide) (by decide)).1,Option.bind_some,
  (gu ht hv.2 (by decide) (by decide) (by decide) (by decide)).1,Option.bind_some,(ml hb.2 m2 (by decide) (by decide) (by decide) (by decide) (by decide)).1,Option.bind_some,
  zJ (p:=(ej p.1 (kB y2.1 (aC y1.1).1),ej p.2 (kB y2.1 (aC y1.1).2))) (qW a1 (by decide) (by decide) (by decide)) (qW a2 (by decide) (by decide) (by decide)),Option.bind_some]
 unfold GD
 cases hc:jk (pD (ej p.1 (kB y2.1 (aC y1.1).1)),pD (ej p.2 (kB y2.1 (aC y1.1).2)))
 ·exact⟨_,rfl,hp⟩
 ·exact⟨_,rfl,hc⟩
theorem M9{c:List Int}(hc:LI c):E1 (fun y=>jk y.1=true/\jk y.2=true) (jQ c):=by
 rw[jQ,lX]
 have e:∃s,ju c=some s/\Src c 0 s:=⟨_,rfl,rfl,Int.le_refl _,Int.le_refl _⟩
 obtain⟨s,e,hs⟩:=e
 rw[e,Option.bind_some]
 refine fh (N6 hc (by omega) (by omega) hs) fun y1 ⟨h1,s1⟩=> ?_
 refine fh (Cs hc (by omega) s1 4 (by omega)) fun y2 s2=> ?_
 refine Cr (fun _=> ?_) (fun _=> ?_)
 ·refine fh (FM hc (by omega) (by omega) s2) fun y3 ⟨h3,_⟩=> ?_
  exact⟨_,rfl,h1,h3⟩
 ·refine fh (MJ hc (by omega) (by omega) s2 h1) fun y3 h3=> ?_
  exact⟨_,rfl,h1,h3⟩
theorem L3{c:List Int}(hc:LI c):E1 (fun y=>fg y=true) (kv c):=by
 rw[kv,oF]
 have e:∃s,ju c=some s/\Src c 0 s:=⟨_,rfl,rfl,Int.le_refl _,Int.le_refl _⟩
 obtain⟨s,e,hs⟩:=e
 rw[e,Option.bind_some,jv,jJ]
 refine fh (P:=fun y=>fg y=true) (Q:=fun y=>fg y.1=true) ?_ fun y h=>⟨_,rfl,h⟩
 refine fh (qs hc (by omega) hs 8 (by omega)) fun y1 ⟨s1,p1,q1⟩=> ?_
 refine fh (BK hc (by omega) (by omega) s1) fun y2 ⟨h2,s2⟩=> ?_
 refine⟨_,rfl, ?_⟩
 simp only[fg,h2,Bool.and_true,Bool.and_eq_true,decide_eq_true_eq]
 omega
end Go.Proofs.YtjkljnflaifbhaaDoor
