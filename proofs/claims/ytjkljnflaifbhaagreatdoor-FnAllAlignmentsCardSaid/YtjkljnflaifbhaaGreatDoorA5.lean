/- No conditions. -/
import Derived.Test.YtjkljnflaifbhaaGreatDoorA4
namespace Go.Proofs.YtjkljnflaifbhaaGreatDoor
open Go.Vai
theorem Rz{n:Int}(h0:0<=n)(h1:n<=1000000):IntKind.wrap .u64 n=n:=by
 simp only[IntKind.wrap,IntKind.bits,IntKind.signed]
 simp
 omega
theorem OR(x:Int):0<=IntKind.wrap .i64 (IntKind.wrap .u64 (((BitVec.toNat ((BitVec.ofInt 64 x)&&&(BitVec.ofInt 64 (255:Int)))):Nat):Int))/\
 IntKind.wrap .i64 (IntKind.wrap .u64 (((BitVec.toNat ((BitVec.ofInt 64 x)&&&(BitVec.ofInt 64 (255:Int)))):Nat):Int))<=255:=by
 have h:(BitVec.toNat ((BitVec.ofInt 64 x)&&&(BitVec.ofInt 64 (255:Int))))<=255:=by
  rw[BitVec.toNat_and]
  exact Nat.and_le_right
 generalize (BitVec.toNat ((BitVec.ofInt 64 x)&&&(BitVec.ofInt 64 (255:Int))))=n at h
 rw[Rz (by omega) (by omega),aD (by omega) (by omega)]
 omega
def JH(c:List Int):Prop:=∀x,x∈c->0<=x/\x<=255
theorem Nk{c:List Int}(hc:JH c){i:Int}(h0:0<=i)(h1:i<=1000000)(sd:Int):∃n sd',fp c i sd=some (n,(c,(i+1,sd')))/\0<=n/\n<=255:=by
 rw[fp,jZ,aD (n:=i+1) (by omega) (by omega)]
 by_cases hi:i<(c.length:Int)
 ·have hlt:i.toNat<c.length:=by omega
  have hx:vu c i=some c[i.toNat]:=by unfold vu;rw[if_pos h0,List.getElem?_eq_getElem hlt]
  have hb:=hc c[i.toNat] (List.getElem_mem hlt)
  rw[decide_eq_true hi,cond_true,hx,Option.bind_some,aD (n:=c[i.toNat]) (by omega) (by omega)]
  cases decide (i+1<=(c.length:Int))
  ·exact⟨_,_,rfl,OR _⟩
  ·exact⟨_,_,rfl,hb⟩
 ·rw[decide_eq_false hi,cond_false]
  cases decide (i+1<=(c.length:Int))
  ·exact⟨_,_,rfl,OR _⟩
  ·exact⟨_,_,rfl,by omega,by omega⟩
def Src(c:List Int)(k:Int)(s:List Int×(Int×Int)):Prop:=s.1=c/\0<=s.2.1/\s.2.1<=k
theorem Qn{c:List Int}(hc:JH c){k:Int}(hk:k<=900000){s:List Int×(Int×Int)}(hs:Src c k s)(m:Int)(hm:m<=1000000):
 ∃n s',aY s.1 s.2.1 s.2.2 m=some (n,s')/\Src c (k+2) s'/\0<=n/\(n<m\/(m<=1/\n=0)):=by
 obtain⟨c',i,sd⟩:=s
 obtain⟨rfl,h0,h1⟩:=hs
 simp only at h0 h1⊢
 rw[aY,ka]
 by_cases h:m<=1
 ·rw[decide_eq_true h,cond_true]
  exact⟨0,(c',(i,sd)),rfl,⟨rfl,h0,by simp only;omega⟩,by omega, .inr ⟨h,rfl⟩⟩
 ·obtain⟨a,sd1,e1,a0,a1⟩:=Nk hc h0 (by omega) sd
  rw[decide_eq_false h,cond_false,e1,Option.bind_some]
  simp only
  by_cases h2:m>200
  ·obtain⟨b,sd2,e2,b0,b1⟩:=Nk hc (i:=i+1) (by omega) (by omega) sd1
   rw[decide_eq_true h2,cond_true,e2,Option.bind_some]
   simp only
   rw[aD (n:=a*256) (by omega) (by omega),aD (n:=a*256+b) (by omega) (by omega)]
   simp only[cond_false,decide_eq_false (show¬m=0 by omega)]
   refine⟨_,_,rfl,⟨rfl,by simp only;omega,by simp only;omega⟩, ?_, .inl ?_⟩
   ·rw[Int.tmod_eq_emod_of_nonneg (by omega)];exact Int.emod_nonneg _ (by omega)
   ·rw[Int.tmod_eq_emod_of_nonneg (by omega)];exact Int.emod_lt_of_pos _ (by omega)
  ·rw[decide_eq_false h2,cond_false]
   simp only[decide_eq_false (show¬m=0 by omega),cond_false]
   refine⟨_,_,rfl,⟨rfl,by simp only;omega,by simp only;omega⟩, ?_, .inl ?_⟩
   ·rw[Int.tmod_eq_emod_of_nonneg (by omega)];exact Int.emod_nonneg _ (by omega)
   ·rw[Int.tmod_eq_emod_of_nonneg (by omega)];exact Int.emod_lt_of_pos _ (by omega)
def FM{α:Type}(P:α->Prop)(o:Option α):Prop:=∃r,o=some r/\P r
theorem R9{p:Prop} [Decidable p]{α:Type}{P:α->Prop}{a b:Option α}(hp:p)(h:FM P a):FM P (cond (decide p) a b):=by rw[decide_eq_true hp];exact h
theorem QQ{p:Prop} [Decidable p]{α:Type}{P:α->Prop}{a b:Option α}(hp:¬p)(h:FM P b):FM P (cond (decide p) a b):=by rw[decide_eq_false hp];exact h
theorem DC{c:Bool}{α:Type}{P:α->Prop}{a b:Option α}(h1:c=true->FM P a)(h2:c=false->FM P b):FM P (cond c a b):=by
 cases c
 ·exact h2 rfl
 ·exact h1 rfl
theorem ff{α β:Type}{P:β->Prop}{Q:α->Prop}{o:Option α}{f:α->Option β}(h:FM Q o)(hf:∀x,Q x->FM P (f x)):FM P (Option.bind o f):=by
 obtain⟨r,rfl,hr⟩:=h
 exact hf r hr
theorem M8(l:List Int){i:Int}(h0:0<=i)(h1:i<l.length):FM (fun x=>x∈l) (vu l i):=by
 unfold vu
 rw[if_pos h0,List.getElem?_eq_getElem (show i.toNat<l.length by omega)]
 exact⟨_,rfl,List.getElem_mem _⟩
theorem Src.mono{c:List Int}{k k':Int}{s:List Int×(Int×Int)}(h:Src c k s)(hk:k<=k'):Src c k' s:=⟨h.1,h.2.1,by have:=h.2.2;omega⟩
theorem qD{c:List Int}(hc:JH c){k:Int}(hk:k<=900000){s:List Int×(Int×Int)}(hs:Src c k s)(m:Int)(hm:m<=1000000):
 FM (fun y=>Src c (k+2) y.2/\0<=y.1/\(y.1<m\/(m<=1/\y.1=0))) (aY s.1 s.2.1 s.2.2 m):=by
 obtain⟨n,s',e,h1,h2,h3⟩:=Qn hc hk hs m hm
 exact⟨(n,s'),e,h1,h2,h3⟩
theorem DD{c:List Int}(hc:JH c){k:Int}(hk:k<=900000){s:List Int×(Int×Int)}(hs:Src c k s)(m:Int)(hm:m<=1000000):
 FM (fun y=>Src c (k+2) y.2) (cg s.1 s.2.1 s.2.2 m):=by
 rw[cg,kI]
 refine ff (qD hc hk hs m hm) fun y ⟨s1,p1,q1⟩=> ?_
 exact⟨_,rfl,s1⟩
theorem vD{c:List Int}(hc:JH c){k:Int}(hk:k<=900000){s:List Int×(Int×Int)}(hs:Src c k s)(l:List Int)(h0:0<l.length)(hm:l.length<=1000000):
 FM (fun y=>Src c (k+2) y.2/\y.1∈l) (bZ s.1 s.2.1 s.2.2 l):=by
 rw[bZ,jm]
 refine ff (qD hc hk hs _ (by omega)) fun y ⟨s1,p1,q1⟩=> ?_
 refine ff (M8 l p1 (by omega)) fun z hz=> ?_
 exact⟨_,rfl,s1,hz⟩
theorem Pu{x:Nm}(h:Fit x):FM (fun y=>y.2=true->nu y.1=true) (bz x):=by
 rw[DY h]
 refine⟨_,rfl, ?_⟩
 cases hc:nu (pR x)
 ·intro h;cases h
 ·intro _;exact hc
theorem qb{a b k:Int}(ha: -131072<=a/\a<=131072)(hb: -131072<=b/\b<=131072)(hk:0<=k/\k<=100):Fit (a,(b,k)):=by
 unfold Fit zb;simp only;omega
theorem we{c:List Int}{k:Int}{x:Nm}(h:Fit x){s:List Int×(Int×Int)}(hs:Src c k s):
 FM (fun y=>nu y.1=true/\Src c k y.2) (Option.bind (bz x) fun y=>cond (!y.2) (some (((1:Int),((0:Int),(0:Int))),s)) (some (y.1,s))):=by
 refine ff (Pu h) fun y hy=> ?_
 cases h2:y.2
 ·exact⟨_,rfl,(by decide:nu (1,(0,0))=true),hs⟩
 ·exact⟨_,rfl,hy h2,hs⟩
theorem sv{c:List Int}{k k':Int}{o:Option (Nm×(List Int×(Int×Int)))}(hk:k<=k')(h:FM (fun y=>nu y.1=true/\Src c k y.2) o):FM (fun y=>nu y.1=true/\Src c k' y.2) o:=by
 obtain⟨r,e,h1,h2⟩:=h
 exact⟨r,e,h1,h2.mono hk⟩
theorem Qa(x:Int)(h:x∈ [(131072:Int),(-(131072:Int)),(99999:Int),(46341:Int),(1:Int)]): -131072<=x/\x<=131072:=by
 simp only[List.mem_cons,List.not_mem_nil,or_false]at h;omega
theorem M5(x:Int)(h:x∈ [(131072:Int),(-(131072:Int)),(-(92681:Int)),(-(70710:Int)),(32768:Int)]): -131072<=x/\x<=131072:=by
 simp only[List.mem_cons,List.not_mem_nil,or_false]at h;omega
theorem CW{c:List Int}(hc:JH c){k:Int}(k0:0<=k)(hk:k<=800000){s:List Int×(Int×Int)}(hs:Src c k s):
 FM (fun y=>nu y.1=true/\Src c (k+18) y.2) (fW s.1 s.2.1 s.2.2):=by
 rw[fW,nD]
 refine ff (qD hc (by omega) hs 9 (by omega)) fun y33 ⟨s1,p1,q1⟩=> ?_
 rw[aD (n:=y33.1-4) (by omega) (by omega)]
 refine ff (DD hc (by omega) s1 3 (by omega)) fun y34 s2=> ?_
 refine DC (fun _=> ?_) (fun _=> ?_)
 ·refine ff (qD hc (by omega) s2 9 (by omega)) fun y35 ⟨s3,p3,q3⟩=> ?_
  rw[aD (n:=y35.1-4) (by omega) (by omega)]
  refine ff (DD hc (by omega) s3 3 (by omega)) fun y36 s4=> ?_
  refine DC (fun _=> ?_) (fun _=> ?_)
  ·refine ff (qD hc (by omega) s4 4 (by omega)) fun y37 ⟨s5,p5,q5⟩=> ?_
   refine ff (DD hc (by omega) s5 12 (by omega)) fun y38 t1=> ?_
   refine DC (fun _=> ?_) (fun _=> ?_)
   ·refine ff (vD hc (by omega) t1 _ (by decide) (by decide)) fun y45 ⟨t2,a1⟩=> ?_
    refine ff (vD hc (by omega) t2 _ (by decide) (by decide)) fun y46 ⟨t3,a2⟩=> ?_
    refine ff (qD hc (by omega) t3 11 (by omega)) fun y47 ⟨t4,b1,b2⟩=> ?_
    have:=Qa _ a1
    have:=M5 _ a2
    exact sv (by omega) (we (qb (by omega) (by omega) (by omega)) t4)
   ·exact sv (by omega) (we (qb (by omega) (by omega) (by omega)) t1)
  ·skip
   refine ff (DD hc (by omega) s4 12 (by omega)) fun y38 t1=> ?_
   refine DC (fun _=> ?_) (fun _=> ?_)
   ·refine ff (vD hc (by omega) t1 _ (by decide) (by decide)) fun y45 ⟨t2,a1⟩=> ?_
    refine ff (vD hc (by omega) t2 _ (by decide) (by decide)) fun y46 ⟨t3,a2⟩=> ?_
    refine ff (qD hc (by omega) t3 11 (by omega)) fun y47 ⟨t4,b1,b2⟩=> ?_
    have:=Qa _ a1
    have:=M5 _ a2
    exact sv (by omega) (we (qb (by omega) (by omega) (by omega)) t4)
   ·exact sv (by omega) (we (qb (by omega) (by omega) (by omega)) t1)
 ·refine ff (DD hc (by omega) s2 3 (by omega)) fun y36 s4=> ?_
  refine DC (fun _=> ?_) (fun _=> ?_)
  ·refine ff (qD hc (by omega) s4 4 (by omega)) fun y37 ⟨s5,p5,q5⟩=> ?_
   refine ff (DD hc (by omega) s5 12 (by omega)) fun y38 t1=> ?_
   refine DC (fun _=> ?_) (fun _=> ?_)
   ·refine ff (vD hc (by omega) t1 _ (by decide) (by decide)) fun y45 ⟨t2,a1⟩=> ?_
    refine ff (vD hc (by omega) t2 _ (by decide) (by decide)) fun y46 ⟨t3,a2⟩=> ?_
    refine ff (qD hc (by omega) t3 11 (by omega)) fun y47 ⟨t4,b1,b2⟩=> ?_
    have:=Qa _ a1
    have:=M5 _ a2
    exact sv (by omega) (we (qb (by omega) (by omega) (by omega)) t4)
   ·exact sv (by omega) (we (qb (by omega) (by omega) (by omega)) t1)
  ·skip
   refine ff (DD hc (by omega) s4 12 (by omega)) fun y38 t1=> ?_
   refine DC (fun _=> ?_) (fun _=> ?_)
   ·refine ff (vD hc (by omega) t1 _ (by decide) (by decide)) fun y45 ⟨t2,a1⟩=> ?_
    refine ff (vD hc (by omega) t2 _ (by decide) (by decide)) fun y46 ⟨t3,a2⟩=> ?_
    refine ff (qD hc (by omega) t3 11 (by omega)) fun y47 ⟨t4,b1,b2⟩=> ?_
    have:=Qa _ a1
    have:=M5 _ a2
    exact sv (by omega) (we (qb (by omega) (by omega) (by omega)) t4)
   ·exact sv (by omega) (we (qb (by omega) (by omega) (by omega)) t1)
theorem Ha{c:List Int}(hc:JH c){k:Int}(k0:0<=k)(hk:k<=700000){s:List Int×(Int×Int)}(hs:Src c k s):
 FM (fun y=>jF y.1=true/\Src c (k+36) y.2) (eW s.1 s.2.1 s.2.2):=by
 rw[eW,jo]
 refine ff (CW hc k0 (by omega) hs) fun y1 ⟨h1,s1⟩=> ?_
 refine ff (CW hc (by omega) (by omega) s1) fun y2 ⟨h2,s2⟩=> ?_
 refine⟨_,rfl, ?_,s2.mono (by omega)⟩
 unfold jF
 rw[h1,h2];rfl
theorem JC{n:Int}(h0:0<=n)(h1:n<=100):nu (n,(0,0))=true:=by
 simp only[nu,Bool.and_eq_true,Bool.or_eq_true,decide_eq_true_eq]
 exact⟨⟨by omega,by omega⟩,⟨by omega,by omega⟩,⟨by omega,by omega⟩, .inl trivial⟩
theorem O3{c:List Int}(hc:JH c){k:Int}(k0:0<=k)(hk:k<=600000){s:List Int×(Int×Int)}(hs:Src c k s):
 FM (fun y=>jF y.1=true/\Src c (k+38) y.2) (kj s.1 s.2.1 s.2.2):=by
 rw[kj,mw]
 refine ff (DD hc (by omega) hs 3 (by omega)) fun y26 s1=> ?_
 refine DC (fun _=> ?_) (fun _=> ?_)
 ·refine ff (Ha hc (by omega) (by omega) s1) fun y2 ⟨h2,s2⟩=> ?_
  exact⟨_,rfl,h2,s2.mono (by omega)⟩
 ·refine ff (qD hc (by omega) s1 5 (by omega)) fun y2 ⟨s2,p2,q2⟩=> ?_
  refine ff (qD hc (by omega) s2 5 (by omega)) fun y3 ⟨s3,p3,q3⟩=> ?_
  refine⟨_,rfl, ?_,s3.mono (by omega)⟩
  unfold jF
  rw[JC (n:=y2.1) p2 (by omega),JC (n:=y3.1) p3 (by omega)];rfl
theorem NP{c:List Int}(hc:JH c){k:Int}(k0:0<=k)(hk:k<=600000){s:List Int×(Int×Int)}(hs:Src c k s){p:Pt}(hp:jF p=true):
 FM (fun y=>jF y.1=true) (gR s.1 s.2.1 s.2.2 p):=by
 rw[gR,kc]
 refine ff (qD hc (by omega) hs 16 (by omega)) fun y1 ⟨s1,p1,q1⟩=> ?_
 refine ff (CW hc (by omega) (by omega) s1) fun y2 ⟨h2,s2⟩=> ?_
 have hv:=el (d:=y1.1) p1 (by omega)
 have hb:=ew hp
 have ht:=EG h2
 rw[(nH p1 (show y1.1<16 by omega)).1,Option.bind_some]
 simp only[aM,cC,aX,bX,Option.bind_some]
 have m1:=cR (by decide) ht hv.1
 have m2:=cR (by decide) ht hv.2
 have a1:=fI hb.1 m1
 have a2:=fI hb.2 m2
 rw[(gB ht hv.1 (by decide) (by decide) (by decide) (by decide)).1,Option.bind_some,(mI hb.1 m1 (by decide) (by decide) (by decide) (by decide) (by decide)).1,Option.bind_some,
  (gB ht hv.2 (by decide) (by decide) (by decide) (by decide)).1,Option.bind_some,(mI hb.2 m2 (by decide) (by decide) (by decide) (by decide) (by decide)).1,Option.bind_some,
  AJ (p:=(ej p.1 (kQ y2.1 (aq y1.1).1),ej p.2 (kQ y2.1 (aq y1.1).2))) (rk a1 (by decide) (by decide) (by decide)) (rk a2 (by decide) (by decide) (by decide)),Option.bind_some]
 unfold HQ
 cases hc:jF (pR (ej p.1 (kQ y2.1 (aq y1.1).1)),pR (ej p.2 (kQ y2.1 (aq y1.1).2)))
 ·exact⟨_,rfl,hp⟩
 ·exact⟨_,rfl,hc⟩
theorem Od{c:List Int}(hc:JH c):FM (fun y=>jF y.1=true/\jF y.2=true) (ki c):=by
 rw[ki,mq]
 have e:∃s,jI c=some s/\Src c 0 s:=⟨_,rfl,rfl,Int.le_refl _,Int.le_refl _⟩
 obtain⟨s,e,hs⟩:=e
 rw[e,Option.bind_some]
 refine ff (O3 hc (by omega) (by omega) hs) fun y1 ⟨h1,s1⟩=> ?_
 refine ff (DD hc (by omega) s1 4 (by omega)) fun y2 s2=> ?_
 refine DC (fun _=> ?_) (fun _=> ?_)
 ·refine ff (Ha hc (by omega) (by omega) s2) fun y3 ⟨h3,_⟩=> ?_
  exact⟨_,rfl,h1,h3⟩
 ·refine ff (NP hc (by omega) (by omega) s2 h1) fun y3 h3=> ?_
  exact⟨_,rfl,h1,h3⟩
theorem Nb{c:List Int}(hc:JH c):FM (fun y=>jd y=true) (ju c):=by
 rw[ju,oP]
 have e:∃s,jI c=some s/\Src c 0 s:=⟨_,rfl,rfl,Int.le_refl _,Int.le_refl _⟩
 obtain⟨s,e,hs⟩:=e
 rw[e,Option.bind_some,jJ,kb]
 refine ff (P:=fun y=>jd y=true) (Q:=fun y=>jd y.1=true) ?_ fun y h=>⟨_,rfl,h⟩
 refine ff (qD hc (by omega) hs 8 (by omega)) fun y1 ⟨s1,p1,q1⟩=> ?_
 refine ff (CW hc (by omega) (by omega) s1) fun y2 ⟨h2,s2⟩=> ?_
 refine⟨_,rfl, ?_⟩
 simp only[jd,h2,Bool.and_true,Bool.and_eq_true,decide_eq_true_eq]
 omega
end Go.Proofs.YtjkljnflaifbhaaGreatDoor
