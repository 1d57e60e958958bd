/- No conditions. -/
import Derived.Test.YtjkljnflaifbhaaGreatDoorZ5b
namespace Go.Proofs.YtjkljnflaifbhaaGreatDoor
open Go.Vai
def itZ:It:=((ByteArray.mk (Array.mk [])),(false,(zPt,zLn)))
def ptI(nm:ByteArray)(p:Pt):It:=(nm,(false,(p,zLn)))
def lnI(nm:ByteArray)(l:Ln):It:=(nm,(true,(zPt,l)))
def sX(l:List It):List ByteArray->List It->Option (List It)
 |[],acc=>some acc
 |n::r,acc=>match l.findIdx? (fun y=>xu y.1 n)with
  |none=>none
  |some j=>match l[j]? with
   |some y=>sX l r (acc++ [y])
   |none=>none
theorem Vx{l:List It}{n:ByteArray}{j:Nat}(h:l.findIdx? (fun y=>xu y.1 n)=some j):j<l.length:=by
 rw[List.findIdx?_eq_some_iff_getElem]at h
 exact h.1
theorem vM(l:List It):∀(r:List ByteArray) (acc out:List It),sX l r acc=some out->out.length=acc.length+r.length
 |[],acc,out,h=>by cases h;rfl
 |n::r,acc,out,h=>by
  simp only[sX]at h
  split at h
  ·cases h
  ·split at h
   ·have:=vM l r _ _ h
    simp only[List.length_append,List.length_cons,List.length_nil]at this⊢;omega
   ·cases h
theorem T3(l:List It)(hl:l.length<=1048576)(k ch:Int)(nm:ByteArray)(p:Pt)(q:Ln)(xs:List ByteArray)(ha:xs.length<=1048576):∀(r t:List ByteArray) (acc:List It),xs=t++r->acc.length=t.length->
 (∃out,sX l r acc=some out/\kk (nV l acc ((t.length:Nat):Int) nm k xs ch p.1.1 p.1.2.1 p.1.2.2 p.2.1 p.2.2.1 p.2.2.2 q.1 q.2.1 q.2.2.1 q.2.2.2)=
   some (.inr (.inl (EY l out nm k xs ch p.1.1 p.1.2.1 p.1.2.2 p.2.1 p.2.2.1 p.2.2.2 q.1 q.2.1 q.2.2.1 q.2.2.2))))\/
 (sX l r acc=none/\∃acc',kk (nV l acc ((t.length:Nat):Int) nm k xs ch p.1.1 p.1.2.1 p.1.2.2 p.2.1 p.2.2.1 p.2.2.2 q.1 q.2.1 q.2.2.1 q.2.2.2)=
   some (.inl (EX l [] 3 acc' nm k xs ch p.1.1 p.1.2.1 p.1.2.2 p.2.1 p.2.2.1 p.2.2.2 q.1 q.2.1 q.2.2.1 q.2.2.2)))
 |[],t,acc,h,hc=>by
  refine .inl ⟨acc,rfl, ?_⟩
  rw[G1,ov,sk h,cond_false];rfl
 |n::r,t,acc,h,hc=>by
  have htl:t.length<=1048576:=by rw[h,List.length_append]at ha;omega
  rw[G1,ov,yd h,cond_true,ix h,Option.bind_some,BG l n (by omega),Option.bind_some]
  simp only[sX]
  cases hf:l.findIdx? (fun y=>xu y.1 n)with
  |none=>exact .inr ⟨rfl,acc,rfl⟩
  |some j=>
   have hj:=Vx hf
   simp only
   rw[aW (show¬((j:Int)<0) by omega),cond_false,xi,List.getElem?_eq_getElem hj,Option.bind_some]
   simp only[List.length_singleton]
   rw[aT (show(acc.length+1)*104<=70368744177664 by omega),aT (show acc.length+1<=70368744177664 by omega),cond_true,cond_true,wr h (by omega)]
   exact T3 l hl k ch nm p q xs ha r (t++ [n]) (acc++ [l[j]]) (Wn h) (by simp[hc])
theorem Tu(l:List It)(hl:l.length<=1048576)(k ch:Int)(nm:ByteArray)(p:Pt)(q:Ln)(xs:List ByteArray)(ha:xs.length<=1048576):∀(r t:List ByteArray) (acc:List It),xs=t++r->acc.length=t.length->
 (∃out,sX l r acc=some out/\fH (ji l acc xs ((xs.length:Nat):Int) ((t.length:Nat):Int) nm k xs ch p.1.1 p.1.2.1 p.1.2.2 p.2.1 p.2.2.1 p.2.2.2 q.1 q.2.1 q.2.2.1 q.2.2.2)=
   some (.inr (.inl (zp out nm k xs ch p.1.1 p.1.2.1 p.1.2.2 p.2.1 p.2.2.1 p.2.2.2 q.1 q.2.1 q.2.2.1 q.2.2.2))))\/
 (sX l r acc=none/\∃acc',fH (ji l acc xs ((xs.length:Nat):Int) ((t.length:Nat):Int) nm k xs ch p.1.1 p.1.2.1 p.1.2.2 p.2.1 p.2.2.1 p.2.2.2 q.1 q.2.1 q.2.2.1 q.2.2.2)=
   some (.inl (zo [] 3 acc' nm k xs ch p.1.1 p.1.2.1 p.1.2.2 p.2.1 p.2.2.1 p.2.2.2 q.1 q.2.1 q.2.2.1 q.2.2.2)))
 |[],t,acc,h,hc=>by
  refine .inl ⟨acc,rfl, ?_⟩
  rw[Bh,jl,sk h,cond_false];rfl
 |n::r,t,acc,h,hc=>by
  have htl:t.length<=1048576:=by rw[h,List.length_append]at ha;omega
  rw[Bh,jl,yd h,cond_true,ix h,Option.bind_some,find_ok l n (by omega),Option.bind_some]
  simp only[sX]
  cases hf:l.findIdx? (fun y=>xu y.1 n)with
  |none=>exact .inr ⟨rfl,acc,rfl⟩
  |some j=>
   have hj:=Vx hf
   simp only
   rw[aW (show¬((j:Int)<0) by omega),cond_false,xi,List.getElem?_eq_getElem hj,Option.bind_some]
   simp only[List.length_singleton]
   rw[aT (show(acc.length+1)*104<=70368744177664 by omega),aT (show acc.length+1<=70368744177664 by omega),cond_true,cond_true,wr h (by omega)]
   exact Tu l hl k ch nm p q xs ha r (t++ [n]) (acc++ [l[j]]) (Wn h) (by simp[hc])
def Y9:Nat->List UInt8
 |3=>[108,108]|4=>[112,112]|5=>[108,120]|6=>[112,112]|7=>[112,112]|8=>[108,108]|9=>[108,112]|10=>[112,108,112]|11=>[112,108,112,108]|12=>[112,108,108]|_=>[]
def YV(f:UInt8)(x:It):Bool:=(f==112&&x.2.1)||(f==108&& !x.2.1)
def YE(k:Nat)(x:List It)(i:Nat):Bool:=match(Y9 k)[i]?,x[i]? with
 |some f,some y=> !YV f y
 |_,_=>true
theorem Yp{k:Int}(h1:1<=k)(h2:k<=12){i:Nat}(hi:i<Pr k.toNat):∃f,(Y9 k.toNat)[i]?=some f/\∀{Q:Type} (kx:UInt8->Option Q),(Option.bind mF fun y=>Option.bind (fY y k) fun z=>Option.bind (Am z (i:Int)) kx)=kx f:=by
 rcases Gd h1 h2 with rfl|rfl|rfl|rfl|rfl|rfl|rfl|rfl|rfl|rfl|rfl|rfl
 ·exact absurd hi (Nat.not_lt_zero _)
 ·exact absurd hi (Nat.not_lt_zero _)
 all_goals
  match i,hi with
  |0,_=>exact⟨_,rfl,fun kx=>rfl⟩
  |1,_=>exact⟨_,rfl,fun kx=>rfl⟩
  |2,hi=>first|exact⟨_,rfl,fun kx=>rfl⟩|exact absurd hi (by decide)
  |3,hi=>first|exact⟨_,rfl,fun kx=>rfl⟩|exact absurd hi (by decide)
  |n+4,hi=>exact absurd (Nat.lt_of_lt_of_le hi (by decide)) (show¬n+4<4 by omega)
theorem X9{k:Int}(h1:1<=k)(h2:k<=12){i:Nat}(hi:i<Pr k.toNat):∃f,(Y9 k.toNat)[i]?=some f/\∀{Q:Type} (kx:UInt8->Option Q),(Option.bind (fY yk k) fun z=>Option.bind (Am z.2.1 (i:Int)) kx)=kx f:=by
 rcases Gd h1 h2 with rfl|rfl|rfl|rfl|rfl|rfl|rfl|rfl|rfl|rfl|rfl|rfl
 ·exact absurd hi (Nat.not_lt_zero _)
 ·exact absurd hi (Nat.not_lt_zero _)
 all_goals
  match i,hi with
  |0,_=>exact⟨_,rfl,fun kx=>rfl⟩
  |1,_=>exact⟨_,rfl,fun kx=>rfl⟩
  |2,hi=>first|exact⟨_,rfl,fun kx=>rfl⟩|exact absurd hi (by decide)
  |3,hi=>first|exact⟨_,rfl,fun kx=>rfl⟩|exact absurd hi (by decide)
  |n+4,hi=>exact absurd (Nat.lt_of_lt_of_le hi (by decide)) (show¬n+4<4 by omega)
theorem Qu(f:UInt8)(n:Nat)(hn:n<256):((((UInt8.toNat f):Nat):Int)==(n:Int))=(f==UInt8.ofNat n):=by
 rw[Bool.eq_iff_iff]
 simp only[beq_iff_eq]
 constructor
 ·intro h
  have h:f.toNat=n:=by omega
  apply UInt8.toNat_inj.1
  rw[h,UInt8.toNat_ofNat'];omega
 ·rintro rfl
  rw[UInt8.toNat_ofNat'];omega
theorem Xb(l:List It)(k ch:Int)(nm:ByteArray)(p:Pt)(q:Ln)(xs:List ByteArray)(x:List It)(h1:1<=k)(h2:k<=12)(hx:x.length=Pr k.toNat):
 mR (kz l x 0 nm k xs ch p.1.1 p.1.2.1 p.1.2.2 p.2.1 p.2.2.1 p.2.2.2 q.1 q.2.1 q.2.2.1 q.2.2.2)=
  some (cond ((List.range x.length).all (YE k.toNat x)) (.inr (.inl (wX l x nm k xs ch p.1.1 p.1.2.1 p.1.2.2 p.2.1 p.2.2.1 p.2.2.2 q.1 q.2.1 q.2.2.1 q.2.2.2)))
   (.inl (pe l [] 6 x nm k xs ch p.1.1 p.1.2.1 p.1.2.2 p.2.1 p.2.2.1 p.2.2.2 q.1 q.2.1 q.2.2.1 q.2.2.2))):=by
 have hsm:Pr k.toNat<=4:=by
  rcases Gd h1 h2 with rfl|rfl|rfl|rfl|rfl|rfl|rfl|rfl|rfl|rfl|rfl|rfl<;>decide
 have h:=Hq (W:=fun i=>mR (kz l x (i:Int) nm k xs ch p.1.1 p.1.2.1 p.1.2.2 p.2.1 p.2.2.1 p.2.2.2 q.1 q.2.1 q.2.2.1 q.2.2.2)) (n:=x.length) (P:=YE k.toNat x)
  (e0:=.inl (pe l [] 6 x nm k xs ch p.1.1 p.1.2.1 p.1.2.2 p.2.1 p.2.2.1 p.2.2.2 q.1 q.2.1 q.2.2.1 q.2.2.2)) (e1:=.inr (.inl (wX l x nm k xs ch p.1.1 p.1.2.1 p.1.2.2 p.2.1 p.2.2.1 p.2.2.2 q.1 q.2.1 q.2.2.1 q.2.2.2))) ?_ ?_
 ·exact h
 ·rw[FT,mO,aW (by omega),cond_false];rfl
 ·intro i hi
  obtain⟨f,hf,hform⟩:=Yp h1 h2 (i:=i) (by omega)
  rw[FT,mO,aT (by omega),cond_true,hform]
  have e112:=Qu f 112 (by decide)
  have e108:=Qu f 108 (by decide)
  have e112:((((UInt8.toNat f):Nat):Int)==112)=(f==112):=e112
  have e108:((((UInt8.toNat f):Nat):Int)==108)=(f==108):=e108
  rw[e112,e108,xi,List.getElem?_eq_getElem hi,w1n (by omega)]
  simp only[Option.bind_some]
  have ho:YE k.toNat x i= !YV f x[i]:=by simp only[YE,hf,List.getElem?_eq_getElem hi]
  rw[ho]
  unfold YV
  cases f==112<;>cases f==108<;>cases x[i].2.1<;>rfl
theorem WU(k ch:Int)(nm:ByteArray)(p:Pt)(q:Ln)(xs:List ByteArray)(x:List It)(h1:1<=k)(h2:k<=12)(hx:x.length=Pr k.toNat):
 iF (gi x x ((x.length:Nat):Int) 0 nm k xs ch p.1.1 p.1.2.1 p.1.2.2 p.2.1 p.2.2.1 p.2.2.2 q.1 q.2.1 q.2.2.1 q.2.2.2)=
  some (cond ((List.range x.length).all (YE k.toNat x)) (.inr (.inl (sj x))) (.inl (kO [] 6 x))):=by
 have hsm:Pr k.toNat<=4:=by
  rcases Gd h1 h2 with rfl|rfl|rfl|rfl|rfl|rfl|rfl|rfl|rfl|rfl|rfl|rfl<;>decide
 have h:=Hq (W:=fun i=>iF (gi x x ((x.length:Nat):Int) (i:Int) nm k xs ch p.1.1 p.1.2.1 p.1.2.2 p.2.1 p.2.2.1 p.2.2.2 q.1 q.2.1 q.2.2.1 q.2.2.2)) (n:=x.length) (P:=YE k.toNat x)
  (e0:=.inl (kO [] 6 x)) (e1:=.inr (.inl (sj x))) ?_ ?_
 ·exact h
 ·rw[Ag,iD,aW (by omega),cond_false];rfl
 ·intro i hi
  obtain⟨f,hf,hform⟩:=X9 h1 h2 (i:=i) (by omega)
  rw[Ag,iD,aT (by omega),cond_true,xi,List.getElem?_eq_getElem hi,Option.bind_some,hform]
  have e112:=Qu f 112 (by decide)
  have e108:=Qu f 108 (by decide)
  have e112:((((UInt8.toNat f):Nat):Int)==112)=(f==112):=e112
  have e108:((((UInt8.toNat f):Nat):Int)==108)=(f==108):=e108
  rw[e112,e108,w1n (by omega)]
  have ho:YE k.toNat x i= !YV f x[i]:=by simp only[YE,hf,List.getElem?_eq_getElem hi]
  rw[ho]
  unfold YV
  by_cases h12:f=112
  ·subst h12
   cases x[i].2.1<;>rfl
  ·have h12':(f==112)=false:=by simp[h12]
   rw[h12']
   cases f==108<;>cases x[i].2.1<;>rfl
def oW(nm:ByteArray)(s i:Option (It×Int)):Prop:=∃y code,s=some (y,code)/\i=some (cond (code !=0) (itZ,code) ((nm,y.2),0))
theorem Lr(nm:ByteArray)(p:Pt)(c:Int):oW nm (dl p c) (dA nm p c):=by
 refine⟨_,c,rfl, ?_⟩
 rw[dA,qy]
 cases c !=0<;>rfl
theorem ET(nm:ByteArray)(l:Ln)(c:Int):oW nm (cC l c) (cx nm l c):=by
 refine⟨_,c,rfl, ?_⟩
 rw[cx,rG]
 cases c !=0<;>rfl
theorem FY(c:Cn)(l:List Ln)(code:Int)(h0:0<=c.2.2.2.1):oW c.1 (fU l code c.2.2.2.1) (ej c l code):=by
 rw[fU,rN,ej,pw]
 by_cases hc:code=0
 ·subst hc
  by_cases hg:c.2.2.2.1>=(l.length:Int)
  ·refine⟨itZ,3, ?_, ?_⟩
   ·rw[aT hg];rfl
   ·rw[gw,gy,Option.bind_some,aT hg];rfl
  ·have hlt:c.2.2.2.1.toNat<l.length:=by omega
   have hi:fY l c.2.2.2.1=some l[c.2.2.2.1.toNat]:=by unfold fY;rw[if_pos h0,List.getElem?_eq_getElem hlt]
   refine⟨((⟨#[]⟩:ByteArray),true,zPt,l[c.2.2.2.1.toNat]),0, ?_, ?_⟩
   ·rw[aW hg,hi];rfl
   ·rw[gw,gy,Option.bind_some,aW hg,hi];rfl
 ·have h1:(code==0)=false:=by simp[hc]
  have h2:(code !=0)=true:=by simp[hc]
  refine⟨itZ,code, ?_, ?_⟩
  ·rw[h1,h2];rfl
  ·rw[h2];rfl
theorem abY(b:Bool):gH b=fe b:=rfl
def cdB(b:Bool):Int:=cond b 0 2
theorem Nk(b:Bool):gH b=some (cdB b):=by cases b<;>rfl
theorem Nj(b:Bool):fe b=some (cdB b):=by cases b<;>rfl
theorem fW(o:Option (It×Int)):(Option.bind o fun y=>some y)=o:=by cases o<;>rfl
theorem XZ(nm:ByteArray)(u v:Pt):oW nm (Option.bind (mE u v) fun y=>Option.bind (gH y.2) fun z=>Option.bind (dl y.1 z) fun y=>some y) (Option.bind (mC u v) fun y=>Option.bind (fe y.2) fun z=>Option.bind (dA nm y.1 z) fun y=>some y):=by
 rw[ZP,Ze,Option.bind_some,Option.bind_some,Nk,Nj,Option.bind_some,Option.bind_some,fW,fW];exact Lr ..
theorem U9(nm:ByteArray)(u:Ln)(v:Pt):oW nm (Option.bind (iA u v) fun y=>Option.bind (gH y.2) fun z=>Option.bind (dl y.1 z) fun y=>some y) (Option.bind (Option.bind (iz u v) fun y=>Option.bind (fe y.2) fun z=>Option.bind (dA nm y.1 z) fun y=>some y) fun y=>some y):=by
 rw[fW,V8,VG,Option.bind_some,Option.bind_some,Nk,Nj,Option.bind_some,Option.bind_some,fW,fW];exact Lr ..
theorem U8(nm:ByteArray)(u v:Ln):oW nm (Option.bind (jh u v) fun y=>Option.bind (gH y.2) fun z=>Option.bind (cC y.1 z) fun y=>some y) (Option.bind (Option.bind (jg u v) fun y=>Option.bind (fe y.2) fun z=>Option.bind (cx nm y.1 z) fun y=>some y) fun y=>some y):=by
 rw[fW,V7,VF,Option.bind_some,Option.bind_some,Nk,Nj,Option.bind_some,Option.bind_some,fW,fW];exact ET ..
theorem abu(nm:ByteArray)(xs:List ByteArray)(ch:Int)(p:Pt)(q:Ln)(x:List It):oW nm (cL (nm,(1,(xs,(ch,(p,q))))) x) (ei (nm,(1,(xs,(ch,(p,q))))) x):=by
 show oW nm (Option.bind (dl p 0) fun y=>some y) (Option.bind (dA nm p 0) fun y=>some y)
 rw[fW,fW];exact Lr ..
theorem abv(nm:ByteArray)(xs:List ByteArray)(ch:Int)(p:Pt)(q:Ln)(x:List It):oW nm (cL (nm,(2,(xs,(ch,(p,q))))) x) (ei (nm,(2,(xs,(ch,(p,q))))) x):=by
 show oW nm (Option.bind (cC q 0) fun y=>some y) (Option.bind (cx nm q 0) fun y=>some y)
 rw[fW,fW];exact ET ..
theorem abw(nm:ByteArray)(xs:List ByteArray)(ch:Int)(p:Pt)(q:Ln)(a b:It):oW nm (cL (nm,(3,(xs,(ch,(p,q))))) [a,b]) (ei (nm,(3,(xs,(ch,(p,q))))) [a,b]):=by
 show oW nm (Option.bind (lm a.2.2.2 b.2.2.2) fun y=>Option.bind (dl y.1 y.2) fun y=>some y) (Option.bind (la a.2.2.2 b.2.2.2) fun y=>Option.bind (dA nm y.1 y.2) fun y=>some y)
 rw[V6,VD,Option.bind_some,Option.bind_some,fW,fW];exact Lr ..
theorem abx(nm:ByteArray)(xs:List ByteArray)(ch:Int)(p:Pt)(q:Ln)(a b:It):oW nm (cL (nm,(4,(xs,(ch,(p,q))))) [a,b]) (ei (nm,(4,(xs,(ch,(p,q))))) [a,b]):=by
 exact XZ nm a.2.2.1 b.2.2.1
theorem aby(nm:ByteArray)(xs:List ByteArray)(ch:Int)(p:Pt)(q:Ln)(a b:It):oW nm (cL (nm,(5,(xs,(ch,(p,q))))) [a,b]) (ei (nm,(5,(xs,(ch,(p,q))))) [a,b]):=by
 obtain⟨bn,bl,bp,bq⟩:=b
 cases bl
 ·exact U9 nm a.2.2.2 bp
 ·exact U8 nm a.2.2.2 bq
theorem abz(nm:ByteArray)(xs:List ByteArray)(ch:Int)(p:Pt)(q:Ln)(a b:It):oW nm (cL (nm,(6,(xs,(ch,(p,q))))) [a,b]) (ei (nm,(6,(xs,(ch,(p,q))))) [a,b]):=by
 show oW nm (Option.bind (lk a.2.2.1 b.2.2.1) fun y=>Option.bind (cC y.1 y.2) fun y=>some y) (Option.bind (kX a.2.2.1 b.2.2.1) fun y=>Option.bind (cx nm y.1 y.2) fun y=>some y)
 rw[lk,om,kX,nZ,Yt,Yc];simp only[Option.bind_some,fW];exact ET ..
theorem abA(nm:ByteArray)(xs:List ByteArray)(ch:Int)(p:Pt)(q:Ln)(a b:It):oW nm (cL (nm,(7,(xs,(ch,(p,q))))) [a,b]) (ei (nm,(7,(xs,(ch,(p,q))))) [a,b]):=by
 show oW nm (Option.bind (mD a.2.2.1 b.2.2.1) fun y=>Option.bind (cC y.1 y.2) fun y=>some y) (Option.bind (mB a.2.2.1 b.2.2.1) fun y=>Option.bind (cx nm y.1 y.2) fun y=>some y)
 rw[Ys,Yb,Option.bind_some,Option.bind_some,fW,fW];exact ET ..
theorem abB(nm:ByteArray)(xs:List ByteArray)(ch:Int)(p:Pt)(q:Ln)(a b:It)(h0:0<=ch):oW nm (cL (nm,(8,(xs,(ch,(p,q))))) [a,b]) (ei (nm,(8,(xs,(ch,(p,q))))) [a,b]):=by
 show oW nm (Option.bind (lj a.2.2.2 b.2.2.2) fun y=>Option.bind (fU y.1 y.2 ch) fun y=>some y) (Option.bind (Option.bind (kW a.2.2.2 b.2.2.2) fun y=>Option.bind (ej (nm,(8,(xs,(ch,(p,q))))) y.1 y.2) fun y=>some y) fun y=>some y)
 rw[Xc,WV,Option.bind_some,Option.bind_some,fW,fW,fW];exact FY (nm,(8,(xs,(ch,(p,q))))) _ _ h0
theorem abC(nm:ByteArray)(xs:List ByteArray)(ch:Int)(p:Pt)(q:Ln)(a b:It):oW nm (cL (nm,(9,(xs,(ch,(p,q))))) [a,b]) (ei (nm,(9,(xs,(ch,(p,q))))) [a,b]):=by
 show oW nm (Option.bind (eG a.2.2.2 b.2.2.1) fun y=>Option.bind (cC y.1 y.2) fun y=>some y) (Option.bind (eF a.2.2.2 b.2.2.1) fun y=>Option.bind (cx nm y.1 y.2) fun y=>some y)
 rw[Tb,ST,Option.bind_some,Option.bind_some,fW,fW];exact ET ..
theorem aat(nm:ByteArray)(xs:List ByteArray)(ch:Int)(p:Pt)(q:Ln)(a b d:It)(h0:0<=ch):oW nm (cL (nm,(10,(xs,(ch,(p,q))))) [a,b,d]) (ei (nm,(10,(xs,(ch,(p,q))))) [a,b,d]):=by
 show oW nm (Option.bind (gG a.2.2.1 b.2.2.2 d.2.2.1) fun y=>Option.bind (fU y.1 y.2 ch) fun y=>some y) (Option.bind (Option.bind (gB a.2.2.1 b.2.2.2 d.2.2.1) fun y=>Option.bind (ej (nm,(10,(xs,(ch,(p,q))))) y.1 y.2) fun y=>some y) fun y=>some y)
 rw[Xd,WW,Option.bind_some,Option.bind_some,fW,fW,fW];exact FY (nm,(10,(xs,(ch,(p,q))))) _ _ h0
theorem aau(nm:ByteArray)(xs:List ByteArray)(ch:Int)(p:Pt)(q:Ln)(a b d e:It)(h0:0<=ch):oW nm (cL (nm,(11,(xs,(ch,(p,q))))) [a,b,d,e]) (ei (nm,(11,(xs,(ch,(p,q))))) [a,b,d,e]):=by
 show oW nm (Option.bind (nP a.2.2.1 b.2.2.2 d.2.2.1 e.2.2.2) fun y=>Option.bind (fU y.1 y.2 ch) fun y=>some y) (Option.bind (Option.bind (nJ a.2.2.1 b.2.2.2 d.2.2.1 e.2.2.2) fun y=>Option.bind (ej (nm,(11,(xs,(ch,(p,q))))) y.1 y.2) fun y=>some y) fun y=>some y)
 rw[ZQ,Zf,Option.bind_some,Option.bind_some,fW,fW,fW];exact FY (nm,(11,(xs,(ch,(p,q))))) _ _ h0
theorem aav(nm:ByteArray)(xs:List ByteArray)(ch:Int)(p:Pt)(q:Ln)(a b d:It):oW nm (cL (nm,(12,(xs,(ch,(p,q))))) [a,b,d]) (ei (nm,(12,(xs,(ch,(p,q))))) [a,b,d]):=by
 show oW nm (Option.bind (jW a.2.2.1 b.2.2.2 d.2.2.2) fun y=>Option.bind (cC y.1 y.2) fun y=>some y) (Option.bind (jT a.2.2.1 b.2.2.2 d.2.2.2) fun y=>Option.bind (cx nm y.1 y.2) fun y=>some y)
 rw[V5,VC,Option.bind_some,Option.bind_some,fW,fW];exact ET ..
theorem Rx{α:Type}{x:List α}(h:x.length=2):∃a b,x=[a,b]:=by
 match x,h with
 |[a,b],_=>exact⟨a,b,rfl⟩
theorem aaX{α:Type}{x:List α}(h:x.length=3):∃a b c,x=[a,b,c]:=by
 match x,h with
 |[a,b,c],_=>exact⟨a,b,c,rfl⟩
theorem acg{α:Type}{x:List α}(h:x.length=4):∃a b c d,x=[a,b,c,d]:=by
 match x,h with
 |[a,b,c,d],_=>exact⟨a,b,c,d,rfl⟩
theorem aaw(c:Cn)(x:List It)(h1:1<=c.2.1)(h2:c.2.1<=12)(hx:x.length=Pr c.2.1.toNat)(h0:0<=c.2.2.2.1):oW c.1 (cL c x) (ei c x):=by
 obtain⟨nm,k,xs,ch,p,q⟩:=c
 simp only at h1 h2 hx h0
 rcases Gd h1 h2 with rfl|rfl|rfl|rfl|rfl|rfl|rfl|rfl|rfl|rfl|rfl|rfl
 ·exact abu nm xs ch p q x
 ·exact abv nm xs ch p q x
 ·obtain⟨a,b,rfl⟩:=Rx (hx.trans (by decide));exact abw nm xs ch p q a b
 ·obtain⟨a,b,rfl⟩:=Rx (hx.trans (by decide));exact abx nm xs ch p q a b
 ·obtain⟨a,b,rfl⟩:=Rx (hx.trans (by decide));exact aby nm xs ch p q a b
 ·obtain⟨a,b,rfl⟩:=Rx (hx.trans (by decide));exact abz nm xs ch p q a b
 ·obtain⟨a,b,rfl⟩:=Rx (hx.trans (by decide));exact abA nm xs ch p q a b
 ·obtain⟨a,b,rfl⟩:=Rx (hx.trans (by decide));exact abB nm xs ch p q a b h0
 ·obtain⟨a,b,rfl⟩:=Rx (hx.trans (by decide));exact abC nm xs ch p q a b
 ·obtain⟨a,b,d,rfl⟩:=aaX (hx.trans (by decide));exact aat nm xs ch p q a b d h0
 ·obtain⟨a,b,d,e,rfl⟩:=acg (hx.trans (by decide));exact aau nm xs ch p q a b d e h0
 ·obtain⟨a,b,d,rfl⟩:=aaX (hx.trans (by decide));exact aav nm xs ch p q a b d
end Go.Proofs.YtjkljnflaifbhaaGreatDoor
