/- No conditions. -/
import Derived.Test.YtjkljnflaifbhaaGreatDoorZ5a
namespace Go.Proofs.YtjkljnflaifbhaaGreatDoor
open Go.Vai
def itZ:It:=((ByteArray.mk (Array.mk [])),(false,(zPt,zLn)))
def uw(l:List It):List ByteArray->List It->Option (List It)
 |[],acc=>some acc
 |n::r,acc=>match l.findIdx? (fun y=>yK y.1 n)with
  |none=>none
  |some j=>match l[j]? with
   |some y=>uw l r (acc++ [y])
   |none=>none
theorem YK{l:List It}{n:ByteArray}{j:Nat}(h:l.findIdx? (fun y=>yK y.1 n)=some j):j<l.length:=by
 rw[List.findIdx?_eq_some_iff_getElem]at h
 exact h.1
theorem xy(l:List It):∀(r:List ByteArray) (acc out:List It),uw l r acc=some out->out.length=acc.length+r.length
 |[],acc,out,h=>by cases h;rfl
 |n::r,acc,out,h=>by
  simp only[uw]at h
  split at h
  ·cases h
  ·split at h
   ·have:=xy l r _ _ h
    simp only[List.length_append,List.length_cons,List.length_nil]at this⊢;omega
   ·cases h
theorem W2(l:List It)(hl:l.length<=1048576)(k ch:Int)(nm:ByteArray)(p:Pt)(q:Ln)(xs:List ByteArray)(ha:xs.length<=1048576):∀(r t:List ByteArray) (acc:List It),xs=t++r->acc.length=t.length->
 (∃out,uw l r acc=some out/\kS (pj l acc ((t.length:Nat):Int) nm k xs ch p.1.1 p.1.2.1 p.1.2.2 p.2.1 p.2.2.1 p.2.2.2 q.1 q.2.1 q.2.2.1 q.2.2.2)=
   some (.inr (.inl (GO l out nm k xs ch p.1.1 p.1.2.1 p.1.2.2 p.2.1 p.2.2.1 p.2.2.2 q.1 q.2.1 q.2.2.1 q.2.2.2))))\/
 (uw l r acc=none/\∃acc',kS (pj l acc ((t.length:Nat):Int) nm k xs ch p.1.1 p.1.2.1 p.1.2.2 p.2.1 p.2.2.1 p.2.2.2 q.1 q.2.1 q.2.2.1 q.2.2.2)=
   some (.inl (GN l [] 3 acc' nm k xs ch p.1.1 p.1.2.1 p.1.2.2 p.2.1 p.2.2.1 p.2.2.2 q.1 q.2.1 q.2.2.1 q.2.2.2)))
 |[],t,acc,h,hc=>by
  refine .inl ⟨acc,rfl, ?_⟩
  rw[Jn,pH,qJ h,cond_false];rfl
 |n::r,t,acc,h,hc=>by
  have htl:t.length<=1048576:=by rw[h,List.length_append]at ha;omega
  rw[Jn,pH,uM h,cond_true,ix h,Option.bind_some,wk l n (by omega),Option.bind_some]
  simp only[uw]
  cases hf:l.findIdx? (fun y=>yK y.1 n)with
  |none=>exact .inr ⟨rfl,acc,rfl⟩
  |some j=>
   have hj:=YK hf
   simp only
   rw[aW (show¬((j:Int)<0) by omega),cond_false,zf,List.getElem?_eq_getElem hj,Option.bind_some]
   simp only[List.length_singleton]
   rw[aR (show(acc.length+1)*104<=70368744177664 by omega),aR (show acc.length+1<=70368744177664 by omega),cond_true,cond_true,wr h (by omega)]
   exact W2 l hl k ch nm p q xs ha r (t++ [n]) (acc++ [l[j]]) (Ya h) (by simp[hc])
theorem Wu(l:List It)(hl:l.length<=1048576)(k ch:Int)(nm:ByteArray)(p:Pt)(q:Ln)(xs:List ByteArray)(ha:xs.length<=1048576):∀(r t:List ByteArray) (acc:List It),xs=t++r->acc.length=t.length->
 (∃out,uw l r acc=some out/\gd (jL l acc xs ((xs.length:Nat):Int) ((t.length:Nat):Int) nm k xs ch p.1.1 p.1.2.1 p.1.2.2 p.2.1 p.2.2.1 p.2.2.2 q.1 q.2.1 q.2.2.1 q.2.2.2)=
   some (.inr (.inl (Bk out nm k xs ch p.1.1 p.1.2.1 p.1.2.2 p.2.1 p.2.2.1 p.2.2.2 q.1 q.2.1 q.2.2.1 q.2.2.2))))\/
 (uw l r acc=none/\∃acc',gd (jL l acc xs ((xs.length:Nat):Int) ((t.length:Nat):Int) nm k xs ch p.1.1 p.1.2.1 p.1.2.2 p.2.1 p.2.2.1 p.2.2.2 q.1 q.2.1 q.2.2.1 q.2.2.2)=
   some (.inl (Bj [] 3 acc' nm k xs ch p.1.1 p.1.2.1 p.1.2.2 p.2.1 p.2.2.1 p.2.2.2 q.1 q.2.1 q.2.2.1 q.2.2.2)))
 |[],t,acc,h,hc=>by
  refine .inl ⟨acc,rfl, ?_⟩
  rw[CR,jO,qJ h,cond_false];rfl
 |n::r,t,acc,h,hc=>by
  have htl:t.length<=1048576:=by rw[h,List.length_append]at ha;omega
  rw[CR,jO,uM h,cond_true,ix h,Option.bind_some,find_ok l n (by omega),Option.bind_some]
  simp only[uw]
  cases hf:l.findIdx? (fun y=>yK y.1 n)with
  |none=>exact .inr ⟨rfl,acc,rfl⟩
  |some j=>
   have hj:=YK hf
   simp only
   rw[aW (show¬((j:Int)<0) by omega),cond_false,zf,List.getElem?_eq_getElem hj,Option.bind_some]
   simp only[List.length_singleton]
   rw[aR (show(acc.length+1)*104<=70368744177664 by omega),aR (show acc.length+1<=70368744177664 by omega),cond_true,cond_true,wr h (by omega)]
   exact Wu l hl k ch nm p q xs ha r (t++ [n]) (acc++ [l[j]]) (Ya h) (by simp[hc])
def acs:Nat->List UInt8
 |3=>[108,108]|4=>[112,112]|5=>[108,120]|6=>[112,112]|7=>[112,112]|8=>[108,108]|9=>[108,112]|10=>[112,108,112]|11=>[112,108,112,108]|12=>[112,108,108]|_=>[]
def acb(f:UInt8)(x:It):Bool:=(f==112&&x.2.1)||(f==108&& !x.2.1)
def okK(k:Nat)(x:List It)(i:Nat):Bool:=match(acs k)[i]?,x[i]? with
 |some f,some y=> !acb f y
 |_,_=>true
theorem abF{k:Int}(h1:1<=k)(h2:k<=12){i:Nat}(hi:i<Sk k.toNat):∃f,(acs k.toNat)[i]?=some f/\∀{Q:Type} (kx:UInt8->Option Q),(Option.bind nB fun y=>Option.bind (gq y k) fun z=>Option.bind (B3 z (i:Int)) kx)=kx f:=by
 rcases Is h1 h2 with rfl|rfl|rfl|rfl|rfl|rfl|rfl|rfl|rfl|rfl|rfl|rfl
 ·exact absurd hi (Nat.not_lt_zero _)
 ·exact absurd hi (Nat.not_lt_zero _)
 all_goals
  match i,hi with
  |0,_=>exact⟨_,rfl,fun kx=>rfl⟩
  |1,_=>exact⟨_,rfl,fun kx=>rfl⟩
  |2,hi=>first|exact⟨_,rfl,fun kx=>rfl⟩|exact absurd hi (by decide)
  |3,hi=>first|exact⟨_,rfl,fun kx=>rfl⟩|exact absurd hi (by decide)
  |n+4,hi=>exact absurd (Nat.lt_of_lt_of_le hi (by decide)) (show¬n+4<4 by omega)
theorem abo{k:Int}(h1:1<=k)(h2:k<=12){i:Nat}(hi:i<Sk k.toNat):∃f,(acs k.toNat)[i]?=some f/\∀{Q:Type} (kx:UInt8->Option Q),(Option.bind (gq An k) fun z=>Option.bind (B3 z.2.1 (i:Int)) kx)=kx f:=by
 rcases Is h1 h2 with rfl|rfl|rfl|rfl|rfl|rfl|rfl|rfl|rfl|rfl|rfl|rfl
 ·exact absurd hi (Nat.not_lt_zero _)
 ·exact absurd hi (Nat.not_lt_zero _)
 all_goals
  match i,hi with
  |0,_=>exact⟨_,rfl,fun kx=>rfl⟩
  |1,_=>exact⟨_,rfl,fun kx=>rfl⟩
  |2,hi=>first|exact⟨_,rfl,fun kx=>rfl⟩|exact absurd hi (by decide)
  |3,hi=>first|exact⟨_,rfl,fun kx=>rfl⟩|exact absurd hi (by decide)
  |n+4,hi=>exact absurd (Nat.lt_of_lt_of_le hi (by decide)) (show¬n+4<4 by omega)
theorem Tz(f:UInt8)(n:Nat)(hn:n<256):((((UInt8.toNat f):Nat):Int)==(n:Int))=(f==UInt8.ofNat n):=by
 rw[Bool.eq_iff_iff]
 simp only[beq_iff_eq]
 constructor
 ·intro h
  have h:f.toNat=n:=by omega
  apply UInt8.toNat_inj.1
  rw[h,UInt8.toNat_ofNat'];omega
 ·rintro rfl
  rw[UInt8.toNat_ofNat'];omega
theorem aak(l:List It)(k ch:Int)(nm:ByteArray)(p:Pt)(q:Ln)(xs:List ByteArray)(x:List It)(h1:1<=k)(h2:k<=12)(hx:x.length=Sk k.toNat):
 nP (ll l x 0 nm k xs ch p.1.1 p.1.2.1 p.1.2.2 p.2.1 p.2.2.1 p.2.2.2 q.1 q.2.1 q.2.2.1 q.2.2.2)=
  some (cond ((List.range x.length).all (okK k.toNat x)) (.inr (.inl (yW l x nm k xs ch p.1.1 p.1.2.1 p.1.2.2 p.2.1 p.2.2.1 p.2.2.2 q.1 q.2.1 q.2.2.1 q.2.2.2)))
   (.inl (qh l [] 6 x nm k xs ch p.1.1 p.1.2.1 p.1.2.2 p.2.1 p.2.2.1 p.2.2.2 q.1 q.2.1 q.2.2.1 q.2.2.2))):=by
 have hsm:Sk k.toNat<=4:=by
  rcases Is h1 h2 with rfl|rfl|rfl|rfl|rfl|rfl|rfl|rfl|rfl|rfl|rfl|rfl<;>decide
 have h:=JM (W:=fun i=>nP (ll l x (i:Int) nm k xs ch p.1.1 p.1.2.1 p.1.2.2 p.2.1 p.2.2.1 p.2.2.2 q.1 q.2.1 q.2.2.1 q.2.2.2)) (n:=x.length) (P:=okK k.toNat x)
  (e0:=.inl (qh l [] 6 x nm k xs ch p.1.1 p.1.2.1 p.1.2.2 p.2.1 p.2.2.1 p.2.2.2 q.1 q.2.1 q.2.2.1 q.2.2.2)) (e1:=.inr (.inl (yW l x nm k xs ch p.1.1 p.1.2.1 p.1.2.2 p.2.1 p.2.2.1 p.2.2.2 q.1 q.2.1 q.2.2.1 q.2.2.2))) ?_ ?_
 ·exact h
 ·rw[H9,nM,aW (by omega),cond_false];rfl
 ·intro i hi
  obtain⟨f,hf,hform⟩:=abF h1 h2 (i:=i) (by omega)
  rw[H9,nM,aR (by omega),cond_true,hform]
  have e112:=Tz f 112 (by decide)
  have e108:=Tz f 108 (by decide)
  have e112:((((UInt8.toNat f):Nat):Int)==112)=(f==112):=e112
  have e108:((((UInt8.toNat f):Nat):Int)==108)=(f==108):=e108
  rw[e112,e108,zf,List.getElem?_eq_getElem hi,w1n (by omega)]
  simp only[Option.bind_some]
  have ho:okK k.toNat x i= !acb f x[i]:=by simp only[okK,hf,List.getElem?_eq_getElem hi]
  rw[ho]
  unfold acb
  cases f==112<;>cases f==108<;>cases x[i].2.1<;>rfl
theorem Z4(k ch:Int)(nm:ByteArray)(p:Pt)(q:Ln)(xs:List ByteArray)(x:List It)(h1:1<=k)(h2:k<=12)(hx:x.length=Sk k.toNat):
 je (gL x x ((x.length:Nat):Int) 0 nm k xs ch p.1.1 p.1.2.1 p.1.2.2 p.2.1 p.2.2.1 p.2.2.2 q.1 q.2.1 q.2.2.1 q.2.2.2)=
  some (cond ((List.range x.length).all (okK k.toNat x)) (.inr (.inl (tO x))) (.inl (lG [] 6 x))):=by
 have hsm:Sk k.toNat<=4:=by
  rcases Is h1 h2 with rfl|rfl|rfl|rfl|rfl|rfl|rfl|rfl|rfl|rfl|rfl|rfl<;>decide
 have h:=JM (W:=fun i=>je (gL x x ((x.length:Nat):Int) (i:Int) nm k xs ch p.1.1 p.1.2.1 p.1.2.2 p.2.1 p.2.2.1 p.2.2.2 q.1 q.2.1 q.2.2.1 q.2.2.2)) (n:=x.length) (P:=okK k.toNat x)
  (e0:=.inl (lG [] 6 x)) (e1:=.inr (.inl (tO x))) ?_ ?_
 ·exact h
 ·rw[BW,jc,aW (by omega),cond_false];rfl
 ·intro i hi
  obtain⟨f,hf,hform⟩:=abo h1 h2 (i:=i) (by omega)
  rw[BW,jc,aR (by omega),cond_true,zf,List.getElem?_eq_getElem hi,Option.bind_some,hform]
  have e112:=Tz f 112 (by decide)
  have e108:=Tz f 108 (by decide)
  have e112:((((UInt8.toNat f):Nat):Int)==112)=(f==112):=e112
  have e108:((((UInt8.toNat f):Nat):Int)==108)=(f==108):=e108
  rw[e112,e108,w1n (by omega)]
  have ho:okK k.toNat x i= !acb f x[i]:=by simp only[okK,hf,List.getElem?_eq_getElem hi]
  rw[ho]
  unfold acb
  by_cases h12:f=112
  ·subst h12
   cases x[i].2.1<;>rfl
  ·have h12':(f==112)=false:=by simp[h12]
   rw[h12']
   cases f==108<;>cases x[i].2.1<;>rfl
def qc(nm:ByteArray)(s i:Option (It×Int)):Prop:=∃y code,s=some (y,code)/\i=some (cond (code !=0) (itZ,code) ((nm,y.2),0))
theorem Oh(nm:ByteArray)(p:Pt)(c:Int):qc nm (dw p c) (dH nm p c):=by
 refine⟨_,c,rfl, ?_⟩
 rw[dH,rS]
 cases c !=0<;>rfl
theorem GJ(nm:ByteArray)(l:Ln)(c:Int):qc nm (cE l c) (cB nm l c):=by
 refine⟨_,c,rfl, ?_⟩
 rw[cB,th]
 cases c !=0<;>rfl
theorem If(c:Cn)(l:List Ln)(code:Int)(h0:0<=c.2.2.2.1):qc c.1 (gw l code c.2.2.2.1) (eD c l code):=by
 rw[gw,tr,eD,qw]
 by_cases hc:code=0
 ·subst hc
  by_cases hg:c.2.2.2.1>=(l.length:Int)
  ·refine⟨itZ,3, ?_, ?_⟩
   ·rw[aR hg];rfl
   ·rw[gZ,hQ,Option.bind_some,aR hg];rfl
  ·have hlt:c.2.2.2.1.toNat<l.length:=by omega
   have hi:gq l c.2.2.2.1=some l[c.2.2.2.1.toNat]:=by unfold gq;rw[if_pos h0,List.getElem?_eq_getElem hlt]
   refine⟨((⟨#[]⟩:ByteArray),true,zPt,l[c.2.2.2.1.toNat]),0, ?_, ?_⟩
   ·rw[aW hg,hi];rfl
   ·rw[gZ,hQ,Option.bind_some,aW hg,hi];rfl
 ·have h1:(code==0)=false:=by simp[hc]
  have h2:(code !=0)=true:=by simp[hc]
  refine⟨itZ,code, ?_, ?_⟩
  ·rw[h1,h2];rfl
  ·rw[h2];rfl
def cdB(b:Bool):Int:=cond b 0 2
theorem Ql(b:Bool):jp b=some (cdB b):=by cases b<;>rfl
theorem Qk(b:Bool):gA b=some (cdB b):=by cases b<;>rfl
theorem gy(o:Option (It×Int)):(Option.bind o fun y=>some y)=o:=by cases o<;>rfl
theorem abc(nm:ByteArray)(u v:Pt):qc nm (Option.bind (nA u v) fun y=>Option.bind (jp y.2) fun z=>Option.bind (dw y.1 z) fun y=>some y) (Option.bind (ny u v) fun y=>Option.bind (gA y.2) fun z=>Option.bind (dH nm y.1 z) fun y=>some y):=by
 rw[ac6,acw,Option.bind_some,Option.bind_some,Ql,Qk,Option.bind_some,Option.bind_some,gy,gy];exact Oh ..
theorem Yk(nm:ByteArray)(u:Ln)(v:Pt):qc nm (Option.bind (iZ u v) fun y=>Option.bind (jp y.2) fun z=>Option.bind (dw y.1 z) fun y=>some y) (Option.bind (Option.bind (iX u v) fun y=>Option.bind (gA y.2) fun z=>Option.bind (dH nm y.1 z) fun y=>some y) fun y=>some y):=by
 rw[gy,Zm,YU,Option.bind_some,Option.bind_some,Ql,Qk,Option.bind_some,Option.bind_some,gy,gy];exact Oh ..
theorem Yj(nm:ByteArray)(u v:Ln):qc nm (Option.bind (jK u v) fun y=>Option.bind (jp y.2) fun z=>Option.bind (cE y.1 z) fun y=>some y) (Option.bind (Option.bind (jJ u v) fun y=>Option.bind (gA y.2) fun z=>Option.bind (cB nm y.1 z) fun y=>some y) fun y=>some y):=by
 rw[gy,Zl,YT,Option.bind_some,Option.bind_some,Ql,Qk,Option.bind_some,Option.bind_some,gy,gy];exact GJ ..
theorem aeW(nm:ByteArray)(xs:List ByteArray)(ch:Int)(p:Pt)(q:Ln)(x:List It):qc nm (cQ (nm,(1,(xs,(ch,(p,q))))) x) (eC (nm,(1,(xs,(ch,(p,q))))) x):=by
 show qc nm (Option.bind (dw p 0) fun y=>some y) (Option.bind (dH nm p 0) fun y=>some y)
 rw[gy,gy];exact Oh ..
theorem aeX(nm:ByteArray)(xs:List ByteArray)(ch:Int)(p:Pt)(q:Ln)(x:List It):qc nm (cQ (nm,(2,(xs,(ch,(p,q))))) x) (eC (nm,(2,(xs,(ch,(p,q))))) x):=by
 show qc nm (Option.bind (cE q 0) fun y=>some y) (Option.bind (cB nm q 0) fun y=>some y)
 rw[gy,gy];exact GJ ..
theorem aeY(nm:ByteArray)(xs:List ByteArray)(ch:Int)(p:Pt)(q:Ln)(a b:It):qc nm (cQ (nm,(3,(xs,(ch,(p,q))))) [a,b]) (eC (nm,(3,(xs,(ch,(p,q))))) [a,b]):=by
 show qc nm (Option.bind (ma a.2.2.2 b.2.2.2) fun y=>Option.bind (dw y.1 y.2) fun y=>some y) (Option.bind (lU a.2.2.2 b.2.2.2) fun y=>Option.bind (dH nm y.1 y.2) fun y=>some y)
 rw[Zk,YR,Option.bind_some,Option.bind_some,gy,gy];exact Oh ..
theorem aeZ(nm:ByteArray)(xs:List ByteArray)(ch:Int)(p:Pt)(q:Ln)(a b:It):qc nm (cQ (nm,(4,(xs,(ch,(p,q))))) [a,b]) (eC (nm,(4,(xs,(ch,(p,q))))) [a,b]):=by
 exact abc nm a.2.2.1 b.2.2.1
theorem ae0(nm:ByteArray)(xs:List ByteArray)(ch:Int)(p:Pt)(q:Ln)(a b:It):qc nm (cQ (nm,(5,(xs,(ch,(p,q))))) [a,b]) (eC (nm,(5,(xs,(ch,(p,q))))) [a,b]):=by
 obtain⟨bn,bl,bp,bq⟩:=b
 cases bl
 ·exact Yk nm a.2.2.2 bp
 ·exact Yj nm a.2.2.2 bq
theorem ae1(nm:ByteArray)(xs:List ByteArray)(ch:Int)(p:Pt)(q:Ln)(a b:It):qc nm (cQ (nm,(6,(xs,(ch,(p,q))))) [a,b]) (eC (nm,(6,(xs,(ch,(p,q))))) [a,b]):=by
 show qc nm (Option.bind (lY a.2.2.1 b.2.2.1) fun y=>Option.bind (cE y.1 y.2) fun y=>some y) (Option.bind (lR a.2.2.1 b.2.2.1) fun y=>Option.bind (cB nm y.1 y.2) fun y=>some y)
 rw[lY,pC,lR,po,abJ,abr];simp only[Option.bind_some,gy];exact GJ ..
theorem ae2(nm:ByteArray)(xs:List ByteArray)(ch:Int)(p:Pt)(q:Ln)(a b:It):qc nm (cQ (nm,(7,(xs,(ch,(p,q))))) [a,b]) (eC (nm,(7,(xs,(ch,(p,q))))) [a,b]):=by
 show qc nm (Option.bind (nz a.2.2.1 b.2.2.1) fun y=>Option.bind (cE y.1 y.2) fun y=>some y) (Option.bind (nw a.2.2.1 b.2.2.1) fun y=>Option.bind (cB nm y.1 y.2) fun y=>some y)
 rw[abI,abq,Option.bind_some,Option.bind_some,gy,gy];exact GJ ..
theorem ae3(nm:ByteArray)(xs:List ByteArray)(ch:Int)(p:Pt)(q:Ln)(a b:It)(h0:0<=ch):qc nm (cQ (nm,(8,(xs,(ch,(p,q))))) [a,b]) (eC (nm,(8,(xs,(ch,(p,q))))) [a,b]):=by
 show qc nm (Option.bind (lX a.2.2.2 b.2.2.2) fun y=>Option.bind (gw y.1 y.2 ch) fun y=>some y) (Option.bind (Option.bind (lQ a.2.2.2 b.2.2.2) fun y=>Option.bind (eD (nm,(8,(xs,(ch,(p,q))))) y.1 y.2) fun y=>some y) fun y=>some y)
 rw[aal,Z5,Option.bind_some,Option.bind_some,gy,gy,gy];exact If (nm,(8,(xs,(ch,(p,q))))) _ _ h0
theorem ae4(nm:ByteArray)(xs:List ByteArray)(ch:Int)(p:Pt)(q:Ln)(a b:It):qc nm (cQ (nm,(9,(xs,(ch,(p,q))))) [a,b]) (eC (nm,(9,(xs,(ch,(p,q))))) [a,b]):=by
 show qc nm (Option.bind (eU a.2.2.2 b.2.2.1) fun y=>Option.bind (cE y.1 y.2) fun y=>some y) (Option.bind (eT a.2.2.2 b.2.2.1) fun y=>Option.bind (cB nm y.1 y.2) fun y=>some y)
 rw[V8,VU,Option.bind_some,Option.bind_some,gy,gy];exact GJ ..
theorem adL(nm:ByteArray)(xs:List ByteArray)(ch:Int)(p:Pt)(q:Ln)(a b d:It)(h0:0<=ch):qc nm (cQ (nm,(10,(xs,(ch,(p,q))))) [a,b,d]) (eC (nm,(10,(xs,(ch,(p,q))))) [a,b,d]):=by
 show qc nm (Option.bind (ij a.2.2.1 b.2.2.2 d.2.2.1) fun y=>Option.bind (gw y.1 y.2 ch) fun y=>some y) (Option.bind (Option.bind (ie a.2.2.1 b.2.2.2 d.2.2.1) fun y=>Option.bind (eD (nm,(10,(xs,(ch,(p,q))))) y.1 y.2) fun y=>some y) fun y=>some y)
 rw[aam,Z7,Option.bind_some,Option.bind_some,gy,gy,gy];exact If (nm,(10,(xs,(ch,(p,q))))) _ _ h0
theorem adM(nm:ByteArray)(xs:List ByteArray)(ch:Int)(p:Pt)(q:Ln)(a b d e:It)(h0:0<=ch):qc nm (cQ (nm,(11,(xs,(ch,(p,q))))) [a,b,d,e]) (eC (nm,(11,(xs,(ch,(p,q))))) [a,b,d,e]):=by
 show qc nm (Option.bind (oZ a.2.2.1 b.2.2.2 d.2.2.1 e.2.2.2) fun y=>Option.bind (gw y.1 y.2 ch) fun y=>some y) (Option.bind (Option.bind (oT a.2.2.1 b.2.2.2 d.2.2.1 e.2.2.2) fun y=>Option.bind (eD (nm,(11,(xs,(ch,(p,q))))) y.1 y.2) fun y=>some y) fun y=>some y)
 rw[ac7,acx,Option.bind_some,Option.bind_some,gy,gy,gy];exact If (nm,(11,(xs,(ch,(p,q))))) _ _ h0
theorem adN(nm:ByteArray)(xs:List ByteArray)(ch:Int)(p:Pt)(q:Ln)(a b d:It):qc nm (cQ (nm,(12,(xs,(ch,(p,q))))) [a,b,d]) (eC (nm,(12,(xs,(ch,(p,q))))) [a,b,d]):=by
 show qc nm (Option.bind (kC a.2.2.1 b.2.2.2 d.2.2.2) fun y=>Option.bind (cE y.1 y.2) fun y=>some y) (Option.bind (ky a.2.2.1 b.2.2.2 d.2.2.2) fun y=>Option.bind (cB nm y.1 y.2) fun y=>some y)
 rw[Zi,YP,Option.bind_some,Option.bind_some,gy,gy];exact GJ ..
theorem UC{α:Type}{x:List α}(h:x.length=2):∃a b,x=[a,b]:=by
 match x,h with
 |[a,b],_=>exact⟨a,b,rfl⟩
theorem aej{α:Type}{x:List α}(h:x.length=3):∃a b c,x=[a,b,c]:=by
 match x,h with
 |[a,b,c],_=>exact⟨a,b,c,rfl⟩
theorem afC{α:Type}{x:List α}(h:x.length=4):∃a b c d,x=[a,b,c,d]:=by
 match x,h with
 |[a,b,c,d],_=>exact⟨a,b,c,d,rfl⟩
theorem aaI(c:Cn)(x:List It)(h1:1<=c.2.1)(h2:c.2.1<=12)(hx:x.length=Sk c.2.1.toNat)(h0:0<=c.2.2.2.1):qc c.1 (cQ c x) (eC c x):=by
 obtain⟨nm,k,xs,ch,p,q⟩:=c
 simp only at h1 h2 hx h0
 rcases Is h1 h2 with rfl|rfl|rfl|rfl|rfl|rfl|rfl|rfl|rfl|rfl|rfl|rfl
 ·exact aeW nm xs ch p q x
 ·exact aeX nm xs ch p q x
 ·obtain⟨a,b,rfl⟩:=UC (hx.trans (by decide));exact aeY nm xs ch p q a b
 ·obtain⟨a,b,rfl⟩:=UC (hx.trans (by decide));exact aeZ nm xs ch p q a b
 ·obtain⟨a,b,rfl⟩:=UC (hx.trans (by decide));exact ae0 nm xs ch p q a b
 ·obtain⟨a,b,rfl⟩:=UC (hx.trans (by decide));exact ae1 nm xs ch p q a b
 ·obtain⟨a,b,rfl⟩:=UC (hx.trans (by decide));exact ae2 nm xs ch p q a b
 ·obtain⟨a,b,rfl⟩:=UC (hx.trans (by decide));exact ae3 nm xs ch p q a b h0
 ·obtain⟨a,b,rfl⟩:=UC (hx.trans (by decide));exact ae4 nm xs ch p q a b
 ·obtain⟨a,b,d,rfl⟩:=aej (hx.trans (by decide));exact adL nm xs ch p q a b d h0
 ·obtain⟨a,b,d,e,rfl⟩:=afC (hx.trans (by decide));exact adM nm xs ch p q a b d e h0
 ·obtain⟨a,b,d,rfl⟩:=aej (hx.trans (by decide));exact adN nm xs ch p q a b d
end Go.Proofs.YtjkljnflaifbhaaGreatDoor
namespace Go.Proofs.YtjkljnflaifbhaaGreatDoor
open Go.Vai
def JP(l:List It)(k:Int)(xs:List ByteArray):List It×Int:=match uw l xs []with
 |none=>([],3)
 |some x=>cond ((List.range x.length).all (okK k.toNat x)) (x,0) ([],6)
theorem Fu(l:List It)(hl:l.length<=1048576)(nm:ByteArray)(k:Int)(xs:List ByteArray)(ch:Int)(p:Pt)(q:Ln)(ha:xs.length<=1048576)(h1:1<=k)(h2:k<=12)(hx:xs.length=Sk k.toNat):
 oD l (nm,(k,(xs,(ch,(p,q)))))=some (JP l k xs):=by
 rw[oD,rP]
 unfold JP
 rcases Wu l hl k ch nm p q xs ha xs [] [] rfl rfl with⟨out,e1,e2⟩|⟨e1,acc,e2⟩
 ·have e2':gd (jL l [] xs ((xs.length:Nat):Int) 0 nm k xs ch p.1.1 p.1.2.1 p.1.2.2 p.2.1 p.2.2.1 p.2.2.2 q.1 q.2.1 q.2.2.1 q.2.2.2)=_:=e2
  have hlen:out.length=Sk k.toNat:=by
   have:=xy l xs [] out e1
   simp only[List.length_nil,Nat.zero_add]at this
   rw[this,hx]
  have e3:=Z4 k ch nm p q xs out h1 h2 hlen
  rw[e1]
  simp only[e2',Option.bind_some,qi,e3]
  cases(List.range out.length).all (okK k.toNat out)<;>rfl
 ·have e2':gd (jL l [] xs ((xs.length:Nat):Int) 0 nm k xs ch p.1.1 p.1.2.1 p.1.2.2 p.2.1 p.2.2.1 p.2.2.2 q.1 q.2.1 q.2.2.1 q.2.2.2)=_:=e2
  rw[e1]
  simp only[e2',Option.bind_some,qi]
theorem Wf(l:List It)(k:Int)(xs:List ByteArray)(h:(JP l k xs).2=0):(JP l k xs).1.length=xs.length:=by
 unfold JP at h⊢
 cases hf:uw l xs []with
 |none=>rw[hf]at h;exact absurd (show(3:Int)=0 from h) (by decide)
 |some x=>
  rw[hf]at h
  simp only at h⊢
  have:=xy l xs [] x hf
  simp only[List.length_nil,Nat.zero_add]at this
  cases hc:(List.range x.length).all (okK k.toNat x)
  ·rw[hc]at h;exact absurd (show(6:Int)=0 from h) (by decide)
  ·exact this
def Sm(l:List It)(nm:ByteArray)(s:Option (It×Int)):Option (List It×Int):=Option.bind s fun y=>
 cond (y.2 !=0) (some ([],y.2)) (some (l++ [(nm,y.1.2)],0))
theorem Vw(l:List It)(hl:l.length<=1048576)(nm:ByteArray)(k:Int)(xs:List ByteArray)(ch:Int)(p:Pt)(q:Ln)(ha:xs.length<=1048576)(h1:1<=k)(h2:k<=12)(hx:xs.length=Sk k.toNat)(hf:l.findIdx? (fun y=>yK y.1 nm)=none)(h40:l.length<40):
 mG l (nm,(k,(xs,(ch,(p,q)))))=cond ((JP l k xs).2 !=0) (some ([],(JP l k xs).2)) (Sm l nm (cQ (nm,(k,(xs,(ch,(p,q))))) (JP l k xs).1)):=by
 rw[mG,ot,wk l nm (by omega),hf]
 simp only[Option.bind_some]
 rw[aW (show¬((-1:Int)>=0) by decide),cond_false,aW (show¬(((l.length:Nat):Int)>=40) by omega),cond_false]
 unfold JP
 rcases W2 l hl k ch nm p q xs ha xs [] [] rfl rfl with⟨out,e1,e2⟩|⟨e1,acc,e2⟩
 ·have e2':kS (pj l [] 0 nm k xs ch p.1.1 p.1.2.1 p.1.2.2 p.2.1 p.2.2.1 p.2.2.2 q.1 q.2.1 q.2.2.1 q.2.2.2)=_:=e2
  have hlen:out.length=Sk k.toNat:=by
   have:=xy l xs [] out e1
   simp only[List.length_nil,Nat.zero_add]at this
   rw[this,hx]
  have e3:=aak l k ch nm p q xs out h1 h2 hlen
  rw[e1]
  simp only[e2',Option.bind_some,qi,e3]
  cases(List.range out.length).all (okK k.toNat out)
  ·rfl
  ·simp only[cond_true,bne_self_eq_false,cond_false,Sm]
   cases cQ (nm,(k,(xs,(ch,(p,q))))) out with
   |none=>rfl
   |some y=>
    simp only[Option.bind_some,List.length_singleton]
    cases y.2 !=0
    ·rw[cond_false,cond_false,aR (by omega),aR (by omega),aR (by omega),aR (by omega)];rfl
    ·rfl
 ·have e2':kS (pj l [] 0 nm k xs ch p.1.1 p.1.2.1 p.1.2.2 p.2.1 p.2.2.1 p.2.2.2 q.1 q.2.1 q.2.2.1 q.2.2.2)=_:=e2
  rw[e1]
  simp only[e2',Option.bind_some,qi]
  rfl
theorem af4(l:List It)(c:Cn)(hl:l.length<=1048576)(hn:∀x∈l,x.1.size<=9223372036854775807)(hm:c.1.size<=9223372036854775807)(ha:c.2.2.1.length<=1048576)(hs:∀x∈c.2.2.1,x.size<=9223372036854775807):
 ∃r,gJ l c=some r/\gI l c=some r/\r.1.length<=1000:=by
 rw[gJ,la,gI,kZ,N3 l hl,Nf l hl hn,Option.bind_some,Option.bind_some]
 cases hi:Ir l
 ·exact⟨_,rfl,rfl,Nat.zero_le _⟩
 rw[Bool.not_true,cond_false,cond_false,Zj c ha,YQ c hm ha hs,Option.bind_some,Option.bind_some]
 cases hv:Li c
 ·exact⟨_,rfl,rfl,Nat.zero_le _⟩
 rw[Bool.not_true,cond_false,cond_false]
 obtain⟨nm,k,xs,ch,p,q⟩:=c
 simp only[Li,nv,Bool.and_eq_true,decide_eq_true_eq]at hv
 obtain⟨hv1,⟨hk1,hk2⟩,hx,hv2,hch,hv3⟩:=hv
 have h0:0<=ch:=by
  cases hb:chB k.toNat
  ·rw[hb]at hch;simp only[cond_false,decide_eq_true_eq]at hch;omega
  ·rw[hb]at hch;simp only[cond_true,Bool.and_eq_true,decide_eq_true_eq]at hch;omega
 simp only[Ir,Bool.and_eq_true,decide_eq_true_eq]at hi
 have h40:l.length<=40:=by omega
 simp only at ha hx
 have ef:=find_ok l nm (by omega)
 cases hf:l.findIdx? (fun y=>yK y.1 nm)with
 |some j=>
  rw[hf]at ef
  refine⟨([],4), ?_, ?_,Nat.zero_le _⟩
  ·rw[mG,ot,wk l nm (by omega),hf]
   simp only[Option.bind_some]
   rw[aR (show((j:Int)>=0) by omega)];rfl
  ·rw[ef]
   simp only[Option.bind_some]
   rw[aR (show((j:Int)>=0) by omega)];rfl
 |none=>
  rw[hf]at ef
  rw[ef]
  simp only[Option.bind_some]
  rw[aW (show¬((-1:Int)>=0) by decide),cond_false]
  by_cases he:l.length=40
  ·refine⟨([],5), ?_, ?_,Nat.zero_le _⟩
   ·rw[mG,ot,wk l nm (by omega),hf]
    simp only[Option.bind_some]
    rw[aW (show¬((-1:Int)>=0) by decide),cond_false,aR (show((l.length:Nat):Int)>=40 by omega)];rfl
   ·rw[beq_iff_eq.2 (show((l.length:Nat):Int)=40 by omega)];rfl
  ·rw[Vw l hl nm k xs ch p q ha hk1 hk2 hx hf (by omega),Fu l hl nm k xs ch p q ha hk1 hk2 hx,beq_eq_false_iff_ne.2 (show((l.length:Nat):Int)≠40 by omega),cond_false]
   simp only[Option.bind_some]
   have hlen:=Wf l k xs
   generalize JP l k xs=R at hlen⊢
   by_cases hR:R.2=0
   ·have hb:(R.2 !=0)=false:=by simp[hR]
    rw[hb,cond_false,cond_false]
    obtain⟨y,code,m1,m2⟩:=aaI (nm,(k,(xs,(ch,(p,q))))) R.1 hk1 hk2 ((hlen hR).trans hx) h0
    rw[m1,m2]
    simp only[Sm,Option.bind_some]
    cases hc:code !=0
    ·simp only[cond_false]
     have ec:bd l=some l:=by rw[bd,aR (by omega)];rfl
     refine⟨(l++ [(nm,y.2)],0),rfl, ?_,by simp;omega⟩
     rw[ec]
     simp only[bne_self_eq_false,cond_false,Option.bind_some,List.length_singleton]
     rw[aR (by omega),aR (by omega)];rfl
    ·simp only[cond_true,hc]
     exact⟨_,rfl,rfl,Nat.zero_le _⟩
   ·have hb:(R.2 !=0)=true:=by simp[hR]
    rw[hb]
    exact⟨_,rfl,rfl,Nat.zero_le _⟩
noncomputable def XG:Int->Nat->List ByteArray
 |_,0=>[]
 |k,n+1=>mtx k::XG (k+1) n
theorem UI:∀(s q:List ByteArray) (k:Int),q.length+s.length<=1048576->1<=k->k+s.length<=90000000->
 it (mJ (q++s) k ((q.length:Nat):Int) (q++s))=some (.inl (yU (k+s.length) (q++XG k s.length)))
 |[],q,k,h1,h2,h3=>by
  rw[Ai,iq,qJ rfl,cond_false]
  simp[XG];rfl
 |y::s,q,k,h1,h2,h3=>by
  simp only[List.length_cons]at h1 h3
  rw[Ai,iq,uM rfl,cond_true,FJ h2 (by omega),Option.bind_some]
  simp only[im,sm,Option.bind_some]
  rw[Rs (k:=k) (by omega) (by omega),Rs (k:=((q.length:Nat):Int)) (by omega) (by omega)]
  have IH:=UI s (q++ [mtx k]) (k+1) (by simp;omega) (by omega) (by omega)
  have hq:(((q++ [mtx k]).length:Nat):Int)=(q.length:Int)+1:=by simp
  rw[hq,List.append_assoc,List.append_assoc]at IH
  refine Eq.trans (Eq.trans ?_ IH) ?_
  ·rfl
  ·rw[show k+1+(s.length:Int)=k+(((y::s).length:Nat):Int) by simp;omega]
   rfl
theorem acL(l:List ByteArray)(hl:l.length<=1048576)(k:Int)(h0:1<=k)(h1:k<=80000000):oX l k=some (k+(l.length:Int),XG k l.length):=by
 have h':it (mJ l k 0 l)=_:=UI l [] k (by simpa using hl) h0 (by omega)
 rw[oX,pB,h'];rfl
end Go.Proofs.YtjkljnflaifbhaaGreatDoor
