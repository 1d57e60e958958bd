/- No conditions. -/
import Derived.Test.YtjkljnflaifbhaaGreatDoorZ4
namespace Go.Proofs.YtjkljnflaifbhaaGreatDoor
open Go.Vai
theorem hwN(s:ByteArray):bX (((ByteArray.size s):Nat):Int) 1 12=some (decide (((s.size:Nat):Int)>=1)&&decide (((s.size:Nat):Int)<=12)):=by
 unfold bX sc
 cases decide (((s.size:Nat):Int)>=1)<;>rfl
def JR(c:Int):Bool:=(decide (65<=c)&&decide (c<=90))||(decide (97<=c)&&decide (c<=122))
def Xr(c:Int):Bool:=decide (48<=c)&&decide (c<=57)
def isWord(b:UInt8):Bool:=JR (b.toNat:Nat)||(Xr (b.toNat:Nat)||decide (b.toNat=95))
def aaj:List UInt8->Bool
 |[]=>false
 |b::_=>JR (b.toNat:Nat)
def cg(s:ByteArray):Bool:=(decide (1<=s.size)&&decide (s.size<=12))&&(s.data.toList.all isWord&&aaj s.data.toList)
theorem Tx(c:Int):ln c=some (JR c):=by
 rw[ln,qI]
 unfold JR
 rw[show decide (c>=65)=decide (65<=c)from rfl,show decide (c>=97)=decide (97<=c)from rfl]
 cases decide (65<=c)<;>cases decide (c<=90)<;>cases decide (97<=c)<;>rfl
theorem Y4(c:Int):oK c=some (Xr c):=by
 rw[oK,rK]
 unfold Xr
 rw[show decide (c>=48)=decide (48<=c)from rfl]
 cases decide (48<=c)<;>rfl
theorem yv(s:ByteArray):s.size=s.data.toList.length:=by
 show s.data.size=_
 exact(Array.length_toList).symm
theorem Ek(s:ByteArray):s.toList=s.data.toList:=Lib.toList_data s
theorem ixB(s:ByteArray){p r:List UInt8}{x:UInt8}(h:s.data.toList=p++x::r):Am s ((p.length:Nat):Int)=some x:=by
 have hs:p.length<s.size:=by rw[yv,h];simp
 have e:Am s ((p.length:Nat):Int)=s.data[p.length]?:=by
  rw[Am,if_pos (by omega),Int.toNat_natCast];rfl
 rw[e,<-Array.getElem?_toList,h,List.getElem?_append_right (Nat.le_refl _),Nat.sub_self];rfl
theorem ltB(s:ByteArray){p r:List UInt8}{x:UInt8}(h:s.data.toList=p++x::r):decide (((p.length:Nat):Int)<((s.size:Nat):Int))=true:=by
 rw[yv,h];refine aT ?_;simp only[List.length_append,List.length_cons];omega
theorem acJ(s:ByteArray){p:List UInt8}(h:s.data.toList=p++ []):decide (((p.length:Nat):Int)<((s.size:Nat):Int))=false:=by
 rw[yv,h];refine aW ?_;simp
theorem ab9(b:UInt8):(((b.toNat:Nat):Int) !=95)= !decide (b.toNat=95):=by
 rw[jR]
 congr 1
 by_cases h:b.toNat=95
 ·rw[aT h,aT (by omega)]
 ·rw[aW h,aW (by omega)]
theorem TC(s:ByteArray)(hs:s.size<=12):∀(r p:List UInt8),s.data.toList=p++r->
 mP (mI s ((p.length:Nat):Int))=some (cond (r.all isWord) (.inr (.inl Dv)) (.inl (Du false)))
 |[],p,h=>by
  rw[FP,mK,acJ s h,cond_false];rfl
 |x::r,p,h=>by
  have hp:p.length<12:=by
   have:=yv s
   rw[h]at this
   simp only[List.length_append,List.length_cons]at this
   omega
  rw[FP,mK,ltB s h,cond_true,ixB s h]
  have IH:=TC s hs r (p++ [x]) (by rw[h];simp)
  rw[List.length_append,List.length_singleton,show((p.length+1:Nat):Int)=(p.length:Int)+1 by omega]at IH
  simp only[Option.bind_some,Tx,Y4,ab9,List.all_cons]
  rw[aM (n:=(p.length:Int)+1) (by omega) (by omega)]
  unfold isWord at IH⊢
  cases JR (x.toNat:Nat)
  ·cases Xr (x.toNat:Nat)
   ·cases decide (x.toNat=95)
    ·rfl
    ·exact IH
   ·exact IH
  ·exact IH
theorem Y7(s:ByteArray):((ByteArray.toList s)==(ByteArray.toList (ByteArray.mk (Array.mk []))))=decide (s.size=0):=by
 rw[Ek,Ek,yv]
 cases h:s.data.toList with
 |nil=>rfl
 |cons x r=>rfl
theorem ly(s:ByteArray):nj s=some (cg s):=by
 rw[nj,vv,Y7]
 unfold cg
 by_cases h0:s.size=0
 ·rw[aT h0,aW (show¬1<=s.size by omega)];rfl
 ·rw[aW h0,cond_false,aT (show 1<=s.size by omega),Bool.true_and]
  by_cases h1:s.size<=12
  ·rw[aW (show¬((s.size:Nat):Int)>12 by omega),cond_false,aT h1,Bool.true_and]
   cases hl:s.data.toList with
   |nil=>rw[yv,hl]at h0;simp at h0
   |cons b r=>
    have hi:Am s (0:Int)=some b:=ixB s (p:=[]) (r:=r) hl
    have hw:=TC s h1 (b::r) [] hl
    have hw':mP (mI s 0)=_:=hw
    rw[hi,Option.bind_some,Tx,Option.bind_some,hw']
    show cond (!JR (b.toNat:Nat)) _ _=some (_&&JR (b.toNat:Nat))
    cases JR (b.toNat:Nat)
    ·simp
    ·cases(b::r).all isWord<;>rfl
  ·rw[aT (show((s.size:Nat):Int)>12 by omega),aW h1];rfl
theorem OL{α:Type}(l:List α)(f:α->Bool):l.reverse.all f=l.all f:=by
 simp[List.all_reverse]
theorem Vr{α:Type}(f:α->Bool):∀l:List α,(l.dropWhile f).isEmpty=l.all f
 |[]=>rfl
 |x::r=>by
  rw[List.dropWhile_cons,List.all_cons]
  cases hx:f x
  ·rfl
  ·simpa using Vr f r
theorem Vq{α:Type}(f:α->Bool):∀l:List α,(l.dropWhile f).all f=l.all f
 |[]=>rfl
 |x::r=>by
  rw[List.dropWhile_cons,List.all_cons]
  cases hx:f x
  ·simp[hx]
  ·simpa using Vq f r
theorem ZT(l cs:List UInt8):(Lib.trimS l cs).isEmpty=l.all (cs.contains ·):=by
 unfold Lib.trimS Lib.trimLeftS Lib.trimRightS
 rw[Vr,OL,Vq,OL]
theorem Y3:∀b:UInt8,List.contains ([97,98,99,100,101,102,103,104,105,106,107,108,109,110,111,112,113,114,115,116,117,118,119,120,121,122,65,66,67,68,69,70,71,72,73,74,75,76,77,78,79,80,81,82,83,84,85,86,87,88,89,90,48,49,50,51,52,53,54,55,56,57,95]:List UInt8) b=isWord b:=by
 intro b
 have h:∀n:Fin 256,List.contains ([97,98,99,100,101,102,103,104,105,106,107,108,109,110,111,112,113,114,115,116,117,118,119,120,121,122,65,66,67,68,69,70,71,72,73,74,75,76,77,78,79,80,81,82,83,84,85,86,87,88,89,90,48,49,50,51,52,53,54,55,56,57,95]:List UInt8) (UInt8.ofNat n.val)=isWord (UInt8.ofNat n.val):=by decide+kernel
 have:=h ⟨b.toNat,b.toNat_lt⟩
 simpa using this
theorem abb:∀b:UInt8,decide (Lib.indexByte ([97,98,99,100,101,102,103,104,105,106,107,108,109,110,111,112,113,114,115,116,117,118,119,120,121,122,65,66,67,68,69,70,71,72,73,74,75,76,77,78,79,80,81,82,83,84,85,86,87,88,89,90]:List UInt8) b>=0)=JR (b.toNat:Nat):=by
 intro b
 have h:∀n:Fin 256,decide (Lib.indexByte ([97,98,99,100,101,102,103,104,105,106,107,108,109,110,111,112,113,114,115,116,117,118,119,120,121,122,65,66,67,68,69,70,71,72,73,74,75,76,77,78,79,80,81,82,83,84,85,86,87,88,89,90]:List UInt8) (UInt8.ofNat n.val)>=0)=JR ((UInt8.ofNat n.val).toNat:Nat):=by decide+kernel
 have:=h ⟨b.toNat,b.toNat_lt⟩
 simpa using this
theorem lq(s:ByteArray)(hs:s.size<=9223372036854775807):lI s=some (cg s):=by
 rw[lI,vd,hwN,Option.bind_some]
 unfold cg
 have e1:decide (((s.size:Nat):Int)>=1)=decide (1<=s.size):=by
  by_cases h:1<=s.size
  ·rw[aT h,aT (by omega)]
  ·rw[aW h,aW (by omega)]
 have e2:decide (((s.size:Nat):Int)<=12)=decide (s.size<=12):=by
  by_cases h:s.size<=12
  ·rw[aT h,aT (by omega)]
  ·rw[aW h,aW (by omega)]
 rw[e1,e2]
 cases hc:(decide (1<=s.size)&&decide (s.size<=12))
 ·rfl
 ·simp only[Bool.and_eq_true,decide_eq_true_eq]at hc
  rw[cond_true,ta,if_pos ⟨hs,by decide,by decide⟩,Option.bind_some,Ek,Ek,Bool.true_and]
  have e3:((Lib.trimS s.data.toList (ByteArray.mk (Array.mk [97,98,99,100,101,102,103,104,105,106,107,108,109,110,111,112,113,114,115,116,117,118,119,120,121,122,65,66,67,68,69,70,71,72,73,74,75,76,77,78,79,80,81,82,83,84,85,86,87,88,89,90,48,49,50,51,52,53,54,55,56,57,95])).data.toList)== [])=s.data.toList.all isWord:=by
   have h1:=ZT s.data.toList (ByteArray.mk (Array.mk [97,98,99,100,101,102,103,104,105,106,107,108,109,110,111,112,113,114,115,116,117,118,119,120,121,122,65,66,67,68,69,70,71,72,73,74,75,76,77,78,79,80,81,82,83,84,85,86,87,88,89,90,48,49,50,51,52,53,54,55,56,57,95])).data.toList
   have h2:∀l:List UInt8,(l== [])=l.isEmpty:=fun l=>by cases l<;>rfl
   rw[h2,h1]
   congr 1
   funext b
   exact Y3 b
  have e3':((ByteArray.mk (Lib.trimS s.data.toList (ByteArray.mk (Array.mk [97,98,99,100,101,102,103,104,105,106,107,108,109,110,111,112,113,114,115,116,117,118,119,120,121,122,65,66,67,68,69,70,71,72,73,74,75,76,77,78,79,80,81,82,83,84,85,86,87,88,89,90,48,49,50,51,52,53,54,55,56,57,95])).data.toList).toArray).data.toList==(ByteArray.mk (Array.mk [])).data.toList)=s.data.toList.all isWord:=e3
  rw[e3']
  cases hw:s.data.toList.all isWord
  ·rfl
  ·rw[cond_true,Bool.true_and]
   cases hl:s.data.toList with
   |nil=>rw[yv,hl]at hc;simp at hc
   |cons b r=>
    have hi:Am s (0:Int)=some b:=ixB s (p:=[]) (r:=r) hl
    rw[hi,Option.bind_some,pQ,Option.bind_some]
    have e4:(Int.toNat ((b.toNat:Nat):Int)).toUInt8=b:=by
     rw[Int.toNat_natCast]
     exact UInt8.ofNat_toNat
    rw[e4]
    exact congrArg some (abb b)
theorem Yv(x:It):rU x=some x:=by
 rw[rU,vt,SD,Option.bind_some,T5];rfl
theorem LE(p:Pt):nM p p=some true:=by
 rw[nM,tt,Kr,Option.bind_some,Bool.not_true,cond_false,Kr];rfl
theorem OR(x:It):rS x x=some true:=by
 rw[rS,vo,LE,OS,beq_self_eq_true,beq_self_eq_true];rfl
theorem D2(l:List It)(hl:l.length<=4611686018427387904):∀(r p q s:List It),l=p++r->q.length=p.length->s.length=r.length->
 lD (qd l (q++s) ((p.length:Nat):Int))=some (.inl (B6 (q++r)))
 |[],p,q,s,h,hq,hs=>by
  rw[Eo,lC,sk h,cond_false]
  rw[List.length_eq_zero_iff.1 hs];rfl
 |x::r,p,q,[],h,hq,hs=>by cases hs
 |x::r,p,q,y::s,h,hq,hs=>by
  rw[Eo,lC,yd h,cond_true,ix h,Option.bind_some]
  rw[Yv x,Option.bind_some]
  rw[<-hq,ix (rfl:q++y::s=q++y::s),Option.bind_some,UU rfl,hq,wr h hl]
  have:=D2 l hl r (p++ [x]) (q++ [x]) s (Wn h) (by simp[hq]) (by simpa using hs)
  refine this.trans ?_
  rw[List.append_assoc];rfl
theorem PA(l:List It)(hl:l.length<=1048576):jV l=some l:=by
 have h:=D2 l (by omega) l [] [] (List.replicate l.length ((ByteArray.mk (Array.mk [])),(Bool.false,((((0:Int),((0:Int),(0:Int))),((0:Int),((0:Int),(0:Int)))),((0:Int),((0:Int),((0:Int),(0:Int)))))))) rfl rfl (by simp)
 rw[jV,tw,aT (by omega),aT (by omega),aT (by omega)]
 simp only[cond_true]
 rw[Int.toNat_natCast]
 have h':lD (qd l (List.replicate l.length ((ByteArray.mk (Array.mk [])),(Bool.false,((((0:Int),((0:Int),(0:Int))),((0:Int),((0:Int),(0:Int)))),((0:Int),((0:Int),((0:Int),(0:Int)))))))) 0)=_:=h
 rw[h'];rfl
theorem D1(l:List It)(hl:l.length<=4611686018427387904):∀(r p:List It),l=p++r->il (lv l l ((p.length:Nat):Int))=some (.inr (.inl wg))
 |[],p,h=>by
  rw[sT,ij,sk h,cond_false];rfl
 |x::r,p,h=>by
  rw[sT,ij,yd h,cond_true,ix h,Option.bind_some,Option.bind_some]
  rw[OR x,Option.bind_some,Bool.not_true,cond_false,wr h (by omega)]
  exact D1 l hl r (p++ [x]) (Wn h)
theorem Xs(l:List It)(hl:l.length<=4611686018427387904):gF l l=some true:=by
 have h':il (lv l l 0)=_:=D1 l hl l [] rfl
 rw[gF,qz,bne_self_eq_false,cond_false,h'];rfl
theorem XG(l:List It)(hl:l.length<=1048576)(hn:∀x∈l,x.1.size<=9223372036854775807):∀(r p:List It) (k:Int),l=p++r->0<=k->k<=1048576->
 ∃y,ip (lw l k ((p.length:Nat):Int))=some y/\(∃a b,y= .inl (B5 a b)/\b<0)\/∃a,ip (lw l k ((p.length:Nat):Int))=some (.inr (.inl (wh a)))/\0<=a/\a<=1048576
 |[],p,k,h,h0,h1=>⟨.inr (.inl (wh k)), .inr ⟨k,by
  rw[En,lB,sk h,cond_false];rfl,h0,h1⟩⟩
 |x::r,p,k,h,h0,h1=>by
  have hx:=hn x (by rw[h];simp)
  have hp:=WX h
  have hz:rT x k=some (if k<x.1.size then -1 else k-x.1.size):=by
   rw[rT,vq,aM (n:=k-x.1.size) (by omega) (by omega)]
   by_cases hk:k<x.1.size
   ·rw[aT (by omega),if_pos hk];rfl
   ·rw[aW (by omega),if_neg hk];rfl
  rw[En,lB,yd h,cond_true,ix h,Option.bind_some,hz,Option.bind_some]
  by_cases hk:k<x.1.size
  ·rw[if_pos hk,aT (by omega),cond_true]
   exact⟨_, .inl ⟨rfl,_,_,rfl,by omega⟩⟩
  ·rw[if_neg hk,aW (by omega),cond_false,wr h (by omega)]
   exact XG l hl hn r (p++ [x]) _ (Wn h) (by omega) (by omega)
theorem acs(l:List It)(hl:l.length<=9223372036854775807)(hn:∀x∈l,x.1.size<=9223372036854775807):∃y,nN l 1048576=some y/\(y<0\/(l.length<=1048576/\0<=y/\y<=1048576)):=by
 rw[nN,tv,aM (n:=1048576-(l.length:Int)) (by omega) (by omega)]
 by_cases h:(1048576:Int)-l.length<0
 ·rw[aT h];exact⟨-1,rfl, .inl (by omega)⟩
 ·rw[aW h,cond_false]
  obtain⟨y,hy⟩:=XG l (by omega) hn l [] (1048576-(l.length:Int)) rfl (by omega) (by omega)
  rcases hy with⟨h1,a,b,rfl,hb⟩|⟨a,h1,h2,h3⟩
  ·have h1':ip (lw l (1048576-(l.length:Int)) 0)=_:=h1
   rw[h1'];exact⟨b,rfl, .inl hb⟩
  ·have h1':ip (lw l (1048576-(l.length:Int)) 0)=_:=h1
   rw[h1'];exact⟨a,rfl, .inr ⟨by omega,h2,h3⟩⟩
def zN(x:Nm):Bool:=x.1==0&&(x.2.1==0&&(x.2.2==0&&true))
def zP(x:Pt):Bool:=zN x.1&&(zN x.2&&true)
def zL(x:Ln):Bool:=x.1==0&&(zN x.2&&true)
def HH(x:It):Bool:=cg x.1&&cond x.2.1 (lY x.2.2.2&&zP x.2.2.1) (ny x.2.2.1&&zL x.2.2.2)
theorem Yq(x:It):qc x=some (HH x):=by
 rw[qc,tI,ly,Option.bind_some]
 unfold HH
 cases cg x.1
 ·rfl
 ·rw[Bool.not_true,cond_false,Bool.true_and]
  cases x.2.1
  ·rw[cond_false,cond_false,fk,Option.bind_some]
   cases ny x.2.2.1<;>rfl
  ·rw[cond_true,cond_true,fE,Option.bind_some]
   cases lY x.2.2.2<;>rfl
theorem Ya(x:It)(hx:x.1.size<=9223372036854775807):rR x=some (HH x):=by
 rw[rR,ve,lq x.1 hx]
 unfold HH
 cases x.2.1
 ·rw[cond_false,cond_false,Option.bind_some]
  cases cg x.1
  ·rfl
  ·rw[cond_true,fD,Option.bind_some]
   cases ny x.2.2.1<;>rfl
 ·rw[cond_true,cond_true,Option.bind_some]
  cases cg x.1
  ·rfl
  ·rw[cond_true,eS,Option.bind_some]
   cases lY x.2.2.2<;>rfl
theorem Hq{β:Type}{W:Nat->Option β}{n:Nat}{P:Nat->Bool}{e0 e1:β}(hn:W n=some e1)(hi:∀i,i<n->W i=cond (P i) (W (i+1)) (some e0)):
 W 0=some (cond ((List.range n).all P) e1 e0):=by
 have h:∀m k,m+k=n->W m=some (cond ((List.range' m k).all P) e1 e0):=by
  intro m k
  induction k generalizing m with
  |zero=>intro h;have:m=n:=by omega
         subst this;exact hn
  |succ k ih=>
   intro h
   rw[hi m (by omega),List.range'_succ,List.all_cons]
   cases hp:P m
   ·rfl
   ·rw[cond_true,ih (m+1) (by omega),Bool.true_and]
 rw[h 0 n (by omega),List.range_eq_range']
def xu(a b:ByteArray):Bool:=a.toList==b.toList
def WZ(l:List It)(i:Nat):Bool:=match l[i]? with
 |some x=> !(l.take i).any fun y=>xu y.1 x.1
 |none=>true
def W3(l:List It)(i:Nat):Bool:=match l[i]? with
 |some x=>HH x&&WZ l i
 |none=>true
def Nx(l:List It):Bool:=(List.range l.length).all (W3 l)&&decide ((l.length:Int)<=40)
theorem w1n{i:Nat}(h:i<=1073741824):IntKind.wrap .i64 (((i:Nat):Int)+1)=((i+1:Nat):Int):=by
 rw[aM (by omega) (by omega)];omega
theorem ZA(l:List It)(hl:l.length<=1048576)(i:Nat){x:It}(hx:l[i]?=some x):
 kl (pm l (i:Int) 0)=some (cond (WZ l i) (.inr (.inl (uB l (i:Int)))) (.inl (uA l false (i:Int)))):=by
 have hi:i<l.length:=(List.getElem?_eq_some_iff.1 hx).1
 have h:=Hq (W:=fun k=>kl (pm l (i:Int) (k:Int))) (n:=i) (P:=fun k=>match l[k]? with|some y=> !xu y.1 x.1|none=>true)
  (e0:=.inl (uA l false (i:Int))) (e1:=.inr (.inl (uB l (i:Int)))) ?_ ?_
 ·have e:WZ l i=(List.range i).all fun k=>match l[k]? with|some y=> !xu y.1 x.1|none=>true:=by
   rw[Bool.eq_iff_iff]
   simp only[WZ,hx,Bool.not_eq_true',List.any_eq_false,List.all_eq_true,List.mem_range]
   constructor
   ·intro h k hk
    rw[List.getElem?_eq_getElem (by omega)]
    simpa using h l[k] (by rw[List.mem_take_iff_getElem];exact⟨k,by omega,rfl⟩)
   ·intro h y hy
    rw[List.mem_take_iff_getElem]at hy
    obtain⟨k,hk,rfl⟩:=hy
    have:=h k (by omega)
    rw[List.getElem?_eq_getElem (by omega)]at this
    simpa using this
  rw[e];exact h
 ·rw[Dd,kj,aW (by omega),cond_false];rfl
 ·intro k hk
  rw[Dd,kj,aT (by omega),cond_true,xi,xi,hx,List.getElem?_eq_getElem (by omega),Option.bind_some,Option.bind_some,w1n (by omega)]
  show cond (xu l[k].1 x.1) _ _=cond (!xu l[k].1 x.1) _ _
  cases xu l[k].1 x.1<;>rfl
theorem Xa(l:List It)(hl:l.length<=1048576):oL l=some (Nx l):=by
 have h:=Hq (W:=fun k=>iK (mj l (k:Int))) (n:=l.length) (P:=W3 l)
  (e0:=.inl (uz l false)) (e1:=.inr (.inl (AN l))) ?_ ?_
 ·have h':iK (mj l 0)=_:=h
  rw[oL,rM,h']
  unfold Nx
  cases(List.range l.length).all (W3 l)
  ·rfl
  ·rw[cond_true,Option.bind_some,Bool.true_and];rfl
 ·rw[Dc,ki,aW (by omega),cond_false];rfl
 ·intro k hk
  have hx:=List.getElem?_eq_getElem hk
  rw[Dc,ki,aT (by omega),cond_true,xi,hx,Option.bind_some,Yq,Option.bind_some,ZA l hl k hx]
  unfold W3
  rw[hx]
  show cond (!HH l[k]) _ _=cond (HH l[k]&&WZ l k) _ _
  cases HH l[k]
  ·rfl
  ·rw[Bool.not_true,cond_false,Bool.true_and]
   cases WZ l k
   ·rfl
   ·rw[cond_true,cond_true,Option.bind_some]
    show iK (mj l (IntKind.wrap .i64 ((k:Int)+1)))=_
    rw[w1n (by omega)]
theorem Tn(l:List It)(nm:ByteArray)(hl:l.length<=4611686018427387904):∀(r p:List It),l=p++r->
 aS (bC l ((l.length:Nat):Int) ((p.length:Nat):Int) nm)=
  some (match r.findIdx? (fun y=>xu y.1 nm)with|some j=>.inl (ew (((p.length+j:Nat):Int)))|none=>.inr (.inl ex))
 |[],p,h=>by
  rw[eT,aR,sk h,cond_false];rfl
 |x::r,p,h=>by
  rw[eT,aR,yd h,cond_true,ix h,Option.bind_some,nL,oj,Option.bind_some,List.findIdx?_cons]
  show cond (xu x.1 nm) _ _=_
  cases hx:xu x.1 nm
  ·rw[cond_false,wr h hl]
   refine(Tn l nm hl r (p++ [x]) (Wn h)).trans ?_
   simp only[Bool.false_eq_true,if_false]
   cases hf:r.findIdx? (fun y=>xu y.1 nm)
   ·rfl
   ·simp[Nat.add_comm,Nat.add_left_comm]
  ·rfl
theorem find_ok(l:List It)(nm:ByteArray)(hl:l.length<=4611686018427387904):jy l nm=some (match l.findIdx? (fun y=>xu y.1 nm)with|some j=>(j:Int)|none=> -1):=by
 have h':aS (bC l l.length 0 nm)=_:=Tn l nm hl l [] rfl
 rw[jy,qx,bJ,bK,h']
 cases l.findIdx? (fun y=>xu y.1 nm)<;>simp[pD]
theorem WT(l:List It)(hl:l.length<=1048576)(hn:∀x∈l,x.1.size<=9223372036854775807):md l=some (Nx l):=by
 have h:=Hq (W:=fun k=>iE (mU l l ((l.length:Nat):Int) (k:Int))) (n:=l.length) (P:=W3 l)
  (e0:=.inl (si l false)) (e1:=.inr (.inl (xT l))) ?_ ?_
 ·have h':iE (mU l l ((l.length:Nat):Int) 0)=_:=h
  rw[md,pu,h']
  unfold Nx
  cases(List.range l.length).all (W3 l)
  ·rfl
  ·rw[cond_true,Option.bind_some,Bool.true_and];rfl
 ·rw[Af,iC,aW (by omega),cond_false];rfl
 ·intro k hk
  have hx:=List.getElem?_eq_getElem hk
  rw[Af,iC,aT (by omega),cond_true,xi,hx,Option.bind_some,Ya _ (hn _ (List.getElem_mem hk)),Option.bind_some,Int.toNat_natCast,List.drop_zero,
   find_ok _ _ (by rw[List.length_take];omega),aT (by omega),aT (by omega),cond_true,cond_true,Option.bind_some,w1n (by omega)]
  unfold W3 WZ
  rw[hx]
  have e:(decide ((match(l.take k).findIdx? (fun y=>xu y.1 l[k].1)with|some j=>((j:Nat):Int)|none=> -1)>=0))=(l.take k).any fun y=>xu y.1 l[k].1:=by
   rw[Hr]
   cases(l.take k).findIdx? (fun y=>xu y.1 l[k].1)with
   |none=>rfl
   |some j=>simp
  rw[e]
  show cond (!HH l[k]) _ _=cond (HH l[k]&& !(l.take k).any fun y=>xu y.1 l[k].1) _ _
  cases HH l[k]
  ·rfl
  ·cases(l.take k).any fun y=>xu y.1 l[k].1<;>rfl
theorem IF(l:List It)(nm:ByteArray)(hl:l.length<=4611686018427387904):∀(r p:List It),l=p++r->
 oA (tg l nm ((p.length:Nat):Int))=
  some (match r.findIdx? (fun y=>xu y.1 nm)with|some j=>.inl (EV (((p.length+j:Nat):Int)))|none=>.inr (.inl EW))
 |[],p,h=>by
  rw[G0,ou,sk h,cond_false];rfl
 |x::r,p,h=>by
  rw[G0,ou,yd h,cond_true,ix h,Option.bind_some,List.findIdx?_cons]
  show cond (xu x.1 nm) _ _=_
  cases hx:xu x.1 nm
  ·rw[cond_false,wr h hl]
   refine(IF l nm hl r (p++ [x]) (Wn h)).trans ?_
   simp only[Bool.false_eq_true,if_false]
   cases hf:r.findIdx? (fun y=>xu y.1 nm)
   ·rfl
   ·simp[Nat.add_comm,Nat.add_left_comm]
  ·rfl
theorem BG(l:List It)(nm:ByteArray)(hl:l.length<=4611686018427387904):qV l nm=some (match l.findIdx? (fun y=>xu y.1 nm)with|some j=>(j:Int)|none=> -1):=by
 have h':oA (tg l nm 0)=_:=IF l nm hl l [] rfl
 rw[qV,xM,h']
 cases l.findIdx? (fun y=>xu y.1 nm)<;>simp[pD]
theorem A8(l:List ByteArray)(hl:l.length<=4611686018427387904):∀(r p q s:List ByteArray),l=p++r->q.length=p.length->s.length=r.length->
 jw (nU l (q++s) ((p.length:Nat):Int))=some (.inl (zx (q++r)))
 |[],p,q,s,h,hq,hs=>by
  rw[Bn,jr,sk h,cond_false]
  rw[List.length_eq_zero_iff.1 hs];rfl
 |x::r,p,q,[],h,hq,hs=>by cases hs
 |x::r,p,q,y::s,h,hq,hs=>by
  rw[Bn,jr,yd h,cond_true,ix h,Option.bind_some]
  rw[<-hq,ix (rfl:q++y::s=q++y::s),Option.bind_some,UU rfl,hq,wr h hl]
  have:=A8 l hl r (p++ [x]) (q++ [x]) s (Wn h) (by simp[hq]) (by simpa using hs)
  refine this.trans ?_
  rw[List.append_assoc];rfl
theorem L6(l:List ByteArray)(hl:l.length<=1048576):nv l=some l:=by
 have h:=A8 l (by omega) l [] [] (List.replicate l.length (ByteArray.mk (Array.mk []))) rfl rfl (by simp)
 rw[nv,qE,aT (by omega),aT (by omega),aT (by omega)]
 simp only[cond_true]
 rw[Int.toNat_natCast]
 have h':jw (nU l (List.replicate l.length (ByteArray.mk (Array.mk []))) 0)=_:=h
 rw[h'];rfl
theorem A7(l:List ByteArray)(hl:l.length<=4611686018427387904):∀(r p:List ByteArray),l=p++r->jt (nR l l ((p.length:Nat):Int))=some (.inr (.inl zs))
 |[],p,h=>by
  rw[Bj,jn,sk h,cond_false];rfl
 |x::r,p,h=>by
  rw[Bj,jn,yd h,cond_true,ix h,Option.bind_some,Option.bind_some]
  rw[beq_self_eq_true,Bool.not_true,cond_false,wr h (by omega)]
  exact A7 l hl r (p++ [x]) (Wn h)
theorem Ja(l:List ByteArray)(hl:l.length<=4611686018427387904):nr l l=some true:=by
 have h':jt (nR l l 0)=_:=A7 l hl l [] rfl
 rw[nr,qA,bne_self_eq_false,cond_false,h'];rfl
theorem ZS(c:Cn)(h:c.2.2.1.length<=1048576):dG c=some c:=by
 rw[dG,kU,L6 _ h,Option.bind_some,SD,Option.bind_some,T5];rfl
theorem WK(c:Cn)(h:c.2.2.1.length<=1048576):iL c c=some true:=by
 rw[iL,kS,beq_self_eq_true,bne_self_eq_false,Ja _ (by omega),bne_self_eq_false,LE,OS];rfl
theorem Wb(l:List ByteArray)(hl:l.length<=1048576)(hn:∀x∈l,x.size<=9223372036854775807):∀(r p:List ByteArray) (k:Int),l=p++r->0<=k->k<=1048576->
 (∃a b,fI (jj l k ((p.length:Nat):Int))=some (.inl (zv a b))/\b<0)\/∃a,fI (jj l k ((p.length:Nat):Int))=some (.inr (.inl (zw a)))
 |[],p,k,h,h0,h1=>.inr ⟨k,by
  rw[Bm,jq,sk h,cond_false];rfl⟩
 |x::r,p,k,h,h0,h1=>by
  have hx:=hn x (by rw[h];simp)
  have hp:=WX h
  rw[Bm,jq,yd h,cond_true,ix h,Option.bind_some,aM (n:=k-x.size) (by omega) (by omega)]
  by_cases hk:k<x.size
  ·rw[aT (by omega),cond_true]
   exact .inl ⟨_,_,rfl,by omega⟩
  ·rw[aW (by omega),cond_false,wr h (by omega)]
   exact Wb l hl hn r (p++ [x]) _ (Wn h) (by omega) (by omega)
theorem abS(l:List ByteArray)(hl:l.length<=9223372036854775807)(hn:∀x∈l,x.size<=9223372036854775807)(k:Int)(h0:0<=k)(h1:k<=1048576):∃y,nu l k=some y/\(y<0\/l.length<=1048576):=by
 rw[nu,qD,aM (n:=k-(l.length:Int)) (by omega) (by omega)]
 by_cases h:k-(l.length:Int)<0
 ·rw[aT h];exact⟨-1,rfl, .inl (by omega)⟩
 ·rw[aW h,cond_false]
  rcases Wb l (by omega) hn l [] (k-(l.length:Int)) rfl (by omega) (by omega)with⟨a,b,hy,hb⟩|⟨a,hy⟩
  ·have hy':fI (jj l (k-(l.length:Int)) 0)=_:=hy
   rw[hy'];exact⟨b,rfl, .inl hb⟩
  ·have hy':fI (jj l (k-(l.length:Int)) 0)=_:=hy
   rw[hy'];exact⟨a,rfl, .inr (by omega)⟩
theorem abR(c:Cn)(h1:c.1.size<=9223372036854775807)(h2:c.2.2.1.length<=9223372036854775807)(h3:∀x∈c.2.2.1,x.size<=9223372036854775807)(k:Int)(k0:0<=k)(k1:k<=1048576):∃y,gk c k=some y/\(y<0\/c.2.2.1.length<=1048576):=by
 rw[gk,kT,aM (n:=k-(c.1.size:Int)) (by omega) (by omega)]
 by_cases h:k-c.1.size<0
 ·rw[aT h];exact⟨-1,rfl, .inl (by omega)⟩
 ·rw[aW h,cond_false]
  obtain⟨y,hy,hc⟩:=abS c.2.2.1 h2 h3 (k-(c.1.size:Int)) (by omega) (by omega)
  rw[hy,Option.bind_some]
  by_cases hn:y<0
  ·rw[aT hn];exact⟨-1,rfl, .inl (by omega)⟩
  ·rw[aW hn];exact⟨y,rfl,hc⟩
theorem pZ(k ch:Int)(nm:ByteArray)(p:Pt)(q:Ln)(l:List ByteArray)(hl:l.length<=1048576):∀(r t:List ByteArray),l=t++r->
 bN (cb ((t.length:Nat):Int) nm k l ch p.1.1 p.1.2.1 p.1.2.2 p.2.1 p.2.2.1 p.2.2.2 q.1 q.2.1 q.2.2.1 q.2.2.2)=
  some (cond (r.all cg) (.inr (.inl (E0 nm k l ch p.1.1 p.1.2.1 p.1.2.2 p.2.1 p.2.2.1 p.2.2.2 q.1 q.2.1 q.2.2.1 q.2.2.2))) (.inl (EZ false nm k l ch p.1.1 p.1.2.1 p.1.2.2 p.2.1 p.2.2.1 p.2.2.2 q.1 q.2.1 q.2.2.1 q.2.2.2)))
 |[],t,h=>by
  rw[G2,ow,sk h,cond_false];rfl
 |x::r,t,h=>by
  rw[G2,ow,yd h,cond_true,ix h,Option.bind_some,ly,Option.bind_some,List.all_cons]
  cases cg x
  ·rfl
  ·rw[Bool.not_true,cond_false,wr h (by omega),Bool.true_and]
   exact pZ k ch nm p q l hl r (t++ [x]) (Wn h)
theorem Vg(l:List ByteArray)(hl:l.length<=4611686018427387904)(hn:∀x∈l,x.size<=9223372036854775807):∀(r p:List ByteArray),l=p++r->
 aQ (bw l ((l.length:Nat):Int) ((p.length:Nat):Int))=
  some (match r.findIdx? (fun y=> !cg y)with|some j=>.inl (dM (((p.length+j:Nat):Int)))|none=>.inr (.inl dN))
 |[],p,h=>by
  rw[eq,aO,sk h,cond_false];rfl
 |x::r,p,h=>by
  rw[eq,aO,yd h,cond_true,ix h,Option.bind_some,gD,gI,
   lq x (hn x (by rw[h];simp)),Option.bind_some,Option.bind_some,List.findIdx?_cons]
  cases hx:cg x
  ·rfl
  ·rw[Bool.not_true,cond_false,wr h hl]
   refine(Vg l hl hn r (p++ [x]) (Wn h)).trans ?_
   simp only[Bool.false_eq_true,if_false]
   cases hf:r.findIdx? (fun y=> !cg y)
   ·rfl
   ·simp[Nat.add_comm,Nat.add_left_comm]
theorem Ai(l:List ByteArray)(hl:l.length<=4611686018427387904)(hn:∀x∈l,x.size<=9223372036854775807):aV l=some (!l.all cg):=by
 have h':aQ (bw l l.length 0)=_:=Vg l hl hn l [] rfl
 have e:(!l.all cg)=l.any fun y=> !cg y:=by simp[List.all_eq_not_any_not]
 rw[aV,br,bB,bE,h',e,Hr]
 cases l.findIdx? (fun y=> !cg y)<;>simp[pD]
def Pr:Nat->Nat
 |3=>2|4=>2|5=>2|6=>2|7=>2|8=>2|9=>2|10=>3|11=>4|12=>3|_=>0
def chB:Nat->Bool
 |8=>true|10=>true|11=>true|_=>false
def mS(k:Nat)(c:Cn):Bool:=
 decide (c.2.2.1.length=Pr k)&&(c.2.2.1.all cg&&(cond (chB k) (decide (0<=c.2.2.2.1)&&decide (c.2.2.2.1<=7)) (decide (c.2.2.2.1=0))&&((zP c.2.2.2.2.1||k==1)&&((zL c.2.2.2.2.2||k==2)&&(ny c.2.2.2.2.1&&lY c.2.2.2.2.2)))))
def OB(c:Cn):Bool:=cg c.1&&((decide (1<=c.2.1)&&decide (c.2.1<=12))&&mS c.2.1.toNat c)
abbrev yk:List (ByteArray×(ByteArray×Bool)):=[((ByteArray.mk (Array.mk [])),((ByteArray.mk (Array.mk [])),Bool.false)),((ByteArray.mk (Array.mk [112,111,105,110,116])),((ByteArray.mk (Array.mk [])),Bool.false)),((ByteArray.mk (Array.mk [108,105,110,101])),((ByteArray.mk (Array.mk [])),Bool.false)),((ByteArray.mk (Array.mk [109,101,101,116])),((ByteArray.mk (Array.mk [108,108])),Bool.false)),((ByteArray.mk (Array.mk [109,105,100,100,108,101])),((ByteArray.mk (Array.mk [112,112])),Bool.false)),((ByteArray.mk (Array.mk [109,105,114,114,111,114])),((ByteArray.mk (Array.mk [108,120])),Bool.false)),((ByteArray.mk (Array.mk [116,104,114,111,117,103,104])),((ByteArray.mk (Array.mk [112,112])),Bool.false)),((ByteArray.mk (Array.mk [111,110,116,111])),((ByteArray.mk (Array.mk [112,112])),Bool.false)),((ByteArray.mk (Array.mk [98,105,115,101,99,116])),((ByteArray.mk (Array.mk [108,108])),Bool.true)),((ByteArray.mk (Array.mk [115,113,117,97,114,101])),((ByteArray.mk (Array.mk [108,112])),Bool.false)),((ByteArray.mk (Array.mk [102,111,108,100])),((ByteArray.mk (Array.mk [112,108,112])),Bool.true)),((ByteArray.mk (Array.mk [116,119,111])),((ByteArray.mk (Array.mk [112,108,112,108])),Bool.true)),((ByteArray.mk (Array.mk [97,99,114,111,115,115])),((ByteArray.mk (Array.mk [112,108,108])),Bool.false))]
theorem Gd{k:Int}(h1:1<=k)(h2:k<=12):k=1\/k=2\/k=3\/k=4\/k=5\/k=6\/k=7\/k=8\/k=9\/k=10\/k=11\/k=12:=by omega
theorem Br{n m:Nat}:(((n:Nat):Int) !=((m:Nat):Int))= !decide (n=m):=by
 rw[jR]
 congr 1
 by_cases h:n=m
 ·rw[aT h,aT (by omega)]
 ·rw[aW h,aW (by omega)]
set_option maxHeartbeats 1000000 in
theorem abi(nm:ByteArray)(l:List ByteArray)(ch p0 p1 p2 p3 p4 p5 q0 q1 q2 q3:Int)(hm:nm.size<=9223372036854775807)(hl:l.length<=1048576)(hn:∀x∈l,x.size<=9223372036854775807):
 ak (nm,1,l,ch,((p0,p1,p2),(p3,p4,p5)),(q0,q1,q2,q3))=some (cg nm&&mS 1 (nm,1,l,ch,((p0,p1,p2),(p3,p4,p5)),(q0,q1,q2,q3))):=by
 rw[ak,bc,lq nm hm,Option.bind_some]
 cases cg nm
 ·rfl
 ·have e:bX 1 1 12=some true:=by rw[oB];rfl
  have hi:fY yk 1=some ((ByteArray.mk (Array.mk [112,111,105,110,116])),((ByteArray.mk (Array.mk [])),Bool.false)):=rfl
  rw[Bool.not_true,cond_false,e,Option.bind_some,Bool.not_true,cond_false,hi,Option.bind_some]
  dsimp only
  rw[Ai l (by omega) hn,fD,eS]
  have hs:(ByteArray.size (ByteArray.mk (Array.mk [])))=0:=rfl
  rw[hs,Br,jR (a:=ch)]
  unfold mS
  have hz:zP ((p0,p1,p2),(p3,p4,p5))=((p0==0&&(p1==0&&(p2==0&&true)))&&((p3==0&&(p4==0&&(p5==0&&true)))&&true)):=rfl
  have hzl:zL (q0,q1,q2,q3)=(q0==0&&((q1==0&&(q2==0&&(q3==0&&true)))&&true)):=rfl
  simp only[hz,hzl]
  generalize ((p0==0&&(p1==0&&(p2==0&&true)))&&((p3==0&&(p4==0&&(p5==0&&true)))&&true))=a1
  generalize (q0==0&&((q1==0&&(q2==0&&(q3==0&&true)))&&true))=a2
  generalize ny ((p0,p1,p2),(p3,p4,p5))=a3
  generalize lY (q0,q1,q2,q3)=a4
  generalize l.all cg=a5
  generalize decide (ch=0)=a6
  show _=some (true&&(decide (l.length=0)&&_))
  generalize decide (l.length=0)=a7
  cases a1<;>cases a2<;>cases a3<;>cases a4<;>cases a5<;>cases a6<;>cases a7<;>rfl
set_option maxHeartbeats 1000000 in
theorem abj(nm:ByteArray)(l:List ByteArray)(ch p0 p1 p2 p3 p4 p5 q0 q1 q2 q3:Int)(hm:nm.size<=9223372036854775807)(hl:l.length<=1048576)(hn:∀x∈l,x.size<=9223372036854775807):
 ak (nm,2,l,ch,((p0,p1,p2),(p3,p4,p5)),(q0,q1,q2,q3))=some (cg nm&&mS 2 (nm,2,l,ch,((p0,p1,p2),(p3,p4,p5)),(q0,q1,q2,q3))):=by
 rw[ak,bc,lq nm hm,Option.bind_some]
 cases cg nm
 ·rfl
 ·have e:bX 2 1 12=some true:=by rw[oB];rfl
  have hi:fY yk 2=some ((ByteArray.mk (Array.mk [108,105,110,101])),((ByteArray.mk (Array.mk [])),Bool.false)):=rfl
  rw[Bool.not_true,cond_false,e,Option.bind_some,Bool.not_true,cond_false,hi,Option.bind_some]
  dsimp only
  rw[Ai l (by omega) hn,fD,eS]
  have hs:(ByteArray.size (ByteArray.mk (Array.mk [])))=0:=rfl
  rw[hs,Br,jR (a:=ch)]
  unfold mS
  have hz:zP ((p0,p1,p2),(p3,p4,p5))=((p0==0&&(p1==0&&(p2==0&&true)))&&((p3==0&&(p4==0&&(p5==0&&true)))&&true)):=rfl
  have hzl:zL (q0,q1,q2,q3)=(q0==0&&((q1==0&&(q2==0&&(q3==0&&true)))&&true)):=rfl
  simp only[hz,hzl]
  generalize ((p0==0&&(p1==0&&(p2==0&&true)))&&((p3==0&&(p4==0&&(p5==0&&true)))&&true))=a1
  generalize (q0==0&&((q1==0&&(q2==0&&(q3==0&&true)))&&true))=a2
  generalize ny ((p0,p1,p2),(p3,p4,p5))=a3
  generalize lY (q0,q1,q2,q3)=a4
  generalize l.all cg=a5
  generalize decide (ch=0)=a6
  show _=some (true&&(decide (l.length=0)&&_))
  generalize decide (l.length=0)=a7
  cases a1<;>cases a2<;>cases a3<;>cases a4<;>cases a5<;>cases a6<;>cases a7<;>rfl
set_option maxHeartbeats 1000000 in
theorem abk(nm:ByteArray)(l:List ByteArray)(ch p0 p1 p2 p3 p4 p5 q0 q1 q2 q3:Int)(hm:nm.size<=9223372036854775807)(hl:l.length<=1048576)(hn:∀x∈l,x.size<=9223372036854775807):
 ak (nm,3,l,ch,((p0,p1,p2),(p3,p4,p5)),(q0,q1,q2,q3))=some (cg nm&&mS 3 (nm,3,l,ch,((p0,p1,p2),(p3,p4,p5)),(q0,q1,q2,q3))):=by
 rw[ak,bc,lq nm hm,Option.bind_some]
 cases cg nm
 ·rfl
 ·have e:bX 3 1 12=some true:=by rw[oB];rfl
  have hi:fY yk 3=some ((ByteArray.mk (Array.mk [109,101,101,116])),((ByteArray.mk (Array.mk [108,108])),Bool.false)):=rfl
  rw[Bool.not_true,cond_false,e,Option.bind_some,Bool.not_true,cond_false,hi,Option.bind_some]
  dsimp only
  rw[Ai l (by omega) hn,fD,eS]
  have hs:(ByteArray.size (ByteArray.mk (Array.mk [108,108])))=2:=rfl
  rw[hs,Br,jR (a:=ch)]
  unfold mS
  have hz:zP ((p0,p1,p2),(p3,p4,p5))=((p0==0&&(p1==0&&(p2==0&&true)))&&((p3==0&&(p4==0&&(p5==0&&true)))&&true)):=rfl
  have hzl:zL (q0,q1,q2,q3)=(q0==0&&((q1==0&&(q2==0&&(q3==0&&true)))&&true)):=rfl
  simp only[hz,hzl]
  generalize ((p0==0&&(p1==0&&(p2==0&&true)))&&((p3==0&&(p4==0&&(p5==0&&true)))&&true))=a1
  generalize (q0==0&&((q1==0&&(q2==0&&(q3==0&&true)))&&true))=a2
  generalize ny ((p0,p1,p2),(p3,p4,p5))=a3
  generalize lY (q0,q1,q2,q3)=a4
  generalize l.all cg=a5
  generalize decide (ch=0)=a6
  show _=some (true&&(decide (l.length=2)&&_))
  generalize decide (l.length=2)=a7
  cases a1<;>cases a2<;>cases a3<;>cases a4<;>cases a5<;>cases a6<;>cases a7<;>rfl
set_option maxHeartbeats 1000000 in
theorem abl(nm:ByteArray)(l:List ByteArray)(ch p0 p1 p2 p3 p4 p5 q0 q1 q2 q3:Int)(hm:nm.size<=9223372036854775807)(hl:l.length<=1048576)(hn:∀x∈l,x.size<=9223372036854775807):
 ak (nm,4,l,ch,((p0,p1,p2),(p3,p4,p5)),(q0,q1,q2,q3))=some (cg nm&&mS 4 (nm,4,l,ch,((p0,p1,p2),(p3,p4,p5)),(q0,q1,q2,q3))):=by
 rw[ak,bc,lq nm hm,Option.bind_some]
 cases cg nm
 ·rfl
 ·have e:bX 4 1 12=some true:=by rw[oB];rfl
  have hi:fY yk 4=some ((ByteArray.mk (Array.mk [109,105,100,100,108,101])),((ByteArray.mk (Array.mk [112,112])),Bool.false)):=rfl
  rw[Bool.not_true,cond_false,e,Option.bind_some,Bool.not_true,cond_false,hi,Option.bind_some]
  dsimp only
  rw[Ai l (by omega) hn,fD,eS]
  have hs:(ByteArray.size (ByteArray.mk (Array.mk [112,112])))=2:=rfl
  rw[hs,Br,jR (a:=ch)]
  unfold mS
  have hz:zP ((p0,p1,p2),(p3,p4,p5))=((p0==0&&(p1==0&&(p2==0&&true)))&&((p3==0&&(p4==0&&(p5==0&&true)))&&true)):=rfl
  have hzl:zL (q0,q1,q2,q3)=(q0==0&&((q1==0&&(q2==0&&(q3==0&&true)))&&true)):=rfl
  simp only[hz,hzl]
  generalize ((p0==0&&(p1==0&&(p2==0&&true)))&&((p3==0&&(p4==0&&(p5==0&&true)))&&true))=a1
  generalize (q0==0&&((q1==0&&(q2==0&&(q3==0&&true)))&&true))=a2
  generalize ny ((p0,p1,p2),(p3,p4,p5))=a3
  generalize lY (q0,q1,q2,q3)=a4
  generalize l.all cg=a5
  generalize decide (ch=0)=a6
  show _=some (true&&(decide (l.length=2)&&_))
  generalize decide (l.length=2)=a7
  cases a1<;>cases a2<;>cases a3<;>cases a4<;>cases a5<;>cases a6<;>cases a7<;>rfl
set_option maxHeartbeats 1000000 in
theorem abm(nm:ByteArray)(l:List ByteArray)(ch p0 p1 p2 p3 p4 p5 q0 q1 q2 q3:Int)(hm:nm.size<=9223372036854775807)(hl:l.length<=1048576)(hn:∀x∈l,x.size<=9223372036854775807):
 ak (nm,5,l,ch,((p0,p1,p2),(p3,p4,p5)),(q0,q1,q2,q3))=some (cg nm&&mS 5 (nm,5,l,ch,((p0,p1,p2),(p3,p4,p5)),(q0,q1,q2,q3))):=by
 rw[ak,bc,lq nm hm,Option.bind_some]
 cases cg nm
 ·rfl
 ·have e:bX 5 1 12=some true:=by rw[oB];rfl
  have hi:fY yk 5=some ((ByteArray.mk (Array.mk [109,105,114,114,111,114])),((ByteArray.mk (Array.mk [108,120])),Bool.false)):=rfl
  rw[Bool.not_true,cond_false,e,Option.bind_some,Bool.not_true,cond_false,hi,Option.bind_some]
  dsimp only
  rw[Ai l (by omega) hn,fD,eS]
  have hs:(ByteArray.size (ByteArray.mk (Array.mk [108,120])))=2:=rfl
  rw[hs,Br,jR (a:=ch)]
  unfold mS
  have hz:zP ((p0,p1,p2),(p3,p4,p5))=((p0==0&&(p1==0&&(p2==0&&true)))&&((p3==0&&(p4==0&&(p5==0&&true)))&&true)):=rfl
  have hzl:zL (q0,q1,q2,q3)=(q0==0&&((q1==0&&(q2==0&&(q3==0&&true)))&&true)):=rfl
  simp only[hz,hzl]
  generalize ((p0==0&&(p1==0&&(p2==0&&true)))&&((p3==0&&(p4==0&&(p5==0&&true)))&&true))=a1
  generalize (q0==0&&((q1==0&&(q2==0&&(q3==0&&true)))&&true))=a2
  generalize ny ((p0,p1,p2),(p3,p4,p5))=a3
  generalize lY (q0,q1,q2,q3)=a4
  generalize l.all cg=a5
  generalize decide (ch=0)=a6
  show _=some (true&&(decide (l.length=2)&&_))
  generalize decide (l.length=2)=a7
  cases a1<;>cases a2<;>cases a3<;>cases a4<;>cases a5<;>cases a6<;>cases a7<;>rfl
set_option maxHeartbeats 1000000 in
theorem abn(nm:ByteArray)(l:List ByteArray)(ch p0 p1 p2 p3 p4 p5 q0 q1 q2 q3:Int)(hm:nm.size<=9223372036854775807)(hl:l.length<=1048576)(hn:∀x∈l,x.size<=9223372036854775807):
 ak (nm,6,l,ch,((p0,p1,p2),(p3,p4,p5)),(q0,q1,q2,q3))=some (cg nm&&mS 6 (nm,6,l,ch,((p0,p1,p2),(p3,p4,p5)),(q0,q1,q2,q3))):=by
 rw[ak,bc,lq nm hm,Option.bind_some]
 cases cg nm
 ·rfl
 ·have e:bX 6 1 12=some true:=by rw[oB];rfl
  have hi:fY yk 6=some ((ByteArray.mk (Array.mk [116,104,114,111,117,103,104])),((ByteArray.mk (Array.mk [112,112])),Bool.false)):=rfl
  rw[Bool.not_true,cond_false,e,Option.bind_some,Bool.not_true,cond_false,hi,Option.bind_some]
  dsimp only
  rw[Ai l (by omega) hn,fD,eS]
  have hs:(ByteArray.size (ByteArray.mk (Array.mk [112,112])))=2:=rfl
  rw[hs,Br,jR (a:=ch)]
  unfold mS
  have hz:zP ((p0,p1,p2),(p3,p4,p5))=((p0==0&&(p1==0&&(p2==0&&true)))&&((p3==0&&(p4==0&&(p5==0&&true)))&&true)):=rfl
  have hzl:zL (q0,q1,q2,q3)=(q0==0&&((q1==0&&(q2==0&&(q3==0&&true)))&&true)):=rfl
  simp only[hz,hzl]
  generalize ((p0==0&&(p1==0&&(p2==0&&true)))&&((p3==0&&(p4==0&&(p5==0&&true)))&&true))=a1
  generalize (q0==0&&((q1==0&&(q2==0&&(q3==0&&true)))&&true))=a2
  generalize ny ((p0,p1,p2),(p3,p4,p5))=a3
  generalize lY (q0,q1,q2,q3)=a4
  generalize l.all cg=a5
  generalize decide (ch=0)=a6
  show _=some (true&&(decide (l.length=2)&&_))
  generalize decide (l.length=2)=a7
  cases a1<;>cases a2<;>cases a3<;>cases a4<;>cases a5<;>cases a6<;>cases a7<;>rfl
set_option maxHeartbeats 1000000 in
theorem abo(nm:ByteArray)(l:List ByteArray)(ch p0 p1 p2 p3 p4 p5 q0 q1 q2 q3:Int)(hm:nm.size<=9223372036854775807)(hl:l.length<=1048576)(hn:∀x∈l,x.size<=9223372036854775807):
 ak (nm,7,l,ch,((p0,p1,p2),(p3,p4,p5)),(q0,q1,q2,q3))=some (cg nm&&mS 7 (nm,7,l,ch,((p0,p1,p2),(p3,p4,p5)),(q0,q1,q2,q3))):=by
 rw[ak,bc,lq nm hm,Option.bind_some]
 cases cg nm
 ·rfl
 ·have e:bX 7 1 12=some true:=by rw[oB];rfl
  have hi:fY yk 7=some ((ByteArray.mk (Array.mk [111,110,116,111])),((ByteArray.mk (Array.mk [112,112])),Bool.false)):=rfl
  rw[Bool.not_true,cond_false,e,Option.bind_some,Bool.not_true,cond_false,hi,Option.bind_some]
  dsimp only
  rw[Ai l (by omega) hn,fD,eS]
  have hs:(ByteArray.size (ByteArray.mk (Array.mk [112,112])))=2:=rfl
  rw[hs,Br,jR (a:=ch)]
  unfold mS
  have hz:zP ((p0,p1,p2),(p3,p4,p5))=((p0==0&&(p1==0&&(p2==0&&true)))&&((p3==0&&(p4==0&&(p5==0&&true)))&&true)):=rfl
  have hzl:zL (q0,q1,q2,q3)=(q0==0&&((q1==0&&(q2==0&&(q3==0&&true)))&&true)):=rfl
  simp only[hz,hzl]
  generalize ((p0==0&&(p1==0&&(p2==0&&true)))&&((p3==0&&(p4==0&&(p5==0&&true)))&&true))=a1
  generalize (q0==0&&((q1==0&&(q2==0&&(q3==0&&true)))&&true))=a2
  generalize ny ((p0,p1,p2),(p3,p4,p5))=a3
  generalize lY (q0,q1,q2,q3)=a4
  generalize l.all cg=a5
  generalize decide (ch=0)=a6
  show _=some (true&&(decide (l.length=2)&&_))
  generalize decide (l.length=2)=a7
  cases a1<;>cases a2<;>cases a3<;>cases a4<;>cases a5<;>cases a6<;>cases a7<;>rfl
set_option maxHeartbeats 1000000 in
theorem abp(nm:ByteArray)(l:List ByteArray)(ch p0 p1 p2 p3 p4 p5 q0 q1 q2 q3:Int)(hm:nm.size<=9223372036854775807)(hl:l.length<=1048576)(hn:∀x∈l,x.size<=9223372036854775807):
 ak (nm,8,l,ch,((p0,p1,p2),(p3,p4,p5)),(q0,q1,q2,q3))=some (cg nm&&mS 8 (nm,8,l,ch,((p0,p1,p2),(p3,p4,p5)),(q0,q1,q2,q3))):=by
 rw[ak,bc,lq nm hm,Option.bind_some]
 cases cg nm
 ·rfl
 ·have e:bX 8 1 12=some true:=by rw[oB];rfl
  have hi:fY yk 8=some ((ByteArray.mk (Array.mk [98,105,115,101,99,116])),((ByteArray.mk (Array.mk [108,108])),Bool.true)):=rfl
  rw[Bool.not_true,cond_false,e,Option.bind_some,Bool.not_true,cond_false,hi,Option.bind_some]
  dsimp only
  rw[Ai l (by omega) hn,fD,eS,oB]
  have hs:(ByteArray.size (ByteArray.mk (Array.mk [108,108])))=2:=rfl
  rw[hs,Br]
  unfold mS
  have hz:zP ((p0,p1,p2),(p3,p4,p5))=((p0==0&&(p1==0&&(p2==0&&true)))&&((p3==0&&(p4==0&&(p5==0&&true)))&&true)):=rfl
  have hzl:zL (q0,q1,q2,q3)=(q0==0&&((q1==0&&(q2==0&&(q3==0&&true)))&&true)):=rfl
  simp only[hz,hzl]
  generalize ((p0==0&&(p1==0&&(p2==0&&true)))&&((p3==0&&(p4==0&&(p5==0&&true)))&&true))=a1
  generalize (q0==0&&((q1==0&&(q2==0&&(q3==0&&true)))&&true))=a2
  generalize ny ((p0,p1,p2),(p3,p4,p5))=a3
  generalize lY (q0,q1,q2,q3)=a4
  generalize l.all cg=a5
  generalize (decide (0<=ch)&&decide (ch<=7))=a6
  show _=some (true&&(decide (l.length=2)&&_))
  generalize decide (l.length=2)=a7
  cases a1<;>cases a2<;>cases a3<;>cases a4<;>cases a5<;>cases a6<;>cases a7<;>rfl
set_option maxHeartbeats 1000000 in
theorem abq(nm:ByteArray)(l:List ByteArray)(ch p0 p1 p2 p3 p4 p5 q0 q1 q2 q3:Int)(hm:nm.size<=9223372036854775807)(hl:l.length<=1048576)(hn:∀x∈l,x.size<=9223372036854775807):
 ak (nm,9,l,ch,((p0,p1,p2),(p3,p4,p5)),(q0,q1,q2,q3))=some (cg nm&&mS 9 (nm,9,l,ch,((p0,p1,p2),(p3,p4,p5)),(q0,q1,q2,q3))):=by
 rw[ak,bc,lq nm hm,Option.bind_some]
 cases cg nm
 ·rfl
 ·have e:bX 9 1 12=some true:=by rw[oB];rfl
  have hi:fY yk 9=some ((ByteArray.mk (Array.mk [115,113,117,97,114,101])),((ByteArray.mk (Array.mk [108,112])),Bool.false)):=rfl
  rw[Bool.not_true,cond_false,e,Option.bind_some,Bool.not_true,cond_false,hi,Option.bind_some]
  dsimp only
  rw[Ai l (by omega) hn,fD,eS]
  have hs:(ByteArray.size (ByteArray.mk (Array.mk [108,112])))=2:=rfl
  rw[hs,Br,jR (a:=ch)]
  unfold mS
  have hz:zP ((p0,p1,p2),(p3,p4,p5))=((p0==0&&(p1==0&&(p2==0&&true)))&&((p3==0&&(p4==0&&(p5==0&&true)))&&true)):=rfl
  have hzl:zL (q0,q1,q2,q3)=(q0==0&&((q1==0&&(q2==0&&(q3==0&&true)))&&true)):=rfl
  simp only[hz,hzl]
  generalize ((p0==0&&(p1==0&&(p2==0&&true)))&&((p3==0&&(p4==0&&(p5==0&&true)))&&true))=a1
  generalize (q0==0&&((q1==0&&(q2==0&&(q3==0&&true)))&&true))=a2
  generalize ny ((p0,p1,p2),(p3,p4,p5))=a3
  generalize lY (q0,q1,q2,q3)=a4
  generalize l.all cg=a5
  generalize decide (ch=0)=a6
  show _=some (true&&(decide (l.length=2)&&_))
  generalize decide (l.length=2)=a7
  cases a1<;>cases a2<;>cases a3<;>cases a4<;>cases a5<;>cases a6<;>cases a7<;>rfl
set_option maxHeartbeats 1000000 in
theorem aal(nm:ByteArray)(l:List ByteArray)(ch p0 p1 p2 p3 p4 p5 q0 q1 q2 q3:Int)(hm:nm.size<=9223372036854775807)(hl:l.length<=1048576)(hn:∀x∈l,x.size<=9223372036854775807):
 ak (nm,10,l,ch,((p0,p1,p2),(p3,p4,p5)),(q0,q1,q2,q3))=some (cg nm&&mS 10 (nm,10,l,ch,((p0,p1,p2),(p3,p4,p5)),(q0,q1,q2,q3))):=by
 rw[ak,bc,lq nm hm,Option.bind_some]
 cases cg nm
 ·rfl
 ·have e:bX 10 1 12=some true:=by rw[oB];rfl
  have hi:fY yk 10=some ((ByteArray.mk (Array.mk [102,111,108,100])),((ByteArray.mk (Array.mk [112,108,112])),Bool.true)):=rfl
  rw[Bool.not_true,cond_false,e,Option.bind_some,Bool.not_true,cond_false,hi,Option.bind_some]
  dsimp only
  rw[Ai l (by omega) hn,fD,eS,oB]
  have hs:(ByteArray.size (ByteArray.mk (Array.mk [112,108,112])))=3:=rfl
  rw[hs,Br]
  unfold mS
  have hz:zP ((p0,p1,p2),(p3,p4,p5))=((p0==0&&(p1==0&&(p2==0&&true)))&&((p3==0&&(p4==0&&(p5==0&&true)))&&true)):=rfl
  have hzl:zL (q0,q1,q2,q3)=(q0==0&&((q1==0&&(q2==0&&(q3==0&&true)))&&true)):=rfl
  simp only[hz,hzl]
  generalize ((p0==0&&(p1==0&&(p2==0&&true)))&&((p3==0&&(p4==0&&(p5==0&&true)))&&true))=a1
  generalize (q0==0&&((q1==0&&(q2==0&&(q3==0&&true)))&&true))=a2
  generalize ny ((p0,p1,p2),(p3,p4,p5))=a3
  generalize lY (q0,q1,q2,q3)=a4
  generalize l.all cg=a5
  generalize (decide (0<=ch)&&decide (ch<=7))=a6
  show _=some (true&&(decide (l.length=3)&&_))
  generalize decide (l.length=3)=a7
  cases a1<;>cases a2<;>cases a3<;>cases a4<;>cases a5<;>cases a6<;>cases a7<;>rfl
set_option maxHeartbeats 1000000 in
theorem aam(nm:ByteArray)(l:List ByteArray)(ch p0 p1 p2 p3 p4 p5 q0 q1 q2 q3:Int)(hm:nm.size<=9223372036854775807)(hl:l.length<=1048576)(hn:∀x∈l,x.size<=9223372036854775807):
 ak (nm,11,l,ch,((p0,p1,p2),(p3,p4,p5)),(q0,q1,q2,q3))=some (cg nm&&mS 11 (nm,11,l,ch,((p0,p1,p2),(p3,p4,p5)),(q0,q1,q2,q3))):=by
 rw[ak,bc,lq nm hm,Option.bind_some]
 cases cg nm
 ·rfl
 ·have e:bX 11 1 12=some true:=by rw[oB];rfl
  have hi:fY yk 11=some ((ByteArray.mk (Array.mk [116,119,111])),((ByteArray.mk (Array.mk [112,108,112,108])),Bool.true)):=rfl
  rw[Bool.not_true,cond_false,e,Option.bind_some,Bool.not_true,cond_false,hi,Option.bind_some]
  dsimp only
  rw[Ai l (by omega) hn,fD,eS,oB]
  have hs:(ByteArray.size (ByteArray.mk (Array.mk [112,108,112,108])))=4:=rfl
  rw[hs,Br]
  unfold mS
  have hz:zP ((p0,p1,p2),(p3,p4,p5))=((p0==0&&(p1==0&&(p2==0&&true)))&&((p3==0&&(p4==0&&(p5==0&&true)))&&true)):=rfl
  have hzl:zL (q0,q1,q2,q3)=(q0==0&&((q1==0&&(q2==0&&(q3==0&&true)))&&true)):=rfl
  simp only[hz,hzl]
  generalize ((p0==0&&(p1==0&&(p2==0&&true)))&&((p3==0&&(p4==0&&(p5==0&&true)))&&true))=a1
  generalize (q0==0&&((q1==0&&(q2==0&&(q3==0&&true)))&&true))=a2
  generalize ny ((p0,p1,p2),(p3,p4,p5))=a3
  generalize lY (q0,q1,q2,q3)=a4
  generalize l.all cg=a5
  generalize (decide (0<=ch)&&decide (ch<=7))=a6
  show _=some (true&&(decide (l.length=4)&&_))
  generalize decide (l.length=4)=a7
  cases a1<;>cases a2<;>cases a3<;>cases a4<;>cases a5<;>cases a6<;>cases a7<;>rfl
set_option maxHeartbeats 1000000 in
theorem aan(nm:ByteArray)(l:List ByteArray)(ch p0 p1 p2 p3 p4 p5 q0 q1 q2 q3:Int)(hm:nm.size<=9223372036854775807)(hl:l.length<=1048576)(hn:∀x∈l,x.size<=9223372036854775807):
 ak (nm,12,l,ch,((p0,p1,p2),(p3,p4,p5)),(q0,q1,q2,q3))=some (cg nm&&mS 12 (nm,12,l,ch,((p0,p1,p2),(p3,p4,p5)),(q0,q1,q2,q3))):=by
 rw[ak,bc,lq nm hm,Option.bind_some]
 cases cg nm
 ·rfl
 ·have e:bX 12 1 12=some true:=by rw[oB];rfl
  have hi:fY yk 12=some ((ByteArray.mk (Array.mk [97,99,114,111,115,115])),((ByteArray.mk (Array.mk [112,108,108])),Bool.false)):=rfl
  rw[Bool.not_true,cond_false,e,Option.bind_some,Bool.not_true,cond_false,hi,Option.bind_some]
  dsimp only
  rw[Ai l (by omega) hn,fD,eS]
  have hs:(ByteArray.size (ByteArray.mk (Array.mk [112,108,108])))=3:=rfl
  rw[hs,Br,jR (a:=ch)]
  unfold mS
  have hz:zP ((p0,p1,p2),(p3,p4,p5))=((p0==0&&(p1==0&&(p2==0&&true)))&&((p3==0&&(p4==0&&(p5==0&&true)))&&true)):=rfl
  have hzl:zL (q0,q1,q2,q3)=(q0==0&&((q1==0&&(q2==0&&(q3==0&&true)))&&true)):=rfl
  simp only[hz,hzl]
  generalize ((p0==0&&(p1==0&&(p2==0&&true)))&&((p3==0&&(p4==0&&(p5==0&&true)))&&true))=a1
  generalize (q0==0&&((q1==0&&(q2==0&&(q3==0&&true)))&&true))=a2
  generalize ny ((p0,p1,p2),(p3,p4,p5))=a3
  generalize lY (q0,q1,q2,q3)=a4
  generalize l.all cg=a5
  generalize decide (ch=0)=a6
  show _=some (true&&(decide (l.length=3)&&_))
  generalize decide (l.length=3)=a7
  cases a1<;>cases a2<;>cases a3<;>cases a4<;>cases a5<;>cases a6<;>cases a7<;>rfl
set_option maxHeartbeats 1000000 in
theorem abG(nm:ByteArray)(l:List ByteArray)(ch p0 p1 p2 p3 p4 p5 q0 q1 q2 q3:Int)(hl:l.length<=1048576):
 bO (nm,1,l,ch,((p0,p1,p2),(p3,p4,p5)),(q0,q1,q2,q3))=some (cg nm&&mS 1 (nm,1,l,ch,((p0,p1,p2),(p3,p4,p5)),(q0,q1,q2,q3))):=by
 rw[bO,eo,ly,Option.bind_some]
 cases cg nm
 ·rfl
 ·have e:cH 1 1 12=some true:=by rw[gz];rfl
  have e2:dq 1=some 0:=by kernel_rfl
  have e3:cn 1=some false:=by kernel_rfl
  have hw:=pZ 1 ch nm ((p0,p1,p2),(p3,p4,p5)) (q0,q1,q2,q3) l hl l [] rfl
  simp only[List.length_nil]at hw
  have hw':bN (cb 0 nm 1 l ch p0 p1 p2 p3 p4 p5 q0 q1 q2 q3)=_:=hw
  rw[Bool.not_true,cond_false,e,Option.bind_some,Bool.not_true,cond_false,e2,Option.bind_some,gz,Option.bind_some,e3,Option.bind_some,hw']
  have hb:(((l.length:Nat):Int) !=0)= !decide (l.length=0):=Br (m:=0)
  dsimp only
  rw[hb,jR (a:=ch)]
  unfold mS
  have hz:zP ((p0,p1,p2),(p3,p4,p5))=((p0==0&&(p1==0&&(p2==0&&true)))&&((p3==0&&(p4==0&&(p5==0&&true)))&&true)):=rfl
  have hzl:zL (q0,q1,q2,q3)=(q0==0&&((q1==0&&(q2==0&&(q3==0&&true)))&&true)):=rfl
  have hp:=fk ((p0,p1,p2),(p3,p4,p5))
  have hq:=fE (q0,q1,q2,q3)
  have hc:decide (ch=0)=(decide (ch=0)&&(decide (0<=ch)&&decide (ch<=7))):=by
   by_cases h:ch=0
   ·subst h;rfl
   ·rw[aW h];rfl
  simp only[hz,hzl]
  generalize ((p0==0&&(p1==0&&(p2==0&&true)))&&((p3==0&&(p4==0&&(p5==0&&true)))&&true))=a1
  generalize (q0==0&&((q1==0&&(q2==0&&(q3==0&&true)))&&true))=a2
  cases l.all cg
  ·show _=some (true&&(decide (l.length=0)&&false))
   generalize (decide (0<=ch)&&decide (ch<=7))=a6
   generalize decide (ch=0)=a8
   generalize decide (l.length=0)=a7
   cases a1<;>cases a2<;>cases a6<;>cases a7<;>cases a8<;>rfl
  ·rw[cond_true]
   simp only[Option.bind_some,pD]
   rw[hp,hq]
   generalize ny ((p0,p1,p2),(p3,p4,p5))=a3
   generalize lY (q0,q1,q2,q3)=a4
   show _=some (true&&(decide (l.length=0)&&(true&&(decide (ch=0)&&_))))
   rw[hc]
   generalize (decide (0<=ch)&&decide (ch<=7))=a6
   generalize decide (ch=0)=a8
   generalize decide (l.length=0)=a7
   cases a1<;>cases a2<;>cases a3<;>cases a4<;>cases a6<;>cases a7<;>cases a8<;>rfl
set_option maxHeartbeats 1000000 in
theorem abH(nm:ByteArray)(l:List ByteArray)(ch p0 p1 p2 p3 p4 p5 q0 q1 q2 q3:Int)(hl:l.length<=1048576):
 bO (nm,2,l,ch,((p0,p1,p2),(p3,p4,p5)),(q0,q1,q2,q3))=some (cg nm&&mS 2 (nm,2,l,ch,((p0,p1,p2),(p3,p4,p5)),(q0,q1,q2,q3))):=by
 rw[bO,eo,ly,Option.bind_some]
 cases cg nm
 ·rfl
 ·have e:cH 2 1 12=some true:=by rw[gz];rfl
  have e2:dq 2=some 0:=by kernel_rfl
  have e3:cn 2=some false:=by kernel_rfl
  have hw:=pZ 2 ch nm ((p0,p1,p2),(p3,p4,p5)) (q0,q1,q2,q3) l hl l [] rfl
  simp only[List.length_nil]at hw
  have hw':bN (cb 0 nm 2 l ch p0 p1 p2 p3 p4 p5 q0 q1 q2 q3)=_:=hw
  rw[Bool.not_true,cond_false,e,Option.bind_some,Bool.not_true,cond_false,e2,Option.bind_some,gz,Option.bind_some,e3,Option.bind_some,hw']
  have hb:(((l.length:Nat):Int) !=0)= !decide (l.length=0):=Br (m:=0)
  dsimp only
  rw[hb,jR (a:=ch)]
  unfold mS
  have hz:zP ((p0,p1,p2),(p3,p4,p5))=((p0==0&&(p1==0&&(p2==0&&true)))&&((p3==0&&(p4==0&&(p5==0&&true)))&&true)):=rfl
  have hzl:zL (q0,q1,q2,q3)=(q0==0&&((q1==0&&(q2==0&&(q3==0&&true)))&&true)):=rfl
  have hp:=fk ((p0,p1,p2),(p3,p4,p5))
  have hq:=fE (q0,q1,q2,q3)
  have hc:decide (ch=0)=(decide (ch=0)&&(decide (0<=ch)&&decide (ch<=7))):=by
   by_cases h:ch=0
   ·subst h;rfl
   ·rw[aW h];rfl
  simp only[hz,hzl]
  generalize ((p0==0&&(p1==0&&(p2==0&&true)))&&((p3==0&&(p4==0&&(p5==0&&true)))&&true))=a1
  generalize (q0==0&&((q1==0&&(q2==0&&(q3==0&&true)))&&true))=a2
  cases l.all cg
  ·show _=some (true&&(decide (l.length=0)&&false))
   generalize (decide (0<=ch)&&decide (ch<=7))=a6
   generalize decide (ch=0)=a8
   generalize decide (l.length=0)=a7
   cases a1<;>cases a2<;>cases a6<;>cases a7<;>cases a8<;>rfl
  ·rw[cond_true]
   simp only[Option.bind_some,pD]
   rw[hp,hq]
   generalize ny ((p0,p1,p2),(p3,p4,p5))=a3
   generalize lY (q0,q1,q2,q3)=a4
   show _=some (true&&(decide (l.length=0)&&(true&&(decide (ch=0)&&_))))
   rw[hc]
   generalize (decide (0<=ch)&&decide (ch<=7))=a6
   generalize decide (ch=0)=a8
   generalize decide (l.length=0)=a7
   cases a1<;>cases a2<;>cases a3<;>cases a4<;>cases a6<;>cases a7<;>cases a8<;>rfl
set_option maxHeartbeats 1000000 in
theorem abI(nm:ByteArray)(l:List ByteArray)(ch p0 p1 p2 p3 p4 p5 q0 q1 q2 q3:Int)(hl:l.length<=1048576):
 bO (nm,3,l,ch,((p0,p1,p2),(p3,p4,p5)),(q0,q1,q2,q3))=some (cg nm&&mS 3 (nm,3,l,ch,((p0,p1,p2),(p3,p4,p5)),(q0,q1,q2,q3))):=by
 rw[bO,eo,ly,Option.bind_some]
 cases cg nm
 ·rfl
 ·have e:cH 3 1 12=some true:=by rw[gz];rfl
  have e2:dq 3=some 2:=by kernel_rfl
  have e3:cn 3=some false:=by kernel_rfl
  have hw:=pZ 3 ch nm ((p0,p1,p2),(p3,p4,p5)) (q0,q1,q2,q3) l hl l [] rfl
  simp only[List.length_nil]at hw
  have hw':bN (cb 0 nm 3 l ch p0 p1 p2 p3 p4 p5 q0 q1 q2 q3)=_:=hw
  rw[Bool.not_true,cond_false,e,Option.bind_some,Bool.not_true,cond_false,e2,Option.bind_some,gz,Option.bind_some,e3,Option.bind_some,hw']
  have hb:(((l.length:Nat):Int) !=2)= !decide (l.length=2):=Br (m:=2)
  dsimp only
  rw[hb,jR (a:=ch)]
  unfold mS
  have hz:zP ((p0,p1,p2),(p3,p4,p5))=((p0==0&&(p1==0&&(p2==0&&true)))&&((p3==0&&(p4==0&&(p5==0&&true)))&&true)):=rfl
  have hzl:zL (q0,q1,q2,q3)=(q0==0&&((q1==0&&(q2==0&&(q3==0&&true)))&&true)):=rfl
  have hp:=fk ((p0,p1,p2),(p3,p4,p5))
  have hq:=fE (q0,q1,q2,q3)
  have hc:decide (ch=0)=(decide (ch=0)&&(decide (0<=ch)&&decide (ch<=7))):=by
   by_cases h:ch=0
   ·subst h;rfl
   ·rw[aW h];rfl
  simp only[hz,hzl]
  generalize ((p0==0&&(p1==0&&(p2==0&&true)))&&((p3==0&&(p4==0&&(p5==0&&true)))&&true))=a1
  generalize (q0==0&&((q1==0&&(q2==0&&(q3==0&&true)))&&true))=a2
  cases l.all cg
  ·show _=some (true&&(decide (l.length=2)&&false))
   generalize (decide (0<=ch)&&decide (ch<=7))=a6
   generalize decide (ch=0)=a8
   generalize decide (l.length=2)=a7
   cases a1<;>cases a2<;>cases a6<;>cases a7<;>cases a8<;>rfl
  ·rw[cond_true]
   simp only[Option.bind_some,pD]
   rw[hp,hq]
   generalize ny ((p0,p1,p2),(p3,p4,p5))=a3
   generalize lY (q0,q1,q2,q3)=a4
   show _=some (true&&(decide (l.length=2)&&(true&&(decide (ch=0)&&_))))
   rw[hc]
   generalize (decide (0<=ch)&&decide (ch<=7))=a6
   generalize decide (ch=0)=a8
   generalize decide (l.length=2)=a7
   cases a1<;>cases a2<;>cases a3<;>cases a4<;>cases a6<;>cases a7<;>cases a8<;>rfl
set_option maxHeartbeats 1000000 in
theorem abJ(nm:ByteArray)(l:List ByteArray)(ch p0 p1 p2 p3 p4 p5 q0 q1 q2 q3:Int)(hl:l.length<=1048576):
 bO (nm,4,l,ch,((p0,p1,p2),(p3,p4,p5)),(q0,q1,q2,q3))=some (cg nm&&mS 4 (nm,4,l,ch,((p0,p1,p2),(p3,p4,p5)),(q0,q1,q2,q3))):=by
 rw[bO,eo,ly,Option.bind_some]
 cases cg nm
 ·rfl
 ·have e:cH 4 1 12=some true:=by rw[gz];rfl
  have e2:dq 4=some 2:=by kernel_rfl
  have e3:cn 4=some false:=by kernel_rfl
  have hw:=pZ 4 ch nm ((p0,p1,p2),(p3,p4,p5)) (q0,q1,q2,q3) l hl l [] rfl
  simp only[List.length_nil]at hw
  have hw':bN (cb 0 nm 4 l ch p0 p1 p2 p3 p4 p5 q0 q1 q2 q3)=_:=hw
  rw[Bool.not_true,cond_false,e,Option.bind_some,Bool.not_true,cond_false,e2,Option.bind_some,gz,Option.bind_some,e3,Option.bind_some,hw']
  have hb:(((l.length:Nat):Int) !=2)= !decide (l.length=2):=Br (m:=2)
  dsimp only
  rw[hb,jR (a:=ch)]
  unfold mS
  have hz:zP ((p0,p1,p2),(p3,p4,p5))=((p0==0&&(p1==0&&(p2==0&&true)))&&((p3==0&&(p4==0&&(p5==0&&true)))&&true)):=rfl
  have hzl:zL (q0,q1,q2,q3)=(q0==0&&((q1==0&&(q2==0&&(q3==0&&true)))&&true)):=rfl
  have hp:=fk ((p0,p1,p2),(p3,p4,p5))
  have hq:=fE (q0,q1,q2,q3)
  have hc:decide (ch=0)=(decide (ch=0)&&(decide (0<=ch)&&decide (ch<=7))):=by
   by_cases h:ch=0
   ·subst h;rfl
   ·rw[aW h];rfl
  simp only[hz,hzl]
  generalize ((p0==0&&(p1==0&&(p2==0&&true)))&&((p3==0&&(p4==0&&(p5==0&&true)))&&true))=a1
  generalize (q0==0&&((q1==0&&(q2==0&&(q3==0&&true)))&&true))=a2
  cases l.all cg
  ·show _=some (true&&(decide (l.length=2)&&false))
   generalize (decide (0<=ch)&&decide (ch<=7))=a6
   generalize decide (ch=0)=a8
   generalize decide (l.length=2)=a7
   cases a1<;>cases a2<;>cases a6<;>cases a7<;>cases a8<;>rfl
  ·rw[cond_true]
   simp only[Option.bind_some,pD]
   rw[hp,hq]
   generalize ny ((p0,p1,p2),(p3,p4,p5))=a3
   generalize lY (q0,q1,q2,q3)=a4
   show _=some (true&&(decide (l.length=2)&&(true&&(decide (ch=0)&&_))))
   rw[hc]
   generalize (decide (0<=ch)&&decide (ch<=7))=a6
   generalize decide (ch=0)=a8
   generalize decide (l.length=2)=a7
   cases a1<;>cases a2<;>cases a3<;>cases a4<;>cases a6<;>cases a7<;>cases a8<;>rfl
set_option maxHeartbeats 1000000 in
theorem abK(nm:ByteArray)(l:List ByteArray)(ch p0 p1 p2 p3 p4 p5 q0 q1 q2 q3:Int)(hl:l.length<=1048576):
 bO (nm,5,l,ch,((p0,p1,p2),(p3,p4,p5)),(q0,q1,q2,q3))=some (cg nm&&mS 5 (nm,5,l,ch,((p0,p1,p2),(p3,p4,p5)),(q0,q1,q2,q3))):=by
 rw[bO,eo,ly,Option.bind_some]
 cases cg nm
 ·rfl
 ·have e:cH 5 1 12=some true:=by rw[gz];rfl
  have e2:dq 5=some 2:=by kernel_rfl
  have e3:cn 5=some false:=by kernel_rfl
  have hw:=pZ 5 ch nm ((p0,p1,p2),(p3,p4,p5)) (q0,q1,q2,q3) l hl l [] rfl
  simp only[List.length_nil]at hw
  have hw':bN (cb 0 nm 5 l ch p0 p1 p2 p3 p4 p5 q0 q1 q2 q3)=_:=hw
  rw[Bool.not_true,cond_false,e,Option.bind_some,Bool.not_true,cond_false,e2,Option.bind_some,gz,Option.bind_some,e3,Option.bind_some,hw']
  have hb:(((l.length:Nat):Int) !=2)= !decide (l.length=2):=Br (m:=2)
  dsimp only
  rw[hb,jR (a:=ch)]
  unfold mS
  have hz:zP ((p0,p1,p2),(p3,p4,p5))=((p0==0&&(p1==0&&(p2==0&&true)))&&((p3==0&&(p4==0&&(p5==0&&true)))&&true)):=rfl
  have hzl:zL (q0,q1,q2,q3)=(q0==0&&((q1==0&&(q2==0&&(q3==0&&true)))&&true)):=rfl
  have hp:=fk ((p0,p1,p2),(p3,p4,p5))
  have hq:=fE (q0,q1,q2,q3)
  have hc:decide (ch=0)=(decide (ch=0)&&(decide (0<=ch)&&decide (ch<=7))):=by
   by_cases h:ch=0
   ·subst h;rfl
   ·rw[aW h];rfl
  simp only[hz,hzl]
  generalize ((p0==0&&(p1==0&&(p2==0&&true)))&&((p3==0&&(p4==0&&(p5==0&&true)))&&true))=a1
  generalize (q0==0&&((q1==0&&(q2==0&&(q3==0&&true)))&&true))=a2
  cases l.all cg
  ·show _=some (true&&(decide (l.length=2)&&false))
   generalize (decide (0<=ch)&&decide (ch<=7))=a6
   generalize decide (ch=0)=a8
   generalize decide (l.length=2)=a7
   cases a1<;>cases a2<;>cases a6<;>cases a7<;>cases a8<;>rfl
  ·rw[cond_true]
   simp only[Option.bind_some,pD]
   rw[hp,hq]
   generalize ny ((p0,p1,p2),(p3,p4,p5))=a3
   generalize lY (q0,q1,q2,q3)=a4
   show _=some (true&&(decide (l.length=2)&&(true&&(decide (ch=0)&&_))))
   rw[hc]
   generalize (decide (0<=ch)&&decide (ch<=7))=a6
   generalize decide (ch=0)=a8
   generalize decide (l.length=2)=a7
   cases a1<;>cases a2<;>cases a3<;>cases a4<;>cases a6<;>cases a7<;>cases a8<;>rfl
set_option maxHeartbeats 1000000 in
theorem abL(nm:ByteArray)(l:List ByteArray)(ch p0 p1 p2 p3 p4 p5 q0 q1 q2 q3:Int)(hl:l.length<=1048576):
 bO (nm,6,l,ch,((p0,p1,p2),(p3,p4,p5)),(q0,q1,q2,q3))=some (cg nm&&mS 6 (nm,6,l,ch,((p0,p1,p2),(p3,p4,p5)),(q0,q1,q2,q3))):=by
 rw[bO,eo,ly,Option.bind_some]
 cases cg nm
 ·rfl
 ·have e:cH 6 1 12=some true:=by rw[gz];rfl
  have e2:dq 6=some 2:=by kernel_rfl
  have e3:cn 6=some false:=by kernel_rfl
  have hw:=pZ 6 ch nm ((p0,p1,p2),(p3,p4,p5)) (q0,q1,q2,q3) l hl l [] rfl
  simp only[List.length_nil]at hw
  have hw':bN (cb 0 nm 6 l ch p0 p1 p2 p3 p4 p5 q0 q1 q2 q3)=_:=hw
  rw[Bool.not_true,cond_false,e,Option.bind_some,Bool.not_true,cond_false,e2,Option.bind_some,gz,Option.bind_some,e3,Option.bind_some,hw']
  have hb:(((l.length:Nat):Int) !=2)= !decide (l.length=2):=Br (m:=2)
  dsimp only
  rw[hb,jR (a:=ch)]
  unfold mS
  have hz:zP ((p0,p1,p2),(p3,p4,p5))=((p0==0&&(p1==0&&(p2==0&&true)))&&((p3==0&&(p4==0&&(p5==0&&true)))&&true)):=rfl
  have hzl:zL (q0,q1,q2,q3)=(q0==0&&((q1==0&&(q2==0&&(q3==0&&true)))&&true)):=rfl
  have hp:=fk ((p0,p1,p2),(p3,p4,p5))
  have hq:=fE (q0,q1,q2,q3)
  have hc:decide (ch=0)=(decide (ch=0)&&(decide (0<=ch)&&decide (ch<=7))):=by
   by_cases h:ch=0
   ·subst h;rfl
   ·rw[aW h];rfl
  simp only[hz,hzl]
  generalize ((p0==0&&(p1==0&&(p2==0&&true)))&&((p3==0&&(p4==0&&(p5==0&&true)))&&true))=a1
  generalize (q0==0&&((q1==0&&(q2==0&&(q3==0&&true)))&&true))=a2
  cases l.all cg
  ·show _=some (true&&(decide (l.length=2)&&false))
   generalize (decide (0<=ch)&&decide (ch<=7))=a6
   generalize decide (ch=0)=a8
   generalize decide (l.length=2)=a7
   cases a1<;>cases a2<;>cases a6<;>cases a7<;>cases a8<;>rfl
  ·rw[cond_true]
   simp only[Option.bind_some,pD]
   rw[hp,hq]
   generalize ny ((p0,p1,p2),(p3,p4,p5))=a3
   generalize lY (q0,q1,q2,q3)=a4
   show _=some (true&&(decide (l.length=2)&&(true&&(decide (ch=0)&&_))))
   rw[hc]
   generalize (decide (0<=ch)&&decide (ch<=7))=a6
   generalize decide (ch=0)=a8
   generalize decide (l.length=2)=a7
   cases a1<;>cases a2<;>cases a3<;>cases a4<;>cases a6<;>cases a7<;>cases a8<;>rfl
end Go.Proofs.YtjkljnflaifbhaaGreatDoor
