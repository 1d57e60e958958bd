/- No conditions. -/
import Derived.Test.YtjkljnflaifbhaaGreatDoorZ3b
namespace Go.Proofs.YtjkljnflaifbhaaGreatDoor
open Go.Vai
theorem hwN(s:ByteArray):bZ (((ByteArray.size s):Nat):Int) 1 12=some (decide (((s.size:Nat):Int)>=1)&&decide (((s.size:Nat):Int)<=12)):=by
 unfold bZ tG
 cases decide (((s.size:Nat):Int)>=1)<;>rfl
def Ms(c:Int):Bool:=(decide (65<=c)&&decide (c<=90))||(decide (97<=c)&&decide (c<=122))
def aaF(c:Int):Bool:=decide (48<=c)&&decide (c<=57)
def isWord(b:UInt8):Bool:=Ms (b.toNat:Nat)||(aaF (b.toNat:Nat)||decide (b.toNat=95))
def adA:List UInt8->Bool
 |[]=>false
 |b::_=>Ms (b.toNat:Nat)
def cm(s:ByteArray):Bool:=(decide (1<=s.size)&&decide (s.size<=12))&&(s.data.toList.all isWord&&adA s.data.toList)
theorem Wx(c:Int):md c=some (Ms c):=by
 rw[md,sd]
 unfold Ms
 rw[show decide (c>=65)=decide (65<=c)from rfl,show decide (c>=97)=decide (97<=c)from rfl]
 cases decide (65<=c)<;>cases decide (c<=90)<;>cases decide (97<=c)<;>rfl
theorem acm(c:Int):pS c=some (aaF c):=by
 rw[pS,tn]
 unfold aaF
 rw[show decide (c>=48)=decide (48<=c)from rfl]
 cases decide (48<=c)<;>rfl
theorem Ax(s:ByteArray):s.size=s.data.toList.length:=by
 show s.data.size=_
 exact(Array.length_toList).symm
theorem F7(s:ByteArray):s.toList=s.data.toList:=Lib.toList_data s
theorem ixB(s:ByteArray){p r:List UInt8}{x:UInt8}(h:s.data.toList=p++x::r):B3 s ((p.length:Nat):Int)=some x:=by
 have hs:p.length<s.size:=by rw[Ax,h];simp
 have e:B3 s ((p.length:Nat):Int)=s.data[p.length]?:=by
  rw[B3,if_pos (by omega),Int.toNat_natCast];rfl
 rw[e,<-Array.getElem?_toList,h,List.getElem?_append_right (Nat.le_refl _),Nat.sub_self];rfl
theorem ltB(s:ByteArray){p r:List UInt8}{x:UInt8}(h:s.data.toList=p++x::r):decide (((p.length:Nat):Int)<((s.size:Nat):Int))=true:=by
 rw[Ax,h];refine aR ?_;simp only[List.length_append,List.length_cons];omega
theorem afV(s:ByteArray){p:List UInt8}(h:s.data.toList=p++ []):decide (((p.length:Nat):Int)<((s.size:Nat):Int))=false:=by
 rw[Ax,h];refine aW ?_;simp
theorem aft(b:UInt8):(((b.toNat:Nat):Int) !=95)= !decide (b.toNat=95):=by
 rw[kv]
 congr 1
 by_cases h:b.toNat=95
 ·rw[aR h,aR (by omega)]
 ·rw[aW h,aW (by omega)]
theorem WB(s:ByteArray)(hs:s.size<=12):∀(r p:List UInt8),s.data.toList=p++r->
 nN (nF s ((p.length:Nat):Int))=some (cond (r.all isWord) (.inr (.inl E8)) (.inl (E7 false)))
 |[],p,h=>by
  rw[H5,nH,afV s h,cond_false];rfl
 |x::r,p,h=>by
  have hp:p.length<12:=by
   have:=Ax s
   rw[h]at this
   simp only[List.length_append,List.length_cons]at this
   omega
  rw[H5,nH,ltB s h,cond_true,ixB s h]
  have IH:=WB s hs r (p++ [x]) (by rw[h];simp)
  rw[List.length_append,List.length_singleton,show((p.length+1:Nat):Int)=(p.length:Int)+1 by omega]at IH
  simp only[Option.bind_some,Wx,acm,aft,List.all_cons]
  rw[aM (n:=(p.length:Int)+1) (by omega) (by omega)]
  unfold isWord at IH⊢
  cases Ms (x.toNat:Nat)
  ·cases aaF (x.toNat:Nat)
   ·cases decide (x.toNat=95)
    ·rfl
    ·exact IH
   ·exact IH
  ·exact IH
theorem acp(s:ByteArray):((ByteArray.toList s)==(ByteArray.toList (ByteArray.mk (Array.mk []))))=decide (s.size=0):=by
 rw[F7,F7,Ax]
 cases h:s.data.toList with
 |nil=>rfl
 |cons x r=>rfl
theorem ml(s:ByteArray):ou s=some (cm s):=by
 rw[ou,xk,acp]
 unfold cm
 by_cases h0:s.size=0
 ·rw[aR h0,aW (show¬1<=s.size by omega)];rfl
 ·rw[aW h0,cond_false,aR (show 1<=s.size by omega),Bool.true_and]
  by_cases h1:s.size<=12
  ·rw[aW (show¬((s.size:Nat):Int)>12 by omega),cond_false,aR h1,Bool.true_and]
   cases hl:s.data.toList with
   |nil=>rw[Ax,hl]at h0;simp at h0
   |cons b r=>
    have hi:B3 s (0:Int)=some b:=ixB s (p:=[]) (r:=r) hl
    have hw:=WB s h1 (b::r) [] hl
    have hw':nN (nF s 0)=_:=hw
    rw[hi,Option.bind_some,Wx,Option.bind_some,hw']
    show cond (!Ms (b.toNat:Nat)) _ _=some (_&&Ms (b.toNat:Nat))
    cases Ms (b.toNat:Nat)
    ·simp
    ·cases(b::r).all isWord<;>rfl
  ·rw[aR (show((s.size:Nat):Int)>12 by omega),aW h1];rfl
theorem RC{α:Type}(l:List α)(f:α->Bool):l.reverse.all f=l.all f:=by
 simp[List.all_reverse]
theorem YD{α:Type}(f:α->Bool):∀l:List α,(l.dropWhile f).isEmpty=l.all f
 |[]=>rfl
 |x::r=>by
  rw[List.dropWhile_cons,List.all_cons]
  cases hx:f x
  ·rfl
  ·simpa using YD f r
theorem YC{α:Type}(f:α->Bool):∀l:List α,(l.dropWhile f).all f=l.all f
 |[]=>rfl
 |x::r=>by
  rw[List.dropWhile_cons,List.all_cons]
  cases hx:f x
  ·simp[hx]
  ·simpa using YC f r
theorem adc(l cs:List UInt8):(Lib.trimS l cs).isEmpty=l.all (cs.contains ·):=by
 unfold Lib.trimS Lib.trimLeftS Lib.trimRightS
 rw[YD,RC,YC,RC]
theorem acl:∀b:UInt8,List.contains ([97,98,99,100,101,102,103,104,105,106,107,108,109,110,111,112,113,114,115,116,117,118,119,120,121,122,65,66,67,68,69,70,71,72,73,74,75,76,77,78,79,80,81,82,83,84,85,86,87,88,89,90,48,49,50,51,52,53,54,55,56,57,95]:List UInt8) b=isWord b:=by
 intro b
 have h:∀n:Fin 256,List.contains ([97,98,99,100,101,102,103,104,105,106,107,108,109,110,111,112,113,114,115,116,117,118,119,120,121,122,65,66,67,68,69,70,71,72,73,74,75,76,77,78,79,80,81,82,83,84,85,86,87,88,89,90,48,49,50,51,52,53,54,55,56,57,95]:List UInt8) (UInt8.ofNat n.val)=isWord (UInt8.ofNat n.val):=by decide+kernel
 have:=h ⟨b.toNat,b.toNat_lt⟩
 simpa using this
theorem aez:∀b:UInt8,decide (Lib.indexByte ([97,98,99,100,101,102,103,104,105,106,107,108,109,110,111,112,113,114,115,116,117,118,119,120,121,122,65,66,67,68,69,70,71,72,73,74,75,76,77,78,79,80,81,82,83,84,85,86,87,88,89,90]:List UInt8) b>=0)=Ms (b.toNat:Nat):=by
 intro b
 have h:∀n:Fin 256,decide (Lib.indexByte ([97,98,99,100,101,102,103,104,105,106,107,108,109,110,111,112,113,114,115,116,117,118,119,120,121,122,65,66,67,68,69,70,71,72,73,74,75,76,77,78,79,80,81,82,83,84,85,86,87,88,89,90]:List UInt8) (UInt8.ofNat n.val)>=0)=Ms ((UInt8.ofNat n.val).toNat:Nat):=by decide+kernel
 have:=h ⟨b.toNat,b.toNat_lt⟩
 simpa using this
theorem mf(s:ByteArray)(hs:s.size<=9223372036854775807):mD s=some (cm s):=by
 rw[mD,xb,hwN,Option.bind_some]
 unfold cm
 have e1:decide (((s.size:Nat):Int)>=1)=decide (1<=s.size):=by
  by_cases h:1<=s.size
  ·rw[aR h,aR (by omega)]
  ·rw[aW h,aW (by omega)]
 have e2:decide (((s.size:Nat):Int)<=12)=decide (s.size<=12):=by
  by_cases h:s.size<=12
  ·rw[aR h,aR (by omega)]
  ·rw[aW h,aW (by omega)]
 rw[e1,e2]
 cases hc:(decide (1<=s.size)&&decide (s.size<=12))
 ·rfl
 ·simp only[Bool.and_eq_true,decide_eq_true_eq]at hc
  rw[cond_true,uI,if_pos ⟨hs,by decide,by decide⟩,Option.bind_some,F7,F7,Bool.true_and]
  have e3:((Lib.trimS s.data.toList (ByteArray.mk (Array.mk [97,98,99,100,101,102,103,104,105,106,107,108,109,110,111,112,113,114,115,116,117,118,119,120,121,122,65,66,67,68,69,70,71,72,73,74,75,76,77,78,79,80,81,82,83,84,85,86,87,88,89,90,48,49,50,51,52,53,54,55,56,57,95])).data.toList)== [])=s.data.toList.all isWord:=by
   have h1:=adc s.data.toList (ByteArray.mk (Array.mk [97,98,99,100,101,102,103,104,105,106,107,108,109,110,111,112,113,114,115,116,117,118,119,120,121,122,65,66,67,68,69,70,71,72,73,74,75,76,77,78,79,80,81,82,83,84,85,86,87,88,89,90,48,49,50,51,52,53,54,55,56,57,95])).data.toList
   have h2:∀l:List UInt8,(l== [])=l.isEmpty:=fun l=>by cases l<;>rfl
   rw[h2,h1]
   congr 1
   funext b
   exact acl b
  have e3':((ByteArray.mk (Lib.trimS s.data.toList (ByteArray.mk (Array.mk [97,98,99,100,101,102,103,104,105,106,107,108,109,110,111,112,113,114,115,116,117,118,119,120,121,122,65,66,67,68,69,70,71,72,73,74,75,76,77,78,79,80,81,82,83,84,85,86,87,88,89,90,48,49,50,51,52,53,54,55,56,57,95])).data.toList).toArray).data.toList==(ByteArray.mk (Array.mk [])).data.toList)=s.data.toList.all isWord:=e3
  rw[e3']
  cases hw:s.data.toList.all isWord
  ·rfl
  ·rw[cond_true,Bool.true_and]
   cases hl:s.data.toList with
   |nil=>rw[Ax,hl]at hc;simp at hc
   |cons b r=>
    have hi:B3 s (0:Int)=some b:=ixB s (p:=[]) (r:=r) hl
    rw[hi,Option.bind_some,qT,Option.bind_some]
    have e4:(Int.toNat ((b.toNat:Nat):Int)).toUInt8=b:=by
     rw[Int.toNat_natCast]
     exact UInt8.ofNat_toNat
    rw[e4]
    exact congrArg some (aez b)
theorem abM(x:It):tA x=some x:=by
 rw[tA,xi,VE,Option.bind_some,W5];rfl
theorem Ow(p:Pt):oW p p=some true:=by
 rw[oW,uZ,Nb,Option.bind_some,Bool.not_true,cond_false,Nb];rfl
theorem YE(x:It):tx x x=some true:=by
 rw[tx,xf,Ow,RI,beq_self_eq_true,beq_self_eq_true];rfl
theorem FI(l:List It)(hl:l.length<=4611686018427387904):∀(r p q s:List It),l=p++r->q.length=p.length->s.length=r.length->
 my (rr l (q++s) ((p.length:Nat):Int))=some (.inl (DI (q++r)))
 |[],p,q,s,h,hq,hs=>by
  rw[Gd,mu,qJ h,cond_false]
  rw[List.length_eq_zero_iff.1 hs];rfl
 |x::r,p,q,[],h,hq,hs=>by cases hs
 |x::r,p,q,y::s,h,hq,hs=>by
  rw[Gd,mu,uM h,cond_true,ix h,Option.bind_some]
  rw[abM x,Option.bind_some]
  rw[<-hq,ix (rfl:q++y::s=q++y::s),Option.bind_some,X0 rfl,hq,wr h hl]
  have:=FI l hl r (p++ [x]) (q++ [x]) s (Ya h) (by simp[hq]) (by simpa using hs)
  refine this.trans ?_
  rw[List.append_assoc];rfl
theorem Sv(l:List It)(hl:l.length<=1048576):uH l=some l:=by
 have h:=FI l (by omega) l [] [] (List.replicate l.length ((ByteArray.mk (Array.mk [])),(Bool.false,((((0:Int),((0:Int),(0:Int))),((0:Int),((0:Int),(0:Int)))),((0:Int),((0:Int),((0:Int),(0:Int)))))))) rfl rfl (by simp)
 rw[uH,vj,aR (by omega),aR (by omega),aR (by omega)]
 simp only[cond_true]
 rw[Int.toNat_natCast]
 have h':my (rr l (List.replicate l.length ((ByteArray.mk (Array.mk [])),(Bool.false,((((0:Int),((0:Int),(0:Int))),((0:Int),((0:Int),(0:Int)))),((0:Int),((0:Int),((0:Int),(0:Int)))))))) 0)=_:=h
 rw[h'];rfl
theorem aaU(l:List It)(hl:l.length<=1048576)(hn:∀x∈l,x.1.size<=9223372036854775807):∀(r p:List It) (k:Int),l=p++r->0<=k->k<=1048576->
 ∃y,iP (mi l k ((p.length:Nat):Int))=some y/\(∃a b,y= .inl (DH a b)/\b<0)\/∃a,iP (mi l k ((p.length:Nat):Int))=some (.inr (.inl (xQ a)))/\0<=a/\a<=1048576
 |[],p,k,h,h0,h1=>⟨.inr (.inl (xQ k)), .inr ⟨k,by
  rw[Gc,mq,qJ h,cond_false];rfl,h0,h1⟩⟩
 |x::r,p,k,h,h0,h1=>by
  have hx:=hn x (by rw[h];simp)
  have hp:=Xz h
  have hz:tz x k=some (if k<x.1.size then -1 else k-x.1.size):=by
   rw[tz,xh,aM (n:=k-x.1.size) (by omega) (by omega)]
   by_cases hk:k<x.1.size
   ·rw[aR (by omega),if_pos hk];rfl
   ·rw[aW (by omega),if_neg hk];rfl
  rw[Gc,mq,uM h,cond_true,ix h,Option.bind_some,hz,Option.bind_some]
  by_cases hk:k<x.1.size
  ·rw[if_pos hk,aR (by omega),cond_true]
   exact⟨_, .inl ⟨rfl,_,_,rfl,by omega⟩⟩
  ·rw[if_neg hk,aW (by omega),cond_false,wr h (by omega)]
   exact aaU l hl hn r (p++ [x]) _ (Ya h) (by omega) (by omega)
theorem afK(l:List It)(hl:l.length<=9223372036854775807)(hn:∀x∈l,x.1.size<=9223372036854775807):∃y,rl l 1048576=some y/\(y<0\/(l.length<=1048576/\0<=y/\y<=1048576)):=by
 rw[rl,ve,aM (n:=1048576-(l.length:Int)) (by omega) (by omega)]
 by_cases h:(1048576:Int)-l.length<0
 ·rw[aR h];exact⟨-1,rfl, .inl (by omega)⟩
 ·rw[aW h,cond_false]
  obtain⟨y,hy⟩:=aaU l (by omega) hn l [] (1048576-(l.length:Int)) rfl (by omega) (by omega)
  rcases hy with⟨h1,a,b,rfl,hb⟩|⟨a,h1,h2,h3⟩
  ·have h1':iP (mi l (1048576-(l.length:Int)) 0)=_:=h1
   rw[h1'];exact⟨b,rfl, .inl hb⟩
  ·have h1':iP (mi l (1048576-(l.length:Int)) 0)=_:=h1
   rw[h1'];exact⟨a,rfl, .inr ⟨by omega,h2,h3⟩⟩
def zN(x:Nm):Bool:=x.1==0&&(x.2.1==0&&(x.2.2==0&&true))
def zP(x:Pt):Bool:=zN x.1&&(zN x.2&&true)
def zL(x:Ln):Bool:=x.1==0&&(zN x.2&&true)
def J6(x:It):Bool:=cm x.1&&cond x.2.1 (nR x.2.2.2&&zP x.2.2.1) (pN x.2.2.1&&zL x.2.2.2)
theorem abG(x:It):rp x=some (J6 x):=by
 rw[rp,vD,ml,Option.bind_some]
 unfold J6
 cases cm x.1
 ·rfl
 ·rw[Bool.not_true,cond_false,Bool.true_and]
  cases x.2.1
  ·rw[cond_false,cond_false,fJ,Option.bind_some]
   cases pN x.2.2.1<;>rfl
  ·rw[cond_true,cond_true,fY,Option.bind_some]
   cases nR x.2.2.2<;>rfl
theorem abp(x:It)(hx:x.1.size<=9223372036854775807):tw x=some (J6 x):=by
 rw[tw,xc,mf x.1 hx]
 unfold J6
 cases x.2.1
 ·rw[cond_false,cond_false,Option.bind_some]
  cases cm x.1
  ·rfl
  ·rw[cond_true,fX,Option.bind_some]
   cases pN x.2.2.1<;>rfl
 ·rw[cond_true,cond_true,Option.bind_some]
  cases cm x.1
  ·rfl
  ·rw[cond_true,fo,Option.bind_some]
   cases nR x.2.2.2<;>rfl
theorem JM{β:Type}{W:Nat->Option β}{n:Nat}{P:Nat->Bool}{e0 e1:β}(hn:W n=some e1)(hi:∀i,i<n->W i=cond (P i) (W (i+1)) (some e0)):
 W 0=some (cond ((List.range n).all P) e1 e0):=by
 have h:∀m k,m+k=n->W m=some (cond ((List.range' m k).all P) e1 e0):=by
  intro m k
  induction k generalizing m with
  |zero=>intro h;have:m=n:=by omega
         subst this;exact hn
  |succ k ih=>
   intro h
   rw[hi m (by omega),List.range'_succ,List.all_cons]
   cases hp:P m
   ·rfl
   ·rw[cond_true,ih (m+1) (by omega),Bool.true_and]
 rw[h 0 n (by omega),List.range_eq_range']
def yK(a b:ByteArray):Bool:=a.toList==b.toList
def aaa(l:List It)(i:Nat):Bool:=match l[i]? with
 |some x=> !(l.take i).any fun y=>yK y.1 x.1
 |none=>true
def aae(l:List It)(i:Nat):Bool:=match l[i]? with
 |some x=>J6 x&&aaa l i
 |none=>true
def Ir(l:List It):Bool:=(List.range l.length).all (aae l)&&decide ((l.length:Int)<=40)
theorem w1n{i:Nat}(h:i<=1073741824):IntKind.wrap .i64 (((i:Nat):Int)+1)=((i+1:Nat):Int):=by
 rw[aM (by omega) (by omega)];omega
theorem acQ(l:List It)(hl:l.length<=1048576)(i:Nat){x:It}(hx:l[i]?=some x):
 kT (qo l (i:Int) 0)=some (cond (aaa l i) (.inr (.inl (wz l (i:Int)))) (.inl (wy l false (i:Int)))):=by
 have hi:i<l.length:=(List.getElem?_eq_some_iff.1 hx).1
 have h:=JM (W:=fun k=>kT (qo l (i:Int) (k:Int))) (n:=i) (P:=fun k=>match l[k]? with|some y=> !yK y.1 x.1|none=>true)
  (e0:=.inl (wy l false (i:Int))) (e1:=.inr (.inl (wz l (i:Int)))) ?_ ?_
 ·have e:aaa l i=(List.range i).all fun k=>match l[k]? with|some y=> !yK y.1 x.1|none=>true:=by
   rw[Bool.eq_iff_iff]
   simp only[aaa,hx,Bool.not_eq_true',List.any_eq_false,List.all_eq_true,List.mem_range]
   constructor
   ·intro h k hk
    rw[List.getElem?_eq_getElem (by omega)]
    simpa using h l[k] (by rw[List.mem_take_iff_getElem];exact⟨k,by omega,rfl⟩)
   ·intro h y hy
    rw[List.mem_take_iff_getElem]at hy
    obtain⟨k,hk,rfl⟩:=hy
    have:=h k (by omega)
    rw[List.getElem?_eq_getElem (by omega)]at this
    simpa using this
  rw[e];exact h
 ·rw[ES,kR,aW (by omega),cond_false];rfl
 ·intro k hk
  rw[ES,kR,aR (by omega),cond_true,zf,zf,hx,List.getElem?_eq_getElem (by omega),Option.bind_some,Option.bind_some,w1n (by omega)]
  show cond (yK l[k].1 x.1) _ _=cond (!yK l[k].1 x.1) _ _
  cases yK l[k].1 x.1<;>rfl
theorem N3(l:List It)(hl:l.length<=1048576):nC l=some (Ir l):=by
 have h:=JM (W:=fun k=>jh (nc l (k:Int))) (n:=l.length) (P:=aae l)
  (e0:=.inl (wx l false)) (e1:=.inr (.inl (Ct l))) ?_ ?_
 ·have h':jh (nc l 0)=_:=h
  rw[nC,tq,h']
  unfold Ir
  cases(List.range l.length).all (aae l)
  ·rfl
  ·rw[cond_true,Option.bind_some,Bool.true_and];rfl
 ·rw[EQ,kQ,aW (by omega),cond_false];rfl
 ·intro k hk
  have hx:=List.getElem?_eq_getElem hk
  rw[EQ,kQ,aR (by omega),cond_true,zf,hx,Option.bind_some,abG,Option.bind_some,acQ l hl k hx]
  unfold aae
  rw[hx]
  show cond (!J6 l[k]) _ _=cond (J6 l[k]&&aaa l k) _ _
  cases J6 l[k]
  ·rfl
  ·rw[Bool.not_true,cond_false,Bool.true_and]
   cases aaa l k
   ·rfl
   ·rw[cond_true,cond_true,Option.bind_some]
    show jh (nc l (IntKind.wrap .i64 ((k:Int)+1)))=_
    rw[w1n (by omega)]
theorem Wn(l:List It)(nm:ByteArray)(hl:l.length<=4611686018427387904):∀(r p:List It),l=p++r->
 aT (bC l ((l.length:Nat):Int) ((p.length:Nat):Int) nm)=
  some (match r.findIdx? (fun y=>yK y.1 nm)with|some j=>.inl (eO (((p.length+j:Nat):Int)))|none=>.inr (.inl eP))
 |[],p,h=>by
  rw[fp,aS,qJ h,cond_false];rfl
 |x::r,p,h=>by
  rw[fp,aS,uM h,cond_true,ix h,Option.bind_some,oV,pA,Option.bind_some,List.findIdx?_cons]
  show cond (yK x.1 nm) _ _=_
  cases hx:yK x.1 nm
  ·rw[cond_false,wr h hl]
   refine(Wn l nm hl r (p++ [x]) (Ya h)).trans ?_
   simp only[Bool.false_eq_true,if_false]
   cases hf:r.findIdx? (fun y=>yK y.1 nm)
   ·rfl
   ·simp[Nat.add_comm,Nat.add_left_comm]
  ·rfl
theorem find_ok(l:List It)(nm:ByteArray)(hl:l.length<=4611686018427387904):kb l nm=some (match l.findIdx? (fun y=>yK y.1 nm)with|some j=>(j:Int)|none=> -1):=by
 have h':aT (bC l l.length 0 nm)=_:=Wn l nm hl l [] rfl
 rw[kb,rR,bK,bL,h']
 cases l.findIdx? (fun y=>yK y.1 nm)<;>simp[qi]
theorem Nf(l:List It)(hl:l.length<=1048576)(hn:∀x∈l,x.1.size<=9223372036854775807):kA l=some (Ir l):=by
 have h:=JM (W:=fun k=>jd (nQ l l ((l.length:Nat):Int) (k:Int))) (n:=l.length) (P:=aae l)
  (e0:=.inl (tN l false)) (e1:=.inr (.inl (zZ l))) ?_ ?_
 ·have h':jd (nQ l l ((l.length:Nat):Int) 0)=_:=h
  rw[kA,qu,h']
  unfold Ir
  cases(List.range l.length).all (aae l)
  ·rfl
  ·rw[cond_true,Option.bind_some,Bool.true_and];rfl
 ·rw[BV,jb,aW (by omega),cond_false];rfl
 ·intro k hk
  have hx:=List.getElem?_eq_getElem hk
  rw[BV,jb,aR (by omega),cond_true,zf,hx,Option.bind_some,abp _ (hn _ (List.getElem_mem hk)),Option.bind_some,Int.toNat_natCast,List.drop_zero,
   find_ok _ _ (by rw[List.length_take];omega),aR (by omega),aR (by omega),cond_true,cond_true,Option.bind_some,w1n (by omega)]
  unfold aae aaa
  rw[hx]
  have e:(decide ((match(l.take k).findIdx? (fun y=>yK y.1 l[k].1)with|some j=>((j:Nat):Int)|none=> -1)>=0))=(l.take k).any fun y=>yK y.1 l[k].1:=by
   rw[JN]
   cases(l.take k).findIdx? (fun y=>yK y.1 l[k].1)with
   |none=>rfl
   |some j=>simp
  rw[e]
  show cond (!J6 l[k]) _ _=cond (J6 l[k]&& !(l.take k).any fun y=>yK y.1 l[k].1) _ _
  cases J6 l[k]
  ·rfl
  ·cases(l.take k).any fun y=>yK y.1 l[k].1<;>rfl
theorem Lb(l:List It)(nm:ByteArray)(hl:l.length<=4611686018427387904):∀(r p:List It),l=p++r->
 pJ (uN l nm ((p.length:Nat):Int))=
  some (match r.findIdx? (fun y=>yK y.1 nm)with|some j=>.inl (GL (((p.length+j:Nat):Int)))|none=>.inr (.inl GM))
 |[],p,h=>by
  rw[Jm,pG,qJ h,cond_false];rfl
 |x::r,p,h=>by
  rw[Jm,pG,uM h,cond_true,ix h,Option.bind_some,List.findIdx?_cons]
  show cond (yK x.1 nm) _ _=_
  cases hx:yK x.1 nm
  ·rw[cond_false,wr h hl]
   refine(Lb l nm hl r (p++ [x]) (Ya h)).trans ?_
   simp only[Bool.false_eq_true,if_false]
   cases hf:r.findIdx? (fun y=>yK y.1 nm)
   ·rfl
   ·simp[Nat.add_comm,Nat.add_left_comm]
  ·rfl
theorem wk(l:List It)(nm:ByteArray)(hl:l.length<=4611686018427387904):sy l nm=some (match l.findIdx? (fun y=>yK y.1 nm)with|some j=>(j:Int)|none=> -1):=by
 have h':pJ (uN l nm 0)=_:=Lb l nm hl l [] rfl
 rw[sy,zS,h']
 cases l.findIdx? (fun y=>yK y.1 nm)<;>simp[qi]
theorem CH(l:List ByteArray)(hl:l.length<=4611686018427387904):∀(r p q s:List ByteArray),l=p++r->q.length=p.length->s.length=r.length->
 jZ (pi l (q++s) ((p.length:Nat):Int))=some (.inl (Bs (q++r)))
 |[],p,q,s,h,hq,hs=>by
  rw[CZ,jU,qJ h,cond_false]
  rw[List.length_eq_zero_iff.1 hs];rfl
 |x::r,p,q,[],h,hq,hs=>by cases hs
 |x::r,p,q,y::s,h,hq,hs=>by
  rw[CZ,jU,uM h,cond_true,ix h,Option.bind_some]
  rw[<-hq,ix (rfl:q++y::s=q++y::s),Option.bind_some,X0 rfl,hq,wr h hl]
  have:=CH l hl r (p++ [x]) (q++ [x]) s (Ya h) (by simp[hq]) (by simpa using hs)
  refine this.trans ?_
  rw[List.append_assoc];rfl
theorem OT(l:List ByteArray)(hl:l.length<=1048576):oG l=some l:=by
 have h:=CH l (by omega) l [] [] (List.replicate l.length (ByteArray.mk (Array.mk []))) rfl rfl (by simp)
 rw[oG,rX,aR (by omega),aR (by omega),aR (by omega)]
 simp only[cond_true]
 rw[Int.toNat_natCast]
 have h':jZ (pi l (List.replicate l.length (ByteArray.mk (Array.mk []))) 0)=_:=h
 rw[h'];rfl
theorem CG(l:List ByteArray)(hl:l.length<=4611686018427387904):∀(r p:List ByteArray),l=p++r->jW (pe l l ((p.length:Nat):Int))=some (.inr (.inl Bn))
 |[],p,h=>by
  rw[CU,jQ,qJ h,cond_false];rfl
 |x::r,p,h=>by
  rw[CU,jQ,uM h,cond_true,ix h,Option.bind_some,Option.bind_some]
  rw[beq_self_eq_true,Bool.not_true,cond_false,wr h (by omega)]
  exact CG l hl r (p++ [x]) (Ya h)
theorem LI(l:List ByteArray)(hl:l.length<=4611686018427387904):oE l l=some true:=by
 have h':jW (pe l l 0)=_:=CG l hl l [] rfl
 rw[oE,rT,bne_self_eq_false,cond_false,h'];rfl
theorem adb(c:Cn)(h:c.2.2.1.length<=1048576):jk c=some c:=by
 rw[jk,lO,OT _ h,Option.bind_some,VE,Option.bind_some,W5];rfl
theorem ZW(c:Cn)(h:c.2.2.1.length<=1048576):ji c c=some true:=by
 rw[ji,lM,beq_self_eq_true,bne_self_eq_false,LI _ (by omega),bne_self_eq_false,Ow,RI];rfl
theorem ri(k ch:Int)(nm:ByteArray)(p:Pt)(q:Ln)(l:List ByteArray)(hl:l.length<=1048576):∀(r t:List ByteArray),l=t++r->
 bP (cf ((t.length:Nat):Int) nm k l ch p.1.1 p.1.2.1 p.1.2.2 p.2.1 p.2.2.1 p.2.2.2 q.1 q.2.1 q.2.2.1 q.2.2.2)=
  some (cond (r.all cm) (.inr (.inl (GQ nm k l ch p.1.1 p.1.2.1 p.1.2.2 p.2.1 p.2.2.1 p.2.2.2 q.1 q.2.1 q.2.2.1 q.2.2.2))) (.inl (GP false nm k l ch p.1.1 p.1.2.1 p.1.2.2 p.2.1 p.2.2.1 p.2.2.2 q.1 q.2.1 q.2.2.1 q.2.2.2)))
 |[],t,h=>by
  rw[Jo,pI,qJ h,cond_false];rfl
 |x::r,t,h=>by
  rw[Jo,pI,uM h,cond_true,ix h,Option.bind_some,ml,Option.bind_some,List.all_cons]
  cases cm x
  ·rfl
  ·rw[Bool.not_true,cond_false,wr h (by omega),Bool.true_and]
   exact ri k ch nm p q l hl r (t++ [x]) (Ya h)
theorem Ys(l:List ByteArray)(hl:l.length<=4611686018427387904)(hn:∀x∈l,x.size<=9223372036854775807):∀(r p:List ByteArray),l=p++r->
 aQ (bw l ((l.length:Nat):Int) ((p.length:Nat):Int))=
  some (match r.findIdx? (fun y=> !cm y)with|some j=>.inl (dV (((p.length+j:Nat):Int)))|none=>.inr (.inl dW))
 |[],p,h=>by
  rw[eL,aO,qJ h,cond_false];rfl
 |x::r,p,h=>by
  rw[eL,aO,uM h,cond_true,ix h,Option.bind_some,ii,ik,
   mf x (hn x (by rw[h];simp)),Option.bind_some,Option.bind_some,List.findIdx?_cons]
  cases hx:cm x
  ·rfl
  ·rw[Bool.not_true,cond_false,wr h hl]
   refine(Ys l hl hn r (p++ [x]) (Ya h)).trans ?_
   simp only[Bool.false_eq_true,if_false]
   cases hf:r.findIdx? (fun y=> !cm y)
   ·rfl
   ·simp[Nat.add_comm,Nat.add_left_comm]
theorem BZ(l:List ByteArray)(hl:l.length<=4611686018427387904)(hn:∀x∈l,x.size<=9223372036854775807):aV l=some (!l.all cm):=by
 have h':aQ (bw l l.length 0)=_:=Ys l hl hn l [] rfl
 have e:(!l.all cm)=l.any fun y=> !cm y:=by simp[List.all_eq_not_any_not]
 rw[aV,br,bB,bE,h',e,JN]
 cases l.findIdx? (fun y=> !cm y)<;>simp[qi]
def Sk:Nat->Nat
 |3=>2|4=>2|5=>2|6=>2|7=>2|8=>2|9=>2|10=>3|11=>4|12=>3|_=>0
def chB:Nat->Bool
 |8=>true|10=>true|11=>true|_=>false
def nv(k:Nat)(c:Cn):Bool:=
 decide (c.2.2.1.length=Sk k)&&(c.2.2.1.all cm&&(cond (chB k) (decide (0<=c.2.2.2.1)&&decide (c.2.2.2.1<=7)) (decide (c.2.2.2.1=0))&&((zP c.2.2.2.2.1||k==1)&&((zL c.2.2.2.2.2||k==2)&&(pN c.2.2.2.2.1&&nR c.2.2.2.2.2)))))
def Li(c:Cn):Bool:=cm c.1&&((decide (1<=c.2.1)&&decide (c.2.1<=12))&&nv c.2.1.toNat c)
abbrev An:List (ByteArray×(ByteArray×Bool)):=[((ByteArray.mk (Array.mk [])),((ByteArray.mk (Array.mk [])),Bool.false)),((ByteArray.mk (Array.mk [112,111,105,110,116])),((ByteArray.mk (Array.mk [])),Bool.false)),((ByteArray.mk (Array.mk [108,105,110,101])),((ByteArray.mk (Array.mk [])),Bool.false)),((ByteArray.mk (Array.mk [109,101,101,116])),((ByteArray.mk (Array.mk [108,108])),Bool.false)),((ByteArray.mk (Array.mk [109,105,100,100,108,101])),((ByteArray.mk (Array.mk [112,112])),Bool.false)),((ByteArray.mk (Array.mk [109,105,114,114,111,114])),((ByteArray.mk (Array.mk [108,120])),Bool.false)),((ByteArray.mk (Array.mk [116,104,114,111,117,103,104])),((ByteArray.mk (Array.mk [112,112])),Bool.false)),((ByteArray.mk (Array.mk [111,110,116,111])),((ByteArray.mk (Array.mk [112,112])),Bool.false)),((ByteArray.mk (Array.mk [98,105,115,101,99,116])),((ByteArray.mk (Array.mk [108,108])),Bool.true)),((ByteArray.mk (Array.mk [115,113,117,97,114,101])),((ByteArray.mk (Array.mk [108,112])),Bool.false)),((ByteArray.mk (Array.mk [102,111,108,100])),((ByteArray.mk (Array.mk [112,108,112])),Bool.true)),((ByteArray.mk (Array.mk [116,119,111])),((ByteArray.mk (Array.mk [112,108,112,108])),Bool.true)),((ByteArray.mk (Array.mk [97,99,114,111,115,115])),((ByteArray.mk (Array.mk [112,108,108])),Bool.false))]
theorem Is{k:Int}(h1:1<=k)(h2:k<=12):k=1\/k=2\/k=3\/k=4\/k=5\/k=6\/k=7\/k=8\/k=9\/k=10\/k=11\/k=12:=by omega
theorem C4{n m:Nat}:(((n:Nat):Int) !=((m:Nat):Int))= !decide (n=m):=by
 rw[kv]
 congr 1
 by_cases h:n=m
 ·rw[aR h,aR (by omega)]
 ·rw[aW h,aW (by omega)]
set_option maxHeartbeats 1000000 in
theorem aeI(nm:ByteArray)(l:List ByteArray)(ch p0 p1 p2 p3 p4 p5 q0 q1 q2 q3:Int)(hm:nm.size<=9223372036854775807)(hl:l.length<=1048576)(hn:∀x∈l,x.size<=9223372036854775807):
 am (nm,1,l,ch,((p0,p1,p2),(p3,p4,p5)),(q0,q1,q2,q3))=some (cm nm&&nv 1 (nm,1,l,ch,((p0,p1,p2),(p3,p4,p5)),(q0,q1,q2,q3))):=by
 rw[am,be,mf nm hm,Option.bind_some]
 cases cm nm
 ·rfl
 ·have e:bZ 1 1 12=some true:=by rw[pK];rfl
  have hi:gq An 1=some ((ByteArray.mk (Array.mk [112,111,105,110,116])),((ByteArray.mk (Array.mk [])),Bool.false)):=rfl
  rw[Bool.not_true,cond_false,e,Option.bind_some,Bool.not_true,cond_false,hi,Option.bind_some]
  dsimp only
  rw[BZ l (by omega) hn,fX,fo]
  have hs:(ByteArray.size (ByteArray.mk (Array.mk [])))=0:=rfl
  rw[hs,C4,kv (a:=ch)]
  unfold nv
  have hz:zP ((p0,p1,p2),(p3,p4,p5))=((p0==0&&(p1==0&&(p2==0&&true)))&&((p3==0&&(p4==0&&(p5==0&&true)))&&true)):=rfl
  have hzl:zL (q0,q1,q2,q3)=(q0==0&&((q1==0&&(q2==0&&(q3==0&&true)))&&true)):=rfl
  simp only[hz,hzl]
  generalize ((p0==0&&(p1==0&&(p2==0&&true)))&&((p3==0&&(p4==0&&(p5==0&&true)))&&true))=a1
  generalize (q0==0&&((q1==0&&(q2==0&&(q3==0&&true)))&&true))=a2
  generalize pN ((p0,p1,p2),(p3,p4,p5))=a3
  generalize nR (q0,q1,q2,q3)=a4
  generalize l.all cm=a5
  generalize decide (ch=0)=a6
  show _=some (true&&(decide (l.length=0)&&_))
  generalize decide (l.length=0)=a7
  cases a1<;>cases a2<;>cases a3<;>cases a4<;>cases a5<;>cases a6<;>cases a7<;>rfl
set_option maxHeartbeats 1000000 in
theorem aeJ(nm:ByteArray)(l:List ByteArray)(ch p0 p1 p2 p3 p4 p5 q0 q1 q2 q3:Int)(hm:nm.size<=9223372036854775807)(hl:l.length<=1048576)(hn:∀x∈l,x.size<=9223372036854775807):
 am (nm,2,l,ch,((p0,p1,p2),(p3,p4,p5)),(q0,q1,q2,q3))=some (cm nm&&nv 2 (nm,2,l,ch,((p0,p1,p2),(p3,p4,p5)),(q0,q1,q2,q3))):=by
 rw[am,be,mf nm hm,Option.bind_some]
 cases cm nm
 ·rfl
 ·have e:bZ 2 1 12=some true:=by rw[pK];rfl
  have hi:gq An 2=some ((ByteArray.mk (Array.mk [108,105,110,101])),((ByteArray.mk (Array.mk [])),Bool.false)):=rfl
  rw[Bool.not_true,cond_false,e,Option.bind_some,Bool.not_true,cond_false,hi,Option.bind_some]
  dsimp only
  rw[BZ l (by omega) hn,fX,fo]
  have hs:(ByteArray.size (ByteArray.mk (Array.mk [])))=0:=rfl
  rw[hs,C4,kv (a:=ch)]
  unfold nv
  have hz:zP ((p0,p1,p2),(p3,p4,p5))=((p0==0&&(p1==0&&(p2==0&&true)))&&((p3==0&&(p4==0&&(p5==0&&true)))&&true)):=rfl
  have hzl:zL (q0,q1,q2,q3)=(q0==0&&((q1==0&&(q2==0&&(q3==0&&true)))&&true)):=rfl
  simp only[hz,hzl]
  generalize ((p0==0&&(p1==0&&(p2==0&&true)))&&((p3==0&&(p4==0&&(p5==0&&true)))&&true))=a1
  generalize (q0==0&&((q1==0&&(q2==0&&(q3==0&&true)))&&true))=a2
  generalize pN ((p0,p1,p2),(p3,p4,p5))=a3
  generalize nR (q0,q1,q2,q3)=a4
  generalize l.all cm=a5
  generalize decide (ch=0)=a6
  show _=some (true&&(decide (l.length=0)&&_))
  generalize decide (l.length=0)=a7
  cases a1<;>cases a2<;>cases a3<;>cases a4<;>cases a5<;>cases a6<;>cases a7<;>rfl
set_option maxHeartbeats 1000000 in
theorem aeK(nm:ByteArray)(l:List ByteArray)(ch p0 p1 p2 p3 p4 p5 q0 q1 q2 q3:Int)(hm:nm.size<=9223372036854775807)(hl:l.length<=1048576)(hn:∀x∈l,x.size<=9223372036854775807):
 am (nm,3,l,ch,((p0,p1,p2),(p3,p4,p5)),(q0,q1,q2,q3))=some (cm nm&&nv 3 (nm,3,l,ch,((p0,p1,p2),(p3,p4,p5)),(q0,q1,q2,q3))):=by
 rw[am,be,mf nm hm,Option.bind_some]
 cases cm nm
 ·rfl
 ·have e:bZ 3 1 12=some true:=by rw[pK];rfl
  have hi:gq An 3=some ((ByteArray.mk (Array.mk [109,101,101,116])),((ByteArray.mk (Array.mk [108,108])),Bool.false)):=rfl
  rw[Bool.not_true,cond_false,e,Option.bind_some,Bool.not_true,cond_false,hi,Option.bind_some]
  dsimp only
  rw[BZ l (by omega) hn,fX,fo]
  have hs:(ByteArray.size (ByteArray.mk (Array.mk [108,108])))=2:=rfl
  rw[hs,C4,kv (a:=ch)]
  unfold nv
  have hz:zP ((p0,p1,p2),(p3,p4,p5))=((p0==0&&(p1==0&&(p2==0&&true)))&&((p3==0&&(p4==0&&(p5==0&&true)))&&true)):=rfl
  have hzl:zL (q0,q1,q2,q3)=(q0==0&&((q1==0&&(q2==0&&(q3==0&&true)))&&true)):=rfl
  simp only[hz,hzl]
  generalize ((p0==0&&(p1==0&&(p2==0&&true)))&&((p3==0&&(p4==0&&(p5==0&&true)))&&true))=a1
  generalize (q0==0&&((q1==0&&(q2==0&&(q3==0&&true)))&&true))=a2
  generalize pN ((p0,p1,p2),(p3,p4,p5))=a3
  generalize nR (q0,q1,q2,q3)=a4
  generalize l.all cm=a5
  generalize decide (ch=0)=a6
  show _=some (true&&(decide (l.length=2)&&_))
  generalize decide (l.length=2)=a7
  cases a1<;>cases a2<;>cases a3<;>cases a4<;>cases a5<;>cases a6<;>cases a7<;>rfl
set_option maxHeartbeats 1000000 in
theorem aeL(nm:ByteArray)(l:List ByteArray)(ch p0 p1 p2 p3 p4 p5 q0 q1 q2 q3:Int)(hm:nm.size<=9223372036854775807)(hl:l.length<=1048576)(hn:∀x∈l,x.size<=9223372036854775807):
 am (nm,4,l,ch,((p0,p1,p2),(p3,p4,p5)),(q0,q1,q2,q3))=some (cm nm&&nv 4 (nm,4,l,ch,((p0,p1,p2),(p3,p4,p5)),(q0,q1,q2,q3))):=by
 rw[am,be,mf nm hm,Option.bind_some]
 cases cm nm
 ·rfl
 ·have e:bZ 4 1 12=some true:=by rw[pK];rfl
  have hi:gq An 4=some ((ByteArray.mk (Array.mk [109,105,100,100,108,101])),((ByteArray.mk (Array.mk [112,112])),Bool.false)):=rfl
  rw[Bool.not_true,cond_false,e,Option.bind_some,Bool.not_true,cond_false,hi,Option.bind_some]
  dsimp only
  rw[BZ l (by omega) hn,fX,fo]
  have hs:(ByteArray.size (ByteArray.mk (Array.mk [112,112])))=2:=rfl
  rw[hs,C4,kv (a:=ch)]
  unfold nv
  have hz:zP ((p0,p1,p2),(p3,p4,p5))=((p0==0&&(p1==0&&(p2==0&&true)))&&((p3==0&&(p4==0&&(p5==0&&true)))&&true)):=rfl
  have hzl:zL (q0,q1,q2,q3)=(q0==0&&((q1==0&&(q2==0&&(q3==0&&true)))&&true)):=rfl
  simp only[hz,hzl]
  generalize ((p0==0&&(p1==0&&(p2==0&&true)))&&((p3==0&&(p4==0&&(p5==0&&true)))&&true))=a1
  generalize (q0==0&&((q1==0&&(q2==0&&(q3==0&&true)))&&true))=a2
  generalize pN ((p0,p1,p2),(p3,p4,p5))=a3
  generalize nR (q0,q1,q2,q3)=a4
  generalize l.all cm=a5
  generalize decide (ch=0)=a6
  show _=some (true&&(decide (l.length=2)&&_))
  generalize decide (l.length=2)=a7
  cases a1<;>cases a2<;>cases a3<;>cases a4<;>cases a5<;>cases a6<;>cases a7<;>rfl
set_option maxHeartbeats 1000000 in
theorem aeM(nm:ByteArray)(l:List ByteArray)(ch p0 p1 p2 p3 p4 p5 q0 q1 q2 q3:Int)(hm:nm.size<=9223372036854775807)(hl:l.length<=1048576)(hn:∀x∈l,x.size<=9223372036854775807):
 am (nm,5,l,ch,((p0,p1,p2),(p3,p4,p5)),(q0,q1,q2,q3))=some (cm nm&&nv 5 (nm,5,l,ch,((p0,p1,p2),(p3,p4,p5)),(q0,q1,q2,q3))):=by
 rw[am,be,mf nm hm,Option.bind_some]
 cases cm nm
 ·rfl
 ·have e:bZ 5 1 12=some true:=by rw[pK];rfl
  have hi:gq An 5=some ((ByteArray.mk (Array.mk [109,105,114,114,111,114])),((ByteArray.mk (Array.mk [108,120])),Bool.false)):=rfl
  rw[Bool.not_true,cond_false,e,Option.bind_some,Bool.not_true,cond_false,hi,Option.bind_some]
  dsimp only
  rw[BZ l (by omega) hn,fX,fo]
  have hs:(ByteArray.size (ByteArray.mk (Array.mk [108,120])))=2:=rfl
  rw[hs,C4,kv (a:=ch)]
  unfold nv
  have hz:zP ((p0,p1,p2),(p3,p4,p5))=((p0==0&&(p1==0&&(p2==0&&true)))&&((p3==0&&(p4==0&&(p5==0&&true)))&&true)):=rfl
  have hzl:zL (q0,q1,q2,q3)=(q0==0&&((q1==0&&(q2==0&&(q3==0&&true)))&&true)):=rfl
  simp only[hz,hzl]
  generalize ((p0==0&&(p1==0&&(p2==0&&true)))&&((p3==0&&(p4==0&&(p5==0&&true)))&&true))=a1
  generalize (q0==0&&((q1==0&&(q2==0&&(q3==0&&true)))&&true))=a2
  generalize pN ((p0,p1,p2),(p3,p4,p5))=a3
  generalize nR (q0,q1,q2,q3)=a4
  generalize l.all cm=a5
  generalize decide (ch=0)=a6
  show _=some (true&&(decide (l.length=2)&&_))
  generalize decide (l.length=2)=a7
  cases a1<;>cases a2<;>cases a3<;>cases a4<;>cases a5<;>cases a6<;>cases a7<;>rfl
set_option maxHeartbeats 1000000 in
theorem aeN(nm:ByteArray)(l:List ByteArray)(ch p0 p1 p2 p3 p4 p5 q0 q1 q2 q3:Int)(hm:nm.size<=9223372036854775807)(hl:l.length<=1048576)(hn:∀x∈l,x.size<=9223372036854775807):
 am (nm,6,l,ch,((p0,p1,p2),(p3,p4,p5)),(q0,q1,q2,q3))=some (cm nm&&nv 6 (nm,6,l,ch,((p0,p1,p2),(p3,p4,p5)),(q0,q1,q2,q3))):=by
 rw[am,be,mf nm hm,Option.bind_some]
 cases cm nm
 ·rfl
 ·have e:bZ 6 1 12=some true:=by rw[pK];rfl
  have hi:gq An 6=some ((ByteArray.mk (Array.mk [116,104,114,111,117,103,104])),((ByteArray.mk (Array.mk [112,112])),Bool.false)):=rfl
  rw[Bool.not_true,cond_false,e,Option.bind_some,Bool.not_true,cond_false,hi,Option.bind_some]
  dsimp only
  rw[BZ l (by omega) hn,fX,fo]
  have hs:(ByteArray.size (ByteArray.mk (Array.mk [112,112])))=2:=rfl
  rw[hs,C4,kv (a:=ch)]
  unfold nv
  have hz:zP ((p0,p1,p2),(p3,p4,p5))=((p0==0&&(p1==0&&(p2==0&&true)))&&((p3==0&&(p4==0&&(p5==0&&true)))&&true)):=rfl
  have hzl:zL (q0,q1,q2,q3)=(q0==0&&((q1==0&&(q2==0&&(q3==0&&true)))&&true)):=rfl
  simp only[hz,hzl]
  generalize ((p0==0&&(p1==0&&(p2==0&&true)))&&((p3==0&&(p4==0&&(p5==0&&true)))&&true))=a1
  generalize (q0==0&&((q1==0&&(q2==0&&(q3==0&&true)))&&true))=a2
  generalize pN ((p0,p1,p2),(p3,p4,p5))=a3
  generalize nR (q0,q1,q2,q3)=a4
  generalize l.all cm=a5
  generalize decide (ch=0)=a6
  show _=some (true&&(decide (l.length=2)&&_))
  generalize decide (l.length=2)=a7
  cases a1<;>cases a2<;>cases a3<;>cases a4<;>cases a5<;>cases a6<;>cases a7<;>rfl
set_option maxHeartbeats 1000000 in
theorem aeO(nm:ByteArray)(l:List ByteArray)(ch p0 p1 p2 p3 p4 p5 q0 q1 q2 q3:Int)(hm:nm.size<=9223372036854775807)(hl:l.length<=1048576)(hn:∀x∈l,x.size<=9223372036854775807):
 am (nm,7,l,ch,((p0,p1,p2),(p3,p4,p5)),(q0,q1,q2,q3))=some (cm nm&&nv 7 (nm,7,l,ch,((p0,p1,p2),(p3,p4,p5)),(q0,q1,q2,q3))):=by
 rw[am,be,mf nm hm,Option.bind_some]
 cases cm nm
 ·rfl
 ·have e:bZ 7 1 12=some true:=by rw[pK];rfl
  have hi:gq An 7=some ((ByteArray.mk (Array.mk [111,110,116,111])),((ByteArray.mk (Array.mk [112,112])),Bool.false)):=rfl
  rw[Bool.not_true,cond_false,e,Option.bind_some,Bool.not_true,cond_false,hi,Option.bind_some]
  dsimp only
  rw[BZ l (by omega) hn,fX,fo]
  have hs:(ByteArray.size (ByteArray.mk (Array.mk [112,112])))=2:=rfl
  rw[hs,C4,kv (a:=ch)]
  unfold nv
  have hz:zP ((p0,p1,p2),(p3,p4,p5))=((p0==0&&(p1==0&&(p2==0&&true)))&&((p3==0&&(p4==0&&(p5==0&&true)))&&true)):=rfl
  have hzl:zL (q0,q1,q2,q3)=(q0==0&&((q1==0&&(q2==0&&(q3==0&&true)))&&true)):=rfl
  simp only[hz,hzl]
  generalize ((p0==0&&(p1==0&&(p2==0&&true)))&&((p3==0&&(p4==0&&(p5==0&&true)))&&true))=a1
  generalize (q0==0&&((q1==0&&(q2==0&&(q3==0&&true)))&&true))=a2
  generalize pN ((p0,p1,p2),(p3,p4,p5))=a3
  generalize nR (q0,q1,q2,q3)=a4
  generalize l.all cm=a5
  generalize decide (ch=0)=a6
  show _=some (true&&(decide (l.length=2)&&_))
  generalize decide (l.length=2)=a7
  cases a1<;>cases a2<;>cases a3<;>cases a4<;>cases a5<;>cases a6<;>cases a7<;>rfl
set_option maxHeartbeats 1000000 in
theorem aeP(nm:ByteArray)(l:List ByteArray)(ch p0 p1 p2 p3 p4 p5 q0 q1 q2 q3:Int)(hm:nm.size<=9223372036854775807)(hl:l.length<=1048576)(hn:∀x∈l,x.size<=9223372036854775807):
 am (nm,8,l,ch,((p0,p1,p2),(p3,p4,p5)),(q0,q1,q2,q3))=some (cm nm&&nv 8 (nm,8,l,ch,((p0,p1,p2),(p3,p4,p5)),(q0,q1,q2,q3))):=by
 rw[am,be,mf nm hm,Option.bind_some]
 cases cm nm
 ·rfl
 ·have e:bZ 8 1 12=some true:=by rw[pK];rfl
  have hi:gq An 8=some ((ByteArray.mk (Array.mk [98,105,115,101,99,116])),((ByteArray.mk (Array.mk [108,108])),Bool.true)):=rfl
  rw[Bool.not_true,cond_false,e,Option.bind_some,Bool.not_true,cond_false,hi,Option.bind_some]
  dsimp only
  rw[BZ l (by omega) hn,fX,fo,pK]
  have hs:(ByteArray.size (ByteArray.mk (Array.mk [108,108])))=2:=rfl
  rw[hs,C4]
  unfold nv
  have hz:zP ((p0,p1,p2),(p3,p4,p5))=((p0==0&&(p1==0&&(p2==0&&true)))&&((p3==0&&(p4==0&&(p5==0&&true)))&&true)):=rfl
  have hzl:zL (q0,q1,q2,q3)=(q0==0&&((q1==0&&(q2==0&&(q3==0&&true)))&&true)):=rfl
  simp only[hz,hzl]
  generalize ((p0==0&&(p1==0&&(p2==0&&true)))&&((p3==0&&(p4==0&&(p5==0&&true)))&&true))=a1
  generalize (q0==0&&((q1==0&&(q2==0&&(q3==0&&true)))&&true))=a2
  generalize pN ((p0,p1,p2),(p3,p4,p5))=a3
  generalize nR (q0,q1,q2,q3)=a4
  generalize l.all cm=a5
  generalize (decide (0<=ch)&&decide (ch<=7))=a6
  show _=some (true&&(decide (l.length=2)&&_))
  generalize decide (l.length=2)=a7
  cases a1<;>cases a2<;>cases a3<;>cases a4<;>cases a5<;>cases a6<;>cases a7<;>rfl
set_option maxHeartbeats 1000000 in
theorem aeQ(nm:ByteArray)(l:List ByteArray)(ch p0 p1 p2 p3 p4 p5 q0 q1 q2 q3:Int)(hm:nm.size<=9223372036854775807)(hl:l.length<=1048576)(hn:∀x∈l,x.size<=9223372036854775807):
 am (nm,9,l,ch,((p0,p1,p2),(p3,p4,p5)),(q0,q1,q2,q3))=some (cm nm&&nv 9 (nm,9,l,ch,((p0,p1,p2),(p3,p4,p5)),(q0,q1,q2,q3))):=by
 rw[am,be,mf nm hm,Option.bind_some]
 cases cm nm
 ·rfl
 ·have e:bZ 9 1 12=some true:=by rw[pK];rfl
  have hi:gq An 9=some ((ByteArray.mk (Array.mk [115,113,117,97,114,101])),((ByteArray.mk (Array.mk [108,112])),Bool.false)):=rfl
  rw[Bool.not_true,cond_false,e,Option.bind_some,Bool.not_true,cond_false,hi,Option.bind_some]
  dsimp only
  rw[BZ l (by omega) hn,fX,fo]
  have hs:(ByteArray.size (ByteArray.mk (Array.mk [108,112])))=2:=rfl
  rw[hs,C4,kv (a:=ch)]
  unfold nv
  have hz:zP ((p0,p1,p2),(p3,p4,p5))=((p0==0&&(p1==0&&(p2==0&&true)))&&((p3==0&&(p4==0&&(p5==0&&true)))&&true)):=rfl
  have hzl:zL (q0,q1,q2,q3)=(q0==0&&((q1==0&&(q2==0&&(q3==0&&true)))&&true)):=rfl
  simp only[hz,hzl]
  generalize ((p0==0&&(p1==0&&(p2==0&&true)))&&((p3==0&&(p4==0&&(p5==0&&true)))&&true))=a1
  generalize (q0==0&&((q1==0&&(q2==0&&(q3==0&&true)))&&true))=a2
  generalize pN ((p0,p1,p2),(p3,p4,p5))=a3
  generalize nR (q0,q1,q2,q3)=a4
  generalize l.all cm=a5
  generalize decide (ch=0)=a6
  show _=some (true&&(decide (l.length=2)&&_))
  generalize decide (l.length=2)=a7
  cases a1<;>cases a2<;>cases a3<;>cases a4<;>cases a5<;>cases a6<;>cases a7<;>rfl
set_option maxHeartbeats 1000000 in
theorem adC(nm:ByteArray)(l:List ByteArray)(ch p0 p1 p2 p3 p4 p5 q0 q1 q2 q3:Int)(hm:nm.size<=9223372036854775807)(hl:l.length<=1048576)(hn:∀x∈l,x.size<=9223372036854775807):
 am (nm,10,l,ch,((p0,p1,p2),(p3,p4,p5)),(q0,q1,q2,q3))=some (cm nm&&nv 10 (nm,10,l,ch,((p0,p1,p2),(p3,p4,p5)),(q0,q1,q2,q3))):=by
 rw[am,be,mf nm hm,Option.bind_some]
 cases cm nm
 ·rfl
 ·have e:bZ 10 1 12=some true:=by rw[pK];rfl
  have hi:gq An 10=some ((ByteArray.mk (Array.mk [102,111,108,100])),((ByteArray.mk (Array.mk [112,108,112])),Bool.true)):=rfl
  rw[Bool.not_true,cond_false,e,Option.bind_some,Bool.not_true,cond_false,hi,Option.bind_some]
  dsimp only
  rw[BZ l (by omega) hn,fX,fo,pK]
  have hs:(ByteArray.size (ByteArray.mk (Array.mk [112,108,112])))=3:=rfl
  rw[hs,C4]
  unfold nv
  have hz:zP ((p0,p1,p2),(p3,p4,p5))=((p0==0&&(p1==0&&(p2==0&&true)))&&((p3==0&&(p4==0&&(p5==0&&true)))&&true)):=rfl
  have hzl:zL (q0,q1,q2,q3)=(q0==0&&((q1==0&&(q2==0&&(q3==0&&true)))&&true)):=rfl
  simp only[hz,hzl]
  generalize ((p0==0&&(p1==0&&(p2==0&&true)))&&((p3==0&&(p4==0&&(p5==0&&true)))&&true))=a1
  generalize (q0==0&&((q1==0&&(q2==0&&(q3==0&&true)))&&true))=a2
  generalize pN ((p0,p1,p2),(p3,p4,p5))=a3
  generalize nR (q0,q1,q2,q3)=a4
  generalize l.all cm=a5
  generalize (decide (0<=ch)&&decide (ch<=7))=a6
  show _=some (true&&(decide (l.length=3)&&_))
  generalize decide (l.length=3)=a7
  cases a1<;>cases a2<;>cases a3<;>cases a4<;>cases a5<;>cases a6<;>cases a7<;>rfl
set_option maxHeartbeats 1000000 in
theorem adD(nm:ByteArray)(l:List ByteArray)(ch p0 p1 p2 p3 p4 p5 q0 q1 q2 q3:Int)(hm:nm.size<=9223372036854775807)(hl:l.length<=1048576)(hn:∀x∈l,x.size<=9223372036854775807):
 am (nm,11,l,ch,((p0,p1,p2),(p3,p4,p5)),(q0,q1,q2,q3))=some (cm nm&&nv 11 (nm,11,l,ch,((p0,p1,p2),(p3,p4,p5)),(q0,q1,q2,q3))):=by
 rw[am,be,mf nm hm,Option.bind_some]
 cases cm nm
 ·rfl
 ·have e:bZ 11 1 12=some true:=by rw[pK];rfl
  have hi:gq An 11=some ((ByteArray.mk (Array.mk [116,119,111])),((ByteArray.mk (Array.mk [112,108,112,108])),Bool.true)):=rfl
  rw[Bool.not_true,cond_false,e,Option.bind_some,Bool.not_true,cond_false,hi,Option.bind_some]
  dsimp only
  rw[BZ l (by omega) hn,fX,fo,pK]
  have hs:(ByteArray.size (ByteArray.mk (Array.mk [112,108,112,108])))=4:=rfl
  rw[hs,C4]
  unfold nv
  have hz:zP ((p0,p1,p2),(p3,p4,p5))=((p0==0&&(p1==0&&(p2==0&&true)))&&((p3==0&&(p4==0&&(p5==0&&true)))&&true)):=rfl
  have hzl:zL (q0,q1,q2,q3)=(q0==0&&((q1==0&&(q2==0&&(q3==0&&true)))&&true)):=rfl
  simp only[hz,hzl]
  generalize ((p0==0&&(p1==0&&(p2==0&&true)))&&((p3==0&&(p4==0&&(p5==0&&true)))&&true))=a1
  generalize (q0==0&&((q1==0&&(q2==0&&(q3==0&&true)))&&true))=a2
  generalize pN ((p0,p1,p2),(p3,p4,p5))=a3
  generalize nR (q0,q1,q2,q3)=a4
  generalize l.all cm=a5
  generalize (decide (0<=ch)&&decide (ch<=7))=a6
  show _=some (true&&(decide (l.length=4)&&_))
  generalize decide (l.length=4)=a7
  cases a1<;>cases a2<;>cases a3<;>cases a4<;>cases a5<;>cases a6<;>cases a7<;>rfl
set_option maxHeartbeats 1000000 in
theorem adE(nm:ByteArray)(l:List ByteArray)(ch p0 p1 p2 p3 p4 p5 q0 q1 q2 q3:Int)(hm:nm.size<=9223372036854775807)(hl:l.length<=1048576)(hn:∀x∈l,x.size<=9223372036854775807):
 am (nm,12,l,ch,((p0,p1,p2),(p3,p4,p5)),(q0,q1,q2,q3))=some (cm nm&&nv 12 (nm,12,l,ch,((p0,p1,p2),(p3,p4,p5)),(q0,q1,q2,q3))):=by
 rw[am,be,mf nm hm,Option.bind_some]
 cases cm nm
 ·rfl
 ·have e:bZ 12 1 12=some true:=by rw[pK];rfl
  have hi:gq An 12=some ((ByteArray.mk (Array.mk [97,99,114,111,115,115])),((ByteArray.mk (Array.mk [112,108,108])),Bool.false)):=rfl
  rw[Bool.not_true,cond_false,e,Option.bind_some,Bool.not_true,cond_false,hi,Option.bind_some]
  dsimp only
  rw[BZ l (by omega) hn,fX,fo]
  have hs:(ByteArray.size (ByteArray.mk (Array.mk [112,108,108])))=3:=rfl
  rw[hs,C4,kv (a:=ch)]
  unfold nv
  have hz:zP ((p0,p1,p2),(p3,p4,p5))=((p0==0&&(p1==0&&(p2==0&&true)))&&((p3==0&&(p4==0&&(p5==0&&true)))&&true)):=rfl
  have hzl:zL (q0,q1,q2,q3)=(q0==0&&((q1==0&&(q2==0&&(q3==0&&true)))&&true)):=rfl
  simp only[hz,hzl]
  generalize ((p0==0&&(p1==0&&(p2==0&&true)))&&((p3==0&&(p4==0&&(p5==0&&true)))&&true))=a1
  generalize (q0==0&&((q1==0&&(q2==0&&(q3==0&&true)))&&true))=a2
  generalize pN ((p0,p1,p2),(p3,p4,p5))=a3
  generalize nR (q0,q1,q2,q3)=a4
  generalize l.all cm=a5
  generalize decide (ch=0)=a6
  show _=some (true&&(decide (l.length=3)&&_))
  generalize decide (l.length=3)=a7
  cases a1<;>cases a2<;>cases a3<;>cases a4<;>cases a5<;>cases a6<;>cases a7<;>rfl
set_option maxHeartbeats 1000000 in
theorem ae8(nm:ByteArray)(l:List ByteArray)(ch p0 p1 p2 p3 p4 p5 q0 q1 q2 q3:Int)(hl:l.length<=1048576):
 bQ (nm,1,l,ch,((p0,p1,p2),(p3,p4,p5)),(q0,q1,q2,q3))=some (cm nm&&nv 1 (nm,1,l,ch,((p0,p1,p2),(p3,p4,p5)),(q0,q1,q2,q3))):=by
 rw[bQ,eJ,ml,Option.bind_some]
 cases cm nm
 ·rfl
 ·have e:cI 1 1 12=some true:=by rw[hZ];rfl
  have e2:dz 1=some 0:=by kernel_rfl
  have e3:cw 1=some false:=by kernel_rfl
  have hw:=ri 1 ch nm ((p0,p1,p2),(p3,p4,p5)) (q0,q1,q2,q3) l hl l [] rfl
  simp only[List.length_nil]at hw
  have hw':bP (cf 0 nm 1 l ch p0 p1 p2 p3 p4 p5 q0 q1 q2 q3)=_:=hw
  rw[Bool.not_true,cond_false,e,Option.bind_some,Bool.not_true,cond_false,e2,Option.bind_some,hZ,Option.bind_some,e3,Option.bind_some,hw']
  have hb:(((l.length:Nat):Int) !=0)= !decide (l.length=0):=C4 (m:=0)
  dsimp only
  rw[hb,kv (a:=ch)]
  unfold nv
  have hz:zP ((p0,p1,p2),(p3,p4,p5))=((p0==0&&(p1==0&&(p2==0&&true)))&&((p3==0&&(p4==0&&(p5==0&&true)))&&true)):=rfl
  have hzl:zL (q0,q1,q2,q3)=(q0==0&&((q1==0&&(q2==0&&(q3==0&&true)))&&true)):=rfl
  have hp:=fJ ((p0,p1,p2),(p3,p4,p5))
  have hq:=fY (q0,q1,q2,q3)
  have hc:decide (ch=0)=(decide (ch=0)&&(decide (0<=ch)&&decide (ch<=7))):=by
   by_cases h:ch=0
   ·subst h;rfl
   ·rw[aW h];rfl
  simp only[hz,hzl]
  generalize ((p0==0&&(p1==0&&(p2==0&&true)))&&((p3==0&&(p4==0&&(p5==0&&true)))&&true))=a1
  generalize (q0==0&&((q1==0&&(q2==0&&(q3==0&&true)))&&true))=a2
  cases l.all cm
  ·show _=some (true&&(decide (l.length=0)&&false))
   generalize (decide (0<=ch)&&decide (ch<=7))=a6
   generalize decide (ch=0)=a8
   generalize decide (l.length=0)=a7
   cases a1<;>cases a2<;>cases a6<;>cases a7<;>cases a8<;>rfl
  ·rw[cond_true]
   simp only[Option.bind_some,qi]
   rw[hp,hq]
   generalize pN ((p0,p1,p2),(p3,p4,p5))=a3
   generalize nR (q0,q1,q2,q3)=a4
   show _=some (true&&(decide (l.length=0)&&(true&&(decide (ch=0)&&_))))
   rw[hc]
   generalize (decide (0<=ch)&&decide (ch<=7))=a6
   generalize decide (ch=0)=a8
   generalize decide (l.length=0)=a7
   cases a1<;>cases a2<;>cases a3<;>cases a4<;>cases a6<;>cases a7<;>cases a8<;>rfl
set_option maxHeartbeats 1000000 in
theorem ae9(nm:ByteArray)(l:List ByteArray)(ch p0 p1 p2 p3 p4 p5 q0 q1 q2 q3:Int)(hl:l.length<=1048576):
 bQ (nm,2,l,ch,((p0,p1,p2),(p3,p4,p5)),(q0,q1,q2,q3))=some (cm nm&&nv 2 (nm,2,l,ch,((p0,p1,p2),(p3,p4,p5)),(q0,q1,q2,q3))):=by
 rw[bQ,eJ,ml,Option.bind_some]
 cases cm nm
 ·rfl
 ·have e:cI 2 1 12=some true:=by rw[hZ];rfl
  have e2:dz 2=some 0:=by kernel_rfl
  have e3:cw 2=some false:=by kernel_rfl
  have hw:=ri 2 ch nm ((p0,p1,p2),(p3,p4,p5)) (q0,q1,q2,q3) l hl l [] rfl
  simp only[List.length_nil]at hw
  have hw':bP (cf 0 nm 2 l ch p0 p1 p2 p3 p4 p5 q0 q1 q2 q3)=_:=hw
  rw[Bool.not_true,cond_false,e,Option.bind_some,Bool.not_true,cond_false,e2,Option.bind_some,hZ,Option.bind_some,e3,Option.bind_some,hw']
  have hb:(((l.length:Nat):Int) !=0)= !decide (l.length=0):=C4 (m:=0)
  dsimp only
  rw[hb,kv (a:=ch)]
  unfold nv
  have hz:zP ((p0,p1,p2),(p3,p4,p5))=((p0==0&&(p1==0&&(p2==0&&true)))&&((p3==0&&(p4==0&&(p5==0&&true)))&&true)):=rfl
  have hzl:zL (q0,q1,q2,q3)=(q0==0&&((q1==0&&(q2==0&&(q3==0&&true)))&&true)):=rfl
  have hp:=fJ ((p0,p1,p2),(p3,p4,p5))
  have hq:=fY (q0,q1,q2,q3)
  have hc:decide (ch=0)=(decide (ch=0)&&(decide (0<=ch)&&decide (ch<=7))):=by
   by_cases h:ch=0
   ·subst h;rfl
   ·rw[aW h];rfl
  simp only[hz,hzl]
  generalize ((p0==0&&(p1==0&&(p2==0&&true)))&&((p3==0&&(p4==0&&(p5==0&&true)))&&true))=a1
  generalize (q0==0&&((q1==0&&(q2==0&&(q3==0&&true)))&&true))=a2
  cases l.all cm
  ·show _=some (true&&(decide (l.length=0)&&false))
   generalize (decide (0<=ch)&&decide (ch<=7))=a6
   generalize decide (ch=0)=a8
   generalize decide (l.length=0)=a7
   cases a1<;>cases a2<;>cases a6<;>cases a7<;>cases a8<;>rfl
  ·rw[cond_true]
   simp only[Option.bind_some,qi]
   rw[hp,hq]
   generalize pN ((p0,p1,p2),(p3,p4,p5))=a3
   generalize nR (q0,q1,q2,q3)=a4
   show _=some (true&&(decide (l.length=0)&&(true&&(decide (ch=0)&&_))))
   rw[hc]
   generalize (decide (0<=ch)&&decide (ch<=7))=a6
   generalize decide (ch=0)=a8
   generalize decide (l.length=0)=a7
   cases a1<;>cases a2<;>cases a3<;>cases a4<;>cases a6<;>cases a7<;>cases a8<;>rfl
set_option maxHeartbeats 1000000 in
theorem afa(nm:ByteArray)(l:List ByteArray)(ch p0 p1 p2 p3 p4 p5 q0 q1 q2 q3:Int)(hl:l.length<=1048576):
 bQ (nm,3,l,ch,((p0,p1,p2),(p3,p4,p5)),(q0,q1,q2,q3))=some (cm nm&&nv 3 (nm,3,l,ch,((p0,p1,p2),(p3,p4,p5)),(q0,q1,q2,q3))):=by
 rw[bQ,eJ,ml,Option.bind_some]
 cases cm nm
 ·rfl
 ·have e:cI 3 1 12=some true:=by rw[hZ];rfl
  have e2:dz 3=some 2:=by kernel_rfl
  have e3:cw 3=some false:=by kernel_rfl
  have hw:=ri 3 ch nm ((p0,p1,p2),(p3,p4,p5)) (q0,q1,q2,q3) l hl l [] rfl
  simp only[List.length_nil]at hw
  have hw':bP (cf 0 nm 3 l ch p0 p1 p2 p3 p4 p5 q0 q1 q2 q3)=_:=hw
  rw[Bool.not_true,cond_false,e,Option.bind_some,Bool.not_true,cond_false,e2,Option.bind_some,hZ,Option.bind_some,e3,Option.bind_some,hw']
  have hb:(((l.length:Nat):Int) !=2)= !decide (l.length=2):=C4 (m:=2)
  dsimp only
  rw[hb,kv (a:=ch)]
  unfold nv
  have hz:zP ((p0,p1,p2),(p3,p4,p5))=((p0==0&&(p1==0&&(p2==0&&true)))&&((p3==0&&(p4==0&&(p5==0&&true)))&&true)):=rfl
  have hzl:zL (q0,q1,q2,q3)=(q0==0&&((q1==0&&(q2==0&&(q3==0&&true)))&&true)):=rfl
  have hp:=fJ ((p0,p1,p2),(p3,p4,p5))
  have hq:=fY (q0,q1,q2,q3)
  have hc:decide (ch=0)=(decide (ch=0)&&(decide (0<=ch)&&decide (ch<=7))):=by
   by_cases h:ch=0
   ·subst h;rfl
   ·rw[aW h];rfl
  simp only[hz,hzl]
  generalize ((p0==0&&(p1==0&&(p2==0&&true)))&&((p3==0&&(p4==0&&(p5==0&&true)))&&true))=a1
  generalize (q0==0&&((q1==0&&(q2==0&&(q3==0&&true)))&&true))=a2
  cases l.all cm
  ·show _=some (true&&(decide (l.length=2)&&false))
   generalize (decide (0<=ch)&&decide (ch<=7))=a6
   generalize decide (ch=0)=a8
   generalize decide (l.length=2)=a7
   cases a1<;>cases a2<;>cases a6<;>cases a7<;>cases a8<;>rfl
  ·rw[cond_true]
   simp only[Option.bind_some,qi]
   rw[hp,hq]
   generalize pN ((p0,p1,p2),(p3,p4,p5))=a3
   generalize nR (q0,q1,q2,q3)=a4
   show _=some (true&&(decide (l.length=2)&&(true&&(decide (ch=0)&&_))))
   rw[hc]
   generalize (decide (0<=ch)&&decide (ch<=7))=a6
   generalize decide (ch=0)=a8
   generalize decide (l.length=2)=a7
   cases a1<;>cases a2<;>cases a3<;>cases a4<;>cases a6<;>cases a7<;>cases a8<;>rfl
set_option maxHeartbeats 1000000 in
theorem afb(nm:ByteArray)(l:List ByteArray)(ch p0 p1 p2 p3 p4 p5 q0 q1 q2 q3:Int)(hl:l.length<=1048576):
 bQ (nm,4,l,ch,((p0,p1,p2),(p3,p4,p5)),(q0,q1,q2,q3))=some (cm nm&&nv 4 (nm,4,l,ch,((p0,p1,p2),(p3,p4,p5)),(q0,q1,q2,q3))):=by
 rw[bQ,eJ,ml,Option.bind_some]
 cases cm nm
 ·rfl
 ·have e:cI 4 1 12=some true:=by rw[hZ];rfl
  have e2:dz 4=some 2:=by kernel_rfl
  have e3:cw 4=some false:=by kernel_rfl
  have hw:=ri 4 ch nm ((p0,p1,p2),(p3,p4,p5)) (q0,q1,q2,q3) l hl l [] rfl
  simp only[List.length_nil]at hw
  have hw':bP (cf 0 nm 4 l ch p0 p1 p2 p3 p4 p5 q0 q1 q2 q3)=_:=hw
  rw[Bool.not_true,cond_false,e,Option.bind_some,Bool.not_true,cond_false,e2,Option.bind_some,hZ,Option.bind_some,e3,Option.bind_some,hw']
  have hb:(((l.length:Nat):Int) !=2)= !decide (l.length=2):=C4 (m:=2)
  dsimp only
  rw[hb,kv (a:=ch)]
  unfold nv
  have hz:zP ((p0,p1,p2),(p3,p4,p5))=((p0==0&&(p1==0&&(p2==0&&true)))&&((p3==0&&(p4==0&&(p5==0&&true)))&&true)):=rfl
  have hzl:zL (q0,q1,q2,q3)=(q0==0&&((q1==0&&(q2==0&&(q3==0&&true)))&&true)):=rfl
  have hp:=fJ ((p0,p1,p2),(p3,p4,p5))
  have hq:=fY (q0,q1,q2,q3)
  have hc:decide (ch=0)=(decide (ch=0)&&(decide (0<=ch)&&decide (ch<=7))):=by
   by_cases h:ch=0
   ·subst h;rfl
   ·rw[aW h];rfl
  simp only[hz,hzl]
  generalize ((p0==0&&(p1==0&&(p2==0&&true)))&&((p3==0&&(p4==0&&(p5==0&&true)))&&true))=a1
  generalize (q0==0&&((q1==0&&(q2==0&&(q3==0&&true)))&&true))=a2
  cases l.all cm
  ·show _=some (true&&(decide (l.length=2)&&false))
   generalize (decide (0<=ch)&&decide (ch<=7))=a6
   generalize decide (ch=0)=a8
   generalize decide (l.length=2)=a7
   cases a1<;>cases a2<;>cases a6<;>cases a7<;>cases a8<;>rfl
  ·rw[cond_true]
   simp only[Option.bind_some,qi]
   rw[hp,hq]
   generalize pN ((p0,p1,p2),(p3,p4,p5))=a3
   generalize nR (q0,q1,q2,q3)=a4
   show _=some (true&&(decide (l.length=2)&&(true&&(decide (ch=0)&&_))))
   rw[hc]
   generalize (decide (0<=ch)&&decide (ch<=7))=a6
   generalize decide (ch=0)=a8
   generalize decide (l.length=2)=a7
   cases a1<;>cases a2<;>cases a3<;>cases a4<;>cases a6<;>cases a7<;>cases a8<;>rfl
set_option maxHeartbeats 1000000 in
theorem afc(nm:ByteArray)(l:List ByteArray)(ch p0 p1 p2 p3 p4 p5 q0 q1 q2 q3:Int)(hl:l.length<=1048576):
 bQ (nm,5,l,ch,((p0,p1,p2),(p3,p4,p5)),(q0,q1,q2,q3))=some (cm nm&&nv 5 (nm,5,l,ch,((p0,p1,p2),(p3,p4,p5)),(q0,q1,q2,q3))):=by
 rw[bQ,eJ,ml,Option.bind_some]
 cases cm nm
 ·rfl
 ·have e:cI 5 1 12=some true:=by rw[hZ];rfl
  have e2:dz 5=some 2:=by kernel_rfl
  have e3:cw 5=some false:=by kernel_rfl
  have hw:=ri 5 ch nm ((p0,p1,p2),(p3,p4,p5)) (q0,q1,q2,q3) l hl l [] rfl
  simp only[List.length_nil]at hw
  have hw':bP (cf 0 nm 5 l ch p0 p1 p2 p3 p4 p5 q0 q1 q2 q3)=_:=hw
  rw[Bool.not_true,cond_false,e,Option.bind_some,Bool.not_true,cond_false,e2,Option.bind_some,hZ,Option.bind_some,e3,Option.bind_some,hw']
  have hb:(((l.length:Nat):Int) !=2)= !decide (l.length=2):=C4 (m:=2)
  dsimp only
  rw[hb,kv (a:=ch)]
  unfold nv
  have hz:zP ((p0,p1,p2),(p3,p4,p5))=((p0==0&&(p1==0&&(p2==0&&true)))&&((p3==0&&(p4==0&&(p5==0&&true)))&&true)):=rfl
  have hzl:zL (q0,q1,q2,q3)=(q0==0&&((q1==0&&(q2==0&&(q3==0&&true)))&&true)):=rfl
  have hp:=fJ ((p0,p1,p2),(p3,p4,p5))
  have hq:=fY (q0,q1,q2,q3)
  have hc:decide (ch=0)=(decide (ch=0)&&(decide (0<=ch)&&decide (ch<=7))):=by
   by_cases h:ch=0
   ·subst h;rfl
   ·rw[aW h];rfl
  simp only[hz,hzl]
  generalize ((p0==0&&(p1==0&&(p2==0&&true)))&&((p3==0&&(p4==0&&(p5==0&&true)))&&true))=a1
  generalize (q0==0&&((q1==0&&(q2==0&&(q3==0&&true)))&&true))=a2
  cases l.all cm
  ·show _=some (true&&(decide (l.length=2)&&false))
   generalize (decide (0<=ch)&&decide (ch<=7))=a6
   generalize decide (ch=0)=a8
   generalize decide (l.length=2)=a7
   cases a1<;>cases a2<;>cases a6<;>cases a7<;>cases a8<;>rfl
  ·rw[cond_true]
   simp only[Option.bind_some,qi]
   rw[hp,hq]
   generalize pN ((p0,p1,p2),(p3,p4,p5))=a3
   generalize nR (q0,q1,q2,q3)=a4
   show _=some (true&&(decide (l.length=2)&&(true&&(decide (ch=0)&&_))))
   rw[hc]
   generalize (decide (0<=ch)&&decide (ch<=7))=a6
   generalize decide (ch=0)=a8
   generalize decide (l.length=2)=a7
   cases a1<;>cases a2<;>cases a3<;>cases a4<;>cases a6<;>cases a7<;>cases a8<;>rfl
set_option maxHeartbeats 1000000 in
theorem afd(nm:ByteArray)(l:List ByteArray)(ch p0 p1 p2 p3 p4 p5 q0 q1 q2 q3:Int)(hl:l.length<=1048576):
 bQ (nm,6,l,ch,((p0,p1,p2),(p3,p4,p5)),(q0,q1,q2,q3))=some (cm nm&&nv 6 (nm,6,l,ch,((p0,p1,p2),(p3,p4,p5)),(q0,q1,q2,q3))):=by
 rw[bQ,eJ,ml,Option.bind_some]
 cases cm nm
 ·rfl
 ·have e:cI 6 1 12=some true:=by rw[hZ];rfl
  have e2:dz 6=some 2:=by kernel_rfl
  have e3:cw 6=some false:=by kernel_rfl
  have hw:=ri 6 ch nm ((p0,p1,p2),(p3,p4,p5)) (q0,q1,q2,q3) l hl l [] rfl
  simp only[List.length_nil]at hw
  have hw':bP (cf 0 nm 6 l ch p0 p1 p2 p3 p4 p5 q0 q1 q2 q3)=_:=hw
  rw[Bool.not_true,cond_false,e,Option.bind_some,Bool.not_true,cond_false,e2,Option.bind_some,hZ,Option.bind_some,e3,Option.bind_some,hw']
  have hb:(((l.length:Nat):Int) !=2)= !decide (l.length=2):=C4 (m:=2)
  dsimp only
  rw[hb,kv (a:=ch)]
  unfold nv
  have hz:zP ((p0,p1,p2),(p3,p4,p5))=((p0==0&&(p1==0&&(p2==0&&true)))&&((p3==0&&(p4==0&&(p5==0&&true)))&&true)):=rfl
  have hzl:zL (q0,q1,q2,q3)=(q0==0&&((q1==0&&(q2==0&&(q3==0&&true)))&&true)):=rfl
  have hp:=fJ ((p0,p1,p2),(p3,p4,p5))
  have hq:=fY (q0,q1,q2,q3)
  have hc:decide (ch=0)=(decide (ch=0)&&(decide (0<=ch)&&decide (ch<=7))):=by
   by_cases h:ch=0
   ·subst h;rfl
   ·rw[aW h];rfl
  simp only[hz,hzl]
  generalize ((p0==0&&(p1==0&&(p2==0&&true)))&&((p3==0&&(p4==0&&(p5==0&&true)))&&true))=a1
  generalize (q0==0&&((q1==0&&(q2==0&&(q3==0&&true)))&&true))=a2
  cases l.all cm
  ·show _=some (true&&(decide (l.length=2)&&false))
   generalize (decide (0<=ch)&&decide (ch<=7))=a6
   generalize decide (ch=0)=a8
   generalize decide (l.length=2)=a7
   cases a1<;>cases a2<;>cases a6<;>cases a7<;>cases a8<;>rfl
  ·rw[cond_true]
   simp only[Option.bind_some,qi]
   rw[hp,hq]
   generalize pN ((p0,p1,p2),(p3,p4,p5))=a3
   generalize nR (q0,q1,q2,q3)=a4
   show _=some (true&&(decide (l.length=2)&&(true&&(decide (ch=0)&&_))))
   rw[hc]
   generalize (decide (0<=ch)&&decide (ch<=7))=a6
   generalize decide (ch=0)=a8
   generalize decide (l.length=2)=a7
   cases a1<;>cases a2<;>cases a3<;>cases a4<;>cases a6<;>cases a7<;>cases a8<;>rfl
end Go.Proofs.YtjkljnflaifbhaaGreatDoor
namespace Go.Proofs.YtjkljnflaifbhaaGreatDoor
open Go.Vai
set_option maxHeartbeats 1000000 in
theorem afe(nm:ByteArray)(l:List ByteArray)(ch p0 p1 p2 p3 p4 p5 q0 q1 q2 q3:Int)(hl:l.length<=1048576):
 bQ (nm,7,l,ch,((p0,p1,p2),(p3,p4,p5)),(q0,q1,q2,q3))=some (cm nm&&nv 7 (nm,7,l,ch,((p0,p1,p2),(p3,p4,p5)),(q0,q1,q2,q3))):=by
 rw[bQ,eJ,ml,Option.bind_some]
 cases cm nm
 ·rfl
 ·have e:cI 7 1 12=some true:=by rw[hZ];rfl
  have e2:dz 7=some 2:=by kernel_rfl
  have e3:cw 7=some false:=by kernel_rfl
  have hw:=ri 7 ch nm ((p0,p1,p2),(p3,p4,p5)) (q0,q1,q2,q3) l hl l [] rfl
  simp only[List.length_nil]at hw
  have hw':bP (cf 0 nm 7 l ch p0 p1 p2 p3 p4 p5 q0 q1 q2 q3)=_:=hw
  rw[Bool.not_true,cond_false,e,Option.bind_some,Bool.not_true,cond_false,e2,Option.bind_some,hZ,Option.bind_some,e3,Option.bind_some,hw']
  have hb:(((l.length:Nat):Int) !=2)= !decide (l.length=2):=C4 (m:=2)
  dsimp only
  rw[hb,kv (a:=ch)]
  unfold nv
  have hz:zP ((p0,p1,p2),(p3,p4,p5))=((p0==0&&(p1==0&&(p2==0&&true)))&&((p3==0&&(p4==0&&(p5==0&&true)))&&true)):=rfl
  have hzl:zL (q0,q1,q2,q3)=(q0==0&&((q1==0&&(q2==0&&(q3==0&&true)))&&true)):=rfl
  have hp:=fJ ((p0,p1,p2),(p3,p4,p5))
  have hq:=fY (q0,q1,q2,q3)
  have hc:decide (ch=0)=(decide (ch=0)&&(decide (0<=ch)&&decide (ch<=7))):=by
   by_cases h:ch=0
   ·subst h;rfl
   ·rw[aW h];rfl
  simp only[hz,hzl]
  generalize ((p0==0&&(p1==0&&(p2==0&&true)))&&((p3==0&&(p4==0&&(p5==0&&true)))&&true))=a1
  generalize (q0==0&&((q1==0&&(q2==0&&(q3==0&&true)))&&true))=a2
  cases l.all cm
  ·show _=some (true&&(decide (l.length=2)&&false))
   generalize (decide (0<=ch)&&decide (ch<=7))=a6
   generalize decide (ch=0)=a8
   generalize decide (l.length=2)=a7
   cases a1<;>cases a2<;>cases a6<;>cases a7<;>cases a8<;>rfl
  ·rw[cond_true]
   simp only[Option.bind_some,qi]
   rw[hp,hq]
   generalize pN ((p0,p1,p2),(p3,p4,p5))=a3
   generalize nR (q0,q1,q2,q3)=a4
   show _=some (true&&(decide (l.length=2)&&(true&&(decide (ch=0)&&_))))
   rw[hc]
   generalize (decide (0<=ch)&&decide (ch<=7))=a6
   generalize decide (ch=0)=a8
   generalize decide (l.length=2)=a7
   cases a1<;>cases a2<;>cases a3<;>cases a4<;>cases a6<;>cases a7<;>cases a8<;>rfl
set_option maxHeartbeats 1000000 in
theorem aff(nm:ByteArray)(l:List ByteArray)(ch p0 p1 p2 p3 p4 p5 q0 q1 q2 q3:Int)(hl:l.length<=1048576):
 bQ (nm,8,l,ch,((p0,p1,p2),(p3,p4,p5)),(q0,q1,q2,q3))=some (cm nm&&nv 8 (nm,8,l,ch,((p0,p1,p2),(p3,p4,p5)),(q0,q1,q2,q3))):=by
 rw[bQ,eJ,ml,Option.bind_some]
 cases cm nm
 ·rfl
 ·have e:cI 8 1 12=some true:=by rw[hZ];rfl
  have e2:dz 8=some 2:=by kernel_rfl
  have e3:cw 8=some true:=by kernel_rfl
  have hw:=ri 8 ch nm ((p0,p1,p2),(p3,p4,p5)) (q0,q1,q2,q3) l hl l [] rfl
  simp only[List.length_nil]at hw
  have hw':bP (cf 0 nm 8 l ch p0 p1 p2 p3 p4 p5 q0 q1 q2 q3)=_:=hw
  rw[Bool.not_true,cond_false,e,Option.bind_some,Bool.not_true,cond_false,e2,Option.bind_some,hZ,Option.bind_some,e3,Option.bind_some,hw']
  have hb:(((l.length:Nat):Int) !=2)= !decide (l.length=2):=C4 (m:=2)
  dsimp only
  rw[hb,kv (a:=ch)]
  unfold nv
  have hz:zP ((p0,p1,p2),(p3,p4,p5))=((p0==0&&(p1==0&&(p2==0&&true)))&&((p3==0&&(p4==0&&(p5==0&&true)))&&true)):=rfl
  have hzl:zL (q0,q1,q2,q3)=(q0==0&&((q1==0&&(q2==0&&(q3==0&&true)))&&true)):=rfl
  have hp:=fJ ((p0,p1,p2),(p3,p4,p5))
  have hq:=fY (q0,q1,q2,q3)
  have hc:decide (ch=0)=(decide (ch=0)&&(decide (0<=ch)&&decide (ch<=7))):=by
   by_cases h:ch=0
   ·subst h;rfl
   ·rw[aW h];rfl
  simp only[hz,hzl]
  generalize ((p0==0&&(p1==0&&(p2==0&&true)))&&((p3==0&&(p4==0&&(p5==0&&true)))&&true))=a1
  generalize (q0==0&&((q1==0&&(q2==0&&(q3==0&&true)))&&true))=a2
  cases l.all cm
  ·show _=some (true&&(decide (l.length=2)&&false))
   generalize (decide (0<=ch)&&decide (ch<=7))=a6
   generalize decide (ch=0)=a8
   generalize decide (l.length=2)=a7
   cases a1<;>cases a2<;>cases a6<;>cases a7<;>cases a8<;>rfl
  ·rw[cond_true]
   simp only[Option.bind_some,qi]
   rw[hp,hq]
   generalize pN ((p0,p1,p2),(p3,p4,p5))=a3
   generalize nR (q0,q1,q2,q3)=a4
   show _=some (true&&(decide (l.length=2)&&(true&&((decide (0<=ch)&&decide (ch<=7))&&_))))
   generalize (decide (0<=ch)&&decide (ch<=7))=a6
   generalize decide (ch=0)=a8
   generalize decide (l.length=2)=a7
   cases a1<;>cases a2<;>cases a3<;>cases a4<;>cases a6<;>cases a7<;>cases a8<;>rfl
set_option maxHeartbeats 1000000 in
theorem afg(nm:ByteArray)(l:List ByteArray)(ch p0 p1 p2 p3 p4 p5 q0 q1 q2 q3:Int)(hl:l.length<=1048576):
 bQ (nm,9,l,ch,((p0,p1,p2),(p3,p4,p5)),(q0,q1,q2,q3))=some (cm nm&&nv 9 (nm,9,l,ch,((p0,p1,p2),(p3,p4,p5)),(q0,q1,q2,q3))):=by
 rw[bQ,eJ,ml,Option.bind_some]
 cases cm nm
 ·rfl
 ·have e:cI 9 1 12=some true:=by rw[hZ];rfl
  have e2:dz 9=some 2:=by kernel_rfl
  have e3:cw 9=some false:=by kernel_rfl
  have hw:=ri 9 ch nm ((p0,p1,p2),(p3,p4,p5)) (q0,q1,q2,q3) l hl l [] rfl
  simp only[List.length_nil]at hw
  have hw':bP (cf 0 nm 9 l ch p0 p1 p2 p3 p4 p5 q0 q1 q2 q3)=_:=hw
  rw[Bool.not_true,cond_false,e,Option.bind_some,Bool.not_true,cond_false,e2,Option.bind_some,hZ,Option.bind_some,e3,Option.bind_some,hw']
  have hb:(((l.length:Nat):Int) !=2)= !decide (l.length=2):=C4 (m:=2)
  dsimp only
  rw[hb,kv (a:=ch)]
  unfold nv
  have hz:zP ((p0,p1,p2),(p3,p4,p5))=((p0==0&&(p1==0&&(p2==0&&true)))&&((p3==0&&(p4==0&&(p5==0&&true)))&&true)):=rfl
  have hzl:zL (q0,q1,q2,q3)=(q0==0&&((q1==0&&(q2==0&&(q3==0&&true)))&&true)):=rfl
  have hp:=fJ ((p0,p1,p2),(p3,p4,p5))
  have hq:=fY (q0,q1,q2,q3)
  have hc:decide (ch=0)=(decide (ch=0)&&(decide (0<=ch)&&decide (ch<=7))):=by
   by_cases h:ch=0
   ·subst h;rfl
   ·rw[aW h];rfl
  simp only[hz,hzl]
  generalize ((p0==0&&(p1==0&&(p2==0&&true)))&&((p3==0&&(p4==0&&(p5==0&&true)))&&true))=a1
  generalize (q0==0&&((q1==0&&(q2==0&&(q3==0&&true)))&&true))=a2
  cases l.all cm
  ·show _=some (true&&(decide (l.length=2)&&false))
   generalize (decide (0<=ch)&&decide (ch<=7))=a6
   generalize decide (ch=0)=a8
   generalize decide (l.length=2)=a7
   cases a1<;>cases a2<;>cases a6<;>cases a7<;>cases a8<;>rfl
  ·rw[cond_true]
   simp only[Option.bind_some,qi]
   rw[hp,hq]
   generalize pN ((p0,p1,p2),(p3,p4,p5))=a3
   generalize nR (q0,q1,q2,q3)=a4
   show _=some (true&&(decide (l.length=2)&&(true&&(decide (ch=0)&&_))))
   rw[hc]
   generalize (decide (0<=ch)&&decide (ch<=7))=a6
   generalize decide (ch=0)=a8
   generalize decide (l.length=2)=a7
   cases a1<;>cases a2<;>cases a3<;>cases a4<;>cases a6<;>cases a7<;>cases a8<;>rfl
set_option maxHeartbeats 1000000 in
theorem ad4(nm:ByteArray)(l:List ByteArray)(ch p0 p1 p2 p3 p4 p5 q0 q1 q2 q3:Int)(hl:l.length<=1048576):
 bQ (nm,10,l,ch,((p0,p1,p2),(p3,p4,p5)),(q0,q1,q2,q3))=some (cm nm&&nv 10 (nm,10,l,ch,((p0,p1,p2),(p3,p4,p5)),(q0,q1,q2,q3))):=by
 rw[bQ,eJ,ml,Option.bind_some]
 cases cm nm
 ·rfl
 ·have e:cI 10 1 12=some true:=by rw[hZ];rfl
  have e2:dz 10=some 3:=by kernel_rfl
  have e3:cw 10=some true:=by kernel_rfl
  have hw:=ri 10 ch nm ((p0,p1,p2),(p3,p4,p5)) (q0,q1,q2,q3) l hl l [] rfl
  simp only[List.length_nil]at hw
  have hw':bP (cf 0 nm 10 l ch p0 p1 p2 p3 p4 p5 q0 q1 q2 q3)=_:=hw
  rw[Bool.not_true,cond_false,e,Option.bind_some,Bool.not_true,cond_false,e2,Option.bind_some,hZ,Option.bind_some,e3,Option.bind_some,hw']
  have hb:(((l.length:Nat):Int) !=3)= !decide (l.length=3):=C4 (m:=3)
  dsimp only
  rw[hb,kv (a:=ch)]
  unfold nv
  have hz:zP ((p0,p1,p2),(p3,p4,p5))=((p0==0&&(p1==0&&(p2==0&&true)))&&((p3==0&&(p4==0&&(p5==0&&true)))&&true)):=rfl
  have hzl:zL (q0,q1,q2,q3)=(q0==0&&((q1==0&&(q2==0&&(q3==0&&true)))&&true)):=rfl
  have hp:=fJ ((p0,p1,p2),(p3,p4,p5))
  have hq:=fY (q0,q1,q2,q3)
  have hc:decide (ch=0)=(decide (ch=0)&&(decide (0<=ch)&&decide (ch<=7))):=by
   by_cases h:ch=0
   ·subst h;rfl
   ·rw[aW h];rfl
  simp only[hz,hzl]
  generalize ((p0==0&&(p1==0&&(p2==0&&true)))&&((p3==0&&(p4==0&&(p5==0&&true)))&&true))=a1
  generalize (q0==0&&((q1==0&&(q2==0&&(q3==0&&true)))&&true))=a2
  cases l.all cm
  ·show _=some (true&&(decide (l.length=3)&&false))
   generalize (decide (0<=ch)&&decide (ch<=7))=a6
   generalize decide (ch=0)=a8
   generalize decide (l.length=3)=a7
   cases a1<;>cases a2<;>cases a6<;>cases a7<;>cases a8<;>rfl
  ·rw[cond_true]
   simp only[Option.bind_some,qi]
   rw[hp,hq]
   generalize pN ((p0,p1,p2),(p3,p4,p5))=a3
   generalize nR (q0,q1,q2,q3)=a4
   show _=some (true&&(decide (l.length=3)&&(true&&((decide (0<=ch)&&decide (ch<=7))&&_))))
   generalize (decide (0<=ch)&&decide (ch<=7))=a6
   generalize decide (ch=0)=a8
   generalize decide (l.length=3)=a7
   cases a1<;>cases a2<;>cases a3<;>cases a4<;>cases a6<;>cases a7<;>cases a8<;>rfl
set_option maxHeartbeats 1000000 in
theorem ad5(nm:ByteArray)(l:List ByteArray)(ch p0 p1 p2 p3 p4 p5 q0 q1 q2 q3:Int)(hl:l.length<=1048576):
 bQ (nm,11,l,ch,((p0,p1,p2),(p3,p4,p5)),(q0,q1,q2,q3))=some (cm nm&&nv 11 (nm,11,l,ch,((p0,p1,p2),(p3,p4,p5)),(q0,q1,q2,q3))):=by
 rw[bQ,eJ,ml,Option.bind_some]
 cases cm nm
 ·rfl
 ·have e:cI 11 1 12=some true:=by rw[hZ];rfl
  have e2:dz 11=some 4:=by kernel_rfl
  have e3:cw 11=some true:=by kernel_rfl
  have hw:=ri 11 ch nm ((p0,p1,p2),(p3,p4,p5)) (q0,q1,q2,q3) l hl l [] rfl
  simp only[List.length_nil]at hw
  have hw':bP (cf 0 nm 11 l ch p0 p1 p2 p3 p4 p5 q0 q1 q2 q3)=_:=hw
  rw[Bool.not_true,cond_false,e,Option.bind_some,Bool.not_true,cond_false,e2,Option.bind_some,hZ,Option.bind_some,e3,Option.bind_some,hw']
  have hb:(((l.length:Nat):Int) !=4)= !decide (l.length=4):=C4 (m:=4)
  dsimp only
  rw[hb,kv (a:=ch)]
  unfold nv
  have hz:zP ((p0,p1,p2),(p3,p4,p5))=((p0==0&&(p1==0&&(p2==0&&true)))&&((p3==0&&(p4==0&&(p5==0&&true)))&&true)):=rfl
  have hzl:zL (q0,q1,q2,q3)=(q0==0&&((q1==0&&(q2==0&&(q3==0&&true)))&&true)):=rfl
  have hp:=fJ ((p0,p1,p2),(p3,p4,p5))
  have hq:=fY (q0,q1,q2,q3)
  have hc:decide (ch=0)=(decide (ch=0)&&(decide (0<=ch)&&decide (ch<=7))):=by
   by_cases h:ch=0
   ·subst h;rfl
   ·rw[aW h];rfl
  simp only[hz,hzl]
  generalize ((p0==0&&(p1==0&&(p2==0&&true)))&&((p3==0&&(p4==0&&(p5==0&&true)))&&true))=a1
  generalize (q0==0&&((q1==0&&(q2==0&&(q3==0&&true)))&&true))=a2
  cases l.all cm
  ·show _=some (true&&(decide (l.length=4)&&false))
   generalize (decide (0<=ch)&&decide (ch<=7))=a6
   generalize decide (ch=0)=a8
   generalize decide (l.length=4)=a7
   cases a1<;>cases a2<;>cases a6<;>cases a7<;>cases a8<;>rfl
  ·rw[cond_true]
   simp only[Option.bind_some,qi]
   rw[hp,hq]
   generalize pN ((p0,p1,p2),(p3,p4,p5))=a3
   generalize nR (q0,q1,q2,q3)=a4
   show _=some (true&&(decide (l.length=4)&&(true&&((decide (0<=ch)&&decide (ch<=7))&&_))))
   generalize (decide (0<=ch)&&decide (ch<=7))=a6
   generalize decide (ch=0)=a8
   generalize decide (l.length=4)=a7
   cases a1<;>cases a2<;>cases a3<;>cases a4<;>cases a6<;>cases a7<;>cases a8<;>rfl
set_option maxHeartbeats 1000000 in
theorem ad6(nm:ByteArray)(l:List ByteArray)(ch p0 p1 p2 p3 p4 p5 q0 q1 q2 q3:Int)(hl:l.length<=1048576):
 bQ (nm,12,l,ch,((p0,p1,p2),(p3,p4,p5)),(q0,q1,q2,q3))=some (cm nm&&nv 12 (nm,12,l,ch,((p0,p1,p2),(p3,p4,p5)),(q0,q1,q2,q3))):=by
 rw[bQ,eJ,ml,Option.bind_some]
 cases cm nm
 ·rfl
 ·have e:cI 12 1 12=some true:=by rw[hZ];rfl
  have e2:dz 12=some 3:=by kernel_rfl
  have e3:cw 12=some false:=by kernel_rfl
  have hw:=ri 12 ch nm ((p0,p1,p2),(p3,p4,p5)) (q0,q1,q2,q3) l hl l [] rfl
  simp only[List.length_nil]at hw
  have hw':bP (cf 0 nm 12 l ch p0 p1 p2 p3 p4 p5 q0 q1 q2 q3)=_:=hw
  rw[Bool.not_true,cond_false,e,Option.bind_some,Bool.not_true,cond_false,e2,Option.bind_some,hZ,Option.bind_some,e3,Option.bind_some,hw']
  have hb:(((l.length:Nat):Int) !=3)= !decide (l.length=3):=C4 (m:=3)
  dsimp only
  rw[hb,kv (a:=ch)]
  unfold nv
  have hz:zP ((p0,p1,p2),(p3,p4,p5))=((p0==0&&(p1==0&&(p2==0&&true)))&&((p3==0&&(p4==0&&(p5==0&&true)))&&true)):=rfl
  have hzl:zL (q0,q1,q2,q3)=(q0==0&&((q1==0&&(q2==0&&(q3==0&&true)))&&true)):=rfl
  have hp:=fJ ((p0,p1,p2),(p3,p4,p5))
  have hq:=fY (q0,q1,q2,q3)
  have hc:decide (ch=0)=(decide (ch=0)&&(decide (0<=ch)&&decide (ch<=7))):=by
   by_cases h:ch=0
   ·subst h;rfl
   ·rw[aW h];rfl
  simp only[hz,hzl]
  generalize ((p0==0&&(p1==0&&(p2==0&&true)))&&((p3==0&&(p4==0&&(p5==0&&true)))&&true))=a1
  generalize (q0==0&&((q1==0&&(q2==0&&(q3==0&&true)))&&true))=a2
  cases l.all cm
  ·show _=some (true&&(decide (l.length=3)&&false))
   generalize (decide (0<=ch)&&decide (ch<=7))=a6
   generalize decide (ch=0)=a8
   generalize decide (l.length=3)=a7
   cases a1<;>cases a2<;>cases a6<;>cases a7<;>cases a8<;>rfl
  ·rw[cond_true]
   simp only[Option.bind_some,qi]
   rw[hp,hq]
   generalize pN ((p0,p1,p2),(p3,p4,p5))=a3
   generalize nR (q0,q1,q2,q3)=a4
   show _=some (true&&(decide (l.length=3)&&(true&&(decide (ch=0)&&_))))
   rw[hc]
   generalize (decide (0<=ch)&&decide (ch<=7))=a6
   generalize decide (ch=0)=a8
   generalize decide (l.length=3)=a7
   cases a1<;>cases a2<;>cases a3<;>cases a4<;>cases a6<;>cases a7<;>cases a8<;>rfl
theorem WC{k:Int}(h:¬(1<=k/\k<=12)):(decide (1<=k)&&decide (k<=12))=false:=by
 by_cases h1:1<=k
 ·rw[aR h1,aW (fun h2=>h ⟨h1,h2⟩)];rfl
 ·rw[aW h1];rfl
theorem Zj(c:Cn)(hl:c.2.2.1.length<=1048576):bQ c=some (Li c):=by
 obtain⟨nm,k,l,ch,⟨⟨p0,p1,p2⟩,⟨p3,p4,p5⟩⟩,⟨q0,q1,q2,q3⟩⟩:=c
 by_cases h:1<=k/\k<=12
 ·rcases Is h.1 h.2 with rfl|rfl|rfl|rfl|rfl|rfl|rfl|rfl|rfl|rfl|rfl|rfl
  ·exact ae8 nm l ch p0 p1 p2 p3 p4 p5 q0 q1 q2 q3 hl
  ·exact ae9 nm l ch p0 p1 p2 p3 p4 p5 q0 q1 q2 q3 hl
  ·exact afa nm l ch p0 p1 p2 p3 p4 p5 q0 q1 q2 q3 hl
  ·exact afb nm l ch p0 p1 p2 p3 p4 p5 q0 q1 q2 q3 hl
  ·exact afc nm l ch p0 p1 p2 p3 p4 p5 q0 q1 q2 q3 hl
  ·exact afd nm l ch p0 p1 p2 p3 p4 p5 q0 q1 q2 q3 hl
  ·exact afe nm l ch p0 p1 p2 p3 p4 p5 q0 q1 q2 q3 hl
  ·exact aff nm l ch p0 p1 p2 p3 p4 p5 q0 q1 q2 q3 hl
  ·exact afg nm l ch p0 p1 p2 p3 p4 p5 q0 q1 q2 q3 hl
  ·exact ad4 nm l ch p0 p1 p2 p3 p4 p5 q0 q1 q2 q3 hl
  ·exact ad5 nm l ch p0 p1 p2 p3 p4 p5 q0 q1 q2 q3 hl
  ·exact ad6 nm l ch p0 p1 p2 p3 p4 p5 q0 q1 q2 q3 hl
 ·rw[bQ,eJ,ml,Option.bind_some,hZ,Option.bind_some]
  unfold Li
  dsimp only
  rw[WC h]
  cases cm nm<;>rfl
theorem YQ(c:Cn)(hm:c.1.size<=9223372036854775807)(hl:c.2.2.1.length<=1048576)(hn:∀x∈c.2.2.1,x.size<=9223372036854775807):am c=some (Li c):=by
 obtain⟨nm,k,l,ch,⟨⟨p0,p1,p2⟩,⟨p3,p4,p5⟩⟩,⟨q0,q1,q2,q3⟩⟩:=c
 by_cases h:1<=k/\k<=12
 ·rcases Is h.1 h.2 with rfl|rfl|rfl|rfl|rfl|rfl|rfl|rfl|rfl|rfl|rfl|rfl
  ·exact aeI nm l ch p0 p1 p2 p3 p4 p5 q0 q1 q2 q3 hm hl hn
  ·exact aeJ nm l ch p0 p1 p2 p3 p4 p5 q0 q1 q2 q3 hm hl hn
  ·exact aeK nm l ch p0 p1 p2 p3 p4 p5 q0 q1 q2 q3 hm hl hn
  ·exact aeL nm l ch p0 p1 p2 p3 p4 p5 q0 q1 q2 q3 hm hl hn
  ·exact aeM nm l ch p0 p1 p2 p3 p4 p5 q0 q1 q2 q3 hm hl hn
  ·exact aeN nm l ch p0 p1 p2 p3 p4 p5 q0 q1 q2 q3 hm hl hn
  ·exact aeO nm l ch p0 p1 p2 p3 p4 p5 q0 q1 q2 q3 hm hl hn
  ·exact aeP nm l ch p0 p1 p2 p3 p4 p5 q0 q1 q2 q3 hm hl hn
  ·exact aeQ nm l ch p0 p1 p2 p3 p4 p5 q0 q1 q2 q3 hm hl hn
  ·exact adC nm l ch p0 p1 p2 p3 p4 p5 q0 q1 q2 q3 hm hl hn
  ·exact adD nm l ch p0 p1 p2 p3 p4 p5 q0 q1 q2 q3 hm hl hn
  ·exact adE nm l ch p0 p1 p2 p3 p4 p5 q0 q1 q2 q3 hm hl hn
 ·rw[am,be,mf nm hm,Option.bind_some,pK,Option.bind_some]
  unfold Li
  dsimp only
  rw[WC h]
  cases cm nm<;>rfl
theorem VW:∀(n:Nat) (x:Int) (o:ByteArray),x.toNat=n->0<=x->(o.size:Int)+x<=1000000000000->∃t:ByteArray,nr (uj x o)=some (.inl (Cs t))/\(t.size:Int)<=1000000000000:=by
 intro n
 induction n using Nat.strongRecOn with
 |_ n ih=>
  intro x o hn h0 hs
  rw[Oc,nn]
  by_cases hx:x>0
  ·have hd:Int.tdiv x 10=x/10:=Int.tdiv_eq_ediv_of_nonneg h0
   rw[aR hx,cond_true,aW ?_,cond_false,hd,aM (n:=x/10) (by omega) (by omega)]
   ·refine ih (x/10).toNat (by omega) _ _ rfl (by omega) ?_
    rw[ByteArray.size_append]
    show(((1+o.size:Nat):Int))+x/10<=_
    omega
   ·show¬(((1+o.size:Nat):Int)>9223372036854775807)
    omega
  ·rw[aW hx,cond_false]
   exact⟨o,rfl,by omega⟩
theorem VX{k:Int}(h0:1<=k)(h1:k<=100000000):∃t,iu k=some t:=by
 obtain⟨t,ht,hs⟩:=VW _ k ⟨#[]⟩ rfl (by omega) (by show((0:Nat):Int)+k<=_;omega)
 rw[iu,ti,aW (by omega),cond_false,ht]
 simp only[Option.bind_some,qi]
 rw[aW ?_,cond_false]
 ·exact⟨_,rfl⟩
 ·show¬(((1+t.size:Nat):Int)>9223372036854775807)
  omega
noncomputable def mtx(k:Int):ByteArray:=(iu k).getD ⟨#[]⟩
theorem FJ{k:Int}(h0:1<=k)(h1:k<=100000000):iu k=some (mtx k):=by
 obtain⟨t,ht⟩:=VX h0 h1
 unfold mtx
 rw[ht];rfl
theorem Ov(a:List It)(hl:a.length<=1048576):∀(r p:List It),a=p++r->mw (rq a a ((p.length:Nat):Int))=some (.inr (.inl DG))
 |[],p,h=>by
  rw[Gb,mp,qJ h,cond_false];rfl
 |x::r,p,h=>by
  rw[Gb,mp,uM h,cond_true,ix h,Option.bind_some,Option.bind_some,YE,Option.bind_some,Bool.not_true,cond_false,wr h (by omega)]
  exact Ov a hl r (p++ [x]) (Ya h)
theorem Xo(a:List It)(hl:a.length<=1048576):uG a a=some true:=by
 have h':mw (rq a a 0)=_:=Ov a hl a [] rfl
 rw[uG,uY,h']
 simp[qi]
noncomputable def mkI(k:Int):It:=
 (mtx k,((Int.tmod (k+1) 3==0),(((k+1+1,(k+1+1+1,k+1+1+1+1)),(k+1+1+1+1+1,(k+1+1+1+1+1+1,k+1+1+1+1+1+1+1))),
   (k+1+1+1+1+1+1+1+1,(k+1+1+1+1+1+1+1+1+1,(k+1+1+1+1+1+1+1+1+1+1,k+1+1+1+1+1+1+1+1+1+1+1))))))
noncomputable def Kr:Int->Nat->List It
 |_,0=>[]
 |k,n+1=>mkI k::Kr (k+1+1+1+1+1+1+1+1+1+1+1+1) n
theorem Rs{k:Int}(h0:0<=k)(h1:k<=100000000):IntKind.wrap .i64 (k+1)=k+1:=aM (by omega) (by omega)
theorem UH:∀(s q:List It) (k:Int),q.length+s.length<=1048576->1<=k->k+12*s.length<=90000000->
 jY (pg (q++s) k ((q.length:Nat):Int) (q++s))=some (.inl (Bp (k+12*s.length) (q++Kr k s.length)))
 |[],q,k,h1,h2,h3=>by
  rw[CX,jS,qJ rfl,cond_false]
  simp[Kr];rfl
 |y::s,q,k,h1,h2,h3=>by
  simp only[List.length_cons]at h1 h3
  rw[CX,jS,uM rfl,cond_true,FJ h2 (by omega),Option.bind_some]
  simp only[im,sm,Option.bind_some]
  rw[Rs (k:=k) (by omega) (by omega),Rs (k:=k+1) (by omega) (by omega),Rs (k:=k+1+1) (by omega) (by omega),Rs (k:=k+1+1+1) (by omega) (by omega),Rs (k:=k+1+1+1+1) (by omega) (by omega),
   Rs (k:=k+1+1+1+1+1) (by omega) (by omega),Rs (k:=k+1+1+1+1+1+1) (by omega) (by omega),Rs (k:=k+1+1+1+1+1+1+1) (by omega) (by omega),Rs (k:=k+1+1+1+1+1+1+1+1) (by omega) (by omega),
   Rs (k:=k+1+1+1+1+1+1+1+1+1) (by omega) (by omega),Rs (k:=k+1+1+1+1+1+1+1+1+1+1) (by omega) (by omega),Rs (k:=k+1+1+1+1+1+1+1+1+1+1+1) (by omega) (by omega)]
  rw[Rs (k:=((q.length:Nat):Int)) (by omega) (by omega)]
  have IH:=UH s (q++ [mkI k]) (k+1+1+1+1+1+1+1+1+1+1+1+1) (by simp;omega) (by omega) (by omega)
  have hq:(((q++ [mkI k]).length:Nat):Int)=(q.length:Int)+1:=by simp
  rw[hq,List.append_assoc,List.append_assoc]at IH
  refine Eq.trans (Eq.trans ?_ IH) ?_
  ·rfl
  ·rw[show k+1+1+1+1+1+1+1+1+1+1+1+1+12*(s.length:Int)=k+12*(((y::s).length:Nat):Int) by simp;omega]
   rfl
theorem Ks:∀(n:Nat) (k:Int),(Kr k n).length=n
 |0,_=>rfl
 |n+1,k=>by simp[Kr,Ks n]
theorem Uj(l:List It)(hl:l.length<=1048576):∀(n:Nat) (p:List It) (k:Int),l=p++Kr k n->1<=k->k+12*n<=90000000->
 jX (pf l k ((p.length:Nat):Int))=some (.inr (.inl (Bo (k+12*n))))
 |0,p,k,h,h1,h2=>by
  rw[CW,jR,qJ h,cond_false]
  simp;rfl
 |n+1,p,k,h,h1,h2=>by
  rw[Kr]at h
  rw[CW,jR,uM h,cond_true]
  simp only[ix h,Option.bind_some]
  rw[FJ h1 (by omega),Option.bind_some]
  rw[Rs (k:=k) (by omega) (by omega),Rs (k:=k+1) (by omega) (by omega),Rs (k:=k+1+1) (by omega) (by omega),Rs (k:=k+1+1+1) (by omega) (by omega),Rs (k:=k+1+1+1+1) (by omega) (by omega),
   Rs (k:=k+1+1+1+1+1) (by omega) (by omega),Rs (k:=k+1+1+1+1+1+1) (by omega) (by omega),Rs (k:=k+1+1+1+1+1+1+1) (by omega) (by omega),Rs (k:=k+1+1+1+1+1+1+1+1) (by omega) (by omega),
   Rs (k:=k+1+1+1+1+1+1+1+1+1) (by omega) (by omega),Rs (k:=k+1+1+1+1+1+1+1+1+1+1) (by omega) (by omega),Rs (k:=k+1+1+1+1+1+1+1+1+1+1+1) (by omega) (by omega)]
  simp only[mkI,beq_self_eq_true,Bool.not_true,cond_false,bne_self_eq_false]
  rw[wr h (by omega)]
  refine(Uj l hl n (p++ [mkI k]) _ (Ya h) (by omega) (by omega)).trans ?_
  rw[show k+1+1+1+1+1+1+1+1+1+1+1+1+12*(n:Int)=k+12*((n+1:Nat):Int) by omega]
theorem acK(l:List It)(hl:l.length<=1048576):rk l 1=some (1+12*(l.length:Int),Kr 1 l.length):=by
 have h':jY (pg l 1 0 l)=_:=UH l [] 1 (by simpa using hl) (by omega) (by omega)
 rw[rk,rV,h'];rfl
theorem acv(n:Nat)(hn:n<=1048576):rj (Kr 1 n) 1=some (1+12*(n:Int)):=by
 have h':jX (pf (Kr 1 n) 1 0)=_:=Uj (Kr 1 n) (by rw[Ks];exact hn) n [] 1 rfl (by omega) (by omega)
 rw[rj,rU,h'];rfl
end Go.Proofs.YtjkljnflaifbhaaGreatDoor
