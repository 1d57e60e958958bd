/- No conditions. -/
import Derived.Test.YtjkljnflaifbhaaGreatDoorZ6
namespace Go.Proofs.YtjkljnflaifbhaaGreatDoor
open Go.Vai
def JM(l:List It)(k:Int)(xs:List ByteArray):List It×Int:=match sX l xs []with
 |none=>([],3)
 |some x=>cond ((List.range x.length).all (YE k.toNat x)) (x,0) ([],6)
theorem LU(l:List It)(hl:l.length<=1048576)(nm:ByteArray)(k:Int)(xs:List ByteArray)(ch:Int)(p:Pt)(q:Ln)(ha:xs.length<=1048576)(h1:1<=k)(h2:k<=12)(hx:xs.length=Pr k.toNat):
 nq l (nm,(k,(xs,(ch,(p,q)))))=some (JM l k xs):=by
 rw[nq,qv]
 unfold JM
 rcases Tu l hl k ch nm p q xs ha xs [] [] rfl rfl with⟨out,e1,e2⟩|⟨e1,acc,e2⟩
 ·have e2':fH (ji l [] xs ((xs.length:Nat):Int) 0 nm k xs ch p.1.1 p.1.2.1 p.1.2.2 p.2.1 p.2.2.1 p.2.2.2 q.1 q.2.1 q.2.2.1 q.2.2.2)=_:=e2
  have hlen:out.length=Pr k.toNat:=by
   have:=vM l xs [] out e1
   simp only[List.length_nil,Nat.zero_add]at this
   rw[this,hx]
  have e3:=WU k ch nm p q xs out h1 h2 hlen
  rw[e1]
  simp only[e2',Option.bind_some,pD,e3]
  cases(List.range out.length).all (YE k.toNat out)<;>rfl
 ·have e2':fH (ji l [] xs ((xs.length:Nat):Int) 0 nm k xs ch p.1.1 p.1.2.1 p.1.2.2 p.2.1 p.2.2.1 p.2.2.2 q.1 q.2.1 q.2.2.1 q.2.2.2)=_:=e2
  rw[e1]
  simp only[e2',Option.bind_some,pD]
theorem X2(l:List It)(k:Int)(xs:List ByteArray)(h:(JM l k xs).2=0):(JM l k xs).1.length=xs.length:=by
 unfold JM at h⊢
 cases hf:sX l xs []with
 |none=>rw[hf]at h;exact absurd (show(3:Int)=0 from h) (by decide)
 |some x=>
  rw[hf]at h
  simp only at h⊢
  have:=vM l xs [] x hf
  simp only[List.length_nil,Nat.zero_add]at this
  cases hc:(List.range x.length).all (YE k.toNat x)
  ·rw[hc]at h;exact absurd (show(6:Int)=0 from h) (by decide)
  ·exact this
def QA(l:List It)(nm:ByteArray)(s:Option (It×Int)):Option (List It×Int):=Option.bind s fun y=>
 cond (y.2 !=0) (some ([],y.2)) (some (l++ [(nm,y.1.2)],0))
theorem W9(l:List It)(hl:l.length<=1048576)(nm:ByteArray)(k:Int)(xs:List ByteArray)(ch:Int)(p:Pt)(q:Ln)(ha:xs.length<=1048576)(h1:1<=k)(h2:k<=12)(hx:xs.length=Pr k.toNat)(hf:l.findIdx? (fun y=>xu y.1 nm)=none)(h40:l.length<40):
 pf l (nm,(k,(xs,(ch,(p,q)))))=cond ((JM l k xs).2 !=0) (some ([],(JM l k xs).2)) (QA l nm (cL (nm,(k,(xs,(ch,(p,q))))) (JM l k xs).1)):=by
 rw[pf,rm,BG l nm (by omega),hf]
 simp only[Option.bind_some]
 rw[aW (show¬((-1:Int)>=0) by decide),cond_false,aW (show¬(((l.length:Nat):Int)>=40) by omega),cond_false]
 unfold JM
 rcases T3 l hl k ch nm p q xs ha xs [] [] rfl rfl with⟨out,e1,e2⟩|⟨e1,acc,e2⟩
 ·have e2':kk (nV l [] 0 nm k xs ch p.1.1 p.1.2.1 p.1.2.2 p.2.1 p.2.2.1 p.2.2.2 q.1 q.2.1 q.2.2.1 q.2.2.2)=_:=e2
  have hlen:out.length=Pr k.toNat:=by
   have:=vM l xs [] out e1
   simp only[List.length_nil,Nat.zero_add]at this
   rw[this,hx]
  have e3:=Xb l k ch nm p q xs out h1 h2 hlen
  rw[e1]
  simp only[e2',Option.bind_some,pD,e3]
  cases(List.range out.length).all (YE k.toNat out)
  ·rfl
  ·simp only[cond_true,bne_self_eq_false,cond_false,QA]
   cases cL (nm,(k,(xs,(ch,(p,q))))) out with
   |none=>rfl
   |some y=>
    simp only[Option.bind_some,List.length_singleton]
    cases y.2 !=0
    ·rw[cond_false,cond_false,aT (by omega),aT (by omega),aT (by omega),aT (by omega)];rfl
    ·rfl
 ·have e2':kk (nV l [] 0 nm k xs ch p.1.1 p.1.2.1 p.1.2.2 p.2.1 p.2.2.1 p.2.2.2 q.1 q.2.1 q.2.2.1 q.2.2.2)=_:=e2
  rw[e1]
  simp only[e2',Option.bind_some,pD]
  rfl
theorem acI(l:List It)(c:Cn)(hl:l.length<=1048576)(hn:∀x∈l,x.1.size<=9223372036854775807)(hm:c.1.size<=9223372036854775807)(ha:c.2.2.1.length<=1048576)(hs:∀x∈c.2.2.1,x.size<=9223372036854775807):
 ∃r,kq l c=some r/\iy l c=some r/\r.1.length<=1000:=by
 rw[kq,nc,iy,mY,Xa l hl,WT l hl hn,Option.bind_some,Option.bind_some]
 cases hi:Nx l
 ·exact⟨_,rfl,rfl,Nat.zero_le _⟩
 rw[Bool.not_true,cond_false,cond_false,ZO c ha,Zd c hm ha hs,Option.bind_some,Option.bind_some]
 cases hv:OB c
 ·exact⟨_,rfl,rfl,Nat.zero_le _⟩
 rw[Bool.not_true,cond_false,cond_false]
 obtain⟨nm,k,xs,ch,p,q⟩:=c
 simp only[OB,mS,Bool.and_eq_true,decide_eq_true_eq]at hv
 obtain⟨hv1,⟨hk1,hk2⟩,hx,hv2,hch,hv3⟩:=hv
 have h0:0<=ch:=by
  cases hb:chB k.toNat
  ·rw[hb]at hch;simp only[cond_false,decide_eq_true_eq]at hch;omega
  ·rw[hb]at hch;simp only[cond_true,Bool.and_eq_true,decide_eq_true_eq]at hch;omega
 simp only[Nx,Bool.and_eq_true,decide_eq_true_eq]at hi
 have h40:l.length<=40:=by omega
 simp only at ha hx
 have ef:=find_ok l nm (by omega)
 cases hf:l.findIdx? (fun y=>xu y.1 nm)with
 |some j=>
  rw[hf]at ef
  refine⟨([],4), ?_, ?_,Nat.zero_le _⟩
  ·rw[pf,rm,BG l nm (by omega),hf]
   simp only[Option.bind_some]
   rw[aT (show((j:Int)>=0) by omega)];rfl
  ·rw[ef]
   simp only[Option.bind_some]
   rw[aT (show((j:Int)>=0) by omega)];rfl
 |none=>
  rw[hf]at ef
  rw[ef]
  simp only[Option.bind_some]
  rw[aW (show¬((-1:Int)>=0) by decide),cond_false]
  by_cases he:l.length=40
  ·refine⟨([],5), ?_, ?_,Nat.zero_le _⟩
   ·rw[pf,rm,BG l nm (by omega),hf]
    simp only[Option.bind_some]
    rw[aW (show¬((-1:Int)>=0) by decide),cond_false,aT (show((l.length:Nat):Int)>=40 by omega)];rfl
   ·rw[beq_iff_eq.2 (show((l.length:Nat):Int)=40 by omega)];rfl
  ·rw[W9 l hl nm k xs ch p q ha hk1 hk2 hx hf (by omega),LU l hl nm k xs ch p q ha hk1 hk2 hx,beq_eq_false_iff_ne.2 (show((l.length:Nat):Int)≠40 by omega),cond_false]
   simp only[Option.bind_some]
   have hlen:=X2 l k xs
   generalize JM l k xs=R at hlen⊢
   by_cases hR:R.2=0
   ·have hb:(R.2 !=0)=false:=by simp[hR]
    rw[hb,cond_false,cond_false]
    obtain⟨y,code,m1,m2⟩:=aaw (nm,(k,(xs,(ch,(p,q))))) R.1 hk1 hk2 ((hlen hR).trans hx) h0
    rw[m1,m2]
    simp only[QA,Option.bind_some]
    cases hc:code !=0
    ·simp only[cond_false]
     have ec:cU l=some l:=by rw[cU,aT (by omega)];rfl
     refine⟨(l++ [(nm,y.2)],0),rfl, ?_,by simp;omega⟩
     rw[ec]
     simp only[bne_self_eq_false,cond_false,Option.bind_some,List.length_singleton]
     rw[aT (by omega),aT (by omega)];rfl
    ·simp only[cond_true,hc]
     exact⟨_,rfl,rfl,Nat.zero_le _⟩
   ·have hb:(R.2 !=0)=true:=by simp[hR]
    rw[hb]
    exact⟨_,rfl,rfl,Nat.zero_le _⟩
noncomputable def Zv:Int->Nat->List ByteArray
 |_,0=>[]
 |k,n+1=>mtx k::Zv (k+1) n
theorem RE:∀(s q:List ByteArray) (k:Int),q.length+s.length<=1048576->1<=k->k+s.length<=90000000->
 gM (lO (q++s) k ((q.length:Nat):Int) (q++s))=some (.inl (wV (k+s.length) (q++Zv k s.length)))
 |[],q,k,h1,h2,h3=>by
  rw[yh,gL,sk rfl,cond_false]
  simp[Zv];rfl
 |y::s,q,k,h1,h2,h3=>by
  simp only[List.length_cons]at h1 h3
  rw[yh,gL,yd rfl,cond_true,H7 h2 (by omega),Option.bind_some]
  simp only[im,sm,Option.bind_some]
  rw[OC (k:=k) (by omega) (by omega),OC (k:=((q.length:Nat):Int)) (by omega) (by omega)]
  have IH:=RE s (q++ [mtx k]) (k+1) (by simp;omega) (by omega) (by omega)
  have hq:(((q++ [mtx k]).length:Nat):Int)=(q.length:Int)+1:=by simp
  rw[hq,List.append_assoc,List.append_assoc]at IH
  refine Eq.trans (Eq.trans ?_ IH) ?_
  ·rfl
  ·rw[show k+1+(s.length:Int)=k+(((y::s).length:Nat):Int) by simp;omega]
   rfl
theorem Zt(l:List ByteArray)(hl:l.length<=1048576)(k:Int)(h0:1<=k)(h1:k<=80000000):li l k=some (k+(l.length:Int),Zv k l.length):=by
 have h':gM (lO l k 0 l)=_:=RE l [] k (by simpa using hl) h0 (by omega)
 rw[li,ol,h'];rfl
theorem Zs(c:Cn)(hl:c.2.2.1.length<=1048576)(k:Int)(h0:1<=k)(h1:k<=80000000):
 gx c.1 c.2.1 c.2.2.1 c.2.2.2.1 c.2.2.2.2.1.1.1 c.2.2.2.2.1.1.2.1 c.2.2.2.2.1.1.2.2 c.2.2.2.2.1.2.1 c.2.2.2.2.1.2.2.1 c.2.2.2.2.1.2.2.2 c.2.2.2.2.2.1 c.2.2.2.2.2.2.1 c.2.2.2.2.2.2.2.1 c.2.2.2.2.2.2.2.2 k=some (k+(c.2.2.1.length:Int),Zv k c.2.2.1.length):=by
 rw[gx,jE,aT rfl,Zt _ hl k h0 h1];rfl
theorem aaN(l:List It)(c:Cn)(hl:l.length<=9223372036854775807)(hn:∀x∈l,x.1.size<=9223372036854775807)(h1:c.1.size<=9223372036854775807)(h2:c.2.2.1.length<=9223372036854775807)(h3:∀x∈c.2.2.1,x.size<=9223372036854775807):
 ∃y,nN l 1048576=some y/\(y<0\/(l.length<=1048576/\∃z,gk c y=some z/\(z<0\/c.2.2.1.length<=1048576))):=by
 obtain⟨y,ey,hy⟩:=acs l hl hn
 refine⟨y,ey,hy.imp id fun⟨a,b,c'⟩=>⟨a, ?_⟩⟩
 exact abR c h1 h2 h3 y b c'
theorem NA(l:List It)(c:Cn)(hl:l.length<=9223372036854775807)(hn:∀x∈l,x.1.size<=9223372036854775807)(h1:c.1.size<=9223372036854775807)(h2:c.2.2.1.length<=9223372036854775807)(h3:∀x∈c.2.2.1,x.size<=9223372036854775807):
 gE l c=some true:=by
 rw[gE,gJ]
 obtain⟨y,ey,hy⟩:=aaN l c hl hn h1 h2 h3
 rw[ey,Option.bind_some]
 by_cases hy0:y<0
 ·rw[aT hy0];rfl
 rw[aW hy0,cond_false]
 obtain⟨hl',z,ez,hz⟩:=hy.resolve_left hy0
 rw[ez,Option.bind_some]
 by_cases hz0:z<0
 ·rw[aT hz0];rfl
 rw[aW hz0,cond_false]
 have ha:=hz.resolve_left hz0
 obtain⟨r,r1,r2,r3⟩:=acI l c hl' hn h1 ha h3
 have rl:r.1.length<=1048576:=by omega
 simp only[PA l hl',ZS c ha,r1,r2,LD l hl',LD r.1 rl,WK c ha,Option.bind_some,Bool.not_true,cond_false,bne_self_eq_false,decide_true,cond_true,VP l hl',VP r.1 rl,Zc r.1.length rl]
 rw[Zs c ha _ (by omega) (by omega),Option.bind_some,aW (by simp only;omega),cond_false,aW (by omega),cond_false]
 rfl
end Go.Proofs.YtjkljnflaifbhaaGreatDoor
