/- No conditions. -/
import Derived.Test.YtjkljnflaifbhaaDoorL2d
import Derived.Test.YtjkljnflaifbhaaDoorL5
namespace Go.Proofs.YtjkljnflaifbhaaDoor
open Go Go.Vai
def uF(f l m:Ln):Bool:=fg f&&(fg l&&(fg m&&decide (kA (dT f (iz l)) ((2*f.1-l.1)%8)=m)))
theorem xf(f l m:Ln):cR f l m=some (uF f l m):=by
 rw[cR,ki,eW,eW,eW]
 unfold uF
 simp only[Option.bind_some]
 cases hf:fg f
 ·rfl
 cases hl:fg l
 ·rfl
 cases hm:fg m
 ·rfl
 obtain⟨f0,f1,fb,_⟩:=cV hf
 obtain⟨l0,l1,lb,_⟩:=cV hl
 have fb:=fb.mono (V':=786432) (κ':=10) (by decide) (by decide)
 simp only[Bool.not_true,cond_false,Bool.true_and]
 have hfb:=FO l0 l1 lb
 have hrb:=uo f0 f1 fb (by decide) (by decide) hfb
 rw[(IT l0 l1 lb).2,Option.bind_some,(pG f0 f1 fb (by decide) (by decide) (by decide) hfb (by decide)).2,Option.bind_some,QM,aG (n:=2*f.1) (by omega) (by omega),aG (n:=2*f.1-l.1) (by omega) (by omega),
  pS (by omega) (by omega) (by decide) (by decide) hrb (by decide),Option.bind_some]
 congr 1
 generalize kA (dT f (iz l)) ((2*f.1-l.1)%8)=x
 obtain⟨a,b,c,d⟩:=x
 obtain⟨a',b',c',d'⟩:=m
 simp only[Bool.and_true]
 rw[Bool.eq_iff_iff]
 simp
def oQ(f:Ln)(p:Pt)(l:Ln):Bool:=fg f&&(jk p&&(fg l&&decide ((pE l (dT f p)).1=0/\(pE l (dT f p)).2.1=0)))
theorem tg(f:Ln)(p:Pt)(l:Ln):bG f p l=some (oQ f p l):=by
 rw[bG,jz,eW,eW,jx]
 unfold oQ
 simp only[Option.bind_some]
 cases hf:fg f
 ·rfl
 cases hp:jk p
 ·rfl
 cases hl:fg l
 ·rfl
 obtain⟨f0,f1,fb,_⟩:=cV hf
 obtain⟨l0,l1,lb,_⟩:=cV hl
 have fb:=fb.mono (V':=786432) (κ':=10) (by decide) (by decide)
 have hpb:=ek hp
 simp only[cond_true,Bool.true_and]
 have hrb:=uo f0 f1 fb (by decide) (by decide) hpb
 rw[(pG f0 f1 fb (by decide) (by decide) (by decide) hpb (by decide)).2,Option.bind_some,(Jw l0 l1 lb (by decide) (by decide) (by decide) hrb (by decide)).2]
 obtain⟨s,h1,h2⟩:=vI (pE l (dT f p))
 rw[h1,Option.bind_some]
 congr 1
 rw[show(s==0)=decide (s=0)from rfl]
 generalize pE l (dT f p)=X at*
 by_cases h:s=0
 ·rw[bM h,bM (h2.1 h)]
 ·rw[bX h,bX (fun e=>h (h2.2 e))]
theorem Jx{l:Ln}{p:Pt}(hl:fg l=true)(hp:jk p=true)(h:vA (pE l p)=0/\vB (pE l p)=0):cK l p=some 0:=by
 rw[cK,oA,eW,jx,hl,hp]
 obtain⟨l0,l1,lb,_⟩:=cV hl
 simp only[Option.bind_some,Bool.not_true,cond_false]
 rw[(Jw l0 l1 lb (by decide) (by decide) (by decide) (ek hp) (by decide)).2]
 obtain⟨s,h1,h2⟩:=vI (pE l p)
 rw[h1,h2.2 (si.2 h)];rfl
theorem K8{x:Ln}{p:Pt}{l:Ln}(hx:fg x=true)(hp:jk p=true)(hl:fg l=true)(h:vA (pE l (dT x p))=0/\vB (pE l (dT x p))=0):oQ x p l=true:=by
 unfold oQ
 rw[hx,hp,hl,decide_eq_true (si.2 h)];rfl
theorem Fy{x l m:Ln}(hx:fg x=true)(hl:fg l=true)(hm:fg m=true)(e:m.1=(2*x.1-l.1)%8)(h:vA (cw (aC (m.1+4)) (dT x (iz l)))=vA m.2/\vB (cw (aC (m.1+4)) (dT x (iz l)))=vB m.2):uF x l m=true:=by
 have k:kA (dT x (iz l)) ((2*x.1-l.1)%8)=m:=by
  rw[<-e]
  obtain⟨c,M⟩:=m
  exact congrArg (Prod.mk c) (kq (ep _ _) (cV hm).2.2.2 h.1 h.2)
 unfold uF
 rw[hx,hl,hm,decide_eq_true k];rfl
theorem za{x:Ln}(h0:0<=x.1)(h1:x.1<=7)(h:nN x.2=true):fg x=true:=by
 unfold fg
 rw[h,decide_eq_true h0,decide_eq_true h1];rfl
theorem Bx{L:List Ln}{x:Ln}(h:x∈(AK L).1):x∈L/\nN x.2=true:=by
 unfold AK at h
 cases hc:L.all fun x=>nN x.2
 ·rw[hc]at h;exact(List.not_mem_nil h).elim
 ·rw[hc]at h
  exact⟨h,List.all_eq_true.1 hc x h⟩
theorem MR{l m:Ln}(hl:fg l=true)(hm:fg m=true){x:Ln}(h:x∈(vR l m).1):uF x l m=true/\uF x m l=true:=by
 obtain⟨l0,l1,lb,lc⟩:=cV hl
 obtain⟨m0,m1,mb,mc⟩:=cV hm
 unfold vR at h
 rw[hl,hm,Bool.and_self,cond_true]at h
 by_cases e0:l=m
 ·rw[decide_eq_true e0]at h;exact(List.not_mem_nil h).elim
 rw[decide_eq_false e0,cond_false]at h
 by_cases e1:l.1=m.1
 ·rw[decide_eq_true e1,cond_true]at h
  obtain⟨h1,h2⟩:=Bx h
  rw[List.mem_singleton.1 h1]at h2⊢
  have hx:fg (tV l m)=true:=za l0 l1 h2
  have hk:0<=(ej l.2 m.2).2.2:=(ep _ _).1
  have hA:vA (tV l m).2=(vA l.2+vA m.2)/2:=by
   show vA (low ((ej l.2 m.2).2.2.toNat+1) (ej l.2 m.2).1 (ej l.2 m.2).2.1)=_
   rw[mO hk,yp hk,iv]
  have hB:vB (tV l m).2=(vB l.2+vB m.2)/2:=by
   show vB (low ((ej l.2 m.2).2.2.toNat+1) (ej l.2 m.2).1 (ej l.2 m.2).2.1)=_
   rw[mP hk,yq hk,iw]
  have ex:(tV l m).1=l.1:=rfl
  refine⟨Fy hx hl hm (by rw[ex];omega) (FQ l0 l1 ex e1.symm hA hB),Fy hx hm hl (by rw[ex];omega) (FQ m0 m1 (ex.trans e1) e1 (by rw[hA];grind) (by rw[hB];grind))⟩
 rw[decide_eq_false e1,cond_false]at h
 by_cases e2:(l.1+m.1)%2=0
 ·rw[decide_eq_true e2,cond_true]at h
  obtain⟨h1,h2⟩:=Bx h
  obtain⟨on1,on2⟩:=Pj hl hm e1
  have key:∃e:Int,0<=e/\e<=7/\x=kA (eP l m) e/\m.1=(2*e-l.1)%8/\l.1=(2*e-m.1)%8:=by
   unfold JD at h1
   by_cases e3:(l.1+m.1)/2<=3
   ·rw[decide_eq_true e3,cond_true]at h1
    simp only[List.mem_cons,List.not_mem_nil,or_false]at h1
    rcases h1 with h1|h1
    ·exact⟨_,by omega,by omega,h1,by omega,by omega⟩
    ·exact⟨_,by omega,by omega,h1,by omega,by omega⟩
   ·rw[decide_eq_false e3,cond_false]at h1
    simp only[List.mem_cons,List.not_mem_nil,or_false]at h1
    rcases h1 with h1|h1
    ·exact⟨_,by omega,by omega,h1,by omega,by omega⟩
    ·exact⟨_,by omega,by omega,h1,by omega,by omega⟩
  obtain⟨e,k0,k1,rfl,k2,k3⟩:=key
  have hx:fg (kA (eP l m) e)=true:=za k0 k1 h2
  exact⟨Fy hx hl hm k2 (NS (x:=kA (eP l m) e) k0 k1 l0 l1 k2 (eP l m) ⟨rfl,rfl⟩ on1 on2),Fy hx hm hl k3 (NS (x:=kA (eP l m) e) k0 k1 m0 m1 k3 (eP l m) ⟨rfl,rfl⟩ on2 on1)⟩
 ·rw[decide_eq_false e2,cond_false]at h;exact(List.not_mem_nil h).elim
theorem Gv(q:Pt)(d:Int):vA (pE (kA q d) q)=0/\vB (pE (kA q d) q)=0:=by
 rw[Ji,Jj]
 have e1:(kA q d).1=d:=rfl
 have e2:(kA q d).2=cw (aC (d+4)) q:=rfl
 rw[e1,e2]
 constructor<;>grind
theorem ww(p:Pt)(l:Ln)(q:Pt):∀(n:Nat) (d:Int) (x:Ln),x∈eL p l q n d->∃e,d<=e/\e<d+n/\x=kA q e/\sn p l q e=true
 |0,d,x,h=>(List.not_mem_nil h).elim
 |n+1,d,x,h=>by
  rcases List.mem_append.1 h with h|h
  ·cases hb:sn p l q d
   ·rw[hb]at h;cases h
   ·rw[hb,cond_true]at h
    simp only[List.mem_cons,List.not_mem_nil,or_false]at h
    exact⟨d,Int.le_refl _,by omega,h,hb⟩
  ·obtain⟨e,h1,h2,h3⟩:=ww p l q n (d+1) x h
   exact⟨e,by omega,by omega,h3⟩
theorem M8{p q:Pt}{l:Ln}(hp:jk p=true)(hl:fg l=true)(hq:jk q=true){x:Ln}(h:x∈(vV p l q).1):oQ x p l=true/\cK x q=some 0:=by
 unfold vV at h
 rw[hp,hl,hq]at h
 obtain⟨h1,h2⟩:=Bx h
 obtain⟨e,k0,k1,rfl,hb⟩:=ww p l q 8 0 x h1
 have hx:fg (kA q e)=true:=za k0 (show e<=7 by omega) h2
 exact⟨K8 hx hp hl (si.1 (of_decide_eq_true hb)),Jx hx hq (Gv q e)⟩
def HQ(x:Ln)(p:Pt)(l:Ln):Prop:=(x=xL x.1 p l/\qR (gU x.1 l.1)=false)\/(qR (gU x.1 l.1)=true/\qR (ig p l)=true)
theorem LH(p:Pt)(l:Ln)(q:Pt)(m:Ln)(d:Int)(x:Ln)(h:x∈vC p l q m d):x.1=d/\HQ x p l/\HQ x q m:=by
 unfold vC at h
 unfold HQ
 cases h1:qR (gU d l.1)
 ·cases h2:qR (gU d m.1)
  ·simp only[h1,h2,cond_false]at h
   by_cases e:xL d p l=xL d q m
   ·rw[decide_eq_true e,cond_true]at h
    have hx:=List.mem_singleton.1 h
    have hd:x.1=d:=by rw[hx];rfl
    rw[hd]
    exact⟨rfl, .inl ⟨hx,h1⟩, .inl ⟨hx.trans e,h2⟩⟩
   ·rw[decide_eq_false e,cond_false]at h;exact(List.not_mem_nil h).elim
  ·simp only[h1,h2,cond_false,cond_true]at h
   cases h3:qR (ig q m)
   ·rw[h3]at h;exact(List.not_mem_nil h).elim
   ·rw[h3,cond_true]at h
    have hx:=List.mem_singleton.1 h
    have hd:x.1=d:=by rw[hx];rfl
    rw[hd]
    exact⟨rfl, .inl ⟨hx,h1⟩, .inr ⟨h2,rfl⟩⟩
 ·simp only[h1,cond_true]at h
  cases h3:qR (ig p l)
  ·rw[h3]at h;exact(List.not_mem_nil h).elim
  ·rw[h3,cond_true]at h
   cases h2:qR (gU d m.1)
   ·rw[h2,cond_false]at h
    have hx:=List.mem_singleton.1 h
    have hd:x.1=d:=by rw[hx];rfl
    rw[hd]
    exact⟨rfl, .inr ⟨h1,rfl⟩, .inl ⟨hx,h2⟩⟩
   ·rw[h2,cond_true]at h;exact(List.not_mem_nil h).elim
theorem CP(p:Pt)(l:Ln)(q:Pt)(m:Ln):∀(n:Nat) (d:Int) (x:Ln),x∈hQ p l q m n d->d<=x.1/\x.1<d+n/\HQ x p l/\HQ x q m
 |0,d,x,h=>(List.not_mem_nil h).elim
 |n+1,d,x,h=>by
  rcases List.mem_append.1 h with h|h
  ·obtain⟨h1,h2⟩:=LH p l q m d x h
   exact⟨by omega,by omega,h2⟩
  ·obtain⟨h1,h2,h3⟩:=CP p l q m n (d+1) x h
   exact⟨by omega,by omega,h3⟩
theorem LY{x:Ln}{p:Pt}{l:Ln}(hx:fg x=true)(hp:jk p=true)(hl:fg l=true)(h:HQ x p l):oQ x p l=true:=by
 obtain⟨x0,x1,_,_⟩:=cV hx
 obtain⟨l0,l1,lb,_⟩:=cV hl
 refine K8 hx hp hl ?_
 rcases h with⟨h1,h2⟩|⟨h1,h2⟩
 ·rw[h1]
  exact LL x0 (by omega) l0 l1 lb (ek hp) h2
 ·exact NP x0 x1 h1 h2
theorem PA{p q:Pt}{l m:Ln}(hp:jk p=true)(hl:fg l=true)(hq:jk q=true)(hm:fg m=true){x:Ln}(h:x∈(Hz p l q m).1):oQ x p l=true/\oQ x q m=true:=by
 unfold Hz at h
 rw[hp,hl,hq,hm]at h
 obtain⟨h1,h2⟩:=Bx h
 obtain⟨k0,k1,k2,k3⟩:=CP p l q m 8 0 x h1
 have hx:fg x=true:=za k0 (by omega) h2
 exact⟨LY hx hp hl k2,LY hx hq hm k3⟩
theorem Oh(L:List Ln)(hL:L.length<=1000)(p0 p1 p2 p3 p4 p5 q0 q1 q2 q3 q4 q5 l0 l1 l2 l3 m0 m1 m2 m3:Int)(h:∀x,x∈L->uF x (l0,(l1,(l2,l3))) (m0,(m1,(m2,m3)))=true/\uF x (m0,(m1,(m2,m3))) (l0,(l1,(l2,l3)))=true):∀(r s:List Ln),L=s++r->
 aH (aM L ((s.length:Nat):Int) p0 p1 p2 p3 p4 p5 q0 q1 q2 q3 q4 q5 l0 l1 l2 l3 m0 m1 m2 m3)=some (.inr (.inl (nT p0 p1 p2 p3 p4 p5 q0 q1 q2 q3 q4 q5 l0 l1 l2 l3 m0 m1 m2 m3)))
 |[],s,hs=>by
  rw[pW,dN,Ge hs,cond_false];rfl
 |x::r,s,hs=>by
  have hx:=h x (by rw[hs];simp)
  rw[pW,dN,Ke hs,cond_true,ix hs]
  simp only[Option.bind_some]
  rw[xf,xf,hx.1,hx.2]
  simp only[Option.bind_some,Bool.not_true,cond_false]
  rw[wr hs (by omega)]
  exact Oh L hL p0 p1 p2 p3 p4 p5 q0 q1 q2 q3 q4 q5 l0 l1 l2 l3 m0 m1 m2 m3 h r (s++ [x]) (Q1 hs)
theorem Oi(L:List Ln)(hL:L.length<=1000)(p0 p1 p2 p3 p4 p5 q0 q1 q2 q3 q4 q5 l0 l1 l2 l3 m0 m1 m2 m3:Int)(h:∀x,x∈L->oQ x ((p0,(p1,p2)),(p3,(p4,p5))) (l0,(l1,(l2,l3)))=true/\cK x ((q0,(q1,q2)),(q3,(q4,q5)))=some 0):∀(r s:List Ln),L=s++r->
 aI (aN L ((s.length:Nat):Int) p0 p1 p2 p3 p4 p5 q0 q1 q2 q3 q4 q5 l0 l1 l2 l3 m0 m1 m2 m3)=some (.inr (.inl (nV p0 p1 p2 p3 p4 p5 q0 q1 q2 q3 q4 q5 l0 l1 l2 l3 m0 m1 m2 m3)))
 |[],s,hs=>by
  rw[pX,dO,Ge hs,cond_false];rfl
 |x::r,s,hs=>by
  have hx:=h x (by rw[hs];simp)
  rw[pX,dO,Ke hs,cond_true,ix hs]
  simp only[Option.bind_some]
  rw[tg,hx.1,hx.2]
  simp only[Option.bind_some,Bool.not_true,cond_false,bne_self_eq_false]
  rw[wr hs (by omega)]
  exact Oi L hL p0 p1 p2 p3 p4 p5 q0 q1 q2 q3 q4 q5 l0 l1 l2 l3 m0 m1 m2 m3 h r (s++ [x]) (Q1 hs)
theorem Oj(L:List Ln)(hL:L.length<=1000)(p0 p1 p2 p3 p4 p5 q0 q1 q2 q3 q4 q5 l0 l1 l2 l3 m0 m1 m2 m3:Int)(h:∀x,x∈L->oQ x ((p0,(p1,p2)),(p3,(p4,p5))) (l0,(l1,(l2,l3)))=true/\oQ x ((q0,(q1,q2)),(q3,(q4,q5))) (m0,(m1,(m2,m3)))=true):∀(r s:List Ln),L=s++r->
 aJ (aO L ((s.length:Nat):Int) p0 p1 p2 p3 p4 p5 q0 q1 q2 q3 q4 q5 l0 l1 l2 l3 m0 m1 m2 m3)=some (.inr (.inl nX))
 |[],s,hs=>by
  rw[pY,dP,Ge hs,cond_false];rfl
 |x::r,s,hs=>by
  have hx:=h x (by rw[hs];simp)
  rw[pY,dP,Ke hs,cond_true,ix hs]
  simp only[Option.bind_some]
  rw[tg,tg,hx.1,hx.2]
  simp only[Option.bind_some,Bool.not_true,cond_false]
  rw[wr hs (by omega)]
  exact Oj L hL p0 p1 p2 p3 p4 p5 q0 q1 q2 q3 q4 q5 l0 l1 l2 l3 m0 m1 m2 m3 h r (s++ [x]) (Q1 hs)
noncomputable def T4(y182:Pt×Pt)(y191 y192:Ln):Option Bool:=
 (Option.bind (bv y191 y192) fun y572=>
   Option.bind (aH (aM y572.1 (0:Int) y182.1.1.1 y182.1.1.2.1 y182.1.1.2.2 y182.1.2.1 y182.1.2.2.1 y182.1.2.2.2 y182.2.1.1 y182.2.1.2.1 y182.2.1.2.2 y182.2.2.1 y182.2.2.2.1 y182.2.2.2.2 y191.1 y191.2.1 y191.2.2.1 y191.2.2.2 y192.1 y192.2.1 y192.2.2.1 y192.2.2.2)) (jP aD
   (fun e599=>
    some (e599.1.1.1:Bool),fun e621=>
    Option.bind (aQ (((e621.2.1.1.1:Int),((e621.2.1.1.2.1:Int),(e621.2.1.1.2.2.1:Int))),((e621.2.1.1.2.2.2.1:Int),((e621.2.1.1.2.2.2.2.1:Int),(e621.2.1.1.2.2.2.2.2.1:Int)))) ((e621.2.1.2.2.1.1:Int),((e621.2.1.2.2.1.2.1:Int),((e621.2.1.2.2.1.2.2.1:Int),(e621.2.1.2.2.1.2.2.2.1:Int)))) (((e621.2.1.2.1.1:Int),((e621.2.1.2.1.2.1:Int),(e621.2.1.2.1.2.2.1:Int))),((e621.2.1.2.1.2.2.2.1:Int),((e621.2.1.2.1.2.2.2.2.1:Int),(e621.2.1.2.1.2.2.2.2.2.1:Int))))) fun y672=>
    Option.bind (aI (aN y672.1 (0:Int) (e621.2.1.1.1:Int) (e621.2.1.1.2.1:Int) (e621.2.1.1.2.2.1:Int) (e621.2.1.1.2.2.2.1:Int) (e621.2.1.1.2.2.2.2.1:Int) (e621.2.1.1.2.2.2.2.2.1:Int) (e621.2.1.2.1.1:Int) (e621.2.1.2.1.2.1:Int) (e621.2.1.2.1.2.2.1:Int) (e621.2.1.2.1.2.2.2.1:Int) (e621.2.1.2.1.2.2.2.2.1:Int) (e621.2.1.2.1.2.2.2.2.2.1:Int) (e621.2.1.2.2.1.1:Int) (e621.2.1.2.2.1.2.1:Int) (e621.2.1.2.2.1.2.2.1:Int) (e621.2.1.2.2.1.2.2.2.1:Int) (e621.2.1.2.2.2.1.1:Int) (e621.2.1.2.2.2.1.2.1:Int) (e621.2.1.2.2.2.1.2.2.1:Int) (e621.2.1.2.2.2.1.2.2.2.1:Int))) (jP aE
    (fun e699=>
     some (e699.1.1.1:Bool),fun e721=>
     Option.bind (bN (((e721.2.1.1.1:Int),((e721.2.1.1.2.1:Int),(e721.2.1.1.2.2.1:Int))),((e721.2.1.1.2.2.2.1:Int),((e721.2.1.1.2.2.2.2.1:Int),(e721.2.1.1.2.2.2.2.2.1:Int)))) ((e721.2.1.2.2.1.1:Int),((e721.2.1.2.2.1.2.1:Int),((e721.2.1.2.2.1.2.2.1:Int),(e721.2.1.2.2.1.2.2.2.1:Int)))) (((e721.2.1.2.1.1:Int),((e721.2.1.2.1.2.1:Int),(e721.2.1.2.1.2.2.1:Int))),((e721.2.1.2.1.2.2.2.1:Int),((e721.2.1.2.1.2.2.2.2.1:Int),(e721.2.1.2.1.2.2.2.2.2.1:Int)))) ((e721.2.1.2.2.2.1.1:Int),((e721.2.1.2.2.2.1.2.1:Int),((e721.2.1.2.2.2.1.2.2.1:Int),(e721.2.1.2.2.2.1.2.2.2.1:Int))))) fun y781=>
     Option.bind (aJ (aO y781.1 (0:Int) (e721.2.1.1.1:Int) (e721.2.1.1.2.1:Int) (e721.2.1.1.2.2.1:Int) (e721.2.1.1.2.2.2.1:Int) (e721.2.1.1.2.2.2.2.1:Int) (e721.2.1.1.2.2.2.2.2.1:Int) (e721.2.1.2.1.1:Int) (e721.2.1.2.1.2.1:Int) (e721.2.1.2.1.2.2.1:Int) (e721.2.1.2.1.2.2.2.1:Int) (e721.2.1.2.1.2.2.2.2.1:Int) (e721.2.1.2.1.2.2.2.2.2.1:Int) (e721.2.1.2.2.1.1:Int) (e721.2.1.2.2.1.2.1:Int) (e721.2.1.2.2.1.2.2.1:Int) (e721.2.1.2.2.1.2.2.2.1:Int) (e721.2.1.2.2.2.1.1:Int) (e721.2.1.2.2.2.1.2.1:Int) (e721.2.1.2.2.2.1.2.2.1:Int) (e721.2.1.2.2.2.1.2.2.2.1:Int))) (jP aF
     (fun e808=>
      some (e808.1.1.1:Bool),fun _=>
      some Bool.true,())),())),())))
theorem PH{pq:Pt×Pt}{l m:Ln}(hp:jk pq.1=true)(hq:jk pq.2=true)(hl:fg l=true)(hm:fg m=true):T4 pq l m=some true:=by
 obtain⟨⟨⟨p0,p1,p2⟩,p3,p4,p5⟩,⟨q0,q1,q2⟩,q3,q4,q5⟩:=pq
 obtain⟨l0,l1,l2,l3⟩:=l
 obtain⟨m0,m1,m2,m3⟩:=m
 simp only at hp hq
 have a1:=Oh (vR (l0,(l1,(l2,l3))) (m0,(m1,(m2,m3)))).1 (Hp _ _) p0 p1 p2 p3 p4 p5 q0 q1 q2 q3 q4 q5 l0 l1 l2 l3 m0 m1 m2 m3 (fun x hx=>MR hl hm hx) _ [] rfl
 have a2:=Oi (vV ((p0,(p1,p2)),(p3,(p4,p5))) (l0,(l1,(l2,l3))) ((q0,(q1,q2)),(q3,(q4,q5)))).1 (Hs _ _ _) p0 p1 p2 p3 p4 p5 q0 q1 q2 q3 q4 q5 l0 l1 l2 l3 m0 m1 m2 m3 (fun x hx=>M8 hp hl hq hx) _ [] rfl
 have a3:=Oj (Hz ((p0,(p1,p2)),(p3,(p4,p5))) (l0,(l1,(l2,l3))) ((q0,(q1,q2)),(q3,(q4,q5))) (m0,(m1,(m2,m3)))).1 (KD _ _ _ _) p0 p1 p2 p3 p4 p5 q0 q1 q2 q3 q4 q5 l0 l1 l2 l3 m0 m1 m2 m3 (fun x hx=>PA hp hl hq hm hx) _ [] rfl
 have a1':aH (aM (vR (l0,(l1,(l2,l3))) (m0,(m1,(m2,m3)))).1 0 p0 p1 p2 p3 p4 p5 q0 q1 q2 q3 q4 q5 l0 l1 l2 l3 m0 m1 m2 m3)=_:=a1
 have a2':aI (aN (vV ((p0,(p1,p2)),(p3,(p4,p5))) (l0,(l1,(l2,l3))) ((q0,(q1,q2)),(q3,(q4,q5)))).1 0 p0 p1 p2 p3 p4 p5 q0 q1 q2 q3 q4 q5 l0 l1 l2 l3 m0 m1 m2 m3)=_:=a2
 have a3':aJ (aO (Hz ((p0,(p1,p2)),(p3,(p4,p5))) (l0,(l1,(l2,l3))) ((q0,(q1,q2)),(q3,(q4,q5))) (m0,(m1,(m2,m3)))).1 0 p0 p1 p2 p3 p4 p5 q0 q1 q2 q3 q4 q5 l0 l1 l2 l3 m0 m1 m2 m3)=_:=a3
 unfold T4
 rw[Lo,Option.bind_some]
 simp only[a1',Option.bind_some,jP]
 rw[Lp,Option.bind_some]
 simp only[a2',Option.bind_some]
 rw[Oa,Option.bind_some]
 simp only[a3',Option.bind_some]
noncomputable def T3(y182:Pt×Pt)(y191 y192:Ln):Option Bool:=
 Option.bind (co y182.1 y191 y192) fun y440=>
 cond (y440.2==(0:Int))
 (cond (y440.1.1 !=(Int.tmod (IntKind.wrap .i64 (y192.1+(4:Int))) (8:Int)))
  (some Bool.false)
  (Option.bind (bG y440.1 y182.1 y191) fun y449=>
   cond (!y449)
   (some Bool.false)
   (T4 y182 y191 y192)))
 (T4 y182 y191 y192)
theorem P0{d:Int}(h0:0<=d)(h1:d<=7):Int.tmod (IntKind.wrap .i64 (d+(4:Int))) (8:Int)=(d+4)%8:=by
 rw[aG (n:=d+4) (by omega) (by omega),Int.tmod_eq_emod_of_nonneg (by omega)]
theorem Fh{x:Ln}(h:(DD x).2=0):nN x.2=true/\(DD x).1=x:=by
 unfold DD at h⊢
 cases hc:nN x.2
 ·rw[hc]at h;exact absurd (show(2:Int)=0 from h) (by decide)
 ·exact⟨rfl,rfl⟩
theorem PG{pq:Pt×Pt}{l m:Ln}(hp:jk pq.1=true)(hq:jk pq.2=true)(hl:fg l=true)(hm:fg m=true):T3 pq l m=some true:=by
 obtain⟨l0,l1,lb,_⟩:=cV hl
 obtain⟨m0,m1,_,_⟩:=cV hm
 unfold T3
 rw[J6,Option.bind_some]
 by_cases h:(tc pq.1 l m).2=0
 ·rw[beq_iff_eq.2 h,cond_true]
  have k:fg (tc pq.1 l m).1=true/\(tc pq.1 l m).1.1=(m.1+4)%8/\oQ (tc pq.1 l m).1 pq.1 l=true:=by
   unfold tc at h⊢
   rw[hp,hl,hm]at h⊢
   simp only[Bool.and_self,cond_true]at h⊢
   by_cases e:l.1=m.1
   ·rw[decide_eq_true e]at h;exact absurd (show(7:Int)=0 from h) (by decide)
   ·rw[decide_eq_false e,cond_false]at h⊢
    obtain⟨r1,r2⟩:=Fh h
    rw[r2]
    have hx:fg (xL ((m.1+4)%8) pq.1 l)=true:=za (show 0<=(m.1+4)%8 by omega) (show(m.1+4)%8<=7 by omega) r1
    exact⟨hx,rfl,K8 hx hp hl (LL (by omega) (by omega) l0 l1 lb (ek hp) (C2 l0 l1 m0 m1 e))⟩
  rw[P0 m0 m1,k.2.1,bne_self_eq_false,cond_false,tg,k.2.2]
  exact PH hp hq hl hm
 ·rw[beq_eq_false_iff_ne.2 h,cond_false]
  exact PH hp hq hl hm
noncomputable def T2(y182:Pt×Pt)(y191 y192:Ln):Option Bool:=
 Option.bind (cd y191 y182.1) fun y401=>
 cond (y401.2==(0:Int))
 (Option.bind (cK y401.1 y182.1) fun y402=>
  cond (y402 !=(0:Int))
  (some Bool.false)
  (cond (y401.1.1 !=(Int.tmod (IntKind.wrap .i64 (y191.1+(4:Int))) (8:Int)))
   (some Bool.false)
   (Option.bind (cR y401.1 y191 y191) fun y417=>
    cond (!y417)
    (some Bool.false)
    (T3 y182 y191 y192))))
 (T3 y182 y191 y192)
theorem PF{pq:Pt×Pt}{l m:Ln}(hp:jk pq.1=true)(hq:jk pq.2=true)(hl:fg l=true)(hm:fg m=true):T2 pq l m=some true:=by
 obtain⟨l0,l1,_,_⟩:=cV hl
 unfold T2
 rw[Hm,Option.bind_some]
 by_cases h:(wi l pq.1).2=0
 ·rw[beq_iff_eq.2 h,cond_true]
  unfold wi at h⊢
  rw[hp,hl]at h⊢
  simp only[Bool.and_self,cond_true]at h⊢
  obtain⟨r1,r2⟩:=Fh h
  rw[r2]
  have hx:fg (kA pq.1 ((l.1+4)%8))=true:=za (show 0<=(l.1+4)%8 by omega) (show(l.1+4)%8<=7 by omega) r1
  rw[Jx hx hp (Gv _ _),Option.bind_some,bne_self_eq_false,cond_false,P0 l0 l1]
  have e:(kA pq.1 ((l.1+4)%8)).1=(l.1+4)%8:=rfl
  rw[e,bne_self_eq_false,cond_false,xf,Fy hx hl hl (by rw[e];omega) (LA l0 l1 e)]
  exact PG hp hq hl hm
 ·rw[beq_eq_false_iff_ne.2 h,cond_false]
  exact PG hp hq hl hm
noncomputable def T1(y182:Pt×Pt)(y191 y192:Ln):Option Bool:=
 Option.bind (gi y182.1 y182.2) fun y347=>
 Option.bind (ee y347.1 y182.1) fun y394=>
 cond (y347.2==(0:Int))
 (cond (!y394.2)
  (some Bool.false)
  (cond (!(((y394.1.1.1==y182.2.1.1)&&((y394.1.1.2.1==y182.2.1.2.1)&&((y394.1.1.2.2==y182.2.1.2.2)&&Bool.true)))&&(((y394.1.2.1==y182.2.2.1)&&((y394.1.2.2.1==y182.2.2.2.1)&&((y394.1.2.2.2==y182.2.2.2.2)&&Bool.true)))&&Bool.true)))
   (some Bool.false)
   (T2 y182 y191 y192)))
 (T2 y182 y191 y192)
theorem PE{pq:Pt×Pt}{l m:Ln}(hp:jk pq.1=true)(hq:jk pq.2=true)(hl:fg l=true)(hm:fg m=true):T1 pq l m=some true:=by
 unfold T1
 rw[MM,Option.bind_some,J8,Option.bind_some]
 by_cases h:(Gw pq.1 pq.2).2=0
 ·rw[beq_iff_eq.2 h,cond_true]
  have k:DC (Gw pq.1 pq.2).1 pq.1=(pq.2,true):=by
   unfold Gw at h⊢
   rw[hp,hq]at h⊢
   simp only[Bool.and_self,cond_true]at h⊢
   cases hd:zM pq.1 pq.2 with
   |none=>rw[hd]at h;exact absurd (show(7:Int)=0 from h) (by decide)
   |some d=>
    rw[hd]at h
    simp only at h⊢
    obtain⟨r1,r2⟩:=Fh h
    rw[r2]
    obtain⟨d0,d1,_,_⟩:=zu hd
    have hx:fg (kA (om pq.1 pq.2) ((d+4)%8))=true:=za (show 0<=(d+4)%8 by omega) (show(d+4)%8<=7 by omega) r1
    have hq':=hq
    simp only[jk,Bool.and_eq_true]at hq'
    have c1:=Jk hq'.1
    have c2:=Jk hq'.2
    unfold DC
    rw[hx,hp,Bool.and_self,cond_true,M6 hd c1 c2]
    unfold GD pD
    rw[yD c1,yD c2]
    have e:(pq.2.1,pq.2.2)=pq.2:=rfl
    rw[e,hq];rfl
  rw[k]
  simp only[beq_self_eq_true,Bool.and_self,Bool.not_true,cond_false]
  exact PF hp hq hl hm
 ·rw[beq_eq_false_iff_ne.2 h,cond_false]
  exact PF hp hq hl hm
noncomputable def T0(y182:Pt×Pt)(y191 y192:Ln):Option Bool:=
 Option.bind (fi y182.1 y182.2) fun y308=>
 cond (y308.2==(0:Int))
 (Option.bind (cK y308.1 y182.1) fun y323=>
  cond (y323 !=(0:Int))
  (some Bool.false)
  (Option.bind (cK y308.1 y182.2) fun y324=>
   cond (y324 !=(0:Int))
   (some Bool.false)
   (T1 y182 y191 y192)))
 (T1 y182 y191 y192)
theorem QL{pq:Pt×Pt}{l m:Ln}(hp:jk pq.1=true)(hq:jk pq.2=true)(hl:fg l=true)(hm:fg m=true):T0 pq l m=some true:=by
 unfold T0
 have e0:fi pq.1 pq.2=some (Ha pq.1 pq.2):=by
  rw[fi,jA,MN];rfl
 rw[e0,Option.bind_some]
 by_cases h:(Ha pq.1 pq.2).2=0
 ·rw[beq_iff_eq.2 h,cond_true]
  unfold Ha at h⊢
  rw[hp,hq]at h⊢
  simp only[Bool.and_self,cond_true]at h⊢
  cases hd:zM pq.1 pq.2 with
  |none=>rw[hd]at h;exact absurd (show(7:Int)=0 from h) (by decide)
  |some d=>
   rw[hd]at h
   simp only at h⊢
   obtain⟨r1,r2⟩:=Fh h
   rw[r2]
   obtain⟨d0,d1,_,_⟩:=zu hd
   have hx:fg (kA pq.1 (d%8))=true:=za (show 0<=d%8 by omega) (show d%8<=7 by omega) r1
   have ht:=Pz hd
   have hz:vA (pE (kA pq.1 (d%8)) pq.2)=0/\vB (pE (kA pq.1 (d%8)) pq.2)=0:=by
    rw[Ji,Jj]
    have e1:(kA pq.1 (d%8)).1=d%8:=rfl
    have e2:(kA pq.1 (d%8)).2=cw (aC (d%8+4)) pq.1:=rfl
    rw[e1,e2,ht.1,ht.2]
    constructor<;>grind
   rw[Jx hx hp (Gv _ _),Jx hx hq hz]
   exact PE hp hq hl hm
 ·rw[beq_eq_false_iff_ne.2 h,cond_false]
  exact PE hp hq hl hm
theorem F6{c m:List Int}(hc:LI c)(hm:LI m):iV c m=some true:=by
 rw[iV,jd]
 have long:∃b,md c m=some b:=by
  rw[md,oE]
  cases decide (((c.length:Nat):Int)>3000)<;>exact⟨_,rfl⟩
 obtain⟨b,e⟩:=long
 rw[e,Option.bind_some]
 cases b
 case true=>rfl
 rw[cond_false]
 obtain⟨pq,e1,h1,h2⟩:=M9 hc
 obtain⟨l,e2,h3⟩:=L3 hm
 obtain⟨l',e3,h4⟩:=L3 hc
 rw[e1,Option.bind_some,e2,Option.bind_some,e3,Option.bind_some]
 exact QL h1 h2 h3 h4
theorem NU{z:List Int}(h:Ty.wf (.slice (.int .u8)) z):LI z:=fun x hx=>by
 have h1:(Lit.int .u8 x).wf=true:=h.2 x hx
 have h2:IntKind.min .u8<=x/\x<=IntKind.max .u8:=by simpa[Lit.wf]using h1
 have e1:IntKind.min .u8=0:=by decide
 have e2:IntKind.max .u8=255:=by decide
 rw[e1,e2]at h2
 exact h2
end Go.Proofs.YtjkljnflaifbhaaDoor
