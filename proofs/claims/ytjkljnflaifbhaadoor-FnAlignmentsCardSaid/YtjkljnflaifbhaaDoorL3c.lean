/- No conditions. -/
import Derived.Test.YtjkljnflaifbhaaDoorL3b
namespace Go.Proofs.YtjkljnflaifbhaaDoor
open Go.Vai
def pE(l:Ln)(p:Pt):Nm:=kG (cw (aC (l.1+4)) p) l.2
theorem Jw{V:Int}{κ:Nat}{l:Ln}{p:Pt}(h0:0<=l.1)(h1:l.1<=7)(hl:Bd 131072 10 l.2)(hV:0<=V)(hκ:10<=κ)(hκ':κ<=50)(hp:Bd V κ p.1/\Bd V κ p.2)(h:(131072+6*V)*2^κ<=4611686018427387904):
 mN l p=dV (pE l p)/\dX l p=dk (pE l p):=by
 have hd0:0<=l.1+4:=by omega
 have hd1:l.1+4<16:=by omega
 have hpp:(0:Int)<2^κ:=Int.pow_pos (by decide)
 have e1:(131072+6*V)*2^κ=131072*2^κ+6*V*2^κ:=Int.add_mul ..
 have okdot:=sp (d:=l.1+4) hd0 hd1 hV (by omega) hp (by omega)
 have hdot:=ln (V:=1) (by decide) (en hd0 hd1) hp
 have hdot:Bd (6*V) κ (cw (aC (l.1+4)) p):=hdot.mono (by omega) (by omega)
 have hmax:max κ 10=κ:=by omega
 have s:=lC hdot hl (by omega) (by decide) (by omega) (by decide) (by rw[hmax,Int.add_comm];exact h)
 have hw:IntKind.wrap .i64 (l.1+4)=l.1+4:=aG (by omega) (by omega)
 constructor
 ·rw[mN,qL,hw,okdot.1,Option.bind_some,s.1,Option.bind_some]
  show(dV (pE l p)).bind (fun y=>some y)=_
  cases dV (pE l p)<;>rfl
 ·rw[dX,kU,bH,cU]
  try simp only
  rw[hw,(na hd0 hd1).2]
  simp only[Option.bind_some]
  rw[okdot.2,Option.bind_some,s.2,Option.bind_some]
  show(dk (pE l p)).bind (fun y=>some y)=_
  cases dk (pE l p)<;>rfl
def sn(p:Pt)(l:Ln)(q:Pt)(d:Int):Bool:=decide ((pE l (dT (kA q d) p)).1=0/\(pE l (dT (kA q d) p)).2.1=0)
def eL(p:Pt)(l:Ln)(q:Pt):Nat->Int->List Ln
 |0,_=>[]
 |n+1,d=>cond (sn p l q d) [kA q d] []++eL p l q n (d+1)
theorem vU(p:Pt)(l:Ln)(q:Pt):∀(n:Nat) (d:Int) (x:Ln),x∈eL p l q n d->∃e,d<=e/\e<d+n/\x=kA q e
 |0,d,x,h=>(List.not_mem_nil h).elim
 |n+1,d,x,h=>by
  rcases List.mem_append.1 h with h|h
  ·cases hb:sn p l q d
   ·rw[hb]at h;cases h
   ·rw[hb,cond_true]at h
    simp only[List.mem_cons,List.not_mem_nil,or_false]at h
    exact⟨d,Int.le_refl _,by omega,h⟩
  ·obtain⟨e,h1,h2,h3⟩:=vU p l q n (d+1) x h
   exact⟨e,by omega,by omega,h3⟩
theorem nv(p:Pt)(l:Ln)(q:Pt):∀(n:Nat) (d:Int),(eL p l q n d).length<=n
 |0,d=>Nat.le_refl _
 |n+1,d=>by
  have:=nv p l q n (d+1)
  simp only[eL,List.length_append]
  cases sn p l q d<;>simp only[cond_true,cond_false,List.length_nil,List.length_singleton]<;>omega
theorem xB(p:Pt)(l:Ln)(q:Pt):∀(n:Nat) (d:Int),El (eL p l q n d)
 |0,d=>trivial
 |n+1,d=>by
  have ih:=xB p l q n (d+1)
  simp only[eL]
  cases sn p l q d
  ·exact ih
  ·simp only[cond_true,List.singleton_append]
   refine GF (fun z hz=> ?_) ih
   obtain⟨e,h1,_,rfl⟩:=vU p l q n (d+1) z hz
   show d<e
   omega
theorem L0{q:Pt}(hq:jk q=true){d:Int}(h0:0<=d)(h1:d<8):Bd 786432 10 (kA q d).2:=
 ln (V:=1) (by decide) (en (d:=d+4) (by omega) (by omega)) (ek hq)
section
variable {p q:Pt} {l:Ln} (hp:jk p=true) (hl:fg l=true) (hq:jk q=true)
include hp hl hq
theorem FA{d:Int}(h0:0<=d)(h1:d<8):kc (kA q d) p l=some (sn p l q d)/\
 ∃y s,cu (kA q d) p=some y/\dX l y=some s/\(s==0)=sn p l q d:=by
 obtain⟨l0,l1,lb,_⟩:=cV hl
 have bp:=ek hp
 have bl:=L0 hq h0 h1
 have d0:0<=(kA q d).1:=h0
 have d1:(kA q d).1<=7:=by show d<=7;omega
 have hr:=pG d0 d1 bl (by decide) (by decide) (by decide) bp (by decide)
 have hrb:=uo d0 d1 bl (by decide) (by decide) bp
 have hs:=Jw l0 l1 lb (by decide) (by decide) (by decide) hrb (by decide)
 constructor
 ·rw[kc,mI,hr.1,Option.bind_some,hs.1]
  obtain⟨s,k1,k2⟩:=Hy (pE l (dT (kA q d) p))
  rw[k1,Option.bind_some]
  congr 1
  unfold sn
  rw[show(s==0)=decide (s=0)from rfl]
  by_cases h:s=0
  ·rw[bM h,bM (k2.1 h)]
  ·rw[bX h,bX (fun e=>h (k2.2 e))]
 ·obtain⟨s,k1,k2⟩:=vI (pE l (dT (kA q d) p))
  refine⟨_,s,hr.2,by rw[hs.2,k1], ?_⟩
  unfold sn
  rw[show(s==0)=decide (s=0)from rfl]
  by_cases h:s=0
  ·rw[bM h,bM (k2.1 h)]
  ·rw[bX h,bX (fun e=>h (k2.2 e))]
theorem xD:∀(n:Nat) (d:Int) (acc:List Ln),0<=d->d+n=8->acc.length<=900-n->
 ji (fR acc d p.1.1 p.1.2.1 p.1.2.2 p.2.1 p.2.2.1 p.2.2.2 l.1 l.2.1 l.2.2.1 l.2.2.2 q.1.1 q.1.2.1 q.1.2.2 q.2.1 q.2.2.1 q.2.2.2)=some (.inl (nY (acc++eL p l q n d)))
 |0,d,acc,h0,h1,ha=>by
  rw[pZ,dQ,bX (by omega),cond_false]
  simp only[eL,List.append_nil];rfl
 |n+1,d,acc,h0,h1,ha=>by
  have IH:=fun acc'=>xD n (d+1) acc' (by omega) (by omega)
  have bq:=ek hq
  have hal:=(FA hp hl hq h0 (by omega)).1
  have k1:decide ((acc.length+1)*32<=70368744177664)=true:=bM (by omega)
  have k2:decide (acc.length+1<=70368744177664)=true:=bM (by omega)
  rw[pZ,dQ,bM (by omega),cond_true,aG (n:=d+1) (by omega) (by omega)]
  simp only[bF,dZ,aV,cI,bo,cg,Option.bind_some]
  have ht:=rk (d:=d) (by omega) (by omega) (by decide) (by decide) bq (by decide)
  rw[show d%8=d by omega]at ht
  rw[ht,Option.bind_some,hal,Option.bind_some]
  simp only[eL]
  cases sn p l q d
  ·exact IH acc (by omega)
  ·simp only[cond_true,List.length_singleton,k1,k2]
   rw[<-List.append_assoc]
   exact IH (acc++ [kA q d]) (by simp only[List.length_append,List.length_singleton];omega)
theorem xC:∀(n:Nat) (d:Int) (acc:List Ln),0<=d->d+n=8->acc.length<=900-n->
 eM (fQ acc d p.1.1 p.1.2.1 p.1.2.2 p.2.1 p.2.2.1 p.2.2.2 l.1 l.2.1 l.2.2.1 l.2.2.2 q.1.1 q.1.2.1 q.1.2.2 q.2.1 q.2.2.1 q.2.2.2)=some (.inl (nR (acc++eL p l q n d)))
 |0,d,acc,h0,h1,ha=>by
  rw[pV,dM,bX (by omega),cond_false]
  simp only[eL,List.append_nil];rfl
 |n+1,d,acc,h0,h1,ha=>by
  have IH:=fun acc'=>xC n (d+1) acc' (by omega) (by omega)
  have bq:=ek hq
  obtain⟨y,s,e1,e2,e3⟩:=(FA hp hl hq h0 (show d<8 by omega)).2
  have k1:decide ((acc.length+1)*32<=70368744177664)=true:=bM (by omega)
  have k2:decide (acc.length+1<=70368744177664)=true:=bM (by omega)
  rw[pV,dM,bM (by omega),cond_true,aG (n:=d+1) (by omega) (by omega)]
  have ht:=pS (d:=d) h0 (by omega) (by decide) (by decide) bq (by decide)
  have ht':dF ((q.1.1,(q.1.2.1,q.1.2.2)),(q.2.1,(q.2.2.1,q.2.2.2))) d=some (kA q d):=ht
  have e1':cu (kA q d) ((p.1.1,(p.1.2.1,p.1.2.2)),(p.2.1,(p.2.2.1,p.2.2.2)))=some y:=e1
  have e2':dX (l.1,(l.2.1,(l.2.2.1,l.2.2.2))) y=some s:=e2
  rw[ht',Option.bind_some,e1',Option.bind_some,e2',Option.bind_some,e3]
  simp only[eL]
  cases sn p l q d
  ·exact IH acc (by omega)
  ·simp only[cond_true,List.length_singleton,k1,k2]
   rw[<-List.append_assoc]
   exact IH (acc++ [kA q d]) (by simp only[List.length_append,List.length_singleton];omega)
end
theorem Ay{p q:Pt}{l:Ln}(hq:jk q=true)(x:Ln)(hx:x∈eL p l q 8 0):MK x/\0<=x.1/\x.1<=7:=by
 obtain⟨e,h1,h2,rfl⟩:=vU p l q 8 0 x hx
 have hb:=L0 hq (show 0<=e by omega) (by omega)
 have hi:=tF hb (by decide) (by decide)
 exact⟨⟨ep _ _,by have:=hb.2.1;exact Int.le_trans this (by decide),hi.1,hi.2⟩,by show 0<=e;omega,by show e<=7;omega⟩
def vV(p:Pt)(l:Ln)(q:Pt):List Ln×Int:=cond (jk p&&(fg l&&jk q)) (AK (eL p l q 8 0)) ([],1)
theorem Qm(p:Pt)(l:Ln)(q:Pt):kb p l q=some (vV p l q):=by
 rw[kb,kn,kQ,kh,kh]
 unfold vV
 simp only[Option.bind_some]
 cases hp:jk p
 ·rfl
 cases hl:fg l
 ·rfl
 cases hq:jk q
 ·rfl
 simp only[Bool.not_true,cond_false,Bool.and_self,cond_true]
 rw[xD hp hl hq 8 0 [] (by decide) (by decide) (by simp),List.nil_append]
 have h:=Fj (eL p l q 8 0) (Nat.le_trans (nv p l q 8 0) (by decide)) (fun x hx=>(Ay hq x hx).1)
 show(dY (eL p l q 8 0)).bind _=_
 rw[h];rfl
theorem Lp(p:Pt)(l:Ln)(q:Pt):aQ p l q=some (vV p l q):=by
 rw[aQ,ij,eW,jx,jx]
 unfold vV
 simp only[Option.bind_some]
 cases hp:jk p
 ·rfl
 cases hl:fg l
 ·rfl
 cases hq:jk q
 ·rfl
 simp only[Bool.not_true,cond_false,Bool.and_self,cond_true]
 rw[xC hp hl hq 8 0 [] (by decide) (by decide) (by simp),List.nil_append]
 have h:=tk (eL p l q 8 0) (Nat.le_trans (nv p l q 8 0) (by decide)) (fun x hx=>(Ay hq x hx).2) (xB p l q 8 0)
 show cond (decide True) ((ce (eL p l q 8 0)).bind _) none=_
 rw[bM trivial,cond_true,h];rfl
theorem Hs(p:Pt)(l:Ln)(q:Pt):(vV p l q).1.length<=1000:=by
 unfold vV
 cases jk p&&(fg l&&jk q)
 ·exact Nat.zero_le _
 ·exact uG _ (Nat.le_trans (nv p l q 8 0) (by decide))
def iz(l:Ln):Pt:=xq (aC (l.1+4)) (tP (JB (l.1+4)) l.2 (pJ (l.1+4)))
theorem FO{l:Ln}(h0:0<=l.1)(h1:l.1<=7)(hl:Bd 131072 10 l.2):Bd 4718592 13 (iz l).1/\Bd 4718592 13 (iz l).2:=by
 have:=DM (V:=1) (by decide) (en (d:=l.1+4) (by omega) (by omega)) (BH (by decide) hl (ux (d:=l.1+4) (by omega) (by omega)) (G4 (d:=l.1+4) (by omega) (by omega)))
 exact this
theorem IT{l:Ln}(h0:0<=l.1)(h1:l.1<=7)(hl:Bd 131072 10 l.2):mM l=some (iz l)/\gH l=some (iz l):=by
 have hd0:0<=l.1+4:=by omega
 have hd1:l.1+4<16:=by omega
 have hdiv:=wY hl (ux hd0 hd1) (by decide) (by decide) (by decide) (by decide) (by decide) (by decide)
 rw[Mk hd0 hd1]at hdiv
 have hb:=BH (by decide) hl (ux hd0 hd1) (G4 hd0 hd1)
 obtain⟨v1,v2⟩:=en hd0 hd1
 have hw:IntKind.wrap .i64 (l.1+4)=l.1+4:=aG (by omega) (by omega)
 constructor
 ·rw[mM,qI,hw,(na hd0 hd1).1]
  simp only[Option.bind_some,aV,cI,bo,cg]
  rw[LG hd0 hd1,Option.bind_some,hdiv.1,Option.bind_some]
  try simp only
  rw[(gu hb v1 (by decide) (by decide) (by decide) (by decide)).1,Option.bind_some,(gu hb v2 (by decide) (by decide) (by decide) (by decide)).1,Option.bind_some,H0,H0 _ (aC (l.1+4)).2]
  rfl
 ·rw[gH,kS,bH,cU]
  try simp only
  rw[hw,(na hd0 hd1).2]
  simp only[Option.bind_some]
  rw[Lm hd0 hd1,Option.bind_some,hdiv.2,Option.bind_some]
  try simp only
  rw[KA (en hd0 hd1) hb (by decide) (by decide) (by decide) (by decide)]
  rfl
end Go.Proofs.YtjkljnflaifbhaaDoor
