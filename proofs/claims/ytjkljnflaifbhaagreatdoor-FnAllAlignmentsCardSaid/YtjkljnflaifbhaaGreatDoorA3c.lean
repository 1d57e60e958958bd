/- No conditions. -/
import Derived.Test.YtjkljnflaifbhaaGreatDoorA3b
namespace Go.Proofs.YtjkljnflaifbhaaGreatDoor
open Go.Vai
def sw(l:Ln)(p:Pt):Nm:=kW (bI (aq (l.1+4)) p) l.2
theorem KD{V:Int}{κ:Nat}{l:Ln}{p:Pt}(h0:0<=l.1)(h1:l.1<=7)(hl:Bd 131072 10 l.2)(hV:0<=V)(hκ:10<=κ)(hκ':κ<=50)(hp:Bd V κ p.1/\Bd V κ p.2)(h:(131072+6*V)*2^κ<=4611686018427387904):
 nk l p=dA (sw l p)/\eM l p=df (sw l p):=by
 have hd0:0<=l.1+4:=by omega
 have hd1:l.1+4<16:=by omega
 have hpp:(0:Int)<2^κ:=Int.pow_pos (by decide)
 have e1:(131072+6*V)*2^κ=131072*2^κ+6*V*2^κ:=Int.add_mul ..
 have okdot:=sD (d:=l.1+4) hd0 hd1 hV (by omega) hp (by omega)
 have hdot:=lI (V:=1) (by decide) (el hd0 hd1) hp
 have hdot:Bd (6*V) κ (bI (aq (l.1+4)) p):=hdot.mono (by omega) (by omega)
 have hmax:max κ 10=κ:=by omega
 have s:=lS hdot hl (by omega) (by decide) (by omega) (by decide) (by rw[hmax,Int.add_comm];exact h)
 have hw:IntKind.wrap .i64 (l.1+4)=l.1+4:=aD (by omega) (by omega)
 constructor
 ·rw[nk,qW,hw,okdot.1,Option.bind_some,s.1,Option.bind_some]
  show(dA (sw l p)).bind (fun y=>some y)=_
  cases dA (sw l p)<;>rfl
 ·rw[eM,lr,bv,cM]
  try simp only
  rw[hw,(nH hd0 hd1).2]
  simp only[Option.bind_some]
  rw[okdot.2,Option.bind_some,s.2,Option.bind_some]
  show(df (sw l p)).bind (fun y=>some y)=_
  cases df (sw l p)<;>rfl
def qm(p:Pt)(l:Ln)(q:Pt)(d:Int):Bool:=decide ((sw l (bL (jz q d) p)).1=0/\(sw l (bL (jz q d) p)).2.1=0)
def cO(p:Pt)(l:Ln)(q:Pt):Nat->Int->List Ln
 |0,_=>[]
 |n+1,d=>cond (qm p l q d) [jz q d] []++cO p l q n (d+1)
theorem wJ(p:Pt)(l:Ln)(q:Pt):∀(n:Nat) (d:Int) (x:Ln),x∈cO p l q n d->∃e,d<=e/\e<d+n/\x=jz q e
 |0,d,x,h=>(List.not_mem_nil h).elim
 |n+1,d,x,h=>by
  rcases List.mem_append.1 h with h|h
  ·cases hb:qm p l q d
   ·rw[hb]at h;cases h
   ·rw[hb,cond_true]at h
    simp only[List.mem_cons,List.not_mem_nil,or_false]at h
    exact⟨d,Int.le_refl _,by omega,h⟩
  ·obtain⟨e,h1,h2,h3⟩:=wJ p l q n (d+1) x h
   exact⟨e,by omega,by omega,h3⟩
theorem nX(p:Pt)(l:Ln)(q:Pt):∀(n:Nat) (d:Int),(cO p l q n d).length<=n
 |0,d=>Nat.le_refl _
 |n+1,d=>by
  have:=nX p l q n (d+1)
  simp only[cO,List.length_append]
  cases qm p l q d<;>simp only[cond_true,cond_false,List.length_nil,List.length_singleton]<;>omega
theorem sQ(p:Pt)(l:Ln)(q:Pt):∀(n:Nat) (d:Int),xm (cO p l q n d)
 |0,d=>trivial
 |n+1,d=>by
  have ih:=sQ p l q n (d+1)
  simp only[cO]
  cases qm p l q d
  ·exact ih
  ·simp only[cond_true,List.singleton_append]
   refine xX (fun z hz=> ?_) ih
   obtain⟨e,h1,_,rfl⟩:=wJ p l q n (d+1) z hz
   show d<e
   omega
theorem Na{q:Pt}(hq:jF q=true){d:Int}(h0:0<=d)(h1:d<8):Bd 786432 10 (jz q d).2:=
 lI (V:=1) (by decide) (el (d:=d+4) (by omega) (by omega)) (ew hq)
section
variable {p q:Pt} {l:Ln} (hp:jF p=true) (hl:jd l=true) (hq:jF q=true)
include hp hl hq
theorem GY{d:Int}(h0:0<=d)(h1:d<8):kv (jz q d) p l=some (qm p l q d)/\
 ∃y s,cP (jz q d) p=some y/\eM l y=some s/\(s==0)=qm p l q d:=by
 obtain⟨l0,l1,lb,_⟩:=du hl
 have bp:=ew hp
 have bl:=Na hq h0 h1
 have d0:0<=(jz q d).1:=h0
 have d1:(jz q d).1<=7:=by show d<=7;omega
 have hr:=uT d0 d1 bl (by decide) (by decide) (by decide) bp (by decide)
 have hrb:=zW d0 d1 bl (by decide) (by decide) bp
 have hs:=KD l0 l1 lb (by decide) (by decide) (by decide) hrb (by decide)
 constructor
 ·rw[kv,ng,hr.1,Option.bind_some,hs.1]
  obtain⟨s,k1,k2⟩:=IN (sw l (bL (jz q d) p))
  rw[k1,Option.bind_some]
  congr 1
  unfold qm
  rw[show(s==0)=decide (s=0)from rfl]
  by_cases h:s=0
  ·rw[bG h,bG (k2.1 h)]
  ·rw[bT h,bT (fun e=>h (k2.2 e))]
 ·obtain⟨s,k1,k2⟩:=ws (sw l (bL (jz q d) p))
  refine⟨_,s,hr.2,by rw[hs.2,k1], ?_⟩
  unfold qm
  rw[show(s==0)=decide (s=0)from rfl]
  by_cases h:s=0
  ·rw[bG h,bG (k2.1 h)]
  ·rw[bT h,bT (fun e=>h (k2.2 e))]
theorem yx:∀(n:Nat) (d:Int) (acc:List Ln),0<=d->d+n=8->acc.length<=900-n->
 js (gf acc d p.1.1 p.1.2.1 p.1.2.2 p.2.1 p.2.2.1 p.2.2.2 l.1 l.2.1 l.2.2.1 l.2.2.2 q.1.1 q.1.2.1 q.1.2.2 q.2.1 q.2.2.1 q.2.2.2)=some (.inl (oB (acc++cO p l q n d)))
 |0,d,acc,h0,h1,ha=>by
  rw[qh,dT,bT (by omega),cond_false]
  simp only[cO,List.append_nil];rfl
 |n+1,d,acc,h0,h1,ha=>by
  have IH:=fun acc'=>yx n (d+1) acc' (by omega) (by omega)
  have bq:=ew hq
  have hal:=(GY hp hl hq h0 (by omega)).1
  have k1:decide ((acc.length+1)*32<=70368744177664)=true:=bG (by omega)
  have k2:decide (acc.length+1<=70368744177664)=true:=bG (by omega)
  rw[qh,dT,bG (by omega),cond_true,aD (n:=d+1) (by omega) (by omega)]
  simp only[bu,ee,aM,cC,aX,bX,Option.bind_some]
  have ht:=rE (d:=d) (by omega) (by omega) (by decide) (by decide) bq (by decide)
  rw[show d%8=d by omega]at ht
  rw[ht,Option.bind_some,hal,Option.bind_some]
  simp only[cO]
  cases qm p l q d
  ·exact IH acc (by omega)
  ·simp only[cond_true,List.length_singleton,k1,k2]
   rw[<-List.append_assoc]
   exact IH (acc++ [jz q d]) (by simp only[List.length_append,List.length_singleton];omega)
theorem yw:∀(n:Nat) (d:Int) (acc:List Ln),0<=d->d+n=8->acc.length<=900-n->
 eR (ga acc d p.1.1 p.1.2.1 p.1.2.2 p.2.1 p.2.2.1 p.2.2.2 l.1 l.2.1 l.2.2.1 l.2.2.2 q.1.1 q.1.2.1 q.1.2.2 q.2.1 q.2.2.1 q.2.2.2)=some (.inl (oA (acc++cO p l q n d)))
 |0,d,acc,h0,h1,ha=>by
  rw[qg,dS,bT (by omega),cond_false]
  simp only[cO,List.append_nil];rfl
 |n+1,d,acc,h0,h1,ha=>by
  have IH:=fun acc'=>yw n (d+1) acc' (by omega) (by omega)
  have bq:=ew hq
  obtain⟨y,s,e1,e2,e3⟩:=(GY hp hl hq h0 (show d<8 by omega)).2
  have k1:decide ((acc.length+1)*32<=70368744177664)=true:=bG (by omega)
  have k2:decide (acc.length+1<=70368744177664)=true:=bG (by omega)
  rw[qg,dS,bG (by omega),cond_true,aD (n:=d+1) (by omega) (by omega)]
  have ht:=qd (d:=d) h0 (by omega) (by decide) (by decide) bq (by decide)
  have ht':dL ((q.1.1,(q.1.2.1,q.1.2.2)),(q.2.1,(q.2.2.1,q.2.2.2))) d=some (jz q d):=ht
  have e1':cP (jz q d) ((p.1.1,(p.1.2.1,p.1.2.2)),(p.2.1,(p.2.2.1,p.2.2.2)))=some y:=e1
  have e2':eM (l.1,(l.2.1,(l.2.2.1,l.2.2.2))) y=some s:=e2
  rw[ht',Option.bind_some,e1',Option.bind_some,e2',Option.bind_some,e3]
  simp only[cO]
  cases qm p l q d
  ·exact IH acc (by omega)
  ·simp only[cond_true,List.length_singleton,k1,k2]
   rw[<-List.append_assoc]
   exact IH (acc++ [jz q d]) (by simp only[List.length_append,List.length_singleton];omega)
end
theorem BH{p q:Pt}{l:Ln}(hq:jF q=true)(x:Ln)(hx:x∈cO p l q 8 0):NQ x/\0<=x.1/\x.1<=7:=by
 obtain⟨e,h1,h2,rfl⟩:=wJ p l q 8 0 x hx
 have hb:=Na hq (show 0<=e by omega) (by omega)
 have hi:=uf hb (by decide) (by decide)
 exact⟨⟨co _ _,by have:=hb.2.1;exact Int.le_trans this (by decide),hi.1,hi.2⟩,by show 0<=e;omega,by show e<=7;omega⟩
def rz(p:Pt)(l:Ln)(q:Pt):List Ln×Int:=cond (jF p&&(jd l&&jF q)) (AN (cO p l q 8 0)) ([],1)
theorem Rr(p:Pt)(l:Ln)(q:Pt):ku p l q=some (rz p l q):=by
 rw[ku,kH,lm,kD,kD]
 unfold rz
 simp only[Option.bind_some]
 cases hp:jF p
 ·rfl
 cases hl:jd l
 ·rfl
 cases hq:jF q
 ·rfl
 simp only[Bool.not_true,cond_false,Bool.and_self,cond_true]
 rw[yx hp hl hq 8 0 [] (by decide) (by decide) (by simp),List.nil_append]
 have h:=GK (cO p l q 8 0) (Nat.le_trans (nX p l q 8 0) (by decide)) (fun x hx=>(BH hq x hx).1)
 show(ec (cO p l q 8 0)).bind _=_
 rw[h];rfl
theorem Mz(p:Pt)(l:Ln)(q:Pt):eC p l q=some (rz p l q):=by
 rw[eC,iz,iv,iw,iw]
 unfold rz
 simp only[Option.bind_some]
 cases hp:jF p
 ·rfl
 cases hl:jd l
 ·rfl
 cases hq:jF q
 ·rfl
 simp only[Bool.not_true,cond_false,Bool.and_self,cond_true]
 rw[yw hp hl hq 8 0 [] (by decide) (by decide) (by simp),List.nil_append]
 have h:=tJ (cO p l q 8 0) (Nat.le_trans (nX p l q 8 0) (by decide)) (fun x hx=>(BH hq x hx).2) (sQ p l q 8 0)
 show cond (decide True) ((bV (cO p l q 8 0)).bind _) none=_
 rw[bG trivial,cond_true,h];rfl
theorem IK(p:Pt)(l:Ln)(q:Pt):(rz p l q).1.length<=1000:=by
 unfold rz
 cases jF p&&(jd l&&jF q)
 ·exact Nat.zero_le _
 ·exact vC _ (Nat.le_trans (nX p l q 8 0) (by decide))
def fu(l:Ln):Pt:=yg (aq (l.1+4)) (ur (KH (l.1+4)) l.2 (pU (l.1+4)))
theorem La{l:Ln}(h0:0<=l.1)(h1:l.1<=7)(hl:Bd 131072 10 l.2):Bd 4718592 13 (fu l).1/\Bd 4718592 13 (fu l).2:=by
 have:=E0 (V:=1) (by decide) (el (d:=l.1+4) (by omega) (by omega)) (CR (by decide) hl (vk (d:=l.1+4) (by omega) (by omega)) (Iq (d:=l.1+4) (by omega) (by omega)))
 exact this
theorem M6{l:Ln}(h0:0<=l.1)(h1:l.1<=7)(hl:Bd 131072 10 l.2):nj l=some (fu l)/\jy l=some (fu l):=by
 have hd0:0<=l.1+4:=by omega
 have hd1:l.1+4<16:=by omega
 have hdiv:=xL hl (vk hd0 hd1) (by decide) (by decide) (by decide) (by decide) (by decide) (by decide)
 rw[Nq hd0 hd1]at hdiv
 have hb:=CR (by decide) hl (vk hd0 hd1) (Iq hd0 hd1)
 obtain⟨v1,v2⟩:=el hd0 hd1
 have hw:IntKind.wrap .i64 (l.1+4)=l.1+4:=aD (by omega) (by omega)
 constructor
 ·rw[nj,qT,hw,(nH hd0 hd1).1]
  simp only[Option.bind_some,aM,cC,aX,bX]
  rw[MT hd0 hd1,Option.bind_some,hdiv.1,Option.bind_some]
  try simp only
  rw[(gB hb v1 (by decide) (by decide) (by decide) (by decide)).1,Option.bind_some,(gB hb v2 (by decide) (by decide) (by decide) (by decide)).1,Option.bind_some,Jf,Jf _ (aq (l.1+4)).2]
  rfl
 ·rw[jy,lp,bv,cM]
  try simp only
  rw[hw,(nH hd0 hd1).2]
  simp only[Option.bind_some]
  rw[Mx hd0 hd1,Option.bind_some,hdiv.2,Option.bind_some]
  try simp only
  rw[LG (el hd0 hd1) hb (by decide) (by decide) (by decide) (by decide)]
  rfl
end Go.Proofs.YtjkljnflaifbhaaGreatDoor
