/- No conditions. -/
import Derived.Test.YtjkljnflaifbhaaGreatDoorZ3b
namespace Go.Proofs.YtjkljnflaifbhaaGreatDoor
open Go.Vai
def SZ(l:Ln)(p:Pt):Nm:=qM (oG (fo (l.1+4)) p) l.2
theorem aaI{V:Int}{κ:Nat}{l:Ln}{p:Pt}(h0:0<=l.1)(h1:l.1<=7)(hl:Bd 131072 10 l.2)(hV:0<=V)(hκ:10<=κ)(hκ':κ<=50)(hp:Bd V κ p.1/\Bd V κ p.2)(h:(131072+6*V)*2^κ<=4611686018427387904):
 qb l p=ff (SZ l p)/\jx l p=ee (SZ l p):=by
 have hd0:0<=l.1+4:=by omega
 have hd1:l.1+4<16:=by omega
 have hpp:(0:Int)<2^κ:=Int.pow_pos (by decide)
 have e1:(131072+6*V)*2^κ=131072*2^κ+6*V*2^κ:=Int.add_mul ..
 have okdot:=Ak (d:=l.1+4) hd0 hd1 hV (by omega) hp (by omega)
 have hdot:=qT (V:=1) (by decide) (gv hd0 hd1) hp
 have hdot:Bd (6*V) κ (oG (fo (l.1+4)) p):=hdot.mono (by omega) (by omega)
 have hmax:max κ 10=κ:=by omega
 have s:=ri hdot hl (by omega) (by decide) (by omega) (by decide) (by rw[hmax,Int.add_comm];exact h)
 have hw:IntKind.wrap .i64 (l.1+4)=l.1+4:=aM (by omega) (by omega)
 constructor
 ·rw[qb,tE,hw,okdot.1,Option.bind_some,s.1,Option.bind_some]
  show(ff (SZ l p)).bind (fun y=>some y)=_
  cases ff (SZ l p)<;>rfl
 ·rw[jx,qp,ca,dF]
  try simp only
  rw[hw,(uJ hd0 hd1).2]
  simp only[Option.bind_some]
  rw[okdot.2,Option.bind_some,s.2,Option.bind_some]
  show(ee (SZ l p)).bind (fun y=>some y)=_
  cases ee (SZ l p)<;>rfl
def Et(p:Pt)(l:Ln)(q:Pt)(d:Int):Bool:=decide ((SZ l (Ee (Ah q d) p)).1=0/\(SZ l (Ee (Ah q d) p)).2.1=0)
def iN(p:Pt)(l:Ln)(q:Pt):Nat->Int->List Ln
 |0,_=>[]
 |n+1,d=>cond (Et p l q d) [Ah q d] []++iN p l q n (d+1)
theorem EG(p:Pt)(l:Ln)(q:Pt):∀(n:Nat) (d:Int) (x:Ln),x∈iN p l q n d->∃e,d<=e/\e<d+n/\x=Ah q e
 |0,d,x,h=>(List.not_mem_nil h).elim
 |n+1,d,x,h=>by
  rcases List.mem_append.1 h with h|h
  ·cases hb:Et p l q d
   ·rw[hb]at h;cases h
   ·rw[hb,cond_true]at h
    simp only[List.mem_cons,List.not_mem_nil,or_false]at h
    exact⟨d,Int.le_refl _,by omega,h⟩
  ·obtain⟨e,h1,h2,h3⟩:=EG p l q n (d+1) x h
   exact⟨e,by omega,by omega,h3⟩
theorem um(p:Pt)(l:Ln)(q:Pt):∀(n:Nat) (d:Int),(iN p l q n d).length<=n
 |0,d=>Nat.le_refl _
 |n+1,d=>by
  have:=um p l q n (d+1)
  simp only[iN,List.length_append]
  cases Et p l q d<;>simp only[cond_true,cond_false,List.length_nil,List.length_singleton]<;>omega
theorem GO(p:Pt)(l:Ln)(q:Pt):∀(n:Nat) (d:Int),Pf (iN p l q n d)
 |0,d=>trivial
 |n+1,d=>by
  have ih:=GO p l q n (d+1)
  simp only[iN]
  cases Et p l q d
  ·exact ih
  ·simp only[cond_true,List.singleton_append]
   refine R8 (fun z hz=> ?_) ih
   obtain⟨e,h1,_,rfl⟩:=EG p l q n (d+1) z hz
   show d<e
   omega
theorem Xt{q:Pt}(hq:ny q=true){d:Int}(h0:0<=d)(h1:d<8):Bd 786432 10 (Ah q d).2:=
 qT (V:=1) (by decide) (gv (d:=d+4) (by omega) (by omega)) (iQ hq)
section
variable {p q:Pt} {l:Ln} (hp:ny p=true) (hl:lY l=true) (hq:ny q=true)
include hp hl hq
theorem QY{d:Int}(h0:0<=d)(h1:d<8):mf (Ah q d) p l=some (Et p l q d)/\
 ∃y s,dJ (Ah q d) p=some y/\jx l y=some s/\(s==0)=Et p l q d:=by
 obtain⟨l0,l1,lb,_⟩:=jk hl
 have bp:=iQ hp
 have bl:=Xt hq h0 h1
 have d0:0<=(Ah q d).1:=h0
 have d1:(Ah q d).1<=7:=by show d<=7;omega
 have hr:=CT d0 d1 bl (by decide) (by decide) (by decide) bp (by decide)
 have hrb:=Ip d0 d1 bl (by decide) (by decide) bp
 have hs:=aaI l0 l1 lb (by decide) (by decide) (by decide) hrb (by decide)
 constructor
 ·rw[mf,pC,hr.1,Option.bind_some,hs.1]
  obtain⟨s,k1,k2⟩:=Ta (SZ l (Ee (Ah q d) p))
  rw[k1,Option.bind_some]
  congr 1
  unfold Et
  rw[show(s==0)=decide (s=0)from rfl]
  by_cases h:s=0
  ·rw[aT h,aT (k2.1 h)]
  ·rw[aW h,aW (fun e=>h (k2.2 e))]
 ·obtain⟨s,k1,k2⟩:=SS (SZ l (Ee (Ah q d) p))
  refine⟨_,s,hr.2,by rw[hs.2,k1], ?_⟩
  unfold Et
  rw[show(s==0)=decide (s=0)from rfl]
  by_cases h:s=0
  ·rw[aT h,aT (k2.1 h)]
  ·rw[aW h,aW (fun e=>h (k2.2 e))]
theorem GQ:∀(n:Nat) (d:Int) (acc:List Ln),0<=d->d+n=8->acc.length<=900-n->
 iq (ka acc d p.1.1 p.1.2.1 p.1.2.2 p.2.1 p.2.2.1 p.2.2.2 l.1 l.2.1 l.2.2.1 l.2.2.2 q.1.1 q.1.2.1 q.1.2.2 q.2.1 q.2.2.1 q.2.2.2)=some (.inl (uM (acc++iN p l q n d)))
 |0,d,acc,h0,h1,ha=>by
  rw[wL,fG,aW (by omega),cond_false]
  simp only[iN,List.append_nil];rfl
 |n+1,d,acc,h0,h1,ha=>by
  have IH:=fun acc'=>GQ n (d+1) acc' (by omega) (by omega)
  have bq:=iQ hq
  have hal:=(QY hp hl hq h0 (by omega)).1
  have k1:decide ((acc.length+1)*32<=70368744177664)=true:=aT (by omega)
  have k2:decide (acc.length+1<=70368744177664)=true:=aT (by omega)
  rw[wL,fG,aT (by omega),cond_true,aM (n:=d+1) (by omega) (by omega)]
  simp only[bP,fm,bj,dH,bY,cV,Option.bind_some]
  have ht:=yK (d:=d) (by omega) (by omega) (by decide) (by decide) bq (by decide)
  rw[show d%8=d by omega]at ht
  rw[ht,Option.bind_some,hal,Option.bind_some]
  simp only[iN]
  cases Et p l q d
  ·exact IH acc (by omega)
  ·simp only[cond_true,List.length_singleton,k1,k2]
   rw[<-List.append_assoc]
   exact IH (acc++ [Ah q d]) (by simp only[List.length_append,List.length_singleton];omega)
theorem GP:∀(n:Nat) (d:Int) (acc:List Ln),0<=d->d+n=8->acc.length<=900-n->
 ik (jZ acc d p.1.1 p.1.2.1 p.1.2.2 p.2.1 p.2.2.1 p.2.2.2 l.1 l.2.1 l.2.2.1 l.2.2.2 q.1.1 q.1.2.1 q.1.2.2 q.2.1 q.2.2.1 q.2.2.2)=some (.inl (uL (acc++iN p l q n d)))
 |0,d,acc,h0,h1,ha=>by
  rw[wK,fF,aW (by omega),cond_false]
  simp only[iN,List.append_nil];rfl
 |n+1,d,acc,h0,h1,ha=>by
  have IH:=fun acc'=>GP n (d+1) acc' (by omega) (by omega)
  have bq:=iQ hq
  obtain⟨y,s,e1,e2,e3⟩:=(QY hp hl hq h0 (show d<8 by omega)).2
  have k1:decide ((acc.length+1)*32<=70368744177664)=true:=aT (by omega)
  have k2:decide (acc.length+1<=70368744177664)=true:=aT (by omega)
  rw[wK,fF,aT (by omega),cond_true,aM (n:=d+1) (by omega) (by omega)]
  have ht:=yr (d:=d) h0 (by omega) (by decide) (by decide) bq (by decide)
  have ht':fX ((q.1.1,(q.1.2.1,q.1.2.2)),(q.2.1,(q.2.2.1,q.2.2.2))) d=some (Ah q d):=ht
  have e1':dJ (Ah q d) ((p.1.1,(p.1.2.1,p.1.2.2)),(p.2.1,(p.2.2.1,p.2.2.2)))=some y:=e1
  have e2':jx (l.1,(l.2.1,(l.2.2.1,l.2.2.2))) y=some s:=e2
  rw[ht',Option.bind_some,e1',Option.bind_some,e2',Option.bind_some,e3]
  simp only[iN]
  cases Et p l q d
  ·exact IH acc (by omega)
  ·simp only[cond_true,List.length_singleton,k1,k2]
   rw[<-List.append_assoc]
   exact IH (acc++ [Ah q d]) (by simp only[List.length_append,List.length_singleton];omega)
end
theorem Ka{p q:Pt}{l:Ln}(hq:ny q=true)(x:Ln)(hx:x∈iN p l q 8 0):X7 x/\0<=x.1/\x.1<=7:=by
 obtain⟨e,h1,h2,rfl⟩:=EG p l q 8 0 x hx
 have hb:=Xt hq (show 0<=e by omega) (by omega)
 have hi:=BY hb (by decide) (by decide)
 exact⟨⟨kM _ _,by have:=hb.2.1;exact Int.le_trans this (by decide),hi.1,hi.2⟩,by show 0<=e;omega,by show e<=7;omega⟩
def Oc(p:Pt)(l:Ln)(q:Pt):List Ln×Int:=cond (ny p&&(lY l&&ny q)) (Nf (iN p l q 8 0)) ([],1)
theorem Xd(p:Pt)(l:Ln)(q:Pt):gG p l q=some (Oc p l q):=by
 rw[gG,lW,fE,fk,fk]
 unfold Oc
 simp only[Option.bind_some]
 cases hp:ny p
 ·rfl
 cases hl:lY l
 ·rfl
 cases hq:ny q
 ·rfl
 simp only[Bool.not_true,cond_false,Bool.and_self,cond_true]
 rw[GQ hp hl hq 8 0 [] (by decide) (by decide) (by simp),List.nil_append]
 have h:=QK (iN p l q 8 0) (Nat.le_trans (um p l q 8 0) (by decide)) (fun x hx=>(Ka hq x hx).1)
 show(fq (iN p l q 8 0)).bind _=_
 rw[h];rfl
theorem WW(p:Pt)(l:Ln)(q:Pt):gB p l q=some (Oc p l q):=by
 rw[gB,lS,eS,fD,fD]
 unfold Oc
 simp only[Option.bind_some]
 cases hp:ny p
 ·rfl
 cases hl:lY l
 ·rfl
 cases hq:ny q
 ·rfl
 simp only[Bool.not_true,cond_false,Bool.and_self,cond_true]
 rw[GP hp hl hq 8 0 [] (by decide) (by decide) (by simp),List.nil_append]
 have h:=BC (iN p l q 8 0) (Nat.le_trans (um p l q 8 0) (by decide)) (fun x hx=>(Ka hq x hx).2) (GO p l q 8 0)
 show cond (decide True) ((cK (iN p l q 8 0)).bind _) none=_
 rw[aT trivial,cond_true,h];rfl
theorem ZZ(p:Pt)(l:Ln)(q:Pt):(Oc p l q).1.length<=1000:=by
 unfold Oc
 cases ny p&&(lY l&&ny q)
 ·exact Nat.zero_le _
 ·exact Dp _ (Nat.le_trans (um p l q 8 0) (by decide))
def JO(l:Ln):Pt:=SB (fo (l.1+4)) (Hw (sqT (l.1+4)) l.2 (UZ (l.1+4)))
theorem Vw{l:Ln}(h0:0<=l.1)(h1:l.1<=7)(hl:Bd 131072 10 l.2):Bd 4718592 13 (JO l).1/\Bd 4718592 13 (JO l).2:=by
 have:=OA (V:=1) (by decide) (gv (d:=l.1+4) (by omega) (by omega)) (LA (by decide) hl (EM (d:=l.1+4) (by omega) (by omega)) (Sy (d:=l.1+4) (by omega) (by omega)))
 exact this
theorem Xo{l:Ln}(h0:0<=l.1)(h1:l.1<=7)(hl:Bd 131072 10 l.2):qa l=some (JO l)/\no l=some (JO l):=by
 have hd0:0<=l.1+4:=by omega
 have hd1:l.1+4<16:=by omega
 have hdiv:=F8 hl (EM hd0 hd1) (by decide) (by decide) (by decide) (by decide) (by decide) (by decide)
 rw[XE hd0 hd1]at hdiv
 have hb:=LA (by decide) hl (EM hd0 hd1) (Sy hd0 hd1)
 obtain⟨v1,v2⟩:=gv hd0 hd1
 have hw:IntKind.wrap .i64 (l.1+4)=l.1+4:=aM (by omega) (by omega)
 constructor
 ·rw[qa,tB,hw,(uJ hd0 hd1).1]
  simp only[Option.bind_some,bj,dH,bY,cV]
  rw[W8 hd0 hd1,Option.bind_some,hdiv.1,Option.bind_some]
  try simp only
  rw[(lP hb v1 (by decide) (by decide) (by decide) (by decide)).1,Option.bind_some,(lP hb v2 (by decide) (by decide) (by decide) (by decide)).1,Option.bind_some,TB,TB _ (fo (l.1+4)).2]
  rfl
 ·rw[no,qn,ca,dF]
  try simp only
  rw[hw,(uJ hd0 hd1).2]
  simp only[Option.bind_some]
  rw[WS hd0 hd1,Option.bind_some,hdiv.2,Option.bind_some]
  try simp only
  rw[Wd (gv hd0 hd1) hb (by decide) (by decide) (by decide) (by decide)]
  rfl
end Go.Proofs.YtjkljnflaifbhaaGreatDoor
