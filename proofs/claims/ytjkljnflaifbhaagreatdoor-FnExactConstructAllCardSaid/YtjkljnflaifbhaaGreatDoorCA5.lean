/- No conditions. -/
import Derived.Test.YtjkljnflaifbhaaGreatDoorCA1
import Derived.Test.YtjkljnflaifbhaaGreatDoorCA4
import Derived.Test.YtjkljnflaifbhaaGreatDoorVaiW
import Derived.Test.YtjkljnflaifbhaaGreatDoorVaiG
import Derived.Test.YtjkljnflaifbhaaGreatDoorTie
import Derived.Test.YtjkljnflaifbhaaGreatDoorCards
import Derived.LaidMore
import Derived.Lay
import Derived.Stop.Joined
import Derived.SevenTiedAt
namespace Go.Proofs.YtjkljnflaifbhaaGreatDoor
open Go.Vai
theorem afu(l:List It)(c:Cn)(hl:l.length<=1048576)(hn:∀x∈l,x.1.size<=9223372036854775807)(hm:c.1.size<=9223372036854775807)(ha:c.2.2.1.length<=1048576)(hs:∀x∈c.2.2.1,x.size<=9223372036854775807):
 ∃r,gJ l c=some r/\gI l c=some r/\r.1.length<=1000/\∀x∈r.1,x.1.size<=9223372036854775807:=by
 rw[gJ,la,gI,kZ,N3 l hl,Nf l hl hn,Option.bind_some,Option.bind_some]
 cases hi:Ir l
 ·exact⟨_,rfl,rfl,Nat.zero_le _,fun x hx=>by cases hx⟩
 rw[Bool.not_true,cond_false,cond_false,Zj c ha,YQ c hm ha hs,Option.bind_some,Option.bind_some]
 cases hv:Li c
 ·exact⟨_,rfl,rfl,Nat.zero_le _,fun x hx=>by cases hx⟩
 rw[Bool.not_true,cond_false,cond_false]
 obtain⟨nm,k,xs,ch,p,q⟩:=c
 simp only[Li,nv,Bool.and_eq_true,decide_eq_true_eq]at hv
 obtain⟨hv1,⟨hk1,hk2⟩,hx,hv2,hch,hv3⟩:=hv
 have h0:0<=ch:=by
  cases hb:chB k.toNat
  ·rw[hb]at hch;simp only[cond_false,decide_eq_true_eq]at hch;omega
  ·rw[hb]at hch;simp only[cond_true,Bool.and_eq_true,decide_eq_true_eq]at hch;omega
 simp only[Ir,Bool.and_eq_true,decide_eq_true_eq]at hi
 have h40:l.length<=40:=by omega
 simp only at ha hx
 have ef:=find_ok l nm (by omega)
 cases hf:l.findIdx? (fun y=>yK y.1 nm)with
 |some j=>
  rw[hf]at ef
  refine⟨([],4), ?_, ?_,Nat.zero_le _,fun x hx=>by cases hx⟩
  ·rw[mG,ot,wk l nm (by omega),hf]
   simp only[Option.bind_some]
   rw[aR (show((j:Int)>=0) by omega)];rfl
  ·rw[ef]
   simp only[Option.bind_some]
   rw[aR (show((j:Int)>=0) by omega)];rfl
 |none=>
  rw[hf]at ef
  rw[ef]
  simp only[Option.bind_some]
  rw[aW (show¬((-1:Int)>=0) by decide),cond_false]
  by_cases he:l.length=40
  ·refine⟨([],5), ?_, ?_,Nat.zero_le _,fun x hx=>by cases hx⟩
   ·rw[mG,ot,wk l nm (by omega),hf]
    simp only[Option.bind_some]
    rw[aW (show¬((-1:Int)>=0) by decide),cond_false,aR (show((l.length:Nat):Int)>=40 by omega)];rfl
   ·rw[beq_iff_eq.2 (show((l.length:Nat):Int)=40 by omega)];rfl
  ·rw[Vw l hl nm k xs ch p q ha hk1 hk2 hx hf (by omega),Fu l hl nm k xs ch p q ha hk1 hk2 hx,beq_eq_false_iff_ne.2 (show((l.length:Nat):Int)≠40 by omega),cond_false]
   simp only[Option.bind_some]
   have hlen:=Wf l k xs
   generalize JP l k xs=R at hlen⊢
   by_cases hR:R.2=0
   ·have hb:(R.2 !=0)=false:=by simp[hR]
    rw[hb,cond_false,cond_false]
    obtain⟨y,code,m1,m2⟩:=aaI (nm,(k,(xs,(ch,(p,q))))) R.1 hk1 hk2 ((hlen hR).trans hx) h0
    rw[m1,m2]
    simp only[Sm,Option.bind_some]
    cases hc:code !=0
    ·simp only[cond_false]
     have ec:bd l=some l:=by rw[bd,aR (by omega)];rfl
     refine⟨(l++ [(nm,y.2)],0),rfl, ?_,by simp;omega,fun x hx=>by
      rcases List.mem_append.1 hx with h|h
      ·exact hn x h
      ·cases List.mem_singleton.1 h;exact hm⟩
     rw[ec]
     simp only[bne_self_eq_false,cond_false,Option.bind_some,List.length_singleton]
     rw[aR (by omega),aR (by omega)];rfl
    ·simp only[cond_true,hc]
     exact⟨_,rfl,rfl,Nat.zero_le _,fun x hx=>by cases hx⟩
   ·have hb:(R.2 !=0)=true:=by simp[hR]
    rw[hb]
    exact⟨_,rfl,rfl,Nat.zero_le _,fun x hx=>by cases hx⟩
inductive afR where
 |bad (i code:Int) (o:List It)
 |good (o:List It)
theorem Yl(m:List Cn)(hm:m.length<=1048576)(hc:∀c∈m,c.1.size<=9223372036854775807/\c.2.2.1.length<=1048576/\∀x∈c.2.2.1,x.size<=9223372036854775807):∀(r p:List Cn) (o:List It),m=p++r->o.length<=1048576->(∀x∈o,x.1.size<=9223372036854775807)->
 ∃f:afR,(match f with| .bad _ _ _=>True| .good o'=>o'.length<=1048576)/\
  gQ (lJ m o ((p.length:Nat):Int))=some (match f with| .bad i c o'=>.inl (yl m [] i c o')| .good o'=>.inr (.inl (ym m o')))/\
  gP (lI m o m ((m.length:Nat):Int) ((p.length:Nat):Int))=some (match f with| .bad i c o'=>.inl (yj m [] i c o')| .good o'=>.inr (.inl (yk m o')))
 |[],p,o,h,ho,_=>⟨.good o,ho,by
  rw[sQ,fy,qJ h,cond_false];rfl,by
  rw[sP,fw,qJ h,cond_false];rfl⟩
 |c::r,p,o,h,ho,hn=>by
  have hcc:=hc c (by rw[h];simp)
  obtain⟨y,y1,y2,y3,y4⟩:=afu o c ho hn hcc.1 hcc.2.1 hcc.2.2
  by_cases h0:y.2=0
  ·obtain⟨f,f0,f1,f2⟩:=Yl m hm hc r (p++ [c]) y.1 (Ya h) (by omega) y4
   refine⟨f,f0, ?_, ?_⟩
   ·rw[sQ,fy,uM h,cond_true,ix h,Option.bind_some,y1,Option.bind_some,h0,bne_self_eq_false,cond_false,wr h (by omega)]
    exact f1
   ·rw[sP,fw,uM h,cond_true,ix h,Option.bind_some,y2,Option.bind_some,h0,bne_self_eq_false,cond_false,wr h (by omega)]
    exact f2
  ·have hb:(y.2 !=0)=true:=by simpa using h0
   refine⟨.bad ((p.length:Nat):Int) y.2 o,trivial, ?_, ?_⟩
   ·rw[sQ,fy,uM h,cond_true,ix h,Option.bind_some,y1,Option.bind_some,hb,cond_true];rfl
   ·rw[sP,fw,uM h,cond_true,ix h,Option.bind_some,y2,Option.bind_some,hb,cond_true];rfl
theorem adq(l:List It)(m:List Cn)(hl:l.length<=1048576)(hn:∀x∈l,x.1.size<=9223372036854775807)(hm:m.length<=1048576)(hc:∀c∈m,c.1.size<=9223372036854775807/\c.2.2.1.length<=1048576/\∀x∈c.2.2.1,x.size<=9223372036854775807):
 ∃r,iY l m=some r/\iW l m=some r/\r.1.length<=1048576:=by
 rw[iY,nZ,iW,nW,N3 l hl,Nf l hl hn,Option.bind_some,Option.bind_some]
 cases hi:Ir l
 ·exact⟨_,rfl,rfl,Nat.zero_le _⟩
 rw[Bool.not_true,cond_false,cond_false]
 by_cases h30:((m.length:Nat):Int)>30
 ·rw[aR h30]
  exact⟨_,rfl,rfl,Nat.zero_le _⟩
 rw[aW h30,cond_false,cond_false,aR (by simp;omega),cond_true,aR (by simp;omega),cond_true]
 have ec:bd l=some l:=by rw[bd,aR (by omega)];rfl
 rw[ec,Option.bind_some,List.nil_append]
 obtain⟨f,f0,f1,f2⟩:=Yl m hm hc m [] l rfl hl hn
 have f1':gQ (lJ m l 0)=_:=f1
 have f2':gP (lI m l m ((m.length:Nat):Int) 0)=_:=f2
 rw[f1',f2']
 cases f with
 |bad i c o=>exact⟨_,rfl,rfl,Nat.zero_le _⟩
 |good o=>exact⟨(o,((m.length:Nat):Int),0),rfl,rfl,f0⟩
theorem Wl(l:List Cn)(hl:l.length<=1048576)(ha:∀c∈l,c.2.2.1.length<=1048576):∀(r p:List Cn),l=p++r->
 fm (jq l l ((p.length:Nat):Int))=some (.inr (.inl uy))
 |[],p,h=>by
  rw[ws,fk,qJ h,cond_false];rfl
 |x::r,p,h=>by
  rw[ws,fk,uM h,cond_true,ix h]
  simp only[Option.bind_some,ZW x (ha x (by rw[h];simp)),Bool.not_true,cond_false]
  rw[wr h (by omega)]
  exact Wl l hl ha r (p++ [x]) (Ya h)
theorem abk(l:List Cn)(hl:l.length<=1048576)(ha:∀c∈l,c.2.2.1.length<=1048576):kB l l=some true:=by
 have h':fm (jq l l 0)=_:=Wl l hl ha l [] rfl
 rw[kB,kO,bne_self_eq_false,cond_false,h'];rfl
def X7:List Cn->Nat
 |[]=>0
 |c::r=>c.2.2.1.length+X7 r
theorem ac9(l:List ByteArray)(hl:l.length<=1048576)(hn:∀x∈l,x.size<=9223372036854775807):∀(r p:List ByteArray) (k:Int),l=p++r->0<=k->k<=1048576->
 (∃a b,gf (jM l k ((p.length:Nat):Int))=some (.inl (Bq a b))/\b<0)\/∃a,gf (jM l k ((p.length:Nat):Int))=some (.inr (.inl (Br a)))/\0<=a/\a<=k
 |[],p,k,h,h0,h1=>.inr ⟨k,by
  rw[CY,jT,qJ h,cond_false];rfl,h0,Int.le_refl _⟩
 |x::r,p,k,h,h0,h1=>by
  have hx:=hn x (by rw[h];simp)
  have hp:=Xz h
  rw[CY,jT,uM h,cond_true,ix h,Option.bind_some,aM (n:=k-x.size) (by omega) (by omega)]
  by_cases hk:k<x.size
  ·rw[aR (by omega),cond_true]
   exact .inl ⟨_,_,rfl,by omega⟩
  ·rw[aW (by omega),cond_false,wr h (by omega)]
   rcases ac9 l hl hn r (p++ [x]) (k-(x.size:Int)) (Ya h) (by omega) (by omega)with h1|⟨a,h1,h2,h3⟩
   ·exact .inl h1
   ·exact .inr ⟨a,h1,h2,by omega⟩
theorem afi(c:Cn)(h1:c.1.size<=9223372036854775807)(h2:c.2.2.1.length<=9223372036854775807)(h3:∀x∈c.2.2.1,x.size<=9223372036854775807)(k:Int)(k0:0<=k)(k1:k<=1048576):
 ∃y,jj c k=some y/\(y<0\/(0<=y/\y+(c.2.2.1.length:Int)<=k)):=by
 rw[jj,lN,aM (n:=k-(c.1.size:Int)) (by omega) (by omega)]
 by_cases h:k-c.1.size<0
 ·rw[aR h];exact⟨-1,rfl, .inl (by omega)⟩
 ·rw[aW h,cond_false]
  have hs:∃y,oF c.2.2.1 (k-(c.1.size:Int))=some y/\(y<0\/(0<=y/\y+(c.2.2.1.length:Int)<=k)):=by
   rw[oF,rW,aM (n:=k-(c.1.size:Int)-(c.2.2.1.length:Int)) (by omega) (by omega)]
   by_cases h':k-(c.1.size:Int)-(c.2.2.1.length:Int)<0
   ·rw[aR h'];exact⟨-1,rfl, .inl (by omega)⟩
   ·rw[aW h',cond_false]
    rcases ac9 c.2.2.1 (by omega) h3 c.2.2.1 [] (k-(c.1.size:Int)-(c.2.2.1.length:Int)) rfl (by omega) (by omega)with⟨a,b,hy,hb⟩|⟨a,hy,ha0,ha1⟩
    ·have hy':gf (jM c.2.2.1 (k-(c.1.size:Int)-(c.2.2.1.length:Int)) 0)=_:=hy
     rw[hy'];exact⟨b,rfl, .inl hb⟩
    ·have hy':gf (jM c.2.2.1 (k-(c.1.size:Int)-(c.2.2.1.length:Int)) 0)=_:=hy
     rw[hy'];exact⟨a,rfl, .inr ⟨ha0,by omega⟩⟩
  obtain⟨y,hy,hc⟩:=hs
  rw[hy,Option.bind_some]
  by_cases hn:y<0
  ·rw[aR hn];exact⟨-1,rfl, .inl (by omega)⟩
  ·rw[aW hn];exact⟨y,rfl,hc⟩
theorem W3(l:List Cn)(hl:l.length<=1048576)(hc:∀c∈l,c.1.size<=9223372036854775807/\c.2.2.1.length<=9223372036854775807/\∀x∈c.2.2.1,x.size<=9223372036854775807):∀(r p:List Cn) (k:Int),l=p++r->0<=k->k<=1048576->
 (∃a b,dh (eY l k ((p.length:Nat):Int))=some (.inl (uz a b))/\b<0)\/∃a,dh (eY l k ((p.length:Nat):Int))=some (.inr (.inl (uA a)))/\0<=a/\(X7 r:Int)<=k/\∀c∈r,c.2.2.1.length<=1048576
 |[],p,k,h,h0,h1=>.inr ⟨k,by
  rw[wt,fl,qJ h,cond_false];rfl,h0,by simp[X7];omega,fun c hc=>by cases hc⟩
 |x::r,p,k,h,h0,h1=>by
  have hx:=hc x (by rw[h];simp)
  have hp:=Xz h
  obtain⟨y,ey,hy⟩:=afi x hx.1 hx.2.1 hx.2.2 k h0 h1
  rw[wt,fl,uM h,cond_true,ix h,Option.bind_some,ey,Option.bind_some]
  by_cases hk:y<0
  ·rw[aR hk,cond_true]
   exact .inl ⟨_,_,rfl,by omega⟩
  ·obtain⟨hy0,hy1⟩:=hy.resolve_left hk
   rw[aW hk,cond_false,wr h (by omega)]
   rcases W3 l hl hc r (p++ [x]) y (Ya h) hy0 (by omega)with h1|⟨a,h1,h2,h3,h4⟩
   ·exact .inl h1
   ·refine .inr ⟨a,h1,h2,by simp only[X7];omega,fun c hc=> ?_⟩
    rcases List.mem_cons.1 hc with e|e
    ·rw[e];omega
    ·exact h4 c e
theorem ad7(l:List Cn)(hl:l.length<=9223372036854775807)(hc:∀c∈l,c.1.size<=9223372036854775807/\c.2.2.1.length<=9223372036854775807/\∀x∈c.2.2.1,x.size<=9223372036854775807)(k:Int)(h0:0<=k)(h1:k<=1048576):
 ∃y,iL l k=some y/\(y<0\/(l.length<=1048576/\X7 l<=1048576/\∀c∈l,c.2.2.1.length<=1048576)):=by
 rw[iL,kP,aM (n:=k-(l.length:Int)) (by omega) (by omega)]
 by_cases h:k-(l.length:Int)<0
 ·rw[aR h];exact⟨-1,rfl, .inl (by omega)⟩
 ·rw[aW h,cond_false]
  rcases W3 l (by omega) hc l [] (k-(l.length:Int)) rfl (by omega) (by omega)with⟨a,b,hy,hb⟩|⟨a,hy,ha,hb,hd⟩
  ·have h1':dh (eY l (k-(l.length:Int)) 0)=_:=hy
   rw[h1'];exact⟨b,rfl, .inl hb⟩
  ·have h1':dh (eY l (k-(l.length:Int)) 0)=_:=hy
   rw[h1'];exact⟨a,rfl, .inr ⟨by omega,by omega,hd⟩⟩
end Go.Proofs.YtjkljnflaifbhaaGreatDoor
namespace Go.Proofs.YtjkljnflaifbhaaGreatDoor
open Go.Vai Go.RowKit
theorem aer:∀l:List Cn,Di l=X7 l
 |[]=>rfl
 |c::r=>by rw[Di,X7,aer r]
def W9(w:World):Prop:=∀h cs,C0.glob h=some cs->∃vs e fz,w.heap[h]?=some (.cells vs e fz)/\cs=vs.toList.map .v
def Si(w:World)(t:Ty)(x:t.T)(vs:List Value):Prop:=ER (fun n=>n<w.heap.size) w t x vs
theorem Si.at{w wr:World}(hG:Grown (fun n=>w.heap.size<=n) w wr){t:Ty}{x:t.T}{vs:List Value}(h:Si w t x vs):Si wr t x vs:=
 ER.mono (fun n hn=>⟨Nat.lt_of_lt_of_le hn hG.size,hG.block n hn (by omega)⟩) h
theorem W9.at{w wr:World}(hG:Grown (fun n=>w.heap.size<=n) w wr)(h:W9 w):W9 wr:=by
 intro k cs hc
 obtain⟨vs,e,fz,h1,h2⟩:=h k cs hc
 have:=(Array.getElem?_eq_some_iff.1 h1).1
 exact⟨vs,e,fz,by rw[hG.block k this (by omega)];exact h1,h2⟩
theorem W9.all{w:World}(h:W9 w):∀k cs,C0.glob k=some cs->k<w.heap.size/\∃vs e fz,w.heap[k]?=some (.cells vs e fz)/\cs=vs.toList.map .v:=by
 intro k cs hc
 obtain⟨vs,e,fz,h1,h2⟩:=h k cs hc
 exact⟨(Array.getElem?_eq_some_iff.1 h1).1,vs,e,fz,h1,h2⟩
theorem Si.fv{w:World}{t:Ty}{l:List t.T}{v:Value}(h:Si w (.slice t) l [v]):FV (X9 [] (fun n=>n<w.heap.size) w) w ⟨false,[.sl t l]⟩ v [[]]:=aeG (fun _ hn=>⟨hn,List.not_mem_nil⟩) h
theorem Own.era{w:World}{t:Ty}{l:List t.T}{v:Value}{m:List Nat}(hf:t.isFlat=true)(h:Own w t l v m):Si w (.slice t) l [v]:=by
 obtain⟨A,cap,h1,h2,h4,h3⟩:=h
 have h:Own w t l v m:=⟨A,cap,h1,h2,h4,h3⟩
 exact ER.mono (fun n hn=>⟨h4 n hn,rfl⟩) (h.er hf)
theorem tL.era{w:World}{N n:Nat}{lo:Nat->Nat}{l:List Cn}{arr:Array Value}{e:TypeId}(h:tL w N n lo yC l arr e)(hn:l.length=n):Si w (.slice yC) l [.slice (some ⟨N,0,none⟩) n n]:=
 ER.mono (fun _ hb=>⟨hb.2,rfl⟩) (tL.er (t:=yC) (l:=l) h rfl hn)
section
variable {w:World} (hT:W9 w)
include hT
theorem afy{l:List It}{v:Value}{k y:Int}(h:Si w (.slice yI) l [v])(hy:rl l k=some y):Calls Tryz.prog 12 #[v, .int .i64 k] w fun e w'=>e= .returned (.int .i64 y)/\Grown (fun _=>False) w w':=
 Al (C:=C0) Td rfl (args:=[v, .int .i64 k]) (vals:=[⟨false,[.sl yI l]⟩,⟨false,[.v (.int .i64 k)]⟩]) (sR.cons h.fv (sR.cons (Zu _) sR.nil)) rfl hT.all (x:=y) (ex (ax:=[.val false (.slice yI), .val false (.int .i64)]) (z:=(l,k,())) (by kernel_rfl) hy) rfl
theorem afx{l:List Cn}{v:Value}{k y:Int}(h:Si w (.slice yC) l [v])(hy:iL l k=some y):Calls Tryz.prog 21 #[v, .int .i64 k] w fun e w'=>e= .returned (.int .i64 y)/\Grown (fun _=>False) w w':=
 Al (C:=C0) HV rfl (args:=[v, .int .i64 k]) (vals:=[⟨false,[.sl yC l]⟩,⟨false,[.v (.int .i64 k)]⟩]) (sR.cons h.fv (sR.cons (Zu _) sR.nil)) rfl hT.all (x:=y) (ex (ax:=[.val false (.slice yC), .val false (.int .i64)]) (z:=(l,k,())) (by kernel_rfl) hy) rfl
theorem aaw{l:List It}{v:Value}(h:Si w (.slice yI) l [v])(hl:l.length<=1048576):Calls Tryz.prog 15 #[v] w fun e w'=>∃v' m,e= .returned v'/\Grown (fun _=>False) w w'/\Own w' yI l v' m/\m.Nodup/\∀b,b∈m->w.heap.size<=b:=
 abg (C:=C0) Te rfl (args:=[v]) (vals:=[⟨false,[.sl yI l]⟩]) (sR.cons h.fv sR.nil) rfl hT.all (x:=l) (ex (ax:=[.val false (.slice yI)]) (z:=(l,())) (by kernel_rfl) (Sv l hl)) (t:=yI) rfl rfl
theorem aav{l:List Cn}{v:Value}(h:Si w (.slice yC) l [v])(hl:l.length<=1048576)(ha:∀c∈l,c.2.2.1.length<=1048576):
 Calls Tryz.prog 23 #[v] w fun e w'=>e= .returned (.slice (some ⟨w.heap.size,0,none⟩) l.length l.length)/\Grown (fun _=>False) w w'/\∃lo arr,tL w' w.heap.size l.length lo yC l arr 30:=
 afl (I:=fun n=>n<w.heap.size) (fun _ h=>h) hT.all h hl ha
theorem aeB{l:List It}{m:List Cn}{v u:Value}{r:List It×Int×Int}(h:Si w (.slice yI) l [v])(h':Si w (.slice yC) m [u])(hr:iY l m=some r):
 Calls Tryz.prog 22 #[v,u] w fun e w'=>∃v' m',e= .returned (.tuple #[v', .int .i64 r.2.1, .int .i64 r.2.2])/\Grown (fun _=>False) w w'/\Own w' yI r.1 v' m'/\m'.Nodup/\∀b,b∈m'->w.heap.size<=b:=
 Ub (C:=C0) KV rfl (args:=[v,u]) (vals:=[⟨false,[.sl yI l]⟩,⟨false,[.sl yC m]⟩]) (sR.cons h.fv (sR.cons h'.fv sR.nil)) rfl hT.all (x:=r) (ex (ax:=[.val false (.slice yI), .val false (.slice yC)]) (z:=(l,m,())) (by kernel_rfl) hr) (t:=yI) rfl rfl
theorem acf{l:List It}{m:List Cn}{v u:Value}{r:List It×Int×Int}(h:Si w (.slice yI) l [v])(h':Si w (.slice yC) m [u])(hr:iW l m=some r):
 Calls Tryz.prog 24 #[v,u] w fun e w'=>∃v' m',e= .returned (.tuple #[v', .int .i64 r.2.1, .int .i64 r.2.2])/\Grown (fun _=>False) w w'/\Own w' yI r.1 v' m'/\m'.Nodup/\∀b,b∈m'->w.heap.size<=b:=
 Ub (C:=C0) KP rfl (args:=[v,u]) (vals:=[⟨false,[.sl yI l]⟩,⟨false,[.sl yC m]⟩]) (sR.cons h.fv (sR.cons h'.fv sR.nil)) rfl hT.all (x:=r) (ex (ax:=[.val false (.slice yI), .val false (.slice yC)]) (z:=(l,m,())) (by kernel_rfl) hr) (t:=yI) rfl rfl
theorem aau{l:List It}{v u:Value}(h:Si w (.slice yI) l [v])(h':Si w (.slice yI) l [u])(hl:l.length<=1048576):Calls Tryz.prog 18 #[v,u] w fun e w'=>e= .returned (.bool true)/\Grown (fun _=>False) w w':=
 Al (C:=C0) Tc rfl (args:=[v,u]) (vals:=[⟨false,[.sl yI l]⟩,⟨false,[.sl yI l]⟩]) (sR.cons h.fv (sR.cons h'.fv sR.nil)) rfl hT.all (x:=true) (ex (ax:=[.val false (.slice yI), .val false (.slice yI)]) (z:=(l,l,())) (by kernel_rfl) (Xo l hl)) rfl
theorem afv{l:List Cn}{v u:Value}(h:Si w (.slice yC) l [v])(h':Si w (.slice yC) l [u])(hl:l.length<=1048576)(ha:∀c∈l,c.2.2.1.length<=1048576):Calls Tryz.prog 25 #[v,u] w fun e w'=>e= .returned (.bool true)/\Grown (fun _=>False) w w':=
 Al (C:=C0) HU rfl (args:=[v,u]) (vals:=[⟨false,[.sl yC l]⟩,⟨false,[.sl yC l]⟩]) (sR.cons h.fv (sR.cons h'.fv sR.nil)) rfl hT.all (x:=true) (ex (ax:=[.val false (.slice yC), .val false (.slice yC)]) (z:=(l,l,())) (by kernel_rfl) (abk l hl ha)) rfl
theorem aed{n:Nat}{v:Value}(h:Si w (.slice yI) (Kr 1 n) [v])(hl:n<=1048576):Calls Tryz.prog 20 #[v, .int .i64 1] w fun e w'=>e= .returned (.int .i64 (1+12*(n:Int)))/\Grown (fun _=>False) w w':=
 Al (C:=C0) PG rfl (args:=[v, .int .i64 1]) (vals:=[⟨false,[.sl yI (Kr 1 n)]⟩,⟨false,[.v (.int .i64 1)]⟩]) (sR.cons h.fv (sR.cons (Zu _) sR.nil)) rfl hT.all (x:=1+12*(n:Int)) (ex (ax:=[.val false (.slice yI), .val false (.int .i64)]) (z:=(Kr 1 n,1,())) (by kernel_rfl) (acv n hl)) rfl
theorem aee{l:List It}{v:Value}{m:List Nat}(ho:Own w yI l v m)(hm:m.Nodup)(hl:l.length<=1048576)(hd:∀k cs,C0.glob k=some cs->k∉m):Calls Tryz.prog 19 #[v, .int .i64 1] w fun e w'=>e= .returned (.int .i64 (1+12*(l.length:Int)))/\Grown (fun n=>n∈m) w w'/\Own w' yI (Kr 1 l.length) v m:=
 Wi (C:=C0) (I:=fun n=>n<w.heap.size) PH rfl (t:=yI) rfl ho hm (fun k cs hc=>⟨(hT.all k cs hc).1,hd k cs hc,(hT.all k cs hc).2⟩) rfl (x:=(1+12*(l.length:Int),Kr 1 l.length)) (ex (ax:=[.io yI, .val false (.int .i64)]) (z:=(l,1,())) (by kernel_rfl) (acK l hl)) rfl (Ks _ _)
end
theorem afw{w w0:World}(hT:W9 w0)(hG:Grown (fun n=>w0.heap.size<=n) w0 w){l:List Cn}{N:Nat}{lo:Nat->Nat}{arr:Array Value}{k:Int}(hD:tL w N l.length lo yC l arr 30)(hN:w0.heap.size<=N)(hl:l.length<=1048576)(ht:X7 l<=1048576)(h0:1<=k)(h1:k<=20000000):
 Calls Tryz.prog 26 #[.slice (some ⟨N,0,none⟩) l.length l.length, .int .i64 k] w fun e w'=>e= .returned (.int .i64 (k+13*(l.length:Int)+(X7 l:Int)))/\Grown (fun n=>N<=n/\n<lo l.length) w w':=by
 rw[<-aer]at ht⊢
 refine acJ (I:=fun n=>n<w0.heap.size) hD hl ht h0 h1 (fun h cs hc=> ?_) (fun n hn=>Nat.lt_of_lt_of_le hn hN)
 obtain⟨k1,_⟩:=hT.all h cs hc
 exact⟨k1,(hT.at hG) h cs hc⟩
end Go.Proofs.YtjkljnflaifbhaaGreatDoor
namespace Go.Proofs.YtjkljnflaifbhaaGreatDoor
open Go.Vai Go.RowKit
theorem aaf{w:World}{t:Ty}{l:List t.T}{v:Value}{m:List Nat}(h:Own w t l v m):∀b,b∈m->b<w.heap.size:=by
 obtain⟨A,cap,h1,h2,h4,h3⟩:=h
 exact h4
set_option maxHeartbeats 0 in
set_option maxRecDepth 1000000 in
theorem aeT{w:World}(hT:W9 w){l:List It}{m:List Cn}{va vb:Value}(hA:Si w (.slice yI) l [va])(hB:Si w (.slice yC) m [vb])
 (hl:l.length<=9223372036854775807) (hn:∀x∈l,x.1.size<=9223372036854775807) (hm:m.length<=9223372036854775807) (hc:∀c∈m,c.1.size<=9223372036854775807/\c.2.2.1.length<=9223372036854775807/\∀x∈c.2.2.1,x.size<=9223372036854775807):
 Calls Tryz.prog 5 #[va,vb] w fun e w'=>e= .returned (.bool true)/\Grown (fun n=>w.heap.size<=n) w w':=by
 have HA:Aside (Si w (.slice yI) l [va]):=hA
 have HB:Aside (Si w (.slice yC) m [vb]):=hB
 have HT:Aside (W9 w):=hT
 have HS:Aside (l.length<=9223372036854775807/\(∀x∈l,x.1.size<=9223372036854775807)/\m.length<=9223372036854775807/\∀c∈m,c.1.size<=9223372036854775807/\c.2.2.1.length<=9223372036854775807/\∀x∈c.2.2.1,x.size<=9223372036854775807):=⟨hl,hn,hm,hc⟩
 clear hA hB hT hl hn hm hc
 have e12:∀args w,(callFunc 12 args).run Tryz.prog w= .ok (.enter 12 args) w:=fun args w=>(nu.of Tryz.func12 (by kernel_rfl) (by kernel_rfl)).run args w
 have e15:∀args w,(callFunc 15 args).run Tryz.prog w= .ok (.enter 15 args) w:=fun args w=>(nu.of Tryz.func15 (by kernel_rfl) (by kernel_rfl)).run args w
 have e18:∀args w,(callFunc 18 args).run Tryz.prog w= .ok (.enter 18 args) w:=fun args w=>(nu.of Tryz.func18 (by kernel_rfl) (by kernel_rfl)).run args w
 have e19:∀args w,(callFunc 19 args).run Tryz.prog w= .ok (.enter 19 args) w:=fun args w=>(nu.of Tryz.func19 (by kernel_rfl) (by kernel_rfl)).run args w
 have e20:∀args w,(callFunc 20 args).run Tryz.prog w= .ok (.enter 20 args) w:=fun args w=>(nu.of Tryz.func20 (by kernel_rfl) (by kernel_rfl)).run args w
 have e21:∀args w,(callFunc 21 args).run Tryz.prog w= .ok (.enter 21 args) w:=fun args w=>(nu.of Tryz.func21 (by kernel_rfl) (by kernel_rfl)).run args w
 have e22:∀args w,(callFunc 22 args).run Tryz.prog w= .ok (.enter 22 args) w:=fun args w=>(nu.of Tryz.func22 (by kernel_rfl) (by kernel_rfl)).run args w
 have e23:∀args w,(callFunc 23 args).run Tryz.prog w= .ok (.enter 23 args) w:=fun args w=>(nu.of Tryz.func23 (by kernel_rfl) (by kernel_rfl)).run args w
 have e24:∀args w,(callFunc 24 args).run Tryz.prog w= .ok (.enter 24 args) w:=fun args w=>(nu.of Tryz.func24 (by kernel_rfl) (by kernel_rfl)).run args w
 have e25:∀args w,(callFunc 25 args).run Tryz.prog w= .ok (.enter 25 args) w:=fun args w=>(nu.of Tryz.func25 (by kernel_rfl) (by kernel_rfl)).run args w
 have e26:∀args w,(callFunc 26 args).run Tryz.prog w= .ok (.enter 26 args) w:=fun args w=>(nu.of Tryz.func26 (by kernel_rfl) (by kernel_rfl)).run args w
 go_enter Tryz.func5,Tryz.ntmps5
 go_wp2_with fail
 obtain⟨y,hy,hy'⟩:=afK l HS.out.1 HS.out.2.1
 refine(afy HT.out HA.out hy).mono ?_
 rintro e1 w1 ⟨rfl,G1⟩
 have K1:Aside (Grown (fun n=>w.heap.size<=n) w w1):=G1.none
 by_cases hy0:y<0
 ·clear e12 e15 e18 e19 e20 e21 e22 e23 e24 e25 e26
  go_wp2_with fail
  go_ret
  exact⟨rfl,K1.out⟩
 obtain⟨hl,hy1,hy2⟩:=hy'.resolve_left hy0
 go_wp2_with fail
 obtain⟨z,hz,hz'⟩:=ad7 m HS.out.2.2.1 HS.out.2.2.2 y hy1 hy2
 refine(afx (HT.out.at K1.out) (HB.out.at K1.out) hz).mono ?_
 rintro e2 w2 ⟨rfl,G2⟩
 have K2:Aside (Grown (fun n=>w.heap.size<=n) w w2):=K1.out.trans G2.none
 by_cases hz0:z<0
 ·clear e12 e15 e18 e19 e20 e21 e22 e23 e24 e25 e26
  go_wp2_with fail
  go_ret
  exact⟨rfl,K2.out⟩
 obtain⟨hm,hmt,hma⟩:=hz'.resolve_left hz0
 have HMA:Aside (∀c∈m,c.2.2.1.length<=1048576):=hma
 obtain⟨⟨r,p,q⟩,hr1,hr2,hr3⟩:=adq l m hl HS.out.2.1 hm (fun c hc=>⟨(HS.out.2.2.2 c hc).1,hma c hc,(HS.out.2.2.2 c hc).2.2⟩)
 have HR:Aside (iY l m=some (r,p,q)/\iW l m=some (r,p,q)):=⟨hr1,hr2⟩
 have hr3:r.length<=1048576:=hr3
 clear hma hr1 hr2 hy hz hy' hz'
 go_wp2_with fail
 refine(aaw (HT.out.at K2.out) (HA.out.at K2.out) hl).mono ?_
 rintro e3 w3 ⟨v3,m3,rfl,G3,O3, -, -⟩
 have K3:Aside (Grown (fun n=>w.heap.size<=n) w w3):=K2.out.trans G3.none
 have P3:Aside (Own w3 yI l v3 m3):=O3
 clear O3
 go_wp2_with fail
 refine(aav (HT.out.at K3.out) (HB.out.at K3.out) hm HMA.out).mono ?_
 rintro e4 w4 ⟨rfl,G4,lo4,a4,D4⟩
 have K4:Aside (Grown (fun n=>w.heap.size<=n) w w4):=K3.out.trans G4.none
 have P4:Aside (tL w4 w3.heap.size m.length lo4 yC m a4 30/\Own w4 yI l v3 m3):=⟨D4,G4.own rfl P3.out (fun _ _=>id)⟩
 clear D4
 go_wp2_with fail
 refine(aeB (HT.out.at K4.out) (Own.era rfl P4.out.2) (tL.era P4.out.1 rfl) HR.out.1).mono ?_
 rintro e5 w5 ⟨v5,m5,rfl,G5,O5,N5, -⟩
 have K5:Aside (Grown (fun n=>w.heap.size<=n) w w5):=K4.out.trans G5.none
 have P5:Aside (Own w5 yI r v5 m5/\∀b∈m5,b<w5.heap.size):=⟨O5,aaf O5⟩
 clear O5 N5
 go_wp2_with fail
 refine(aaw (HT.out.at K5.out) (HA.out.at K5.out) hl).mono ?_
 rintro e6 w6 ⟨v6,m6,rfl,G6,O6,N6,F6⟩
 have K6:Aside (Grown (fun n=>w.heap.size<=n) w w6):=K5.out.trans G6.none
 have P6:Aside (Own w6 yI l v6 m6/\m6.Nodup/\(∀b∈m6,w5.heap.size<=b/\b<w6.heap.size)):=⟨O6,N6,fun b hb=>⟨F6 b hb,aaf O6 b hb⟩⟩
 clear O6 N6 F6
 go_wp2_with fail
 refine(aav (HT.out.at K6.out) (HB.out.at K6.out) hm HMA.out).mono ?_
 rintro e7 w7 ⟨rfl,G7,lo7,a7,D7⟩
 have K7:Aside (Grown (fun n=>w.heap.size<=n) w w7):=K6.out.trans G7.none
 have P7:Aside (tL w7 w6.heap.size m.length lo7 yC m a7 30):=D7
 clear D7
 go_wp2_with fail
 refine(acf (HT.out.at K7.out) (Own.era rfl (G7.own rfl P6.out.1 (fun _ _=>id))) (tL.era P7.out rfl) HR.out.2).mono ?_
 rintro e8 w8 ⟨v8,m8,rfl,G8,O8,N8,F8⟩
 have K8:Aside (Grown (fun n=>w.heap.size<=n) w w8):=K7.out.trans G8.none
 have P8:Aside (Own w8 yI r v8 m8/\m8.Nodup/\(∀b∈m8,w7.heap.size<=b/\b<w8.heap.size)):=⟨O8,N8,fun b hb=>⟨F8 b hb,aaf O8 b hb⟩⟩
 have Q8:Aside (Grown (fun _=>False) w5 w8):=((G6.trans G7).trans G8)
 have L8:Aside (w5.heap.size<=w6.heap.size/\w6.heap.size<=w7.heap.size/\w7.heap.size<=w8.heap.size/\w.heap.size<=w5.heap.size):=⟨G6.size,G7.size,G8.size,K5.out.size⟩
 clear O8 N8 F8
 go_wp2_with fail
 refine(aau (HT.out.at K8.out) (Own.era rfl P8.out.1) (Own.era rfl (Q8.out.own rfl P5.out.1 (fun _ _=>id))) hr3).mono ?_
 rintro e9 w9 ⟨rfl,G9⟩
 have K9:Aside (Grown (fun n=>w.heap.size<=n) w w9):=K8.out.trans G9.none
 go_wp2_with fail
 refine(aaw (HT.out.at K9.out) (HA.out.at K9.out) hl).mono ?_
 rintro e10 w10 ⟨v10,m10,rfl,G10,O10, -, -⟩
 have K10:Aside (Grown (fun n=>w.heap.size<=n) w w10):=K9.out.trans G10.none
 have P10:Aside (Own w10 yI l v10 m10):=O10
 have Q10:Aside (Grown (fun _=>False) w6 w10):=(((G7.trans G8).trans G9).trans G10)
 clear O10
 go_wp2_with fail
 refine(aau (HT.out.at K10.out) (Own.era rfl (Q10.out.own rfl P6.out.1 (fun _ _=>id))) (Own.era rfl P10.out) hl).mono ?_
 rintro e11 w11 ⟨rfl,G11⟩
 have K11:Aside (Grown (fun n=>w.heap.size<=n) w w11):=K10.out.trans G11.none
 go_wp2_with fail
 refine(aav (HT.out.at K11.out) (HB.out.at K11.out) hm HMA.out).mono ?_
 rintro e12 w12 ⟨rfl,G12,lo12,a12,D12⟩
 have K12:Aside (Grown (fun n=>w.heap.size<=n) w w12):=K11.out.trans G12.none
 have P12:Aside (tL w12 w11.heap.size m.length lo12 yC m a12 30):=D12
 have Q12:Aside (Grown (fun _=>False) w7 w12):=((((G8.trans G9).trans G10).trans G11).trans G12)
 clear D12
 go_wp2_with fail
 refine(afv (HT.out.at K12.out) (tL.era (tL.grow (t:=yC) P7.out rfl Q12.out (fun _ _ _=>id)) rfl) (tL.era P12.out rfl) hm HMA.out).mono ?_
 rintro e13 w13 ⟨rfl,G13⟩
 have K13:Aside (Grown (fun n=>w.heap.size<=n) w w13):=K12.out.trans G13.none
 have Q13:Aside (Grown (fun _=>False) w8 w13):=((((G9.trans G10).trans G11).trans G12).trans G13)
 go_wp2_with fail
 refine(aee (HT.out.at K13.out) (((G7.trans G8).trans Q13.out).own rfl P6.out.1 (fun _ _=>id)) P6.out.2.1 hl (fun k cs hc hk=>by have:=(HT.out.all k cs hc).1;have:=(P6.out.2.2 k hk).1;have:=L8.out;omega)).mono ?_
 rintro e14 w14 ⟨rfl,G14, -⟩
 have K14:Aside (Grown (fun n=>w.heap.size<=n) w w14):=K13.out.trans (G14.imp (fun n _ hn=>by have:=(P6.out.2.2 n hn).1;have:=L8.out;omega))
 go_wp2_with fail
 refine(afw HT.out K14.out (tL.grow (t:=yC) P7.out rfl (((G8.none.trans Q13.out.none).trans G14):Grown (fun n=>n∈m6) w7 w14) (fun b hb _ hs=>by have:=(P6.out.2.2 b hs).2;omega)) (by have:=L8.out;omega) hm hmt (by omega) (by omega)).mono ?_
 rintro e15 w15 ⟨rfl,G15⟩
 have K15:Aside (Grown (fun n=>w.heap.size<=n) w w15):=K14.out.trans (G15.imp (fun n _ hn=>by have:=L8.out;omega))
 have Q15:Aside (Own w15 yI r v5 m5/\Own w15 yI r v8 m8):=by
  have t7:=P7.out.top
  have l8:=L8.out
  have a13:=(Q8.out.trans Q13.out).own rfl P5.out.1 (fun _ _=>id)
  have b13:=Q13.out.own rfl P8.out.1 (fun _ _=>id)
  have a14:=G14.own rfl a13 (fun b hb hs=>by have:=P5.out.2 b hb;have:=(P6.out.2.2 b hs).1;omega)
  have b14:=G14.own rfl b13 (fun b hb hs=>by have:=(P8.out.2.2 b hb).1;have:=(P6.out.2.2 b hs).2;omega)
  exact⟨G15.own rfl a14 (fun b hb hs=>by have:=P5.out.2 b hb;omega),G15.own rfl b14 (fun b hb hs=>by have:=(P8.out.2.2 b hb).1;omega)⟩
 go_wp2_with fail
 refine(aau (HT.out.at K15.out) (Own.era rfl Q15.out.2) (Own.era rfl Q15.out.1) hr3).mono ?_
 rintro e16 w16 ⟨rfl,G16⟩
 have K16:Aside (Grown (fun n=>w.heap.size<=n) w w16):=K15.out.trans G16.none
 go_wp2_with fail
 refine(aee (HT.out.at K16.out) (G16.own rfl Q15.out.2 (fun _ _=>id)) P8.out.2.1 hr3 (fun k cs hc hk=>by have:=(HT.out.all k cs hc).1;have:=(P8.out.2.2 k hk).1;have:=L8.out;omega)).mono ?_
 rintro e17 w17 ⟨rfl,G17,O17⟩
 have K17:Aside (Grown (fun n=>w.heap.size<=n) w w17):=K16.out.trans (G17.imp (fun n _ hn=>by have:=(P8.out.2.2 n hn).1;have:=L8.out;omega))
 have Q17:Aside (Own w17 yI (Kr 1 r.length) v8 m8/\Own w17 yI r v5 m5):=⟨O17,G17.own rfl (G16.own rfl Q15.out.1 (fun _ _=>id)) (fun b hb hs=>by have:=P5.out.2 b hb;have:=(P8.out.2.2 b hs).1;have:=L8.out;omega)⟩
 clear O17
 go_wp2_with fail
 refine(aed (HT.out.at K17.out) (Own.era rfl Q17.out.1) hr3).mono ?_
 rintro e18 w18 ⟨rfl,G18⟩
 have K18:Aside (Grown (fun n=>w.heap.size<=n) w w18):=K17.out.trans G18.none
 go_wp2_with fail
 refine(aaw (HT.out.at K18.out) (HA.out.at K18.out) hl).mono ?_
 rintro e19 w19 ⟨v19,m19,rfl,G19,O19, -, -⟩
 have K19:Aside (Grown (fun n=>w.heap.size<=n) w w19):=K18.out.trans G19.none
 have P19:Aside (Own w19 yI l v19 m19):=O19
 clear O19
 go_wp2_with fail
 refine(aav (HT.out.at K19.out) (HB.out.at K19.out) hm HMA.out).mono ?_
 rintro e20 w20 ⟨rfl,G20,lo20,a20,D20⟩
 have K20:Aside (Grown (fun n=>w.heap.size<=n) w w20):=K19.out.trans G20.none
 have P20:Aside (tL w20 w19.heap.size m.length lo20 yC m a20 30/\Own w20 yI l v19 m19):=⟨D20,G20.own rfl P19.out (fun _ _=>id)⟩
 clear D20
 go_wp2_with fail
 refine(acf (HT.out.at K20.out) (Own.era rfl P20.out.2) (tL.era P20.out.1 rfl) HR.out.2).mono ?_
 rintro e21 w21 ⟨v21,m21,rfl,G21,O21, -, -⟩
 have K21:Aside (Grown (fun n=>w.heap.size<=n) w w21):=K20.out.trans G21.none
 have P21:Aside (Own w21 yI r v21 m21):=O21
 have Q21:Aside (Grown (fun _=>False) w17 w21):=(((G18.trans G19).trans G20).trans G21)
 clear O21
 go_wp2_with fail
 refine(aau (HT.out.at K21.out) (Own.era rfl P21.out) (Own.era rfl (Q21.out.own rfl Q17.out.2 (fun _ _=>id))) hr3).mono ?_
 rintro e22 w22 ⟨rfl,G22⟩
 have K22:Aside (Grown (fun n=>w.heap.size<=n) w w22):=K21.out.trans G22.none
 go_wp2_with fail
 refine(aed (HT.out.at K22.out) (Own.era rfl ((Q21.out.trans G22).own rfl Q17.out.1 (fun _ _=>id))) hr3).mono ?_
 rintro e23 w23 ⟨rfl,G23⟩
 have K23:Aside (Grown (fun n=>w.heap.size<=n) w w23):=K22.out.trans G23.none
 go_wp2_with fail
 go_ret
 exact⟨rfl,K23.out⟩
end Go.Proofs.YtjkljnflaifbhaaGreatDoor
namespace Go.Proofs.YtjkljnflaifbhaaGreatDoor
open Go.ChangeShapes Go.WideShapes Go.ChangeAt Go.RowKit Go.Vai
theorem VI{H:Type}{enc:TypeId×Value->H}{P:Program}{W W':World}{name:String}{ns:List String}{g:Nat}{t:TypeId}{gs:List (DataW H)}{q:List MemPlace}(hg:P.globalNamed name=some g)(ht:(P.globals[g]?).map (·.type)=some t)
 (hl:laidOutB P=true) (hr:P.readableRec t=true) (hrow:t<P.types.size) (ih:∀(ds:List (DataW H)) (q':List MemPlace),DataW.TrodVars enc P W (fun _=>true) ns ds q'->(∀x∈q',x.block<W.heap.size)->DataW.TrodVars enc P W' (fun b=>decide (b<W.heap.size)) ns ds q')
 (h:DataW.TrodVars enc P W (fun _=>true) (name::ns) gs q) (hb:Go.RowKit.Below W.heap.size W W') (hlt:∀x∈q,x.block<W.heap.size):
 DataW.TrodVars enc P W' (fun b=>decide (b<W.heap.size)) (name::ns) gs q:=by
 cases gs with
 |nil=>cases h
 |cons d ds=>
  obtain⟨g',t',cs,fuel,p,q',hg',ht',hv,hd,hrest,hq⟩:=h
  obtain rfl:=Option.some.inj (hg.symm.trans hg')
  obtain rfl:=Option.some.inj (ht.symm.trans ht')
  have hT:DataW.Trod enc P W 0 (fun _=>true) true t (.agg cs) d p:=⟨fuel,hd⟩
  obtain⟨fuel',hd'⟩:=Go.RowKit.Below.trod hl hr hrow hT hb (fun x hx=>hlt x (by rw[hq];exact List.mem_append_left _ (List.mem_append_right _ hx)))
  have hv':W'.var? P name=some cs:=by
   simp only[World.var?,hg,Option.bind_some]at hv⊢
   cases hh:W.heap[g]? with
   |none=>rw[hh]at hv;cases hv
   |some o=>
    have hlt:g<W.heap.size:=(Array.getElem?_eq_some_iff.1 hh).1
    rw[hb.block g hlt]
    exact hv
  exact⟨g,t,cs,fuel',p,q',hg,ht,hv',hd',ih ds q' hrest (fun x hx=>hlt x (by rw[hq];exact List.mem_append_right _ hx)),hq⟩
theorem Tryz.own:ownKnob Tryz.prog.godebug=none:=by kernel_rfl
theorem Tryz.laidOut:laidOutB Tryz.prog=true:=by kernel_rfl
theorem aeg:Tryz.prog.globalNamed "loop.example/g00857/impl.constructs" =some 0:=by kernel_rfl
theorem aep:(Tryz.prog.globals[0]?).map (·.type)=some 144:=by kernel_rfl
theorem aeh:Tryz.prog.globalNamed "loop.example/g00857/impl.vectors" =some 1:=by kernel_rfl
theorem aeq:(Tryz.prog.globals[1]?).map (·.type)=some 240:=by kernel_rfl
abbrev Wv:List (String×DataW Unit):=[("unicode/utf8.acceptRanges",Rows.laid_unicode_utf8_acceptRanges),("loop.example/g00857/impl.vectors",Rows.laid_loop_example_g00857_impl_vectors),("loop.example/g00857/impl.constructs",Rows.laid_loop_example_g00857_impl_constructs),("unicode/utf8.first",Rows.laid_unicode_utf8_first)]
theorem adz{W:World}(h:laidMetH Tryz.prog Wv W):∀k cs,C0.glob k=some cs->∃vs e fz,W.heap[k]?=some (.cells vs e fz)/\cs=vs.toList.map .v:=by
 rw[MakeChecks.laidMetH_plain _ _ _ (by kernel_rfl)]at h
 obtain⟨vs0,e0,fz0,h10,h20⟩:=aaD (d:=8) (y:=(.pair .str (.pair .str .bool))) (n:=13) 2 rfl aeg aep Tryz.underlying144 (by kernel_rfl) rfl (by kernel_rfl) h
 obtain⟨vs1,e1,fz1,h11,h21⟩:=aaD (d:=8) (y:=(.pair (.pair (.int .i64) (.pair (.int .i64) (.int .i64))) (.pair (.int .i64) (.pair (.int .i64) (.int .i64))))) (n:=8) 1 rfl aeh aeq Tryz.underlying240 (by kernel_rfl) rfl (by kernel_rfl) h
 intro k cs hk
 have hk':C0.glob k=some cs:=hk
 by_cases hk0:k=0
 ·subst hk0
  have hk2:some (Yx.map CV.v)=some cs:=hk'
  cases hk2
  refine⟨vs0,e0,fz0,h10, ?_⟩
  rw[h20]
  kernel_rfl
 ·
  by_cases hk1:k=1
  ·subst hk1
   have hk2:some (Zv.map CV.v)=some cs:=hk'
   cases hk2
   refine⟨vs1,e1,fz1,h11, ?_⟩
   rw[h21]
   kernel_rfl
  ·have hk2:C0.glob k=none:=abn hk0 hk1
   rw[hk2]at hk'
   cases hk'
theorem aek{w:World}{t:Ty}{l:List t.T}{v:Value}(h:NV (gh0 w) w ⟨false,[.sl t l]⟩ v):Si w (.slice t) l [v]:=by
 obtain⟨v',vs',e,h1,h2⟩:=(show bg (gh0 w) w [.sl t l] [v]from h)
 simp only[List.cons.injEq]at e
 obtain⟨rfl,_⟩:=e
 refine ER.mono (fun n hn=>⟨?_,rfl⟩) (h1.2 (.slot 0 0 0))
 have hn:(gh0 w).imm n:=hn
 by_cases hlt:n<w.heap.size
 ·exact hlt
 ·simp only[Gh.imm,gh0,Iw,if_neg hlt]at hn
  cases hn
set_option maxRecDepth 100000 in
theorem adw{w:World}(hL:laidMetH Tryz.prog Wv w){H:Type}{enc:TypeId×Value->H}{r:Reach}{b0:Nat}{v0:Value}{d0:DataW H}{p0:List MemPlace}{v1:Value}{d1:DataW H}{p1:List MemPlace}(hval0:Value.okWide Tryz.prog w r b0 36 v0)(h0:DataW.Trod enc Tryz.prog w 0 (fun _=>true) true 36 v0 d0 p0)(hval1:Value.okWide Tryz.prog w r b0 54 v1)(h1:DataW.Trod enc Tryz.prog w 0 (fun _=>true) true 54 v1 d1 p1):
 Calls Tryz.prog 5 #[v0,v1] w fun e w'=>e= .returned (.bool true)/\Below w.heap.size w w':=by
 obtain⟨z0,hz0,hw0⟩:=Yp (d:=8) (y:=(.slice (.pair .str (.pair .bool (.pair (.pair (.pair (.int .i64) (.pair (.int .i64) (.int .i64))) (.pair (.int .i64) (.pair (.int .i64) (.int .i64)))) (.pair (.int .i64) (.pair (.int .i64) (.pair (.int .i64) (.int .i64))))))))) (by kernel_rfl) hval0 h0
 obtain⟨z1,hz1,hw1⟩:=Yp (d:=8) (y:=(.slice (.pair .str (.pair (.int .i64) (.pair (.slice .str) (.pair (.int .i64) (.pair (.pair (.pair (.int .i64) (.pair (.int .i64) (.int .i64))) (.pair (.int .i64) (.pair (.int .i64) (.int .i64)))) (.pair (.int .i64) (.pair (.int .i64) (.pair (.int .i64) (.int .i64))))))))))) (by kernel_rfl) hval1 h1
 have hag0:si Tryz.prog 36=some false:=by kernel_rfl
 have hag1:si Tryz.prog 54=some false:=by kernel_rfl
 simp only[T5,hag0,hag1,Option.getD_some]at hz0 hz1
 have hc:∀c∈(z1:List Cn),c.1.size<=9223372036854775807/\c.2.2.1.length<=9223372036854775807/\∀x∈c.2.2.1,x.size<=9223372036854775807:=fun c hc=>
  have h:=hw1.2 c hc
  ⟨h.1,h.2.2.1.1,h.2.2.1.2⟩
 exact(aeT (l:=z0) (m:=z1) (adz hL) (aek hz0) (aek hz1) hw0.1 (fun y hy=>(hw0.2 y hy).1) hw1.1 hc).mono fun e w' ⟨he,hG⟩=>⟨he,hG.below (Nat.le_refl _) (fun _ h=>h)⟩
set_option maxRecDepth 100000 in
theorem aeU(os:Os)(started:os.Started)(H:Type)(enc:TypeId×Value->H):
 ReturnsInHanded {} Tryz.checked os 5 .any (fun w args=>(Rows.fnExactConstructAllSpec.pre enc Tryz.prog Tryz.f5 [] false w args/\laidMetH Tryz.prog Wv w)/\sizedMet enc Tryz.prog Tryz.f5 (OpenSpec.ofChange Rows.fnExactConstructAllSpec) false w args)
  (Rows.fnExactConstructAllSpec.post enc Tryz.prog Tryz.f5 false true false false):=by
 refine returnsInHanded_of_change_and (C:=Tryz.checked) (X:=fun w _=>laidMetH Tryz.prog Wv w) (fun _ _ _ hh h=>h.of_heap hh) Tryz.own started (by kernel_rfl) Tryz.func5
  (ChangeSpec.witness_shaped (enc:=enc) (C:=Tryz.checked) (os:=os) (X:=fun w _=>laidMetH Tryz.prog Wv w) false (World.laidAll Tryz.prog os Wv) #[.slice none 0 0, .slice none 0 0] 8 (World.laidAll_os _ _ _) (World.shaped_of_ZipB (by kernel_rfl) (by kernel_rfl)) (by kernel_rfl) (by kernel_rfl) (by kernel_rfl) (by rw[MakeChecks.laidMetH_plain _ _ _ (by kernel_rfl)];exact laidMet_laidAll _ (by kernel_rfl) (by kernel_rfl))) ?_
 intro W base args ds gs before hval0 hW _ _ hL _
 have hval:∀(j:Nat) t v,Tryz.f5.params[j]?=some t->args[j]?=some v->Value.okWide Tryz.prog W .any base t v:=hval0
 have hW':=hW
 have hlt:=fun p hp=>hW.lt p hp
 obtain⟨p,q,hA0,hV,rfl,hfz,hnd⟩:=hW
 have hA:DataW.TrodAll enc Tryz.prog W 0 (fun _=>true) true Tryz.f5.params.toList args.toList ds p:=hA0
 have hV:DataW.TrodVars enc Tryz.prog W (fun _=>true) ["loop.example/g00857/impl.constructs", "loop.example/g00857/impl.vectors"] gs q:=hV
 rw[Tryz.params5]at hA hval
 obtain⟨v0,v1,d0,d1,p0,p1,rfl,rfl,rfl,h0,h1⟩:=trodAll_two hA
 have hv0:=hval 0 _ v0 rfl rfl
 have hv1:=hval 1 _ v1 rfl rfl
 clear hA0 hval0
 obtain⟨g1,g2,rfl⟩:∃g g',gs=[g,g']:=by
  match gs,hV with
  |[],h=>cases h
  |[_],h=>
   obtain⟨_,_,_,_,_,_,_,_,_,_,h,_⟩:=h
   cases h
  |[g,g'],_=>exact⟨g,g',rfl⟩
  |_::_::_::_,h=>
   obtain⟨_,_,_,_,_,_,_,_,_,_,h,_⟩:=h
   obtain⟨_,_,_,_,_,_,_,_,_,_,h,_⟩:=h
   cases h
 refine(adw hL hv0 h0 hv1 h1).mono fun e W' ⟨he,hb⟩=> ?_
 subst he
 have hT:DataW.TrodAll enc Tryz.prog W' 0 (fun b=>decide (b<W.heap.size)) true [36,54] [v0,v1] [d0,d1] (p0++p1):=by
  exact trodAll_mk2 (Below.trod Tryz.laidOut (by kernel_rfl) (of_decide_eq_true (by kernel_rfl)) h0 hb (fun x hx=>hlt x (List.mem_append_left _ (List.mem_append_left _ hx)))) (Below.trod Tryz.laidOut (by kernel_rfl) (of_decide_eq_true (by kernel_rfl)) h1 hb (fun x hx=>hlt x (List.mem_append_left _ (List.mem_append_right _ hx))))
 have hG:DataW.TrodVars enc Tryz.prog W' (fun b=>decide (b<W.heap.size)) ["loop.example/g00857/impl.constructs", "loop.example/g00857/impl.vectors"] [g1,g2] q:=
  VI aeg aep Tryz.laidOut (by kernel_rfl) (of_decide_eq_true (by kernel_rfl)) (fun ds q' h hl=>abO aeh aeq Tryz.laidOut (by kernel_rfl) (of_decide_eq_true (by kernel_rfl)) h hb hl) hV hb (fun x hx=>hlt x (List.mem_append_right _ hx))
 exact⟨_,rfl,[d0,d1],[g1,g2],(p0++p1)++q,[],(p0++p1),q,hW',trodAll_mk1 (shut_bool (by kernel_rfl) true),hT,hG,hb.frame _,fun h=>by cases h⟩
end Go.Proofs.YtjkljnflaifbhaaGreatDoor
