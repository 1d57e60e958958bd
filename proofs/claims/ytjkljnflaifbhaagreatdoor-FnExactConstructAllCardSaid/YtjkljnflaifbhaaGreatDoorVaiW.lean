/- No conditions. -/
import Derived.Test.YtjkljnflaifbhaaGreatDoorVaiG
import Derived.WalkKit
import Derived.WalkMore
import Derived.Deep.LoopGhost
import Derived.Laws.MakeOwn
import Derived.Laws.Rows
namespace Go.Vai
open Go
open Classical in
noncomputable def X9(S:List Nat)(I:Nat->Prop)(w:World):Gh:=
 ⟨fun n=>if n<w.heap.size then(if n∈S then .junk else if I n then .imm else .far)else .junk,fun _=>none⟩
theorem Xt{S:List Nat}{I:Nat->Prop}{w:World}{n:Nat}:(X9 S I w).imm n↔n<w.heap.size/\n∉S/\I n:=by
 unfold Gh.imm X9
 by_cases h:n<w.heap.size<;>by_cases h1:n∈S<;>by_cases h2:I n<;>simp[h,h1,h2]
def Own(w:World)(t:Ty)(l:List t.T)(v:Value)(m:List Nat):Prop:=
 ∃A cap,v= .slice A l.length cap/\l.length<=cap/\(∀b,b∈m->b<w.heap.size)/\(cap=0\/∃b off cs e,A=some ⟨b,off,none⟩/\m=[b]/\w.heap[b]?=some (.cells cs e (0,0))/\
  off+cap*t.size<=cs.size/\∀i x,l[i]?=some x->ER (fun _=>False) w t x (nS cs (off+i*t.size) t.size))
theorem XO{g:Gh}{w:World}{t:Ty}{l:List t.T}{v:Value}{m:List Nat}(hf:t.isFlat=true)(hm:∀b,b∈m->b<w.heap.size)(h:cC g w (.own t l) v m):Own w t l v m:=by
 obtain⟨lo,A,cap,h1,h2,h3⟩:=h
 refine⟨A,cap,h1,h2,hm,h3.imp id ?_⟩
 rintro ⟨b,off,n,c,cs,e,hA,hl,_,hh,hs,hx⟩
 exact⟨b,off+lo*t.size,cs,e,hA,hl,hh,hs,fun i x hi=>ER.flat' hf (hx i x hi)⟩
theorem Own.f{g:Gh}{w:World}{t:Ty}{l:List t.T}{v:Value}{m:List Nat}(hf:t.isFlat=true)(h:Own w t l v m):cC g w (.own t l) v m:=by
 obtain⟨A,cap,h1,h2,_,h3⟩:=h
 refine⟨0,A,cap,h1,h2,h3.imp id ?_⟩
 rintro ⟨b,off,cs,e,hA,hl,hh,hs,hx⟩
 refine⟨b,off,0,0,cs,e,by rw[hA,Nat.zero_mul,Nat.add_zero],hl,(fun e=>by cases e),hh,by rw[Nat.zero_mul,Nat.add_zero];exact hs,fun i x hi=> ?_⟩
 rw[Nat.zero_mul,Nat.add_zero]
 exact ER.flat' hf (hx i x hi)
theorem Own.er{w:World}{t:Ty}{l:List t.T}{v:Value}{m:List Nat}(hf:t.isFlat=true)(h:Own w t l v m):ER (fun n=>n∈m) w (.slice t) l [v]:=by
 obtain⟨A,cap,h1,h2,_,h3⟩:=h
 refine⟨A,cap,by rw[h1],h2, ?_⟩
 rcases h3 with h0|⟨b,off,cs,e,hA,hl,hh,hs,hx⟩
 ·exact .inl (List.length_eq_zero_iff.1 (by omega))
 ·exact .inr ⟨b,off,cs,e,(0,0),hA,by rw[hl];simp,hh,fun i x hi=>ER.flat' hf (hx i x hi)⟩
theorem Own.mono{w w':World}{t:Ty}{l:List t.T}{v:Value}{m:List Nat}(h:Own w t l v m)(hb:∀b,b∈m->w'.heap[b]?=w.heap[b]?)(hf:t.isFlat=true)(hs':∀b,b∈m->b<w'.heap.size):Own w' t l v m:=by
 obtain⟨A,cap,h1,h2,_,h3⟩:=h
 refine⟨A,cap,h1,h2,hs',h3.imp id ?_⟩
 rintro ⟨b,off,cs,e,hA,hl,hh,hs,hx⟩
 exact⟨b,off,cs,e,hA,hl,by rw[hb b (by rw[hl];simp)];exact hh,hs,fun i x hi=>ER.flat' hf (hx i x hi)⟩
theorem JR{C:gY}{fid:FuncId}{c:af}(hS:ag C fid c)(hrw:c.rw=false){I:Nat->Prop}{w:World}{args:List Value}{vals:List Val}{ms:List (List Nat)}
 (hv:sR (X9 (aj ms) I w) w vals args ms) (hnd:(aj ms).Nodup) (hsz:∀b,b∈aj ms->b<w.heap.size)
 (hg:∀h cs,C.glob h=some cs->I h/\h∉aj ms/\∃vs e fz,w.heap[h]?=some (.cells vs e fz)/\cs=vs.toList.map .v) {x:c.β} (hG:c.G [] vals=some x):
 Calls C.P fid args.toArray w fun e w'=>∃v,e= .returned v/\Ret (X9 (aj ms) I w) w (aj ms) (c.enc x).2 (oq c.io args) (c.enc x).1 v w':=by
 refine(hS.r hrw).2 (X9 (aj ms) I w) w [] vals args ms x ?_ hG
 exact{
  vals:=hv
  free:=⟨hnd,fun b hb=>by simp[X9,hb],hsz⟩
  boxes:=fun k cs hk=>by simp at hk
  bxs:=fun k n hk=>by cases hk
  old:=fun n hn=>by
   by_cases h1:n∈aj ms
   ·exact .inr (.inr ⟨by simp[X9,h1],h1⟩)
   ·by_cases h2:I n
    ·exact .inl (by simp[X9,hn,h1,h2])
    ·exact .inr (.inl (by simp[X9,hn,h1,h2]))
  new:=fun n hn=>by simp only[X9,if_neg (show¬n<w.heap.size by omega)]
  glob:=fun h cs hc=>by
   obtain⟨k1,k2,vs,e,fz,k3,k4⟩:=hg h cs hc
   exact⟨vs,e,fz,k3,Xt.2 ⟨(Array.getElem?_eq_some_iff.1 k3).1,k2,k1⟩,k4⟩}
structure Grown(S:Nat->Prop)(w w':World):Prop where
 os:w'.os=w.os
 tape:w'.tape=w.tape
 output:w'.output=w.output
 size:w.heap.size<=w'.heap.size
 block:∀n,n<w.heap.size->¬S n->w'.heap[n]?=w.heap[n]?
theorem Grown.refl(S:Nat->Prop)(w:World):Grown S w w:=⟨rfl,rfl,rfl,Nat.le_refl _,fun _ _ _=>rfl⟩
theorem Grown.trans{S:Nat->Prop}{a b c:World}(h:Grown S a b)(k:Grown S b c):Grown S a c:=
 ⟨k.os.trans h.os,k.tape.trans h.tape,k.output.trans h.output,Nat.le_trans h.size k.size,fun n hn hs=>(k.block n (Nat.lt_of_lt_of_le hn h.size) hs).trans (h.block n hn hs)⟩
theorem Grown.imp{S S':Nat->Prop}{w w':World}(h:Grown S w w')(hs:∀n,n<w.heap.size->S n->S' n):Grown S' w w':=
 ⟨h.os,h.tape,h.output,h.size,fun n hn hn'=>h.block n hn (fun e=>hn' (hs n hn e))⟩
theorem Grown.fresh{S S':Nat->Prop}{w w':World}(h:Grown S w w')(hs:∀n,S n->w.heap.size<=n\/S' n):Grown S' w w':=
 ⟨h.os,h.tape,h.output,h.size,fun n hn hn'=>h.block n hn (fun e=>by rcases hs n e with h|h
                                                                    ·omega
                                                                    ·exact hn' h)⟩
theorem Grown.none{S:Nat->Prop}{w w':World}(h:Grown (fun _=>False) w w'):Grown S w w':=h.imp (fun _ _ h=>h.elim)
theorem Grown.below{S:Nat->Prop}{w w':World}{B:Nat}(h:Grown S w w')(hB:B<=w.heap.size)(hs:∀n,S n->B<=n):Go.RowKit.Below B w w':=
 ⟨h.os,h.tape,h.output,h.size,fun n hn=>h.block n (by omega) (fun e=>by have:=hs n e;omega)⟩
theorem Grown.er{S I:Nat->Prop}{w w':World}(h:Grown S w w')(hI:∀n,I n->n<w.heap.size/\¬S n){t:Ty}{x:t.T}{vs:List Value}(he:ER I w t x vs):ER I w' t x vs:=
 ER.mono (fun n hn=>⟨hn,h.block n (hI n hn).1 (hI n hn).2⟩) he
theorem Grown.own{S:Nat->Prop}{w w':World}(h:Grown S w w'){t:Ty}(hf:t.isFlat=true){l:List t.T}{v:Value}{m:List Nat}(ho:Own w t l v m)(hm:∀b,b∈m->¬S b):Own w' t l v m:=by
 obtain⟨A,cap,h1,h2,h4,h3⟩:=ho
 have ho:Own w t l v m:=⟨A,cap,h1,h2,h4,h3⟩
 exact ho.mono (fun b hb=>h.block b (h4 b hb) (hm b hb)) hf (fun b hb=>Nat.lt_of_lt_of_le (h4 b hb) h.size)
theorem aeG{I:Nat->Prop}{S:List Nat}{w:World}(hI:∀n,I n->n<w.heap.size/\n∉S){t:Ty}{l:List t.T}{v:Value}(h:ER I w (.slice t) l [v]):FV (X9 S I w) w ⟨false,[.sl t l]⟩ v [[]]:=
 ⟨v,[],[],[],rfl,rfl,⟨rfl,fun _=>ER.mono (fun n hn=>⟨Xt.2 ⟨(hI n hn).1,(hI n hn).2,hn⟩,rfl⟩) h⟩,rfl,rfl⟩
theorem Zu{g:Gh}{w:World}(v:Value):FV g w ⟨false,[.v v]⟩ v [[]]:=⟨v,[],[],[],rfl,rfl,⟨rfl,fun _=>rfl⟩,rfl,rfl⟩
theorem adT{g:Gh}{w:World}{t:Ty}(hf:t.isFlat=true){l:List t.T}{v:Value}{m:List Nat}(h:Own w t l v m):FV g w ⟨false,[.own t l]⟩ v [m]:=⟨v,[],m,[],rfl,rfl,h.f hf,rfl,rfl⟩
theorem sR.cons{g:Gh}{w:World}{x:Val}{r:List Val}{v:Value}{vs:List Value}{m ms:List (List Nat)}(h:FV g w x v m)(hr:sR g w r vs ms):sR g w (x::r) (v::vs) (m++ms):=⟨v,vs,m,ms,rfl,rfl,h,hr⟩
theorem sR.nil{g:Gh}{w:World}:sR g w [] [] []:=⟨rfl,rfl⟩
theorem Al{C:gY}{fid:FuncId}{c:af}(hS:ag C fid c)(hrw:c.rw=false){I:Nat->Prop}{w:World}{args:List Value}{vals:List Val}{ms:List (List Nat)}
 (hv:sR (X9 [] I w) w vals args ms) (hms:aj ms=[]) (hg:∀h cs,C.glob h=some cs->I h/\∃vs e fz,w.heap[h]?=some (.cells vs e fz)/\cs=vs.toList.map .v) {x:c.β} (hG:c.G [] vals=some x)
 {u:Value} (he:(c.enc x).1= .c (.v u)):Calls C.P fid args.toArray w fun e w'=>e= .returned u/\Grown (fun _=>False) w w':=by
 refine(JR (I:=I) hS hrw (by rw[hms];exact hv) (by rw[hms];exact List.nodup_nil) (by rw[hms];intro b hb;cases hb) (fun h cs hc=>by
  obtain⟨k1,k2⟩:=hg h cs hc
  exact⟨k1,by rw[hms];exact List.not_mem_nil,k2⟩) hG).mono ?_
 rintro e w' ⟨v,rfl,g',ms',bms,k1,k2,k3,k4,k5,k6,k7,k8,k9,k10,k11⟩
 rw[he]at k1
 obtain⟨u',us,m,ms2,e1,e2,k12,_⟩:=(show bS g' w' [.v u] [v] ms' from k1)
 simp only[List.cons.injEq]at e1
 obtain⟨rfl,_⟩:=e1
 have:v=u:=k12.2 (.slot 0 0 0)
 subst this
 exact⟨rfl,k5,k6,k7,k8,fun n hn _=>k9 n hn (by rw[hms];exact List.not_mem_nil)⟩
theorem Wi{C:gY}{fid:FuncId}{c:af}(hS:ag C fid c)(hrw:c.rw=false){I:Nat->Prop}{w:World}{t:Ty}(hf:t.isFlat=true){l:List t.T}{v k:Value}{m:List Nat}(ho:Own w t l v m)(hm:m.Nodup)
 (hg:∀h cs,C.glob h=some cs->I h/\h∉m/\∃vs e fz,w.heap[h]?=some (.cells vs e fz)/\cs=vs.toList.map .v) (hio:c.io=[true,false]) {x:c.β} (hG:c.G [] [⟨false,[.own t l]⟩,⟨false,[.v k]⟩]=some x)
 {u:Value} {l':List t.T} (he:c.enc x=(.c (.v u),[.own t l'])) (hlen:l'.length=l.length):
 Calls C.P fid #[v,k] w fun e w'=>e= .returned u/\Grown (fun n=>n∈m) w w'/\Own w' t l' v m:=by
 have hms:aj ([m]++([[]]++ []))=m:=by simp[aj]
 obtain⟨A,cap,hv,h2,h4,h3⟩:=ho
 have ho:Own w t l v m:=⟨A,cap,hv,h2,h4,h3⟩
 refine(JR (I:=I) (args:=[v,k]) (ms:=[m]++([[]]++ [])) hS hrw (sR.cons (adT hf ho) (sR.cons (Zu k) sR.nil)) (by rw[hms];exact hm) (by rw[hms];exact h4) (by rw[hms];exact hg) hG).mono ?_
 rintro e w' ⟨v',rfl,g',ms',bms,k1,k2,k3,k4,k5,k6,k7,k8,k9,k10,k11⟩
 rw[he]at k1 k2
 rw[hms]at k4 k9
 obtain⟨u',us,m',ms2,e1,e2,k12,k13⟩:=(show bS g' w' [.v u] [v'] ms' from k1)
 simp only[List.cons.injEq]at e1
 obtain⟨rfl,rfl⟩:=e1
 have:v'=u:=k12.2 (.slot 0 0 0)
 subst this
 have hp:oq c.io [v,k]=[v]:=by rw[hio,hv];rfl
 rw[hp]at k2
 obtain⟨y,ys,m1,m2,e3,e4,k14,k15⟩:=(show bS g' w' [.own t l'] [v] bms from k2)
 simp only[List.cons.injEq]at e3
 obtain⟨rfl,rfl⟩:=e3
 obtain⟨_,rfl⟩:=k15
 subst e4
 refine⟨rfl,⟨k5,k6,k7,k8,fun n hn hs=>k9 n hn hs⟩, ?_⟩
 have h5:=XO hf (fun b hb=>k3.size b (by simp[aj,hb])) k14
 obtain⟨A',cap',hv',h2',h4',h3'⟩:=h5
 rw[hv]at hv'
 simp only[Value.slice.injEq]at hv'
 obtain⟨rfl,_,rfl⟩:=hv'
 refine⟨A,cap,by rw[hv,hlen],h2',fun b hb=>Nat.lt_of_lt_of_le (h4 b hb) k8, ?_⟩
 rcases h3 with h0|⟨b,off,cs,e,hA,hl,hh,hs,hx⟩
 ·exact .inl h0
 ·rcases h3' with h0'|⟨b',off',cs',e',hA',hl',hh',hs',hx'⟩
  ·exact .inl h0'
  ·rw[hA]at hA'
   simp only[Option.some.injEq,Addr.mk.injEq,and_true]at hA'
   obtain⟨rfl,rfl⟩:=hA'
   exact .inr ⟨b,off,cs',e',hA,hl,hh',hs',hx'⟩
end Go.Vai
namespace Go.Vai
open Go
def NL:Ty->Bool
 | .slice t=>t.isFlat
 | .pair a b=>NL a&&NL b
 |_=>true
def NK:(t:Ty)->t.T->List CV
 | .int k,n=>[.v (.int k n)]
 | .bool,b=>[.v (.bool b)]
 | .str,s=>[.v (.string s)]
 | .unit,_=>[]
 | .pair a b,x=>NK a x.1++NK b x.2
 | .slice t,l=>[.own t l]
theorem Gy:∀(t:Ty) (x:t.T),(NK t x).length=t.size
 | .int _,_=>rfl
 | .bool,_=>rfl
 | .str,_=>rfl
 | .unit,_=>rfl
 | .pair a b,x=>by rw[NK,List.length_append,Gy a,Gy b];rfl
 | .slice _,_=>rfl
def OR(w:World):(t:Ty)->t.T->List Value->List Nat->Prop
 | .int k,n,vs,S=>vs=[.int k n]/\S=[]
 | .bool,b,vs,S=>vs=[.bool b]/\S=[]
 | .str,s,vs,S=>vs=[.string s]/\S=[]
 | .unit,_,vs,S=>vs=[]/\S=[]
 | .pair a b,x,vs,S=>∃S1 S2,S=S1++S2/\OR w a x.1 (vs.take a.size) S1/\OR w b x.2 (vs.drop a.size) S2
 | .slice t,l,vs,S=>∃v,vs=[v]/\Own w t l v S
theorem OR.length{w:World}:∀{t:Ty} {x:t.T} {vs:List Value} {S:List Nat},OR w t x vs S->vs.length=t.size
 | .int _,_,_,_,h=>by rw[h.1];rfl
 | .bool,_,_,_,h=>by rw[h.1];rfl
 | .str,_,_,_,h=>by rw[h.1];rfl
 | .unit,_,_,_,h=>by rw[h.1];rfl
 | .pair a b,x,vs,S,h=>by
   obtain⟨S1,S2,_,h1,h2⟩:=h
   have e1:=OR.length h1
   have e2:=OR.length h2
   simp only[List.length_take,List.length_drop]at e1 e2
   simp only[Ty.size];omega
 | .slice _,_,_,_,h=>by obtain⟨v,rfl,_⟩:=h;rfl
theorem OR.size{w:World}:∀{t:Ty} {x:t.T} {vs:List Value} {S:List Nat},OR w t x vs S->∀b,b∈S->b<w.heap.size
 | .int _,_,_,_,h,b,hb=>by rw[h.2]at hb;cases hb
 | .bool,_,_,_,h,b,hb=>by rw[h.2]at hb;cases hb
 | .str,_,_,_,h,b,hb=>by rw[h.2]at hb;cases hb
 | .unit,_,_,_,h,b,hb=>by rw[h.2]at hb;cases hb
 | .pair _ _,_,_,_,h,b,hb=>by
   obtain⟨S1,S2,rfl,h1,h2⟩:=h
   rcases List.mem_append.1 hb with h|h
   ·exact OR.size h1 b h
   ·exact OR.size h2 b h
 | .slice _,_,_,_,h,b,hb=>by
   obtain⟨v,_,A,cap,_,_,h4,_⟩:=h
   exact h4 b hb
theorem OR.er{w:World}:∀{t:Ty} {x:t.T} {vs:List Value} {S:List Nat},NL t=true->OR w t x vs S->ER (fun n=>n∈S) w t x vs
 | .int _,_,_,_,_,h=>h.1
 | .bool,_,_,_,_,h=>h.1
 | .str,_,_,_,_,h=>h.1
 | .unit,_,_,_,_,h=>h.1
 | .pair a b,x,vs,S,hf,h=>by
   simp only[NL,Bool.and_eq_true]at hf
   obtain⟨S1,S2,rfl,h1,h2⟩:=h
   exact⟨ER.mono (fun n hn=>⟨List.mem_append_left _ hn,rfl⟩) (OR.er hf.1 h1),ER.mono (fun n hn=>⟨List.mem_append_right _ hn,rfl⟩) (OR.er hf.2 h2)⟩
 | .slice t,l,vs,S,hf,h=>by
   obtain⟨v,rfl,h⟩:=h
   exact h.er hf
theorem OR.grow{w w':World}{P:Nat->Prop}(hg:Grown P w w'):∀{t:Ty} {x:t.T} {vs:List Value} {S:List Nat},NL t=true->(∀b,b∈S->¬P b)->OR w t x vs S->OR w' t x vs S
 | .int _,_,_,_,_,_,h=>h
 | .bool,_,_,_,_,_,h=>h
 | .str,_,_,_,_,_,h=>h
 | .unit,_,_,_,_,_,h=>h
 | .pair a b,x,vs,S,hf,hs,h=>by
   simp only[NL,Bool.and_eq_true]at hf
   obtain⟨S1,S2,rfl,h1,h2⟩:=h
   exact⟨S1,S2,rfl,OR.grow hg hf.1 (fun b hb=>hs b (List.mem_append_left _ hb)) h1,OR.grow hg hf.2 (fun b hb=>hs b (List.mem_append_right _ hb)) h2⟩
 | .slice t,l,vs,S,hf,hs,h=>by
   obtain⟨v,rfl,h⟩:=h
   exact⟨v,rfl,hg.own hf h hs⟩
theorem bS.split{g:Gh}{w:World}:∀{cs cs':List CV} {vs:List Value} {ms:List (List Nat)},bS g w (cs++cs') vs ms->∃ms1 ms2,ms=ms1++ms2/\bS g w cs (vs.take cs.length) ms1/\bS g w cs' (vs.drop cs.length) ms2
 |[],cs',vs,ms,h=>⟨[],ms,rfl,⟨rfl,rfl⟩,h⟩
 |c::cs,cs',vs,ms,h=>by
  obtain⟨v,vs',m,ms',rfl,rfl,h1,h2⟩:=h
  obtain⟨ms1,ms2,rfl,h3,h4⟩:=bS.split h2
  exact⟨m::ms1,ms2,rfl,⟨v,_,m,ms1,rfl,rfl,h1,h3⟩,h4⟩
theorem acR{g:Gh}{w:World}:∀{t:Ty} {x:t.T} {vs:List Value} {ms:List (List Nat)},NL t=true->(∀b,b∈aj ms->b<w.heap.size)->bS g w (NK t x) vs ms->OR w t x vs (aj ms)
 | .int _,_,_,_,_,_,h=>by
   obtain⟨v,vs',m,ms',rfl,rfl,⟨rfl,h1⟩,rfl,rfl⟩:=h
   rw[show v=_ from h1 (.slot 0 0 0)];exact⟨rfl,rfl⟩
 | .bool,_,_,_,_,_,h=>by
   obtain⟨v,vs',m,ms',rfl,rfl,⟨rfl,h1⟩,rfl,rfl⟩:=h
   rw[show v=_ from h1 (.slot 0 0 0)];exact⟨rfl,rfl⟩
 | .str,_,_,_,_,_,h=>by
   obtain⟨v,vs',m,ms',rfl,rfl,⟨rfl,h1⟩,rfl,rfl⟩:=h
   rw[show v=_ from h1 (.slot 0 0 0)];exact⟨rfl,rfl⟩
 | .unit,_,_,_,_,_,h=>by
   obtain⟨rfl,rfl⟩:=h
   exact⟨rfl,rfl⟩
 | .pair a b,x,vs,ms,hf,hm,h=>by
   simp only[NL,Bool.and_eq_true]at hf
   obtain⟨ms1,ms2,rfl,h1,h2⟩:=bS.split h
   rw[Gy]at h1 h2
   rw[cJ]at hm⊢
   exact⟨aj ms1,aj ms2,rfl,acR hf.1 (fun b hb=>hm b (List.mem_append_left _ hb)) h1,acR hf.2 (fun b hb=>hm b (List.mem_append_right _ hb)) h2⟩
 | .slice t,l,vs,ms,hf,hm,h=>by
   obtain⟨v,vs',m,ms',rfl,rfl,h1,rfl,rfl⟩:=h
   have e:aj [m]=m:=by simp[aj]
   rw[e]at hm⊢
   exact⟨v,rfl,XO hf hm h1⟩
theorem Py{w:World}{N:Nat}{arr new:Array Value}{e:TypeId}{fz:Nat×Nat}(h:w.heap[N]?=some (.cells arr e fz)):(w.setRow N new).heap[N]?=some (.cells new e fz):=setRow_heap w N arr new e fz h
theorem II(w:World)(N:Nat)(new:Array Value):Grown (fun n=>n=N) w (w.setRow N new):=by
 refine⟨rfl,rfl,rfl,by simp,fun n _ hn=> ?_⟩
 simp only[World.setRow,Array.getElem?_modify]
 rw[if_neg (fun e=>hn e.symm)]
def Ta(arr:Array Value)(o:Nat)(vs:List Value):Array Value:=(arr.toList.take o++vs++arr.toList.drop (o+vs.length)).toArray
theorem WO{arr:Array Value}{o:Nat}{vs:List Value}(h:o+vs.length<=arr.size):(Ta arr o vs).size=arr.size:=by
 simp only[Ta,List.size_toArray,List.length_append,List.length_take,List.length_drop,Array.length_toList];omega
theorem acV{arr:Array Value}{o:Nat}{vs:List Value}(h:o+vs.length<=arr.size):nS (Ta arr o vs) o vs.length=vs:=by
 apply List.ext_getElem?
 intro k
 rw[uk]
 by_cases hk:k<vs.length
 ·rw[if_pos hk]
  simp only[Ta]
  rw[List.append_assoc,List.getElem?_append_right (by simp;omega),List.getElem?_append_left (by simp;omega)]
  congr 1
  simp only[List.length_take,Array.length_toList];omega
 ·rw[if_neg hk,List.getElem?_eq_none (by omega)]
theorem U6{arr:Array Value}{o a n:Nat}{vs:List Value}(h:o+vs.length<=arr.size)(ha:a+n<=o\/o+vs.length<=a):nS (Ta arr o vs) a n=nS arr a n:=by
 apply List.ext_getElem?
 intro k
 rw[uk,uk]
 by_cases hk:k<n
 ·rw[if_pos hk,if_pos hk]
  simp only[Ta]
  rcases ha with ha|ha
  ·rw[List.append_assoc,List.getElem?_append_left (by simp only[List.length_take,Array.length_toList];omega),List.getElem?_take,if_pos (by omega)]
  ·rw[List.getElem?_append_right (by simp only[List.length_append,List.length_take,Array.length_toList];omega),List.getElem?_drop]
   congr 1
   simp only[List.length_append,List.length_take,Array.length_toList];omega
 ·rw[if_neg hk,if_neg hk]
structure tL(w:World)(N n:Nat)(lo:Nat->Nat)(t:Ty)(l:List t.T)(arr:Array Value)(e:TypeId):Prop where
 heap:w.heap[N]?=some (.cells arr e (0,0))
 room:arr.size=n*t.size
 len:l.length<=n
 low:N<lo 0
 mono:∀j,j<l.length->lo j<=lo (j+1)
 top:lo l.length<=w.heap.size
 el:∀j x,l[j]?=some x->∃S,OR w t x (nS arr (j*t.size) t.size) S/\S.Nodup/\∀b,b∈S->lo j<=b/\b<lo (j+1)
theorem tL.le{w:World}{N n:Nat}{lo:Nat->Nat}{t:Ty}{l:List t.T}{arr:Array Value}{e:TypeId}(h:tL w N n lo t l arr e):∀(d i:Nat),i+d<=l.length->lo i<=lo (i+d)
 |0,_,_=>Nat.le_refl _
 |d+1,i,hd=>Nat.le_trans (h.le d i (by omega)) (h.mono (i+d) (by omega))
theorem tL.lo_le{w:World}{N n:Nat}{lo:Nat->Nat}{t:Ty}{l:List t.T}{arr:Array Value}{e:TypeId}(h:tL w N n lo t l arr e){i j:Nat}(hij:i<=j)(hj:j<=l.length):lo i<=lo j:=by
 have:=h.le (j-i) i (by omega)
 rwa [show i+(j-i)=j by omega]at this
theorem tL.er{w:World}{N n:Nat}{lo:Nat->Nat}{t:Ty}{l:List t.T}{arr:Array Value}{e:TypeId}(h:tL w N n lo t l arr e)(hf:NL t=true)(hn:l.length=n):
 ER (fun b=>N<=b/\b<w.heap.size) w (.slice t) l [.slice (some ⟨N,0,none⟩) n n]:=by
 refine⟨some ⟨N,0,none⟩,n,by rw[hn],by omega, .inr ⟨N,0,arr,e,(0,0),rfl,⟨Nat.le_refl _,(Array.getElem?_eq_some_iff.1 h.heap).1⟩,h.heap,fun i x hi=> ?_⟩⟩
 obtain⟨S,h1,_,h2⟩:=h.el i x hi
 rw[Nat.zero_add]
 have hil:i<l.length:=(List.getElem?_eq_some_iff.1 hi).1
 refine ER.mono (fun b hb=>⟨⟨?_, ?_⟩,rfl⟩) (h1.er hf)
 ·have:=(h2 b hb).1
  have:=h.lo_le (Nat.zero_le i) (by omega)
  have:=h.low
  omega
 ·have:=(h2 b hb).2
  have:=h.lo_le (show i+1<=l.length by omega) (Nat.le_refl _)
  have:=h.top
  omega
theorem tL.grow{w w':World}{N n:Nat}{lo:Nat->Nat}{t:Ty}{l:List t.T}{arr:Array Value}{e:TypeId}(h:tL w N n lo t l arr e)(hf:NL t=true){P:Nat->Prop}(hg:Grown P w w')(hP:∀b,N<=b->b<lo l.length->¬P b):tL w' N n lo t l arr e:=by
 have hN:=(Array.getElem?_eq_some_iff.1 h.heap).1
 refine⟨?_,h.room,h.len,h.low,h.mono,Nat.le_trans h.top hg.size,fun j x hj=> ?_⟩
 ·rw[hg.block N hN (hP N (Nat.le_refl _) (Nat.lt_of_lt_of_le h.low (h.lo_le (Nat.zero_le _) (Nat.le_refl _))))]
  exact h.heap
 ·obtain⟨S,h1,h2,h3⟩:=h.el j x hj
  have hil:j<l.length:=(List.getElem?_eq_some_iff.1 hj).1
  refine⟨S,h1.grow hg hf (fun b hb=>hP b ?_ ?_),h2,h3⟩
  ·have:=(h3 b hb).1
   have:=h.lo_le (Nat.zero_le j) (by omega)
   have:=h.low
   omega
  ·have:=(h3 b hb).2
   have:=h.lo_le (show j+1<=l.length by omega) (Nat.le_refl _)
   omega
theorem tL.push{w w1:World}{N n:Nat}{lo:Nat->Nat}{t:Ty}{l:List t.T}{arr:Array Value}{e:TypeId}(h:tL w N n lo t l arr e)(hf:NL t=true)(hg:Grown (fun _=>False) w w1)
 {x:t.T} {vs:List Value} {S:List Nat} (hx:OR w1 t x vs S) (hS:S.Nodup) (hb:∀b,b∈S->w.heap.size<=b) (hl:l.length<n):
 tL (w1.setRow N (Ta arr (l.length*t.size) vs)) N n (fun j=>if j<=l.length then lo j else w1.heap.size) t (l++ [x]) (Ta arr (l.length*t.size) vs) e:=by
 have h1:=h.grow hf hg (fun _ _ _=>id)
 have hvs:=hx.length
 have hroom:l.length*t.size+vs.length<=arr.size:=by
  rw[hvs,h.room]
  have:=Nat.mul_le_mul_right t.size (show l.length+1<=n by omega)
  rw[Nat.add_mul,Nat.one_mul]at this
  exact this
 have hgr:=II w1 N (Ta arr (l.length*t.size) vs)
 have hNlo:∀j,j<=l.length->N<lo j:=fun j hj=>Nat.lt_of_lt_of_le h.low (h.lo_le (Nat.zero_le _) hj)
 refine⟨Py h1.heap,by rw[WO hroom];exact h.room,by simp;omega,by rw[if_pos (Nat.zero_le _)];exact h.low,fun j hj=> ?_, ?_,fun j y hj=> ?_⟩
 ·simp only[List.length_append,List.length_singleton]at hj
  rw[if_pos (show j<=l.length by omega)]
  by_cases hjl:j+1<=l.length
  ·rw[if_pos hjl];exact h.mono j (by omega)
  ·rw[if_neg hjl,show j=l.length by omega];exact h1.top
 ·simp only[List.length_append,List.length_singleton]
  rw[if_neg (show¬l.length+1<=l.length by omega)]
  exact hgr.size
 ·by_cases hjl:j<l.length
  ·rw[List.getElem?_append_left hjl]at hj
   obtain⟨S',k1,k2,k3⟩:=h1.el j y hj
   refine⟨S', ?_,k2,fun b hb=> ?_⟩
   ·have hjs:j*t.size+t.size<=l.length*t.size:=by
     have:=Nat.mul_le_mul_right t.size (show j+1<=l.length by omega)
     rwa [Nat.add_mul,Nat.one_mul]at this
    rw[U6 hroom (.inl hjs)]
    refine k1.grow hgr hf (fun b hb e=> ?_)
    have:=hNlo j (by omega)
    have:=(k3 b hb).1
    have:b=N:=e
    omega
   ·rw[if_pos (show j<=l.length by omega),if_pos (show j+1<=l.length by omega)]
    exact k3 b hb
  ·rw[List.getElem?_append_right (by omega)]at hj
   have hj0:j-l.length=0:=by
    have:=(List.getElem?_eq_some_iff.1 hj).1
    simp at this;omega
   have hje:j=l.length:=by omega
   rw[hj0]at hj
   simp only[List.getElem?_cons_zero,Option.some.injEq]at hj
   subst hj
   subst hje
   refine⟨S, ?_,hS,fun b hb'=> ?_⟩
   ·have hsg:=acV hroom
    rw[hvs]at hsg
    rw[hsg]
    refine hx.grow hgr hf (fun b hb' e=> ?_)
    have:=hb b hb'
    have hN:=(Array.getElem?_eq_some_iff.1 h.heap).1
    have:b=N:=e
    omega
   ·rw[if_pos (Nat.le_refl _),if_neg (show¬l.length+1<=l.length by omega)]
    exact⟨Nat.le_trans h.top (hb b hb'),hx.size b hb'⟩
end Go.Vai
namespace Go.Vai
open Go
section
variable {P:Program}
theorem Sh{ops:Array Oper}{rest:List Oper}{o:Oper}{a:Act}{w:World}{Q:Exit->Act->World->Prop}(hg:o.guard=none)(t:TypeId)(x:Operand)(ho:o.op= .load t x)
 {y v:Value} (hy:a.eval x=y) (hx:(Instr.loadAt t y).run P w= .ok v w) (h:wpList P ops Q rest (a.put o.dst v) w):wpList P ops Q (o::rest) a w:=
 wpList_plain hg fun _ hK=>by
  unfold Oper.wp execOp
  simp only[ho,hy,Sem.run_bind,hx,Result.andThen_ok,Sem.run_pure]
  exact hK _ _ h
theorem Dj{ops:Array Oper}{rest:List Oper}{o:Oper}{a:Act}{w w1:World}{Q:Exit->Act->World->Prop}(hg:o.guard=none)(t:TypeId)(x z:Operand)(ho:o.op= .store t x z)
 {y u:Value} (hy:a.eval x=y) (hu:a.eval z=u) (hx:(Instr.storeAt t y u).run P w= .ok () w1) (h:wpList P ops Q rest (a.put o.dst undef) w1):wpList P ops Q (o::rest) a w:=
 wpList_plain hg fun _ hK=>by
  unfold Oper.wp execOp
  simp only[ho,hy,hu,Sem.run_bind,hx,Result.andThen_ok,Sem.run_pure]
  exact hK _ _ h
theorem jz{ops:Array Oper}{rest:List Oper}{o:Oper}{a:Act}{w:World}{Q:Exit->Act->World->Prop}(w0:World)(hw:w=w0){w1:World}(t:TypeId)(x z:Operand)(ho:o.op= .store t x z)(hg:o.guard=none)
 {y u:Value} (hy:a.eval x=y) (hu:a.eval z=u) (hx:(Instr.storeAt t y u).run P w0= .ok () w1) (h:wpList P ops Q rest (a.put o.dst undef) w1):wpList P ops Q (o::rest) a w:=
 Dj hg t x z ho hy hu (hw▸hx) h
end
theorem OR.one{w:World}:∀{t:Ty} {x:t.T} {vs:List Value} {S:List Nat},OR w t x vs S->∀y,y∈vs->y.oneCell'=true
 | .int _,_,_,_,h,y,hy=>by rw[h.1]at hy;cases List.mem_singleton.1 hy;rfl
 | .bool,_,_,_,h,y,hy=>by rw[h.1]at hy;cases List.mem_singleton.1 hy;rfl
 | .str,_,_,_,h,y,hy=>by rw[h.1]at hy;cases List.mem_singleton.1 hy;rfl
 | .unit,_,_,_,h,y,hy=>by rw[h.1]at hy;cases hy
 | .pair a b,_,vs,_,h,y,hy=>by
   obtain⟨S1,S2,rfl,h1,h2⟩:=h
   rw[<-List.take_append_drop a.size vs]at hy
   rcases List.mem_append.1 hy with h|h
   ·exact OR.one h1 y h
   ·exact OR.one h2 y h
 | .slice _,_,_,_,h,y,hy=>by
   obtain⟨v,rfl,A,cap,rfl,_⟩:=h
   cases List.mem_singleton.1 hy;rfl
theorem abl{I:Nat->Prop}{w:World}(hI:∀n,I n->n<w.heap.size){t:Ty}{x:t.T}{vs:List Value}(h:ER I w t x vs):∃ms,aj ms=[]/\FV (X9 [] I w) w ⟨true,t.cells x⟩ (.agg vs.toArray) ms:=by
 obtain⟨ms,h1,h2⟩:=(ER.cells (ER.mono (fun n hn=>⟨Xt.2 ⟨hI n hn,List.not_mem_nil,hn⟩,rfl⟩) h:ER (X9 [] I w).imm w t x vs)).fs
 exact⟨ms,h2,vs.toArray,rfl,h1⟩
theorem adt{C:gY}{fid:FuncId}{c:af}(hS:ag C fid c)(hrw:c.rw=false){I:Nat->Prop}{w:World}{args:List Value}{vals:List Val}{ms:List (List Nat)}
 (hv:sR (X9 [] I w) w vals args ms) (hms:aj ms=[]) (hg:∀h cs,C.glob h=some cs->I h/\∃vs e fz,w.heap[h]?=some (.cells vs e fz)/\cs=vs.toList.map .v) {x:c.β} (hG:c.G [] vals=some x)
 {t:Ty} (hf:NL t=true) {y:t.T} (he:(c.enc x).1= .one ⟨true,NK t y⟩):
 Calls C.P fid args.toArray w fun e w'=>∃vs S,e= .returned (.agg vs)/\Grown (fun _=>False) w w'/\OR w' t y vs.toList S/\S.Nodup/\∀b,b∈S->w.heap.size<=b:=by
 refine(JR (I:=I) hS hrw (by rw[hms];exact hv) (by rw[hms];exact List.nodup_nil) (by rw[hms];intro b hb;cases hb) (fun h cs hc=>by
  obtain⟨k1,k2⟩:=hg h cs hc
  exact⟨k1,by rw[hms];exact List.not_mem_nil,k2⟩) hG).mono ?_
 rintro e w' ⟨v,rfl,g',ms',bms,k1,k2,k3,k4,k5,k6,k7,k8,k9,k10,k11⟩
 rw[he]at k1
 obtain⟨vs,rfl,k0⟩:=(show∃vs,v= .agg vs/\bS g' w' (NK t y) vs.toList ms' from k1)
 have hnd:(aj ms').Nodup:=by
  have:=k3.nodup
  exact(List.nodup_append.1 this).2.1
 refine⟨vs,aj ms',rfl,⟨k5,k6,k7,k8,fun n hn _=>k9 n hn (by rw[hms];exact List.not_mem_nil)⟩,acR hf (fun b hb=>k3.size b (List.mem_append_right _ hb)) k0,hnd,fun b hb=> ?_⟩
 rcases k4 b hb with h|h
 ·exact h
 ·rw[hms]at h;cases h
end Go.Vai
namespace Go.Vai
open Go
structure adi(w0 wr:World)(N hi:Nat)(lo:Nat->Nat)(t:Ty)(l:List t.T)(i:Nat)(arr:Array Value)(e:TypeId):Prop where
 grown:Grown (fun n=>N<=n/\n<hi) w0 wr
 heap:wr.heap[N]?=some (.cells arr e (0,0))
 room:arr.size=l.length*t.size
 el:∀j x,i<=j->l[j]?=some x->∃S,OR wr t x (nS arr (j*t.size) t.size) S/\S.Nodup/\∀b,b∈S->lo j<=b/\b<lo (j+1)
structure Yd(N hi n:Nat)(lo:Nat->Nat):Prop where
 low:N<lo 0
 le:∀i j,i<=j->j<=n->lo i<=lo j
 top:lo n=hi
theorem tL.tail{w:World}{N:Nat}{lo:Nat->Nat}{t:Ty}{l:List t.T}{arr:Array Value}{e:TypeId}(h:tL w N l.length lo t l arr e):adi w w N (lo l.length) lo t l 0 arr e:=
 ⟨Grown.refl _ _,h.heap,h.room,fun j x _ hj=>h.el j x hj⟩
theorem tL.ranks{w:World}{N:Nat}{lo:Nat->Nat}{t:Ty}{l:List t.T}{arr:Array Value}{e:TypeId}(h:tL w N l.length lo t l arr e):Yd N (lo l.length) l.length lo:=
 ⟨h.low,fun _ _ h1 h2=>h.lo_le h1 h2,rfl⟩
structure Mid(w0 wr:World)(N hi:Nat)(lo:Nat->Nat)(t:Ty)(l:List t.T)(i o2:Nat)(u:Ty)(zs:List u.T)(sv:Value)(S:List Nat)(arr:Array Value)(e:TypeId):Prop where
 tail:adi w0 wr N hi lo t l (i+1) arr e
 cell:arr.toList[i*t.size+o2]?=some sv
 own:Own wr u zs sv S
 nd:S.Nodup
 rng:∀b,b∈S->lo i<=b/\b<lo (i+1)
section
variable {w0 wr:World} {N hi:Nat} {lo:Nat->Nat} {t:Ty} {l:List t.T} {i o2:Nat} {u:Ty} {zs:List u.T} {sv:Value} {S:List Nat} {arr:Array Value} {e:TypeId}
theorem Mid.store{P:Program}(h:Mid w0 wr N hi lo t l i o2 u zs sv S arr e)(R:Yd N hi l.length lo)(hf:NL t=true)(hu:u.isFlat=true)(hi':i<l.length)(o:Nat)(ho:o<t.size)(hne:o≠o2)(T:TypeId)(v:Value)(hv:v.oneCell'=true)(hc:v.cells= #[v])(hT:sK P T=some 1):
 ∃w1 arr1,(Instr.storeAt T (.pointer (some ⟨N,i*t.size+o,none⟩)) v).run P wr= .ok () w1/\Mid w0 w1 N hi lo t l i o2 u zs sv S arr1 e:=by
 have hle:=Nat.mul_le_mul_right t.size (show i+1<=l.length by omega)
 rw[Nat.add_mul,Nat.one_mul]at hle
 have hroom:i*t.size+o+ [v].length<=arr.size:=by rw[h.tail.room,List.length_singleton];omega
 have hgr:=II wr N (Ta arr (i*t.size+o) [v])
 have hN0:=(Array.getElem?_eq_some_iff.1 h.tail.heap).1
 have hNlo:∀j,j<=l.length->N<lo j:=fun j hj=>Nat.lt_of_lt_of_le R.low (R.le 0 j (Nat.zero_le _) hj)
 have hrun:=xL (P:=P) (T:=T) (o:=i*t.size+o) (v:=v) (by rw[hc];exact hT) h.tail.heap (.inl (by rw[hc];exact hroom)) (by rw[hc];intro x hx;cases List.mem_singleton.1 hx;exact hv)
 rw[hc]at hrun
 refine⟨_,Ta arr (i*t.size+o) [v],hrun,⟨⟨h.tail.grown.trans (hgr.imp fun n _ hn=> ?_),Py h.tail.heap,by rw[WO hroom];exact h.tail.room,fun j x hj hx=> ?_⟩, ?_, ?_,h.nd,h.rng⟩⟩
 ·have hn:n=N:=hn
  subst hn
  refine⟨Nat.le_refl _, ?_⟩
  have:=hNlo l.length (Nat.le_refl _)
  rw[R.top]at this;exact this
 ·obtain⟨S',k1,k2,k3⟩:=h.tail.el j x hj hx
  have hjl:j<l.length:=(List.getElem?_eq_some_iff.1 hx).1
  have hjs:=Nat.mul_le_mul_right t.size hj
  rw[Nat.add_mul,Nat.one_mul]at hjs
  refine⟨S', ?_,k2,k3⟩
  rw[U6 hroom (.inr (by rw[List.length_singleton];omega))]
  refine k1.grow hgr hf (fun b hb e=> ?_)
  have:=hNlo j (by omega)
  have:=(k3 b hb).1
  have:b=N:=e
  omega
 ·have h1:=U6 (n:=1) (a:=i*t.size+o2) hroom (by rw[List.length_singleton];omega)
  have h2:=congrArg (fun q=>q[0]?) h1
  simp only[uk]at h2
  simp only[Nat.zero_lt_one,if_true,Nat.add_zero]at h2
  rw[h2];exact h.cell
 ·refine hgr.own hu h.own (fun b hb e=> ?_)
  have:=hNlo i (by omega)
  have:=(h.rng b hb).1
  have:b=N:=e
  omega
theorem Mid.slice{w1:World}{zs':List u.T}(h:Mid w0 wr N hi lo t l i o2 u zs sv S arr e)(R:Yd N hi l.length lo)(hf:NL t=true)(hi':i<l.length)(hg:Grown (fun n=>n∈S) wr w1)(ho:Own w1 u zs' sv S):
 Mid w0 w1 N hi lo t l i o2 u zs' sv S arr e:=by
 have hNlo:∀j,j<=l.length->N<lo j:=fun j hj=>Nat.lt_of_lt_of_le R.low (R.le 0 j (Nat.zero_le _) hj)
 have hN0:=(Array.getElem?_eq_some_iff.1 h.tail.heap).1
 refine⟨⟨h.tail.grown.trans (hg.imp fun n _ hn=> ?_), ?_,h.tail.room,fun j x hj hx=> ?_⟩,h.cell,ho,h.nd,h.rng⟩
 ·have:=h.rng n hn
  have:=hNlo i (by omega)
  have:=R.le (i+1) l.length (by omega) (Nat.le_refl _)
  rw[R.top]at this
  omega
 ·rw[hg.block N hN0 (fun hn=>by
   have:=h.rng N hn
   have:=hNlo i (by omega)
   omega)]
  exact h.tail.heap
 ·obtain⟨S',k1,k2,k3⟩:=h.tail.el j x hj hx
  have hjl:j<l.length:=(List.getElem?_eq_some_iff.1 hx).1
  refine⟨S',k1.grow hg hf (fun b hb hbS=> ?_),k2,k3⟩
  have:=(k3 b hb).1
  have:=(h.rng b hbS).2
  have:=R.le (i+1) j (by omega) (by omega)
  omega
theorem Mid.grow{w1:World}(h:Mid w0 wr N hi lo t l i o2 u zs sv S arr e)(hf:NL t=true)(hu:u.isFlat=true)(hg:Grown (fun _=>False) wr w1):Mid w0 w1 N hi lo t l i o2 u zs sv S arr e:=by
 have hN0:=(Array.getElem?_eq_some_iff.1 h.tail.heap).1
 refine⟨⟨h.tail.grown.trans hg.none,by rw[hg.block N hN0 id];exact h.tail.heap,h.tail.room,fun j x hj hx=> ?_⟩,h.cell,hg.own hu h.own (fun _ _=>id),h.nd,h.rng⟩
 obtain⟨S',k1,k2,k3⟩:=h.tail.el j x hj hx
 exact⟨S',k1.grow hg hf (fun _ _=>id),k2,k3⟩
theorem Mid.load{P:Program}(h:Mid w0 wr N hi lo t l i o2 u zs sv S arr e)(T:TypeId)(hT:si P T=some false):(Instr.loadAt T (.pointer (some ⟨N,i*t.size+o2,none⟩))).run P wr= .ok sv wr:=
 Jd hT h.tail.heap h.cell
end
end Go.Vai
namespace Go.Vai
open Go
theorem abg{C:gY}{fid:FuncId}{c:af}(hS:ag C fid c)(hrw:c.rw=false){I:Nat->Prop}{w:World}{args:List Value}{vals:List Val}{ms:List (List Nat)}
 (hv:sR (X9 [] I w) w vals args ms) (hms:aj ms=[]) (hg:∀h cs,C.glob h=some cs->I h/\∃vs e fz,w.heap[h]?=some (.cells vs e fz)/\cs=vs.toList.map .v) {x:c.β} (hG:c.G [] vals=some x)
 {t:Ty} (hf:t.isFlat=true) {l:List t.T} (he:(c.enc x).1= .one ⟨false,[.own t l]⟩):
 Calls C.P fid args.toArray w fun e w'=>∃v m,e= .returned v/\Grown (fun _=>False) w w'/\Own w' t l v m/\m.Nodup/\∀b,b∈m->w.heap.size<=b:=by
 refine(JR (I:=I) hS hrw (by rw[hms];exact hv) (by rw[hms];exact List.nodup_nil) (by rw[hms];intro b hb;cases hb) (fun h cs hc=>by
  obtain⟨k1,k2⟩:=hg h cs hc
  exact⟨k1,by rw[hms];exact List.not_mem_nil,k2⟩) hG).mono ?_
 rintro e w' ⟨v,rfl,g',ms',bms,k1,k2,k3,k4,k5,k6,k7,k8,k9,k10,k11⟩
 rw[he]at k1
 obtain⟨u',us,m,ms2,e1,e2,k12,k13⟩:=(show bS g' w' [.own t l] [v] ms' from k1)
 simp only[List.cons.injEq]at e1
 obtain⟨rfl,rfl⟩:=e1
 obtain⟨_,rfl⟩:=k13
 subst e2
 refine⟨v,m,rfl,⟨k5,k6,k7,k8,fun n hn _=>k9 n hn (by rw[hms];exact List.not_mem_nil)⟩,XO hf (fun b hb=>k3.size b (by simp[aj,hb])) k12, ?_,fun b hb=> ?_⟩
 ·have:=(List.nodup_append.1 k3.nodup).2.1
  simpa[aj]using this
 rcases k4 b (by simp[aj,hb])with h|h
 ·exact h
 ·rw[hms]at h;cases h
theorem Ub{C:gY}{fid:FuncId}{c:af}(hS:ag C fid c)(hrw:c.rw=false){I:Nat->Prop}{w:World}{args:List Value}{vals:List Val}{ms:List (List Nat)}
 (hv:sR (X9 [] I w) w vals args ms) (hms:aj ms=[]) (hg:∀h cs,C.glob h=some cs->I h/\∃vs e fz,w.heap[h]?=some (.cells vs e fz)/\cs=vs.toList.map .v) {x:c.β} (hG:c.G [] vals=some x)
 {t:Ty} (hf:t.isFlat=true) {l:List t.T} {a b:Value} (he:(c.enc x).1= .tup [⟨false,[.own t l]⟩,⟨false,[.v a]⟩,⟨false,[.v b]⟩]):
 Calls C.P fid args.toArray w fun e w'=>∃v m,e= .returned (.tuple #[v,a,b])/\Grown (fun _=>False) w w'/\Own w' t l v m/\m.Nodup/\∀n,n∈m->w.heap.size<=n:=by
 refine(JR (I:=I) hS hrw (by rw[hms];exact hv) (by rw[hms];exact List.nodup_nil) (by rw[hms];intro b hb;cases hb) (fun h cs hc=>by
  obtain⟨k1,k2⟩:=hg h cs hc
  exact⟨k1,by rw[hms];exact List.not_mem_nil,k2⟩) hG).mono ?_
 rintro e w' ⟨v,rfl,g',ms',bms,k1,k2,k3,k4,k5,k6,k7,k8,k9,k10,k11⟩
 rw[he]at k1
 obtain⟨vs,rfl,k0⟩:=(show∃vs,v= .tuple vs/\sR g' w' [⟨false,[.own t l]⟩,⟨false,[.v a]⟩,⟨false,[.v b]⟩] vs.toList ms' from k1)
 obtain⟨v1,r1,m1,s1,e1,e2,h1,v2,r2,m2,s2,e3,e4,h2,v3,r3,m3,s3,e5,e6,h3,e7,e8⟩:=k0
 obtain⟨y1,q1,n1,t1,f1,f2,p1,g1,g1'⟩:=(show bS g' w' [.own t l] [v1] m1 from h1)
 obtain⟨y2,q2,n2,t2,f3,f4,p2,g2,g2'⟩:=(show bS g' w' [.v a] [v2] m2 from h2)
 obtain⟨y3,q3,n3,t3,f5,f6,p3,g3,g3'⟩:=(show bS g' w' [.v b] [v3] m3 from h3)
 simp only[List.cons.injEq]at f1 f3 f5
 obtain⟨rfl,rfl⟩:=f1
 obtain⟨rfl,rfl⟩:=f3
 obtain⟨rfl,rfl⟩:=f5
 subst g1' g2' g3' f2 f4 f6 e8 e7 e6 e5 e4 e3 e2
 have ha:v2=a:=p2.2 (.slot 0 0 0)
 have hb:v3=b:=p3.2 (.slot 0 0 0)
 subst ha hb
 have hvs:vs= #[v1,v2,v3]:=by apply Array.ext';rw[e1]
 refine⟨v1,n1,by rw[hvs],⟨k5,k6,k7,k8,fun n hn _=>k9 n hn (by rw[hms];exact List.not_mem_nil)⟩,XO hf (fun b hb=>k3.size b (by simp[aj,hb])) p1, ?_,fun b hb=> ?_⟩
 ·have:=(List.nodup_append.1 k3.nodup).2.1
  have:(n1++(n2++n3)).Nodup:=by simpa[aj]using this
  exact(List.nodup_append.1 this).1
 rcases k4 b (by simp[aj,hb])with h|h
 ·exact h
 ·rw[hms]at h;cases h
end Go.Vai
