/- No conditions. -/
import Derived.Test.YtjkljnflaifbhaaGreatDoorVai15
namespace Go.Vai
open Go
section
variable {C:gY} {E:iU} {g:Gh} {st:St} {tm:Array Value} {w:World} {Q:Type}
def Ia(g:Gh)(w:World)(x:sk)(v:Value)(m:List Nat):Prop:=
 ∃A cap,v= .slice A x.l.length cap/\x.l.length<=cap/\((cap=0/\m=[])\/(cap≠0/\∃b off cs e,m=[b]/\A=some ⟨b,off,none⟩/\g.lab b= .own x.p off x.l.length cap/\
  w.heap[b]?=some (.cells cs e (0,0))/\off+cap*x.t.size<=cs.size/\∀i z,x.l[i]?=some z->ER g.imm w x.t z (nS cs (off+i*x.t.size) x.t.size)))
structure wK(g:Gh)(w:World)(ls:List sk)(vs:List Value)(ms:List (List Nat)):Prop where
 len:ms.length=ls.length
 lenV:vs.length=ls.length
 each:∀(i:Nat) x v m,ls[i]?=some x->vs[i]?=some v->ms[i]?=some m->Ia g w x v m
theorem wK.nil:wK g w [] [] []:=⟨rfl,rfl,fun i x v m h=>by simp at h⟩
theorem wK.cons{x:sk}{v:Value}{m:List Nat}{ls:List sk}{vs:List Value}{ms:List (List Nat)}(h:Ia g w x v m)(h':wK g w ls vs ms):wK g w (x::ls) (v::vs) (m::ms):=by
 refine⟨by simp[h'.len],by simp[h'.lenV],fun i y u k h1 h2 h3=> ?_⟩
 cases i with
 |zero=>simp at h1 h2 h3;subst h1;subst h2;subst h3;exact h
 |succ i=>exact h'.each i y u k (by simpa using h1) (by simpa using h2) (by simpa using h3)
theorem XC{p:Place}{lo:Nat}{t:Ty}{l:List t.T}{v:Value}(h:cC g w (.view p true lo t l) v []):∃m,Ia g w ⟨p,t,l⟩ v m:=by
 obtain⟨A,cap,rfl,hc,hh⟩:=(h.2 (.slot 0 0 0)).1
 by_cases h0:cap=0
 ·exact⟨[],A,cap,rfl,hc, .inl ⟨h0,rfl⟩⟩
 ·obtain⟨b,off,n,c,cs,e,hA,hl,hf,hheap,hs,hx⟩:=hh.resolve_left h0
  obtain⟨rfl,rfl,rfl⟩:=hf rfl
  simp only[Nat.zero_mul,Nat.add_zero]at hA hs hx
  exact⟨[b],A,c,rfl,hc, .inr ⟨h0,b,off,cs,e,rfl,hA,hl,hheap,hs,hx⟩⟩
theorem aag{c:CV}{v:Value}(hp:c.isPlain=true)(h:cC g w c v []):DB v=[v]/\EW [v]=[]/\∀(g':Gh) (w':World),cC g' w' c v []:=by
 unfold CV.isPlain at hp
 split at hp
 all_goals first
  |(have e:=h.2 (.slot 0 0 0)
    simp only[cu]at e
    subst e
    exact⟨rfl,rfl,fun _ _=>⟨rfl,fun _=>rfl⟩⟩)
  |cases hp
theorem Kl{c:CV}{r:List CV}{a:List sk}(h:B9 (c::r)=some a):(∃p lo t l a',c= .view p true lo t l/\B9 r=some a'/\a=⟨p,t,l⟩::a')\/(c.isPlain=true/\B9 r=some a):=by
 unfold B9 at h
 split at h
 ·rename_i he;cases he
 ·rename_i p lo t l r' he
  cases he
  rw[Option.map_eq_some_iff]at h
  obtain⟨a',h1,rfl⟩:=h
  exact .inl ⟨_,_,_,_,a',rfl,h1,rfl⟩
 ·rename_i c' r' _ he
  cases he
  split at h
  ·rename_i hp;exact .inr ⟨hp,h⟩
  ·cases h
theorem NV.flat{x:Val}{v:Value}{a:List sk}(h:NV g w x v)(hl:B9 x.cs=some a):bg g w x.cs (DB v)/\∀(g':Gh) ms,bS g' w (R0 x.cs) (DB v) ms->FV g' w ⟨x.agg,R0 x.cs⟩ v ms:=by
 obtain⟨xa,cs⟩:=x
 cases xa with
 |true=>
  obtain⟨vs,rfl,h⟩:=h
  exact⟨h,fun g' ms h'=>⟨vs,rfl,h'⟩⟩
 |false=>
  have h:bg g w cs [v]:=h
  cases cs with
  |nil=>cases h
  |cons c r=>
   obtain⟨v',vs',e,h1,h2⟩:=h
   cases e
   have hv:DB v=[v]:=by
    rcases Kl hl with⟨p,lo,t,l,a',rfl,_⟩|⟨hp,_⟩
    ·obtain⟨⟨A,cap,rfl,_⟩,_⟩:=h1.2 (.slot 0 0 0);rfl
    ·exact(aag hp h1).1
   rw[hv]
   exact⟨⟨v,[],rfl,h1,h2⟩,fun g' ms h'=>h'⟩
theorem W1{v:Value}{vs:List Value}(h:EW [v]=[]):EW (v::vs)=EW vs:=by
 cases v<;>first|rfl|cases h
theorem Qz:∀(cs:List CV) (a:List sk) (vs:List Value),B9 cs=some a->bg g w cs vs->∃ms,∀ls' vs' ms',wK g w ls' vs' ms'->wK g w (a++ls') (EW vs++vs') (ms++ms')
 |[],a,vs,h,hn=>by
  simp only[B9,Option.some.injEq]at h
  subst h
  have hn:vs=[]:=hn
  subst hn
  exact⟨[],fun _ _ _ h=>h⟩
 |c::r,a,vs,h,hn=>by
  obtain⟨v,vs1,rfl,h1,h2⟩:=hn
  rcases Kl h with⟨p,lo,t,l,a',rfl,ha,rfl⟩|⟨hp,ha⟩
  ·obtain⟨ms,hms⟩:=Qz r a' vs1 ha h2
   obtain⟨m,hm⟩:=XC h1
   obtain⟨⟨A,cap,rfl,_⟩,_⟩:=h1.2 (.slot 0 0 0)
   exact⟨m::ms,fun ls' vs' ms' h'=>wK.cons hm (hms ls' vs' ms' h')⟩
  ·rw[W1 (aag hp h1).2.1]
   exact Qz r a vs1 ha h2
theorem U3:∀(cs:List CV) (a:List sk) (vs:List Value) (ls':List sk) (vs':List Value) (ms:List (List Nat)),B9 cs=some a->bg g w cs vs->wK g w (a++ls') (EW vs++vs') ms->
 ∃ms1 ms2 msF,ms=ms1++ms2/\wK g w ls' vs' ms2/\aj msF=aj ms1/\∀g':Gh,(∀n,g.imm n->g'.imm n)->bS g' w (R0 cs) vs msF
 |[],a,vs,ls',vs',ms,h,hn,hL=>by
  simp only[B9,Option.some.injEq]at h
  subst h
  have hn:vs=[]:=hn
  subst hn
  exact⟨[],ms,[],rfl,hL,rfl,fun _ _=>⟨rfl,rfl⟩⟩
 |c::r,a,vs,ls',vs',ms,h,hn,hL=>by
  obtain⟨v,vs1,rfl,h1,h2⟩:=hn
  rcases Kl h with⟨p,lo,t,l,a',rfl,ha,rfl⟩|⟨hp,ha⟩
  ·cases ms with
   |nil=>have:=hL.len;simp at this
   |cons m ms=>
    obtain⟨⟨A0,cap0,rfl,_⟩,_⟩:=h1.2 (.slot 0 0 0)
    have hm:Ia g w ⟨p,t,l⟩ _ m:=hL.each 0 _ _ _ rfl rfl rfl
    have hL':wK g w (a'++ls') (EW vs1++vs') ms:=⟨by have:=hL.len;simpa using this,by have:=hL.lenV;simpa[EW]using this,fun i x v m h1 h2 h3=>hL.each (i+1) x v m (by simpa using h1) (by simpa[EW]using h2) (by simpa using h3)⟩
    obtain⟨ms1,ms2,msF,rfl,k1,k3,k2⟩:=U3 r a' vs1 ls' vs' ms ha h2 hL'
    refine⟨m::ms1,ms2,m::msF,rfl,k1,by simp only[aj,k3],fun g' hg=>⟨_,vs1,m,msF,rfl,rfl, ?_,k2 g' hg⟩⟩
    obtain⟨A,cap,e,hc,hh⟩:=hm
    rw[e]
    rcases hh with⟨h0,rfl⟩|⟨h0,b,off,cs,e',rfl,rfl,hlab,hheap,hs,hx⟩
    ·exact⟨0,A,cap,rfl,hc, .inl h0⟩
    ·refine⟨0,_,cap,rfl,hc, .inr ⟨b,off,0,0,cs,e',by simp,rfl,(fun h=>by cases h),hheap,by simpa using hs,fun i z hz=> ?_⟩⟩
     rw[Nat.zero_mul,Nat.add_zero]
     exact ER.mono (fun n hn=>⟨hg n hn,rfl⟩) (hx i z hz)
  ·obtain⟨_,k2,k3⟩:=aag hp h1
   rw[W1 k2]at hL
   obtain⟨ms1,ms2,msF,rfl,m1,m2,m3⟩:=U3 r a vs1 ls' vs' ms ha h2 hL
   have e:R0 (c::r)=c::R0 r:=by cases c<;>first|rfl|cases hp
   rw[e]
   exact⟨ms1,ms2,[]::msF,rfl,m1,by simp only[aj,List.nil_append,m2],fun g' hg=>⟨v,vs1,[],msF,rfl,rfl,k3 g' w,m3 g' hg⟩⟩
theorem UB:∀(io:List Bool) (args:List AV) (ls:List sk) (vs:List Value),Gk io args=some ls->vG g w args vs->∃ms,wK g w ls (oq io vs) ms
 |io,[],ls,vs,h,hn=>by
  simp only[vG]at hn
  subst hn
  simp only[Gk,Option.some.injEq]at h
  subst h
  exact⟨[],by simp only[oq];exact wK.nil⟩
 |io,a::r,ls,vs,h,hn=>by
  obtain⟨v,vs',rfl,h1,h2⟩:=hn
  simp only[Gk]at h
  simp only[oq]
  cases hio:io.headD false with
  |false=>
   rw[hio]at h
   exact UB io.tail r ls vs' h h2
  |true=>
   rw[hio]at h
   simp only at h
   cases a with
   |tup _=>cases h
   |one x=>
    simp only at h
    split at h
    ·rename_i a ha
     rw[Option.map_eq_some_iff]at h
     obtain⟨ls',hl,rfl⟩:=h
     obtain⟨ms,hms⟩:=UB io.tail r ls' vs' hl h2
     obtain⟨ms1,h3⟩:=Qz x.cs a _ ha (NV.flat h1 ha).1
     exact⟨ms1++ms,h3 _ _ _ hms⟩
    ·cases h
theorem QD:∀{ms:List (List Nat)} {b:Nat},b∈aj ms↔∃(i:Nat) (m:List Nat),ms[i]?=some m/\b∈m
 |[],b=>by simp[aj]
 |a::r,b=>by
  simp only[aj,List.mem_append]
  rw[QD (ms:=r)]
  constructor
  ·rintro (h|⟨i,m,h,h'⟩)
   ·exact⟨0,a,rfl,h⟩
   ·exact⟨i+1,m,by simpa using h,h'⟩
  ·rintro ⟨i,m,h,h'⟩
   cases i with
   |zero=>simp at h;subst h;exact .inl h'
   |succ i=>exact .inr ⟨i,m,by simpa using h,h'⟩
theorem Ia.one{x:sk}{v:Value}{m:List Nat}(h:Ia g w x v m){b:Nat}(hb:b∈m):m=[b]/\∃off cap,g.lab b= .own x.p off x.l.length cap:=by
 obtain⟨A,cap,_,_,h1|⟨_,b',off,cs,e,hm,_,hl,_⟩⟩:=h
 ·rw[h1.2]at hb;cases hb
 ·subst hm
  simp only[List.mem_singleton]at hb
  subst hb
  exact⟨rfl,off,cap,hl⟩
theorem wK.mem{ls:List sk}{vs:List Value}{ms:List (List Nat)}(h:wK g w ls vs ms){b:Nat}(hb:b∈aj ms):∃(i:Nat) (x:sk) (off cap:Nat),ls[i]?=some x/\ms[i]?=some [b]/\g.lab b= .own x.p off x.l.length cap:=by
 obtain⟨i,m,hi,hbm⟩:=QD.1 hb
 have hil:i<ls.length:=by rw[<-h.len];exact(List.getElem?_eq_some_iff.1 hi).1
 obtain⟨rfl,off,cap,hl⟩:=(h.each i _ _ _ (List.getElem?_eq_getElem hil) (List.getElem?_eq_getElem (by rw[h.lenV];exact hil)) hi).one hbm
 exact⟨i,_,off,cap,List.getElem?_eq_getElem hil,hi,hl⟩
theorem DW{ls:List sk}{q:Place}:sC ls q=true↔∃x,x∈ls/\x.p=q:=by
 simp[sC]
theorem Ik:∀{ls:List sk},distinct ls=true->∀(i j:Nat) x y,ls[i]?=some x->ls[j]?=some y->x.p=y.p->i=j
 |[],_,i,j,x,y,h,_,_=>by simp at h
 |a::r,hd,i,j,x,y,h1,h2,hp=>by
  simp only[distinct,Bool.and_eq_true,Bool.not_eq_true']at hd
  have hno:∀z,z∈r->z.p≠a.p:=fun z hz e=>by
   have:=DW.2 ⟨z,hz,e⟩
   rw[this]at hd;cases hd.1
  cases i with
  |zero=>
   cases j with
   |zero=>rfl
   |succ j=>
    simp at h1 h2
    subst h1
    exact absurd hp.symm (hno y (List.mem_of_getElem? h2))
  |succ i=>
   cases j with
   |zero=>
    simp at h1 h2
    subst h2
    exact absurd hp (hno x (List.mem_of_getElem? h1))
   |succ j=>rw[Ik hd.2 i j x y (by simpa using h1) (by simpa using h2) hp]
theorem wK.nodup{ls:List sk}{vs:List Value}{ms:List (List Nat)}(h:wK g w ls vs ms)(hd:distinct ls=true):(aj ms).Nodup:=by
 have key:∀ms:List (List Nat),(∀(i:Nat) m b,ms[i]?=some m->b∈m->m=[b])->(∀(i j:Nat) b,ms[i]?=some [b]->ms[j]?=some [b]->i=j)->(aj ms).Nodup:=by
  intro ms
  induction ms with
  |nil=>exact fun _ _=>List.nodup_nil
  |cons m r ih=>
   intro h1 hu
   have hr:=ih (fun i m b h2=>h1 (i+1) m b (by simpa using h2)) (fun i j b h1 h2=>by have:=hu (i+1) (j+1) b (by simpa using h1) (by simpa using h2);omega)
   cases m with
   |nil=>exact hr
   |cons b m'=>
    have:=h1 0 (b::m') b rfl (by simp)
    rw[this]
    refine List.nodup_cons.2 ⟨fun hb=> ?_,hr⟩
    obtain⟨i,m,hi,hbm⟩:=QD.1 hb
    have e:=h1 (i+1) m b (by simpa using hi) hbm
    subst e
    have:=hu 0 (i+1) b (by rw[this];rfl) (by simpa using hi)
    omega
 have one:∀(i:Nat) m b,ms[i]?=some m->b∈m->∃x off cap,ls[i]?=some x/\m=[b]/\g.lab b= .own x.p off x.l.length cap:=by
  intro i m b hi hb
  have hil:i<ls.length:=by rw[<-h.len];exact(List.getElem?_eq_some_iff.1 hi).1
  obtain⟨rfl,off,cap,hl⟩:=(h.each i _ _ _ (List.getElem?_eq_getElem hil) (List.getElem?_eq_getElem (by rw[h.lenV];exact hil)) hi).one hb
  exact⟨_,off,cap,List.getElem?_eq_getElem hil,rfl,hl⟩
 refine key ms (fun i m b hi hb=>(let⟨_,_,_,_,e,_⟩:=one i m b hi hb;e)) (fun i j b h1 h2=> ?_)
 obtain⟨x,o1,c1,hx,_,hl1⟩:=one i _ b h1 (by simp)
 obtain⟨y,o2,c2,hy,_,hl2⟩:=one j _ b h2 (by simp)
 rw[hl1]at hl2
 injection hl2 with hp
 exact Ik hd i j x y hx hy hp
theorem cC.unlend0{bad:Place->Bool}{c:CV}{v:Value}(h:cC g w c v []):cC (g.free bad) w (c.unlend bad) v []:=by
 have H:=g.free_steps bad w
 cases c with
 |view q f lo t l=>
  simp only[CV.unlend]
  cases hb:bad q with
  |true=>exact⟨rfl,fun _=>trivial⟩
  |false=>exact cC.mono' H (fun b e=>by cases e) (fun _ _=>hb) h
 |va q i t x o=>
  simp only[CV.unlend]
  cases hb:bad q with
  |true=>exact⟨rfl,fun _=>trivial⟩
  |false=>exact cC.mono' H (fun b e=>by cases e) (fun _ _=>hb) h
 |own t l=>exact cC.mono' H (fun b e=>by cases e) (fun _ e=>by cases e) h
 |np cs=>exact h.np_nil.elim
 |undef=>exact⟨rfl,fun _=>trivial⟩
 |v x=>exact h
 |emp=>exact h
 |sl t l=>exact cC.mono' H (fun b e=>by cases e) (fun _ _=>trivial) h
 |ptr b o=>exact cC.mono' H (fun b e=>by cases e) (fun _ _=>trivial) h
 |gp b o=>exact h
 |lb n=>exact h
 |ea t x o=>exact cC.mono' H (fun b e=>by cases e) (fun _ _=>trivial) h
 |fn f caps=>exact cC.mono' H (fun b e=>by cases e) (fun _ _=>fun _ _=>trivial) h
theorem bg.unlend0{bad:Place->Bool}:∀{cs:List CV} {vs:List Value},bg g w cs vs->bg (g.free bad) w (cs.map (CV.unlend bad)) vs
 |[],_,h=>h
 |_::_,_,h=>by obtain⟨v,vs',rfl,h1,h2⟩:=h;exact⟨v,vs',rfl,h1.unlend0,h2.unlend0⟩
theorem Qw{g1:Gh}{st1:St}(R1:dG C E g1 st1 tm w){bad:Place->Bool}(hg1:g1=g.free bad)(hI:∀n,g.lab n= .imm->n<w.heap.size/\g1.lab n= .imm){S:List Nat}(hJ:∀n,n∈S->g1.lab n= .junk):
 ∀(io:List Bool) (args:List AV) (ls:List sk) (acc acc':List (List CV)) (vals:List Val) (vs:List Value) (ms:List (List Nat)) (ns:List Nat),Cq S w ns acc->Gk io args=some ls->
  Ng st1 bad io args acc=some (vals,acc')->vG g w args vs->wK g w ls (oq io vs) ms->(∀b,b∈aj ms->b∈S)->
  ∃ns',Cq S w (ns++ns') acc'/\∀tail,∃msA,sR (X8 S w (ns++ns'++tail)) w vals vs msA/\aj msA=aj ms
 |io,[],ls,acc,acc',vals,vs,ms,ns,h,hl,hr,hn,hL,hS=>by
  simp only[vG]at hn
  subst hn
  simp only[Ng,Option.some.injEq,Prod.mk.injEq]at hr
  obtain⟨rfl,rfl⟩:=hr
  simp only[Gk,Option.some.injEq]at hl
  subst hl
  have:ms=[]:=List.length_eq_zero_iff.1 hL.len
  subst this
  exact⟨[],by simpa using h,fun _=>⟨[],⟨rfl,rfl⟩,rfl⟩⟩
 |io, .tup _::_,_,_,_,_,_,_,_,_,_,hr,_,_,_=>by simp[Ng]at hr
 |io, .one x::r,ls,acc,acc',vals,vs,ms,ns,h,hl,hr,hn,hL,hS=>by
  obtain⟨v,vs',rfl,h1,h2⟩:=hn
  simp only[Gk]at hl
  simp only[Ng]at hr
  simp only[oq]at hL
  cases hio:io.headD false with
  |false=>
   rw[hio]at hl hr hL
   simp only at hr hL
   have hl:Gk io.tail r=some ls:=hl
   split at hr
   ·rename_i cs acc1 hx
    split at hr
    ·rename_i l acc2 hv
     simp only[Option.some.injEq,Prod.mk.injEq]at hr
     obtain⟨rfl,rfl⟩:=hr
     have step:∀(vals:List Value),bg g w x.cs vals->∃ns',Cq S w (ns++ns') acc1/\∀tail,bg (X8 S w (ns++ns'++tail)) w cs vals:=
      fun vals hv=>Pu R1 hJ _ acc acc1 cs vals ns h hx (by rw[hg1];exact hv.unlend0)
     obtain⟨ns1,h3,h4⟩:∃ns',Cq S w (ns++ns') acc1/\∀tail,NV (X8 S w (ns++ns'++tail)) w ⟨x.agg,cs⟩ v:=by
      obtain⟨xa,xcs⟩:=x
      cases xa with
      |true=>
       obtain⟨vs,rfl,hv⟩:=h1
       obtain⟨ns',h3,h4⟩:=step _ hv
       exact⟨ns',h3,fun tail=>⟨vs,rfl,h4 tail⟩⟩
      |false=>
       obtain⟨ns',h3,h4⟩:=step [v] h1
       exact⟨ns',h3,fun tail=>h4 tail⟩
     obtain⟨ns2,h5,h6⟩:=Qw R1 hg1 hI hJ io.tail r ls acc1 _ l vs' ms (ns++ns1) h3 hl hv h2 hL hS
     refine⟨ns1++ns2,by simpa using h5,fun tail=> ?_⟩
     obtain⟨msA,k1,k2⟩:=h6 tail
     obtain⟨ms1,k3,k4⟩:=(h4 (ns2++tail)).fs
     refine⟨ms1++msA,⟨v,vs',ms1,msA,rfl,rfl, ?_, ?_⟩,by rw[cJ,k4,k2];rfl⟩
     ·simpa using k3
     ·simpa using k1
    ·cases hr
   ·cases hr
  |true=>
   rw[hio]at hl hr hL
   simp only at hl hr hL
   split at hl
   ·rename_i a ha
    rw[Option.map_eq_some_iff]at hl
    obtain⟨ls',hl,rfl⟩:=hl
    split at hr
    ·rename_i vals' acc2 hv
     simp only[Option.some.injEq,Prod.mk.injEq]at hr
     obtain⟨rfl,rfl⟩:=hr
     obtain⟨hf1,hf2⟩:=NV.flat h1 ha
     obtain⟨ms1,ms2,msF,rfl,hL',hOs,hO⟩:=U3 x.cs a _ ls' _ ms ha hf1 hL
     obtain⟨ns2,h5,h6⟩:=Qw R1 hg1 hI hJ io.tail r ls' acc _ vals' vs' ms2 ns h hl hv h2 hL' (fun b hb=>hS b (by rw[cJ];exact List.mem_append_right _ hb))
     refine⟨ns2,h5,fun tail=> ?_⟩
     obtain⟨msA,k1,k2⟩:=h6 tail
     refine⟨msF++msA,⟨v,vs',msF,msA,rfl,rfl,hf2 _ _ (hO _ fun n hn=> ?_),k1⟩,by rw[cJ,cJ,k2,hOs]⟩
     obtain⟨k3,k4⟩:=hI n hn
     exact BI R1 hJ (by rw[k4];simp)
    ·cases hr
   ·cases hl
theorem UA{k:Option Q}{r:Q}:∀{ls:List sk},XB st k ls=some r->k=some r/\∀x,x∈ls->∃l:List x.t.T,st.atPlace x.p= .own x.t l/\l.length=x.l.length
 |[],h=>⟨h,fun x hx=>(List.not_mem_nil hx).elim⟩
 |x::r',h=>by
  simp only[XB]at h
  split at h
  ·rename_i t l hat
   split at h
   ·rename_i ht
    subst ht
    cases hd:decide (l.length=x.l.length)with
    |false=>rw[hd]at h;cases h
    |true=>
     rw[hd]at h
     obtain⟨h1,h2⟩:=UA (ls:=r') h
     refine⟨h1,fun y hy=> ?_⟩
     rcases List.mem_cons.1 hy with rfl|hy
     ·exact⟨l,hat,of_decide_eq_true hd⟩
     ·exact h2 y hy
   ·cases h
  ·cases h
theorem Wg{g':Gh}{w':World}:∀{ls:List sk} {cs:List CV} {vs:List Value} {bms:List (List Nat)},Dv ls cs=true->bS g' w' cs vs bms->
 ∀q,(∀c',Ih ls cs q=some c'->∃(i:Nat) (x:sk) (l:List x.t.T) (v:Value) (bm:List Nat),ls[i]?=some x/\x.p=q/\c'= .own x.t l/\x.t.isFlat=true/\vs[i]?=some v/\cC g' w' (.own x.t l) v bm)/\
  (Ih ls cs q=none->sC ls q=false)
 |[],cs,vs,bms,hb,h,q=>by
  refine⟨fun c' h=> ?_,fun _=>rfl⟩
  cases cs<;>simp[Ih]at h
 |x::r,[],vs,bms,hb,h,q=>by simp[Dv]at hb
 |x::r,c::cs,vs,bms,hb,h,q=>by
  obtain⟨v,vs',bm,bms',rfl,rfl,h1,h2⟩:=h
  cases c with
  |own t l=>
   simp only[Dv,Bool.and_eq_true,decide_eq_true_eq]at hb
   obtain⟨⟨rfl,hf⟩,hb⟩:=hb
   obtain⟨k1,k2⟩:=Wg hb h2 q
   simp only[Ih]
   by_cases hp:x.p=q
   ·rw[if_pos hp]
    refine⟨fun c' hc=> ?_,fun hc=>by cases hc⟩
    cases hc
    exact⟨0,x,l,v,bm,rfl,hp,rfl,hf,rfl,h1⟩
   ·rw[if_neg hp]
    refine⟨fun c' hc=> ?_,fun hc=> ?_⟩
    ·obtain⟨i,y,l',u,bm',m1,m2,m3,m4,m5,m6⟩:=k1 c' hc
     exact⟨i+1,y,l',u,bm',by simpa using m1,m2,m3,m4,by simpa using m5,m6⟩
    ·have:=k2 hc
     simp only[sC,List.any_cons,Bool.or_eq_false_iff,decide_eq_false_iff_not]at this⊢
     exact⟨hp,this⟩
  |_=>simp[Dv]at hb
theorem Yq{g':Gh}{w':World}:∀{ls:List sk} {cs:List CV} {vs:List Value} {bms:List (List Nat)} {ms:List (List Nat)},Dv ls cs=true->bS g' w' cs vs bms->wK g w ls vs ms->∀b,b∈aj ms->b∈aj bms
 |[],cs,vs,bms,ms,hb,h,hL,b,hm=>by
  have:ms=[]:=List.length_eq_zero_iff.1 hL.len
  subst this;cases hm
 |x::r,[],vs,bms,ms,hb,h,hL,b,hm=>by simp[Dv]at hb
 |x::r,c::cs,vs,bms,ms,hb,h,hL,b,hm=>by
  obtain⟨v,vs',bm,bms',rfl,rfl,h1,h2⟩:=h
  cases ms with
  |nil=>cases hm
  |cons m ms=>
   have hm1:Ia g w x v m:=hL.each 0 _ _ _ rfl rfl rfl
   have hL':wK g w r vs' ms:=⟨by have:=hL.len;simpa using this,by have:=hL.lenV;simpa using this,fun i x v m h1 h2 h3=>hL.each (i+1) x v m (by simpa using h1) (by simpa using h2) (by simpa using h3)⟩
   cases c with
   |own t l=>
    simp only[Dv,Bool.and_eq_true,decide_eq_true_eq]at hb
    have ih:=fun hb'=>Yq hb.2 h2 hL' b hb'
    have tl:b∈aj bms'->b∈aj (bm::bms'):=fun h=>by simp[aj,h]
    simp only[aj,List.mem_append]at hm
    rcases hm with hm|hm
    ·obtain⟨A,cap,rfl,hc,hh⟩:=hm1
     obtain⟨lo,A',cap',hv,hc',hh'⟩:=h1
     simp only[Value.slice.injEq]at hv
     obtain⟨rfl,hv2,rfl⟩:=hv
     rcases hh with⟨_,e⟩|⟨h0,b',off,cs',e',hm',rfl,_⟩
     ·rw[e]at hm;cases hm
     ·subst hm'
      simp only[List.mem_singleton]at hm
      subst hm
      obtain⟨b3,off3,n3,c3,cs3,e3,hA3,hm3,_⟩:=hh'.resolve_left h0
      simp only[Option.some.injEq,Addr.mk.injEq]at hA3
      obtain⟨rfl,_⟩:=hA3
      rw[hm3];simp[aj]
    ·exact tl (ih hm)
   |_=>simp[Dv]at hb
theorem cu.unlend'{g':Gh}{w':World}{bad:Place->Bool}(H:gM (fun q=>bad q=false) (fun _=>True) g g' w w'){p:Place}(hp:bad p=false){c:CV}{v:Value}(h:cu g w p c v):cu g' w' p (c.unlend bad) v:=by
 cases c with
 |view q f lo t l=>
  simp only[CV.unlend]
  cases hb:bad q with
  |true=>exact trivial
  |false=>exact cu.mono H (c:=.view q f lo t l) hb h
 |va q i t x o=>
  simp only[CV.unlend]
  cases hb:bad q with
  |true=>exact trivial
  |false=>exact cu.mono H (c:=.va q i t x o) hb h
 |own t l=>exact cu.mono H (c:=.own t l) hp h
 |np cs=>trivial
 |undef=>trivial
 |v x=>exact h
 |emp=>exact h
 |sl t l=>exact cu.mono H (p:=p) (c:=.sl t l) trivial h
 |ptr b o=>exact cu.mono H (p:=p) (c:=.ptr b o) trivial h
 |gp b o=>exact h
 |lb n=>exact h
 |ea t x o=>exact cu.mono H (p:=p) (c:=.ea t x o) trivial h
 |fn f caps=>exact cu.mono H (p:=p) (c:=.fn f caps) (fun _ _=>trivial) h
theorem ER.flat'{I I':Nat->Prop}{w w':World}:∀{t:Ty} {x:t.T} {vs:List Value},t.isFlat=true->ER I w t x vs->ER I' w' t x vs
 | .int _,_,_,_,h=>h
 | .bool,_,_,_,h=>h
 | .str,_,_,_,h=>h
 | .unit,_,_,_,h=>h
 | .pair a b,_,_,hf,h=>by
   simp only[Ty.isFlat,Bool.and_eq_true]at hf
   exact⟨ER.flat' hf.1 h.1,ER.flat' hf.2 h.2⟩
 | .slice _,_,_,hf,_=>by cases hf
theorem RF{ls:List sk}{k:Option Q}{r:Q}:∀{cs:List CV},C6 ls k cs=some r->k=some r/\∀p lo t l n,CV.view p true lo t l∈cs->p.isArg=true->A9 ls p=some n->l.length=n
 |[],h=>⟨h,fun p lo t l n hm=>(List.not_mem_nil hm).elim⟩
 |c::cs,h=>by
  have plain:C6 ls k cs=some r->(∀p lo t l,c= .view p true lo t l->p.isArg=false\/A9 ls p=none\/A9 ls p=some l.length)->
   k=some r/\∀p lo t l n,CV.view p true lo t l∈c::cs->p.isArg=true->A9 ls p=some n->l.length=n:=by
   intro h hc
   obtain⟨h1,h2⟩:=RF h
   refine⟨h1,fun p lo t l n hm ha hn=> ?_⟩
   rcases List.mem_cons.1 hm with e|hm
   ·rcases hc p lo t l e.symm with h|h|h
    ·rw[h]at ha;cases ha
    ·rw[h]at hn;cases hn
    ·rw[h]at hn;cases hn;rfl
   ·exact h2 p lo t l n hm ha hn
  cases c with
  |view p f lo t l=>
   cases f with
   |true=>
    simp only[C6]at h
    split at h
    ·rename_i ha
     split at h
     ·rename_i n hn
      cases hd:decide (l.length=n)with
      |false=>rw[hd]at h;cases h
      |true=>
       rw[hd]at h
       exact plain h (fun p' lo' t' l' e=>by cases e;rw[hn,of_decide_eq_true hd];exact .inr (.inr rfl))
     ·rename_i hn
      exact plain h (fun p' lo' t' l' e=>by cases e;exact .inr (.inl hn))
    ·rename_i ha
     exact plain h (fun p' lo' t' l' e=>by cases e;exact .inl ha)
   |false=>exact plain h (fun _ _ _ _ e=>by cases e)
  |_=>exact plain h (fun _ _ _ _ e=>by cases e)
theorem JO{ls:List sk}{k:Option Q}{r:Q}:∀{as:List AV},Ig ls k as=some r->k=some r/\∀a,a∈as->∀p lo t l n,CV.view p true lo t l∈a.cells->p.isArg=true->A9 ls p=some n->l.length=n
 |[],h=>⟨h,fun a hm=>(List.not_mem_nil hm).elim⟩
 |a::as,h=>by
  obtain⟨h1,h2⟩:=RF (show C6 ls (Ig ls k as) a.cells=some r from h)
  obtain⟨h3,h4⟩:=JO h1
  exact⟨h3,fun b hb=>(List.mem_cons.1 hb).elim (fun e=>by subst e;exact h2) (h4 b)⟩
theorem VN{st:St}{q:Place}{c:CV}(hq:q.isSlot=true)(h:st.atPlace q=c)(hc:c≠ .undef):∃a,a∈st.slots/\c∈a.cells:=by
 cases q with
 |slot i k j=>
  have hget:∀a,st.get i=a->a≠ .undef->a∈st.slots:=by
   intro a ha hne
   simp only[St.get,List.getD_eq_getElem?_getD]at ha
   cases hs:st.slots[i]? with
   |none=>rw[hs]at ha;exact absurd ha.symm hne
   |some b=>rw[hs]at ha;simp at ha;subst ha;exact List.mem_of_getElem? hs
  simp only[St.atPlace]at h
  cases hg:st.get i with
  |one x=>
   rw[hg]at h
   simp only at h
   by_cases hk:k=0
   ·rw[if_pos hk,List.getD_eq_getElem?_getD]at h
    cases hj:x.cs[j]? with
    |none=>rw[hj]at h;exact absurd h.symm hc
    |some c'=>
     rw[hj]at h
     simp only[Option.getD_some]at h
     subst h
     refine⟨.one x,hget _ hg (fun e=> ?_),List.mem_of_getElem? hj⟩
     cases e
     cases j with
     |zero=>simp at hj;exact hc hj.symm
     |succ j=>simp at hj
   ·rw[if_neg hk]at h;exact absurd h.symm hc
  |tup l=>
   rw[hg]at h
   simp only at h
   cases hl:l[k]? with
   |none=>rw[hl]at h;exact absurd h.symm hc
   |some x=>
    rw[hl]at h
    simp only[List.getD_eq_getElem?_getD]at h
    cases hj:x.cs[j]? with
    |none=>rw[hj]at h;exact absurd h.symm hc
    |some c'=>
     rw[hj]at h
     simp only[Option.getD_some]at h
     subst h
     exact⟨.tup l,hget _ hg (fun e=>by cases e),List.mem_flatMap.2 ⟨x,List.mem_of_getElem? hl,List.mem_of_getElem? hj⟩⟩
 |cell b j=>cases hq
 |arg j=>cases hq
theorem RP:∀{ls:List sk},distinct ls=true->∀{y:sk},y∈ls->A9 ls y.p=some y.l.length
 |[],_,y,h=>(List.not_mem_nil h).elim
 |x::r,hd,y,h=>by
  simp only[A9]
  rcases List.mem_cons.1 h with rfl|h
  ·rw[if_pos rfl]
  ·simp only[distinct,Bool.and_eq_true,Bool.not_eq_true']at hd
   rw[if_neg (fun e=>by
    have:=DW.2 ⟨y,h,e.symm⟩
    rw[this]at hd;cases hd.1)]
   exact RP hd.2 h
theorem dG.giveBack(R:dG C E g st tm w){ls:List sk}{cs:List CV}{vs:List Value}{ms bms:List (List Nat)}{g':Gh}{w':World}(hL:wK g w ls vs ms)(hd:distinct ls=true)
 (hat:∀x,x∈ls->∃l:List x.t.T,st.atPlace x.p= .own x.t l/\l.length=x.l.length)
 (hview:∀a,a∈st.slots->∀p lo t l n,CV.view p true lo t l∈a.cells->p.isArg=true->A9 ls p=some n->l.length=n) (hb:Dv ls cs=true) (hB:bS g' w' cs vs bms)
 (hh:∀n,n<w.heap.size->n∉aj ms->w'.heap[n]?=w.heap[n]?) (hs:w.heap.size<=w'.heap.size) (ho:w'.os=w.os) (ht:w'.tape=w.tape) (hu:w'.output=w.output) (hi:∀n,g'.lab n= .imm->n<w'.heap.size):
 dG C E (dx g g' w) (st.giveBack ls cs) tm w':=by
 have hS:∀n,n∈aj ms->∃p o l c,g.lab n= .own p o l c/\sC ls p=true:=by
  intro n hn
  obtain⟨i,x,off,cap,h1,_,h3⟩:=hL.mem hn
  exact⟨x.p,off,x.l.length,cap,h3,DW.2 ⟨x,List.mem_of_getElem? h1,rfl⟩⟩
 have lab:∀n,g.lab n≠ .junk->(dx g g' w).lab n=g.lab n:=fun n hn=>by simp only[dx,if_pos (R.size n hn)]
 have T:E3 E g (dx g g' w) w w':={
  lab:=by
   intro n
   by_cases hn:n<w.heap.size
   ·left;simp only[dx,if_pos hn]
   ·have hj:g.lab n= .junk:=by
     cases h:g.lab n with
     |junk=>rfl
     |_=>exact absurd (R.size n (by rw[h];simp)) hn
    cases h:g'.lab n with
    |imm=>right;left;exact⟨hj,by simp only[dx,if_neg hn,h],hi n h⟩
    |_=>left;simp only[dx,if_neg hn,h,hj]
  bx:=rfl
  imm:=fun n hn=>hh n (R.size n (by rw[hn];simp)) (fun hm=>by obtain⟨_,_,_,_,e,_⟩:=hS n hm;rw[hn]at e;cases e)
  box:=fun n b hn=>hh n (R.size n (by rw[hn];simp)) (fun hm=>by obtain⟨_,_,_,_,e,_⟩:=hS n hm;rw[hn]at e;cases e)
  far:=fun n hn=>hh n (R.size n (by rw[hn];simp)) (fun hm=>by obtain⟨_,_,_,_,e,_⟩:=hS n hm;rw[hn]at e;cases e)
  size:=hs
  os:=ho
  tape:=ht
  output:=hu}
 have H:gM (fun q=>sC ls q=false) (fun _=>True) g (dx g g' w) w w':={
  imm:=fun n hn=>⟨T.immOf hn,T.imm n hn⟩
  own:=fun n q o l c hq hn=>by
   have hsz:=R.size n (by rw[hn];simp)
   refine⟨by rw[lab n (by rw[hn];simp)];exact hn,hh n hsz (fun hm=> ?_)⟩
   obtain⟨p,_,_,_,e,hp⟩:=hS n hm
   rw[hn]at e
   injection e with e
   subst e
   rw[hq]at hp;cases hp
  bx:=fun _ _ _ h=>h}
 have hback:=Wg hb hB
 have core:∀(i:Nat) (y:sk) (l':List y.t.T) (v:Value) (bm:List Nat) (lo:Nat) (l0:List y.t.T) (u:Value),ls[i]?=some y->y.t.isFlat=true->vs[i]?=some v->cC g' w' (.own y.t l') v bm->l0.length=y.l.length->
  HR g w (g.owns y.p) true lo y.t l0 u->HR (dx g g' w) w' ((dx g g' w).owns y.p) true 0 y.t l' u:=by
  intro i y l' v bm lo l0 u m1 hflat m5 m6 hlen hc
  have hil:i<ms.length:=by rw[hL.len];exact(List.getElem?_eq_some_iff.1 m1).1
  obtain⟨A,cap,rfl,hcl,hcase⟩:=hL.each i y v _ m1 m5 (List.getElem?_eq_getElem hil)
  obtain⟨lo',A3,cap3,hv,hc3,hh3⟩:=m6
  simp only[Value.slice.injEq]at hv
  obtain⟨rfl,hll,rfl⟩:=hv
  obtain⟨A2,cap2,rfl,hc2,hh2⟩:=hc
  rcases hh2 with h0|⟨b,off,n,c2,cs2,e2,hA2,hl2,hf2,hheap2,hs2,hx2⟩
  ·exact⟨A2,cap2,by rw[hlen,hll],by omega, .inl h0⟩
  ·obtain⟨rfl,rfl,rfl⟩:=hf2 rfl
   have hl2':g.lab b= .own y.p off l0.length c2:=hl2
   simp only[Nat.zero_mul,Nat.add_zero]at hA2 hs2 hx2
   have hlabA:(dx g g' w).lab b= .own y.p off l0.length c2:=by rw[lab b (by rw[hl2'];simp)];exact hl2'
   refine⟨A2,c2,by rw[hlen,hll],by omega, .inr ?_⟩
   rcases hcase with⟨h0,hm⟩|⟨h0,b',off',cs',e',hm,hA,hlab,hheap,hsz,hx⟩
   ·
    have hl0:y.l=[]:=List.length_eq_zero_iff.1 (by omega)
    have hl'0:l'=[]:=List.length_eq_zero_iff.1 (by rw[<-hll,hl0];rfl)
    have hbS:b∉aj ms:=by
     intro hbm
     obtain⟨j,z,oz,cz,k1,k2,k3⟩:=hL.mem hbm
     rw[hl2']at k3
     injection k3 with k3
     have:=Ik hd i j y z m1 k1 k3
     subst this
     rw[List.getElem?_eq_getElem hil,hm]at k2
     cases k2
    refine⟨b,off,l0.length,c2,cs2,e2,by simpa using hA2,hlabA,fun _=>⟨rfl,by rw[hlen,hll],rfl⟩,by rw[hh b (R.size b (by rw[hl2'];simp)) hbS];exact hheap2,by simpa using hs2,fun k z hz=> ?_⟩
    rw[hl'0]at hz;simp at hz
   ·
    have hbb:b'=b:=R.uniq b' b y.p _ _ _ _ _ _ hlab hl2'
    subst hbb
    rw[hl2']at hlab
    injection hlab with _ k1 k2 k3
    subst k1;subst k3
    rcases hh3 with h3|⟨b3,off3,n3,c3,cs3,e3,hA3,hm3,_,hheap3,hs3,hx3⟩
    ·exact absurd h3 h0
    ·rw[hA3]at hA
     simp only[Option.some.injEq,Addr.mk.injEq,and_true]at hA
     obtain⟨rfl,hoff⟩:=hA
     refine⟨b3,off,l0.length,c2,cs3,e3,by simpa using hA2,hlabA,fun _=>⟨rfl,by rw[hlen,hll],rfl⟩,hheap3,by simp only[Nat.zero_mul,Nat.add_zero];omega,fun k z hz=> ?_⟩
     have:=hx3 k z hz
     rw[hoff]at this
     simp only[Nat.zero_mul,Nat.add_zero]
     exact ER.flat' hflat this
 refine R.mapP _ T (fun q=>rfl) ?_ ?_
 ·intro q c u hatq hc
  by_cases hown:∃t l,c= .own t l
  ·obtain⟨t0,l0,rfl⟩:=hown
   simp only
   cases hq:Ih ls cs q with
   |none=>exact cu.mono H (c:=.own t0 l0) ((hback q).2 hq) hc
   |some c'=>
    obtain⟨i,y,l',v,bm,m1,rfl,rfl,hflat,m5,m6⟩:=(hback q).1 c' hq
    obtain⟨l'',hl'',hlen⟩:=hat y (List.mem_of_getElem? m1)
    rw[hatq]at hl''
    injection hl'' with e1 e2
    subst e1
    have e2:=eq_of_heq e2
    subst e2
    exact core i y l' v bm 0 l0 u m1 hflat m5 m6 hlen hc
  ·have key:cu (dx g g' w) w' q (c.unlend (sC ls)) u:=by
    cases hq:sC ls q with
    |false=>exact cu.unlend' H hq hc
    |true=>
     obtain⟨x,hx,rfl⟩:=DW.1 hq
     obtain⟨l,hl,_⟩:=hat x hx
     rw[hatq]at hl
     exact absurd ⟨_,_,hl⟩ hown
   cases c with
   |own t l=>exact absurd ⟨t,l,rfl⟩ hown
   |view p f lo t l=>
    simp only[CV.again]
    cases hp:sC ls p with
    |false=>simp only[CV.unlend,hp]at key;exact key
    |true=>
     simp only
     split
     ·rename_i t' l' hcond hba
      simp only[Bool.and_eq_true]at hcond
      obtain⟨⟨hpa,rfl⟩,hqs⟩:=hcond
      split
      ·rename_i htt
       subst htt
       obtain⟨i,y,l2,v,bm,m1,rfl,hy2,hflat,m5,m6⟩:=(hback p).1 _ hba
       injection hy2 with e1 e2
       subst e1
       have e2:=eq_of_heq e2
       subst e2
       obtain⟨a,ha,hca⟩:=VN hqs hatq (by simp)
       exact⟨core i y l' v bm lo l u m1 hflat m5 m6 (hview a ha _ _ _ _ _ hca hpa (RP hd (List.mem_of_getElem? m1))) hc.1,fun e=>by cases e⟩
      ·trivial
     ·trivial
   |_=>exact key
 ·intro n q o l c hn t x hx
  cases hq:Ih ls cs q with
  |none=>exact⟨t,x,rfl⟩
  |some c'=>
   obtain⟨i,y,l',v,bm,m1,m2,rfl,_⟩:=(hback q).1 c' hq
   exact⟨_,_,rfl⟩
theorem dG.after'(R:dG C E g st tm w){S:List Nat}(hJ:∀n,n∈S->g.lab n= .junk){g':Gh}{w':World}(hh:∀n,n<w.heap.size->n∉S->w'.heap[n]?=w.heap[n]?)(hs:w.heap.size<=w'.heap.size)(ho:w'.os=w.os)(ht:w'.tape=w.tape)(hu:w'.output=w.output)
 (hi:∀n,g'.lab n= .imm->n<w'.heap.size):dG C E (dx g g' w) st tm w':=by
 have hh':∀n,g.lab n≠ .junk->w'.heap[n]?=w.heap[n]?:=fun n hn=>hh n (R.size n hn) (fun hm=>hn (hJ n hm))
 have T:E3 E g (dx g g' w) w w':={
  lab:=by
   intro n
   by_cases hn:n<w.heap.size
   ·left;simp only[dx,if_pos hn]
   ·have hj:g.lab n= .junk:=by
     cases h:g.lab n with
     |junk=>rfl
     |_=>exact absurd (R.size n (by rw[h];simp)) hn
    cases h:g'.lab n with
    |imm=>right;left;exact⟨hj,by simp only[dx,if_neg hn,h],hi n h⟩
    |_=>left;simp only[dx,if_neg hn,h,hj]
  bx:=rfl
  imm:=fun n hn=>hh' n (by rw[hn];simp)
  box:=fun n b hn=>hh' n (by rw[hn];simp)
  far:=fun n hn=>hh' n (by rw[hn];simp)
  size:=hs
  os:=ho
  tape:=ht
  output:=hu}
 have H:gM (fun _=>True) (fun _=>True) g (dx g g' w) w w':={
  imm:=fun n hn=>⟨T.immOf hn,T.imm n hn⟩
  own:=fun n q o l c _ hn=>by
   have hs:=R.size n (by rw[hn];simp)
   exact⟨by simp only[dx,if_pos hs];exact hn,hh' n (by rw[hn];simp)⟩
  bx:=fun _ _ _ h=>h}
 have:=R.mapP (g':=dx g g' w) (w':=w') (fun _ c=>c) T (fun _=>rfl) (fun p c v _ h=>cu.mono H (CV.uses_true _ _) h) (fun n p o l c _ t x _=>⟨t,x,rfl⟩)
 rwa [St.mapP_id]at this
theorem Xc(R:dG C E g st tm w)(hS:∀f c,C.ρ f=some c->ag C f c){k:St->Option Q}{r:Q}{o:Oper}{f:AV}{vf:Value}{args:List AV}{vs:List Value}
 (hf:kl g w f vf) (ha:vG g w args vs) (h:Of C st o f args k=some r):
 ∃fid d,vf= .func (.func fid) #[] #[]/\o.dst=some d/\nu C.P fid/\Calls C.P fid vs.toArray w fun e w'=>∃v g' st',e= .returned v/\k st'=some r/\dG C E g' st' (tm.setIfInBounds d v) w':=by
 unfold Of at h
 split at h
 ·rename_i fid d hd
  obtain⟨cvs,rfl,hcs,_⟩:=hf.one_inv.2 (.slot 0 0 0)
  have hcv:cvs= #[]:=Array.eq_empty_of_size_eq_zero (by simpa using hcs)
  subst hcv
  split at h
  ·rename_i c hc
   split at h
   ·rename_i ls hrw hls
    obtain⟨hE,hSd⟩:=(hS fid c hc).r hrw
    split at h
    ·rename_i vals bs hio
     split at h
     ·rename_i hdist
      refine⟨fid,d,rfl,hd,hE, ?_⟩
      obtain⟨h,hat⟩:=UA h
      cases hG:c.G bs vals with
      |none=>rw[hG]at h;cases h
      |some x=>
       rw[hG]at h
       simp only[Option.bind_some,c.altOk]at h
       obtain⟨ms,hL⟩:=UB c.io args ls vs hls ha
       have R1:=R.giveUpAll (sC ls)
       have hJ:∀n,n∈aj ms->(g.free (sC ls)).lab n= .junk:=by
        intro n hn
        obtain⟨i,y,off,cap,h1,_,h3⟩:=hL.mem hn
        exact Gh.free_gone (DW.2 ⟨y,List.mem_of_getElem? h1,rfl⟩) h3
       have hI:∀n,g.lab n= .imm->n<w.heap.size/\(g.free (sC ls)).lab n= .imm:=fun n hn=>⟨R.size n (by rw[hn];simp),Gh.free_imm hn⟩
       obtain⟨ns,hacc,hN⟩:=Qw (S:=aj ms) R1 rfl hI hJ c.io args ls [] bs vals vs ms [] ⟨rfl,fun k cs hk=>by simp at hk⟩ hls hio ha hL (fun b hb=>hb)
       obtain⟨msA,hV,hms⟩:=hN []
       simp only[List.nil_append,List.append_nil]at hV hacc
       have hsz:∀b,b∈aj ms->b<w.heap.size:=fun b hb=>by
        obtain⟨i,y,off,cap,_,_,h3⟩:=hL.mem hb
        exact R.size b (by rw[h3];simp)
       have hP:Ib C (X8 (aj ms) w ns) w bs vals vs msA:={
        vals:=hV
        free:=by
         rw[hms]
         exact⟨hL.nodup hdist,fun b hb=>by simp only[X8,Iw,if_pos (hsz b hb),if_pos hb],hsz⟩
        boxes:=fun k cs hk=>by
         obtain⟨n,arr,e,fz,k1,k2,k3,k4⟩:=hacc.2 k cs hk
         exact⟨n,arr,e,fz,k1,k2,k3,k4⟩
        bxs:=fun k n hk=>by rw[hacc.1];exact(List.getElem?_eq_some_iff.1 hk).1
        old:=fun n hn=>by
         by_cases hm:n∈aj ms
         ·exact .inr (.inr ⟨by simp only[X8,Iw,if_pos hn,if_pos hm],by rw[hms];exact hm⟩)
         ·exact .inl (by simp only[X8,Iw,if_pos hn,if_neg hm])
        new:=fun n hn=>by simp only[X8,Iw,if_neg (show¬n<w.heap.size by omega)]
        glob:=fun k cs hk=>by
         obtain⟨vs,e,fz,k1,k2,k3⟩:=R1.glob k cs hk
         exact⟨vs,e,fz,k1,BI R1 hJ (by rw[k2];simp),k3⟩}
       split at h
       ·rename_i hcond
        simp only[Bool.and_eq_true]at hcond
        refine(hSd _ w bs vals vs msA x hP hG).mono ?_
        rintro e w' ⟨v,rfl,g',ms',bms,h1,h2,h3,h4,h5,h6,h7,h8,h9,h10,h11⟩
        rw[hms]at h4 h9
        obtain⟨h,hview⟩:=JO h
        have R2:=R.giveBack hL hdist hat hview hcond.2 h2 h9 h8 h5 h6 h7 h11
        have hfr:dF (dx g g' w) w' (aj ms'):=by
         refine⟨(List.nodup_append.1 h3.nodup).2.1,fun b hb=> ?_,fun b hb=>h3.size b (List.mem_append_right _ hb)⟩
         have hnb:b∉aj bms:=fun hb'=>(List.nodup_append.1 h3.nodup).2.2 b hb' b hb rfl
         have:=(h4 b hb).resolve_right (fun hm=>hnb (Yq hcond.2 h2 hL b hm))
         simp only[dx,if_neg (show¬b<w.heap.size by omega),h3.junk b (List.mem_append_right _ hb)]
        obtain⟨g2,st2,h12,h13⟩:=R2.put (LB.imp' (fun c v m hc h=>cC.fresh hc h) hcond.1 h1) hfr h
        exact⟨v,g2,st2,rfl,h12,h13⟩
       ·split at h
        ·rename_i hcond
         simp only[Bool.and_eq_true]at hcond
         refine(hSd _ w bs vals vs msA x hP hG).mono ?_
         rintro e w' ⟨v,rfl,g',ms',bms,h1,h2,h3,h4,h5,h6,h7,h8,h9,h10,h11⟩
         rw[hms]at h4 h9
         have R2:=R1.after' hJ h9 h8 h5 h6 h7 h11
         have hfr:dF (dx (g.free (sC ls)) g' w) w' (aj ms'):=by
          refine⟨(List.nodup_append.1 h3.nodup).2.1,fun b hb=> ?_,fun b hb=>h3.size b (List.mem_append_right _ hb)⟩
          by_cases hlt:b<w.heap.size
          ·have hb':=(h4 b hb).resolve_left (by omega)
           simp only[dx,if_pos hlt];exact hJ b hb'
          ·simp only[dx,if_neg hlt,h3.junk b (List.mem_append_right _ hb)]
         obtain⟨g2,st2,h12,h13⟩:=R2.put (LB.imp' (fun c v m hc h=>cC.fresh hc h) hcond.1 h1) hfr h
         exact⟨v,g2,st2,rfl,h12,h13⟩
        ·cases h
     ·cases h
    ·cases h
   ·cases h
  ·cases h
 ·cases h
end
end Go.Vai
