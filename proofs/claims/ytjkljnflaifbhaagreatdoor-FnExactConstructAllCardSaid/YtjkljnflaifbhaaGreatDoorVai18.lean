/- No conditions. -/
import Derived.Test.YtjkljnflaifbhaaGreatDoorVai17
import Derived.Test.YtjkljnflaifbhaaGreatDoorVaiE
import Derived.Test.YtjkljnflaifbhaaGreatDoorVaiK
namespace Go.Vai
open Go
def aeH:Ex->Exit
 | .normal=>.normal
 | .exit id=>.exit id
 | .ret=>.ret
def ca:Code->List Code
 | .seq a b=>ca a++ca b
 | .cond _ a b=>ca a++ca b
 | .block _ a=>ca a
 | .loop a=>a::ca a
 |_=>[]
section
variable {C:gY} {E:iU} {Q:Type}
def afr(C:gY)(E:iU)(D:List Deferred){Q:Type}(k:Ex->St->Option Q)(r:Q)(X:Exit->Act->World->Prop):Prop:=
 ∀e g st (a:Act) w,k e st=some r->dG C E g st a.tmps w->a.defers=D->X (aeH e) a w
def ak(C:gY)(d:Tt){Q:Type}(h:fq Q)(fuel:Nat)(ls:List Code):Prop:=
 ∀body,body∈ls->∀s,h.sum (key body)=some s->∀x k r,s x k=some r->∃n,bJ d (h.loop (key body)) (mU C d h fuel body) n x k=some r
theorem Pv{d:Tt}{h:fq Q}{fuel:Nat}{body:Code}{lh:bN}{D:List Deferred}{r:Q}(hd:d=⟨E.n,E.m⟩)
 (ih:∀(k:Ex->St->Option Q) (X:Exit->Act->World->Prop) g st (a:Act) w,mU C d h fuel body st k=some r->dG C E g st a.tmps w->a.defers=D->afr C E D k r X->body.wp C.P X a w)
 {k':Ex->iV->Option Q} {X:Exit->Act->World->Prop}
 (hX:∀e g st (a:Act) w,k' e (st.live lh.s' lh.b')=some r->dG C E g st a.tmps w->a.defers=D->X (aeH e) a w):
 ∀n x g (a:Act) w,bJ d lh (mU C d h fuel body) n x k'=some r->dG C E g (d.back lh.s lh.b x) a.tmps w->a.defers=D->Code.rounds C.P body X n a w
 |0,x,g,a,w,hl,_,_=>by simp[bJ]at hl
 |n+1,x,g,a,w,hl,R,hD=>by
  simp only[bJ]at hl
  rw[rounds_succ]
  refine ih _ _ g _ a w hl R hD ?_
  intro e g' st' a' w' hk R' hD'
  cases e with
  |normal=>exact Pv hd ih hX n _ _ a' w' hk (by subst hd;exact R'.back _ _) hD'
  |exit id=>exact hX (.exit id) g' st' a' w' hk R' hD'
  |ret=>exact hX .ret g' st' a' w' hk R' hD'
theorem Qp{d:Tt}{h:fq Q}{fuel:Nat}(hd:d=⟨E.n,E.m⟩)(hm:C.P.follows .mixedOrders=true)(hS:∀f c,C.ρ f=some c->ag C f c){D:List Deferred}{r:Q}:
 ∀(c:Code),ak C d h fuel (ca c)->∀(k:Ex->St->Option Q) (X:Exit->Act->World->Prop) g st (a:Act) w,mU C d h fuel c st k=some r->dG C E g st a.tmps w->a.defers=D->afr C E D k r X->c.wp C.P X a w:=by
 intro c
 induction c with
 |skip=>
  intro hH k X g st a w hk R hD hP
  exact wp_skip (hP .normal g st a w hk R hD)
 |region id ops draw=>
  intro hH k X g st a w hk R hD hP
  have hN:Next C E a.defers (k .normal) r (X .normal):=fun g st a' w hk R hD'=>hP .normal g st a' w hk R (hD'.trans hD)
  cases draw with
  |false=>exact XV hS R hk hN
  |true=>
   have hk:(match Uh C ops with
    |true=>zw C ops (List.range ops.size) st (k .normal)
    |false=>match Im C ops (adS C ops)with
     |true=>zx C ops (adS C ops) st (k .normal)
     |false=>none)=some r:=hk
   split at hk
   ·rename_i hdr
    exact ZV hm hS R hdr hk hN
   ·split at hk
    ·rename_i hdr
     exact YB hm hS R hdr hk hN
    ·cases hk
 |seq x y ihx ihy=>
  intro hH k X g st a w hk R hD hP
  refine wp_seq (ihx (fun b hb=>hH b (List.mem_append_left _ hb)) (fun e st=>match e with
   | .normal=>mU C d h fuel y st k
   |e=>k e st) _ g st a w hk R hD ?_)
  intro e g' st' a' w' hk' R' hD'
  cases e with
  |normal=>exact ihy (fun b hb=>hH b (List.mem_append_right _ hb)) k X g' st' a' w' hk' R' hD' hP
  |exit id=>exact hP (.exit id) g' st' a' w' hk' R' hD'
  |ret=>exact hP .ret g' st' a' w' hk' R' hD'
 |cond c x y ihx ihy=>
  intro hH k X g st a w hk R hD hP
  have hk:st.test c (fun t st=>match t with
   |true=>mU C d h fuel x st k
   |false=>mU C d h fuel y st k)=some r:=hk
  obtain⟨b,hb,st',h1,R'⟩:=Zp R hk
  refine wp_cond hb ?_
  cases b with
  |true=>exact ihx (fun b hb=>hH b (List.mem_append_left _ hb)) k X g st' a w h1 R' hD hP
  |false=>exact ihy (fun b hb=>hH b (List.mem_append_right _ hb)) k X g st' a w h1 R' hD hP
 |block id x ih=>
  intro hH k X g st a w hk R hD hP
  refine wp_block (ih hH (fun e st=>match e with
   | .exit j=>if j=id then k .normal st else k (.exit j) st
   |e=>k e st) _ g st a w hk R hD ?_)
  intro e g' st' a' w' hk' R' hD'
  cases e with
  |normal=>exact hP .normal g' st' a' w' hk' R' hD'
  |exit j=>
   simp only at hk'
   simp only[aeH,Exit.inBlock]
   split
   ·rename_i hj
    rw[if_pos hj]at hk'
    exact hP .normal g' st' a' w' hk' R' hD'
   ·rename_i hj
    rw[if_neg hj]at hk'
    exact hP (.exit j) g' st' a' w' hk' R' hD'
  |ret=>exact hP .ret g' st' a' w' hk' R' hD'
 |loop body ih=>
  intro hH k X g st a w hk R hD hP
  have hk:(match h.sum (key body)with
   |some s=>s (st.live (h.loop (key body)).s (h.loop (key body)).b) (fun e x=>k e (d.back (h.loop (key body)).s' (h.loop (key body)).b' x))
   |none=>bJ d (h.loop (key body)) (mU C d h fuel body) fuel (st.live (h.loop (key body)).s (h.loop (key body)).b) (fun e x=>k e (d.back (h.loop (key body)).s' (h.loop (key body)).b' x)))=some r:=hk
  have hk':∃n,bJ d (h.loop (key body)) (mU C d h fuel body) n (st.live (h.loop (key body)).s (h.loop (key body)).b) (fun e x=>k e (d.back (h.loop (key body)).s' (h.loop (key body)).b' x))=some r:=by
   split at hk
   ·rename_i s hs
    exact hH body (by simp[ca]) s hs _ _ _ hk
   ·exact⟨fuel,hk⟩
  obtain⟨n,hk'⟩:=hk'
  refine wp_loop_rounds n (Pv hd (fun k X g st a w h1 R1 hD1 hP1=>ih (fun b hb=>hH b (by simp[ca,hb])) k X g st a w h1 R1 hD1 hP1) ?_ n _ (g.keep (h.loop (key body)).s (h.loop (key body)).b) a w hk' (by subst hd;exact R.back _ _) hD)
  intro e g' st' a' w' h1 R1 hD1
  exact hP e _ _ a' w' h1 (by subst hd;exact R1.back _ _) hD1
 |exit id=>
  intro hH k X g st a w hk R hD hP
  exact wp_exit (hP (.exit id) g st a w hk R hD)
 |label l=>
  intro hH k X g st a w hk R hD hP
  exact wp_label (hP .normal g st a w hk R hD)
 |ret=>
  intro hH k X g st a w hk R hD hP
  exact wp_ret (hP .ret g st a w hk R hD)
 |_=>intro hH k X g st a w hk;cases hk
end
end Go.Vai
