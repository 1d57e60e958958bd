/- No conditions. -/
import Derived.Test.YtjkljnflaifbhaaGreatDoorVaiI
namespace Go.Vai
open Go
section
variable {C:gY} {E:iU} {g:Gh} {st:St} {tm:Array Value} {w:World} {Q:Type}
def Gh.freeze(g:Gh)(p:Place):Gh:=
 ⟨fun n=>match g.lab n with
   | .own q o l c=>if q=p then .imm else .own q o l c
   |x=>x,g.bx⟩
theorem Gh.freeze_turn(g:Gh)(p:Place)(n:Nat):(g.freeze p).lab n=g.lab n\/(∃o l c,g.lab n= .own p o l c/\(g.freeze p).lab n= .imm):=by
 simp only[Gh.freeze]
 cases h:g.lab n with
 |own q o l c=>
  by_cases hq:q=p
  ·subst hq;exact .inr ⟨o,l,c,rfl,by simp⟩
  ·exact .inl (by simp[hq])
 |_=>exact .inl rfl
theorem Gh.freeze_imm{g:Gh}{p:Place}{n:Nat}(h:g.lab n= .imm):(g.freeze p).lab n= .imm:=by simp only[Gh.freeze,h]
theorem Gh.freeze_own{g:Gh}{p q:Place}{n o l c:Nat}(hq:q≠p)(h:g.lab n= .own q o l c):(g.freeze p).lab n= .own q o l c:=by
 simp only[Gh.freeze,h,if_neg hq]
theorem Gh.freeze_self{g:Gh}{p:Place}{n o l c:Nat}(h:g.lab n= .own p o l c):(g.freeze p).lab n= .imm:=by
 simp only[Gh.freeze,h,if_true]
theorem Gh.freeze_turns(E:iU)(g:Gh)(p:Place)(w:World):E3 E g (g.freeze p) w w where
 lab:=fun n=>(g.freeze_turn p n).imp id fun⟨o,l,c,h1,h2⟩=>.inr ⟨p,o,l,c,h1, .inr ⟨h2,rfl⟩⟩
 bx:=rfl
 imm:=fun _ _=>rfl
 box:=fun _ _ _=>rfl
 far:=fun _ _=>rfl
 size:=Nat.le_refl _
 os:=rfl
 tape:=rfl
 output:=rfl
theorem Gh.freeze_steps(g:Gh)(p:Place)(w:World):gM (fun q=>q≠p) (fun _=>True) g (g.freeze p) w w where
 imm:=fun _ h=>⟨Gh.freeze_imm h,rfl⟩
 own:=fun _ _ _ _ _ hq h=>⟨Gh.freeze_own hq h,rfl⟩
 bx:=fun _ _ _ h=>h
theorem HR.frozen{p:Place}{f:Bool}{lo:Nat}{t:Ty}{l:List t.T}{y:Value}(h:HR g w (g.owns p) f lo t l y):ER (g.freeze p).imm w (.slice t) l [y]:=by
 obtain⟨A,cap,rfl,hc,h⟩:=h
 refine⟨A,cap,rfl,hc, ?_⟩
 rcases h with h0|⟨b,off,n,c,cs,e,hA,hl,_,hh,_,hx⟩
 ·exact .inl (List.length_eq_zero_iff.1 (by omega))
 ·exact .inr ⟨b,_,cs,e,_,hA,Gh.freeze_self hl,hh,fun i x hi=>ER.mono (fun n hn=>⟨Gh.freeze_imm hn,rfl⟩) (hx i x hi)⟩
theorem cu.froze{p q:Place}{c:CV}{v:Value}(hc:c.isOwn=false)(h:cu g w q c v):cu (g.freeze p) w q (c.froze p) v:=by
 have H:=g.freeze_steps p w
 cases c with
 |own t l=>cases hc
 |view r f lo t l=>
  simp only[CV.froze]
  by_cases hr:r=p
  ·subst hr;rw[if_pos rfl];exact HR.frozen h.1
  ·rw[if_neg hr];exact cu.mono H (c:=.view r f lo t l) hr h
 |va r i t x o=>
  simp only[CV.froze]
  by_cases hr:r=p
  ·subst hr;rw[if_pos rfl]
   obtain⟨b,off,n,c,cs,e,hy,hl,hh,hx⟩:=h
   exact⟨b,off+i*t.size,cs,e,_,hy,Gh.freeze_self hl,hh,ER.mono (fun n hn=>⟨Gh.freeze_imm hn,rfl⟩) hx⟩
  ·rw[if_neg hr];exact cu.mono H (c:=.va r i t x o) hr h
 |np cs=>trivial
 |undef=>trivial
 |v x=>exact h
 |emp=>exact h
 |sl t l=>exact cu.mono H (p:=q) (c:=.sl t l) trivial h
 |ptr b o=>exact cu.mono H (p:=q) (c:=.ptr b o) trivial h
 |gp b o=>exact h
 |lb n=>exact h
 |ea t x o=>exact cu.mono H (p:=q) (c:=.ea t x o) trivial h
 |fn f caps=>exact cu.mono H (p:=q) (c:=.fn f caps) (fun _ _=>trivial) h
theorem dG.freeze(R:dG C E g st tm w)(p:Place):dG C E (g.freeze p) (st.freeze p) tm w:=by
 refine R.mapP _ (g.freeze_turns E p w) (fun q=>rfl) ?_ ?_
 ·intro q c v _ h
  by_cases ho:c.isOwn=true
  ·cases c with
   |own t l=>
    simp only[CV.frozeOwn]
    by_cases hq:q=p
    ·subst hq;rw[if_pos rfl];exact HR.frozen h
    ·rw[if_neg hq];exact cu.mono (g.freeze_steps p w) (c:=.own t l) hq h
   |_=>cases ho
  ·have ho:c.isOwn=false:=by simpa using ho
   have:=cu.froze (p:=p) ho h
   cases c<;>first|exact this|cases ho
 ·intro n q o l c h t x _
  have hq:q≠p:=by
   rintro rfl
   rcases g.freeze_turn q n with e|⟨_,_,_,_,e⟩
   ·rw[e]at h
    have:=Gh.freeze_self h
    rw[e,h]at this;cases this
   ·rw[h]at e;cases e
  exact⟨t,x,by simp[CV.frozeOwn,hq]⟩
theorem dG.freezeAll:∀(pl:List Place) {g:Gh} {st:St},dG C E g st tm w->dG C E (pl.foldl Gh.freeze g) (st.freezeAll pl) tm w
 |[],_,_,R=>R
 |p::r,_,_,R=>dG.freezeAll r (R.freeze p)
theorem cC.froze{p:Place}{c:CV}{v:Value}(h:cC g w c v []):cC (g.freeze p) w (c.froze p) v []:=by
 by_cases hn:∃cs,c= .np cs
 ·obtain⟨cs,rfl⟩:=hn;exact h.np_nil.elim
 by_cases ho:c.isOwn=true
 ·cases c with
  |own t l=>exact cC.mono' (g.freeze_steps p w) (fun b e=>by cases e) (fun _ e=>by cases e) h
  |_=>cases ho
 ·have ho:c.isOwn=false:=by simpa using ho
  have h':∀q,cu g w q c v:=by cases c<;>first|exact h.2|exact absurd ⟨_,rfl⟩ hn|cases ho
  have:=fun q=>cu.froze (p:=p) ho (h' q)
  cases c with
  |own t l=>cases ho
  |np cs=>exact absurd ⟨_,rfl⟩ hn
  |view r f lo t l=>
   simp only[CV.froze]at this⊢
   split<;>rename_i hr
   ·subst hr;simp only[if_true]at this;exact⟨rfl,this⟩
   ·simp only[if_neg hr]at this;exact⟨rfl,this⟩
  |va r i t x o=>
   simp only[CV.froze]at this⊢
   split<;>rename_i hr
   ·subst hr;simp only[if_true]at this;exact⟨rfl,this⟩
   ·simp only[if_neg hr]at this;exact⟨rfl,this⟩
  |_=>exact⟨rfl,this⟩
theorem bg.imp{g':Gh}{f:CV->CV}(hf:∀c v,cC g w c v []->cC g' w (f c) v []):∀{cs:List CV} {vs:List Value},bg g w cs vs->bg g' w (cs.map f) vs
 |[],_,h=>h
 |_::_,_,h=>by obtain⟨v,vs',rfl,h1,h2⟩:=h;exact⟨v,vs',rfl,hf _ _ h1,h2.imp hf⟩
theorem NV.imp{g':Gh}{f:CV->CV}(hf:∀c v,cC g w c v []->cC g' w (f c) v []){x:Val}{v:Value}(h:NV g w x v):NV g' w (x.map f) v:=by
 obtain⟨a,cs⟩:=x
 cases a with
 |true=>obtain⟨vs,hv,h⟩:=h;exact⟨vs,hv,h.imp hf⟩
 |false=>exact bg.imp (cs:=cs) hf h
theorem Yb.imp{g':Gh}{f:CV->CV}(hf:∀c v,cC g w c v []->cC g' w (f c) v []):∀{l:List Val} {vs:List Value},Yb g w l vs->Yb g' w (l.map (Val.map f)) vs
 |[],_,h=>h
 |_::_,_,h=>by obtain⟨v,vs',rfl,h1,h2⟩:=h;exact⟨v,vs',rfl,h1.imp hf,h2.imp hf⟩
theorem kl.imp{g':Gh}{f:CV->CV}(hf:∀c v,cC g w c v []->cC g' w (f c) v []){a:AV}{v:Value}(h:kl g w a v):kl g' w (a.map f) v:=by
 cases a with
 |one x=>exact NV.imp hf h
 |tup l=>obtain⟨vs,hv,h⟩:=h;exact⟨vs,hv,h.imp hf⟩
theorem kl.frozeAll:∀(pl:List Place) {g:Gh} {a:AV} {v:Value},kl g w a v->kl (pl.foldl Gh.freeze g) w (a.frozeAll pl) v
 |[],_,_,_,h=>h
 |_::r,_,_,_,h=>kl.frozeAll r (kl.imp (fun _ _ h=>cC.froze h) h)
theorem cC.tidy{c:CV}{v:Value}(h:cC g w c v []):cC g w c.tidy v []:=by
 unfold CV.tidy
 split
 ·obtain⟨lo,A,cap,rfl,hc,h⟩:=h
  exact⟨rfl,fun _=>⟨A,cap,rfl,hc, .inl rfl⟩⟩
 ·exact⟨rfl,fun q=>⟨_,h.2 q⟩⟩
 ·exact h
end
end Go.Vai
