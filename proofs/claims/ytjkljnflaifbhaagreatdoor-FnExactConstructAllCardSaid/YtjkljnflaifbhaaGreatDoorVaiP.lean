/- No conditions. -/
import Derived.Test.YtjkljnflaifbhaaGreatDoorVaiM
namespace Go.Vai
open Go
theorem ag.never{C:gY}{fid:FuncId}{f:Func}(hf:C.P.funcs[fid]?=some f)(hb:f.body.isSome=true)(hname:(f.name== "runtime.NumGoroutine")=false)
 {as:List AX} {β:Type} {enc:β->AV×List CV}:ag C fid (.fx as β (fun _=>none) enc):=by
 have hb:f.body=some (aX f):=by
  unfold aX
  cases h:f.body with
  |none=>rw[h]at hb;cases hb
  |some c=>rfl
 refine Gi.s rfl ⟨⟨f,aX f,hf,hb,hname⟩,fun g0 w bs vs args ms x hP hG=> ?_⟩
 obtain⟨z,_,hg⟩:=Option.bind_eq_some_iff.1 (show(jB as 0 bs vs).bind (fun _=>none)=some x from hG)
 cases hg
theorem nu.of{P:Program}{fid:FuncId}{f:Func}(hf:P.funcs[fid]?=some f)(hb:f.body.isSome=true)(hname:(f.name== "runtime.NumGoroutine")=false):nu P fid:=by
 have hb:f.body=some (aX f):=by
  unfold aX
  cases h:f.body with
  |none=>rw[h]at hb;cases hb
  |some c=>rfl
 exact⟨f,aX f,hf,hb,hname⟩
theorem ag.or{C:gY}{f:FuncId}{as:List AX}{β:Type}{enc:β->AV×List CV}{g1 g2 g:zY as->Option β}(h1:ag C f (.fx as β g1 enc))(h2:ag C f (.fx as β g2 enc))
 (hg:∀z y,g z=some y->g1 z=some y\/g2 z=some y):ag C f (.fx as β g enc):=by
 have h1:=h1.r rfl
 have h2:=h2.r rfl
 refine Gi.s rfl ⟨h1.1,fun g0 w bs vs args ms x hP hG=> ?_⟩
 obtain⟨z,hz,hx⟩:=Option.bind_eq_some_iff.1 (show(jB as 0 bs vs).bind g=some x from hG)
 rcases hg z x hx with h|h
 ·exact h1.2 g0 w bs vs args ms x hP (show(jB as 0 bs vs).bind g1=some x by rw[hz];exact h)
 ·exact h2.2 g0 w bs vs args ms x hP (show(jB as 0 bs vs).bind g2=some x by rw[hz];exact h)
def IJ:List AX->Bool
 |[]=>true
 | .val false (.int _)::r=>IJ r
 | .val false .bool::r=>IJ r
 | .val false .str::r=>IJ r
 |_=>false
def ae6:(a:AX)->a.T->Value
 | .val _ (.int k),z=>.int k z
 | .val _ .bool,z=>.bool z
 | .val _ .str,z=>.string z
 |_,_=>undef
def TK:(as:List AX)->zY as->List Value
 |[],_=>[]
 |a::r,z=>ae6 a z.1::TK r z.2
theorem acZ{g:Gh}{w:World}:∀(as:List AX) (n:Nat) (z:zY as) (args:List Value) (ms:List (List Nat)),IJ as=true->sR g w (wu as n z) args ms->args=TK as z/\aj ms=[]
 |[],_,_,args,ms,_,h=>by obtain⟨rfl,rfl⟩:=h;exact⟨rfl,rfl⟩
 |a::r,n,z,args,ms,hs,h=>by
  have one:∀(x:Value),FV g w ⟨false,[.v x]⟩ (args.headD undef) (ms.take 1)->args.headD undef=x:=by
   intro x hx
   obtain⟨v',vs',m,ms',e,_,hF,_⟩:=hx
   cases e
   exact hF.2 (.slot 0 0 0)
  have two:∀(x:Value),sR g w (⟨false,[.v x]⟩::wu r n z.2) args ms->IJ r=true->args=x::TK r z.2/\aj ms=[]:=by
   intro x h hr
   obtain⟨v,vs',m,ms',rfl,rfl,h1,h2⟩:=h
   obtain⟨v',vs2,m1,ms1,e,rfl,hF,hn⟩:=h1
   cases e
   obtain⟨_,rfl⟩:=hn
   obtain⟨rfl,hF⟩:=hF
   obtain⟨rfl,h3⟩:=acZ r n z.2 vs' ms' hr h2
   have e:v=x:=hF (.slot 0 0 0)
   subst e
   exact⟨rfl,by simpa[aj]using h3⟩
  match a,z,hs,h with
  | .val false (.int k),z,hs,h=>exact two _ h hs
  | .val false .bool,z,hs,h=>exact two _ h hs
  | .val false .str,z,hs,h=>exact two _ h hs
def aev(C:gY)(w:World):Prop:=∀h cs,C.glob h=some cs->∃vs e fz,w.heap[h]?=some (.cells vs e fz)/\cs=vs.toList.map .v
def Yc(x:AV×List CV)(v:Value):Prop:=x.2=[]/\∀g w,∃ms,aj ms=[]/\LB g w x.1 v ms
theorem WL(v:Value):Yc (.one ⟨false,[.v v]⟩,[]) v:=
 ⟨rfl,fun _ _=>⟨[[]],rfl,v,[],[],[],rfl,rfl,⟨rfl,fun _=>rfl⟩,rfl,rfl⟩⟩
theorem Vj:∀(as:List AX),IJ as=true->as.any AX.lentTo=false
 |[],_=>rfl
 |a::r,hs=>by
  have h2:IJ r=true/\a.lentTo=false:=by
   match a,hs with
   | .val false (.int k),hs=>exact⟨hs,rfl⟩
   | .val false .bool,hs=>exact⟨hs,rfl⟩
   | .val false .str,hs=>exact⟨hs,rfl⟩
  rw[List.any_cons,h2.2,Bool.false_or]
  exact Vj r h2.1
theorem Zb(as:List AX)(hs:IJ as=true):QA as=[]:=by
 simp only[QA,Vj as hs]
theorem ag.simple{C:gY}{f:FuncId}{as:List AX}{β:Type}{enc:β->AV×List CV}{g:zY as->Option β}(he:nu C.P f)(hs:IJ as=true)
 (H:∀z b,g z=some b->∀w,aev C w->Calls C.P f (TK as z).toArray w fun e w'=>∃v,e= .returned v/\Yc (enc b) v/\Go.RowKit.Below w.heap.size w w'):ag C f (.fx as β g enc):=by
 refine Gi.s rfl ⟨he,fun g0 w bs vs args ms (x:β) hP hG=> ?_⟩
 obtain⟨z,hz,hx⟩:=Option.bind_eq_some_iff.1 (show(jB as 0 bs vs).bind g=some x from hG)
 obtain⟨hvs,_⟩:=oR hz
 obtain⟨rfl,hms⟩:=acZ as 0 z args ms hs (hvs▸hP.vals)
 refine(H z x hx w (fun h cs hc=>let⟨vs,e,fz,h1,_,h3⟩:=hP.glob h cs hc;⟨vs,e,fz,h1,h3⟩)).mono ?_
 rintro e w' ⟨v,rfl,⟨h1,h2⟩,hw⟩
 let g':Gh:=⟨fun n=>if n<w.heap.size then g0.lab n else .junk,g0.bx⟩
 obtain⟨ms',hm',hF⟩:=h2 g' w'
 have hl:=Zb as hs
 have hp:∀(l:List Value),oq [] l=[]:=by
  intro l
  induction l with
  |nil=>rfl
  |cons a r ih=>simpa[oq]using ih
 refine⟨v,rfl,g',ms',[],hF, ?_, ?_, ?_,hw.os,hw.tape,hw.output,hw.size,fun n hn _=>hw.block n hn, ?_, ?_⟩
 ·show bS g' w' (enc x).2 (oq (QA as) _) []
  rw[h1,hl,hp];exact⟨rfl,rfl⟩
 ·rw[hm'];exact dF.nil
 ·rw[hm'];intro b hb;cases hb
 ·intro n hn h
  have:(if n<w.heap.size then g0.lab n else .junk)=Lab.imm:=h
  rw[if_pos hn]at this;exact .inl this
 ·intro n h
  by_cases hn:n<w.heap.size
  ·exact Nat.lt_of_lt_of_le hn hw.size
  ·have:(if n<w.heap.size then g0.lab n else .junk)=Lab.imm:=h
   rw[if_neg hn]at this;cases this
end Go.Vai
