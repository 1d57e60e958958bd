/- No conditions. -/
import Derived.Test.YtjkljnflaifbhaaGreatDoorVaiM
namespace Go.Vai
open Go
theorem ag.never{C:eo}{fid:FuncId}{f:Func}(hf:C.P.funcs[fid]?=some f)(hb:f.body.isSome=true)(hname:(f.name== "runtime.NumGoroutine")=false)
 {as:List AX} {β:Type} {enc:β->AV×List CV}:ag C fid (.fx as β (fun _=>none) enc):=by
 have hb:f.body=some (cu f):=by
  unfold cu
  cases h:f.body with
  |none=>rw[h]at hb;cases hb
  |some c=>rfl
 refine ua.s rfl ⟨⟨f,cu f,hf,hb,hname⟩,fun g0 w bs vs args ms x hP hG=> ?_⟩
 obtain⟨z,_,hg⟩:=Option.bind_eq_some_iff.1 (show(eX as 0 bs vs).bind (fun _=>none)=some x from hG)
 cases hg
theorem pE.of{P:Program}{fid:FuncId}{f:Func}(hf:P.funcs[fid]?=some f)(hb:f.body.isSome=true)(hname:(f.name== "runtime.NumGoroutine")=false):pE P fid:=by
 have hb:f.body=some (cu f):=by
  unfold cu
  cases h:f.body with
  |none=>rw[h]at hb;cases hb
  |some c=>rfl
 exact⟨f,cu f,hf,hb,hname⟩
theorem ag.or{C:eo}{f:FuncId}{as:List AX}{β:Type}{enc:β->AV×List CV}{g1 g2 g:ql as->Option β}(h1:ag C f (.fx as β g1 enc))(h2:ag C f (.fx as β g2 enc))
 (hg:∀z y,g z=some y->g1 z=some y\/g2 z=some y):ag C f (.fx as β g enc):=by
 have h1:=h1.r rfl
 have h2:=h2.r rfl
 refine ua.s rfl ⟨h1.1,fun g0 w bs vs args ms x hP hG=> ?_⟩
 obtain⟨z,hz,hx⟩:=Option.bind_eq_some_iff.1 (show(eX as 0 bs vs).bind g=some x from hG)
 rcases hg z x hx with h|h
 ·exact h1.2 g0 w bs vs args ms x hP (show(eX as 0 bs vs).bind g1=some x by rw[hz];exact h)
 ·exact h2.2 g0 w bs vs args ms x hP (show(eX as 0 bs vs).bind g2=some x by rw[hz];exact h)
def xY:List AX->Bool
 |[]=>true
 | .val false (.int _)::r=>xY r
 | .val false .bool::r=>xY r
 | .val false .str::r=>xY r
 |_=>false
def Ro:(a:AX)->a.T->Value
 | .val _ (.int k),z=>.int k z
 | .val _ .bool,z=>.bool z
 | .val _ .str,z=>.string z
 |_,_=>undef
def GI:(as:List AX)->ql as->List Value
 |[],_=>[]
 |a::r,z=>Ro a z.1::GI r z.2
theorem PD{g:Gh}{w:World}:∀(as:List AX) (n:Nat) (z:ql as) (args:List Value) (ms:List (List Nat)),xY as=true->wN g w (oo as n z) args ms->args=GI as z/\ar ms=[]
 |[],_,_,args,ms,_,h=>by obtain⟨rfl,rfl⟩:=h;exact⟨rfl,rfl⟩
 |a::r,n,z,args,ms,hs,h=>by
  have one:∀(x:Value),FV g w ⟨false,[.v x]⟩ (args.headD undef) (ms.take 1)->args.headD undef=x:=by
   intro x hx
   obtain⟨v',vs',m,ms',e,_,hF,_⟩:=hx
   cases e
   exact hF.2 (.slot 0 0 0)
  have two:∀(x:Value),wN g w (⟨false,[.v x]⟩::oo r n z.2) args ms->xY r=true->args=x::GI r z.2/\ar ms=[]:=by
   intro x h hr
   obtain⟨v,vs',m,ms',rfl,rfl,h1,h2⟩:=h
   obtain⟨v',vs2,m1,ms1,e,rfl,hF,hn⟩:=h1
   cases e
   obtain⟨_,rfl⟩:=hn
   obtain⟨rfl,hF⟩:=hF
   obtain⟨rfl,h3⟩:=PD r n z.2 vs' ms' hr h2
   have e:v=x:=hF (.slot 0 0 0)
   subst e
   exact⟨rfl,by simpa[ar]using h3⟩
  match a,z,hs,h with
  | .val false (.int k),z,hs,h=>exact two _ h hs
  | .val false .bool,z,hs,h=>exact two _ h hs
  | .val false .str,z,hs,h=>exact two _ h hs
def OF(C:eo)(w:World):Prop:=∀h cs,C.glob h=some cs->∃vs e fz,w.heap[h]?=some (.cells vs e fz)/\cs=vs.toList.map .v
def zd(x:AV×List CV)(v:Value):Prop:=x.2=[]/\∀g w,∃ms,ar ms=[]/\AL g w x.1 v ms
theorem RI(v:Value):zd (.one ⟨false,[.v v]⟩,[]) v:=
 ⟨rfl,fun _ _=>⟨[[]],rfl,v,[],[],[],rfl,rfl,⟨rfl,fun _=>rfl⟩,rfl,rfl⟩⟩
theorem RJ(a b:Value):zd (.tup [⟨false,[.v a]⟩,⟨false,[.v b]⟩],[]) (.tuple #[a,b]):=
 ⟨rfl,fun _ _=>⟨[[],[]],rfl, #[a,b],rfl,a,[b],[[]],[[]],rfl,rfl,⟨a,[],[],[],rfl,rfl,⟨rfl,fun _=>rfl⟩,rfl,rfl⟩,
   b,[],[[]],[],rfl,rfl,⟨b,[],[],[],rfl,rfl,⟨rfl,fun _=>rfl⟩,rfl,rfl⟩,rfl,rfl⟩⟩
theorem QR(a b c:Value):zd (.tup [⟨false,[.v a]⟩,⟨false,[.v b]⟩,⟨false,[.v c]⟩],[]) (.tuple #[a,b,c]):=
 ⟨rfl,fun _ _=>⟨[[],[],[]],rfl, #[a,b,c],rfl,a,[b,c],[[]],[[],[]],rfl,rfl,⟨a,[],[],[],rfl,rfl,⟨rfl,fun _=>rfl⟩,rfl,rfl⟩,
   b,[c],[[]],[[]],rfl,rfl,⟨b,[],[],[],rfl,rfl,⟨rfl,fun _=>rfl⟩,rfl,rfl⟩,
   c,[],[[]],[],rfl,rfl,⟨c,[],[],[],rfl,rfl,⟨rfl,fun _=>rfl⟩,rfl,rfl⟩,rfl,rfl⟩⟩
theorem H6:∀(as:List AX),xY as=true->as.any AX.lentTo=false
 |[],_=>rfl
 |a::r,hs=>by
  have h2:xY r=true/\a.lentTo=false:=by
   match a,hs with
   | .val false (.int k),hs=>exact⟨hs,rfl⟩
   | .val false .bool,hs=>exact⟨hs,rfl⟩
   | .val false .str,hs=>exact⟨hs,rfl⟩
  rw[List.any_cons,h2.2,Bool.false_or]
  exact H6 r h2.1
theorem Lv(as:List AX)(hs:xY as=true):Er as=[]:=by
 simp only[Er,H6 as hs]
theorem ag.simple{C:eo}{f:FuncId}{as:List AX}{β:Type}{enc:β->AV×List CV}{g:ql as->Option β}(he:pE C.P f)(hs:xY as=true)
 (H:∀z b,g z=some b->∀w,OF C w->Calls C.P f (GI as z).toArray w fun e w'=>∃v,e= .returned v/\zd (enc b) v/\Go.RowKit.Below w.heap.size w w'):ag C f (.fx as β g enc):=by
 refine ua.s rfl ⟨he,fun g0 w bs vs args ms (x:β) hP hG=> ?_⟩
 obtain⟨z,hz,hx⟩:=Option.bind_eq_some_iff.1 (show(eX as 0 bs vs).bind g=some x from hG)
 obtain⟨hvs,_⟩:=iS hz
 obtain⟨rfl,hms⟩:=PD as 0 z args ms hs (hvs▸hP.vals)
 refine(H z x hx w (fun h cs hc=>let⟨vs,e,fz,h1,_,h3⟩:=hP.glob h cs hc;⟨vs,e,fz,h1,h3⟩)).mono ?_
 rintro e w' ⟨v,rfl,⟨h1,h2⟩,hw⟩
 let g':Gh:=⟨fun n=>if n<w.heap.size then g0.lab n else .junk,g0.bx⟩
 obtain⟨ms',hm',hF⟩:=h2 g' w'
 have hl:=Lv as hs
 have hp:∀(l:List Value),kg [] l=[]:=by
  intro l
  induction l with
  |nil=>rfl
  |cons a r ih=>simpa[kg]using ih
 refine⟨v,rfl,g',ms',[],hF, ?_, ?_, ?_,hw.os,hw.tape,hw.output,hw.size,fun n hn _=>hw.block n hn, ?_, ?_⟩
 ·show bD g' w' (enc x).2 (kg (Er as) _) []
  rw[h1,hl,hp];exact⟨rfl,rfl⟩
 ·rw[hm'];exact cB.nil
 ·rw[hm'];intro b hb;cases hb
 ·intro n hn h
  have:(if n<w.heap.size then g0.lab n else .junk)=Nv.imm:=h
  rw[if_pos hn]at this;exact .inl this
 ·intro n h
  by_cases hn:n<w.heap.size
  ·exact Nat.lt_of_lt_of_le hn hw.size
  ·have:(if n<w.heap.size then g0.lab n else .junk)=Nv.imm:=h
   rw[if_neg hn]at this;cases this
theorem ag.strs{C:eo}{f:FuncId}{β:Type}{enc:β->AV×List CV}{g:ql [.val false (.slice .str), .val false .str]->Option β}(he:pE C.P f)
 (H:∀xs sep b,g (xs,sep,())=some b->∀A cap w,OF C w->xs.length<=cap->(xs=[]\/∃bk o,A=some ⟨bk,o,none⟩/\bk<w.heap.size/\∀(j:Nat) x,xs[j]?=some x->w.cell? ⟨bk,o+j,none⟩=some (.string x))->
   Calls C.P f #[.slice A xs.length cap, .string sep] w fun e w'=>∃v,e= .returned v/\zd (enc b) v/\Go.RowKit.Below w.heap.size w w'):ag C f (.fx [.val false (.slice .str), .val false .str] β g enc):=by
 refine ua.s rfl ⟨he,fun g0 w bs vs args ms (x:β) hP hG=> ?_⟩
 obtain⟨z,hz,hx⟩:=Option.bind_eq_some_iff.1 (show(eX [.val false (.slice .str), .val false .str] 0 bs vs).bind g=some x from hG)
 obtain⟨hvs,_⟩:=iS hz
 obtain⟨xs,sep,⟨⟩⟩:=z
 have hF:wN g0 w [⟨false,[.sl .str xs]⟩,⟨false,[.v (.string sep)]⟩] args ms:=by
  have:=hP.vals
  rw[hvs]at this
  exact this
 obtain⟨v1,r1,m1,ms1,rfl,rfl,h1,h2⟩:=hF
 obtain⟨v2,r2,m2,ms2,rfl,rfl,h3,h4⟩:=h2
 obtain⟨rfl,rfl⟩:=h4
 obtain⟨u1,t1,n1,k1,e1,rfl,h5,h6⟩:=h1
 obtain⟨u2,t2,n2,k2,e2,rfl,h7,h8⟩:=h3
 cases e1
 cases e2
 obtain⟨_,rfl⟩:=h6
 obtain⟨_,rfl⟩:=h8
 obtain⟨rfl,h5⟩:=h5
 obtain⟨rfl,h7⟩:=h7
 have h7:v2= .string sep:=h7 (.slot 0 0 0)
 subst h7
 obtain⟨A,cap,hv,hc,hx1⟩:=h5 (.slot 0 0 0)
 simp only[List.cons.injEq,and_true]at hv
 subst hv
 refine(H xs sep x hx A cap w (fun h cs hc=>let⟨vs,e,fz,h1,_,h3⟩:=hP.glob h cs hc;⟨vs,e,fz,h1,h3⟩) hc ?_).mono ?_
 ·rcases hx1 with h|⟨b,off,cs,e,fz,hA,_,hh,hel⟩
  ·exact .inl h
  ·refine .inr ⟨b,off,hA,(Array.getElem?_eq_some_iff.1 hh).1,fun j y hj=> ?_⟩
   have hE:ke cs (off+j*1) 1=[.string y]:=hel j y hj
   have h0:=congrArg (fun q=>q[0]?) hE
   simp only[ke,List.getElem?_take,List.getElem?_drop,Nat.mul_one,Nat.add_zero]at h0
   simp only[World.cell?,hh]
   rw[if_neg (by simp)]
   simpa using h0
 ·rintro e w' ⟨v,rfl,⟨h1,h2⟩,hw⟩
  let g':Gh:=⟨fun n=>if n<w.heap.size then g0.lab n else .junk,g0.bx⟩
  obtain⟨ms',hm',hF⟩:=h2 g' w'
  refine⟨v,rfl,g',ms',[],hF, ?_, ?_, ?_,hw.os,hw.tape,hw.output,hw.size,fun n hn _=>hw.block n hn, ?_, ?_⟩
  ·show bD g' w' (enc x).2 [] []
   rw[h1];exact⟨rfl,rfl⟩
  ·rw[hm'];exact cB.nil
  ·rw[hm'];intro b hb;cases hb
  ·intro n hn h
   have:(if n<w.heap.size then g0.lab n else .junk)=Nv.imm:=h
   rw[if_pos hn]at this;exact .inl this
  ·intro n h
   by_cases hn:n<w.heap.size
   ·exact Nat.lt_of_lt_of_le hn hw.size
   ·have:(if n<w.heap.size then g0.lab n else .junk)=Nv.imm:=h
    rw[if_neg hn]at this;cases this
end Go.Vai
