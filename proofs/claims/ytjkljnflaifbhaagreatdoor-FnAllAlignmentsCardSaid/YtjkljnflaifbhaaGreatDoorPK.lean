/- No conditions. -/
import Derived.Test.YtjkljnflaifbhaaGreatDoorVaiM
namespace Go.Vai
open Go
theorem aD{n:Int}(h0: -9223372036854775808<=n)(h1:n<=9223372036854775807):IntKind.wrap .i64 n=n:=by
 simp only[IntKind.wrap,IntKind.bits,IntKind.signed]
 by_cases h:0<=n
 ·have:n%(2^64:Int)=n:=by omega
  simp only[this]
  rw[if_neg]
  simp;omega
 ·have:n%(2^64:Int)=n+18446744073709551616:=by omega
  simp only[this]
  rw[if_pos]
  ·omega
  ·simp;omega
theorem bG{p:Prop} [Decidable p](h:p):decide p=true:=decide_eq_true h
theorem bT{p:Prop} [Decidable p](h:¬p):decide p=false:=decide_eq_false h
section
variable {α:Type} {l p r:List α} {x:α}
theorem J6(l:List α)(k:Nat):vu l (k:Int)=l[k]?:=by simp[vu]
theorem ix(h:l=p++x::r):vu l ((p.length:Nat):Int)=some x:=by
 subst h
 rw[J6,List.getElem?_append_right (Nat.le_refl _),Nat.sub_self];rfl
theorem Pi(h:l=p++x::r):decide (((p.length:Nat):Int)<((l.length:Nat):Int))=true:=by
 subst h
 refine bG ?_
 simp only[List.length_append,List.length_cons];omega
theorem MB(h:l=p++ []):decide (((p.length:Nat):Int)<((l.length:Nat):Int))=false:=by
 subst h
 refine bT ?_
 simp
theorem Pc(h:l=p++x::r):p.length<l.length:=by
 subst h
 simp only[List.length_append,List.length_cons];omega
theorem wr(h:l=p++x::r)(hl:l.length<=4611686018427387904):IntKind.wrap .i64 (((p.length:Nat):Int)+1)=(((p++ [x]).length:Nat):Int):=by
 have:=Pc h
 rw[aD (by omega) (by omega)]
 simp
theorem SC(h:l=p++x::r):l=(p++ [x])++r:=by
 rw[h];simp
theorem Qv{n:Nat}{q s:List α}{y v:α}(hq:q.length=n):List.set (q++y::s) (0+Int.toNat ((n:Nat):Int)) v=(q++ [v])++s:=by
 subst hq
 simp
theorem Rx(n:Nat):Int.toNat ((n:Nat):Int)=n:=Int.toNat_natCast n
end
def marks:Int->Nat->List Int
 |_,0=>[]
 |k,n+1=>k::marks (k+1) n
theorem Ki:∀n k,(marks k n).length=n
 |0,_=>rfl
 |n+1,k=>by simp[marks,Ki n]
theorem Sf{a b:Int}:(a !=b)= !decide (a=b):=by
 simp[bne,BEq.beq]
theorem KR{α:Type}(P:α->Bool):∀l:List α,l.any P=(match l.findIdx? P with|some _=>true|none=>false)
 |[]=>rfl
 |x::r=>by
  rw[List.any_cons,List.findIdx?_cons,KR P r]
  cases P x
  ·cases r.findIdx? P<;>rfl
  ·rfl
theorem Sh{R:Type}{x:Ex×LS}{xs:List (Ex×LS)}{h:ma R (x::xs)}{z:x.2.T}:sj (x::xs) h (.inl z)=h.1 z:=rfl
theorem Si{R:Type}{x:Ex×LS}{xs:List (Ex×LS)}{h:ma R (x::xs)}{z:wL xs}:sj (x::xs) h (.inr z)=sj xs h.2 z:=rfl
end Go.Vai
