/- No conditions. -/
import Derived.Test.YtjkljnflaifbhaaDoorVaiM
namespace Go.Vai
open Go
theorem aG{n:Int}(h0: -9223372036854775808<=n)(h1:n<=9223372036854775807):IntKind.wrap .i64 n=n:=by
 simp only[IntKind.wrap,IntKind.bits,IntKind.signed]
 by_cases h:0<=n
 ·have:n%(2^64:Int)=n:=by omega
  simp only[this]
  rw[if_neg]
  simp;omega
 ·have:n%(2^64:Int)=n+18446744073709551616:=by omega
  simp only[this]
  rw[if_pos]
  ·omega
  ·simp;omega
theorem bM{p:Prop} [Decidable p](h:p):decide p=true:=decide_eq_true h
theorem bX{p:Prop} [Decidable p](h:¬p):decide p=false:=decide_eq_false h
section
variable {α:Type} {l p r:List α} {x:α}
theorem IY(l:List α)(k:Nat):xd l (k:Int)=l[k]?:=by simp[xd]
theorem ix(h:l=p++x::r):xd l ((p.length:Nat):Int)=some x:=by
 subst h
 rw[IY,List.getElem?_append_right (Nat.le_refl _),Nat.sub_self];rfl
theorem Ke(h:l=p++x::r):decide (((p.length:Nat):Int)<((l.length:Nat):Int))=true:=by
 subst h
 refine bM ?_
 simp only[List.length_append,List.length_cons];omega
theorem Ge(h:l=p++ []):decide (((p.length:Nat):Int)<((l.length:Nat):Int))=false:=by
 subst h
 refine bX ?_
 simp
theorem Qg(h:l=p++x::r):p.length<l.length:=by
 subst h
 simp only[List.length_append,List.length_cons];omega
theorem wr(h:l=p++x::r)(hl:l.length<=4611686018427387904):IntKind.wrap .i64 (((p.length:Nat):Int)+1)=(((p++ [x]).length:Nat):Int):=by
 have:=Qg h
 rw[aG (by omega) (by omega)]
 simp
theorem Q1(h:l=p++x::r):l=(p++ [x])++r:=by
 rw[h];simp
theorem Pw{n:Nat}{q s:List α}{y v:α}(hq:q.length=n):List.set (q++y::s) (0+Int.toNat ((n:Nat):Int)) v=(q++ [v])++s:=by
 subst hq
 simp
theorem Qr(n:Nat):Int.toNat ((n:Nat):Int)=n:=Int.toNat_natCast n
end
def marks:Int->Nat->List Int
 |_,0=>[]
 |k,n+1=>k::marks (k+1) n
theorem Ja:∀n k,(marks k n).length=n
 |0,_=>rfl
 |n+1,k=>by simp[marks,Ja n]
theorem Rh{a b:Int}:(a !=b)= !decide (a=b):=by
 simp[bne,BEq.beq]
theorem JN{α:Type}(P:α->Bool):∀l:List α,l.any P=(match l.findIdx? P with|some _=>true|none=>false)
 |[]=>rfl
 |x::r=>by
  rw[List.any_cons,List.findIdx?_cons,JN P r]
  cases P x
  ·cases r.findIdx? P<;>rfl
  ·rfl
theorem Rj{R:Type}{x:Ex×LS}{xs:List (Ex×LS)}{h:mJ R (x::xs)}{z:x.2.T}:jP (x::xs) h (.inl z)=h.1 z:=rfl
theorem Rk{R:Type}{x:Ex×LS}{xs:List (Ex×LS)}{h:mJ R (x::xs)}{z:wO xs}:jP (x::xs) h (.inr z)=jP xs h.2 z:=rfl
end Go.Vai
