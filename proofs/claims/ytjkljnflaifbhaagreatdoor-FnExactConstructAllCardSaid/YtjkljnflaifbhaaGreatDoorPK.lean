/- No conditions. -/
import Derived.Test.YtjkljnflaifbhaaGreatDoorVaiM
namespace Go.Vai
open Go
theorem aM{n:Int}(h0: -9223372036854775808<=n)(h1:n<=9223372036854775807):IntKind.wrap .i64 n=n:=by
 simp only[IntKind.wrap,IntKind.bits,IntKind.signed]
 by_cases h:0<=n
 ·have:n%(2^64:Int)=n:=by omega
  simp only[this]
  rw[if_neg]
  simp;omega
 ·have:n%(2^64:Int)=n+18446744073709551616:=by omega
  simp only[this]
  rw[if_pos]
  ·omega
  ·simp;omega
theorem aR{p:Prop} [Decidable p](h:p):decide p=true:=decide_eq_true h
theorem aW{p:Prop} [Decidable p](h:¬p):decide p=false:=decide_eq_false h
section
variable {α:Type} {l p r:List α} {x:α}
theorem zf(l:List α)(k:Nat):gq l (k:Int)=l[k]?:=by simp[gq]
theorem ix(h:l=p++x::r):gq l ((p.length:Nat):Int)=some x:=by
 subst h
 rw[zf,List.getElem?_append_right (Nat.le_refl _),Nat.sub_self];rfl
theorem uM(h:l=p++x::r):decide (((p.length:Nat):Int)<((l.length:Nat):Int))=true:=by
 subst h
 refine aR ?_
 simp only[List.length_append,List.length_cons];omega
theorem qJ(h:l=p++ []):decide (((p.length:Nat):Int)<((l.length:Nat):Int))=false:=by
 subst h
 refine aW ?_
 simp
theorem Xz(h:l=p++x::r):p.length<l.length:=by
 subst h
 simp only[List.length_append,List.length_cons];omega
theorem wr(h:l=p++x::r)(hl:l.length<=4611686018427387904):IntKind.wrap .i64 (((p.length:Nat):Int)+1)=(((p++ [x]).length:Nat):Int):=by
 have:=Xz h
 rw[aM (by omega) (by omega)]
 simp
theorem Ya(h:l=p++x::r):l=(p++ [x])++r:=by
 rw[h];simp
theorem X0{n:Nat}{q s:List α}{y v:α}(hq:q.length=n):List.set (q++y::s) (0+Int.toNat ((n:Nat):Int)) v=(q++ [v])++s:=by
 subst hq
 simp
end
def marks:Int->Nat->List Int
 |_,0=>[]
 |k,n+1=>k::marks (k+1) n
theorem kv{a b:Int}:(a !=b)= !decide (a=b):=by
 simp[bne,BEq.beq]
theorem JN{α:Type}(P:α->Bool):∀l:List α,l.any P=(match l.findIdx? P with|some _=>true|none=>false)
 |[]=>rfl
 |x::r=>by
  rw[List.any_cons,List.findIdx?_cons,JN P r]
  cases P x
  ·cases r.findIdx? P<;>rfl
  ·rfl
end Go.Vai
