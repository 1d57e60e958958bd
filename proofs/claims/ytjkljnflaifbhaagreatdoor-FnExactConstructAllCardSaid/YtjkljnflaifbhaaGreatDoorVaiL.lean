/- No conditions. -/
import Derived.Test.YtjkljnflaifbhaaGreatDoorVaiT
namespace Go.Vai
open Go
inductive CS where
 |int (k:IntKind)|bool|str
 |own (t:Ty)|sl (t:Ty)
 |view (p:Place) (f:Bool) (lo:Nat) (t:Ty)
 |ptr (b o:Nat)|gp (g o:Nat)|emp
 |fn (f:FuncId) (caps:List (Nat×Nat))
 |nilp
 |undef
@[reducible] def CS.T:CS->Type
 | .int _=>Int
 | .bool=>Bool
 | .str=>ByteArray
 | .own t=>List t.T
 | .sl t=>List t.T
 | .view _ _ _ t=>List t.T
 |_=>Unit
def CS.cv:(s:CS)->s.T->CV
 | .int k,n=>.v (.int k n)
 | .bool,b=>.v (.bool b)
 | .str,s=>.v (.string s)
 | .own t,l=>.own t l
 | .sl t,l=>.sl t l
 | .view p f lo t,l=>.view p f lo t l
 | .ptr b o,_=>.ptr b o
 | .gp g o,_=>.gp g o
 | .emp,_=>.emp
 | .fn f caps,_=>.fn f caps
 | .nilp,_=>.v (.pointer none)
 | .undef,_=>.undef
def CS.parse:(s:CS)->CV->Option s.T
 | .int k,c=>match c with
   | .v (.int k' n)=>if k'=k then some n else none
   |_=>none
 | .bool,c=>match c with
   | .v (.bool b)=>some b
   |_=>none
 | .str,c=>match c with
   | .v (.string s)=>some s
   |_=>none
 | .own t,c=>match c with
   | .own t' l=>if h:t'=t then some (h▸l)else none
   |_=>none
 | .sl t,c=>match c with
   | .sl t' l=>if h:t'=t then some (h▸l)else none
   |_=>none
 | .view p f lo t,c=>match c with
   | .view p' f' lo' t' l=>if p'=p/\f'=f/\lo'=lo then(if h:t'=t then some (h▸l)else none)else none
   |_=>none
 | .ptr b o,c=>match c with
   | .ptr b' o'=>if b'=b/\o'=o then some ()else none
   |_=>none
 | .gp b o,c=>match c with
   | .gp b' o'=>if b'=b/\o'=o then some ()else none
   |_=>none
 | .emp,c=>match c with
   | .emp=>some ()
   |_=>none
 | .fn f caps,c=>match c with
   | .fn f' caps'=>if f'=f/\caps'=caps then some ()else none
   |_=>none
 | .nilp,c=>match c with
   | .v (.pointer none)=>some ()
   |_=>none
 | .undef,c=>match c with
   | .undef=>some ()
   |_=>none
theorem CS.parse_cv{s:CS}{c:CV}{z:s.T}(h:s.parse c=some z):c=s.cv z:=by
 cases s with
 |int k=>
  simp only[CS.parse]at h
  split at h
  ·split at h
   ·rename_i e;cases h;subst e;rfl
   ·cases h
  ·cases h
 |bool=>
  simp only[CS.parse]at h
  split at h
  ·cases h;rfl
  ·cases h
 |str=>
  simp only[CS.parse]at h
  split at h
  ·cases h;rfl
  ·cases h
 |own t=>
  simp only[CS.parse]at h
  split at h
  ·split at h
   ·rename_i e;subst e;cases h;rfl
   ·cases h
  ·cases h
 |sl t=>
  simp only[CS.parse]at h
  split at h
  ·split at h
   ·rename_i e;subst e;cases h;rfl
   ·cases h
  ·cases h
 |view p f lo t=>
  simp only[CS.parse]at h
  split at h
  ·split at h
   ·rename_i e
    obtain⟨rfl,rfl,rfl⟩:=e
    split at h
    ·rename_i e;subst e;cases h;rfl
    ·cases h
   ·cases h
  ·cases h
 |ptr b o=>
  simp only[CS.parse]at h
  split at h
  ·split at h
   ·rename_i e;obtain⟨rfl,rfl⟩:=e;rfl
   ·cases h
  ·cases h
 |gp b o=>
  simp only[CS.parse]at h
  split at h
  ·split at h
   ·rename_i e;obtain⟨rfl,rfl⟩:=e;rfl
   ·cases h
  ·cases h
 |emp=>
  simp only[CS.parse]at h
  split at h
  ·rfl
  ·cases h
 |fn f caps=>
  simp only[CS.parse]at h
  split at h
  ·split at h
   ·rename_i e;obtain⟨rfl,rfl⟩:=e;rfl
   ·cases h
  ·cases h
 |nilp=>
  simp only[CS.parse]at h
  split at h
  ·rfl
  ·cases h
 |undef=>
  simp only[CS.parse]at h
  split at h
  ·rfl
  ·cases h
@[reducible] def csT:List CS->Type
 |[]=>Unit
 |s::r=>s.T×csT r
def Xn:(s:List CS)->csT s->List CV
 |[],_=>[]
 |s::r,z=>s.cv z.1::Xn r z.2
def AS:(s:List CS)->List CV->Option (csT s)
 |[],cs=>match cs with
  |[]=>some ()
  |_=>none
 |s::r,cs=>match cs with
  |c::cs=>(s.parse c).bind fun x=>(AS r cs).bind fun y=>some (x,y)
  |[]=>none
theorem xP:∀{s:List CS} {cs:List CV} {z:csT s},AS s cs=some z->cs=Xn s z
 |[],cs,z,h=>by
  simp only[AS]at h
  split at h
  ·rfl
  ·cases h
 |s::r,cs,z,h=>by
  simp only[AS]at h
  split at h
  ·rename_i c cs
   simp only[Option.bind_eq_some_iff]at h
   obtain⟨x,hx,y,hy,hz⟩:=h
   cases hz
   simp only[Xn]
   rw[<-CS.parse_cv hx,<-xP hy]
  ·cases h
structure LS where
 slots:List (Bool×List CS)
 boxes:List (Bool×List CS)
 io:List CS
@[reducible] def Pw:List (Bool×List CS)->Type
 |[]=>Unit
 |s::r=>csT s.2×Pw r
def TM:(s:List (Bool×List CS))->Pw s->List AV
 |[],_=>[]
 |s::r,z=>.one ⟨s.1,Xn s.2 z.1⟩::TM r z.2
def Tx:(s:List (Bool×List CS))->Pw s->List Box
 |[],_=>[]
 |s::r,z=>some (s.1,Xn s.2 z.1)::Tx r z.2
def EB:(s:List (Bool×List CS))->List AV->Option (Pw s)
 |[],l=>match l with
  |[]=>some ()
  |_=>none
 |s::r,l=>match l with
  | .one v::l=>if v.agg=s.1 then(AS s.2 v.cs).bind fun x=>(EB r l).bind fun y=>some (x,y)else none
  |_=>none
def DA:(s:List (Bool×List CS))->List Box->Option (Pw s)
 |[],l=>match l with
  |[]=>some ()
  |_=>none
 |s::r,l=>match l with
  |some v::l=>if v.1=s.1 then(AS s.2 v.2).bind fun x=>(DA r l).bind fun y=>some (x,y)else none
  |_=>none
theorem MM:∀{s:List (Bool×List CS)} {l:List AV} {z:Pw s},EB s l=some z->l=TM s z
 |[],l,z,h=>by
  simp only[EB]at h
  split at h
  ·rfl
  ·cases h
 |s::r,l,z,h=>by
  simp only[EB]at h
  split at h
  ·rename_i v l
   split at h
   ·rename_i hg
    simp only[Option.bind_eq_some_iff]at h
    obtain⟨x,hx,y,hy,hz⟩:=h
    cases hz
    simp only[TM]
    rw[<-xP hx,<-MM hy,<-hg]
   ·cases h
  ·cases h
theorem Mo:∀{s:List (Bool×List CS)} {l:List Box} {z:Pw s},DA s l=some z->l=Tx s z
 |[],l,z,h=>by
  simp only[DA]at h
  split at h
  ·rfl
  ·cases h
 |s::r,l,z,h=>by
  simp only[DA]at h
  split at h
  ·rename_i v l
   split at h
   ·rename_i hg
    simp only[Option.bind_eq_some_iff]at h
    obtain⟨x,hx,y,hy,hz⟩:=h
    cases hz
    simp only[Tx]
    rw[<-xP hx,<-Mo hy,<-hg]
   ·cases h
  ·cases h
@[reducible] def LS.T(s:LS):Type:=Pw s.slots×Pw s.boxes×csT s.io
def LS.enc(s:LS)(z:s.T):iV:=(TM s.slots z.1,Tx s.boxes z.2.1,Xn s.io z.2.2)
def LS.parse(s:LS)(x:iV):Option s.T:=
 (EB s.slots x.1).bind fun a=>(DA s.boxes x.2.1).bind fun b=>(AS s.io x.2.2).bind fun c=>some (a,b,c)
theorem LS.parse_ok{s:LS}{x:iV}{z:s.T}(h:s.parse x=some z):x=s.enc z:=by
 obtain⟨x1,x2,x3⟩:=x
 simp only[LS.parse,Option.bind_eq_some_iff]at h
 obtain⟨a,ha,b,hb,c,hc,hz⟩:=h
 cases hz
 simp only[LS.enc]
 rw[<-MM ha,<-Mo hb,<-xP hc]
def Js{α β:Type}(g:α->Option (α⊕β)):Nat->α->Option β
 |0,_=>none
 |n+1,z=>(g z).bind fun r=>match r with
  | .inl z=>Js g n z
  | .inr x=>some x
noncomputable def AK{α β:Type}(g:α->Option (α⊕β))(z:α):Option β:=
 open Classical in if h:∃n,(Js g n z).isSome=true then Js g (Classical.choose h) z else none
theorem Qx{α β:Type}{g:α->Option (α⊕β)}{x:β}:∀{n:Nat} {z:α},Js g n z=some x->∀m,n<=m->Js g m z=some x
 |0,_,h,_,_=>by cases h
 |n+1,z,h,0,hm=>by omega
 |n+1,z,h,m+1,hm=>by
  simp only[Js]at h⊢
  cases hg:g z with
  |none=>rw[hg]at h;cases h
  |some r=>
   rw[hg]at h
   simp only[Option.bind_some]at h⊢
   cases r with
   |inl z'=>exact Qx h m (by omega)
   |inr y=>exact h
theorem YX{α β:Type}{g:α->Option (α⊕β)}{n m:Nat}{z:α}{x y:β}(h:Js g n z=some x)(h':Js g m z=some y):x=y:=by
 have h1:=Qx h (max n m) (Nat.le_max_left ..)
 have h2:=Qx h' (max n m) (Nat.le_max_right ..)
 rw[h1]at h2;cases h2;rfl
theorem Ru{α β:Type}{g:α->Option (α⊕β)}{n:Nat}{z:α}{x:β}(h:Js g n z=some x):AK g z=some x:=by
 have hex:∃n,(Js g n z).isSome=true:=⟨n,by rw[h];rfl⟩
 unfold AK
 rw[dif_pos hex]
 have:=Classical.choose_spec hex
 cases hc:Js g (Classical.choose hex) z with
 |none=>rw[hc]at this;cases this
 |some y=>rw[YX h hc]
theorem F9{α β:Type}{g:α->Option (α⊕β)}{z:α}{x:β}(h:AK g z=some x):∃n,Js g n z=some x:=by
 unfold AK at h
 split at h
 ·exact⟨_,h⟩
 ·cases h
theorem Zy{α β:Type}{g:α->Option (α⊕β)}{z z':α}(h:g z=some (.inl z')):AK g z=AK g z':=by
 cases hw:AK g z' with
 |some x=>
  obtain⟨n,hn⟩:=F9 hw
  exact Ru (n:=n+1) (by simp only[Js,h,Option.bind_some];exact hn)
 |none=>
  cases hz:AK g z with
  |none=>rfl
  |some x=>
   obtain⟨n,hn⟩:=F9 hz
   cases n with
   |zero=>cases hn
   |succ n=>
    simp only[Js,h,Option.bind_some]at hn
    rw[Ru hn]at hw;cases hw
theorem Zw{α β:Type}{g:α->Option (α⊕β)}{z:α}{x:β}(h:g z=some (.inr x)):AK g z=some x:=
 Ru (n:=1) (by simp only[Js,h,Option.bind_some])
@[reducible] def yH:List (Ex×LS)->Type
 |[]=>Empty
 |x::r=>x.2.T⊕yH r
def exK{R:Type}(k:Ex->iV->Option R):(xs:List (Ex×LS))->yH xs->Option R
 |[],z=>nomatch z
 |x::r,z=>match z with
  | .inl z=>k x.1 (x.2.enc z)
  | .inr z=>exK k r z
theorem OV{d:Tt}{lh:bN}{R:Type}{body:St->(Ex->St->Option R)->Option R}{s:LS}{xs:List (Ex×LS)}{g:s.T->Option (s.T⊕yH xs)}
 (hstep:∀n z k,bJ d lh body (n+1) (s.enc z) k=(g z).bind fun r=>match r with
   | .inl z=>bJ d lh body n (s.enc z) k
   | .inr x=>exK k xs x) (k:Ex->iV->Option R):∀n z,bJ d lh body n (s.enc z) k=(Js g n z).bind (exK k xs)
 |0,z=>rfl
 |n+1,z=>by
  rw[hstep]
  simp only[Js]
  cases g z with
  |none=>rfl
  |some r=>
   cases r with
   |inl z'=>exact OV hstep k n z'
   |inr x=>rfl
noncomputable def aaH{R:Type}(s:LS)(xs:List (Ex×LS))(g:s.T->Option (s.T⊕yH xs))(x:iV)(k:Ex->iV->Option R):Option R:=
 (s.parse x).bind fun z=>(AK g z).bind (exK k xs)
theorem acD{d:Tt}{lh:bN}{R:Type}{body:St->(Ex->St->Option R)->Option R}{s:LS}{xs:List (Ex×LS)}{g:s.T->Option (s.T⊕yH xs)}
 (hstep:∀n z k,bJ d lh body (n+1) (s.enc z) k=(g z).bind fun r=>match r with
   | .inl z=>bJ d lh body n (s.enc z) k
   | .inr x=>exK k xs x):∀x k r,aaH s xs g x k=some r->∃N,bJ d lh body N x k=some r:=by
 intro x k r h
 simp only[aaH,Option.bind_eq_some_iff]at h
 obtain⟨z,hz,y,hy,hr⟩:=h
 obtain⟨n,hn⟩:=F9 hy
 refine⟨n, ?_⟩
 rw[LS.parse_ok hz,OV hstep k n z,hn]
 exact hr
end Go.Vai
