/- No conditions. -/
import Derived.Test.YtjkljnflaifbhaaGreatDoorVaiT
namespace Go.Vai
open Go
inductive CS where
 |int (k:IntKind)|bool|str
 |own (t:Ty)|sl (t:Ty)
 |view (p:Place) (f:Bool) (lo:Nat) (t:Ty)
 |ptr (b o:Nat)|gp (g o:Nat)|emp
 |fn (f:FuncId) (caps:List (Nat×Nat))
 |nilp
 |undef
@[reducible] def CS.T:CS->Type
 | .int _=>Int
 | .bool=>Bool
 | .str=>ByteArray
 | .own t=>List t.T
 | .sl t=>List t.T
 | .view _ _ _ t=>List t.T
 |_=>Unit
def CS.cv:(s:CS)->s.T->CV
 | .int k,n=>.v (.int k n)
 | .bool,b=>.v (.bool b)
 | .str,s=>.v (.string s)
 | .own t,l=>.own t l
 | .sl t,l=>.sl t l
 | .view p f lo t,l=>.view p f lo t l
 | .ptr b o,_=>.ptr b o
 | .gp g o,_=>.gp g o
 | .emp,_=>.emp
 | .fn f caps,_=>.fn f caps
 | .nilp,_=>.v (.pointer none)
 | .undef,_=>.undef
def CS.parse:(s:CS)->CV->Option s.T
 | .int k,c=>match c with
   | .v (.int k' n)=>if k'=k then some n else none
   |_=>none
 | .bool,c=>match c with
   | .v (.bool b)=>some b
   |_=>none
 | .str,c=>match c with
   | .v (.string s)=>some s
   |_=>none
 | .own t,c=>match c with
   | .own t' l=>if h:t'=t then some (h▸l)else none
   |_=>none
 | .sl t,c=>match c with
   | .sl t' l=>if h:t'=t then some (h▸l)else none
   |_=>none
 | .view p f lo t,c=>match c with
   | .view p' f' lo' t' l=>if p'=p/\f'=f/\lo'=lo then(if h:t'=t then some (h▸l)else none)else none
   |_=>none
 | .ptr b o,c=>match c with
   | .ptr b' o'=>if b'=b/\o'=o then some ()else none
   |_=>none
 | .gp b o,c=>match c with
   | .gp b' o'=>if b'=b/\o'=o then some ()else none
   |_=>none
 | .emp,c=>match c with
   | .emp=>some ()
   |_=>none
 | .fn f caps,c=>match c with
   | .fn f' caps'=>if f'=f/\caps'=caps then some ()else none
   |_=>none
 | .nilp,c=>match c with
   | .v (.pointer none)=>some ()
   |_=>none
 | .undef,c=>match c with
   | .undef=>some ()
   |_=>none
theorem CS.parse_cv{s:CS}{c:CV}{z:s.T}(h:s.parse c=some z):c=s.cv z:=by
 cases s with
 |int k=>
  simp only[CS.parse]at h
  split at h
  ·split at h
   ·rename_i e;cases h;subst e;rfl
   ·cases h
  ·cases h
 |bool=>
  simp only[CS.parse]at h
  split at h
  ·cases h;rfl
  ·cases h
 |str=>
  simp only[CS.parse]at h
  split at h
  ·cases h;rfl
  ·cases h
 |own t=>
  simp only[CS.parse]at h
  split at h
  ·split at h
   ·rename_i e;subst e;cases h;rfl
   ·cases h
  ·cases h
 |sl t=>
  simp only[CS.parse]at h
  split at h
  ·split at h
   ·rename_i e;subst e;cases h;rfl
   ·cases h
  ·cases h
 |view p f lo t=>
  simp only[CS.parse]at h
  split at h
  ·split at h
   ·rename_i e
    obtain⟨rfl,rfl,rfl⟩:=e
    split at h
    ·rename_i e;subst e;cases h;rfl
    ·cases h
   ·cases h
  ·cases h
 |ptr b o=>
  simp only[CS.parse]at h
  split at h
  ·split at h
   ·rename_i e;obtain⟨rfl,rfl⟩:=e;rfl
   ·cases h
  ·cases h
 |gp b o=>
  simp only[CS.parse]at h
  split at h
  ·split at h
   ·rename_i e;obtain⟨rfl,rfl⟩:=e;rfl
   ·cases h
  ·cases h
 |emp=>
  simp only[CS.parse]at h
  split at h
  ·rfl
  ·cases h
 |fn f caps=>
  simp only[CS.parse]at h
  split at h
  ·split at h
   ·rename_i e;obtain⟨rfl,rfl⟩:=e;rfl
   ·cases h
  ·cases h
 |nilp=>
  simp only[CS.parse]at h
  split at h
  ·rfl
  ·cases h
 |undef=>
  simp only[CS.parse]at h
  split at h
  ·rfl
  ·cases h
@[reducible] def P7:List CS->Type
 |[]=>Unit
 |s::r=>s.T×P7 r
def JX:(s:List CS)->P7 s->List CV
 |[],_=>[]
 |s::r,z=>s.cv z.1::JX r z.2
def rI:(s:List CS)->List CV->Option (P7 s)
 |[],cs=>match cs with
  |[]=>some ()
  |_=>none
 |s::r,cs=>match cs with
  |c::cs=>(s.parse c).bind fun x=>(rI r cs).bind fun y=>some (x,y)
  |[]=>none
theorem pG:∀{s:List CS} {cs:List CV} {z:P7 s},rI s cs=some z->cs=JX s z
 |[],cs,z,h=>by
  simp only[rI]at h
  split at h
  ·rfl
  ·cases h
 |s::r,cs,z,h=>by
  simp only[rI]at h
  split at h
  ·rename_i c cs
   simp only[Option.bind_eq_some_iff]at h
   obtain⟨x,hx,y,hy,hz⟩:=h
   cases hz
   simp only[JX]
   rw[<-CS.parse_cv hx,<-pG hy]
  ·cases h
structure LS where
 slots:List (Bool×List CS)
 boxes:List (Bool×List CS)
 io:List CS
@[reducible] def DN:List (Bool×List CS)->Type
 |[]=>Unit
 |s::r=>P7 s.2×DN r
def GJ:(s:List (Bool×List CS))->DN s->List AV
 |[],_=>[]
 |s::r,z=>.one ⟨s.1,JX s.2 z.1⟩::GJ r z.2
def Gy:(s:List (Bool×List CS))->DN s->List Ou
 |[],_=>[]
 |s::r,z=>some (s.1,JX s.2 z.1)::Gy r z.2
def uX:(s:List (Bool×List CS))->List AV->Option (DN s)
 |[],l=>match l with
  |[]=>some ()
  |_=>none
 |s::r,l=>match l with
  | .one v::l=>if v.agg=s.1 then(rI s.2 v.cs).bind fun x=>(uX r l).bind fun y=>some (x,y)else none
  |_=>none
def uh:(s:List (Bool×List CS))->List Ou->Option (DN s)
 |[],l=>match l with
  |[]=>some ()
  |_=>none
 |s::r,l=>match l with
  |some v::l=>if v.1=s.1 then(rI s.2 v.2).bind fun x=>(uh r l).bind fun y=>some (x,y)else none
  |_=>none
theorem BI:∀{s:List (Bool×List CS)} {l:List AV} {z:DN s},uX s l=some z->l=GJ s z
 |[],l,z,h=>by
  simp only[uX]at h
  split at h
  ·rfl
  ·cases h
 |s::r,l,z,h=>by
  simp only[uX]at h
  split at h
  ·rename_i v l
   split at h
   ·rename_i hg
    simp only[Option.bind_eq_some_iff]at h
    obtain⟨x,hx,y,hy,hz⟩:=h
    cases hz
    simp only[GJ]
    rw[<-pG hx,<-BI hy,<-hg]
   ·cases h
  ·cases h
theorem Bq:∀{s:List (Bool×List CS)} {l:List Ou} {z:DN s},uh s l=some z->l=Gy s z
 |[],l,z,h=>by
  simp only[uh]at h
  split at h
  ·rfl
  ·cases h
 |s::r,l,z,h=>by
  simp only[uh]at h
  split at h
  ·rename_i v l
   split at h
   ·rename_i hg
    simp only[Option.bind_eq_some_iff]at h
    obtain⟨x,hx,y,hy,hz⟩:=h
    cases hz
    simp only[Gy]
    rw[<-pG hx,<-Bq hy,<-hg]
   ·cases h
  ·cases h
@[reducible] def LS.T(s:LS):Type:=DN s.slots×DN s.boxes×P7 s.io
def LS.enc(s:LS)(z:s.T):kf:=(GJ s.slots z.1,Gy s.boxes z.2.1,JX s.io z.2.2)
def LS.parse(s:LS)(x:kf):Option s.T:=
 (uX s.slots x.1).bind fun a=>(uh s.boxes x.2.1).bind fun b=>(rI s.io x.2.2).bind fun c=>some (a,b,c)
theorem LS.parse_ok{s:LS}{x:kf}{z:s.T}(h:s.parse x=some z):x=s.enc z:=by
 obtain⟨x1,x2,x3⟩:=x
 simp only[LS.parse,Option.bind_eq_some_iff]at h
 obtain⟨a,ha,b,hb,c,hc,hz⟩:=h
 cases hz
 simp only[LS.enc]
 rw[<-BI ha,<-Bq hb,<-pG hc]
def yM{α β:Type}(g:α->Option (α⊕β)):Nat->α->Option β
 |0,_=>none
 |n+1,z=>(g z).bind fun r=>match r with
  | .inl z=>yM g n z
  | .inr x=>some x
noncomputable def rF{α β:Type}(g:α->Option (α⊕β))(z:α):Option β:=
 open Classical in if h:∃n,(yM g n z).isSome=true then yM g (Classical.choose h) z else none
theorem En{α β:Type}{g:α->Option (α⊕β)}{x:β}:∀{n:Nat} {z:α},yM g n z=some x->∀m,n<=m->yM g m z=some x
 |0,_,h,_,_=>by cases h
 |n+1,z,h,0,hm=>by omega
 |n+1,z,h,m+1,hm=>by
  simp only[yM]at h⊢
  cases hg:g z with
  |none=>rw[hg]at h;cases h
  |some r=>
   rw[hg]at h
   simp only[Option.bind_some]at h⊢
   cases r with
   |inl z'=>exact En h m (by omega)
   |inr y=>exact h
theorem Lh{α β:Type}{g:α->Option (α⊕β)}{n m:Nat}{z:α}{x y:β}(h:yM g n z=some x)(h':yM g m z=some y):x=y:=by
 have h1:=En h (max n m) (Nat.le_max_left ..)
 have h2:=En h' (max n m) (Nat.le_max_right ..)
 rw[h1]at h2;cases h2;rfl
theorem E2{α β:Type}{g:α->Option (α⊕β)}{n:Nat}{z:α}{x:β}(h:yM g n z=some x):rF g z=some x:=by
 have hex:∃n,(yM g n z).isSome=true:=⟨n,by rw[h];rfl⟩
 unfold rF
 rw[dif_pos hex]
 have:=Classical.choose_spec hex
 cases hc:yM g (Classical.choose hex) z with
 |none=>rw[hc]at this;cases this
 |some y=>rw[Lh h hc]
theorem wk{α β:Type}{g:α->Option (α⊕β)}{z:α}{x:β}(h:rF g z=some x):∃n,yM g n z=some x:=by
 unfold rF at h
 split at h
 ·exact⟨_,h⟩
 ·cases h
theorem LP{α β:Type}{g:α->Option (α⊕β)}{z z':α}(h:g z=some (.inl z')):rF g z=rF g z':=by
 cases hw:rF g z' with
 |some x=>
  obtain⟨n,hn⟩:=wk hw
  exact E2 (n:=n+1) (by simp only[yM,h,Option.bind_some];exact hn)
 |none=>
  cases hz:rF g z with
  |none=>rfl
  |some x=>
   obtain⟨n,hn⟩:=wk hz
   cases n with
   |zero=>cases hn
   |succ n=>
    simp only[yM,h,Option.bind_some]at hn
    rw[E2 hn]at hw;cases hw
theorem LN{α β:Type}{g:α->Option (α⊕β)}{z:α}{x:β}(h:g z=some (.inr x)):rF g z=some x:=
 E2 (n:=1) (by simp only[yM,h,Option.bind_some])
@[reducible] def wL:List (Ex×LS)->Type
 |[]=>Empty
 |x::r=>x.2.T⊕wL r
def RD{R:Type}(k:Ex->kf->Option R):(xs:List (Ex×LS))->wL xs->Option R
 |[],z=>nomatch z
 |x::r,z=>match z with
  | .inl z=>k x.1 (x.2.enc z)
  | .inr z=>RD k r z
theorem Dh{d:zc}{lh:dz}{R:Type}{body:St->(Ex->St->Option R)->Option R}{s:LS}{xs:List (Ex×LS)}{g:s.T->Option (s.T⊕wL xs)}
 (hstep:∀n z k,eg d lh body (n+1) (s.enc z) k=(g z).bind fun r=>match r with
   | .inl z=>eg d lh body n (s.enc z) k
   | .inr x=>RD k xs x) (k:Ex->kf->Option R):∀n z,eg d lh body n (s.enc z) k=(yM g n z).bind (RD k xs)
 |0,z=>rfl
 |n+1,z=>by
  rw[hstep]
  simp only[yM]
  cases g z with
  |none=>rfl
  |some r=>
   cases r with
   |inl z'=>exact Dh hstep k n z'
   |inr x=>rfl
noncomputable def Nc{R:Type}(s:LS)(xs:List (Ex×LS))(g:s.T->Option (s.T⊕wL xs))(x:kf)(k:Ex->kf->Option R):Option R:=
 (s.parse x).bind fun z=>(rF g z).bind (RD k xs)
theorem Pg{d:zc}{lh:dz}{R:Type}{body:St->(Ex->St->Option R)->Option R}{s:LS}{xs:List (Ex×LS)}{g:s.T->Option (s.T⊕wL xs)}
 (hstep:∀n z k,eg d lh body (n+1) (s.enc z) k=(g z).bind fun r=>match r with
   | .inl z=>eg d lh body n (s.enc z) k
   | .inr x=>RD k xs x):∀x k r,Nc s xs g x k=some r->∃N,eg d lh body N x k=some r:=by
 intro x k r h
 simp only[Nc,Option.bind_eq_some_iff]at h
 obtain⟨z,hz,y,hy,hr⟩:=h
 obtain⟨n,hn⟩:=wk hy
 refine⟨n, ?_⟩
 rw[LS.parse_ok hz,Dh hstep k n z,hn]
 exact hr
end Go.Vai
