/- No conditions. -/
import Derived.Test.YtjkljnflaifbhaaDoorVaiT
namespace Go.Vai
open Go
inductive CS where
 |int (k:IntKind)|bool|str
 |own (t:Ty)|sl (t:Ty)
 |view (p:Place) (f:Bool) (lo:Nat) (t:Ty)
 |ptr (b o:Nat)|gp (g o:Nat)|emp
 |fn (f:FuncId) (caps:List (Nat×Nat))
 |nilp
 |undef
@[reducible] def CS.T:CS->Type
 | .int _=>Int
 | .bool=>Bool
 | .str=>ByteArray
 | .own t=>List t.T
 | .sl t=>List t.T
 | .view _ _ _ t=>List t.T
 |_=>Unit
def CS.cv:(s:CS)->s.T->CV
 | .int k,n=>.v (.int k n)
 | .bool,b=>.v (.bool b)
 | .str,s=>.v (.string s)
 | .own t,l=>.own t l
 | .sl t,l=>.sl t l
 | .view p f lo t,l=>.view p f lo t l
 | .ptr b o,_=>.ptr b o
 | .gp g o,_=>.gp g o
 | .emp,_=>.emp
 | .fn f caps,_=>.fn f caps
 | .nilp,_=>.v (.pointer none)
 | .undef,_=>.undef
def CS.parse:(s:CS)->CV->Option s.T
 | .int k,c=>match c with
   | .v (.int k' n)=>if k'=k then some n else none
   |_=>none
 | .bool,c=>match c with
   | .v (.bool b)=>some b
   |_=>none
 | .str,c=>match c with
   | .v (.string s)=>some s
   |_=>none
 | .own t,c=>match c with
   | .own t' l=>if h:t'=t then some (h▸l)else none
   |_=>none
 | .sl t,c=>match c with
   | .sl t' l=>if h:t'=t then some (h▸l)else none
   |_=>none
 | .view p f lo t,c=>match c with
   | .view p' f' lo' t' l=>if p'=p/\f'=f/\lo'=lo then(if h:t'=t then some (h▸l)else none)else none
   |_=>none
 | .ptr b o,c=>match c with
   | .ptr b' o'=>if b'=b/\o'=o then some ()else none
   |_=>none
 | .gp b o,c=>match c with
   | .gp b' o'=>if b'=b/\o'=o then some ()else none
   |_=>none
 | .emp,c=>match c with
   | .emp=>some ()
   |_=>none
 | .fn f caps,c=>match c with
   | .fn f' caps'=>if f'=f/\caps'=caps then some ()else none
   |_=>none
 | .nilp,c=>match c with
   | .v (.pointer none)=>some ()
   |_=>none
 | .undef,c=>match c with
   | .undef=>some ()
   |_=>none
theorem CS.parse_cv{s:CS}{c:CV}{z:s.T}(h:s.parse c=some z):c=s.cv z:=by
 cases s with
 |int k=>
  simp only[CS.parse]at h
  split at h
  ·split at h
   ·rename_i e;cases h;subst e;rfl
   ·cases h
  ·cases h
 |bool=>
  simp only[CS.parse]at h
  split at h
  ·cases h;rfl
  ·cases h
 |str=>
  simp only[CS.parse]at h
  split at h
  ·cases h;rfl
  ·cases h
 |own t=>
  simp only[CS.parse]at h
  split at h
  ·split at h
   ·rename_i e;subst e;cases h;rfl
   ·cases h
  ·cases h
 |sl t=>
  simp only[CS.parse]at h
  split at h
  ·split at h
   ·rename_i e;subst e;cases h;rfl
   ·cases h
  ·cases h
 |view p f lo t=>
  simp only[CS.parse]at h
  split at h
  ·split at h
   ·rename_i e
    obtain⟨rfl,rfl,rfl⟩:=e
    split at h
    ·rename_i e;subst e;cases h;rfl
    ·cases h
   ·cases h
  ·cases h
 |ptr b o=>
  simp only[CS.parse]at h
  split at h
  ·split at h
   ·rename_i e;obtain⟨rfl,rfl⟩:=e;rfl
   ·cases h
  ·cases h
 |gp b o=>
  simp only[CS.parse]at h
  split at h
  ·split at h
   ·rename_i e;obtain⟨rfl,rfl⟩:=e;rfl
   ·cases h
  ·cases h
 |emp=>
  simp only[CS.parse]at h
  split at h
  ·rfl
  ·cases h
 |fn f caps=>
  simp only[CS.parse]at h
  split at h
  ·split at h
   ·rename_i e;obtain⟨rfl,rfl⟩:=e;rfl
   ·cases h
  ·cases h
 |nilp=>
  simp only[CS.parse]at h
  split at h
  ·rfl
  ·cases h
 |undef=>
  simp only[CS.parse]at h
  split at h
  ·rfl
  ·cases h
@[reducible] def O6:List CS->Type
 |[]=>Unit
 |s::r=>s.T×O6 r
def IN:(s:List CS)->O6 s->List CV
 |[],_=>[]
 |s::r,z=>s.cv z.1::IN r z.2
def rp:(s:List CS)->List CV->Option (O6 s)
 |[],cs=>match cs with
  |[]=>some ()
  |_=>none
 |s::r,cs=>match cs with
  |c::cs=>(s.parse c).bind fun x=>(rp r cs).bind fun y=>some (x,y)
  |[]=>none
theorem pu:∀{s:List CS} {cs:List CV} {z:O6 s},rp s cs=some z->cs=IN s z
 |[],cs,z,h=>by
  simp only[rp]at h
  split at h
  ·rfl
  ·cases h
 |s::r,cs,z,h=>by
  simp only[rp]at h
  split at h
  ·rename_i c cs
   simp only[Option.bind_eq_some_iff]at h
   obtain⟨x,hx,y,hy,hz⟩:=h
   cases hz
   simp only[IN]
   rw[<-CS.parse_cv hx,<-pu hy]
  ·cases h
structure LS where
 slots:List (Bool×List CS)
 boxes:List (Bool×List CS)
 io:List CS
@[reducible] def CC:List (Bool×List CS)->Type
 |[]=>Unit
 |s::r=>O6 s.2×CC r
def Fi:(s:List (Bool×List CS))->CC s->List AV
 |[],_=>[]
 |s::r,z=>.one ⟨s.1,IN s.2 z.1⟩::Fi r z.2
def E3:(s:List (Bool×List CS))->CC s->List Nn
 |[],_=>[]
 |s::r,z=>some (s.1,IN s.2 z.1)::E3 r z.2
def ut:(s:List (Bool×List CS))->List AV->Option (CC s)
 |[],l=>match l with
  |[]=>some ()
  |_=>none
 |s::r,l=>match l with
  | .one v::l=>if v.agg=s.1 then(rp s.2 v.cs).bind fun x=>(ut r l).bind fun y=>some (x,y)else none
  |_=>none
def tH:(s:List (Bool×List CS))->List Nn->Option (CC s)
 |[],l=>match l with
  |[]=>some ()
  |_=>none
 |s::r,l=>match l with
  |some v::l=>if v.1=s.1 then(rp s.2 v.2).bind fun x=>(tH r l).bind fun y=>some (x,y)else none
  |_=>none
theorem Az:∀{s:List (Bool×List CS)} {l:List AV} {z:CC s},ut s l=some z->l=Fi s z
 |[],l,z,h=>by
  simp only[ut]at h
  split at h
  ·rfl
  ·cases h
 |s::r,l,z,h=>by
  simp only[ut]at h
  split at h
  ·rename_i v l
   split at h
   ·rename_i hg
    simp only[Option.bind_eq_some_iff]at h
    obtain⟨x,hx,y,hy,hz⟩:=h
    cases hz
    simp only[Fi]
    rw[<-pu hx,<-Az hy,<-hg]
   ·cases h
  ·cases h
theorem Ak:∀{s:List (Bool×List CS)} {l:List Nn} {z:CC s},tH s l=some z->l=E3 s z
 |[],l,z,h=>by
  simp only[tH]at h
  split at h
  ·rfl
  ·cases h
 |s::r,l,z,h=>by
  simp only[tH]at h
  split at h
  ·rename_i v l
   split at h
   ·rename_i hg
    simp only[Option.bind_eq_some_iff]at h
    obtain⟨x,hx,y,hy,hz⟩:=h
    cases hz
    simp only[E3]
    rw[<-pu hx,<-Ak hy,<-hg]
   ·cases h
  ·cases h
@[reducible] def LS.T(s:LS):Type:=CC s.slots×CC s.boxes×O6 s.io
def LS.enc(s:LS)(z:s.T):kp:=(Fi s.slots z.1,E3 s.boxes z.2.1,IN s.io z.2.2)
def LS.parse(s:LS)(x:kp):Option s.T:=
 (ut s.slots x.1).bind fun a=>(tH s.boxes x.2.1).bind fun b=>(rp s.io x.2.2).bind fun c=>some (a,b,c)
theorem LS.parse_ok{s:LS}{x:kp}{z:s.T}(h:s.parse x=some z):x=s.enc z:=by
 obtain⟨x1,x2,x3⟩:=x
 simp only[LS.parse,Option.bind_eq_some_iff]at h
 obtain⟨a,ha,b,hb,c,hc,hz⟩:=h
 cases hz
 simp only[LS.enc]
 rw[<-Az ha,<-Ak hb,<-pu hc]
def xO{α β:Type}(g:α->Option (α⊕β)):Nat->α->Option β
 |0,_=>none
 |n+1,z=>(g z).bind fun r=>match r with
  | .inl z=>xO g n z
  | .inr x=>some x
noncomputable def rl{α β:Type}(g:α->Option (α⊕β))(z:α):Option β:=
 open Classical in if h:∃n,(xO g n z).isSome=true then xO g (Classical.choose h) z else none
theorem Df{α β:Type}{g:α->Option (α⊕β)}{x:β}:∀{n:Nat} {z:α},xO g n z=some x->∀m,n<=m->xO g m z=some x
 |0,_,h,_,_=>by cases h
 |n+1,z,h,0,hm=>by omega
 |n+1,z,h,m+1,hm=>by
  simp only[xO]at h⊢
  cases hg:g z with
  |none=>rw[hg]at h;cases h
  |some r=>
   rw[hg]at h
   simp only[Option.bind_some]at h⊢
   cases r with
   |inl z'=>exact Df h m (by omega)
   |inr y=>exact h
theorem Kb{α β:Type}{g:α->Option (α⊕β)}{n m:Nat}{z:α}{x y:β}(h:xO g n z=some x)(h':xO g m z=some y):x=y:=by
 have h1:=Df h (max n m) (Nat.le_max_left ..)
 have h2:=Df h' (max n m) (Nat.le_max_right ..)
 rw[h1]at h2;cases h2;rfl
theorem DO{α β:Type}{g:α->Option (α⊕β)}{n:Nat}{z:α}{x:β}(h:xO g n z=some x):rl g z=some x:=by
 have hex:∃n,(xO g n z).isSome=true:=⟨n,by rw[h];rfl⟩
 unfold rl
 rw[dif_pos hex]
 have:=Classical.choose_spec hex
 cases hc:xO g (Classical.choose hex) z with
 |none=>rw[hc]at this;cases this
 |some y=>rw[Kb h hc]
theorem vD{α β:Type}{g:α->Option (α⊕β)}{z:α}{x:β}(h:rl g z=some x):∃n,xO g n z=some x:=by
 unfold rl at h
 split at h
 ·exact⟨_,h⟩
 ·cases h
theorem KJ{α β:Type}{g:α->Option (α⊕β)}{z z':α}(h:g z=some (.inl z')):rl g z=rl g z':=by
 cases hw:rl g z' with
 |some x=>
  obtain⟨n,hn⟩:=vD hw
  exact DO (n:=n+1) (by simp only[xO,h,Option.bind_some];exact hn)
 |none=>
  cases hz:rl g z with
  |none=>rfl
  |some x=>
   obtain⟨n,hn⟩:=vD hz
   cases n with
   |zero=>cases hn
   |succ n=>
    simp only[xO,h,Option.bind_some]at hn
    rw[DO hn]at hw;cases hw
theorem KH{α β:Type}{g:α->Option (α⊕β)}{z:α}{x:β}(h:g z=some (.inr x)):rl g z=some x:=
 DO (n:=1) (by simp only[xO,h,Option.bind_some])
@[reducible] def wO:List (Ex×LS)->Type
 |[]=>Empty
 |x::r=>x.2.T⊕wO r
def Qw{R:Type}(k:Ex->kp->Option R):(xs:List (Ex×LS))->wO xs->Option R
 |[],z=>nomatch z
 |x::r,z=>match z with
  | .inl z=>k x.1 (x.2.enc z)
  | .inr z=>Qw k r z
theorem B8{d:Ew}{lh:eo}{R:Type}{body:St->(Ex->St->Option R)->Option R}{s:LS}{xs:List (Ex×LS)}{g:s.T->Option (s.T⊕wO xs)}
 (hstep:∀n z k,dG d lh body (n+1) (s.enc z) k=(g z).bind fun r=>match r with
   | .inl z=>dG d lh body n (s.enc z) k
   | .inr x=>Qw k xs x) (k:Ex->kp->Option R):∀n z,dG d lh body n (s.enc z) k=(xO g n z).bind (Qw k xs)
 |0,z=>rfl
 |n+1,z=>by
  rw[hstep]
  simp only[xO]
  cases g z with
  |none=>rfl
  |some r=>
   cases r with
   |inl z'=>exact B8 hstep k n z'
   |inr x=>rfl
noncomputable def L7{R:Type}(s:LS)(xs:List (Ex×LS))(g:s.T->Option (s.T⊕wO xs))(x:kp)(k:Ex->kp->Option R):Option R:=
 (s.parse x).bind fun z=>(rl g z).bind (Qw k xs)
theorem Ok{d:Ew}{lh:eo}{R:Type}{body:St->(Ex->St->Option R)->Option R}{s:LS}{xs:List (Ex×LS)}{g:s.T->Option (s.T⊕wO xs)}
 (hstep:∀n z k,dG d lh body (n+1) (s.enc z) k=(g z).bind fun r=>match r with
   | .inl z=>dG d lh body n (s.enc z) k
   | .inr x=>Qw k xs x):∀x k r,L7 s xs g x k=some r->∃N,dG d lh body N x k=some r:=by
 intro x k r h
 simp only[L7,Option.bind_eq_some_iff]at h
 obtain⟨z,hz,y,hy,hr⟩:=h
 obtain⟨n,hn⟩:=vD hy
 refine⟨n, ?_⟩
 rw[LS.parse_ok hz,B8 hstep k n z,hn]
 exact hr
end Go.Vai
