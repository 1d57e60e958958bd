/- No conditions. -/
import Derived.Test.YtjkljnflaifbhaaGreatDoorVai20
import Derived.ProofKit
namespace Go.Vai
open Go
def Ty.wf:(t:Ty)->t.T->Prop
 | .int k,n=>(Lit.int k n).wf=true
 | .bool,_=>True
 | .str,s=>s.size<=maxLen
 | .unit,_=>True
 | .pair a b,x=>a.wf x.1/\b.wf x.2
 | .slice t,l=>l.length<=maxLen/\∀x,x∈l->t.wf x
def RO(f:TypeId->Ty->Bool)(P:Program):Nat->List Field->Ty->Bool
 |_,[], .unit=>true
 |off,[x],y=>decide (x.offset=off)&&decide (P.cellsOf x.type=y.size)&&f x.type y
 |off,x::r, .pair a b=>decide (x.offset=off)&&decide (P.cellsOf x.type=a.size)&&f x.type a&&RO f P (off+a.size) r b
 |_,_,_=>false
def CI(P:Program):Nat->TypeId->Ty->Bool
 |0,_,_=>false
 |d+1,T,y=>match P.underlying T with
  |some (.int k)=>decide (y= .int k)
  |some .bool=>decide (y= .bool)
  |some .string=>decide (y= .str)
  |some (.slice e)=>match y with
   | .slice y=>decide (P.cellsOf e=y.size)&&decide (0<y.size)&&CI P d e y
   |_=>false
  |some (.struct fs)=>decide (P.cellsOf T=y.size)&&RO (CI P d) P 0 fs.toList y
  |_=>false
def Qv(w:World)(b:Nat):Prop:=b<w.heap.size
section
variable {H:Type} {enc:TypeId×Value->H} {P:Program} {w:World} {spare:Nat->Bool} {held:Bool}
theorem zo{α β:Type}{f:α->Option β}{a:α}{l:List α}{ys:List β}(h:(a::l).mapM f=some ys):∃y ys',f a=some y/\l.mapM f=some ys'/\ys=y::ys':=by
 rw[List.mapM_cons]at h
 cases hf:f a with
 |none=>rw[hf]at h;cases h
 |some y=>
  rw[hf]at h
  cases hl:l.mapM f with
  |none=>rw[hl]at h;cases h
  |some ys'=>rw[hl]at h;cases h;exact⟨y,ys',rfl,rfl,rfl⟩
theorem RZ{d fuel:Nat}{cs:List Value}(ih:∀(T:TypeId) (y:Ty) (cs:List Value) x,CI P d T y=true->DataW.trod enc P w 0 spare held fuel T cs=some x->∃z,ER (Qv w) w y z cs/\y.wf z):
 ∀(fs:List Field) (off:Nat) (y:Ty) (xs:List (DataW H×List MemPlace)),RO (CI P d) P off fs y=true->off+y.size=cs.length->
  fs.mapM (fun f=>DataW.trod enc P w 0 spare held fuel f.type ((cs.drop f.offset).take (P.cellsOf f.type)))=some xs->∃z,ER (Qv w) w y z (cs.drop off)/\y.wf z
 |[],off,y,xs,hl,hs,h=>by
  cases y with
  |unit=>
   refine⟨(), ?_,trivial⟩
   simp only[Ty.size]at hs
   exact List.drop_of_length_le (by omega)
  |_=>cases hl
 |[f],off,y,xs,hl,hs,h=>by
  obtain⟨x,xs',h1,_,_⟩:=zo h
  simp only[RO,Bool.and_eq_true,decide_eq_true_eq]at hl
  obtain⟨⟨h2,h3⟩,h4⟩:=hl
  obtain⟨z,h5,h6⟩:=ih _ _ _ _ h4 h1
  refine⟨z, ?_,h6⟩
  rw[h2,h3,List.take_of_length_le (by simp;omega)]at h5
  exact h5
 |f::f'::r,off,y,xs,hl,hs,h=>by
  cases y with
  |pair a b=>
   obtain⟨x,xs',h1,hr,_⟩:=zo h
   simp only[RO,Bool.and_eq_true,decide_eq_true_eq]at hl
   obtain⟨⟨⟨h2,h3⟩,h4⟩,h5⟩:=hl
   simp only[Ty.size]at hs
   obtain⟨z1,h6,h7⟩:=ih _ _ _ _ h4 h1
   obtain⟨z2,h8,h9⟩:=RZ ih (f'::r) (off+a.size) b xs' h5 (by omega) hr
   refine⟨(z1,z2),⟨?_, ?_⟩,h7,h9⟩
   ·rw[h2,h3]at h6;exact h6
   ·rw[List.drop_drop];exact h8
  |_=>cases hl
theorem Wj{a:Addr}{n:Nat}{cs:List Value}(hn:0<n)(h:w.cells? 0 a n=some cs):∃arr e fz,a.spot=none/\w.heap[a.block]?=some (.cells arr e fz)/\nS arr a.off n=cs:=by
 simp only[World.cells?,Nat.zero_le,if_true]at h
 have hlen:cs.length=n:=by simpa using mapM_some_length h
 have hget:∀i,i<n->w.cell? (a.add i)=cs[i]?:=fun i hi=>mapM_some_get h i i (by simp[hi])
 have h0:=hget 0 hn
 have hc0:∃c,cs[0]?=some c:=⟨cs[0],List.getElem?_eq_getElem (by omega)⟩
 obtain⟨c,hc⟩:=hc0
 rw[hc]at h0
 simp only[Addr.add,if_true,World.cell?]at h0
 split at h0
 ·rename_i arr e fz hh
  split at h0
  ·cases h0
  ·rename_i hsp
   have hsp':a.spot=none:=by simpa using hsp
   refine⟨arr,e,fz,hsp',hh, ?_⟩
   apply List.ext_getElem?
   intro i
   rw[uk]
   by_cases hi:i<n
   ·rw[if_pos hi,<-hget i hi]
    have hs:(a.add i).spot=none:=by
     simp only[Addr.add];split
     ·exact hsp'
     ·rfl
    have hb:(a.add i).block=a.block:=by simp only[Addr.add];split<;>rfl
    have ho:(a.add i).off=a.off+i:=by simp only[Addr.add];split<;>simp_all
    simp only[World.cell?,hb,hh,hs,ho,Option.isSome_none,Bool.false_eq_true,if_false,Array.getElem?_toList]
   ·rw[if_neg hi,List.getElem?_eq_none (by omega)]
 ·cases h0
theorem Yw{α:Type}{n:Nat}{Q:Nat->α->Prop}:(∀i,i<n->∃x,Q i x)->∃l:List α,l.length=n/\∀i x,l[i]?=some x->Q i x:=by
 induction n with
 |zero=>exact fun _=>⟨[],rfl,fun i x h=>by simp at h⟩
 |succ n ih=>
  intro h
  obtain⟨l,hl,hq⟩:=ih (fun i hi=>h i (by omega))
  obtain⟨x,hx⟩:=h n (by omega)
  refine⟨l++ [x],by simp[hl],fun i y hy=> ?_⟩
  by_cases hi:i<n
  ·rw[List.getElem?_append_left (by omega)]at hy;exact hq i y hy
  ·rw[List.getElem?_append_right (by omega)]at hy
   have:i=n:=by
    have:=(List.getElem?_eq_some_iff.1 hy).1
    simp at this;omega
   subst this
   simp[hl]at hy
   subst hy;exact hx
theorem open_row:∀(d fuel:Nat) (T:TypeId) (y:Ty) (cs:List Value) (x:DataW H×List MemPlace),CI P d T y=true->DataW.trod enc P w 0 spare held fuel T cs=some x->∃z,ER (Qv w) w y z cs/\y.wf z
 |0,_,_,_,_,_,h,_=>by cases h
 |d+1,fuel,T,y,cs,x,hl,h=>by
  unfold CI at hl
  split at hl
  ·rename_i k hu
   rw[decide_eq_true_eq]at hl
   subst hl
   obtain⟨n,rfl,_,hw⟩:=DataW.trod_int hu h
   exact⟨n,rfl,hw⟩
  ·rename_i hu
   rw[decide_eq_true_eq]at hl
   subst hl
   obtain⟨b,rfl,_⟩:=DataW.trod_bool hu h
   exact⟨b,rfl,trivial⟩
  ·rename_i hu
   rw[decide_eq_true_eq]at hl
   subst hl
   obtain⟨s,rfl,_,hs⟩:=DataW.trod_string hu h
   exact⟨s,rfl,hs⟩
  ·rename_i e hu
   split at hl
   ·rename_i y
    simp only[Bool.and_eq_true,decide_eq_true_eq]at hl
    obtain⟨⟨h1,h2⟩,h3⟩:=hl
    rcases DataW.trod_slice hu h with⟨rfl,_⟩|⟨a,len,cap,elems,rest,n,rfl,rfl,_,_,hlc,hcm,hel,hget,_,_⟩
    ·exact⟨([]:List y.T),⟨none,0,rfl,by simp, .inl rfl⟩,by simp,fun x hx=>(List.not_mem_nil hx).elim⟩
    ·by_cases h0:len=0
     ·subst h0
      exact⟨([]:List y.T),⟨_,cap,rfl,by simp, .inl rfl⟩,by simp,fun x hx=>(List.not_mem_nil hx).elim⟩
     ·rw[h1]at hget
      have each:∀i,i<len->∃c,w.cells? 0 (a.add (i*y.size)) y.size=some c/\∃z,ER (Qv w) w y z c/\y.wf z:=by
       intro i hi
       have hg:=hget i hi
       rw[List.getElem?_eq_getElem (by omega)]at hg
       cases hc:w.cells? 0 (a.add (i*y.size)) y.size with
       |none=>rw[hc]at hg;cases hg
       |some c=>
        rw[hc]at hg
        simp only[Option.bind_some]at hg
        exact⟨c,rfl,open_row d n e y c _ h3 hg⟩
      obtain⟨c0,hc0,_⟩:=each 0 (by omega)
      obtain⟨arr,e0,fz,hsp,hh,_⟩:=Wj h2 hc0
      simp only[Nat.zero_mul,Addr.add,if_true]at hsp hh
      obtain⟨l,hll,hlq⟩:=Yw (n:=len) (Q:=fun i z=>ER (Qv w) w y z (nS arr (a.off+i*y.size) y.size)/\y.wf z) (fun i hi=>by
       obtain⟨c,hc,z,hz,hw⟩:=each i hi
       obtain⟨arr',e',fz',hsp',hh',hs'⟩:=Wj h2 hc
       have hb:(a.add (i*y.size)).block=a.block:=by simp only[Addr.add];split<;>rfl
       have ho:(a.add (i*y.size)).off=a.off+i*y.size:=by simp only[Addr.add];split<;>simp_all
       rw[hb,hh]at hh'
       simp only[Option.some.injEq,Obj.cells.injEq]at hh'
       obtain⟨rfl,_,_⟩:=hh'
       rw[ho]at hs'
       exact⟨z,by rw[hs'];exact hz,hw⟩)
      have hae:a=⟨a.block,a.off,none⟩:=by cases a;simp at hsp;simp[hsp]
      refine⟨l,⟨some a,cap,by rw[hll],by rw[hll];exact hlc, .inr ⟨a.block,a.off,arr,e0,fz,by rw[<-hae],(Array.getElem?_eq_some_iff.1 hh).1,hh,fun i z hz=>(hlq i z hz).1⟩⟩,by rw[hll];omega,fun z hz=> ?_⟩
      obtain⟨i,hi⟩:=List.getElem?_of_mem hz
      exact(hlq i z hi).2
   ·cases hl
  ·rename_i fs hu
   simp only[Bool.and_eq_true,decide_eq_true_eq]at hl
   cases fuel with
   |zero=>simp[DataW.trod]at h
   |succ n=>
    unfold DataW.trod at h
    rw[hu]at h
    simp only at h
    split at h
    ·rename_i hlen
     rw[Option.map_eq_some_iff]at h
     obtain⟨xs,hxs,_⟩:=h
     have:=RZ (d:=d) (fuel:=n) (cs:=cs) (fun T y cs x h1 h2=>open_row d n T y cs x h1 h2) fs.toList 0 y xs hl.2 (by rw[Nat.zero_add,<-hl.1,hlen]) hxs
     simpa using this
    ·cases h
  ·cases hl
end
end Go.Vai
