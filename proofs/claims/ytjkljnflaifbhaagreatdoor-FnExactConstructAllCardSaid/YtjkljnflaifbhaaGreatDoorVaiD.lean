/- No conditions. -/
import Derived.Test.YtjkljnflaifbhaaGreatDoorVaiN
import Derived.Test.YtjkljnflaifbhaaGreatDoorVai16
namespace Go.Vai
open Go
inductive Gg where
 |none
 |set (d:Nat) (a:AV)
 |alloc (d:Nat) (cs:List CV)
 |boxmod (b o:Nat) (new:List CV)
def Gg.apply(e:Gg)(st:St):Option St:=
 match e with
 | .none=>some st
 | .set d a=>st.put true d a some
 | .alloc d cs=>st.newBox d cs some
 | .boxmod b o new=>st.write true b o new some
section
variable {C:gY} {st st':St} {Q:Type}
theorem Lw(d:Nat)(a:AV)(k:St->Option Q):st.put true d a k=(st.put true d a some).bind k:=by
 unfold St.put
 split<;>rfl
theorem aab(d:Nat)(cs:List CV)(k:St->Option Q):st.newBox d cs k=(st.newBox d cs some).bind k:=by
 unfold St.newBox
 split
 ·split
  ·rfl
  ·split
   ·exact Lw ..
   ·rfl
 ·rfl
theorem abQ(b o:Nat)(new:List CV)(k:St->Option Q):st.write true b o new k=(st.write true b o new some).bind k:=by
 unfold St.write
 repeat' split
 all_goals rfl
def sI(o:Oper)(a:AV):Gg:=
 match o.dst with
 |some d=>.set d a
 |none=>.none
def PZ(C:gY)(T:TypeId)(a x:AV):Option Gg:=
 match x with
 | .one v=>match sK C.P T with
   |some n=>if v.cs.length=n then(match a with
    | .one ⟨false,[.ptr b o]⟩=>if v.cs.all CV.isVal then some (.boxmod b o v.cs)else none
    |_=>none)else none
   |none=>none
 | .tup _=>none
def JU(C:gY)(st:St)(o:Oper):Option Gg:=
 match o.op with
 | .assign x=>match o.dst with
   |none=>none
   |some d=>match st.opdT C.P o.type x with
    | .one v=>if v.cs.all CV.isVal then some (.set d (.one v))else none
    | .tup _=>none
 | .store T a x=>match o.dst with
   |none=>PZ C T (st.opd a) (st.opdT C.P T x)
   |some _=>none
 | .alloc T=>match o.dst,Zs C.P T with
   |some d,some t=>some (.alloc d t.fresh)
   |_,_=>none
 | .call c=>match c.callee with
   | .builtin .append=>match c.args.toList,c.argTypes.toList,o.dst with
     |[s,x],[T,T2],some d=>(Xi C T T2 (st.opdT C.P T s) (st.opdT C.P T2 x) some).map (.set d)
     |_,_,_=>none
   |_=>(Qh C st o some).map (sI o)
 |_=>(Qh C st o some).map (sI o)
theorem Po(o:Oper)(k:St->Option Q):qq C true st o k=(((Qh C st o some).map (sI o)).bind (·.apply st)).bind k:=by
 unfold qq
 rw[aas]
 cases Qh C st o some with
 |none=>rfl
 |some a=>
  simp only[Option.bind_some,Option.map_some,sI]
  cases o.dst with
  |none=>rfl
  |some d=>exact Lw ..
theorem abK(T:TypeId)(a x:AV)(k:St->Option Q):Qg C true st T a x k=((PZ C T a x).bind (·.apply st)).bind k:=by
 unfold Qg PZ
 cases x with
 |tup l=>rfl
 |one v=>
  simp only
  cases sK C.P T with
  |none=>rfl
  |some n=>
   simp only
   split
   ·split
    ·split
     ·exact abQ ..
     ·rfl
    ·rfl
    ·rename_i h1 h2
     split
     ·exact absurd rfl (h1 _ _)
     ·rfl
   ·rfl
theorem ab9(T T2:TypeId)(s x:AV)(k:AV->Option Q):Xi C T T2 s x k=(Xi C T T2 s x some).bind k:=by
 unfold Xi
 cases B2 C.P T with
 |none=>rfl
 |some et=>
  obtain⟨e,t⟩:=et
  split
  ·rename_i e2 t2 u hh1 hh2
   cases hh1
   cases E6 C.P e with
   |none=>rfl
   |some b=>
    cases Es t x with
    |none=>rfl
    |some new=>
     simp only
     split
     ·cases decide (new.length*b<=70368744177664)with
      |false=>rfl
      |true=>
       simp only[cond_true]
       cases decide (new.length<=70368744177664)<;>rfl
     ·rfl
  ·rfl
theorem Zn{o:Oper}(hc:tW C o≠ .other)(k:St->Option Q):step C true st o k=((JU C st o).bind (·.apply st)).bind k:=by
 cases o with
 |mk dst op type pos after guard=>
  cases op with
  |assign x=>
   cases dst with
   |none=>rfl
   |some d=>
    simp only[step,JU,Tv]
    cases hx:st.opdT C.P type x with
    |tup l=>rfl
    |one v=>
     simp only
     split
     ·exact Lw ..
     ·rfl
  |store T a x=>
   cases dst with
   |some d=>rfl
   |none=>
    exact abK ..
  |alloc T=>
   simp only[step,JU,Xa]
   cases dst with
   |none=>rfl
   |some d=>
    cases Zs C.P T with
    |none=>rfl
    |some t=>exact aab ..
  |box T x=>exact absurd rfl hc
  |call c=>
   obtain⟨callee,args,ats⟩:=c
   cases callee with
   |builtin b=>
    cases b with
    |append=>
     simp only[step,JU]
     split
     ·rename_i s x T T2 ha ht
      rw[ha,ht]
      cases dst with
      |none=>rfl
      |some d=>
       simp only
       rw[ab9]
       cases Xi C T T2 (st.opdT C.P T s) (st.opdT C.P T2 x) some with
       |none=>rfl
       |some v=>exact Lw ..
     ·rename_i h1
      split
      ·rename_i ha ht
       exact absurd ht (h1 _ _ _ _ ha)
      ·rfl
    |clear=>exact absurd rfl hc
    |copy=>exact absurd rfl hc
    |_=>exact Po _ k
   |value f=>
    simp only[step]
    have go:(if acy C f=true then Of C st ⟨dst, .call ⟨.value f,args,ats⟩,type,pos,after,guard⟩ (st.opd f) (st.argAVs C.P args.toList ats.toList) k
     else qq C true st ⟨dst, .call ⟨.value f,args,ats⟩,type,pos,after,guard⟩ k)=((JU C st ⟨dst, .call ⟨.value f,args,ats⟩,type,pos,after,guard⟩).bind (·.apply st)).bind k:=by
     split
     ·rename_i hio
      exact absurd (by simp[tW,hio]) hc
     ·exact Po _ k
    cases abu C (st.opd f)<;>exact go
   |invoke x n=>exact Po _ k
  |_=>exact Po _ k
def Dz(st:St)(d:Nat):Option Bool:=
 match Ix d (st.get d)with
 | .one ⟨false,[.v (.bool b)]⟩=>some b
 |_=>none
theorem abE{st:St}{d:Nat}{b:Bool}(he:Ix d (st.get d)= .one ⟨false,[.v (.bool b)]⟩):st.set d (.c (.v (.bool b)))=st:=by
 have hg':st.get d= .c (.v (.bool b)):=by
  cases hx:st.get d with
  |tup l=>rw[hx]at he;cases he
  |one x=>
   obtain⟨xa,xcs⟩:=x
   rw[hx]at he
   simp only[Ix,AV.one.injEq,Val.mk.injEq]at he
   obtain⟨rfl,hg⟩:=he
   match xcs,hg with
   |[c],hg=>
    simp only[pP,List.cons.injEq,and_true]at hg
    cases c<;>simp only[adI]at hg<;>first|cases hg|skip
    rfl
   |[],hg=>cases hg
   |_::_::_,hg=>simp[pP]at hg
 simp only[St.set]
 rw[<-hg']
 simp only[St.get,List.getD_eq_getElem?_getD]
 by_cases hd:d<st.slots.length
 ·rw[List.getElem?_eq_getElem hd]
  simp only[Option.getD_some,List.set_getElem_self]
 ·rw[List.set_eq_of_length_le (Nat.le_of_not_lt hd)]
theorem ad8(d:Nat)(k:Bool->St->Option Q):st.test (.tmp d) k=(Dz st d).bind fun b=>k b st:=by
 by_cases h:∃b,Ix d (st.get d)= .one ⟨false,[.v (.bool b)]⟩
 ·obtain⟨b,he⟩:=h
  have he':st.opd (.tmp d)= .one ⟨false,[.v (.bool b)]⟩:=he
  have:=abE he
  unfold St.test Dz
  rw[he,he']
  cases b
  ·simp only[cond_false,Option.bind_some,this]
  ·simp only[cond_true,Option.bind_some,this]
 ·have h1:Dz st d=none:=by
   unfold Dz
   split
   ·rename_i b he;exact absurd ⟨b,he⟩ h
   ·rfl
  rw[h1]
  unfold St.test
  split
  ·rename_i d' b hd he
   cases hd
   exact absurd ⟨b,he⟩ h
  ·rename_i hd;cases hd
  ·rfl
def Nh(C:gY)(st:St)(o:Oper):Option Gg:=
 match o.op,o.dst with
 | .buildSlice _ 0 _,some d=>(Qh C st o some).map fun _=>.set d (.c .emp)
 |_,_=>none
theorem adJ{o:Oper}(k:St->Option Q):OU C st o k=((Nh C st o).bind (·.apply st)).bind k:=by
 cases o with
 |mk dst op type pos after guard=>
  cases op with
  |buildSlice T n ps=>
   cases dst with
   |none=>cases n<;>rfl
   |some d=>
    cases n with
    |succ n=>rfl
    |zero=>
     simp only[OU,Nh]
     rw[aas]
     cases Qh C st ⟨some d, .buildSlice T 0 ps,type,pos,after,guard⟩ some with
     |none=>rfl
     |some a=>exact Lw ..
  |_=>rfl
def Jp(C:gY)(ops:Array Oper)(st:St)(o:Oper):Option Gg:=
 match o.guard with
 |none=>match Gv ops o with
  |true=>Nh C st o
  |false=>JU C st o
 |some (j,want)=>match(ops[j]?).bind (·.dst)with
  |some d=>match(st.get d).isSkip with
   |true=>some (sI o .skip)
   |false=>(Dz st d).bind fun b=>if b=want then JU C st o else some (sI o .skip)
  |none=>none
def BR(C:gY)(ops:Array Oper)(o:Oper)(st:St):Option St:=(Jp C ops st o).bind (·.apply st)
theorem rz{ops:Array Oper}{o:Oper}(hc:tW C o≠ .other)(k:St->Option Q):ry C true ops o st k=(BR C ops o st).bind k:=by
 unfold ry BR Jp
 cases o.guard with
 |none=>
  simp only[Bool.true_and]
  cases Gv ops o with
  |true=>exact adJ k
  |false=>exact Zn hc k
 |some p=>
  obtain⟨j,want⟩:=p
  simp only
  have pass:HJ true o st k=((sI o .skip).apply st).bind k:=by
   unfold HJ sI
   cases o.dst with
   |none=>rfl
   |some d=>exact Lw ..
  cases(ops[j]?).bind (·.dst)with
  |none=>rfl
  |some d=>
   simp only
   cases(st.get d).isSkip with
   |true=>exact pass
   |false=>
    simp only[ad8]
    cases Dz st d with
    |none=>rfl
    |some b=>
     simp only[Option.bind_some]
     split
     ·exact Zn hc k
     ·exact pass
structure TR(ts:List Tmp)(st st':St):Prop where
 get:∀t,t∈ts->st'.get t=st.get t
def Ds(st st':St):Prop:=∀b x,st.boxes.getD b none=some x->st'.boxes.getD b none=some x
def Eu(o:Oper):List Tmp:=o.op.operands.toList.filterMap fun| .tmp t=>some t|_=>none
theorem TR.opd{o:Oper}(h:TR (Eu o) st st'){x:Operand}(hx:x∈o.op.operands.toList):st'.opd x=st.opd x:=by
 cases x with
 |tmp t=>
  have:t∈Eu o:=by
   simp only[Eu,List.mem_filterMap]
   exact⟨_,hx,rfl⟩
  simp only[St.opd,h.get t this]
 |_=>rfl
theorem TR.opdT{o:Oper}(h:TR (Eu o) st st'){x:Operand}(hx:x∈o.op.operands.toList)(P:Program)(T:TypeId):st'.opdT P T x=st.opdT P T x:=by
 cases x with
 |tmp t=>exact h.opd hx
 |_=>rfl
theorem Xm(hb:Ds st st'){c:CV}{r:Nat×List CV}(h:C5 C st c=some r):C5 C st' c=some r:=by
 cases c with
 |ptr b o=>
  simp only[C5]at h⊢
  split at h
  ·rename_i ro cs hg
   rw[hb b _ hg];exact h
  ·cases h
 |_=>exact h
theorem Vc(hb:Ds st st'){b o:Nat}{acc:List (List CV)}{r:(Nat×Nat)×List (List CV)}(h:Vb st b o acc=some r):Vb st' b o acc=some r:=by
 unfold Vb at h⊢
 split at h
 ·rename_i ro cs hg
  rw[hb b _ hg];exact h
 ·cases h
theorem R9(hb:Ds st st'):∀{caps:List (Nat×Nat)} {acc:List (List CV)} {r:List (Nat×Nat)×List (List CV)},KM st caps acc=some r->KM st' caps acc=some r
 |[],_,_,h=>h
 |(b,o)::l,acc,r,h=>by
  unfold KM at h⊢
  split at h
  ·rename_i x acc1 hx
   rw[Vc hb hx]
   simp only
   split at h
   ·rename_i l' acc2 hl
    rw[R9 hb hl];exact h
   ·cases h
  ·cases h
theorem Lx(hb:Ds st st'):∀{cs:List CV} {acc:List (List CV)} {r:List CV×List (List CV)},JD st cs acc=some r->JD st' cs acc=some r
 |[],_,_,h=>h
 |c::l,acc,r,h=>by
  have plain:(match JD st l acc with
   |some (l,acc)=>some (roc c::l,acc)
   |none=>none)=some r->(match JD st' l acc with
   |some (l,acc)=>some (roc c::l,acc)
   |none=>none)=some r:=by
   intro h
   split at h
   ·rename_i l' acc1 hl
    rw[Lx hb hl];exact h
   ·cases h
  cases c with
  |ptr b o=>
   unfold JD at h⊢
   split at h
   ·rename_i b' o' acc1 hx
    rw[Vc hb hx]
    simp only
    split at h
    ·rename_i l' acc2 hl
     rw[Lx hb hl];exact h
    ·cases h
   ·cases h
  |fn f caps=>
   unfold JD at h⊢
   split at h
   ·rename_i caps' acc1 hx
    rw[R9 hb hx]
    simp only
    split at h
    ·rename_i l' acc2 hl
     rw[Lx hb hl];exact h
    ·cases h
   ·cases h
  |_=>exact plain h
theorem Sa(hb:Ds st st'):∀{as:List AV} {acc:List (List CV)} {r:List Val×List (List CV)},Cc st as acc=some r->Cc st' as acc=some r
 |[],_,_,h=>h
 | .tup _::_,_,_,h=>by simp[Cc]at h
 | .one x::l,acc,r,h=>by
   unfold Cc at h⊢
   split at h
   ·rename_i cs acc1 hx
    rw[Lx hb hx]
    simp only
    split at h
    ·rename_i l' acc2 hl
     rw[Sa hb hl];exact h
    ·cases h
   ·cases h
theorem ZL(hb:Ds st st'){T:TypeId}{a:AV}{r:AV}(h:JL C st T a some=some r):JL C st' T a some=some r:=by
 unfold JL at h⊢
 split at h
 ·split at h
  ·rename_i o cs hc
   simp only[Xm hb hc];exact h
  ·cases h
 ·cases h
theorem ZG(hb:Ds st st'){f:AV}{args:List AV}{r:AV}(h:Oe C st f args some=some r):Oe C st' f args some=some r:=by
 unfold Oe at h⊢
 split at h
 ·split at h
  ·split at h
   ·split at h
    ·rename_i hc hio vs bs hr
     simp only[Sa hb hr];exact h
    ·cases h
   ·cases h
  ·cases h
 ·cases h
theorem E4{o:Oper}(h:TR (Eu o) st st')(P:Program):∀(l:List Operand) (ts:List TypeId),(∀x,x∈l->x∈o.op.operands.toList)->st'.argAVs P l ts=st.argAVs P l ts
 |[],_,_=>rfl
 |x::r,T::ts,hm=>by simp only[St.argAVs,h.opdT (hm x (by simp)),E4 h P r ts (fun y hy=>hm y (by simp[hy]))]
 |x::r,[],hm=>by simp only[St.argAVs,h.opd (hm x (by simp)),E4 h P r [] (fun y hy=>hm y (by simp[hy]))]
theorem Ym{o:Oper}(h:TR (Eu o) st st')(hb:wZ o=true\/Ds st st'){r:AV}(ha:Qh C st o some=some r):Qh C st' o some=some r:=by
 have hop:∀x,x∈o.op.operands.toList->st'.opd x=st.opd x:=fun x hx=>h.opd hx
 have hopT:∀P T x,x∈o.op.operands.toList->st'.opdT P T x=st.opdT P T x:=fun P T x hx=>h.opdT hx P T
 have hopE:∀P T x,x∈o.op.operands.toList->st'.eqOpd P T x=st.eqOpd P T x:=by
  intro P T x hx
  unfold St.eqOpd
  split
  ·rfl
  ·exact hopT P T x hx
 unfold Qh at ha⊢
 split at ha
 ·rename_i x ho;rw[hopT _ _ x (by simp[ho,Op.operands])];exact ha
 ·rename_i c x y ho;rw[hop c (by simp[ho,Op.operands]),hop x (by simp[ho,Op.operands]),hop y (by simp[ho,Op.operands])];exact ha
 ·rename_i t x ho
  rw[hop x (by simp[ho,Op.operands])]
  rcases hb with hb|hb
  ·simp[wZ,ho]at hb
  ·exact ZL hb ha
 ·rename_i x ho;rw[hop x (by simp[ho,Op.operands])];exact ha
 ·rename_i op t x y e ho;rw[hopE _ _ x (by simp[ho,Op.operands]),hopE _ _ y (by simp[ho,Op.operands])];exact ha
 ·rename_i op e x ho;rw[hop x (by simp[ho,Op.operands])];exact ha
 ·rename_i s d x ho;rw[hop x (by simp[ho,Op.operands])];exact ha
 ·rename_i t x f ho;rw[hop x (by simp[ho,Op.operands])];exact ha
 ·rename_i t x f ho;rw[hop x (by simp[ho,Op.operands])];exact ha
 ·rename_i t x i ho;rw[hop x (by simp[ho,Op.operands]),hop i (by simp[ho,Op.operands])];exact ha
 ·rename_i t x i ho;rw[hop x (by simp[ho,Op.operands]),hop i (by simp[ho,Op.operands])];exact ha
 ·rename_i t x lo hi mx ho
  have e:∀y:Option Operand,(∀z,y=some z->z∈o.op.operands.toList)->y.map st'.opd=y.map st.opd:=by
   intro y hy
   cases y with
   |none=>rfl
   |some z=>simp only[Option.map_some,hop z (hy z rfl)]
  rw[hop x (by simp[ho,Op.operands]),e lo (fun z hz=>by subst hz;simp[ho,Op.operands]),e hi (fun z hz=>by subst hz;simp[ho,Op.operands]),e mx (fun z hz=>by subst hz;simp[ho,Op.operands])]
  exact ha
 ·rename_i t ps ho
  have:ps.toList.map (fun p=>(p.1,st'.opd p.2))=ps.toList.map (fun p=>(p.1,st.opd p.2)):=
   List.map_congr_left fun p hp=>by rw[hop p.2 (by simp only[ho,Op.operands];simp;exact⟨p.1,by simpa using hp⟩)]
  rw[this];exact ha
 ·rename_i t n ps ho
  have:ps.toList.map (fun p=>(p.1,st'.opd p.2))=ps.toList.map (fun p=>(p.1,st.opd p.2)):=
   List.map_congr_left fun p hp=>by rw[hop p.2 (by simp only[ho,Op.operands];simp;exact⟨p.1,by simpa using hp⟩)]
  rw[this];exact ha
 ·rename_i t n c ho;rw[hop n (by simp[ho,Op.operands]),hop c (by simp[ho,Op.operands])];exact ha
 ·rename_i x i ho;rw[hop x (by simp[ho,Op.operands])];exact ha
 ·rename_i f x y ho
  have e1:x.toList.map st'.opd=x.toList.map st.opd:=List.map_congr_left fun p hp=>hop p (by simp only[ho,Op.operands];simp;exact .inl (by simpa using hp))
  have e2:y.toList.map st'.opd=y.toList.map st.opd:=List.map_congr_left fun p hp=>hop p (by simp only[ho,Op.operands];simp;exact .inr (by simpa using hp))
  rw[e1,e2];exact ha
 ·rename_i c ho
  have hb:Ds st st':=hb.resolve_left (by simp[wZ,ho])
  split at ha
  ·rename_i f hc
   rw[hop f (by simp[ho,Op.operands,Call.operands,hc]),E4 h C.P c.args.toList c.argTypes.toList (fun x hx=>by simp only[ho,Op.operands,Call.operands,hc];simp;exact .inr (by simpa using hx))]
   exact ZG hb ha
  ·rename_i hc
   split at ha
   ·rename_i x hx
    rw[hop x (by
     have:x∈c.args:=by
      have:x∈c.args.toList:=by rw[hx];simp
      simpa using this
     simp[ho,Op.operands,Call.operands,hc,this])]
    exact ha
   ·cases ha
  ·rename_i hc
   split at ha
   ·rename_i x hx
    rw[hop x (by
     have:x∈c.args:=by
      have:x∈c.args.toList:=by rw[hx];simp
      simpa using this
     simp[ho,Op.operands,Call.operands,hc,this])]
    exact ha
   ·cases ha
  ·rename_i hc
   have e1:c.args.toList.map st'.opd=c.args.toList.map st.opd:=List.map_congr_left fun p hp=>hop p (by simp only[ho,Op.operands,Call.operands,hc];simpa using hp)
   rw[e1];exact ha
  ·rename_i hc
   have e1:c.args.toList.map st'.opd=c.args.toList.map st.opd:=List.map_congr_left fun p hp=>hop p (by simp only[ho,Op.operands,Call.operands,hc];simpa using hp)
   rw[e1];exact ha
  ·cases ha
 ·cases ha
end
end Go.Vai
