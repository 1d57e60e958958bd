/- No conditions. -/
import Derived.Test.YtjkljnflaifbhaaGreatDoorVaiN
import Derived.Test.YtjkljnflaifbhaaGreatDoorVai16
namespace Go.Vai
open Go
inductive wq where
 |none
 |set (d:Nat) (a:AV)
 |alloc (d:Nat) (cs:List CV)
 |boxmod (b o:Nat) (new:List CV)
def wq.apply(e:wq)(st:St):Option St:=
 match e with
 | .none=>some st
 | .set d a=>st.put true d a some
 | .alloc d cs=>st.newBox d cs some
 | .boxmod b o new=>st.write true b o new some
section
variable {C:eo} {st st':St} {Q:Type}
theorem AA(d:Nat)(a:AV)(k:St->Option Q):st.put true d a k=(st.put true d a some).bind k:=by
 unfold St.put
 split<;>rfl
theorem MJ(d:Nat)(cs:List CV)(k:St->Option Q):st.newBox d cs k=(st.newBox d cs some).bind k:=by
 unfold St.newBox
 split
 ·split
  ·rfl
  ·split
   ·exact AA ..
   ·rfl
 ·rfl
theorem Ot(b o:Nat)(new:List CV)(k:St->Option Q):st.write true b o new k=(st.write true b o new some).bind k:=by
 unfold St.write
 repeat' split
 all_goals rfl
def lQ(o:Oper)(a:AV):wq:=
 match o.dst with
 |some d=>.set d a
 |none=>.none
def D0(C:eo)(T:TypeId)(a x:AV):Option wq:=
 match x with
 | .one v=>match mJ C.P T with
   |some n=>if v.cs.length=n then(match a with
    | .one ⟨false,[.ptr b o]⟩=>if v.cs.all CV.isVal then some (.boxmod b o v.cs)else none
    |_=>none)else none
   |none=>none
 | .tup _=>none
def zh(C:eo)(st:St)(o:Oper):Option wq:=
 match o.op with
 | .assign x=>match o.dst with
   |none=>none
   |some d=>match st.opdT C.P o.type x with
    | .one v=>if v.cs.all CV.isVal then some (.set d (.one v))else none
    | .tup _=>none
 | .store T a x=>match o.dst with
   |none=>D0 C T (st.opd a) (st.opdT C.P T x)
   |some _=>none
 | .alloc T=>match o.dst,LI C.P T with
   |some d,some t=>some (.alloc d t.fresh)
   |_,_=>none
 | .call c=>match c.callee with
   | .builtin .append=>match c.args.toList,c.argTypes.toList,o.dst with
     |[s,x],[T,T2],some d=>(JR C T T2 (st.opdT C.P T s) (st.opdT C.P T2 x) some).map (.set d)
     |_,_,_=>none
   |_=>(Eb C st o some).map (lQ o)
 |_=>(Eb C st o some).map (lQ o)
theorem DG(o:Oper)(k:St->Option Q):kA C true st o k=(((Eb C st o some).map (lQ o)).bind (·.apply st)).bind k:=by
 unfold kA
 rw[MX]
 cases Eb C st o some with
 |none=>rfl
 |some a=>
  simp only[Option.bind_some,Option.map_some,lQ]
  cases o.dst with
  |none=>rfl
  |some d=>exact AA ..
theorem Om(T:TypeId)(a x:AV)(k:St->Option Q):Ea C true st T a x k=((D0 C T a x).bind (·.apply st)).bind k:=by
 unfold Ea D0
 cases x with
 |tup l=>rfl
 |one v=>
  simp only
  cases mJ C.P T with
  |none=>rfl
  |some n=>
   simp only
   split
   ·split
    ·split
     ·exact Ot ..
     ·rfl
    ·rfl
    ·rename_i h1 h2
     split
     ·exact absurd rfl (h1 _ _)
     ·rfl
   ·rfl
theorem OS(T T2:TypeId)(s x:AV)(k:AV->Option Q):JR C T T2 s x k=(JR C T T2 s x some).bind k:=by
 unfold JR
 cases sE C.P T with
 |none=>rfl
 |some et=>
  obtain⟨e,t⟩:=et
  split
  ·rename_i e2 t2 u hh1 hh2
   cases hh1
   cases vG C.P e with
   |none=>rfl
   |some b=>
    cases uP t x with
    |none=>rfl
    |some new=>
     simp only
     split
     ·cases decide (new.length*b<=70368744177664)with
      |false=>rfl
      |true=>
       simp only[cond_true]
       cases decide (new.length<=70368744177664)<;>rfl
     ·rfl
  ·rfl
theorem LC{o:Oper}(hc:mM C o≠ .other)(k:St->Option Q):step C true st o k=((zh C st o).bind (·.apply st)).bind k:=by
 cases o with
 |mk dst op type pos after guard=>
  cases op with
  |assign x=>
   cases dst with
   |none=>rfl
   |some d=>
    simp only[step,zh,Gw]
    cases hx:st.opdT C.P type x with
    |tup l=>rfl
    |one v=>
     simp only
     split
     ·exact AA ..
     ·rfl
  |store T a x=>
   cases dst with
   |some d=>rfl
   |none=>
    exact Om ..
  |alloc T=>
   simp only[step,zh,JJ]
   cases dst with
   |none=>rfl
   |some d=>
    cases LI C.P T with
    |none=>rfl
    |some t=>exact MJ ..
  |box T x=>exact absurd rfl hc
  |call c=>
   obtain⟨callee,args,ats⟩:=c
   cases callee with
   |builtin b=>
    cases b with
    |append=>
     simp only[step,zh]
     split
     ·rename_i s x T T2 ha ht
      rw[ha,ht]
      cases dst with
      |none=>rfl
      |some d=>
       simp only
       rw[OS]
       cases JR C T T2 (st.opdT C.P T s) (st.opdT C.P T2 x) some with
       |none=>rfl
       |some v=>exact AA ..
     ·rename_i h1
      split
      ·rename_i ha ht
       exact absurd ht (h1 _ _ _ _ ha)
      ·rfl
    |clear=>exact absurd rfl hc
    |copy=>exact absurd rfl hc
    |_=>exact DG _ k
   |value f=>
    simp only[step]
    have go:(if O8 C f=true then CF C st ⟨dst, .call ⟨.value f,args,ats⟩,type,pos,after,guard⟩ (st.opd f) (st.argAVs C.P args.toList ats.toList) k
     else kA C true st ⟨dst, .call ⟨.value f,args,ats⟩,type,pos,after,guard⟩ k)=((zh C st ⟨dst, .call ⟨.value f,args,ats⟩,type,pos,after,guard⟩).bind (·.apply st)).bind k:=by
     split
     ·rename_i hio
      exact absurd (by simp[mM,hio]) hc
     ·exact DG _ k
    cases NW C (st.opd f)<;>exact go
   |invoke x n=>exact DG _ k
  |_=>exact DG _ k
def ug(st:St)(d:Nat):Option Bool:=
 match xQ d (st.get d)with
 | .one ⟨false,[.v (.bool b)]⟩=>some b
 |_=>none
theorem Oj{st:St}{d:Nat}{b:Bool}(he:xQ d (st.get d)= .one ⟨false,[.v (.bool b)]⟩):st.set d (.c (.v (.bool b)))=st:=by
 have hg':st.get d= .c (.v (.bool b)):=by
  cases hx:st.get d with
  |tup l=>rw[hx]at he;cases he
  |one x=>
   obtain⟨xa,xcs⟩:=x
   rw[hx]at he
   simp only[xQ,AV.one.injEq,Val.mk.injEq]at he
   obtain⟨rfl,hg⟩:=he
   match xcs,hg with
   |[c],hg=>
    simp only[je,List.cons.injEq,and_true]at hg
    cases c<;>simp only[Pd]at hg<;>first|cases hg|skip
    rfl
   |[],hg=>cases hg
   |_::_::_,hg=>simp[je]at hg
 simp only[St.set]
 rw[<-hg']
 simp only[St.get,List.getD_eq_getElem?_getD]
 by_cases hd:d<st.slots.length
 ·rw[List.getElem?_eq_getElem hd]
  simp only[Option.getD_some,List.set_getElem_self]
 ·rw[List.set_eq_of_length_le (Nat.le_of_not_lt hd)]
theorem Qy(d:Nat)(k:Bool->St->Option Q):st.test (.tmp d) k=(ug st d).bind fun b=>k b st:=by
 by_cases h:∃b,xQ d (st.get d)= .one ⟨false,[.v (.bool b)]⟩
 ·obtain⟨b,he⟩:=h
  have he':st.opd (.tmp d)= .one ⟨false,[.v (.bool b)]⟩:=he
  have:=Oj he
  unfold St.test ug
  rw[he,he']
  cases b
  ·simp only[cond_false,Option.bind_some,this]
  ·simp only[cond_true,Option.bind_some,this]
 ·have h1:ug st d=none:=by
   unfold ug
   split
   ·rename_i b he;exact absurd ⟨b,he⟩ h
   ·rfl
  rw[h1]
  unfold St.test
  split
  ·rename_i d' b hd he
   cases hd
   exact absurd ⟨b,he⟩ h
  ·rename_i hd;cases hd
  ·rfl
def B8(C:eo)(st:St)(o:Oper):Option wq:=
 match o.op,o.dst with
 | .buildSlice _ 0 _,some d=>(Eb C st o some).map fun _=>.set d (.c .emp)
 |_,_=>none
theorem Qg{o:Oper}(k:St->Option Q):Dg C st o k=((B8 C st o).bind (·.apply st)).bind k:=by
 cases o with
 |mk dst op type pos after guard=>
  cases op with
  |buildSlice T n ps=>
   cases dst with
   |none=>cases n<;>rfl
   |some d=>
    cases n with
    |succ n=>rfl
    |zero=>
     simp only[Dg,B8]
     rw[MX]
     cases Eb C st ⟨some d, .buildSlice T 0 ps,type,pos,after,guard⟩ some with
     |none=>rfl
     |some a=>exact AA ..
  |_=>rfl
def yJ(C:eo)(ops:Array Oper)(st:St)(o:Oper):Option wq:=
 match o.guard with
 |none=>match wE ops o with
  |true=>B8 C st o
  |false=>zh C st o
 |some (j,want)=>match(ops[j]?).bind (·.dst)with
  |some d=>match(st.get d).isSkip with
   |true=>some (lQ o .skip)
   |false=>(ug st d).bind fun b=>if b=want then zh C st o else some (lQ o .skip)
  |none=>none
def sy(C:eo)(ops:Array Oper)(o:Oper)(st:St):Option St:=(yJ C ops st o).bind (·.apply st)
theorem li{ops:Array Oper}{o:Oper}(hc:mM C o≠ .other)(k:St->Option Q):lg C true ops o st k=(sy C ops o st).bind k:=by
 unfold lg sy yJ
 cases o.guard with
 |none=>
  simp only[Bool.true_and]
  cases wE ops o with
  |true=>exact Qg k
  |false=>exact LC hc k
 |some p=>
  obtain⟨j,want⟩:=p
  simp only
  have pass:xk true o st k=((lQ o .skip).apply st).bind k:=by
   unfold xk lQ
   cases o.dst with
   |none=>rfl
   |some d=>exact AA ..
  cases(ops[j]?).bind (·.dst)with
  |none=>rfl
  |some d=>
   simp only
   cases(st.get d).isSkip with
   |true=>exact pass
   |false=>
    simp only[Qy]
    cases ug st d with
    |none=>rfl
    |some b=>
     simp only[Option.bind_some]
     split
     ·exact LC hc k
     ·exact pass
structure GO(ts:List Tmp)(st st':St):Prop where
 get:∀t,t∈ts->st'.get t=st.get t
def tY(st st':St):Prop:=∀b x,st.boxes.getD b none=some x->st'.boxes.getD b none=some x
def uR(o:Oper):List Tmp:=o.op.operands.toList.filterMap fun| .tmp t=>some t|_=>none
theorem GO.opd{o:Oper}(h:GO (uR o) st st'){x:Operand}(hx:x∈o.op.operands.toList):st'.opd x=st.opd x:=by
 cases x with
 |tmp t=>
  have:t∈uR o:=by
   simp only[uR,List.mem_filterMap]
   exact⟨_,hx,rfl⟩
  simp only[St.opd,h.get t this]
 |_=>rfl
theorem GO.opdT{o:Oper}(h:GO (uR o) st st'){x:Operand}(hx:x∈o.op.operands.toList)(P:Program)(T:TypeId):st'.opdT P T x=st.opdT P T x:=by
 cases x with
 |tmp t=>exact h.opd hx
 |_=>rfl
theorem JW(hb:tY st st'){c:CV}{r:Nat×List CV}(h:tx C st c=some r):tx C st' c=some r:=by
 cases c with
 |ptr b o=>
  simp only[tx]at h⊢
  split at h
  ·rename_i ro cs hg
   rw[hb b _ hg];exact h
  ·cases h
 |_=>exact h
theorem HX(hb:tY st st'){b o:Nat}{acc:List (List CV)}{r:(Nat×Nat)×List (List CV)}(h:HV st b o acc=some r):HV st' b o acc=some r:=by
 unfold HV at h⊢
 split at h
 ·rename_i ro cs hg
  rw[hb b _ hg];exact h
 ·cases h
theorem FD(hb:tY st st'):∀{caps:List (Nat×Nat)} {acc:List (List CV)} {r:List (Nat×Nat)×List (List CV)},zX st caps acc=some r->zX st' caps acc=some r
 |[],_,_,h=>h
 |(b,o)::l,acc,r,h=>by
  unfold zX at h⊢
  split at h
  ·rename_i x acc1 hx
   rw[HX hb hx]
   simp only
   split at h
   ·rename_i l' acc2 hl
    rw[FD hb hl];exact h
   ·cases h
  ·cases h
theorem AG(hb:tY st st'):∀{cs:List CV} {acc:List (List CV)} {r:List CV×List (List CV)},yV st cs acc=some r->yV st' cs acc=some r
 |[],_,_,h=>h
 |c::l,acc,r,h=>by
  have plain:(match yV st l acc with
   |some (l,acc)=>some (PG c::l,acc)
   |none=>none)=some r->(match yV st' l acc with
   |some (l,acc)=>some (PG c::l,acc)
   |none=>none)=some r:=by
   intro h
   split at h
   ·rename_i l' acc1 hl
    rw[AG hb hl];exact h
   ·cases h
  cases c with
  |ptr b o=>
   unfold yV at h⊢
   split at h
   ·rename_i b' o' acc1 hx
    rw[HX hb hx]
    simp only
    split at h
    ·rename_i l' acc2 hl
     rw[AG hb hl];exact h
    ·cases h
   ·cases h
  |fn f caps=>
   unfold yV at h⊢
   split at h
   ·rename_i caps' acc1 hx
    rw[FD hb hx]
    simp only
    split at h
    ·rename_i l' acc2 hl
     rw[AG hb hl];exact h
    ·cases h
   ·cases h
  |_=>exact plain h
theorem FE(hb:tY st st'):∀{as:List AV} {acc:List (List CV)} {r:List Val×List (List CV)},sS st as acc=some r->sS st' as acc=some r
 |[],_,_,h=>h
 | .tup _::_,_,_,h=>by simp[sS]at h
 | .one x::l,acc,r,h=>by
   unfold sS at h⊢
   split at h
   ·rename_i cs acc1 hx
    rw[AG hb hx]
    simp only
    split at h
    ·rename_i l' acc2 hl
     rw[FE hb hl];exact h
    ·cases h
   ·cases h
theorem Mb(hb:tY st st'){T:TypeId}{a:AV}{r:AV}(h:ze C st T a some=some r):ze C st' T a some=some r:=by
 unfold ze at h⊢
 split at h
 ·split at h
  ·rename_i o cs hc
   simp only[JW hb hc];exact h
  ·cases h
 ·cases h
theorem L6(hb:tY st st'){f:AV}{args:List AV}{r:AV}(h:CE C st f args some=some r):CE C st' f args some=some r:=by
 unfold CE at h⊢
 split at h
 ·split at h
  ·split at h
   ·split at h
    ·rename_i hc hio vs bs hr
     simp only[FE hb hr];exact h
    ·cases h
   ·cases h
  ·cases h
 ·cases h
theorem vE{o:Oper}(h:GO (uR o) st st')(P:Program):∀(l:List Operand) (ts:List TypeId),(∀x,x∈l->x∈o.op.operands.toList)->st'.argAVs P l ts=st.argAVs P l ts
 |[],_,_=>rfl
 |x::r,T::ts,hm=>by simp only[St.argAVs,h.opdT (hm x (by simp)),vE h P r ts (fun y hy=>hm y (by simp[hy]))]
 |x::r,[],hm=>by simp only[St.argAVs,h.opd (hm x (by simp)),vE h P r [] (fun y hy=>hm y (by simp[hy]))]
theorem KS{o:Oper}(h:GO (uR o) st st')(hb:oI o=true\/tY st st'){r:AV}(ha:Eb C st o some=some r):Eb C st' o some=some r:=by
 have hop:∀x,x∈o.op.operands.toList->st'.opd x=st.opd x:=fun x hx=>h.opd hx
 have hopT:∀P T x,x∈o.op.operands.toList->st'.opdT P T x=st.opdT P T x:=fun P T x hx=>h.opdT hx P T
 have hopE:∀P T x,x∈o.op.operands.toList->st'.eqOpd P T x=st.eqOpd P T x:=by
  intro P T x hx
  unfold St.eqOpd
  split
  ·rfl
  ·exact hopT P T x hx
 unfold Eb at ha⊢
 split at ha
 ·rename_i x ho;rw[hopT _ _ x (by simp[ho,Op.operands])];exact ha
 ·rename_i c x y ho;rw[hop c (by simp[ho,Op.operands]),hop x (by simp[ho,Op.operands]),hop y (by simp[ho,Op.operands])];exact ha
 ·rename_i t x ho
  rw[hop x (by simp[ho,Op.operands])]
  rcases hb with hb|hb
  ·simp[oI,ho]at hb
  ·exact Mb hb ha
 ·rename_i x ho;rw[hop x (by simp[ho,Op.operands])];exact ha
 ·rename_i op t x y e ho;rw[hopE _ _ x (by simp[ho,Op.operands]),hopE _ _ y (by simp[ho,Op.operands])];exact ha
 ·rename_i op e x ho;rw[hop x (by simp[ho,Op.operands])];exact ha
 ·rename_i s d x ho;rw[hop x (by simp[ho,Op.operands])];exact ha
 ·rename_i t x f ho;rw[hop x (by simp[ho,Op.operands])];exact ha
 ·rename_i t x f ho;rw[hop x (by simp[ho,Op.operands])];exact ha
 ·rename_i t x i ho;rw[hop x (by simp[ho,Op.operands]),hop i (by simp[ho,Op.operands])];exact ha
 ·rename_i t x i ho;rw[hop x (by simp[ho,Op.operands]),hop i (by simp[ho,Op.operands])];exact ha
 ·rename_i t x lo hi mx ho
  have e:∀y:Option Operand,(∀z,y=some z->z∈o.op.operands.toList)->y.map st'.opd=y.map st.opd:=by
   intro y hy
   cases y with
   |none=>rfl
   |some z=>simp only[Option.map_some,hop z (hy z rfl)]
  rw[hop x (by simp[ho,Op.operands]),e lo (fun z hz=>by subst hz;simp[ho,Op.operands]),e hi (fun z hz=>by subst hz;simp[ho,Op.operands]),e mx (fun z hz=>by subst hz;simp[ho,Op.operands])]
  exact ha
 ·rename_i t ps ho
  have:ps.toList.map (fun p=>(p.1,st'.opd p.2))=ps.toList.map (fun p=>(p.1,st.opd p.2)):=
   List.map_congr_left fun p hp=>by rw[hop p.2 (by simp only[ho,Op.operands];simp;exact⟨p.1,by simpa using hp⟩)]
  rw[this];exact ha
 ·rename_i t n ps ho
  have:ps.toList.map (fun p=>(p.1,st'.opd p.2))=ps.toList.map (fun p=>(p.1,st.opd p.2)):=
   List.map_congr_left fun p hp=>by rw[hop p.2 (by simp only[ho,Op.operands];simp;exact⟨p.1,by simpa using hp⟩)]
  rw[this];exact ha
 ·rename_i t n c ho;rw[hop n (by simp[ho,Op.operands]),hop c (by simp[ho,Op.operands])];exact ha
 ·rename_i x i ho;rw[hop x (by simp[ho,Op.operands])];exact ha
 ·rename_i f x y ho
  have e1:x.toList.map st'.opd=x.toList.map st.opd:=List.map_congr_left fun p hp=>hop p (by simp only[ho,Op.operands];simp;exact .inl (by simpa using hp))
  have e2:y.toList.map st'.opd=y.toList.map st.opd:=List.map_congr_left fun p hp=>hop p (by simp only[ho,Op.operands];simp;exact .inr (by simpa using hp))
  rw[e1,e2];exact ha
 ·rename_i c ho
  have hb:tY st st':=hb.resolve_left (by simp[oI,ho])
  split at ha
  ·rename_i f hc
   rw[hop f (by simp[ho,Op.operands,Call.operands,hc]),vE h C.P c.args.toList c.argTypes.toList (fun x hx=>by simp only[ho,Op.operands,Call.operands,hc];simp;exact .inr (by simpa using hx))]
   exact L6 hb ha
  ·rename_i hc
   split at ha
   ·rename_i x hx
    rw[hop x (by
     have:x∈c.args:=by
      have:x∈c.args.toList:=by rw[hx];simp
      simpa using this
     simp[ho,Op.operands,Call.operands,hc,this])]
    exact ha
   ·cases ha
  ·rename_i hc
   split at ha
   ·rename_i x hx
    rw[hop x (by
     have:x∈c.args:=by
      have:x∈c.args.toList:=by rw[hx];simp
      simpa using this
     simp[ho,Op.operands,Call.operands,hc,this])]
    exact ha
   ·cases ha
  ·rename_i hc
   have e1:c.args.toList.map st'.opd=c.args.toList.map st.opd:=List.map_congr_left fun p hp=>hop p (by simp only[ho,Op.operands,Call.operands,hc];simpa using hp)
   rw[e1];exact ha
  ·rename_i hc
   have e1:c.args.toList.map st'.opd=c.args.toList.map st.opd:=List.map_congr_left fun p hp=>hop p (by simp only[ho,Op.operands,Call.operands,hc];simpa using hp)
   rw[e1];exact ha
  ·cases ha
 ·cases ha
end
end Go.Vai
