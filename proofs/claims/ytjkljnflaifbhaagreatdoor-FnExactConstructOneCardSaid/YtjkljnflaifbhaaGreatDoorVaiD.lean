/- No conditions. -/
import Derived.Test.YtjkljnflaifbhaaGreatDoorVaiN
import Derived.Test.YtjkljnflaifbhaaGreatDoorVai16
namespace Go.Vai
open Go
inductive Es where
 |none
 |set (d:Nat) (a:AV)
 |alloc (d:Nat) (cs:List CV)
 |boxmod (b o:Nat) (new:List CV)
def Es.apply(e:Es)(st:St):Option St:=
 match e with
 | .none=>some st
 | .set d a=>st.put true d a some
 | .alloc d cs=>st.newBox d cs some
 | .boxmod b o new=>st.write true b o new some
section
variable {C:gA} {st st':St} {Q:Type}
theorem IZ(d:Nat)(a:AV)(k:St->Option Q):st.put true d a k=(st.put true d a some).bind k:=by
 unfold St.put
 split<;>rfl
theorem W0(d:Nat)(cs:List CV)(k:St->Option Q):st.newBox d cs k=(st.newBox d cs some).bind k:=by
 unfold St.newBox
 split
 ·split
  ·rfl
  ·split
   ·exact IZ ..
   ·rfl
 ·rfl
theorem YA(b o:Nat)(new:List CV)(k:St->Option Q):st.write true b o new k=(st.write true b o new some).bind k:=by
 unfold St.write
 repeat' split
 all_goals rfl
def rg(o:Oper)(a:AV):Es:=
 match o.dst with
 |some d=>.set d a
 |none=>.none
def M5(C:gA)(T:TypeId)(a x:AV):Option Es:=
 match x with
 | .one v=>match sp C.P T with
   |some n=>if v.cs.length=n then(match a with
    | .one ⟨false,[.ptr b o]⟩=>if v.cs.all CV.isVal then some (.boxmod b o v.cs)else none
    |_=>none)else none
   |none=>none
 | .tup _=>none
def Hx(C:gA)(st:St)(o:Oper):Option Es:=
 match o.op with
 | .assign x=>match o.dst with
   |none=>none
   |some d=>match st.opdT C.P o.type x with
    | .one v=>if v.cs.all CV.isVal then some (.set d (.one v))else none
    | .tup _=>none
 | .store T a x=>match o.dst with
   |none=>M5 C T (st.opd a) (st.opdT C.P T x)
   |some _=>none
 | .alloc T=>match o.dst,Wg C.P T with
   |some d,some t=>some (.alloc d t.fresh)
   |_,_=>none
 | .call c=>match c.callee with
   | .builtin .append=>match c.args.toList,c.argTypes.toList,o.dst with
     |[s,x],[T,T2],some d=>(Uh C T T2 (st.opdT C.P T s) (st.opdT C.P T2 x) some).map (.set d)
     |_,_,_=>none
   |_=>(Ng C st o some).map (rg o)
 |_=>(Ng C st o some).map (rg o)
theorem Mx(o:Oper)(k:St->Option Q):po C true st o k=(((Ng C st o some).map (rg o)).bind (·.apply st)).bind k:=by
 unfold po
 rw[Xh]
 cases Ng C st o some with
 |none=>rfl
 |some a=>
  simp only[Option.bind_some,Option.map_some,rg]
  cases o.dst with
  |none=>rfl
  |some d=>exact IZ ..
theorem Yu(T:TypeId)(a x:AV)(k:St->Option Q):Ne C true st T a x k=((M5 C T a x).bind (·.apply st)).bind k:=by
 unfold Ne M5
 cases x with
 |tup l=>rfl
 |one v=>
  simp only
  cases sp C.P T with
  |none=>rfl
  |some n=>
   simp only
   split
   ·split
    ·split
     ·exact YA ..
     ·rfl
    ·rfl
    ·rename_i h1 h2
     split
     ·exact absurd rfl (h1 _ _)
     ·rfl
   ·rfl
theorem YT(T T2:TypeId)(s x:AV)(k:AV->Option Q):Uh C T T2 s x k=(Uh C T T2 s x some).bind k:=by
 unfold Uh
 cases Al C.P T with
 |none=>rfl
 |some et=>
  obtain⟨e,t⟩:=et
  split
  ·rename_i e2 t2 u hh1 hh2
   cases hh1
   cases Dt C.P e with
   |none=>rfl
   |some b=>
    cases CO t x with
    |none=>rfl
    |some new=>
     simp only
     split
     ·cases decide (new.length*b<=70368744177664)with
      |false=>rfl
      |true=>
       simp only[cond_true]
       cases decide (new.length<=70368744177664)<;>rfl
     ·rfl
  ·rfl
theorem V9{o:Oper}(hc:sy C o≠ .other)(k:St->Option Q):step C true st o k=((Hx C st o).bind (·.apply st)).bind k:=by
 cases o with
 |mk dst op type pos after guard=>
  cases op with
  |assign x=>
   cases dst with
   |none=>rfl
   |some d=>
    simp only[step,Hx,Qr]
    cases hx:st.opdT C.P type x with
    |tup l=>rfl
    |one v=>
     simp only
     split
     ·exact IZ ..
     ·rfl
  |store T a x=>
   cases dst with
   |some d=>rfl
   |none=>
    exact Yu ..
  |alloc T=>
   simp only[step,Hx,T9]
   cases dst with
   |none=>rfl
   |some d=>
    cases Wg C.P T with
    |none=>rfl
    |some t=>exact W0 ..
  |box T x=>exact absurd rfl hc
  |call c=>
   obtain⟨callee,args,ats⟩:=c
   cases callee with
   |builtin b=>
    cases b with
    |append=>
     simp only[step,Hx]
     split
     ·rename_i s x T T2 ha ht
      rw[ha,ht]
      cases dst with
      |none=>rfl
      |some d=>
       simp only
       rw[YT]
       cases Uh C T T2 (st.opdT C.P T s) (st.opdT C.P T2 x) some with
       |none=>rfl
       |some v=>exact IZ ..
     ·rename_i h1
      split
      ·rename_i ha ht
       exact absurd ht (h1 _ _ _ _ ha)
      ·rfl
    |clear=>exact absurd rfl hc
    |copy=>exact absurd rfl hc
    |_=>exact Mx _ k
   |value f=>
    simp only[step]
    have go:(if Zg C f=true then Lp C st ⟨dst, .call ⟨.value f,args,ats⟩,type,pos,after,guard⟩ (st.opd f) (st.argAVs C.P args.toList ats.toList) k
     else po C true st ⟨dst, .call ⟨.value f,args,ats⟩,type,pos,after,guard⟩ k)=((Hx C st ⟨dst, .call ⟨.value f,args,ats⟩,type,pos,after,guard⟩).bind (·.apply st)).bind k:=by
     split
     ·rename_i hio
      exact absurd (by simp[sy,hio]) hc
     ·exact Mx _ k
    cases Ye C (st.opd f)<;>exact go
   |invoke x n=>exact Mx _ k
  |_=>exact Mx _ k
def BZ(st:St)(d:Nat):Option Bool:=
 match Gg d (st.get d)with
 | .one ⟨false,[.v (.bool b)]⟩=>some b
 |_=>none
theorem Yo{st:St}{d:Nat}{b:Bool}(he:Gg d (st.get d)= .one ⟨false,[.v (.bool b)]⟩):st.set d (.c (.v (.bool b)))=st:=by
 have hg':st.get d= .c (.v (.bool b)):=by
  cases hx:st.get d with
  |tup l=>rw[hx]at he;cases he
  |one x=>
   obtain⟨xa,xcs⟩:=x
   rw[hx]at he
   simp only[Gg,AV.one.injEq,Val.mk.injEq]at he
   obtain⟨rfl,hg⟩:=he
   match xcs,hg with
   |[c],hg=>
    simp only[mT,List.cons.injEq,and_true]at hg
    cases c<;>simp only[Zj]at hg<;>first|cases hg|skip
    rfl
   |[],hg=>cases hg
   |_::_::_,hg=>simp[mT]at hg
 simp only[St.set]
 rw[<-hg']
 simp only[St.get,List.getD_eq_getElem?_getD]
 by_cases hd:d<st.slots.length
 ·rw[List.getElem?_eq_getElem hd]
  simp only[Option.getD_some,List.set_getElem_self]
 ·rw[List.set_eq_of_length_le (Nat.le_of_not_lt hd)]
theorem aaO(d:Nat)(k:Bool->St->Option Q):st.test (.tmp d) k=(BZ st d).bind fun b=>k b st:=by
 by_cases h:∃b,Gg d (st.get d)= .one ⟨false,[.v (.bool b)]⟩
 ·obtain⟨b,he⟩:=h
  have he':st.opd (.tmp d)= .one ⟨false,[.v (.bool b)]⟩:=he
  have:=Yo he
  unfold St.test BZ
  rw[he,he']
  cases b
  ·simp only[cond_false,Option.bind_some,this]
  ·simp only[cond_true,Option.bind_some,this]
 ·have h1:BZ st d=none:=by
   unfold BZ
   split
   ·rename_i b he;exact absurd ⟨b,he⟩ h
   ·rfl
  rw[h1]
  unfold St.test
  split
  ·rename_i d' b hd he
   cases hd
   exact absurd ⟨b,he⟩ h
  ·rename_i hd;cases hd
  ·rfl
def Kv(C:gA)(st:St)(o:Oper):Option Es:=
 match o.op,o.dst with
 | .buildSlice _ 0 _,some d=>(Ng C st o some).map fun _=>.set d (.c .emp)
 |_,_=>none
theorem aar{o:Oper}(k:St->Option Q):L7 C st o k=((Kv C st o).bind (·.apply st)).bind k:=by
 cases o with
 |mk dst op type pos after guard=>
  cases op with
  |buildSlice T n ps=>
   cases dst with
   |none=>cases n<;>rfl
   |some d=>
    cases n with
    |succ n=>rfl
    |zero=>
     simp only[L7,Kv]
     rw[Xh]
     cases Ng C st ⟨some d, .buildSlice T 0 ps,type,pos,after,guard⟩ some with
     |none=>rfl
     |some a=>exact IZ ..
  |_=>rfl
def G3(C:gA)(ops:Array Oper)(st:St)(o:Oper):Option Es:=
 match o.guard with
 |none=>match EF ops o with
  |true=>Kv C st o
  |false=>Hx C st o
 |some (j,want)=>match(ops[j]?).bind (·.dst)with
  |some d=>match(st.get d).isSkip with
   |true=>some (rg o .skip)
   |false=>(BZ st d).bind fun b=>if b=want then Hx C st o else some (rg o .skip)
  |none=>none
def Ac(C:gA)(ops:Array Oper)(o:Oper)(st:St):Option St:=(G3 C ops st o).bind (·.apply st)
theorem qg{ops:Array Oper}{o:Oper}(hc:sy C o≠ .other)(k:St->Option Q):qf C true ops o st k=(Ac C ops o st).bind k:=by
 unfold qf Ac G3
 cases o.guard with
 |none=>
  simp only[Bool.true_and]
  cases EF ops o with
  |true=>exact aar k
  |false=>exact V9 hc k
 |some p=>
  obtain⟨j,want⟩:=p
  simp only
  have pass:FF true o st k=((rg o .skip).apply st).bind k:=by
   unfold FF rg
   cases o.dst with
   |none=>rfl
   |some d=>exact IZ ..
  cases(ops[j]?).bind (·.dst)with
  |none=>rfl
  |some d=>
   simp only
   cases(st.get d).isSkip with
   |true=>exact pass
   |false=>
    simp only[aaO]
    cases BZ st d with
    |none=>rfl
    |some b=>
     simp only[Option.bind_some]
     split
     ·exact V9 hc k
     ·exact pass
structure QO(ts:List Tmp)(st st':St):Prop where
 get:∀t,t∈ts->st'.get t=st.get t
def BQ(st st':St):Prop:=∀b x,st.boxes.getD b none=some x->st'.boxes.getD b none=some x
def CQ(o:Oper):List Tmp:=o.op.operands.toList.filterMap fun| .tmp t=>some t|_=>none
theorem QO.opd{o:Oper}(h:QO (CQ o) st st'){x:Operand}(hx:x∈o.op.operands.toList):st'.opd x=st.opd x:=by
 cases x with
 |tmp t=>
  have:t∈CQ o:=by
   simp only[CQ,List.mem_filterMap]
   exact⟨_,hx,rfl⟩
  simp only[St.opd,h.get t this]
 |_=>rfl
theorem QO.opdT{o:Oper}(h:QO (CQ o) st st'){x:Operand}(hx:x∈o.op.operands.toList)(P:Program)(T:TypeId):st'.opdT P T x=st.opdT P T x:=by
 cases x with
 |tmp t=>exact h.opd hx
 |_=>rfl
theorem Ul(hb:BQ st st'){c:CV}{r:Nat×List CV}(h:Bs C st c=some r):Bs C st' c=some r:=by
 cases c with
 |ptr b o=>
  simp only[Bs]at h⊢
  split at h
  ·rename_i ro cs hg
   rw[hb b _ hg];exact h
  ·cases h
 |_=>exact h
theorem Sa(hb:BQ st st'){b o:Nat}{acc:List (List CV)}{r:(Nat×Nat)×List (List CV)}(h:R9 st b o acc=some r):R9 st' b o acc=some r:=by
 unfold R9 at h⊢
 split at h
 ·rename_i ro cs hg
  rw[hb b _ hg];exact h
 ·cases h
theorem Pg(hb:BQ st st'):∀{caps:List (Nat×Nat)} {acc:List (List CV)} {r:List (Nat×Nat)×List (List CV)},Iq st caps acc=some r->Iq st' caps acc=some r
 |[],_,_,h=>h
 |(b,o)::l,acc,r,h=>by
  unfold Iq at h⊢
  split at h
  ·rename_i x acc1 hx
   rw[Sa hb hx]
   simp only
   split at h
   ·rename_i l' acc2 hl
    rw[Pg hb hl];exact h
   ·cases h
  ·cases h
theorem I1(hb:BQ st st'):∀{cs:List CV} {acc:List (List CV)} {r:List CV×List (List CV)},Hf st cs acc=some r->Hf st' cs acc=some r
 |[],_,_,h=>h
 |c::l,acc,r,h=>by
  have plain:(match Hf st l acc with
   |some (l,acc)=>some (ZK c::l,acc)
   |none=>none)=some r->(match Hf st' l acc with
   |some (l,acc)=>some (ZK c::l,acc)
   |none=>none)=some r:=by
   intro h
   split at h
   ·rename_i l' acc1 hl
    rw[I1 hb hl];exact h
   ·cases h
  cases c with
  |ptr b o=>
   unfold Hf at h⊢
   split at h
   ·rename_i b' o' acc1 hx
    rw[Sa hb hx]
    simp only
    split at h
    ·rename_i l' acc2 hl
     rw[I1 hb hl];exact h
    ·cases h
   ·cases h
  |fn f caps=>
   unfold Hf at h⊢
   split at h
   ·rename_i caps' acc1 hx
    rw[Pg hb hx]
    simp only
    split at h
    ·rename_i l' acc2 hl
     rw[I1 hb hl];exact h
    ·cases h
   ·cases h
  |_=>exact plain h
theorem Ph(hb:BQ st st'):∀{as:List AV} {acc:List (List CV)} {r:List Val×List (List CV)},Ax st as acc=some r->Ax st' as acc=some r
 |[],_,_,h=>h
 | .tup _::_,_,_,h=>by simp[Ax]at h
 | .one x::l,acc,r,h=>by
   unfold Ax at h⊢
   split at h
   ·rename_i cs acc1 hx
    rw[I1 hb hx]
    simp only
    split at h
    ·rename_i l' acc2 hl
     rw[Ph hb hl];exact h
    ·cases h
   ·cases h
theorem Wz(hb:BQ st st'){T:TypeId}{a:AV}{r:AV}(h:Hp C st T a some=some r):Hp C st' T a some=some r:=by
 unfold Hp at h⊢
 split at h
 ·split at h
  ·rename_i o cs hc
   simp only[Ul hb hc];exact h
  ·cases h
 ·cases h
theorem Wu(hb:BQ st st'){f:AV}{args:List AV}{r:AV}(h:Lo C st f args some=some r):Lo C st' f args some=some r:=by
 unfold Lo at h⊢
 split at h
 ·split at h
  ·split at h
   ·split at h
    ·rename_i hc hio vs bs hr
     simp only[Ph hb hr];exact h
    ·cases h
   ·cases h
  ·cases h
 ·cases h
theorem Dq{o:Oper}(h:QO (CQ o) st st')(P:Program):∀(l:List Operand) (ts:List TypeId),(∀x,x∈l->x∈o.op.operands.toList)->st'.argAVs P l ts=st.argAVs P l ts
 |[],_,_=>rfl
 |x::r,T::ts,hm=>by simp only[St.argAVs,h.opdT (hm x (by simp)),Dq h P r ts (fun y hy=>hm y (by simp[hy]))]
 |x::r,[],hm=>by simp only[St.argAVs,h.opd (hm x (by simp)),Dq h P r [] (fun y hy=>hm y (by simp[hy]))]
theorem Va{o:Oper}(h:QO (CQ o) st st')(hb:uZ o=true\/BQ st st'){r:AV}(ha:Ng C st o some=some r):Ng C st' o some=some r:=by
 have hop:∀x,x∈o.op.operands.toList->st'.opd x=st.opd x:=fun x hx=>h.opd hx
 have hopT:∀P T x,x∈o.op.operands.toList->st'.opdT P T x=st.opdT P T x:=fun P T x hx=>h.opdT hx P T
 have hopE:∀P T x,x∈o.op.operands.toList->st'.eqOpd P T x=st.eqOpd P T x:=by
  intro P T x hx
  unfold St.eqOpd
  split
  ·rfl
  ·exact hopT P T x hx
 unfold Ng at ha⊢
 split at ha
 ·rename_i x ho;rw[hopT _ _ x (by simp[ho,Op.operands])];exact ha
 ·rename_i c x y ho;rw[hop c (by simp[ho,Op.operands]),hop x (by simp[ho,Op.operands]),hop y (by simp[ho,Op.operands])];exact ha
 ·rename_i t x ho
  rw[hop x (by simp[ho,Op.operands])]
  rcases hb with hb|hb
  ·simp[uZ,ho]at hb
  ·exact Wz hb ha
 ·rename_i x ho;rw[hop x (by simp[ho,Op.operands])];exact ha
 ·rename_i op t x y e ho;rw[hopE _ _ x (by simp[ho,Op.operands]),hopE _ _ y (by simp[ho,Op.operands])];exact ha
 ·rename_i op e x ho;rw[hop x (by simp[ho,Op.operands])];exact ha
 ·rename_i s d x ho;rw[hop x (by simp[ho,Op.operands])];exact ha
 ·rename_i t x f ho;rw[hop x (by simp[ho,Op.operands])];exact ha
 ·rename_i t x f ho;rw[hop x (by simp[ho,Op.operands])];exact ha
 ·rename_i t x i ho;rw[hop x (by simp[ho,Op.operands]),hop i (by simp[ho,Op.operands])];exact ha
 ·rename_i t x i ho;rw[hop x (by simp[ho,Op.operands]),hop i (by simp[ho,Op.operands])];exact ha
 ·rename_i t x lo hi mx ho
  have e:∀y:Option Operand,(∀z,y=some z->z∈o.op.operands.toList)->y.map st'.opd=y.map st.opd:=by
   intro y hy
   cases y with
   |none=>rfl
   |some z=>simp only[Option.map_some,hop z (hy z rfl)]
  rw[hop x (by simp[ho,Op.operands]),e lo (fun z hz=>by subst hz;simp[ho,Op.operands]),e hi (fun z hz=>by subst hz;simp[ho,Op.operands]),e mx (fun z hz=>by subst hz;simp[ho,Op.operands])]
  exact ha
 ·rename_i t ps ho
  have:ps.toList.map (fun p=>(p.1,st'.opd p.2))=ps.toList.map (fun p=>(p.1,st.opd p.2)):=
   List.map_congr_left fun p hp=>by rw[hop p.2 (by simp only[ho,Op.operands];simp;exact⟨p.1,by simpa using hp⟩)]
  rw[this];exact ha
 ·rename_i t n ps ho
  have:ps.toList.map (fun p=>(p.1,st'.opd p.2))=ps.toList.map (fun p=>(p.1,st.opd p.2)):=
   List.map_congr_left fun p hp=>by rw[hop p.2 (by simp only[ho,Op.operands];simp;exact⟨p.1,by simpa using hp⟩)]
  rw[this];exact ha
 ·rename_i t n c ho;rw[hop n (by simp[ho,Op.operands]),hop c (by simp[ho,Op.operands])];exact ha
 ·rename_i x i ho;rw[hop x (by simp[ho,Op.operands])];exact ha
 ·rename_i f x y ho
  have e1:x.toList.map st'.opd=x.toList.map st.opd:=List.map_congr_left fun p hp=>hop p (by simp only[ho,Op.operands];simp;exact .inl (by simpa using hp))
  have e2:y.toList.map st'.opd=y.toList.map st.opd:=List.map_congr_left fun p hp=>hop p (by simp only[ho,Op.operands];simp;exact .inr (by simpa using hp))
  rw[e1,e2];exact ha
 ·rename_i c ho
  have hb:BQ st st':=hb.resolve_left (by simp[uZ,ho])
  split at ha
  ·rename_i f hc
   rw[hop f (by simp[ho,Op.operands,Call.operands,hc]),Dq h C.P c.args.toList c.argTypes.toList (fun x hx=>by simp only[ho,Op.operands,Call.operands,hc];simp;exact .inr (by simpa using hx))]
   exact Wu hb ha
  ·rename_i hc
   split at ha
   ·rename_i x hx
    rw[hop x (by
     have:x∈c.args:=by
      have:x∈c.args.toList:=by rw[hx];simp
      simpa using this
     simp[ho,Op.operands,Call.operands,hc,this])]
    exact ha
   ·cases ha
  ·rename_i hc
   split at ha
   ·rename_i x hx
    rw[hop x (by
     have:x∈c.args:=by
      have:x∈c.args.toList:=by rw[hx];simp
      simpa using this
     simp[ho,Op.operands,Call.operands,hc,this])]
    exact ha
   ·cases ha
  ·rename_i hc
   have e1:c.args.toList.map st'.opd=c.args.toList.map st.opd:=List.map_congr_left fun p hp=>hop p (by simp only[ho,Op.operands,Call.operands,hc];simpa using hp)
   rw[e1];exact ha
  ·rename_i hc
   have e1:c.args.toList.map st'.opd=c.args.toList.map st.opd:=List.map_congr_left fun p hp=>hop p (by simp only[ho,Op.operands,Call.operands,hc];simpa using hp)
   rw[e1];exact ha
  ·cases ha
 ·cases ha
end
end Go.Vai
