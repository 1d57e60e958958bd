/- No conditions. -/
import Derived.Test.YtjkljnflaifbhaaGreatDoorVaiD
import Derived.Orders
namespace Go.Vai
open Go
section
variable {C:gY} {st st':St} {Q:Type}
theorem LA(ops:Array Oper)(o:Oper):wH ops o=Eu o++(match o.guard with|some (j,_)=>((ops[j]?).bind (·.dst)).toList|none=>[]):=rfl
theorem Wk{o:Oper}(hc:tW C o≠ .other)(h:TR (Eu o) st st')(hb:wZ o=true\/tW C o≠ .pure\/Ds st st'){e:Gg}(he:JU C st o=some e):JU C st' o=some e:=by
 have dflt:tW C o= .pure->(Qh C st o some).map (sI o)=some e->(Qh C st' o some).map (sI o)=some e:=by
  intro hp he
  have hb:wZ o=true\/Ds st st':=by
   rcases hb with h|h|h
   ·exact .inl h
   ·exact absurd hp h
   ·exact .inr h
  cases ha:Qh C st o some with
  |none=>rw[ha]at he;cases he
  |some v=>rw[ha]at he;rw[Ym h hb ha];exact he
 cases o with
 |mk dst op type pos after guard=>
  cases op with
  |assign x=>
   have e1:=h.opdT (x:=x) (by simp[Op.operands]) C.P type
   simp only[JU]at he⊢
   rw[e1];exact he
  |store T a x=>
   have e1:=h.opdT (x:=x) (by simp[Op.operands]) C.P T
   have e2:=h.opd (x:=a) (by simp[Op.operands])
   simp only[JU]at he⊢
   rw[e1,e2];exact he
  |alloc T=>exact he
  |box T x=>exact absurd rfl hc
  |call c=>
   obtain⟨callee,args,ats⟩:=c
   cases callee with
   |builtin b=>
    cases b with
    |append=>
     simp only[JU]at he⊢
     split at he
     ·rename_i s x T T2 d ha ht
      have ha':args= #[s,x]:=by apply Array.ext';simpa using ha
      have e1:=h.opdT (x:=s) (by simp[Op.operands,Call.operands,ha']) C.P T
      have e2:=h.opdT (x:=x) (by simp[Op.operands,Call.operands,ha']) C.P T2
      rw[e1,e2];exact he
     ·cases he
    |_=>first
     |exact absurd rfl hc
     |exact dflt rfl he
   |value f=>
    refine dflt ?_ he
    simp only[tW]at hc⊢
    split
    ·rename_i hio;rw[if_pos hio]at hc;exact absurd rfl hc
    ·rfl
   |invoke x n=>exact absurd rfl hc
  |_=>exact dflt rfl he
theorem acC{ops:Array Oper}{o:Oper}(h:Gv ops o=true):tW C o= .pure:=by
 unfold Gv at h
 unfold tW
 split at h
 ·rename_i ho _;rw[ho]
 ·cases h
theorem Y0{ops:Array Oper}{o:Oper}(hl:Gv ops o=true)(h:TR (Eu o) st st')(hb:wZ o=true\/tW C o≠ .pure\/Ds st st'){e:Gg}(he:Nh C st o=some e):Nh C st' o=some e:=by
 have hb:wZ o=true\/Ds st st':=by
  rcases hb with h|h|h
  ·exact .inl h
  ·exact absurd (acC hl) h
  ·exact .inr h
 unfold Nh at he⊢
 split at he
 ·rename_i ho hd
  cases ha:Qh C st o some with
  |none=>rw[ha]at he;cases he
  |some v=>rw[ha]at he;rw[Ym h hb ha];exact he
 ·cases he
theorem GZ{ops:Array Oper}{o:Oper}(hc:tW C o≠ .other)(h:TR (wH ops o) st st')(hb:wZ o=true\/tW C o≠ .pure\/Ds st st'){e:Gg}(he:Jp C ops st o=some e):Jp C ops st' o=some e:=by
 have hw:TR (Eu o) st st':=⟨fun t ht=>h.get t (by rw[LA];exact List.mem_append_left _ ht)⟩
 unfold Jp at he⊢
 cases hg:o.guard with
 |none=>
  rw[hg]at he
  simp only at he⊢
  cases hl:Gv ops o with
  |true=>rw[hl]at he;exact Y0 hl hw hb he
  |false=>rw[hl]at he;exact Wk hc hw hb he
 |some p=>
  obtain⟨j,want⟩:=p
  rw[hg]at he
  simp only at he⊢
  cases hd:(ops[j]?).bind (·.dst)with
  |none=>rw[hd]at he;cases he
  |some d=>
   rw[hd]at he
   simp only at he⊢
   have hgd:st'.get d=st.get d:=h.get d (by rw[LA,hg];simp[hd])
   have hb':Dz st' d=Dz st d:=by
    simp only[Dz,hgd]
   rw[hb',hgd]
   cases hsk:(st.get d).isSkip with
   |true=>rw[hsk]at he;exact he
   |false=>
   rw[hsk]at he
   simp only at he⊢
   cases hba:Dz st d with
   |none=>rw[hba]at he;cases he
   |some b=>
    rw[hba]at he
    simp only[Option.bind_some]at he⊢
    split
    ·rename_i hbw
     rw[if_pos hbw]at he
     exact Wk hc hw hb he
    ·rename_i hbw
     rw[if_neg hbw]at he
     exact he
def Gg.at(dst:Option Tmp):Gg->Prop
 | .none=>True
 | .set d _=>dst=some d
 | .alloc d _=>dst=some d
 | .boxmod _ _ _=>True
def Gg.isMod:Gg->Bool
 | .boxmod _ _ _=>true
 |_=>false
def Gg.isAlloc:Gg->Bool
 | .alloc _ _=>true
 |_=>false
theorem sJ(o:Oper)(a:AV):(sI o a).at o.dst/\(sI o a).isMod=false/\(sI o a).isAlloc=false:=by
 unfold sI
 cases o.dst<;>exact⟨by first|trivial|rfl,rfl,rfl⟩
theorem aaA{o:Oper}(hc:tW C o≠ .other){e:Gg}(he:JU C st o=some e):e.at o.dst/\(tW C o≠ .store->e.isMod=false)/\(tW C o= .pure->e.isAlloc=false):=by
 have dflt:(Qh C st o some).map (sI o)=some e->e.at o.dst/\(tW C o≠ .store->e.isMod=false)/\(tW C o= .pure->e.isAlloc=false):=by
  intro he
  cases ha:Qh C st o some with
  |none=>rw[ha]at he;cases he
  |some v=>
   rw[ha]at he
   cases he
   exact⟨(sJ o v).1,fun _=>(sJ o v).2.1,fun _=>(sJ o v).2.2⟩
 cases o with
 |mk dst op type pos after guard=>
  cases op with
  |assign x=>
   simp only[JU]at he
   cases dst with
   |none=>cases he
   |some d=>
    simp only at he
    split at he
    ·split at he
     ·cases he;exact⟨rfl,fun _=>rfl,fun _=>rfl⟩
     ·cases he
    ·cases he
  |store T a x=>
   simp only[JU]at he
   cases dst with
   |some d=>cases he
   |none=>
    simp only[PZ]at he
    split at he
    ·split at he
     ·split at he
      ·split at he
       ·split at he
        ·cases he;exact⟨trivial,fun h=>absurd rfl h,fun h=>by cases h⟩
        ·cases he
       ·cases he
      ·cases he
     ·cases he
    ·cases he
  |alloc T=>
   simp only[JU]at he
   split at he
   ·cases he
    exact⟨rfl,fun _=>rfl,fun h=>by cases h⟩
   ·cases he
  |box T x=>exact absurd rfl hc
  |call c=>
   obtain⟨callee,args,ats⟩:=c
   cases callee with
   |builtin b=>
    cases b with
    |append=>
     simp only[JU]at he
     split at he
     ·rename_i s x T T2 d ha ht
      cases hz:Xi C T T2 (st.opdT C.P T s) (st.opdT C.P T2 x) some with
      |none=>rw[hz]at he;cases he
      |some v=>
       rw[hz]at he
       cases he
       exact⟨rfl,fun _=>rfl,fun _=>rfl⟩
     ·cases he
    |_=>exact dflt he
   |_=>exact dflt he
  |_=>exact dflt he
theorem Ou{ops:Array Oper}{o:Oper}(hc:tW C o≠ .other){e:Gg}(he:Jp C ops st o=some e):e.at o.dst/\(tW C o≠ .store->e.isMod=false)/\(tW C o= .pure->e.isAlloc=false):=by
 unfold Jp at he
 cases hg:o.guard with
 |none=>
  rw[hg]at he
  simp only at he
  cases hl:Gv ops o with
  |true=>
   rw[hl]at he
   simp only[Nh]at he
   split at he
   ·rename_i hd
    cases ha:Qh C st o some with
    |none=>rw[ha]at he;cases he
    |some v=>rw[ha]at he;cases he;exact⟨hd,fun _=>rfl,fun _=>rfl⟩
   ·cases he
  |false=>rw[hl]at he;exact aaA hc he
 |some p=>
  obtain⟨j,want⟩:=p
  rw[hg]at he
  simp only at he
  cases hd:(ops[j]?).bind (·.dst)with
  |none=>rw[hd]at he;cases he
  |some d=>
   rw[hd]at he
   simp only at he
   cases hsk:(st.get d).isSkip with
   |true=>
    rw[hsk]at he
    cases he
    exact⟨(sJ o _).1,fun _=>(sJ o _).2.1,fun _=>(sJ o _).2.2⟩
   |false=>
   rw[hsk]at he
   simp only at he
   cases hba:Dz st d with
   |none=>rw[hba]at he;cases he
   |some b=>
    rw[hba]at he
    simp only[Option.bind_some]at he
    split at he
    ·exact aaA hc he
    ·cases he
     exact⟨(sJ o _).1,fun _=>(sJ o _).2.1,fun _=>(sJ o _).2.2⟩
theorem lP{d:Nat}{a:AV}{st1:St}:(Gg.set d a).apply st=some st1↔(st.get d).hasOwn=false/\st1=st.set d a:=by
 simp only[Gg.apply,St.put]
 split
 ·rename_i h;simp[h,eq_comm]
 ·rename_i h;simp[h]
theorem qg{d:Nat}{cs:List CV}{st1:St}:(Gg.alloc d cs).apply st=some st1↔(d<st.boxes.length/\d<st.slots.length)/\cs.all CV.solid=true/\st.boxes.getD d none=none/\(st.get d).hasOwn=false/\
 st1=⟨st.slots.set d (.c (.ptr d 0)),st.boxes.set d (some (false,cs)),st.io⟩:=by
 simp only[Gg.apply,St.newBox]
 split
 ·rename_i hd
  simp only[Bool.and_eq_true,decide_eq_true_eq]at hd
  cases hs:cs.all CV.solid with
  |false=>simp
  |true=>
   simp only[Bool.not_true,Bool.false_eq_true,if_false]
   split
   ·rename_i hb
    simp only[St.put]
    have hg:(⟨st.slots,st.boxes.set d (some (false,cs)),st.io⟩:St).get d=st.get d:=rfl
    rw[hg]
    split
    ·rename_i h
     simp only[hd,hb,h,true_and,St.set,Option.some.injEq,eq_comm]
    ·rename_i h
     simp only[h]
     constructor
     ·intro h;cases h
     ·rintro ⟨_,_,_,h,_⟩;cases h
   ·rename_i x hb
    constructor
    ·intro h;cases h
    ·rintro ⟨_,_,h,_⟩;rw[hb]at h;cases h
 ·rename_i hd
  constructor
  ·intro h;cases h
  ·rintro ⟨h,_⟩;exact absurd (by simpa using h) hd
theorem Qi{b o:Nat}{new:List CV}{st1:St}:(Gg.boxmod b o new).apply st=some st1↔∃cs,st.boxes.getD b none=some (false,cs)/\o+new.length<=cs.length/\new.all CV.solid=true/\
 ((cs.drop o).take new.length).any CV.isOwn=false/\st1=⟨st.slots,st.boxes.modify b (Option.map fun x=>(x.1,Cg x.2 o new)),st.io⟩:=by
 simp only[Gg.apply,St.write]
 split
 ·rename_i cs hb
  rw[hb]
  simp only[Option.some.injEq,Prod.mk.injEq,true_and]
  constructor
  ·intro h
   split at h
   ·split at h
    ·split at h
     ·cases h
     ·rename_i h1 h2 h3
      refine⟨cs,rfl,h1,h2,by simpa using h3,by simpa[eq_comm]using h⟩
    ·cases h
   ·cases h
  ·rintro ⟨cs',rfl,h1,h2,h3,rfl⟩
   rw[if_pos h1,if_pos h2,h3]
   rfl
 ·rename_i h
  constructor
  ·intro h;cases h
  ·rintro ⟨cs,hb,_⟩
   exact absurd hb (h cs)
theorem nD{d d':Nat}{a:AV}{bx:List (Option (Bool×List CV))}{io:List CV}(h:d'≠d):(⟨st.slots.set d a,bx,io⟩:St).get d'=st.get d':=by
 simp only[St.get,List.getD_eq_getElem?_getD]
 rw[List.getElem?_set_ne (fun e=>h e.symm)]
theorem Gg.get_ne{e:Gg}{st1:St}{dst:Option Tmp}(ha:e.at dst)(h:e.apply st=some st1){t:Nat}(ht:dst≠some t):st1.get t=st.get t:=by
 cases e with
 |none=>cases h;rfl
 |set d a=>
  obtain⟨_,rfl⟩:=lP.1 h
  exact nD (fun e=>ht (by rw[e];exact ha))
 |alloc d cs=>
  obtain⟨_,_,_,_,rfl⟩:=qg.1 h
  exact nD (fun e=>ht (by rw[e];exact ha))
 |boxmod b o new=>
  obtain⟨_,_,_,_,_,rfl⟩:=Qi.1 h
  rfl
theorem Gg.boxLe{e:Gg}{st1:St}(hm:e.isMod=false)(h:e.apply st=some st1):Ds st st1:=by
 cases e with
 |none=>cases h;exact fun _ _ h=>h
 |set d a=>
  obtain⟨_,rfl⟩:=lP.1 h
  exact fun _ _ h=>h
 |alloc d cs=>
  obtain⟨hd,_,hn,_,rfl⟩:=qg.1 h
  intro b x hb
  have:b≠d:=fun e=>by subst e;rw[hn]at hb;cases hb
  simp only[List.getD_eq_getElem?_getD]at hb⊢
  rw[List.getElem?_set_ne (fun e=>this e.symm)];exact hb
 |boxmod b o new=>cases hm
theorem Gg.boxSame{e:Gg}{st1:St}(hm:e.isMod=false)(ha:e.isAlloc=false)(h:e.apply st=some st1):st1.boxes=st.boxes:=by
 cases e with
 |none=>cases h;rfl
 |set d a=>obtain⟨_,rfl⟩:=lP.1 h;rfl
 |alloc d cs=>cases ha
 |boxmod b o new=>cases hm
theorem Gg.comm{ea eb:Gg}{da db:Option Tmp}{st1 st2:St}(hm:ea.isMod=false)(hab:eb.isMod=false\/ea.isAlloc=false)(ha:ea.at da)(hb:eb.at db)(hne:∀d,da=some d->db≠some d)
 (h1:ea.apply st=some st1) (h2:eb.apply st1=some st2):∃st1',eb.apply st=some st1'/\ea.apply st1'=some st2:=by
 cases ea with
 |none=>cases h1;exact⟨st2,h2,rfl⟩
 |boxmod b o new=>cases hm
 |set d a=>
  obtain⟨k1,rfl⟩:=lP.1 h1
  cases eb with
  |none=>cases h2;exact⟨st,rfl,h1⟩
  |set d' a'=>
   have hd:d'≠d:=fun e=>hne d ha (by rw[<-e];exact hb)
   obtain⟨k2,rfl⟩:=lP.1 h2
   refine⟨st.set d' a',lP.2 ⟨by rw[<-k2];exact congrArg _ (nD (st:=st) hd).symm,rfl⟩,lP.2 ⟨by rw[<-k1];exact congrArg _ (nD (st:=st) hd.symm), ?_⟩⟩
   simp only[St.set]
   rw[List.set_comm _ _ hd]
  |alloc d' cs=>
   have hd:d'≠d:=fun e=>hne d ha (by rw[<-e];exact hb)
   obtain⟨k2,k3,k4,k5,rfl⟩:=qg.1 h2
   refine⟨_,qg.2 ⟨by simpa[St.set]using k2,k3,k4,by rw[<-k5];exact congrArg _ (nD (st:=st) hd).symm,rfl⟩,lP.2 ⟨by rw[<-k1];exact congrArg _ (nD (st:=st) hd.symm), ?_⟩⟩
   simp only[St.set]
   rw[List.set_comm _ _ hd]
  |boxmod b o new=>
   obtain⟨cs,k2,k3,k4,k5,rfl⟩:=Qi.1 h2
   exact⟨_,Qi.2 ⟨cs,k2,k3,k4,k5,rfl⟩,lP.2 ⟨k1,rfl⟩⟩
 |alloc d cs=>
  obtain⟨k0,k1,k2,k3,rfl⟩:=qg.1 h1
  cases eb with
  |none=>cases h2;exact⟨st,rfl,h1⟩
  |set d' a'=>
   have hd:d'≠d:=fun e=>hne d ha (by rw[<-e];exact hb)
   obtain⟨m2,rfl⟩:=lP.1 h2
   refine⟨st.set d' a',lP.2 ⟨by rw[<-m2];exact congrArg _ (nD (st:=st) hd).symm,rfl⟩,qg.2 ⟨by simpa[St.set]using k0,k1,k2,by rw[<-k3];exact congrArg _ (nD (st:=st) hd.symm), ?_⟩⟩
   simp only[St.set]
   rw[List.set_comm _ _ hd]
  |alloc d' cs'=>
   have hd:d'≠d:=fun e=>hne d ha (by rw[<-e];exact hb)
   obtain⟨m0,m1,m2,m3,rfl⟩:=qg.1 h2
   simp only[List.length_set,List.getD_eq_getElem?_getD]at m0 m2
   rw[List.getElem?_set_ne (fun e=>hd e.symm)]at m2
   refine⟨_,qg.2 ⟨m0,m1,by rw[List.getD_eq_getElem?_getD];exact m2,by rw[<-m3];exact congrArg _ (nD (st:=st) hd).symm,rfl⟩,qg.2 ⟨by simpa using k0,k1, ?_,by rw[<-k3];exact congrArg _ (nD (st:=st) hd.symm), ?_⟩⟩
   ·rw[List.getD_eq_getElem?_getD]at k2⊢
    rw[List.getElem?_set_ne hd];exact k2
   ·simp only
    rw[List.set_comm _ _ hd,List.set_comm _ _ hd]
  |boxmod b o new=>rcases hab with h|h<;>cases h
theorem aax{ops:Array Oper}{a b:Oper}(hm:kH C ops a b=true){st1 st2:St}(h1:BR C ops a st=some st1)(h2:BR C ops b st1=some st2):
 tW C a≠ .other/\tW C b≠ .other/\∃st1',BR C ops b st=some st1'/\BR C ops a st1'=some st2:=by
 simp only[kH,Bool.and_eq_true]at hm
 obtain⟨hap,hm⟩:=hm
 have hcls:(tW C a= .pure/\(tW C b= .pure\/tW C b= .alloc))\/(tW C a= .alloc/\tW C b= .alloc)\/(tW C a= .pure/\tW C b= .store/\wZ a=true):=by
  cases ha:tW C a<;>cases hb:tW C b<;>rw[ha,hb]at hm<;>simp_all
 have hca:tW C a≠ .other:=by rcases hcls with⟨h,_⟩|⟨h,_⟩|⟨h,_⟩<;>rw[h]<;>simp
 have hcb:tW C b≠ .other:=by rcases hcls with⟨_,h|h⟩|⟨_,h⟩|⟨_,h,_⟩<;>rw[h]<;>simp
 refine⟨hca,hcb, ?_⟩
 unfold BR at h1 h2⊢
 cases hea:Jp C ops st a with
 |none=>rw[hea]at h1;cases h1
 |some ea=>
  rw[hea]at h1
  simp only[Option.bind_some]at h1
  cases heb:Jp C ops st1 b with
  |none=>rw[heb]at h2;cases h2
  |some eb=>
   rw[heb]at h2
   simp only[Option.bind_some]at h2
   obtain⟨a1,a2,a3⟩:=Ou hca hea
   obtain⟨b1,b2,b3⟩:=Ou hcb heb
   simp only[apart,Bool.and_eq_true]at hap
   have hda:∀t,t∈wH ops b->a.dst≠some t:=by
    intro t ht e
    have:=hap.1
    rw[e]at this
    simp[ht]at this
   have hdb:∀t,t∈wH ops a->b.dst≠some t:=by
    intro t ht e
    have:=hap.2
    rw[e]at this
    simp[ht]at this
   have hne:∀d,a.dst=some d->b.dst≠some d:=by
    intro d e e'
    have:=hap.1
    rw[e]at this
    simp[e']at this
   have hma:ea.isMod=false:=a2 (by rcases hcls with⟨h,_⟩|⟨h,_⟩|⟨h,_⟩<;>rw[h]<;>simp)
   have hb0:Jp C ops st b=some eb:=by
    refine GZ hcb ⟨fun t ht=>(Gg.get_ne a1 h1 (hda t ht)).symm⟩ ?_ heb
    rcases hcls with⟨hp,_⟩|⟨_,hb⟩|⟨hp,_⟩
    ·right;right
     have:=Gg.boxSame hma (a3 hp) h1
     intro i x hx;rw[<-this];exact hx
    ·right;left;rw[hb];simp
    ·right;right
     have:=Gg.boxSame hma (a3 hp) h1
     intro i x hx;rw[<-this];exact hx
   have hab:eb.isMod=false\/ea.isAlloc=false:=by
    rcases hcls with⟨hp,_⟩|⟨_,hb⟩|⟨hp,_⟩
    ·exact .inr (a3 hp)
    ·exact .inl (b2 (by rw[hb];simp))
    ·exact .inr (a3 hp)
   obtain⟨st1',h3,h4⟩:=Gg.comm hma hab a1 b1 hne h1 h2
   have ha0:Jp C ops st1' a=some ea:=by
    refine GZ hca ⟨fun t ht=>Gg.get_ne b1 h3 (hdb t ht)⟩ ?_ hea
    rcases hcls with⟨_,hb⟩|⟨ha,_⟩|⟨_,_,hs⟩
    ·right;right
     exact Gg.boxLe (b2 (by rcases hb with h|h<;>rw[h]<;>simp)) h3
    ·right;left;rw[ha];simp
    ·exact .inl hs
   exact⟨st1',by rw[hb0];exact h3,by rw[ha0];exact h4⟩
theorem adV{ops:Array Oper}{o:Oper}{i:Nat}{post:List Nat}{k:St->Option Q}{r:Q}(hi:ops[i]?=some o)(hsi:wV C ops i=false)(ho:tW C o≠ .other):
 ∀(pre:List Nat) (st:St),(∀j,j∈pre->wV C ops j=false/\∃p,ops[j]?=some p/\kH C ops p o=true)->
 zw C ops (pre++i::post) st k=some r->∃st',BR C ops o st=some st'/\zw C ops (pre++post) st' k=some r
 |[],st,_,h=>by
  simp only[List.nil_append,zw,hi,hsi,Bool.not_false]at h
  rw[rz ho]at h
  cases hr:BR C ops o st with
  |none=>rw[hr]at h;cases h
  |some st'=>rw[hr]at h;exact⟨st',rfl,h⟩
 |j::pre,st,hp,h=>by
  obtain⟨hsj,p,hj,hpo⟩:=hp j (by simp)
  have hpc:tW C p≠ .other:=by
   intro e
   simp only[kH,Bool.and_eq_true,e]at hpo
   cases hpo.2
  simp only[List.cons_append,zw,hj,hsj,Bool.not_false]at h⊢
  rw[rz hpc]at h
  cases hr:BR C ops p st with
  |none=>rw[hr]at h;cases h
  |some st1=>
   rw[hr]at h
   simp only[Option.bind_some]at h
   obtain⟨st2,h1,h2⟩:=adV hi hsi ho pre st1 (fun q hq=>hp q (by simp[hq])) h
   obtain⟨_,_,st1',h3,h4⟩:=aax hpo hr h1
   refine⟨st1',h3, ?_⟩
   rw[rz hpc,h4]
   exact h2
theorem UL:∀(l s:List Nat) (x:Nat),x∈Xw s l->x∈s\/x∈l
 |[],s,x,h=>.inl h
 |y::l,s,x,h=>by
  rcases UL l _ x h with h|h
  ·simp only at h
   split at h
   ·exact .inl h
   ·rcases List.mem_cons.1 h with rfl|h
    ·exact .inr (by simp)
    ·exact .inl h
  ·exact .inr (by simp[h])
theorem YI(acc:List (List Nat)):∀(l:List Edge) (s:List Nat) (x:Nat),x∈l.foldl (fun s e=>Xw s (e.on::acc.getD e.on [])) s->x∈s\/∃e,e∈l/\(x=e.on\/x∈acc.getD e.on [])
 |[],s,x,h=>.inl h
 |e::l,s,x,h=>by
  rcases YI acc l _ x h with h|⟨e',he,h⟩
  ·rcases UL _ _ _ h with h|h
   ·exact .inl h
   ·rcases List.mem_cons.1 h with h|h
    ·exact .inr ⟨e,by simp, .inl h⟩
    ·exact .inr ⟨e,by simp, .inr h⟩
  ·exact .inr ⟨e',by simp[he],h⟩
def Rq(acc:List (List Nat))(o:Oper):List (List Nat):=
 acc++ [(o.after.toList.filter fun e=>Region.binds .any e).foldl (fun s e=>Xw s (e.on::acc.getD e.on [])) []]
theorem Dl(L:Nat->Prop)(ops:List Oper)(hcl:∀(j:Nat) o,ops[j]?=some o->L j->∀e,e∈o.after.toList->Region.binds .any e=true->L e.on)(hlt:∀(j:Nat) o,ops[j]?=some o->∀e,e∈o.after.toList->Region.binds .any e=true->e.on<j):
 ∀(i:Nat) o,ops[i]?=some o->(∀e,e∈o.after.toList->Region.binds .any e=true->L e.on)->∀x,x∈(gW ops).getD i []->L x:=by
 have key:∀(rest done:List Oper) (acc:List (List Nat)),done++rest=ops->acc.length=done.length->
  (∀(i:Nat) o,i<acc.length->ops[i]?=some o->(∀e,e∈o.after.toList->Region.binds .any e=true->L e.on)->∀x,x∈acc.getD i []->L x)->
  ∀(i:Nat) o,ops[i]?=some o->(∀e,e∈o.after.toList->Region.binds .any e=true->L e.on)->∀x,x∈(rest.foldl Rq acc).getD i []->L x:=by
  intro rest
  induction rest with
  |nil=>
   intro done acc hd hl hA i o hi hp x hx
   rw[List.append_nil]at hd
   subst hd
   exact hA i o (by rw[hl];exact(List.getElem?_eq_some_iff.1 hi).1) hi hp x hx
  |cons o' rest ih=>
   intro done acc hd hl hA
   refine ih (done++ [o']) (Rq acc o') (by simpa using hd) (by simp[Rq,hl]) ?_
   intro i o hi ho hp x hx
   by_cases hlt':i<acc.length
   ·simp only[Rq,List.getD_eq_getElem?_getD,List.getElem?_append_left hlt']at hx
    exact hA i o hlt' ho hp x (by rw[List.getD_eq_getElem?_getD];exact hx)
   ·have hie:i=acc.length:=by simp[Rq]at hi;omega
    subst hie
    have ho':o=o':=by
     rw[<-hd,List.getElem?_append_right (by omega)]at ho
     simp[hl]at ho
     exact ho.symm
    subst ho'
    simp only[Rq,List.getD_eq_getElem?_getD,List.getElem?_append_right (Nat.le_refl _),Nat.sub_self,List.getElem?_cons_zero,Option.getD_some]at hx
    rcases YI acc _ _ _ (by simpa only[List.getD_eq_getElem?_getD]using hx)with h|⟨e,he,h⟩
    ·cases h
    ·obtain⟨he,hb⟩:=List.mem_filter.1 he
     have hL:=hp e he hb
     rcases h with rfl|h
     ·exact hL
     ·have hel:=hlt _ _ ho e he hb
      have hlen:e.on<ops.length:=by have:=(List.getElem?_eq_some_iff.1 ho).1;omega
      have hops:ops[e.on]?=some ops[e.on]:=List.getElem?_eq_getElem hlen
      exact hA e.on _ (by omega) hops (fun e' he' hb'=>hcl e.on _ hops hL e' he' hb') x h
 intro i o hi hp x hx
 exact key ops [] [] rfl rfl (fun i o h=>by simp at h) i o hi hp x hx
variable {E:iU} {g:Gh} {a:Act} {w:World}
def left(ops:Array Oper)(listed:Array Bool):List Nat:=(List.range ops.size).filter fun i=> !listed.getD i true
theorem ke{listed:Array Bool}{j:Nat}(hj:j<listed.size):listed.getD j true=listed.getD j false:=by
 simp[hj]
theorem lH{listed:Array Bool}{i j:Nat}(d:Bool)(hi:i<listed.size):(listed.setIfInBounds i true).getD j d=if j=i then true else listed.getD j d:=by
 by_cases h:j=i
 ·subst h
  simp[Array.getD_eq_getD_getElem?,hi]
 ·rw[if_neg h]
  simp only[Array.getD_eq_getD_getElem?,Array.getElem?_setIfInBounds]
  rw[if_neg (fun e=>h e.symm)]
theorem eval_put{a:Act}{d:Option Tmp}{v:Value}{x:Operand}(h:∀t,d=some t->RN x t=false):(a.put d v).eval x=a.eval x:=by
 cases d with
 |none=>rfl
 |some d=>
  have h:=h d rfl
  cases x with
  |tmp t=>
   have ht:t≠d:=fun e=>by simp[RN,e]at h
   simp only[Act.put,Act.eval,Array.getD_eq_getD_getElem?,Array.getElem?_setIfInBounds,if_neg (fun e:d=t=>ht e.symm)]
  |_=>rfl
theorem A7{o:Oper}{d:Option Tmp}(h:kf d o=true){a:Act}{v:Value}{x:Operand}(hx:x∈o.op.operands.toList):(a.put d v).eval x=a.eval x:=by
 refine eval_put (fun t ht=> ?_)
 subst ht
 have:=List.all_eq_true.1 (show(o.op.operands.toList.all fun x=> !RN x t)=true from h) x hx
 simpa using this
theorem put_comm{a:Act}{d d':Option Tmp}{u v:Value}(h:d≠d'):(a.put d u).put d' v=(a.put d' v).put d u:=by
 cases d with
 |none=>cases d'<;>rfl
 |some d=>
  cases d' with
  |none=>rfl
  |some d'=>
   simp only[Act.put]
   rw[Array.setIfInBounds_comm _ _ (fun e=>h (by rw[e]))]
theorem WP{P:Program}{o:Oper}(hi:RM o=true){ρ ρ':Operand->Value}(h:∀x,x∈o.op.operands.toList->ρ' x=ρ x)(w:World):(execOp ρ' o).run P w=(execOp ρ o).run P w:=by
 simp only[RM,Bool.and_eq_true]at hi
 have hi:=hi.2
 split at hi
 ·rename_i y ho
  have:=h y (by simp[ho,Op.operands])
  unfold execOp
  simp only[ho,this]
 ·rename_i T x y ho
  have h1:=h x (by simp[ho,Op.operands])
  have h2:=h y (by simp[ho,Op.operands])
  unfold execOp
  simp only[ho,h1,h2]
 ·cases hi
theorem WQ{P:Program}{o:Oper}(hi:RM o=true){a:Act}{w:World}{K:Act->World->Prop}(h:o.wp P a w K (fun _ _ _=>False)):
 ∃u w',∀a' K' X',(∀x,x∈o.op.operands.toList->a'.eval x=a.eval x)->(o.wp P a' w K' X'↔K' (a'.put o.dst u) w'):=by
 have shape:(∃u w',(execOp a.eval o).run P w= .ok (.value u) w')\/(∃w',(execOp a.eval o).run P w= .ok .skip w'):=by
  unfold Oper.wp at h
  have hi':=hi
  simp only[RM,Bool.and_eq_true]at hi'
  have hi':=hi'.2
  split at hi'
  ·rename_i y ho
   left
   refine⟨a.eval y,w, ?_⟩
   unfold execOp;rw[ho];rfl
  ·rename_i T x y ho
   right
   have e:(execOp a.eval o).run P w=(Instr.storeAt T (a.eval x) (a.eval y)>>=fun _=>pure .skip:Sem Go.Next).run P w:=by
    unfold execOp;rw[ho]
   rw[e]at h⊢
   simp only[Sem.run_bind]at h⊢
   cases hs:(Instr.storeAt T (a.eval x) (a.eval y)).run P w with
   |ok u w'=>exact⟨w',rfl⟩
   |halt x' w'=>
    rw[hs]at h
    cases x'<;>exact h.elim
  ·cases hi'
 rcases shape with⟨u,w',hr⟩|⟨w',hr⟩
 ·refine⟨u,w',fun a' K' X' ha=> ?_⟩
  unfold Oper.wp
  rw[WP hi ha,hr]
  exact Iff.rfl
 ·refine⟨undef,w',fun a' K' X' ha=> ?_⟩
  unfold Oper.wp
  rw[WP hi ha,hr]
  exact Iff.rfl
theorem TU{P:Program}{op:BinOp}{T:TypeId}{x y av:AV}(hop:op= .add\/op= .sub)(h:VJ P op T x y some=some av):
 ∃vx vy vr,x= .c (.v vx)/\y= .c (.v vy)/\av= .c (.v vr):=by
 unfold VJ at h
 split at h
 ·rcases hop with rfl|rfl
  ·simp only at h
   split at h
   ·simp only[Yg,Option.some.injEq]at h;exact⟨_,_,_,rfl,rfl,h.symm⟩
   ·cases h
  ·simp only at h
   split at h
   ·simp only[Yg,Option.some.injEq]at h;exact⟨_,_,_,rfl,rfl,h.symm⟩
   ·cases h
 ·rcases hop with rfl|rfl<;>(simp only at h;cases h)
 ·rcases hop with rfl|rfl
  ·simp only[ZP]at h
   rename_i a b
   cases hd:decide (((a.size+b.size:Nat):Int)>IntKind.i64.max)with
   |true=>rw[hd]at h;cases h
   |false=>rw[hd]at h;simp only[cond_false,Option.some.injEq]at h;exact⟨_,_,_,rfl,rfl,h.symm⟩
  ·cases h
 ·rcases hop with rfl|rfl<;>(split at h<;>first|contradiction|(cases h;exact⟨_,_,_,rfl,rfl,rfl⟩)|cases h)
 ·exfalso;rcases hop with rfl|rfl<;>(split at h<;>first|(simp only at h;cases h)|cases h)
 ·exfalso;rcases hop with rfl|rfl<;>(unfold Ie at h;split at h<;>first|contradiction|cases h)
 ·exfalso;rcases hop with rfl|rfl<;>(unfold Ie at h;split at h<;>first|contradiction|cases h)
 ·exfalso;rcases hop with rfl|rfl<;>(split at h<;>first|contradiction|cases h)
 ·cases h
theorem acX(R:dG C E g st a.tmps w){p:Oper}(hq:quiet p=true){s:Bool}{ops:Array Oper}{k:St->Option Q}{r:Q}(h:ry C s ops p st k=some r):
 ∃v,∀(ρ:Operand->Value) (w':World),(∀x,x∈p.op.operands.toList->ρ x=a.eval x)->(execOp ρ p).run C.P w'= .ok (.value v) w':=by
 simp only[quiet,Bool.and_eq_true]at hq
 obtain⟨⟨hg,_⟩,hq⟩:=hq
 have hg:p.guard=none:=by simpa using hg
 have hlit:Gv ops p=false:=by
  unfold Gv
  split
  ·rename_i ho _;rw[ho]at hq;cases hq
  ·rfl
 unfold ry at h
 rw[hg,hlit,Bool.and_false]at h
 simp only at h
 split at hq
 ·rename_i x i ho
  simp only[step,ho,qq,Qh]at h
  have hx:=lC R x
  obtain⟨av,v,_,h2,_⟩:=RB (C:=C) hx h
  refine⟨v,fun ρ w' hρ=> ?_⟩
  have:=hρ x (by simp[ho,Op.operands])
  unfold execOp
  simp only[ho,this]
  unfold Instr.extract at h2⊢
  split at h2
  ·rename_i vs hvs
   split at h2
   ·rename_i v' hv
    simp only[Sem.run_pure,Result.ok.injEq]at h2
    obtain⟨rfl,_⟩:=h2
    rfl
   ·cases h2
  ·cases h2
 ·rename_i x ho
  refine⟨a.eval x,fun ρ w' hρ=> ?_⟩
  have:=hρ x (by simp[ho,Op.operands])
  unfold execOp
  simp only[ho,this]
  rfl
 ·rename_i T x y yt ho
  simp only[step,ho,qq,Qh]at h
  rw[TT]at h
  cases hb:VJ C.P .add T (st.eqOpd C.P T x) (st.eqOpd C.P T y) some with
  |none=>rw[hb]at h;cases h
  |some av=>
   obtain⟨vx,vy,vr,e1,e2,e3⟩:=TU (.inl rfl) hb
   have hx:a.eval x=vx:=by have:=Do R T x;rw[e1]at this;exact this.one_inv.2 (.slot 0 0 0)
   have hy:a.eval y=vy:=by have:=Do R T y;rw[e2]at this;exact this.one_inv.2 (.slot 0 0 0)
   refine⟨vr,fun ρ w' hρ=> ?_⟩
   have k1:=hρ x (by simp[ho,Op.operands])
   have k2:=hρ y (by simp[ho,Op.operands])
   rw[e1,e2]at hb
   obtain⟨av',v',m1,m2,m3⟩:=Xb (C:=C) (g:=g) (w:=w') x y (kl.c (c:=.v vx) ⟨rfl,fun _=>rfl⟩) (kl.c (c:=.v vy) ⟨rfl,fun _=>rfl⟩) hb
   simp only[Option.some.injEq]at m1
   subst m1
   rw[e3]at m3
   have hv:v'=vr:=m3.one_inv.2 (.slot 0 0 0)
   unfold execOp
   simp only[ho,k1,k2,hx,hy]
   rw[Sem.run_bind,m2,hv]
   rfl
 ·rename_i T x y yt ho
  simp only[step,ho,qq,Qh]at h
  rw[TT]at h
  cases hb:VJ C.P .sub T (st.eqOpd C.P T x) (st.eqOpd C.P T y) some with
  |none=>rw[hb]at h;cases h
  |some av=>
   obtain⟨vx,vy,vr,e1,e2,e3⟩:=TU (.inr rfl) hb
   have hx:a.eval x=vx:=by have:=Do R T x;rw[e1]at this;exact this.one_inv.2 (.slot 0 0 0)
   have hy:a.eval y=vy:=by have:=Do R T y;rw[e2]at this;exact this.one_inv.2 (.slot 0 0 0)
   refine⟨vr,fun ρ w' hρ=> ?_⟩
   have k1:=hρ x (by simp[ho,Op.operands])
   have k2:=hρ y (by simp[ho,Op.operands])
   rw[e1,e2]at hb
   obtain⟨av',v',m1,m2,m3⟩:=Xb (C:=C) (g:=g) (w:=w') x y (kl.c (c:=.v vx) ⟨rfl,fun _=>rfl⟩) (kl.c (c:=.v vy) ⟨rfl,fun _=>rfl⟩) hb
   simp only[Option.some.injEq]at m1
   subst m1
   rw[e3]at m3
   have hv:v'=vr:=m3.one_inv.2 (.slot 0 0 0)
   unfold execOp
   simp only[ho,k1,k2,hx,hy]
   rw[Sem.run_bind,m2,hv]
   rfl
 ·cases hq
def pd(ops:Array Oper)(i:Nat):Option Tmp:=(ops[i]?).bind (·.dst)
def lm(ops:Array Oper)(u:Nat->Value):List Nat->Act->Act
 |[],a=>a
 |d::r,a=>lm ops u r (a.put (pd ops d) (u d))
def nf:List Nat->Array Bool->Array Bool
 |[],L=>L
 |d::r,L=>nf r (L.setIfInBounds d true)
theorem UG:∀(D:List Nat) (L:Array Bool),(nf D L).size=L.size
 |[],_=>rfl
 |d::r,L=>by rw[nf,UG r];simp
theorem xS:∀(D:List Nat) (L:Array Bool) (j:Nat) (x:Bool),(∀d,d∈D->d<L.size)->(nf D L).getD j x=if j∈D then true else L.getD j x
 |[],L,j,x,_=>by simp[nf]
 |d::r,L,j,x,h=>by
  have hd:=h d (by simp)
  rw[nf,xS r _ j x (fun e he=>by simpa using h e (by simp[he])),lH x hd]
  by_cases h1:j∈r
  ·simp[h1]
  ·by_cases h2:j=d
   ·simp[h2]
   ·simp[h1,h2]
theorem Ls:∀(D:List Nat) (L:Array Bool) (i:Nat),i∉D->nf D (L.setIfInBounds i true)=(nf D L).setIfInBounds i true
 |[],_,_,_=>rfl
 |d::r,L,i,h=>by
  have hne:i≠d:=fun e=>h (by simp[e])
  rw[nf,nf,Array.setIfInBounds_comm _ _ hne,Ls r _ i (fun hm=>h (by simp[hm]))]
theorem Dc:∀(D:List Nat) (L:Array Bool) (i:Nat),nf (D++ [i]) L=(nf D L).setIfInBounds i true
 |[],_,_=>rfl
 |d::r,L,i=>by rw[List.cons_append,nf,nf,Dc r]
theorem Pp{ops:Array Oper}{u:Nat->Value}:∀(D:List Nat) (a:Act) (i:Nat),lm ops u (D++ [i]) a=(lm ops u D a).put (pd ops i) (u i)
 |[],_,_=>rfl
 |d::r,a,i=>by rw[List.cons_append,lm,lm,Pp r]
theorem R5{ops:Array Oper}{u u':Nat->Value}:∀(D:List Nat) (a:Act),(∀d,d∈D->u d=u' d)->lm ops u D a=lm ops u' D a
 |[],_,_=>rfl
 |d::r,a,h=>by rw[lm,lm,h d (by simp),R5 r _ (fun e he=>h e (by simp[he]))]
theorem WR{ops:Array Oper}{u:Nat->Value}{t:Option Tmp}{v:Value}:∀(D:List Nat) (a:Act),(∀d,d∈D->t≠pd ops d)->lm ops u D (a.put t v)=(lm ops u D a).put t v
 |[],_,_=>rfl
 |d::r,a,h=>by rw[lm,lm,put_comm (h d (by simp)),WR r _ (fun e he=>h e (by simp[he]))]
theorem Y6{a:Act}{t:Option Tmp}{v:Value}:(a.put t v).defers=a.defers:=by cases t<;>rfl
theorem Pq{ops:Array Oper}{u:Nat->Value}:∀(D:List Nat) (a:Act),(lm ops u D a).defers=a.defers
 |[],_=>rfl
 |d::r,a=>by rw[lm,Pq r,Y6]
theorem zv{a:Act}{t:Option Tmp}{v:Value}{ds:List Deferred}:({a with defers:=ds}:Act).put t v={a.put t v with defers:=ds}:=by cases t<;>rfl
theorem HL{ops:Array Oper}{u:Nat->Value}{ds:List Deferred}:∀(D:List Nat) (a:Act),lm ops u D {a with defers:=ds}={lm ops u D a with defers:=ds}
 |[],_=>rfl
 |d::r,a=>by rw[lm,lm,zv,HL r]
theorem NM{ops:Array Oper}{u:Nat->Value}{x:Operand}:∀(D:List Nat) (a:Act),(∀d,d∈D->∀t,pd ops d=some t->RN x t=false)->(lm ops u D a).eval x=a.eval x
 |[],_,_=>rfl
 |d::r,a,h=>by rw[lm,NM r _ (fun e he=>h e (by simp[he])),eval_put (h d (by simp))]
theorem Db{o:Oper}{d:Option Tmp}(h:kf d o=true){x:Operand}(hx:x∈o.op.operands.toList):∀t,d=some t->RN x t=false:=by
 intro t ht
 subst ht
 have:=List.all_eq_true.1 (show(o.op.operands.toList.all fun x=> !RN x t)=true from h) x hx
 simpa using this
theorem adh{P:Program}{ops:Array Oper}{u:Nat->Value}{D:List Nat}{o:Oper}{a:Act}{w:World}{N:Act->World->Prop}{X:Exit->Act->World->Prop}
 (hs:∀cs b,o.op≠ .select cs b) (hk:∀d,d∈D->kf (pd ops d) o=true) (hd:∀d,d∈D->o.dst≠pd ops d)
 (h:o.wp P a w (fun a1 w1=>N (lm ops u D a1) w1) (fun _ _ _=>False)):o.wp P (lm ops u D a) w N X:=by
 have he:execOp (lm ops u D a).eval o=execOp a.eval o:=
  execOp_congr o hs (fun x hx=>NM D a (fun d hdm=>Db (hk d hdm) (by simpa using hx)))
 have hp:∀v,lm ops u D (a.put o.dst v)=(lm ops u D a).put o.dst v:=fun v=>WR D a hd
 unfold Oper.wp at h⊢
 rw[he]
 generalize (execOp a.eval o).run P w=r at*
 cases r with
 |ok n w'=>
  cases n<;>simp only[Oper.upon]at h⊢<;>
   first
    |exact h
    |(rw[hp]at h;exact h)
    |(rw[zv,HL,hp,<-zv]at h;rw[Pq];exact h)
    |exact Calls.mono h (fun e w'' he=>by
      cases e with
      |returned v=>have he':N (lm ops u D (a.put o.dst v)) w'':=he;rw[hp]at he';exact he'
      |panicked c=>exact he.elim
      |outgrown=>obtain⟨_,_,hf⟩:=he;exact hf.elim)
    |exact Rows.mono h (fun v w'' he=>by have he':N (lm ops u D (a.put o.dst v)) w'':=he;rw[hp]at he';exact he')
 |halt x w'=>cases x<;>simp only[Oper.upon]at h⊢<;>exact h.elim
theorem Lr{o:Oper}(h:J5 C o=true):o.guard=none/\(∃d,o.dst=some d)/\(∃x,o.op= .assign x)/\tW C o= .other:=by
 simp only[J5,Bool.and_eq_true]at h
 obtain⟨⟨⟨h1,h2⟩,h3⟩,h4⟩:=h
 refine⟨by simpa using h1,Option.isSome_iff_exists.1 h2, ?_, ?_⟩
 ·split at h3
  ·rename_i x ho;exact⟨x,ho⟩
  ·cases h3
 ·split at h4
  ·rename_i hc;exact hc
  ·cases h4
theorem Yu{o:Oper}(h:abh C o=true):o.guard=none/\(∃d,o.dst=some d)/\((∀cs b,o.op≠ .select cs b)/\Fv o=false)/\tW C o= .pure:=by
 simp only[abh,Bool.and_eq_true]at h
 obtain⟨⟨⟨⟨h1,h2⟩,h3⟩,h5⟩,h4⟩:=h
 refine⟨by simpa using h1,Option.isSome_iff_exists.1 h2,⟨?_,by simpa using h5⟩, ?_⟩
 ·intro cs b ho
  rw[ho]at h3
  cases h3
 ·split at h4
  ·rename_i hc;exact hc
  ·cases h4
theorem WJ{ops:Array Oper}{ah:List (List Nat)}{j i:Nat}(h:WI C ops ah j i=true):∃p o,ops[j]?=some p/\ops[i]?=some o/\abh C p=true/\J5 C o=true/\kf o.dst p=true/\kf p.dst o=true/\p.dst≠o.dst/\
 ∀k,k<ops.size->i<k->j∈ah.getD k []\/∃q,ops[k]?=some q/\J5 C q=true/\i∈ah.getD k []/\kf o.dst q=true/\o.dst≠q.dst:=by
 unfold WI at h
 split at h
 ·rename_i p o hp ho
  simp only[Bool.and_eq_true,bne_iff_ne,ne_eq]at h
  obtain⟨⟨⟨⟨⟨h1,h2⟩,h3⟩,h4⟩,h5⟩,h6⟩:=h
  refine⟨p,o,hp,ho,h1,h2,h3,h4,h5,fun k hk hik=> ?_⟩
  have:=List.all_eq_true.1 h6 k (by simpa using hk)
  simp only[Bool.or_eq_true]at this
  rcases this with(h|h)|h
  ·have:=Nat.le_of_ble_eq_true h;omega
  ·exact .inl (by simpa using h)
  ·right
   split at h
   ·rename_i q hq
    simp only[Bool.and_eq_true,bne_iff_ne,ne_eq]at h
    obtain⟨⟨⟨k1,k2⟩,k3⟩,k4⟩:=h
    exact⟨q,hq,k1,by simpa using k2,k3,k4⟩
   ·cases h
 ·cases h
theorem DD{ops:Array Oper}{i:Nat}(h:DC C ops i=true):∃o,ops[i]?=some o/\J5 C o=true/\∀j,j<i->j∈(gW ops.toList).getD i []\/WI C ops (gW ops.toList) j i=true:=by
 unfold DC at h
 split at h
 ·rename_i o ho
  simp only[Bool.and_eq_true]at h
  refine⟨o,ho,h.1,fun j hj=> ?_⟩
  have:=List.all_eq_true.1 h.2 j (by simpa using hj)
  simp only[Bool.or_eq_true]at this
  rcases this with h|h
  ·exact .inl (by simpa using h)
  ·exact .inr h
 ·cases h
theorem aeb{P:Program}{o:Oper}{a:Act}{w:World}{K:Act->World->Prop}(h:o.wp P a w K (fun _ _ _=>False)):
 o.wp P a w (fun a1 w1=>K a1 w1/\∃v ds,a1=({a with defers:=ds}:Act).put o.dst v) (fun _ _ _=>False):=by
 unfold Oper.wp at h⊢
 generalize (execOp a.eval o).run P w=r at*
 cases r with
 |ok n w'=>
  cases n<;>simp only[Oper.upon]at h⊢<;>
   first
    |exact h
    |exact⟨h,_,_,rfl⟩
    |exact Calls.mono h (fun e w'' he=>by
      cases e with
      |returned v=>exact⟨he,_,a.defers,rfl⟩
      |panicked c=>exact he
      |outgrown=>exact he)
    |exact Rows.mono h (fun v w'' he=>⟨he,_,a.defers,rfl⟩)
 |halt x w'=>cases x<;>simp only[Oper.upon]at h⊢
theorem Ux{ops:Array Oper}{L:Array Bool}{i:Nat}(hL:L.size=ops.size)(hi:i∈left ops L):
 ∃pre post,left ops L=pre++i::post/\left ops (L.setIfInBounds i true)=pre++post/\(∀j,j∈pre->j<i)/\(∀j,j∈post->i<j):=by
 obtain⟨pre,post,hpp⟩:=List.append_of_mem hi
 have hpw:List.Pairwise (·<·) (left ops L):=List.pairwise_lt_range.filter _
 rw[hpp]at hpw
 obtain⟨hp1,hp2,hp3⟩:=List.pairwise_append.1 hpw
 have hpre:∀j,j∈pre->j<i:=fun j hj=>hp3 j hj i (by simp)
 have hpost:∀j,j∈post->i<j:=fun j hj=>List.rel_of_pairwise_cons hp2 hj
 have his:i<L.size:=by
  have:=(List.mem_filter.1 hi).1
  rw[hL];simpa using this
 refine⟨pre,post,hpp, ?_,hpre,hpost⟩
 have e1:left ops (L.setIfInBounds i true)=(left ops L).filter fun j=>decide (j≠i):=by
  simp only[left,List.filter_filter]
  apply List.filter_congr
  intro j hj
  rw[lH true his]
  by_cases hji:j=i
  ·simp[hji]
  ·simp[hji]
 rw[e1,hpp,List.filter_append,List.filter_cons]
 simp only[ne_eq,not_true_eq_false,decide_false,Bool.false_eq_true,if_false]
 rw[List.filter_eq_self.2 (fun j hj=>by have:=hpre j hj;simp;omega),List.filter_eq_self.2 (fun j hj=>by have:=hpost j hj;simp;omega)]
theorem adU{ops:Array Oper}{ah:List (List Nat)}{j i:Nat}{o:Oper}(ho:ops[i]?=some o)(ha:J5 C o=true)(h:R3 ops ah j i=true):WI C ops ah j i=true:=by
 unfold R3 at h
 unfold WI
 rw[ho]at h⊢
 cases hp:ops[j]? with
 |none=>rw[hp]at h;cases h
 |some p=>
  rw[hp]at h
  simp only[Bool.and_eq_true]at h⊢
  obtain⟨⟨⟨⟨⟨h1,h2⟩,h3⟩,h4⟩,h5⟩,h6⟩:=h
  refine⟨⟨⟨⟨⟨?_,ha⟩,h3⟩,h4⟩,h5⟩, ?_⟩
  ·simp only[quiet,Bool.and_eq_true]at h1
   obtain⟨⟨q1,q2⟩,q3⟩:=h1
   unfold abh
   rw[q1,q2]
   split at q3
   ·rename_i hop;simp only[tW,hop,Fv];rfl
   ·rename_i hop;simp only[tW,hop,Fv];rfl
   ·rename_i hop;simp only[tW,hop,Fv];rfl
   ·rename_i hop;simp only[tW,hop,Fv];rfl
   ·cases q3
  ·rw[List.all_eq_true]at h6⊢
   intro k hk
   have:=h6 k hk
   rw[Bool.or_eq_true,Bool.or_eq_true]
   rw[Bool.or_eq_true]at this
   exact .inl this
theorem Uf{ops:Array Oper}{j:Nat}{p:Oper}(hp:ops[j]?=some p)(hc:tW C p= .pure\/tW C p= .alloc):DC C ops j=false:=by
 cases h:DC C ops j with
 |false=>rfl
 |true=>
  obtain⟨o,ho,ha,_⟩:=DD h
  rw[hp]at ho;cases ho
  have:=(Lr ha).2.2.2
  rw[this]at hc
  rcases hc with h|h<;>cases h
theorem Xk{P:Program}{o:Oper}{x:Operand}(ho:o.op= .assign x)(ρ:Operand->Value)(w:World):(execOp ρ o).run P w= .ok (.value (ρ x)) w:=by
 unfold execOp;rw[ho];rfl
theorem WS{p:Oper}(h:quiet p=true):Fv p=false:=by
 unfold quiet at h
 unfold Fv
 split
 ·rename_i c hc
  rw[hc]at h
  simp at h
 ·rfl
theorem Yn{ops:Array Oper}{j:Nat}{p:Oper}(hb:Fv p=false\/∃i,j<i/\i<ops.size/\j∉(gW ops.toList).getD i []):
 (Fv p&&((List.range ops.size).all fun k=>Nat.ble k j||((gW ops.toList).getD k []).contains j)&&(List.range j).all fun i=>((gW ops.toList).getD j []).contains i)=false:=by
 rcases hb with hb|⟨i,h1,h2,h3⟩
 ·rw[hb];rfl
 ·cases hc:((List.range ops.size).all fun k=>Nat.ble k j||((gW ops.toList).getD k []).contains j)with
  |false=>simp
  |true=>
   have:=List.all_eq_true.1 hc i (by simpa using h2)
   simp only[Bool.or_eq_true]at this
   rcases this with h|h
   ·have:=Nat.le_of_ble_eq_true h;omega
   ·exact absurd (by simpa using h) h3
theorem abe(hS:∀f c,C.ρ f=some c->ag C f c){ops:Array Oper}(hd:Uh C ops=true){k:St->Option Q}{r:Q}{D:List Deferred}{X:Exit->Act->World->Prop}
 (hn:Next C E D k r (X .normal)):∀(fuel:Nat) (listed:Array Bool) (g:Gh) (st:St) (a:Act) (w:World),listed.size=ops.size->(left ops listed).length=fuel->
   (∀(j:Nat) o,ops.toList[j]?=some o->listed.getD j false=true->∀e,e∈o.after.toList->Region.binds .any e=true->listed.getD e.on false=true)->
   dG C E g st a.tmps w->a.defers=D->zw C ops (left ops listed) st k=some r->wpAny C.P .any ops X fuel listed a w:=by
 simp only[Uh,Bool.and_eq_true]at hd
 have hlt:∀(j:Nat) o,ops.toList[j]?=some o->∀e,e∈o.after.toList->Region.binds .any e=true->e.on<j:=by
  intro j o ho e he hb
  have ho':ops[j]?=some o:=by simpa using ho
  have hj:j<ops.size:=(Array.getElem?_eq_some_iff.1 ho').1
  have:=List.all_eq_true.1 hd.1 j (by simpa using hj)
  rw[ho']at this
  simp only[Option.all_some]at this
  have:=Array.all_eq_true_iff_forall_mem.1 this e (by simpa using he)
  simpa[hb]using this
 have hsub:∀listed i,i∈Region.ready .any ops listed->i∈left ops listed:=by
  intro listed i hi
  simp only[Region.ready,List.mem_filter,Bool.and_eq_true]at hi
  exact List.mem_filter.2 ⟨hi.1,hi.2.1⟩
 have hmem:∀listed i,i∈left ops listed->i<ops.size/\listed.getD i true=false:=by
  intro listed i hi
  obtain⟨h1,h2⟩:=List.mem_filter.1 hi
  exact⟨by simpa using h1,by simpa using h2⟩
 intro fuel
 induction fuel using Nat.strongRecOn with
 |_ fuel ih'=>
 cases fuel with
 |zero=>
  intro listed g st a w hsz hl hcl R hD h
  have h0:=List.length_eq_zero_iff.1 hl
  refine⟨?_, ?_⟩
  ·cases hr:Region.ready .any ops listed with
   |nil=>rfl
   |cons x xs=>
    have:=hsub listed x (by rw[hr];simp)
    rw[h0]at this;cases this
  ·rw[h0]at h
   exact hn g st a w h R hD
 |succ fuel=>
  have ih:=ih' fuel (Nat.lt_succ_self _)
  intro listed g st a w hsz hl hcl R hD h
  have hpw:List.Pairwise (·<·) (left ops listed):=List.pairwise_lt_range.filter _
  have hready:∀i o,i∈left ops listed->ops[i]?=some o->(∀e,e∈o.after.toList->Region.binds .any e=true->listed.getD e.on false=true)->i∈Region.ready .any ops listed:=by
   intro i o hi ho he
   obtain⟨h1,h2⟩:=List.mem_filter.1 hi
   refine List.mem_filter.2 ⟨h1, ?_⟩
   rw[h2,ho]
   simp only[Bool.true_and,Option.map_some,Option.getD_some]
   rw[Array.all_eq_true_iff_forall_mem]
   intro e hem
   cases hb:Region.binds .any e with
   |false=>rfl
   |true=>simp only[Bool.not_true,Bool.false_or];exact he e (by simpa using hem) hb
  have loose_pure':∀j p,j+1<ops.size->ops[j]?=some p->(tW C p= .pure\/tW C p= .alloc)->(Fv p=false\/∃i,j<i/\i<ops.size/\j∉(gW ops.toList).getD i [])->wV C ops j=false:=by
   intro j p hji hjp hc hb
   have h1:As ops j=false:=by
    have:Nat.beq (j+1) ops.size=false:=by
     cases hb:Nat.beq (j+1) ops.size with
     |false=>rfl
     |true=>have:=Nat.eq_of_beq_eq_true hb;omega
    simp[As,this]
   have h2:DC C ops j=false:=Uf hjp hc
   simp only[wV,h1,h2,hjp,Bool.false_or]
   rcases hc with hc|hc<;>rw[hc]
   exact Yn hb
  have ready_head:∀L:Array Bool,L.size=ops.size->left ops L≠ []->Region.ready .any ops L≠ []:=by
   intro L hL hne hr
   have hpw:List.Pairwise (·<·) (left ops L):=List.pairwise_lt_range.filter _
   cases hlf:left ops L with
   |nil=>exact hne hlf
   |cons i rest=>
    have hi:i∈left ops L:=by rw[hlf];simp
    obtain⟨his,_⟩:=hmem L i hi
    obtain⟨o,ho⟩:∃o,ops[i]?=some o:=⟨_,Array.getElem?_eq_getElem his⟩
    have:i∈Region.ready .any ops L:=by
     obtain⟨h1,h2⟩:=List.mem_filter.1 hi
     refine List.mem_filter.2 ⟨h1, ?_⟩
     rw[h2,ho]
     simp only[Bool.true_and,Option.map_some,Option.getD_some]
     rw[Array.all_eq_true_iff_forall_mem]
     intro e hem
     cases hb:Region.binds .any e with
     |false=>rfl
     |true=>
      simp only[Bool.not_true,Bool.false_or]
      have hei:=hlt i o (by simpa using ho) e (by simpa using hem) hb
      cases hle:L.getD e.on false with
      |true=>rfl
      |false=>
       exfalso
       have hel:e.on∈left ops L:=List.mem_filter.2 ⟨by simp;omega,by rw[ke (by omega),hle];rfl⟩
       rw[hlf]at hel hpw
       rcases List.mem_cons.1 hel with h|h
       ·omega
       ·have:=List.rel_of_pairwise_cons hpw h
        omega
    rw[hr]at this;cases this
  have pairs:∀i j o p,j<i->ops[i]?=some o->ops[j]?=some p->j∈(gW ops.toList).getD i []\/wV C ops i=true\/kH C ops p o=true:=by
   intro i j o p hji ho hp
   have his:i<ops.size:=(Array.getElem?_eq_some_iff.1 ho).1
   have:=List.all_eq_true.1 (List.all_eq_true.1 hd.2 i (by simpa using his)) j (by simpa using hji)
   rw[hp,ho]at this
   simp only[Bool.or_eq_true]at this
   rcases this with h1|h1|h1
   ·exact .inl (by simpa using h1)
   ·exact .inr (.inl h1)
   ·exact .inr (.inr h1)
  have addClosed:∀(L:Array Bool) (i:Nat) (o:Oper),L.size=ops.size->i<ops.size->ops[i]?=some o->
   (∀(j:Nat) o,ops.toList[j]?=some o->L.getD j false=true->∀e,e∈o.after.toList->Region.binds .any e=true->L.getD e.on false=true)->
   (∀e,e∈o.after.toList->Region.binds .any e=true->L.getD e.on false=true)->
   ∀(j:Nat) o,ops.toList[j]?=some o->(L.setIfInBounds i true).getD j false=true->∀e,e∈o.after.toList->Region.binds .any e=true->(L.setIfInBounds i true).getD e.on false=true:=by
   intro L i o hL his ho hLc hLe j o' ho' hj e he hb
   rw[lH false (by omega)]at hj⊢
   split
   ·rfl
   ·by_cases hji:j=i
    ·subst hji
     have:o'=o:=by
      have ho'':ops[j]?=some o':=by simpa using ho'
      rw[ho]at ho'';cases ho'';rfl
     subst this
     exact hLe e he hb
    ·rw[if_neg hji]at hj
     exact hLc j o' ho' hj e he hb
  have chain:∀(m N F:Nat) (L:Array Bool) (Dn:List Nat) (u:Nat->Value) (g:Gh) (st:St) (a:Act) (w:World),N+F<=m->N<=fuel+1->L.size=ops.size->
   (left ops L).length=N->(left ops (nf Dn L)).length=F->
   (∀(j:Nat) o,ops.toList[j]?=some o->L.getD j false=true->∀e,e∈o.after.toList->Region.binds .any e=true->L.getD e.on false=true)->
   (∀(j:Nat) o,ops.toList[j]?=some o->(nf Dn L).getD j false=true->∀e,e∈o.after.toList->Region.binds .any e=true->(nf Dn L).getD e.on false=true)->
   Dn≠ []->Dn.Pairwise (fun d d'=>d<d'/\∃o',ops[d']?=some o'/\kf (pd ops d) o'=true/\pd ops d≠pd ops d')->(∀d,d∈Dn->d∈left ops L)->(∀d,d∈Dn->DC C ops d=true)->
   (∀d,d∈Dn->∃o x,ops[d]?=some o/\o.op= .assign x/\a.eval x=u d)->
   dG C E g st a.tmps w->a.defers=D->zw C ops (left ops L) st k=some r->wpAny C.P .any ops X F (nf Dn L) (lm ops u Dn a) w:=by
   intro m
   induction m with
   |zero=>
    intro N F L Dn u g st a w hm _ _ hN _ _ _ hne _ hin
    exfalso
    cases Dn with
    |nil=>exact hne rfl
    |cons d _=>have:=List.length_pos_of_mem (hin d (by simp));omega
   |succ m ihm=>
    intro N F L Dn u g st a w hm hNf hL hN hF hc1 hc2 hne hpw hin hch hu R hD h
    have hDl:∀d,d∈Dn->d<L.size:=fun d hdm=>by have:=(hmem L d (hin d hdm)).1;omega
    have hML:(nf Dn L).size=ops.size:=by rw[UG];exact hL
    have hleftpw:List.Pairwise (·<·) (left ops L):=List.pairwise_lt_range.filter _
    cases hlf:left ops L with
    |nil=>
     exfalso
     cases Dn with
     |nil=>exact hne rfl
     |cons d _=>have:=hin d (by simp);rw[hlf]at this;cases this
    |cons hh rest=>
     have hhl:hh∈left ops L:=by rw[hlf];simp
     obtain⟨hhs,hhf⟩:=hmem L hh hhl
     have hmin:∀j,j∈left ops L->j=hh\/hh<j:=by
      intro j hj
      rw[hlf]at hj hleftpw
      rcases List.mem_cons.1 hj with h|h
      ·exact .inl h
      ·exact .inr (List.rel_of_pairwise_cons hleftpw h)
     by_cases hfl:hh∈Dn
     ·
      obtain⟨Dr,hDr⟩:∃Dr,Dn=hh::Dr:=by
       cases Dn with
       |nil=>exact absurd rfl hne
       |cons d Dr=>
        refine⟨Dr, ?_⟩
        rcases List.mem_cons.1 hfl with h|h
        ·rw[h]
        ·exfalso
         have h1:=(List.rel_of_pairwise_cons hpw h).1
         rcases hmin d (hin d (by simp))with h2|h2<;>omega
      subst hDr
      obtain⟨o,x,ho,hox,hux⟩:=hu hh (by simp)
      obtain⟨_,ho',hasg,_⟩:=DD (hch hh (by simp))
      rw[ho]at ho';cases ho'
      obtain⟨hog,_,_,_⟩:=Lr hasg
      obtain⟨pre,post,hl1,hl2,hl3,_⟩:=Ux hL hhl
      have hpre:pre=[]:=by
       cases pre with
       |nil=>rfl
       |cons j _=>
        exfalso
        have h1:=hl3 j (by simp)
        rcases hmin j (by rw[hl1];simp)with h2|h2<;>omega
      subst hpre
      have hrest:left ops (L.setIfInBounds hh true)=rest:=by
       rw[hl2]
       rw[hlf]at hl1
       simp only[List.nil_append,List.cons.injEq,true_and]at hl1
       rw[hl1];rfl
      rw[hlf]at h
      simp only[zw,ho]at h
      have hclh:∀(j:Nat) o,ops.toList[j]?=some o->(L.setIfInBounds hh true).getD j false=true->∀e,e∈o.after.toList->Region.binds .any e=true->(L.setIfInBounds hh true).getD e.on false=true:=by
       refine addClosed L hh o hL hhs ho hc1 ?_
       intro e he hb
       have hel:=hlt hh o (by simpa using ho) e he hb
       cases hle:L.getD e.on false with
       |true=>rfl
       |false=>
        exfalso
        have:e.on∈left ops L:=List.mem_filter.2 ⟨by simp;omega,by rw[ke (by omega),hle];rfl⟩
        rcases hmin _ this with h2|h2<;>omega
      have h1:=uR R hS h (next:=fun a1 w1=>(∀d,d∈Dr->∃o x,ops[d]?=some o/\o.op= .assign x/\a1.eval x=u d)->wpAny C.P .any ops X F (nf (hh::Dr) L) (lm ops u Dr a1) w1) (X:=fun _ _ _=>False) (by
       intro g1 st1 a1 w1 hk R1 hD1 hev
       cases hDr:Dr with
       |nil=>
        subst hDr
        have hF':(left ops (L.setIfInBounds hh true)).length=F:=hF
        exact ih' F (by rw[<-hF',hrest];rw[hlf]at hN;simp at hN;omega) (L.setIfInBounds hh true) g1 st1 a1 w1 (by simpa using hL) hF' hclh R1 (hD1.trans hD) (by rw[hrest];exact hk)
       |cons d0 Dr0=>
        rw[<-hDr]
        have hpwr:=(List.pairwise_cons.1 hpw)
        refine ihm (N-1) F (L.setIfInBounds hh true) Dr u g1 st1 a1 w1 ?_ (by omega) (by simpa using hL) ?_ hF hclh hc2 (by rw[hDr];simp) hpwr.2 ?_ (fun d hdm=>hch d (by simp[hdm])) hev R1 (hD1.trans hD) (by rw[hrest];exact hk)
        ·rw[hlf]at hN;simp at hN;omega
        ·rw[hrest];rw[hlf]at hN;simp at hN;omega
        ·intro d hdm
         rw[hrest]
         have h1:=hin d (by simp[hdm])
         rw[hlf]at h1
         rcases List.mem_cons.1 h1 with h2|h2
         ·exfalso
          have:=(hpwr.1 d hdm).1
          omega
         ·exact h2)
      rw[if_pos (vF hog)]at h1
      unfold Oper.wp at h1
      rw[Xk hox]at h1
      have h2:=h1 (by
       intro d hdm
       obtain⟨o',x',k1,k2,k3⟩:=hu d (by simp[hdm])
       obtain⟨_,o'',k4,k5,_⟩:=(List.pairwise_cons.1 hpw).1 d hdm
       rw[k1]at k4;cases k4
       refine⟨o',x',k1,k2, ?_⟩
       rw[eval_put (Db (d:=o.dst) (o:=o') (by simpa[pd,ho]using k5) (by simp[k2,Op.operands])),k3])
      rw[hux]at h2
      have:lm ops u (hh::Dr) a=lm ops u Dr (a.put o.dst (u hh)):=by simp only[lm,pd,ho,Option.bind_some]
      rw[this]
      exact h2
     ·
      have hhM:(nf Dn L).getD hh false=false:=by
       rw[xS Dn L hh false hDl,if_neg hfl]
       rwa [ke (by omega)]at hhf
      have hhleft:hh∈left ops (nf Dn L):=List.mem_filter.2 ⟨by simpa using hhs,by rw[ke (by omega),hhM];rfl⟩
      have hFpos:0<F:=by rw[<-hF];exact List.length_pos_of_mem hhleft
      obtain⟨f,rfl⟩:∃f,F=f+1:=⟨F-1,by omega⟩
      refine⟨fun hr=>absurd hr (ready_head _ hML (by intro e;rw[e]at hhleft;cases hhleft)),fun i hi=> ?_⟩
      have hil:=hsub _ i hi
      obtain⟨his,hif⟩:=hmem _ i hil
      have hifM:(nf Dn L).getD i false=false:=by rwa [ke (by omega)]at hif
      have hiD:i∉Dn:=fun hm=>by rw[xS Dn L i false hDl,if_pos hm]at hifM;cases hifM
      have hiL:i∈left ops L:=List.mem_filter.2 ⟨by simpa using his,by
       rw[xS Dn L i false hDl,if_neg hiD]at hifM
       rw[ke (by omega),hifM];rfl⟩
      obtain⟨o,ho⟩:∃o,ops[i]?=some o:=⟨_,Array.getElem?_eq_getElem his⟩
      have hedge:∀e,e∈o.after.toList->Region.binds .any e=true->(nf Dn L).getD e.on false=true:=by
       intro e he hb
       have:=(List.mem_filter.1 hi).2
       rw[ho]at this
       simp only[Bool.and_eq_true,Option.map_some,Option.getD_some]at this
       have:=Array.all_eq_true_iff_forall_mem.1 this.2 e (by simpa using he)
       simpa[hb]using this
      have hahi:∀j,j∈(gW ops.toList).getD i []->(nf Dn L).getD j false=true:=fun j hj=>
       Dl (fun j=>(nf Dn L).getD j false=true) ops.toList hc2 hlt i o (by simpa using ho) hedge j hj
      have hahd:∀d,d∈Dn->∀j,j∈(gW ops.toList).getD d []->(nf Dn L).getD j false=true:=by
       intro d hdm j hj
       obtain⟨o',_,k1,_⟩:=hu d hdm
       exact Dl (fun j=>(nf Dn L).getD j false=true) ops.toList hc2 hlt d o' (by simpa using k1)
        (fun e he hb=>hc2 d o' (by simpa using k1) (by rw[xS Dn L d false hDl,if_pos hdm]) e he hb) j hj
      have hbehind:∀d,d∈Dn->d<i->J5 C o=true/\kf (pd ops d) o=true/\pd ops d≠o.dst:=by
       intro d hdm hdi
       obtain⟨od,hod,_,hcj⟩:=DD (hch d hdm)
       have hhd:hh<d:=by
        rcases hmin d (hin d hdm)with h2|h2
        ·rw[h2]at hdm;exact absurd hdm hfl
        ·exact h2
       rcases hcj hh hhd with h2|h2
       ·have:=hahd d hdm hh h2;rw[hhM]at this;cases this
       ·obtain⟨_,od',_,hod',_,_,_,_,_,hk⟩:=WJ h2
        rw[hod]at hod';cases hod'
        rcases hk i his hdi with h3|⟨q,hq,k1,_,k3,k4⟩
        ·have:=hahi hh h3;rw[hhM]at this;cases this
        ·rw[ho]at hq;cases hq
         have hpd:pd ops d=od.dst:=by simp only[pd,hod,Option.bind_some]
         rw[hpd]
         exact⟨k1,k3,k4⟩
      have hahead:∀d,d∈Dn->i<d->abh C o=true/\kf (pd ops d) o=true/\o.dst≠pd ops d/\∃od,ops[d]?=some od/\kf o.dst od=true:=by
       intro d hdm hdi
       obtain⟨od,hod,_,hcj⟩:=DD (hch d hdm)
       rcases hcj i hdi with h2|h2
       ·have:=hahd d hdm i h2;rw[hifM]at this;cases this
       ·obtain⟨p,od',hp,hod',k1,_,k3,k4,k5,_⟩:=WJ h2
        rw[hod]at hod';cases hod'
        rw[ho]at hp;cases hp
        have hpd:pd ops d=od.dst:=by simp only[pd,hod,Option.bind_some]
        rw[hpd]
        exact⟨k1,k3,k5,od,hod,k4⟩
      have hneq:∀d,d∈Dn->d≠i:=fun d hdm e=>hiD (by rw[<-e];exact hdm)
      have hF1:(left ops ((nf Dn L).setIfInBounds i true)).length=f:=by
       obtain⟨p1,p2,e1,e2,_,_⟩:=Ux hML hil
       rw[e2];rw[e1]at hF;simp at hF⊢;omega
      have hc2':=addClosed (nf Dn L) i o hML his ho hc2 hedge
      cases hasg:J5 C o with
      |true=>
       obtain⟨hog,_,⟨x,hox⟩,hcls⟩:=Lr hasg
       have hlt':∀d,d∈Dn->d<i:=by
        intro d hdm
        rcases Nat.lt_trichotomy d i with h2|h2|h2
        ·exact h2
        ·exact absurd h2 (hneq d hdm)
        ·have:=(Yu (hahead d hdm h2).1).2.2.2
         rw[hcls]at this;cases this
       obtain⟨d0,hd0⟩:∃d0,d0∈Dn:=by
        cases Dn with
        |nil=>exact absurd rfl hne
        |cons d _=>exact⟨d,by simp⟩
       have hhi:hh<i:=by
        have h1:=hlt' d0 hd0
        rcases hmin d0 (hin d0 hd0)with h2|h2<;>omega
       have hci:DC C ops i=true:=by
        obtain⟨ph,hph⟩:∃p,ops[hh]?=some p:=⟨_,Array.getElem?_eq_getElem hhs⟩
        rcases pairs i hh o ph hhi ho hph with h2|h2|h2
        ·have:=hahi hh h2;rw[hhM]at this;cases this
        ·simp only[wV,ho,Bool.or_eq_true]at h2
         rcases h2 with(h2|h2)|h2
         ·exfalso
          simp only[As,ho,Bool.and_eq_true]at h2
          have he:=List.all_eq_true.1 h2.2 hh (by simpa using hhi)
          obtain⟨e,he,hb⟩:=Array.any_eq_true.1 he
          simp only[Bool.and_eq_true,beq_iff_eq]at hb
          have:=hedge o.after[e] (by simp) hb.2
          rw[hb.1,hhM]at this;cases this
         ·exact h2
         ·rw[hcls]at h2
          simp only at h2
          unfold DC
          rw[ho]
          simp only[Bool.and_eq_true]
          refine⟨hasg, ?_⟩
          rw[List.all_eq_true]at h2⊢
          intro j hj
          have:=h2 j hj
          simp only[Bool.or_eq_true]at this⊢
          exact this.imp id (adU ho hasg)
        ·simp only[kH,Bool.and_eq_true,hcls]at h2
         cases hc:tW C ph<;>rw[hc]at h2<;>cases h2.2
       have hpdi:pd ops i=o.dst:=by simp only[pd,ho,Option.bind_some]
       have hxo:x∈o.op.operands.toList:=by simp[hox,Op.operands]
       have hevx:(lm ops u Dn a).eval x=a.eval x:=NM Dn a (fun d hdm=>Db (hbehind d hdm (hlt' d hdm)).2.1 hxo)
       have hw:=ihm N f L (Dn++ [i]) (fun j=>if j=i then a.eval x else u j) g st a w (by omega) hNf hL hN (by rw[Dc];exact hF1) hc1 (by rw[Dc];exact hc2') (by simp) (by
        rw[List.pairwise_append]
        refine⟨hpw,by simp, ?_⟩
        intro d hdm j hj
        rw[List.mem_singleton.1 hj]
        obtain⟨_,b2,b3⟩:=hbehind d hdm (hlt' d hdm)
        exact⟨hlt' d hdm,o,ho,b2,by rw[hpdi];exact b3⟩) (by
        intro d hdm
        rcases List.mem_append.1 hdm with h2|h2
        ·exact hin d h2
        ·rw[List.mem_singleton.1 h2];exact hiL) (by
        intro d hdm
        rcases List.mem_append.1 hdm with h2|h2
        ·exact hch d h2
        ·rw[List.mem_singleton.1 h2];exact hci) (by
        intro d hdm
        rcases List.mem_append.1 hdm with h2|h2
        ·obtain⟨o',x',k1,k2,k3⟩:=hu d h2
         exact⟨o',x',k1,k2,by rw[if_neg (hneq d h2)];exact k3⟩
        ·rw[List.mem_singleton.1 h2]
         exact⟨o,x,ho,hox,by rw[if_pos rfl]⟩) R hD h
       rw[Dc,Pp,R5 (u':=u) Dn a (fun d hdm=>by rw[if_neg (hneq d hdm)]),if_pos rfl,hpdi]at hw
       unfold wpOp
       rw[ho]
       simp only
       rw[if_pos (vF hog)]
       left
       unfold Oper.wp
       rw[Xk hox,hevx]
       exact hw
      |false=>
       have hgt:∀d,d∈Dn->i<d:=by
        intro d hdm
        rcases Nat.lt_trichotomy d i with h2|h2|h2
        ·have:=(hbehind d hdm h2).1;rw[hasg]at this;cases this
        ·exact absurd h2 (hneq d hdm)
        ·exact h2
       obtain⟨d0,hd0⟩:∃d0,d0∈Dn:=by
        cases Dn with
        |nil=>exact absurd rfl hne
        |cons d _=>exact⟨d,by simp⟩
       have hd0s:=(hmem L d0 (hin d0 hd0)).1
       have hi1:i+1<ops.size:=by have:=hgt d0 hd0;omega
       obtain⟨hog,_,hosel,hocl⟩:=Yu (hahead d0 hd0 (hgt d0 hd0)).1
       have hil0:wV C ops i=false:=loose_pure' i o hi1 ho (.inl hocl) (.inl hosel.2)
       obtain⟨pre,post,hl1,hl2,hl3,hl4⟩:=Ux hL hiL
       have hmay:∀j,j∈pre->wV C ops j=false/\∃p,ops[j]?=some p/\kH C ops p o=true:=by
        intro j hj
        have hji:=hl3 j hj
        obtain⟨p,hjp⟩:∃p,ops[j]?=some p:=⟨_,Array.getElem?_eq_getElem (by omega)⟩
        have hjD:j∉Dn:=fun hm=>by have:=hgt j hm;omega
        have hjL:j∈left ops L:=by rw[hl1];simp[hj]
        have hjM:(nf Dn L).getD j false=false:=by
         rw[xS Dn L j false hDl,if_neg hjD]
         have:=(hmem L j hjL).2
         rwa [ke (by omega)]at this
        have hmp:kH C ops p o=true:=by
         rcases pairs i j o p hji ho hjp with h2|h2|h2
         ·have:=hahi j h2;rw[hjM]at this;cases this
         ·rw[hil0]at h2;cases h2
         ·exact h2
        refine⟨loose_pure' j p (by omega) hjp ?_ (.inr ⟨i,hji,by omega,fun h2=>by have:=hahi j h2;rw[hjM]at this;cases this⟩),p,hjp,hmp⟩
        simp only[kH,Bool.and_eq_true]at hmp
        have:=hmp.2
        cases hc:tW C p<;>rw[hc]at this<;>first|exact .inl rfl|exact .inr rfl|cases this
       rw[hl1]at h
       obtain⟨st1,h1,h2⟩:=adV ho hil0 (by rw[hocl];simp) pre st hmay h
       have hrop:ry C true ops o st (fun st=>zw C ops (pre++post) st k)=some r:=by
        rw[rz (by rw[hocl];simp),h1]
        simpa using h2
       have hLe:∀e,e∈o.after.toList->Region.binds .any e=true->L.getD e.on false=true:=by
        intro e he hb
        have h2:=hedge e he hb
        have hel:=hlt i o (by simpa using ho) e he hb
        rw[xS Dn L e.on false hDl,if_neg (fun hm=>by have:=hgt _ hm;omega)]at h2
        exact h2
       have hs:=uR R hS hrop (next:=fun a1 w1=>(∀d,d∈Dn->∃o x,ops[d]?=some o/\o.op= .assign x/\a1.eval x=u d)->wpAny C.P .any ops X f ((nf Dn L).setIfInBounds i true) (lm ops u Dn a1) w1) (X:=fun _ _ _=>False) (by
        intro g1 st2 a1 w1 hk R1 hD1 hev
        have hw:=ihm (N-1) f (L.setIfInBounds i true) Dn u g1 st2 a1 w1 (by omega) (by omega) (by simpa using hL) (by rw[hl2];rw[hl1]at hN;simp at hN⊢;omega) (by rw[Ls Dn L i hiD];exact hF1)
         (addClosed L i o hL his ho hc1 hLe) (by rw[Ls Dn L i hiD];exact hc2') hne hpw (by
           intro d hdm
           have h3:=hin d hdm
           rw[hl1]at h3
           rw[hl2]
           rcases List.mem_append.1 h3 with h4|h4
           ·exact List.mem_append_left _ h4
           ·rcases List.mem_cons.1 h4 with h5|h5
            ·exact absurd h5 (hneq d hdm)
            ·exact List.mem_append_right _ h5) hch hev R1 (hD1.trans hD) (by rw[hl2];exact hk)
        rw[Ls Dn L i hiD]at hw
        exact hw)
       rw[if_pos (vF hog)]at hs
       have hs':o.wp C.P a w (fun a1 w1=>wpAny C.P .any ops X f ((nf Dn L).setIfInBounds i true) (lm ops u Dn a1) w1) (fun _ _ _=>False):=by
        refine Oper.wp_mono ?_ (aeb hs)
        rintro a1 w1 ⟨hk1,v,ds,rfl⟩
        refine hk1 (fun d hdm=> ?_)
        obtain⟨o',x',k1,k2,k3⟩:=hu d hdm
        obtain⟨_,_,_,od,hod,hko⟩:=hahead d hdm (hgt d hdm)
        rw[k1]at hod;cases hod
        refine⟨o',x',k1,k2, ?_⟩
        rw[zv]
        show(a.put o.dst v).eval x'=_
        rw[eval_put (Db hko (by simp[k2,Op.operands])),k3]
       unfold wpOp
       rw[ho]
       simp only
       rw[if_pos (vF hog)]
       left
       exact adh (N:=fun a1 w1=>wpAny C.P .any ops X f ((nf Dn L).setIfInBounds i true) a1 w1) hosel.1 (fun d hdm=>(hahead d hdm (hgt d hdm)).2.1) (fun d hdm=>(hahead d hdm (hgt d hdm)).2.2.1) hs'
  refine⟨?_, ?_⟩
  ·intro hr
   exfalso
   cases hlf:left ops listed with
   |nil=>rw[hlf]at hl;cases hl
   |cons i rest=>
    have hi:i∈left ops listed:=by rw[hlf];simp
    obtain⟨his,_⟩:=hmem listed i hi
    obtain⟨o,ho⟩:∃o,ops[i]?=some o:=⟨_,Array.getElem?_eq_getElem his⟩
    have:=hready i o hi ho (fun e he hb=>by
     have hei:=hlt i o (by simpa using ho) e he hb
     cases hle:listed.getD e.on false with
     |true=>rfl
     |false=>
      exfalso
      have hes:e.on<listed.size:=by omega
      have hel:e.on∈left ops listed:=List.mem_filter.2 ⟨by simp;omega,by rw[ke hes,hle];rfl⟩
      rw[hlf]at hel hpw
      rcases List.mem_cons.1 hel with h|h
      ·omega
      ·have:=List.rel_of_pairwise_cons hpw h
       omega)
    rw[hr]at this;cases this
  ·intro i hi
   have hil:=hsub listed i hi
   obtain⟨his,hif⟩:=hmem listed i hil
   obtain⟨o,ho⟩:∃o,ops[i]?=some o:=⟨_,Array.getElem?_eq_getElem his⟩
   obtain⟨pre,post,hpp⟩:=List.append_of_mem hil
   rw[hpp]at hpw
   obtain⟨hp1,hp2,hp3⟩:=List.pairwise_append.1 hpw
   have hpre:∀j,j∈pre->j<i:=fun j hj=>hp3 j hj i (by simp)
   have hpost:∀j,j∈post->i<j:=fun j hj=>List.rel_of_pairwise_cons hp2 hj
   have hisz:i<listed.size:=by omega
   have hedge:∀e,e∈o.after.toList->Region.binds .any e=true->listed.getD e.on false=true:=by
    intro e he hb
    have:=(List.mem_filter.1 hi).2
    rw[ho]at this
    simp only[Bool.and_eq_true,Option.map_some,Option.getD_some]at this
    have:=Array.all_eq_true_iff_forall_mem.1 this.2 e (by simpa using he)
    simpa[hb]using this
   have hleft:left ops (listed.setIfInBounds i true)=pre++post:=by
    have e1:left ops (listed.setIfInBounds i true)=(left ops listed).filter fun j=>decide (j≠i):=by
     simp only[left,List.filter_filter]
     apply List.filter_congr
     intro j hj
     rw[lH true hisz]
     by_cases hji:j=i
     ·simp[hji]
     ·simp[hji]
    rw[e1,hpp,List.filter_append,List.filter_cons]
    simp only[ne_eq,not_true_eq_false,decide_false,Bool.false_eq_true,if_false]
    rw[List.filter_eq_self.2 (fun j hj=>by have:=hpre j hj;simp;omega),List.filter_eq_self.2 (fun j hj=>by have:=hpost j hj;simp;omega)]
   have hlen:(left ops (listed.setIfInBounds i true)).length=fuel:=by
    rw[hleft];rw[hpp]at hl;simp at hl⊢;omega
   have hcl':∀(j:Nat) o,ops.toList[j]?=some o->(listed.setIfInBounds i true).getD j false=true->∀e,e∈o.after.toList->Region.binds .any e=true->(listed.setIfInBounds i true).getD e.on false=true:=by
    intro j o' ho' hj e he hb
    rw[lH false hisz]at hj⊢
    split
    ·rfl
    ·by_cases hji:j=i
     ·subst hji
      have:o'=o:=by
       have ho'':ops[j]?=some o':=by simpa using ho'
       rw[ho]at ho'';cases ho'';rfl
      subst this
      exact hedge e he hb
     ·rw[if_neg hji]at hj
      exact hcl j o' ho' hj e he hb
   have edge_listed:∀j,afz o j=true->listed.getD j false=true:=by
    intro j hj
    obtain⟨e,he,hb⟩:=Array.any_eq_true.1 hj
    simp only[Bool.and_eq_true,beq_iff_eq]at hb
    rw[<-hb.1]
    exact hedge o.after[e] (by simp) hb.2
   have left_not:∀(L:Array Bool),L.size=ops.size->∀j,j∈left ops L->L.getD j false=false:=by
    intro L hL j hj
    obtain⟨hjs,hjf⟩:=hmem L j hj
    rwa [ke (by omega)]at hjf
   have loose_pure:∀j p,j+1<ops.size->ops[j]?=some p->(tW C p= .pure\/tW C p= .alloc)->(Fv p=false\/∃i,j<i/\i<ops.size/\j∉(gW ops.toList).getD i [])->wV C ops j=false:=by
    intro j p hji hjp hc hb
    have h1:As ops j=false:=by
     have:Nat.beq (j+1) ops.size=false:=by
      cases hb:Nat.beq (j+1) ops.size with
      |false=>rfl
      |true=>have:=Nat.eq_of_beq_eq_true hb;omega
     simp[As,this]
    have h2:DC C ops j=false:=Uf hjp hc
    simp only[wV,h1,h2,hjp,Bool.false_or]
    rcases hc with hc|hc<;>rw[hc]
    exact Yn hb
   have ahead_listed:∀j,j∈(gW ops.toList).getD i []->listed.getD j false=true:=fun j hj=>
    Dl (fun j=>listed.getD j false=true) ops.toList hcl hlt i o (by simpa using ho) hedge j hj
   have hpair:∀j,j∈pre->wV C ops i=true\/∃p,ops[j]?=some p/\kH C ops p o=true:=by
    intro j hj
    have hji:=hpre j hj
    obtain⟨p,hjp⟩:∃p,ops[j]?=some p:=⟨_,Array.getElem?_eq_getElem (by omega)⟩
    have:=List.all_eq_true.1 (List.all_eq_true.1 hd.2 i (by simpa using his)) j (by simpa using hji)
    rw[hjp,ho]at this
    simp only[Bool.or_eq_true]at this
    rcases this with h1|h1|h1
    ·exfalso
     have hL:=ahead_listed j (by simpa using h1)
     rw[left_not listed hsz j (by rw[hpp];simp[hj])]at hL;cases hL
    ·exact .inl h1
    ·exact .inr ⟨p,hjp,h1⟩
   by_cases hchn:pre≠ []/\DC C ops i=true
   ·obtain⟨hne,hci⟩:=hchn
    obtain⟨o',ho',hasg,_⟩:=DD hci
    rw[ho]at ho';cases ho'
    obtain⟨hog,_,⟨x,hox⟩,hcls⟩:=Lr hasg
    have hw:=chain _ (fuel+1) fuel listed [i] (fun _=>a.eval x) g st a w (Nat.le_refl _) (Nat.le_refl _) hsz hl hlen hcl hcl' (by simp) (by simp) (by simpa using hil) (by simpa using hci)
     (by intro d hdm;rw[List.mem_singleton.1 hdm];exact⟨o,x,ho,hox,rfl⟩) R hD h
    unfold wpOp
    rw[ho]
    simp only
    rw[if_pos (vF hog)]
    left
    unfold Oper.wp
    rw[Xk hox]
    have e:lm ops (fun _=>a.eval x) [i] a=a.put o.dst (a.eval x):=by simp only[lm,pd,ho,Option.bind_some]
    rw[e]at hw
    exact hw
   by_cases hX:pre≠ []/\wV C ops i=true
   ·obtain⟨hne,hlo⟩:=hX
    have hpx:∀j,j∈pre->R3 ops (gW ops.toList) j i=true:=by
     intro j hj
     have hnl:=left_not listed hsz j (by rw[hpp];simp[hj])
     simp only[wV,ho,Bool.or_eq_true]at hlo
     rcases hlo with(hla|hlc)|hlo
     ·exfalso
      simp only[As,ho,Bool.and_eq_true]at hla
      have:=edge_listed j (List.all_eq_true.1 hla.2 j (by simpa using hpre j hj))
      rw[hnl]at this;cases this
     ·exact absurd ⟨hne,hlc⟩ hchn
     ·have key:((List.range i).all fun j=>((gW ops.toList).getD i []).contains j||R3 ops (gW ops.toList) j i)=true:=by
       split at hlo
       ·exact hlo
       ·exact hlo
       ·simp only[Bool.and_eq_true]at hlo
        refine List.all_eq_true.2 fun j hj=> ?_
        rw[Bool.or_eq_true]
        exact .inl (List.all_eq_true.1 hlo.2 j hj)
       ·cases hlo
      have:=List.all_eq_true.1 key j (by simpa using hpre j hj)
      simp only[Bool.or_eq_true]at this
      rcases this with h1|h1
      ·exfalso
       have hL:=ahead_listed j (by simpa using h1)
       rw[hnl]at hL;cases hL
      ·exact h1
    have px:∀j,R3 ops (gW ops.toList) j i=true->∃p,ops[j]?=some p/\quiet p=true/\RM o=true/\kf o.dst p=true/\kf p.dst o=true/\p.dst≠o.dst/\∀k,k<ops.size->i<k->j∈(gW ops.toList).getD k []:=by
     intro j hj
     unfold R3 at hj
     rw[ho]at hj
     split at hj
     ·rename_i p o' hjp ho'
      cases ho'
      simp only[Bool.and_eq_true,bne_iff_ne,ne_eq]at hj
      obtain⟨⟨⟨⟨⟨h1,h2⟩,h3⟩,h4⟩,h5⟩,h6⟩:=hj
      refine⟨p,hjp,h1,h2,h3,h4,h5,fun k hk hik=> ?_⟩
      have:=List.all_eq_true.1 h6 k (by simpa using hk)
      simp only[Bool.or_eq_true]at this
      rcases this with h|h
      ·have:=Nat.le_of_ble_eq_true h;omega
      ·simpa using h
     ·cases hj
    have hput:RM o=true:=by
     cases hpc:pre with
     |nil=>exact absurd hpc hne
     |cons j _=>
      obtain⟨_,_,_,h,_⟩:=px j (hpx j (by rw[hpc];simp))
      exact h
    have hog:o.guard=none:=by
     simp only[RM,Bool.and_eq_true]at hput
     simpa using hput.1
    have qpure:∀p,quiet p=true->tW C p= .pure/\p.guard=none/\p.dst≠none:=by
     intro p hq
     simp only[quiet,Bool.and_eq_true]at hq
     obtain⟨⟨h1,h2⟩,h3⟩:=hq
     refine⟨?_,by simpa using h1,fun e=>by rw[e]at h2;cases h2⟩
     split at h3
     ·rename_i hop;simp only[tW,hop]
     ·rename_i hop;simp only[tW,hop]
     ·rename_i hop;simp only[tW,hop]
     ·rename_i hop;simp only[tW,hop]
     ·cases h3
    have wnone:∀(q:Oper) (tm:Array Value),q.guard=none->Region.wanted q (yielded ops tm)=true:=fun q tm hq=>vF hq
    have early:∀(n:Nat) (L:Array Bool) (g:Gh) (st:St) (a:Act) (w:World) (pre':List Nat),pre'.length=n->L.size=ops.size->
     (∀(j:Nat) o,ops.toList[j]?=some o->L.getD j false=true->∀e,e∈o.after.toList->Region.binds .any e=true->L.getD e.on false=true)->
     left ops L=pre'++i::post->(∀e,e∈o.after.toList->Region.binds .any e=true->L.getD e.on false=true)->(∀j,j∈pre'->R3 ops (gW ops.toList) j i=true)->
     dG C E g st a.tmps w->a.defers=D->zw C ops (pre'++i::post) st k=some r->
     n+post.length<=fuel->o.wp C.P a w (wpAny C.P .any ops X (n+post.length) (L.setIfInBounds i true)) (fun _ _ _=>False):=by
     intro n
     induction n with
     |zero=>
      intro L g st a w pre' hpl hLs hLc hLl hLe _ R hD h hfu
      have:pre'=[]:=List.length_eq_zero_iff.1 hpl
      subst this
      simp only[List.nil_append,zw,ho]at h hLl
      have hleft':left ops (L.setIfInBounds i true)=post:=by
       have e1:left ops (L.setIfInBounds i true)=(left ops L).filter fun j=>decide (j≠i):=by
        simp only[left,List.filter_filter]
        apply List.filter_congr
        intro j hj
        rw[lH true (by omega)]
        by_cases hji:j=i
        ·simp[hji]
        ·simp[hji]
       rw[e1,hLl,List.filter_cons]
       simp only[ne_eq,not_true_eq_false,decide_false,Bool.false_eq_true,if_false]
       exact List.filter_eq_self.2 (fun j hj=>by have:=hpost j hj;simp;omega)
      have h1:=uR R hS h (next:=wpAny C.P .any ops X (0+post.length) (L.setIfInBounds i true)) (X:=fun _ _ _=>False) ?_
      ·rwa [if_pos (wnone o a.tmps hog)]at h1
      ·intro g' st' a' w' hk R' hD'
       refine ih' _ (by omega) _ g' st' a' w' (by simpa using hLs) (by rw[hleft'];omega) ?_ R' (hD'.trans hD) (by rw[hleft'];exact hk)
       intro j o' ho' hj e he hb
       rw[lH false (by omega)]at hj⊢
       split
       ·rfl
       ·by_cases hji:j=i
        ·subst hji
         have:o'=o:=by
          have ho'':ops[j]?=some o':=by simpa using ho'
          rw[ho]at ho'';cases ho'';rfl
         subst this
         exact hLe e he hb
        ·rw[if_neg hji]at hj
         exact hLc j o' ho' hj e he hb
     |succ n ihn=>
      intro L g st a w pre' hpl hLs hLc hLl hLe hLp R hD h hfu
      have hLpw:List.Pairwise (·<·) (left ops L):=List.pairwise_lt_range.filter _
      rw[hLl]at hLpw
      obtain⟨hq1,_,hq3⟩:=List.pairwise_append.1 hLpw
      have hLpre:∀j,j∈pre'->j<i:=fun j hj=>hq3 j hj i (by simp)
      have inl:∀j,j∈pre'->j∈left ops L:=fun j hj=>by rw[hLl];simp[hj]
      have first:∀(pa:List Nat) (j:Nat) (pb:List Nat),pre'=pa++j::pb->(∀(p:Oper),ops[j]?=some p->∀e,e∈p.after.toList->Region.binds .any e=true->L.getD e.on false=true)->
       ∃p v,ops[j]?=some p/\quiet p=true/\kf o.dst p=true/\kf p.dst o=true/\p.dst≠o.dst/\
        (∀(ρ:Operand->Value) (w':World),(∀x,x∈p.op.operands.toList->ρ x=a.eval x)->(execOp ρ p).run C.P w'= .ok (.value v) w')/\
        o.wp C.P (a.put p.dst v) w (wpAny C.P .any ops X (n+post.length) ((L.setIfInBounds j true).setIfInBounds i true)) (fun _ _ _=>False):=by
       intro pa j pb hpe hje
       have hjm:j∈pre':=by rw[hpe];simp
       obtain⟨p,hjp,hqp,_,hk1,hk2,hdd,hcl3⟩:=px j (hLp j hjm)
       obtain⟨hpc,hpg,hpd⟩:=qpure p hqp
       have hji:=hLpre j hjm
       have hlj:wV C ops j=false:=loose_pure j p (by omega) hjp (.inl hpc) (.inl (WS hqp))
       have hah:∀x,x∈(gW ops.toList).getD j []->L.getD x false=true:=fun x hx=>
        Dl (fun j=>L.getD j false=true) ops.toList hLc hlt j p (by simpa using hjp) (hje p hjp) x hx
       have hmay:∀q,q∈pa->wV C ops q=false/\∃p',ops[q]?=some p'/\kH C ops p' p=true:=by
        intro q hq
        have hqm:q∈pre':=by rw[hpe];simp[hq]
        have hqj:q<j:=by
         rw[hpe]at hq1
         exact(List.pairwise_append.1 hq1).2.2 q hq j (by simp)
        obtain⟨p',hqp',hqq,_⟩:=px q (hLp q hqm)
        refine⟨loose_pure q p' (by omega) hqp' (.inl (qpure p' hqq).1) (.inl (WS hqq)),p',hqp', ?_⟩
        have:=List.all_eq_true.1 (List.all_eq_true.1 hd.2 j (by simp;omega)) q (by simpa using hqj)
        rw[hqp',hjp]at this
        simp only[Bool.or_eq_true]at this
        rcases this with h1|h1|h1
        ·exfalso
         have h2:=hah q (by simpa using h1)
         rw[left_not L hLs q (inl q hqm)]at h2;cases h2
        ·rw[hlj]at h1;cases h1
        ·exact h1
       have hrun:zw C ops (pa++j::(pb++i::post)) st k=some r:=by
        rw[hpe]at h;simpa using h
       obtain⟨st1,h1,h2⟩:=adV hjp hlj (by rw[hpc];simp) pa st hmay hrun
       have hrop:ry C true ops p st (fun st=>zw C ops ((pa++pb)++i::post) st k)=some r:=by
        rw[rz (by rw[hpc];simp),h1]
        simpa using h2
       obtain⟨v,hv⟩:=acX R hqp hrop
       refine⟨p,v,hjp,hqp,hk1,hk2,hdd,hv, ?_⟩
       have hleftL:left ops (L.setIfInBounds j true)=(pa++pb)++i::post:=by
        have e1:left ops (L.setIfInBounds j true)=(left ops L).filter fun q=>decide (q≠j):=by
         simp only[left,List.filter_filter]
         apply List.filter_congr
         intro q hq
         rw[lH true (by omega)]
         by_cases hqj:q=j
         ·simp[hqj]
         ·simp[hqj]
        rw[e1,hLl,hpe]
        rw[hpe]at hq1
        obtain⟨_,hr2,hr3⟩:=List.pairwise_append.1 hq1
        simp only[List.filter_append,List.filter_cons,ne_eq,not_true_eq_false,decide_false,Bool.false_eq_true,if_false]
        rw[List.filter_eq_self.2 (fun q hq=>by have:=hr3 q hq j (by simp);simp;omega),List.filter_eq_self.2 (fun q hq=>by have:=List.rel_of_pairwise_cons hr2 hq;simp;omega),if_pos (by simp;omega),
         List.filter_eq_self.2 (fun q hq=>by have:=hpost q hq;simp;omega)]
       have hclL:∀(q:Nat) o,ops.toList[q]?=some o->(L.setIfInBounds j true).getD q false=true->∀e,e∈o.after.toList->Region.binds .any e=true->(L.setIfInBounds j true).getD e.on false=true:=by
        intro q o' ho' hq e he hb
        rw[lH false (by omega)]at hq⊢
        split
        ·rfl
        ·by_cases hqj:q=j
         ·subst hqj
          exact hje o' (by simpa using ho') e he hb
         ·rw[if_neg hqj]at hq
          exact hLc q o' ho' hq e he hb
       have hwp:=uR R hS hrop (next:=fun a1 w1=>o.wp C.P a1 w1 (wpAny C.P .any ops X (n+post.length) ((L.setIfInBounds j true).setIfInBounds i true)) (fun _ _ _=>False)) (X:=fun _ _ _=>False) (by
        intro g1 st2 a1 w1 hk R1 hD1
        refine ihn (L.setIfInBounds j true) g1 st2 a1 w1 (pa++pb) ?_ (by simpa using hLs) hclL hleftL ?_ ?_ R1 (hD1.trans hD) hk (by omega)
        ·rw[hpe]at hpl;simp at hpl⊢;omega
        ·intro e he hb
         rw[lH false (by omega)]
         split
         ·rfl
         ·exact hLe e he hb
        ·intro q hq
         refine hLp q ?_
         rw[hpe]
         rcases List.mem_append.1 hq with h|h<;>simp[h])
       rw[if_pos (wnone p a.tmps hpg)]at hwp
       unfold Oper.wp at hwp
       rw[hv a.eval w (fun _ _=>rfl)]at hwp
       exact hwp
      obtain⟨j0,pb0,hp0⟩:∃j0 pb0,pre'=j0::pb0:=by
       cases pre' with
       |nil=>simp at hpl
       |cons x xs=>exact⟨x,xs,rfl⟩
      have hj0m:j0∈pre':=by rw[hp0];simp
      obtain⟨q0,hq0,_⟩:=px j0 (hLp j0 hj0m)
      have hj0e:∀(p:Oper),ops[j0]?=some p->∀e,e∈p.after.toList->Region.binds .any e=true->L.getD e.on false=true:=by
       intro p hp e he hb
       have hel:=hlt j0 p (by simpa using hp) e he hb
       have hj0i:=hLpre j0 hj0m
       cases hle:L.getD e.on false with
       |true=>rfl
       |false=>
        exfalso
        have hmm:e.on∈left ops L:=List.mem_filter.2 ⟨by simp;omega,by rw[ke (by omega),hle];rfl⟩
        rw[hLl,hp0]at hmm
        rw[hp0,List.cons_append]at hLpw
        rcases List.mem_cons.1 hmm with h|h
        ·omega
        ·have:=List.rel_of_pairwise_cons hLpw h;omega
      obtain⟨p0,v0,hjp0,hqp0,hk01,hk02,hdd0,hv0,hw0⟩:=first [] j0 pb0 hp0 hj0e
      obtain⟨u,w',hu⟩:=WQ hput hw0
      have same:∀(d:Option Tmp) (v:Value),kf d o=true->∀x,x∈o.op.operands.toList->(a.put d v).eval x=(a.put p0.dst v0).eval x:=by
       intro d v hk x hx
       rw[A7 hk hx,A7 hk02 hx]
      refine(hu a _ _ (fun x hx=>(A7 hk02 hx).symm)).2 ?_
      have hjoff:∀j,j∈Region.ready .any ops (L.setIfInBounds i true)->j∈pre'/\∀(p:Oper),ops[j]?=some p->∀e,e∈p.after.toList->Region.binds .any e=true->L.getD e.on false=true:=by
       intro j hj
       have hjl:=hsub _ j hj
       have hjL:j∈left ops L/\j≠i:=by
        obtain⟨h1,h2⟩:=List.mem_filter.1 hjl
        rw[lH true (by omega)]at h2
        by_cases hji:j=i
        ·rw[if_pos hji]at h2;cases h2
        ·rw[if_neg hji]at h2
         exact⟨List.mem_filter.2 ⟨h1,h2⟩,hji⟩
       have hjs:=(hmem L j hjL.1).1
       have hje:∀(p:Oper),ops[j]?=some p->∀e,e∈p.after.toList->Region.binds .any e=true->(L.setIfInBounds i true).getD e.on false=true:=by
        intro p hp e he hb
        have:=(List.mem_filter.1 hj).2
        rw[hp]at this
        simp only[Bool.and_eq_true,Option.map_some,Option.getD_some]at this
        have:=Array.all_eq_true_iff_forall_mem.1 this.2 e (by simpa using he)
        simpa[hb]using this
       have hjp:j∈pre':=by
        have:=hjL.1
        rw[hLl]at this
        rcases List.mem_append.1 this with h|h
        ·exact h
        ·exfalso
         rcases List.mem_cons.1 h with h|h
         ·exact hjL.2 h
         ·have hij:=hpost j h
          obtain⟨_,_,_,_,_,_,_,hcl3⟩:=px j0 (hLp j0 hj0m)
          have hin:=hcl3 j hjs hij
          obtain⟨q,hq⟩:∃q,ops[j]?=some q:=⟨_,Array.getElem?_eq_getElem hjs⟩
          have hcLi:∀(k:Nat) o',ops.toList[k]?=some o'->(L.setIfInBounds i true).getD k false=true->∀e,e∈o'.after.toList->Region.binds .any e=true->(L.setIfInBounds i true).getD e.on false=true:=by
           intro k o' ho' hk e he hb
           rw[lH false (by omega)]at hk⊢
           split
           ·rfl
           ·by_cases hki:k=i
            ·subst hki
             have:o'=o:=by
              have ho'':ops[k]?=some o':=by simpa using ho'
              rw[ho]at ho'';cases ho'';rfl
             subst this
             exact hLe e he hb
            ·rw[if_neg hki]at hk
             exact hLc k o' ho' hk e he hb
          have hl0:=Dl (fun j=>(L.setIfInBounds i true).getD j false=true) ops.toList hcLi hlt j q (by simpa using hq) (hje q hq) j0 hin
          have hj0i:=hLpre j0 hj0m
          rw[lH false (by omega),if_neg (by omega),left_not L hLs j0 (inl j0 hj0m)]at hl0
          cases hl0
       refine⟨hjp,fun p hp e he hb=> ?_⟩
       have:=hje p hp e he hb
       have hel:=hlt j p (by simpa using hp) e he hb
       have hji:=hLpre j hjp
       rwa [lH false (by omega),if_neg (by omega)]at this
      rw[show n+1+post.length=(n+post.length)+1 by omega]
      refine⟨fun hr=> ?_,fun j hj=> ?_⟩
      ·exfalso
       have hj0i:=hLpre j0 hj0m
       have hjr:j0∈Region.ready .any ops (L.setIfInBounds i true):=by
        refine List.mem_filter.2 ⟨by simp;omega, ?_⟩
        rw[lH true (by omega),if_neg (by omega),ke (by omega),left_not L hLs j0 (inl j0 hj0m),hjp0]
        simp only[Bool.not_false,Bool.true_and,Option.map_some,Option.getD_some]
        rw[Array.all_eq_true_iff_forall_mem]
        intro e hem
        cases hb:Region.binds .any e with
        |false=>rfl
        |true=>
         simp only[Bool.not_true,Bool.false_or]
         have hel:=hlt j0 p0 (by simpa using hjp0) e (by simpa using hem) hb
         rw[lH false (by omega),if_neg (by omega)]
         exact hj0e p0 hjp0 e (by simpa using hem) hb
       rw[hr]at hjr;cases hjr
      ·obtain⟨hjp',hje'⟩:=hjoff j hj
       obtain⟨pa,pb,hpab⟩:=List.append_of_mem hjp'
       obtain⟨p,v,hjp,hqp,hk1,hk2,hdd,hv,hw⟩:=first pa j pb hpab hje'
       have hw2:=(hu (a.put p.dst v) _ _ (same p.dst v hk2)).1 hw
       obtain⟨_,hpg,_⟩:=qpure p hqp
       unfold wpOp
       rw[hjp]
       simp only
       rw[if_pos (wnone p _ hpg)]
       left
       unfold Oper.wp
       rw[hv _ w' (fun x hx=>A7 hk1 hx)]
       show wpAny C.P .any ops X (n+post.length) ((L.setIfInBounds i true).setIfInBounds j true) ((a.put o.dst u).put p.dst v) w'
       have hij:i≠j:=by have:=hLpre j hjp';omega
       rw[put_comm (fun e=>hdd e.symm),Array.setIfInBounds_comm _ _ hij]
       exact hw2
    have hln:pre.length+post.length=fuel:=by rw[hleft]at hlen;simpa using hlen
    have hfin:=early pre.length listed g st a w pre rfl hsz hcl hpp hedge hpx R hD (by rw[<-hpp];exact h) (by omega)
    obtain⟨u,w',hu⟩:=WQ hput hfin
    unfold wpOp
    rw[ho]
    simp only
    rw[if_pos (wnone o a.tmps hog)]
    left
    have h1:=(hu a _ _ (fun _ _=>rfl)).1 hfin
    rw[hln]at h1
    exact(hu a _ _ (fun _ _=>rfl)).2 h1
   have hmay:∀j,j∈pre->wV C ops j=false/\∃p,ops[j]?=some p/\kH C ops p o=true:=by
    intro j hj
    obtain⟨p,hjp,hm⟩:=(hpair j hj).resolve_left (fun e=>hX ⟨fun e'=>(by rw[e']at hj;cases hj),e⟩)
    have hji:=hpre j hj
    refine⟨loose_pure j p (by omega) hjp ?_ (.inr ⟨i,hji,his,fun h2=>by have hL:=ahead_listed j h2;rw[left_not listed hsz j (by rw[hpp];simp[hj])]at hL;cases hL⟩),p,hjp,hm⟩
    simp only[kH,Bool.and_eq_true]at hm
    have:=hm.2
    cases hc:tW C p<;>rw[hc]at this<;>first|exact .inl rfl|exact .inr rfl|cases this
   rw[hpp]at h
   have hrun:ry C (!wV C ops i) ops o st (fun st=>zw C ops (left ops (listed.setIfInBounds i true)) st k)=some r:=by
    rw[hleft]
    cases hpf:pre with
    |nil=>rw[hpf]at h;simpa only[List.nil_append,zw,ho]using h
    |cons p pr=>
     have hpm:p∈pre:=by rw[hpf];simp
     obtain⟨_,q,hq,hqm⟩:=hmay p hpm
     have hoc:tW C o≠ .other:=by
      intro e
      simp only[kH,Bool.and_eq_true,e]at hqm
      cases hc:tW C q<;>rw[hc]at hqm<;>cases hqm.2
     have hsi:wV C ops i=false:=by
      cases hla:wV C ops i with
      |false=>rfl
      |true=>exact(hX ⟨by rw[hpf];simp,hla⟩).elim
     rw[<-hpf,hsi,Bool.not_false]
     obtain⟨st',h1,h2⟩:=adV ho hsi hoc pre st hmay h
     rw[rz hoc,h1]
     exact h2
   have hop:=uR R hS hrun (next:=wpAny C.P .any ops X fuel (listed.setIfInBounds i true)) (X:=X)
    (fun g' st' a' w' hk R' hD'=>ih _ g' st' a' w' (by simpa using hsz) hlen hcl' R' (hD'.trans hD) hk)
   unfold wpOp
   rw[ho]
   simp only
   split
   ·rename_i hw
    rw[if_pos hw]at hop
    exact .inl hop
   ·rename_i hw
    rw[if_neg hw]at hop
    exact hop
theorem ZV(hm:C.P.follows .mixedOrders=true)(hS:∀f c,C.ρ f=some c->ag C f c){id:Nat}{ops:Array Oper}{k:St->Option Q}{r:Q}{X:Exit->Act->World->Prop}
 (R:dG C E g st a.tmps w) (hd:Uh C ops=true) (h:zw C ops (List.range ops.size) st k=some r) (hn:Next C E a.defers k r (X .normal)):(Code.region id ops true).wp C.P X a w:=by
 have hall:left ops (Array.replicate ops.size false)=List.range ops.size:=by
  simp only[left]
  rw[List.filter_eq_self]
  intro i hi
  have hi:i<ops.size:=by simpa using hi
  simp[Array.getD_eq_getD_getElem?,hi]
 refine wp_region_any hm (abe hS hd hn ops.size (Array.replicate ops.size false) g st a _ (by simp) (by rw[hall];simp) ?_ (R.grow (sS.drew w)) rfl ?_)
 ·intro j o ho hj
  exfalso
  simp only[Array.getD_eq_getD_getElem?,Array.getElem?_replicate]at hj
  split at hj<;>cases hj
 ·rw[hall];exact h
end
end Go.Vai
