/- No conditions. -/
import Derived.Test.YtjkljnflaifbhaaGreatDoorVai6
namespace Go.Vai
open Go
section
variable {C:gY} {g:Gh} {w:World} {Q:Type} {k:AV->Option Q} {r:Q}
theorem RB{x:AV}{vx:Value}{i:Nat}(hx:kl g w x vx)(h:GI x i k=some r):tM C g w (Instr.extract vx i) k r:=by
 unfold GI at h
 split at h
 ·rename_i l
  obtain⟨vs,rfl,hl⟩:=hx
  split at h
  ·rename_i y hy
   have key:∀(l:List Val) (vs:List Value) (i:Nat),Yb g w l vs->l[i]?=some y->∃v,vs[i]?=some v/\NV g w y v:=by
    intro l
    induction l with
    |nil=>intro vs i _ h;simp at h
    |cons z r ih=>
     intro vs i h hi
     obtain⟨v,vs',rfl,h1,h2⟩:=h
     cases i with
     |zero=>simp at hi;subst hi;exact⟨v,rfl,h1⟩
     |succ i=>exact ih vs' i h2 (by simpa using hi)
   obtain⟨v,hv,hn⟩:=key l vs.toList i hl hy
   have hv':vs[i]?=some v:=by simpa using hv
   exact⟨_,v,h,by simp[Instr.extract,hv'],hn⟩
  ·cases h
 ·cases h
theorem adm{T:Option TypeId}{x:AV}{vx:Value}(hx:kl g w x vx)(h:aa7 C.P T x k=some r)(Ty:TypeId)(ats:Array TypeId)(hT:ats[0]?=T):
 tM C g w (Builtin.len_ ats Ty #[vx]) k r:=by
 unfold aa7 at h
 cases T with
 |none=>simp at h
 |some T=>
  simp only[Option.bind_some]at h
  split at h
  ·rename_i s hu
   have:=hx.v_inv;subst this
   exact tM.v h (by simp[Builtin.len_,hT,an hu,goInt])
  ·rename_i hu
   obtain⟨A,cap,hv,_⟩:=hx.one_inv.2 (.slot 0 0 0)
   simp only[List.cons.injEq,and_true]at hv
   subst hv
   exact tM.v h (by simp[Builtin.len_,hT,an hu,goInt])
  ·rename_i hu
   obtain⟨⟨A,cap,hv,_⟩,_⟩:=hx.one_inv.2 (.slot 0 0 0)
   subst hv
   exact tM.v h (by simp[Builtin.len_,hT,an hu,goInt])
  ·rename_i hu
   obtain⟨A,hv⟩:=hx.one_inv.2 (.slot 0 0 0)
   subst hv
   exact tM.v h (by simp[Builtin.len_,hT,an hu,goInt])
  ·cases h
def vG(g:Gh)(w:World):List AV->List Value->Prop
 |[],vs=>vs=[]
 |a::r,vs=>∃v vs',vs=v::vs'/\kl g w a v/\vG g w r vs'
theorem ab5{mx:Bool}{x y z:AV}{vx vy:Value}(hx:kl g w x vx)(hy:kl g w y vy)(h:Wa mx x y=some z):
 ∃v,(if mx then Builtin.max2 vx vy else Builtin.min2 vx vy).run C.P w= .ok v w/\kl g w z v:=by
 unfold Wa at h
 split at h
 ·have e1:=hx.v_inv;have e2:=hy.v_inv;subst e1;subst e2
  simp only[Option.some.injEq]at h
  subst h
  cases mx
  ·exact⟨_,by simp[Builtin.min2],kl.v _⟩
  ·exact⟨_,by simp[Builtin.max2],kl.v _⟩
 ·cases h
theorem aaq{mx:Bool}{xs:List AV}{vs:Array Value}(hx:vG g w xs vs.toList)(h:ZM mx xs k=some r)(ats:Array TypeId)(Ty:TypeId):
 tM C g w (if mx then Builtin.max_ ats Ty vs else Builtin.min_ ats Ty vs) k r:=by
 have key:∀(l:List AV) (vl:List Value) (a z:AV) (v:Value),vG g w l vl->kl g w a v->l.foldl (fun acc y=>acc.bind fun x=>Wa mx x y) (some a)=some z->
  ∃u,(vl.foldlM (if mx then Builtin.max2 else Builtin.min2) v).run C.P w= .ok u w/\kl g w z u:=by
  intro l
  induction l with
  |nil=>
   intro vl a z v hl ha h
   simp only[vG]at hl;subst hl
   simp only[List.foldl_nil,Option.some.injEq]at h;subst h
   exact⟨v,by simp,ha⟩
  |cons y r ih=>
   intro vl a z v hl ha h
   obtain⟨u,vl',rfl,hy,hr⟩:=hl
   simp only[List.foldl_cons,Option.bind_some]at h
   cases hm:Wa mx a y with
   |none=>
    rw[hm]at h
    have:∀(l:List AV),l.foldl (fun acc y=>acc.bind fun x=>Wa mx x y) none=none:=by
     intro l;induction l with
     |nil=>rfl
     |cons _ _ ih=>simpa using ih
    rw[this]at h;cases h
   |some b=>
    rw[hm]at h
    obtain⟨v',hv',hb⟩:=ab5 (C:=C) ha hy hm
    obtain⟨u',hu',hz⟩:=ih vl' b z v' hr hb h
    refine⟨u', ?_,hz⟩
    cases mx
    ·simp only[Bool.false_eq_true,if_false]at hv' hu'⊢
     simp[List.foldlM_cons,hv',hu']
    ·simp only[if_true]at hv' hu'⊢
     simp[List.foldlM_cons,hv',hu']
 unfold ZM at h
 split at h
 ·rename_i x r'
  obtain⟨v,vl,hv,h1,h2⟩:=hx
  split at h
  ·rename_i z hz
   obtain⟨u,hu,hn⟩:=key r' vl x z v h2 h1 hz
   refine⟨z,u,h, ?_,hn⟩
   cases mx
   ·simp only[Bool.false_eq_true,if_false]at hu⊢;simp only[Builtin.min_,hv,hu]
   ·simp only[if_true]at hu⊢;simp only[Builtin.max_,hv,hu]
  ·cases h
 ·cases h
theorem Ud:∀{l:List AV} {vs:List Value} {caps:List (Nat×Nat)},vG g w l vs->Uc l=some caps->
 vs.length=caps.length/\∀(i:Nat) (c:Nat×Nat),caps[i]?=some c->∃n,g.bx c.1=some n/\vs[i]?=some (.pointer (some ⟨n,c.2,none⟩))
 |[],vs,caps,h,hc=>by
  simp only[vG]at h;subst h
  simp only[Uc,Option.some.injEq]at hc;subst hc
  exact⟨rfl,fun i c h=>by simp at h⟩
 |a::r,vs,caps,h,hc=>by
  obtain⟨v,vs',rfl,h1,h2⟩:=h
  unfold Uc at hc
  split at hc
  ·rename_i e;cases e
  ·rename_i b o r' e
   injection e with e1 e2
   subst e1;subst e2
   simp only[Option.map_eq_some_iff]at hc
   obtain⟨caps',hc',rfl⟩:=hc
   obtain⟨h3,h4⟩:=Ud h2 hc'
   obtain⟨n,rfl,hb⟩:=h1.one_inv.2 (.slot 0 0 0)
   refine⟨by simp[h3],fun i c hi=> ?_⟩
   cases i with
   |zero=>simp at hi;subst hi;exact⟨n,hb,rfl⟩
   |succ i=>exact h4 i c (by simpa using hi)
  ·cases hc
theorem Xe{f:Fn}{a b:List AV}{va vb:Array Value}(ha:vG g w a va.toList)(hb:vG g w b vb.toList)(h:Dk f a b k=some r):
 tM C g w (Instr.makeFunc f va vb) k r:=by
 unfold Dk at h
 split at h
 ·rename_i f l hc
  simp only[vG]at ha
  have hva:va= #[]:=by simpa using ha
  subst hva
  obtain⟨h1,h2⟩:=Ud hb hc
  refine⟨_,_,h,by simp[Instr.makeFunc],kl.c ⟨rfl,fun _=>⟨vb,rfl,by simpa using h1,fun i c hi=> ?_⟩⟩⟩
  obtain⟨n,hn,hv⟩:=h2 i c hi
  exact⟨n,hn,by simpa using hv⟩
 ·cases h
theorem adk{T:Option TypeId}{at':Array TypeId}{x:AV}{vx:Value}(hT:at'[0]?=T)(ty:TypeId)(hx:kl g w x vx)(h:aa2 C.P T x k=some r):
 tM C g w (Builtin.cap_ at' ty #[vx]) k r:=by
 unfold aa2 at h
 cases T with
 |none=>simp at h
 |some T=>
  split at h
  ·rename_i hu
   obtain⟨⟨A,cap,hv,hc,_⟩,_⟩:=hx.one_inv.2 (.slot 0 0 0)
   subst hv
   have hu':C.P.underlying T=some (.slice _):=hu
   exact⟨_, .int .i64 cap,h,by simp[Builtin.cap_,hT,an hu',goInt],kl.c ⟨rfl,fun _=>⟨cap,rfl,hc⟩⟩⟩
  ·cases h
theorem Zd{c:CV}{v:Value}(hc:c.solid=true)(h:cC g w c v []):v.cells= #[v]:=by
 cases c with
 |np cs=>cases hc
 |undef=>cases hc
 |v x=>
  have:=h.2 (.slot 0 0 0)
  simp only[cu]at this
  subst this
  cases v<;>first|rfl|cases hc
 |emp=>obtain⟨A,rfl⟩:=h.2 (.slot 0 0 0);rfl
 |sl t l=>
  obtain⟨A,cap,hv,_⟩:=h.2 (.slot 0 0 0)
  simp only[List.cons.injEq,and_true]at hv
  subst hv;rfl
 |own t l=>obtain⟨lo,A,cap,rfl,_⟩:=h;rfl
 |view q f lo t l=>obtain⟨⟨A,cap,rfl,_⟩,_⟩:=h.2 (.slot 0 0 0);rfl
 |lb n=>obtain⟨m,rfl,_⟩:=h.2 (.slot 0 0 0);rfl
 |ptr b o=>obtain⟨n,rfl,_⟩:=h.2 (.slot 0 0 0);rfl
 |gp b o=>
  have:v= .pointer (some ⟨_,_,none⟩):=h.2 (.slot 0 0 0)
  subst this;rfl
 |ea t x o=>obtain⟨b,off,cs,e,fz,rfl,_⟩:=h.2 (.slot 0 0 0);rfl
 |va q i t x o=>obtain⟨b,off,n,c,cs,e,rfl,_⟩:=h.2 (.slot 0 0 0);rfl
 |fn f caps=>obtain⟨cvs,rfl,_⟩:=h.2 (.slot 0 0 0);rfl
theorem NV.cells{x:Val}{v:Value}(h:NV g w x v)(hs:(x.agg||x.cs.all CV.solid)=true):bg g w x.cs v.cells.toList:=by
 obtain⟨a,cs⟩:=x
 cases a with
 |true=>obtain⟨vs,rfl,h⟩:=h;exact h
 |false=>
  have h':bg g w cs [v]:=h
  cases cs with
  |nil=>simp[bg]at h'
  |cons c r=>
   obtain⟨u,vs',hv,h1,h2⟩:=h'
   simp only[List.cons.injEq]at hv
   obtain⟨rfl,rfl⟩:=hv
   simp only[List.all_cons,Bool.or_eq_true,Bool.and_eq_true]at hs
   rw[Zd (hs.resolve_left (by simp)).1 h1]
   exact⟨v,[],rfl,h1,h2⟩
theorem Wp(off:Nat):∀(l:List Value) (j:Nat) (arr:Array Value),off+j+l.length<=arr.size->
 ((l.zipIdx j).foldl (fun cs (x:Value×Nat)=>cs.setIfInBounds (off+x.2) x.1) arr).toList=
   arr.toList.take (off+j)++l++arr.toList.drop (off+j+l.length)
 |[],j,arr,h=>by simp
 |v::r,j,arr,h=>by
  simp only[List.zipIdx_cons,List.foldl_cons]
  rw[Wp off r (j+1) _ (by simp only[List.length_cons]at h;simp;omega)]
  simp only[List.length_cons]at h
  apply List.ext_getElem?
  intro i
  simp only[Array.toList_setIfInBounds,List.getElem?_append,List.length_append,List.length_take,List.length_set,Array.length_toList,List.length_cons,
   List.getElem?_take,List.getElem?_drop,List.getElem?_set,List.getElem?_cons]
  have hmin:min (off+(j+1)) arr.size=off+(j+1):=by omega
  have hmin':min (off+j) arr.size=off+j:=by omega
  rw[hmin,hmin']
  by_cases h1:i<off+j
  ·rw[if_pos (by omega),if_pos (by omega),if_pos (by omega),if_neg (by omega),if_pos (by omega),if_pos (by omega),if_pos (by omega)]
  ·by_cases h2:i=off+j
   ·subst h2
    rw[if_pos (by omega),if_pos (by omega),if_pos (by omega),if_pos (by omega),if_pos (by omega)]
    rw[if_pos (by omega),if_neg (by omega)]
    try simp
   ·by_cases h3:i<off+(j+1)+r.length
    ·rw[if_pos (by omega),if_neg (by omega),if_pos (by omega),if_neg (by omega),if_neg (by omega)]
     (congr 1)<;>omega
    ·rw[if_neg (by omega),if_neg (by omega),if_neg (by omega)]
     (congr 1)<;>omega
theorem Wm{place:Nat->Option (Nat×Nat)}{cells:Array Value}{i off size:Nat}{v:Value}{rest:List (Nat×Value)}(hp:place i=some (off,size))
 (hv:v.cells.size=size) (hb:off+size<=cells.size):
 ∃cells',cells'.toList=cells.toList.take off++v.cells.toList++cells.toList.drop (off+size)/\Instr.fill place cells ((i,v)::rest)=Instr.fill place cells' rest:=by
 refine⟨v.cells.zipIdx.foldl (fun cs (x:Value×Nat)=>cs.setIfInBounds (off+x.2) x.1) cells, ?_, ?_⟩
 ·have:=Wp off v.cells.toList 0 cells (by simp;omega)
  simp only[Nat.add_zero,Array.length_toList,hv]at this
  rw[<-this,<-Array.foldl_toList,Array.toList_zipIdx]
 ·simp only[Instr.fill,hp]
  rw[if_neg (by simp;omega)]
theorem IT{P:Program}{e:TypeId}{t:Ty}(h:Zs P e=some t):
 ∃i z,P.info? e=some i/\i.zero=some z/\i.size=t.size/\t.freshOk z.cells.toList=true:=by
 simp only[Zs,Option.bind_eq_some_iff]at h
 obtain⟨y,_,h⟩:=h
 split at h
 ·rename_i i hi
  split at h
  ·rename_i z hz
   split at h
   ·rename_i hs
    split at h
    ·rename_i hf
     simp only[Option.some.injEq]at h
     subst h
     exact⟨i,z,hi,hz,hs,hf⟩
    ·cases h
   ·cases h
  ·cases h
 ·cases h
theorem KN{P:Program}{e:TypeId}{i:TypeInfo}{z:Value}(h:P.info? e=some i)(hz:i.zero=some z):(zeroValue e).run P w= .ok z w:=by
 simp[zeroValue,typeInfo,h,hz]
theorem Ox{T:TypeId}{fs:Array Field}(hu:C.P.underlying T=some (.struct fs))(places:Array (Nat×Nat))
 (hpl:∀(i off n:Nat) (b:Bool),Io C.P T i=some (off,n,b)->places[i]?=some (off,n)):
 ∀(ps:List (Nat×AV)) (vs:List (Nat×Value)) (cs cs':List CV) (cells:Array Value),
 bg g w cs cells.toList->(ps.map (·.1)=vs.map (·.1))->vG g w (ps.map (·.2)) (vs.map (·.2))->Dq C.P T cs ps=some cs'->
 ∃cells',Instr.fill (places[·]?) cells vs=some cells'/\bg g w cs' cells'.toList
 |[],vs,cs,cs',cells,hc,h1,_,h=>by
  cases vs with
  |nil=>simp only[Dq,Option.some.injEq]at h;subst h;exact⟨cells,rfl,hc⟩
  |cons _ _=>simp at h1
 |(i,a)::r,vs,cs,cs',cells,hc,h1,h2,h=>by
  cases vs with
  |nil=>simp at h1
  |cons x vr=>
   obtain⟨i',v⟩:=x
   simp only[List.map_cons,List.cons.injEq]at h1
   obtain⟨rfl,h1⟩:=h1
   obtain⟨v',vr',e,hv,h2⟩:=h2
   simp only[List.map_cons,List.cons.injEq]at e
   obtain⟨rfl,rfl⟩:=e
   cases a with
   |tup l=>simp[Dq]at h
   |one x=>
    simp only[Dq]at h
    split at h
    ·rename_i off n b hf
     split at h
     ·rename_i hn
      split at h
      ·rename_i hb
       split at h
       ·rename_i hs
        have hvc:=NV.cells hv hs
        have hlen:=hvc.length
        have hcl:=hc.length
        obtain⟨cells1,h3,h4⟩:=Wm (place:=(places[·]?)) (rest:=vr) (hpl i off n b hf) (v:=v) (cells:=cells)
         (by rw[<-hn,hlen];simp) (by simp only[Array.length_toList]at hcl;omega)
        have hnew:bg g w (Cg cs off x.cs) cells1.toList:=by
         rw[h3]
         have:=((hc.take off).append hvc).append (hc.drop (off+n))
         simpa[Cg,hn]using this
        obtain⟨cells',h5,h6⟩:=Ox hu places hpl r vr _ cs' cells1 hnew h1 h2 h
        exact⟨cells',by rw[h4];exact h5,h6⟩
       ·cases h
      ·cases h
     ·cases h
    ·cases h
theorem Vg{P:Program}:∀(fs:List Field),(fs.all fun f=>(sK P f.type).isSome)=true->
 ∃l:List (Nat×Nat),(fs.mapM (m:=Sem) fun f=>do pure (f.offset,<-sizeOf f.type)).run P w= .ok l w/\
  ∀(i:Nat) (f:Field) (n:Nat),fs[i]?=some f->sK P f.type=some n->l[i]?=some (f.offset,n)
 |[],_=>⟨[],by simp,fun i f n h=>by simp at h⟩
 |f::r,h=>by
  simp only[List.all_cons,Bool.and_eq_true,Option.isSome_iff_exists]at h
  obtain⟨⟨n,hn⟩,h⟩:=h
  obtain⟨l,hl,hl'⟩:=Vg r h
  refine⟨(f.offset,n)::l, ?_,fun i f' n' hi hn'=> ?_⟩
  ·simp only[List.mapM_cons,Sem.run_bind,dL hn,Result.andThen_ok,Sem.run_pure,hl]
  ·cases i with
   |zero=>simp at hi;subst hi;rw[hn]at hn';cases hn';rfl
   |succ i=>exact hl' i f' n' (by simpa using hi) hn'
theorem aa0{T:TypeId}{ps:List (Nat×AV)}{vs:Array (Nat×Value)}(h1:ps.map (·.1)=vs.toList.map (·.1))(h2:vG g w (ps.map (·.2)) (vs.toList.map (·.2)))
 (h:Qc C.P T ps k=some r):tM C g w (Instr.build T vs) k r:=by
 unfold Qc at h
 split at h
 ·rename_i fs t hagg hu ht
  split at h
  ·rename_i hall
   split at h
   ·rename_i cs hcs
    obtain⟨i,z,hi,hz,hs,hf⟩:=IT ht
    obtain⟨l,hl,hl'⟩:=Vg (w:=w) fs.toList hall
    have hm:(fs.mapM (m:=Sem) fun f=>do pure (f.offset,<-sizeOf f.type)).run C.P w= .ok l.toArray w:=by
     rw[Array.mapM_eq_mapM_toList]
     simp only[Sem.run_map,hl,Result.andThen_ok]
    obtain⟨cells',h5,h6⟩:=Ox hu l.toArray (fun j off n b hj=>by
     obtain⟨fs',x,hu',hx,rfl,hn,_⟩:=Fp hj
     rw[hu]at hu';simp only[Option.some.injEq,TypeDesc.struct.injEq]at hu';subst hu'
     simpa using hl' j x n (by simpa using hx) hn) ps vs.toList t.fresh cs z.cells (G0 t _ hf) h1 h2 hcs
    refine⟨_, .agg cells',h, ?_,_,rfl,h6⟩
    simp only[Instr.build,Sem.run_bind,KN hi hz,Result.andThen_ok,Sem.run_pure,an hu,hm,h5]
   ·cases h
  ·cases h
 ·cases h
theorem Et:∀{t:Ty} {cs:List CV} {vs:List Value} {y:t.T},t.ofCells cs=some y->bg g w cs vs->ER g.imm w t y vs
 | .int κ,cs,vs,y,h,hn=>by
   simp only[Ty.ofCells]at h
   unfold ael at h
   split at h
   ·split at h
    ·rename_i hk;cases h;subst hk;exact hn.v1
    ·cases h
   ·cases h
 | .bool,cs,vs,y,h,hn=>by
   simp only[Ty.ofCells]at h
   unfold acO at h
   split at h
   ·cases h;exact hn.v1
   ·cases h
 | .str,cs,vs,y,h,hn=>by
   simp only[Ty.ofCells]at h
   unfold aem at h
   split at h
   ·cases h;exact hn.v1
   ·cases h
 | .unit,cs,vs,y,h,hn=>by
   simp only[Ty.ofCells]at h
   unfold acP at h
   split at h
   ·exact hn
   ·cases h
 | .pair a b,cs,vs,y,h,hn=>by
   simp only[Ty.ofCells,Option.bind_eq_some_iff,Option.map_eq_some_iff]at h
   obtain⟨p,hp,q,hq,rfl⟩:=h
   exact⟨Et hp (hn.take _),Et hq (hn.drop _)⟩
 | .slice t,cs,vs,y,h,hn=>by
   simp only[Ty.ofCells]at h
   unfold afI at h
   split at h
   ·split at h
    ·rename_i e
     subst e
     cases h
     obtain⟨v,vs',rfl,h1,h2⟩:=hn
     simp only[bg]at h2
     subst h2
     exact h1.2 (.slot 0 0 0)
    ·cases h
   ·cases h
    obtain⟨v,vs',rfl,h1,h2⟩:=hn
    simp only[bg]at h2
    subst h2
    obtain⟨A,rfl⟩:=h1.2 (.slot 0 0 0)
    exact⟨A,0,rfl,by simp, .inl rfl⟩
   ·cases h
theorem Bh:∀{t:Ty} {vs:List Value},t.freshOk vs=true->ER g.imm w t t.zero vs
 | .int k,[.int k' n],h=>by
   simp only[Ty.freshOk,Bool.and_eq_true,decide_eq_true_eq]at h
   obtain⟨rfl,rfl⟩:=h;rfl
 | .bool,[.bool b],h=>by
   simp only[Ty.freshOk,Bool.not_eq_true']at h
   subst h;rfl
 | .str,[.string s],h=>by
   simp only[Ty.freshOk,decide_eq_true_eq]at h
   have:s=⟨#[]⟩:=by
    cases s with
    |mk d=>simp only[ByteArray.size]at h;rw[Array.eq_empty_of_size_eq_zero h]
   subst this;rfl
 | .unit,[],_=>rfl
 | .pair a b,vs,h=>by
   simp only[Ty.freshOk,Bool.and_eq_true]at h
   exact⟨Bh h.1,Bh h.2⟩
 | .slice t,[.slice none n c],h=>by
   simp only[Ty.freshOk,Bool.and_eq_true,decide_eq_true_eq]at h
   obtain⟨rfl,rfl⟩:=h
   exact⟨none,0,rfl,by simp[Ty.zero], .inl rfl⟩
theorem abD(z:Array Value)(m i:Nat)(hi:i<m):
 nS ((Array.range (m*z.size)).map fun j=>z[j%z.size]!) (i*z.size) z.size=z.toList:=by
 apply List.ext_getElem?
 intro j
 simp only[nS,List.getElem?_take,List.getElem?_drop,Array.toList_map,Array.toList_range,List.getElem?_map]
 by_cases hj:j<z.size
 ·have hlt:i*z.size+j<m*z.size:=by
   have:(i+1)*z.size<=m*z.size:=Nat.mul_le_mul_right _ hi
   rw[Nat.add_mul]at this;omega
  rw[if_pos hj,List.getElem?_range hlt]
  simp only[Option.map_some]
  rw[Nat.mul_comm,Nat.mul_add_mod,Nat.mod_eq_of_lt hj]
  simp[hj]
 ·rw[if_neg hj]
  simp;omega
def mz(g:Gh)(w:World)(t:Ty)(l:List t.T)(cs:Array Value):Prop:=
 ∀i x,l[i]?=some x->ER g.imm w t x (nS cs (i*t.size) t.size)
theorem mz.zeros{t:Ty}{z:Array Value}(hz:t.freshOk z.toList=true)(hs:z.size=t.size)(n m:Nat)(hn:n<=m):
 mz g w t (List.replicate n t.zero) ((Array.range (m*t.size)).map fun j=>z[j%z.size]!):=by
 intro i x hi
 rw[List.getElem?_replicate]at hi
 split at hi
 ·cases hi
  rename_i hlt
  rw[<-hs,abD z m i (by omega)]
  exact Bh hz
 ·cases hi
theorem mz.set{t:Ty}{l:List t.T}{cs cs':Array Value}(h:mz g w t l cs){i:Nat}{y:t.T}{vs:List Value}(hy:ER g.imm w t y vs)
 (hb:i*t.size+t.size<=cs.size) (he:cs'.toList=cs.toList.take (i*t.size)++vs++cs.toList.drop (i*t.size+t.size)):mz g w t (l.set i y) cs':=by
 have hvl:=hy.length
 intro j x hj
 rw[List.getElem?_set]at hj
 by_cases hij:i=j
 ·subst hij
  rw[if_pos rfl]at hj
  split at hj
  ·cases hj
   have:nS cs' (i*t.size) t.size=vs:=by
    simp only[nS,he]
    rw[List.append_assoc,List.drop_append_of_le_length (by simp;omega),List.drop_of_length_le (by simp;omega)]
    simp[hvl]
   rw[this];exact hy
  ·cases hj
 ·rw[if_neg hij]at hj
  have hs:nS cs' (j*t.size) t.size=nS cs (j*t.size) t.size:=by
   have hsize:cs'.toList.length=cs.toList.length:=by
    rw[he];simp[hvl];omega
   apply List.ext_getElem?
   intro a
   simp only[nS,List.getElem?_take,List.getElem?_drop]
   by_cases ha:a<t.size
   ·rw[if_pos ha,if_pos ha,he]
    simp only[List.getElem?_append,List.length_append,List.length_take,hvl,List.getElem?_take,List.getElem?_drop]
    have hmin:min (i*t.size) cs.toList.length=i*t.size:=by simp;omega
    rw[hmin]
    by_cases hlt:j<i
    ·have:(j+1)*t.size<=i*t.size:=Nat.mul_le_mul_right _ hlt
     rw[Nat.add_mul]at this
     rw[if_pos (by omega),if_pos (by omega),if_pos (by omega)]
    ·have:(i+1)*t.size<=j*t.size:=Nat.mul_le_mul_right _ (by omega)
     rw[Nat.add_mul]at this
     rw[if_neg (by omega)]
     congr 1;omega
   ·rw[if_neg ha,if_neg ha]
  rw[hs];exact h j x hj
end
end Go.Vai
