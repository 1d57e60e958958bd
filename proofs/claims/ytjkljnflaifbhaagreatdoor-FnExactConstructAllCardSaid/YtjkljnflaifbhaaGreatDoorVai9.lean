/- No conditions. -/
import Derived.Test.YtjkljnflaifbhaaGreatDoorVai8
import Derived.Laws.Append
import Derived.Laws.CopyRow
namespace Go.Vai
open Go
section
variable {C:gY} {E:iU} {g:Gh} {st:St} {tm:Array Value} {w:World}
theorem ER.oneCell{I:Nat->Prop}:∀{t:Ty} {x:t.T} {vs:List Value},ER I w t x vs->∀v,v∈vs->v.oneCell'=true
 | .int _,_,_,h,v,hv=>by simp only[ER]at h;subst h;simp at hv;subst hv;rfl
 | .bool,_,_,h,v,hv=>by simp only[ER]at h;subst h;simp at hv;subst hv;rfl
 | .str,_,_,h,v,hv=>by simp only[ER]at h;subst h;simp at hv;subst hv;rfl
 | .unit,_,_,h,v,hv=>by simp only[ER]at h;subst h;cases hv
 | .pair a b,x,vs,h,v,hv=>by
   rw[<-List.take_append_drop a.size vs]at hv
   rcases List.mem_append.1 hv with hv|hv
   ·exact ER.oneCell h.1 v hv
   ·exact ER.oneCell h.2 v hv
 | .slice _,_,_,h,v,hv=>by obtain⟨A,cap,rfl,_⟩:=h;simp at hv;subst hv;rfl
def Rz(g:Gh)(w:World)(t:Ty)(l:List t.T)(cs:Array Value)(o:Nat):Prop:=
 ∀i x,l[i]?=some x->ER g.imm w t x (nS cs (o+i*t.size) t.size)
theorem Rz.length{t:Ty}{l:List t.T}{cs:Array Value}{o:Nat}(h:Rz g w t l cs o):(nS cs o (l.length*t.size)).length=l.length*t.size:=by
 by_cases h0:t.size=0
 ·simp[nS,h0]
 ·by_cases hl:l=[]
  ·subst hl;simp[nS]
  ·have hpos:0<l.length:=List.length_pos_iff.2 hl
   have hx:=h (l.length-1) _ (List.getElem?_eq_getElem (by omega))
   have hx:=hx.length
   simp only[nS,List.length_take,List.length_drop,Array.length_toList]at hx⊢
   have:l.length*t.size=(l.length-1)*t.size+t.size:=by
    rw[<-Nat.succ_mul];congr 1;omega
   omega
theorem ad1{cs:Array Value}{o n i s:Nat}(h:i+s<=n):nS (nS cs o n).toArray i s=nS cs (o+i) s:=by
 simp only[nS,List.drop_take,List.take_take,List.drop_drop]
 congr 1;omega
theorem Rz.row{t:Ty}{l:List t.T}{cs:Array Value}{o:Nat}(h:Rz g w t l cs o):mz g w t l (nS cs o (l.length*t.size)).toArray:=by
 intro i x hi
 have hlt:i<l.length:=(List.getElem?_eq_some_iff.1 hi).1
 have:(i+1)*t.size<=l.length*t.size:=Nat.mul_le_mul_right _ hlt
 rw[Nat.add_mul]at this
 rw[ad1 (by omega)]
 exact h i x hi
theorem mz.oneCell{t:Ty}{l:List t.T}{cs:List Value}(h:mz g w t l cs.toArray)(hl:cs.length=l.length*t.size):∀v,v∈cs->v.oneCell'=true:=by
 intro v hv
 obtain⟨j,hj⟩:=List.mem_iff_getElem?.1 hv
 have hlt:j<cs.length:=(List.getElem?_eq_some_iff.1 hj).1
 have hs:0<t.size:=by
  rcases Nat.eq_zero_or_pos t.size with h0|h0
  ·rw[h0]at hl;omega
  ·exact h0
 have hd:j/t.size<l.length:=Nat.div_lt_of_lt_mul (by rw[Nat.mul_comm];omega)
 refine(h (j/t.size) _ (List.getElem?_eq_getElem hd)).oneCell v ?_
 refine List.mem_iff_getElem?.2 ⟨j%t.size, ?_⟩
 simp only[nS,List.getElem?_take,List.getElem?_drop]
 rw[if_pos (Nat.mod_lt _ hs)]
 rw[Nat.mul_comm,Nat.div_add_mod];exact hj
theorem Vi{a b:List Value}{i s:Nat}(h:i+s<=a.length):nS (a++b).toArray i s=nS a.toArray i s:=by
 simp only[nS]
 rw[List.drop_append_of_le_length (by omega),List.take_append_of_le_length (by simp;omega)]
theorem WZ{a b:List Value}{i s:Nat}:nS (a++b).toArray (a.length+i) s=nS b.toArray i s:=by
 simp only[nS]
 rw[<-List.drop_drop,List.drop_left]
theorem mz.append{t:Ty}{l l':List t.T}{a b:List Value}(h:mz g w t l a.toArray)(ha:a.length=l.length*t.size)(h':mz g w t l' b.toArray):
 mz g w t (l++l') (a++b).toArray:=by
 intro i x hi
 by_cases hlt:i<l.length
 ·rw[List.getElem?_append_left hlt]at hi
  have:(i+1)*t.size<=l.length*t.size:=Nat.mul_le_mul_right _ hlt
  rw[Nat.add_mul]at this
  rw[Vi (by omega)]
  exact h i x hi
 ·rw[List.getElem?_append_right (by omega)]at hi
  have e:i*t.size=a.length+(i-l.length)*t.size:=by
   rw[ha,<-Nat.add_mul];congr 1;omega
  rw[e,WZ]
  exact h' _ x hi
theorem mz.more{t:Ty}{l:List t.T}{a b:List Value}(h:mz g w t l a.toArray)(ha:a.length=l.length*t.size):mz g w t l (a++b).toArray:=by
 have:=h.append ha (l':=[]) (b:=b) (fun i x hi=>by simp at hi)
 simpa using this
theorem Qj{b o n:Nat}{cs:Array Value}{e:TypeId}{fz:Nat×Nat}(h:w.heap[b]?=some (.cells cs e fz)):
 ∀j v,(nS cs o n)[j]?=some v->w.cell? ((⟨b,o,none⟩:Addr).add j)=some v:=by
 intro j v hj
 rw[Addr.add_eq,cell_of h]
 simp only[nS,List.getElem?_take,List.getElem?_drop]at hj
 split at hj
 ·simpa using hj
 ·cases hj
theorem RX{t:Ty}{x:AV}{vx:Value}{new:List t.T}(hx:kl g w x vx)(h:Es t x=some new):
 ∃(A:Option Addr) (cap:Nat) (news:List Value),vx= .slice A new.length cap/\news.length=new.length*t.size/\mz g w t new news.toArray/\
  ∀(P:Program) (d:Nat),(Builtin.firstCells t.size new.length vx).run P {w with drawn:=d}= .ok news.toArray {w with drawn:=d}:=by
 have nil:∀A cap,vx= .slice A 0 cap->new=[]->∃(A:Option Addr) (cap:Nat) (news:List Value),vx= .slice A new.length cap/\news.length=new.length*t.size/\mz g w t new news.toArray/\
  ∀(P:Program) (d:Nat),(Builtin.firstCells t.size new.length vx).run P {w with drawn:=d}= .ok news.toArray {w with drawn:=d}:=by
  rintro A cap rfl rfl
  refine⟨A,cap,[],rfl,by simp,fun i x hi=>by simp at hi,fun P d=> ?_⟩
  cases A<;>simp[Builtin.firstCells,loadCells,loadCellsFrom]
 unfold Es at h
 split at h
 ·rename_i t' l
  split at h
  ·rename_i ht
   subst ht
   cases h
   obtain⟨A,cap,hv,_,hl⟩:=hx.one_inv.2 (.slot 0 0 0)
   simp only[List.cons.injEq,and_true]at hv
   subst hv
   rcases hl with rfl|⟨b,off,cs,e,fz,rfl,hb,hh,hel⟩
   ·exact nil _ _ rfl rfl
   ·have hr:Rz g w t' l cs off:=hel
    refine⟨_,cap,nS cs off (l.length*t'.size),rfl,hr.length,hr.row,fun P d=> ?_⟩
    exact run_firstCells_some (P:=P) {w with drawn:=d} t'.size l.length _ _ _ _ hr.length (Qj (w:={w with drawn:=d}) hh)
  ·cases h
 ·rename_i p f lo t' l
  split at h
  ·rename_i ht
   subst ht
   cases h
   obtain⟨A,cap,rfl,hc,hl⟩:=(hx.one_inv.2 (.slot 0 0 0)).1
   rcases hl with h0|⟨b,off,n,c,cs,e,rfl,hb,hf,hh,hs,hel⟩
   ·have:l=[]:=List.length_eq_zero_iff.1 (by omega)
    subst this
    exact nil _ _ rfl rfl
   ·have hr:Rz g w t' l cs (off+lo*t'.size):=hel
    refine⟨_,cap,nS cs (off+lo*t'.size) (l.length*t'.size),rfl,hr.length,hr.row,fun P d=> ?_⟩
    exact run_firstCells_some (P:=P) {w with drawn:=d} t'.size l.length _ _ _ _ hr.length (Qj (w:={w with drawn:=d}) hh)
  ·cases h
 ·cases h
  obtain⟨A,rfl⟩:=hx.one_inv.2 (.slot 0 0 0)
  exact nil _ _ rfl rfl
 ·cases h
  exact nil _ _ hx.v_inv rfl
 ·cases h
theorem ET(z:Array Value)(n:Nat):(Builtin.zeroCells z n).size=n*z.size:=by simp[Builtin.zeroCells]
theorem Xj(R:dG C E g st tm w){t:Ty}{l new:List t.T}{T T2 e:TypeId}{d2:TypeId}{by':Nat}{v vx:Value}{m:List Nat}{A':Option Addr}{cap':Nat}{news:List Value}
 (hu:C.P.underlying T=some (.slice e)) (hu2:C.P.underlying T2=some (.slice d2)) (ht:Zs C.P e=some t) (hby:E6 C.P e=some by')
 (hF:cC g w (.own t l) v m) (F:dF g w (aj [m])) (hx:vx= .slice A' new.length cap') (hnl:news.length=new.length*t.size)
 (hnr:mz g w t new news.toArray) (hnxd:∀d,(Builtin.firstCells t.size new.length vx).run C.P {w with drawn:=d}= .ok news.toArray {w with drawn:=d})
 (h1:(l.length+new.length)*by'<=70368744177664) (h2:l.length+new.length<=70368744177664) (ty:TypeId):
 ∃v' w' m',(Builtin.append_ #[T,T2] ty #[v,vx]).run C.P w= .ok v' w'/\Qb g w w'/\cC g w' (.own t (l++new)) v' m'/\dF g w' (aj [m']):=by
 obtain⟨i,z,hi,hz,hs,hf⟩:=IT ht
 have hib:i.bytes=by':=by simpa[E6,hi]using hby
 have hti:∀w:World,(typeInfo e).run C.P w= .ok i w:=fun w=>by simp[typeInfo,hi]
 have hsz:∀w:World,(sizeOf e).run C.P w= .ok t.size w:=fun w=>dL (sf ht) w
 have hzz:∀w:World,(zeroValue e).run C.P w= .ok z w:=fun w=>KN hi hz
 obtain⟨lo,A,cap,rfl,hc,hh⟩:=hF
 subst hx
 have hnx:(Builtin.firstCells t.size new.length (.slice A' new.length cap')).run C.P w= .ok news.toArray w:=hnxd w.drawn
 by_cases hroom:l.length+new.length<=cap
 ·
  rcases hh with h0|⟨b,off,n,c,cs,e',rfl,rfl,_,hheap,hsize,hel⟩
  ·have hl0:l=[]:=List.length_eq_zero_iff.1 (by omega)
   have hn0:new=[]:=List.length_eq_zero_iff.1 (by omega)
   subst hl0;subst hn0
   subst h0
   simp only[List.length_nil,Nat.zero_mul]at hnl
   have hnews:news=[]:=List.length_eq_zero_iff.1 hnl
   subst hnews
   refine⟨.slice A 0 0,w,[], ?_,⟨fun _ _=>rfl,Nat.le_refl _,rfl,rfl,rfl⟩,⟨0,A,0,rfl,by simp, .inl rfl⟩,by simp[aj];exact dF.nil⟩
   simp only[List.length_nil]at hnx
   simp only[Builtin.append_,List.length_nil]
   simp only[List.getElem?_toArray,List.getElem?_cons_zero,List.getElem?_cons_succ,Sem.run_bind,an hu,an hu2,Result.andThen_ok,hsz,Sem.run_pure,Bool.false_eq_true,if_false,Builtin.lenOf,Nat.add_zero,Nat.le_refl,if_true,Bool.not_false,hnx]
   cases A<;>simp[storeCells]
  ·have hr:Rz g w t l cs (off+lo*t.size):=hel
   have hjb:=F.junk b (by simp[aj])
   have hfit:off+lo*t.size+l.length*t.size+news.length<=cs.size:=by
    have:(l.length+new.length)*t.size<=cap*t.size:=Nat.mul_le_mul_right _ hroom
    rw[Nat.add_mul]at this
    omega
   have hst:=run_storeCells_at C.P b (off+lo*t.size+l.length*t.size) e' news 0 cs w hheap (by simpa using hfit) (mz.oneCell hnr hnl)
   simp only[Nat.add_zero]at hst
   have J:Qb g w (w.setRow b (cs.toList.take (off+lo*t.size+l.length*t.size)++news++cs.toList.drop (off+lo*t.size+l.length*t.size+news.length)).toArray):=
    ⟨fun n hn=>setRow_other w b n _ (fun e=>hn (e▸hjb)),by simp,rfl,rfl,rfl⟩
   refine⟨.slice (some ⟨b,off+lo*t.size,none⟩) (l++new).length cap,_,[b], ?_,J, ?_,⟨F.nodup,F.junk,fun k hk=>Nat.lt_of_lt_of_le (F.size k hk) J.size⟩⟩
   ·simp only[Builtin.append_]
    simp only[List.getElem?_toArray,List.getElem?_cons_zero,List.getElem?_cons_succ,Sem.run_bind,an hu,an hu2,Result.andThen_ok,hsz,Sem.run_pure,Bool.false_eq_true,if_false,Builtin.lenOf,hroom,if_true,Bool.not_false,hnx,Addr.add_eq,hst,List.length_append]
   ·refine⟨lo,_,cap,rfl,by simpa using hroom, .inr ⟨b,off,n,c,_,e',rfl,rfl,(fun h=>by cases h),setRow_heap w b cs _ e' (0,0) hheap, ?_, ?_⟩⟩
    ·simp only[List.size_toArray,List.length_append,List.length_take,List.length_drop,Array.length_toList];omega
    ·intro k x hk
     by_cases hlt:k<l.length
     ·rw[List.getElem?_append_left hlt]at hk
      have hm:(k+1)*t.size<=l.length*t.size:=Nat.mul_le_mul_right _ hlt
      rw[Nat.add_mul]at hm
      have hse:nS ((cs.toList.take (off+lo*t.size+l.length*t.size)++news++cs.toList.drop (off+lo*t.size+l.length*t.size+news.length)).toArray) (off+lo*t.size+k*t.size) t.size
       =nS cs (off+lo*t.size+k*t.size) t.size:=by
       rw[List.append_assoc,Vi (by simp only[List.length_take,Array.length_toList];omega)]
       simp only[nS,List.drop_take,List.take_take]
       congr 1;omega
      rw[hse]
      exact ER.mono J.steps.imm (hr k x hk)
     ·rw[List.getElem?_append_right (by omega)]at hk
      have hlt2:k-l.length<new.length:=(List.getElem?_eq_some_iff.1 hk).1
      have hm:(k-l.length+1)*t.size<=new.length*t.size:=Nat.mul_le_mul_right _ hlt2
      rw[Nat.add_mul]at hm
      have hk':k*t.size=l.length*t.size+(k-l.length)*t.size:=by rw[<-Nat.add_mul];congr 1;omega
      have hpl:(cs.toList.take (off+lo*t.size+l.length*t.size)).length=off+lo*t.size+l.length*t.size:=by
       simp only[List.length_take,Array.length_toList];omega
      have hse:nS ((cs.toList.take (off+lo*t.size+l.length*t.size)++news++cs.toList.drop (off+lo*t.size+l.length*t.size+news.length)).toArray) (off+lo*t.size+k*t.size) t.size
       =nS news.toArray ((k-l.length)*t.size) t.size:=by
       rw[List.append_assoc,show off+lo*t.size+k*t.size=(cs.toList.take (off+lo*t.size+l.length*t.size)).length+(k-l.length)*t.size by omega,WZ,
        Vi (by omega)]
      rw[hse]
      exact ER.mono J.steps.imm (hnr _ x hk)
 ·
  have hlt:cap<l.length+new.length:=by omega
  have hcapge:Builtin.nextslicecap (l.length+new.length) cap*i.bytes<=2^48:=by
   have:=Nat.mul_le_mul_right by' (nextslicecap_le hlt)
   rw[hib]
   have e:2*(l.length+new.length)*by'=2*((l.length+new.length)*by'):=by rw[Nat.mul_assoc]
   omega
  obtain⟨old,hol,hor,hox⟩:∃old:List Value,old.length=l.length*t.size/\mz g w t l old.toArray/\
   ∀d:Nat,(Builtin.firstCells t.size l.length (.slice A l.length cap)).run C.P {w with drawn:=d}= .ok old.toArray {w with drawn:=d}:=by
   rcases hh with h0|⟨b,off,n,c,cs,e',rfl,rfl,_,hheap,hsize,hel⟩
   ·have hl0:l=[]:=List.length_eq_zero_iff.1 (by omega)
    subst hl0
    refine⟨[],by simp,fun i x hi=>by simp at hi,fun d=> ?_⟩
    cases A<;>simp[Builtin.firstCells,loadCells,loadCellsFrom]
   ·have hr:Rz g w t l cs (off+lo*t.size):=hel
    exact⟨_,hr.length,hr.row,fun d=>run_firstCells_some (P:=C.P) {w with drawn:=d} t.size l.length _ _ _ _ hr.length (Qj (w:={w with drawn:=d}) hheap)⟩
  have hq:(Question.appendCap (l.length+new.length) cap e).forced=false:=rfl
  have hcut:=Nat.le_add_right (l.length+new.length) (w.tape w.drawn (.appendCap (l.length+new.length) cap e)%(2^63-(l.length+new.length)))
  obtain⟨newCap,hnc,hge⟩:∃n,(Question.appendCap (l.length+new.length) cap e).cut (w.tape w.drawn (.appendCap (l.length+new.length) cap e))=n/\l.length+new.length<=n:=
   ⟨_,rfl,hcut⟩
  have hmax:¬(((l.length+new.length:Nat):Int)>IntKind.i64.max):=by
   have:IntKind.i64.max=9223372036854775807:=by decide
   rw[this];omega
  obtain⟨zz,hzz'⟩:∃zz,zz=Builtin.zeroCells z.cells (newCap-(l.length+new.length)):=⟨_,rfl⟩
  have hzs:z.cells.size=t.size:=by
   have:=(Bh (g:=g) (w:=w) hf).length
   simpa using this
  have hrow:mz g w t (l++new) (old++news++zz.toList).toArray:=mz.more (hor.append hol hnr) (by simp only[List.length_append,hol,hnl,Nat.add_mul])
  have harr:old.toArray++news.toArray++zz=(old++news++zz.toList).toArray:=by
   apply Array.ext';simp
  have R':dG C E g st tm {w with drawn:=w.drawn+1}:=R.grow (sS.drew w)
  have hrow':mz g {w with drawn:=w.drawn+1} t (l++new) (old++news++zz.toList).toArray:=fun i x hi=>ER.mono (w:=w) (w':={w with drawn:=w.drawn+1}) (fun b hb=>⟨hb,rfl⟩) (hrow i x hi)
  obtain⟨h9,h10⟩:=Lu R' (e:=e) (cap:=newCap) hrow' (by simpa using hge) (by
   simp only[List.size_toArray,List.length_append,hol,hnl,hzz',Array.length_toList,ET,hzs,<-Nat.add_mul]
   exact Nat.mul_le_mul_right _ (by omega))
  have G:=(sS.drew w).trans (sS.push {w with drawn:=w.drawn+1} (.cells (old++news++zz.toList).toArray e))
  refine⟨.slice (some ⟨w.heap.size,0,none⟩) (l++new).length newCap,_,[w.heap.size], ?_,R.j G, ?_,h10⟩
  rotate_left
  ·obtain⟨_,_,_,_,hv,hm,hfr,_⟩:=h9
   simp only[List.cons.injEq]at hv hm
   rw[<-hv.1,<-hm.1]at hfr
   exact hfr
  ·have hbig:¬(Builtin.nextslicecap (l.length+new.length) cap*i.bytes>2^48):=by omega
   simp only[Builtin.append_]
   simp only[List.getElem?_toArray,List.getElem?_cons_zero,List.getElem?_cons_succ,Sem.run_bind,an hu,an hu2,Result.andThen_ok,hsz,Sem.run_pure,Bool.false_eq_true,if_false,Builtin.lenOf,if_neg hroom,
    Bool.not_false,hmax,false_and,hti,if_neg hbig,run_choose,hq,hnc,run_askRoom,hox,hnxd,hzz,newRow,run_newObj,<-hzz',harr,List.length_append,if_true]
end
end Go.Vai
