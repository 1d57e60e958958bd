/- No conditions. -/
import Derived.Test.YtjkljnflaifbhaaGreatDoorVai7
namespace Go.Vai
open Go
structure sS(w w':World):Prop where
 heap:∀n,n<w.heap.size->w'.heap[n]?=w.heap[n]?
 size:w.heap.size<=w'.heap.size
 os:w'.os=w.os
 tape:w'.tape=w.tape
 output:w'.output=w.output
theorem sS.refl(w:World):sS w w:=⟨fun _ _=>rfl,Nat.le_refl _,rfl,rfl,rfl⟩
theorem sS.trans{a b c:World}(h:sS a b)(h':sS b c):sS a c:=
 ⟨fun n hn=>(h'.heap n (Nat.lt_of_lt_of_le hn h.size)).trans (h.heap n hn),Nat.le_trans h.size h'.size,h'.os.trans h.os,h'.tape.trans h.tape,h'.output.trans h.output⟩
theorem sS.drew(w:World):sS w {w with drawn:=w.drawn+1}:=⟨fun _ _=>rfl,Nat.le_refl _,rfl,rfl,rfl⟩
theorem sS.push(w:World)(o:Obj):sS w {w with heap:=w.heap.push o}:=
 ⟨fun n hn=>by simp[Array.getElem?_push,Nat.ne_of_lt hn],by simp,rfl,rfl,rfl⟩
section
variable {C:gY} {E:iU} {g:Gh} {st:St} {tm:Array Value} {w:World}
structure Qb(g:Gh)(w w':World):Prop where
 heap:∀n,g.lab n≠ .junk->w'.heap[n]?=w.heap[n]?
 size:w.heap.size<=w'.heap.size
 os:w'.os=w.os
 tape:w'.tape=w.tape
 output:w'.output=w.output
theorem dG.j(R:dG C E g st tm w){w':World}(G:sS w w'):Qb g w w':=⟨fun n h=>G.heap n (R.size n h),G.size,G.os,G.tape,G.output⟩
theorem Qb.steps{w':World}(G:Qb g w w'):gM (fun _=>True) (fun _=>True) g g w w' where
 imm:=fun n h=>⟨h,G.heap n (by rw[h];simp)⟩
 own:=fun n q o l c _ h=>⟨h,G.heap n (by rw[h];simp)⟩
 bx:=fun _ _ _ h=>h
theorem dG.steps(R:dG C E g st tm w){w':World}(G:sS w w'):gM (fun _=>True) (fun _=>True) g g w w':=(R.j G).steps
theorem dG.growJ(R:dG C E g st tm w){w':World}(G:Qb g w w'):dG C E g st tm w' where
 len:=R.len
 lenN:=R.lenN
 lenB:=R.lenB
 io:=R.io.mono G.steps
 slots:=fun i a h=>by obtain⟨v,hv,ha⟩:=R.slots i a h;exact⟨v,hv,ha.mono G.steps⟩
 boxes:=by
  intro b ro cs h
  obtain⟨n,vs,e,fz,h1,h2,h3,h4,h5⟩:=R.boxes b ro cs h
  exact⟨n,vs,e,fz,h1,h2,by rw[G.heap n (by rw[h2];cases ro<;>simp)];exact h3,h4,h5.mono G.steps⟩
 bx:=R.bx
 own:=R.own
 uniq:=R.uniq
 uniqB:=R.uniqB
 size:=fun n h=>Nat.lt_of_lt_of_le (R.size n h) G.size
 glob:=by
  intro h cs hc
  obtain⟨vs,e,fz,h1,h2,h3⟩:=R.glob h cs hc
  exact⟨vs,e,fz,by rw[G.heap h (by rw[h2];simp)];exact h1,h2,h3⟩
 kept:={
  os:=G.os.trans R.kept.os
  tape:=G.tape.trans R.kept.tape
  output:=G.output.trans R.kept.output
  size:=Nat.le_trans R.kept.size G.size
  imm:=fun n hn hl=>by
   obtain⟨h1,h2⟩:=R.kept.imm n hn hl
   exact⟨h1,by rw[G.heap n (by rw[h1];simp)];exact h2⟩
  far:=fun n hn hl=>by
   obtain⟨h1,h2⟩:=R.kept.far n hn hl
   exact⟨h1,by rw[G.heap n (by rw[h1];simp)];exact h2⟩
  old:=R.kept.old
  lent:=R.kept.lent}
theorem dG.grow(R:dG C E g st tm w){w':World}(G:sS w w'):dG C E g st tm w':=R.growJ (R.j G)
def FOk(C:gY)(g:Gh)(w:World){Q:Type}(s:Sem Value)(k:AV->Option Q)(r:Q):Prop:=
 ∃av v w' ms,k av=some r/\s.run C.P w= .ok v w'/\sS w w'/\LB g w' av v ms/\dF g w' (aj ms)
theorem dF.nil:dF g w []:=⟨List.nodup_nil,fun _ h=>(List.not_mem_nil h).elim,fun _ h=>(List.not_mem_nil h).elim⟩
theorem tM.f{Q:Type}{s:Sem Value}{k:AV->Option Q}{r:Q}(h:tM C g w s k r):FOk C g w s k r:=by
 obtain⟨av,v,h1,h2,h3⟩:=h
 obtain⟨ms,h4,h5⟩:=h3.fs
 exact⟨av,v,w,ms,h1,h2,sS.refl w,h4,by rw[h5];exact dF.nil⟩
theorem dG.junk(R:dG C E g st tm w):g.lab w.heap.size= .junk:=by
 cases h:g.lab w.heap.size with
 |junk=>rfl
 |imm=>exact absurd (R.size _ (by rw[h];simp)) (Nat.lt_irrefl _)
 |own p o l c=>exact absurd (R.size _ (by rw[h];simp)) (Nat.lt_irrefl _)
 |box b=>exact absurd (R.size _ (by rw[h];simp)) (Nat.lt_irrefl _)
 |far=>exact absurd (R.size _ (by rw[h];simp)) (Nat.lt_irrefl _)
theorem Lu(R:dG C E g st tm w){t:Ty}{l:List t.T}{cs:Array Value}{e:TypeId}{cap:Nat}(hr:mz g w t l cs)(hl:l.length<=cap)(hc:cap*t.size<=cs.size):
 LB g {w with heap:=w.heap.push (.cells cs e)} (.c (.own t l)) (.slice (some ⟨w.heap.size,0,none⟩) l.length cap) [[w.heap.size]]/\
 dF g {w with heap:=w.heap.push (.cells cs e)} (aj [[w.heap.size]]):=by
 have G:=sS.push w (.cells cs e)
 refine⟨⟨_,[],[w.heap.size],[],rfl,rfl,⟨0,_,_,rfl,hl, .inr ⟨w.heap.size,0,0,0,cs,e,by simp,rfl,(fun h=>by cases h),by simp,by simpa using hc,fun i x hi=> ?_⟩⟩,rfl,rfl⟩,
  ⟨by simp[aj],fun b hb=>by simp[aj]at hb;subst hb;exact R.junk,fun b hb=>by simp[aj]at hb;subst hb;simp⟩⟩
 have:=hr i x hi
 rw[Nat.zero_add,Nat.zero_mul,Nat.zero_add]
 exact ER.mono (R.steps G).imm this
theorem Ip{t:Ty}:∀(ps:List (Nat×AV)) (vs:List (Nat×Value)) (l l':List t.T) (cells:Array Value),
 mz g w t l cells->l.length*t.size<=cells.size->ps.map (·.1)=vs.map (·.1)->vG g w (ps.map (·.2)) (vs.map (·.2))->Dp t l ps=some l'->
 ∃cells',Instr.fill (fun i=>some (i*t.size,t.size)) cells vs=some cells'/\mz g w t l' cells'/\l'.length=l.length/\cells'.size=cells.size
 |[],vs,l,l',cells,hr,hs,h1,_,h=>by
  cases vs with
  |nil=>simp only[Dp,Option.some.injEq]at h;subst h;exact⟨cells,rfl,hr,rfl,rfl⟩
  |cons _ _=>simp at h1
 |(i,a)::r,vs,l,l',cells,hr,hs,h1,h2,h=>by
  cases vs with
  |nil=>simp at h1
  |cons x vr=>
   obtain⟨i',v⟩:=x
   simp only[List.map_cons,List.cons.injEq]at h1
   obtain⟨rfl,h1⟩:=h1
   obtain⟨v',vr',e,hv,h2⟩:=h2
   simp only[List.map_cons,List.cons.injEq]at e
   obtain⟨rfl,rfl⟩:=e
   cases a with
   |tup l=>simp[Dp]at h
   |one x=>
    simp only[Dp]at h
    split at h
    ·rename_i y hy
     split at h
     ·rename_i hi
      split at h
      ·rename_i hsol
       have hvc:=NV.cells hv hsol
       have hER:=Et hy hvc
       have hlen:=hER.length
       have hb:i*t.size+t.size<=cells.size:=by
        have:(i+1)*t.size<=l.length*t.size:=Nat.mul_le_mul_right _ hi
        rw[Nat.add_mul]at this;omega
       obtain⟨cells1,h3,h4⟩:=Wm (place:=fun i=>some (i*t.size,t.size)) (rest:=vr) (i:=i) rfl (v:=v) (cells:=cells) (by simpa using hlen) hb
       have hsz1:cells1.size=cells.size:=by
        have:=congrArg List.length h3
        simp only[List.length_append,List.length_take,List.length_drop,Array.length_toList]at this
        simp only[Array.length_toList]at hlen
        omega
       have hr1:mz g w t (l.set i y) cells1:=hr.set hER hb h3
       obtain⟨cells',h5,h6,h7,h8⟩:=Ip r vr _ l' cells1 hr1 (by rw[List.length_set,hsz1];exact hs) h1 h2 h
       exact⟨cells',by rw[h4];exact h5,h6,by rw[h7,List.length_set],by rw[h8,hsz1]⟩
      ·cases h
     ·cases h
    ·cases h
theorem W8{P:Program}{e:TypeId}{t:Ty}(ht:Zs P e=some t)(m:Nat):
 ∃z:Array Value,(m=0->z= #[])/\(m≠0->∃z',(zeroValue e).run P w= .ok z' w/\z=z'.cells)/\
  (∀n,n<=m/t.size->m=m/t.size*t.size->mz g w t (List.replicate n t.zero) ((Array.range m).map fun j=>z[j%z.size]!)):=by
 obtain⟨i,z,hi,hz,hs,hf⟩:=IT ht
 by_cases hm:m=0
 ·subst hm
  refine⟨#[],fun _=>rfl,fun h=>absurd rfl h,fun n hn _=> ?_⟩
  rw[Nat.zero_div]at hn
  obtain rfl:n=0:=by omega
  intro i x hi;simp at hi
 ·refine⟨z.cells,fun h=>absurd h hm,fun _=>⟨z,KN hi hz,rfl⟩,fun n hn he=> ?_⟩
  have hsz:z.cells.size=t.size:=by
   have:=(Bh (g:=g) (w:=w) hf).length
   simpa using this
  have:=mz.zeros (g:=g) (w:=w) hf hsz n (m/t.size) hn
  rw[<-he]at this
  exact this
theorem Dt(R:dG C E g st tm w){Q:Type}{k:AV->Option Q}{r:Q}{T:TypeId}{n:Nat}{ps:List (Nat×AV)}{vs:Array (Nat×Value)}
 (h1:ps.map (·.1)=vs.toList.map (·.1)) (h2:vG g w (ps.map (·.2)) (vs.toList.map (·.2))) (h:uv C.P T n ps k=some r):
 FOk C g w (Instr.buildSlice T n vs) k r:=by
 unfold uv at h
 split at h
 ·rename_i e t he
  obtain⟨hu,ht⟩:=xR he
  split at h
  ·rename_i hbig
   split at h
   ·rename_i l hl
    obtain⟨z,hz0,hz1,hrow⟩:=W8 (g:=g) (w:=w) ht (n*t.size)
    by_cases h0:t.size=0
    ·
     have hrow0:mz g w t (List.replicate n t.zero) ((Array.range (n*t.size)).map fun j=>z[j%z.size]!):=by
      obtain⟨i,z',hi,hz',hs,hf⟩:=IT ht
      intro j x hj
      rw[List.getElem?_replicate]at hj
      split at hj
      ·cases hj
       have hzl:=(Bh (g:=g) (w:=w) hf).length
       rw[h0]at hzl
       have:z'.cells.toList=[]:=List.length_eq_zero_iff.1 hzl
       have h3:=Bh (g:=g) (w:=w) hf
       rw[this]at h3
       simpa[nS,h0]using h3
      ·cases hj
     obtain⟨cells',h5,h6,h7,h8⟩:=Ip ps vs.toList _ l _ hrow0 (by simp) h1 h2 hl
     obtain⟨h9,h10⟩:=Lu R (e:=e) (cap:=n) h6 (by rw[h7];simp) (by rw[h8];simp)
     refine⟨_,_,_,_,h, ?_,sS.push w (.cells cells' e),h9,h10⟩
     have h7':l.length=n:=by rw[h7];simp
     simp only[Instr.buildSlice,Sem.run_bind,an hu,Result.andThen_ok,dL (sf ht)]
     rw[if_neg (by omega)]
     by_cases hm:n*t.size=0
     ·obtain rfl:=hz0 hm
      rw[if_pos hm]
      simp only[Sem.run_pure,Result.andThen_ok,h5,newRow,run_newObj,Sem.run_bind,h7']
     ·obtain⟨z',hz',rfl⟩:=hz1 hm
      rw[if_neg hm]
      simp only[Sem.run_pure,Result.andThen_ok,hz',h5,newRow,run_newObj,Sem.run_bind,h7']
    ·have hdiv:n*t.size/t.size=n:=Nat.mul_div_cancel _ (Nat.pos_of_ne_zero h0)
     obtain⟨cells',h5,h6,h7,h8⟩:=Ip ps vs.toList _ l _ (hrow n (by rw[hdiv];exact Nat.le_refl _) (by rw[hdiv])) (by simp) h1 h2 hl
     obtain⟨h9,h10⟩:=Lu R (e:=e) (cap:=n) h6 (by rw[h7];simp) (by rw[h8];simp)
     refine⟨_,_,_,_,h, ?_,sS.push w (.cells cells' e),h9,h10⟩
     have h7':l.length=n:=by rw[h7];simp
     simp only[Instr.buildSlice,Sem.run_bind,an hu,Result.andThen_ok,dL (sf ht)]
     rw[if_neg (by omega)]
     by_cases hm:n*t.size=0
     ·obtain rfl:=hz0 hm
      rw[if_pos hm]
      simp only[Sem.run_pure,Result.andThen_ok,h5,newRow,run_newObj,Sem.run_bind,h7']
     ·obtain⟨z',hz',rfl⟩:=hz1 hm
      rw[if_neg hm]
      simp only[Sem.run_pure,Result.andThen_ok,hz',h5,newRow,run_newObj,Sem.run_bind,h7']
   ·cases h
  ·cases h
 ·cases h
theorem aaY{n:Int}(h0:0<=n)(h1:n<=70368744177664):IntKind.i64.wrap n=n:=by
 simp only[IntKind.wrap,IntKind.bits,IntKind.signed]
 have:n%(2^64:Int)=n:=by omega
 simp only[this]
 rw[if_neg]
 simp;omega
theorem VM(R:dG C E g st tm w){Q:Type}{k:AV->Option Q}{r:Q}{T:TypeId}{n c:AV}{vn vc:Value}(hn:kl g w n vn)(hc:kl g w c vc)
 (h:Ak C.P T n c k=some r):FOk C g w (Instr.makeSlice T vn vc) k r:=by
 unfold Ak at h
 split at h
 ·rename_i e t n' c' he hcn hcc
  obtain⟨hu,ht⟩:=xR he
  have:=oS hn hcn;subst this
  have:=oS hc hcc;subst this
  split at h
  ·rename_i b hb
   rcases ep h with⟨h0,h⟩|⟨_,h⟩
   ·rcases ep h with⟨h1,h⟩|⟨_,h⟩
    ·rcases ep h with⟨h2,h⟩|⟨_,h⟩
     ·rcases ep h with⟨h3,h⟩|⟨_,h⟩
      ·simp only[decide_eq_true_eq]at h0 h1 h2 h3
       obtain⟨i,hi,hib⟩:∃i,C.P.info? e=some i/\i.bytes=b:=by
        simp only[E6,Option.map_eq_some_iff]at hb;exact hb
       have hti:(typeInfo e).run C.P w= .ok i w:=by simp[typeInfo,hi]
       obtain⟨z,hz0,hz1,hrow⟩:=W8 (g:=g) (w:=w) ht (c'.toNat*t.size)
       have hsz:=dL (sf ht) w
       have hwn:=aaY (n:=n') h0 (by omega)
       have hwc:=aaY (n:=c') (by omega) h3
       have hlarge:(b:Int)*c'<=70368744177664:=by rw[Int.mul_comm];exact h2
       have hln:(b:Int)*n'<=70368744177664:=Int.le_trans (Int.mul_le_mul_of_nonneg_left h1 (by omega)) hlarge
       have hR:mz g w t (List.replicate n'.toNat t.zero) ((Array.range (c'.toNat*t.size)).map fun j=>z[j%z.size]!):=by
        by_cases h00:t.size=0
        ·obtain⟨i',z',hi',hz',hs',hf'⟩:=IT ht
         intro j x hj
         rw[List.getElem?_replicate]at hj
         split at hj
         ·cases hj
          have hzl:=(Bh (g:=g) (w:=w) hf').length
          rw[h00]at hzl
          have:z'.cells.toList=[]:=List.length_eq_zero_iff.1 hzl
          have h3:=Bh (g:=g) (w:=w) hf'
          rw[this]at h3
          simpa[nS,h00]using h3
         ·cases hj
        ·have hdiv:c'.toNat*t.size/t.size=c'.toNat:=Nat.mul_div_cancel _ (Nat.pos_of_ne_zero h00)
         exact hrow _ (by rw[hdiv];omega) (by rw[hdiv])
       obtain⟨h9,h10⟩:=Lu R (e:=e) (cap:=c'.toNat) hR (by simp;omega) (by simp)
       refine⟨_,_,_,_,h, ?_,sS.push w (.cells ((Array.range (c'.toNat*t.size)).map fun j=>z[j%z.size]!) e),h9,h10⟩
       simp only[Instr.makeSlice,asInt,asIntOf,Sem.run_bind,an hu,Result.andThen_ok,Sem.run_pure,hti,hwn,hwc,hib]
       rw[if_neg (by
        simp only[Bool.or_eq_true,decide_eq_true_eq,not_or,Int.not_lt]
        refine⟨⟨⟨by omega, ?_⟩,h0⟩,h1⟩
        omega)]
       by_cases hm:c'.toNat*t.size=0
       ·obtain rfl:=hz0 hm
        simp only[Sem.run_bind,run_askRoom,Result.andThen_ok,hsz]
        rw[if_pos hm]
        simp only[Sem.run_bind,Result.andThen_ok,newRow,run_newObj,Sem.run_pure,List.length_replicate]
       ·obtain⟨z',hz',rfl⟩:=hz1 hm
        simp only[Sem.run_bind,run_askRoom,Result.andThen_ok,hsz]
        rw[if_neg hm]
        simp only[Sem.run_bind,Result.andThen_ok,hz',newRow,run_newObj,Sem.run_pure,List.length_replicate]
      ·cases h
     ·cases h
    ·cases h
   ·cases h
  ·cases h
 ·cases h
end
end Go.Vai
