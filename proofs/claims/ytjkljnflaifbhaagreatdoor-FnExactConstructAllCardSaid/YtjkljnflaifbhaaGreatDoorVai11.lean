/- No conditions. -/
import Derived.Test.YtjkljnflaifbhaaGreatDoorVai10
namespace Go.Vai
open Go
section
variable {C:gY} {E:iU} {g:Gh} {st:St} {tm:Array Value} {w:World} {Q:Type}
theorem eI:∀(cs:List CV) (bad:List Place) (st:St),(dI bad cs st).1.all CV.lastsB=true
 |[],_,_=>rfl
 |c::r,bad,st=>by
  cases c with
  |view p f lo t l=>
   cases hp:p.isArg with
   |true=>simp[dI,hp,CV.lastsB,eI r]
   |false=>
    cases hb:bad.any (fun q=>decide (q=p))with
    |true=>simp[dI,hp,hb,CV.lastsB,eI r]
    |false=>simp[dI,hp,hb,CV.lastsB,eI r]
  |va q i t x o=>simp[dI,CV.lastsB,eI r]
  |np cs=>simp[dI,CV.lastsB,eI r]
  |undef=>simp[dI,CV.lastsB,eI r]
  |v x=>simp[dI,CV.lastsB,eI r]
  |emp=>simp[dI,CV.lastsB,eI r]
  |sl t l=>simp[dI,CV.lastsB,eI r]
  |own t l=>simp[dI,CV.lastsB,eI r]
  |ptr b o=>simp[dI,CV.lastsB,eI r]
  |gp b o=>simp[dI,CV.lastsB,eI r]
  |lb n=>simp[dI,CV.lastsB,eI r]
  |ea t x o=>simp[dI,CV.lastsB,eI r]
  |fn f caps=>simp[dI,CV.lastsB,eI r]
theorem bS.stolen{g':Gh}{S:List Nat}(L:Ic g g' S):∀{cs:List CV} {vs:List Value} {ms:List (List Nat)},cs.all CV.lastsB=true->
 bS g w cs vs ms->bS g' w cs vs ms
 |[],_,_,_,h=>h
 |c::r,_,_,ha,h=>by
  obtain⟨v,vs',m,ms',rfl,rfl,h1,h2⟩:=h
  simp only[List.all_cons,Bool.and_eq_true]at ha
  exact⟨v,vs',m,ms',rfl,rfl,h1.stealB L ha.1,bS.stolen L ha.2 h2⟩
theorem wn.free(g:Gh)(bad:Place->Bool):wn g (g.free bad) []:=
 ⟨rfl,fun n=>(g.free_turn bad n).imp id fun⟨q,o,l,c,_,e1,e2⟩=>⟨q,o,l,c,e1,e2⟩,fun _ h=>(List.not_mem_nil h).elim⟩
theorem Ic.free(g:Gh)(b o n:Nat):Ic g (g.free (Place.isBoxFrom b o n)) []:=
 ⟨wn.free g _,fun _ _ _ _ _ h=>Gh.free_own rfl h⟩
theorem CV.isVal_lastsB{c:CV}(h:c.isVal=true):c.lastsB=true:=by cases c<;>first|rfl|cases h
theorem Zz(R:dG C E g st tm w){b o:Nat}{new:List CV}{vs:List Value}{ms:List (List Nat)}{k:St->Option Q}{r:Q}
 (hl:new.all CV.lastsB=true) (h:bS g w new vs ms) (F:dF g w (aj ms)) {strict:Bool} (hk:st.write strict b o new k=some r):
 ∃nb arr e,g.bx b=some nb/\w.heap[nb]?=some (.cells arr e (0,0))/\o+vs.length<=arr.size/\(∀v,v∈vs->v.oneCell'=true)/\
  ∃g' st',k st'=some r/\dG C E g' st' tm (w.setRow nb (arr.toList.take o++vs++arr.toList.drop (o+vs.length)).toArray):=by
 unfold St.write at hk
 split at hk
 ·rename_i cs hb
  split at hk
  ·rename_i ho
   split at hk
   ·rename_i hs
    have hb':st.boxes[b]?=some (some (false,cs)):=by
     rw[List.getD_eq_getElem?_getD]at hb
     cases hx:st.boxes[b]? with
     |none=>rw[hx]at hb;cases hb
     |some y=>rw[hx]at hb;simpa using hb
    split at hk
    ·split at hk
     ·cases hk
     ·rename_i hno
      obtain⟨nb,arr,e,h1,h2,h3,g',R'⟩:=R.writeBox (o:=o) hb' (fun j n o' l c h1 h2 e=>by
       obtain⟨t,x,hx⟩:=R.own n _ o' l c e
       simp only[St.atPlace,List.getD_eq_getElem?_getD,hb',Option.getD_some]at hx
       apply hno
       rw[List.any_eq_true]
       refine⟨.own t x, ?_,rfl⟩
       have hj:cs[j]?=some (.own t x):=by
        cases hj:cs[j]? with
        |none=>rw[hj]at hx;cases hx
        |some c=>rw[hj]at hx;simp at hx;rw[hx]
       apply List.mem_of_getElem? (i:=j-o)
       rw[List.getElem?_take,if_pos (by omega),List.getElem?_drop,show o+(j-o)=j by omega]
       exact hj) h F ho
      exact⟨nb,arr,e,h1,h2,by rw[h3,<-h.length];exact ho,h.oneCell hs,g',_,hk,R'⟩
    ·skip
     have R1:=R.giveUpAll (Place.isBoxFrom b o new.length)
     have L:=Ic.free g b o new.length
     have hb1:(st.giveUpAll (Place.isBoxFrom b o new.length)).boxes[b]?=some (some (false,wq (.cell b) (fun q c=>match Place.isBoxFrom b o new.length q with|true=>.undef|false=>c.unlend (Place.isBoxFrom b o new.length)) 0 cs)):=by
      simp only[St.giveUpAll,St.mapP,qp,Nat.zero_add,hb'];rfl
     have hlen:∀(f:Place->CV->CV) (cs:List CV) (i:Nat),(wq (.cell b) f i cs).length=cs.length:=by
      intro f cs
      induction cs with
      |nil=>intro i;rfl
      |cons c r ih=>intro i;simp[wq,ih]
     obtain⟨nb,arr,e,h1,h2,h3,g',R'⟩:=R1.writeBox (o:=o) hb1 (fun j n o' l c h1 h2 e=>by
      rcases g.free_turn (Place.isBoxFrom b o new.length) n with e'|⟨_,_,_,_,_,_,e'⟩
      ·have:=Gh.free_gone (bad:=Place.isBoxFrom b o new.length) (p:=.cell b j) (by simp[Place.isBoxFrom,h1,h2]) (e'.symm.trans e)
       rw[e]at this;cases this
      ·rw[e]at e';cases e') (h.stolen L hl) (F.turn (fun n hn=>Gh.free_junk hn)) (by rw[hlen];exact ho)
     refine⟨nb,arr,e,h1,h2, ?_,h.oneCell hs,g',_,hk,R'⟩
     rw[h3,hlen,<-h.length];exact ho
   ·cases hk
  ·cases hk
 ·cases hk
theorem FV.cells{x:Val}{v:Value}{ms:List (List Nat)}(h:FV g w x v ms)(hs:x.cs.all CV.solid=true):bS g w x.cs v.cells.toList ms:=by
 obtain⟨a,cs⟩:=x
 cases a with
 |true=>obtain⟨vs,rfl,h⟩:=h;exact h
 |false=>
  have h':bS g w cs [v] ms:=h
  have h1:=h'.oneCell hs v (by simp)
  have:v.cells= #[v]:=by cases v<;>first|rfl|cases h1
  rw[this];exact h'
theorem xL{P:Program}{T:TypeId}{b o:Nat}{arr:Array Value}{e:TypeId}{v:Value}(hs:sK P T=some v.cells.size)
 (h:w.heap[b]?=some (.cells arr e (0,0))) (ho:o+v.cells.size<=arr.size\/v.cells.size=0) (h1:∀x,x∈v.cells.toList->x.oneCell'=true):
 (Instr.storeAt T (.pointer (some ⟨b,o,none⟩)) v).run P w= .ok () (w.setRow b (arr.toList.take o++v.cells.toList++arr.toList.drop (o+v.cells.size)).toArray):=by
 have:(storeCells ⟨b,o,none⟩ v.cells.toList).run P w= .ok () (w.setRow b (arr.toList.take o++v.cells.toList++arr.toList.drop (o+v.cells.size)).toArray):=by
  rcases ho with ho|ho
  ·have:=run_storeCells_at P b o e v.cells.toList 0 arr w h (by simpa using ho) h1
   simpa only[Nat.add_zero,Array.length_toList]using this
  ·have hv:v.cells.toList=[]:=List.length_eq_zero_iff.1 (by simpa using ho)
   rw[hv,ho]
   simp only[storeCells,List.append_nil,Nat.add_zero,List.take_append_drop,Array.toArray_toList]
   rw[setRow_self w b arr e (0,0) h]
   rfl
 simp only[Instr.storeAt,Instr.sureAddr,Sem.run_bind,Sem.run_pure,Result.andThen_ok,storeVar,dL hs,ne_eq,not_true_eq_false,if_false,this]
theorem bg.splice{cs new:List CV}{vs nvs:List Value}{o:Nat}(h:bg g w cs vs)(h':bg g w new nvs):
 bg g w (Cg cs o new) (vs.take o++nvs++vs.drop (o+nvs.length)):=by
 have hd:=h.drop (o+new.length)
 rw[h'.length]at hd
 simp only[Vai.Cg]
 rw[h'.length]
 exact((h.take o).append h').append hd
theorem bg.vals:∀{cs:List CV} {vs:List Value},cs.all CV.isVal=true->bg g w cs vs->cs=vs.map .v
 |[],_,_,h=>by simp only[bg]at h;subst h;rfl
 |c::r,_,ha,h=>by
  obtain⟨v,vs',rfl,h1,h2⟩:=h
  simp only[List.all_cons,Bool.and_eq_true]at ha
  cases c with
  |v x=>
   have:v=x:=h1.2 (.slot 0 0 0)
   subst this
   rw[bg.vals ha.2 h2];rfl
  |_=>cases ha.1
theorem uk{cs:Array Value}{o n k:Nat}:(nS cs o n)[k]?=if k<n then cs.toList[o+k]? else none:=by
 simp only[nS,List.getElem?_take,List.getElem?_drop]
theorem Pn{l vs:List Value}{O:Nat}(h:O+vs.length<=l.length)(q:Nat):
 (l.take O++vs++l.drop (O+vs.length))[q]?=if q<O then l[q]? else if q<O+vs.length then vs[q-O]? else l[q]?:=by
 have hm:min O l.length=O:=by omega
 simp only[List.getElem?_append,List.length_append,List.length_take,List.getElem?_take,List.getElem?_drop,hm]
 by_cases h1:q<O
 ·rw[if_pos (by omega),if_pos h1,if_pos h1,if_pos h1]
 ·by_cases h2:q<O+vs.length
  ·rw[if_pos h2,if_neg h1,if_neg h1,if_pos h2]
  ·rw[if_neg h2,if_neg h1,if_neg h2]
   congr 1;omega
theorem acU{arr:Array Value}{vs:List Value}{off sz i o:Nat}(h:off+i*sz+sz<=arr.size)(ho:o+vs.length<=sz):
 nS (arr.toList.take (off+i*sz+o)++vs++arr.toList.drop (off+i*sz+o+vs.length)).toArray (off+i*sz) sz=
  (nS arr (off+i*sz) sz).take o++vs++(nS arr (off+i*sz) sz).drop (o+vs.length):=by
 apply List.ext_getElem?
 intro k
 have hsl:(nS arr (off+i*sz) sz).length=sz:=by simp only[nS,List.length_take,List.length_drop,Array.length_toList];omega
 have hal:arr.toList.length=arr.size:=Array.length_toList
 rw[uk,show∀l:List Value,l.toArray.toList=l from fun _=>rfl,Pn (by rw[hal];omega),Pn (by rw[hsl];exact ho),uk]
 by_cases hk:k<sz
 ·rw[if_pos hk]
  by_cases h1:k<o
  ·rw[if_pos (by omega),if_pos h1,if_pos hk]
  ·rw[if_neg (by omega),if_neg h1]
   by_cases h2:k<o+vs.length
   ·rw[if_pos (by omega),if_pos h2];congr 1;omega
   ·rw[if_neg (by omega),if_neg h2,if_pos hk]
 ·rw[if_neg hk,if_neg (by omega),if_neg (by omega),if_neg hk]
theorem aah{arr:Array Value}{vs:List Value}{off sz i j o:Nat}(h:off+i*sz+sz<=arr.size)(ho:o+vs.length<=sz)(hj:j≠i):
 nS (arr.toList.take (off+i*sz+o)++vs++arr.toList.drop (off+i*sz+o+vs.length)).toArray (off+j*sz) sz=nS arr (off+j*sz) sz:=by
 apply List.ext_getElem?
 intro k
 have hal:arr.toList.length=arr.size:=Array.length_toList
 rw[uk,uk,show∀l:List Value,l.toArray.toList=l from fun _=>rfl,Pn (by rw[hal];omega)]
 by_cases hk:k<sz
 ·rw[if_pos hk,if_pos hk]
  rcases Nat.lt_or_gt_of_ne hj with h1|h1
  ·have:(j+1)*sz<=i*sz:=Nat.mul_le_mul_right _ h1
   rw[Nat.add_mul]at this
   rw[if_pos (by omega)]
  ·have:(i+1)*sz<=j*sz:=Nat.mul_le_mul_right _ h1
   rw[Nat.add_mul]at this
   rw[if_neg (by omega),if_neg (by omega)]
 ·rw[if_neg hk,if_neg hk]
theorem HR.poke(R:dG C E g st tm w){w':World}{p:Place}{b off n c:Nat}{arr arr':Array Value}{e e':TypeId}{i:Nat}{t:Ty}{y:t.T}
 (hb:g.lab b= .own p off n c) (hh:w.heap[b]?=some (.cells arr e (0,0))) (hh':w'.heap[b]?=some (.cells arr' e' (0,0))) (hs:arr'.size=arr.size)
 (hy:ER g.imm w' t y (nS arr' (off+i*t.size) t.size)) (ho:∀j,j≠i->nS arr' (off+j*t.size) t.size=nS arr (off+j*t.size) t.size)
 (hI:∀n,g.lab n= .imm->g.lab n= .imm/\w'.heap[n]?=w.heap[n]?) {full:Bool} {lo:Nat} {l:List t.T} {v:Value} (h:HR g w (g.owns p) full lo t l v):
 HR g w' (g.owns p) full lo t (if lo<=i then l.set (i-lo) y else l) v:=by
 have hlen:(if lo<=i then l.set (i-lo) y else l).length=l.length:=by split<;>simp
 obtain⟨A,cap,hv,hc,h⟩:=h
 refine⟨A,cap,by rw[hlen];exact hv,by rw[hlen];exact hc,h.imp id ?_⟩
 rintro ⟨b0,off0,n0,c0,cs0,e0,hA,hl,hf,hh0,hs0,hx⟩
 have hbb:b0=b:=R.uniq b0 b p off0 n0 c0 off n c hl hb
 subst hbb
 have hl':g.lab b0= .own p off0 n0 c0:=hl
 rw[hb]at hl'
 injection hl' with _ h1 h2 h3
 subst h1;subst h2;subst h3
 rw[hh]at hh0
 simp only[Option.some.injEq,Obj.cells.injEq]at hh0
 obtain⟨rfl,rfl,_⟩:=hh0
 refine⟨b0,off,n,c,arr',e',hA,hb,by rw[hlen];exact hf,hh',by rw[hs];exact hs0,fun k x hk=> ?_⟩
 rw[show off+lo*t.size+k*t.size=off+(lo+k)*t.size by rw[Nat.add_mul];omega]
 by_cases hki:lo+k=i
 ·rw[if_pos (by omega),List.getElem?_set,if_pos (by omega)]at hk
  split at hk
  ·cases hk;rw[hki];exact hy
  ·cases hk
 ·have hk':l[k]?=some x:=by
   split at hk
   ·rw[List.getElem?_set_ne (by omega)]at hk;exact hk
   ·exact hk
  have:=hx k x hk'
  rw[show off+lo*t.size+k*t.size=off+(lo+k)*t.size by rw[Nat.add_mul];omega]at this
  rw[ho _ hki]
  exact ER.mono hI this
theorem Lm(R:dG C E g st tm w){k:St->Option Q}{r:Q}{strict:Bool}{T:TypeId}{a x:AV}{va vx:Value}(ha:kl g w a va)(hx:kl g w x vx)
 (h:Qg C strict st T a x k=some r):
 ∃g' st' w',k st'=some r/\(Instr.storeAt T va vx).run C.P w= .ok () w'/\dG C E g' st' tm w':=by
 unfold Qg at h
 split at h
 ·rename_i v
  split at h
  ·rename_i n hn
   split at h
   ·rename_i hlen
    split at h
    ·
     rename_i b o
     obtain⟨nb,rfl,hbx⟩:=ha.one_inv.2 (.slot 0 0 0)
     have Sm:∀{g1:Gh} {st1:St} {c1:List CV} {ms:List (List Nat)},dG C E g1 st1 tm w->g1.bx=g.bx->c1.all CV.lastsB=true->FV g1 w ⟨v.agg,c1⟩ vx ms->
      dF g1 w (aj ms)->c1.length=n->∀{s},st1.write s b o c1 k=some r->
      ∃g' st' w',k st'=some r/\(Instr.storeAt T (.pointer (some ⟨nb,o,none⟩)) vx).run C.P w= .ok () w'/\dG C E g' st' tm w':=by
      intro g1 st1 c1 ms R1 hbx1 hl1 hF F1 hn1 s hk
      have hsol:c1.all CV.solid=true:=by
       unfold St.write at hk
       split at hk
       ·split at hk
        ·split at hk
         ·assumption
         ·cases hk
        ·cases hk
       ·cases hk
      have hc:=hF.cells hsol
      obtain⟨nb',arr,e,h1,h2,h3,h4,g',st',h5,h6⟩:=Zz R1 hl1 hc F1 hk
      rw[hbx1,hbx]at h1
      injection h1 with h1
      subst h1
      refine⟨g',st',_,h5,xL ?_ h2 (.inl (by simpa using h3)) h4,by simpa using h6⟩
      rw[hn,<-hn1,hc.length];simp
     split at h
     ·split at h
      ·rename_i hval
       obtain⟨ms,h1,h2⟩:=NV.fs (x:=v) hx
       refine Sm R rfl ?_ h1 (by rw[h2];exact dF.nil) hlen h
       rw[List.all_eq_true]at hval⊢
       exact fun c hc=>CV.isVal_lastsB (hval c hc)
      ·cases h
     ·have key:∀(vs:List Value),bg g w v.cs vs->∃g' ms,dG C E g' (dI [] v.cs st).2 tm w/\bS g' w (dI [] v.cs st).1 vs ms/\dF g' w (aj ms)/\Ic g g' (aj ms):=
       fun vs hv=>zH v.cs [] st g vs R hv.ls (fun _ h=>(List.not_mem_nil h).elim)
      obtain⟨vg,vcs⟩:=v
      cases vg with
      |true=>
       obtain⟨vs,rfl,hv⟩:=hx
       obtain⟨g1,ms,R1,F1,Fr,L⟩:=key _ hv
       refine Sm R1 L.1.bx (eI _ _ _) ⟨vs,rfl,F1⟩ Fr ?_ h
       rw[F1.length,<-hv.length];exact hlen
      |false=>
       have hv:bg g w vcs [vx]:=hx
       obtain⟨g1,ms,R1,F1,Fr,L⟩:=key _ hv
       refine Sm R1 L.1.bx (eI _ _ _) (c1:=(dI [] vcs st).1) F1 Fr ?_ h
       rw[F1.length,<-hv.length];exact hlen
    ·
     rename_i p i t e o
     split at h
     ·cases h
     ·split at h
      ·rename_i hval
       split at h
       ·rename_i ho
        split at h
        ·rename_i y hy
         split at h
         ·rename_i t' l hat
          split at h
          ·rename_i htt
           subst htt
           obtain⟨b,off,n',c',arr,e',rfl,hlab,hheap,her⟩:=ha.one_inv.2 (.slot 0 0 0)
           obtain⟨vs,hvs,hcells⟩:∃vs:List Value,bg g w v.cs vs/\((∀x,x∈vs->x.oneCell'=true)->vx.cells.toList=vs):=by
            obtain⟨vg,vcs⟩:=v
            cases vg with
            |true=>obtain⟨vs,rfl,hv⟩:=hx;exact⟨_,hv,fun _=>rfl⟩
            |false=>
             refine⟨[vx],hx,fun h1=> ?_⟩
             have h1:=h1 vx (by simp)
             cases vx<;>first|rfl|cases h1
           have hsp:=(ER.cells her).splice (o:=o) hvs
           have her':=Et hy hsp
           have hone:=ER.oneCell her'
           have hone':∀x,x∈vs->x.oneCell'=true:=fun x hx=>hone x (by simp[hx])
           have hcells:=hcells hone'
           have hvl:vs.length=n:=by rw[<-hvs.length];exact hlen
           have hsegl:(nS arr (off+i*t.size) t.size).length=t.size:=her.length
           have hcsz:vx.cells.size=vs.length:=by rw[<-hcells];simp
           have hfit:off+i*t.size+t.size<=arr.size\/t.size=0:=by
            simp only[nS,List.length_take,List.length_drop,Array.length_toList]at hsegl;omega
           have hrun:(Instr.storeAt T (.pointer (some ⟨b,off+i*t.size+o,none⟩)) vx).run C.P w= .ok () (w.setRow b (arr.toList.take (off+i*t.size+o)++vs++arr.toList.drop (off+i*t.size+o+vs.length)).toArray):=by
            have:=xL (P:=C.P) (T:=T) (v:=vx) (o:=off+i*t.size+o) (by rw[hn,hcsz,hvl]) hheap (by rw[hcsz];omega) (by rw[hcells];exact hone')
            rw[hcells,hcsz]at this
            exact this
           have harr':∃arr',arr'=(arr.toList.take (off+i*t.size+o)++vs++arr.toList.drop (off+i*t.size+o+vs.length)).toArray/\arr'.size=arr.size/\
            nS arr' (off+i*t.size) t.size=(nS arr (off+i*t.size) t.size).take o++vs++(nS arr (off+i*t.size) t.size).drop (o+vs.length)/\
            ∀j,j≠i->nS arr' (off+j*t.size) t.size=nS arr (off+j*t.size) t.size:=by
            refine⟨_,rfl, ?_⟩
            rcases hfit with hfit|h0
            ·refine⟨?_,acU hfit (by omega),fun j hj=>aah hfit (by omega) hj⟩
             simp only[List.size_toArray,List.length_append,List.length_take,List.length_drop,Array.length_toList];omega
            ·have:vs=[]:=List.length_eq_zero_iff.1 (by omega)
             subst this
             simp only[List.append_nil,List.length_nil,Nat.add_zero,List.take_append_drop,Array.toArray_toList,true_and]
             exact fun _ _=>trivial
           obtain⟨arr',he',hsz',hsi,hso⟩:=harr'
           rw[<-he']at hrun
           have hheap':=setRow_heap w b arr arr' e' (0,0) hheap
           have hI:∀m,g.lab m= .imm->g.lab m= .imm/\(w.setRow b arr').heap[m]?=w.heap[m]?:=
            fun m hm=>⟨hm,setRow_other w b m _ (fun e=>by rw[e,hlab]at hm;cases hm)⟩
           have H:gM (fun q=>q≠p) (fun _=>True) g g w (w.setRow b arr'):={
            imm:=hI
            own:=fun m q o l c hq hm=>⟨hm,setRow_other w b m _ (fun e=>by rw[e,hlab]at hm;injection hm with hm;exact hq hm.symm)⟩
            bx:=fun _ _ _ h=>h}
           have hyE:ER g.imm (w.setRow b arr') t y (nS arr' (off+i*t.size) t.size):=by rw[hsi];exact ER.mono hI her'
           refine⟨g,_,_,h,hrun,R.mapP _ ?_ ?_ ?_ ?_⟩
           ·exact{
             lab:=fun _=>.inl rfl
             bx:=rfl
             imm:=fun m hm=>(hI m hm).2
             box:=fun m b' hm=>setRow_other w b m _ (fun e=>by rw[e,hlab]at hm;cases hm)
             far:=fun m hm=>setRow_other w b m _ (fun e=>by rw[e,hlab]at hm;cases hm)
             size:=by simp
             os:=rfl
             tape:=rfl
             output:=rfl}
           ·intro q;split<;>rfl
           ·intro q c u _ hc
            have refr:∀c',(∀t l,q=p->c'≠ .own t l)->cu g w q c' u->cu g (w.setRow b arr') q (c'.refresh p i t y) u:=by
             intro c' hno hc
             cases c' with
             |view q' f lo t' l'=>
              simp only[CV.refresh]
              split
              ·rename_i hq
               subst hq
               split
               ·rename_i htt
                subst htt
                have hpk:=HR.poke R hlab hheap hheap' hsz' hyE hso hI hc.1
                cases lo with
                |zero=>
                 simp only[Nat.zero_le,if_true,Nat.sub_zero]at hpk
                 exact⟨hpk,hc.2⟩
                |succ lo=>exact⟨hpk,hc.2⟩
               ·trivial
              ·rename_i hq
               exact cu.mono H (p:=q) (c:=.view q' f lo t' l') hq hc
             |va q' i' t' x' o'=>
              simp only[CV.refresh]
              split
              ·rename_i hq
               subst hq
               split
               ·rename_i htt
                subst htt
                obtain⟨b2,off2,n2,c2,cs2,e2,rfl,hl2,hh2,hx2⟩:=hc
                have hbb:b2=b:=R.uniq b2 b q' off2 n2 c2 off n' c' hl2 hlab
                subst hbb
                rw[hlab]at hl2
                injection hl2 with _ k1 k2 k3
                subst k1;subst k2;subst k3
                rw[hheap]at hh2
                simp only[Option.some.injEq,Obj.cells.injEq]at hh2
                obtain⟨rfl,rfl,_⟩:=hh2
                refine⟨b2,off,n',c',arr',e',rfl,hlab,hheap', ?_⟩
                by_cases hii:i'=i
                ·subst hii
                 rw[if_pos rfl];exact hyE
                ·rw[if_neg hii,hso _ hii]
                 exact ER.mono hI hx2
               ·trivial
              ·rename_i hq
               exact cu.mono H (p:=q) (c:=.va q' i' t' x' o') hq hc
             |own t' l'=>exact cu.mono H (p:=q) (c:=.own t' l') (fun e=>hno _ _ e rfl) hc
             |np cs=>trivial
             |undef=>trivial
             |v x=>exact hc
             |emp=>exact hc
             |sl t l=>exact cu.mono H (p:=q) (c:=.sl t l) trivial hc
             |ptr b o=>exact cu.mono H (p:=q) (c:=.ptr b o) trivial hc
             |gp b o=>exact hc
             |lb n=>exact hc
             |ea t x o=>exact cu.mono H (p:=q) (c:=.ea t x o) trivial hc
             |fn f caps=>exact cu.mono H (p:=q) (c:=.fn f caps) (fun _ _=>trivial) hc
            by_cases hq:q=p
            ·rw[if_pos hq]
             cases c with
             |own t' l'=>
              simp only[CV.refreshOwn]
              split
              ·rename_i htt
               subst htt
               subst hq
               have:=HR.poke R hlab hheap hheap' hsz' hyE hso hI hc
               simp only[Nat.zero_le,if_true,Nat.sub_zero]at this
               exact this
              ·trivial
             |_=>exact refr _ (fun _ _ _ e=>by cases e) hc
            ·rw[if_neg hq]
             exact refr c (fun _ _ e=>absurd e hq) hc
           ·intro m q o'' l'' c'' hm t2 x2 hx2
            by_cases hq:q=p
            ·subst hq
             rw[hat]at hx2
             injection hx2 with h1 h2
             subst h1
             exact⟨_,_,by rw[if_pos rfl];simp only[CV.refreshOwn,dif_pos];rfl⟩
            ·exact⟨t2,x2,by rw[if_neg hq];rfl⟩
          ·cases h
         ·cases h
        ·cases h
       ·cases h
      ·cases h
    ·cases h
   ·cases h
  ·cases h
 ·cases h
end
end Go.Vai
