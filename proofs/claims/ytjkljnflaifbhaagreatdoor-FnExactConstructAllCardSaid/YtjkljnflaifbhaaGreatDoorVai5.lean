/- No conditions. -/
import Derived.Test.YtjkljnflaifbhaaGreatDoorVai4
import Derived.Laws.StructEq
import Derived.Laws.BytesString
namespace Go.Vai
open Go
section
variable {C:gY} {g:Gh} {w:World} {Q:Type} {k:AV->Option Q} {r:Q}
theorem tM.v{s:Sem Value}{x:Value}(h:k (.c (.v x))=some r)(hs:s.run C.P w= .ok x w):tM C g w s k r:=
 ⟨_,_,h,hs,kl.v x⟩
theorem kl.v_inv{x y:Value}(h:kl g w (.one ⟨false,[.v x]⟩) y):y=x:=h.one_inv.2 (.slot 0 0 0)
theorem kl.agg_inv{cs:List CV}{y:Value}(h:kl g w (.one ⟨true,cs⟩) y):∃vs,y= .agg vs/\bg g w cs vs.toList:=h
theorem ep{b:Bool}{x y:Option Q}{r:Q}(h:cond b x y=some r):(b=true/\x=some r)\/(b=false/\y=some r):=by
 cases b
 ·exact .inr ⟨rfl,h⟩
 ·exact .inl ⟨rfl,h⟩
theorem ab7{c x y:AV}{vc vx vy:Value}(hc:kl g w c vc)(hx:kl g w x vx)(hy:kl g w y vy)(h:Wc c x y k=some r):
 tM C g w (do pure (if<-asBool vc then vx else vy)) k r:=by
 unfold Wc at h
 split at h
 ·rename_i b
  have:=hc.v_inv;subst this
  split at h
  ·rename_i p q
   have e1:=hx.v_inv;have e2:=hy.v_inv;subst e1;subst e2
   refine tM.v h ?_
   cases b<;>simp[asBool]
  ·rcases ep h with⟨rfl,h⟩|⟨rfl,h⟩
   ·exact⟨_,_,h,by simp[asBool],hx⟩
   ·exact⟨_,_,h,by simp[asBool],hy⟩
 ·cases h
theorem adl{op:BinOp}{κ:IntKind}{a b:Int}(h1:op≠ .shl)(h2:op≠ .shr)(T:TypeId)(h:Yg op κ a b k=some r):
 tM C g w (binOp op T (.int κ a) (.int κ b)) k r:=by
 cases op<;>simp only[Yg]at h<;>first
  |exact absurd rfl h1
  |exact absurd rfl h2
  |exact tM.v h (by simp[binOp,Op.intArith,Op.intBits,Op.intCmp])
  |(rcases ep h with⟨hb,h⟩|⟨hb,h⟩
    ·cases h
    ·simp only[decide_eq_false_iff_not]at hb;exact tM.v h (by simp[binOp,Op.intDiv,hb]))
  |cases h
theorem Wd{op:BinOp}{κ κ':IntKind}{a b:Int}(T:TypeId)(h:MX op κ a b k=some r):
 tM C g w (binOp op T (.int κ a) (.int κ' b)) k r:=by
 cases op<;>simp only[MX]at h<;>first
  |(rcases ep h with⟨hb,h⟩|⟨hb,h⟩
    ·cases h
    ·simp only[decide_eq_false_iff_not]at hb;exact tM.v h (by simp[binOp,Op.shift,hb]))
  |cases h
theorem ado{op:BinOp}{a b:ByteArray}(T:TypeId)(h:ZP op a b k=some r):
 tM C g w (binOp op T (.string a) (.string b)) k r:=by
 cases op<;>simp only[ZP]at h<;>first
  |exact tM.v h (by simp[binOp,Op.stringOp])
  |(rcases ep h with⟨hb,h⟩|⟨hb,h⟩
    ·cases h
    ·simp only[decide_eq_false_iff_not]at hb;exact tM.v h (by simp only[binOp,Op.stringOp];rw[if_neg hb];rfl))
  |cases h
def Rep(P:Program)(T:TypeId)(xs:List Value)(x:Value):Prop:=
 match si P T with
 |some true=>x= .agg xs.toArray
 |some false=>xs=[x]
 |none=>False
theorem Vh{P:Program}{w:World}{T:TypeId}{n off:Nat}{xs:Array Value}{b:Bool}(hn:sK P T=some n)(ha:si P T=some b)
 (h1:b=false->n=1) (hl:((xs.toList.drop off).take n).length=n):
 ∃v,(part T xs off).run P w= .ok v w/\Rep P T ((xs.toList.drop off).take n) v:=by
 cases b with
 |true=>
  refine⟨.agg ((xs.toList.drop off).take n).toArray, ?_,by simp[Rep,ha]⟩
  simp only[part,Sem.run_bind,HM ha,Result.andThen_ok,if_true,dL hn,Sem.run_pure]
  congr 2
  apply Array.ext'
  simp
 |false=>
  have h1:=h1 rfl
  subst h1
  cases hx:xs[off]? with
  |none=>
   have:xs.toList.length<=off:=by simpa using hx
   rw[List.drop_of_length_le this]at hl;simp at hl
  |some v=>
   refine⟨v,by simp[part,HM ha,hx], ?_⟩
   have hx':xs.toList[off]?=some v:=by simpa using hx
   have hlt:off<xs.toList.length:=(List.getElem?_eq_some_iff.1 hx').1
   simp only[Rep,ha]
   rw[List.drop_eq_getElem_cons hlt]
   simp only[List.take_succ_cons,List.take_zero]
   rw[(List.getElem?_eq_some_iff.1 hx').2]
theorem bg.v1{x:Value}{ys:List Value}(h:bg g w [.v x] ys):ys=[x]:=by
 obtain⟨v,vs',rfl,h1,h2⟩:=h
 rw[h1.2 (.slot 0 0 0),show vs'=[]from h2]
theorem Og{P:Program}{T:TypeId}{d:TypeDesc}(h:P.underlying T=some d):si P T=some (match d with| .struct _=>true| .array _ _=>true|_=>false):=by
 simp only[si,h,Option.map_some]
 cases d<;>rfl
theorem acq{P:Program}:∀(d:Nat) (T:TypeId) (as bs:List CV) (b:Bool) (xs ys:List Value) (x y:Value),eqT P d T as bs=some b->
 bg g w as xs->bg g w bs ys->Rep P T xs x->Rep P T ys y->∀D,d<=D->(Op.equalIn D T x y).run P w= .ok b w
 |0,_,_,_,_,_,_,_,_,h,_,_,_,_,_,_=>by simp[eqT]at h
 |d+1,T,as,bs,b,xs,ys,x,y,h,ha,hb,hx,hy,D,hD=>by
  obtain⟨D,rfl⟩:∃m,D=m+1:=⟨D-1,by omega⟩
  simp only[eqT]at h
  split at h
  ·rename_i κ hu
   split at h
   ·rename_i k a k' b'
    split at h
    ·rename_i hk
     subst hk
     simp only[Option.some.injEq]at h
     have e1:=ha.v1;have e2:=hb.v1;subst e1;subst e2
     simp only[Rep,Og hu,List.cons.injEq,and_true]at hx hy
     subst hx;subst hy
     simp[Op.equalIn,an hu,h]
    ·cases h
   ·cases h
  ·rename_i hu
   split at h
   ·rename_i a b'
    simp only[Option.some.injEq]at h
    have e1:=ha.v1;have e2:=hb.v1;subst e1;subst e2
    simp only[Rep,Og hu,List.cons.injEq,and_true]at hx hy
    subst hx;subst hy
    simp[Op.equalIn,an hu,h]
   ·cases h
  ·rename_i hu
   split at h
   ·rename_i a b'
    simp only[Option.some.injEq]at h
    have e1:=ha.v1;have e2:=hb.v1;subst e1;subst e2
    simp only[Rep,Og hu,List.cons.injEq,and_true]at hx hy
    subst hx;subst hy
    simp[Op.equalIn,an hu,h]
   ·cases h
  ·rename_i fs hu
   split at h
   ·rename_i hst
    simp only[Rep,Og hu]at hx hy
    subst hx;subst hy
    have hf:P.fieldsOf T=fs:=by simp[Program.fieldsOf,hu]
    rw[run_equalIn_struct (P:=P) w D T xs.toArray ys.toArray (by rw[hf];exact hu) hst,hf]
    have key:∀(l:List Field) (b:Bool),JV (eqT P d) P as bs l=some b->(Op.eqFields D xs.toArray ys.toArray l).run P w= .ok b w:=by
     intro l
     induction l with
     |nil=>intro b h;simp only[JV,Option.some.injEq]at h;subst h;simp[Op.eqFields]
     |cons f l ih=>
      intro b h
      simp only[JV]at h
      split at h
      ·rename_i n a hn hagg hname
       split at h
       ·rename_i hc
        simp only[Bool.and_eq_true,Bool.or_eq_true,beq_iff_eq]at hc
        obtain⟨hc1,hc2,hc3⟩:=hc
        split at h
        ·rename_i p q hp hq
         simp only[Option.some.injEq]at h
         subst h
         have ha':=(ha.drop f.offset).take n
         have hb':=(hb.drop f.offset).take n
         have h1:a=false->n=1:=fun e=>hc1.resolve_left (by simp[e])
         obtain⟨va,hva,ra⟩:=Vh (w:=w) (xs:=xs.toArray) (off:=f.offset) hn hagg h1 (by have:=ha'.length;show(List.take n (List.drop f.offset xs)).length=n;omega)
         obtain⟨vb,hvb,rb⟩:=Vh (w:=w) (xs:=ys.toArray) (off:=f.offset) hn hagg h1 (by have:=hb'.length;show(List.take n (List.drop f.offset ys)).length=n;omega)
         have he:=acq d f.type _ _ p _ _ va vb hp ha' hb' ra rb D (by omega)
         have hr:=ih q hq
         have hn':f.name≠ "_" :=by simpa using hname
         rw[Op.eqFields]
         simp only[if_pos hn',Sem.run_bind,hva,hvb,he,Result.andThen_ok]
         cases p
         ·simp
         ·simpa using hr
        ·cases h
       ·cases h
      ·cases h
    exact key _ _ h
   ·cases h
  ·cases h
theorem HN{P:Program}(d:Nat)(a b:Bool){T:TypeId}(hu:P.underlying T=some .bool):
 (Op.equalIn (d+1) T (.bool a) (.bool b)).run P w= .ok (a==b) w:=by
 simp[Op.equalIn,an hu]
theorem xK{P:Program}(d:Nat)(A:Option Addr)(n c n' c':Nat){T e:TypeId}(hu:P.underlying T=some (.slice e)):
 (Op.equalIn (d+1) T (.slice A n c) (.slice none n' c')).run P w= .ok A.isNone w:=by
 cases A<;>simp[Op.equalIn,an hu]
theorem Wb{op:BinOp}{T:TypeId}{m n c n' c':Nat}{A:Option Addr}(hA:0<m->A.isNone=false)(h:Ie C.P op T m k=some r):
 tM C g w (binOp op T (.slice A n c) (.slice none n' c')) k r:=by
 unfold Ie at h
 split at h
 ·rename_i e hu
  cases hd:decide (0<m)with
  |false=>rw[hd]at h;cases h
  |true=>
   rw[hd]at h
   have:=xK (w:=w) 9999 A n c n' c' hu
   rw[hA (of_decide_eq_true hd)]at this
   exact tM.v h (by simp only[binOp,Op.equal,Op.maxDepth,Sem.run_bind,this,Result.andThen_ok,Sem.run_pure])
 ·rename_i e hu
  cases hd:decide (0<m)with
  |false=>rw[hd]at h;cases h
  |true=>
   rw[hd]at h
   have:=xK (w:=w) 9999 A n c n' c' hu
   rw[hA (of_decide_eq_true hd)]at this
   exact tM.v h (by simp only[binOp,Op.equal,Op.maxDepth,Sem.run_bind,this,Result.andThen_ok,Sem.run_pure,Bool.not_false])
 ·cases h
theorem Xb{op:BinOp}{T:TypeId}{x y:AV}{vx vy:Value}(ox oy:Operand)(hx:kl g w x vx)(hy:kl g w y vy)(h:VJ C.P op T x y k=some r):
 tM C g w (do eqGuard op T ox oy vx vy;binOp op T vx vy) k r:=by
 have plain:∀{s:Sem Value},(eqGuard op T ox oy vx vy).run C.P w= .ok () w->tM C g w s k r->tM C g w (do eqGuard op T ox oy vx vy;s) k r:=by
  intro s h1 ⟨av,v,h2,h3,h4⟩
  exact⟨av,v,h2,by simp[h1,h3],h4⟩
 unfold VJ at h
 split at h
 ·rename_i κ a κ' b
  have e1:=hx.v_inv;have e2:=hy.v_inv;subst e1;subst e2
  refine plain (by cases op<;>simp[eqGuard]) ?_
  split at h
  ·exact Wd T h
  ·exact Wd T h
  ·rename_i h1 h2
   split at h
   ·rename_i hk;subst hk;exact adl h1 h2 T h
   ·cases h
 ·rename_i κ a n
  have e1:=hx.v_inv;subst e1
  obtain⟨m,e2,hm⟩:=hy.one_inv.2 (.slot 0 0 0)
  subst e2
  split at h
  ·split at h
   ·rename_i hk
    subst hk
    cases hd:decide (a<=(n:Int))with
    |false=>rw[hd]at h;cases h
    |true=>
     rw[hd]at h
     have han:=of_decide_eq_true hd
     refine plain (by simp[eqGuard]) (tM.v h ?_)
     have:decide (a>(m:Int))=false:=decide_eq_false (by omega)
     simp[binOp,Op.intCmp,this]
   ·cases h
  ·cases h
 ·rename_i a b
  have e1:=hx.v_inv;have e2:=hy.v_inv;subst e1;subst e2
  exact plain (by cases op<;>simp[eqGuard]) (ado T h)
 ·rename_i a b
  have e1:=hx.v_inv;have e2:=hy.v_inv;subst e1;subst e2
  refine plain (by cases op<;>simp[eqGuard]) ?_
  split at h
  ·rename_i _ hu
   exact tM.v h (by have:=HN (w:=w) 9999 a b hu;simp only[binOp,Op.equal,Op.maxDepth,Sem.run_bind,this,Result.andThen_ok,Sem.run_pure])
  ·rename_i _ hu
   exact tM.v h (by have:=HN (w:=w) 9999 a b hu;simp only[binOp,Op.equal,Op.maxDepth,Sem.run_bind,this,Result.andThen_ok,Sem.run_pure])
  ·cases h
 ·rename_i as bs
  obtain⟨xs,rfl,ha⟩:=hx.agg_inv
  obtain⟨ys,rfl,hb⟩:=hy.agg_inv
  split at h
  ·rename_i b hagg hguard heq
   have he:=acq (w:=w) 8 T as bs b xs.toList ys.toList (.agg xs) (.agg ys) heq ha hb (by simp[Rep,hagg]) (by simp[Rep,hagg]) Op.maxDepth (by simp[Op.maxDepth])
   split at h
   ·exact plain (by simp[eqGuard,hguard]) (tM.v h (by simp[binOp,Op.equal,he]))
   ·exact plain (by simp[eqGuard,hguard]) (tM.v h (by simp[binOp,Op.equal,he]))
   ·cases h
  ·cases h
 ·rename_i t l n' c'
  have e2:=hy.v_inv;subst e2
  obtain⟨A,cap,hv,hc,hl⟩:=hx.one_inv.2 (.slot 0 0 0)
  simp only[List.cons.injEq,and_true]at hv
  subst hv
  refine plain (by cases op<;>simp[eqGuard]) (Wb (fun hpos=> ?_) h)
  obtain⟨b,off,cs,e,fz,rfl,_⟩:=hl.resolve_left (fun e=>by subst e;exact absurd hpos (Nat.lt_irrefl _))
  rfl
 ·rename_i p f lo t l n' c'
  have e2:=hy.v_inv;subst e2
  obtain⟨A,cap,rfl,hc,hl⟩:=(hx.one_inv.2 (.slot 0 0 0)).1
  refine plain (by cases op<;>simp[eqGuard]) (Wb (fun hpos=> ?_) h)
  obtain⟨b,off,n,c,cs,e,rfl,_⟩:=hl.resolve_left (fun e=>by omega)
  rfl
 ·rename_i A n c n' c'
  have e1:=hx.v_inv;have e2:=hy.v_inv;subst e1;subst e2
  split at h
  ·rename_i e hu
   have:=xK (w:=w) 9999 A n c n' c' hu
   exact plain (by simp[eqGuard]) (tM.v h (by simp only[binOp,Op.equal,Op.maxDepth,Sem.run_bind,this,Result.andThen_ok,Sem.run_pure]))
  ·rename_i e hu
   have:=xK (w:=w) 9999 A n c n' c' hu
   exact plain (by simp[eqGuard]) (tM.v h (by simp only[binOp,Op.equal,Op.maxDepth,Sem.run_bind,this,Result.andThen_ok,Sem.run_pure]))
  ·cases h
 ·cases h
theorem aex{op:UnOp}{x:AV}{vx:Value}(hx:kl g w x vx)(h:aUn op x k=some r):tM C g w (Op.unary op vx) k r:=by
 unfold aUn at h
 split at h
 ·have e1:=hx.v_inv;subst e1
  exact tM.v h (by simp[Op.unary])
 ·have e1:=hx.v_inv;subst e1
  exact tM.v h (by simp[Op.unary,Op.intArith])
 ·cases h
theorem RE{b off:Nat}{cs:Array Value}{e:TypeId}{fz:Nat×Nat}{l:List Int}{I:Nat->Prop}(hh:w.heap[b]?=some (.cells cs e fz))
 (hx:∀(i:Nat) (x:Int),l[i]?=some x->ER I w (.int .u8) x (nS cs (off+i*(Ty.int .u8).size) (Ty.int .u8).size)) (P:Program):
 (loadCells ⟨b,off,none⟩ l.length).run P w= .ok (l.map (Value.int .u8)).toArray w:=by
 have:=run_loadCells_list (P:=P) w ⟨b,off,none⟩ (l.map (Value.int .u8)) (fun j v hj=>by
  rw[List.getElem?_map,Option.map_eq_some_iff]at hj
  obtain⟨x,h1,rfl⟩:=hj
  have h2:nS cs (off+j*1) 1=[.int .u8 x]:=hx j x h1
  rw[Nat.mul_one]at h2
  have e:(⟨b,off,none⟩:Addr).add j=⟨b,off+j,none⟩:=by simp[Addr.add]
  rw[e,cell_of hh]
  have h3:=congrArg (·[0]?) h2
  simp only[nS,List.getElem?_take,List.getElem?_drop]at h3
  simpa using h3)
 simpa using this
theorem Yt{x:AV}{vx:Value}{l:List Int}(hx:kl g w x vx)(h:Ua x=some l):
 ∃A cap,vx= .slice A l.length cap/\(l=[]\/∃a,A=some a/\∀P,(loadCells a l.length).run P w= .ok (l.map (Value.int .u8)).toArray w):=by
 unfold Ua at h
 split at h
 ·rename_i l'
  cases h
  obtain⟨A,cap,hv,_,hl⟩:=hx.one_inv.2 (.slot 0 0 0)
  simp only[List.cons.injEq,and_true]at hv
  subst hv
  rcases hl with h0|⟨b,off,cs,e,fz,rfl,_,hh,hel⟩
  ·exact⟨A,cap,rfl, .inl h0⟩
  ·exact⟨_,cap,rfl, .inr ⟨_,rfl,RE hh hel⟩⟩
 ·rename_i l'
  cases h
  obtain⟨A,cap,rfl,hc,hl⟩:=(hx.one_inv.2 (.slot 0 0 0)).1
  rcases hl with h0|⟨b,off,n,c,cs,e,rfl,_,_,hh,_,hel⟩
  ·exact⟨A,cap,rfl, .inl (List.length_eq_zero_iff.1 (by omega))⟩
  ·exact⟨_,cap,rfl, .inr ⟨_,rfl,RE hh hel⟩⟩
 ·cases h
  obtain⟨A,rfl⟩:=hx.one_inv.2 (.slot 0 0 0)
  exact⟨A,0,rfl, .inl rfl⟩
 ·cases h
theorem ab0{s d:TypeId}{x:AV}{vx:Value}(hx:kl g w x vx)(h:V9 C.P s d x k=some r):tM C g w (convert s d vx) k r:=by
 unfold V9 at h
 split at h
 ·rename_i h1 h2
  have e1:=hx.v_inv;subst e1
  exact tM.v h (by simp[convert,an h1,an h2,Conv.intToInt])
 ·rename_i h1 h2
  have e1:=hx.v_inv;subst e1
  exact tM.v h (by simp[convert,an h1,an h2])
 ·rename_i h1 h2
  split at h
  ·rename_i h3 h4
   obtain⟨A,cap,rfl,hc⟩:=Yt hx h4
   refine tM.v h ?_
   rw[run_convert_bytes_string w s d _ _ _ _ h1 h3 h2]
   cases A with
   |none=>
    rcases hc with rfl|⟨a,ha,_⟩
    ·simp[Conv.bytesToString,VB]
    ·cases ha
   |some a=>
    refine run_bytesToString w a _ cap _ ?_
    rcases hc with rfl|⟨a',ha,hl⟩
    ·simp[loadCells,loadCellsFrom]
    ·cases ha;exact hl _
  ·cases h
 ·cases h
theorem adn{x:AV}{vx:Value}(hx:kl g w x vx)(h:aa9 x k=some r):∃av,k av=some r/\kl g w av vx/\∃a,vx= .pointer (some a):=by
 unfold aa9 at h
 split at h
 ·obtain⟨n,hy,hb⟩:=hx.one_inv.2 (.slot 0 0 0)
  exact⟨_,h,hx,_,hy⟩
 ·exact⟨_,h,hx,_,hx.one_inv.2 (.slot 0 0 0)⟩
 ·obtain⟨b,off,cs,e,fz,hy,_⟩:=hx.one_inv.2 (.slot 0 0 0)
  exact⟨_,h,hx,_,hy⟩
 ·obtain⟨b,off,n,c,cs,e,hy,_⟩:=hx.one_inv.2 (.slot 0 0 0)
  exact⟨_,h,hx,_,hy⟩
 ·cases h
theorem Fp{P:Program}{T:TypeId}{f off n:Nat}{b:Bool}(h:Io P T f=some (off,n,b)):
 ∃fs x,P.underlying T=some (.struct fs)/\fs[f]?=some x/\x.offset=off/\sK P x.type=some n/\si P x.type=some b:=by
 unfold Io at h
 split at h
 ·rename_i fs hu
  split at h
  ·rename_i x hx
   split at h
   ·rename_i n' b' hn hb
    simp only[Option.some.injEq,Prod.mk.injEq]at h
    obtain⟨rfl,rfl,rfl⟩:=h
    exact⟨fs,x,hu,hx,rfl,hn,hb⟩
   ·cases h
  ·cases h
 ·cases h
theorem Addr.add_eq(b off n:Nat):(⟨b,off,none⟩:Addr).add n=⟨b,off+n,none⟩:=by
 simp only[Addr.add]
 split
 ·rename_i h;subst h;rfl
 ·rfl
theorem FX{P:Program}{T:TypeId}{f off n:Nat}{b:Bool}(h:Io P T f=some (off,n,b))(hn:n≠0)(bk o:Nat):
 (Instr.fieldAt T (.pointer (some ⟨bk,o,none⟩)) f).run P w= .ok (.pointer (some ⟨bk,o+off,none⟩)) w:=by
 obtain⟨fs,x,hu,hx,rfl,hs,ha⟩:=Fp h
 simp[Instr.fieldAt,an hu,hx,Instr.sureAddr,fieldPlace,dL hs,hn,Addr.add_eq]
theorem VK{T:TypeId}{x:AV}{vx:Value}{f:Nat}(hx:kl g w x vx)(h:Aj C.P T x f k=some r):
 tM C g w (Instr.fieldAt T vx f) k r:=by
 unfold Aj at h
 split at h
 ·rename_i off n b hf
  split at h
  ·cases h
  ·rename_i hn
   split at h
   ·obtain⟨m,rfl,hb⟩:=hx.one_inv.2 (.slot 0 0 0)
    exact⟨_,_,h,FX hf hn _ _,kl.c ⟨rfl,fun _=>⟨m,rfl,hb⟩⟩⟩
   ·have hy:vx= .pointer (some ⟨_,_,none⟩):=hx.one_inv.2 (.slot 0 0 0)
    subst hy
    exact⟨_,_,h,FX hf hn _ _,kl.c ⟨rfl,fun _=>rfl⟩⟩
   ·obtain⟨b,off,cs,e,fz,rfl,h1,h2,h3⟩:=hx.one_inv.2 (.slot 0 0 0)
    exact⟨_,_,h,FX hf hn _ _,kl.c ⟨rfl,fun _=>⟨b,off,cs,e,fz,by rw[Nat.add_assoc],h1,h2,h3⟩⟩⟩
   ·obtain⟨b,off,m,c,cs,e,rfl,h1,h2,h3⟩:=hx.one_inv.2 (.slot 0 0 0)
    exact⟨_,_,h,FX hf hn _ _,kl.c ⟨rfl,fun _=>⟨b,off,m,c,cs,e,by rw[Nat.add_assoc],h1,h2,h3⟩⟩⟩
   ·cases h
 ·cases h
theorem aa5{T:TypeId}{x:AV}{vx:Value}{f:Nat}(hx:kl g w x vx)(h:Qd C.P T x f k=some r):
 tM C g w (Instr.field T vx f) k r:=by
 unfold Qd at h
 split at h
 ·rename_i off n cs hf
  obtain⟨vs,rfl,hn⟩:=hx.agg_inv
  obtain⟨fs,x,hu,hx',rfl,hs,ha⟩:=Fp hf
  split at h
  ·rename_i hl
   have hn':=(hn.drop x.offset).take n
   obtain⟨v,hv,hr⟩:=Vh (w:=w) (xs:=vs) (off:=x.offset) hs ha (fun h=>by cases h) (by rw[<-hn'.length];exact hl)
   simp only[Rep,ha]at hr
   exact⟨_,v,h,by simp[Instr.field,an hu,hx',asAgg,hv],_,hr,hn'⟩
  ·cases h
 ·rename_i off n cs hf
  obtain⟨vs,rfl,hn⟩:=hx.agg_inv
  obtain⟨fs,x,hu,hx',rfl,hs,ha⟩:=Fp hf
  split at h
  ·rename_i c hc
   obtain⟨v,hv,hf⟩:=hn.get hc
   have hv':vs[x.offset]?=some v:=by simpa using hv
   exact⟨_,v,h,by simp[Instr.field,an hu,hx',asAgg,part,HM ha,hv'],kl.c hf⟩
  ·cases h
 ·cases h
theorem oS{a:AV}{v:Value}{κ:IntKind}{n:Int}(h:kl g w a v)(hc:Ol a=some (κ,n)):v= .int κ n:=by
 unfold Ol at hc
 split at hc
 ·simp only[Option.some.injEq,Prod.mk.injEq]at hc
  obtain⟨rfl,rfl⟩:=hc
  exact h.v_inv
 ·cases hc
theorem Xv{α:Type}{l:List α}{i:Int}{x:α}(h:gq l i=some x):0<=i/\l[i.toNat]?=some x:=by
 unfold gq at h
 split at h
 ·exact⟨‹_›,h⟩
 ·cases h
theorem xR{P:Program}{T e:TypeId}{t:Ty}(h:B2 P T=some (e,t)):P.underlying T=some (.slice e)/\Zs P e=some t:=by
 unfold B2 at h
 split at h
 ·rename_i e' hu
  simp only[Option.map_eq_some_iff,Prod.mk.injEq]at h
  obtain⟨y,hy,rfl,rfl⟩:=h
  exact⟨hu,hy⟩
 ·cases h
theorem sf{P:Program}{e:TypeId}{t:Ty}(h:Zs P e=some t):sK P e=some t.size:=by
 simp only[Zs,Option.bind_eq_some_iff]at h
 obtain⟨y,_,h⟩:=h
 split at h
 ·rename_i i hi
  split at h
  ·split at h
   ·rename_i hs
    split at h
    ·simp only[Option.some.injEq]at h
     subst h
     simp[sK,hi,hs]
    ·cases h
   ·cases h
  ·cases h
 ·cases h
theorem U4{i:Int}{K:Nat->Option Q}{r:Q}:∀{m j:Nat},Q5 i K m j=some r->∃n,j<=n/\n<j+m/\i=(n:Int)/\K n=some r
 |0,_,h=>by cases h
 |m+1,j,h=>by
  rw[Q5]at h
  rcases ep h with⟨h0,h⟩|⟨_,h⟩
  ·exact⟨j,Nat.le_refl _,by omega,by simpa using h0,h⟩
  ·obtain⟨n,h1,h2,h3,h4⟩:=U4 h
   exact⟨n,by omega,by omega,h3,h4⟩
theorem Mn{T:TypeId}{x i:AV}{vx vi:Value}(hx:kl g w x vx)(hi:kl g w i vi)(h:xO C.P T x i k=some r):
 tM C g w (Instr.indexAt T vx vi) k r:=by
 unfold xO at h
 split at h
 ·rename_i κ i' hci
  have:=oS hi hci;subst this
  split at h
  ·rename_i t l
   split at h
   ·rename_i e t' he
    obtain⟨hu,ht⟩:=xR he
    have hsz:=sf ht
    split at h
    ·rename_i hts
     simp only[Option.bind_eq_some_iff]at h
     obtain⟨y,hy,h⟩:=h
     obtain⟨h0,hy⟩:=Xv hy
     obtain⟨A,cap,hv,_,hl⟩:=hx.one_inv.2 (.slot 0 0 0)
     simp only[List.cons.injEq,and_true]at hv
     subst hv
     obtain⟨b,off,cs,e',fz,rfl,hb,hh,hel⟩:=hl.resolve_left (fun e=>by subst e;simp at hy)
     have hlt:i'.toNat<l.length:=(List.getElem?_eq_some_iff.1 hy).1
     refine⟨_, .pointer (some ⟨b,off+i'.toNat*t'.size,none⟩),h, ?_,kl.c ⟨rfl,fun _=>⟨b,off+i'.toNat*t.size,cs,e',fz,by rw[hts];rfl,hb,hh,hel _ _ hy⟩⟩⟩
     have hlt':i'<(l.length:Int):=by omega
     simp[Instr.indexAt,asIntOf,an hu,h0,hlt',dL hsz,Addr.add_eq]
    ·cases h
   ·cases h
  ·rename_i p f lo t l
   split at h
   ·rename_i e t' he
    obtain⟨hu,ht⟩:=xR he
    have hsz:=sf ht
    split at h
    ·rename_i hts
     simp only[Option.bind_eq_some_iff]at h
     obtain⟨y,hy,h⟩:=h
     obtain⟨h0,hy⟩:=Xv hy
     have hlt:i'.toNat<l.length:=(List.getElem?_eq_some_iff.1 hy).1
     obtain⟨A,cap,rfl,hc,hl⟩:=(hx.one_inv.2 (.slot 0 0 0)).1
     obtain⟨b,off,n,c,cs,e',rfl,hb,hf,hh,hs,hel⟩:=hl.resolve_left (fun e=>by omega)
     have e1:off+lo*t.size+i'.toNat*t.size=off+(lo+i'.toNat)*t.size:=by rw[Nat.add_mul,Nat.add_assoc]
     refine⟨_, .pointer (some ⟨b,off+lo*t.size+i'.toNat*t'.size,none⟩),h, ?_,kl.c ⟨rfl,fun _=>⟨b,off,n,c,cs,e',by rw[hts,e1];rfl,hb,hh,by rw[<-e1];exact hel _ _ hy⟩⟩⟩
     have hlt':i'<(l.length:Int):=by omega
     simp[Instr.indexAt,asIntOf,an hu,h0,hlt',dL hsz,Addr.add_eq]
    ·cases h
   ·cases h
  ·rename_i b o
   split at h
   ·rename_i n e hu
    split at h
    ·rename_i z hz
     have hy:vx= .pointer (some ⟨_,_,none⟩):=hx.one_inv.2 (.slot 0 0 0)
     subst hy
     split at h
     ·obtain⟨m,_,h1,rfl,h5⟩:=U4 h
      refine⟨_, .pointer (some ⟨b,o+m*z,none⟩),h5, ?_,kl.c ⟨rfl,fun _=>rfl⟩⟩
      have h1':¬n<=m:=by omega
      simp[Instr.indexAt,asIntOf,an hu,Instr.sureAddr,h1',dL hz,Addr.add_eq]
     ·cases h
    ·cases h
   ·cases h
  ·cases h
 ·cases h
end
end Go.Vai
