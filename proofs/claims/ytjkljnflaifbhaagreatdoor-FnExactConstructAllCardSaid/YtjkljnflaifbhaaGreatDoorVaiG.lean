/- No conditions. -/
import Derived.Test.YtjkljnflaifbhaaGreatDoorVaiM
import Derived.OpenShut
import Derived.ProofKit
import Derived.ChangeVars
namespace Go.Vai
open Go
def Ty.isNum:Ty->Bool
 | .int _=>true
 | .bool=>true
 | .str=>true
 | .unit=>true
 | .pair a b=>a.isNum&&b.isNum
 |_=>false
mutual
def RJ{H:Type}:DataW H->List Value
 | .lit (.int k n)=>[.int k n]
 | .lit (.bool b)=>[.bool b]
 | .lit (.string l)=>[.string ⟨l.toArray⟩]
 | .agg l=>Nc l
 |_=>[]
def Nc{H:Type}:List (DataW H)->List Value
 |[]=>[]
 |d::r=>RJ d++Nc r
end
section
variable {H:Type} {enc:TypeId×Value->H} {P:Program} {w:World} {spare:Nat->Bool} {held:Bool}
theorem RK{d fuel:Nat}{cs:List Value}(ih:∀(T:TypeId) (y:Ty) (cs:List Value) x,CI P d T y=true->y.isNum=true->DataW.trod enc P w 0 spare held fuel T cs=some x->cs=RJ x.1):
 ∀(fs:List Field) (off:Nat) (y:Ty) (xs:List (DataW H×List MemPlace)),RO (CI P d) P off fs y=true->y.isNum=true->off+y.size=cs.length->
  fs.mapM (fun f=>DataW.trod enc P w 0 spare held fuel f.type ((cs.drop f.offset).take (P.cellsOf f.type)))=some xs->cs.drop off=Nc (xs.map (·.1))
 |[],off,y,xs,hl,hy,hs,h=>by
  cases y with
  |unit=>
   simp only[Ty.size]at hs
   have hx:xs=[]:=by simpa using h.symm
   rw[hx]
   exact List.drop_of_length_le (by omega)
  |_=>cases hl
 |[f],off,y,xs,hl,hy,hs,h=>by
  obtain⟨x,xs',h1,h1',hx⟩:=zo h
  have hx':xs'=[]:=by simpa using h1'.symm
  simp only[RO,Bool.and_eq_true,decide_eq_true_eq]at hl
  obtain⟨⟨h2,h3⟩,h4⟩:=hl
  have h5:=ih _ _ _ _ h4 hy h1
  rw[h2,h3,List.take_of_length_le (by simp;omega)]at h5
  rw[hx,hx',h5]
  simp[Nc]
 |f::f'::r,off,y,xs,hl,hy,hs,h=>by
  cases y with
  |pair a b=>
   obtain⟨x,xs',h1,hr,hx⟩:=zo h
   simp only[RO,Bool.and_eq_true,decide_eq_true_eq]at hl
   obtain⟨⟨⟨h2,h3⟩,h4⟩,h5⟩:=hl
   simp only[Ty.isNum,Bool.and_eq_true]at hy
   simp only[Ty.size]at hs
   have h6:=ih _ _ _ _ h4 hy.1 h1
   have h8:=RK ih (f'::r) (off+a.size) b xs' h5 hy.2 (by omega) hr
   rw[h2,h3]at h6
   rw[hx]
   simp only[List.map_cons,Nc]
   rw[<-h8,<-h6,<-List.drop_drop,List.take_append_drop]
  |_=>cases hl
theorem YG:∀(d fuel:Nat) (T:TypeId) (y:Ty) (cs:List Value) (x:DataW H×List MemPlace),CI P d T y=true->y.isNum=true->DataW.trod enc P w 0 spare held fuel T cs=some x->cs=RJ x.1
 |0,_,_,_,_,_,h,_,_=>by cases h
 |d+1,fuel,T,y,cs,x,hl,hy,h=>by
  unfold CI at hl
  split at hl
  ·rename_i k hu
   obtain⟨n,rfl,rfl,hw⟩:=DataW.trod_int hu h
   rfl
  ·rename_i hu
   obtain⟨b,rfl,rfl⟩:=DataW.trod_bool hu h
   rfl
  ·rename_i hu
   obtain⟨s,rfl,rfl,_⟩:=DataW.trod_string hu h
   show [Value.string s]=[Value.string ⟨s.data.toList.toArray⟩]
   rw[Array.toArray_toList]
  ·split at hl
   ·cases hy
   ·cases hl
  ·rename_i fs hu
   simp only[Bool.and_eq_true,decide_eq_true_eq]at hl
   cases fuel with
   |zero=>simp[DataW.trod]at h
   |succ n=>
    unfold DataW.trod at h
    rw[hu]at h
    simp only at h
    split at h
    ·rename_i hlen
     rw[Option.map_eq_some_iff]at h
     obtain⟨xs,hxs,rfl⟩:=h
     have:=RK (d:=d) (fuel:=n) (cs:=cs) (fun T y cs x h1 h2 h3=>YG d n T y cs x h1 h2 h3) fs.toList 0 y xs hl.2 hy (by rw[Nat.zero_add,<-hl.1,hlen]) hxs
     simpa[RJ]using this
    ·cases h
  ·cases hl
theorem Ui{d m c:Nat}{e:TypeId}{y:Ty}{cs:List Value}(hl:CI P d e y=true)(hy:y.isNum=true):∀(xs:List (DataW H×List MemPlace)) (j:Nat),cs.length=(j+xs.length)*c->
 (∀i,i<xs.length->DataW.trod enc P w 0 spare held m e ((cs.drop ((j+i)*c)).take c)=xs[i]?)->cs.drop (j*c)=Nc (xs.map (·.1))
 |[],j,hs,_=>by
  simp only[List.length_nil,Nat.add_zero]at hs
  exact List.drop_of_length_le (by omega)
 |x::xs,j,hs,h=>by
  have h0:=YG d m e y _ x hl hy (h 0 (by simp))
  have IH:=Ui hl hy xs (j+1) (by rw[hs];simp only[List.length_cons];congr 1;omega) (fun i hi=>by
   have:=h (i+1) (by simp;omega)
   rw[show j+(i+1)=j+1+i by omega]at this
   simpa using this)
  simp only[List.map_cons,Nc]
  rw[<-IH,<-h0,Nat.add_zero,Nat.add_mul,Nat.one_mul,<-List.drop_drop,List.take_append_drop]
theorem Z0{d n fuel:Nat}{t e:TypeId}{y:Ty}{cs:List Value}{x:DataW H×List MemPlace}(hu:P.underlying t=some (.array n e))(hl:CI P d e y=true)(hy:y.isNum=true)(hct:P.cellsOf t=n*P.cellsOf e)
 (h:DataW.trod enc P w 0 spare held fuel t cs=some x):cs=RJ x.1:=by
 obtain⟨xs,m,rfl,rfl,hlen,hn,hel⟩:=DataW.trod_array hu h
 have:=Ui (cs:=cs) (c:=P.cellsOf e) hl hy xs 0 (by rw[hlen,hct,Nat.zero_add,hn]) (fun i hi=>by rw[Nat.zero_add];exact hel i (by omega))
 simpa[RJ]using this
end
theorem abv{P:Program}{w:World}{x:String×DataW Unit}{r:List (String×DataW Unit)}{ps:List MemPlace}(h:DataW.LaidVars P w (x::r) ps):∃q,DataW.LaidVars P w r q:=by
 obtain⟨name,D⟩:=x
 obtain⟨g,t,cs,fuel,p,q,_,_,_,_,h,_⟩:=h
 exact⟨q,h⟩
theorem Ww{P:Program}{w:World}:∀(n:Nat) {l:List (String×DataW Unit)} {ps:List MemPlace},DataW.LaidVars P w l ps->∃q,DataW.LaidVars P w (l.drop n) q
 |0,_,ps,h=>⟨ps,h⟩
 |_+1,[],ps,h=>⟨ps,h⟩
 |n+1,_::_,_,h=>by
  obtain⟨q,h⟩:=abv h
  exact Ww n h
theorem Xu{P:Program}{w:World}{name:String}{g d n:Nat}{t e:TypeId}{y:Ty}{D:DataW Unit}{rest:List (String×DataW Unit)}{ps:List MemPlace}(hg:P.globalNamed name=some g)(ht:(P.globals[g]?).map (·.type)=some t)
 (hu:P.underlying t=some (.array n e)) (hl:CI P d e y=true) (hy:y.isNum=true) (hct:P.cellsOf t=n*P.cellsOf e) (h:DataW.LaidVars P w ((name,D)::rest) ps):
 ∃vs e' fz,w.heap[g]?=some (.cells vs e' fz)/\vs.toList=RJ D:=by
 obtain⟨g',t',cs,fuel,p,q,hg',ht',hv,hd,_,_⟩:=h
 obtain rfl:=Option.some.inj (hg.symm.trans hg')
 obtain rfl:=Option.some.inj (ht.symm.trans ht')
 have:=Z0 hu hl hy hct hd
 simp only[World.var?,hg,Option.bind_some]at hv
 split at hv
 ·rename_i cs' e' fz hh
  cases hv
  exact⟨cs,e',fz,hh,this⟩
 ·cases hv
theorem aaD{P:Program}{w:World}{name:String}{g d n:Nat}{t e:TypeId}{y:Ty}{D:DataW Unit}{l rest:List (String×DataW Unit)}(k:Nat)(hk:l.drop k=(name,D)::rest)(hg:P.globalNamed name=some g)(ht:(P.globals[g]?).map (·.type)=some t)
 (hu:P.underlying t=some (.array n e)) (hl:CI P d e y=true) (hy:y.isNum=true) (hct:P.cellsOf t=n*P.cellsOf e) (h:laidMet P l w):
 ∃vs e' fz,w.heap[g]?=some (.cells vs e' fz)/\vs.toList=RJ D:=by
 obtain⟨ps,h,_,_⟩:=h
 obtain⟨q,h⟩:=Ww k h
 rw[hk]at h
 exact Xu hg ht hu hl hy hct h
theorem abO{H:Type}{enc:TypeId×Value->H}{P:Program}{W W':World}{name:String}{g:Nat}{t:TypeId}{gs:List (DataW H)}{q:List MemPlace}(hg:P.globalNamed name=some g)(ht:(P.globals[g]?).map (·.type)=some t)
 (hl:laidOutB P=true) (hr:P.readableRec t=true) (hrow:t<P.types.size) (h:DataW.TrodVars enc P W (fun _=>true) [name] gs q) (hb:Go.RowKit.Below W.heap.size W W') (hlt:∀x∈q,x.block<W.heap.size):
 DataW.TrodVars enc P W' (fun b=>decide (b<W.heap.size)) [name] gs q:=by
 cases gs with
 |nil=>cases h
 |cons d ds=>
  obtain⟨g',t',cs,fuel,p,q',hg',ht',hv,hd,hrest,hq⟩:=h
  obtain rfl:=Option.some.inj (hg.symm.trans hg')
  obtain rfl:=Option.some.inj (ht.symm.trans ht')
  have hT:DataW.Trod enc P W 0 (fun _=>true) true t (.agg cs) d p:=⟨fuel,hd⟩
  obtain⟨fuel',hd'⟩:=Go.RowKit.Below.trod hl hr hrow hT hb (fun x hx=>hlt x (by rw[hq];exact List.mem_append_left _ (List.mem_append_right _ hx)))
  have hv':W'.var? P name=some cs:=by
   simp only[World.var?,hg,Option.bind_some]at hv⊢
   cases hh:W.heap[g]? with
   |none=>rw[hh]at hv;cases hv
   |some o=>
    have hlt:g<W.heap.size:=(Array.getElem?_eq_some_iff.1 hh).1
    rw[hb.block g hlt]
    exact hv
  refine⟨g,t,cs,fuel',p,q',hg,ht,hv',hd', ?_,hq⟩
  cases ds with
  |nil=>exact hrest
  |cons _ _=>cases hrest
end Go.Vai
