/- No conditions. -/
import Derived.Test.YtjkljnflaifbhaaGreatDoorZ7
import Derived.Test.YtjkljnflaifbhaaGreatDoorVaiG
import Derived.Test.YtjkljnflaifbhaaGreatDoorTie
import Derived.Test.YtjkljnflaifbhaaGreatDoorCards
import Derived.LaidMore
import Derived.Lay
import Derived.Stop.Joined
import Derived.SevenTiedAt
namespace Go.Proofs.YtjkljnflaifbhaaGreatDoor
open Go.ChangeShapes Go.WideShapes Go.ChangeAt Go.RowKit Go.Vai
theorem SH{H:Type}{enc:TypeId×Value->H}{P:Program}{W W':World}{name:String}{ns:List String}{g:Nat}{t:TypeId}{gs:List (DataW H)}{q:List MemPlace}(hg:P.globalNamed name=some g)(ht:(P.globals[g]?).map (·.type)=some t)
 (hl:laidOutB P=true) (hr:P.readableRec t=true) (hrow:t<P.types.size) (ih:∀(ds:List (DataW H)) (q':List MemPlace),DataW.TrodVars enc P W (fun _=>true) ns ds q'->(∀x∈q',x.block<W.heap.size)->DataW.TrodVars enc P W' (fun b=>decide (b<W.heap.size)) ns ds q')
 (h:DataW.TrodVars enc P W (fun _=>true) (name::ns) gs q) (hb:Go.RowKit.Below W.heap.size W W') (hlt:∀x∈q,x.block<W.heap.size):
 DataW.TrodVars enc P W' (fun b=>decide (b<W.heap.size)) (name::ns) gs q:=by
 cases gs with
 |nil=>cases h
 |cons d ds=>
  obtain⟨g',t',cs,fuel,p,q',hg',ht',hv,hd,hrest,hq⟩:=h
  obtain rfl:=Option.some.inj (hg.symm.trans hg')
  obtain rfl:=Option.some.inj (ht.symm.trans ht')
  have hT:DataW.Trod enc P W 0 (fun _=>true) true t (.agg cs) d p:=⟨fuel,hd⟩
  obtain⟨fuel',hd'⟩:=Go.RowKit.Below.trod hl hr hrow hT hb (fun x hx=>hlt x (by rw[hq];exact List.mem_append_left _ (List.mem_append_right _ hx)))
  have hv':W'.var? P name=some cs:=by
   simp only[World.var?,hg,Option.bind_some]at hv⊢
   cases hh:W.heap[g]? with
   |none=>rw[hh]at hv;cases hv
   |some o=>
    have hlt:g<W.heap.size:=(Array.getElem?_eq_some_iff.1 hh).1
    rw[hb.block g hlt]
    exact hv
  exact⟨g,t,cs,fuel',p,q',hg,ht,hv',hd',ih ds q' hrest (fun x hx=>hlt x (by rw[hq];exact List.mem_append_right _ hx)),hq⟩
theorem Tryz.own:ownKnob Tryz.prog.godebug=none:=by kernel_rfl
theorem Tryz.laidOut:laidOutB Tryz.prog=true:=by kernel_rfl
theorem aaU:Tryz.prog.globalNamed "loop.example/g00857/impl.constructs" =some 0:=by kernel_rfl
theorem aa4:(Tryz.prog.globals[0]?).map (·.type)=some 144:=by kernel_rfl
theorem aaV:Tryz.prog.globalNamed "loop.example/g00857/impl.vectors" =some 1:=by kernel_rfl
theorem aa5:(Tryz.prog.globals[1]?).map (·.type)=some 240:=by kernel_rfl
abbrev Tv:List (String×DataW Unit):=[("unicode/utf8.acceptRanges",Rows.laid_unicode_utf8_acceptRanges),("loop.example/g00857/impl.vectors",Rows.laid_loop_example_g00857_impl_vectors),("loop.example/g00857/impl.constructs",Rows.laid_loop_example_g00857_impl_constructs),("unicode/utf8.first",Rows.laid_unicode_utf8_first)]
theorem aai{W:World}(h:laidMetH Tryz.prog Tv W):∀k cs,C0.glob k=some cs->∃vs e fz,W.heap[k]?=some (.cells vs e fz)/\cs=vs.toList.map .v:=by
 rw[MakeChecks.laidMetH_plain _ _ _ (by kernel_rfl)]at h
 obtain⟨vs0,e0,fz0,h10,h20⟩:=Xp (d:=8) (y:=(.pair .str (.pair .str .bool))) (n:=13) 2 rfl aaU aa4 Tryz.underlying144 (by kernel_rfl) rfl (by kernel_rfl) h
 obtain⟨vs1,e1,fz1,h11,h21⟩:=Xp (d:=8) (y:=(.pair (.pair (.int .i64) (.pair (.int .i64) (.int .i64))) (.pair (.int .i64) (.pair (.int .i64) (.int .i64))))) (n:=8) 1 rfl aaV aa5 Tryz.underlying240 (by kernel_rfl) rfl (by kernel_rfl) h
 intro k cs hk
 have hk':C0.glob k=some cs:=hk
 by_cases hk0:k=0
 ·subst hk0
  have hk2:some (Vl.map CV.v)=some cs:=hk'
  cases hk2
  refine⟨vs0,e0,fz0,h10, ?_⟩
  rw[h20]
  kernel_rfl
 ·
  by_cases hk1:k=1
  ·subst hk1
   have hk2:some (Wi.map CV.v)=some cs:=hk'
   cases hk2
   refine⟨vs1,e1,fz1,h11, ?_⟩
   rw[h21]
   kernel_rfl
  ·have hk2:C0.glob k=none:=X8 hk0 hk1
   rw[hk2]at hk'
   cases hk'
set_option maxRecDepth 100000 in
theorem aag{w:World}(hL:laidMetH Tryz.prog Tv w){H:Type}{enc:TypeId×Value->H}{r:Reach}{b0:Nat}{v0:Value}{d0:DataW H}{p0:List MemPlace}{v1:Value}{d1:DataW H}{p1:List MemPlace}(hval0:Value.okWide Tryz.prog w r b0 36 v0)(h0:DataW.Trod enc Tryz.prog w 0 (fun _=>true) true 36 v0 d0 p0)(hval1:Value.okWide Tryz.prog w r b0 43 v1)(h1:DataW.Trod enc Tryz.prog w 0 (fun _=>true) true 43 v1 d1 p1):
 Calls Tryz.prog 4 #[v0,v1] w fun e w'=>e= .returned (.bool true)/\Below w.heap.size w w':=by
 obtain⟨z0,hz0,hw0⟩:=Vd (d:=8) (y:=(.slice (.pair .str (.pair .bool (.pair (.pair (.pair (.int .i64) (.pair (.int .i64) (.int .i64))) (.pair (.int .i64) (.pair (.int .i64) (.int .i64)))) (.pair (.int .i64) (.pair (.int .i64) (.pair (.int .i64) (.int .i64))))))))) (by kernel_rfl) hval0 h0
 obtain⟨z1,hz1,hw1⟩:=Vd (d:=8) (y:=(.pair .str (.pair (.int .i64) (.pair (.slice .str) (.pair (.int .i64) (.pair (.pair (.pair (.int .i64) (.pair (.int .i64) (.int .i64))) (.pair (.int .i64) (.pair (.int .i64) (.int .i64)))) (.pair (.int .i64) (.pair (.int .i64) (.pair (.int .i64) (.int .i64)))))))))) (by kernel_rfl) hval1 h1
 refine Rq (C:=C0) BF rfl (aai hL) (vals:=[Kn Tryz.prog 36 (.slice (.pair .str (.pair .bool (.pair (.pair (.pair (.int .i64) (.pair (.int .i64) (.int .i64))) (.pair (.int .i64) (.pair (.int .i64) (.int .i64)))) (.pair (.int .i64) (.pair (.int .i64) (.pair (.int .i64) (.int .i64)))))))) z0,Kn Tryz.prog 43 (.pair .str (.pair (.int .i64) (.pair (.slice .str) (.pair (.int .i64) (.pair (.pair (.pair (.int .i64) (.pair (.int .i64) (.int .i64))) (.pair (.int .i64) (.pair (.int .i64) (.int .i64)))) (.pair (.int .i64) (.pair (.int .i64) (.pair (.int .i64) (.int .i64))))))))) z1]) ⟨v0,[v1],rfl,hz0,⟨v1,[],rfl,hz1,rfl⟩⟩ (x:=true) ?_ rfl
 have hag0:rq Tryz.prog 36=some false:=by kernel_rfl
 have hag1:rq Tryz.prog 43=some true:=by kernel_rfl
 simp only[Kn,hag0,hag1,Option.getD_some]
 exact OG (ax:=sx) (z:=(z0,z1,())) (by kernel_rfl) ((fun(z:List It) (hw:Ty.wf (.slice yI) z) (c:Cn) (hc:Ty.wf yC c)=>NA z c hw.1 (fun y hy=>(hw.2 y hy).1) hc.1 hc.2.2.1.1 hc.2.2.1.2) z0 hw0 z1 hw1)
set_option maxRecDepth 100000 in
theorem abt(os:Os)(started:os.Started)(H:Type)(enc:TypeId×Value->H):
 ReturnsInHanded {} Tryz.checked os 4 .any (fun w args=>(Rows.fnExactConstructOneSpec.pre enc Tryz.prog Tryz.f4 [] false w args/\laidMetH Tryz.prog Tv w)/\sizedMet enc Tryz.prog Tryz.f4 (OpenSpec.ofChange Rows.fnExactConstructOneSpec) false w args)
  (Rows.fnExactConstructOneSpec.post enc Tryz.prog Tryz.f4 false true false false):=by
 refine returnsInHanded_of_change_and (C:=Tryz.checked) (X:=fun w _=>laidMetH Tryz.prog Tv w) (fun _ _ _ hh h=>h.of_heap hh) Tryz.own started (by kernel_rfl) Tryz.func4
  (ChangeSpec.witness_shaped (enc:=enc) (C:=Tryz.checked) (os:=os) (X:=fun w _=>laidMetH Tryz.prog Tv w) false (World.laidAll Tryz.prog os Tv) #[.slice none 0 0, .agg #[.string ⟨#[]⟩, .int .i64 0, .slice none 0 0, .int .i64 0, .int .i64 0, .int .i64 0, .int .i64 0, .int .i64 0, .int .i64 0, .int .i64 0, .int .i64 0, .int .i64 0, .int .i64 0, .int .i64 0]] 8 (World.laidAll_os _ _ _) (World.shaped_of_ZipB (by kernel_rfl) (by kernel_rfl)) (by kernel_rfl) (by kernel_rfl) (by kernel_rfl) (by rw[MakeChecks.laidMetH_plain _ _ _ (by kernel_rfl)];exact laidMet_laidAll _ (by kernel_rfl) (by kernel_rfl))) ?_
 intro W base args ds gs before hval0 hW _ _ hL _
 have hval:∀(j:Nat) t v,Tryz.f4.params[j]?=some t->args[j]?=some v->Value.okWide Tryz.prog W .any base t v:=hval0
 have hW':=hW
 have hlt:=fun p hp=>hW.lt p hp
 obtain⟨p,q,hA0,hV,rfl,hfz,hnd⟩:=hW
 have hA:DataW.TrodAll enc Tryz.prog W 0 (fun _=>true) true Tryz.f4.params.toList args.toList ds p:=hA0
 have hV:DataW.TrodVars enc Tryz.prog W (fun _=>true) ["loop.example/g00857/impl.constructs", "loop.example/g00857/impl.vectors"] gs q:=hV
 rw[Tryz.params4]at hA hval
 obtain⟨v0,v1,d0,d1,p0,p1,rfl,rfl,rfl,h0,h1⟩:=trodAll_two hA
 have hv0:=hval 0 _ v0 rfl rfl
 have hv1:=hval 1 _ v1 rfl rfl
 clear hA0 hval0
 obtain⟨g1,g2,rfl⟩:∃g g',gs=[g,g']:=by
  match gs,hV with
  |[],h=>cases h
  |[_],h=>
   obtain⟨_,_,_,_,_,_,_,_,_,_,h,_⟩:=h
   cases h
  |[g,g'],_=>exact⟨g,g',rfl⟩
  |_::_::_::_,h=>
   obtain⟨_,_,_,_,_,_,_,_,_,_,h,_⟩:=h
   obtain⟨_,_,_,_,_,_,_,_,_,_,h,_⟩:=h
   cases h
 refine(aag hL hv0 h0 hv1 h1).mono fun e W' ⟨he,hb⟩=> ?_
 subst he
 have hT:DataW.TrodAll enc Tryz.prog W' 0 (fun b=>decide (b<W.heap.size)) true [36,43] [v0,v1] [d0,d1] (p0++p1):=by
  exact trodAll_mk2 (Below.trod Tryz.laidOut (by kernel_rfl) (of_decide_eq_true (by kernel_rfl)) h0 hb (fun x hx=>hlt x (List.mem_append_left _ (List.mem_append_left _ hx)))) (Below.trod Tryz.laidOut (by kernel_rfl) (of_decide_eq_true (by kernel_rfl)) h1 hb (fun x hx=>hlt x (List.mem_append_left _ (List.mem_append_right _ hx))))
 have hG:DataW.TrodVars enc Tryz.prog W' (fun b=>decide (b<W.heap.size)) ["loop.example/g00857/impl.constructs", "loop.example/g00857/impl.vectors"] [g1,g2] q:=
  SH aaU aa4 Tryz.laidOut (by kernel_rfl) (of_decide_eq_true (by kernel_rfl)) (fun ds q' h hl=>Yy aaV aa5 Tryz.laidOut (by kernel_rfl) (of_decide_eq_true (by kernel_rfl)) h hb hl) hV hb (fun x hx=>hlt x (List.mem_append_right _ hx))
 exact⟨_,rfl,[d0,d1],[g1,g2],(p0++p1)++q,[],(p0++p1),q,hW',trodAll_mk1 (shut_bool (by kernel_rfl) true),hT,hG,hb.frame _,fun h=>by cases h⟩
end Go.Proofs.YtjkljnflaifbhaaGreatDoor
