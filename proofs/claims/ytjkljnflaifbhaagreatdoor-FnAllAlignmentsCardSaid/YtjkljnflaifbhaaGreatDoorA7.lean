/- No conditions. -/
import Derived.Test.YtjkljnflaifbhaaGreatDoorA6
import Derived.Test.YtjkljnflaifbhaaGreatDoorVaiG
import Derived.Test.YtjkljnflaifbhaaGreatDoorTie
import Derived.Test.YtjkljnflaifbhaaGreatDoorCards
import Derived.LaidMore
import Derived.Lay
import Derived.Stop.Joined
import Derived.SevenTiedAt
namespace Go.Proofs.YtjkljnflaifbhaaGreatDoor
open Go.ChangeShapes Go.WideShapes Go.ChangeAt Go.RowKit Go.Vai
theorem Tryz.own:ownKnob Tryz.prog.godebug=none:=by kernel_rfl
theorem Tryz.laidOut:laidOutB Tryz.prog=true:=by kernel_rfl
theorem QI:Tryz.prog.globalNamed "loop.example/g00857/impl.vectors" =some 1:=by kernel_rfl
theorem QY:(Tryz.prog.globals[1]?).map (·.type)=some 240:=by kernel_rfl
abbrev I8:List (String×DataW Unit):=[("loop.example/g00857/impl.vectors",Rows.laid_loop_example_g00857_impl_vectors)]
theorem Qd{W:World}(h:laidMetH Tryz.prog I8 W):∀k cs,C0.glob k=some cs->∃vs e fz,W.heap[k]?=some (.cells vs e fz)/\cs=vs.toList.map .v:=by
 rw[MakeChecks.laidMetH_plain _ _ _ (by kernel_rfl)]at h
 obtain⟨vs0,e0,fz0,h10,h20⟩:=Qb (d:=8) (y:=(.pair (.pair (.int .i64) (.pair (.int .i64) (.int .i64))) (.pair (.int .i64) (.pair (.int .i64) (.int .i64))))) (n:=8) 0 rfl QI QY Tryz.underlying240 (by kernel_rfl) rfl (by kernel_rfl) h
 intro k cs hk
 have hk':C0.glob k=some cs:=hk
 by_cases hk0:k=1
 ·subst hk0
  have hk2:some (LK.map CV.v)=some cs:=hk'
  cases hk2
  refine⟨vs0,e0,fz0,h10, ?_⟩
  rw[h20]
  kernel_rfl
 ·have hk2:C0.glob k=none:=NR hk0
  rw[hk2]at hk'
  cases hk'
set_option maxRecDepth 100000 in
theorem P9{w:World}(hL:laidMetH Tryz.prog I8 w){H:Type}{enc:TypeId×Value->H}{r:Reach}{b0:Nat}{v0:Value}{d0:DataW H}{p0:List MemPlace}{v1:Value}{d1:DataW H}{p1:List MemPlace}(hval0:Value.okWide Tryz.prog w r b0 63 v0)(h0:DataW.Trod enc Tryz.prog w 0 (fun _=>true) true 63 v0 d0 p0)(hval1:Value.okWide Tryz.prog w r b0 63 v1)(h1:DataW.Trod enc Tryz.prog w 0 (fun _=>true) true 63 v1 d1 p1):
 Calls Tryz.prog 6 #[v0,v1] w fun e w'=>e= .returned (.bool true)/\Below w.heap.size w w':=by
 obtain⟨z0,hz0,hw0⟩:=KV (d:=8) (y:=(.slice (.int .u8))) (by kernel_rfl) hval0 h0
 obtain⟨z1,hz1,hw1⟩:=KV (d:=8) (y:=(.slice (.int .u8))) (by kernel_rfl) hval1 h1
 refine Hm (C:=C0) xr rfl (Qd hL) (vals:=[BX Tryz.prog 63 (.slice (.int .u8)) z0,BX Tryz.prog 63 (.slice (.int .u8)) z1]) ⟨v0,[v1],rfl,hz0,⟨v1,[],rfl,hz1,rfl⟩⟩ (x:=true) ?_ rfl
 have hag0:mL Tryz.prog 63=some false:=by kernel_rfl
 simp only[BX,hag0,Option.getD_some]
 exact E4 (ax:=pW) (z:=(z0,z1,())) (by kernel_rfl) ((fun z hw y hy=>Df (OV (z:=z) hw) (OV (z:=y) hy)) z0 hw0 z1 hw1)
set_option maxRecDepth 100000 in
theorem Rm(os:Os)(started:os.Started)(H:Type)(enc:TypeId×Value->H):
 ReturnsInHanded {} Tryz.checked os 6 .any (fun w args=>(Rows.fnAllAlignmentsSpec.pre enc Tryz.prog Tryz.f6 [] false w args/\laidMetH Tryz.prog I8 w)/\sizedMet enc Tryz.prog Tryz.f6 (OpenSpec.ofChange Rows.fnAllAlignmentsSpec) false w args)
  (Rows.fnAllAlignmentsSpec.post enc Tryz.prog Tryz.f6 false true false false):=by
 refine returnsInHanded_of_change_and (C:=Tryz.checked) (X:=fun w _=>laidMetH Tryz.prog I8 w) (fun _ _ _ hh h=>h.of_heap hh) Tryz.own started (by kernel_rfl) Tryz.func6
  (ChangeSpec.witness_shaped (enc:=enc) (C:=Tryz.checked) (os:=os) (X:=fun w _=>laidMetH Tryz.prog I8 w) false (World.laidAll Tryz.prog os I8) #[.slice none 0 0, .slice none 0 0] 8 (World.laidAll_os _ _ _) (World.shaped_of_ZipB (by kernel_rfl) (by kernel_rfl)) (by kernel_rfl) (by kernel_rfl) (by kernel_rfl) (by rw[MakeChecks.laidMetH_plain _ _ _ (by kernel_rfl)];exact laidMet_laidAll _ (by kernel_rfl) (by kernel_rfl))) ?_
 intro W base args ds gs before hval0 hW _ _ hL _
 have hval:∀(j:Nat) t v,Tryz.f6.params[j]?=some t->args[j]?=some v->Value.okWide Tryz.prog W .any base t v:=hval0
 have hW':=hW
 have hlt:=fun p hp=>hW.lt p hp
 obtain⟨p,q,hA0,hV,rfl,hfz,hnd⟩:=hW
 have hA:DataW.TrodAll enc Tryz.prog W 0 (fun _=>true) true Tryz.f6.params.toList args.toList ds p:=hA0
 have hV:DataW.TrodVars enc Tryz.prog W (fun _=>true) ["loop.example/g00857/impl.vectors"] gs q:=hV
 rw[Tryz.params6]at hA hval
 obtain⟨v0,v1,d0,d1,p0,p1,rfl,rfl,rfl,h0,h1⟩:=trodAll_two hA
 have hv0:=hval 0 _ v0 rfl rfl
 have hv1:=hval 1 _ v1 rfl rfl
 clear hA0 hval0
 obtain⟨g1,rfl⟩:∃g,gs=[g]:=by
  cases gs with
  |nil=>cases hV
  |cons g r=>cases r with
   |nil=>exact⟨g,rfl⟩
   |cons _ _=>
    obtain⟨_,_,_,_,_,_,_,_,_,_,h,_⟩:=hV
    cases h
 refine(P9 hL hv0 h0 hv1 h1).mono fun e W' ⟨he,hb⟩=> ?_
 subst he
 have hT:DataW.TrodAll enc Tryz.prog W' 0 (fun b=>decide (b<W.heap.size)) true [63,63] [v0,v1] [d0,d1] (p0++p1):=by
  exact trodAll_mk2 (Below.trod Tryz.laidOut (by kernel_rfl) (of_decide_eq_true (by kernel_rfl)) h0 hb (fun x hx=>hlt x (List.mem_append_left _ (List.mem_append_left _ hx)))) (Below.trod Tryz.laidOut (by kernel_rfl) (of_decide_eq_true (by kernel_rfl)) h1 hb (fun x hx=>hlt x (List.mem_append_left _ (List.mem_append_right _ hx))))
 have hG:DataW.TrodVars enc Tryz.prog W' (fun b=>decide (b<W.heap.size)) ["loop.example/g00857/impl.vectors"] [g1] q:=
  Oq QI QY Tryz.laidOut (by kernel_rfl) (of_decide_eq_true (by kernel_rfl)) hV hb (fun x hx=>hlt x (List.mem_append_right _ hx))
 exact⟨_,rfl,[d0,d1],[g1],(p0++p1)++q,[],(p0++p1),q,hW',trodAll_mk1 (shut_bool (by kernel_rfl) true),hT,hG,hb.frame _,fun h=>by cases h⟩
end Go.Proofs.YtjkljnflaifbhaaGreatDoor
