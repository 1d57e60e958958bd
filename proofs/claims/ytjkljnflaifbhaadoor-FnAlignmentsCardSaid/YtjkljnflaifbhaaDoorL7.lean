/- No conditions. -/
import Derived.Test.YtjkljnflaifbhaaDoorL6
import Derived.Test.YtjkljnflaifbhaaDoorL2e
import Derived.Test.YtjkljnflaifbhaaDoorVaiG
import Derived.Test.YtjkljnflaifbhaaDoorTie
import Derived.Test.YtjkljnflaifbhaaDoorCards
import Derived.LaidMore
import Derived.Lay
import Derived.Stop.Joined
import Derived.SevenTiedAt
namespace Go.Proofs.YtjkljnflaifbhaaDoor
open Go.ChangeShapes Go.WideShapes Go.ChangeAt Go.RowKit Go.Vai
theorem Tryd.own:ownKnob Tryd.prog.godebug=none:=by kernel_rfl
theorem Tryd.laidOut:laidOutB Tryd.prog=true:=by kernel_rfl
theorem PL:Tryd.prog.globalNamed "loop.example/g00857/impl.vectors" =some 1:=by kernel_rfl
theorem PZ:(Tryd.prog.globals[1]?).map (·.type)=some 184:=by kernel_rfl
abbrev HT:List (String×DataW Unit):=[("loop.example/g00857/impl.vectors",Rows.laid_loop_example_g00857_impl_vectors)]
theorem Pd{W:World}(h:laidMetH Tryd.prog HT W):∀k cs,C0.glob k=some cs->∃vs e fz,W.heap[k]?=some (.cells vs e fz)/\cs=vs.toList.map .v:=by
 rw[MakeChecks.laidMetH_plain _ _ _ (by kernel_rfl)]at h
 obtain⟨vs0,e0,fz0,h10,h20⟩:=Pb (d:=8) (y:=(.pair (.pair (.int .i64) (.pair (.int .i64) (.int .i64))) (.pair (.int .i64) (.pair (.int .i64) (.int .i64))))) (n:=8) 0 rfl PL PZ Tryd.underlying184 (by kernel_rfl) rfl (by kernel_rfl) h
 intro k cs hk
 have hk':C0.glob k=some cs:=hk
 by_cases hk0:k=1
 ·subst hk0
  have hk2:some (KG.map CV.v)=some cs:=hk'
  cases hk2
  refine⟨vs0,e0,fz0,h10, ?_⟩
  rw[h20]
  kernel_rfl
 ·have hk2:C0.glob k=none:=ML hk0
  rw[hk2]at hk'
  cases hk'
set_option maxRecDepth 100000 in
theorem O8{w:World}(hL:laidMetH Tryd.prog HT w){H:Type}{enc:TypeId×Value->H}{r:Reach}{b0:Nat}{v0:Value}{d0:DataW H}{p0:List MemPlace}{v1:Value}{d1:DataW H}{p1:List MemPlace}(hval0:Value.okWide Tryd.prog w r b0 57 v0)(h0:DataW.Trod enc Tryd.prog w 0 (fun _=>true) true 57 v0 d0 p0)(hval1:Value.okWide Tryd.prog w r b0 57 v1)(h1:DataW.Trod enc Tryd.prog w 0 (fun _=>true) true 57 v1 d1 p1):
 Calls Tryd.prog 7 #[v0,v1] w fun e w'=>e= .returned (.bool true)/\Below w.heap.size w w':=by
 obtain⟨z0,hz0,hw0⟩:=JR (d:=8) (y:=(.slice (.int .u8))) (by kernel_rfl) hval0 h0
 obtain⟨z1,hz1,hw1⟩:=JR (d:=8) (y:=(.slice (.int .u8))) (by kernel_rfl) hval1 h1
 refine F7 (C:=C0) zg rfl (Pd hL) (vals:=[AL Tryd.prog 57 (.slice (.int .u8)) z0,AL Tryd.prog 57 (.slice (.int .u8)) z1]) ⟨v0,[v1],rfl,hz0,⟨v1,[],rfl,hz1,rfl⟩⟩ (x:=true) ?_ rfl
 have hag0:mn Tryd.prog 57=some false:=by kernel_rfl
 simp only[AL,hag0,Option.getD_some]
 exact DQ (ax:=rO) (z:=(z0,z1,())) (by kernel_rfl) ((fun z hw y hy=>F6 (NU (z:=z) hw) (NU (z:=y) hy)) z0 hw0 z1 hw1)
set_option maxRecDepth 100000 in
theorem Qh(os:Os)(started:os.Started)(H:Type)(enc:TypeId×Value->H):
 ReturnsInHanded {} Tryd.checked os 7 .any (fun w args=>(Rows.fnAlignmentsSpec.pre enc Tryd.prog Tryd.f7 [] false w args/\laidMetH Tryd.prog HT w)/\sizedMet enc Tryd.prog Tryd.f7 (OpenSpec.ofChange Rows.fnAlignmentsSpec) false w args)
  (Rows.fnAlignmentsSpec.post enc Tryd.prog Tryd.f7 false true false false):=by
 refine returnsInHanded_of_change_and (C:=Tryd.checked) (X:=fun w _=>laidMetH Tryd.prog HT w) (fun _ _ _ hh h=>h.of_heap hh) Tryd.own started (by kernel_rfl) Tryd.func7
  (ChangeSpec.witness_shaped (enc:=enc) (C:=Tryd.checked) (os:=os) (X:=fun w _=>laidMetH Tryd.prog HT w) false (World.laidAll Tryd.prog os HT) #[.slice none 0 0, .slice none 0 0] 8 (World.laidAll_os _ _ _) (World.shaped_of_ZipB (by kernel_rfl) (by kernel_rfl)) (by kernel_rfl) (by kernel_rfl) (by kernel_rfl) (by rw[MakeChecks.laidMetH_plain _ _ _ (by kernel_rfl)];exact laidMet_laidAll _ (by kernel_rfl) (by kernel_rfl))) ?_
 intro W base args ds gs before hval0 hW _ _ hL _
 have hval:∀(j:Nat) t v,Tryd.f7.params[j]?=some t->args[j]?=some v->Value.okWide Tryd.prog W .any base t v:=hval0
 have hW':=hW
 have hlt:=fun p hp=>hW.lt p hp
 obtain⟨p,q,hA0,hV,rfl,hfz,hnd⟩:=hW
 have hA:DataW.TrodAll enc Tryd.prog W 0 (fun _=>true) true Tryd.f7.params.toList args.toList ds p:=hA0
 have hV:DataW.TrodVars enc Tryd.prog W (fun _=>true) ["loop.example/g00857/impl.vectors"] gs q:=hV
 rw[Tryd.params7]at hA hval
 obtain⟨v0,v1,d0,d1,p0,p1,rfl,rfl,rfl,h0,h1⟩:=trodAll_two hA
 have hv0:=hval 0 _ v0 rfl rfl
 have hv1:=hval 1 _ v1 rfl rfl
 clear hA0 hval0
 obtain⟨g1,rfl⟩:∃g,gs=[g]:=by
  cases gs with
  |nil=>cases hV
  |cons g r=>cases r with
   |nil=>exact⟨g,rfl⟩
   |cons _ _=>
    obtain⟨_,_,_,_,_,_,_,_,_,_,h,_⟩:=hV
    cases h
 refine(O8 hL hv0 h0 hv1 h1).mono fun e W' ⟨he,hb⟩=> ?_
 subst he
 have hT:DataW.TrodAll enc Tryd.prog W' 0 (fun b=>decide (b<W.heap.size)) true [57,57] [v0,v1] [d0,d1] (p0++p1):=by
  exact trodAll_mk2 (Below.trod Tryd.laidOut (by kernel_rfl) (of_decide_eq_true (by kernel_rfl)) h0 hb (fun x hx=>hlt x (List.mem_append_left _ (List.mem_append_left _ hx)))) (Below.trod Tryd.laidOut (by kernel_rfl) (of_decide_eq_true (by kernel_rfl)) h1 hb (fun x hx=>hlt x (List.mem_append_left _ (List.mem_append_right _ hx))))
 have hG:DataW.TrodVars enc Tryd.prog W' (fun b=>decide (b<W.heap.size)) ["loop.example/g00857/impl.vectors"] [g1] q:=
  Nk PL PZ Tryd.laidOut (by kernel_rfl) (of_decide_eq_true (by kernel_rfl)) hV hb (fun x hx=>hlt x (List.mem_append_right _ hx))
 exact⟨_,rfl,[d0,d1],[g1],(p0++p1)++q,[],(p0++p1),q,hW',trodAll_mk1 (shut_bool (by kernel_rfl) true),hT,hG,hb.frame _,fun h=>by cases h⟩
theorem Nd:Rows.FnAlignmentsSaid:=
 OpenClaim.holds_of_wide 7 Tryd.f7 rfl rfl rfl rfl rfl rfl rfl ⟨rfl,rfl,rfl,rfl,rfl⟩ rfl rfl rfl rfl rfl (by kernel_rfl) Tryd.func7 (by kernel_rfl)
  (of_decide_eq_true (by kernel_rfl)) (by unfold Func.isWrapper;first|(rw[if_pos (by decide+kernel)];kernel_rfl)|(rw[if_neg (by decide+kernel)];exact⟨rfl,rfl⟩))
  (fun os started H enc _=>Qh os started H enc)
theorem alignments_holds:Rows.FnAlignmentsCardSaid:=
 Claim7.holds_tied_plain_at .later [] [.data] true (true, "324db13ecccdfac483e05e065876ba90583797c1c7bd9926a61deb09269fb5d6") false
  Nd (fun _ h=>by cases h) (by kernel_rfl) (fun _ h=>by cases h) fnAlignments_row_tie rfl ⟨rfl,rfl⟩ (by kernel_rfl) rfl
  (fun f fn hf hfn=>by
    obtain rfl:f=7:=Option.some.inj ((show Tryd.prog.funcNamed "loop.example/g00857/laws.FnAlignments" =some 7 by kernel_rfl).symm.trans hf)|>.symm
    obtain rfl:fn=Tryd.f7:=(Option.some.inj (Tryd.func7.symm.trans hfn)).symm
    exact⟨by kernel_rfl,fun j t ht=>by
     rw[Tryd.params7]at ht
     have hm:t∈ [57,57]:=by simpa using Array.mem_of_getElem? ht
     have hall:([57,57].all fun u=> !Tryd.prog.wantsStandIn u)=true:=by kernel_rfl
     exact(show Tryd.prog.wantsStandIn t=false by simpa using List.all_eq_true.1 hall t hm)⟩)
  (by kernel_rfl)
end Go.Proofs.YtjkljnflaifbhaaDoor
