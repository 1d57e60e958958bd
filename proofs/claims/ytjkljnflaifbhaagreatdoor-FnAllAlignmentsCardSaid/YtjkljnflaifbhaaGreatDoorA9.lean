/- No conditions. -/
import Derived.Test.YtjkljnflaifbhaaGreatDoorA7
import Derived.Test.YtjkljnflaifbhaaGreatDoorA8
import Derived.Test.YtjkljnflaifbhaaGreatDoorTie
import Derived.Test.YtjkljnflaifbhaaGreatDoorCards
import Derived.LaidMore
import Derived.Lay
import Derived.Stop.Joined
import Derived.SevenTiedAt
namespace Go.Proofs.YtjkljnflaifbhaaGreatDoor
open Go.ChangeShapes Go.WideShapes Go.ChangeAt Go.RowKit Go.Vai
set_option maxRecDepth 100000 in
theorem Oh:Rows.FnAllAlignmentsSaid:=
 OpenClaim.holds_of_wide 6 Tryz.f6 rfl rfl rfl rfl rfl rfl rfl ⟨rfl,rfl,rfl,rfl,rfl⟩ rfl rfl rfl rfl rfl (by as_aux_lemma=>kernel_rfl) Tryz.func6 closed
  (of_decide_eq_true (by as_aux_lemma=>kernel_rfl)) (by unfold Func.isWrapper;first|(rw[if_pos (by decide+kernel)];kernel_rfl)|(rw[if_neg (by decide+kernel)];exact⟨rfl,rfl⟩))
  (fun os started H enc _=>Rm os started H enc)
set_option maxRecDepth 100000 in
theorem allAlignments_holds:Rows.FnAllAlignmentsCardSaid:=
 Claim7.holds_tied_plain_at .later [] [.data] true (true, "7c7a850c821f7f577627136bcc1a1390587941bc40992893542e03712ad8ef42") true
  Oh (fun _ h=>by cases h) (by as_aux_lemma=>kernel_rfl) (fun _ h=>by cases h) fnAllAlignments_row_tie rfl ⟨rfl,rfl⟩ (by as_aux_lemma=>kernel_rfl) rfl
  (fun f fn hf hfn=>by
    obtain rfl:f=6:=Option.some.inj ((show Tryz.prog.funcNamed "loop.example/g00857/laws.FnAllAlignments" =some 6 by as_aux_lemma=>kernel_rfl).symm.trans hf)|>.symm
    obtain rfl:fn=Tryz.f6:=(Option.some.inj (Tryz.func6.symm.trans hfn)).symm
    exact⟨by as_aux_lemma=>kernel_rfl,fun j t ht=>by
     rw[Tryz.params6]at ht
     have hm:t∈ [63,63]:=by simpa using Array.mem_of_getElem? ht
     have hall:([63,63].all fun u=> !Tryz.prog.wantsStandIn u)=true:=by as_aux_lemma=>kernel_rfl
     exact(show Tryz.prog.wantsStandIn t=false by simpa using List.all_eq_true.1 hall t hm)⟩)
  (by as_aux_lemma=>kernel_rfl)
end Go.Proofs.YtjkljnflaifbhaaGreatDoor
