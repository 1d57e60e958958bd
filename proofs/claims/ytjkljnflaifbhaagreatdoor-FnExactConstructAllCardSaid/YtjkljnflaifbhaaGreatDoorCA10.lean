/- What is proved: the law FnExactConstructAll returns true at every input and leaves it as it was, where the listed variables hold what the program's text lays in them; the card ties that to the text. No other conditions. -/
import Derived.Test.YtjkljnflaifbhaaGreatDoorCA5
import Derived.Test.YtjkljnflaifbhaaGreatDoorCA9
import Derived.Test.YtjkljnflaifbhaaGreatDoorTie
import Derived.Test.YtjkljnflaifbhaaGreatDoorCards
import Derived.LaidMore
import Derived.Lay
import Derived.Stop.Joined
import Derived.SevenTiedAt
namespace Go.Proofs.YtjkljnflaifbhaaGreatDoor
open Go.ChangeShapes Go.WideShapes Go.ChangeAt Go.RowKit Go.Vai
set_option maxRecDepth 100000 in
theorem abC:Rows.FnExactConstructAllSaid:=
 OpenClaim.holds_of_wide 5 Tryz.f5 rfl rfl rfl rfl rfl rfl rfl ⟨rfl,rfl,rfl,rfl,rfl⟩ rfl rfl rfl rfl rfl (by as_aux_lemma=>kernel_rfl) Tryz.func5 closed
  (of_decide_eq_true (by as_aux_lemma=>kernel_rfl)) (by unfold Func.isWrapper;first|(rw[if_pos (by decide+kernel)];kernel_rfl)|(rw[if_neg (by decide+kernel)];exact⟨rfl,rfl⟩))
  (fun os started H enc _=>aeU os started H enc)
set_option maxRecDepth 100000 in
theorem constructAll_holds:Rows.FnExactConstructAllCardSaid:=
 Claim7.holds_tied_plain_at .later [] [.data, .data, .widerDeep, .pinned] true (true, "7c7a850c821f7f577627136bcc1a1390587941bc40992893542e03712ad8ef42") true
  abC (fun _ h=>by cases h) (by as_aux_lemma=>kernel_rfl) (fun _ h=>by cases h) fnExactConstructAll_row_tie rfl ⟨rfl,rfl⟩ (by as_aux_lemma=>kernel_rfl) rfl
  (fun f fn hf hfn=>by
    obtain rfl:f=5:=Option.some.inj ((show Tryz.prog.funcNamed "loop.example/g00857/laws.FnExactConstructAll" =some 5 by as_aux_lemma=>kernel_rfl).symm.trans hf)|>.symm
    obtain rfl:fn=Tryz.f5:=(Option.some.inj (Tryz.func5.symm.trans hfn)).symm
    exact⟨by as_aux_lemma=>kernel_rfl,fun j t ht=>by
     rw[Tryz.params5]at ht
     have hm:t∈ [36,54]:=by simpa using Array.mem_of_getElem? ht
     have hall:([36,54].all fun u=> !Tryz.prog.wantsStandIn u)=true:=by as_aux_lemma=>kernel_rfl
     exact(show Tryz.prog.wantsStandIn t=false by simpa using List.all_eq_true.1 hall t hm)⟩)
  (by as_aux_lemma=>kernel_rfl)
end Go.Proofs.YtjkljnflaifbhaaGreatDoor
