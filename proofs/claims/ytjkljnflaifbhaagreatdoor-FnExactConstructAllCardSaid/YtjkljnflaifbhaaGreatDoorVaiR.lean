/- No conditions. -/
import Derived.Test.YtjkljnflaifbhaaGreatDoorVaiO
namespace Go.Vai
open Go
def gh0(w:World):Gh:=⟨Iw [] w,fun _=>none⟩
theorem ady{w:World}{n:Nat}(h:Qv w n):(gh0 w).imm n:=by
 have h:n<w.heap.size:=h
 simp only[Gh.imm,gh0,Iw,if_pos h,List.not_mem_nil,if_false]
def T5(P:Program)(T:TypeId)(y:Ty)(z:y.T):Val:=⟨(si P T).getD false,y.cells z⟩
theorem Yp{H:Type}{enc:TypeId×Value->H}{P:Program}{w:World}{spare:Nat->Bool}{held:Bool}{r:Reach}{b0 d:Nat}{T:TypeId}{y:Ty}{v:Value}{x:DataW H}{ps:List MemPlace}
 (hl:CI P d T y=true) (hval:Value.okWide P w r b0 T v) (h:DataW.Trod enc P w 0 spare held T v x ps):∃z:y.T,NV (gh0 w) w (T5 P T y z) v/\y.wf z:=by
 obtain⟨fuel,hf⟩:=h
 obtain⟨z,hz,hw⟩:=open_row d fuel T y _ _ hl hf
 have hz':bg (gh0 w) w (y.cells z) v.cells.toList:=ER.cells (ER.mono (fun b hb=>⟨ady hb,rfl⟩) hz)
 refine⟨z, ?_,hw⟩
 cases d with
 |zero=>cases hl
 |succ d=>
  have one:(∀cs,v≠ .agg cs)->(si P T).getD false=false->NV (gh0 w) w (T5 P T y z) v:=by
   intro hno hag
   have hc:v.cells= #[v]:=by
    cases v<;>first|rfl|exact absurd rfl (hno _)
   rw[hc]at hz'
   simp only[T5,hag]
   exact hz'
  unfold CI at hl
  unfold Value.okWide at hval
  split at hl
  ·rename_i k hu
   rw[hu]at hval
   refine one (fun cs e=> ?_) (by simp[si,hu])
   subst e
   simp[Cell.okWide,hu,Cell.ok]at hval
  ·rename_i hu
   rw[hu]at hval
   refine one (fun cs e=> ?_) (by simp[si,hu])
   subst e
   simp[Cell.okWide,hu,Cell.ok]at hval
  ·rename_i hu
   rw[hu]at hval
   refine one (fun cs e=> ?_) (by simp[si,hu])
   subst e
   simp[Cell.okWide,hu,Cell.ok]at hval
  ·rename_i e hu
   rw[hu]at hval
   refine one (fun cs e=> ?_) (by simp[si,hu])
   subst e
   simp[Cell.okWide,hu,Cell.ok]at hval
  ·rename_i fs hu
   rw[hu]at hval
   obtain⟨cs,rfl,_⟩:=hval
   have hag:(si P T).getD false=true:=by simp[si,hu]
   simp only[T5,hag]
   exact⟨cs,rfl,hz'⟩
  ·cases hl
end Go.Vai
