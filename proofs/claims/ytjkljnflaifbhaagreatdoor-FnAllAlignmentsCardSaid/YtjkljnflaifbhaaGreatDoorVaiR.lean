/- No conditions. -/
import Derived.Test.YtjkljnflaifbhaaGreatDoorVaiO
namespace Go.Vai
open Go
def O6(w:World):Gh:=⟨xh [] w,fun _=>none⟩
theorem GC{w:World}{n:Nat}(h:El w n):(O6 w).imm n:=by
 have h:n<w.heap.size:=h
 simp only[Gh.imm,O6,xh,if_pos h,List.not_mem_nil,if_false]
def BX(P:Program)(T:TypeId)(y:Ty)(z:y.T):Val:=⟨(mL P T).getD false,y.cells z⟩
theorem KV{H:Type}{enc:TypeId×Value->H}{P:Program}{w:World}{spare:Nat->Bool}{held:Bool}{r:Reach}{b0 d:Nat}{T:TypeId}{y:Ty}{v:Value}{x:DataW H}{ps:List MemPlace}
 (hl:sp P d T y=true) (hval:Value.okWide P w r b0 T v) (h:DataW.Trod enc P w 0 spare held T v x ps):∃z:y.T,NV (O6 w) w (BX P T y z) v/\y.wf z:=by
 obtain⟨fuel,hf⟩:=h
 obtain⟨z,hz,hw⟩:=open_row d fuel T y _ _ hl hf
 have hz':aO (O6 w) w (y.cells z) v.cells.toList:=ER.cells (ER.mono (fun b hb=>⟨GC hb,rfl⟩) hz)
 refine⟨z, ?_,hw⟩
 cases d with
 |zero=>cases hl
 |succ d=>
  have one:(∀cs,v≠ .agg cs)->(mL P T).getD false=false->NV (O6 w) w (BX P T y z) v:=by
   intro hno hag
   have hc:v.cells= #[v]:=by
    cases v<;>first|rfl|exact absurd rfl (hno _)
   rw[hc]at hz'
   simp only[BX,hag]
   exact hz'
  unfold sp at hl
  unfold Value.okWide at hval
  split at hl
  ·rename_i k hu
   rw[hu]at hval
   refine one (fun cs e=> ?_) (by simp[mL,hu])
   subst e
   simp[Cell.okWide,hu,Cell.ok]at hval
  ·rename_i hu
   rw[hu]at hval
   refine one (fun cs e=> ?_) (by simp[mL,hu])
   subst e
   simp[Cell.okWide,hu,Cell.ok]at hval
  ·rename_i hu
   rw[hu]at hval
   refine one (fun cs e=> ?_) (by simp[mL,hu])
   subst e
   simp[Cell.okWide,hu,Cell.ok]at hval
  ·rename_i e hu
   rw[hu]at hval
   refine one (fun cs e=> ?_) (by simp[mL,hu])
   subst e
   simp[Cell.okWide,hu,Cell.ok]at hval
  ·rename_i fs hu
   rw[hu]at hval
   obtain⟨cs,rfl,_⟩:=hval
   have hag:(mL P T).getD false=true:=by simp[mL,hu]
   simp only[BX,hag]
   exact⟨cs,rfl,hz'⟩
  ·cases hl
theorem RF{C:eo}{fid:FuncId}{c:af}(hS:ag C fid c)(hg:∀h,C.glob h=none){w:World}{args:List Value}{vals:List Val}(hv:JI (O6 w) w vals args){x:c.β}(hG:c.G [] vals=some x)
 {v:Value} (he:(c.enc x).1= .c (.v v)) (hrw:c.rw=false:=by rfl):Calls C.P fid args.toArray w fun e w'=>e= .returned v/\Go.RowKit.Below w.heap.size w w':=by
 obtain⟨ms,h1,h2⟩:=hv.fs
 have hP:tZ C (O6 w) w [] vals args ms:={
  vals:=h1
  free:=by rw[h2];exact cB.nil
  boxes:=fun k cs hk=>by simp at hk
  bxs:=fun k n hk=>by cases hk
  old:=fun n hn=>.inl (GC hn)
  new:=fun n hn=>by simp only[O6,xh,if_neg (show¬n<w.heap.size by omega)]
  glob:=fun h cs hc=>by rw[hg]at hc;cases hc}
 refine((hS.r hrw).2 _ w [] vals args ms x hP hG).mono ?_
 rintro e w' ⟨u,rfl,g',ms',bms,k1,k2,k3,k4,k5,k6,k7,k8,k9,k10,k11⟩
 rw[he]at k1
 obtain⟨u',us,m,ms2,e1,e2,k12,_⟩:=(show bD g' w' [.v v] [u] ms' from k1)
 simp only[List.cons.injEq]at e1
 obtain⟨rfl,_⟩:=e1
 have:u=v:=k12.2 (.slot 0 0 0)
 subst this
 exact⟨rfl,k5,k6,k7,k8,fun n hn=>k9 n hn (by rw[h2];exact List.not_mem_nil)⟩
end Go.Vai
