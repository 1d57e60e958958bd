/- No conditions. -/
import Derived.Test.YtjkljnflaifbhaaGreatDoorVai1
namespace Go.Vai
open Go
section
variable {C:eo} {st:St} {Q:Type}
theorem NH(c x y:AV)(k:AV->Option Q):IS c x y k=(IS c x y some).bind k:=by
 unfold IS
 split
 ·rename_i b
  split
  ·rfl
  ·cases b<;>rfl
 ·rfl
theorem NF(T:TypeId)(a:AV)(k:AV->Option Q):ze C st T a k=(ze C st T a some).bind k:=by
 unfold ze
 repeat' split
 all_goals rfl
theorem OO(a:AV)(k:AV->Option Q):NG a k=(NG a some).bind k:=by
 unfold NG
 repeat' split
 all_goals rfl
theorem OL(op:BinOp)(κ:IntKind)(a b:Int)(k:AV->Option Q):KO op κ a b k=(KO op κ a b some).bind k:=by
 cases op<;>first|rfl|(simp only[KO];cases decide (b=0)<;>rfl)
theorem GW(op:BinOp)(κ:IntKind)(a b:Int)(k:AV->Option Q):BW op κ a b k=(BW op κ a b some).bind k:=by
 cases op<;>first|rfl|(simp only[BW];cases decide (b<0)<;>rfl)
theorem OQ(op:BinOp)(a b:ByteArray)(k:AV->Option Q):Mf op a b k=(Mf op a b some).bind k:=by
 cases op<;>first|rfl|(simp only[Mf];cases decide (((a.size+b.size:Nat):Int)>IntKind.i64.max)<;>rfl)
theorem gH{β γ:Type}(c:Bool)(x y:Option γ)(x' y':Option β)(k:β->Option γ)(h:x=x'.bind k)(h':y=y'.bind k):cond c x y=(cond c x' y').bind k:=by
 cases c
 ·exact h'
 ·exact h
theorem GV(P:Program)(op:BinOp)(T:TypeId)(n:Nat)(k:AV->Option Q):xF P op T n k=(xF P op T n some).bind k:=by
 unfold xF
 repeat' split
 all_goals first
  |rfl
  |exact gH _ _ _ _ _ _ rfl rfl
theorem GQ(P:Program)(op:BinOp)(T:TypeId)(x y:AV)(k:AV->Option Q):Iz P op T x y k=(Iz P op T x y some).bind k:=by
 unfold Iz
 split
 ·split
  ·exact GW ..
  ·exact GW ..
  ·split
   ·exact OL ..
   ·rfl
 ·repeat' split
  all_goals first
   |rfl
   |exact gH _ _ _ _ _ _ rfl rfl
 ·exact OQ ..
 ·repeat' split
  all_goals rfl
 ·repeat' split
  all_goals rfl
 ·exact GV ..
 ·exact GV ..
 ·repeat' split
  all_goals rfl
 ·rfl
theorem P4(op:UnOp)(x:AV)(k:AV->Option Q):RB op x k=(RB op x some).bind k:=by
 unfold RB
 repeat' split
 all_goals rfl
theorem NB(P:Program)(s d:TypeId)(x:AV)(k:AV->Option Q):IP P s d x k=(IP P s d x some).bind k:=by
 unfold IP
 repeat' split
 all_goals rfl
theorem GS(P:Program)(T:TypeId)(x:AV)(f:Nat)(k:AV->Option Q):ri P T x f k=(ri P T x f some).bind k:=by
 unfold ri
 repeat' split
 all_goals rfl
theorem L8(P:Program)(T:TypeId)(x:AV)(f:Nat)(k:AV->Option Q):D7 P T x f k=(D7 P T x f some).bind k:=by
 unfold D7
 repeat' split
 all_goals rfl
theorem CI{α β γ:Type}(o:Option α)(f:α->Option β)(k:β->Option γ)(g:α->Option γ)(h:∀x,g x=(f x).bind k):o.bind g=(o.bind f).bind k:=by
 cases o with
 |none=>rfl
 |some x=>exact h x
theorem HL(i:Int)(K:Nat->Option Q)(f:Nat->Option AV)(k:AV->Option Q)(h:∀j,K j=(f j).bind k):∀m j,EK i K m j=(EK i f m j).bind k
 |0,_=>rfl
 |m+1,j=>gH _ _ _ _ _ _ (h j) (HL i K f k h m (j+1))
theorem GT(P:Program)(T:TypeId)(x i:AV)(k:AV->Option Q):pF P T x i k=(pF P T x i some).bind k:=by
 unfold pF
 repeat' split
 all_goals first
  |rfl
  |exact CI _ _ _ _ (fun _=>rfl)
  |exact HL _ _ (fun j=>some (.c (.gp _ (_+j*_)))) k (fun _=>rfl) _ _
theorem KN(C:eo)(T:TypeId)(x i:AV)(k:AV->Option Q):An C T x i k=(An C T x i some).bind k:=by
 unfold An
 repeat' split
 all_goals first
  |rfl
  |exact GT _ _ _ _ _
  |exact CI _ _ _ _ (fun _=>rfl)
theorem Ma(P:Program)(T:TypeId)(x i:AV)(k:AV->Option Q):D8 P T x i k=(D8 P T x i some).bind k:=by
 unfold D8
 repeat' split
 all_goals first
  |rfl
  |exact CI _ _ _ _ (fun _=>rfl)
theorem Aq(n:Nat)(lo hi:Option AV)(k:Nat->Nat->Option Q)(f:Nat->Nat->Option AV)(k':AV->Option Q)(h:∀a b,k a b=(f a b).bind k'):cutAt n lo hi k=(cutAt n lo hi f).bind k':=by
 unfold cutAt
 repeat' split
 all_goals first
  |rfl
  |exact h _ _
  |exact gH _ _ _ _ _ _ (gH _ _ _ _ _ _ (gH _ _ _ _ _ _ (h _ _) rfl) rfl) rfl
  |exact gH _ _ _ _ _ _ (gH _ _ _ _ _ _ (h _ _) rfl) rfl
theorem Ml(n:Nat)(lo hi mx:AV)(k:Option Q)(f:Option AV)(k':AV->Option Q)(h:k=f.bind k'):Ee n lo hi mx k=(Ee n lo hi mx f).bind k':=by
 unfold Ee
 split
 ·exact gH _ _ _ _ _ _ (gH _ _ _ _ _ _ (gH _ _ _ _ _ _ (gH _ _ _ _ _ _ h rfl) rfl) rfl) rfl
 ·rfl
theorem Me(P:Program)(em:Bool)(T:TypeId)(x:AV)(lo hi mx:Option AV)(k:AV->Option Q):D9 P em T x lo hi mx k=(D9 P em T x lo hi mx some).bind k:=by
 unfold D9
 repeat' split
 all_goals first
  |rfl
  |exact Aq _ _ _ _ _ _ (fun _ _=>rfl)
  |exact gH _ _ _ _ _ _ (Aq _ _ _ _ _ _ (fun _ _=>rfl)) rfl
  |exact gH _ _ _ _ _ _ (Aq _ _ _ _ _ _ (fun _ _=>rfl)) (Aq _ _ _ _ _ _ (fun _ _=>rfl))
  |exact Ml _ _ _ _ _ _ _ rfl
theorem L4(P:Program)(T:TypeId)(ps:List (Nat×AV))(k:AV->Option Q):D6 P T ps k=(D6 P T ps some).bind k:=by
 unfold D6
 repeat' split
 all_goals rfl
theorem FN(P:Program)(T:TypeId)(n:Nat)(ps:List (Nat×AV))(k:AV->Option Q):ni P T n ps k=(ni P T n ps some).bind k:=by
 unfold ni
 repeat' split
 all_goals rfl
theorem GU(P:Program)(T:TypeId)(n c:AV)(k:AV->Option Q):rj P T n c k=(rj P T n c some).bind k:=by
 unfold rj
 repeat' split
 all_goals first
  |rfl
  |exact gH _ _ _ _ _ _ (gH _ _ _ _ _ _ (gH _ _ _ _ _ _ (gH _ _ _ _ _ _ rfl rfl) rfl) rfl) rfl
theorem JM(x:AV)(i:Nat)(k:AV->Option Q):wP x i k=(wP x i some).bind k:=by
 unfold wP
 repeat' split
 all_goals rfl
theorem IB(f:Fn)(a b:List AV)(k:AV->Option Q):tS f a b k=(tS f a b some).bind k:=by
 unfold tS
 repeat' split
 all_goals rfl
theorem Ny(f:AV)(args:List AV)(k:AV->Option Q):CE C st f args k=(CE C st f args some).bind k:=by
 unfold CE
 repeat' split
 all_goals first
  |rfl
  |(refine CI _ _ _ _ (fun x=> ?_)
    rw[af.altOk,af.altOk]
    split<;>rfl)
theorem OM(P:Program)(T:Option TypeId)(x:AV)(k:AV->Option Q):NE P T x k=(NE P T x some).bind k:=by
 unfold NE
 repeat' split
 all_goals rfl
theorem OH(P:Program)(T:Option TypeId)(x:AV)(k:AV->Option Q):Nz P T x k=(Nz P T x some).bind k:=by
 unfold Nz
 repeat' split
 all_goals rfl
theorem KQ(mx:Bool)(xs:List AV)(k:AV->Option Q):Mc mx xs k=(Mc mx xs some).bind k:=by
 unfold Mc
 repeat' split
 all_goals rfl
theorem MX(o:Oper)(k:AV->Option Q):Eb C st o k=(Eb C st o some).bind k:=by
 unfold Eb
 split
 ·rfl
 ·exact NH ..
 ·exact NF ..
 ·exact OO ..
 ·exact GQ ..
 ·exact P4 ..
 ·exact NB ..
 ·exact GS ..
 ·exact L8 ..
 ·exact KN ..
 ·exact Ma ..
 ·exact Me ..
 ·exact L4 ..
 ·exact FN ..
 ·exact GU ..
 ·exact JM ..
 ·exact IB ..
 ·split
  ·exact Ny ..
  ·split
   ·exact OM ..
   ·rfl
  ·split
   ·exact OH ..
   ·rfl
  ·exact KQ ..
  ·exact KQ ..
  ·rfl
 ·rfl
end
end Go.Vai
