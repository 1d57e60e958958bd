/- No conditions. -/
import Derived.Test.YtjkljnflaifbhaaGreatDoorVai1
namespace Go.Vai
open Go
section
variable {C:gA} {st:St} {Q:Type}
theorem XX(c x y:AV)(k:AV->Option Q):Tf c x y k=(Tf c x y some).bind k:=by
 unfold Tf
 split
 ·rename_i b
  split
  ·rfl
  ·cases b<;>rfl
 ·rfl
theorem XV(T:TypeId)(a:AV)(k:AV->Option Q):Hp C st T a k=(Hp C st T a some).bind k:=by
 unfold Hp
 repeat' split
 all_goals rfl
theorem YQ(a:AV)(k:AV->Option Q):XW a k=(XW a some).bind k:=by
 unfold XW
 repeat' split
 all_goals rfl
theorem YN(op:BinOp)(κ:IntKind)(a b:Int)(k:AV->Option Q):U5 op κ a b k=(U5 op κ a b some).bind k:=by
 cases op<;>first|rfl|(simp only[U5];cases decide (b=0)<;>rfl)
theorem QW(op:BinOp)(κ:IntKind)(a b:Int)(k:AV->Option Q):Km op κ a b k=(Km op κ a b some).bind k:=by
 cases op<;>first|rfl|(simp only[Km];cases decide (b<0)<;>rfl)
theorem YS(op:BinOp)(a b:ByteArray)(k:AV->Option Q):WD op a b k=(WD op a b some).bind k:=by
 cases op<;>first|rfl|(simp only[WD];cases decide (((a.size+b.size:Nat):Int)>IntKind.i64.max)<;>rfl)
theorem kN{β γ:Type}(c:Bool)(x y:Option γ)(x' y':Option β)(k:β->Option γ)(h:x=x'.bind k)(h':y=y'.bind k):cond c x y=(cond c x' y').bind k:=by
 cases c
 ·exact h'
 ·exact h
theorem QV(P:Program)(op:BinOp)(T:TypeId)(n:Nat)(k:AV->Option Q):FX P op T n k=(FX P op T n some).bind k:=by
 unfold FX
 repeat' split
 all_goals first
  |rfl
  |exact kN _ _ _ _ _ _ rfl rfl
theorem QQ(P:Program)(op:BinOp)(T:TypeId)(x y:AV)(k:AV->Option Q):SI P op T x y k=(SI P op T x y some).bind k:=by
 unfold SI
 split
 ·split
  ·exact QW ..
  ·exact QW ..
  ·split
   ·exact YN ..
   ·rfl
 ·repeat' split
  all_goals first
   |rfl
   |exact kN _ _ _ _ _ _ rfl rfl
 ·exact YS ..
 ·repeat' split
  all_goals rfl
 ·repeat' split
  all_goals rfl
 ·exact QV ..
 ·exact QV ..
 ·repeat' split
  all_goals rfl
 ·rfl
theorem aab(op:UnOp)(x:AV)(k:AV->Option Q):aUn op x k=(aUn op x some).bind k:=by
 unfold aUn
 repeat' split
 all_goals rfl
theorem XR(P:Program)(s d:TypeId)(x:AV)(k:AV->Option Q):Tc P s d x k=(Tc P s d x some).bind k:=by
 unfold Tc
 repeat' split
 all_goals rfl
theorem QS(P:Program)(T:TypeId)(x:AV)(f:Nat)(k:AV->Option Q):yi P T x f k=(yi P T x f some).bind k:=by
 unfold yi
 repeat' split
 all_goals rfl
theorem Ww(P:Program)(T:TypeId)(x:AV)(f:Nat)(k:AV->Option Q):Nb P T x f k=(Nb P T x f some).bind k:=by
 unfold Nb
 repeat' split
 all_goals rfl
theorem Lt{α β γ:Type}(o:Option α)(f:α->Option β)(k:β->Option γ)(g:α->Option γ)(h:∀x,g x=(f x).bind k):o.bind g=(o.bind f).bind k:=by
 cases o with
 |none=>rfl
 |some x=>exact h x
theorem R4(i:Int)(K:Nat->Option Q)(f:Nat->Option AV)(k:AV->Option Q)(h:∀j,K j=(f j).bind k):∀m j,Oa i K m j=(Oa i f m j).bind k
 |0,_=>rfl
 |m+1,j=>kN _ _ _ _ _ _ (h j) (R4 i K f k h m (j+1))
theorem QT(P:Program)(T:TypeId)(x i:AV)(k:AV->Option Q):wc P T x i k=(wc P T x i some).bind k:=by
 unfold wc
 repeat' split
 all_goals first
  |rfl
  |exact Lt _ _ _ _ (fun _=>rfl)
  |exact R4 _ _ (fun j=>some (.c (.gp _ (_+j*_)))) k (fun _=>rfl) _ _
theorem U4(C:gA)(T:TypeId)(x i:AV)(k:AV->Option Q):IP C T x i k=(IP C T x i some).bind k:=by
 unfold IP
 repeat' split
 all_goals first
  |rfl
  |exact QT _ _ _ _ _
  |exact Lt _ _ _ _ (fun _=>rfl)
theorem Wy(P:Program)(T:TypeId)(x i:AV)(k:AV->Option Q):Nc P T x i k=(Nc P T x i some).bind k:=by
 unfold Nc
 repeat' split
 all_goals first
  |rfl
  |exact Lt _ _ _ _ (fun _=>rfl)
theorem IS(n:Nat)(lo hi:Option AV)(k:Nat->Nat->Option Q)(f:Nat->Nat->Option AV)(k':AV->Option Q)(h:∀a b,k a b=(f a b).bind k'):cutAt n lo hi k=(cutAt n lo hi f).bind k':=by
 unfold cutAt
 repeat' split
 all_goals first
  |rfl
  |exact h _ _
  |exact kN _ _ _ _ _ _ (kN _ _ _ _ _ _ (kN _ _ _ _ _ _ (h _ _) rfl) rfl) rfl
  |exact kN _ _ _ _ _ _ (kN _ _ _ _ _ _ (h _ _) rfl) rfl
theorem WH(n:Nat)(lo hi mx:AV)(k:Option Q)(f:Option AV)(k':AV->Option Q)(h:k=f.bind k'):Nl n lo hi mx k=(Nl n lo hi mx f).bind k':=by
 unfold Nl
 split
 ·exact kN _ _ _ _ _ _ (kN _ _ _ _ _ _ (kN _ _ _ _ _ _ (kN _ _ _ _ _ _ h rfl) rfl) rfl) rfl
 ·rfl
theorem WC(P:Program)(em:Bool)(T:TypeId)(x:AV)(lo hi mx:Option AV)(k:AV->Option Q):Nd P em T x lo hi mx k=(Nd P em T x lo hi mx some).bind k:=by
 unfold Nd
 repeat' split
 all_goals first
  |rfl
  |exact IS _ _ _ _ _ _ (fun _ _=>rfl)
  |exact kN _ _ _ _ _ _ (IS _ _ _ _ _ _ (fun _ _=>rfl)) rfl
  |exact kN _ _ _ _ _ _ (IS _ _ _ _ _ _ (fun _ _=>rfl)) (IS _ _ _ _ _ _ (fun _ _=>rfl))
  |exact WH _ _ _ _ _ _ _ rfl
theorem Ws(P:Program)(T:TypeId)(ps:List (Nat×AV))(k:AV->Option Q):Na P T ps k=(Na P T ps some).bind k:=by
 unfold Na
 repeat' split
 all_goals rfl
theorem Pq(P:Program)(T:TypeId)(n:Nat)(ps:List (Nat×AV))(k:AV->Option Q):sW P T n ps k=(sW P T n ps some).bind k:=by
 unfold sW
 repeat' split
 all_goals rfl
theorem QU(P:Program)(T:TypeId)(n c:AV)(k:AV->Option Q):yj P T n c k=(yj P T n c some).bind k:=by
 unfold yj
 repeat' split
 all_goals first
  |rfl
  |exact kN _ _ _ _ _ _ (kN _ _ _ _ _ _ (kN _ _ _ _ _ _ (kN _ _ _ _ _ _ rfl rfl) rfl) rfl) rfl
theorem Uc(x:AV)(i:Nat)(k:AV->Option Q):ES x i k=(ES x i some).bind k:=by
 unfold ES
 repeat' split
 all_goals rfl
theorem SK(f:Fn)(a b:List AV)(k:AV->Option Q):BK f a b k=(BK f a b some).bind k:=by
 unfold BK
 repeat' split
 all_goals rfl
theorem XO(f:AV)(args:List AV)(k:AV->Option Q):Lo C st f args k=(Lo C st f args some).bind k:=by
 unfold Lo
 repeat' split
 all_goals first
  |rfl
  |(refine Lt _ _ _ _ (fun x=> ?_)
    rw[af.altOk,af.altOk]
    split<;>rfl)
theorem YO(P:Program)(T:Option TypeId)(x:AV)(k:AV->Option Q):XU P T x k=(XU P T x some).bind k:=by
 unfold XU
 repeat' split
 all_goals rfl
theorem YJ(P:Program)(T:Option TypeId)(x:AV)(k:AV->Option Q):XP P T x k=(XP P T x some).bind k:=by
 unfold XP
 repeat' split
 all_goals rfl
theorem U7(mx:Bool)(xs:List AV)(k:AV->Option Q):WA mx xs k=(WA mx xs some).bind k:=by
 unfold WA
 repeat' split
 all_goals rfl
theorem Xh(o:Oper)(k:AV->Option Q):Ng C st o k=(Ng C st o some).bind k:=by
 unfold Ng
 split
 ·rfl
 ·exact XX ..
 ·exact XV ..
 ·exact YQ ..
 ·exact QQ ..
 ·exact aab ..
 ·exact XR ..
 ·exact QS ..
 ·exact Ww ..
 ·exact U4 ..
 ·exact Wy ..
 ·exact WC ..
 ·exact Ws ..
 ·exact Pq ..
 ·exact QU ..
 ·exact Uc ..
 ·exact SK ..
 ·split
  ·exact XO ..
  ·split
   ·exact YO ..
   ·rfl
  ·split
   ·exact YJ ..
   ·rfl
  ·exact U7 ..
  ·exact U7 ..
  ·rfl
 ·rfl
end
end Go.Vai
