/- No conditions. -/
import Derived.Test.YtjkljnflaifbhaaDoorVai1
namespace Go.Vai
open Go
section
variable {C:ew} {st:St} {Q:Type}
theorem MB(c x y:AV)(k:AV->Option Q):HD c x y k=(HD c x y some).bind k:=by
 unfold HD
 split
 ·rename_i b
  split
  ·rfl
  ·cases b<;>rfl
 ·rfl
theorem Mz(T:TypeId)(a:AV)(k:AV->Option Q):yg C st T a k=(yg C st T a some).bind k:=by
 unfold yg
 repeat' split
 all_goals rfl
theorem NL(a:AV)(k:AV->Option Q):MA a k=(MA a some).bind k:=by
 unfold MA
 repeat' split
 all_goals rfl
theorem NI(op:BinOp)(κ:IntKind)(a b:Int)(k:AV->Option Q):JK op κ a b k=(JK op κ a b some).bind k:=by
 cases op<;>first|rfl|(simp only[JK];cases decide (b=0)<;>rfl)
theorem Fx(op:BinOp)(κ:IntKind)(a b:Int)(k:AV->Option Q):AJ op κ a b k=(AJ op κ a b some).bind k:=by
 cases op<;>first|rfl|(simp only[AJ];cases decide (b<0)<;>rfl)
theorem NN(op:BinOp)(a b:ByteArray)(k:AV->Option Q):K6 op a b k=(K6 op a b some).bind k:=by
 cases op<;>first|rfl|(simp only[K6];cases decide (((a.size+b.size:Nat):Int)>IntKind.i64.max)<;>rfl)
theorem gA{β γ:Type}(c:Bool)(x y:Option γ)(x' y':Option β)(k:β->Option γ)(h:x=x'.bind k)(h':y=y'.bind k):cond c x y=(cond c x' y').bind k:=by
 cases c
 ·exact h'
 ·exact h
theorem Fw(P:Program)(op:BinOp)(T:TypeId)(n:Nat)(k:AV->Option Q):wR P op T n k=(wR P op T n some).bind k:=by
 unfold wR
 repeat' split
 all_goals first
  |rfl
  |exact gA _ _ _ _ _ _ rfl rfl
theorem Fq(P:Program)(op:BinOp)(T:TypeId)(x y:AV)(k:AV->Option Q):Hf P op T x y k=(Hf P op T x y some).bind k:=by
 unfold Hf
 split
 ·split
  ·exact Fx ..
  ·exact Fx ..
  ·split
   ·exact NI ..
   ·rfl
 ·repeat' split
  all_goals first
   |rfl
   |exact gA _ _ _ _ _ _ rfl rfl
 ·exact NN ..
 ·repeat' split
  all_goals rfl
 ·repeat' split
  all_goals rfl
 ·exact Fw ..
 ·exact Fw ..
 ·repeat' split
  all_goals rfl
 ·rfl
theorem O4(op:UnOp)(x:AV)(k:AV->Option Q):Qu op x k=(Qu op x some).bind k:=by
 unfold Qu
 repeat' split
 all_goals rfl
theorem Mv(P:Program)(s d:TypeId)(x:AV)(k:AV->Option Q):HA P s d x k=(HA P s d x some).bind k:=by
 unfold HA
 repeat' split
 all_goals rfl
theorem Ft(P:Program)(T:TypeId)(x:AV)(f:Nat)(k:AV->Option Q):qU P T x f k=(qU P T x f some).bind k:=by
 unfold qU
 repeat' split
 all_goals rfl
theorem KX(P:Program)(T:TypeId)(x:AV)(f:Nat)(k:AV->Option Q):CX P T x f k=(CX P T x f some).bind k:=by
 unfold CX
 repeat' split
 all_goals rfl
theorem Bz{α β γ:Type}(o:Option α)(f:α->Option β)(k:β->Option γ)(g:α->Option γ)(h:∀x,g x=(f x).bind k):o.bind g=(o.bind f).bind k:=by
 cases o with
 |none=>rfl
 |some x=>exact h x
theorem Gz(i:Int)(K:Nat->Option Q)(f:Nat->Option AV)(k:AV->Option Q)(h:∀j,K j=(f j).bind k):∀m j,Dy i K m j=(Dy i f m j).bind k
 |0,_=>rfl
 |m+1,j=>gA _ _ _ _ _ _ (h j) (Gz i K f k h m (j+1))
theorem Fu(P:Program)(T:TypeId)(x i:AV)(k:AV->Option Q):pt P T x i k=(pt P T x i some).bind k:=by
 unfold pt
 repeat' split
 all_goals first
  |rfl
  |exact Bz _ _ _ _ (fun _=>rfl)
  |exact Gz _ _ (fun j=>some (.c (.gp _ (_+j*_)))) k (fun _=>rfl) _ _
theorem JJ(C:ew)(T:TypeId)(x i:AV)(k:AV->Option Q):zp C T x i k=(zp C T x i some).bind k:=by
 unfold zp
 repeat' split
 all_goals first
  |rfl
  |exact Fu _ _ _ _ _
  |exact Bz _ _ _ _ (fun _=>rfl)
theorem KZ(P:Program)(T:TypeId)(x i:AV)(k:AV->Option Q):CY P T x i k=(CY P T x i some).bind k:=by
 unfold CY
 repeat' split
 all_goals first
  |rfl
  |exact Bz _ _ _ _ (fun _=>rfl)
theorem zs(n:Nat)(lo hi:Option AV)(k:Nat->Nat->Option Q)(f:Nat->Nat->Option AV)(k':AV->Option Q)(h:∀a b,k a b=(f a b).bind k'):cutAt n lo hi k=(cutAt n lo hi f).bind k':=by
 unfold cutAt
 repeat' split
 all_goals first
  |rfl
  |exact h _ _
  |exact gA _ _ _ _ _ _ (gA _ _ _ _ _ _ (gA _ _ _ _ _ _ (h _ _) rfl) rfl) rfl
  |exact gA _ _ _ _ _ _ (gA _ _ _ _ _ _ (h _ _) rfl) rfl
theorem Lb(n:Nat)(lo hi mx:AV)(k:Option Q)(f:Option AV)(k':AV->Option Q)(h:k=f.bind k'):C6 n lo hi mx k=(C6 n lo hi mx f).bind k':=by
 unfold C6
 split
 ·exact gA _ _ _ _ _ _ (gA _ _ _ _ _ _ (gA _ _ _ _ _ _ (gA _ _ _ _ _ _ h rfl) rfl) rfl) rfl
 ·rfl
theorem K5(P:Program)(em:Bool)(T:TypeId)(x:AV)(lo hi mx:Option AV)(k:AV->Option Q):CZ P em T x lo hi mx k=(CZ P em T x lo hi mx some).bind k:=by
 unfold CZ
 repeat' split
 all_goals first
  |rfl
  |exact zs _ _ _ _ _ _ (fun _ _=>rfl)
  |exact gA _ _ _ _ _ _ (zs _ _ _ _ _ _ (fun _ _=>rfl)) rfl
  |exact gA _ _ _ _ _ _ (zs _ _ _ _ _ _ (fun _ _=>rfl)) (zs _ _ _ _ _ _ (fun _ _=>rfl))
  |exact Lb _ _ _ _ _ _ _ rfl
theorem KT(P:Program)(T:TypeId)(ps:List (Nat×AV))(k:AV->Option Q):CW P T ps k=(CW P T ps some).bind k:=by
 unfold CW
 repeat' split
 all_goals rfl
theorem Ez(P:Program)(T:TypeId)(n:Nat)(ps:List (Nat×AV))(k:AV->Option Q):mL P T n ps k=(mL P T n ps some).bind k:=by
 unfold mL
 repeat' split
 all_goals rfl
theorem Fv(P:Program)(T:TypeId)(n c:AV)(k:AV->Option Q):qV P T n c k=(qV P T n c some).bind k:=by
 unfold qV
 repeat' split
 all_goals first
  |rfl
  |exact gA _ _ _ _ _ _ (gA _ _ _ _ _ _ (gA _ _ _ _ _ _ (gA _ _ _ _ _ _ rfl rfl) rfl) rfl) rfl
theorem IB(x:AV)(i:Nat)(k:AV->Option Q):wa x i k=(wa x i some).bind k:=by
 unfold wa
 repeat' split
 all_goals rfl
theorem Hh(f:Fn)(a b:List AV)(k:AV->Option Q):tq f a b k=(tq f a b some).bind k:=by
 unfold tq
 repeat' split
 all_goals rfl
theorem Ms(f:AV)(args:List AV)(k:AV->Option Q):Bu C st f args k=(Bu C st f args some).bind k:=by
 unfold Bu
 repeat' split
 all_goals first
  |rfl
  |(refine Bz _ _ _ _ (fun x=> ?_)
    rw[af.altOk,af.altOk]
    split<;>rfl)
theorem NJ(P:Program)(T:Option TypeId)(x:AV)(k:AV->Option Q):My P T x k=(My P T x some).bind k:=by
 unfold My
 repeat' split
 all_goals rfl
theorem NE(P:Program)(T:Option TypeId)(x:AV)(k:AV->Option Q):Mt P T x k=(Mt P T x some).bind k:=by
 unfold Mt
 repeat' split
 all_goals rfl
theorem JM(mx:Bool)(xs:List AV)(k:AV->Option Q):K1 mx xs k=(K1 mx xs some).bind k:=by
 unfold K1
 repeat' split
 all_goals rfl
theorem LN(o:Oper)(k:AV->Option Q):C3 C st o k=(C3 C st o some).bind k:=by
 unfold C3
 split
 ·rfl
 ·exact MB ..
 ·exact Mz ..
 ·exact NL ..
 ·exact Fq ..
 ·exact O4 ..
 ·exact Mv ..
 ·exact Ft ..
 ·exact KX ..
 ·exact JJ ..
 ·exact KZ ..
 ·exact K5 ..
 ·exact KT ..
 ·exact Ez ..
 ·exact Fv ..
 ·exact IB ..
 ·exact Hh ..
 ·split
  ·exact Ms ..
  ·split
   ·exact NJ ..
   ·rfl
  ·split
   ·exact NE ..
   ·rfl
  ·exact JM ..
  ·exact JM ..
  ·rfl
 ·rfl
end
end Go.Vai
