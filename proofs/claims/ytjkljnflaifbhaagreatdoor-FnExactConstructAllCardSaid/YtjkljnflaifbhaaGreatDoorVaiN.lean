/- No conditions. -/
import Derived.Test.YtjkljnflaifbhaaGreatDoorVai1
namespace Go.Vai
open Go
section
variable {C:gY} {st:St} {Q:Type}
theorem aba(c x y:AV)(k:AV->Option Q):Wc c x y k=(Wc c x y some).bind k:=by
 unfold Wc
 split
 ·rename_i b
  split
  ·rfl
  ·cases b<;>rfl
 ·rfl
theorem aa8(T:TypeId)(a:AV)(k:AV->Option Q):JL C st T a k=(JL C st T a some).bind k:=by
 unfold JL
 repeat' split
 all_goals rfl
theorem ab6(a:AV)(k:AV->Option Q):aa9 a k=(aa9 a some).bind k:=by
 unfold aa9
 repeat' split
 all_goals rfl
theorem ab3(op:BinOp)(κ:IntKind)(a b:Int)(k:AV->Option Q):Yg op κ a b k=(Yg op κ a b some).bind k:=by
 cases op<;>first|rfl|(simp only[Yg];cases decide (b=0)<;>rfl)
theorem TZ(op:BinOp)(κ:IntKind)(a b:Int)(k:AV->Option Q):MX op κ a b k=(MX op κ a b some).bind k:=by
 cases op<;>first|rfl|(simp only[MX];cases decide (b<0)<;>rfl)
theorem ab8(op:BinOp)(a b:ByteArray)(k:AV->Option Q):ZP op a b k=(ZP op a b some).bind k:=by
 cases op<;>first|rfl|(simp only[ZP];cases decide (((a.size+b.size:Nat):Int)>IntKind.i64.max)<;>rfl)
theorem lF{β γ:Type}(c:Bool)(x y:Option γ)(x' y':Option β)(k:β->Option γ)(h:x=x'.bind k)(h':y=y'.bind k):cond c x y=(cond c x' y').bind k:=by
 cases c
 ·exact h'
 ·exact h
theorem TY(P:Program)(op:BinOp)(T:TypeId)(n:Nat)(k:AV->Option Q):Ie P op T n k=(Ie P op T n some).bind k:=by
 unfold Ie
 repeat' split
 all_goals first
  |rfl
  |exact lF _ _ _ _ _ _ rfl rfl
theorem TT(P:Program)(op:BinOp)(T:TypeId)(x y:AV)(k:AV->Option Q):VJ P op T x y k=(VJ P op T x y some).bind k:=by
 unfold VJ
 split
 ·split
  ·exact TZ ..
  ·exact TZ ..
  ·split
   ·exact ab3 ..
   ·rfl
 ·repeat' split
  all_goals first
   |rfl
   |exact lF _ _ _ _ _ _ rfl rfl
 ·exact ab8 ..
 ·repeat' split
  all_goals rfl
 ·repeat' split
  all_goals rfl
 ·exact TY ..
 ·exact TY ..
 ·repeat' split
  all_goals rfl
 ·rfl
theorem adp(op:UnOp)(x:AV)(k:AV->Option Q):aUn op x k=(aUn op x some).bind k:=by
 unfold aUn
 repeat' split
 all_goals rfl
theorem aa4(P:Program)(s d:TypeId)(x:AV)(k:AV->Option Q):V9 P s d x k=(V9 P s d x some).bind k:=by
 unfold V9
 repeat' split
 all_goals rfl
theorem TV(P:Program)(T:TypeId)(x:AV)(f:Nat)(k:AV->Option Q):Aj P T x f k=(Aj P T x f some).bind k:=by
 unfold Aj
 repeat' split
 all_goals rfl
theorem ZI(P:Program)(T:TypeId)(x:AV)(f:Nat)(k:AV->Option Q):Qd P T x f k=(Qd P T x f some).bind k:=by
 unfold Qd
 repeat' split
 all_goals rfl
theorem Oj{α β γ:Type}(o:Option α)(f:α->Option β)(k:β->Option γ)(g:α->Option γ)(h:∀x,g x=(f x).bind k):o.bind g=(o.bind f).bind k:=by
 cases o with
 |none=>rfl
 |some x=>exact h x
theorem U5(i:Int)(K:Nat->Option Q)(f:Nat->Option AV)(k:AV->Option Q)(h:∀j,K j=(f j).bind k):∀m j,Q5 i K m j=(Q5 i f m j).bind k
 |0,_=>rfl
 |m+1,j=>lF _ _ _ _ _ _ (h j) (U5 i K f k h m (j+1))
theorem TW(P:Program)(T:TypeId)(x i:AV)(k:AV->Option Q):xO P T x i k=(xO P T x i some).bind k:=by
 unfold xO
 repeat' split
 all_goals first
  |rfl
  |exact Oj _ _ _ _ (fun _=>rfl)
  |exact U5 _ _ (fun j=>some (.c (.gp _ (_+j*_)))) k (fun _=>rfl) _ _
theorem Yf(C:gY)(T:TypeId)(x i:AV)(k:AV->Option Q):Ll C T x i k=(Ll C T x i some).bind k:=by
 unfold Ll
 repeat' split
 all_goals first
  |rfl
  |exact TW _ _ _ _ _
  |exact Oj _ _ _ _ (fun _=>rfl)
theorem ZK(P:Program)(T:TypeId)(x i:AV)(k:AV->Option Q):Qe P T x i k=(Qe P T x i some).bind k:=by
 unfold Qe
 repeat' split
 all_goals first
  |rfl
  |exact Oj _ _ _ _ (fun _=>rfl)
theorem Lp(n:Nat)(lo hi:Option AV)(k:Nat->Nat->Option Q)(f:Nat->Nat->Option AV)(k':AV->Option Q)(h:∀a b,k a b=(f a b).bind k'):cutAt n lo hi k=(cutAt n lo hi f).bind k':=by
 unfold cutAt
 repeat' split
 all_goals first
  |rfl
  |exact h _ _
  |exact lF _ _ _ _ _ _ (lF _ _ _ _ _ _ (lF _ _ _ _ _ _ (h _ _) rfl) rfl) rfl
  |exact lF _ _ _ _ _ _ (lF _ _ _ _ _ _ (h _ _) rfl) rfl
theorem ZT(n:Nat)(lo hi mx:AV)(k:Option Q)(f:Option AV)(k':AV->Option Q)(h:k=f.bind k'):Qm n lo hi mx k=(Qm n lo hi mx f).bind k':=by
 unfold Qm
 split
 ·exact lF _ _ _ _ _ _ (lF _ _ _ _ _ _ (lF _ _ _ _ _ _ (lF _ _ _ _ _ _ h rfl) rfl) rfl) rfl
 ·rfl
theorem ZO(P:Program)(em:Bool)(T:TypeId)(x:AV)(lo hi mx:Option AV)(k:AV->Option Q):Qf P em T x lo hi mx k=(Qf P em T x lo hi mx some).bind k:=by
 unfold Qf
 repeat' split
 all_goals first
  |rfl
  |exact Lp _ _ _ _ _ _ (fun _ _=>rfl)
  |exact lF _ _ _ _ _ _ (Lp _ _ _ _ _ _ (fun _ _=>rfl)) rfl
  |exact lF _ _ _ _ _ _ (Lp _ _ _ _ _ _ (fun _ _=>rfl)) (Lp _ _ _ _ _ _ (fun _ _=>rfl))
  |exact ZT _ _ _ _ _ _ _ rfl
theorem ZE(P:Program)(T:TypeId)(ps:List (Nat×AV))(k:AV->Option Q):Qc P T ps k=(Qc P T ps some).bind k:=by
 unfold Qc
 repeat' split
 all_goals rfl
theorem Sj(P:Program)(T:TypeId)(n:Nat)(ps:List (Nat×AV))(k:AV->Option Q):uv P T n ps k=(uv P T n ps some).bind k:=by
 unfold uv
 repeat' split
 all_goals rfl
theorem TX(P:Program)(T:TypeId)(n c:AV)(k:AV->Option Q):Ak P T n c k=(Ak P T n c some).bind k:=by
 unfold Ak
 repeat' split
 all_goals first
  |rfl
  |exact lF _ _ _ _ _ _ (lF _ _ _ _ _ _ (lF _ _ _ _ _ _ (lF _ _ _ _ _ _ rfl rfl) rfl) rfl) rfl
theorem Xd(x:AV)(i:Nat)(k:AV->Option Q):GI x i k=(GI x i some).bind k:=by
 unfold GI
 repeat' split
 all_goals rfl
theorem VL(f:Fn)(a b:List AV)(k:AV->Option Q):Dk f a b k=(Dk f a b some).bind k:=by
 unfold Dk
 repeat' split
 all_goals rfl
theorem aa1(f:AV)(args:List AV)(k:AV->Option Q):Oe C st f args k=(Oe C st f args some).bind k:=by
 unfold Oe
 repeat' split
 all_goals first
  |rfl
  |(refine Oj _ _ _ _ (fun x=> ?_)
    rw[af.altOk,af.altOk]
    split<;>rfl)
theorem ab4(P:Program)(T:Option TypeId)(x:AV)(k:AV->Option Q):aa7 P T x k=(aa7 P T x some).bind k:=by
 unfold aa7
 repeat' split
 all_goals rfl
theorem abZ(P:Program)(T:Option TypeId)(x:AV)(k:AV->Option Q):aa2 P T x k=(aa2 P T x some).bind k:=by
 unfold aa2
 repeat' split
 all_goals rfl
theorem Yi(mx:Bool)(xs:List AV)(k:AV->Option Q):ZM mx xs k=(ZM mx xs some).bind k:=by
 unfold ZM
 repeat' split
 all_goals rfl
theorem aas(o:Oper)(k:AV->Option Q):Qh C st o k=(Qh C st o some).bind k:=by
 unfold Qh
 split
 ·rfl
 ·exact aba ..
 ·exact aa8 ..
 ·exact ab6 ..
 ·exact TT ..
 ·exact adp ..
 ·exact aa4 ..
 ·exact TV ..
 ·exact ZI ..
 ·exact Yf ..
 ·exact ZK ..
 ·exact ZO ..
 ·exact ZE ..
 ·exact Sj ..
 ·exact TX ..
 ·exact Xd ..
 ·exact VL ..
 ·split
  ·exact aa1 ..
  ·split
   ·exact ab4 ..
   ·rfl
  ·split
   ·exact abZ ..
   ·rfl
  ·exact Yi ..
  ·exact Yi ..
  ·rfl
 ·rfl
end
end Go.Vai
