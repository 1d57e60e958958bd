/- A lemma text on a verified interpreter without memory (part VaiN). No conditions. -/
import Derived.Test.YtjfgddmngnkfdaaDoorVai1
/- VAI N: ONE OPERATION, AND WHAT COMES AFTER. -/
namespace Go.Vai
open Go

section
variable {C : Ctx} {st : St} {Q : Type}

theorem aPick_nat (c x y : AV) (k : AV → Option Q) : aPick c x y k = (aPick c x y some).bind k := by
  unfold aPick
  split
  · rename_i b
    split
    · rfl
    · cases b <;> rfl
  · rfl

theorem aLoad_nat (T : TypeId) (a : AV) (k : AV → Option Q) : aLoad C st T a k = (aLoad C st T a some).bind k := by
  unfold aLoad
  repeat' split
  all_goals rfl

theorem aNil_nat (a : AV) (k : AV → Option Q) : aNil a k = (aNil a some).bind k := by
  unfold aNil
  repeat' split
  all_goals rfl

theorem aInt_nat (op : BinOp) (κ : IntKind) (a b : Int) (k : AV → Option Q) : aInt op κ a b k = (aInt op κ a b some).bind k := by
  cases op <;> first | rfl | (simp only [aInt]; cases decide (b = 0) <;> rfl)

theorem aShift_nat (op : BinOp) (κ : IntKind) (a b : Int) (k : AV → Option Q) : aShift op κ a b k = (aShift op κ a b some).bind k := by
  cases op <;> first | rfl | (simp only [aShift]; cases decide (b < 0) <;> rfl)

theorem aStr_nat (op : BinOp) (a b : ByteArray) (k : AV → Option Q) : aStr op a b k = (aStr op a b some).bind k := by
  cases op <;> first | rfl | (simp only [aStr]; cases decide (((a.size + b.size : Nat) : Int) > IntKind.i64.max) <;> rfl)

theorem cond_nat {β γ : Type} (c : Bool) (x y : Option γ) (x' y' : Option β) (k : β → Option γ) (h : x = x'.bind k) (h' : y = y'.bind k) : cond c x y = (cond c x' y').bind k := by
  cases c
  · exact h'
  · exact h

theorem aNilEq_nat (P : Program) (op : BinOp) (T : TypeId) (n : Nat) (k : AV → Option Q) : aNilEq P op T n k = (aNilEq P op T n some).bind k := by
  unfold aNilEq
  repeat' split
  all_goals first
    | rfl
    | exact cond_nat _ _ _ _ _ _ rfl rfl

theorem aBin_nat (P : Program) (op : BinOp) (T : TypeId) (x y : AV) (k : AV → Option Q) : aBin P op T x y k = (aBin P op T x y some).bind k := by
  unfold aBin
  split
  · split
    · exact aShift_nat ..
    · exact aShift_nat ..
    · split
      · exact aInt_nat ..
      · rfl
  · repeat' split
    all_goals first
      | rfl
      | exact cond_nat _ _ _ _ _ _ rfl rfl
  · exact aStr_nat ..
  · repeat' split
    all_goals rfl
  · repeat' split
    all_goals rfl
  · exact aNilEq_nat ..
  · exact aNilEq_nat ..
  · repeat' split
    all_goals rfl
  · rfl

theorem aUn_nat (op : UnOp) (x : AV) (k : AV → Option Q) : aUn op x k = (aUn op x some).bind k := by
  unfold aUn
  repeat' split
  all_goals rfl

theorem aConv_nat (P : Program) (s d : TypeId) (x : AV) (k : AV → Option Q) : aConv P s d x k = (aConv P s d x some).bind k := by
  unfold aConv
  repeat' split
  all_goals rfl

theorem aFieldAddr_nat (P : Program) (T : TypeId) (x : AV) (f : Nat) (k : AV → Option Q) : aFieldAddr P T x f k = (aFieldAddr P T x f some).bind k := by
  unfold aFieldAddr
  repeat' split
  all_goals rfl

theorem aField_nat (P : Program) (T : TypeId) (x : AV) (f : Nat) (k : AV → Option Q) : aField P T x f k = (aField P T x f some).bind k := by
  unfold aField
  repeat' split
  all_goals rfl

theorem bind_nat {α β γ : Type} (o : Option α) (f : α → Option β) (k : β → Option γ) (g : α → Option γ) (h : ∀ x, g x = (f x).bind k) : o.bind g = (o.bind f).bind k := by
  cases o with
  | none => rfl
  | some x => exact h x

theorem pickAt_nat (i : Int) (K : Nat → Option Q) (f : Nat → Option AV) (k : AV → Option Q) (h : ∀ j, K j = (f j).bind k) : ∀ m j, pickAt i K m j = (pickAt i f m j).bind k
  | 0, _ => rfl
  | m + 1, j => cond_nat _ _ _ _ _ _ (h j) (pickAt_nat i K f k h m (j + 1))

theorem aIndexAddr_nat (P : Program) (T : TypeId) (x i : AV) (k : AV → Option Q) : aIndexAddr P T x i k = (aIndexAddr P T x i some).bind k := by
  unfold aIndexAddr
  repeat' split
  all_goals first
    | rfl
    | exact bind_nat _ _ _ _ (fun _ => rfl)
    | exact pickAt_nat _ _ (fun j => some (.c (.gp _ (_ + j * _)))) k (fun _ => rfl) _ _
    | exact pickAt_nat _ _ (fun j => some (.c (.ea _ _ (_ + j * _)))) k (fun _ => rfl) _ _
    | exact pickAt_nat _ _ (fun j => some (.c (.va _ _ _ _ (_ + j * _)))) k (fun _ => rfl) _ _

theorem aIndexG_nat (C : Ctx) (T : TypeId) (x i : AV) (k : AV → Option Q) : aIndexG C T x i k = (aIndexG C T x i some).bind k := by
  unfold aIndexG
  repeat' split
  all_goals first
    | rfl
    | exact aIndexAddr_nat _ _ _ _ _
    | exact bind_nat _ _ _ _ (fun _ => rfl)

theorem aIndex_nat (P : Program) (T : TypeId) (x i : AV) (k : AV → Option Q) : aIndex P T x i k = (aIndex P T x i some).bind k := by
  unfold aIndex
  repeat' split
  all_goals first
    | rfl
    | exact bind_nat _ _ _ _ (fun _ => rfl)

theorem cutAt_nat (n : Nat) (lo hi : Option AV) (k : Nat → Nat → Option Q) (f : Nat → Nat → Option AV) (k' : AV → Option Q) (h : ∀ a b, k a b = (f a b).bind k') : cutAt n lo hi k = (cutAt n lo hi f).bind k' := by
  unfold cutAt
  repeat' split
  all_goals first
    | rfl
    | exact h _ _
    | exact cond_nat _ _ _ _ _ _ (cond_nat _ _ _ _ _ _ (cond_nat _ _ _ _ _ _ (h _ _) rfl) rfl) rfl
    | exact cond_nat _ _ _ _ _ _ (cond_nat _ _ _ _ _ _ (h _ _) rfl) rfl

theorem cutAt3_nat (n : Nat) (lo hi mx : AV) (k : Option Q) (f : Option AV) (k' : AV → Option Q) (h : k = f.bind k') : cutAt3 n lo hi mx k = (cutAt3 n lo hi mx f).bind k' := by
  unfold cutAt3
  split
  · exact cond_nat _ _ _ _ _ _ (cond_nat _ _ _ _ _ _ (cond_nat _ _ _ _ _ _ (cond_nat _ _ _ _ _ _ h rfl) rfl) rfl) rfl
  · rfl

theorem aSlice_nat (P : Program) (em : Bool) (T : TypeId) (x : AV) (lo hi mx : Option AV) (k : AV → Option Q) : aSlice P em T x lo hi mx k = (aSlice P em T x lo hi mx some).bind k := by
  unfold aSlice
  repeat' split
  all_goals first
    | rfl
    | exact cutAt_nat _ _ _ _ _ _ (fun _ _ => rfl)
    | exact cond_nat _ _ _ _ _ _ (cutAt_nat _ _ _ _ _ _ (fun _ _ => rfl)) rfl
    | exact cond_nat _ _ _ _ _ _ (cutAt_nat _ _ _ _ _ _ (fun _ _ => rfl)) (cutAt_nat _ _ _ _ _ _ (fun _ _ => rfl))
    | exact cutAt3_nat _ _ _ _ _ _ _ rfl

theorem aBuild_nat (P : Program) (T : TypeId) (ps : List (Nat × AV)) (k : AV → Option Q) : aBuild P T ps k = (aBuild P T ps some).bind k := by
  unfold aBuild
  repeat' split
  all_goals rfl

theorem aBuildSlice_nat (P : Program) (T : TypeId) (n : Nat) (ps : List (Nat × AV)) (k : AV → Option Q) : aBuildSlice P T n ps k = (aBuildSlice P T n ps some).bind k := by
  unfold aBuildSlice
  repeat' split
  all_goals rfl

theorem aMakeSlice_nat (P : Program) (T : TypeId) (n c : AV) (k : AV → Option Q) : aMakeSlice P T n c k = (aMakeSlice P T n c some).bind k := by
  unfold aMakeSlice
  repeat' split
  all_goals first
    | rfl
    | exact cond_nat _ _ _ _ _ _ (cond_nat _ _ _ _ _ _ (cond_nat _ _ _ _ _ _ (cond_nat _ _ _ _ _ _ rfl rfl) rfl) rfl) rfl

theorem aExtract_nat (x : AV) (i : Nat) (k : AV → Option Q) : aExtract x i k = (aExtract x i some).bind k := by
  unfold aExtract
  repeat' split
  all_goals rfl

theorem aMakeFunc_nat (f : Fn) (a b : List AV) (k : AV → Option Q) : aMakeFunc f a b k = (aMakeFunc f a b some).bind k := by
  unfold aMakeFunc
  repeat' split
  all_goals rfl

theorem aCall_nat (f : AV) (args : List AV) (k : AV → Option Q) : aCall C st f args k = (aCall C st f args some).bind k := by
  unfold aCall
  repeat' split
  all_goals first
    | rfl
    | (refine bind_nat _ _ _ _ (fun x => ?_)
       rw [Contract.altOk, Contract.altOk]
       split <;> rfl)

theorem aLen_nat (P : Program) (T : Option TypeId) (x : AV) (k : AV → Option Q) : aLen P T x k = (aLen P T x some).bind k := by
  unfold aLen
  repeat' split
  all_goals rfl

theorem aCap_nat (P : Program) (T : Option TypeId) (x : AV) (k : AV → Option Q) : aCap P T x k = (aCap P T x some).bind k := by
  unfold aCap
  repeat' split
  all_goals rfl

theorem aMax_nat (mx : Bool) (xs : List AV) (k : AV → Option Q) : aMax mx xs k = (aMax mx xs some).bind k := by
  unfold aMax
  repeat' split
  all_goals rfl

theorem aop_nat (o : Oper) (k : AV → Option Q) : aop C st o k = (aop C st o some).bind k := by
  unfold aop
  split
  · rfl
  · exact aPick_nat ..
  · exact aLoad_nat ..
  · exact aNil_nat ..
  · exact aBin_nat ..
  · exact aUn_nat ..
  · exact aConv_nat ..
  · exact aFieldAddr_nat ..
  · exact aField_nat ..
  · exact aIndexG_nat ..
  · exact aIndex_nat ..
  · exact aSlice_nat ..
  · exact aBuild_nat ..
  · exact aBuildSlice_nat ..
  · exact aMakeSlice_nat ..
  · exact aExtract_nat ..
  · exact aMakeFunc_nat ..
  · split
    · exact aCall_nat ..
    · split
      · exact aLen_nat ..
      · rfl
    · split
      · exact aCap_nat ..
      · rfl
    · exact aMax_nat ..
    · exact aMax_nat ..
    · rfl
  · rfl

end
end Go.Vai
