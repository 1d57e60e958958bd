/- A lemma text on a verified interpreter without memory (part VaiM). No conditions. -/
import Derived.Test.YtjfgddmngnkfdaaDoorVaiL
/- VAI M: WHAT PRINTED TEXTS USE: TYPED PARAMETERS OF ALL KINDS; LOOPS AND FUNCTIONS WITH NAMED CONTINUATIONS. -/
namespace Go.Vai
open Go

/-! ### parameters -/

/-- A parameter: a value; a pointer to a variable that is read; a closure over variables that are read; a slice that is written to. -/
inductive AX where
  | val (agg : Bool) (t : Ty)
  | ptr (t : Ty)
  | clo (f : FuncId) (ts : List Ty)
  | io (t : Ty)
  | ios (g : Bool) (ts : List Ty)
  | mix (g : Bool) (s : List CS)
  | rw (s : List CS)
  | clw (f : FuncId) (ss : List (List CS))

/-- Slices that are written to, in a row. -/
@[reducible] def lysT : List Ty → Type
  | [] => Unit
  | t :: r => List t.T × lysT r

def lysCells : (ts : List Ty) → lysT ts → List CV
  | [], _ => []
  | t :: r, z => .own t z.1 :: lysCells r z.2

def lysParse : (ts : List Ty) → List CV → Option (lysT ts)
  | [], cs => match cs with
    | [] => some ()
    | _ => none
  | t :: r, cs => match cs with
    | .own t' l :: cs => if h : t' = t then (lysParse r cs).bind fun y => some (h ▸ l, y) else none
    | _ => none

theorem lysParse_ok : ∀ {ts : List Ty} {cs : List CV} {z : lysT ts}, lysParse ts cs = some z → cs = lysCells ts z
  | [], cs, z, h => by
    simp only [lysParse] at h
    split at h
    · rfl
    · cases h
  | t :: r, cs, z, h => by
    simp only [lysParse] at h
    split at h
    · rename_i t' l cs
      split at h
      · rename_i e
        subst e
        simp only [Option.bind_eq_some_iff] at h
        obtain ⟨y, hy, hz⟩ := h
        cases hz
        simp only [lysCells]; rw [← lysParse_ok hy]
      · cases h
    · cases h

@[reducible] def cssT : List (List CS) → Type
  | [] => Unit
  | s :: r => csT s × cssT r

@[reducible] def tysT : List Ty → Type
  | [] => Unit
  | t :: r => t.T × tysT r

@[reducible] def AX.T : AX → Type
  | .val _ t => t.T
  | .ptr t => t.T
  | .clo _ ts => tysT ts
  | .io t => List t.T
  | .ios _ ts => lysT ts
  | .mix _ s => csT s
  | .rw s => csT s
  | .clw _ ss => cssT ss

@[reducible] def argsX : List AX → Type
  | [] => Unit
  | a :: r => a.T × argsX r

def capsAt : Nat → List Ty → List (Nat × Nat)
  | _, [] => []
  | n, _ :: r => (n, 0) :: capsAt (n + 1) r

def capsAtC : Nat → List (List CS) → List (Nat × Nat)
  | _, [] => []
  | n, _ :: r => (n, 0) :: capsAtC (n + 1) r

def cssBoxes : (ss : List (List CS)) → cssT ss → List (List CV)
  | [], _ => []
  | s :: r, z => csCv s z.1 :: cssBoxes r z.2

def tysBoxes : (ts : List Ty) → tysT ts → List (List CV)
  | [], _ => []
  | t :: r, z => t.cells z.1 :: tysBoxes r z.2

def xVals : (as : List AX) → Nat → argsX as → List Val
  | [], _, _ => []
  | .val g t :: r, n, z => ⟨g, t.cells z.1⟩ :: xVals r n z.2
  | .ptr _ :: r, n, z => ⟨false, [.ptr n 0]⟩ :: xVals r (n + 1) z.2
  | .clo f ts :: r, n, z => ⟨false, [.fn f (capsAt n ts)]⟩ :: xVals r (n + ts.length) z.2
  | .io t :: r, n, z => ⟨false, [.own t z.1]⟩ :: xVals r n z.2
  | .ios g ts :: r, n, z => ⟨g, lysCells ts z.1⟩ :: xVals r n z.2
  | .mix g s :: r, n, z => ⟨g, csCv s z.1⟩ :: xVals r n z.2
  | .rw _ :: r, n, z => ⟨false, [.ptr n 0]⟩ :: xVals r (n + 1) z.2
  | .clw f ss :: r, n, z => ⟨false, [.fn f (capsAtC n ss)]⟩ :: xVals r (n + ss.length) z.2

def xBoxes : (as : List AX) → argsX as → List (List CV)
  | [], _ => []
  | .val _ _ :: r, z => xBoxes r z.2
  | .ptr t :: r, z => t.cells z.1 :: xBoxes r z.2
  | .clo _ ts :: r, z => tysBoxes ts z.1 ++ xBoxes r z.2
  | .io _ :: r, z => xBoxes r z.2
  | .ios _ _ :: r, z => xBoxes r z.2
  | .mix _ _ :: r, z => xBoxes r z.2
  | .rw s :: r, z => csCv s z.1 :: xBoxes r z.2
  | .clw _ ss :: r, z => cssBoxes ss z.1 ++ xBoxes r z.2

def cssParse : (ss : List (List CS)) → List (List CV) → Option (cssT ss × List (List CV))
  | [], bs => some ((), bs)
  | s :: r, bs => match bs with
    | b :: bs => (csParse s b).bind fun x => (cssParse r bs).bind fun y => some ((x, y.1), y.2)
    | [] => none

theorem cssParse_ok : ∀ {ss : List (List CS)} {bs : List (List CV)} {z : cssT ss × List (List CV)}, cssParse ss bs = some z → bs = cssBoxes ss z.1 ++ z.2
  | [], bs, z, h => by cases h; rfl
  | s :: r, bs, z, h => by
    simp only [cssParse] at h
    split at h
    · rename_i b bs
      simp only [Option.bind_eq_some_iff] at h
      obtain ⟨x, hx, y, hy, hz⟩ := h
      cases hz
      simp only [cssBoxes, List.cons_append]
      rw [← csParse_cv hx, ← cssParse_ok hy]
    · cases h

def tysParse : (ts : List Ty) → List (List CV) → Option (tysT ts × List (List CV))
  | [], bs => some ((), bs)
  | t :: r, bs => match bs with
    | b :: bs => (t.parse b).bind fun x => (tysParse r bs).bind fun y => some ((x, y.1), y.2)
    | [] => none

theorem tysParse_ok : ∀ {ts : List Ty} {bs : List (List CV)} {z : tysT ts × List (List CV)}, tysParse ts bs = some z → bs = tysBoxes ts z.1 ++ z.2
  | [], bs, z, h => by cases h; rfl
  | t :: r, bs, z, h => by
    simp only [tysParse] at h
    split at h
    · rename_i b bs
      simp only [Option.bind_eq_some_iff] at h
      obtain ⟨x, hx, y, hy, hz⟩ := h
      cases hz
      simp only [tysBoxes, List.cons_append]
      rw [← Ty.parse_cells hx, ← tysParse_ok hy]
    · cases h

def xParse : (as : List AX) → Nat → List (List CV) → List Val → Option (argsX as)
  | [], _, bs, vs => match bs, vs with
    | [], [] => some ()
    | _, _ => none
  | .val g t :: r, n, bs, vs => match vs with
    | v :: vs => if v.agg = g then (t.parse v.cs).bind fun x => (xParse r n bs vs).bind fun y => some (x, y) else none
    | _ => none
  | .ptr t :: r, n, bs, vs => match bs, vs with
    | b :: bs, ⟨false, [.ptr k 0]⟩ :: vs => if k = n then (t.parse b).bind fun x => (xParse r (n + 1) bs vs).bind fun y => some (x, y) else none
    | _, _ => none
  | .clo f ts :: r, n, bs, vs => match vs with
    | ⟨false, [.fn f' caps]⟩ :: vs => if f' = f ∧ caps = capsAt n ts then (tysParse ts bs).bind fun x => (xParse r (n + ts.length) x.2 vs).bind fun y => some (x.1, y) else none
    | _ => none
  | .io t :: r, n, bs, vs => match vs with
    | ⟨false, [.own t' l]⟩ :: vs => if h : t' = t then (xParse r n bs vs).bind fun y => some (h ▸ l, y) else none
    | _ => none
  | .ios g ts :: r, n, bs, vs => match vs with
    | v :: vs => if v.agg = g then (lysParse ts v.cs).bind fun x => (xParse r n bs vs).bind fun y => some (x, y) else none
    | _ => none
  | .mix g s :: r, n, bs, vs => match vs with
    | v :: vs => if v.agg = g then (csParse s v.cs).bind fun x => (xParse r n bs vs).bind fun y => some (x, y) else none
    | _ => none
  | .rw s :: r, n, bs, vs => match bs, vs with
    | b :: bs, ⟨false, [.ptr k 0]⟩ :: vs => if k = n then (csParse s b).bind fun x => (xParse r (n + 1) bs vs).bind fun y => some (x, y) else none
    | _, _ => none
  | .clw f ss :: r, n, bs, vs => match vs with
    | ⟨false, [.fn f' caps]⟩ :: vs => if f' = f ∧ caps = capsAtC n ss then (cssParse ss bs).bind fun x => (xParse r (n + ss.length) x.2 vs).bind fun y => some (x.1, y) else none
    | _ => none

theorem xParse_ok : ∀ {as : List AX} {n : Nat} {bs : List (List CV)} {vs : List Val} {z : argsX as}, xParse as n bs vs = some z → vs = xVals as n z ∧ bs = xBoxes as z
  | [], n, bs, vs, z, h => by
    simp only [xParse] at h
    split at h
    · exact ⟨rfl, rfl⟩
    · cases h
  | .val g t :: r, n, bs, vs, z, h => by
    simp only [xParse] at h
    split at h
    · rename_i v vs
      split at h
      · rename_i hg
        simp only [Option.bind_eq_some_iff] at h
        obtain ⟨x, hx, y, hy, hz⟩ := h
        cases hz
        obtain ⟨h1, h2⟩ := xParse_ok hy
        refine ⟨?_, h2⟩
        simp only [xVals]
        rw [← Ty.parse_cells hx, ← h1, ← hg]
      · cases h
    · cases h
  | .ptr t :: r, n, bs, vs, z, h => by
    simp only [xParse] at h
    split at h
    · rename_i b bs k vs
      split at h
      · rename_i hk
        simp only [Option.bind_eq_some_iff] at h
        obtain ⟨x, hx, y, hy, hz⟩ := h
        cases hz
        obtain ⟨h1, h2⟩ := xParse_ok hy
        refine ⟨?_, ?_⟩
        · simp only [xVals]; rw [← h1, hk]
        · simp only [xBoxes]; rw [← Ty.parse_cells hx, ← h2]
      · cases h
    · cases h
  | .clo f ts :: r, n, bs, vs, z, h => by
    simp only [xParse] at h
    split at h
    · rename_i f' caps vs
      split at h
      · rename_i hk
        obtain ⟨rfl, rfl⟩ := hk
        simp only [Option.bind_eq_some_iff] at h
        obtain ⟨x, hx, y, hy, hz⟩ := h
        cases hz
        obtain ⟨h1, h2⟩ := xParse_ok hy
        refine ⟨?_, ?_⟩
        · simp only [xVals]; rw [← h1]
        · simp only [xBoxes]; rw [← h2, ← tysParse_ok hx]
      · cases h
    · cases h
  | .io t :: r, n, bs, vs, z, h => by
    simp only [xParse] at h
    split at h
    · rename_i t' l vs
      split at h
      · rename_i e
        subst e
        simp only [Option.bind_eq_some_iff] at h
        obtain ⟨y, hy, hz⟩ := h
        cases hz
        obtain ⟨h1, h2⟩ := xParse_ok hy
        refine ⟨?_, h2⟩
        simp only [xVals]; rw [← h1]
      · cases h
    · cases h
  | .ios g ts :: r, n, bs, vs, z, h => by
    simp only [xParse] at h
    split at h
    · rename_i v vs
      split at h
      · rename_i hg
        simp only [Option.bind_eq_some_iff] at h
        obtain ⟨x, hx, y, hy, hz⟩ := h
        cases hz
        obtain ⟨h1, h2⟩ := xParse_ok hy
        refine ⟨?_, h2⟩
        simp only [xVals]
        rw [← lysParse_ok hx, ← h1, ← hg]
      · cases h
    · cases h
  | .mix g s :: r, n, bs, vs, z, h => by
    simp only [xParse] at h
    split at h
    · rename_i v vs
      split at h
      · rename_i hg
        simp only [Option.bind_eq_some_iff] at h
        obtain ⟨x, hx, y, hy, hz⟩ := h
        cases hz
        obtain ⟨h1, h2⟩ := xParse_ok hy
        refine ⟨?_, h2⟩
        simp only [xVals]
        rw [← csParse_cv hx, ← h1, ← hg]
      · cases h
    · cases h
  | .rw s :: r, n, bs, vs, z, h => by
    simp only [xParse] at h
    split at h
    · rename_i b bs k vs
      split at h
      · rename_i hk
        simp only [Option.bind_eq_some_iff] at h
        obtain ⟨x, hx, y, hy, hz⟩ := h
        cases hz
        obtain ⟨h1, h2⟩ := xParse_ok hy
        refine ⟨?_, ?_⟩
        · simp only [xVals]; rw [← h1, hk]
        · simp only [xBoxes]; rw [← csParse_cv hx, ← h2]
      · cases h
    · cases h
  | .clw f ss :: r, n, bs, vs, z, h => by
    simp only [xParse] at h
    split at h
    · rename_i f' caps vs
      split at h
      · rename_i hk
        obtain ⟨rfl, rfl⟩ := hk
        simp only [Option.bind_eq_some_iff] at h
        obtain ⟨x, hx, y, hy, hz⟩ := h
        cases hz
        obtain ⟨h1, h2⟩ := xParse_ok hy
        refine ⟨?_, ?_⟩
        · simp only [xVals]; rw [← h1]
        · simp only [xBoxes]; rw [← h2, ← cssParse_ok hx]
      · cases h
    · cases h

def nBox : List AX → Nat
  | [] => 0
  | .val _ _ :: r => nBox r
  | .ptr _ :: r => nBox r + 1
  | .clo _ ts :: r => ts.length + nBox r
  | .io _ :: r => nBox r
  | .ios _ _ :: r => nBox r
  | .mix _ _ :: r => nBox r
  | .rw _ :: r => nBox r + 1
  | .clw _ ss :: r => ss.length + nBox r

theorem cssBoxes_length : ∀ (ss : List (List CS)) (z : cssT ss), (cssBoxes ss z).length = ss.length
  | [], _ => rfl
  | t :: r, z => by simp [cssBoxes, cssBoxes_length r z.2]

theorem tysBoxes_length : ∀ (ts : List Ty) (z : tysT ts), (tysBoxes ts z).length = ts.length
  | [], _ => rfl
  | t :: r, z => by simp [tysBoxes, tysBoxes_length r z.2]

theorem xBoxes_length : ∀ (as : List AX) (z : argsX as), (xBoxes as z).length = nBox as
  | [], _ => rfl
  | .val _ _ :: r, z => xBoxes_length r z.2
  | .ptr t :: r, z => by simp [xBoxes, nBox, xBoxes_length r z.2]
  | .clo _ ts :: r, z => by
    simp only [xBoxes, nBox, List.length_append, xBoxes_length r z.2]
    exact congrArg (· + nBox r) (tysBoxes_length ts z.1)
  | .io _ :: r, z => xBoxes_length r z.2
  | .ios _ _ :: r, z => xBoxes_length r z.2
  | .mix _ _ :: r, z => xBoxes_length r z.2
  | .rw s :: r, z => by simp [xBoxes, nBox, xBoxes_length r z.2]
  | .clw _ ss :: r, z => by
    simp only [xBoxes, nBox, List.length_append, xBoxes_length r z.2]
    exact congrArg (· + nBox r) (cssBoxes_length ss z.1)

def AX.lentTo : AX → Bool
  | .io _ => true
  | .ios _ _ => true
  | .mix _ _ => true
  | _ => false

def lentOf (as : List AX) : List Bool :=
  match as.any AX.lentTo with
  | true => as.map AX.lentTo
  | false => []

/-- A contract with typed arguments of all kinds. -/
def Contract.fx (as : List AX) (β : Type) (g : argsX as → Option β) (enc : β → AV × List CV) (alt : {R : Type} → β → (β → Option R) → Option R := fun x k => k x) (altOk : ∀ {R : Type} (x : β) (k : β → Option R), alt x k = k x := by intros; rfl) : Contract :=
  { io := lentOf as, β := β, G := fun bs vs => (xParse as 0 bs vs).bind g, enc := enc, alt := alt, altOk := altOk }

/-- A result of two forms. -/
noncomputable def sumE {A B : Type} {R : Sort 1} (x : A ⊕ B) (f : A → R) (g : B → R) : R := Sum.rec f g x

def alt1 {A : Type} {R : Type} (x : A) (k : A → Option R) : Option R := k x
noncomputable def altS {A B : Type} (f : {R : Type} → B → (B → Option R) → Option R) {R : Type} (x : A ⊕ B) (k : A ⊕ B → Option R) : Option R := sumE x (fun a => k (.inl a)) fun b => f b fun b => k (.inr b)

theorem altS_ok {A B : Type} {f : {R : Type} → B → (B → Option R) → Option R} (hf : ∀ {R : Type} (x : B) (k : B → Option R), f x k = k x) {R : Type} (x : A ⊕ B) (k : A ⊕ B → Option R) : altS @f x k = k x := by
  cases x with
  | inl a => rfl
  | inr b => exact hf b _

theorem nat_sum {A B R Q : Type} {f : A → Option Q} {g : B → Option Q} {f' : A → Option R} {g' : B → Option R} {k : R → Option Q} (hf : ∀ a, f a = (f' a).bind k) (hg : ∀ b, g b = (g' b).bind k) (x : A ⊕ B) : sumE x f g = (sumE x f' g').bind k := by
  cases x with
  | inl a => exact hf a
  | inr b => exact hg b

abbrev Rv := AV × List CV
abbrev K2 : AV → List CV → Option Rv := fun a cs => some (a, cs)

/-- A function's contract, from its run at typed arguments. -/
theorem Sound.fx {C : Ctx} {t : List (FuncId × Contract)} {e : Bool} (hT : AllSound C t) (hm : C.P.follows .mixedOrders = true) {fid : FuncId} {f : Func} (hf : C.P.funcs[fid]? = some f) (hb : f.body.isSome = true)
    (hname : (f.name == "runtime.NumGoroutine") = false) {as : List AX} {β : Type} {g : argsX as → Option β} {enc : β → AV × List CV} {alt : {R : Type} → β → (β → Option R) → Option R} {altOk : ∀ {R : Type} (x : β) (k : β → Option R), alt x k = k x} (h : Hints Rv) (fuel : Nat)
    (hH : HintsOk (tab C t e) ⟨f.ntmps, f.ntmps + nBox as⟩ h fuel (loops (codeOf f)))
    (hrun : ∀ z, runF (tab C t e) h fuel f (lentOf as) (xBoxes as z) (xVals as 0 z) K2 = (g z).bind fun b => some (enc b))
    (hJ : JoinsOk (tab C t e) ⟨f.ntmps, f.ntmps + nBox as⟩ h fuel (joins (codeOf f)) := by first | exact noHints_joins | exact JoinsOk.free (by kernel_rfl)) : Sound C fid (Contract.fx as β g enc @alt @altOk) := by
  have hb : f.body = some (codeOf f) := by
    unfold codeOf
    cases h : f.body with
    | none => rw [h] at hb; cases hb
    | some c => rfl
  refine Sound.ctx (C := tab C t e) (C' := C) rfl rfl (Sound.of_run (C := tab C t e) hf hb hname rfl hm hT.rho ?_)
  intro bs vs (x : β) hG
  have hG : (xParse as 0 bs vs).bind g = some x := hG
  rw [Option.bind_eq_some_iff] at hG
  obtain ⟨z, hz, hx⟩ := hG
  obtain ⟨rfl, rfl⟩ := xParse_ok hz
  refine ⟨h, fuel, by rw [xBoxes_length]; exact hH, by rw [xBoxes_length]; exact hJ, ?_⟩
  have := hrun z
  rw [hx] at this
  exact this

abbrev K3 : AV → List CV → Option Rv := fun a cs => some (a, cs.map fun _ => .undef)

/-- The same for a function that takes for good what is lent to it. -/
theorem Sound.fxTake {C : Ctx} {t : List (FuncId × Contract)} {e : Bool} (hT : AllSound C t) (hm : C.P.follows .mixedOrders = true) {fid : FuncId} {f : Func} (hf : C.P.funcs[fid]? = some f) (hb : f.body.isSome = true)
    (hname : (f.name == "runtime.NumGoroutine") = false) {as : List AX} {β : Type} {g : argsX as → Option β} {enc : β → AV × List CV} {alt : {R : Type} → β → (β → Option R) → Option R} {altOk : ∀ {R : Type} (x : β) (k : β → Option R), alt x k = k x} (h : Hints Rv) (fuel : Nat)
    (hH : HintsOk (tab C t e) ⟨f.ntmps, f.ntmps + nBox as⟩ h fuel (loops (codeOf f)))
    (hrun : ∀ z, runF (tab C t e) h fuel f (lentOf as) (xBoxes as z) (xVals as 0 z) K3 = (g z).bind fun b => some (enc b))
    (hJ : JoinsOk (tab C t e) ⟨f.ntmps, f.ntmps + nBox as⟩ h fuel (joins (codeOf f)) := by first | exact noHints_joins | exact JoinsOk.free (by kernel_rfl)) : Sound C fid (Contract.fx as β g enc @alt @altOk) := by
  have hb : f.body = some (codeOf f) := by
    unfold codeOf
    cases h : f.body with
    | none => rw [h] at hb; cases hb
    | some c => rfl
  refine Sound.ctx (C := tab C t e) (C' := C) rfl rfl (Sound.of_runTake (C := tab C t e) hf hb hname rfl hm hT.rho ?_)
  intro bs vs (x : β) hG
  have hG : (xParse as 0 bs vs).bind g = some x := hG
  rw [Option.bind_eq_some_iff] at hG
  obtain ⟨z, hz, hx⟩ := hG
  obtain ⟨rfl, rfl⟩ := xParse_ok hz
  refine ⟨h, fuel, by rw [xBoxes_length]; exact hH, by rw [xBoxes_length]; exact hJ, ?_⟩
  have := hrun z
  rw [hx] at this
  exact this

/-- A contract of a function that gives back its argument, also where that is empty: nil or not. -/
def Contract.emptyS (t : Ty) : Contract :=
  { io := [], β := Unit,
    G := fun bs vs => match bs, vs with
      | [], [⟨false, [.v (.slice _ 0 _)]⟩] => some ()
      | _, _ => none
    enc := fun _ => (.one ⟨false, [.own t []]⟩, []) }

theorem Sound.orEmpty {C : Ctx} {f : FuncId} {t : Ty} {g : argsX [.val false (.slice t)] → Option (List t.T)} (h1 : Sound C f (Contract.fx [.val false (.slice t)] (List t.T) g (fun b => (.one ⟨false, [.own t b]⟩, []))))
    {g' : List t.T → Option (List t.T)} (hg : ∀ l y, g' l = some y → l ≠ [] → g (l, ()) = some y) (h0 : ∀ y, g' [] = some y → y = []) (h2 : Sound C f (Contract.emptyS t)) :
    Sound C f (Contract.fx [.val false (.slice t)] (List t.T) (fun z => g' z.1) (fun b => (.one ⟨false, [.own t b]⟩, []))) := by
  have h1 := h1.r rfl
  have h2 := h2.r rfl
  refine SoundR.s rfl ⟨h1.1, fun g0 w bs vs args ms (x : List t.T) hP hG => ?_⟩
  have hG : (xParse [.val false (.slice t)] 0 bs vs).bind (fun z => g' z.1) = some x := hG
  obtain ⟨z, hz, hx⟩ := Option.bind_eq_some_iff.1 hG
  obtain ⟨l, u⟩ := z
  have hx : g' l = some x := hx
  by_cases hl : l = []
  · subst hl
    obtain rfl := h0 x hx
    obtain ⟨rfl, rfl⟩ := xParse_ok hz
    obtain ⟨v, vs', m, ms', rfl, rfl, hv, hr⟩ := hP.vals
    obtain ⟨rfl, rfl⟩ := hr
    have hv' : FsRel g0 w [.sl t []] [v] m := hv
    obtain ⟨v', vs', m', ms', e1, rfl, hF, hn⟩ := hv'
    cases e1
    obtain ⟨_, rfl⟩ := hn
    obtain ⟨rfl, hF⟩ := hF
    obtain ⟨A, cap, hA, _⟩ := hF (.slot 0 0 0)
    simp only [List.cons.injEq, and_true, List.length_nil] at hA
    subst hA
    exact h2.2 g0 w [] [⟨false, [.v (.slice A 0 cap)]⟩] _ _ () { hP with vals := ⟨_, [], _, [], rfl, rfl, ⟨_, [], [], [], rfl, rfl, ⟨rfl, fun _ => rfl⟩, rfl, rfl⟩, rfl, rfl⟩ } rfl
  · refine h1.2 g0 w bs vs args ms x hP ?_
    show (xParse [.val false (.slice t)] 0 bs vs).bind g = some x
    rw [hz]
    exact hg l x hx hl

theorem Sound.emptyRun {C : Ctx} {t : Ty} (hm : C.P.follows .mixedOrders = true) {fid : FuncId} {f : Func} (hf : C.P.funcs[fid]? = some f) (hb : f.body.isSome = true) (hname : (f.name == "runtime.NumGoroutine") = false) (hρ : ∀ f, C.ρ f = none)
    (hrun : ∀ A c, runF C noHints 1 f [] [] [⟨false, [.v (.slice A 0 c)]⟩] K2 = some (.one ⟨false, [.own t []]⟩, [])) : Sound C fid (Contract.emptyS t) := by
  have hb : f.body = some (codeOf f) := by
    unfold codeOf
    cases h : f.body with
    | none => rw [h] at hb; cases hb
    | some c => rfl
  refine Sound.of_run hf hb hname rfl hm (fun f c h => by rw [hρ] at h; cases h) ?_
  intro bs vs x hG
  refine ⟨noHints, 1, noHints_ok, noHints_joins, ?_⟩
  unfold Contract.emptyS at hG x ⊢
  simp only at hG
  split at hG
  · exact hrun _ _
  · cases hG

theorem xParse_vals_true {ax : List AX} {β : Type} {g : argsX ax → Option β} {enc : β → AV × List CV} {vs : List Val} {z : argsX ax} {b : β} (h : xParse ax 0 [] vs = some z) (hg : g z = some b) : (Contract.fx ax β g enc).G [] vs = some b := by
  show (xParse ax 0 [] vs).bind g = some b
  rw [h]; exact hg

/-! ### loops -/

/-- What is done at each way out of a loop. -/
@[reducible] def exH (R : Type) : List (Ex × LS) → Type
  | [] => Unit
  | x :: r => (x.2.T → Option R) × exH R r

def exC {R : Type} : (xs : List (Ex × LS)) → exH R xs → exT xs → Option R
  | [], _, z => nomatch z
  | _ :: r, h, z => match z with
    | .inl z => h.1 z
    | .inr z => exC r h.2 z

def hIn {R : Type} : (xs : List (Ex × LS)) → (exT xs → Option R) → exH R xs
  | [], _ => ()
  | _ :: r, f => (fun z => f (.inl z), hIn r (fun z => f (.inr z)))

def hK {R : Type} (k : Ex → Live → Option R) : (xs : List (Ex × LS)) → exH R xs
  | [] => ()
  | x :: r => (fun z => k x.1 (x.2.enc z), hK k r)

theorem exC_hK {R : Type} {k : Ex → Live → Option R} : ∀ (xs : List (Ex × LS)) (z : exT xs), exC xs (hK k xs) z = exK k xs z
  | [], z => nomatch z
  | _ :: _, .inl _ => rfl
  | _ :: r, .inr z => exC_hK r z

theorem exC_hIn {R : Type} : ∀ (xs : List (Ex × LS)) (f : exT xs → Option R) (z : exT xs), exC xs (hIn xs f) z = f z
  | [], _, z => nomatch z
  | _ :: _, _, .inl _ => rfl
  | _ :: r, _, .inr z => exC_hIn r _ z

section
variable {s : LS} {xs : List (Ex × LS)} (T : (R : Type) → (s.T → Option R) → exH R xs → s.T → Option R)

/-- One round, told. -/
def roundOf (z : s.T) : Option (s.T ⊕ exT xs) := T _ (fun y => some (.inl y)) (hIn xs fun x => some (.inr x)) z

def goOn {R : Type} (n : s.T → Option R) (h : exH R xs) : s.T ⊕ exT xs → Option R
  | .inl y => n y
  | .inr x => exC xs h x

/-- The round does nothing with what comes behind it but to go there. -/
def Natural : Prop := ∀ (R : Type) (n : s.T → Option R) (h : exH R xs) z, T R n h z = (roundOf T z).bind (goOn n h)

noncomputable def wOf : s.T → Option (exT xs) := whileO (roundOf T)
end

theorem whileO_none {α β : Type} {g : α → Option (α ⊕ β)} {z : α} (h : g z = none) : whileO g z = none := by
  cases hw : whileO g z with
  | none => rfl
  | some x =>
    obtain ⟨n, hn⟩ := whileO_some hw
    cases n with
    | zero => cases hn
    | succ n => simp only [iter, h, Option.bind_none] at hn; cases hn

theorem wOf_eq {s : LS} {xs : List (Ex × LS)} {T : (R : Type) → (s.T → Option R) → exH R xs → s.T → Option R} (hT : Natural T) (z : s.T) : wOf T z = T _ (wOf T) (hIn xs some) z := by
  rw [hT _ (wOf T) (hIn xs some) z]
  cases hg : roundOf T z with
  | none => exact whileO_none hg
  | some r =>
    cases r with
    | inl y => exact whileO_step hg
    | inr x =>
      refine (whileO_exit hg).trans ?_
      simp only [Option.bind_some, goOn, exC_hIn]

/-- What is told of a loop to what comes behind it. -/
noncomputable def loopX {R : Type} (s : LS) (xs : List (Ex × LS)) (w : s.T → Option (exT xs)) (x : Live) (k : Ex → Live → Option R) : Option R :=
  (s.parse x).bind fun z => (w z).bind (exC xs (hK k xs))

theorem loopX_ok {d : Dim} {lh : LoopHint} {R : Type} {body : St → (Ex → St → Option R) → Option R} {s : LS} {xs : List (Ex × LS)} {T : (R : Type) → (s.T → Option R) → exH R xs → s.T → Option R} (hT : Natural T)
    (hstep : ∀ n z k, loopN d lh body (n + 1) (s.enc z) k = T R (fun y => loopN d lh body n (s.enc y) k) (hK k xs) z) : ∀ x k r, loopX s xs (wOf T) x k = some r → ∃ N, loopN d lh body N x k = some r := by
  intro x k r h
  refine loopS_ok (s := s) (xs := xs) (g := roundOf T) ?_ x k r ?_
  · intro n z k
    rw [hstep, hT]
    cases roundOf T z with
    | none => rfl
    | some r =>
      cases r with
      | inl y => rfl
      | inr x => exact exC_hK xs x
  · have e : loopX s xs (wOf T) x k = loopS s xs (roundOf T) x k := by
      unfold loopX loopS
      congr 1
      funext z
      show (wOf T z).bind _ = (wOf T z).bind _
      congr 1
      funext y
      exact exC_hK xs y
    rw [← e]; exact h

/-! ### rests that are told by a name -/

section
variable {s : LS} {xs : List (Ex × LS)} (T : (R : Type) → exH R xs → s.T → Option R)
def NaturalJ : Prop := ∀ (R : Type) (h : exH R xs) z, T R h z = (T _ (hIn xs some) z).bind (exC xs h)
def jOf (z : s.T) : Option (exT xs) := T _ (hIn xs some) z
end

theorem joinX_ok {d : Dim} {lh : LoopHint} {R : Type} {Y : St → (Ex → St → Option R) → Option R} {s : LS} {xs : List (Ex × LS)} {T : (R : Type) → exH R xs → s.T → Option R} (hT : NaturalJ T)
    (hstep : ∀ z k, Y (d.back lh.s lh.b (s.enc z)) (fun e st => k e (st.live lh.s' lh.b')) = T R (hK k xs) z) :
    ∀ x k r, loopX s xs (jOf T) x k = some r → Y (d.back lh.s lh.b x) (fun e st => k e (st.live lh.s' lh.b')) = some r := by
  intro x k r h
  simp only [loopX, Option.bind_eq_some_iff] at h
  obtain ⟨z, hz, y, hy, h⟩ := h
  rw [LS.parse_ok hz, hstep, hT]
  exact Option.bind_eq_some_iff.2 ⟨y, hy, h⟩

/-! ### what comes behind -/

theorem nat_cond {R Q : Type} {c : Bool} {x y : Option Q} {x' y' : Option R} {k : R → Option Q} (h : x = x'.bind k) (h' : y = y'.bind k) : cond c x y = (cond c x' y').bind k := by
  cases c
  · exact h'
  · exact h

theorem nat_bind {A R Q : Type} {o : Option A} {f : A → Option Q} {f' : A → Option R} {k : R → Option Q} (h : ∀ z, f z = (f' z).bind k) : o.bind f = (o.bind f').bind k := by
  cases o with
  | none => rfl
  | some z => exact h z

def exN {R Q : Type} (k : R → Option Q) : (xs : List (Ex × LS)) → exH Q xs → exH R xs → Prop
  | [], _, _ => True
  | _ :: r, h, h' => (∀ z, h.1 z = (h'.1 z).bind k) ∧ exN k r h.2 h'.2

theorem exN_ok {R Q : Type} {k : R → Option Q} : ∀ {xs : List (Ex × LS)} {h : exH Q xs} {h' : exH R xs}, exN k xs h h' → ∀ z, exC xs h z = (exC xs h' z).bind k
  | [], _, _, _, z => nomatch z
  | _ :: _, _, _, H, .inl z => H.1 z
  | _ :: _, _, _, H, .inr z => exN_ok H.2 z

theorem nat_exC {R Q : Type} {xs : List (Ex × LS)} {o : Option (exT xs)} {h : exH Q xs} {h' : exH R xs} {k : R → Option Q} (H : exN k xs h h') : o.bind (exC xs h) = (o.bind (exC xs h')).bind k :=
  nat_bind (exN_ok H)

/-! ### loops whose first round starts from another shape -/

section
variable {s0 s : LS} {xs : List (Ex × LS)} (T : (R : Type) → (s.T → Option R) → exH R xs → s0.T → Option R)

def round0 (z : s0.T) : Option (s.T ⊕ exT xs) := T _ (fun y => some (.inl y)) (hIn xs fun x => some (.inr x)) z

def Natural0 : Prop := ∀ (R : Type) (n : s.T → Option R) (h : exH R xs) z, T R n h z = (round0 T z).bind (goOn n h)
end

noncomputable def loopP {R : Type} {s0 s : LS} {xs : List (Ex × LS)} (T : (R : Type) → (s.T → Option R) → exH R xs → s0.T → Option R) (S : Live → (Ex → Live → Option R) → Option R) (x : Live) (k : Ex → Live → Option R) : Option R :=
  (s0.parse x).bind fun z => T R (fun y => S (s.enc y) k) (hK k xs) z

theorem loopP_ok {d : Dim} {lh : LoopHint} {R : Type} {body : St → (Ex → St → Option R) → Option R} {s0 s : LS} {xs : List (Ex × LS)} {T : (R : Type) → (s.T → Option R) → exH R xs → s0.T → Option R} (hT : Natural0 T)
    (hstep : ∀ n z k, loopN d lh body (n + 1) (s0.enc z) k = T R (fun y => loopN d lh body n (s.enc y) k) (hK k xs) z)
    {S : Live → (Ex → Live → Option R) → Option R} (hS : ∀ x k r, S x k = some r → ∃ N, loopN d lh body N x k = some r) :
    ∀ x k r, loopP T S x k = some r → ∃ N, loopN d lh body N x k = some r := by
  intro x k r h
  simp only [loopP, Option.bind_eq_some_iff] at h
  obtain ⟨z, hz, h⟩ := h
  rw [LS.parse_ok hz]
  rw [hT] at h
  cases hg : round0 T z with
  | none => rw [hg] at h; cases h
  | some y =>
    rw [hg] at h
    cases y with
    | inl y =>
      obtain ⟨N, hN⟩ := hS _ _ _ h
      refine ⟨N + 1, ?_⟩
      rw [hstep, hT, hg]
      exact hN
    | inr y =>
      refine ⟨1, ?_⟩
      rw [hstep, hT, hg]
      exact h

theorem nat_peel {R Q : Type} {s0 s : LS} {xs : List (Ex × LS)} {T : (R : Type) → (s.T → Option R) → exH R xs → s0.T → Option R} (hT : Natural0 T) {f : s.T → Option Q} {f' : s.T → Option R} {h : exH Q xs} {h' : exH R xs} {k : R → Option Q}
    (hf : ∀ y, f y = (f' y).bind k) (hh : exN k xs h h') (z : s0.T) : T Q f h z = (T R f' h' z).bind k := by
  rw [hT Q f h z, hT R f' h' z]
  cases round0 T z with
  | none => rfl
  | some y =>
    cases y with
    | inl y => exact hf y
    | inr y => exact exN_ok hh y

end Go.Vai
