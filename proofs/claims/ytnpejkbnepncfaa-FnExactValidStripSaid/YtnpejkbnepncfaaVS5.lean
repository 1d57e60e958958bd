/- Contracts of the functions that the law on ValidStrip reaches: both checks and the law itself. No conditions. -/
import Derived.Test.YtnpejkbnepncfaaVS4
namespace Go.Proofs.Ytnpejkbnepncfaa
open Go.Vai
set_option maxRecDepth 100000

def T7 : List (FuncId × Contract) := (10, k10) :: (12, k12) :: (8, k8) :: T6
theorem a7 : AllSound C0 T7 := AllSound.cons sd10 (AllSound.cons sd12 (AllSound.cons sd8 a6))

/-! l25Sizes -/
def szsFrom (l : List Int) : Nat → Int → Int → Option (Option Int × Int)
  | 0, _, _ => none
  | n + 1, i, s => cond (decide (i < l.length)) ((idx l i).bind fun x => cond (!within x 1 1000) (some (none, s)) ((idx l i).bind fun x => szsFrom l n (IntKind.i64.wrap (i + 1)) (IntKind.i64.wrap (s + x)))) (some (some s, s))
def lh55 : LoopHint := ⟨[0, 3, 4], [], [2, 3], []⟩
def kk55 (k : Ex → Live → Option Rv) : Option Int × Int → Option Rv
  | (some s, _) => k (.exit 0) ([.undef, iI s], [], [])
  | (none, s) => k .ret ([rB false, iI s], [], [])
def S55 (x : Live) (k : Ex → Live → Option Rv) : Option Rv :=
  match x with
  | ([.one ⟨false, [.sl (.int .i64) l]⟩, .one ⟨false, [.v (.int .i64 s)]⟩, .one ⟨false, [.v (.int .i64 i)]⟩], [], []) => (szsFrom l (l.length + 1) i s).bind (kk55 k)
  | _ => none
def h55 : Hints Rv := ⟨fun _ => lh55, fun k => match k with | 6 => some S55 | _ => none⟩
noncomputable def b55 : St → (Ex → St → Option Rv) → Option Rv := den (tab C0 T7) ⟨29, 29⟩ h55 1 (loopOf Try.f55 5)
theorem step55 (n : Nat) (l : List Int) (i s : Int) (k : Ex → Live → Option Rv) :
    loopN ⟨29, 29⟩ lh55 b55 (n + 1) ([iS l, iI s, iI i], [], []) k = cond (decide (i < l.length)) ((idx l i).bind fun x => cond (!within x 1 1000) (kk55 k (none, s)) ((idx l i).bind fun x => loopN ⟨29, 29⟩ lh55 b55 n ([iS l, iI (IntKind.i64.wrap (s + x)), iI (IntKind.i64.wrap (i + 1))], [], []) k)) (kk55 k (some s, s)) := by kernel_rfl
theorem loop55 (l : List Int) (k : Ex → Live → Option Rv) : ∀ n i s, loopN ⟨29, 29⟩ lh55 b55 n ([iS l, iI s, iI i], [], []) k = (szsFrom l n i s).bind (kk55 k) := by
  intro n
  induction n with
  | zero => intro i s; rfl
  | succ n ih =>
    intro i s
    rw [step55, szsFrom]
    cases decide (i < l.length)
    · rfl
    · simp only [cond_true]
      cases idx l i with
      | none => rfl
      | some x =>
        simp only [Option.bind_some]
        cases !within x 1 1000
        · exact ih _ _
        · rfl
theorem hints55 : HintsOk (tab C0 T7) ⟨29, 29⟩ h55 1 (loops (codeOf Try.f55)) := by
  have hl : loops (codeOf Try.f55) = [loopOf Try.f55 5] := by kernel_rfl
  rw [hl]
  refine HintsOk.cons (n := 6) (lh := lh55) (S := S55) (by kernel_rfl) rfl rfl ?_ HintsOk.nil
  intro x k r hr
  unfold S55 at hr
  split at hr
  · exact ⟨_, (loop55 _ k _ _ _).trans hr⟩
  · cases hr
def szsOf (l : List Int) : Option Bool := cond (!within l.length 1 14) (some false) ((szsFrom l (l.length + 1) 0 0).bind fun r => match r with | (some s, _) => some (decide (s ≤ 1000)) | (none, _) => some false)
theorem r55e (l : List Int) : runF (tab C0 T7) h55 1 Try.f55 [] [] [vS l] K2 = cond (!within l.length 1 14) (some (rB false, [])) ((szsFrom l (l.length + 1) 0 0).bind fun r => match r with | (some s, _) => some (rB (decide (s ≤ 1000)), []) | (none, _) => some (rB false, [])) := by kernel_rfl
theorem r55 (l : List Int) (x : Bool) (h : szsOf l = some x) : runF (tab C0 T7) h55 1 Try.f55 [] [] [vS l] K2 = some (rB x, []) := by
  rw [r55e]
  unfold szsOf at h
  cases hc : !within l.length 1 14
  · rw [hc] at h
    simp only [cond_false] at h ⊢
    cases hs : szsFrom l (l.length + 1) 0 0 with
    | none => rw [hs] at h; cases h
    | some r =>
      rw [hs] at h
      obtain ⟨o, s⟩ := r
      cases o <;> (cases h; rfl)
  · rw [hc] at h; cases h; rfl
abbrev k55 : Contract := .fn [aS] Bool (fun z => szsOf z.1) rB
theorem sd55 : Sound C0 55 k55 :=
  Sound.fn a7 mixed Try.func55 (by kernel_rfl) (by kernel_rfl) h55 1 hints55 (fun z x h => r55 z.1 x h)

def T8 : List (FuncId × Contract) := (55, k55) :: T7
theorem a8 : AllSound C0 T8 := AllSound.cons sd55 a7

/-! l25Ok -/
def kdFrom (b : List Int) : Nat → Int → Option Bool
  | 0, _ => none
  | n + 1, i => cond (decide (i < b.length)) ((idx b i).bind fun x => cond (!within x 2 3) (some false) (kdFrom b n (IntKind.i64.wrap (i + 1)))) (some true)
def lh33 : LoopHint := ⟨[0, 3], [42], [2], []⟩
def S33 (x : Live) (k : Ex → Live → Option Rv) : Option Rv :=
  match x with
  | ([.one ⟨false, [.ptr 42 0]⟩, .one ⟨false, [.v (.int .i64 i)]⟩], [some (true, [.sl (.int .i64) _, .sl (.int .i64) b])], []) => (kdFrom b (b.length + 1) i).bind (kk16 k)
  | _ => none
def h33 : Hints Rv := ⟨fun _ => lh33, fun k => match k with | 5 => some S33 | _ => none⟩
noncomputable def b33 : St → (Ex → St → Option Rv) → Option Rv := den (tab C0 T8) ⟨42, 43⟩ h33 1 (loopOf Try.f33 4)
abbrev st33 (a b : List Int) (i : Int) : Live := ([.one ⟨false, [.ptr 42 0]⟩, iI i], [some (true, [.sl I64 a, .sl I64 b])], [])
theorem step33 (n : Nat) (a b : List Int) (i : Int) (k : Ex → Live → Option Rv) :
    loopN ⟨42, 43⟩ lh33 b33 (n + 1) (st33 a b i) k = cond (decide (i < b.length)) ((idx b i).bind fun x => cond (!within x 2 3) (kk16 k false) (loopN ⟨42, 43⟩ lh33 b33 n (st33 a b (IntKind.i64.wrap (i + 1))) k)) (kk16 k true) := by kernel_rfl
theorem loop33 (a b : List Int) (k : Ex → Live → Option Rv) : ∀ n i, loopN ⟨42, 43⟩ lh33 b33 n (st33 a b i) k = (kdFrom b n i).bind (kk16 k) := by
  intro n
  induction n with
  | zero => intro i; rfl
  | succ n ih =>
    intro i
    rw [step33, kdFrom]
    cases decide (i < b.length)
    · rfl
    · simp only [cond_true]
      cases idx b i with
      | none => rfl
      | some x =>
        simp only [Option.bind_some]
        cases !within x 2 3
        · exact ih _
        · rfl
theorem hints33 : HintsOk (tab C0 T8) ⟨42, 43⟩ h33 1 (loops (codeOf Try.f33)) := by
  have hl : loops (codeOf Try.f33) = [loopOf Try.f33 4] := by kernel_rfl
  rw [hl]
  refine HintsOk.cons (n := 5) (lh := lh33) (S := S33) (by kernel_rfl) rfl rfl ?_ HintsOk.nil
  intro x k r hr
  unfold S33 at hr
  split at hr
  · exact ⟨_, (loop33 _ _ k _ _).trans hr⟩
  · cases hr
def okOf (a b : List Int) : Option Bool := (szsOf a).bind fun ok => cond (!ok) (some false) (cond ((b.length : Int) != IntKind.i64.wrap (a.length - 1)) (some false) (kdFrom b (b.length + 1) 0))
theorem r33e (a b : List Int) : runF (tab C0 T8) h33 1 Try.f33 [] [[.sl I64 a, .sl I64 b]] [⟨false, [.ptr 0 0]⟩] K2 =
    (szsOf a).bind fun ok => cond (!ok) (some (rB false, [])) (cond ((b.length : Int) != IntKind.i64.wrap (a.length - 1)) (some (rB false, [])) ((kdFrom b (b.length + 1) 0).bind fun r => match r with | true => some (rB true, []) | false => some (rB false, []))) := by kernel_rfl
theorem r33 (a b : List Int) (x : Bool) (h : okOf a b = some x) : runF (tab C0 T8) h33 1 Try.f33 [] [[.sl I64 a, .sl I64 b]] [⟨false, [.ptr 0 0]⟩] K2 = some (rB x, []) := by
  rw [r33e]
  unfold okOf at h
  cases h1 : szsOf a with
  | none => rw [h1] at h; cases h
  | some ok =>
    rw [h1] at h
    cases ok
    · cases h; rfl
    · simp only [Option.bind_some, Bool.not_true, cond_false] at h ⊢
      cases h2 : ((b.length : Int) != IntKind.i64.wrap (a.length - 1))
      · rw [h2] at h
        simp only [cond_false] at h ⊢
        rw [h]; cases x <;> rfl
      · rw [h2] at h; cases h; rfl
abbrev k33 : Contract := .fn [.ptr tS2] Bool (fun z => okOf z.1.1 z.1.2) rB
theorem sd33 : Sound C0 33 k33 :=
  Sound.fn a8 mixed Try.func33 (by kernel_rfl) (by kernel_rfl) h33 1 hints33 (fun z x h => r33 z.1.1 z.1.2 x h)

def T9 : List (FuncId × Contract) := (33, k33) :: T8
theorem a9 : AllSound C0 T9 := AllSound.cons sd33 a8

/-! ValidStrip, twice -/
theorem r9 (a b : List Int) : runF (tab C0 T9) noHints 1 Try.f9 [] [] [vP a b] K2 = (okOf a b).bind fun x => some (rB x, []) := by kernel_rfl
abbrev k9 : Contract := .fn [aP] Bool (fun z => okOf z.1.1 z.1.2) rB
theorem sd9 : Sound C0 9 k9 :=
  Sound.fn a9 mixed Try.func9 (by kernel_rfl) (by kernel_rfl) noHints 1 noHints_ok (fun z x h => by
    have h : okOf z.1.1 z.1.2 = some x := h
    exact (r9 z.1.1 z.1.2).trans (by rw [h]; rfl))

def vsOf (a b : List Int) : Option Bool := (areLen a).bind fun ok => cond ok (cond ((b.length : Int) == IntKind.i64.wrap (a.length - 1)) ((hasOf (fun k => !within k 2 3) b).bind fun h => some (!h)) (some false)) (some false)
theorem r11e (a b : List Int) : runF (tab C0 T9) noHints 1 Try.f11 [] [] [vP a b] K2 =
    (areLen a).bind fun ok => cond ok (cond ((b.length : Int) == IntKind.i64.wrap (a.length - 1)) ((hasOf (fun k => !within k 2 3) b).bind fun h => some (rB (!h), [])) (some (rB false, []))) (some (rB false, [])) := by kernel_rfl
theorem r11 (a b : List Int) (x : Bool) (h : vsOf a b = some x) : runF (tab C0 T9) noHints 1 Try.f11 [] [] [vP a b] K2 = some (rB x, []) := by
  rw [r11e]
  unfold vsOf at h
  cases h1 : areLen a with
  | none => rw [h1] at h; cases h
  | some ok =>
    rw [h1] at h
    cases ok
    · cases h; rfl
    · simp only [Option.bind_some, cond_true] at h ⊢
      cases h2 : ((b.length : Int) == IntKind.i64.wrap (a.length - 1))
      · rw [h2] at h; cases h; rfl
      · rw [h2] at h
        simp only [cond_true] at h ⊢
        cases h3 : hasOf (fun k => !within k 2 3) b with
        | none => rw [h3] at h; cases h
        | some y => rw [h3] at h; cases h; rfl
abbrev k11 : Contract := .fn [aP] Bool (fun z => vsOf z.1.1 z.1.2) rB
theorem sd11 : Sound C0 11 k11 :=
  Sound.fn a9 mixed Try.func11 (by kernel_rfl) (by kernel_rfl) noHints 1 noHints_ok (fun z x h => r11 z.1.1 z.1.2 x h)

def T10 : List (FuncId × Contract) := (9, k9) :: (11, k11) :: T9
theorem a10 : AllSound C0 T10 := AllSound.cons sd9 (AllSound.cons sd11 a9)

/-! the law -/
def str (a b : List Int) : Option (List Int × List Int) := (cpOf a).bind fun x => (cpOf b).bind fun y => some (x, y)
theorem r3e (a b : List Int) : runF (tab C0 T10) noHints 1 Try.f3 [] [] [vP a b] K2 =
    cond (decide (sz2 a b 1048576 < 0)) (some (rB true, [])) ((str a b).bind fun x => (okOf x.1 x.2).bind fun u => (str a b).bind fun y => (vsOf y.1 y.2).bind fun v => cond (!(v == u)) (some (rB false, []))
      ((str a b).bind fun z => (eq2 y z).bind fun e => cond (!e) (some (rB false, [])) (some (rB true, [])))) := by kernel_rfl

end Go.Proofs.Ytnpejkbnepncfaa
