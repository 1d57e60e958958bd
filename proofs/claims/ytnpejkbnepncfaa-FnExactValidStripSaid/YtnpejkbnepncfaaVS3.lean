/- Contracts of the functions that the law on ValidStrip reaches: lengths and sums. No conditions. -/
import Derived.Test.YtnpejkbnepncfaaVS2
namespace Go.Proofs.Ytnpejkbnepncfaa
open Go.Vai
set_option maxRecDepth 100000

def T3 : List (FuncId × Contract) := (60, k60) :: T2
theorem a3 : AllSound C0 T3 := AllSound.cons sd60 a2

/-! slices.ContainsFunc -/
def hasOf (p : Int → Bool) (l : List Int) : Option Bool := (idxOf p l).map fun n => decide (n ≥ 0)

theorem r35 {f : FuncId} (l : List Int) {x : Bool} (h : ((clos f).bind fun p => hasOf p l) = some x) : runF (tab C0 T3) noHints 1 Try.f35 [] [] [vS l, ⟨false, [.fn f []]⟩] K2 = some (rB x, []) := by
  have e : runF (tab C0 T3) noHints 1 Try.f35 [] [] [vS l, ⟨false, [.fn f []]⟩] K2 = ((clos f).bind fun p => idxOf p l).bind fun n => some (rB (decide (n ≥ 0)), []) := by kernel_rfl
  rw [e]
  cases hf : clos f with
  | none => rw [hf] at h; cases h
  | some p =>
    rw [hf] at h
    simp only [Option.bind_some, hasOf] at h ⊢
    cases hi : idxOf p l with
    | none => rw [hi] at h; cases h
    | some n => rw [hi] at h; cases h; rfl
abbrev k35 : Contract := .fn [aS, .fn] Bool (fun z => (clos z.2.1).bind fun p => hasOf p z.1) rB
theorem sd35 : Sound C0 35 k35 :=
  Sound.fn a3 mixed Try.func35 (by kernel_rfl) (by kernel_rfl) noHints 1 noHints_ok (fun z x h => r35 z.1 h)

/-! length, sumOf -/
theorem r57 (l : List Int) : runF (tab C0 T3) noHints 1 Try.f57 [] [] [vS l] K2 = some (rI l.length, []) := by kernel_rfl
abbrev k57 : Contract := .fn [aS] Int (fun z => some (z.1 : List Int).length) rI
theorem sd57 : Sound C0 57 k57 :=
  Sound.fn a3 mixed Try.func57 (by kernel_rfl) (by kernel_rfl) noHints 1 noHints_ok (fun z x h => by cases h; exact r57 z.1)

abbrev iI (n : Int) : AV := .one (vI n)
abbrev iS (l : List Int) : AV := .one (vS l)

def sumFrom (l : List Int) (m : Int) : Nat → Int → Int → Option Int
  | 0, _, _ => none
  | n + 1, i, s => cond (decide (i < m)) ((idx l i).bind fun x => sumFrom l m n (IntKind.i64.wrap (i + 1)) (IntKind.i64.wrap (s + x))) (some s)

def lh59 : LoopHint := ⟨[3, 6, 7, 8], [], [3], []⟩
def kk59 (k : Ex → Live → Option Rv) (s : Int) : Option Rv := k (.exit 0) ([iI s], [], [])
def S59 (x : Live) (k : Ex → Live → Option Rv) : Option Rv :=
  match x with
  | ([.one ⟨false, [.v (.int .i64 s)]⟩, .one ⟨false, [.sl (.int .i64) l]⟩, .one ⟨false, [.v (.int .i64 m)]⟩, .one ⟨false, [.v (.int .i64 i)]⟩], [], []) => (sumFrom l m (l.length + 1) i s).bind (kk59 k)
  | _ => none
def h59 : Hints Rv := ⟨fun _ => lh59, fun k => match k with | 4 => some S59 | _ => none⟩
noncomputable def b59 : St → (Ex → St → Option Rv) → Option Rv := den (tab C0 T3) ⟨17, 17⟩ h59 1 (loopOf Try.f59 3)
theorem step59 (n : Nat) (l : List Int) (m i s : Int) (k : Ex → Live → Option Rv) :
    loopN ⟨17, 17⟩ lh59 b59 (n + 1) ([iI s, iS l, iI m, iI i], [], []) k = cond (decide (i < m)) ((idx l i).bind fun x => loopN ⟨17, 17⟩ lh59 b59 n ([iI (IntKind.i64.wrap (s + x)), iS l, iI m, iI (IntKind.i64.wrap (i + 1))], [], []) k) (kk59 k s) := by kernel_rfl
theorem loop59 (l : List Int) (m : Int) (k : Ex → Live → Option Rv) : ∀ n i s, loopN ⟨17, 17⟩ lh59 b59 n ([iI s, iS l, iI m, iI i], [], []) k = (sumFrom l m n i s).bind (kk59 k) := by
  intro n
  induction n with
  | zero => intro i s; rfl
  | succ n ih =>
    intro i s
    rw [step59, sumFrom]
    cases decide (i < m)
    · rfl
    · simp only [cond_true]
      cases idx l i with
      | none => rfl
      | some x => exact ih _ _
theorem hints59 : HintsOk (tab C0 T3) ⟨17, 17⟩ h59 1 (loops (codeOf Try.f59)) := by
  have hl : loops (codeOf Try.f59) = [loopOf Try.f59 3] := by kernel_rfl
  rw [hl]
  refine HintsOk.cons (n := 4) (lh := lh59) (S := S59) (by kernel_rfl) rfl rfl ?_ HintsOk.nil
  intro x k r hr
  unfold S59 at hr
  split at hr
  · exact ⟨_, (loop59 _ _ k _ _ _).trans hr⟩
  · cases hr
theorem r59 (l : List Int) (x : Int) (h : sumFrom l l.length (l.length + 1) 0 0 = some x) : runF (tab C0 T3) h59 1 Try.f59 [] [] [vS l] K2 = some (rI x, []) := by
  have e : runF (tab C0 T3) h59 1 Try.f59 [] [] [vS l] K2 = (sumFrom l l.length (l.length + 1) 0 0).bind fun s => some (rI s, []) := by kernel_rfl
  rw [e, h]; rfl
abbrev k59 : Contract := .fn [aS] Int (fun z => sumFrom z.1 (z.1 : List Int).length ((z.1 : List Int).length + 1) 0 0) rI
theorem sd59 : Sound C0 59 k59 :=
  Sound.fn a3 mixed Try.func59 (by kernel_rfl) (by kernel_rfl) h59 1 hints59 (fun z x h => r59 z.1 x h)

def T4 : List (FuncId × Contract) := (35, k35) :: (57, k57) :: (59, k59) :: T3
theorem a4 : AllSound C0 T4 := AllSound.cons sd35 (AllSound.cons sd57 (AllSound.cons sd59 a3))

/-! areLengths -/
def areLen (l : List Int) : Option Bool :=
  cond (within l.length 1 14) ((hasOf (fun k => !within k 1 1000) l).bind fun b => cond (!b) ((sumFrom l l.length (l.length + 1) 0 0).bind fun s => some (decide (s ≤ 1000))) (some false)) (some false)

theorem r34 (l : List Int) (x : Bool) (h : areLen l = some x) : runF (tab C0 T4) noHints 1 Try.f34 [] [] [vS l] K2 = some (rB x, []) := by
  have e : runF (tab C0 T4) noHints 1 Try.f34 [] [] [vS l] K2 =
      cond (within l.length 1 14) ((hasOf (fun k => !within k 1 1000) l).bind fun b => cond (!b) ((sumFrom l l.length (l.length + 1) 0 0).bind fun s => some (rB (decide (s ≤ 1000)), [])) (some (rB false, []))) (some (rB false, [])) := by kernel_rfl
  rw [e]
  unfold areLen at h
  cases hw : within l.length 1 14
  · rw [hw] at h; cases h; rfl
  · rw [hw] at h
    simp only [cond_true] at h ⊢
    cases hh : hasOf (fun k => !within k 1 1000) l with
    | none => rw [hh] at h; cases h
    | some b =>
      rw [hh] at h
      cases b
      · simp only [Option.bind_some, Bool.not_false, cond_true] at h ⊢
        cases hs : sumFrom l l.length (l.length + 1) 0 0 with
        | none => rw [hs] at h; cases h
        | some s => rw [hs] at h; cases h; rfl
      · cases h; rfl
abbrev k34 : Contract := .fn [aS] Bool (fun z => areLen z.1) rB
theorem sd34 : Sound C0 34 k34 :=
  Sound.fn a4 mixed Try.func34 (by kernel_rfl) (by kernel_rfl) noHints 1 noHints_ok (fun z x h => r34 z.1 x h)

/-! szInt64S -/
theorem r32 (l : List Int) (n : Int) : runF (tab C0 T4) noHints 1 Try.f32 [] [] [vS l, vI n] K2 =
    some (rI (cond (decide (IntKind.i64.wrap (n - l.length) < 0)) (-1) (IntKind.i64.wrap (n - l.length))), []) := by
  have e : runF (tab C0 T4) noHints 1 Try.f32 [] [] [vS l, vI n] K2 =
    cond (decide (IntKind.i64.wrap (n - l.length) < 0)) (some (rI (-1), [])) (some (rI (IntKind.i64.wrap (n - l.length)), [])) := by kernel_rfl
  rw [e]
  cases decide (IntKind.i64.wrap (n - l.length) < 0) <;> rfl
def sz32 (l : List Int) (n : Int) : Int := cond (decide (IntKind.i64.wrap (n - l.length) < 0)) (-1) (IntKind.i64.wrap (n - l.length))
abbrev k32 : Contract := .fn [aS, aI] Int (fun z => some (sz32 z.1 z.2.1)) rI
theorem sd32 : Sound C0 32 k32 :=
  Sound.fn a4 mixed Try.func32 (by kernel_rfl) (by kernel_rfl) noHints 1 noHints_ok (fun z x h => by cases h; exact r32 z.1 z.2.1)

end Go.Proofs.Ytnpejkbnepncfaa
