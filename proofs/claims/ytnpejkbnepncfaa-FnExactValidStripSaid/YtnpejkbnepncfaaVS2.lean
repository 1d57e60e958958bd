/- Contracts of the functions that the law on ValidStrip reaches: closures and searching. No conditions. -/
import Derived.Test.YtnpejkbnepncfaaVS1
namespace Go.Proofs.Ytnpejkbnepncfaa
open Go.Vai
set_option maxRecDepth 100000

/-! closures -/
theorem r36 (a : Int) : runF (tab C0 T1) noHints 1 Try.f36 [] [] [vI a] K2 = some (rB (!within a 2 3), []) := by kernel_rfl
abbrev k36 : Contract := .fn [aI] Bool (fun z => some (!within z.1 2 3)) rB
theorem s36 : Sound C0 36 k36 :=
  Sound.fn a1 mixed Try.func36 (by kernel_rfl) (by kernel_rfl) noHints 1 noHints_ok (fun z x h => by cases h; exact r36 z.1)

theorem r58 (a : Int) : runF (tab C0 T1) noHints 1 Try.f58 [] [] [vI a] K2 = some (rB (!within a 1 1000), []) := by kernel_rfl
abbrev k58 : Contract := .fn [aI] Bool (fun z => some (!within z.1 1 1000)) rB
theorem s58 : Sound C0 58 k58 :=
  Sound.fn a1 mixed Try.func58 (by kernel_rfl) (by kernel_rfl) noHints 1 noHints_ok (fun z x h => by cases h; exact r58 z.1)

def T2 : List (FuncId × Contract) := (36, k36) :: (58, k58) :: T1
theorem a2 : AllSound C0 T2 := AllSound.cons s36 (AllSound.cons s58 a1)

/-! slices.IndexFunc -/
def clos : FuncId → Option (Int → Bool)
  | 36 => some fun k => !within k 2 3
  | 58 => some fun k => !within k 1 1000
  | _ => none

def findFrom (p : Int → Bool) (l : List Int) (m : Int) : Nat → Int → Option (Option Int)
  | 0, _ => none
  | n + 1, i => cond (decide (i < m)) ((idx l i).bind fun x => cond (p x) (some (some i)) (findFrom p l m n (IntKind.i64.wrap (i + 1)))) (some none)

abbrev Rv := AV × List CV
def lh60 : LoopHint := ⟨[0, 1, 7, 8], [], [4], []⟩
def kk60 (k : Ex → Live → Option Rv) : Option Int → Option Rv
  | some j => k .ret ([rI j], [], [])
  | none => k (.exit 0) ([.undef], [], [])
def S60 (x : Live) (k : Ex → Live → Option Rv) : Option Rv :=
  match x with
  | ([.one ⟨false, [.sl (.int .i64) l]⟩, .one ⟨false, [.fn f []]⟩, .one ⟨false, [.v (.int .i64 m)]⟩, .one ⟨false, [.v (.int .i64 i)]⟩], [], []) => (clos f).bind fun p => (findFrom p l m (l.length + 1) i).bind (kk60 k)
  | _ => none
def h60 : Hints Rv := ⟨fun _ => lh60, fun k => match k with | 3 => some S60 | _ => none⟩
noncomputable def b60 : St → (Ex → St → Option (AV × List CV)) → Option (AV × List CV) := den (tab C0 T2) ⟨19, 19⟩ h60 1 (loopOf Try.f60 2)
abbrev s60 (f : FuncId) (l : List Int) (m i : Int) : Live := ([.one (vS l), .one ⟨false, [.fn f []]⟩, .one (vI m), .one (vI i)], [], [])
theorem step60a (n : Nat) (l : List Int) (m i : Int) (k : Ex → Live → Option (AV × List CV)) :
    loopN ⟨19, 19⟩ lh60 b60 (n + 1) (s60 36 l m i) k = cond (decide (i < m)) ((idx l i).bind fun x => cond (!within x 2 3) (kk60 k (some i)) (loopN ⟨19, 19⟩ lh60 b60 n (s60 36 l m (IntKind.i64.wrap (i + 1))) k)) (kk60 k none) := by kernel_rfl
theorem step60b (n : Nat) (l : List Int) (m i : Int) (k : Ex → Live → Option (AV × List CV)) :
    loopN ⟨19, 19⟩ lh60 b60 (n + 1) (s60 58 l m i) k = cond (decide (i < m)) ((idx l i).bind fun x => cond (!within x 1 1000) (kk60 k (some i)) (loopN ⟨19, 19⟩ lh60 b60 n (s60 58 l m (IntKind.i64.wrap (i + 1))) k)) (kk60 k none) := by kernel_rfl

theorem loop60 {f : FuncId} {p : Int → Bool} (hf : clos f = some p) (l : List Int) (m : Int) (k : Ex → Live → Option Rv) : ∀ n i, loopN ⟨19, 19⟩ lh60 b60 n (s60 f l m i) k = (findFrom p l m n i).bind (kk60 k) := by
  have step : ∀ n i, loopN ⟨19, 19⟩ lh60 b60 (n + 1) (s60 f l m i) k = cond (decide (i < m)) ((idx l i).bind fun x => cond (p x) (kk60 k (some i)) (loopN ⟨19, 19⟩ lh60 b60 n (s60 f l m (IntKind.i64.wrap (i + 1))) k)) (kk60 k none) := by
    intro n i
    unfold clos at hf
    split at hf
    · cases hf; exact step60a n l m i k
    · cases hf; exact step60b n l m i k
    · cases hf
  intro n
  induction n with
  | zero => intro i; rfl
  | succ n ih =>
    intro i
    rw [step, findFrom]
    cases decide (i < m)
    · rfl
    · simp only [cond_true]
      cases idx l i with
      | none => rfl
      | some x =>
        simp only [Option.bind_some]
        cases p x
        · exact ih _
        · rfl

theorem hints60 : HintsOk (tab C0 T2) ⟨19, 19⟩ h60 1 (loops (codeOf Try.f60)) := by
  have hl : loops (codeOf Try.f60) = [loopOf Try.f60 2] := by kernel_rfl
  rw [hl]
  refine HintsOk.cons (n := 3) (lh := lh60) (S := S60) (by kernel_rfl) rfl rfl ?_ HintsOk.nil
  intro x k r hr
  unfold S60 at hr
  split at hr
  · rename_i l f m' i
    cases hf : clos f with
    | none => rw [hf] at hr; cases hr
    | some p =>
      rw [hf] at hr
      exact ⟨_, (loop60 hf l m' k _ i).trans hr⟩
  · cases hr

/-- What slices.IndexFunc gives; its loop's bound is the slice's length. -/
def idxOf (p : Int → Bool) (l : List Int) : Option Int := (findFrom p l l.length (l.length + 1) 0).map fun r => r.getD (-1)

theorem r60 {f : FuncId} {p : Int → Bool} (hf : clos f = some p) (l : List Int) (x : Int) (h : idxOf p l = some x) : runF (tab C0 T2) h60 1 Try.f60 [] [] [vS l, ⟨false, [.fn f []]⟩] K2 = some (rI x, []) := by
  have e : runF (tab C0 T2) h60 1 Try.f60 [] [] [vS l, ⟨false, [.fn f []]⟩] K2 = (clos f).bind fun p => (findFrom p l l.length (l.length + 1) 0).bind fun r => match r with | some j => some (rI j, []) | none => some (rI (-1), []) := by kernel_rfl
  rw [e, hf]
  unfold idxOf at h
  cases hff : findFrom p l l.length (l.length + 1) 0 with
  | none => rw [hff] at h; cases h
  | some r =>
    rw [hff] at h
    cases h
    simp only [Option.bind_some, hff]
    cases r <;> rfl

abbrev k60 : Contract := .fn [aS, .fn] Int (fun z => (clos z.2.1).bind fun p => idxOf p z.1) rI
theorem sd60 : Sound C0 60 k60 :=
  Sound.fn a2 mixed Try.func60 (by kernel_rfl) (by kernel_rfl) h60 1 hints60 (fun z x h => by
    have h : (clos z.2.1).bind (fun p => idxOf p z.1) = some x := h
    rw [Option.bind_eq_some_iff] at h
    obtain ⟨p, hp, hx⟩ := h
    exact r60 hp z.1 x hx)

end Go.Proofs.Ytnpejkbnepncfaa
