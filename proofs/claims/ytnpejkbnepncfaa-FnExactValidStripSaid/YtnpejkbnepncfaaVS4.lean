/- Contracts of the functions that the law on ValidStrip reaches: copies and comparison. No conditions. -/
import Derived.Test.YtnpejkbnepncfaaVS3
namespace Go.Proofs.Ytnpejkbnepncfaa
open Go.Vai
set_option maxRecDepth 100000

def T5 : List (FuncId × Contract) := (34, k34) :: (32, k32) :: T4
theorem a5 : AllSound C0 T5 := AllSound.cons sd34 (AllSound.cons sd32 a4)

/-! toInt64S -/
abbrev oS (l : List Int) : AV := .one ⟨false, [.own I64 l]⟩
def cpFrom (l : List Int) : Nat → Int → List Int → Option (List Int)
  | 0, _, _ => none
  | n + 1, i, o => cond (decide (i < l.length)) ((idx l i).bind fun y => (idx o i).bind fun _ => cpFrom l n (IntKind.i64.wrap (i + 1)) (o.set (0 + i.toNat) y)) (some o)
def lh14 : LoopHint := ⟨[0, 3, 4], [], [3], []⟩
def kk14 (k : Ex → Live → Option Rv) (o : List Int) : Option Rv := k (.exit 0) ([oS o], [], [])
def S14 (x : Live) (k : Ex → Live → Option Rv) : Option Rv :=
  match x with
  | ([.one ⟨false, [.sl (.int .i64) l]⟩, .one ⟨false, [.own (.int .i64) o]⟩, .one ⟨false, [.v (.int .i64 i)]⟩], [], []) => (cpFrom l (l.length + 1) i o).bind (kk14 k)
  | _ => none
def h14 : Hints Rv := ⟨fun _ => lh14, fun k => match k with | 4 => some S14 | _ => none⟩
noncomputable def b14 : St → (Ex → St → Option Rv) → Option Rv := den (tab C0 T5) ⟨22, 22⟩ h14 1 (loopOf Try.f14 3)
theorem step14 (n : Nat) (l : List Int) (i : Int) (o : List Int) (k : Ex → Live → Option Rv) :
    loopN ⟨22, 22⟩ lh14 b14 (n + 1) ([iS l, oS o, iI i], [], []) k = cond (decide (i < l.length)) ((idx l i).bind fun y => (idx o i).bind fun _ => loopN ⟨22, 22⟩ lh14 b14 n ([iS l, oS (o.set (0 + i.toNat) y), iI (IntKind.i64.wrap (i + 1))], [], []) k) (kk14 k o) := by kernel_rfl
theorem loop14 (l : List Int) (k : Ex → Live → Option Rv) : ∀ n i o, loopN ⟨22, 22⟩ lh14 b14 n ([iS l, oS o, iI i], [], []) k = (cpFrom l n i o).bind (kk14 k) := by
  intro n
  induction n with
  | zero => intro i o; rfl
  | succ n ih =>
    intro i o
    rw [step14, cpFrom]
    cases decide (i < l.length)
    · rfl
    · simp only [cond_true]
      cases idx l i with
      | none => rfl
      | some x =>
        simp only [Option.bind_some]
        cases idx o i with
        | none => rfl
        | some y => exact ih _ _
theorem hints14 : HintsOk (tab C0 T5) ⟨22, 22⟩ h14 1 (loops (codeOf Try.f14)) := by
  have hl : loops (codeOf Try.f14) = [loopOf Try.f14 3] := by kernel_rfl
  rw [hl]
  refine HintsOk.cons (n := 4) (lh := lh14) (S := S14) (by kernel_rfl) rfl rfl ?_ HintsOk.nil
  intro x k r hr
  unfold S14 at hr
  split at hr
  · exact ⟨_, (loop14 _ k _ _ _).trans hr⟩
  · cases hr
def cpOf (l : List Int) : Option (List Int) :=
  cond (decide (0 ≤ (l.length : Int))) (cond (decide ((l.length : Int) ≤ l.length)) (cond (decide ((l.length : Int) * ((8 : Nat) : Int) ≤ 70368744177664)) (cond (decide ((l.length : Int) ≤ 70368744177664))
    (cpFrom l (l.length + 1) 0 (List.replicate (l.length : Int).toNat 0)) none) none) none) none
theorem r14e (l : List Int) : runF (tab C0 T5) h14 1 Try.f14 [] [] [vS l] K2 =
    cond (decide (0 ≤ (l.length : Int))) (cond (decide ((l.length : Int) ≤ l.length)) (cond (decide ((l.length : Int) * ((8 : Nat) : Int) ≤ 70368744177664)) (cond (decide ((l.length : Int) ≤ 70368744177664))
    ((cpFrom l (l.length + 1) 0 (List.replicate (l.length : Int).toNat 0)).bind fun o => some (oS o, [])) none) none) none) none := by kernel_rfl
theorem r14 (l : List Int) (x : List Int) (h : cpOf l = some x) : runF (tab C0 T5) h14 1 Try.f14 [] [] [vS l] K2 = some (oS x, []) := by
  rw [r14e]
  unfold cpOf at h
  revert h
  cases decide (0 ≤ (l.length : Int)) <;> cases decide ((l.length : Int) ≤ l.length) <;> cases decide ((l.length : Int) * ((8 : Nat) : Int) ≤ 70368744177664) <;> cases decide ((l.length : Int) ≤ 70368744177664) <;> intro h <;> first
    | cases h
    | (simp only [cond_true] at h ⊢; rw [h]; rfl)
abbrev k14 : Contract := .fn [aS] (List Int) (fun z => cpOf z.1) oS
theorem sd14 : Sound C0 14 k14 :=
  Sound.fn a5 mixed Try.func14 (by kernel_rfl) (by kernel_rfl) h14 1 hints14 (fun z x h => r14 z.1 x h)

/-! eqInt64S -/
def eqFrom (a b : List Int) : Nat → Int → Option Bool
  | 0, _ => none
  | n + 1, i => cond (decide (i < a.length)) ((idx a i).bind fun x => (idx b i).bind fun y => cond (x != y) (some false) (eqFrom a b n (IntKind.i64.wrap (i + 1)))) (some true)
def lh16 : LoopHint := ⟨[0, 1, 5], [], [4], []⟩
def kk16 (k : Ex → Live → Option Rv) : Bool → Option Rv
  | true => k (.exit 0) ([.undef], [], [])
  | false => k .ret ([rB false], [], [])
def S16 (x : Live) (k : Ex → Live → Option Rv) : Option Rv :=
  match x with
  | ([.one ⟨false, [.sl (.int .i64) a]⟩, .one ⟨false, [.sl (.int .i64) b]⟩, .one ⟨false, [.v (.int .i64 i)]⟩], [], []) => (eqFrom a b (a.length + 1) i).bind (kk16 k)
  | _ => none
def h16 : Hints Rv := ⟨fun _ => lh16, fun k => match k with | 5 => some S16 | _ => none⟩
noncomputable def b16 : St → (Ex → St → Option Rv) → Option Rv := den (tab C0 T5) ⟨26, 26⟩ h16 1 (loopOf Try.f16 4)
theorem step16 (n : Nat) (a b : List Int) (i : Int) (k : Ex → Live → Option Rv) :
    loopN ⟨26, 26⟩ lh16 b16 (n + 1) ([iS a, iS b, iI i], [], []) k = cond (decide (i < a.length)) ((idx a i).bind fun x => (idx b i).bind fun y => cond (x != y) (kk16 k false) (loopN ⟨26, 26⟩ lh16 b16 n ([iS a, iS b, iI (IntKind.i64.wrap (i + 1))], [], []) k)) (kk16 k true) := by kernel_rfl
theorem loop16 (a b : List Int) (k : Ex → Live → Option Rv) : ∀ n i, loopN ⟨26, 26⟩ lh16 b16 n ([iS a, iS b, iI i], [], []) k = (eqFrom a b n i).bind (kk16 k) := by
  intro n
  induction n with
  | zero => intro i; rfl
  | succ n ih =>
    intro i
    rw [step16, eqFrom]
    cases decide (i < a.length)
    · rfl
    · simp only [cond_true]
      cases idx a i with
      | none => rfl
      | some x =>
        simp only [Option.bind_some]
        cases idx b i with
        | none => rfl
        | some y =>
          simp only [Option.bind_some]
          cases x != y
          · exact ih _
          · rfl
theorem hints16 : HintsOk (tab C0 T5) ⟨26, 26⟩ h16 1 (loops (codeOf Try.f16)) := by
  have hl : loops (codeOf Try.f16) = [loopOf Try.f16 4] := by kernel_rfl
  rw [hl]
  refine HintsOk.cons (n := 5) (lh := lh16) (S := S16) (by kernel_rfl) rfl rfl ?_ HintsOk.nil
  intro x k r hr
  unfold S16 at hr
  split at hr
  · exact ⟨_, (loop16 _ _ k _ _).trans hr⟩
  · cases hr
def eqOf (a b : List Int) : Option Bool := cond ((a.length : Int) != b.length) (some false) (eqFrom a b (a.length + 1) 0)
theorem r16e (a b : List Int) : runF (tab C0 T5) h16 1 Try.f16 [] [] [vS a, vS b] K2 = cond ((a.length : Int) != b.length) (some (rB false, [])) ((eqFrom a b (a.length + 1) 0).bind fun r => match r with | true => some (rB true, []) | false => some (rB false, [])) := by kernel_rfl
theorem r16 (a b : List Int) (x : Bool) (h : eqOf a b = some x) : runF (tab C0 T5) h16 1 Try.f16 [] [] [vS a, vS b] K2 = some (rB x, []) := by
  rw [r16e]
  unfold eqOf at h
  cases hc : ((a.length : Int) != b.length)
  · rw [hc] at h
    simp only [cond_false] at h ⊢
    rw [h]; cases x <;> rfl
  · rw [hc] at h; cases h; rfl
abbrev k16 : Contract := .fn [aS, aS] Bool (fun z => eqOf z.1 z.2.1) rB
theorem sd16 : Sound C0 16 k16 :=
  Sound.fn a5 mixed Try.func16 (by kernel_rfl) (by kernel_rfl) h16 1 hints16 (fun z x h => r16 z.1 z.2.1 x h)

def T6 : List (FuncId × Contract) := (14, k14) :: (16, k16) :: T5
theorem a6 : AllSound C0 T6 := AllSound.cons sd14 (AllSound.cons sd16 a5)

/-! toStrip, eqStrip, szStrip -/
abbrev tS2 : Ty := .pair (.slice I64) (.slice I64)
abbrev aP : AT := .val true tS2
abbrev vP (a b : List Int) : Val := ⟨true, [.sl I64 a, .sl I64 b]⟩
abbrev oP (x : List Int × List Int) : AV := .one ⟨true, [.own I64 x.1, .own I64 x.2]⟩
theorem r10 (a b : List Int) : runF (tab C0 T6) noHints 1 Try.f10 [] [] [vP a b] K2 = (cpOf a).bind fun x => (cpOf b).bind fun y => some (oP (x, y), []) := by kernel_rfl
abbrev k10 : Contract := .fn [aP] (List Int × List Int) (fun z => (cpOf z.1.1).bind fun x => (cpOf z.1.2).bind fun y => some (x, y)) oP
theorem sd10 : Sound C0 10 k10 :=
  Sound.fn a6 mixed Try.func10 (by kernel_rfl) (by kernel_rfl) noHints 1 noHints_ok (fun z x h => by
    have h : ((cpOf z.1.1).bind fun x => (cpOf z.1.2).bind fun y => some (x, y)) = some x := h
    refine (r10 z.1.1 z.1.2).trans ?_
    simp only [Option.bind_eq_some_iff] at h ⊢
    obtain ⟨u, hu, v, hv, he⟩ := h
    cases he
    exact ⟨u, hu, v, hv, rfl⟩)

theorem r12 (a b c d : List Int) : runF (tab C0 T6) noHints 1 Try.f12 [] [] [vP a b, vP c d] K2 =
    (eqOf a c).bind fun x => cond (!x) (some (rB false, [])) ((eqOf b d).bind fun y => cond (!y) (some (rB false, [])) (some (rB true, []))) := by kernel_rfl
def eq2 (x y : List Int × List Int) : Option Bool := (eqOf x.1 y.1).bind fun a => cond (!a) (some false) ((eqOf x.2 y.2).bind fun b => cond (!b) (some false) (some true))
abbrev k12 : Contract := .fn [aP, aP] Bool (fun z => eq2 z.1 z.2.1) rB
theorem sd12 : Sound C0 12 k12 :=
  Sound.fn a6 mixed Try.func12 (by kernel_rfl) (by kernel_rfl) noHints 1 noHints_ok (fun z x h => by
    have h : eq2 z.1 z.2.1 = some x := h
    refine (r12 z.1.1 z.1.2 z.2.1.1 z.2.1.2).trans ?_
    unfold eq2 at h
    cases h1 : eqOf z.1.1 z.2.1.1 with
    | none => rw [h1] at h; cases h
    | some p =>
      rw [h1] at h
      cases p
      · cases h; rfl
      · simp only [Option.bind_some, Bool.not_true, cond_false] at h ⊢
        cases h2 : eqOf z.1.2 z.2.1.2 with
        | none => rw [h2] at h; cases h
        | some q => rw [h2] at h; cases q <;> cases h <;> rfl)

def sz2 (a b : List Int) (n : Int) : Int := cond (decide (sz32 a n < 0)) (-1) (cond (decide (sz32 b (sz32 a n) < 0)) (-1) (sz32 b (sz32 a n)))
theorem r8 (a b : List Int) (n : Int) : runF (tab C0 T6) noHints 1 Try.f8 [] [] [vP a b, vI n] K2 = some (rI (sz2 a b n), []) := by
  have e : runF (tab C0 T6) noHints 1 Try.f8 [] [] [vP a b, vI n] K2 = cond (decide (sz32 a n < 0)) (some (rI (-1), [])) (cond (decide (sz32 b (sz32 a n) < 0)) (some (rI (-1), [])) (some (rI (sz32 b (sz32 a n)), []))) := by kernel_rfl
  rw [e]
  unfold sz2
  cases decide (sz32 a n < 0) <;> cases decide (sz32 b (sz32 a n) < 0) <;> rfl
abbrev k8 : Contract := .fn [aP, aI] Int (fun z => some (sz2 z.1.1 z.1.2 z.2.1)) rI
theorem sd8 : Sound C0 8 k8 :=
  Sound.fn a6 mixed Try.func8 (by kernel_rfl) (by kernel_rfl) noHints 1 noHints_ok (fun z x h => by cases h; exact r8 z.1.1 z.1.2 z.2.1)

end Go.Proofs.Ytnpejkbnepncfaa
