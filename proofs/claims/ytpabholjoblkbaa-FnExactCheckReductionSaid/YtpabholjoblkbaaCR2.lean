/- What the functions that CheckReduction reaches compute, printed. No conditions. -/
import Derived.Test.YtpabholjoblkbaaW1P
namespace Go.Proofs.Ytpabholjoblkbaa
open Go.Vai
set_option maxRecDepth 100000

/-! ### F37 laws.szInt64S -/
noncomputable def T_laws_szInt64S : List (FuncId × Contract) := []
theorem a_laws_szInt64S : AllSound C0 T_laws_szInt64S := .nil
noncomputable def t_laws_szInt64S {R : Type} (kx : Int → Option R) (a0 : (List Int)) (a1 : Int) : Option R :=
  cond (decide ((IntKind.wrap IntKind.i64 (a1 - (((List.length a0) : Nat) : Int))) < (0 : Int)))
  (kx (-(1 : Int)))
  (kx (IntKind.wrap IntKind.i64 (a1 - (((List.length a0) : Nat) : Int))))
noncomputable def g_laws_szInt64S (a0 : (List Int)) (a1 : Int) : Option (Int) := t_laws_szInt64S some a0 a1
theorem nat_laws_szInt64S {R : Type} (kx : Int → Option R) (a0 : (List Int)) (a1 : Int) : t_laws_szInt64S kx a0 a1 = (g_laws_szInt64S a0 a1).bind kx := by
  unfold g_laws_szInt64S t_laws_szInt64S
  exact nat_cond (rfl) (rfl)
abbrev as_laws_szInt64S : List AX := [.val false (.slice (.int .i64)), .val false (.int .i64)]
abbrev en_laws_szInt64S : Int → AV × List CV := fun b => (.one ⟨false, [(.v (.int .i64 b))]⟩, [])
noncomputable abbrev k_laws_szInt64S : Contract := .fx as_laws_szInt64S (Int) (fun z => g_laws_szInt64S z.1 z.2.1) en_laws_szInt64S
theorem r_laws_szInt64S (z : argsX as_laws_szInt64S) : runF (tab C0 T_laws_szInt64S) noHints 1 Try.f37 (lentOf as_laws_szInt64S) (xBoxes as_laws_szInt64S z) (xVals as_laws_szInt64S 0 z) K2 = t_laws_szInt64S (fun b => some (en_laws_szInt64S b)) z.1 z.2.1 := by kernel_rfl
theorem so_laws_szInt64S : Sound C0 37 k_laws_szInt64S :=
  Sound.fx a_laws_szInt64S mixed Try.func37 (by kernel_rfl) (by kernel_rfl) noHints 1 noHints_ok (fun z => (r_laws_szInt64S z).trans (nat_laws_szInt64S _ z.1 z.2.1))

/-! ### F10 laws.szStrip -/
noncomputable def T_laws_szStrip : List (FuncId × Contract) := [(37, k_laws_szInt64S)]
theorem a_laws_szStrip : AllSound C0 T_laws_szStrip := .cons so_laws_szInt64S (.nil)
noncomputable def t_laws_szStrip {R : Type} (kx : Int → Option R) (a0 : ((List Int) × (List Int))) (a1 : Int) : Option R :=
  Option.bind (g_laws_szInt64S a0.1 a1) fun y6 =>
  cond (decide (y6 < (0 : Int)))
  (kx (-(1 : Int)))
  (Option.bind (g_laws_szInt64S a0.2 y6) fun y7 =>
   cond (decide (y7 < (0 : Int)))
   (kx (-(1 : Int)))
   (kx y7))
noncomputable def g_laws_szStrip (a0 : ((List Int) × (List Int))) (a1 : Int) : Option (Int) := t_laws_szStrip some a0 a1
theorem nat_laws_szStrip {R : Type} (kx : Int → Option R) (a0 : ((List Int) × (List Int))) (a1 : Int) : t_laws_szStrip kx a0 a1 = (g_laws_szStrip a0 a1).bind kx := by
  unfold g_laws_szStrip t_laws_szStrip
  exact nat_bind fun _ => nat_cond (rfl) (nat_bind fun _ => nat_cond (rfl) (rfl))
abbrev as_laws_szStrip : List AX := [.val true (.pair (.slice (.int .i64)) (.slice (.int .i64))), .val false (.int .i64)]
abbrev en_laws_szStrip : Int → AV × List CV := fun b => (.one ⟨false, [(.v (.int .i64 b))]⟩, [])
noncomputable abbrev k_laws_szStrip : Contract := .fx as_laws_szStrip (Int) (fun z => g_laws_szStrip z.1 z.2.1) en_laws_szStrip
theorem r_laws_szStrip (z : argsX as_laws_szStrip) : runF (tab C0 T_laws_szStrip) noHints 1 Try.f10 (lentOf as_laws_szStrip) (xBoxes as_laws_szStrip z) (xVals as_laws_szStrip 0 z) K2 = t_laws_szStrip (fun b => some (en_laws_szStrip b)) z.1 z.2.1 := by kernel_rfl
theorem so_laws_szStrip : Sound C0 10 k_laws_szStrip :=
  Sound.fx a_laws_szStrip mixed Try.func10 (by kernel_rfl) (by kernel_rfl) noHints 1 noHints_ok (fun z => (r_laws_szStrip z).trans (nat_laws_szStrip _ z.1 z.2.1))

/-! ### F27 laws.szStripStepS -/
noncomputable def T_laws_szStripStepS : List (FuncId × Contract) := []
theorem a_laws_szStripStepS : AllSound C0 T_laws_szStripStepS := .nil
noncomputable def t_laws_szStripStepS {R : Type} (kx : Int → Option R) (a0 : (List (Int × Int))) (a1 : Int) : Option R :=
  cond (decide ((IntKind.wrap IntKind.i64 (a1 - (((List.length a0) : Nat) : Int))) < (0 : Int)))
  (kx (-(1 : Int)))
  (kx (IntKind.wrap IntKind.i64 (a1 - (((List.length a0) : Nat) : Int))))
noncomputable def g_laws_szStripStepS (a0 : (List (Int × Int))) (a1 : Int) : Option (Int) := t_laws_szStripStepS some a0 a1
theorem nat_laws_szStripStepS {R : Type} (kx : Int → Option R) (a0 : (List (Int × Int))) (a1 : Int) : t_laws_szStripStepS kx a0 a1 = (g_laws_szStripStepS a0 a1).bind kx := by
  unfold g_laws_szStripStepS t_laws_szStripStepS
  exact nat_cond (rfl) (rfl)
abbrev as_laws_szStripStepS : List AX := [.val false (.slice (.pair (.int .i64) (.int .i64))), .val false (.int .i64)]
abbrev en_laws_szStripStepS : Int → AV × List CV := fun b => (.one ⟨false, [(.v (.int .i64 b))]⟩, [])
noncomputable abbrev k_laws_szStripStepS : Contract := .fx as_laws_szStripStepS (Int) (fun z => g_laws_szStripStepS z.1 z.2.1) en_laws_szStripStepS
theorem r_laws_szStripStepS (z : argsX as_laws_szStripStepS) : runF (tab C0 T_laws_szStripStepS) noHints 1 Try.f27 (lentOf as_laws_szStripStepS) (xBoxes as_laws_szStripStepS z) (xVals as_laws_szStripStepS 0 z) K2 = t_laws_szStripStepS (fun b => some (en_laws_szStripStepS b)) z.1 z.2.1 := by kernel_rfl
theorem so_laws_szStripStepS : Sound C0 27 k_laws_szStripStepS :=
  Sound.fx a_laws_szStripStepS mixed Try.func27 (by kernel_rfl) (by kernel_rfl) noHints 1 noHints_ok (fun z => (r_laws_szStripStepS z).trans (nat_laws_szStripStepS _ z.1 z.2.1))

/-! ### F24 laws.toInt64S -/
noncomputable def T_laws_toInt64S : List (FuncId × Contract) := []
theorem a_laws_toInt64S : AllSound C0 T_laws_toInt64S := .nil
abbrev s_laws_toInt64S_4 : LS := ⟨[(false, [(.sl (.int .i64))]), (false, [(.own (.int .i64))]), (false, [(.int .i64)])], [], []⟩
abbrev e_laws_toInt64S_4_0 : LS := ⟨[(false, [(.own (.int .i64))])], [], []⟩
abbrev d_laws_toInt64S_4_0 (v0 : List Int) : e_laws_toInt64S_4_0.T := (((v0, ()), ()), (), ())
abbrev x_laws_toInt64S_4 : List (Ex × LS) := [(.exit 0, e_laws_toInt64S_4_0)]
abbrev m_laws_toInt64S_4 (x0 : List Int) (x3 : List Int) (x4 : Int) : s_laws_toInt64S_4.T := (((x0, ()), (x3, ()), (x4, ()), ()), (), ())
noncomputable def u_laws_toInt64S_4 {R : Type} (nx : s_laws_toInt64S_4.T → Option R) (hx : exH R x_laws_toInt64S_4) (x0 : List Int) (x3 : List Int) (x4 : Int) : Option R :=
  cond (decide (x4 < (((List.length x0) : Nat) : Int)))
  (Option.bind (idx x0 x4) fun y17 =>
   Option.bind (idx x3 x4) fun _ =>
   nx (m_laws_toInt64S_4 x0 (List.set x3 (0 + (Int.toNat x4)) y17) (IntKind.wrap IntKind.i64 (x4 + (1 : Int)))))
  (hx.1 (d_laws_toInt64S_4_0 x3))
noncomputable def t_laws_toInt64S_4 {R : Type} (nx : s_laws_toInt64S_4.T → Option R) (hx : exH R x_laws_toInt64S_4) (z : s_laws_toInt64S_4.T) : Option R := u_laws_toInt64S_4 nx hx z.1.1.1 z.1.2.1.1 z.1.2.2.1.1
theorem nat_laws_toInt64S_4 : Natural @t_laws_toInt64S_4 := fun R nx hx z => by
  show u_laws_toInt64S_4 nx hx z.1.1.1 z.1.2.1.1 z.1.2.2.1.1 = (u_laws_toInt64S_4 (fun y => some (.inl y)) (hIn x_laws_toInt64S_4 fun x => some (.inr x)) z.1.1.1 z.1.2.1.1 z.1.2.2.1.1).bind (goOn nx hx)
  unfold u_laws_toInt64S_4
  exact nat_cond (nat_bind fun _ => nat_bind fun _ => rfl) (rfl)
noncomputable def w_laws_toInt64S_4 : s_laws_toInt64S_4.T → Option (exT x_laws_toInt64S_4) := wOf @t_laws_toInt64S_4
theorem wq_laws_toInt64S_4 (x0 : List Int) (x3 : List Int) (x4 : Int) : w_laws_toInt64S_4 (m_laws_toInt64S_4 x0 x3 x4) = u_laws_toInt64S_4 w_laws_toInt64S_4 (hIn x_laws_toInt64S_4 some) x0 x3 x4 := wOf_eq nat_laws_toInt64S_4 _
def lh_laws_toInt64S_4 : LoopHint := ⟨[0, 3, 4], [], [3], []⟩
noncomputable def h_laws_toInt64S : Hints Rv := ⟨fun k => match k with | 4 => lh_laws_toInt64S_4 | _ => ⟨[], [], [], []⟩, fun k => match k with | 4 => some (loopX s_laws_toInt64S_4 x_laws_toInt64S_4 w_laws_toInt64S_4) | _ => none⟩
theorem st_laws_toInt64S_4 (n : Nat) (z : s_laws_toInt64S_4.T) (k : Ex → Live → Option Rv) : loopN ⟨22, 22⟩ lh_laws_toInt64S_4 (den (tab C0 T_laws_toInt64S) ⟨22, 22⟩ h_laws_toInt64S 1 (loopOf Try.f24 3)) (n + 1) (s_laws_toInt64S_4.enc z) k =
    t_laws_toInt64S_4 (fun y => loopN ⟨22, 22⟩ lh_laws_toInt64S_4 (den (tab C0 T_laws_toInt64S) ⟨22, 22⟩ h_laws_toInt64S 1 (loopOf Try.f24 3)) n (s_laws_toInt64S_4.enc y) k) (hK k x_laws_toInt64S_4) z := by kernel_rfl
theorem hs_laws_toInt64S : HintsOk (tab C0 T_laws_toInt64S) ⟨22, 22⟩ h_laws_toInt64S 1 (loops (codeOf Try.f24)) := by
  have hl : loops (codeOf Try.f24) = [loopOf Try.f24 3] := by kernel_rfl
  rw [hl]
  exact HintsOk.cons (n := 4) (lh := lh_laws_toInt64S_4) (S := loopX s_laws_toInt64S_4 x_laws_toInt64S_4 w_laws_toInt64S_4) (by kernel_rfl) rfl rfl (loopX_ok nat_laws_toInt64S_4 st_laws_toInt64S_4)
    (HintsOk.nil)
noncomputable def t_laws_toInt64S {R : Type} (kx : (List Int) → Option R) (a0 : (List Int)) : Option R :=
  cond (decide ((((List.length a0) : Nat) : Int) ≤ (((List.length a0) : Nat) : Int)))
  (cond (decide (((((List.length a0) : Nat) : Int) * ((8 : Nat) : Int)) ≤ (70368744177664 : Int)))
   (cond (decide ((((List.length a0) : Nat) : Int) ≤ (70368744177664 : Int)))
    (Option.bind (w_laws_toInt64S_4 (m_laws_toInt64S_4 a0 (List.replicate (Int.toNat (((List.length a0) : Nat) : Int)) (0 : Int)) (0 : Int))) (exC x_laws_toInt64S_4
     (fun e19 =>
      kx (e19.1.1.1 : List Int), ())))
    (none))
   (none))
  (none)
noncomputable def g_laws_toInt64S (a0 : (List Int)) : Option ((List Int)) := t_laws_toInt64S some a0
theorem nat_laws_toInt64S {R : Type} (kx : (List Int) → Option R) (a0 : (List Int)) : t_laws_toInt64S kx a0 = (g_laws_toInt64S a0).bind kx := by
  unfold g_laws_toInt64S t_laws_toInt64S
  exact nat_cond (nat_cond (nat_cond (nat_exC ⟨fun _ => rfl, trivial⟩) (rfl)) (rfl)) (rfl)
abbrev as_laws_toInt64S : List AX := [.val false (.slice (.int .i64))]
abbrev en_laws_toInt64S : (List Int) → AV × List CV := fun b => (.one ⟨false, [(.own (.int .i64) b)]⟩, [])
noncomputable abbrev k_laws_toInt64S : Contract := .fx as_laws_toInt64S ((List Int)) (fun z => g_laws_toInt64S z.1) en_laws_toInt64S
theorem r_laws_toInt64S (z : argsX as_laws_toInt64S) : runF (tab C0 T_laws_toInt64S) h_laws_toInt64S 1 Try.f24 (lentOf as_laws_toInt64S) (xBoxes as_laws_toInt64S z) (xVals as_laws_toInt64S 0 z) K2 = t_laws_toInt64S (fun b => some (en_laws_toInt64S b)) z.1 := by kernel_rfl
theorem so_laws_toInt64S : Sound C0 24 k_laws_toInt64S :=
  Sound.fx a_laws_toInt64S mixed Try.func24 (by kernel_rfl) (by kernel_rfl) h_laws_toInt64S 1 hs_laws_toInt64S (fun z => (r_laws_toInt64S z).trans (nat_laws_toInt64S _ z.1))

/-! ### F12 laws.toStrip -/
noncomputable def T_laws_toStrip : List (FuncId × Contract) := [(24, k_laws_toInt64S)]
theorem a_laws_toStrip : AllSound C0 T_laws_toStrip := .cons so_laws_toInt64S (.nil)
noncomputable def t_laws_toStrip {R : Type} (kx : ((List Int) × (List Int)) → Option R) (a0 : ((List Int) × (List Int))) : Option R :=
  Option.bind (g_laws_toInt64S a0.1) fun y21 =>
  Option.bind (g_laws_toInt64S a0.2) fun y22 =>
  kx (y21, y22)
noncomputable def g_laws_toStrip (a0 : ((List Int) × (List Int))) : Option (((List Int) × (List Int))) := t_laws_toStrip some a0
theorem nat_laws_toStrip {R : Type} (kx : ((List Int) × (List Int)) → Option R) (a0 : ((List Int) × (List Int))) : t_laws_toStrip kx a0 = (g_laws_toStrip a0).bind kx := by
  unfold g_laws_toStrip t_laws_toStrip
  exact nat_bind fun _ => nat_bind fun _ => rfl
abbrev as_laws_toStrip : List AX := [.val true (.pair (.slice (.int .i64)) (.slice (.int .i64)))]
abbrev en_laws_toStrip : ((List Int) × (List Int)) → AV × List CV := fun b => (.one ⟨true, [(.own (.int .i64) b.1), (.own (.int .i64) b.2)]⟩, [])
noncomputable abbrev k_laws_toStrip : Contract := .fx as_laws_toStrip (((List Int) × (List Int))) (fun z => g_laws_toStrip z.1) en_laws_toStrip
theorem r_laws_toStrip (z : argsX as_laws_toStrip) : runF (tab C0 T_laws_toStrip) noHints 1 Try.f12 (lentOf as_laws_toStrip) (xBoxes as_laws_toStrip z) (xVals as_laws_toStrip 0 z) K2 = t_laws_toStrip (fun b => some (en_laws_toStrip b)) z.1 := by kernel_rfl
theorem so_laws_toStrip : Sound C0 12 k_laws_toStrip :=
  Sound.fx a_laws_toStrip mixed Try.func12 (by kernel_rfl) (by kernel_rfl) noHints 1 noHints_ok (fun z => (r_laws_toStrip z).trans (nat_laws_toStrip _ z.1))

/-! ### F20 laws.toStripStep -/
noncomputable def T_laws_toStripStep : List (FuncId × Contract) := []
theorem a_laws_toStripStep : AllSound C0 T_laws_toStripStep := .nil
noncomputable def t_laws_toStripStep {R : Type} (kx : (Int × Int) → Option R) (a0 : (Int × Int)) : Option R :=
  kx a0
noncomputable def g_laws_toStripStep (a0 : (Int × Int)) : Option ((Int × Int)) := t_laws_toStripStep some a0
theorem nat_laws_toStripStep {R : Type} (kx : (Int × Int) → Option R) (a0 : (Int × Int)) : t_laws_toStripStep kx a0 = (g_laws_toStripStep a0).bind kx := by
  unfold g_laws_toStripStep t_laws_toStripStep
  exact rfl
abbrev as_laws_toStripStep : List AX := [.val true (.pair (.int .i64) (.int .i64))]
abbrev en_laws_toStripStep : (Int × Int) → AV × List CV := fun b => (.one ⟨true, [(.v (.int .i64 b.1)), (.v (.int .i64 b.2))]⟩, [])
noncomputable abbrev k_laws_toStripStep : Contract := .fx as_laws_toStripStep ((Int × Int)) (fun z => g_laws_toStripStep z.1) en_laws_toStripStep
theorem r_laws_toStripStep (z : argsX as_laws_toStripStep) : runF (tab C0 T_laws_toStripStep) noHints 1 Try.f20 (lentOf as_laws_toStripStep) (xBoxes as_laws_toStripStep z) (xVals as_laws_toStripStep 0 z) K2 = t_laws_toStripStep (fun b => some (en_laws_toStripStep b)) z.1 := by kernel_rfl
theorem so_laws_toStripStep : Sound C0 20 k_laws_toStripStep :=
  Sound.fx a_laws_toStripStep mixed Try.func20 (by kernel_rfl) (by kernel_rfl) noHints 1 noHints_ok (fun z => (r_laws_toStripStep z).trans (nat_laws_toStripStep _ z.1))

/-! ### F29 laws.toStripStepS -/
noncomputable def T_laws_toStripStepS : List (FuncId × Contract) := [(20, k_laws_toStripStep)]
theorem a_laws_toStripStepS : AllSound C0 T_laws_toStripStepS := .cons so_laws_toStripStep (.nil)
abbrev s_laws_toStripStepS_4 : LS := ⟨[(false, [(.sl (.pair (.int .i64) (.int .i64)))]), (false, [(.own (.pair (.int .i64) (.int .i64)))]), (false, [(.int .i64)])], [], []⟩
abbrev e_laws_toStripStepS_4_0 : LS := ⟨[(false, [(.own (.pair (.int .i64) (.int .i64)))])], [], []⟩
abbrev d_laws_toStripStepS_4_0 (v0 : List (Int × Int)) : e_laws_toStripStepS_4_0.T := (((v0, ()), ()), (), ())
abbrev x_laws_toStripStepS_4 : List (Ex × LS) := [(.exit 0, e_laws_toStripStepS_4_0)]
abbrev m_laws_toStripStepS_4 (x0 : List (Int × Int)) (x3 : List (Int × Int)) (x4 : Int) : s_laws_toStripStepS_4.T := (((x0, ()), (x3, ()), (x4, ()), ()), (), ())
noncomputable def u_laws_toStripStepS_4 {R : Type} (nx : s_laws_toStripStepS_4.T → Option R) (hx : exH R x_laws_toStripStepS_4) (x0 : List (Int × Int)) (x3 : List (Int × Int)) (x4 : Int) : Option R :=
  cond (decide (x4 < (((List.length x0) : Nat) : Int)))
  (Option.bind (idx x0 x4) fun y28 =>
   Option.bind (g_laws_toStripStep y28) fun y30 =>
   Option.bind (idx x3 x4) fun _ =>
   nx (m_laws_toStripStepS_4 x0 (List.set x3 (0 + (Int.toNat x4)) y30) (IntKind.wrap IntKind.i64 (x4 + (1 : Int)))))
  (hx.1 (d_laws_toStripStepS_4_0 x3))
noncomputable def t_laws_toStripStepS_4 {R : Type} (nx : s_laws_toStripStepS_4.T → Option R) (hx : exH R x_laws_toStripStepS_4) (z : s_laws_toStripStepS_4.T) : Option R := u_laws_toStripStepS_4 nx hx z.1.1.1 z.1.2.1.1 z.1.2.2.1.1
theorem nat_laws_toStripStepS_4 : Natural @t_laws_toStripStepS_4 := fun R nx hx z => by
  show u_laws_toStripStepS_4 nx hx z.1.1.1 z.1.2.1.1 z.1.2.2.1.1 = (u_laws_toStripStepS_4 (fun y => some (.inl y)) (hIn x_laws_toStripStepS_4 fun x => some (.inr x)) z.1.1.1 z.1.2.1.1 z.1.2.2.1.1).bind (goOn nx hx)
  unfold u_laws_toStripStepS_4
  exact nat_cond (nat_bind fun _ => nat_bind fun _ => nat_bind fun _ => rfl) (rfl)
noncomputable def w_laws_toStripStepS_4 : s_laws_toStripStepS_4.T → Option (exT x_laws_toStripStepS_4) := wOf @t_laws_toStripStepS_4
theorem wq_laws_toStripStepS_4 (x0 : List (Int × Int)) (x3 : List (Int × Int)) (x4 : Int) : w_laws_toStripStepS_4 (m_laws_toStripStepS_4 x0 x3 x4) = u_laws_toStripStepS_4 w_laws_toStripStepS_4 (hIn x_laws_toStripStepS_4 some) x0 x3 x4 := wOf_eq nat_laws_toStripStepS_4 _
def lh_laws_toStripStepS_4 : LoopHint := ⟨[0, 3, 4], [], [3], []⟩
noncomputable def h_laws_toStripStepS : Hints Rv := ⟨fun k => match k with | 4 => lh_laws_toStripStepS_4 | _ => ⟨[], [], [], []⟩, fun k => match k with | 4 => some (loopX s_laws_toStripStepS_4 x_laws_toStripStepS_4 w_laws_toStripStepS_4) | _ => none⟩
theorem st_laws_toStripStepS_4 (n : Nat) (z : s_laws_toStripStepS_4.T) (k : Ex → Live → Option Rv) : loopN ⟨23, 23⟩ lh_laws_toStripStepS_4 (den (tab C0 T_laws_toStripStepS) ⟨23, 23⟩ h_laws_toStripStepS 1 (loopOf Try.f29 3)) (n + 1) (s_laws_toStripStepS_4.enc z) k =
    t_laws_toStripStepS_4 (fun y => loopN ⟨23, 23⟩ lh_laws_toStripStepS_4 (den (tab C0 T_laws_toStripStepS) ⟨23, 23⟩ h_laws_toStripStepS 1 (loopOf Try.f29 3)) n (s_laws_toStripStepS_4.enc y) k) (hK k x_laws_toStripStepS_4) z := by kernel_rfl
theorem hs_laws_toStripStepS : HintsOk (tab C0 T_laws_toStripStepS) ⟨23, 23⟩ h_laws_toStripStepS 1 (loops (codeOf Try.f29)) := by
  have hl : loops (codeOf Try.f29) = [loopOf Try.f29 3] := by kernel_rfl
  rw [hl]
  exact HintsOk.cons (n := 4) (lh := lh_laws_toStripStepS_4) (S := loopX s_laws_toStripStepS_4 x_laws_toStripStepS_4 w_laws_toStripStepS_4) (by kernel_rfl) rfl rfl (loopX_ok nat_laws_toStripStepS_4 st_laws_toStripStepS_4)
    (HintsOk.nil)
noncomputable def t_laws_toStripStepS {R : Type} (kx : (List (Int × Int)) → Option R) (a0 : (List (Int × Int))) : Option R :=
  cond (decide ((((List.length a0) : Nat) : Int) ≤ (((List.length a0) : Nat) : Int)))
  (cond (decide (((((List.length a0) : Nat) : Int) * ((16 : Nat) : Int)) ≤ (70368744177664 : Int)))
   (cond (decide ((((List.length a0) : Nat) : Int) ≤ (70368744177664 : Int)))
    (Option.bind (w_laws_toStripStepS_4 (m_laws_toStripStepS_4 a0 (List.replicate (Int.toNat (((List.length a0) : Nat) : Int)) ((0 : Int), (0 : Int))) (0 : Int))) (exC x_laws_toStripStepS_4
     (fun e32 =>
      kx (e32.1.1.1 : List (Int × Int)), ())))
    (none))
   (none))
  (none)
noncomputable def g_laws_toStripStepS (a0 : (List (Int × Int))) : Option ((List (Int × Int))) := t_laws_toStripStepS some a0
theorem nat_laws_toStripStepS {R : Type} (kx : (List (Int × Int)) → Option R) (a0 : (List (Int × Int))) : t_laws_toStripStepS kx a0 = (g_laws_toStripStepS a0).bind kx := by
  unfold g_laws_toStripStepS t_laws_toStripStepS
  exact nat_cond (nat_cond (nat_cond (nat_exC ⟨fun _ => rfl, trivial⟩) (rfl)) (rfl)) (rfl)
abbrev as_laws_toStripStepS : List AX := [.val false (.slice (.pair (.int .i64) (.int .i64)))]
abbrev en_laws_toStripStepS : (List (Int × Int)) → AV × List CV := fun b => (.one ⟨false, [(.own (.pair (.int .i64) (.int .i64)) b)]⟩, [])
noncomputable abbrev k_laws_toStripStepS : Contract := .fx as_laws_toStripStepS ((List (Int × Int))) (fun z => g_laws_toStripStepS z.1) en_laws_toStripStepS
theorem r_laws_toStripStepS (z : argsX as_laws_toStripStepS) : runF (tab C0 T_laws_toStripStepS) h_laws_toStripStepS 1 Try.f29 (lentOf as_laws_toStripStepS) (xBoxes as_laws_toStripStepS z) (xVals as_laws_toStripStepS 0 z) K2 = t_laws_toStripStepS (fun b => some (en_laws_toStripStepS b)) z.1 := by kernel_rfl
theorem so_laws_toStripStepS : Sound C0 29 k_laws_toStripStepS :=
  Sound.fx a_laws_toStripStepS mixed Try.func29 (by kernel_rfl) (by kernel_rfl) h_laws_toStripStepS 1 hs_laws_toStripStepS (fun z => (r_laws_toStripStepS z).trans (nat_laws_toStripStepS _ z.1))

/-! ### F56 spec.l00In -/
noncomputable def T_spec_l00In : List (FuncId × Contract) := []
theorem a_spec_l00In : AllSound C0 T_spec_l00In := .nil
noncomputable def t_spec_l00In {R : Type} (kx : Bool → Option R) (a0 : Int) (a1 : Int) (a2 : Int) : Option R :=
  cond (decide (a0 ≥ a1))
  (kx (decide (a0 ≤ a2)))
  (kx Bool.false)
noncomputable def g_spec_l00In (a0 : Int) (a1 : Int) (a2 : Int) : Option (Bool) := t_spec_l00In some a0 a1 a2
theorem nat_spec_l00In {R : Type} (kx : Bool → Option R) (a0 : Int) (a1 : Int) (a2 : Int) : t_spec_l00In kx a0 a1 a2 = (g_spec_l00In a0 a1 a2).bind kx := by
  unfold g_spec_l00In t_spec_l00In
  exact nat_cond (rfl) (rfl)
abbrev as_spec_l00In : List AX := [.val false (.int .i64), .val false (.int .i64), .val false (.int .i64)]
abbrev en_spec_l00In : Bool → AV × List CV := fun b => (.one ⟨false, [(.v (.bool b))]⟩, [])
noncomputable abbrev k_spec_l00In : Contract := .fx as_spec_l00In (Bool) (fun z => g_spec_l00In z.1 z.2.1 z.2.2.1) en_spec_l00In
theorem r_spec_l00In (z : argsX as_spec_l00In) : runF (tab C0 T_spec_l00In) noHints 1 Try.f56 (lentOf as_spec_l00In) (xBoxes as_spec_l00In z) (xVals as_spec_l00In 0 z) K2 = t_spec_l00In (fun b => some (en_spec_l00In b)) z.1 z.2.1 z.2.2.1 := by kernel_rfl
theorem so_spec_l00In : Sound C0 56 k_spec_l00In :=
  Sound.fx a_spec_l00In mixed Try.func56 (by kernel_rfl) (by kernel_rfl) noHints 1 noHints_ok (fun z => (r_spec_l00In z).trans (nat_spec_l00In _ z.1 z.2.1 z.2.2.1))

/-! ### F49 spec.l25Sizes -/
noncomputable def T_spec_l25Sizes : List (FuncId × Contract) := [(56, k_spec_l00In)]
theorem a_spec_l25Sizes : AllSound C0 T_spec_l25Sizes := .cons so_spec_l00In (.nil)
abbrev s_spec_l25Sizes_6 : LS := ⟨[(false, [(.sl (.int .i64))]), (false, [(.int .i64)]), (false, [(.int .i64)])], [], []⟩
abbrev e_spec_l25Sizes_6_0 : LS := ⟨[(false, [.bool]), (false, [(.int .i64)])], [], []⟩
abbrev d_spec_l25Sizes_6_0 (v0 : Bool) (v1 : Int) : e_spec_l25Sizes_6_0.T := (((v0, ()), (v1, ()), ()), (), ())
abbrev e_spec_l25Sizes_6_1 : LS := ⟨[(false, [.undef]), (false, [(.int .i64)])], [], []⟩
abbrev d_spec_l25Sizes_6_1 (v0 : Int) : e_spec_l25Sizes_6_1.T := ((((), ()), (v0, ()), ()), (), ())
abbrev x_spec_l25Sizes_6 : List (Ex × LS) := [(.ret, e_spec_l25Sizes_6_0), (.exit 0, e_spec_l25Sizes_6_1)]
abbrev m_spec_l25Sizes_6 (x0 : List Int) (x3 : Int) (x4 : Int) : s_spec_l25Sizes_6.T := (((x0, ()), (x3, ()), (x4, ()), ()), (), ())
noncomputable def u_spec_l25Sizes_6 {R : Type} (nx : s_spec_l25Sizes_6.T → Option R) (hx : exH R x_spec_l25Sizes_6) (x0 : List Int) (x3 : Int) (x4 : Int) : Option R :=
  cond (decide (x4 < (((List.length x0) : Nat) : Int)))
  (Option.bind (idx x0 x4) fun y46 =>
   Option.bind (g_spec_l00In y46 (1 : Int) (1000 : Int)) fun y47 =>
   cond (!y47)
   (hx.1 (d_spec_l25Sizes_6_0 Bool.false x3))
   (Option.bind (idx x0 x4) fun y48 =>
    nx (m_spec_l25Sizes_6 x0 (IntKind.wrap IntKind.i64 (x3 + y48)) (IntKind.wrap IntKind.i64 (x4 + (1 : Int))))))
  (hx.2.1 (d_spec_l25Sizes_6_1 x3))
noncomputable def t_spec_l25Sizes_6 {R : Type} (nx : s_spec_l25Sizes_6.T → Option R) (hx : exH R x_spec_l25Sizes_6) (z : s_spec_l25Sizes_6.T) : Option R := u_spec_l25Sizes_6 nx hx z.1.1.1 z.1.2.1.1 z.1.2.2.1.1
theorem nat_spec_l25Sizes_6 : Natural @t_spec_l25Sizes_6 := fun R nx hx z => by
  show u_spec_l25Sizes_6 nx hx z.1.1.1 z.1.2.1.1 z.1.2.2.1.1 = (u_spec_l25Sizes_6 (fun y => some (.inl y)) (hIn x_spec_l25Sizes_6 fun x => some (.inr x)) z.1.1.1 z.1.2.1.1 z.1.2.2.1.1).bind (goOn nx hx)
  unfold u_spec_l25Sizes_6
  exact nat_cond (nat_bind fun _ => nat_bind fun _ => nat_cond (rfl) (nat_bind fun _ => rfl)) (rfl)
noncomputable def w_spec_l25Sizes_6 : s_spec_l25Sizes_6.T → Option (exT x_spec_l25Sizes_6) := wOf @t_spec_l25Sizes_6
theorem wq_spec_l25Sizes_6 (x0 : List Int) (x3 : Int) (x4 : Int) : w_spec_l25Sizes_6 (m_spec_l25Sizes_6 x0 x3 x4) = u_spec_l25Sizes_6 w_spec_l25Sizes_6 (hIn x_spec_l25Sizes_6 some) x0 x3 x4 := wOf_eq nat_spec_l25Sizes_6 _
def lh_spec_l25Sizes_6 : LoopHint := ⟨[0, 3, 4], [], [2, 3], []⟩
noncomputable def h_spec_l25Sizes : Hints Rv := ⟨fun k => match k with | 6 => lh_spec_l25Sizes_6 | _ => ⟨[], [], [], []⟩, fun k => match k with | 6 => some (loopX s_spec_l25Sizes_6 x_spec_l25Sizes_6 w_spec_l25Sizes_6) | _ => none⟩
theorem st_spec_l25Sizes_6 (n : Nat) (z : s_spec_l25Sizes_6.T) (k : Ex → Live → Option Rv) : loopN ⟨29, 29⟩ lh_spec_l25Sizes_6 (den (tab C0 T_spec_l25Sizes) ⟨29, 29⟩ h_spec_l25Sizes 1 (loopOf Try.f49 5)) (n + 1) (s_spec_l25Sizes_6.enc z) k =
    t_spec_l25Sizes_6 (fun y => loopN ⟨29, 29⟩ lh_spec_l25Sizes_6 (den (tab C0 T_spec_l25Sizes) ⟨29, 29⟩ h_spec_l25Sizes 1 (loopOf Try.f49 5)) n (s_spec_l25Sizes_6.enc y) k) (hK k x_spec_l25Sizes_6) z := by kernel_rfl
theorem hs_spec_l25Sizes : HintsOk (tab C0 T_spec_l25Sizes) ⟨29, 29⟩ h_spec_l25Sizes 1 (loops (codeOf Try.f49)) := by
  have hl : loops (codeOf Try.f49) = [loopOf Try.f49 5] := by kernel_rfl
  rw [hl]
  exact HintsOk.cons (n := 6) (lh := lh_spec_l25Sizes_6) (S := loopX s_spec_l25Sizes_6 x_spec_l25Sizes_6 w_spec_l25Sizes_6) (by kernel_rfl) rfl rfl (loopX_ok nat_spec_l25Sizes_6 st_spec_l25Sizes_6)
    (HintsOk.nil)
noncomputable def t_spec_l25Sizes {R : Type} (kx : Bool → Option R) (a0 : (List Int)) : Option R :=
  Option.bind (g_spec_l00In (((List.length a0) : Nat) : Int) (1 : Int) (14 : Int)) fun y42 =>
  cond (!y42)
  (kx Bool.false)
  (Option.bind (w_spec_l25Sizes_6 (m_spec_l25Sizes_6 a0 (0 : Int) (0 : Int))) (exC x_spec_l25Sizes_6
   (fun e49 =>
    kx (e49.1.1.1 : Bool), fun e52 =>
    kx (decide ((e52.1.2.1.1 : Int) ≤ (1000 : Int))), ())))
noncomputable def g_spec_l25Sizes (a0 : (List Int)) : Option (Bool) := t_spec_l25Sizes some a0
theorem nat_spec_l25Sizes {R : Type} (kx : Bool → Option R) (a0 : (List Int)) : t_spec_l25Sizes kx a0 = (g_spec_l25Sizes a0).bind kx := by
  unfold g_spec_l25Sizes t_spec_l25Sizes
  exact nat_bind fun _ => nat_cond (rfl) (nat_exC ⟨fun _ => rfl, fun _ => rfl, trivial⟩)
abbrev as_spec_l25Sizes : List AX := [.val false (.slice (.int .i64))]
abbrev en_spec_l25Sizes : Bool → AV × List CV := fun b => (.one ⟨false, [(.v (.bool b))]⟩, [])
noncomputable abbrev k_spec_l25Sizes : Contract := .fx as_spec_l25Sizes (Bool) (fun z => g_spec_l25Sizes z.1) en_spec_l25Sizes
theorem r_spec_l25Sizes (z : argsX as_spec_l25Sizes) : runF (tab C0 T_spec_l25Sizes) h_spec_l25Sizes 1 Try.f49 (lentOf as_spec_l25Sizes) (xBoxes as_spec_l25Sizes z) (xVals as_spec_l25Sizes 0 z) K2 = t_spec_l25Sizes (fun b => some (en_spec_l25Sizes b)) z.1 := by kernel_rfl
theorem so_spec_l25Sizes : Sound C0 49 k_spec_l25Sizes :=
  Sound.fx a_spec_l25Sizes mixed Try.func49 (by kernel_rfl) (by kernel_rfl) h_spec_l25Sizes 1 hs_spec_l25Sizes (fun z => (r_spec_l25Sizes z).trans (nat_spec_l25Sizes _ z.1))

/-! ### F38 spec.l25Ok -/
noncomputable def T_spec_l25Ok : List (FuncId × Contract) := [(49, k_spec_l25Sizes), (56, k_spec_l00In)]
theorem a_spec_l25Ok : AllSound C0 T_spec_l25Ok := .cons so_spec_l25Sizes (.cons so_spec_l00In (.nil))
abbrev s_spec_l25Ok_5 : LS := ⟨[(false, [(.ptr 42 0)]), (false, [(.int .i64)])], [(true, [(.sl (.int .i64)), (.sl (.int .i64))])], []⟩
abbrev e_spec_l25Ok_5_0 : LS := ⟨[(false, [.bool])], [], []⟩
abbrev d_spec_l25Ok_5_0 (v0 : Bool) : e_spec_l25Ok_5_0.T := (((v0, ()), ()), (), ())
abbrev e_spec_l25Ok_5_1 : LS := ⟨[(false, [.undef])], [], []⟩
abbrev d_spec_l25Ok_5_1 : e_spec_l25Ok_5_1.T := ((((), ()), ()), (), ())
abbrev x_spec_l25Ok_5 : List (Ex × LS) := [(.ret, e_spec_l25Ok_5_0), (.exit 0, e_spec_l25Ok_5_1)]
abbrev m_spec_l25Ok_5 (x3 : Int) (b0_0 : List Int) (b0_1 : List Int) : s_spec_l25Ok_5.T := ((((), ()), (x3, ()), ()), ((b0_0, b0_1, ()), ()), ())
noncomputable def u_spec_l25Ok_5 {R : Type} (nx : s_spec_l25Ok_5.T → Option R) (hx : exH R x_spec_l25Ok_5) (x3 : Int) (b0_0 : List Int) (b0_1 : List Int) : Option R :=
  cond (decide (x3 < (((List.length b0_1) : Nat) : Int)))
  (Option.bind (idx b0_1 x3) fun y58 =>
   Option.bind (g_spec_l00In y58 (2 : Int) (3 : Int)) fun y59 =>
   cond (!y59)
   (hx.1 (d_spec_l25Ok_5_0 Bool.false))
   (nx (m_spec_l25Ok_5 (IntKind.wrap IntKind.i64 (x3 + (1 : Int))) b0_0 b0_1)))
  (hx.2.1 (d_spec_l25Ok_5_1))
noncomputable def t_spec_l25Ok_5 {R : Type} (nx : s_spec_l25Ok_5.T → Option R) (hx : exH R x_spec_l25Ok_5) (z : s_spec_l25Ok_5.T) : Option R := u_spec_l25Ok_5 nx hx z.1.2.1.1 z.2.1.1.1 z.2.1.1.2.1
theorem nat_spec_l25Ok_5 : Natural @t_spec_l25Ok_5 := fun R nx hx z => by
  show u_spec_l25Ok_5 nx hx z.1.2.1.1 z.2.1.1.1 z.2.1.1.2.1 = (u_spec_l25Ok_5 (fun y => some (.inl y)) (hIn x_spec_l25Ok_5 fun x => some (.inr x)) z.1.2.1.1 z.2.1.1.1 z.2.1.1.2.1).bind (goOn nx hx)
  unfold u_spec_l25Ok_5
  exact nat_cond (nat_bind fun _ => nat_bind fun _ => nat_cond (rfl) (rfl)) (rfl)
noncomputable def w_spec_l25Ok_5 : s_spec_l25Ok_5.T → Option (exT x_spec_l25Ok_5) := wOf @t_spec_l25Ok_5
theorem wq_spec_l25Ok_5 (x3 : Int) (b0_0 : List Int) (b0_1 : List Int) : w_spec_l25Ok_5 (m_spec_l25Ok_5 x3 b0_0 b0_1) = u_spec_l25Ok_5 w_spec_l25Ok_5 (hIn x_spec_l25Ok_5 some) x3 b0_0 b0_1 := wOf_eq nat_spec_l25Ok_5 _
def lh_spec_l25Ok_5 : LoopHint := ⟨[0, 3], [42], [2], []⟩
noncomputable def h_spec_l25Ok : Hints Rv := ⟨fun k => match k with | 5 => lh_spec_l25Ok_5 | _ => ⟨[], [], [], []⟩, fun k => match k with | 5 => some (loopX s_spec_l25Ok_5 x_spec_l25Ok_5 w_spec_l25Ok_5) | _ => none⟩
theorem st_spec_l25Ok_5 (n : Nat) (z : s_spec_l25Ok_5.T) (k : Ex → Live → Option Rv) : loopN ⟨42, 43⟩ lh_spec_l25Ok_5 (den (tab C0 T_spec_l25Ok) ⟨42, 43⟩ h_spec_l25Ok 1 (loopOf Try.f38 4)) (n + 1) (s_spec_l25Ok_5.enc z) k =
    t_spec_l25Ok_5 (fun y => loopN ⟨42, 43⟩ lh_spec_l25Ok_5 (den (tab C0 T_spec_l25Ok) ⟨42, 43⟩ h_spec_l25Ok 1 (loopOf Try.f38 4)) n (s_spec_l25Ok_5.enc y) k) (hK k x_spec_l25Ok_5) z := by kernel_rfl
theorem hs_spec_l25Ok : HintsOk (tab C0 T_spec_l25Ok) ⟨42, 43⟩ h_spec_l25Ok 1 (loops (codeOf Try.f38)) := by
  have hl : loops (codeOf Try.f38) = [loopOf Try.f38 4] := by kernel_rfl
  rw [hl]
  exact HintsOk.cons (n := 5) (lh := lh_spec_l25Ok_5) (S := loopX s_spec_l25Ok_5 x_spec_l25Ok_5 w_spec_l25Ok_5) (by kernel_rfl) rfl rfl (loopX_ok nat_spec_l25Ok_5 st_spec_l25Ok_5)
    (HintsOk.nil)
noncomputable def t_spec_l25Ok {R : Type} (kx : Bool → Option R) (a0 : ((List Int) × (List Int))) : Option R :=
  Option.bind (g_spec_l25Sizes a0.1) fun y54 =>
  cond (!y54)
  (kx Bool.false)
  (cond ((((List.length a0.2) : Nat) : Int) != (IntKind.wrap IntKind.i64 ((((List.length a0.1) : Nat) : Int) - (1 : Int))))
   (kx Bool.false)
   (Option.bind (w_spec_l25Ok_5 (m_spec_l25Ok_5 (0 : Int) a0.1 a0.2)) (exC x_spec_l25Ok_5
    (fun e60 =>
     kx (e60.1.1.1 : Bool), fun _ =>
     kx Bool.true, ()))))
noncomputable def g_spec_l25Ok (a0 : ((List Int) × (List Int))) : Option (Bool) := t_spec_l25Ok some a0
theorem nat_spec_l25Ok {R : Type} (kx : Bool → Option R) (a0 : ((List Int) × (List Int))) : t_spec_l25Ok kx a0 = (g_spec_l25Ok a0).bind kx := by
  unfold g_spec_l25Ok t_spec_l25Ok
  exact nat_bind fun _ => nat_cond (rfl) (nat_cond (rfl) (nat_exC ⟨fun _ => rfl, fun _ => rfl, trivial⟩))
abbrev as_spec_l25Ok : List AX := [.ptr (.pair (.slice (.int .i64)) (.slice (.int .i64)))]
abbrev en_spec_l25Ok : Bool → AV × List CV := fun b => (.one ⟨false, [(.v (.bool b))]⟩, [])
noncomputable abbrev k_spec_l25Ok : Contract := .fx as_spec_l25Ok (Bool) (fun z => g_spec_l25Ok z.1) en_spec_l25Ok
theorem r_spec_l25Ok (z : argsX as_spec_l25Ok) : runF (tab C0 T_spec_l25Ok) h_spec_l25Ok 1 Try.f38 (lentOf as_spec_l25Ok) (xBoxes as_spec_l25Ok z) (xVals as_spec_l25Ok 0 z) K2 = t_spec_l25Ok (fun b => some (en_spec_l25Ok b)) z.1 := by kernel_rfl
theorem so_spec_l25Ok : Sound C0 38 k_spec_l25Ok :=
  Sound.fx a_spec_l25Ok mixed Try.func38 (by kernel_rfl) (by kernel_rfl) h_spec_l25Ok 1 hs_spec_l25Ok (fun z => (r_spec_l25Ok z).trans (nat_spec_l25Ok _ z.1))

/-! ### F71 spec.l00Own -/
noncomputable def T_spec_l00Own : List (FuncId × Contract) := []
theorem a_spec_l00Own : AllSound C0 T_spec_l00Own := .nil
noncomputable def t_spec_l00Own {R : Type} (kx : (List Int) → Option R) (a0 : (List Int)) : Option R :=
  cond (decide ((((List.length ([] : List Int)) + (List.length a0)) * 8) ≤ 70368744177664))
  (cond (decide (((List.length ([] : List Int)) + (List.length a0)) ≤ 70368744177664))
   (kx ([] ++ a0))
   (none))
  (none)
noncomputable def g_spec_l00Own (a0 : (List Int)) : Option ((List Int)) := t_spec_l00Own some a0
theorem nat_spec_l00Own {R : Type} (kx : (List Int) → Option R) (a0 : (List Int)) : t_spec_l00Own kx a0 = (g_spec_l00Own a0).bind kx := by
  unfold g_spec_l00Own t_spec_l00Own
  exact nat_cond (nat_cond (rfl) (rfl)) (rfl)
abbrev as_spec_l00Own : List AX := [.val false (.slice (.int .i64))]
abbrev en_spec_l00Own : (List Int) → AV × List CV := fun b => (.one ⟨false, [(.own (.int .i64) b)]⟩, [])
noncomputable abbrev k_spec_l00Own : Contract := .fx as_spec_l00Own ((List Int)) (fun z => g_spec_l00Own z.1) en_spec_l00Own
theorem r_spec_l00Own (z : argsX as_spec_l00Own) : runF (tab C0 T_spec_l00Own) noHints 1 Try.f71 (lentOf as_spec_l00Own) (xBoxes as_spec_l00Own z) (xVals as_spec_l00Own 0 z) K2 = t_spec_l00Own (fun b => some (en_spec_l00Own b)) z.1 := by kernel_rfl
theorem so_spec_l00Own : Sound C0 71 k_spec_l00Own :=
  Sound.fx a_spec_l00Own mixed Try.func71 (by kernel_rfl) (by kernel_rfl) noHints 1 noHints_ok (fun z => (r_spec_l00Own z).trans (nat_spec_l00Own _ z.1))

/-! ### F53 spec.l25Own -/
noncomputable def T_spec_l25Own : List (FuncId × Contract) := [(71, k_spec_l00Own)]
theorem a_spec_l25Own : AllSound C0 T_spec_l25Own := .cons so_spec_l00Own (.nil)
noncomputable def t_spec_l25Own {R : Type} (kx : ((List Int) × (List Int)) → Option R) (a0 : ((List Int) × (List Int))) : Option R :=
  Option.bind (g_spec_l00Own a0.1) fun y66 =>
  Option.bind (g_spec_l00Own a0.2) fun y67 =>
  kx (y66, y67)
noncomputable def g_spec_l25Own (a0 : ((List Int) × (List Int))) : Option (((List Int) × (List Int))) := t_spec_l25Own some a0
theorem nat_spec_l25Own {R : Type} (kx : ((List Int) × (List Int)) → Option R) (a0 : ((List Int) × (List Int))) : t_spec_l25Own kx a0 = (g_spec_l25Own a0).bind kx := by
  unfold g_spec_l25Own t_spec_l25Own
  exact nat_bind fun _ => nat_bind fun _ => rfl
abbrev as_spec_l25Own : List AX := [.ptr (.pair (.slice (.int .i64)) (.slice (.int .i64)))]
abbrev en_spec_l25Own : ((List Int) × (List Int)) → AV × List CV := fun b => (.one ⟨true, [(.own (.int .i64) b.1), (.own (.int .i64) b.2)]⟩, [])
noncomputable abbrev k_spec_l25Own : Contract := .fx as_spec_l25Own (((List Int) × (List Int))) (fun z => g_spec_l25Own z.1) en_spec_l25Own
theorem r_spec_l25Own (z : argsX as_spec_l25Own) : runF (tab C0 T_spec_l25Own) noHints 1 Try.f53 (lentOf as_spec_l25Own) (xBoxes as_spec_l25Own z) (xVals as_spec_l25Own 0 z) K2 = t_spec_l25Own (fun b => some (en_spec_l25Own b)) z.1 := by kernel_rfl
theorem so_spec_l25Own : Sound C0 53 k_spec_l25Own :=
  Sound.fx a_spec_l25Own mixed Try.func53 (by kernel_rfl) (by kernel_rfl) noHints 1 noHints_ok (fun z => (r_spec_l25Own z).trans (nat_spec_l25Own _ z.1))

/-! ### F44 spec.l25Can -/
noncomputable def T_spec_l25Can : List (FuncId × Contract) := [(56, k_spec_l00In)]
theorem a_spec_l25Can : AllSound C0 T_spec_l25Can := .cons so_spec_l00In (.nil)
noncomputable def t_spec_l25Can {R : Type} (kx : Bool → Option R) (a0 : ((List Int) × (List Int))) (a1 : (Int × Int)) : Option R :=
  cond (decide ((((List.length a0.1) : Nat) : Int) < (2 : Int)))
  (kx Bool.false)
  (cond (a1.1 == (2 : Int))
   (cond (a1.2 == (0 : Int))
    (Option.bind (idx a0.1 (0 : Int)) fun y76 =>
     Option.bind (idx a0.1 (1 : Int)) fun y77 =>
     kx (decide (y76 ≤ y77)))
    (kx Bool.false))
   (cond (a1.1 == (3 : Int))
    (cond (a1.2 == (IntKind.wrap IntKind.i64 ((((List.length a0.1) : Nat) : Int) - (1 : Int))))
     (Option.bind (idx a0.1 (IntKind.wrap IntKind.i64 ((((List.length a0.1) : Nat) : Int) - (1 : Int)))) fun y78 =>
      Option.bind (idx a0.1 (IntKind.wrap IntKind.i64 ((((List.length a0.1) : Nat) : Int) - (2 : Int)))) fun y79 =>
      kx (decide (y78 ≤ y79)))
     (kx Bool.false))
    (cond (a1.1 == (1 : Int))
     (Option.bind (g_spec_l00In a1.2 (1 : Int) (IntKind.wrap IntKind.i64 ((((List.length a0.1) : Nat) : Int) - (2 : Int)))) fun y80 =>
      cond y80
      (Option.bind (idx a0.1 a1.2) fun y81 =>
       Option.bind (idx a0.1 (IntKind.wrap IntKind.i64 (a1.2 - (1 : Int)))) fun y82 =>
       cond (decide (y81 ≤ y82))
       (Option.bind (idx a0.1 a1.2) fun y83 =>
        Option.bind (idx a0.1 (IntKind.wrap IntKind.i64 (a1.2 + (1 : Int)))) fun y84 =>
        cond (decide (y83 ≤ y84))
        (Option.bind (idx a0.2 (IntKind.wrap IntKind.i64 (a1.2 - (1 : Int)))) fun y85 =>
         Option.bind (idx a0.2 a1.2) fun y86 =>
         kx (y85 != y86))
        (kx Bool.false))
       (kx Bool.false))
      (kx Bool.false))
     (kx Bool.false))))
noncomputable def g_spec_l25Can (a0 : ((List Int) × (List Int))) (a1 : (Int × Int)) : Option (Bool) := t_spec_l25Can some a0 a1
theorem nat_spec_l25Can {R : Type} (kx : Bool → Option R) (a0 : ((List Int) × (List Int))) (a1 : (Int × Int)) : t_spec_l25Can kx a0 a1 = (g_spec_l25Can a0 a1).bind kx := by
  unfold g_spec_l25Can t_spec_l25Can
  exact nat_cond (rfl) (nat_cond (nat_cond (nat_bind fun _ => nat_bind fun _ => rfl) (rfl)) (nat_cond (nat_cond (nat_bind fun _ => nat_bind fun _ => rfl) (rfl)) (nat_cond (nat_bind fun _ => nat_cond (nat_bind fun _ => nat_bind fun _ => nat_cond (nat_bind fun _ => nat_bind fun _ => nat_cond (nat_bind fun _ => nat_bind fun _ => rfl) (rfl)) (rfl)) (rfl)) (rfl))))
abbrev as_spec_l25Can : List AX := [.ptr (.pair (.slice (.int .i64)) (.slice (.int .i64))), .val true (.pair (.int .i64) (.int .i64))]
abbrev en_spec_l25Can : Bool → AV × List CV := fun b => (.one ⟨false, [(.v (.bool b))]⟩, [])
noncomputable abbrev k_spec_l25Can : Contract := .fx as_spec_l25Can (Bool) (fun z => g_spec_l25Can z.1 z.2.1) en_spec_l25Can
theorem r_spec_l25Can (z : argsX as_spec_l25Can) : runF (tab C0 T_spec_l25Can) noHints 1 Try.f44 (lentOf as_spec_l25Can) (xBoxes as_spec_l25Can z) (xVals as_spec_l25Can 0 z) K2 = t_spec_l25Can (fun b => some (en_spec_l25Can b)) z.1 z.2.1 := by kernel_rfl
theorem so_spec_l25Can : Sound C0 44 k_spec_l25Can :=
  Sound.fx a_spec_l25Can mixed Try.func44 (by kernel_rfl) (by kernel_rfl) noHints 1 noHints_ok (fun z => (r_spec_l25Can z).trans (nat_spec_l25Can _ z.1 z.2.1))

/-! ### F45 spec.l25Apply -/
noncomputable def T_spec_l25Apply : List (FuncId × Contract) := []
theorem a_spec_l25Apply : AllSound C0 T_spec_l25Apply := .nil
noncomputable def t_spec_l25Apply {R : Type} (kx : ((List Int) × (List Int)) → Option R) (a0 : ((List Int) × (List Int))) (a1 : (Int × Int)) : Option R :=
  cond (a1.1 == (2 : Int))
  (cond (decide ((1 : Int) ≤ (((List.length a0.1) : Nat) : Int)))
   (cond (decide ((((List.length ([] : List Int)) + (List.length (List.drop (Int.toNat (1 : Int)) (List.take (List.length a0.1) a0.1)))) * 8) ≤ 70368744177664))
    (cond (decide (((List.length ([] : List Int)) + (List.length (List.drop (Int.toNat (1 : Int)) (List.take (List.length a0.1) a0.1)))) ≤ 70368744177664))
     (cond (decide ((1 : Int) ≤ (((List.length a0.2) : Nat) : Int)))
      (cond (decide ((((List.length ([] : List Int)) + (List.length (List.drop (Int.toNat (1 : Int)) (List.take (List.length a0.2) a0.2)))) * 8) ≤ 70368744177664))
       (cond (decide (((List.length ([] : List Int)) + (List.length (List.drop (Int.toNat (1 : Int)) (List.take (List.length a0.2) a0.2)))) ≤ 70368744177664))
        (kx (([] ++ (List.drop (Int.toNat (1 : Int)) (List.take (List.length a0.1) a0.1))), ([] ++ (List.drop (Int.toNat (1 : Int)) (List.take (List.length a0.2) a0.2)))))
        (none))
       (none))
      (none))
     (none))
    (none))
   (none))
  (cond (a1.1 == (3 : Int))
   (cond (decide ((0 : Int) ≤ (IntKind.wrap IntKind.i64 ((((List.length a0.1) : Nat) : Int) - (1 : Int)))))
    (cond (decide ((IntKind.wrap IntKind.i64 ((((List.length a0.1) : Nat) : Int) - (1 : Int))) ≤ (((List.length a0.1) : Nat) : Int)))
     (cond (decide ((((List.length ([] : List Int)) + (List.length (List.drop 0 (List.take (Int.toNat (IntKind.wrap IntKind.i64 ((((List.length a0.1) : Nat) : Int) - (1 : Int)))) a0.1)))) * 8) ≤ 70368744177664))
      (cond (decide (((List.length ([] : List Int)) + (List.length (List.drop 0 (List.take (Int.toNat (IntKind.wrap IntKind.i64 ((((List.length a0.1) : Nat) : Int) - (1 : Int)))) a0.1)))) ≤ 70368744177664))
       (cond (decide ((0 : Int) ≤ (IntKind.wrap IntKind.i64 ((((List.length a0.1) : Nat) : Int) - (2 : Int)))))
        (cond (decide ((IntKind.wrap IntKind.i64 ((((List.length a0.1) : Nat) : Int) - (2 : Int))) ≤ (((List.length a0.2) : Nat) : Int)))
         (cond (decide ((((List.length ([] : List Int)) + (List.length (List.drop 0 (List.take (Int.toNat (IntKind.wrap IntKind.i64 ((((List.length a0.1) : Nat) : Int) - (2 : Int)))) a0.2)))) * 8) ≤ 70368744177664))
          (cond (decide (((List.length ([] : List Int)) + (List.length (List.drop 0 (List.take (Int.toNat (IntKind.wrap IntKind.i64 ((((List.length a0.1) : Nat) : Int) - (2 : Int)))) a0.2)))) ≤ 70368744177664))
           (kx (([] ++ (List.drop 0 (List.take (Int.toNat (IntKind.wrap IntKind.i64 ((((List.length a0.1) : Nat) : Int) - (1 : Int)))) a0.1))), ([] ++ (List.drop 0 (List.take (Int.toNat (IntKind.wrap IntKind.i64 ((((List.length a0.1) : Nat) : Int) - (2 : Int)))) a0.2)))))
           (none))
          (none))
         (none))
        (none))
       (none))
      (none))
     (none))
    (none))
   (cond (decide ((0 : Int) ≤ (IntKind.wrap IntKind.i64 (a1.2 - (1 : Int)))))
    (cond (decide ((IntKind.wrap IntKind.i64 (a1.2 - (1 : Int))) ≤ (((List.length a0.1) : Nat) : Int)))
     (cond (decide ((((List.length ([] : List Int)) + (List.length (List.drop 0 (List.take (Int.toNat (IntKind.wrap IntKind.i64 (a1.2 - (1 : Int)))) a0.1)))) * 8) ≤ 70368744177664))
      (cond (decide (((List.length ([] : List Int)) + (List.length (List.drop 0 (List.take (Int.toNat (IntKind.wrap IntKind.i64 (a1.2 - (1 : Int)))) a0.1)))) ≤ 70368744177664))
       (Option.bind (idx a0.1 (IntKind.wrap IntKind.i64 (a1.2 - (1 : Int)))) fun y91 =>
        Option.bind (idx a0.1 a1.2) fun y92 =>
        Option.bind (idx a0.1 (IntKind.wrap IntKind.i64 (a1.2 + (1 : Int)))) fun y93 =>
        cond (decide ((((List.length ([] ++ (List.drop 0 (List.take (Int.toNat (IntKind.wrap IntKind.i64 (a1.2 - (1 : Int)))) a0.1)))) + (List.length [(IntKind.wrap IntKind.i64 ((IntKind.wrap IntKind.i64 (y91 - y92)) + y93))])) * 8) ≤ 70368744177664))
        (cond (decide (((List.length ([] ++ (List.drop 0 (List.take (Int.toNat (IntKind.wrap IntKind.i64 (a1.2 - (1 : Int)))) a0.1)))) + (List.length [(IntKind.wrap IntKind.i64 ((IntKind.wrap IntKind.i64 (y91 - y92)) + y93))])) ≤ 70368744177664))
         (cond (decide ((0 : Int) ≤ (IntKind.wrap IntKind.i64 (a1.2 + (2 : Int)))))
          (cond (decide ((IntKind.wrap IntKind.i64 (a1.2 + (2 : Int))) ≤ (((List.length a0.1) : Nat) : Int)))
           (cond (decide ((((List.length (([] ++ (List.drop 0 (List.take (Int.toNat (IntKind.wrap IntKind.i64 (a1.2 - (1 : Int)))) a0.1))) ++ [(IntKind.wrap IntKind.i64 ((IntKind.wrap IntKind.i64 (y91 - y92)) + y93))])) + (List.length (List.drop (Int.toNat (IntKind.wrap IntKind.i64 (a1.2 + (2 : Int)))) (List.take (List.length a0.1) a0.1)))) * 8) ≤ 70368744177664))
            (cond (decide (((List.length (([] ++ (List.drop 0 (List.take (Int.toNat (IntKind.wrap IntKind.i64 (a1.2 - (1 : Int)))) a0.1))) ++ [(IntKind.wrap IntKind.i64 ((IntKind.wrap IntKind.i64 (y91 - y92)) + y93))])) + (List.length (List.drop (Int.toNat (IntKind.wrap IntKind.i64 (a1.2 + (2 : Int)))) (List.take (List.length a0.1) a0.1)))) ≤ 70368744177664))
             (cond (decide ((0 : Int) ≤ (IntKind.wrap IntKind.i64 (a1.2 - (1 : Int)))))
              (cond (decide ((IntKind.wrap IntKind.i64 (a1.2 - (1 : Int))) ≤ (((List.length a0.2) : Nat) : Int)))
               (cond (decide ((((List.length ([] : List Int)) + (List.length (List.drop 0 (List.take (Int.toNat (IntKind.wrap IntKind.i64 (a1.2 - (1 : Int)))) a0.2)))) * 8) ≤ 70368744177664))
                (cond (decide (((List.length ([] : List Int)) + (List.length (List.drop 0 (List.take (Int.toNat (IntKind.wrap IntKind.i64 (a1.2 - (1 : Int)))) a0.2)))) ≤ 70368744177664))
                 (cond (decide ((0 : Int) ≤ (IntKind.wrap IntKind.i64 (a1.2 + (1 : Int)))))
                  (cond (decide ((IntKind.wrap IntKind.i64 (a1.2 + (1 : Int))) ≤ (((List.length a0.2) : Nat) : Int)))
                   (cond (decide ((((List.length ([] ++ (List.drop 0 (List.take (Int.toNat (IntKind.wrap IntKind.i64 (a1.2 - (1 : Int)))) a0.2)))) + (List.length (List.drop (Int.toNat (IntKind.wrap IntKind.i64 (a1.2 + (1 : Int)))) (List.take (List.length a0.2) a0.2)))) * 8) ≤ 70368744177664))
                    (cond (decide (((List.length ([] ++ (List.drop 0 (List.take (Int.toNat (IntKind.wrap IntKind.i64 (a1.2 - (1 : Int)))) a0.2)))) + (List.length (List.drop (Int.toNat (IntKind.wrap IntKind.i64 (a1.2 + (1 : Int)))) (List.take (List.length a0.2) a0.2)))) ≤ 70368744177664))
                     (kx (((([] ++ (List.drop 0 (List.take (Int.toNat (IntKind.wrap IntKind.i64 (a1.2 - (1 : Int)))) a0.1))) ++ [(IntKind.wrap IntKind.i64 ((IntKind.wrap IntKind.i64 (y91 - y92)) + y93))]) ++ (List.drop (Int.toNat (IntKind.wrap IntKind.i64 (a1.2 + (2 : Int)))) (List.take (List.length a0.1) a0.1))), (([] ++ (List.drop 0 (List.take (Int.toNat (IntKind.wrap IntKind.i64 (a1.2 - (1 : Int)))) a0.2))) ++ (List.drop (Int.toNat (IntKind.wrap IntKind.i64 (a1.2 + (1 : Int)))) (List.take (List.length a0.2) a0.2)))))
                     (none))
                    (none))
                   (none))
                  (none))
                 (none))
                (none))
               (none))
              (none))
             (none))
            (none))
           (none))
          (none))
         (none))
        (none))
       (none))
      (none))
     (none))
    (none)))
noncomputable def g_spec_l25Apply (a0 : ((List Int) × (List Int))) (a1 : (Int × Int)) : Option (((List Int) × (List Int))) := t_spec_l25Apply some a0 a1
theorem nat_spec_l25Apply {R : Type} (kx : ((List Int) × (List Int)) → Option R) (a0 : ((List Int) × (List Int))) (a1 : (Int × Int)) : t_spec_l25Apply kx a0 a1 = (g_spec_l25Apply a0 a1).bind kx := by
  unfold g_spec_l25Apply t_spec_l25Apply
  exact nat_cond (nat_cond (nat_cond (nat_cond (nat_cond (nat_cond (nat_cond (rfl) (rfl)) (rfl)) (rfl)) (rfl)) (rfl)) (rfl)) (nat_cond (nat_cond (nat_cond (nat_cond (nat_cond (nat_cond (nat_cond (nat_cond (nat_cond (rfl) (rfl)) (rfl)) (rfl)) (rfl)) (rfl)) (rfl)) (rfl)) (rfl)) (nat_cond (nat_cond (nat_cond (nat_cond (nat_bind fun _ => nat_bind fun _ => nat_bind fun _ => nat_cond (nat_cond (nat_cond (nat_cond (nat_cond (nat_cond (nat_cond (nat_cond (nat_cond (nat_cond (nat_cond (nat_cond (nat_cond (nat_cond (rfl) (rfl)) (rfl)) (rfl)) (rfl)) (rfl)) (rfl)) (rfl)) (rfl)) (rfl)) (rfl)) (rfl)) (rfl)) (rfl)) (rfl)) (rfl)) (rfl)) (rfl)) (rfl)))
abbrev as_spec_l25Apply : List AX := [.ptr (.pair (.slice (.int .i64)) (.slice (.int .i64))), .val true (.pair (.int .i64) (.int .i64))]
abbrev en_spec_l25Apply : ((List Int) × (List Int)) → AV × List CV := fun b => (.one ⟨true, [(.own (.int .i64) b.1), (.own (.int .i64) b.2)]⟩, [])
noncomputable abbrev k_spec_l25Apply : Contract := .fx as_spec_l25Apply (((List Int) × (List Int))) (fun z => g_spec_l25Apply z.1 z.2.1) en_spec_l25Apply
theorem r_spec_l25Apply (z : argsX as_spec_l25Apply) : runF (tab C0 T_spec_l25Apply) noHints 1 Try.f45 (lentOf as_spec_l25Apply) (xBoxes as_spec_l25Apply z) (xVals as_spec_l25Apply 0 z) K2 = t_spec_l25Apply (fun b => some (en_spec_l25Apply b)) z.1 z.2.1 := by kernel_rfl
theorem so_spec_l25Apply : Sound C0 45 k_spec_l25Apply :=
  Sound.fx a_spec_l25Apply mixed Try.func45 (by kernel_rfl) (by kernel_rfl) noHints 1 noHints_ok (fun z => (r_spec_l25Apply z).trans (nat_spec_l25Apply _ z.1 z.2.1))

/-! ### F28 spec.CheckReduction -/
noncomputable def T_spec_CheckReduction : List (FuncId × Contract) := [(38, k_spec_l25Ok), (53, k_spec_l25Own), (44, k_spec_l25Can), (45, k_spec_l25Apply)]
theorem a_spec_CheckReduction : AllSound C0 T_spec_CheckReduction := .cons so_spec_l25Ok (.cons so_spec_l25Own (.cons so_spec_l25Can (.cons so_spec_l25Apply (.nil))))
abbrev s_spec_CheckReduction_6 : LS := ⟨[(false, [(.sl (.pair (.int .i64) (.int .i64)))]), (false, [(.ptr 5 0)]), (false, [(.int .i64)])], [(false, [(.own (.int .i64)), (.own (.int .i64))])], []⟩
abbrev e_spec_CheckReduction_6_0 : LS := ⟨[(false, [.bool]), (false, [(.ptr 5 0)])], [(false, [(.own (.int .i64)), (.own (.int .i64))])], []⟩
abbrev d_spec_CheckReduction_6_0 (v0 : Bool) (v1 : List Int) (v2 : List Int) : e_spec_CheckReduction_6_0.T := (((v0, ()), ((), ()), ()), ((v1, v2, ()), ()), ())
abbrev e_spec_CheckReduction_6_1 : LS := ⟨[(false, [.undef]), (false, [(.ptr 5 0)])], [(false, [(.own (.int .i64)), (.own (.int .i64))])], []⟩
abbrev d_spec_CheckReduction_6_1 (v0 : List Int) (v1 : List Int) : e_spec_CheckReduction_6_1.T := ((((), ()), ((), ()), ()), ((v0, v1, ()), ()), ())
abbrev x_spec_CheckReduction_6 : List (Ex × LS) := [(.ret, e_spec_CheckReduction_6_0), (.exit 0, e_spec_CheckReduction_6_1)]
abbrev m_spec_CheckReduction_6 (x1 : List (Int × Int)) (x6 : Int) (b0_0 : List Int) (b0_1 : List Int) : s_spec_CheckReduction_6.T := (((x1, ()), ((), ()), (x6, ()), ()), ((b0_0, b0_1, ()), ()), ())
noncomputable def u_spec_CheckReduction_6 {R : Type} (nx : s_spec_CheckReduction_6.T → Option R) (hx : exH R x_spec_CheckReduction_6) (x1 : List (Int × Int)) (x6 : Int) (b0_0 : List Int) (b0_1 : List Int) : Option R :=
  cond (decide (x6 < (((List.length x1) : Nat) : Int)))
  (Option.bind (idx x1 x6) fun y73 =>
   Option.bind (g_spec_l25Can (b0_0, b0_1) y73) fun y87 =>
   cond (!y87)
   (hx.1 (d_spec_CheckReduction_6_0 Bool.false b0_0 b0_1))
   (Option.bind (idx x1 x6) fun y88 =>
    Option.bind (g_spec_l25Apply (b0_0, b0_1) y88) fun y94 =>
    nx (m_spec_CheckReduction_6 x1 (IntKind.wrap IntKind.i64 (x6 + (1 : Int))) y94.1 y94.2)))
  (hx.2.1 (d_spec_CheckReduction_6_1 b0_0 b0_1))
noncomputable def t_spec_CheckReduction_6 {R : Type} (nx : s_spec_CheckReduction_6.T → Option R) (hx : exH R x_spec_CheckReduction_6) (z : s_spec_CheckReduction_6.T) : Option R := u_spec_CheckReduction_6 nx hx z.1.1.1 z.1.2.2.1.1 z.2.1.1.1 z.2.1.1.2.1
theorem nat_spec_CheckReduction_6 : Natural @t_spec_CheckReduction_6 := fun R nx hx z => by
  show u_spec_CheckReduction_6 nx hx z.1.1.1 z.1.2.2.1.1 z.2.1.1.1 z.2.1.1.2.1 = (u_spec_CheckReduction_6 (fun y => some (.inl y)) (hIn x_spec_CheckReduction_6 fun x => some (.inr x)) z.1.1.1 z.1.2.2.1.1 z.2.1.1.1 z.2.1.1.2.1).bind (goOn nx hx)
  unfold u_spec_CheckReduction_6
  exact nat_cond (nat_bind fun _ => nat_bind fun _ => nat_cond (rfl) (nat_bind fun _ => nat_bind fun _ => rfl)) (rfl)
noncomputable def w_spec_CheckReduction_6 : s_spec_CheckReduction_6.T → Option (exT x_spec_CheckReduction_6) := wOf @t_spec_CheckReduction_6
theorem wq_spec_CheckReduction_6 (x1 : List (Int × Int)) (x6 : Int) (b0_0 : List Int) (b0_1 : List Int) : w_spec_CheckReduction_6 (m_spec_CheckReduction_6 x1 x6 b0_0 b0_1) = u_spec_CheckReduction_6 w_spec_CheckReduction_6 (hIn x_spec_CheckReduction_6 some) x1 x6 b0_0 b0_1 := wOf_eq nat_spec_CheckReduction_6 _
def lh_spec_CheckReduction_6 : LoopHint := ⟨[1, 5, 6], [5], [4, 5], [5]⟩
noncomputable def h_spec_CheckReduction : Hints Rv := ⟨fun k => match k with | 6 => lh_spec_CheckReduction_6 | _ => ⟨[], [], [], []⟩, fun k => match k with | 6 => some (loopX s_spec_CheckReduction_6 x_spec_CheckReduction_6 w_spec_CheckReduction_6) | _ => none⟩
theorem st_spec_CheckReduction_6 (n : Nat) (z : s_spec_CheckReduction_6.T) (k : Ex → Live → Option Rv) : loopN ⟨31, 31⟩ lh_spec_CheckReduction_6 (den (tab C0 T_spec_CheckReduction) ⟨31, 31⟩ h_spec_CheckReduction 1 (loopOf Try.f28 5)) (n + 1) (s_spec_CheckReduction_6.enc z) k =
    t_spec_CheckReduction_6 (fun y => loopN ⟨31, 31⟩ lh_spec_CheckReduction_6 (den (tab C0 T_spec_CheckReduction) ⟨31, 31⟩ h_spec_CheckReduction 1 (loopOf Try.f28 5)) n (s_spec_CheckReduction_6.enc y) k) (hK k x_spec_CheckReduction_6) z := by kernel_rfl
theorem hs_spec_CheckReduction : HintsOk (tab C0 T_spec_CheckReduction) ⟨31, 31⟩ h_spec_CheckReduction 1 (loops (codeOf Try.f28)) := by
  have hl : loops (codeOf Try.f28) = [loopOf Try.f28 5] := by kernel_rfl
  rw [hl]
  exact HintsOk.cons (n := 6) (lh := lh_spec_CheckReduction_6) (S := loopX s_spec_CheckReduction_6 x_spec_CheckReduction_6 w_spec_CheckReduction_6) (by kernel_rfl) rfl rfl (loopX_ok nat_spec_CheckReduction_6 st_spec_CheckReduction_6)
    (HintsOk.nil)
noncomputable def t_spec_CheckReduction {R : Type} (kx : Bool → Option R) (a0 : ((List Int) × (List Int))) (a1 : (List (Int × Int))) : Option R :=
  Option.bind (g_spec_l25Ok a0) fun y63 =>
  cond (!y63)
  (kx Bool.false)
  (Option.bind (g_spec_l25Own a0) fun y68 =>
   Option.bind (w_spec_CheckReduction_6 (m_spec_CheckReduction_6 a1 (0 : Int) y68.1 y68.2)) (exC x_spec_CheckReduction_6
   (fun e95 =>
    kx (e95.1.1.1 : Bool), fun e99 =>
    kx ((((List.length (e99.2.1.1.1 : List Int)) : Nat) : Int) == (1 : Int)), ())))
noncomputable def g_spec_CheckReduction (a0 : ((List Int) × (List Int))) (a1 : (List (Int × Int))) : Option (Bool) := t_spec_CheckReduction some a0 a1
theorem nat_spec_CheckReduction {R : Type} (kx : Bool → Option R) (a0 : ((List Int) × (List Int))) (a1 : (List (Int × Int))) : t_spec_CheckReduction kx a0 a1 = (g_spec_CheckReduction a0 a1).bind kx := by
  unfold g_spec_CheckReduction t_spec_CheckReduction
  exact nat_bind fun _ => nat_cond (rfl) (nat_bind fun _ => nat_exC ⟨fun _ => rfl, fun _ => rfl, trivial⟩)
abbrev as_spec_CheckReduction : List AX := [.val true (.pair (.slice (.int .i64)) (.slice (.int .i64))), .val false (.slice (.pair (.int .i64) (.int .i64)))]
abbrev en_spec_CheckReduction : Bool → AV × List CV := fun b => (.one ⟨false, [(.v (.bool b))]⟩, [])
noncomputable abbrev k_spec_CheckReduction : Contract := .fx as_spec_CheckReduction (Bool) (fun z => g_spec_CheckReduction z.1 z.2.1) en_spec_CheckReduction
theorem r_spec_CheckReduction (z : argsX as_spec_CheckReduction) : runF (tab C0 T_spec_CheckReduction) h_spec_CheckReduction 1 Try.f28 (lentOf as_spec_CheckReduction) (xBoxes as_spec_CheckReduction z) (xVals as_spec_CheckReduction 0 z) K2 = t_spec_CheckReduction (fun b => some (en_spec_CheckReduction b)) z.1 z.2.1 := by kernel_rfl
theorem so_spec_CheckReduction : Sound C0 28 k_spec_CheckReduction :=
  Sound.fx a_spec_CheckReduction mixed Try.func28 (by kernel_rfl) (by kernel_rfl) h_spec_CheckReduction 1 hs_spec_CheckReduction (fun z => (r_spec_CheckReduction z).trans (nat_spec_CheckReduction _ z.1 z.2.1))

/-! ### F63 impl.length[int64] -/
noncomputable def T_impl_length_int64 : List (FuncId × Contract) := []
theorem a_impl_length_int64 : AllSound C0 T_impl_length_int64 := .nil
noncomputable def t_impl_length_int64 {R : Type} (kx : Int → Option R) (a0 : (List Int)) : Option R :=
  kx (((List.length a0) : Nat) : Int)
noncomputable def g_impl_length_int64 (a0 : (List Int)) : Option (Int) := t_impl_length_int64 some a0
theorem nat_impl_length_int64 {R : Type} (kx : Int → Option R) (a0 : (List Int)) : t_impl_length_int64 kx a0 = (g_impl_length_int64 a0).bind kx := by
  unfold g_impl_length_int64 t_impl_length_int64
  exact rfl
abbrev as_impl_length_int64 : List AX := [.val false (.slice (.int .i64))]
abbrev en_impl_length_int64 : Int → AV × List CV := fun b => (.one ⟨false, [(.v (.int .i64 b))]⟩, [])
noncomputable abbrev k_impl_length_int64 : Contract := .fx as_impl_length_int64 (Int) (fun z => g_impl_length_int64 z.1) en_impl_length_int64
theorem r_impl_length_int64 (z : argsX as_impl_length_int64) : runF (tab C0 T_impl_length_int64) noHints 1 Try.f63 (lentOf as_impl_length_int64) (xBoxes as_impl_length_int64 z) (xVals as_impl_length_int64 0 z) K2 = t_impl_length_int64 (fun b => some (en_impl_length_int64 b)) z.1 := by kernel_rfl
theorem so_impl_length_int64 : Sound C0 63 k_impl_length_int64 :=
  Sound.fx a_impl_length_int64 mixed Try.func63 (by kernel_rfl) (by kernel_rfl) noHints 1 noHints_ok (fun z => (r_impl_length_int64 z).trans (nat_impl_length_int64 _ z.1))

/-! ### F62 impl.within -/
noncomputable def T_impl_within : List (FuncId × Contract) := []
theorem a_impl_within : AllSound C0 T_impl_within := .nil
noncomputable def t_impl_within {R : Type} (kx : Bool → Option R) (a0 : Int) (a1 : Int) (a2 : Int) : Option R :=
  cond (decide (a0 ≥ a1))
  (kx (decide (a0 ≤ a2)))
  (kx Bool.false)
noncomputable def g_impl_within (a0 : Int) (a1 : Int) (a2 : Int) : Option (Bool) := t_impl_within some a0 a1 a2
theorem nat_impl_within {R : Type} (kx : Bool → Option R) (a0 : Int) (a1 : Int) (a2 : Int) : t_impl_within kx a0 a1 a2 = (g_impl_within a0 a1 a2).bind kx := by
  unfold g_impl_within t_impl_within
  exact nat_cond (rfl) (rfl)
abbrev as_impl_within : List AX := [.val false (.int .i64), .val false (.int .i64), .val false (.int .i64)]
abbrev en_impl_within : Bool → AV × List CV := fun b => (.one ⟨false, [(.v (.bool b))]⟩, [])
noncomputable abbrev k_impl_within : Contract := .fx as_impl_within (Bool) (fun z => g_impl_within z.1 z.2.1 z.2.2.1) en_impl_within
theorem r_impl_within (z : argsX as_impl_within) : runF (tab C0 T_impl_within) noHints 1 Try.f62 (lentOf as_impl_within) (xBoxes as_impl_within z) (xVals as_impl_within 0 z) K2 = t_impl_within (fun b => some (en_impl_within b)) z.1 z.2.1 z.2.2.1 := by kernel_rfl
theorem so_impl_within : Sound C0 62 k_impl_within :=
  Sound.fx a_impl_within mixed Try.func62 (by kernel_rfl) (by kernel_rfl) noHints 1 noHints_ok (fun z => (r_impl_within z).trans (nat_impl_within _ z.1 z.2.1 z.2.2.1))

/-! ### F69 impl.areLengths$1 -/
noncomputable def T_impl_areLengths_1 : List (FuncId × Contract) := [(62, k_impl_within)]
theorem a_impl_areLengths_1 : AllSound C0 T_impl_areLengths_1 := .cons so_impl_within (.nil)
noncomputable def t_impl_areLengths_1 {R : Type} (kx : Bool → Option R) (a0 : Int) : Option R :=
  Option.bind (g_impl_within a0 (1 : Int) (1000 : Int)) fun y122 =>
  kx (!y122)
noncomputable def g_impl_areLengths_1 (a0 : Int) : Option (Bool) := t_impl_areLengths_1 some a0
theorem nat_impl_areLengths_1 {R : Type} (kx : Bool → Option R) (a0 : Int) : t_impl_areLengths_1 kx a0 = (g_impl_areLengths_1 a0).bind kx := by
  unfold g_impl_areLengths_1 t_impl_areLengths_1
  exact nat_bind fun _ => rfl
abbrev as_impl_areLengths_1 : List AX := [.val false (.int .i64)]
abbrev en_impl_areLengths_1 : Bool → AV × List CV := fun b => (.one ⟨false, [(.v (.bool b))]⟩, [])
noncomputable abbrev k_impl_areLengths_1 : Contract := .fx as_impl_areLengths_1 (Bool) (fun z => g_impl_areLengths_1 z.1) en_impl_areLengths_1
theorem r_impl_areLengths_1 (z : argsX as_impl_areLengths_1) : runF (tab C0 T_impl_areLengths_1) noHints 1 Try.f69 (lentOf as_impl_areLengths_1) (xBoxes as_impl_areLengths_1 z) (xVals as_impl_areLengths_1 0 z) K2 = t_impl_areLengths_1 (fun b => some (en_impl_areLengths_1 b)) z.1 := by kernel_rfl
theorem so_impl_areLengths_1 : Sound C0 69 k_impl_areLengths_1 :=
  Sound.fx a_impl_areLengths_1 mixed Try.func69 (by kernel_rfl) (by kernel_rfl) noHints 1 noHints_ok (fun z => (r_impl_areLengths_1 z).trans (nat_impl_areLengths_1 _ z.1))

/-! ### F78 slices.IndexFunc[[]int64,int64] -/
noncomputable def T_slices_IndexFunc_Sint64_int64__impl_areLengths_1 : List (FuncId × Contract) := [(69, k_impl_areLengths_1)]
theorem a_slices_IndexFunc_Sint64_int64__impl_areLengths_1 : AllSound C0 T_slices_IndexFunc_Sint64_int64__impl_areLengths_1 := .cons so_impl_areLengths_1 (.nil)
abbrev s_slices_IndexFunc_Sint64_int64__impl_areLengths_1_3 : LS := ⟨[(false, [(.sl (.int .i64))]), (false, [(.fn 69 [])]), (false, [(.int .i64)]), (false, [(.int .i64)])], [], []⟩
abbrev e_slices_IndexFunc_Sint64_int64__impl_areLengths_1_3_0 : LS := ⟨[(false, [(.int .i64)])], [], []⟩
abbrev d_slices_IndexFunc_Sint64_int64__impl_areLengths_1_3_0 (v0 : Int) : e_slices_IndexFunc_Sint64_int64__impl_areLengths_1_3_0.T := (((v0, ()), ()), (), ())
abbrev e_slices_IndexFunc_Sint64_int64__impl_areLengths_1_3_1 : LS := ⟨[(false, [.undef])], [], []⟩
abbrev d_slices_IndexFunc_Sint64_int64__impl_areLengths_1_3_1 : e_slices_IndexFunc_Sint64_int64__impl_areLengths_1_3_1.T := ((((), ()), ()), (), ())
abbrev x_slices_IndexFunc_Sint64_int64__impl_areLengths_1_3 : List (Ex × LS) := [(.ret, e_slices_IndexFunc_Sint64_int64__impl_areLengths_1_3_0), (.exit 0, e_slices_IndexFunc_Sint64_int64__impl_areLengths_1_3_1)]
abbrev m_slices_IndexFunc_Sint64_int64__impl_areLengths_1_3 (x0 : List Int) (x7 : Int) (x8 : Int) : s_slices_IndexFunc_Sint64_int64__impl_areLengths_1_3.T := (((x0, ()), ((), ()), (x7, ()), (x8, ()), ()), (), ())
noncomputable def u_slices_IndexFunc_Sint64_int64__impl_areLengths_1_3 {R : Type} (nx : s_slices_IndexFunc_Sint64_int64__impl_areLengths_1_3.T → Option R) (hx : exH R x_slices_IndexFunc_Sint64_int64__impl_areLengths_1_3) (x0 : List Int) (x7 : Int) (x8 : Int) : Option R :=
  cond (decide (x8 < x7))
  (Option.bind (idx x0 x8) fun y120 =>
   Option.bind (g_impl_areLengths_1 y120) fun y123 =>
   cond y123
   (hx.1 (d_slices_IndexFunc_Sint64_int64__impl_areLengths_1_3_0 x8))
   (nx (m_slices_IndexFunc_Sint64_int64__impl_areLengths_1_3 x0 x7 (IntKind.wrap IntKind.i64 (x8 + (1 : Int))))))
  (hx.2.1 (d_slices_IndexFunc_Sint64_int64__impl_areLengths_1_3_1))
noncomputable def t_slices_IndexFunc_Sint64_int64__impl_areLengths_1_3 {R : Type} (nx : s_slices_IndexFunc_Sint64_int64__impl_areLengths_1_3.T → Option R) (hx : exH R x_slices_IndexFunc_Sint64_int64__impl_areLengths_1_3) (z : s_slices_IndexFunc_Sint64_int64__impl_areLengths_1_3.T) : Option R := u_slices_IndexFunc_Sint64_int64__impl_areLengths_1_3 nx hx z.1.1.1 z.1.2.2.1.1 z.1.2.2.2.1.1
theorem nat_slices_IndexFunc_Sint64_int64__impl_areLengths_1_3 : Natural @t_slices_IndexFunc_Sint64_int64__impl_areLengths_1_3 := fun R nx hx z => by
  show u_slices_IndexFunc_Sint64_int64__impl_areLengths_1_3 nx hx z.1.1.1 z.1.2.2.1.1 z.1.2.2.2.1.1 = (u_slices_IndexFunc_Sint64_int64__impl_areLengths_1_3 (fun y => some (.inl y)) (hIn x_slices_IndexFunc_Sint64_int64__impl_areLengths_1_3 fun x => some (.inr x)) z.1.1.1 z.1.2.2.1.1 z.1.2.2.2.1.1).bind (goOn nx hx)
  unfold u_slices_IndexFunc_Sint64_int64__impl_areLengths_1_3
  exact nat_cond (nat_bind fun _ => nat_bind fun _ => nat_cond (rfl) (rfl)) (rfl)
noncomputable def w_slices_IndexFunc_Sint64_int64__impl_areLengths_1_3 : s_slices_IndexFunc_Sint64_int64__impl_areLengths_1_3.T → Option (exT x_slices_IndexFunc_Sint64_int64__impl_areLengths_1_3) := wOf @t_slices_IndexFunc_Sint64_int64__impl_areLengths_1_3
theorem wq_slices_IndexFunc_Sint64_int64__impl_areLengths_1_3 (x0 : List Int) (x7 : Int) (x8 : Int) : w_slices_IndexFunc_Sint64_int64__impl_areLengths_1_3 (m_slices_IndexFunc_Sint64_int64__impl_areLengths_1_3 x0 x7 x8) = u_slices_IndexFunc_Sint64_int64__impl_areLengths_1_3 w_slices_IndexFunc_Sint64_int64__impl_areLengths_1_3 (hIn x_slices_IndexFunc_Sint64_int64__impl_areLengths_1_3 some) x0 x7 x8 := wOf_eq nat_slices_IndexFunc_Sint64_int64__impl_areLengths_1_3 _
def lh_slices_IndexFunc_Sint64_int64__impl_areLengths_1_3 : LoopHint := ⟨[0, 1, 7, 8], [], [4], []⟩
noncomputable def h_slices_IndexFunc_Sint64_int64__impl_areLengths_1 : Hints Rv := ⟨fun k => match k with | 3 => lh_slices_IndexFunc_Sint64_int64__impl_areLengths_1_3 | _ => ⟨[], [], [], []⟩, fun k => match k with | 3 => some (loopX s_slices_IndexFunc_Sint64_int64__impl_areLengths_1_3 x_slices_IndexFunc_Sint64_int64__impl_areLengths_1_3 w_slices_IndexFunc_Sint64_int64__impl_areLengths_1_3) | _ => none⟩
theorem st_slices_IndexFunc_Sint64_int64__impl_areLengths_1_3 (n : Nat) (z : s_slices_IndexFunc_Sint64_int64__impl_areLengths_1_3.T) (k : Ex → Live → Option Rv) : loopN ⟨19, 19⟩ lh_slices_IndexFunc_Sint64_int64__impl_areLengths_1_3 (den (tab C0 T_slices_IndexFunc_Sint64_int64__impl_areLengths_1) ⟨19, 19⟩ h_slices_IndexFunc_Sint64_int64__impl_areLengths_1 1 (loopOf Try.f78 2)) (n + 1) (s_slices_IndexFunc_Sint64_int64__impl_areLengths_1_3.enc z) k =
    t_slices_IndexFunc_Sint64_int64__impl_areLengths_1_3 (fun y => loopN ⟨19, 19⟩ lh_slices_IndexFunc_Sint64_int64__impl_areLengths_1_3 (den (tab C0 T_slices_IndexFunc_Sint64_int64__impl_areLengths_1) ⟨19, 19⟩ h_slices_IndexFunc_Sint64_int64__impl_areLengths_1 1 (loopOf Try.f78 2)) n (s_slices_IndexFunc_Sint64_int64__impl_areLengths_1_3.enc y) k) (hK k x_slices_IndexFunc_Sint64_int64__impl_areLengths_1_3) z := by kernel_rfl
theorem hs_slices_IndexFunc_Sint64_int64__impl_areLengths_1 : HintsOk (tab C0 T_slices_IndexFunc_Sint64_int64__impl_areLengths_1) ⟨19, 19⟩ h_slices_IndexFunc_Sint64_int64__impl_areLengths_1 1 (loops (codeOf Try.f78)) := by
  have hl : loops (codeOf Try.f78) = [loopOf Try.f78 2] := by kernel_rfl
  rw [hl]
  exact HintsOk.cons (n := 3) (lh := lh_slices_IndexFunc_Sint64_int64__impl_areLengths_1_3) (S := loopX s_slices_IndexFunc_Sint64_int64__impl_areLengths_1_3 x_slices_IndexFunc_Sint64_int64__impl_areLengths_1_3 w_slices_IndexFunc_Sint64_int64__impl_areLengths_1_3) (by kernel_rfl) rfl rfl (loopX_ok nat_slices_IndexFunc_Sint64_int64__impl_areLengths_1_3 st_slices_IndexFunc_Sint64_int64__impl_areLengths_1_3)
    (HintsOk.nil)
noncomputable def t_slices_IndexFunc_Sint64_int64__impl_areLengths_1 {R : Type} (kx : Int → Option R) (a0 : (List Int)) : Option R :=
  Option.bind (w_slices_IndexFunc_Sint64_int64__impl_areLengths_1_3 (m_slices_IndexFunc_Sint64_int64__impl_areLengths_1_3 a0 (((List.length a0) : Nat) : Int) (0 : Int))) (exC x_slices_IndexFunc_Sint64_int64__impl_areLengths_1_3
  (fun e124 =>
   kx (e124.1.1.1 : Int), fun _ =>
   kx (-(1 : Int)), ()))
noncomputable def g_slices_IndexFunc_Sint64_int64__impl_areLengths_1 (a0 : (List Int)) : Option (Int) := t_slices_IndexFunc_Sint64_int64__impl_areLengths_1 some a0
theorem nat_slices_IndexFunc_Sint64_int64__impl_areLengths_1 {R : Type} (kx : Int → Option R) (a0 : (List Int)) : t_slices_IndexFunc_Sint64_int64__impl_areLengths_1 kx a0 = (g_slices_IndexFunc_Sint64_int64__impl_areLengths_1 a0).bind kx := by
  unfold g_slices_IndexFunc_Sint64_int64__impl_areLengths_1 t_slices_IndexFunc_Sint64_int64__impl_areLengths_1
  exact nat_exC ⟨fun _ => rfl, fun _ => rfl, trivial⟩
abbrev as_slices_IndexFunc_Sint64_int64__impl_areLengths_1 : List AX := [.val false (.slice (.int .i64)), .clo 69 []]
abbrev en_slices_IndexFunc_Sint64_int64__impl_areLengths_1 : Int → AV × List CV := fun b => (.one ⟨false, [(.v (.int .i64 b))]⟩, [])
noncomputable abbrev k_slices_IndexFunc_Sint64_int64__impl_areLengths_1 : Contract := .fx as_slices_IndexFunc_Sint64_int64__impl_areLengths_1 (Int) (fun z => g_slices_IndexFunc_Sint64_int64__impl_areLengths_1 z.1) en_slices_IndexFunc_Sint64_int64__impl_areLengths_1
theorem r_slices_IndexFunc_Sint64_int64__impl_areLengths_1 (z : argsX as_slices_IndexFunc_Sint64_int64__impl_areLengths_1) : runF (tab C0 T_slices_IndexFunc_Sint64_int64__impl_areLengths_1) h_slices_IndexFunc_Sint64_int64__impl_areLengths_1 1 Try.f78 (lentOf as_slices_IndexFunc_Sint64_int64__impl_areLengths_1) (xBoxes as_slices_IndexFunc_Sint64_int64__impl_areLengths_1 z) (xVals as_slices_IndexFunc_Sint64_int64__impl_areLengths_1 0 z) K2 = t_slices_IndexFunc_Sint64_int64__impl_areLengths_1 (fun b => some (en_slices_IndexFunc_Sint64_int64__impl_areLengths_1 b)) z.1 := by kernel_rfl
theorem so_slices_IndexFunc_Sint64_int64__impl_areLengths_1 : Sound C0 78 k_slices_IndexFunc_Sint64_int64__impl_areLengths_1 :=
  Sound.fx a_slices_IndexFunc_Sint64_int64__impl_areLengths_1 mixed Try.func78 (by kernel_rfl) (by kernel_rfl) h_slices_IndexFunc_Sint64_int64__impl_areLengths_1 1 hs_slices_IndexFunc_Sint64_int64__impl_areLengths_1 (fun z => (r_slices_IndexFunc_Sint64_int64__impl_areLengths_1 z).trans (nat_slices_IndexFunc_Sint64_int64__impl_areLengths_1 _ z.1))

/-! ### F60 slices.ContainsFunc[[]int64,int64] -/
noncomputable def T_slices_ContainsFunc_Sint64_int64__impl_areLengths_1 : List (FuncId × Contract) := [(78, k_slices_IndexFunc_Sint64_int64__impl_areLengths_1)]
theorem a_slices_ContainsFunc_Sint64_int64__impl_areLengths_1 : AllSound C0 T_slices_ContainsFunc_Sint64_int64__impl_areLengths_1 := .cons so_slices_IndexFunc_Sint64_int64__impl_areLengths_1 (.nil)
noncomputable def t_slices_ContainsFunc_Sint64_int64__impl_areLengths_1 {R : Type} (kx : Bool → Option R) (a0 : (List Int)) : Option R :=
  Option.bind (g_slices_IndexFunc_Sint64_int64__impl_areLengths_1 a0) fun y127 =>
  kx (decide (y127 ≥ (0 : Int)))
noncomputable def g_slices_ContainsFunc_Sint64_int64__impl_areLengths_1 (a0 : (List Int)) : Option (Bool) := t_slices_ContainsFunc_Sint64_int64__impl_areLengths_1 some a0
theorem nat_slices_ContainsFunc_Sint64_int64__impl_areLengths_1 {R : Type} (kx : Bool → Option R) (a0 : (List Int)) : t_slices_ContainsFunc_Sint64_int64__impl_areLengths_1 kx a0 = (g_slices_ContainsFunc_Sint64_int64__impl_areLengths_1 a0).bind kx := by
  unfold g_slices_ContainsFunc_Sint64_int64__impl_areLengths_1 t_slices_ContainsFunc_Sint64_int64__impl_areLengths_1
  exact nat_bind fun _ => rfl
abbrev as_slices_ContainsFunc_Sint64_int64__impl_areLengths_1 : List AX := [.val false (.slice (.int .i64)), .clo 69 []]
abbrev en_slices_ContainsFunc_Sint64_int64__impl_areLengths_1 : Bool → AV × List CV := fun b => (.one ⟨false, [(.v (.bool b))]⟩, [])
noncomputable abbrev k_slices_ContainsFunc_Sint64_int64__impl_areLengths_1 : Contract := .fx as_slices_ContainsFunc_Sint64_int64__impl_areLengths_1 (Bool) (fun z => g_slices_ContainsFunc_Sint64_int64__impl_areLengths_1 z.1) en_slices_ContainsFunc_Sint64_int64__impl_areLengths_1
theorem r_slices_ContainsFunc_Sint64_int64__impl_areLengths_1 (z : argsX as_slices_ContainsFunc_Sint64_int64__impl_areLengths_1) : runF (tab C0 T_slices_ContainsFunc_Sint64_int64__impl_areLengths_1) noHints 1 Try.f60 (lentOf as_slices_ContainsFunc_Sint64_int64__impl_areLengths_1) (xBoxes as_slices_ContainsFunc_Sint64_int64__impl_areLengths_1 z) (xVals as_slices_ContainsFunc_Sint64_int64__impl_areLengths_1 0 z) K2 = t_slices_ContainsFunc_Sint64_int64__impl_areLengths_1 (fun b => some (en_slices_ContainsFunc_Sint64_int64__impl_areLengths_1 b)) z.1 := by kernel_rfl
theorem so_slices_ContainsFunc_Sint64_int64__impl_areLengths_1 : Sound C0 60 k_slices_ContainsFunc_Sint64_int64__impl_areLengths_1 :=
  Sound.fx a_slices_ContainsFunc_Sint64_int64__impl_areLengths_1 mixed Try.func60 (by kernel_rfl) (by kernel_rfl) noHints 1 noHints_ok (fun z => (r_slices_ContainsFunc_Sint64_int64__impl_areLengths_1 z).trans (nat_slices_ContainsFunc_Sint64_int64__impl_areLengths_1 _ z.1))

/-! ### F70 impl.sumOf -/
noncomputable def T_impl_sumOf : List (FuncId × Contract) := []
theorem a_impl_sumOf : AllSound C0 T_impl_sumOf := .nil
abbrev s_impl_sumOf_4 : LS := ⟨[(false, [(.int .i64)]), (false, [(.sl (.int .i64))]), (false, [(.int .i64)]), (false, [(.int .i64)])], [], []⟩
abbrev e_impl_sumOf_4_0 : LS := ⟨[(false, [(.int .i64)])], [], []⟩
abbrev d_impl_sumOf_4_0 (v0 : Int) : e_impl_sumOf_4_0.T := (((v0, ()), ()), (), ())
abbrev x_impl_sumOf_4 : List (Ex × LS) := [(.exit 0, e_impl_sumOf_4_0)]
abbrev m_impl_sumOf_4 (x3 : Int) (x6 : List Int) (x7 : Int) (x8 : Int) : s_impl_sumOf_4.T := (((x3, ()), (x6, ()), (x7, ()), (x8, ()), ()), (), ())
noncomputable def u_impl_sumOf_4 {R : Type} (nx : s_impl_sumOf_4.T → Option R) (hx : exH R x_impl_sumOf_4) (x3 : Int) (x6 : List Int) (x7 : Int) (x8 : Int) : Option R :=
  cond (decide (x8 < x7))
  (Option.bind (idx x6 x8) fun y134 =>
   nx (m_impl_sumOf_4 (IntKind.wrap IntKind.i64 (x3 + y134)) x6 x7 (IntKind.wrap IntKind.i64 (x8 + (1 : Int)))))
  (hx.1 (d_impl_sumOf_4_0 x3))
noncomputable def t_impl_sumOf_4 {R : Type} (nx : s_impl_sumOf_4.T → Option R) (hx : exH R x_impl_sumOf_4) (z : s_impl_sumOf_4.T) : Option R := u_impl_sumOf_4 nx hx z.1.1.1 z.1.2.1.1 z.1.2.2.1.1 z.1.2.2.2.1.1
theorem nat_impl_sumOf_4 : Natural @t_impl_sumOf_4 := fun R nx hx z => by
  show u_impl_sumOf_4 nx hx z.1.1.1 z.1.2.1.1 z.1.2.2.1.1 z.1.2.2.2.1.1 = (u_impl_sumOf_4 (fun y => some (.inl y)) (hIn x_impl_sumOf_4 fun x => some (.inr x)) z.1.1.1 z.1.2.1.1 z.1.2.2.1.1 z.1.2.2.2.1.1).bind (goOn nx hx)
  unfold u_impl_sumOf_4
  exact nat_cond (nat_bind fun _ => rfl) (rfl)
noncomputable def w_impl_sumOf_4 : s_impl_sumOf_4.T → Option (exT x_impl_sumOf_4) := wOf @t_impl_sumOf_4
theorem wq_impl_sumOf_4 (x3 : Int) (x6 : List Int) (x7 : Int) (x8 : Int) : w_impl_sumOf_4 (m_impl_sumOf_4 x3 x6 x7 x8) = u_impl_sumOf_4 w_impl_sumOf_4 (hIn x_impl_sumOf_4 some) x3 x6 x7 x8 := wOf_eq nat_impl_sumOf_4 _
def lh_impl_sumOf_4 : LoopHint := ⟨[3, 6, 7, 8], [], [3], []⟩
noncomputable def h_impl_sumOf : Hints Rv := ⟨fun k => match k with | 4 => lh_impl_sumOf_4 | _ => ⟨[], [], [], []⟩, fun k => match k with | 4 => some (loopX s_impl_sumOf_4 x_impl_sumOf_4 w_impl_sumOf_4) | _ => none⟩
theorem st_impl_sumOf_4 (n : Nat) (z : s_impl_sumOf_4.T) (k : Ex → Live → Option Rv) : loopN ⟨17, 17⟩ lh_impl_sumOf_4 (den (tab C0 T_impl_sumOf) ⟨17, 17⟩ h_impl_sumOf 1 (loopOf Try.f70 3)) (n + 1) (s_impl_sumOf_4.enc z) k =
    t_impl_sumOf_4 (fun y => loopN ⟨17, 17⟩ lh_impl_sumOf_4 (den (tab C0 T_impl_sumOf) ⟨17, 17⟩ h_impl_sumOf 1 (loopOf Try.f70 3)) n (s_impl_sumOf_4.enc y) k) (hK k x_impl_sumOf_4) z := by kernel_rfl
theorem hs_impl_sumOf : HintsOk (tab C0 T_impl_sumOf) ⟨17, 17⟩ h_impl_sumOf 1 (loops (codeOf Try.f70)) := by
  have hl : loops (codeOf Try.f70) = [loopOf Try.f70 3] := by kernel_rfl
  rw [hl]
  exact HintsOk.cons (n := 4) (lh := lh_impl_sumOf_4) (S := loopX s_impl_sumOf_4 x_impl_sumOf_4 w_impl_sumOf_4) (by kernel_rfl) rfl rfl (loopX_ok nat_impl_sumOf_4 st_impl_sumOf_4)
    (HintsOk.nil)
noncomputable def t_impl_sumOf {R : Type} (kx : Int → Option R) (a0 : (List Int)) : Option R :=
  Option.bind (w_impl_sumOf_4 (m_impl_sumOf_4 (0 : Int) a0 (((List.length a0) : Nat) : Int) (0 : Int))) (exC x_impl_sumOf_4
  (fun e135 =>
   kx (e135.1.1.1 : Int), ()))
noncomputable def g_impl_sumOf (a0 : (List Int)) : Option (Int) := t_impl_sumOf some a0
theorem nat_impl_sumOf {R : Type} (kx : Int → Option R) (a0 : (List Int)) : t_impl_sumOf kx a0 = (g_impl_sumOf a0).bind kx := by
  unfold g_impl_sumOf t_impl_sumOf
  exact nat_exC ⟨fun _ => rfl, trivial⟩
abbrev as_impl_sumOf : List AX := [.val false (.slice (.int .i64))]
abbrev en_impl_sumOf : Int → AV × List CV := fun b => (.one ⟨false, [(.v (.int .i64 b))]⟩, [])
noncomputable abbrev k_impl_sumOf : Contract := .fx as_impl_sumOf (Int) (fun z => g_impl_sumOf z.1) en_impl_sumOf
theorem r_impl_sumOf (z : argsX as_impl_sumOf) : runF (tab C0 T_impl_sumOf) h_impl_sumOf 1 Try.f70 (lentOf as_impl_sumOf) (xBoxes as_impl_sumOf z) (xVals as_impl_sumOf 0 z) K2 = t_impl_sumOf (fun b => some (en_impl_sumOf b)) z.1 := by kernel_rfl
theorem so_impl_sumOf : Sound C0 70 k_impl_sumOf :=
  Sound.fx a_impl_sumOf mixed Try.func70 (by kernel_rfl) (by kernel_rfl) h_impl_sumOf 1 hs_impl_sumOf (fun z => (r_impl_sumOf z).trans (nat_impl_sumOf _ z.1))

/-! ### F51 impl.areLengths -/
noncomputable def T_impl_areLengths : List (FuncId × Contract) := [(63, k_impl_length_int64), (62, k_impl_within), (60, k_slices_ContainsFunc_Sint64_int64__impl_areLengths_1), (70, k_impl_sumOf)]
theorem a_impl_areLengths : AllSound C0 T_impl_areLengths := .cons so_impl_length_int64 (.cons so_impl_within (.cons so_slices_ContainsFunc_Sint64_int64__impl_areLengths_1 (.cons so_impl_sumOf (.nil))))
noncomputable def t_impl_areLengths {R : Type} (kx : Bool → Option R) (a0 : (List Int)) : Option R :=
  Option.bind (g_impl_length_int64 a0) fun y110 =>
  Option.bind (g_impl_within y110 (1 : Int) (14 : Int)) fun y114 =>
  cond y114
  (Option.bind (g_slices_ContainsFunc_Sint64_int64__impl_areLengths_1 a0) fun y128 =>
   cond (!y128)
   (Option.bind (g_impl_sumOf a0) fun y137 =>
    kx (decide (y137 ≤ (1000 : Int))))
   (kx Bool.false))
  (kx Bool.false)
noncomputable def g_impl_areLengths (a0 : (List Int)) : Option (Bool) := t_impl_areLengths some a0
theorem nat_impl_areLengths {R : Type} (kx : Bool → Option R) (a0 : (List Int)) : t_impl_areLengths kx a0 = (g_impl_areLengths a0).bind kx := by
  unfold g_impl_areLengths t_impl_areLengths
  exact nat_bind fun _ => nat_bind fun _ => nat_cond (nat_bind fun _ => nat_cond (nat_bind fun _ => rfl) (rfl)) (rfl)
abbrev as_impl_areLengths : List AX := [.val false (.slice (.int .i64))]
abbrev en_impl_areLengths : Bool → AV × List CV := fun b => (.one ⟨false, [(.v (.bool b))]⟩, [])
noncomputable abbrev k_impl_areLengths : Contract := .fx as_impl_areLengths (Bool) (fun z => g_impl_areLengths z.1) en_impl_areLengths
theorem r_impl_areLengths (z : argsX as_impl_areLengths) : runF (tab C0 T_impl_areLengths) noHints 1 Try.f51 (lentOf as_impl_areLengths) (xBoxes as_impl_areLengths z) (xVals as_impl_areLengths 0 z) K2 = t_impl_areLengths (fun b => some (en_impl_areLengths b)) z.1 := by kernel_rfl
theorem so_impl_areLengths : Sound C0 51 k_impl_areLengths :=
  Sound.fx a_impl_areLengths mixed Try.func51 (by kernel_rfl) (by kernel_rfl) noHints 1 noHints_ok (fun z => (r_impl_areLengths z).trans (nat_impl_areLengths _ z.1))

/-! ### F61 impl.ValidStrip$1 -/
noncomputable def T_impl_ValidStrip_1 : List (FuncId × Contract) := [(62, k_impl_within)]
theorem a_impl_ValidStrip_1 : AllSound C0 T_impl_ValidStrip_1 := .cons so_impl_within (.nil)
noncomputable def t_impl_ValidStrip_1 {R : Type} (kx : Bool → Option R) (a0 : Int) : Option R :=
  Option.bind (g_impl_within a0 (2 : Int) (3 : Int)) fun y146 =>
  kx (!y146)
noncomputable def g_impl_ValidStrip_1 (a0 : Int) : Option (Bool) := t_impl_ValidStrip_1 some a0
theorem nat_impl_ValidStrip_1 {R : Type} (kx : Bool → Option R) (a0 : Int) : t_impl_ValidStrip_1 kx a0 = (g_impl_ValidStrip_1 a0).bind kx := by
  unfold g_impl_ValidStrip_1 t_impl_ValidStrip_1
  exact nat_bind fun _ => rfl
abbrev as_impl_ValidStrip_1 : List AX := [.val false (.int .i64)]
abbrev en_impl_ValidStrip_1 : Bool → AV × List CV := fun b => (.one ⟨false, [(.v (.bool b))]⟩, [])
noncomputable abbrev k_impl_ValidStrip_1 : Contract := .fx as_impl_ValidStrip_1 (Bool) (fun z => g_impl_ValidStrip_1 z.1) en_impl_ValidStrip_1
theorem r_impl_ValidStrip_1 (z : argsX as_impl_ValidStrip_1) : runF (tab C0 T_impl_ValidStrip_1) noHints 1 Try.f61 (lentOf as_impl_ValidStrip_1) (xBoxes as_impl_ValidStrip_1 z) (xVals as_impl_ValidStrip_1 0 z) K2 = t_impl_ValidStrip_1 (fun b => some (en_impl_ValidStrip_1 b)) z.1 := by kernel_rfl
theorem so_impl_ValidStrip_1 : Sound C0 61 k_impl_ValidStrip_1 :=
  Sound.fx a_impl_ValidStrip_1 mixed Try.func61 (by kernel_rfl) (by kernel_rfl) noHints 1 noHints_ok (fun z => (r_impl_ValidStrip_1 z).trans (nat_impl_ValidStrip_1 _ z.1))

/-! ### F78 slices.IndexFunc[[]int64,int64] -/
noncomputable def T_slices_IndexFunc_Sint64_int64__impl_ValidStrip_1 : List (FuncId × Contract) := [(61, k_impl_ValidStrip_1)]
theorem a_slices_IndexFunc_Sint64_int64__impl_ValidStrip_1 : AllSound C0 T_slices_IndexFunc_Sint64_int64__impl_ValidStrip_1 := .cons so_impl_ValidStrip_1 (.nil)
abbrev s_slices_IndexFunc_Sint64_int64__impl_ValidStrip_1_3 : LS := ⟨[(false, [(.sl (.int .i64))]), (false, [(.fn 61 [])]), (false, [(.int .i64)]), (false, [(.int .i64)])], [], []⟩
abbrev e_slices_IndexFunc_Sint64_int64__impl_ValidStrip_1_3_0 : LS := ⟨[(false, [(.int .i64)])], [], []⟩
abbrev d_slices_IndexFunc_Sint64_int64__impl_ValidStrip_1_3_0 (v0 : Int) : e_slices_IndexFunc_Sint64_int64__impl_ValidStrip_1_3_0.T := (((v0, ()), ()), (), ())
abbrev e_slices_IndexFunc_Sint64_int64__impl_ValidStrip_1_3_1 : LS := ⟨[(false, [.undef])], [], []⟩
abbrev d_slices_IndexFunc_Sint64_int64__impl_ValidStrip_1_3_1 : e_slices_IndexFunc_Sint64_int64__impl_ValidStrip_1_3_1.T := ((((), ()), ()), (), ())
abbrev x_slices_IndexFunc_Sint64_int64__impl_ValidStrip_1_3 : List (Ex × LS) := [(.ret, e_slices_IndexFunc_Sint64_int64__impl_ValidStrip_1_3_0), (.exit 0, e_slices_IndexFunc_Sint64_int64__impl_ValidStrip_1_3_1)]
abbrev m_slices_IndexFunc_Sint64_int64__impl_ValidStrip_1_3 (x0 : List Int) (x7 : Int) (x8 : Int) : s_slices_IndexFunc_Sint64_int64__impl_ValidStrip_1_3.T := (((x0, ()), ((), ()), (x7, ()), (x8, ()), ()), (), ())
noncomputable def u_slices_IndexFunc_Sint64_int64__impl_ValidStrip_1_3 {R : Type} (nx : s_slices_IndexFunc_Sint64_int64__impl_ValidStrip_1_3.T → Option R) (hx : exH R x_slices_IndexFunc_Sint64_int64__impl_ValidStrip_1_3) (x0 : List Int) (x7 : Int) (x8 : Int) : Option R :=
  cond (decide (x8 < x7))
  (Option.bind (idx x0 x8) fun y144 =>
   Option.bind (g_impl_ValidStrip_1 y144) fun y147 =>
   cond y147
   (hx.1 (d_slices_IndexFunc_Sint64_int64__impl_ValidStrip_1_3_0 x8))
   (nx (m_slices_IndexFunc_Sint64_int64__impl_ValidStrip_1_3 x0 x7 (IntKind.wrap IntKind.i64 (x8 + (1 : Int))))))
  (hx.2.1 (d_slices_IndexFunc_Sint64_int64__impl_ValidStrip_1_3_1))
noncomputable def t_slices_IndexFunc_Sint64_int64__impl_ValidStrip_1_3 {R : Type} (nx : s_slices_IndexFunc_Sint64_int64__impl_ValidStrip_1_3.T → Option R) (hx : exH R x_slices_IndexFunc_Sint64_int64__impl_ValidStrip_1_3) (z : s_slices_IndexFunc_Sint64_int64__impl_ValidStrip_1_3.T) : Option R := u_slices_IndexFunc_Sint64_int64__impl_ValidStrip_1_3 nx hx z.1.1.1 z.1.2.2.1.1 z.1.2.2.2.1.1
theorem nat_slices_IndexFunc_Sint64_int64__impl_ValidStrip_1_3 : Natural @t_slices_IndexFunc_Sint64_int64__impl_ValidStrip_1_3 := fun R nx hx z => by
  show u_slices_IndexFunc_Sint64_int64__impl_ValidStrip_1_3 nx hx z.1.1.1 z.1.2.2.1.1 z.1.2.2.2.1.1 = (u_slices_IndexFunc_Sint64_int64__impl_ValidStrip_1_3 (fun y => some (.inl y)) (hIn x_slices_IndexFunc_Sint64_int64__impl_ValidStrip_1_3 fun x => some (.inr x)) z.1.1.1 z.1.2.2.1.1 z.1.2.2.2.1.1).bind (goOn nx hx)
  unfold u_slices_IndexFunc_Sint64_int64__impl_ValidStrip_1_3
  exact nat_cond (nat_bind fun _ => nat_bind fun _ => nat_cond (rfl) (rfl)) (rfl)
noncomputable def w_slices_IndexFunc_Sint64_int64__impl_ValidStrip_1_3 : s_slices_IndexFunc_Sint64_int64__impl_ValidStrip_1_3.T → Option (exT x_slices_IndexFunc_Sint64_int64__impl_ValidStrip_1_3) := wOf @t_slices_IndexFunc_Sint64_int64__impl_ValidStrip_1_3
theorem wq_slices_IndexFunc_Sint64_int64__impl_ValidStrip_1_3 (x0 : List Int) (x7 : Int) (x8 : Int) : w_slices_IndexFunc_Sint64_int64__impl_ValidStrip_1_3 (m_slices_IndexFunc_Sint64_int64__impl_ValidStrip_1_3 x0 x7 x8) = u_slices_IndexFunc_Sint64_int64__impl_ValidStrip_1_3 w_slices_IndexFunc_Sint64_int64__impl_ValidStrip_1_3 (hIn x_slices_IndexFunc_Sint64_int64__impl_ValidStrip_1_3 some) x0 x7 x8 := wOf_eq nat_slices_IndexFunc_Sint64_int64__impl_ValidStrip_1_3 _
def lh_slices_IndexFunc_Sint64_int64__impl_ValidStrip_1_3 : LoopHint := ⟨[0, 1, 7, 8], [], [4], []⟩
noncomputable def h_slices_IndexFunc_Sint64_int64__impl_ValidStrip_1 : Hints Rv := ⟨fun k => match k with | 3 => lh_slices_IndexFunc_Sint64_int64__impl_ValidStrip_1_3 | _ => ⟨[], [], [], []⟩, fun k => match k with | 3 => some (loopX s_slices_IndexFunc_Sint64_int64__impl_ValidStrip_1_3 x_slices_IndexFunc_Sint64_int64__impl_ValidStrip_1_3 w_slices_IndexFunc_Sint64_int64__impl_ValidStrip_1_3) | _ => none⟩
theorem st_slices_IndexFunc_Sint64_int64__impl_ValidStrip_1_3 (n : Nat) (z : s_slices_IndexFunc_Sint64_int64__impl_ValidStrip_1_3.T) (k : Ex → Live → Option Rv) : loopN ⟨19, 19⟩ lh_slices_IndexFunc_Sint64_int64__impl_ValidStrip_1_3 (den (tab C0 T_slices_IndexFunc_Sint64_int64__impl_ValidStrip_1) ⟨19, 19⟩ h_slices_IndexFunc_Sint64_int64__impl_ValidStrip_1 1 (loopOf Try.f78 2)) (n + 1) (s_slices_IndexFunc_Sint64_int64__impl_ValidStrip_1_3.enc z) k =
    t_slices_IndexFunc_Sint64_int64__impl_ValidStrip_1_3 (fun y => loopN ⟨19, 19⟩ lh_slices_IndexFunc_Sint64_int64__impl_ValidStrip_1_3 (den (tab C0 T_slices_IndexFunc_Sint64_int64__impl_ValidStrip_1) ⟨19, 19⟩ h_slices_IndexFunc_Sint64_int64__impl_ValidStrip_1 1 (loopOf Try.f78 2)) n (s_slices_IndexFunc_Sint64_int64__impl_ValidStrip_1_3.enc y) k) (hK k x_slices_IndexFunc_Sint64_int64__impl_ValidStrip_1_3) z := by kernel_rfl
theorem hs_slices_IndexFunc_Sint64_int64__impl_ValidStrip_1 : HintsOk (tab C0 T_slices_IndexFunc_Sint64_int64__impl_ValidStrip_1) ⟨19, 19⟩ h_slices_IndexFunc_Sint64_int64__impl_ValidStrip_1 1 (loops (codeOf Try.f78)) := by
  have hl : loops (codeOf Try.f78) = [loopOf Try.f78 2] := by kernel_rfl
  rw [hl]
  exact HintsOk.cons (n := 3) (lh := lh_slices_IndexFunc_Sint64_int64__impl_ValidStrip_1_3) (S := loopX s_slices_IndexFunc_Sint64_int64__impl_ValidStrip_1_3 x_slices_IndexFunc_Sint64_int64__impl_ValidStrip_1_3 w_slices_IndexFunc_Sint64_int64__impl_ValidStrip_1_3) (by kernel_rfl) rfl rfl (loopX_ok nat_slices_IndexFunc_Sint64_int64__impl_ValidStrip_1_3 st_slices_IndexFunc_Sint64_int64__impl_ValidStrip_1_3)
    (HintsOk.nil)
noncomputable def t_slices_IndexFunc_Sint64_int64__impl_ValidStrip_1 {R : Type} (kx : Int → Option R) (a0 : (List Int)) : Option R :=
  Option.bind (w_slices_IndexFunc_Sint64_int64__impl_ValidStrip_1_3 (m_slices_IndexFunc_Sint64_int64__impl_ValidStrip_1_3 a0 (((List.length a0) : Nat) : Int) (0 : Int))) (exC x_slices_IndexFunc_Sint64_int64__impl_ValidStrip_1_3
  (fun e148 =>
   kx (e148.1.1.1 : Int), fun _ =>
   kx (-(1 : Int)), ()))
noncomputable def g_slices_IndexFunc_Sint64_int64__impl_ValidStrip_1 (a0 : (List Int)) : Option (Int) := t_slices_IndexFunc_Sint64_int64__impl_ValidStrip_1 some a0
theorem nat_slices_IndexFunc_Sint64_int64__impl_ValidStrip_1 {R : Type} (kx : Int → Option R) (a0 : (List Int)) : t_slices_IndexFunc_Sint64_int64__impl_ValidStrip_1 kx a0 = (g_slices_IndexFunc_Sint64_int64__impl_ValidStrip_1 a0).bind kx := by
  unfold g_slices_IndexFunc_Sint64_int64__impl_ValidStrip_1 t_slices_IndexFunc_Sint64_int64__impl_ValidStrip_1
  exact nat_exC ⟨fun _ => rfl, fun _ => rfl, trivial⟩
abbrev as_slices_IndexFunc_Sint64_int64__impl_ValidStrip_1 : List AX := [.val false (.slice (.int .i64)), .clo 61 []]
abbrev en_slices_IndexFunc_Sint64_int64__impl_ValidStrip_1 : Int → AV × List CV := fun b => (.one ⟨false, [(.v (.int .i64 b))]⟩, [])
noncomputable abbrev k_slices_IndexFunc_Sint64_int64__impl_ValidStrip_1 : Contract := .fx as_slices_IndexFunc_Sint64_int64__impl_ValidStrip_1 (Int) (fun z => g_slices_IndexFunc_Sint64_int64__impl_ValidStrip_1 z.1) en_slices_IndexFunc_Sint64_int64__impl_ValidStrip_1
theorem r_slices_IndexFunc_Sint64_int64__impl_ValidStrip_1 (z : argsX as_slices_IndexFunc_Sint64_int64__impl_ValidStrip_1) : runF (tab C0 T_slices_IndexFunc_Sint64_int64__impl_ValidStrip_1) h_slices_IndexFunc_Sint64_int64__impl_ValidStrip_1 1 Try.f78 (lentOf as_slices_IndexFunc_Sint64_int64__impl_ValidStrip_1) (xBoxes as_slices_IndexFunc_Sint64_int64__impl_ValidStrip_1 z) (xVals as_slices_IndexFunc_Sint64_int64__impl_ValidStrip_1 0 z) K2 = t_slices_IndexFunc_Sint64_int64__impl_ValidStrip_1 (fun b => some (en_slices_IndexFunc_Sint64_int64__impl_ValidStrip_1 b)) z.1 := by kernel_rfl
theorem so_slices_IndexFunc_Sint64_int64__impl_ValidStrip_1 : Sound C0 78 k_slices_IndexFunc_Sint64_int64__impl_ValidStrip_1 :=
  Sound.fx a_slices_IndexFunc_Sint64_int64__impl_ValidStrip_1 mixed Try.func78 (by kernel_rfl) (by kernel_rfl) h_slices_IndexFunc_Sint64_int64__impl_ValidStrip_1 1 hs_slices_IndexFunc_Sint64_int64__impl_ValidStrip_1 (fun z => (r_slices_IndexFunc_Sint64_int64__impl_ValidStrip_1 z).trans (nat_slices_IndexFunc_Sint64_int64__impl_ValidStrip_1 _ z.1))

/-! ### F60 slices.ContainsFunc[[]int64,int64] -/
noncomputable def T_slices_ContainsFunc_Sint64_int64__impl_ValidStrip_1 : List (FuncId × Contract) := [(78, k_slices_IndexFunc_Sint64_int64__impl_ValidStrip_1)]
theorem a_slices_ContainsFunc_Sint64_int64__impl_ValidStrip_1 : AllSound C0 T_slices_ContainsFunc_Sint64_int64__impl_ValidStrip_1 := .cons so_slices_IndexFunc_Sint64_int64__impl_ValidStrip_1 (.nil)
noncomputable def t_slices_ContainsFunc_Sint64_int64__impl_ValidStrip_1 {R : Type} (kx : Bool → Option R) (a0 : (List Int)) : Option R :=
  Option.bind (g_slices_IndexFunc_Sint64_int64__impl_ValidStrip_1 a0) fun y151 =>
  kx (decide (y151 ≥ (0 : Int)))
noncomputable def g_slices_ContainsFunc_Sint64_int64__impl_ValidStrip_1 (a0 : (List Int)) : Option (Bool) := t_slices_ContainsFunc_Sint64_int64__impl_ValidStrip_1 some a0
theorem nat_slices_ContainsFunc_Sint64_int64__impl_ValidStrip_1 {R : Type} (kx : Bool → Option R) (a0 : (List Int)) : t_slices_ContainsFunc_Sint64_int64__impl_ValidStrip_1 kx a0 = (g_slices_ContainsFunc_Sint64_int64__impl_ValidStrip_1 a0).bind kx := by
  unfold g_slices_ContainsFunc_Sint64_int64__impl_ValidStrip_1 t_slices_ContainsFunc_Sint64_int64__impl_ValidStrip_1
  exact nat_bind fun _ => rfl
abbrev as_slices_ContainsFunc_Sint64_int64__impl_ValidStrip_1 : List AX := [.val false (.slice (.int .i64)), .clo 61 []]
abbrev en_slices_ContainsFunc_Sint64_int64__impl_ValidStrip_1 : Bool → AV × List CV := fun b => (.one ⟨false, [(.v (.bool b))]⟩, [])
noncomputable abbrev k_slices_ContainsFunc_Sint64_int64__impl_ValidStrip_1 : Contract := .fx as_slices_ContainsFunc_Sint64_int64__impl_ValidStrip_1 (Bool) (fun z => g_slices_ContainsFunc_Sint64_int64__impl_ValidStrip_1 z.1) en_slices_ContainsFunc_Sint64_int64__impl_ValidStrip_1
theorem r_slices_ContainsFunc_Sint64_int64__impl_ValidStrip_1 (z : argsX as_slices_ContainsFunc_Sint64_int64__impl_ValidStrip_1) : runF (tab C0 T_slices_ContainsFunc_Sint64_int64__impl_ValidStrip_1) noHints 1 Try.f60 (lentOf as_slices_ContainsFunc_Sint64_int64__impl_ValidStrip_1) (xBoxes as_slices_ContainsFunc_Sint64_int64__impl_ValidStrip_1 z) (xVals as_slices_ContainsFunc_Sint64_int64__impl_ValidStrip_1 0 z) K2 = t_slices_ContainsFunc_Sint64_int64__impl_ValidStrip_1 (fun b => some (en_slices_ContainsFunc_Sint64_int64__impl_ValidStrip_1 b)) z.1 := by kernel_rfl
theorem so_slices_ContainsFunc_Sint64_int64__impl_ValidStrip_1 : Sound C0 60 k_slices_ContainsFunc_Sint64_int64__impl_ValidStrip_1 :=
  Sound.fx a_slices_ContainsFunc_Sint64_int64__impl_ValidStrip_1 mixed Try.func60 (by kernel_rfl) (by kernel_rfl) noHints 1 noHints_ok (fun z => (r_slices_ContainsFunc_Sint64_int64__impl_ValidStrip_1 z).trans (nat_slices_ContainsFunc_Sint64_int64__impl_ValidStrip_1 _ z.1))

/-! ### F40 impl.ValidStrip -/
noncomputable def T_impl_ValidStrip : List (FuncId × Contract) := [(51, k_impl_areLengths), (60, k_slices_ContainsFunc_Sint64_int64__impl_ValidStrip_1)]
theorem a_impl_ValidStrip : AllSound C0 T_impl_ValidStrip := .cons so_impl_areLengths (.cons so_slices_ContainsFunc_Sint64_int64__impl_ValidStrip_1 (.nil))
noncomputable def t_impl_ValidStrip {R : Type} (kx : Bool → Option R) (a0 : ((List Int) × (List Int))) : Option R :=
  Option.bind (g_impl_areLengths a0.1) fun y138 =>
  cond y138
  (cond ((((List.length a0.2) : Nat) : Int) == (IntKind.wrap IntKind.i64 ((((List.length a0.1) : Nat) : Int) - (1 : Int))))
   (Option.bind (g_slices_ContainsFunc_Sint64_int64__impl_ValidStrip_1 a0.2) fun y152 =>
    kx (!y152))
   (kx Bool.false))
  (kx Bool.false)
noncomputable def g_impl_ValidStrip (a0 : ((List Int) × (List Int))) : Option (Bool) := t_impl_ValidStrip some a0
theorem nat_impl_ValidStrip {R : Type} (kx : Bool → Option R) (a0 : ((List Int) × (List Int))) : t_impl_ValidStrip kx a0 = (g_impl_ValidStrip a0).bind kx := by
  unfold g_impl_ValidStrip t_impl_ValidStrip
  exact nat_bind fun _ => nat_cond (nat_cond (nat_bind fun _ => rfl) (rfl)) (rfl)
abbrev as_impl_ValidStrip : List AX := [.val true (.pair (.slice (.int .i64)) (.slice (.int .i64)))]
abbrev en_impl_ValidStrip : Bool → AV × List CV := fun b => (.one ⟨false, [(.v (.bool b))]⟩, [])
noncomputable abbrev k_impl_ValidStrip : Contract := .fx as_impl_ValidStrip (Bool) (fun z => g_impl_ValidStrip z.1) en_impl_ValidStrip
theorem r_impl_ValidStrip (z : argsX as_impl_ValidStrip) : runF (tab C0 T_impl_ValidStrip) noHints 1 Try.f40 (lentOf as_impl_ValidStrip) (xBoxes as_impl_ValidStrip z) (xVals as_impl_ValidStrip 0 z) K2 = t_impl_ValidStrip (fun b => some (en_impl_ValidStrip b)) z.1 := by kernel_rfl
theorem so_impl_ValidStrip : Sound C0 40 k_impl_ValidStrip :=
  Sound.fx a_impl_ValidStrip mixed Try.func40 (by kernel_rfl) (by kernel_rfl) noHints 1 noHints_ok (fun z => (r_impl_ValidStrip z).trans (nat_impl_ValidStrip _ z.1))

/-! ### F46 (impl.Strip).isPossible -/
noncomputable def T_impl_Strip_isPossible : List (FuncId × Contract) := [(63, k_impl_length_int64), (62, k_impl_within)]
theorem a_impl_Strip_isPossible : AllSound C0 T_impl_Strip_isPossible := .cons so_impl_length_int64 (.cons so_impl_within (.nil))
noncomputable def t_impl_Strip_isPossible {R : Type} (kx : Bool → Option R) (a0 : ((List Int) × (List Int))) (a1 : (Int × Int)) : Option R :=
  Option.bind (g_impl_length_int64 a0.1) fun y162 =>
  cond (decide (y162 < (2 : Int)))
  (kx Bool.false)
  (cond (a1.1 == (2 : Int))
   (cond (a1.2 == (0 : Int))
    (Option.bind (idx a0.1 (0 : Int)) fun y163 =>
     Option.bind (idx a0.1 (1 : Int)) fun y164 =>
     kx (decide (y163 ≤ y164)))
    (kx Bool.false))
   (cond (a1.1 == (3 : Int))
    (cond (a1.2 == (IntKind.wrap IntKind.i64 (y162 - (1 : Int))))
     (Option.bind (idx a0.1 (IntKind.wrap IntKind.i64 (y162 - (1 : Int)))) fun y165 =>
      Option.bind (idx a0.1 (IntKind.wrap IntKind.i64 (y162 - (2 : Int)))) fun y166 =>
      kx (decide (y165 ≤ y166)))
     (kx Bool.false))
    (cond (a1.1 == (1 : Int))
     (Option.bind (g_impl_within a1.2 (1 : Int) (IntKind.wrap IntKind.i64 (y162 - (2 : Int)))) fun y167 =>
      cond y167
      (Option.bind (idx a0.1 a1.2) fun y168 =>
       Option.bind (idx a0.1 (IntKind.wrap IntKind.i64 (a1.2 - (1 : Int)))) fun y169 =>
       cond (decide (y168 ≤ y169))
       (Option.bind (idx a0.1 a1.2) fun y170 =>
        Option.bind (idx a0.1 (IntKind.wrap IntKind.i64 (a1.2 + (1 : Int)))) fun y171 =>
        cond (decide (y170 ≤ y171))
        (Option.bind (idx a0.2 (IntKind.wrap IntKind.i64 (a1.2 - (1 : Int)))) fun y172 =>
         Option.bind (idx a0.2 a1.2) fun y173 =>
         kx (y172 != y173))
        (kx Bool.false))
       (kx Bool.false))
      (kx Bool.false))
     (kx Bool.false))))
noncomputable def g_impl_Strip_isPossible (a0 : ((List Int) × (List Int))) (a1 : (Int × Int)) : Option (Bool) := t_impl_Strip_isPossible some a0 a1
theorem nat_impl_Strip_isPossible {R : Type} (kx : Bool → Option R) (a0 : ((List Int) × (List Int))) (a1 : (Int × Int)) : t_impl_Strip_isPossible kx a0 a1 = (g_impl_Strip_isPossible a0 a1).bind kx := by
  unfold g_impl_Strip_isPossible t_impl_Strip_isPossible
  exact nat_bind fun _ => nat_cond (rfl) (nat_cond (nat_cond (nat_bind fun _ => nat_bind fun _ => rfl) (rfl)) (nat_cond (nat_cond (nat_bind fun _ => nat_bind fun _ => rfl) (rfl)) (nat_cond (nat_bind fun _ => nat_cond (nat_bind fun _ => nat_bind fun _ => nat_cond (nat_bind fun _ => nat_bind fun _ => nat_cond (nat_bind fun _ => nat_bind fun _ => rfl) (rfl)) (rfl)) (rfl)) (rfl))))
abbrev as_impl_Strip_isPossible : List AX := [.val true (.pair (.slice (.int .i64)) (.slice (.int .i64))), .val true (.pair (.int .i64) (.int .i64))]
abbrev en_impl_Strip_isPossible : Bool → AV × List CV := fun b => (.one ⟨false, [(.v (.bool b))]⟩, [])
noncomputable abbrev k_impl_Strip_isPossible : Contract := .fx as_impl_Strip_isPossible (Bool) (fun z => g_impl_Strip_isPossible z.1 z.2.1) en_impl_Strip_isPossible
theorem r_impl_Strip_isPossible (z : argsX as_impl_Strip_isPossible) : runF (tab C0 T_impl_Strip_isPossible) noHints 1 Try.f46 (lentOf as_impl_Strip_isPossible) (xBoxes as_impl_Strip_isPossible z) (xVals as_impl_Strip_isPossible 0 z) K2 = t_impl_Strip_isPossible (fun b => some (en_impl_Strip_isPossible b)) z.1 z.2.1 := by kernel_rfl
theorem so_impl_Strip_isPossible : Sound C0 46 k_impl_Strip_isPossible :=
  Sound.fx a_impl_Strip_isPossible mixed Try.func46 (by kernel_rfl) (by kernel_rfl) noHints 1 noHints_ok (fun z => (r_impl_Strip_isPossible z).trans (nat_impl_Strip_isPossible _ z.1 z.2.1))

/-! ### F66 slices.Clone[[]int64,int64] -/
noncomputable def T_slices_Clone_Sint64_int64_n : List (FuncId × Contract) := []
theorem a_slices_Clone_Sint64_int64_n : AllSound C0 T_slices_Clone_Sint64_int64_n := .nil
noncomputable def t_slices_Clone_Sint64_int64_n {R : Type} (kx : (List Int) → Option R) (a0 : (List Int)) : Option R :=
  cond (decide (0 < (List.length a0)))
  (cond (decide ((((List.length ([] : List Int)) + (List.length a0)) * 8) ≤ 70368744177664))
   (cond (decide (((List.length ([] : List Int)) + (List.length a0)) ≤ 70368744177664))
    (kx ([] ++ a0))
    (none))
   (none))
  (none)
noncomputable def g_slices_Clone_Sint64_int64_n (a0 : (List Int)) : Option ((List Int)) := t_slices_Clone_Sint64_int64_n some a0
theorem nat_slices_Clone_Sint64_int64_n {R : Type} (kx : (List Int) → Option R) (a0 : (List Int)) : t_slices_Clone_Sint64_int64_n kx a0 = (g_slices_Clone_Sint64_int64_n a0).bind kx := by
  unfold g_slices_Clone_Sint64_int64_n t_slices_Clone_Sint64_int64_n
  exact nat_cond (nat_cond (nat_cond (rfl) (rfl)) (rfl)) (rfl)
abbrev as_slices_Clone_Sint64_int64_n : List AX := [.val false (.slice (.int .i64))]
abbrev en_slices_Clone_Sint64_int64_n : (List Int) → AV × List CV := fun b => (.one ⟨false, [(.own (.int .i64) b)]⟩, [])
noncomputable abbrev k_slices_Clone_Sint64_int64_n : Contract := .fx as_slices_Clone_Sint64_int64_n ((List Int)) (fun z => g_slices_Clone_Sint64_int64_n z.1) en_slices_Clone_Sint64_int64_n
theorem r_slices_Clone_Sint64_int64_n (z : argsX as_slices_Clone_Sint64_int64_n) : runF (tab C0 T_slices_Clone_Sint64_int64_n) noHints 1 Try.f66 (lentOf as_slices_Clone_Sint64_int64_n) (xBoxes as_slices_Clone_Sint64_int64_n z) (xVals as_slices_Clone_Sint64_int64_n 0 z) K2 = t_slices_Clone_Sint64_int64_n (fun b => some (en_slices_Clone_Sint64_int64_n b)) z.1 := by kernel_rfl
theorem so_slices_Clone_Sint64_int64_n : Sound C0 66 k_slices_Clone_Sint64_int64_n :=
  Sound.fx a_slices_Clone_Sint64_int64_n mixed Try.func66 (by kernel_rfl) (by kernel_rfl) noHints 1 noHints_ok (fun z => (r_slices_Clone_Sint64_int64_n z).trans (nat_slices_Clone_Sint64_int64_n _ z.1))
theorem e_slices_Clone_Sint64_int64 : Sound C0 66 (Contract.emptyS (.int .i64)) :=
  Sound.emptyRun mixed Try.func66 (by kernel_rfl) (by kernel_rfl) (fun _ => rfl) (fun A c => by cases A <;> kernel_rfl)
noncomputable def g_slices_Clone_Sint64_int64 (a0 : (List Int)) : Option ((List Int)) := cond (decide (List.length a0 ≤ 1000000)) (some a0) none
abbrev as_slices_Clone_Sint64_int64 : List AX := [.val false (.slice (.int .i64))]
abbrev en_slices_Clone_Sint64_int64 : (List Int) → AV × List CV := fun b => (.one ⟨false, [(.own (.int .i64) b)]⟩, [])
noncomputable abbrev k_slices_Clone_Sint64_int64 : Contract := .fx as_slices_Clone_Sint64_int64 ((List Int)) (fun z => g_slices_Clone_Sint64_int64 z.1) en_slices_Clone_Sint64_int64
theorem so_slices_Clone_Sint64_int64 : Sound C0 66 k_slices_Clone_Sint64_int64 := by
  refine Sound.orEmpty so_slices_Clone_Sint64_int64_n (g' := g_slices_Clone_Sint64_int64) (fun l y h hne => ?_) (fun y h => ?_) e_slices_Clone_Sint64_int64
  · show g_slices_Clone_Sint64_int64_n l = some y
    unfold g_slices_Clone_Sint64_int64 at h
    cases hd : decide (List.length l ≤ 1000000) with
    | false => rw [hd] at h; cases h
    | true =>
      rw [hd] at h; cases h
      have h1 := of_decide_eq_true hd
      have h2 : 0 < List.length l := List.length_pos_iff.2 hne
      unfold g_slices_Clone_Sint64_int64_n t_slices_Clone_Sint64_int64_n
      simp only [List.length_nil, Nat.zero_add, List.nil_append]
      rw [decide_eq_true h2, decide_eq_true (by omega), decide_eq_true (by omega)]; rfl
  · cases h; rfl

/-! ### F80 slices.Insert[[]int64,int64] -/
noncomputable def T_slices_Insert_Sint64_int64 : List (FuncId × Contract) := []
theorem a_slices_Insert_Sint64_int64 : AllSound C0 T_slices_Insert_Sint64_int64 := .nil
noncomputable def t_slices_Insert_Sint64_int64 {R : Type} (kx : (List Int) → Option R) (a0 : (List Int)) (a1 : Int) (a2 : (List Int)) : Option R :=
  cond (decide ((0 : Int) ≤ a1))
  (cond (decide (a1 ≤ (((List.length a0) : Nat) : Int)))
   (cond ((((List.length a2) : Nat) : Int) == (0 : Int))
    (kx a0)
    (cond (a1 == (((List.length a0) : Nat) : Int))
     (none)
     (none)))
   (none))
  (none)
noncomputable def g_slices_Insert_Sint64_int64 (a0 : (List Int)) (a1 : Int) (a2 : (List Int)) : Option ((List Int)) := t_slices_Insert_Sint64_int64 some a0 a1 a2
theorem nat_slices_Insert_Sint64_int64 {R : Type} (kx : (List Int) → Option R) (a0 : (List Int)) (a1 : Int) (a2 : (List Int)) : t_slices_Insert_Sint64_int64 kx a0 a1 a2 = (g_slices_Insert_Sint64_int64 a0 a1 a2).bind kx := by
  unfold g_slices_Insert_Sint64_int64 t_slices_Insert_Sint64_int64
  exact nat_cond (nat_cond (nat_cond (rfl) (nat_cond (rfl) (rfl))) (rfl)) (rfl)
abbrev as_slices_Insert_Sint64_int64 : List AX := [.val false (.slice (.int .i64)), .val false (.int .i64), .val false (.slice (.int .i64))]
abbrev en_slices_Insert_Sint64_int64 : (List Int) → AV × List CV := fun b => (.one ⟨false, [(.sl (.int .i64) b)]⟩, [])
noncomputable abbrev k_slices_Insert_Sint64_int64 : Contract := .fx as_slices_Insert_Sint64_int64 ((List Int)) (fun z => g_slices_Insert_Sint64_int64 z.1 z.2.1 z.2.2.1) en_slices_Insert_Sint64_int64
theorem r_slices_Insert_Sint64_int64 (z : argsX as_slices_Insert_Sint64_int64) : runF (tab C0 T_slices_Insert_Sint64_int64) noHints 1 Try.f80 (lentOf as_slices_Insert_Sint64_int64) (xBoxes as_slices_Insert_Sint64_int64 z) (xVals as_slices_Insert_Sint64_int64 0 z) K2 = t_slices_Insert_Sint64_int64 (fun b => some (en_slices_Insert_Sint64_int64 b)) z.1 z.2.1 z.2.2.1 := by kernel_rfl
theorem so_slices_Insert_Sint64_int64 : Sound C0 80 k_slices_Insert_Sint64_int64 :=
  Sound.fx a_slices_Insert_Sint64_int64 mixed Try.func80 (by kernel_rfl) (by kernel_rfl) noHints 1 noHints_ok (fun z => (r_slices_Insert_Sint64_int64 z).trans (nat_slices_Insert_Sint64_int64 _ z.1 z.2.1 z.2.2.1))

/-! ### F67 slices.Replace[[]int64,int64] -/
noncomputable def T_slices_Replace_Sint64_int64 : List (FuncId × Contract) := [(80, k_slices_Insert_Sint64_int64)]
theorem a_slices_Replace_Sint64_int64 : AllSound C0 T_slices_Replace_Sint64_int64 := .cons so_slices_Insert_Sint64_int64 (.nil)
noncomputable def t_slices_Replace_Sint64_int64 {R : Type} (kx : (List Int) → Option R) (a0 : List Int) (a1 : Int) (a2 : Int) (a3 : (List Int)) : Option R :=
  cond (decide (0 < (List.length a0)))
  (cond (decide ((0 : Int) ≤ a1))
   (cond (decide (a1 ≤ a2))
    (cond (decide (a2 ≤ (((List.length a0) : Nat) : Int)))
     (cond (a1 == a2)
      (Option.bind (g_slices_Insert_Sint64_int64 a0 a1 a3) fun _ =>
       none)
      (cond (a2 == (((List.length a0) : Nat) : Int))
       (cond (decide (0 < (List.length a0)))
        (cond (decide ((0 : Int) ≤ a1))
         (cond (decide (a1 ≤ (((List.length a0) : Nat) : Int)))
          (cond (decide ((((0 + 0) + (List.length (List.drop 0 (List.take (Int.toNat a1) a0)))) + (List.length a3)) ≤ (List.length a0)))
           (cond (decide ((((List.length ((List.drop 0 (List.take (Int.toNat a1) a0)) ++ a3)) : Nat) : Int) < (((List.length (overL 0 ((0 + 0) + (List.length (List.drop 0 (List.take (Int.toNat a1) a0)))) a3 a0)) : Nat) : Int)))
            (cond (decide (0 < (List.length (overL 0 ((0 + 0) + (List.length (List.drop 0 (List.take (Int.toNat a1) a0)))) a3 a0))))
             (cond (decide ((((List.length ((List.drop 0 (List.take (Int.toNat a1) a0)) ++ a3)) : Nat) : Int) ≤ (((List.length (overL 0 ((0 + 0) + (List.length (List.drop 0 (List.take (Int.toNat a1) a0)))) a3 a0)) : Nat) : Int)))
              (kx (overL (0 + 0) (0 + (Int.toNat (((List.length ((List.drop 0 (List.take (Int.toNat a1) a0)) ++ a3)) : Nat) : Int))) (List.replicate (List.length (List.drop (Int.toNat (((List.length ((List.drop 0 (List.take (Int.toNat a1) a0)) ++ a3)) : Nat) : Int)) (List.take (List.length (overL 0 ((0 + 0) + (List.length (List.drop 0 (List.take (Int.toNat a1) a0)))) a3 a0)) (overL 0 ((0 + 0) + (List.length (List.drop 0 (List.take (Int.toNat a1) a0)))) a3 a0)))) (0 : Int)) ((List.drop 0 (List.take (Int.toNat a1) a0)) ++ a3)))
              (none))
             (none))
            (kx ((List.drop 0 (List.take (Int.toNat a1) a0)) ++ a3)))
           (cond (decide ((((List.length (List.drop 0 (List.take (Int.toNat a1) a0))) + (List.length a3)) * 8) ≤ 70368744177664))
            (cond (decide (((List.length (List.drop 0 (List.take (Int.toNat a1) a0))) + (List.length a3)) ≤ 70368744177664))
             (none)
             (none))
            (none)))
          (none))
         (none))
        (none))
       (cond (decide (0 < (List.length a0)))
        (cond (decide ((0 : Int) ≤ a1))
         (cond (decide (a1 ≤ (((List.length a0) : Nat) : Int)))
          (cond (decide (0 < (List.length a0)))
           (cond (decide ((0 : Int) ≤ a2))
            (cond (decide (a2 ≤ (((List.length a0) : Nat) : Int)))
             (cond (decide ((IntKind.wrap IntKind.i64 ((IntKind.wrap IntKind.i64 ((((List.length (List.drop 0 (List.take (Int.toNat a1) a0))) : Nat) : Int) + (((List.length a3) : Nat) : Int))) + (((List.length (List.drop (Int.toNat a2) (List.take (List.length a0) a0))) : Nat) : Int))) ≤ (((List.length a0) : Nat) : Int)))
              (cond (decide (0 < (List.length a0)))
               (cond (decide ((0 : Int) ≤ (IntKind.wrap IntKind.i64 ((IntKind.wrap IntKind.i64 ((((List.length (List.drop 0 (List.take (Int.toNat a1) a0))) : Nat) : Int) + (((List.length a3) : Nat) : Int))) + (((List.length (List.drop (Int.toNat a2) (List.take (List.length a0) a0))) : Nat) : Int)))))
                (cond (decide ((IntKind.wrap IntKind.i64 ((IntKind.wrap IntKind.i64 ((((List.length (List.drop 0 (List.take (Int.toNat a1) a0))) : Nat) : Int) + (((List.length a3) : Nat) : Int))) + (((List.length (List.drop (Int.toNat a2) (List.take (List.length a0) a0))) : Nat) : Int))) ≤ (((List.length a0) : Nat) : Int)))
                 (cond (decide ((IntKind.wrap IntKind.i64 (a1 + (((List.length a3) : Nat) : Int))) ≤ a2))
                  (cond (decide ((0 : Int) ≤ a1))
                   (cond (decide (a1 ≤ (((List.length (List.drop 0 (List.take (Int.toNat (IntKind.wrap IntKind.i64 ((IntKind.wrap IntKind.i64 ((((List.length (List.drop 0 (List.take (Int.toNat a1) a0))) : Nat) : Int) + (((List.length a3) : Nat) : Int))) + (((List.length (List.drop (Int.toNat a2) (List.take (List.length a0) a0))) : Nat) : Int)))) a0))) : Nat) : Int)))
                    (cond (decide ((List.length a3) ≤ (List.length (List.drop (Int.toNat a1) (List.take (List.length (List.drop 0 (List.take (Int.toNat (IntKind.wrap IntKind.i64 ((IntKind.wrap IntKind.i64 ((((List.length (List.drop 0 (List.take (Int.toNat a1) a0))) : Nat) : Int) + (((List.length a3) : Nat) : Int))) + (((List.length (List.drop (Int.toNat a2) (List.take (List.length a0) a0))) : Nat) : Int)))) a0))) (List.drop 0 (List.take (Int.toNat (IntKind.wrap IntKind.i64 ((IntKind.wrap IntKind.i64 ((((List.length (List.drop 0 (List.take (Int.toNat a1) a0))) : Nat) : Int) + (((List.length a3) : Nat) : Int))) + (((List.length (List.drop (Int.toNat a2) (List.take (List.length a0) a0))) : Nat) : Int)))) a0)))))))
                     (cond (decide ((0 : Int) ≤ (IntKind.wrap IntKind.i64 (a1 + (((List.length a3) : Nat) : Int)))))
                      (cond (decide ((IntKind.wrap IntKind.i64 (a1 + (((List.length a3) : Nat) : Int))) ≤ (((List.length (overL (0 + 0) ((0 + 0) + (Int.toNat a1)) a3 (List.drop 0 (List.take (Int.toNat (IntKind.wrap IntKind.i64 ((IntKind.wrap IntKind.i64 ((((List.length (List.drop 0 (List.take (Int.toNat a1) a0))) : Nat) : Int) + (((List.length a3) : Nat) : Int))) + (((List.length (List.drop (Int.toNat a2) (List.take (List.length a0) a0))) : Nat) : Int)))) a0)))) : Nat) : Int)))
                       (cond (decide (0 < (List.length (overL 0 ((0 + 0) + (Int.toNat a1)) a3 a0))))
                        (cond (decide ((0 : Int) ≤ a2))
                         (cond (decide (a2 ≤ (((List.length (overL 0 ((0 + 0) + (Int.toNat a1)) a3 a0)) : Nat) : Int)))
                          (cond (decide ((List.length (List.drop (Int.toNat a2) (List.take (List.length (overL 0 ((0 + 0) + (Int.toNat a1)) a3 a0)) (overL 0 ((0 + 0) + (Int.toNat a1)) a3 a0)))) ≤ (List.length (List.drop (Int.toNat (IntKind.wrap IntKind.i64 (a1 + (((List.length a3) : Nat) : Int)))) (List.take (List.length (overL (0 + 0) ((0 + 0) + (Int.toNat a1)) a3 (List.drop 0 (List.take (Int.toNat (IntKind.wrap IntKind.i64 ((IntKind.wrap IntKind.i64 ((((List.length (List.drop 0 (List.take (Int.toNat a1) a0))) : Nat) : Int) + (((List.length a3) : Nat) : Int))) + (((List.length (List.drop (Int.toNat a2) (List.take (List.length a0) a0))) : Nat) : Int)))) a0)))) (overL (0 + 0) ((0 + 0) + (Int.toNat a1)) a3 (List.drop 0 (List.take (Int.toNat (IntKind.wrap IntKind.i64 ((IntKind.wrap IntKind.i64 ((((List.length (List.drop 0 (List.take (Int.toNat a1) a0))) : Nat) : Int) + (((List.length a3) : Nat) : Int))) + (((List.length (List.drop (Int.toNat a2) (List.take (List.length a0) a0))) : Nat) : Int)))) a0))))))))
                           (cond (decide (0 < (List.length (overL 0 ((0 + 0) + (Int.toNat (IntKind.wrap IntKind.i64 (a1 + (((List.length a3) : Nat) : Int))))) (List.drop (Int.toNat a2) (List.take (List.length (overL 0 ((0 + 0) + (Int.toNat a1)) a3 a0)) (overL 0 ((0 + 0) + (Int.toNat a1)) a3 a0))) (overL 0 ((0 + 0) + (Int.toNat a1)) a3 a0)))))
                            (cond (decide ((0 : Int) ≤ (IntKind.wrap IntKind.i64 ((IntKind.wrap IntKind.i64 ((((List.length (List.drop 0 (List.take (Int.toNat a1) a0))) : Nat) : Int) + (((List.length a3) : Nat) : Int))) + (((List.length (List.drop (Int.toNat a2) (List.take (List.length a0) a0))) : Nat) : Int)))))
                             (cond (decide ((IntKind.wrap IntKind.i64 ((IntKind.wrap IntKind.i64 ((((List.length (List.drop 0 (List.take (Int.toNat a1) a0))) : Nat) : Int) + (((List.length a3) : Nat) : Int))) + (((List.length (List.drop (Int.toNat a2) (List.take (List.length a0) a0))) : Nat) : Int))) ≤ (((List.length (overL 0 ((0 + 0) + (Int.toNat (IntKind.wrap IntKind.i64 (a1 + (((List.length a3) : Nat) : Int))))) (List.drop (Int.toNat a2) (List.take (List.length (overL 0 ((0 + 0) + (Int.toNat a1)) a3 a0)) (overL 0 ((0 + 0) + (Int.toNat a1)) a3 a0))) (overL 0 ((0 + 0) + (Int.toNat a1)) a3 a0))) : Nat) : Int)))
                              (kx (overL (0 + 0) (0 + (Int.toNat (IntKind.wrap IntKind.i64 ((IntKind.wrap IntKind.i64 ((((List.length (List.drop 0 (List.take (Int.toNat a1) a0))) : Nat) : Int) + (((List.length a3) : Nat) : Int))) + (((List.length (List.drop (Int.toNat a2) (List.take (List.length a0) a0))) : Nat) : Int))))) (List.replicate (List.length (List.drop (Int.toNat (IntKind.wrap IntKind.i64 ((IntKind.wrap IntKind.i64 ((((List.length (List.drop 0 (List.take (Int.toNat a1) a0))) : Nat) : Int) + (((List.length a3) : Nat) : Int))) + (((List.length (List.drop (Int.toNat a2) (List.take (List.length a0) a0))) : Nat) : Int)))) (List.take (List.length (overL 0 ((0 + 0) + (Int.toNat (IntKind.wrap IntKind.i64 (a1 + (((List.length a3) : Nat) : Int))))) (List.drop (Int.toNat a2) (List.take (List.length (overL 0 ((0 + 0) + (Int.toNat a1)) a3 a0)) (overL 0 ((0 + 0) + (Int.toNat a1)) a3 a0))) (overL 0 ((0 + 0) + (Int.toNat a1)) a3 a0))) (overL 0 ((0 + 0) + (Int.toNat (IntKind.wrap IntKind.i64 (a1 + (((List.length a3) : Nat) : Int))))) (List.drop (Int.toNat a2) (List.take (List.length (overL 0 ((0 + 0) + (Int.toNat a1)) a3 a0)) (overL 0 ((0 + 0) + (Int.toNat a1)) a3 a0))) (overL 0 ((0 + 0) + (Int.toNat a1)) a3 a0))))) (0 : Int)) (overL (0 + 0) ((0 + 0) + (Int.toNat (IntKind.wrap IntKind.i64 (a1 + (((List.length a3) : Nat) : Int))))) (List.drop (Int.toNat a2) (List.take (List.length (overL 0 ((0 + 0) + (Int.toNat a1)) a3 a0)) (overL 0 ((0 + 0) + (Int.toNat a1)) a3 a0))) (overL (0 + 0) ((0 + 0) + (Int.toNat a1)) a3 (List.drop 0 (List.take (Int.toNat (IntKind.wrap IntKind.i64 ((IntKind.wrap IntKind.i64 ((((List.length (List.drop 0 (List.take (Int.toNat a1) a0))) : Nat) : Int) + (((List.length a3) : Nat) : Int))) + (((List.length (List.drop (Int.toNat a2) (List.take (List.length a0) a0))) : Nat) : Int)))) a0))))))
                              (none))
                             (none))
                            (none))
                           (none))
                          (none))
                         (none))
                        (none))
                       (none))
                      (none))
                     (none))
                    (none))
                   (none))
                  (cond (decide ((0 : Int) ≤ (IntKind.wrap IntKind.i64 (a1 + (((List.length a3) : Nat) : Int)))))
                   (cond (decide ((IntKind.wrap IntKind.i64 (a1 + (((List.length a3) : Nat) : Int))) ≤ (((List.length (List.drop 0 (List.take (Int.toNat (IntKind.wrap IntKind.i64 ((IntKind.wrap IntKind.i64 ((((List.length (List.drop 0 (List.take (Int.toNat a1) a0))) : Nat) : Int) + (((List.length a3) : Nat) : Int))) + (((List.length (List.drop (Int.toNat a2) (List.take (List.length a0) a0))) : Nat) : Int)))) a0))) : Nat) : Int)))
                    (none)
                    (none))
                   (none)))
                 (none))
                (none))
               (none))
              (none))
             (none))
            (none))
           (none))
          (none))
         (none))
        (none))))
     (none))
    (none))
   (none))
  (none)
noncomputable def g_slices_Replace_Sint64_int64 (a0 : List Int) (a1 : Int) (a2 : Int) (a3 : (List Int)) : Option ((List Int)) := t_slices_Replace_Sint64_int64 some a0 a1 a2 a3
theorem nat_slices_Replace_Sint64_int64 {R : Type} (kx : (List Int) → Option R) (a0 : List Int) (a1 : Int) (a2 : Int) (a3 : (List Int)) : t_slices_Replace_Sint64_int64 kx a0 a1 a2 a3 = (g_slices_Replace_Sint64_int64 a0 a1 a2 a3).bind kx := by
  unfold g_slices_Replace_Sint64_int64 t_slices_Replace_Sint64_int64
  exact nat_cond (nat_cond (nat_cond (nat_cond (nat_cond (nat_bind fun _ => rfl) (nat_cond (nat_cond (nat_cond (nat_cond (nat_cond (nat_cond (nat_cond (nat_cond (rfl) (rfl)) (rfl)) (rfl)) (nat_cond (nat_cond (rfl) (rfl)) (rfl))) (rfl)) (rfl)) (rfl)) (nat_cond (nat_cond (nat_cond (nat_cond (nat_cond (nat_cond (nat_cond (nat_cond (nat_cond (nat_cond (nat_cond (nat_cond (nat_cond (nat_cond (nat_cond (nat_cond (nat_cond (nat_cond (nat_cond (nat_cond (nat_cond (nat_cond (nat_cond (rfl) (rfl)) (rfl)) (rfl)) (rfl)) (rfl)) (rfl)) (rfl)) (rfl)) (rfl)) (rfl)) (rfl)) (rfl)) (nat_cond (nat_cond (rfl) (rfl)) (rfl))) (rfl)) (rfl)) (rfl)) (rfl)) (rfl)) (rfl)) (rfl)) (rfl)) (rfl)) (rfl)))) (rfl)) (rfl)) (rfl)) (rfl)
abbrev as_slices_Replace_Sint64_int64 : List AX := [.io (.int .i64), .val false (.int .i64), .val false (.int .i64), .val false (.slice (.int .i64))]
abbrev en_slices_Replace_Sint64_int64 : (List Int) → AV × List CV := fun b => (.one ⟨false, [(.own (.int .i64) b)]⟩, [.undef])
noncomputable abbrev k_slices_Replace_Sint64_int64 : Contract := .fx as_slices_Replace_Sint64_int64 ((List Int)) (fun z => g_slices_Replace_Sint64_int64 z.1 z.2.1 z.2.2.1 z.2.2.2.1) en_slices_Replace_Sint64_int64
theorem r_slices_Replace_Sint64_int64 (z : argsX as_slices_Replace_Sint64_int64) : runF (tab C0 T_slices_Replace_Sint64_int64) noHints 1 Try.f67 (lentOf as_slices_Replace_Sint64_int64) (xBoxes as_slices_Replace_Sint64_int64 z) (xVals as_slices_Replace_Sint64_int64 0 z) K3 = t_slices_Replace_Sint64_int64 (fun b => some (en_slices_Replace_Sint64_int64 b)) z.1 z.2.1 z.2.2.1 z.2.2.2.1 := by kernel_rfl
theorem so_slices_Replace_Sint64_int64 : Sound C0 67 k_slices_Replace_Sint64_int64 :=
  Sound.fxTake a_slices_Replace_Sint64_int64 mixed Try.func67 (by kernel_rfl) (by kernel_rfl) noHints 1 noHints_ok (fun z => (r_slices_Replace_Sint64_int64 z).trans (nat_slices_Replace_Sint64_int64 _ z.1 z.2.1 z.2.2.1 z.2.2.2.1))

/-! ### F68 slices.Delete[[]int64,int64] -/
noncomputable def T_slices_Delete_Sint64_int64 : List (FuncId × Contract) := []
theorem a_slices_Delete_Sint64_int64 : AllSound C0 T_slices_Delete_Sint64_int64 := .nil
noncomputable def t_slices_Delete_Sint64_int64 {R : Type} (kx : (List Int) → Option R) (a0 : List Int) (a1 : Int) (a2 : Int) : Option R :=
  cond (decide ((0 : Int) ≤ a1))
  (cond (decide (a1 ≤ a2))
   (cond (decide (a2 ≤ (((List.length a0) : Nat) : Int)))
    (cond (decide ((((List.length a0) : Nat) : Int) ≤ (((List.length a0) : Nat) : Int)))
     (cond (a1 == a2)
      (kx a0)
      (cond (decide (0 < (List.length a0)))
       (cond (decide ((0 : Int) ≤ a1))
        (cond (decide (a1 ≤ (((List.length a0) : Nat) : Int)))
         (cond (decide (0 < (List.length a0)))
          (cond (decide ((0 : Int) ≤ a2))
           (cond (decide (a2 ≤ (((List.length a0) : Nat) : Int)))
            (cond (decide ((((0 + 0) + (List.length (List.drop 0 (List.take (Int.toNat a1) a0)))) + (List.length (List.drop (Int.toNat a2) (List.take (List.length a0) a0)))) ≤ (List.length a0)))
             (cond (decide ((((List.length ((List.drop 0 (List.take (Int.toNat a1) a0)) ++ (List.drop (Int.toNat a2) (List.take (List.length a0) a0)))) : Nat) : Int) ≤ (((List.length a0) : Nat) : Int)))
              (cond (decide ((((List.length a0) : Nat) : Int) ≤ ((((List.length (overL 0 ((0 + 0) + (List.length (List.drop 0 (List.take (Int.toNat a1) a0)))) (List.drop (Int.toNat a2) (List.take (List.length a0) a0)) a0)) - (0 + 0)) : Nat) : Int)))
               (kx (overL (0 + 0) ((0 + 0) + (Int.toNat (((List.length ((List.drop 0 (List.take (Int.toNat a1) a0)) ++ (List.drop (Int.toNat a2) (List.take (List.length a0) a0)))) : Nat) : Int))) (List.replicate (List.length (List.drop (Int.toNat (((List.length ((List.drop 0 (List.take (Int.toNat a1) a0)) ++ (List.drop (Int.toNat a2) (List.take (List.length a0) a0)))) : Nat) : Int)) (List.take (Int.toNat (((List.length a0) : Nat) : Int)) (List.drop (0 + 0) (overL 0 ((0 + 0) + (List.length (List.drop 0 (List.take (Int.toNat a1) a0)))) (List.drop (Int.toNat a2) (List.take (List.length a0) a0)) a0))))) (0 : Int)) ((List.drop 0 (List.take (Int.toNat a1) a0)) ++ (List.drop (Int.toNat a2) (List.take (List.length a0) a0)))))
               (none))
              (none))
             (cond (decide ((((List.length (List.drop 0 (List.take (Int.toNat a1) a0))) + (List.length (List.drop (Int.toNat a2) (List.take (List.length a0) a0)))) * 8) ≤ 70368744177664))
              (cond (decide (((List.length (List.drop 0 (List.take (Int.toNat a1) a0))) + (List.length (List.drop (Int.toNat a2) (List.take (List.length a0) a0)))) ≤ 70368744177664))
               (cond (decide (0 < (List.length ((List.drop 0 (List.take (Int.toNat a1) a0)) ++ (List.drop (Int.toNat a2) (List.take (List.length a0) a0))))))
                (cond (decide ((((List.length ((List.drop 0 (List.take (Int.toNat a1) a0)) ++ (List.drop (Int.toNat a2) (List.take (List.length a0) a0)))) : Nat) : Int) ≤ (((List.length a0) : Nat) : Int)))
                 (cond (decide ((((List.length a0) : Nat) : Int) ≤ (((List.length ((List.drop 0 (List.take (Int.toNat a1) a0)) ++ (List.drop (Int.toNat a2) (List.take (List.length a0) a0)))) : Nat) : Int)))
                  (kx (overL 0 (0 + (Int.toNat (((List.length ((List.drop 0 (List.take (Int.toNat a1) a0)) ++ (List.drop (Int.toNat a2) (List.take (List.length a0) a0)))) : Nat) : Int))) (List.replicate (List.length (List.drop (Int.toNat (((List.length ((List.drop 0 (List.take (Int.toNat a1) a0)) ++ (List.drop (Int.toNat a2) (List.take (List.length a0) a0)))) : Nat) : Int)) (List.take (Int.toNat (((List.length a0) : Nat) : Int)) ((List.drop 0 (List.take (Int.toNat a1) a0)) ++ (List.drop (Int.toNat a2) (List.take (List.length a0) a0)))))) (0 : Int)) ((List.drop 0 (List.take (Int.toNat a1) a0)) ++ (List.drop (Int.toNat a2) (List.take (List.length a0) a0)))))
                  (none))
                 (none))
                (none))
               (none))
              (none)))
            (none))
           (none))
          (none))
         (none))
        (none))
       (none)))
     (none))
    (none))
   (none))
  (none)
noncomputable def g_slices_Delete_Sint64_int64 (a0 : List Int) (a1 : Int) (a2 : Int) : Option ((List Int)) := t_slices_Delete_Sint64_int64 some a0 a1 a2
theorem nat_slices_Delete_Sint64_int64 {R : Type} (kx : (List Int) → Option R) (a0 : List Int) (a1 : Int) (a2 : Int) : t_slices_Delete_Sint64_int64 kx a0 a1 a2 = (g_slices_Delete_Sint64_int64 a0 a1 a2).bind kx := by
  unfold g_slices_Delete_Sint64_int64 t_slices_Delete_Sint64_int64
  exact nat_cond (nat_cond (nat_cond (nat_cond (nat_cond (rfl) (nat_cond (nat_cond (nat_cond (nat_cond (nat_cond (nat_cond (nat_cond (nat_cond (nat_cond (rfl) (rfl)) (rfl)) (nat_cond (nat_cond (nat_cond (nat_cond (nat_cond (rfl) (rfl)) (rfl)) (rfl)) (rfl)) (rfl))) (rfl)) (rfl)) (rfl)) (rfl)) (rfl)) (rfl))) (rfl)) (rfl)) (rfl)) (rfl)
abbrev as_slices_Delete_Sint64_int64 : List AX := [.io (.int .i64), .val false (.int .i64), .val false (.int .i64)]
abbrev en_slices_Delete_Sint64_int64 : (List Int) → AV × List CV := fun b => (.one ⟨false, [(.own (.int .i64) b)]⟩, [.undef])
noncomputable abbrev k_slices_Delete_Sint64_int64 : Contract := .fx as_slices_Delete_Sint64_int64 ((List Int)) (fun z => g_slices_Delete_Sint64_int64 z.1 z.2.1 z.2.2.1) en_slices_Delete_Sint64_int64
theorem r_slices_Delete_Sint64_int64 (z : argsX as_slices_Delete_Sint64_int64) : runF (tab C0 T_slices_Delete_Sint64_int64) noHints 1 Try.f68 (lentOf as_slices_Delete_Sint64_int64) (xBoxes as_slices_Delete_Sint64_int64 z) (xVals as_slices_Delete_Sint64_int64 0 z) K3 = t_slices_Delete_Sint64_int64 (fun b => some (en_slices_Delete_Sint64_int64 b)) z.1 z.2.1 z.2.2.1 := by kernel_rfl
theorem so_slices_Delete_Sint64_int64 : Sound C0 68 k_slices_Delete_Sint64_int64 :=
  Sound.fxTake a_slices_Delete_Sint64_int64 mixed Try.func68 (by kernel_rfl) (by kernel_rfl) noHints 1 noHints_ok (fun z => (r_slices_Delete_Sint64_int64 z).trans (nat_slices_Delete_Sint64_int64 _ z.1 z.2.1 z.2.2.1))

/-! ### F47 (impl.Strip).apply -/
noncomputable def T_impl_Strip_apply : List (FuncId × Contract) := [(66, k_slices_Clone_Sint64_int64), (67, k_slices_Replace_Sint64_int64), (68, k_slices_Delete_Sint64_int64)]
theorem a_impl_Strip_apply : AllSound C0 T_impl_Strip_apply := .cons so_slices_Clone_Sint64_int64 (.cons so_slices_Replace_Sint64_int64 (.cons so_slices_Delete_Sint64_int64 (.nil)))
noncomputable def t_impl_Strip_apply {R : Type} (kx : ((List Int) × (List Int)) → Option R) (a0 : ((List Int) × (List Int))) (a1 : (Int × Int)) : Option R :=
  Option.bind (g_slices_Clone_Sint64_int64 a0.1) fun y178 =>
  Option.bind (g_slices_Clone_Sint64_int64 a0.2) fun y179 =>
  cond (a1.1 == (2 : Int))
  (cond (decide (0 < (List.length y178)))
   (cond (decide ((1 : Int) ≤ (((List.length y178) : Nat) : Int)))
    (cond (decide (0 < (List.length y179)))
     (cond (decide ((1 : Int) ≤ (((List.length y179) : Nat) : Int)))
      (kx ((List.drop (Int.toNat (1 : Int)) (List.take (List.length y178) y178)), (List.drop (Int.toNat (1 : Int)) (List.take (List.length y179) y179))))
      (none))
     (none))
    (none))
   (none))
  (cond (a1.1 == (3 : Int))
   (cond (decide (0 < (List.length y178)))
    (cond (decide ((0 : Int) ≤ a1.2))
     (cond (decide (a1.2 ≤ (((List.length y178) : Nat) : Int)))
      (cond (decide (0 < (List.length y179)))
       (cond (decide ((0 : Int) ≤ (IntKind.wrap IntKind.i64 (a1.2 - (1 : Int)))))
        (cond (decide ((IntKind.wrap IntKind.i64 (a1.2 - (1 : Int))) ≤ (((List.length y179) : Nat) : Int)))
         (kx ((List.drop 0 (List.take (Int.toNat a1.2) y178)), (List.drop 0 (List.take (Int.toNat (IntKind.wrap IntKind.i64 (a1.2 - (1 : Int)))) y179))))
         (none))
        (none))
       (none))
      (none))
     (none))
    (none))
   (Option.bind (idx y178 (IntKind.wrap IntKind.i64 (a1.2 - (1 : Int)))) fun y180 =>
    Option.bind (idx y178 a1.2) fun y181 =>
    Option.bind (idx y178 (IntKind.wrap IntKind.i64 (a1.2 + (1 : Int)))) fun y182 =>
    cond (decide ((List.length y178) = (List.length y178)))
    (Option.bind (g_slices_Replace_Sint64_int64 y178 (IntKind.wrap IntKind.i64 (a1.2 - (1 : Int))) (IntKind.wrap IntKind.i64 (a1.2 + (2 : Int))) [(IntKind.wrap IntKind.i64 ((IntKind.wrap IntKind.i64 (y180 - y181)) + y182))]) fun y191 =>
     cond (decide ((List.length y179) = (List.length y179)))
     (Option.bind (g_slices_Delete_Sint64_int64 y179 (IntKind.wrap IntKind.i64 (a1.2 - (1 : Int))) (IntKind.wrap IntKind.i64 (a1.2 + (1 : Int)))) fun y195 =>
      kx (y191, y195))
     (none))
    (none)))
noncomputable def g_impl_Strip_apply (a0 : ((List Int) × (List Int))) (a1 : (Int × Int)) : Option (((List Int) × (List Int))) := t_impl_Strip_apply some a0 a1
theorem nat_impl_Strip_apply {R : Type} (kx : ((List Int) × (List Int)) → Option R) (a0 : ((List Int) × (List Int))) (a1 : (Int × Int)) : t_impl_Strip_apply kx a0 a1 = (g_impl_Strip_apply a0 a1).bind kx := by
  unfold g_impl_Strip_apply t_impl_Strip_apply
  exact nat_bind fun _ => nat_bind fun _ => nat_cond (nat_cond (nat_cond (nat_cond (nat_cond (rfl) (rfl)) (rfl)) (rfl)) (rfl)) (nat_cond (nat_cond (nat_cond (nat_cond (nat_cond (nat_cond (nat_cond (rfl) (rfl)) (rfl)) (rfl)) (rfl)) (rfl)) (rfl)) (nat_bind fun _ => nat_bind fun _ => nat_bind fun _ => nat_cond (nat_bind fun _ => nat_cond (nat_bind fun _ => rfl) (rfl)) (rfl)))
abbrev as_impl_Strip_apply : List AX := [.val true (.pair (.slice (.int .i64)) (.slice (.int .i64))), .val true (.pair (.int .i64) (.int .i64))]
abbrev en_impl_Strip_apply : ((List Int) × (List Int)) → AV × List CV := fun b => (.one ⟨true, [(.own (.int .i64) b.1), (.own (.int .i64) b.2)]⟩, [])
noncomputable abbrev k_impl_Strip_apply : Contract := .fx as_impl_Strip_apply (((List Int) × (List Int))) (fun z => g_impl_Strip_apply z.1 z.2.1) en_impl_Strip_apply
theorem r_impl_Strip_apply (z : argsX as_impl_Strip_apply) : runF (tab C0 T_impl_Strip_apply) noHints 1 Try.f47 (lentOf as_impl_Strip_apply) (xBoxes as_impl_Strip_apply z) (xVals as_impl_Strip_apply 0 z) K2 = t_impl_Strip_apply (fun b => some (en_impl_Strip_apply b)) z.1 z.2.1 := by kernel_rfl
theorem so_impl_Strip_apply : Sound C0 47 k_impl_Strip_apply :=
  Sound.fx a_impl_Strip_apply mixed Try.func47 (by kernel_rfl) (by kernel_rfl) noHints 1 noHints_ok (fun z => (r_impl_Strip_apply z).trans (nat_impl_Strip_apply _ z.1 z.2.1))

/-! ### F30 impl.CheckReduction -/
noncomputable def T_impl_CheckReduction : List (FuncId × Contract) := [(40, k_impl_ValidStrip), (46, k_impl_Strip_isPossible), (47, k_impl_Strip_apply)]
theorem a_impl_CheckReduction : AllSound C0 T_impl_CheckReduction := .cons so_impl_ValidStrip (.cons so_impl_Strip_isPossible (.cons so_impl_Strip_apply (.nil)))
abbrev s_impl_CheckReduction_5 : LS := ⟨[(false, [(.ptr 2 0)]), (false, [(.sl (.pair (.int .i64) (.int .i64)))]), (false, [(.int .i64)]), (false, [(.int .i64)])], [(false, [(.own (.int .i64)), (.own (.int .i64))])], []⟩
abbrev e_impl_CheckReduction_5_0 : LS := ⟨[(false, [(.ptr 2 0)]), (false, [.bool])], [(false, [(.own (.int .i64)), (.own (.int .i64))])], []⟩
abbrev d_impl_CheckReduction_5_0 (v0 : Bool) (v1 : List Int) (v2 : List Int) : e_impl_CheckReduction_5_0.T := ((((), ()), (v0, ()), ()), ((v1, v2, ()), ()), ())
abbrev e_impl_CheckReduction_5_1 : LS := ⟨[(false, [(.ptr 2 0)]), (false, [.undef])], [(false, [(.own (.int .i64)), (.own (.int .i64))])], []⟩
abbrev d_impl_CheckReduction_5_1 (v0 : List Int) (v1 : List Int) : e_impl_CheckReduction_5_1.T := ((((), ()), ((), ()), ()), ((v0, v1, ()), ()), ())
abbrev x_impl_CheckReduction_5 : List (Ex × LS) := [(.ret, e_impl_CheckReduction_5_0), (.exit 0, e_impl_CheckReduction_5_1)]
abbrev m_impl_CheckReduction_5 (x10 : List (Int × Int)) (x11 : Int) (x12 : Int) (b0_0 : List Int) (b0_1 : List Int) : s_impl_CheckReduction_5.T := ((((), ()), (x10, ()), (x11, ()), (x12, ()), ()), ((b0_0, b0_1, ()), ()), ())
noncomputable def u_impl_CheckReduction_5 {R : Type} (nx : s_impl_CheckReduction_5.T → Option R) (hx : exH R x_impl_CheckReduction_5) (x10 : List (Int × Int)) (x11 : Int) (x12 : Int) (b0_0 : List Int) (b0_1 : List Int) : Option R :=
  cond (decide (x12 < x11))
  (Option.bind (idx x10 x12) fun y202 =>
   Option.bind (g_impl_Strip_isPossible (b0_0, b0_1) y202) fun y203 =>
   cond (!y203)
   (hx.1 (d_impl_CheckReduction_5_0 Bool.false b0_0 b0_1))
   (Option.bind (g_impl_Strip_apply (b0_0, b0_1) y202) fun y204 =>
    nx (m_impl_CheckReduction_5 x10 x11 (IntKind.wrap IntKind.i64 (x12 + (1 : Int))) y204.1 y204.2)))
  (hx.2.1 (d_impl_CheckReduction_5_1 b0_0 b0_1))
noncomputable def t_impl_CheckReduction_5 {R : Type} (nx : s_impl_CheckReduction_5.T → Option R) (hx : exH R x_impl_CheckReduction_5) (z : s_impl_CheckReduction_5.T) : Option R := u_impl_CheckReduction_5 nx hx z.1.2.1.1 z.1.2.2.1.1 z.1.2.2.2.1.1 z.2.1.1.1 z.2.1.1.2.1
theorem nat_impl_CheckReduction_5 : Natural @t_impl_CheckReduction_5 := fun R nx hx z => by
  show u_impl_CheckReduction_5 nx hx z.1.2.1.1 z.1.2.2.1.1 z.1.2.2.2.1.1 z.2.1.1.1 z.2.1.1.2.1 = (u_impl_CheckReduction_5 (fun y => some (.inl y)) (hIn x_impl_CheckReduction_5 fun x => some (.inr x)) z.1.2.1.1 z.1.2.2.1.1 z.1.2.2.2.1.1 z.2.1.1.1 z.2.1.1.2.1).bind (goOn nx hx)
  unfold u_impl_CheckReduction_5
  exact nat_cond (nat_bind fun _ => nat_bind fun _ => nat_cond (rfl) (nat_bind fun _ => rfl)) (rfl)
noncomputable def w_impl_CheckReduction_5 : s_impl_CheckReduction_5.T → Option (exT x_impl_CheckReduction_5) := wOf @t_impl_CheckReduction_5
theorem wq_impl_CheckReduction_5 (x10 : List (Int × Int)) (x11 : Int) (x12 : Int) (b0_0 : List Int) (b0_1 : List Int) : w_impl_CheckReduction_5 (m_impl_CheckReduction_5 x10 x11 x12 b0_0 b0_1) = u_impl_CheckReduction_5 w_impl_CheckReduction_5 (hIn x_impl_CheckReduction_5 some) x10 x11 x12 b0_0 b0_1 := wOf_eq nat_impl_CheckReduction_5 _
def lh_impl_CheckReduction_5 : LoopHint := ⟨[2, 10, 11, 12], [2], [2, 4], [2]⟩
abbrev s_impl_CheckReduction_5p : LS := ⟨[(false, [(.ptr 2 0)]), (false, [(.sl (.pair (.int .i64) (.int .i64)))]), (false, [(.int .i64)]), (false, [(.int .i64)])], [(false, [(.sl (.int .i64)), (.sl (.int .i64))])], []⟩
abbrev e_impl_CheckReduction_5p_0 : LS := ⟨[(false, [(.ptr 2 0)]), (false, [.bool])], [(false, [(.sl (.int .i64)), (.sl (.int .i64))])], []⟩
abbrev d_impl_CheckReduction_5p_0 (v0 : Bool) (v1 : List Int) (v2 : List Int) : e_impl_CheckReduction_5p_0.T := ((((), ()), (v0, ()), ()), ((v1, v2, ()), ()), ())
abbrev e_impl_CheckReduction_5p_1 : LS := ⟨[(false, [(.ptr 2 0)]), (false, [.undef])], [(false, [(.sl (.int .i64)), (.sl (.int .i64))])], []⟩
abbrev d_impl_CheckReduction_5p_1 (v0 : List Int) (v1 : List Int) : e_impl_CheckReduction_5p_1.T := ((((), ()), ((), ()), ()), ((v0, v1, ()), ()), ())
abbrev x_impl_CheckReduction_5p : List (Ex × LS) := [(.ret, e_impl_CheckReduction_5p_0), (.exit 0, e_impl_CheckReduction_5p_1)]
abbrev m_impl_CheckReduction_5p (x10 : List (Int × Int)) (x11 : Int) (x12 : Int) (b0_0 : List Int) (b0_1 : List Int) : s_impl_CheckReduction_5p.T := ((((), ()), (x10, ()), (x11, ()), (x12, ()), ()), ((b0_0, b0_1, ()), ()), ())
noncomputable def u_impl_CheckReduction_5p {R : Type} (nx : s_impl_CheckReduction_5.T → Option R) (hx : exH R x_impl_CheckReduction_5p) (x10 : List (Int × Int)) (x11 : Int) (x12 : Int) (b0_0 : List Int) (b0_1 : List Int) : Option R :=
  cond (decide (x12 < x11))
  (Option.bind (idx x10 x12) fun y210 =>
   Option.bind (g_impl_Strip_isPossible (b0_0, b0_1) y210) fun y211 =>
   cond (!y211)
   (hx.1 (d_impl_CheckReduction_5p_0 Bool.false b0_0 b0_1))
   (Option.bind (g_impl_Strip_apply (b0_0, b0_1) y210) fun y212 =>
    nx (m_impl_CheckReduction_5 x10 x11 (IntKind.wrap IntKind.i64 (x12 + (1 : Int))) y212.1 y212.2)))
  (hx.2.1 (d_impl_CheckReduction_5p_1 b0_0 b0_1))
noncomputable def t_impl_CheckReduction_5p {R : Type} (nx : s_impl_CheckReduction_5.T → Option R) (hx : exH R x_impl_CheckReduction_5p) (z : s_impl_CheckReduction_5p.T) : Option R := u_impl_CheckReduction_5p nx hx z.1.2.1.1 z.1.2.2.1.1 z.1.2.2.2.1.1 z.2.1.1.1 z.2.1.1.2.1
theorem nat_impl_CheckReduction_5p : Natural0 @t_impl_CheckReduction_5p := fun R nx hx z => by
  show u_impl_CheckReduction_5p nx hx z.1.2.1.1 z.1.2.2.1.1 z.1.2.2.2.1.1 z.2.1.1.1 z.2.1.1.2.1 = (u_impl_CheckReduction_5p (fun y => some (.inl y)) (hIn x_impl_CheckReduction_5p fun x => some (.inr x)) z.1.2.1.1 z.1.2.2.1.1 z.1.2.2.2.1.1 z.2.1.1.1 z.2.1.1.2.1).bind (goOn nx hx)
  unfold u_impl_CheckReduction_5p
  exact nat_cond (nat_bind fun _ => nat_bind fun _ => nat_cond (rfl) (nat_bind fun _ => rfl)) (rfl)
theorem tq_impl_CheckReduction_5p {R : Type} (nx : s_impl_CheckReduction_5.T → Option R) (hx : exH R x_impl_CheckReduction_5p) (x10 : List (Int × Int)) (x11 : Int) (x12 : Int) (b0_0 : List Int) (b0_1 : List Int) : t_impl_CheckReduction_5p nx hx (m_impl_CheckReduction_5p x10 x11 x12 b0_0 b0_1) = u_impl_CheckReduction_5p nx hx x10 x11 x12 b0_0 b0_1 := rfl
noncomputable def h_impl_CheckReduction : Hints Rv := ⟨fun k => match k with | 5 => lh_impl_CheckReduction_5 | _ => ⟨[], [], [], []⟩, fun k => match k with | 5 => some (loopP @t_impl_CheckReduction_5p (loopX s_impl_CheckReduction_5 x_impl_CheckReduction_5 w_impl_CheckReduction_5)) | _ => none⟩
theorem st_impl_CheckReduction_5 (n : Nat) (z : s_impl_CheckReduction_5.T) (k : Ex → Live → Option Rv) : loopN ⟨28, 28⟩ lh_impl_CheckReduction_5 (den (tab C0 T_impl_CheckReduction) ⟨28, 28⟩ h_impl_CheckReduction 1 (loopOf Try.f30 4)) (n + 1) (s_impl_CheckReduction_5.enc z) k =
    t_impl_CheckReduction_5 (fun y => loopN ⟨28, 28⟩ lh_impl_CheckReduction_5 (den (tab C0 T_impl_CheckReduction) ⟨28, 28⟩ h_impl_CheckReduction 1 (loopOf Try.f30 4)) n (s_impl_CheckReduction_5.enc y) k) (hK k x_impl_CheckReduction_5) z := by kernel_rfl
theorem st_impl_CheckReduction_5p (n : Nat) (z : s_impl_CheckReduction_5p.T) (k : Ex → Live → Option Rv) : loopN ⟨28, 28⟩ lh_impl_CheckReduction_5 (den (tab C0 T_impl_CheckReduction) ⟨28, 28⟩ h_impl_CheckReduction 1 (loopOf Try.f30 4)) (n + 1) (s_impl_CheckReduction_5p.enc z) k =
    t_impl_CheckReduction_5p (fun y => loopN ⟨28, 28⟩ lh_impl_CheckReduction_5 (den (tab C0 T_impl_CheckReduction) ⟨28, 28⟩ h_impl_CheckReduction 1 (loopOf Try.f30 4)) n (s_impl_CheckReduction_5.enc y) k) (hK k x_impl_CheckReduction_5p) z := by kernel_rfl
theorem hs_impl_CheckReduction : HintsOk (tab C0 T_impl_CheckReduction) ⟨28, 28⟩ h_impl_CheckReduction 1 (loops (codeOf Try.f30)) := by
  have hl : loops (codeOf Try.f30) = [loopOf Try.f30 4] := by kernel_rfl
  rw [hl]
  exact HintsOk.cons (n := 5) (lh := lh_impl_CheckReduction_5) (S := loopP @t_impl_CheckReduction_5p (loopX s_impl_CheckReduction_5 x_impl_CheckReduction_5 w_impl_CheckReduction_5)) (by kernel_rfl) rfl rfl (loopP_ok nat_impl_CheckReduction_5p st_impl_CheckReduction_5p (loopX_ok nat_impl_CheckReduction_5 st_impl_CheckReduction_5))
    (HintsOk.nil)
noncomputable def t_impl_CheckReduction {R : Type} (kx : Bool → Option R) (a0 : ((List Int) × (List Int))) (a1 : (List (Int × Int))) : Option R :=
  Option.bind (g_impl_ValidStrip a0) fun y153 =>
  cond (!y153)
  (kx Bool.false)
  (t_impl_CheckReduction_5p (fun z => Option.bind (w_impl_CheckReduction_5 z) (exC x_impl_CheckReduction_5
   (fun e220 =>
    kx (e220.1.2.1.1 : Bool), fun e224 =>
    kx ((((List.length (e224.2.1.1.1 : List Int)) : Nat) : Int) == (1 : Int)), ())))
   (fun e213 =>
    kx (e213.1.2.1.1 : Bool), fun e217 =>
    kx ((((List.length (e217.2.1.1.1 : List Int)) : Nat) : Int) == (1 : Int)), ()) (m_impl_CheckReduction_5p a1 (((List.length a1) : Nat) : Int) (0 : Int) a0.1 a0.2))
noncomputable def g_impl_CheckReduction (a0 : ((List Int) × (List Int))) (a1 : (List (Int × Int))) : Option (Bool) := t_impl_CheckReduction some a0 a1
theorem nat_impl_CheckReduction {R : Type} (kx : Bool → Option R) (a0 : ((List Int) × (List Int))) (a1 : (List (Int × Int))) : t_impl_CheckReduction kx a0 a1 = (g_impl_CheckReduction a0 a1).bind kx := by
  unfold g_impl_CheckReduction t_impl_CheckReduction
  exact nat_bind fun _ => nat_cond (rfl) (nat_peel nat_impl_CheckReduction_5p (by exact fun _ => nat_exC ⟨fun _ => rfl, fun _ => rfl, trivial⟩) (by exact ⟨fun _ => rfl, fun _ => rfl, trivial⟩) _)
abbrev as_impl_CheckReduction : List AX := [.val true (.pair (.slice (.int .i64)) (.slice (.int .i64))), .val false (.slice (.pair (.int .i64) (.int .i64)))]
abbrev en_impl_CheckReduction : Bool → AV × List CV := fun b => (.one ⟨false, [(.v (.bool b))]⟩, [])
noncomputable abbrev k_impl_CheckReduction : Contract := .fx as_impl_CheckReduction (Bool) (fun z => g_impl_CheckReduction z.1 z.2.1) en_impl_CheckReduction
theorem r_impl_CheckReduction (z : argsX as_impl_CheckReduction) : runF (tab C0 T_impl_CheckReduction) h_impl_CheckReduction 1 Try.f30 (lentOf as_impl_CheckReduction) (xBoxes as_impl_CheckReduction z) (xVals as_impl_CheckReduction 0 z) K2 = t_impl_CheckReduction (fun b => some (en_impl_CheckReduction b)) z.1 z.2.1 := by kernel_rfl
theorem so_impl_CheckReduction : Sound C0 30 k_impl_CheckReduction :=
  Sound.fx a_impl_CheckReduction mixed Try.func30 (by kernel_rfl) (by kernel_rfl) h_impl_CheckReduction 1 hs_impl_CheckReduction (fun z => (r_impl_CheckReduction z).trans (nat_impl_CheckReduction _ z.1 z.2.1))

/-! ### F26 laws.eqInt64S -/
noncomputable def T_laws_eqInt64S : List (FuncId × Contract) := []
theorem a_laws_eqInt64S : AllSound C0 T_laws_eqInt64S := .nil
abbrev s_laws_eqInt64S_5 : LS := ⟨[(false, [(.sl (.int .i64))]), (false, [(.sl (.int .i64))]), (false, [(.int .i64)])], [], []⟩
abbrev e_laws_eqInt64S_5_0 : LS := ⟨[(false, [.bool])], [], []⟩
abbrev d_laws_eqInt64S_5_0 (v0 : Bool) : e_laws_eqInt64S_5_0.T := (((v0, ()), ()), (), ())
abbrev e_laws_eqInt64S_5_1 : LS := ⟨[(false, [.undef])], [], []⟩
abbrev d_laws_eqInt64S_5_1 : e_laws_eqInt64S_5_1.T := ((((), ()), ()), (), ())
abbrev x_laws_eqInt64S_5 : List (Ex × LS) := [(.ret, e_laws_eqInt64S_5_0), (.exit 0, e_laws_eqInt64S_5_1)]
abbrev m_laws_eqInt64S_5 (x0 : List Int) (x1 : List Int) (x5 : Int) : s_laws_eqInt64S_5.T := (((x0, ()), (x1, ()), (x5, ()), ()), (), ())
noncomputable def u_laws_eqInt64S_5 {R : Type} (nx : s_laws_eqInt64S_5.T → Option R) (hx : exH R x_laws_eqInt64S_5) (x0 : List Int) (x1 : List Int) (x5 : Int) : Option R :=
  cond (decide (x5 < (((List.length x0) : Nat) : Int)))
  (Option.bind (idx x0 x5) fun y236 =>
   Option.bind (idx x1 x5) fun y237 =>
   cond (y236 != y237)
   (hx.1 (d_laws_eqInt64S_5_0 Bool.false))
   (nx (m_laws_eqInt64S_5 x0 x1 (IntKind.wrap IntKind.i64 (x5 + (1 : Int))))))
  (hx.2.1 (d_laws_eqInt64S_5_1))
noncomputable def t_laws_eqInt64S_5 {R : Type} (nx : s_laws_eqInt64S_5.T → Option R) (hx : exH R x_laws_eqInt64S_5) (z : s_laws_eqInt64S_5.T) : Option R := u_laws_eqInt64S_5 nx hx z.1.1.1 z.1.2.1.1 z.1.2.2.1.1
theorem nat_laws_eqInt64S_5 : Natural @t_laws_eqInt64S_5 := fun R nx hx z => by
  show u_laws_eqInt64S_5 nx hx z.1.1.1 z.1.2.1.1 z.1.2.2.1.1 = (u_laws_eqInt64S_5 (fun y => some (.inl y)) (hIn x_laws_eqInt64S_5 fun x => some (.inr x)) z.1.1.1 z.1.2.1.1 z.1.2.2.1.1).bind (goOn nx hx)
  unfold u_laws_eqInt64S_5
  exact nat_cond (nat_bind fun _ => nat_bind fun _ => nat_cond (rfl) (rfl)) (rfl)
noncomputable def w_laws_eqInt64S_5 : s_laws_eqInt64S_5.T → Option (exT x_laws_eqInt64S_5) := wOf @t_laws_eqInt64S_5
theorem wq_laws_eqInt64S_5 (x0 : List Int) (x1 : List Int) (x5 : Int) : w_laws_eqInt64S_5 (m_laws_eqInt64S_5 x0 x1 x5) = u_laws_eqInt64S_5 w_laws_eqInt64S_5 (hIn x_laws_eqInt64S_5 some) x0 x1 x5 := wOf_eq nat_laws_eqInt64S_5 _
def lh_laws_eqInt64S_5 : LoopHint := ⟨[0, 1, 5], [], [4], []⟩
noncomputable def h_laws_eqInt64S : Hints Rv := ⟨fun k => match k with | 5 => lh_laws_eqInt64S_5 | _ => ⟨[], [], [], []⟩, fun k => match k with | 5 => some (loopX s_laws_eqInt64S_5 x_laws_eqInt64S_5 w_laws_eqInt64S_5) | _ => none⟩
theorem st_laws_eqInt64S_5 (n : Nat) (z : s_laws_eqInt64S_5.T) (k : Ex → Live → Option Rv) : loopN ⟨26, 26⟩ lh_laws_eqInt64S_5 (den (tab C0 T_laws_eqInt64S) ⟨26, 26⟩ h_laws_eqInt64S 1 (loopOf Try.f26 4)) (n + 1) (s_laws_eqInt64S_5.enc z) k =
    t_laws_eqInt64S_5 (fun y => loopN ⟨26, 26⟩ lh_laws_eqInt64S_5 (den (tab C0 T_laws_eqInt64S) ⟨26, 26⟩ h_laws_eqInt64S 1 (loopOf Try.f26 4)) n (s_laws_eqInt64S_5.enc y) k) (hK k x_laws_eqInt64S_5) z := by kernel_rfl
theorem hs_laws_eqInt64S : HintsOk (tab C0 T_laws_eqInt64S) ⟨26, 26⟩ h_laws_eqInt64S 1 (loops (codeOf Try.f26)) := by
  have hl : loops (codeOf Try.f26) = [loopOf Try.f26 4] := by kernel_rfl
  rw [hl]
  exact HintsOk.cons (n := 5) (lh := lh_laws_eqInt64S_5) (S := loopX s_laws_eqInt64S_5 x_laws_eqInt64S_5 w_laws_eqInt64S_5) (by kernel_rfl) rfl rfl (loopX_ok nat_laws_eqInt64S_5 st_laws_eqInt64S_5)
    (HintsOk.nil)
noncomputable def t_laws_eqInt64S {R : Type} (kx : Bool → Option R) (a0 : (List Int)) (a1 : (List Int)) : Option R :=
  cond ((((List.length a0) : Nat) : Int) != (((List.length a1) : Nat) : Int))
  (kx Bool.false)
  (Option.bind (w_laws_eqInt64S_5 (m_laws_eqInt64S_5 a0 a1 (0 : Int))) (exC x_laws_eqInt64S_5
   (fun e238 =>
    kx (e238.1.1.1 : Bool), fun _ =>
    kx Bool.true, ())))
noncomputable def g_laws_eqInt64S (a0 : (List Int)) (a1 : (List Int)) : Option (Bool) := t_laws_eqInt64S some a0 a1
theorem nat_laws_eqInt64S {R : Type} (kx : Bool → Option R) (a0 : (List Int)) (a1 : (List Int)) : t_laws_eqInt64S kx a0 a1 = (g_laws_eqInt64S a0 a1).bind kx := by
  unfold g_laws_eqInt64S t_laws_eqInt64S
  exact nat_cond (rfl) (nat_exC ⟨fun _ => rfl, fun _ => rfl, trivial⟩)
abbrev as_laws_eqInt64S : List AX := [.val false (.slice (.int .i64)), .val false (.slice (.int .i64))]
abbrev en_laws_eqInt64S : Bool → AV × List CV := fun b => (.one ⟨false, [(.v (.bool b))]⟩, [])
noncomputable abbrev k_laws_eqInt64S : Contract := .fx as_laws_eqInt64S (Bool) (fun z => g_laws_eqInt64S z.1 z.2.1) en_laws_eqInt64S
theorem r_laws_eqInt64S (z : argsX as_laws_eqInt64S) : runF (tab C0 T_laws_eqInt64S) h_laws_eqInt64S 1 Try.f26 (lentOf as_laws_eqInt64S) (xBoxes as_laws_eqInt64S z) (xVals as_laws_eqInt64S 0 z) K2 = t_laws_eqInt64S (fun b => some (en_laws_eqInt64S b)) z.1 z.2.1 := by kernel_rfl
theorem so_laws_eqInt64S : Sound C0 26 k_laws_eqInt64S :=
  Sound.fx a_laws_eqInt64S mixed Try.func26 (by kernel_rfl) (by kernel_rfl) h_laws_eqInt64S 1 hs_laws_eqInt64S (fun z => (r_laws_eqInt64S z).trans (nat_laws_eqInt64S _ z.1 z.2.1))

/-! ### F15 laws.eqStrip -/
noncomputable def T_laws_eqStrip : List (FuncId × Contract) := [(26, k_laws_eqInt64S)]
theorem a_laws_eqStrip : AllSound C0 T_laws_eqStrip := .cons so_laws_eqInt64S (.nil)
noncomputable def t_laws_eqStrip {R : Type} (kx : Bool → Option R) (a0 : ((List Int) × (List Int))) (a1 : ((List Int) × (List Int))) : Option R :=
  Option.bind (g_laws_eqInt64S a0.1 a1.1) fun y241 =>
  cond (!y241)
  (kx Bool.false)
  (Option.bind (g_laws_eqInt64S a0.2 a1.2) fun y242 =>
   cond (!y242)
   (kx Bool.false)
   (kx Bool.true))
noncomputable def g_laws_eqStrip (a0 : ((List Int) × (List Int))) (a1 : ((List Int) × (List Int))) : Option (Bool) := t_laws_eqStrip some a0 a1
theorem nat_laws_eqStrip {R : Type} (kx : Bool → Option R) (a0 : ((List Int) × (List Int))) (a1 : ((List Int) × (List Int))) : t_laws_eqStrip kx a0 a1 = (g_laws_eqStrip a0 a1).bind kx := by
  unfold g_laws_eqStrip t_laws_eqStrip
  exact nat_bind fun _ => nat_cond (rfl) (nat_bind fun _ => nat_cond (rfl) (rfl))
abbrev as_laws_eqStrip : List AX := [.val true (.pair (.slice (.int .i64)) (.slice (.int .i64))), .val true (.pair (.slice (.int .i64)) (.slice (.int .i64)))]
abbrev en_laws_eqStrip : Bool → AV × List CV := fun b => (.one ⟨false, [(.v (.bool b))]⟩, [])
noncomputable abbrev k_laws_eqStrip : Contract := .fx as_laws_eqStrip (Bool) (fun z => g_laws_eqStrip z.1 z.2.1) en_laws_eqStrip
theorem r_laws_eqStrip (z : argsX as_laws_eqStrip) : runF (tab C0 T_laws_eqStrip) noHints 1 Try.f15 (lentOf as_laws_eqStrip) (xBoxes as_laws_eqStrip z) (xVals as_laws_eqStrip 0 z) K2 = t_laws_eqStrip (fun b => some (en_laws_eqStrip b)) z.1 z.2.1 := by kernel_rfl
theorem so_laws_eqStrip : Sound C0 15 k_laws_eqStrip :=
  Sound.fx a_laws_eqStrip mixed Try.func15 (by kernel_rfl) (by kernel_rfl) noHints 1 noHints_ok (fun z => (r_laws_eqStrip z).trans (nat_laws_eqStrip _ z.1 z.2.1))

/-! ### F42 laws.eqStripStep -/
noncomputable def T_laws_eqStripStep : List (FuncId × Contract) := []
theorem a_laws_eqStripStep : AllSound C0 T_laws_eqStripStep := .nil
noncomputable def t_laws_eqStripStep {R : Type} (kx : Bool → Option R) (a0 : (Int × Int)) (a1 : (Int × Int)) : Option R :=
  cond (a0.1 != a1.1)
  (kx Bool.false)
  (cond (a0.2 != a1.2)
   (kx Bool.false)
   (kx Bool.true))
noncomputable def g_laws_eqStripStep (a0 : (Int × Int)) (a1 : (Int × Int)) : Option (Bool) := t_laws_eqStripStep some a0 a1
theorem nat_laws_eqStripStep {R : Type} (kx : Bool → Option R) (a0 : (Int × Int)) (a1 : (Int × Int)) : t_laws_eqStripStep kx a0 a1 = (g_laws_eqStripStep a0 a1).bind kx := by
  unfold g_laws_eqStripStep t_laws_eqStripStep
  exact nat_cond (rfl) (nat_cond (rfl) (rfl))
abbrev as_laws_eqStripStep : List AX := [.val true (.pair (.int .i64) (.int .i64)), .val true (.pair (.int .i64) (.int .i64))]
abbrev en_laws_eqStripStep : Bool → AV × List CV := fun b => (.one ⟨false, [(.v (.bool b))]⟩, [])
noncomputable abbrev k_laws_eqStripStep : Contract := .fx as_laws_eqStripStep (Bool) (fun z => g_laws_eqStripStep z.1 z.2.1) en_laws_eqStripStep
theorem r_laws_eqStripStep (z : argsX as_laws_eqStripStep) : runF (tab C0 T_laws_eqStripStep) noHints 1 Try.f42 (lentOf as_laws_eqStripStep) (xBoxes as_laws_eqStripStep z) (xVals as_laws_eqStripStep 0 z) K2 = t_laws_eqStripStep (fun b => some (en_laws_eqStripStep b)) z.1 z.2.1 := by kernel_rfl
theorem so_laws_eqStripStep : Sound C0 42 k_laws_eqStripStep :=
  Sound.fx a_laws_eqStripStep mixed Try.func42 (by kernel_rfl) (by kernel_rfl) noHints 1 noHints_ok (fun z => (r_laws_eqStripStep z).trans (nat_laws_eqStripStep _ z.1 z.2.1))

/-! ### F14 laws.eqStripStepS -/
noncomputable def T_laws_eqStripStepS : List (FuncId × Contract) := [(42, k_laws_eqStripStep)]
theorem a_laws_eqStripStepS : AllSound C0 T_laws_eqStripStepS := .cons so_laws_eqStripStep (.nil)
abbrev s_laws_eqStripStepS_5 : LS := ⟨[(false, [(.sl (.pair (.int .i64) (.int .i64)))]), (false, [(.sl (.pair (.int .i64) (.int .i64)))]), (false, [(.int .i64)])], [], []⟩
abbrev e_laws_eqStripStepS_5_0 : LS := ⟨[(false, [.bool])], [], []⟩
abbrev d_laws_eqStripStepS_5_0 (v0 : Bool) : e_laws_eqStripStepS_5_0.T := (((v0, ()), ()), (), ())
abbrev e_laws_eqStripStepS_5_1 : LS := ⟨[(false, [.undef])], [], []⟩
abbrev d_laws_eqStripStepS_5_1 : e_laws_eqStripStepS_5_1.T := ((((), ()), ()), (), ())
abbrev x_laws_eqStripStepS_5 : List (Ex × LS) := [(.ret, e_laws_eqStripStepS_5_0), (.exit 0, e_laws_eqStripStepS_5_1)]
abbrev m_laws_eqStripStepS_5 (x0 : List (Int × Int)) (x1 : List (Int × Int)) (x5 : Int) : s_laws_eqStripStepS_5.T := (((x0, ()), (x1, ()), (x5, ()), ()), (), ())
noncomputable def u_laws_eqStripStepS_5 {R : Type} (nx : s_laws_eqStripStepS_5.T → Option R) (hx : exH R x_laws_eqStripStepS_5) (x0 : List (Int × Int)) (x1 : List (Int × Int)) (x5 : Int) : Option R :=
  cond (decide (x5 < (((List.length x0) : Nat) : Int)))
  (Option.bind (idx x0 x5) fun y250 =>
   Option.bind (idx x1 x5) fun y251 =>
   Option.bind (g_laws_eqStripStep y250 y251) fun y254 =>
   cond (!y254)
   (hx.1 (d_laws_eqStripStepS_5_0 Bool.false))
   (nx (m_laws_eqStripStepS_5 x0 x1 (IntKind.wrap IntKind.i64 (x5 + (1 : Int))))))
  (hx.2.1 (d_laws_eqStripStepS_5_1))
noncomputable def t_laws_eqStripStepS_5 {R : Type} (nx : s_laws_eqStripStepS_5.T → Option R) (hx : exH R x_laws_eqStripStepS_5) (z : s_laws_eqStripStepS_5.T) : Option R := u_laws_eqStripStepS_5 nx hx z.1.1.1 z.1.2.1.1 z.1.2.2.1.1
theorem nat_laws_eqStripStepS_5 : Natural @t_laws_eqStripStepS_5 := fun R nx hx z => by
  show u_laws_eqStripStepS_5 nx hx z.1.1.1 z.1.2.1.1 z.1.2.2.1.1 = (u_laws_eqStripStepS_5 (fun y => some (.inl y)) (hIn x_laws_eqStripStepS_5 fun x => some (.inr x)) z.1.1.1 z.1.2.1.1 z.1.2.2.1.1).bind (goOn nx hx)
  unfold u_laws_eqStripStepS_5
  exact nat_cond (nat_bind fun _ => nat_bind fun _ => nat_bind fun _ => nat_cond (rfl) (rfl)) (rfl)
noncomputable def w_laws_eqStripStepS_5 : s_laws_eqStripStepS_5.T → Option (exT x_laws_eqStripStepS_5) := wOf @t_laws_eqStripStepS_5
theorem wq_laws_eqStripStepS_5 (x0 : List (Int × Int)) (x1 : List (Int × Int)) (x5 : Int) : w_laws_eqStripStepS_5 (m_laws_eqStripStepS_5 x0 x1 x5) = u_laws_eqStripStepS_5 w_laws_eqStripStepS_5 (hIn x_laws_eqStripStepS_5 some) x0 x1 x5 := wOf_eq nat_laws_eqStripStepS_5 _
def lh_laws_eqStripStepS_5 : LoopHint := ⟨[0, 1, 5], [], [4], []⟩
noncomputable def h_laws_eqStripStepS : Hints Rv := ⟨fun k => match k with | 5 => lh_laws_eqStripStepS_5 | _ => ⟨[], [], [], []⟩, fun k => match k with | 5 => some (loopX s_laws_eqStripStepS_5 x_laws_eqStripStepS_5 w_laws_eqStripStepS_5) | _ => none⟩
theorem st_laws_eqStripStepS_5 (n : Nat) (z : s_laws_eqStripStepS_5.T) (k : Ex → Live → Option Rv) : loopN ⟨27, 27⟩ lh_laws_eqStripStepS_5 (den (tab C0 T_laws_eqStripStepS) ⟨27, 27⟩ h_laws_eqStripStepS 1 (loopOf Try.f14 4)) (n + 1) (s_laws_eqStripStepS_5.enc z) k =
    t_laws_eqStripStepS_5 (fun y => loopN ⟨27, 27⟩ lh_laws_eqStripStepS_5 (den (tab C0 T_laws_eqStripStepS) ⟨27, 27⟩ h_laws_eqStripStepS 1 (loopOf Try.f14 4)) n (s_laws_eqStripStepS_5.enc y) k) (hK k x_laws_eqStripStepS_5) z := by kernel_rfl
theorem hs_laws_eqStripStepS : HintsOk (tab C0 T_laws_eqStripStepS) ⟨27, 27⟩ h_laws_eqStripStepS 1 (loops (codeOf Try.f14)) := by
  have hl : loops (codeOf Try.f14) = [loopOf Try.f14 4] := by kernel_rfl
  rw [hl]
  exact HintsOk.cons (n := 5) (lh := lh_laws_eqStripStepS_5) (S := loopX s_laws_eqStripStepS_5 x_laws_eqStripStepS_5 w_laws_eqStripStepS_5) (by kernel_rfl) rfl rfl (loopX_ok nat_laws_eqStripStepS_5 st_laws_eqStripStepS_5)
    (HintsOk.nil)
noncomputable def t_laws_eqStripStepS {R : Type} (kx : Bool → Option R) (a0 : (List (Int × Int))) (a1 : (List (Int × Int))) : Option R :=
  cond ((((List.length a0) : Nat) : Int) != (((List.length a1) : Nat) : Int))
  (kx Bool.false)
  (Option.bind (w_laws_eqStripStepS_5 (m_laws_eqStripStepS_5 a0 a1 (0 : Int))) (exC x_laws_eqStripStepS_5
   (fun e255 =>
    kx (e255.1.1.1 : Bool), fun _ =>
    kx Bool.true, ())))
noncomputable def g_laws_eqStripStepS (a0 : (List (Int × Int))) (a1 : (List (Int × Int))) : Option (Bool) := t_laws_eqStripStepS some a0 a1
theorem nat_laws_eqStripStepS {R : Type} (kx : Bool → Option R) (a0 : (List (Int × Int))) (a1 : (List (Int × Int))) : t_laws_eqStripStepS kx a0 a1 = (g_laws_eqStripStepS a0 a1).bind kx := by
  unfold g_laws_eqStripStepS t_laws_eqStripStepS
  exact nat_cond (rfl) (nat_exC ⟨fun _ => rfl, fun _ => rfl, trivial⟩)
abbrev as_laws_eqStripStepS : List AX := [.val false (.slice (.pair (.int .i64) (.int .i64))), .val false (.slice (.pair (.int .i64) (.int .i64)))]
abbrev en_laws_eqStripStepS : Bool → AV × List CV := fun b => (.one ⟨false, [(.v (.bool b))]⟩, [])
noncomputable abbrev k_laws_eqStripStepS : Contract := .fx as_laws_eqStripStepS (Bool) (fun z => g_laws_eqStripStepS z.1 z.2.1) en_laws_eqStripStepS
theorem r_laws_eqStripStepS (z : argsX as_laws_eqStripStepS) : runF (tab C0 T_laws_eqStripStepS) h_laws_eqStripStepS 1 Try.f14 (lentOf as_laws_eqStripStepS) (xBoxes as_laws_eqStripStepS z) (xVals as_laws_eqStripStepS 0 z) K2 = t_laws_eqStripStepS (fun b => some (en_laws_eqStripStepS b)) z.1 z.2.1 := by kernel_rfl
theorem so_laws_eqStripStepS : Sound C0 14 k_laws_eqStripStepS :=
  Sound.fx a_laws_eqStripStepS mixed Try.func14 (by kernel_rfl) (by kernel_rfl) h_laws_eqStripStepS 1 hs_laws_eqStripStepS (fun z => (r_laws_eqStripStepS z).trans (nat_laws_eqStripStepS _ z.1 z.2.1))

/-! ### F6 laws.FnExactCheckReduction -/
noncomputable def T_laws_FnExactCheckReduction : List (FuncId × Contract) := [(10, k_laws_szStrip), (27, k_laws_szStripStepS), (12, k_laws_toStrip), (29, k_laws_toStripStepS), (28, k_spec_CheckReduction), (30, k_impl_CheckReduction), (15, k_laws_eqStrip), (14, k_laws_eqStripStepS)]
theorem a_laws_FnExactCheckReduction : AllSound C0 T_laws_FnExactCheckReduction := .cons so_laws_szStrip (.cons so_laws_szStripStepS (.cons so_laws_toStrip (.cons so_laws_toStripStepS (.cons so_spec_CheckReduction (.cons so_impl_CheckReduction (.cons so_laws_eqStrip (.cons so_laws_eqStripStepS (.nil))))))))
noncomputable def t_laws_FnExactCheckReduction {R : Type} (kx : Bool → Option R) (a0 : ((List Int) × (List Int))) (a1 : (List (Int × Int))) : Option R :=
  Option.bind (g_laws_szStrip a0 (1048576 : Int)) fun y8 =>
  cond (decide (y8 < (0 : Int)))
  (kx Bool.true)
  (Option.bind (g_laws_szStripStepS a1 y8) fun y11 =>
   cond (decide (y11 < (0 : Int)))
   (kx Bool.true)
   (Option.bind (g_laws_toStrip a0) fun y23 =>
    Option.bind (g_laws_toStripStepS a1) fun y34 =>
    Option.bind (g_spec_CheckReduction y23 y34) fun y102 =>
    Option.bind (g_laws_toStrip a0) fun y103 =>
    Option.bind (g_laws_toStripStepS a1) fun y104 =>
    Option.bind (g_impl_CheckReduction y103 y104) fun y227 =>
    cond (!(y227 == y102))
    (kx Bool.false)
    (Option.bind (g_laws_toStrip a0) fun y228 =>
     Option.bind (g_laws_eqStrip y103 y228) fun y243 =>
     cond (!y243)
     (kx Bool.false)
     (Option.bind (g_laws_toStripStepS a1) fun y244 =>
      Option.bind (g_laws_eqStripStepS y104 y244) fun y258 =>
      cond (!y258)
      (kx Bool.false)
      (kx Bool.true)))))
noncomputable def g_laws_FnExactCheckReduction (a0 : ((List Int) × (List Int))) (a1 : (List (Int × Int))) : Option (Bool) := t_laws_FnExactCheckReduction some a0 a1
theorem nat_laws_FnExactCheckReduction {R : Type} (kx : Bool → Option R) (a0 : ((List Int) × (List Int))) (a1 : (List (Int × Int))) : t_laws_FnExactCheckReduction kx a0 a1 = (g_laws_FnExactCheckReduction a0 a1).bind kx := by
  unfold g_laws_FnExactCheckReduction t_laws_FnExactCheckReduction
  exact nat_bind fun _ => nat_cond (rfl) (nat_bind fun _ => nat_cond (rfl) (nat_bind fun _ => nat_bind fun _ => nat_bind fun _ => nat_bind fun _ => nat_bind fun _ => nat_bind fun _ => nat_cond (rfl) (nat_bind fun _ => nat_bind fun _ => nat_cond (rfl) (nat_bind fun _ => nat_bind fun _ => nat_cond (rfl) (rfl)))))
abbrev as_laws_FnExactCheckReduction : List AX := [.val true (.pair (.slice (.int .i64)) (.slice (.int .i64))), .val false (.slice (.pair (.int .i64) (.int .i64)))]
abbrev en_laws_FnExactCheckReduction : Bool → AV × List CV := fun b => (.one ⟨false, [(.v (.bool b))]⟩, [])
noncomputable abbrev k_laws_FnExactCheckReduction : Contract := .fx as_laws_FnExactCheckReduction (Bool) (fun z => g_laws_FnExactCheckReduction z.1 z.2.1) en_laws_FnExactCheckReduction
theorem r_laws_FnExactCheckReduction (z : argsX as_laws_FnExactCheckReduction) : runF (tab C0 T_laws_FnExactCheckReduction) noHints 1 Try.f6 (lentOf as_laws_FnExactCheckReduction) (xBoxes as_laws_FnExactCheckReduction z) (xVals as_laws_FnExactCheckReduction 0 z) K2 = t_laws_FnExactCheckReduction (fun b => some (en_laws_FnExactCheckReduction b)) z.1 z.2.1 := by kernel_rfl
theorem so_laws_FnExactCheckReduction : Sound C0 6 k_laws_FnExactCheckReduction :=
  Sound.fx a_laws_FnExactCheckReduction mixed Try.func6 (by kernel_rfl) (by kernel_rfl) noHints 1 noHints_ok (fun z => (r_laws_FnExactCheckReduction z).trans (nat_laws_FnExactCheckReduction _ z.1 z.2.1))

end Go.Proofs.Ytpabholjoblkbaa
