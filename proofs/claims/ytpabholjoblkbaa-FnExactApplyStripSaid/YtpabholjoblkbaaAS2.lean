/- What the functions that ApplyStrip reaches compute, printed. No conditions. -/
import Derived.Test.YtpabholjoblkbaaW1P
namespace Go.Proofs.Ytpabholjoblkbaa
open Go.Vai
set_option maxRecDepth 100000

/-! ### F37 laws.szInt64S -/
noncomputable def T_laws_szInt64S : List (FuncId × Contract) := []
theorem a_laws_szInt64S : AllSound C0 T_laws_szInt64S := .nil
noncomputable def t_laws_szInt64S {R : Type} (kx : Int → Option R) (a0 : (List Int)) (a1 : Int) : Option R :=
  cond (decide ((IntKind.wrap IntKind.i64 (a1 - (((List.length a0) : Nat) : Int))) < (0 : Int)))
  (kx (-(1 : Int)))
  (kx (IntKind.wrap IntKind.i64 (a1 - (((List.length a0) : Nat) : Int))))
noncomputable def g_laws_szInt64S (a0 : (List Int)) (a1 : Int) : Option (Int) := t_laws_szInt64S some a0 a1
theorem nat_laws_szInt64S {R : Type} (kx : Int → Option R) (a0 : (List Int)) (a1 : Int) : t_laws_szInt64S kx a0 a1 = (g_laws_szInt64S a0 a1).bind kx := by
  unfold g_laws_szInt64S t_laws_szInt64S
  exact nat_cond (rfl) (rfl)
abbrev as_laws_szInt64S : List AX := [.val false (.slice (.int .i64)), .val false (.int .i64)]
abbrev en_laws_szInt64S : Int → AV × List CV := fun b => (.one ⟨false, [(.v (.int .i64 b))]⟩, [])
noncomputable abbrev k_laws_szInt64S : Contract := .fx as_laws_szInt64S (Int) (fun z => g_laws_szInt64S z.1 z.2.1) en_laws_szInt64S
theorem r_laws_szInt64S (z : argsX as_laws_szInt64S) : runF (tab C0 T_laws_szInt64S) noHints 1 Try.f37 (lentOf as_laws_szInt64S) (xBoxes as_laws_szInt64S z) (xVals as_laws_szInt64S 0 z) K2 = t_laws_szInt64S (fun b => some (en_laws_szInt64S b)) z.1 z.2.1 := by kernel_rfl
theorem so_laws_szInt64S : Sound C0 37 k_laws_szInt64S :=
  Sound.fx a_laws_szInt64S mixed Try.func37 (by kernel_rfl) (by kernel_rfl) noHints 1 noHints_ok (fun z => (r_laws_szInt64S z).trans (nat_laws_szInt64S _ z.1 z.2.1))

/-! ### F10 laws.szStrip -/
noncomputable def T_laws_szStrip : List (FuncId × Contract) := [(37, k_laws_szInt64S)]
theorem a_laws_szStrip : AllSound C0 T_laws_szStrip := .cons so_laws_szInt64S (.nil)
noncomputable def t_laws_szStrip {R : Type} (kx : Int → Option R) (a0 : ((List Int) × (List Int))) (a1 : Int) : Option R :=
  Option.bind (g_laws_szInt64S a0.1 a1) fun y6 =>
  cond (decide (y6 < (0 : Int)))
  (kx (-(1 : Int)))
  (Option.bind (g_laws_szInt64S a0.2 y6) fun y7 =>
   cond (decide (y7 < (0 : Int)))
   (kx (-(1 : Int)))
   (kx y7))
noncomputable def g_laws_szStrip (a0 : ((List Int) × (List Int))) (a1 : Int) : Option (Int) := t_laws_szStrip some a0 a1
theorem nat_laws_szStrip {R : Type} (kx : Int → Option R) (a0 : ((List Int) × (List Int))) (a1 : Int) : t_laws_szStrip kx a0 a1 = (g_laws_szStrip a0 a1).bind kx := by
  unfold g_laws_szStrip t_laws_szStrip
  exact nat_bind fun _ => nat_cond (rfl) (nat_bind fun _ => nat_cond (rfl) (rfl))
abbrev as_laws_szStrip : List AX := [.val true (.pair (.slice (.int .i64)) (.slice (.int .i64))), .val false (.int .i64)]
abbrev en_laws_szStrip : Int → AV × List CV := fun b => (.one ⟨false, [(.v (.int .i64 b))]⟩, [])
noncomputable abbrev k_laws_szStrip : Contract := .fx as_laws_szStrip (Int) (fun z => g_laws_szStrip z.1 z.2.1) en_laws_szStrip
theorem r_laws_szStrip (z : argsX as_laws_szStrip) : runF (tab C0 T_laws_szStrip) noHints 1 Try.f10 (lentOf as_laws_szStrip) (xBoxes as_laws_szStrip z) (xVals as_laws_szStrip 0 z) K2 = t_laws_szStrip (fun b => some (en_laws_szStrip b)) z.1 z.2.1 := by kernel_rfl
theorem so_laws_szStrip : Sound C0 10 k_laws_szStrip :=
  Sound.fx a_laws_szStrip mixed Try.func10 (by kernel_rfl) (by kernel_rfl) noHints 1 noHints_ok (fun z => (r_laws_szStrip z).trans (nat_laws_szStrip _ z.1 z.2.1))

/-! ### F24 laws.toInt64S -/
noncomputable def T_laws_toInt64S : List (FuncId × Contract) := []
theorem a_laws_toInt64S : AllSound C0 T_laws_toInt64S := .nil
abbrev s_laws_toInt64S_4 : LS := ⟨[(false, [(.sl (.int .i64))]), (false, [(.own (.int .i64))]), (false, [(.int .i64)])], [], []⟩
abbrev e_laws_toInt64S_4_0 : LS := ⟨[(false, [(.own (.int .i64))])], [], []⟩
abbrev d_laws_toInt64S_4_0 (v0 : List Int) : e_laws_toInt64S_4_0.T := (((v0, ()), ()), (), ())
abbrev x_laws_toInt64S_4 : List (Ex × LS) := [(.exit 0, e_laws_toInt64S_4_0)]
abbrev m_laws_toInt64S_4 (x0 : List Int) (x3 : List Int) (x4 : Int) : s_laws_toInt64S_4.T := (((x0, ()), (x3, ()), (x4, ()), ()), (), ())
noncomputable def u_laws_toInt64S_4 {R : Type} (nx : s_laws_toInt64S_4.T → Option R) (hx : exH R x_laws_toInt64S_4) (x0 : List Int) (x3 : List Int) (x4 : Int) : Option R :=
  cond (decide (x4 < (((List.length x0) : Nat) : Int)))
  (Option.bind (idx x0 x4) fun y14 =>
   Option.bind (idx x3 x4) fun _ =>
   nx (m_laws_toInt64S_4 x0 (List.set x3 (0 + (Int.toNat x4)) y14) (IntKind.wrap IntKind.i64 (x4 + (1 : Int)))))
  (hx.1 (d_laws_toInt64S_4_0 x3))
noncomputable def t_laws_toInt64S_4 {R : Type} (nx : s_laws_toInt64S_4.T → Option R) (hx : exH R x_laws_toInt64S_4) (z : s_laws_toInt64S_4.T) : Option R := u_laws_toInt64S_4 nx hx z.1.1.1 z.1.2.1.1 z.1.2.2.1.1
theorem nat_laws_toInt64S_4 : Natural @t_laws_toInt64S_4 := fun R nx hx z => by
  show u_laws_toInt64S_4 nx hx z.1.1.1 z.1.2.1.1 z.1.2.2.1.1 = (u_laws_toInt64S_4 (fun y => some (.inl y)) (hIn x_laws_toInt64S_4 fun x => some (.inr x)) z.1.1.1 z.1.2.1.1 z.1.2.2.1.1).bind (goOn nx hx)
  unfold u_laws_toInt64S_4
  exact nat_cond (nat_bind fun _ => nat_bind fun _ => rfl) (rfl)
noncomputable def w_laws_toInt64S_4 : s_laws_toInt64S_4.T → Option (exT x_laws_toInt64S_4) := wOf @t_laws_toInt64S_4
theorem wq_laws_toInt64S_4 (x0 : List Int) (x3 : List Int) (x4 : Int) : w_laws_toInt64S_4 (m_laws_toInt64S_4 x0 x3 x4) = u_laws_toInt64S_4 w_laws_toInt64S_4 (hIn x_laws_toInt64S_4 some) x0 x3 x4 := wOf_eq nat_laws_toInt64S_4 _
def lh_laws_toInt64S_4 : LoopHint := ⟨[0, 3, 4], [], [3], []⟩
noncomputable def h_laws_toInt64S : Hints Rv := ⟨fun k => match k with | 4 => lh_laws_toInt64S_4 | _ => ⟨[], [], [], []⟩, fun k => match k with | 4 => some (loopX s_laws_toInt64S_4 x_laws_toInt64S_4 w_laws_toInt64S_4) | _ => none⟩
theorem st_laws_toInt64S_4 (n : Nat) (z : s_laws_toInt64S_4.T) (k : Ex → Live → Option Rv) : loopN ⟨22, 22⟩ lh_laws_toInt64S_4 (den (tab C0 T_laws_toInt64S) ⟨22, 22⟩ h_laws_toInt64S 1 (loopOf Try.f24 3)) (n + 1) (s_laws_toInt64S_4.enc z) k =
    t_laws_toInt64S_4 (fun y => loopN ⟨22, 22⟩ lh_laws_toInt64S_4 (den (tab C0 T_laws_toInt64S) ⟨22, 22⟩ h_laws_toInt64S 1 (loopOf Try.f24 3)) n (s_laws_toInt64S_4.enc y) k) (hK k x_laws_toInt64S_4) z := by kernel_rfl
theorem hs_laws_toInt64S : HintsOk (tab C0 T_laws_toInt64S) ⟨22, 22⟩ h_laws_toInt64S 1 (loops (codeOf Try.f24)) := by
  have hl : loops (codeOf Try.f24) = [loopOf Try.f24 3] := by kernel_rfl
  rw [hl]
  exact HintsOk.cons (n := 4) (lh := lh_laws_toInt64S_4) (S := loopX s_laws_toInt64S_4 x_laws_toInt64S_4 w_laws_toInt64S_4) (by kernel_rfl) rfl rfl (loopX_ok nat_laws_toInt64S_4 st_laws_toInt64S_4)
    (HintsOk.nil)
noncomputable def t_laws_toInt64S {R : Type} (kx : (List Int) → Option R) (a0 : (List Int)) : Option R :=
  cond (decide ((((List.length a0) : Nat) : Int) ≤ (((List.length a0) : Nat) : Int)))
  (cond (decide (((((List.length a0) : Nat) : Int) * ((8 : Nat) : Int)) ≤ (70368744177664 : Int)))
   (cond (decide ((((List.length a0) : Nat) : Int) ≤ (70368744177664 : Int)))
    (Option.bind (w_laws_toInt64S_4 (m_laws_toInt64S_4 a0 (List.replicate (Int.toNat (((List.length a0) : Nat) : Int)) (0 : Int)) (0 : Int))) (exC x_laws_toInt64S_4
     (fun e16 =>
      kx (e16.1.1.1 : List Int), ())))
    (none))
   (none))
  (none)
noncomputable def g_laws_toInt64S (a0 : (List Int)) : Option ((List Int)) := t_laws_toInt64S some a0
theorem nat_laws_toInt64S {R : Type} (kx : (List Int) → Option R) (a0 : (List Int)) : t_laws_toInt64S kx a0 = (g_laws_toInt64S a0).bind kx := by
  unfold g_laws_toInt64S t_laws_toInt64S
  exact nat_cond (nat_cond (nat_cond (nat_exC ⟨fun _ => rfl, trivial⟩) (rfl)) (rfl)) (rfl)
abbrev as_laws_toInt64S : List AX := [.val false (.slice (.int .i64))]
abbrev en_laws_toInt64S : (List Int) → AV × List CV := fun b => (.one ⟨false, [(.own (.int .i64) b)]⟩, [])
noncomputable abbrev k_laws_toInt64S : Contract := .fx as_laws_toInt64S ((List Int)) (fun z => g_laws_toInt64S z.1) en_laws_toInt64S
theorem r_laws_toInt64S (z : argsX as_laws_toInt64S) : runF (tab C0 T_laws_toInt64S) h_laws_toInt64S 1 Try.f24 (lentOf as_laws_toInt64S) (xBoxes as_laws_toInt64S z) (xVals as_laws_toInt64S 0 z) K2 = t_laws_toInt64S (fun b => some (en_laws_toInt64S b)) z.1 := by kernel_rfl
theorem so_laws_toInt64S : Sound C0 24 k_laws_toInt64S :=
  Sound.fx a_laws_toInt64S mixed Try.func24 (by kernel_rfl) (by kernel_rfl) h_laws_toInt64S 1 hs_laws_toInt64S (fun z => (r_laws_toInt64S z).trans (nat_laws_toInt64S _ z.1))

/-! ### F12 laws.toStrip -/
noncomputable def T_laws_toStrip : List (FuncId × Contract) := [(24, k_laws_toInt64S)]
theorem a_laws_toStrip : AllSound C0 T_laws_toStrip := .cons so_laws_toInt64S (.nil)
noncomputable def t_laws_toStrip {R : Type} (kx : ((List Int) × (List Int)) → Option R) (a0 : ((List Int) × (List Int))) : Option R :=
  Option.bind (g_laws_toInt64S a0.1) fun y18 =>
  Option.bind (g_laws_toInt64S a0.2) fun y19 =>
  kx (y18, y19)
noncomputable def g_laws_toStrip (a0 : ((List Int) × (List Int))) : Option (((List Int) × (List Int))) := t_laws_toStrip some a0
theorem nat_laws_toStrip {R : Type} (kx : ((List Int) × (List Int)) → Option R) (a0 : ((List Int) × (List Int))) : t_laws_toStrip kx a0 = (g_laws_toStrip a0).bind kx := by
  unfold g_laws_toStrip t_laws_toStrip
  exact nat_bind fun _ => nat_bind fun _ => rfl
abbrev as_laws_toStrip : List AX := [.val true (.pair (.slice (.int .i64)) (.slice (.int .i64)))]
abbrev en_laws_toStrip : ((List Int) × (List Int)) → AV × List CV := fun b => (.one ⟨true, [(.own (.int .i64) b.1), (.own (.int .i64) b.2)]⟩, [])
noncomputable abbrev k_laws_toStrip : Contract := .fx as_laws_toStrip (((List Int) × (List Int))) (fun z => g_laws_toStrip z.1) en_laws_toStrip
theorem r_laws_toStrip (z : argsX as_laws_toStrip) : runF (tab C0 T_laws_toStrip) noHints 1 Try.f12 (lentOf as_laws_toStrip) (xBoxes as_laws_toStrip z) (xVals as_laws_toStrip 0 z) K2 = t_laws_toStrip (fun b => some (en_laws_toStrip b)) z.1 := by kernel_rfl
theorem so_laws_toStrip : Sound C0 12 k_laws_toStrip :=
  Sound.fx a_laws_toStrip mixed Try.func12 (by kernel_rfl) (by kernel_rfl) noHints 1 noHints_ok (fun z => (r_laws_toStrip z).trans (nat_laws_toStrip _ z.1))

/-! ### F20 laws.toStripStep -/
noncomputable def T_laws_toStripStep : List (FuncId × Contract) := []
theorem a_laws_toStripStep : AllSound C0 T_laws_toStripStep := .nil
noncomputable def t_laws_toStripStep {R : Type} (kx : (Int × Int) → Option R) (a0 : (Int × Int)) : Option R :=
  kx a0
noncomputable def g_laws_toStripStep (a0 : (Int × Int)) : Option ((Int × Int)) := t_laws_toStripStep some a0
theorem nat_laws_toStripStep {R : Type} (kx : (Int × Int) → Option R) (a0 : (Int × Int)) : t_laws_toStripStep kx a0 = (g_laws_toStripStep a0).bind kx := by
  unfold g_laws_toStripStep t_laws_toStripStep
  exact rfl
abbrev as_laws_toStripStep : List AX := [.val true (.pair (.int .i64) (.int .i64))]
abbrev en_laws_toStripStep : (Int × Int) → AV × List CV := fun b => (.one ⟨true, [(.v (.int .i64 b.1)), (.v (.int .i64 b.2))]⟩, [])
noncomputable abbrev k_laws_toStripStep : Contract := .fx as_laws_toStripStep ((Int × Int)) (fun z => g_laws_toStripStep z.1) en_laws_toStripStep
theorem r_laws_toStripStep (z : argsX as_laws_toStripStep) : runF (tab C0 T_laws_toStripStep) noHints 1 Try.f20 (lentOf as_laws_toStripStep) (xBoxes as_laws_toStripStep z) (xVals as_laws_toStripStep 0 z) K2 = t_laws_toStripStep (fun b => some (en_laws_toStripStep b)) z.1 := by kernel_rfl
theorem so_laws_toStripStep : Sound C0 20 k_laws_toStripStep :=
  Sound.fx a_laws_toStripStep mixed Try.func20 (by kernel_rfl) (by kernel_rfl) noHints 1 noHints_ok (fun z => (r_laws_toStripStep z).trans (nat_laws_toStripStep _ z.1))

/-! ### F56 spec.l00In -/
noncomputable def T_spec_l00In : List (FuncId × Contract) := []
theorem a_spec_l00In : AllSound C0 T_spec_l00In := .nil
noncomputable def t_spec_l00In {R : Type} (kx : Bool → Option R) (a0 : Int) (a1 : Int) (a2 : Int) : Option R :=
  cond (decide (a0 ≥ a1))
  (kx (decide (a0 ≤ a2)))
  (kx Bool.false)
noncomputable def g_spec_l00In (a0 : Int) (a1 : Int) (a2 : Int) : Option (Bool) := t_spec_l00In some a0 a1 a2
theorem nat_spec_l00In {R : Type} (kx : Bool → Option R) (a0 : Int) (a1 : Int) (a2 : Int) : t_spec_l00In kx a0 a1 a2 = (g_spec_l00In a0 a1 a2).bind kx := by
  unfold g_spec_l00In t_spec_l00In
  exact nat_cond (rfl) (rfl)
abbrev as_spec_l00In : List AX := [.val false (.int .i64), .val false (.int .i64), .val false (.int .i64)]
abbrev en_spec_l00In : Bool → AV × List CV := fun b => (.one ⟨false, [(.v (.bool b))]⟩, [])
noncomputable abbrev k_spec_l00In : Contract := .fx as_spec_l00In (Bool) (fun z => g_spec_l00In z.1 z.2.1 z.2.2.1) en_spec_l00In
theorem r_spec_l00In (z : argsX as_spec_l00In) : runF (tab C0 T_spec_l00In) noHints 1 Try.f56 (lentOf as_spec_l00In) (xBoxes as_spec_l00In z) (xVals as_spec_l00In 0 z) K2 = t_spec_l00In (fun b => some (en_spec_l00In b)) z.1 z.2.1 z.2.2.1 := by kernel_rfl
theorem so_spec_l00In : Sound C0 56 k_spec_l00In :=
  Sound.fx a_spec_l00In mixed Try.func56 (by kernel_rfl) (by kernel_rfl) noHints 1 noHints_ok (fun z => (r_spec_l00In z).trans (nat_spec_l00In _ z.1 z.2.1 z.2.2.1))

/-! ### F49 spec.l25Sizes -/
noncomputable def T_spec_l25Sizes : List (FuncId × Contract) := [(56, k_spec_l00In)]
theorem a_spec_l25Sizes : AllSound C0 T_spec_l25Sizes := .cons so_spec_l00In (.nil)
abbrev s_spec_l25Sizes_6 : LS := ⟨[(false, [(.sl (.int .i64))]), (false, [(.int .i64)]), (false, [(.int .i64)])], [], []⟩
abbrev e_spec_l25Sizes_6_0 : LS := ⟨[(false, [.bool]), (false, [(.int .i64)])], [], []⟩
abbrev d_spec_l25Sizes_6_0 (v0 : Bool) (v1 : Int) : e_spec_l25Sizes_6_0.T := (((v0, ()), (v1, ()), ()), (), ())
abbrev e_spec_l25Sizes_6_1 : LS := ⟨[(false, [.undef]), (false, [(.int .i64)])], [], []⟩
abbrev d_spec_l25Sizes_6_1 (v0 : Int) : e_spec_l25Sizes_6_1.T := ((((), ()), (v0, ()), ()), (), ())
abbrev x_spec_l25Sizes_6 : List (Ex × LS) := [(.ret, e_spec_l25Sizes_6_0), (.exit 0, e_spec_l25Sizes_6_1)]
abbrev m_spec_l25Sizes_6 (x0 : List Int) (x3 : Int) (x4 : Int) : s_spec_l25Sizes_6.T := (((x0, ()), (x3, ()), (x4, ()), ()), (), ())
noncomputable def u_spec_l25Sizes_6 {R : Type} (nx : s_spec_l25Sizes_6.T → Option R) (hx : exH R x_spec_l25Sizes_6) (x0 : List Int) (x3 : Int) (x4 : Int) : Option R :=
  cond (decide (x4 < (((List.length x0) : Nat) : Int)))
  (Option.bind (idx x0 x4) fun y34 =>
   Option.bind (g_spec_l00In y34 (1 : Int) (1000 : Int)) fun y35 =>
   cond (!y35)
   (hx.1 (d_spec_l25Sizes_6_0 Bool.false x3))
   (Option.bind (idx x0 x4) fun y36 =>
    nx (m_spec_l25Sizes_6 x0 (IntKind.wrap IntKind.i64 (x3 + y36)) (IntKind.wrap IntKind.i64 (x4 + (1 : Int))))))
  (hx.2.1 (d_spec_l25Sizes_6_1 x3))
noncomputable def t_spec_l25Sizes_6 {R : Type} (nx : s_spec_l25Sizes_6.T → Option R) (hx : exH R x_spec_l25Sizes_6) (z : s_spec_l25Sizes_6.T) : Option R := u_spec_l25Sizes_6 nx hx z.1.1.1 z.1.2.1.1 z.1.2.2.1.1
theorem nat_spec_l25Sizes_6 : Natural @t_spec_l25Sizes_6 := fun R nx hx z => by
  show u_spec_l25Sizes_6 nx hx z.1.1.1 z.1.2.1.1 z.1.2.2.1.1 = (u_spec_l25Sizes_6 (fun y => some (.inl y)) (hIn x_spec_l25Sizes_6 fun x => some (.inr x)) z.1.1.1 z.1.2.1.1 z.1.2.2.1.1).bind (goOn nx hx)
  unfold u_spec_l25Sizes_6
  exact nat_cond (nat_bind fun _ => nat_bind fun _ => nat_cond (rfl) (nat_bind fun _ => rfl)) (rfl)
noncomputable def w_spec_l25Sizes_6 : s_spec_l25Sizes_6.T → Option (exT x_spec_l25Sizes_6) := wOf @t_spec_l25Sizes_6
theorem wq_spec_l25Sizes_6 (x0 : List Int) (x3 : Int) (x4 : Int) : w_spec_l25Sizes_6 (m_spec_l25Sizes_6 x0 x3 x4) = u_spec_l25Sizes_6 w_spec_l25Sizes_6 (hIn x_spec_l25Sizes_6 some) x0 x3 x4 := wOf_eq nat_spec_l25Sizes_6 _
def lh_spec_l25Sizes_6 : LoopHint := ⟨[0, 3, 4], [], [2, 3], []⟩
noncomputable def h_spec_l25Sizes : Hints Rv := ⟨fun k => match k with | 6 => lh_spec_l25Sizes_6 | _ => ⟨[], [], [], []⟩, fun k => match k with | 6 => some (loopX s_spec_l25Sizes_6 x_spec_l25Sizes_6 w_spec_l25Sizes_6) | _ => none⟩
theorem st_spec_l25Sizes_6 (n : Nat) (z : s_spec_l25Sizes_6.T) (k : Ex → Live → Option Rv) : loopN ⟨29, 29⟩ lh_spec_l25Sizes_6 (den (tab C0 T_spec_l25Sizes) ⟨29, 29⟩ h_spec_l25Sizes 1 (loopOf Try.f49 5)) (n + 1) (s_spec_l25Sizes_6.enc z) k =
    t_spec_l25Sizes_6 (fun y => loopN ⟨29, 29⟩ lh_spec_l25Sizes_6 (den (tab C0 T_spec_l25Sizes) ⟨29, 29⟩ h_spec_l25Sizes 1 (loopOf Try.f49 5)) n (s_spec_l25Sizes_6.enc y) k) (hK k x_spec_l25Sizes_6) z := by kernel_rfl
theorem hs_spec_l25Sizes : HintsOk (tab C0 T_spec_l25Sizes) ⟨29, 29⟩ h_spec_l25Sizes 1 (loops (codeOf Try.f49)) := by
  have hl : loops (codeOf Try.f49) = [loopOf Try.f49 5] := by kernel_rfl
  rw [hl]
  exact HintsOk.cons (n := 6) (lh := lh_spec_l25Sizes_6) (S := loopX s_spec_l25Sizes_6 x_spec_l25Sizes_6 w_spec_l25Sizes_6) (by kernel_rfl) rfl rfl (loopX_ok nat_spec_l25Sizes_6 st_spec_l25Sizes_6)
    (HintsOk.nil)
noncomputable def t_spec_l25Sizes {R : Type} (kx : Bool → Option R) (a0 : (List Int)) : Option R :=
  Option.bind (g_spec_l00In (((List.length a0) : Nat) : Int) (1 : Int) (14 : Int)) fun y30 =>
  cond (!y30)
  (kx Bool.false)
  (Option.bind (w_spec_l25Sizes_6 (m_spec_l25Sizes_6 a0 (0 : Int) (0 : Int))) (exC x_spec_l25Sizes_6
   (fun e37 =>
    kx (e37.1.1.1 : Bool), fun e40 =>
    kx (decide ((e40.1.2.1.1 : Int) ≤ (1000 : Int))), ())))
noncomputable def g_spec_l25Sizes (a0 : (List Int)) : Option (Bool) := t_spec_l25Sizes some a0
theorem nat_spec_l25Sizes {R : Type} (kx : Bool → Option R) (a0 : (List Int)) : t_spec_l25Sizes kx a0 = (g_spec_l25Sizes a0).bind kx := by
  unfold g_spec_l25Sizes t_spec_l25Sizes
  exact nat_bind fun _ => nat_cond (rfl) (nat_exC ⟨fun _ => rfl, fun _ => rfl, trivial⟩)
abbrev as_spec_l25Sizes : List AX := [.val false (.slice (.int .i64))]
abbrev en_spec_l25Sizes : Bool → AV × List CV := fun b => (.one ⟨false, [(.v (.bool b))]⟩, [])
noncomputable abbrev k_spec_l25Sizes : Contract := .fx as_spec_l25Sizes (Bool) (fun z => g_spec_l25Sizes z.1) en_spec_l25Sizes
theorem r_spec_l25Sizes (z : argsX as_spec_l25Sizes) : runF (tab C0 T_spec_l25Sizes) h_spec_l25Sizes 1 Try.f49 (lentOf as_spec_l25Sizes) (xBoxes as_spec_l25Sizes z) (xVals as_spec_l25Sizes 0 z) K2 = t_spec_l25Sizes (fun b => some (en_spec_l25Sizes b)) z.1 := by kernel_rfl
theorem so_spec_l25Sizes : Sound C0 49 k_spec_l25Sizes :=
  Sound.fx a_spec_l25Sizes mixed Try.func49 (by kernel_rfl) (by kernel_rfl) h_spec_l25Sizes 1 hs_spec_l25Sizes (fun z => (r_spec_l25Sizes z).trans (nat_spec_l25Sizes _ z.1))

/-! ### F38 spec.l25Ok -/
noncomputable def T_spec_l25Ok : List (FuncId × Contract) := [(49, k_spec_l25Sizes), (56, k_spec_l00In)]
theorem a_spec_l25Ok : AllSound C0 T_spec_l25Ok := .cons so_spec_l25Sizes (.cons so_spec_l00In (.nil))
abbrev s_spec_l25Ok_5 : LS := ⟨[(false, [(.ptr 42 0)]), (false, [(.int .i64)])], [(true, [(.sl (.int .i64)), (.sl (.int .i64))])], []⟩
abbrev e_spec_l25Ok_5_0 : LS := ⟨[(false, [.bool])], [], []⟩
abbrev d_spec_l25Ok_5_0 (v0 : Bool) : e_spec_l25Ok_5_0.T := (((v0, ()), ()), (), ())
abbrev e_spec_l25Ok_5_1 : LS := ⟨[(false, [.undef])], [], []⟩
abbrev d_spec_l25Ok_5_1 : e_spec_l25Ok_5_1.T := ((((), ()), ()), (), ())
abbrev x_spec_l25Ok_5 : List (Ex × LS) := [(.ret, e_spec_l25Ok_5_0), (.exit 0, e_spec_l25Ok_5_1)]
abbrev m_spec_l25Ok_5 (x3 : Int) (b0_0 : List Int) (b0_1 : List Int) : s_spec_l25Ok_5.T := ((((), ()), (x3, ()), ()), ((b0_0, b0_1, ()), ()), ())
noncomputable def u_spec_l25Ok_5 {R : Type} (nx : s_spec_l25Ok_5.T → Option R) (hx : exH R x_spec_l25Ok_5) (x3 : Int) (b0_0 : List Int) (b0_1 : List Int) : Option R :=
  cond (decide (x3 < (((List.length b0_1) : Nat) : Int)))
  (Option.bind (idx b0_1 x3) fun y46 =>
   Option.bind (g_spec_l00In y46 (2 : Int) (3 : Int)) fun y47 =>
   cond (!y47)
   (hx.1 (d_spec_l25Ok_5_0 Bool.false))
   (nx (m_spec_l25Ok_5 (IntKind.wrap IntKind.i64 (x3 + (1 : Int))) b0_0 b0_1)))
  (hx.2.1 (d_spec_l25Ok_5_1))
noncomputable def t_spec_l25Ok_5 {R : Type} (nx : s_spec_l25Ok_5.T → Option R) (hx : exH R x_spec_l25Ok_5) (z : s_spec_l25Ok_5.T) : Option R := u_spec_l25Ok_5 nx hx z.1.2.1.1 z.2.1.1.1 z.2.1.1.2.1
theorem nat_spec_l25Ok_5 : Natural @t_spec_l25Ok_5 := fun R nx hx z => by
  show u_spec_l25Ok_5 nx hx z.1.2.1.1 z.2.1.1.1 z.2.1.1.2.1 = (u_spec_l25Ok_5 (fun y => some (.inl y)) (hIn x_spec_l25Ok_5 fun x => some (.inr x)) z.1.2.1.1 z.2.1.1.1 z.2.1.1.2.1).bind (goOn nx hx)
  unfold u_spec_l25Ok_5
  exact nat_cond (nat_bind fun _ => nat_bind fun _ => nat_cond (rfl) (rfl)) (rfl)
noncomputable def w_spec_l25Ok_5 : s_spec_l25Ok_5.T → Option (exT x_spec_l25Ok_5) := wOf @t_spec_l25Ok_5
theorem wq_spec_l25Ok_5 (x3 : Int) (b0_0 : List Int) (b0_1 : List Int) : w_spec_l25Ok_5 (m_spec_l25Ok_5 x3 b0_0 b0_1) = u_spec_l25Ok_5 w_spec_l25Ok_5 (hIn x_spec_l25Ok_5 some) x3 b0_0 b0_1 := wOf_eq nat_spec_l25Ok_5 _
def lh_spec_l25Ok_5 : LoopHint := ⟨[0, 3], [42], [2], []⟩
noncomputable def h_spec_l25Ok : Hints Rv := ⟨fun k => match k with | 5 => lh_spec_l25Ok_5 | _ => ⟨[], [], [], []⟩, fun k => match k with | 5 => some (loopX s_spec_l25Ok_5 x_spec_l25Ok_5 w_spec_l25Ok_5) | _ => none⟩
theorem st_spec_l25Ok_5 (n : Nat) (z : s_spec_l25Ok_5.T) (k : Ex → Live → Option Rv) : loopN ⟨42, 43⟩ lh_spec_l25Ok_5 (den (tab C0 T_spec_l25Ok) ⟨42, 43⟩ h_spec_l25Ok 1 (loopOf Try.f38 4)) (n + 1) (s_spec_l25Ok_5.enc z) k =
    t_spec_l25Ok_5 (fun y => loopN ⟨42, 43⟩ lh_spec_l25Ok_5 (den (tab C0 T_spec_l25Ok) ⟨42, 43⟩ h_spec_l25Ok 1 (loopOf Try.f38 4)) n (s_spec_l25Ok_5.enc y) k) (hK k x_spec_l25Ok_5) z := by kernel_rfl
theorem hs_spec_l25Ok : HintsOk (tab C0 T_spec_l25Ok) ⟨42, 43⟩ h_spec_l25Ok 1 (loops (codeOf Try.f38)) := by
  have hl : loops (codeOf Try.f38) = [loopOf Try.f38 4] := by kernel_rfl
  rw [hl]
  exact HintsOk.cons (n := 5) (lh := lh_spec_l25Ok_5) (S := loopX s_spec_l25Ok_5 x_spec_l25Ok_5 w_spec_l25Ok_5) (by kernel_rfl) rfl rfl (loopX_ok nat_spec_l25Ok_5 st_spec_l25Ok_5)
    (HintsOk.nil)
noncomputable def t_spec_l25Ok {R : Type} (kx : Bool → Option R) (a0 : ((List Int) × (List Int))) : Option R :=
  Option.bind (g_spec_l25Sizes a0.1) fun y42 =>
  cond (!y42)
  (kx Bool.false)
  (cond ((((List.length a0.2) : Nat) : Int) != (IntKind.wrap IntKind.i64 ((((List.length a0.1) : Nat) : Int) - (1 : Int))))
   (kx Bool.false)
   (Option.bind (w_spec_l25Ok_5 (m_spec_l25Ok_5 (0 : Int) a0.1 a0.2)) (exC x_spec_l25Ok_5
    (fun e48 =>
     kx (e48.1.1.1 : Bool), fun _ =>
     kx Bool.true, ()))))
noncomputable def g_spec_l25Ok (a0 : ((List Int) × (List Int))) : Option (Bool) := t_spec_l25Ok some a0
theorem nat_spec_l25Ok {R : Type} (kx : Bool → Option R) (a0 : ((List Int) × (List Int))) : t_spec_l25Ok kx a0 = (g_spec_l25Ok a0).bind kx := by
  unfold g_spec_l25Ok t_spec_l25Ok
  exact nat_bind fun _ => nat_cond (rfl) (nat_cond (rfl) (nat_exC ⟨fun _ => rfl, fun _ => rfl, trivial⟩))
abbrev as_spec_l25Ok : List AX := [.ptr (.pair (.slice (.int .i64)) (.slice (.int .i64)))]
abbrev en_spec_l25Ok : Bool → AV × List CV := fun b => (.one ⟨false, [(.v (.bool b))]⟩, [])
noncomputable abbrev k_spec_l25Ok : Contract := .fx as_spec_l25Ok (Bool) (fun z => g_spec_l25Ok z.1) en_spec_l25Ok
theorem r_spec_l25Ok (z : argsX as_spec_l25Ok) : runF (tab C0 T_spec_l25Ok) h_spec_l25Ok 1 Try.f38 (lentOf as_spec_l25Ok) (xBoxes as_spec_l25Ok z) (xVals as_spec_l25Ok 0 z) K2 = t_spec_l25Ok (fun b => some (en_spec_l25Ok b)) z.1 := by kernel_rfl
theorem so_spec_l25Ok : Sound C0 38 k_spec_l25Ok :=
  Sound.fx a_spec_l25Ok mixed Try.func38 (by kernel_rfl) (by kernel_rfl) h_spec_l25Ok 1 hs_spec_l25Ok (fun z => (r_spec_l25Ok z).trans (nat_spec_l25Ok _ z.1))

/-! ### F44 spec.l25Can -/
noncomputable def T_spec_l25Can : List (FuncId × Contract) := [(56, k_spec_l00In)]
theorem a_spec_l25Can : AllSound C0 T_spec_l25Can := .cons so_spec_l00In (.nil)
noncomputable def t_spec_l25Can {R : Type} (kx : Bool → Option R) (a0 : ((List Int) × (List Int))) (a1 : (Int × Int)) : Option R :=
  cond (decide ((((List.length a0.1) : Nat) : Int) < (2 : Int)))
  (kx Bool.false)
  (cond (a1.1 == (2 : Int))
   (cond (a1.2 == (0 : Int))
    (Option.bind (idx a0.1 (0 : Int)) fun y54 =>
     Option.bind (idx a0.1 (1 : Int)) fun y55 =>
     kx (decide (y54 ≤ y55)))
    (kx Bool.false))
   (cond (a1.1 == (3 : Int))
    (cond (a1.2 == (IntKind.wrap IntKind.i64 ((((List.length a0.1) : Nat) : Int) - (1 : Int))))
     (Option.bind (idx a0.1 (IntKind.wrap IntKind.i64 ((((List.length a0.1) : Nat) : Int) - (1 : Int)))) fun y56 =>
      Option.bind (idx a0.1 (IntKind.wrap IntKind.i64 ((((List.length a0.1) : Nat) : Int) - (2 : Int)))) fun y57 =>
      kx (decide (y56 ≤ y57)))
     (kx Bool.false))
    (cond (a1.1 == (1 : Int))
     (Option.bind (g_spec_l00In a1.2 (1 : Int) (IntKind.wrap IntKind.i64 ((((List.length a0.1) : Nat) : Int) - (2 : Int)))) fun y58 =>
      cond y58
      (Option.bind (idx a0.1 a1.2) fun y59 =>
       Option.bind (idx a0.1 (IntKind.wrap IntKind.i64 (a1.2 - (1 : Int)))) fun y60 =>
       cond (decide (y59 ≤ y60))
       (Option.bind (idx a0.1 a1.2) fun y61 =>
        Option.bind (idx a0.1 (IntKind.wrap IntKind.i64 (a1.2 + (1 : Int)))) fun y62 =>
        cond (decide (y61 ≤ y62))
        (Option.bind (idx a0.2 (IntKind.wrap IntKind.i64 (a1.2 - (1 : Int)))) fun y63 =>
         Option.bind (idx a0.2 a1.2) fun y64 =>
         kx (y63 != y64))
        (kx Bool.false))
       (kx Bool.false))
      (kx Bool.false))
     (kx Bool.false))))
noncomputable def g_spec_l25Can (a0 : ((List Int) × (List Int))) (a1 : (Int × Int)) : Option (Bool) := t_spec_l25Can some a0 a1
theorem nat_spec_l25Can {R : Type} (kx : Bool → Option R) (a0 : ((List Int) × (List Int))) (a1 : (Int × Int)) : t_spec_l25Can kx a0 a1 = (g_spec_l25Can a0 a1).bind kx := by
  unfold g_spec_l25Can t_spec_l25Can
  exact nat_cond (rfl) (nat_cond (nat_cond (nat_bind fun _ => nat_bind fun _ => rfl) (rfl)) (nat_cond (nat_cond (nat_bind fun _ => nat_bind fun _ => rfl) (rfl)) (nat_cond (nat_bind fun _ => nat_cond (nat_bind fun _ => nat_bind fun _ => nat_cond (nat_bind fun _ => nat_bind fun _ => nat_cond (nat_bind fun _ => nat_bind fun _ => rfl) (rfl)) (rfl)) (rfl)) (rfl))))
abbrev as_spec_l25Can : List AX := [.ptr (.pair (.slice (.int .i64)) (.slice (.int .i64))), .val true (.pair (.int .i64) (.int .i64))]
abbrev en_spec_l25Can : Bool → AV × List CV := fun b => (.one ⟨false, [(.v (.bool b))]⟩, [])
noncomputable abbrev k_spec_l25Can : Contract := .fx as_spec_l25Can (Bool) (fun z => g_spec_l25Can z.1 z.2.1) en_spec_l25Can
theorem r_spec_l25Can (z : argsX as_spec_l25Can) : runF (tab C0 T_spec_l25Can) noHints 1 Try.f44 (lentOf as_spec_l25Can) (xBoxes as_spec_l25Can z) (xVals as_spec_l25Can 0 z) K2 = t_spec_l25Can (fun b => some (en_spec_l25Can b)) z.1 z.2.1 := by kernel_rfl
theorem so_spec_l25Can : Sound C0 44 k_spec_l25Can :=
  Sound.fx a_spec_l25Can mixed Try.func44 (by kernel_rfl) (by kernel_rfl) noHints 1 noHints_ok (fun z => (r_spec_l25Can z).trans (nat_spec_l25Can _ z.1 z.2.1))

/-! ### F45 spec.l25Apply -/
noncomputable def T_spec_l25Apply : List (FuncId × Contract) := []
theorem a_spec_l25Apply : AllSound C0 T_spec_l25Apply := .nil
noncomputable def t_spec_l25Apply {R : Type} (kx : ((List Int) × (List Int)) → Option R) (a0 : ((List Int) × (List Int))) (a1 : (Int × Int)) : Option R :=
  cond (a1.1 == (2 : Int))
  (cond (decide ((1 : Int) ≤ (((List.length a0.1) : Nat) : Int)))
   (cond (decide ((((List.length ([] : List Int)) + (List.length (List.drop (Int.toNat (1 : Int)) (List.take (List.length a0.1) a0.1)))) * 8) ≤ 70368744177664))
    (cond (decide (((List.length ([] : List Int)) + (List.length (List.drop (Int.toNat (1 : Int)) (List.take (List.length a0.1) a0.1)))) ≤ 70368744177664))
     (cond (decide ((1 : Int) ≤ (((List.length a0.2) : Nat) : Int)))
      (cond (decide ((((List.length ([] : List Int)) + (List.length (List.drop (Int.toNat (1 : Int)) (List.take (List.length a0.2) a0.2)))) * 8) ≤ 70368744177664))
       (cond (decide (((List.length ([] : List Int)) + (List.length (List.drop (Int.toNat (1 : Int)) (List.take (List.length a0.2) a0.2)))) ≤ 70368744177664))
        (kx (([] ++ (List.drop (Int.toNat (1 : Int)) (List.take (List.length a0.1) a0.1))), ([] ++ (List.drop (Int.toNat (1 : Int)) (List.take (List.length a0.2) a0.2)))))
        (none))
       (none))
      (none))
     (none))
    (none))
   (none))
  (cond (a1.1 == (3 : Int))
   (cond (decide ((0 : Int) ≤ (IntKind.wrap IntKind.i64 ((((List.length a0.1) : Nat) : Int) - (1 : Int)))))
    (cond (decide ((IntKind.wrap IntKind.i64 ((((List.length a0.1) : Nat) : Int) - (1 : Int))) ≤ (((List.length a0.1) : Nat) : Int)))
     (cond (decide ((((List.length ([] : List Int)) + (List.length (List.drop 0 (List.take (Int.toNat (IntKind.wrap IntKind.i64 ((((List.length a0.1) : Nat) : Int) - (1 : Int)))) a0.1)))) * 8) ≤ 70368744177664))
      (cond (decide (((List.length ([] : List Int)) + (List.length (List.drop 0 (List.take (Int.toNat (IntKind.wrap IntKind.i64 ((((List.length a0.1) : Nat) : Int) - (1 : Int)))) a0.1)))) ≤ 70368744177664))
       (cond (decide ((0 : Int) ≤ (IntKind.wrap IntKind.i64 ((((List.length a0.1) : Nat) : Int) - (2 : Int)))))
        (cond (decide ((IntKind.wrap IntKind.i64 ((((List.length a0.1) : Nat) : Int) - (2 : Int))) ≤ (((List.length a0.2) : Nat) : Int)))
         (cond (decide ((((List.length ([] : List Int)) + (List.length (List.drop 0 (List.take (Int.toNat (IntKind.wrap IntKind.i64 ((((List.length a0.1) : Nat) : Int) - (2 : Int)))) a0.2)))) * 8) ≤ 70368744177664))
          (cond (decide (((List.length ([] : List Int)) + (List.length (List.drop 0 (List.take (Int.toNat (IntKind.wrap IntKind.i64 ((((List.length a0.1) : Nat) : Int) - (2 : Int)))) a0.2)))) ≤ 70368744177664))
           (kx (([] ++ (List.drop 0 (List.take (Int.toNat (IntKind.wrap IntKind.i64 ((((List.length a0.1) : Nat) : Int) - (1 : Int)))) a0.1))), ([] ++ (List.drop 0 (List.take (Int.toNat (IntKind.wrap IntKind.i64 ((((List.length a0.1) : Nat) : Int) - (2 : Int)))) a0.2)))))
           (none))
          (none))
         (none))
        (none))
       (none))
      (none))
     (none))
    (none))
   (cond (decide ((0 : Int) ≤ (IntKind.wrap IntKind.i64 (a1.2 - (1 : Int)))))
    (cond (decide ((IntKind.wrap IntKind.i64 (a1.2 - (1 : Int))) ≤ (((List.length a0.1) : Nat) : Int)))
     (cond (decide ((((List.length ([] : List Int)) + (List.length (List.drop 0 (List.take (Int.toNat (IntKind.wrap IntKind.i64 (a1.2 - (1 : Int)))) a0.1)))) * 8) ≤ 70368744177664))
      (cond (decide (((List.length ([] : List Int)) + (List.length (List.drop 0 (List.take (Int.toNat (IntKind.wrap IntKind.i64 (a1.2 - (1 : Int)))) a0.1)))) ≤ 70368744177664))
       (Option.bind (idx a0.1 (IntKind.wrap IntKind.i64 (a1.2 - (1 : Int)))) fun y68 =>
        Option.bind (idx a0.1 a1.2) fun y69 =>
        Option.bind (idx a0.1 (IntKind.wrap IntKind.i64 (a1.2 + (1 : Int)))) fun y70 =>
        cond (decide ((((List.length ([] ++ (List.drop 0 (List.take (Int.toNat (IntKind.wrap IntKind.i64 (a1.2 - (1 : Int)))) a0.1)))) + (List.length [(IntKind.wrap IntKind.i64 ((IntKind.wrap IntKind.i64 (y68 - y69)) + y70))])) * 8) ≤ 70368744177664))
        (cond (decide (((List.length ([] ++ (List.drop 0 (List.take (Int.toNat (IntKind.wrap IntKind.i64 (a1.2 - (1 : Int)))) a0.1)))) + (List.length [(IntKind.wrap IntKind.i64 ((IntKind.wrap IntKind.i64 (y68 - y69)) + y70))])) ≤ 70368744177664))
         (cond (decide ((0 : Int) ≤ (IntKind.wrap IntKind.i64 (a1.2 + (2 : Int)))))
          (cond (decide ((IntKind.wrap IntKind.i64 (a1.2 + (2 : Int))) ≤ (((List.length a0.1) : Nat) : Int)))
           (cond (decide ((((List.length (([] ++ (List.drop 0 (List.take (Int.toNat (IntKind.wrap IntKind.i64 (a1.2 - (1 : Int)))) a0.1))) ++ [(IntKind.wrap IntKind.i64 ((IntKind.wrap IntKind.i64 (y68 - y69)) + y70))])) + (List.length (List.drop (Int.toNat (IntKind.wrap IntKind.i64 (a1.2 + (2 : Int)))) (List.take (List.length a0.1) a0.1)))) * 8) ≤ 70368744177664))
            (cond (decide (((List.length (([] ++ (List.drop 0 (List.take (Int.toNat (IntKind.wrap IntKind.i64 (a1.2 - (1 : Int)))) a0.1))) ++ [(IntKind.wrap IntKind.i64 ((IntKind.wrap IntKind.i64 (y68 - y69)) + y70))])) + (List.length (List.drop (Int.toNat (IntKind.wrap IntKind.i64 (a1.2 + (2 : Int)))) (List.take (List.length a0.1) a0.1)))) ≤ 70368744177664))
             (cond (decide ((0 : Int) ≤ (IntKind.wrap IntKind.i64 (a1.2 - (1 : Int)))))
              (cond (decide ((IntKind.wrap IntKind.i64 (a1.2 - (1 : Int))) ≤ (((List.length a0.2) : Nat) : Int)))
               (cond (decide ((((List.length ([] : List Int)) + (List.length (List.drop 0 (List.take (Int.toNat (IntKind.wrap IntKind.i64 (a1.2 - (1 : Int)))) a0.2)))) * 8) ≤ 70368744177664))
                (cond (decide (((List.length ([] : List Int)) + (List.length (List.drop 0 (List.take (Int.toNat (IntKind.wrap IntKind.i64 (a1.2 - (1 : Int)))) a0.2)))) ≤ 70368744177664))
                 (cond (decide ((0 : Int) ≤ (IntKind.wrap IntKind.i64 (a1.2 + (1 : Int)))))
                  (cond (decide ((IntKind.wrap IntKind.i64 (a1.2 + (1 : Int))) ≤ (((List.length a0.2) : Nat) : Int)))
                   (cond (decide ((((List.length ([] ++ (List.drop 0 (List.take (Int.toNat (IntKind.wrap IntKind.i64 (a1.2 - (1 : Int)))) a0.2)))) + (List.length (List.drop (Int.toNat (IntKind.wrap IntKind.i64 (a1.2 + (1 : Int)))) (List.take (List.length a0.2) a0.2)))) * 8) ≤ 70368744177664))
                    (cond (decide (((List.length ([] ++ (List.drop 0 (List.take (Int.toNat (IntKind.wrap IntKind.i64 (a1.2 - (1 : Int)))) a0.2)))) + (List.length (List.drop (Int.toNat (IntKind.wrap IntKind.i64 (a1.2 + (1 : Int)))) (List.take (List.length a0.2) a0.2)))) ≤ 70368744177664))
                     (kx (((([] ++ (List.drop 0 (List.take (Int.toNat (IntKind.wrap IntKind.i64 (a1.2 - (1 : Int)))) a0.1))) ++ [(IntKind.wrap IntKind.i64 ((IntKind.wrap IntKind.i64 (y68 - y69)) + y70))]) ++ (List.drop (Int.toNat (IntKind.wrap IntKind.i64 (a1.2 + (2 : Int)))) (List.take (List.length a0.1) a0.1))), (([] ++ (List.drop 0 (List.take (Int.toNat (IntKind.wrap IntKind.i64 (a1.2 - (1 : Int)))) a0.2))) ++ (List.drop (Int.toNat (IntKind.wrap IntKind.i64 (a1.2 + (1 : Int)))) (List.take (List.length a0.2) a0.2)))))
                     (none))
                    (none))
                   (none))
                  (none))
                 (none))
                (none))
               (none))
              (none))
             (none))
            (none))
           (none))
          (none))
         (none))
        (none))
       (none))
      (none))
     (none))
    (none)))
noncomputable def g_spec_l25Apply (a0 : ((List Int) × (List Int))) (a1 : (Int × Int)) : Option (((List Int) × (List Int))) := t_spec_l25Apply some a0 a1
theorem nat_spec_l25Apply {R : Type} (kx : ((List Int) × (List Int)) → Option R) (a0 : ((List Int) × (List Int))) (a1 : (Int × Int)) : t_spec_l25Apply kx a0 a1 = (g_spec_l25Apply a0 a1).bind kx := by
  unfold g_spec_l25Apply t_spec_l25Apply
  exact nat_cond (nat_cond (nat_cond (nat_cond (nat_cond (nat_cond (nat_cond (rfl) (rfl)) (rfl)) (rfl)) (rfl)) (rfl)) (rfl)) (nat_cond (nat_cond (nat_cond (nat_cond (nat_cond (nat_cond (nat_cond (nat_cond (nat_cond (rfl) (rfl)) (rfl)) (rfl)) (rfl)) (rfl)) (rfl)) (rfl)) (rfl)) (nat_cond (nat_cond (nat_cond (nat_cond (nat_bind fun _ => nat_bind fun _ => nat_bind fun _ => nat_cond (nat_cond (nat_cond (nat_cond (nat_cond (nat_cond (nat_cond (nat_cond (nat_cond (nat_cond (nat_cond (nat_cond (nat_cond (nat_cond (rfl) (rfl)) (rfl)) (rfl)) (rfl)) (rfl)) (rfl)) (rfl)) (rfl)) (rfl)) (rfl)) (rfl)) (rfl)) (rfl)) (rfl)) (rfl)) (rfl)) (rfl)) (rfl)))
abbrev as_spec_l25Apply : List AX := [.ptr (.pair (.slice (.int .i64)) (.slice (.int .i64))), .val true (.pair (.int .i64) (.int .i64))]
abbrev en_spec_l25Apply : ((List Int) × (List Int)) → AV × List CV := fun b => (.one ⟨true, [(.own (.int .i64) b.1), (.own (.int .i64) b.2)]⟩, [])
noncomputable abbrev k_spec_l25Apply : Contract := .fx as_spec_l25Apply (((List Int) × (List Int))) (fun z => g_spec_l25Apply z.1 z.2.1) en_spec_l25Apply
theorem r_spec_l25Apply (z : argsX as_spec_l25Apply) : runF (tab C0 T_spec_l25Apply) noHints 1 Try.f45 (lentOf as_spec_l25Apply) (xBoxes as_spec_l25Apply z) (xVals as_spec_l25Apply 0 z) K2 = t_spec_l25Apply (fun b => some (en_spec_l25Apply b)) z.1 z.2.1 := by kernel_rfl
theorem so_spec_l25Apply : Sound C0 45 k_spec_l25Apply :=
  Sound.fx a_spec_l25Apply mixed Try.func45 (by kernel_rfl) (by kernel_rfl) noHints 1 noHints_ok (fun z => (r_spec_l25Apply z).trans (nat_spec_l25Apply _ z.1 z.2.1))

/-! ### F19 spec.ApplyStrip -/
noncomputable def T_spec_ApplyStrip : List (FuncId × Contract) := [(38, k_spec_l25Ok), (44, k_spec_l25Can), (45, k_spec_l25Apply)]
theorem a_spec_ApplyStrip : AllSound C0 T_spec_ApplyStrip := .cons so_spec_l25Ok (.cons so_spec_l25Can (.cons so_spec_l25Apply (.nil)))
noncomputable def t_spec_ApplyStrip {R : Type} (kx : ((List Int) × (List Int)) × Int → Option R) (a0 : ((List Int) × (List Int))) (a1 : (Int × Int)) : Option R :=
  Option.bind (g_spec_l25Ok a0) fun y51 =>
  cond (!y51)
  (kx (([], []), (1 : Int)))
  (Option.bind (g_spec_l25Can a0 a1) fun y65 =>
   cond (!y65)
   (kx (([], []), (9 : Int)))
   (Option.bind (g_spec_l25Apply a0 a1) fun y71 =>
    kx (y71, (0 : Int))))
noncomputable def g_spec_ApplyStrip (a0 : ((List Int) × (List Int))) (a1 : (Int × Int)) : Option (((List Int) × (List Int)) × Int) := t_spec_ApplyStrip some a0 a1
theorem nat_spec_ApplyStrip {R : Type} (kx : ((List Int) × (List Int)) × Int → Option R) (a0 : ((List Int) × (List Int))) (a1 : (Int × Int)) : t_spec_ApplyStrip kx a0 a1 = (g_spec_ApplyStrip a0 a1).bind kx := by
  unfold g_spec_ApplyStrip t_spec_ApplyStrip
  exact nat_bind fun _ => nat_cond (rfl) (nat_bind fun _ => nat_cond (rfl) (nat_bind fun _ => rfl))
abbrev as_spec_ApplyStrip : List AX := [.val true (.pair (.slice (.int .i64)) (.slice (.int .i64))), .val true (.pair (.int .i64) (.int .i64))]
abbrev en_spec_ApplyStrip : ((List Int) × (List Int)) × Int → AV × List CV := fun b => (.tup [⟨true, [(.own (.int .i64) b.1.1), (.own (.int .i64) b.1.2)]⟩, ⟨false, [(.v (.int .i64 b.2))]⟩], [])
noncomputable abbrev k_spec_ApplyStrip : Contract := .fx as_spec_ApplyStrip (((List Int) × (List Int)) × Int) (fun z => g_spec_ApplyStrip z.1 z.2.1) en_spec_ApplyStrip
theorem r_spec_ApplyStrip (z : argsX as_spec_ApplyStrip) : runF (tab C0 T_spec_ApplyStrip) noHints 1 Try.f19 (lentOf as_spec_ApplyStrip) (xBoxes as_spec_ApplyStrip z) (xVals as_spec_ApplyStrip 0 z) K2 = t_spec_ApplyStrip (fun b => some (en_spec_ApplyStrip b)) z.1 z.2.1 := by kernel_rfl
theorem so_spec_ApplyStrip : Sound C0 19 k_spec_ApplyStrip :=
  Sound.fx a_spec_ApplyStrip mixed Try.func19 (by kernel_rfl) (by kernel_rfl) noHints 1 noHints_ok (fun z => (r_spec_ApplyStrip z).trans (nat_spec_ApplyStrip _ z.1 z.2.1))

/-! ### F63 impl.length[int64] -/
noncomputable def T_impl_length_int64 : List (FuncId × Contract) := []
theorem a_impl_length_int64 : AllSound C0 T_impl_length_int64 := .nil
noncomputable def t_impl_length_int64 {R : Type} (kx : Int → Option R) (a0 : (List Int)) : Option R :=
  kx (((List.length a0) : Nat) : Int)
noncomputable def g_impl_length_int64 (a0 : (List Int)) : Option (Int) := t_impl_length_int64 some a0
theorem nat_impl_length_int64 {R : Type} (kx : Int → Option R) (a0 : (List Int)) : t_impl_length_int64 kx a0 = (g_impl_length_int64 a0).bind kx := by
  unfold g_impl_length_int64 t_impl_length_int64
  exact rfl
abbrev as_impl_length_int64 : List AX := [.val false (.slice (.int .i64))]
abbrev en_impl_length_int64 : Int → AV × List CV := fun b => (.one ⟨false, [(.v (.int .i64 b))]⟩, [])
noncomputable abbrev k_impl_length_int64 : Contract := .fx as_impl_length_int64 (Int) (fun z => g_impl_length_int64 z.1) en_impl_length_int64
theorem r_impl_length_int64 (z : argsX as_impl_length_int64) : runF (tab C0 T_impl_length_int64) noHints 1 Try.f63 (lentOf as_impl_length_int64) (xBoxes as_impl_length_int64 z) (xVals as_impl_length_int64 0 z) K2 = t_impl_length_int64 (fun b => some (en_impl_length_int64 b)) z.1 := by kernel_rfl
theorem so_impl_length_int64 : Sound C0 63 k_impl_length_int64 :=
  Sound.fx a_impl_length_int64 mixed Try.func63 (by kernel_rfl) (by kernel_rfl) noHints 1 noHints_ok (fun z => (r_impl_length_int64 z).trans (nat_impl_length_int64 _ z.1))

/-! ### F62 impl.within -/
noncomputable def T_impl_within : List (FuncId × Contract) := []
theorem a_impl_within : AllSound C0 T_impl_within := .nil
noncomputable def t_impl_within {R : Type} (kx : Bool → Option R) (a0 : Int) (a1 : Int) (a2 : Int) : Option R :=
  cond (decide (a0 ≥ a1))
  (kx (decide (a0 ≤ a2)))
  (kx Bool.false)
noncomputable def g_impl_within (a0 : Int) (a1 : Int) (a2 : Int) : Option (Bool) := t_impl_within some a0 a1 a2
theorem nat_impl_within {R : Type} (kx : Bool → Option R) (a0 : Int) (a1 : Int) (a2 : Int) : t_impl_within kx a0 a1 a2 = (g_impl_within a0 a1 a2).bind kx := by
  unfold g_impl_within t_impl_within
  exact nat_cond (rfl) (rfl)
abbrev as_impl_within : List AX := [.val false (.int .i64), .val false (.int .i64), .val false (.int .i64)]
abbrev en_impl_within : Bool → AV × List CV := fun b => (.one ⟨false, [(.v (.bool b))]⟩, [])
noncomputable abbrev k_impl_within : Contract := .fx as_impl_within (Bool) (fun z => g_impl_within z.1 z.2.1 z.2.2.1) en_impl_within
theorem r_impl_within (z : argsX as_impl_within) : runF (tab C0 T_impl_within) noHints 1 Try.f62 (lentOf as_impl_within) (xBoxes as_impl_within z) (xVals as_impl_within 0 z) K2 = t_impl_within (fun b => some (en_impl_within b)) z.1 z.2.1 z.2.2.1 := by kernel_rfl
theorem so_impl_within : Sound C0 62 k_impl_within :=
  Sound.fx a_impl_within mixed Try.func62 (by kernel_rfl) (by kernel_rfl) noHints 1 noHints_ok (fun z => (r_impl_within z).trans (nat_impl_within _ z.1 z.2.1 z.2.2.1))

/-! ### F69 impl.areLengths$1 -/
noncomputable def T_impl_areLengths_1 : List (FuncId × Contract) := [(62, k_impl_within)]
theorem a_impl_areLengths_1 : AllSound C0 T_impl_areLengths_1 := .cons so_impl_within (.nil)
noncomputable def t_impl_areLengths_1 {R : Type} (kx : Bool → Option R) (a0 : Int) : Option R :=
  Option.bind (g_impl_within a0 (1 : Int) (1000 : Int)) fun y92 =>
  kx (!y92)
noncomputable def g_impl_areLengths_1 (a0 : Int) : Option (Bool) := t_impl_areLengths_1 some a0
theorem nat_impl_areLengths_1 {R : Type} (kx : Bool → Option R) (a0 : Int) : t_impl_areLengths_1 kx a0 = (g_impl_areLengths_1 a0).bind kx := by
  unfold g_impl_areLengths_1 t_impl_areLengths_1
  exact nat_bind fun _ => rfl
abbrev as_impl_areLengths_1 : List AX := [.val false (.int .i64)]
abbrev en_impl_areLengths_1 : Bool → AV × List CV := fun b => (.one ⟨false, [(.v (.bool b))]⟩, [])
noncomputable abbrev k_impl_areLengths_1 : Contract := .fx as_impl_areLengths_1 (Bool) (fun z => g_impl_areLengths_1 z.1) en_impl_areLengths_1
theorem r_impl_areLengths_1 (z : argsX as_impl_areLengths_1) : runF (tab C0 T_impl_areLengths_1) noHints 1 Try.f69 (lentOf as_impl_areLengths_1) (xBoxes as_impl_areLengths_1 z) (xVals as_impl_areLengths_1 0 z) K2 = t_impl_areLengths_1 (fun b => some (en_impl_areLengths_1 b)) z.1 := by kernel_rfl
theorem so_impl_areLengths_1 : Sound C0 69 k_impl_areLengths_1 :=
  Sound.fx a_impl_areLengths_1 mixed Try.func69 (by kernel_rfl) (by kernel_rfl) noHints 1 noHints_ok (fun z => (r_impl_areLengths_1 z).trans (nat_impl_areLengths_1 _ z.1))

/-! ### F78 slices.IndexFunc[[]int64,int64] -/
noncomputable def T_slices_IndexFunc_Sint64_int64__impl_areLengths_1 : List (FuncId × Contract) := [(69, k_impl_areLengths_1)]
theorem a_slices_IndexFunc_Sint64_int64__impl_areLengths_1 : AllSound C0 T_slices_IndexFunc_Sint64_int64__impl_areLengths_1 := .cons so_impl_areLengths_1 (.nil)
abbrev s_slices_IndexFunc_Sint64_int64__impl_areLengths_1_3 : LS := ⟨[(false, [(.sl (.int .i64))]), (false, [(.fn 69 [])]), (false, [(.int .i64)]), (false, [(.int .i64)])], [], []⟩
abbrev e_slices_IndexFunc_Sint64_int64__impl_areLengths_1_3_0 : LS := ⟨[(false, [(.int .i64)])], [], []⟩
abbrev d_slices_IndexFunc_Sint64_int64__impl_areLengths_1_3_0 (v0 : Int) : e_slices_IndexFunc_Sint64_int64__impl_areLengths_1_3_0.T := (((v0, ()), ()), (), ())
abbrev e_slices_IndexFunc_Sint64_int64__impl_areLengths_1_3_1 : LS := ⟨[(false, [.undef])], [], []⟩
abbrev d_slices_IndexFunc_Sint64_int64__impl_areLengths_1_3_1 : e_slices_IndexFunc_Sint64_int64__impl_areLengths_1_3_1.T := ((((), ()), ()), (), ())
abbrev x_slices_IndexFunc_Sint64_int64__impl_areLengths_1_3 : List (Ex × LS) := [(.ret, e_slices_IndexFunc_Sint64_int64__impl_areLengths_1_3_0), (.exit 0, e_slices_IndexFunc_Sint64_int64__impl_areLengths_1_3_1)]
abbrev m_slices_IndexFunc_Sint64_int64__impl_areLengths_1_3 (x0 : List Int) (x7 : Int) (x8 : Int) : s_slices_IndexFunc_Sint64_int64__impl_areLengths_1_3.T := (((x0, ()), ((), ()), (x7, ()), (x8, ()), ()), (), ())
noncomputable def u_slices_IndexFunc_Sint64_int64__impl_areLengths_1_3 {R : Type} (nx : s_slices_IndexFunc_Sint64_int64__impl_areLengths_1_3.T → Option R) (hx : exH R x_slices_IndexFunc_Sint64_int64__impl_areLengths_1_3) (x0 : List Int) (x7 : Int) (x8 : Int) : Option R :=
  cond (decide (x8 < x7))
  (Option.bind (idx x0 x8) fun y90 =>
   Option.bind (g_impl_areLengths_1 y90) fun y93 =>
   cond y93
   (hx.1 (d_slices_IndexFunc_Sint64_int64__impl_areLengths_1_3_0 x8))
   (nx (m_slices_IndexFunc_Sint64_int64__impl_areLengths_1_3 x0 x7 (IntKind.wrap IntKind.i64 (x8 + (1 : Int))))))
  (hx.2.1 (d_slices_IndexFunc_Sint64_int64__impl_areLengths_1_3_1))
noncomputable def t_slices_IndexFunc_Sint64_int64__impl_areLengths_1_3 {R : Type} (nx : s_slices_IndexFunc_Sint64_int64__impl_areLengths_1_3.T → Option R) (hx : exH R x_slices_IndexFunc_Sint64_int64__impl_areLengths_1_3) (z : s_slices_IndexFunc_Sint64_int64__impl_areLengths_1_3.T) : Option R := u_slices_IndexFunc_Sint64_int64__impl_areLengths_1_3 nx hx z.1.1.1 z.1.2.2.1.1 z.1.2.2.2.1.1
theorem nat_slices_IndexFunc_Sint64_int64__impl_areLengths_1_3 : Natural @t_slices_IndexFunc_Sint64_int64__impl_areLengths_1_3 := fun R nx hx z => by
  show u_slices_IndexFunc_Sint64_int64__impl_areLengths_1_3 nx hx z.1.1.1 z.1.2.2.1.1 z.1.2.2.2.1.1 = (u_slices_IndexFunc_Sint64_int64__impl_areLengths_1_3 (fun y => some (.inl y)) (hIn x_slices_IndexFunc_Sint64_int64__impl_areLengths_1_3 fun x => some (.inr x)) z.1.1.1 z.1.2.2.1.1 z.1.2.2.2.1.1).bind (goOn nx hx)
  unfold u_slices_IndexFunc_Sint64_int64__impl_areLengths_1_3
  exact nat_cond (nat_bind fun _ => nat_bind fun _ => nat_cond (rfl) (rfl)) (rfl)
noncomputable def w_slices_IndexFunc_Sint64_int64__impl_areLengths_1_3 : s_slices_IndexFunc_Sint64_int64__impl_areLengths_1_3.T → Option (exT x_slices_IndexFunc_Sint64_int64__impl_areLengths_1_3) := wOf @t_slices_IndexFunc_Sint64_int64__impl_areLengths_1_3
theorem wq_slices_IndexFunc_Sint64_int64__impl_areLengths_1_3 (x0 : List Int) (x7 : Int) (x8 : Int) : w_slices_IndexFunc_Sint64_int64__impl_areLengths_1_3 (m_slices_IndexFunc_Sint64_int64__impl_areLengths_1_3 x0 x7 x8) = u_slices_IndexFunc_Sint64_int64__impl_areLengths_1_3 w_slices_IndexFunc_Sint64_int64__impl_areLengths_1_3 (hIn x_slices_IndexFunc_Sint64_int64__impl_areLengths_1_3 some) x0 x7 x8 := wOf_eq nat_slices_IndexFunc_Sint64_int64__impl_areLengths_1_3 _
def lh_slices_IndexFunc_Sint64_int64__impl_areLengths_1_3 : LoopHint := ⟨[0, 1, 7, 8], [], [4], []⟩
noncomputable def h_slices_IndexFunc_Sint64_int64__impl_areLengths_1 : Hints Rv := ⟨fun k => match k with | 3 => lh_slices_IndexFunc_Sint64_int64__impl_areLengths_1_3 | _ => ⟨[], [], [], []⟩, fun k => match k with | 3 => some (loopX s_slices_IndexFunc_Sint64_int64__impl_areLengths_1_3 x_slices_IndexFunc_Sint64_int64__impl_areLengths_1_3 w_slices_IndexFunc_Sint64_int64__impl_areLengths_1_3) | _ => none⟩
theorem st_slices_IndexFunc_Sint64_int64__impl_areLengths_1_3 (n : Nat) (z : s_slices_IndexFunc_Sint64_int64__impl_areLengths_1_3.T) (k : Ex → Live → Option Rv) : loopN ⟨19, 19⟩ lh_slices_IndexFunc_Sint64_int64__impl_areLengths_1_3 (den (tab C0 T_slices_IndexFunc_Sint64_int64__impl_areLengths_1) ⟨19, 19⟩ h_slices_IndexFunc_Sint64_int64__impl_areLengths_1 1 (loopOf Try.f78 2)) (n + 1) (s_slices_IndexFunc_Sint64_int64__impl_areLengths_1_3.enc z) k =
    t_slices_IndexFunc_Sint64_int64__impl_areLengths_1_3 (fun y => loopN ⟨19, 19⟩ lh_slices_IndexFunc_Sint64_int64__impl_areLengths_1_3 (den (tab C0 T_slices_IndexFunc_Sint64_int64__impl_areLengths_1) ⟨19, 19⟩ h_slices_IndexFunc_Sint64_int64__impl_areLengths_1 1 (loopOf Try.f78 2)) n (s_slices_IndexFunc_Sint64_int64__impl_areLengths_1_3.enc y) k) (hK k x_slices_IndexFunc_Sint64_int64__impl_areLengths_1_3) z := by kernel_rfl
theorem hs_slices_IndexFunc_Sint64_int64__impl_areLengths_1 : HintsOk (tab C0 T_slices_IndexFunc_Sint64_int64__impl_areLengths_1) ⟨19, 19⟩ h_slices_IndexFunc_Sint64_int64__impl_areLengths_1 1 (loops (codeOf Try.f78)) := by
  have hl : loops (codeOf Try.f78) = [loopOf Try.f78 2] := by kernel_rfl
  rw [hl]
  exact HintsOk.cons (n := 3) (lh := lh_slices_IndexFunc_Sint64_int64__impl_areLengths_1_3) (S := loopX s_slices_IndexFunc_Sint64_int64__impl_areLengths_1_3 x_slices_IndexFunc_Sint64_int64__impl_areLengths_1_3 w_slices_IndexFunc_Sint64_int64__impl_areLengths_1_3) (by kernel_rfl) rfl rfl (loopX_ok nat_slices_IndexFunc_Sint64_int64__impl_areLengths_1_3 st_slices_IndexFunc_Sint64_int64__impl_areLengths_1_3)
    (HintsOk.nil)
noncomputable def t_slices_IndexFunc_Sint64_int64__impl_areLengths_1 {R : Type} (kx : Int → Option R) (a0 : (List Int)) : Option R :=
  Option.bind (w_slices_IndexFunc_Sint64_int64__impl_areLengths_1_3 (m_slices_IndexFunc_Sint64_int64__impl_areLengths_1_3 a0 (((List.length a0) : Nat) : Int) (0 : Int))) (exC x_slices_IndexFunc_Sint64_int64__impl_areLengths_1_3
  (fun e94 =>
   kx (e94.1.1.1 : Int), fun _ =>
   kx (-(1 : Int)), ()))
noncomputable def g_slices_IndexFunc_Sint64_int64__impl_areLengths_1 (a0 : (List Int)) : Option (Int) := t_slices_IndexFunc_Sint64_int64__impl_areLengths_1 some a0
theorem nat_slices_IndexFunc_Sint64_int64__impl_areLengths_1 {R : Type} (kx : Int → Option R) (a0 : (List Int)) : t_slices_IndexFunc_Sint64_int64__impl_areLengths_1 kx a0 = (g_slices_IndexFunc_Sint64_int64__impl_areLengths_1 a0).bind kx := by
  unfold g_slices_IndexFunc_Sint64_int64__impl_areLengths_1 t_slices_IndexFunc_Sint64_int64__impl_areLengths_1
  exact nat_exC ⟨fun _ => rfl, fun _ => rfl, trivial⟩
abbrev as_slices_IndexFunc_Sint64_int64__impl_areLengths_1 : List AX := [.val false (.slice (.int .i64)), .clo 69 []]
abbrev en_slices_IndexFunc_Sint64_int64__impl_areLengths_1 : Int → AV × List CV := fun b => (.one ⟨false, [(.v (.int .i64 b))]⟩, [])
noncomputable abbrev k_slices_IndexFunc_Sint64_int64__impl_areLengths_1 : Contract := .fx as_slices_IndexFunc_Sint64_int64__impl_areLengths_1 (Int) (fun z => g_slices_IndexFunc_Sint64_int64__impl_areLengths_1 z.1) en_slices_IndexFunc_Sint64_int64__impl_areLengths_1
theorem r_slices_IndexFunc_Sint64_int64__impl_areLengths_1 (z : argsX as_slices_IndexFunc_Sint64_int64__impl_areLengths_1) : runF (tab C0 T_slices_IndexFunc_Sint64_int64__impl_areLengths_1) h_slices_IndexFunc_Sint64_int64__impl_areLengths_1 1 Try.f78 (lentOf as_slices_IndexFunc_Sint64_int64__impl_areLengths_1) (xBoxes as_slices_IndexFunc_Sint64_int64__impl_areLengths_1 z) (xVals as_slices_IndexFunc_Sint64_int64__impl_areLengths_1 0 z) K2 = t_slices_IndexFunc_Sint64_int64__impl_areLengths_1 (fun b => some (en_slices_IndexFunc_Sint64_int64__impl_areLengths_1 b)) z.1 := by kernel_rfl
theorem so_slices_IndexFunc_Sint64_int64__impl_areLengths_1 : Sound C0 78 k_slices_IndexFunc_Sint64_int64__impl_areLengths_1 :=
  Sound.fx a_slices_IndexFunc_Sint64_int64__impl_areLengths_1 mixed Try.func78 (by kernel_rfl) (by kernel_rfl) h_slices_IndexFunc_Sint64_int64__impl_areLengths_1 1 hs_slices_IndexFunc_Sint64_int64__impl_areLengths_1 (fun z => (r_slices_IndexFunc_Sint64_int64__impl_areLengths_1 z).trans (nat_slices_IndexFunc_Sint64_int64__impl_areLengths_1 _ z.1))

/-! ### F60 slices.ContainsFunc[[]int64,int64] -/
noncomputable def T_slices_ContainsFunc_Sint64_int64__impl_areLengths_1 : List (FuncId × Contract) := [(78, k_slices_IndexFunc_Sint64_int64__impl_areLengths_1)]
theorem a_slices_ContainsFunc_Sint64_int64__impl_areLengths_1 : AllSound C0 T_slices_ContainsFunc_Sint64_int64__impl_areLengths_1 := .cons so_slices_IndexFunc_Sint64_int64__impl_areLengths_1 (.nil)
noncomputable def t_slices_ContainsFunc_Sint64_int64__impl_areLengths_1 {R : Type} (kx : Bool → Option R) (a0 : (List Int)) : Option R :=
  Option.bind (g_slices_IndexFunc_Sint64_int64__impl_areLengths_1 a0) fun y97 =>
  kx (decide (y97 ≥ (0 : Int)))
noncomputable def g_slices_ContainsFunc_Sint64_int64__impl_areLengths_1 (a0 : (List Int)) : Option (Bool) := t_slices_ContainsFunc_Sint64_int64__impl_areLengths_1 some a0
theorem nat_slices_ContainsFunc_Sint64_int64__impl_areLengths_1 {R : Type} (kx : Bool → Option R) (a0 : (List Int)) : t_slices_ContainsFunc_Sint64_int64__impl_areLengths_1 kx a0 = (g_slices_ContainsFunc_Sint64_int64__impl_areLengths_1 a0).bind kx := by
  unfold g_slices_ContainsFunc_Sint64_int64__impl_areLengths_1 t_slices_ContainsFunc_Sint64_int64__impl_areLengths_1
  exact nat_bind fun _ => rfl
abbrev as_slices_ContainsFunc_Sint64_int64__impl_areLengths_1 : List AX := [.val false (.slice (.int .i64)), .clo 69 []]
abbrev en_slices_ContainsFunc_Sint64_int64__impl_areLengths_1 : Bool → AV × List CV := fun b => (.one ⟨false, [(.v (.bool b))]⟩, [])
noncomputable abbrev k_slices_ContainsFunc_Sint64_int64__impl_areLengths_1 : Contract := .fx as_slices_ContainsFunc_Sint64_int64__impl_areLengths_1 (Bool) (fun z => g_slices_ContainsFunc_Sint64_int64__impl_areLengths_1 z.1) en_slices_ContainsFunc_Sint64_int64__impl_areLengths_1
theorem r_slices_ContainsFunc_Sint64_int64__impl_areLengths_1 (z : argsX as_slices_ContainsFunc_Sint64_int64__impl_areLengths_1) : runF (tab C0 T_slices_ContainsFunc_Sint64_int64__impl_areLengths_1) noHints 1 Try.f60 (lentOf as_slices_ContainsFunc_Sint64_int64__impl_areLengths_1) (xBoxes as_slices_ContainsFunc_Sint64_int64__impl_areLengths_1 z) (xVals as_slices_ContainsFunc_Sint64_int64__impl_areLengths_1 0 z) K2 = t_slices_ContainsFunc_Sint64_int64__impl_areLengths_1 (fun b => some (en_slices_ContainsFunc_Sint64_int64__impl_areLengths_1 b)) z.1 := by kernel_rfl
theorem so_slices_ContainsFunc_Sint64_int64__impl_areLengths_1 : Sound C0 60 k_slices_ContainsFunc_Sint64_int64__impl_areLengths_1 :=
  Sound.fx a_slices_ContainsFunc_Sint64_int64__impl_areLengths_1 mixed Try.func60 (by kernel_rfl) (by kernel_rfl) noHints 1 noHints_ok (fun z => (r_slices_ContainsFunc_Sint64_int64__impl_areLengths_1 z).trans (nat_slices_ContainsFunc_Sint64_int64__impl_areLengths_1 _ z.1))

/-! ### F70 impl.sumOf -/
noncomputable def T_impl_sumOf : List (FuncId × Contract) := []
theorem a_impl_sumOf : AllSound C0 T_impl_sumOf := .nil
abbrev s_impl_sumOf_4 : LS := ⟨[(false, [(.int .i64)]), (false, [(.sl (.int .i64))]), (false, [(.int .i64)]), (false, [(.int .i64)])], [], []⟩
abbrev e_impl_sumOf_4_0 : LS := ⟨[(false, [(.int .i64)])], [], []⟩
abbrev d_impl_sumOf_4_0 (v0 : Int) : e_impl_sumOf_4_0.T := (((v0, ()), ()), (), ())
abbrev x_impl_sumOf_4 : List (Ex × LS) := [(.exit 0, e_impl_sumOf_4_0)]
abbrev m_impl_sumOf_4 (x3 : Int) (x6 : List Int) (x7 : Int) (x8 : Int) : s_impl_sumOf_4.T := (((x3, ()), (x6, ()), (x7, ()), (x8, ()), ()), (), ())
noncomputable def u_impl_sumOf_4 {R : Type} (nx : s_impl_sumOf_4.T → Option R) (hx : exH R x_impl_sumOf_4) (x3 : Int) (x6 : List Int) (x7 : Int) (x8 : Int) : Option R :=
  cond (decide (x8 < x7))
  (Option.bind (idx x6 x8) fun y104 =>
   nx (m_impl_sumOf_4 (IntKind.wrap IntKind.i64 (x3 + y104)) x6 x7 (IntKind.wrap IntKind.i64 (x8 + (1 : Int)))))
  (hx.1 (d_impl_sumOf_4_0 x3))
noncomputable def t_impl_sumOf_4 {R : Type} (nx : s_impl_sumOf_4.T → Option R) (hx : exH R x_impl_sumOf_4) (z : s_impl_sumOf_4.T) : Option R := u_impl_sumOf_4 nx hx z.1.1.1 z.1.2.1.1 z.1.2.2.1.1 z.1.2.2.2.1.1
theorem nat_impl_sumOf_4 : Natural @t_impl_sumOf_4 := fun R nx hx z => by
  show u_impl_sumOf_4 nx hx z.1.1.1 z.1.2.1.1 z.1.2.2.1.1 z.1.2.2.2.1.1 = (u_impl_sumOf_4 (fun y => some (.inl y)) (hIn x_impl_sumOf_4 fun x => some (.inr x)) z.1.1.1 z.1.2.1.1 z.1.2.2.1.1 z.1.2.2.2.1.1).bind (goOn nx hx)
  unfold u_impl_sumOf_4
  exact nat_cond (nat_bind fun _ => rfl) (rfl)
noncomputable def w_impl_sumOf_4 : s_impl_sumOf_4.T → Option (exT x_impl_sumOf_4) := wOf @t_impl_sumOf_4
theorem wq_impl_sumOf_4 (x3 : Int) (x6 : List Int) (x7 : Int) (x8 : Int) : w_impl_sumOf_4 (m_impl_sumOf_4 x3 x6 x7 x8) = u_impl_sumOf_4 w_impl_sumOf_4 (hIn x_impl_sumOf_4 some) x3 x6 x7 x8 := wOf_eq nat_impl_sumOf_4 _
def lh_impl_sumOf_4 : LoopHint := ⟨[3, 6, 7, 8], [], [3], []⟩
noncomputable def h_impl_sumOf : Hints Rv := ⟨fun k => match k with | 4 => lh_impl_sumOf_4 | _ => ⟨[], [], [], []⟩, fun k => match k with | 4 => some (loopX s_impl_sumOf_4 x_impl_sumOf_4 w_impl_sumOf_4) | _ => none⟩
theorem st_impl_sumOf_4 (n : Nat) (z : s_impl_sumOf_4.T) (k : Ex → Live → Option Rv) : loopN ⟨17, 17⟩ lh_impl_sumOf_4 (den (tab C0 T_impl_sumOf) ⟨17, 17⟩ h_impl_sumOf 1 (loopOf Try.f70 3)) (n + 1) (s_impl_sumOf_4.enc z) k =
    t_impl_sumOf_4 (fun y => loopN ⟨17, 17⟩ lh_impl_sumOf_4 (den (tab C0 T_impl_sumOf) ⟨17, 17⟩ h_impl_sumOf 1 (loopOf Try.f70 3)) n (s_impl_sumOf_4.enc y) k) (hK k x_impl_sumOf_4) z := by kernel_rfl
theorem hs_impl_sumOf : HintsOk (tab C0 T_impl_sumOf) ⟨17, 17⟩ h_impl_sumOf 1 (loops (codeOf Try.f70)) := by
  have hl : loops (codeOf Try.f70) = [loopOf Try.f70 3] := by kernel_rfl
  rw [hl]
  exact HintsOk.cons (n := 4) (lh := lh_impl_sumOf_4) (S := loopX s_impl_sumOf_4 x_impl_sumOf_4 w_impl_sumOf_4) (by kernel_rfl) rfl rfl (loopX_ok nat_impl_sumOf_4 st_impl_sumOf_4)
    (HintsOk.nil)
noncomputable def t_impl_sumOf {R : Type} (kx : Int → Option R) (a0 : (List Int)) : Option R :=
  Option.bind (w_impl_sumOf_4 (m_impl_sumOf_4 (0 : Int) a0 (((List.length a0) : Nat) : Int) (0 : Int))) (exC x_impl_sumOf_4
  (fun e105 =>
   kx (e105.1.1.1 : Int), ()))
noncomputable def g_impl_sumOf (a0 : (List Int)) : Option (Int) := t_impl_sumOf some a0
theorem nat_impl_sumOf {R : Type} (kx : Int → Option R) (a0 : (List Int)) : t_impl_sumOf kx a0 = (g_impl_sumOf a0).bind kx := by
  unfold g_impl_sumOf t_impl_sumOf
  exact nat_exC ⟨fun _ => rfl, trivial⟩
abbrev as_impl_sumOf : List AX := [.val false (.slice (.int .i64))]
abbrev en_impl_sumOf : Int → AV × List CV := fun b => (.one ⟨false, [(.v (.int .i64 b))]⟩, [])
noncomputable abbrev k_impl_sumOf : Contract := .fx as_impl_sumOf (Int) (fun z => g_impl_sumOf z.1) en_impl_sumOf
theorem r_impl_sumOf (z : argsX as_impl_sumOf) : runF (tab C0 T_impl_sumOf) h_impl_sumOf 1 Try.f70 (lentOf as_impl_sumOf) (xBoxes as_impl_sumOf z) (xVals as_impl_sumOf 0 z) K2 = t_impl_sumOf (fun b => some (en_impl_sumOf b)) z.1 := by kernel_rfl
theorem so_impl_sumOf : Sound C0 70 k_impl_sumOf :=
  Sound.fx a_impl_sumOf mixed Try.func70 (by kernel_rfl) (by kernel_rfl) h_impl_sumOf 1 hs_impl_sumOf (fun z => (r_impl_sumOf z).trans (nat_impl_sumOf _ z.1))

/-! ### F51 impl.areLengths -/
noncomputable def T_impl_areLengths : List (FuncId × Contract) := [(63, k_impl_length_int64), (62, k_impl_within), (60, k_slices_ContainsFunc_Sint64_int64__impl_areLengths_1), (70, k_impl_sumOf)]
theorem a_impl_areLengths : AllSound C0 T_impl_areLengths := .cons so_impl_length_int64 (.cons so_impl_within (.cons so_slices_ContainsFunc_Sint64_int64__impl_areLengths_1 (.cons so_impl_sumOf (.nil))))
noncomputable def t_impl_areLengths {R : Type} (kx : Bool → Option R) (a0 : (List Int)) : Option R :=
  Option.bind (g_impl_length_int64 a0) fun y80 =>
  Option.bind (g_impl_within y80 (1 : Int) (14 : Int)) fun y84 =>
  cond y84
  (Option.bind (g_slices_ContainsFunc_Sint64_int64__impl_areLengths_1 a0) fun y98 =>
   cond (!y98)
   (Option.bind (g_impl_sumOf a0) fun y107 =>
    kx (decide (y107 ≤ (1000 : Int))))
   (kx Bool.false))
  (kx Bool.false)
noncomputable def g_impl_areLengths (a0 : (List Int)) : Option (Bool) := t_impl_areLengths some a0
theorem nat_impl_areLengths {R : Type} (kx : Bool → Option R) (a0 : (List Int)) : t_impl_areLengths kx a0 = (g_impl_areLengths a0).bind kx := by
  unfold g_impl_areLengths t_impl_areLengths
  exact nat_bind fun _ => nat_bind fun _ => nat_cond (nat_bind fun _ => nat_cond (nat_bind fun _ => rfl) (rfl)) (rfl)
abbrev as_impl_areLengths : List AX := [.val false (.slice (.int .i64))]
abbrev en_impl_areLengths : Bool → AV × List CV := fun b => (.one ⟨false, [(.v (.bool b))]⟩, [])
noncomputable abbrev k_impl_areLengths : Contract := .fx as_impl_areLengths (Bool) (fun z => g_impl_areLengths z.1) en_impl_areLengths
theorem r_impl_areLengths (z : argsX as_impl_areLengths) : runF (tab C0 T_impl_areLengths) noHints 1 Try.f51 (lentOf as_impl_areLengths) (xBoxes as_impl_areLengths z) (xVals as_impl_areLengths 0 z) K2 = t_impl_areLengths (fun b => some (en_impl_areLengths b)) z.1 := by kernel_rfl
theorem so_impl_areLengths : Sound C0 51 k_impl_areLengths :=
  Sound.fx a_impl_areLengths mixed Try.func51 (by kernel_rfl) (by kernel_rfl) noHints 1 noHints_ok (fun z => (r_impl_areLengths z).trans (nat_impl_areLengths _ z.1))

/-! ### F61 impl.ValidStrip$1 -/
noncomputable def T_impl_ValidStrip_1 : List (FuncId × Contract) := [(62, k_impl_within)]
theorem a_impl_ValidStrip_1 : AllSound C0 T_impl_ValidStrip_1 := .cons so_impl_within (.nil)
noncomputable def t_impl_ValidStrip_1 {R : Type} (kx : Bool → Option R) (a0 : Int) : Option R :=
  Option.bind (g_impl_within a0 (2 : Int) (3 : Int)) fun y116 =>
  kx (!y116)
noncomputable def g_impl_ValidStrip_1 (a0 : Int) : Option (Bool) := t_impl_ValidStrip_1 some a0
theorem nat_impl_ValidStrip_1 {R : Type} (kx : Bool → Option R) (a0 : Int) : t_impl_ValidStrip_1 kx a0 = (g_impl_ValidStrip_1 a0).bind kx := by
  unfold g_impl_ValidStrip_1 t_impl_ValidStrip_1
  exact nat_bind fun _ => rfl
abbrev as_impl_ValidStrip_1 : List AX := [.val false (.int .i64)]
abbrev en_impl_ValidStrip_1 : Bool → AV × List CV := fun b => (.one ⟨false, [(.v (.bool b))]⟩, [])
noncomputable abbrev k_impl_ValidStrip_1 : Contract := .fx as_impl_ValidStrip_1 (Bool) (fun z => g_impl_ValidStrip_1 z.1) en_impl_ValidStrip_1
theorem r_impl_ValidStrip_1 (z : argsX as_impl_ValidStrip_1) : runF (tab C0 T_impl_ValidStrip_1) noHints 1 Try.f61 (lentOf as_impl_ValidStrip_1) (xBoxes as_impl_ValidStrip_1 z) (xVals as_impl_ValidStrip_1 0 z) K2 = t_impl_ValidStrip_1 (fun b => some (en_impl_ValidStrip_1 b)) z.1 := by kernel_rfl
theorem so_impl_ValidStrip_1 : Sound C0 61 k_impl_ValidStrip_1 :=
  Sound.fx a_impl_ValidStrip_1 mixed Try.func61 (by kernel_rfl) (by kernel_rfl) noHints 1 noHints_ok (fun z => (r_impl_ValidStrip_1 z).trans (nat_impl_ValidStrip_1 _ z.1))

/-! ### F78 slices.IndexFunc[[]int64,int64] -/
noncomputable def T_slices_IndexFunc_Sint64_int64__impl_ValidStrip_1 : List (FuncId × Contract) := [(61, k_impl_ValidStrip_1)]
theorem a_slices_IndexFunc_Sint64_int64__impl_ValidStrip_1 : AllSound C0 T_slices_IndexFunc_Sint64_int64__impl_ValidStrip_1 := .cons so_impl_ValidStrip_1 (.nil)
abbrev s_slices_IndexFunc_Sint64_int64__impl_ValidStrip_1_3 : LS := ⟨[(false, [(.sl (.int .i64))]), (false, [(.fn 61 [])]), (false, [(.int .i64)]), (false, [(.int .i64)])], [], []⟩
abbrev e_slices_IndexFunc_Sint64_int64__impl_ValidStrip_1_3_0 : LS := ⟨[(false, [(.int .i64)])], [], []⟩
abbrev d_slices_IndexFunc_Sint64_int64__impl_ValidStrip_1_3_0 (v0 : Int) : e_slices_IndexFunc_Sint64_int64__impl_ValidStrip_1_3_0.T := (((v0, ()), ()), (), ())
abbrev e_slices_IndexFunc_Sint64_int64__impl_ValidStrip_1_3_1 : LS := ⟨[(false, [.undef])], [], []⟩
abbrev d_slices_IndexFunc_Sint64_int64__impl_ValidStrip_1_3_1 : e_slices_IndexFunc_Sint64_int64__impl_ValidStrip_1_3_1.T := ((((), ()), ()), (), ())
abbrev x_slices_IndexFunc_Sint64_int64__impl_ValidStrip_1_3 : List (Ex × LS) := [(.ret, e_slices_IndexFunc_Sint64_int64__impl_ValidStrip_1_3_0), (.exit 0, e_slices_IndexFunc_Sint64_int64__impl_ValidStrip_1_3_1)]
abbrev m_slices_IndexFunc_Sint64_int64__impl_ValidStrip_1_3 (x0 : List Int) (x7 : Int) (x8 : Int) : s_slices_IndexFunc_Sint64_int64__impl_ValidStrip_1_3.T := (((x0, ()), ((), ()), (x7, ()), (x8, ()), ()), (), ())
noncomputable def u_slices_IndexFunc_Sint64_int64__impl_ValidStrip_1_3 {R : Type} (nx : s_slices_IndexFunc_Sint64_int64__impl_ValidStrip_1_3.T → Option R) (hx : exH R x_slices_IndexFunc_Sint64_int64__impl_ValidStrip_1_3) (x0 : List Int) (x7 : Int) (x8 : Int) : Option R :=
  cond (decide (x8 < x7))
  (Option.bind (idx x0 x8) fun y114 =>
   Option.bind (g_impl_ValidStrip_1 y114) fun y117 =>
   cond y117
   (hx.1 (d_slices_IndexFunc_Sint64_int64__impl_ValidStrip_1_3_0 x8))
   (nx (m_slices_IndexFunc_Sint64_int64__impl_ValidStrip_1_3 x0 x7 (IntKind.wrap IntKind.i64 (x8 + (1 : Int))))))
  (hx.2.1 (d_slices_IndexFunc_Sint64_int64__impl_ValidStrip_1_3_1))
noncomputable def t_slices_IndexFunc_Sint64_int64__impl_ValidStrip_1_3 {R : Type} (nx : s_slices_IndexFunc_Sint64_int64__impl_ValidStrip_1_3.T → Option R) (hx : exH R x_slices_IndexFunc_Sint64_int64__impl_ValidStrip_1_3) (z : s_slices_IndexFunc_Sint64_int64__impl_ValidStrip_1_3.T) : Option R := u_slices_IndexFunc_Sint64_int64__impl_ValidStrip_1_3 nx hx z.1.1.1 z.1.2.2.1.1 z.1.2.2.2.1.1
theorem nat_slices_IndexFunc_Sint64_int64__impl_ValidStrip_1_3 : Natural @t_slices_IndexFunc_Sint64_int64__impl_ValidStrip_1_3 := fun R nx hx z => by
  show u_slices_IndexFunc_Sint64_int64__impl_ValidStrip_1_3 nx hx z.1.1.1 z.1.2.2.1.1 z.1.2.2.2.1.1 = (u_slices_IndexFunc_Sint64_int64__impl_ValidStrip_1_3 (fun y => some (.inl y)) (hIn x_slices_IndexFunc_Sint64_int64__impl_ValidStrip_1_3 fun x => some (.inr x)) z.1.1.1 z.1.2.2.1.1 z.1.2.2.2.1.1).bind (goOn nx hx)
  unfold u_slices_IndexFunc_Sint64_int64__impl_ValidStrip_1_3
  exact nat_cond (nat_bind fun _ => nat_bind fun _ => nat_cond (rfl) (rfl)) (rfl)
noncomputable def w_slices_IndexFunc_Sint64_int64__impl_ValidStrip_1_3 : s_slices_IndexFunc_Sint64_int64__impl_ValidStrip_1_3.T → Option (exT x_slices_IndexFunc_Sint64_int64__impl_ValidStrip_1_3) := wOf @t_slices_IndexFunc_Sint64_int64__impl_ValidStrip_1_3
theorem wq_slices_IndexFunc_Sint64_int64__impl_ValidStrip_1_3 (x0 : List Int) (x7 : Int) (x8 : Int) : w_slices_IndexFunc_Sint64_int64__impl_ValidStrip_1_3 (m_slices_IndexFunc_Sint64_int64__impl_ValidStrip_1_3 x0 x7 x8) = u_slices_IndexFunc_Sint64_int64__impl_ValidStrip_1_3 w_slices_IndexFunc_Sint64_int64__impl_ValidStrip_1_3 (hIn x_slices_IndexFunc_Sint64_int64__impl_ValidStrip_1_3 some) x0 x7 x8 := wOf_eq nat_slices_IndexFunc_Sint64_int64__impl_ValidStrip_1_3 _
def lh_slices_IndexFunc_Sint64_int64__impl_ValidStrip_1_3 : LoopHint := ⟨[0, 1, 7, 8], [], [4], []⟩
noncomputable def h_slices_IndexFunc_Sint64_int64__impl_ValidStrip_1 : Hints Rv := ⟨fun k => match k with | 3 => lh_slices_IndexFunc_Sint64_int64__impl_ValidStrip_1_3 | _ => ⟨[], [], [], []⟩, fun k => match k with | 3 => some (loopX s_slices_IndexFunc_Sint64_int64__impl_ValidStrip_1_3 x_slices_IndexFunc_Sint64_int64__impl_ValidStrip_1_3 w_slices_IndexFunc_Sint64_int64__impl_ValidStrip_1_3) | _ => none⟩
theorem st_slices_IndexFunc_Sint64_int64__impl_ValidStrip_1_3 (n : Nat) (z : s_slices_IndexFunc_Sint64_int64__impl_ValidStrip_1_3.T) (k : Ex → Live → Option Rv) : loopN ⟨19, 19⟩ lh_slices_IndexFunc_Sint64_int64__impl_ValidStrip_1_3 (den (tab C0 T_slices_IndexFunc_Sint64_int64__impl_ValidStrip_1) ⟨19, 19⟩ h_slices_IndexFunc_Sint64_int64__impl_ValidStrip_1 1 (loopOf Try.f78 2)) (n + 1) (s_slices_IndexFunc_Sint64_int64__impl_ValidStrip_1_3.enc z) k =
    t_slices_IndexFunc_Sint64_int64__impl_ValidStrip_1_3 (fun y => loopN ⟨19, 19⟩ lh_slices_IndexFunc_Sint64_int64__impl_ValidStrip_1_3 (den (tab C0 T_slices_IndexFunc_Sint64_int64__impl_ValidStrip_1) ⟨19, 19⟩ h_slices_IndexFunc_Sint64_int64__impl_ValidStrip_1 1 (loopOf Try.f78 2)) n (s_slices_IndexFunc_Sint64_int64__impl_ValidStrip_1_3.enc y) k) (hK k x_slices_IndexFunc_Sint64_int64__impl_ValidStrip_1_3) z := by kernel_rfl
theorem hs_slices_IndexFunc_Sint64_int64__impl_ValidStrip_1 : HintsOk (tab C0 T_slices_IndexFunc_Sint64_int64__impl_ValidStrip_1) ⟨19, 19⟩ h_slices_IndexFunc_Sint64_int64__impl_ValidStrip_1 1 (loops (codeOf Try.f78)) := by
  have hl : loops (codeOf Try.f78) = [loopOf Try.f78 2] := by kernel_rfl
  rw [hl]
  exact HintsOk.cons (n := 3) (lh := lh_slices_IndexFunc_Sint64_int64__impl_ValidStrip_1_3) (S := loopX s_slices_IndexFunc_Sint64_int64__impl_ValidStrip_1_3 x_slices_IndexFunc_Sint64_int64__impl_ValidStrip_1_3 w_slices_IndexFunc_Sint64_int64__impl_ValidStrip_1_3) (by kernel_rfl) rfl rfl (loopX_ok nat_slices_IndexFunc_Sint64_int64__impl_ValidStrip_1_3 st_slices_IndexFunc_Sint64_int64__impl_ValidStrip_1_3)
    (HintsOk.nil)
noncomputable def t_slices_IndexFunc_Sint64_int64__impl_ValidStrip_1 {R : Type} (kx : Int → Option R) (a0 : (List Int)) : Option R :=
  Option.bind (w_slices_IndexFunc_Sint64_int64__impl_ValidStrip_1_3 (m_slices_IndexFunc_Sint64_int64__impl_ValidStrip_1_3 a0 (((List.length a0) : Nat) : Int) (0 : Int))) (exC x_slices_IndexFunc_Sint64_int64__impl_ValidStrip_1_3
  (fun e118 =>
   kx (e118.1.1.1 : Int), fun _ =>
   kx (-(1 : Int)), ()))
noncomputable def g_slices_IndexFunc_Sint64_int64__impl_ValidStrip_1 (a0 : (List Int)) : Option (Int) := t_slices_IndexFunc_Sint64_int64__impl_ValidStrip_1 some a0
theorem nat_slices_IndexFunc_Sint64_int64__impl_ValidStrip_1 {R : Type} (kx : Int → Option R) (a0 : (List Int)) : t_slices_IndexFunc_Sint64_int64__impl_ValidStrip_1 kx a0 = (g_slices_IndexFunc_Sint64_int64__impl_ValidStrip_1 a0).bind kx := by
  unfold g_slices_IndexFunc_Sint64_int64__impl_ValidStrip_1 t_slices_IndexFunc_Sint64_int64__impl_ValidStrip_1
  exact nat_exC ⟨fun _ => rfl, fun _ => rfl, trivial⟩
abbrev as_slices_IndexFunc_Sint64_int64__impl_ValidStrip_1 : List AX := [.val false (.slice (.int .i64)), .clo 61 []]
abbrev en_slices_IndexFunc_Sint64_int64__impl_ValidStrip_1 : Int → AV × List CV := fun b => (.one ⟨false, [(.v (.int .i64 b))]⟩, [])
noncomputable abbrev k_slices_IndexFunc_Sint64_int64__impl_ValidStrip_1 : Contract := .fx as_slices_IndexFunc_Sint64_int64__impl_ValidStrip_1 (Int) (fun z => g_slices_IndexFunc_Sint64_int64__impl_ValidStrip_1 z.1) en_slices_IndexFunc_Sint64_int64__impl_ValidStrip_1
theorem r_slices_IndexFunc_Sint64_int64__impl_ValidStrip_1 (z : argsX as_slices_IndexFunc_Sint64_int64__impl_ValidStrip_1) : runF (tab C0 T_slices_IndexFunc_Sint64_int64__impl_ValidStrip_1) h_slices_IndexFunc_Sint64_int64__impl_ValidStrip_1 1 Try.f78 (lentOf as_slices_IndexFunc_Sint64_int64__impl_ValidStrip_1) (xBoxes as_slices_IndexFunc_Sint64_int64__impl_ValidStrip_1 z) (xVals as_slices_IndexFunc_Sint64_int64__impl_ValidStrip_1 0 z) K2 = t_slices_IndexFunc_Sint64_int64__impl_ValidStrip_1 (fun b => some (en_slices_IndexFunc_Sint64_int64__impl_ValidStrip_1 b)) z.1 := by kernel_rfl
theorem so_slices_IndexFunc_Sint64_int64__impl_ValidStrip_1 : Sound C0 78 k_slices_IndexFunc_Sint64_int64__impl_ValidStrip_1 :=
  Sound.fx a_slices_IndexFunc_Sint64_int64__impl_ValidStrip_1 mixed Try.func78 (by kernel_rfl) (by kernel_rfl) h_slices_IndexFunc_Sint64_int64__impl_ValidStrip_1 1 hs_slices_IndexFunc_Sint64_int64__impl_ValidStrip_1 (fun z => (r_slices_IndexFunc_Sint64_int64__impl_ValidStrip_1 z).trans (nat_slices_IndexFunc_Sint64_int64__impl_ValidStrip_1 _ z.1))

/-! ### F60 slices.ContainsFunc[[]int64,int64] -/
noncomputable def T_slices_ContainsFunc_Sint64_int64__impl_ValidStrip_1 : List (FuncId × Contract) := [(78, k_slices_IndexFunc_Sint64_int64__impl_ValidStrip_1)]
theorem a_slices_ContainsFunc_Sint64_int64__impl_ValidStrip_1 : AllSound C0 T_slices_ContainsFunc_Sint64_int64__impl_ValidStrip_1 := .cons so_slices_IndexFunc_Sint64_int64__impl_ValidStrip_1 (.nil)
noncomputable def t_slices_ContainsFunc_Sint64_int64__impl_ValidStrip_1 {R : Type} (kx : Bool → Option R) (a0 : (List Int)) : Option R :=
  Option.bind (g_slices_IndexFunc_Sint64_int64__impl_ValidStrip_1 a0) fun y121 =>
  kx (decide (y121 ≥ (0 : Int)))
noncomputable def g_slices_ContainsFunc_Sint64_int64__impl_ValidStrip_1 (a0 : (List Int)) : Option (Bool) := t_slices_ContainsFunc_Sint64_int64__impl_ValidStrip_1 some a0
theorem nat_slices_ContainsFunc_Sint64_int64__impl_ValidStrip_1 {R : Type} (kx : Bool → Option R) (a0 : (List Int)) : t_slices_ContainsFunc_Sint64_int64__impl_ValidStrip_1 kx a0 = (g_slices_ContainsFunc_Sint64_int64__impl_ValidStrip_1 a0).bind kx := by
  unfold g_slices_ContainsFunc_Sint64_int64__impl_ValidStrip_1 t_slices_ContainsFunc_Sint64_int64__impl_ValidStrip_1
  exact nat_bind fun _ => rfl
abbrev as_slices_ContainsFunc_Sint64_int64__impl_ValidStrip_1 : List AX := [.val false (.slice (.int .i64)), .clo 61 []]
abbrev en_slices_ContainsFunc_Sint64_int64__impl_ValidStrip_1 : Bool → AV × List CV := fun b => (.one ⟨false, [(.v (.bool b))]⟩, [])
noncomputable abbrev k_slices_ContainsFunc_Sint64_int64__impl_ValidStrip_1 : Contract := .fx as_slices_ContainsFunc_Sint64_int64__impl_ValidStrip_1 (Bool) (fun z => g_slices_ContainsFunc_Sint64_int64__impl_ValidStrip_1 z.1) en_slices_ContainsFunc_Sint64_int64__impl_ValidStrip_1
theorem r_slices_ContainsFunc_Sint64_int64__impl_ValidStrip_1 (z : argsX as_slices_ContainsFunc_Sint64_int64__impl_ValidStrip_1) : runF (tab C0 T_slices_ContainsFunc_Sint64_int64__impl_ValidStrip_1) noHints 1 Try.f60 (lentOf as_slices_ContainsFunc_Sint64_int64__impl_ValidStrip_1) (xBoxes as_slices_ContainsFunc_Sint64_int64__impl_ValidStrip_1 z) (xVals as_slices_ContainsFunc_Sint64_int64__impl_ValidStrip_1 0 z) K2 = t_slices_ContainsFunc_Sint64_int64__impl_ValidStrip_1 (fun b => some (en_slices_ContainsFunc_Sint64_int64__impl_ValidStrip_1 b)) z.1 := by kernel_rfl
theorem so_slices_ContainsFunc_Sint64_int64__impl_ValidStrip_1 : Sound C0 60 k_slices_ContainsFunc_Sint64_int64__impl_ValidStrip_1 :=
  Sound.fx a_slices_ContainsFunc_Sint64_int64__impl_ValidStrip_1 mixed Try.func60 (by kernel_rfl) (by kernel_rfl) noHints 1 noHints_ok (fun z => (r_slices_ContainsFunc_Sint64_int64__impl_ValidStrip_1 z).trans (nat_slices_ContainsFunc_Sint64_int64__impl_ValidStrip_1 _ z.1))

/-! ### F40 impl.ValidStrip -/
noncomputable def T_impl_ValidStrip : List (FuncId × Contract) := [(51, k_impl_areLengths), (60, k_slices_ContainsFunc_Sint64_int64__impl_ValidStrip_1)]
theorem a_impl_ValidStrip : AllSound C0 T_impl_ValidStrip := .cons so_impl_areLengths (.cons so_slices_ContainsFunc_Sint64_int64__impl_ValidStrip_1 (.nil))
noncomputable def t_impl_ValidStrip {R : Type} (kx : Bool → Option R) (a0 : ((List Int) × (List Int))) : Option R :=
  Option.bind (g_impl_areLengths a0.1) fun y108 =>
  cond y108
  (cond ((((List.length a0.2) : Nat) : Int) == (IntKind.wrap IntKind.i64 ((((List.length a0.1) : Nat) : Int) - (1 : Int))))
   (Option.bind (g_slices_ContainsFunc_Sint64_int64__impl_ValidStrip_1 a0.2) fun y122 =>
    kx (!y122))
   (kx Bool.false))
  (kx Bool.false)
noncomputable def g_impl_ValidStrip (a0 : ((List Int) × (List Int))) : Option (Bool) := t_impl_ValidStrip some a0
theorem nat_impl_ValidStrip {R : Type} (kx : Bool → Option R) (a0 : ((List Int) × (List Int))) : t_impl_ValidStrip kx a0 = (g_impl_ValidStrip a0).bind kx := by
  unfold g_impl_ValidStrip t_impl_ValidStrip
  exact nat_bind fun _ => nat_cond (nat_cond (nat_bind fun _ => rfl) (rfl)) (rfl)
abbrev as_impl_ValidStrip : List AX := [.val true (.pair (.slice (.int .i64)) (.slice (.int .i64)))]
abbrev en_impl_ValidStrip : Bool → AV × List CV := fun b => (.one ⟨false, [(.v (.bool b))]⟩, [])
noncomputable abbrev k_impl_ValidStrip : Contract := .fx as_impl_ValidStrip (Bool) (fun z => g_impl_ValidStrip z.1) en_impl_ValidStrip
theorem r_impl_ValidStrip (z : argsX as_impl_ValidStrip) : runF (tab C0 T_impl_ValidStrip) noHints 1 Try.f40 (lentOf as_impl_ValidStrip) (xBoxes as_impl_ValidStrip z) (xVals as_impl_ValidStrip 0 z) K2 = t_impl_ValidStrip (fun b => some (en_impl_ValidStrip b)) z.1 := by kernel_rfl
theorem so_impl_ValidStrip : Sound C0 40 k_impl_ValidStrip :=
  Sound.fx a_impl_ValidStrip mixed Try.func40 (by kernel_rfl) (by kernel_rfl) noHints 1 noHints_ok (fun z => (r_impl_ValidStrip z).trans (nat_impl_ValidStrip _ z.1))

/-! ### F46 (impl.Strip).isPossible -/
noncomputable def T_impl_Strip_isPossible : List (FuncId × Contract) := [(63, k_impl_length_int64), (62, k_impl_within)]
theorem a_impl_Strip_isPossible : AllSound C0 T_impl_Strip_isPossible := .cons so_impl_length_int64 (.cons so_impl_within (.nil))
noncomputable def t_impl_Strip_isPossible {R : Type} (kx : Bool → Option R) (a0 : ((List Int) × (List Int))) (a1 : (Int × Int)) : Option R :=
  Option.bind (g_impl_length_int64 a0.1) fun y126 =>
  cond (decide (y126 < (2 : Int)))
  (kx Bool.false)
  (cond (a1.1 == (2 : Int))
   (cond (a1.2 == (0 : Int))
    (Option.bind (idx a0.1 (0 : Int)) fun y127 =>
     Option.bind (idx a0.1 (1 : Int)) fun y128 =>
     kx (decide (y127 ≤ y128)))
    (kx Bool.false))
   (cond (a1.1 == (3 : Int))
    (cond (a1.2 == (IntKind.wrap IntKind.i64 (y126 - (1 : Int))))
     (Option.bind (idx a0.1 (IntKind.wrap IntKind.i64 (y126 - (1 : Int)))) fun y129 =>
      Option.bind (idx a0.1 (IntKind.wrap IntKind.i64 (y126 - (2 : Int)))) fun y130 =>
      kx (decide (y129 ≤ y130)))
     (kx Bool.false))
    (cond (a1.1 == (1 : Int))
     (Option.bind (g_impl_within a1.2 (1 : Int) (IntKind.wrap IntKind.i64 (y126 - (2 : Int)))) fun y131 =>
      cond y131
      (Option.bind (idx a0.1 a1.2) fun y132 =>
       Option.bind (idx a0.1 (IntKind.wrap IntKind.i64 (a1.2 - (1 : Int)))) fun y133 =>
       cond (decide (y132 ≤ y133))
       (Option.bind (idx a0.1 a1.2) fun y134 =>
        Option.bind (idx a0.1 (IntKind.wrap IntKind.i64 (a1.2 + (1 : Int)))) fun y135 =>
        cond (decide (y134 ≤ y135))
        (Option.bind (idx a0.2 (IntKind.wrap IntKind.i64 (a1.2 - (1 : Int)))) fun y136 =>
         Option.bind (idx a0.2 a1.2) fun y137 =>
         kx (y136 != y137))
        (kx Bool.false))
       (kx Bool.false))
      (kx Bool.false))
     (kx Bool.false))))
noncomputable def g_impl_Strip_isPossible (a0 : ((List Int) × (List Int))) (a1 : (Int × Int)) : Option (Bool) := t_impl_Strip_isPossible some a0 a1
theorem nat_impl_Strip_isPossible {R : Type} (kx : Bool → Option R) (a0 : ((List Int) × (List Int))) (a1 : (Int × Int)) : t_impl_Strip_isPossible kx a0 a1 = (g_impl_Strip_isPossible a0 a1).bind kx := by
  unfold g_impl_Strip_isPossible t_impl_Strip_isPossible
  exact nat_bind fun _ => nat_cond (rfl) (nat_cond (nat_cond (nat_bind fun _ => nat_bind fun _ => rfl) (rfl)) (nat_cond (nat_cond (nat_bind fun _ => nat_bind fun _ => rfl) (rfl)) (nat_cond (nat_bind fun _ => nat_cond (nat_bind fun _ => nat_bind fun _ => nat_cond (nat_bind fun _ => nat_bind fun _ => nat_cond (nat_bind fun _ => nat_bind fun _ => rfl) (rfl)) (rfl)) (rfl)) (rfl))))
abbrev as_impl_Strip_isPossible : List AX := [.val true (.pair (.slice (.int .i64)) (.slice (.int .i64))), .val true (.pair (.int .i64) (.int .i64))]
abbrev en_impl_Strip_isPossible : Bool → AV × List CV := fun b => (.one ⟨false, [(.v (.bool b))]⟩, [])
noncomputable abbrev k_impl_Strip_isPossible : Contract := .fx as_impl_Strip_isPossible (Bool) (fun z => g_impl_Strip_isPossible z.1 z.2.1) en_impl_Strip_isPossible
theorem r_impl_Strip_isPossible (z : argsX as_impl_Strip_isPossible) : runF (tab C0 T_impl_Strip_isPossible) noHints 1 Try.f46 (lentOf as_impl_Strip_isPossible) (xBoxes as_impl_Strip_isPossible z) (xVals as_impl_Strip_isPossible 0 z) K2 = t_impl_Strip_isPossible (fun b => some (en_impl_Strip_isPossible b)) z.1 z.2.1 := by kernel_rfl
theorem so_impl_Strip_isPossible : Sound C0 46 k_impl_Strip_isPossible :=
  Sound.fx a_impl_Strip_isPossible mixed Try.func46 (by kernel_rfl) (by kernel_rfl) noHints 1 noHints_ok (fun z => (r_impl_Strip_isPossible z).trans (nat_impl_Strip_isPossible _ z.1 z.2.1))

/-! ### F66 slices.Clone[[]int64,int64] -/
noncomputable def T_slices_Clone_Sint64_int64_n : List (FuncId × Contract) := []
theorem a_slices_Clone_Sint64_int64_n : AllSound C0 T_slices_Clone_Sint64_int64_n := .nil
noncomputable def t_slices_Clone_Sint64_int64_n {R : Type} (kx : (List Int) → Option R) (a0 : (List Int)) : Option R :=
  cond (decide (0 < (List.length a0)))
  (cond (decide ((((List.length ([] : List Int)) + (List.length a0)) * 8) ≤ 70368744177664))
   (cond (decide (((List.length ([] : List Int)) + (List.length a0)) ≤ 70368744177664))
    (kx ([] ++ a0))
    (none))
   (none))
  (none)
noncomputable def g_slices_Clone_Sint64_int64_n (a0 : (List Int)) : Option ((List Int)) := t_slices_Clone_Sint64_int64_n some a0
theorem nat_slices_Clone_Sint64_int64_n {R : Type} (kx : (List Int) → Option R) (a0 : (List Int)) : t_slices_Clone_Sint64_int64_n kx a0 = (g_slices_Clone_Sint64_int64_n a0).bind kx := by
  unfold g_slices_Clone_Sint64_int64_n t_slices_Clone_Sint64_int64_n
  exact nat_cond (nat_cond (nat_cond (rfl) (rfl)) (rfl)) (rfl)
abbrev as_slices_Clone_Sint64_int64_n : List AX := [.val false (.slice (.int .i64))]
abbrev en_slices_Clone_Sint64_int64_n : (List Int) → AV × List CV := fun b => (.one ⟨false, [(.own (.int .i64) b)]⟩, [])
noncomputable abbrev k_slices_Clone_Sint64_int64_n : Contract := .fx as_slices_Clone_Sint64_int64_n ((List Int)) (fun z => g_slices_Clone_Sint64_int64_n z.1) en_slices_Clone_Sint64_int64_n
theorem r_slices_Clone_Sint64_int64_n (z : argsX as_slices_Clone_Sint64_int64_n) : runF (tab C0 T_slices_Clone_Sint64_int64_n) noHints 1 Try.f66 (lentOf as_slices_Clone_Sint64_int64_n) (xBoxes as_slices_Clone_Sint64_int64_n z) (xVals as_slices_Clone_Sint64_int64_n 0 z) K2 = t_slices_Clone_Sint64_int64_n (fun b => some (en_slices_Clone_Sint64_int64_n b)) z.1 := by kernel_rfl
theorem so_slices_Clone_Sint64_int64_n : Sound C0 66 k_slices_Clone_Sint64_int64_n :=
  Sound.fx a_slices_Clone_Sint64_int64_n mixed Try.func66 (by kernel_rfl) (by kernel_rfl) noHints 1 noHints_ok (fun z => (r_slices_Clone_Sint64_int64_n z).trans (nat_slices_Clone_Sint64_int64_n _ z.1))
theorem e_slices_Clone_Sint64_int64 : Sound C0 66 (Contract.emptyS (.int .i64)) :=
  Sound.emptyRun mixed Try.func66 (by kernel_rfl) (by kernel_rfl) (fun _ => rfl) (fun A c => by cases A <;> kernel_rfl)
noncomputable def g_slices_Clone_Sint64_int64 (a0 : (List Int)) : Option ((List Int)) := cond (decide (List.length a0 ≤ 1000000)) (some a0) none
abbrev as_slices_Clone_Sint64_int64 : List AX := [.val false (.slice (.int .i64))]
abbrev en_slices_Clone_Sint64_int64 : (List Int) → AV × List CV := fun b => (.one ⟨false, [(.own (.int .i64) b)]⟩, [])
noncomputable abbrev k_slices_Clone_Sint64_int64 : Contract := .fx as_slices_Clone_Sint64_int64 ((List Int)) (fun z => g_slices_Clone_Sint64_int64 z.1) en_slices_Clone_Sint64_int64
theorem so_slices_Clone_Sint64_int64 : Sound C0 66 k_slices_Clone_Sint64_int64 := by
  refine Sound.orEmpty so_slices_Clone_Sint64_int64_n (g' := g_slices_Clone_Sint64_int64) (fun l y h hne => ?_) (fun y h => ?_) e_slices_Clone_Sint64_int64
  · show g_slices_Clone_Sint64_int64_n l = some y
    unfold g_slices_Clone_Sint64_int64 at h
    cases hd : decide (List.length l ≤ 1000000) with
    | false => rw [hd] at h; cases h
    | true =>
      rw [hd] at h; cases h
      have h1 := of_decide_eq_true hd
      have h2 : 0 < List.length l := List.length_pos_iff.2 hne
      unfold g_slices_Clone_Sint64_int64_n t_slices_Clone_Sint64_int64_n
      simp only [List.length_nil, Nat.zero_add, List.nil_append]
      rw [decide_eq_true h2, decide_eq_true (by omega), decide_eq_true (by omega)]; rfl
  · cases h; rfl

/-! ### F80 slices.Insert[[]int64,int64] -/
noncomputable def T_slices_Insert_Sint64_int64 : List (FuncId × Contract) := []
theorem a_slices_Insert_Sint64_int64 : AllSound C0 T_slices_Insert_Sint64_int64 := .nil
noncomputable def t_slices_Insert_Sint64_int64 {R : Type} (kx : (List Int) → Option R) (a0 : (List Int)) (a1 : Int) (a2 : (List Int)) : Option R :=
  cond (decide ((0 : Int) ≤ a1))
  (cond (decide (a1 ≤ (((List.length a0) : Nat) : Int)))
   (cond ((((List.length a2) : Nat) : Int) == (0 : Int))
    (kx a0)
    (cond (a1 == (((List.length a0) : Nat) : Int))
     (none)
     (none)))
   (none))
  (none)
noncomputable def g_slices_Insert_Sint64_int64 (a0 : (List Int)) (a1 : Int) (a2 : (List Int)) : Option ((List Int)) := t_slices_Insert_Sint64_int64 some a0 a1 a2
theorem nat_slices_Insert_Sint64_int64 {R : Type} (kx : (List Int) → Option R) (a0 : (List Int)) (a1 : Int) (a2 : (List Int)) : t_slices_Insert_Sint64_int64 kx a0 a1 a2 = (g_slices_Insert_Sint64_int64 a0 a1 a2).bind kx := by
  unfold g_slices_Insert_Sint64_int64 t_slices_Insert_Sint64_int64
  exact nat_cond (nat_cond (nat_cond (rfl) (nat_cond (rfl) (rfl))) (rfl)) (rfl)
abbrev as_slices_Insert_Sint64_int64 : List AX := [.val false (.slice (.int .i64)), .val false (.int .i64), .val false (.slice (.int .i64))]
abbrev en_slices_Insert_Sint64_int64 : (List Int) → AV × List CV := fun b => (.one ⟨false, [(.sl (.int .i64) b)]⟩, [])
noncomputable abbrev k_slices_Insert_Sint64_int64 : Contract := .fx as_slices_Insert_Sint64_int64 ((List Int)) (fun z => g_slices_Insert_Sint64_int64 z.1 z.2.1 z.2.2.1) en_slices_Insert_Sint64_int64
theorem r_slices_Insert_Sint64_int64 (z : argsX as_slices_Insert_Sint64_int64) : runF (tab C0 T_slices_Insert_Sint64_int64) noHints 1 Try.f80 (lentOf as_slices_Insert_Sint64_int64) (xBoxes as_slices_Insert_Sint64_int64 z) (xVals as_slices_Insert_Sint64_int64 0 z) K2 = t_slices_Insert_Sint64_int64 (fun b => some (en_slices_Insert_Sint64_int64 b)) z.1 z.2.1 z.2.2.1 := by kernel_rfl
theorem so_slices_Insert_Sint64_int64 : Sound C0 80 k_slices_Insert_Sint64_int64 :=
  Sound.fx a_slices_Insert_Sint64_int64 mixed Try.func80 (by kernel_rfl) (by kernel_rfl) noHints 1 noHints_ok (fun z => (r_slices_Insert_Sint64_int64 z).trans (nat_slices_Insert_Sint64_int64 _ z.1 z.2.1 z.2.2.1))

/-! ### F67 slices.Replace[[]int64,int64] -/
noncomputable def T_slices_Replace_Sint64_int64 : List (FuncId × Contract) := [(80, k_slices_Insert_Sint64_int64)]
theorem a_slices_Replace_Sint64_int64 : AllSound C0 T_slices_Replace_Sint64_int64 := .cons so_slices_Insert_Sint64_int64 (.nil)
noncomputable def t_slices_Replace_Sint64_int64 {R : Type} (kx : (List Int) → Option R) (a0 : List Int) (a1 : Int) (a2 : Int) (a3 : (List Int)) : Option R :=
  cond (decide (0 < (List.length a0)))
  (cond (decide ((0 : Int) ≤ a1))
   (cond (decide (a1 ≤ a2))
    (cond (decide (a2 ≤ (((List.length a0) : Nat) : Int)))
     (cond (a1 == a2)
      (Option.bind (g_slices_Insert_Sint64_int64 a0 a1 a3) fun _ =>
       none)
      (cond (a2 == (((List.length a0) : Nat) : Int))
       (cond (decide (0 < (List.length a0)))
        (cond (decide ((0 : Int) ≤ a1))
         (cond (decide (a1 ≤ (((List.length a0) : Nat) : Int)))
          (cond (decide ((((0 + 0) + (List.length (List.drop 0 (List.take (Int.toNat a1) a0)))) + (List.length a3)) ≤ (List.length a0)))
           (cond (decide ((((List.length ((List.drop 0 (List.take (Int.toNat a1) a0)) ++ a3)) : Nat) : Int) < (((List.length (overL 0 ((0 + 0) + (List.length (List.drop 0 (List.take (Int.toNat a1) a0)))) a3 a0)) : Nat) : Int)))
            (cond (decide (0 < (List.length (overL 0 ((0 + 0) + (List.length (List.drop 0 (List.take (Int.toNat a1) a0)))) a3 a0))))
             (cond (decide ((((List.length ((List.drop 0 (List.take (Int.toNat a1) a0)) ++ a3)) : Nat) : Int) ≤ (((List.length (overL 0 ((0 + 0) + (List.length (List.drop 0 (List.take (Int.toNat a1) a0)))) a3 a0)) : Nat) : Int)))
              (kx (overL (0 + 0) (0 + (Int.toNat (((List.length ((List.drop 0 (List.take (Int.toNat a1) a0)) ++ a3)) : Nat) : Int))) (List.replicate (List.length (List.drop (Int.toNat (((List.length ((List.drop 0 (List.take (Int.toNat a1) a0)) ++ a3)) : Nat) : Int)) (List.take (List.length (overL 0 ((0 + 0) + (List.length (List.drop 0 (List.take (Int.toNat a1) a0)))) a3 a0)) (overL 0 ((0 + 0) + (List.length (List.drop 0 (List.take (Int.toNat a1) a0)))) a3 a0)))) (0 : Int)) ((List.drop 0 (List.take (Int.toNat a1) a0)) ++ a3)))
              (none))
             (none))
            (kx ((List.drop 0 (List.take (Int.toNat a1) a0)) ++ a3)))
           (cond (decide ((((List.length (List.drop 0 (List.take (Int.toNat a1) a0))) + (List.length a3)) * 8) ≤ 70368744177664))
            (cond (decide (((List.length (List.drop 0 (List.take (Int.toNat a1) a0))) + (List.length a3)) ≤ 70368744177664))
             (none)
             (none))
            (none)))
          (none))
         (none))
        (none))
       (cond (decide (0 < (List.length a0)))
        (cond (decide ((0 : Int) ≤ a1))
         (cond (decide (a1 ≤ (((List.length a0) : Nat) : Int)))
          (cond (decide (0 < (List.length a0)))
           (cond (decide ((0 : Int) ≤ a2))
            (cond (decide (a2 ≤ (((List.length a0) : Nat) : Int)))
             (cond (decide ((IntKind.wrap IntKind.i64 ((IntKind.wrap IntKind.i64 ((((List.length (List.drop 0 (List.take (Int.toNat a1) a0))) : Nat) : Int) + (((List.length a3) : Nat) : Int))) + (((List.length (List.drop (Int.toNat a2) (List.take (List.length a0) a0))) : Nat) : Int))) ≤ (((List.length a0) : Nat) : Int)))
              (cond (decide (0 < (List.length a0)))
               (cond (decide ((0 : Int) ≤ (IntKind.wrap IntKind.i64 ((IntKind.wrap IntKind.i64 ((((List.length (List.drop 0 (List.take (Int.toNat a1) a0))) : Nat) : Int) + (((List.length a3) : Nat) : Int))) + (((List.length (List.drop (Int.toNat a2) (List.take (List.length a0) a0))) : Nat) : Int)))))
                (cond (decide ((IntKind.wrap IntKind.i64 ((IntKind.wrap IntKind.i64 ((((List.length (List.drop 0 (List.take (Int.toNat a1) a0))) : Nat) : Int) + (((List.length a3) : Nat) : Int))) + (((List.length (List.drop (Int.toNat a2) (List.take (List.length a0) a0))) : Nat) : Int))) ≤ (((List.length a0) : Nat) : Int)))
                 (cond (decide ((IntKind.wrap IntKind.i64 (a1 + (((List.length a3) : Nat) : Int))) ≤ a2))
                  (cond (decide ((0 : Int) ≤ a1))
                   (cond (decide (a1 ≤ (((List.length (List.drop 0 (List.take (Int.toNat (IntKind.wrap IntKind.i64 ((IntKind.wrap IntKind.i64 ((((List.length (List.drop 0 (List.take (Int.toNat a1) a0))) : Nat) : Int) + (((List.length a3) : Nat) : Int))) + (((List.length (List.drop (Int.toNat a2) (List.take (List.length a0) a0))) : Nat) : Int)))) a0))) : Nat) : Int)))
                    (cond (decide ((List.length a3) ≤ (List.length (List.drop (Int.toNat a1) (List.take (List.length (List.drop 0 (List.take (Int.toNat (IntKind.wrap IntKind.i64 ((IntKind.wrap IntKind.i64 ((((List.length (List.drop 0 (List.take (Int.toNat a1) a0))) : Nat) : Int) + (((List.length a3) : Nat) : Int))) + (((List.length (List.drop (Int.toNat a2) (List.take (List.length a0) a0))) : Nat) : Int)))) a0))) (List.drop 0 (List.take (Int.toNat (IntKind.wrap IntKind.i64 ((IntKind.wrap IntKind.i64 ((((List.length (List.drop 0 (List.take (Int.toNat a1) a0))) : Nat) : Int) + (((List.length a3) : Nat) : Int))) + (((List.length (List.drop (Int.toNat a2) (List.take (List.length a0) a0))) : Nat) : Int)))) a0)))))))
                     (cond (decide ((0 : Int) ≤ (IntKind.wrap IntKind.i64 (a1 + (((List.length a3) : Nat) : Int)))))
                      (cond (decide ((IntKind.wrap IntKind.i64 (a1 + (((List.length a3) : Nat) : Int))) ≤ (((List.length (overL (0 + 0) ((0 + 0) + (Int.toNat a1)) a3 (List.drop 0 (List.take (Int.toNat (IntKind.wrap IntKind.i64 ((IntKind.wrap IntKind.i64 ((((List.length (List.drop 0 (List.take (Int.toNat a1) a0))) : Nat) : Int) + (((List.length a3) : Nat) : Int))) + (((List.length (List.drop (Int.toNat a2) (List.take (List.length a0) a0))) : Nat) : Int)))) a0)))) : Nat) : Int)))
                       (cond (decide (0 < (List.length (overL 0 ((0 + 0) + (Int.toNat a1)) a3 a0))))
                        (cond (decide ((0 : Int) ≤ a2))
                         (cond (decide (a2 ≤ (((List.length (overL 0 ((0 + 0) + (Int.toNat a1)) a3 a0)) : Nat) : Int)))
                          (cond (decide ((List.length (List.drop (Int.toNat a2) (List.take (List.length (overL 0 ((0 + 0) + (Int.toNat a1)) a3 a0)) (overL 0 ((0 + 0) + (Int.toNat a1)) a3 a0)))) ≤ (List.length (List.drop (Int.toNat (IntKind.wrap IntKind.i64 (a1 + (((List.length a3) : Nat) : Int)))) (List.take (List.length (overL (0 + 0) ((0 + 0) + (Int.toNat a1)) a3 (List.drop 0 (List.take (Int.toNat (IntKind.wrap IntKind.i64 ((IntKind.wrap IntKind.i64 ((((List.length (List.drop 0 (List.take (Int.toNat a1) a0))) : Nat) : Int) + (((List.length a3) : Nat) : Int))) + (((List.length (List.drop (Int.toNat a2) (List.take (List.length a0) a0))) : Nat) : Int)))) a0)))) (overL (0 + 0) ((0 + 0) + (Int.toNat a1)) a3 (List.drop 0 (List.take (Int.toNat (IntKind.wrap IntKind.i64 ((IntKind.wrap IntKind.i64 ((((List.length (List.drop 0 (List.take (Int.toNat a1) a0))) : Nat) : Int) + (((List.length a3) : Nat) : Int))) + (((List.length (List.drop (Int.toNat a2) (List.take (List.length a0) a0))) : Nat) : Int)))) a0))))))))
                           (cond (decide (0 < (List.length (overL 0 ((0 + 0) + (Int.toNat (IntKind.wrap IntKind.i64 (a1 + (((List.length a3) : Nat) : Int))))) (List.drop (Int.toNat a2) (List.take (List.length (overL 0 ((0 + 0) + (Int.toNat a1)) a3 a0)) (overL 0 ((0 + 0) + (Int.toNat a1)) a3 a0))) (overL 0 ((0 + 0) + (Int.toNat a1)) a3 a0)))))
                            (cond (decide ((0 : Int) ≤ (IntKind.wrap IntKind.i64 ((IntKind.wrap IntKind.i64 ((((List.length (List.drop 0 (List.take (Int.toNat a1) a0))) : Nat) : Int) + (((List.length a3) : Nat) : Int))) + (((List.length (List.drop (Int.toNat a2) (List.take (List.length a0) a0))) : Nat) : Int)))))
                             (cond (decide ((IntKind.wrap IntKind.i64 ((IntKind.wrap IntKind.i64 ((((List.length (List.drop 0 (List.take (Int.toNat a1) a0))) : Nat) : Int) + (((List.length a3) : Nat) : Int))) + (((List.length (List.drop (Int.toNat a2) (List.take (List.length a0) a0))) : Nat) : Int))) ≤ (((List.length (overL 0 ((0 + 0) + (Int.toNat (IntKind.wrap IntKind.i64 (a1 + (((List.length a3) : Nat) : Int))))) (List.drop (Int.toNat a2) (List.take (List.length (overL 0 ((0 + 0) + (Int.toNat a1)) a3 a0)) (overL 0 ((0 + 0) + (Int.toNat a1)) a3 a0))) (overL 0 ((0 + 0) + (Int.toNat a1)) a3 a0))) : Nat) : Int)))
                              (kx (overL (0 + 0) (0 + (Int.toNat (IntKind.wrap IntKind.i64 ((IntKind.wrap IntKind.i64 ((((List.length (List.drop 0 (List.take (Int.toNat a1) a0))) : Nat) : Int) + (((List.length a3) : Nat) : Int))) + (((List.length (List.drop (Int.toNat a2) (List.take (List.length a0) a0))) : Nat) : Int))))) (List.replicate (List.length (List.drop (Int.toNat (IntKind.wrap IntKind.i64 ((IntKind.wrap IntKind.i64 ((((List.length (List.drop 0 (List.take (Int.toNat a1) a0))) : Nat) : Int) + (((List.length a3) : Nat) : Int))) + (((List.length (List.drop (Int.toNat a2) (List.take (List.length a0) a0))) : Nat) : Int)))) (List.take (List.length (overL 0 ((0 + 0) + (Int.toNat (IntKind.wrap IntKind.i64 (a1 + (((List.length a3) : Nat) : Int))))) (List.drop (Int.toNat a2) (List.take (List.length (overL 0 ((0 + 0) + (Int.toNat a1)) a3 a0)) (overL 0 ((0 + 0) + (Int.toNat a1)) a3 a0))) (overL 0 ((0 + 0) + (Int.toNat a1)) a3 a0))) (overL 0 ((0 + 0) + (Int.toNat (IntKind.wrap IntKind.i64 (a1 + (((List.length a3) : Nat) : Int))))) (List.drop (Int.toNat a2) (List.take (List.length (overL 0 ((0 + 0) + (Int.toNat a1)) a3 a0)) (overL 0 ((0 + 0) + (Int.toNat a1)) a3 a0))) (overL 0 ((0 + 0) + (Int.toNat a1)) a3 a0))))) (0 : Int)) (overL (0 + 0) ((0 + 0) + (Int.toNat (IntKind.wrap IntKind.i64 (a1 + (((List.length a3) : Nat) : Int))))) (List.drop (Int.toNat a2) (List.take (List.length (overL 0 ((0 + 0) + (Int.toNat a1)) a3 a0)) (overL 0 ((0 + 0) + (Int.toNat a1)) a3 a0))) (overL (0 + 0) ((0 + 0) + (Int.toNat a1)) a3 (List.drop 0 (List.take (Int.toNat (IntKind.wrap IntKind.i64 ((IntKind.wrap IntKind.i64 ((((List.length (List.drop 0 (List.take (Int.toNat a1) a0))) : Nat) : Int) + (((List.length a3) : Nat) : Int))) + (((List.length (List.drop (Int.toNat a2) (List.take (List.length a0) a0))) : Nat) : Int)))) a0))))))
                              (none))
                             (none))
                            (none))
                           (none))
                          (none))
                         (none))
                        (none))
                       (none))
                      (none))
                     (none))
                    (none))
                   (none))
                  (cond (decide ((0 : Int) ≤ (IntKind.wrap IntKind.i64 (a1 + (((List.length a3) : Nat) : Int)))))
                   (cond (decide ((IntKind.wrap IntKind.i64 (a1 + (((List.length a3) : Nat) : Int))) ≤ (((List.length (List.drop 0 (List.take (Int.toNat (IntKind.wrap IntKind.i64 ((IntKind.wrap IntKind.i64 ((((List.length (List.drop 0 (List.take (Int.toNat a1) a0))) : Nat) : Int) + (((List.length a3) : Nat) : Int))) + (((List.length (List.drop (Int.toNat a2) (List.take (List.length a0) a0))) : Nat) : Int)))) a0))) : Nat) : Int)))
                    (none)
                    (none))
                   (none)))
                 (none))
                (none))
               (none))
              (none))
             (none))
            (none))
           (none))
          (none))
         (none))
        (none))))
     (none))
    (none))
   (none))
  (none)
noncomputable def g_slices_Replace_Sint64_int64 (a0 : List Int) (a1 : Int) (a2 : Int) (a3 : (List Int)) : Option ((List Int)) := t_slices_Replace_Sint64_int64 some a0 a1 a2 a3
theorem nat_slices_Replace_Sint64_int64 {R : Type} (kx : (List Int) → Option R) (a0 : List Int) (a1 : Int) (a2 : Int) (a3 : (List Int)) : t_slices_Replace_Sint64_int64 kx a0 a1 a2 a3 = (g_slices_Replace_Sint64_int64 a0 a1 a2 a3).bind kx := by
  unfold g_slices_Replace_Sint64_int64 t_slices_Replace_Sint64_int64
  exact nat_cond (nat_cond (nat_cond (nat_cond (nat_cond (nat_bind fun _ => rfl) (nat_cond (nat_cond (nat_cond (nat_cond (nat_cond (nat_cond (nat_cond (nat_cond (rfl) (rfl)) (rfl)) (rfl)) (nat_cond (nat_cond (rfl) (rfl)) (rfl))) (rfl)) (rfl)) (rfl)) (nat_cond (nat_cond (nat_cond (nat_cond (nat_cond (nat_cond (nat_cond (nat_cond (nat_cond (nat_cond (nat_cond (nat_cond (nat_cond (nat_cond (nat_cond (nat_cond (nat_cond (nat_cond (nat_cond (nat_cond (nat_cond (nat_cond (nat_cond (rfl) (rfl)) (rfl)) (rfl)) (rfl)) (rfl)) (rfl)) (rfl)) (rfl)) (rfl)) (rfl)) (rfl)) (rfl)) (nat_cond (nat_cond (rfl) (rfl)) (rfl))) (rfl)) (rfl)) (rfl)) (rfl)) (rfl)) (rfl)) (rfl)) (rfl)) (rfl)) (rfl)))) (rfl)) (rfl)) (rfl)) (rfl)
abbrev as_slices_Replace_Sint64_int64 : List AX := [.io (.int .i64), .val false (.int .i64), .val false (.int .i64), .val false (.slice (.int .i64))]
abbrev en_slices_Replace_Sint64_int64 : (List Int) → AV × List CV := fun b => (.one ⟨false, [(.own (.int .i64) b)]⟩, [.undef])
noncomputable abbrev k_slices_Replace_Sint64_int64 : Contract := .fx as_slices_Replace_Sint64_int64 ((List Int)) (fun z => g_slices_Replace_Sint64_int64 z.1 z.2.1 z.2.2.1 z.2.2.2.1) en_slices_Replace_Sint64_int64
theorem r_slices_Replace_Sint64_int64 (z : argsX as_slices_Replace_Sint64_int64) : runF (tab C0 T_slices_Replace_Sint64_int64) noHints 1 Try.f67 (lentOf as_slices_Replace_Sint64_int64) (xBoxes as_slices_Replace_Sint64_int64 z) (xVals as_slices_Replace_Sint64_int64 0 z) K3 = t_slices_Replace_Sint64_int64 (fun b => some (en_slices_Replace_Sint64_int64 b)) z.1 z.2.1 z.2.2.1 z.2.2.2.1 := by kernel_rfl
theorem so_slices_Replace_Sint64_int64 : Sound C0 67 k_slices_Replace_Sint64_int64 :=
  Sound.fxTake a_slices_Replace_Sint64_int64 mixed Try.func67 (by kernel_rfl) (by kernel_rfl) noHints 1 noHints_ok (fun z => (r_slices_Replace_Sint64_int64 z).trans (nat_slices_Replace_Sint64_int64 _ z.1 z.2.1 z.2.2.1 z.2.2.2.1))

/-! ### F68 slices.Delete[[]int64,int64] -/
noncomputable def T_slices_Delete_Sint64_int64 : List (FuncId × Contract) := []
theorem a_slices_Delete_Sint64_int64 : AllSound C0 T_slices_Delete_Sint64_int64 := .nil
noncomputable def t_slices_Delete_Sint64_int64 {R : Type} (kx : (List Int) → Option R) (a0 : List Int) (a1 : Int) (a2 : Int) : Option R :=
  cond (decide ((0 : Int) ≤ a1))
  (cond (decide (a1 ≤ a2))
   (cond (decide (a2 ≤ (((List.length a0) : Nat) : Int)))
    (cond (decide ((((List.length a0) : Nat) : Int) ≤ (((List.length a0) : Nat) : Int)))
     (cond (a1 == a2)
      (kx a0)
      (cond (decide (0 < (List.length a0)))
       (cond (decide ((0 : Int) ≤ a1))
        (cond (decide (a1 ≤ (((List.length a0) : Nat) : Int)))
         (cond (decide (0 < (List.length a0)))
          (cond (decide ((0 : Int) ≤ a2))
           (cond (decide (a2 ≤ (((List.length a0) : Nat) : Int)))
            (cond (decide ((((0 + 0) + (List.length (List.drop 0 (List.take (Int.toNat a1) a0)))) + (List.length (List.drop (Int.toNat a2) (List.take (List.length a0) a0)))) ≤ (List.length a0)))
             (cond (decide ((((List.length ((List.drop 0 (List.take (Int.toNat a1) a0)) ++ (List.drop (Int.toNat a2) (List.take (List.length a0) a0)))) : Nat) : Int) ≤ (((List.length a0) : Nat) : Int)))
              (cond (decide ((((List.length a0) : Nat) : Int) ≤ ((((List.length (overL 0 ((0 + 0) + (List.length (List.drop 0 (List.take (Int.toNat a1) a0)))) (List.drop (Int.toNat a2) (List.take (List.length a0) a0)) a0)) - (0 + 0)) : Nat) : Int)))
               (kx (overL (0 + 0) ((0 + 0) + (Int.toNat (((List.length ((List.drop 0 (List.take (Int.toNat a1) a0)) ++ (List.drop (Int.toNat a2) (List.take (List.length a0) a0)))) : Nat) : Int))) (List.replicate (List.length (List.drop (Int.toNat (((List.length ((List.drop 0 (List.take (Int.toNat a1) a0)) ++ (List.drop (Int.toNat a2) (List.take (List.length a0) a0)))) : Nat) : Int)) (List.take (Int.toNat (((List.length a0) : Nat) : Int)) (List.drop (0 + 0) (overL 0 ((0 + 0) + (List.length (List.drop 0 (List.take (Int.toNat a1) a0)))) (List.drop (Int.toNat a2) (List.take (List.length a0) a0)) a0))))) (0 : Int)) ((List.drop 0 (List.take (Int.toNat a1) a0)) ++ (List.drop (Int.toNat a2) (List.take (List.length a0) a0)))))
               (none))
              (none))
             (cond (decide ((((List.length (List.drop 0 (List.take (Int.toNat a1) a0))) + (List.length (List.drop (Int.toNat a2) (List.take (List.length a0) a0)))) * 8) ≤ 70368744177664))
              (cond (decide (((List.length (List.drop 0 (List.take (Int.toNat a1) a0))) + (List.length (List.drop (Int.toNat a2) (List.take (List.length a0) a0)))) ≤ 70368744177664))
               (cond (decide (0 < (List.length ((List.drop 0 (List.take (Int.toNat a1) a0)) ++ (List.drop (Int.toNat a2) (List.take (List.length a0) a0))))))
                (cond (decide ((((List.length ((List.drop 0 (List.take (Int.toNat a1) a0)) ++ (List.drop (Int.toNat a2) (List.take (List.length a0) a0)))) : Nat) : Int) ≤ (((List.length a0) : Nat) : Int)))
                 (cond (decide ((((List.length a0) : Nat) : Int) ≤ (((List.length ((List.drop 0 (List.take (Int.toNat a1) a0)) ++ (List.drop (Int.toNat a2) (List.take (List.length a0) a0)))) : Nat) : Int)))
                  (kx (overL 0 (0 + (Int.toNat (((List.length ((List.drop 0 (List.take (Int.toNat a1) a0)) ++ (List.drop (Int.toNat a2) (List.take (List.length a0) a0)))) : Nat) : Int))) (List.replicate (List.length (List.drop (Int.toNat (((List.length ((List.drop 0 (List.take (Int.toNat a1) a0)) ++ (List.drop (Int.toNat a2) (List.take (List.length a0) a0)))) : Nat) : Int)) (List.take (Int.toNat (((List.length a0) : Nat) : Int)) ((List.drop 0 (List.take (Int.toNat a1) a0)) ++ (List.drop (Int.toNat a2) (List.take (List.length a0) a0)))))) (0 : Int)) ((List.drop 0 (List.take (Int.toNat a1) a0)) ++ (List.drop (Int.toNat a2) (List.take (List.length a0) a0)))))
                  (none))
                 (none))
                (none))
               (none))
              (none)))
            (none))
           (none))
          (none))
         (none))
        (none))
       (none)))
     (none))
    (none))
   (none))
  (none)
noncomputable def g_slices_Delete_Sint64_int64 (a0 : List Int) (a1 : Int) (a2 : Int) : Option ((List Int)) := t_slices_Delete_Sint64_int64 some a0 a1 a2
theorem nat_slices_Delete_Sint64_int64 {R : Type} (kx : (List Int) → Option R) (a0 : List Int) (a1 : Int) (a2 : Int) : t_slices_Delete_Sint64_int64 kx a0 a1 a2 = (g_slices_Delete_Sint64_int64 a0 a1 a2).bind kx := by
  unfold g_slices_Delete_Sint64_int64 t_slices_Delete_Sint64_int64
  exact nat_cond (nat_cond (nat_cond (nat_cond (nat_cond (rfl) (nat_cond (nat_cond (nat_cond (nat_cond (nat_cond (nat_cond (nat_cond (nat_cond (nat_cond (rfl) (rfl)) (rfl)) (nat_cond (nat_cond (nat_cond (nat_cond (nat_cond (rfl) (rfl)) (rfl)) (rfl)) (rfl)) (rfl))) (rfl)) (rfl)) (rfl)) (rfl)) (rfl)) (rfl))) (rfl)) (rfl)) (rfl)) (rfl)
abbrev as_slices_Delete_Sint64_int64 : List AX := [.io (.int .i64), .val false (.int .i64), .val false (.int .i64)]
abbrev en_slices_Delete_Sint64_int64 : (List Int) → AV × List CV := fun b => (.one ⟨false, [(.own (.int .i64) b)]⟩, [.undef])
noncomputable abbrev k_slices_Delete_Sint64_int64 : Contract := .fx as_slices_Delete_Sint64_int64 ((List Int)) (fun z => g_slices_Delete_Sint64_int64 z.1 z.2.1 z.2.2.1) en_slices_Delete_Sint64_int64
theorem r_slices_Delete_Sint64_int64 (z : argsX as_slices_Delete_Sint64_int64) : runF (tab C0 T_slices_Delete_Sint64_int64) noHints 1 Try.f68 (lentOf as_slices_Delete_Sint64_int64) (xBoxes as_slices_Delete_Sint64_int64 z) (xVals as_slices_Delete_Sint64_int64 0 z) K3 = t_slices_Delete_Sint64_int64 (fun b => some (en_slices_Delete_Sint64_int64 b)) z.1 z.2.1 z.2.2.1 := by kernel_rfl
theorem so_slices_Delete_Sint64_int64 : Sound C0 68 k_slices_Delete_Sint64_int64 :=
  Sound.fxTake a_slices_Delete_Sint64_int64 mixed Try.func68 (by kernel_rfl) (by kernel_rfl) noHints 1 noHints_ok (fun z => (r_slices_Delete_Sint64_int64 z).trans (nat_slices_Delete_Sint64_int64 _ z.1 z.2.1 z.2.2.1))

/-! ### F47 (impl.Strip).apply -/
noncomputable def T_impl_Strip_apply : List (FuncId × Contract) := [(66, k_slices_Clone_Sint64_int64), (67, k_slices_Replace_Sint64_int64), (68, k_slices_Delete_Sint64_int64)]
theorem a_impl_Strip_apply : AllSound C0 T_impl_Strip_apply := .cons so_slices_Clone_Sint64_int64 (.cons so_slices_Replace_Sint64_int64 (.cons so_slices_Delete_Sint64_int64 (.nil)))
noncomputable def t_impl_Strip_apply {R : Type} (kx : ((List Int) × (List Int)) → Option R) (a0 : ((List Int) × (List Int))) (a1 : (Int × Int)) : Option R :=
  Option.bind (g_slices_Clone_Sint64_int64 a0.1) fun y142 =>
  Option.bind (g_slices_Clone_Sint64_int64 a0.2) fun y143 =>
  cond (a1.1 == (2 : Int))
  (cond (decide (0 < (List.length y142)))
   (cond (decide ((1 : Int) ≤ (((List.length y142) : Nat) : Int)))
    (cond (decide (0 < (List.length y143)))
     (cond (decide ((1 : Int) ≤ (((List.length y143) : Nat) : Int)))
      (kx ((List.drop (Int.toNat (1 : Int)) (List.take (List.length y142) y142)), (List.drop (Int.toNat (1 : Int)) (List.take (List.length y143) y143))))
      (none))
     (none))
    (none))
   (none))
  (cond (a1.1 == (3 : Int))
   (cond (decide (0 < (List.length y142)))
    (cond (decide ((0 : Int) ≤ a1.2))
     (cond (decide (a1.2 ≤ (((List.length y142) : Nat) : Int)))
      (cond (decide (0 < (List.length y143)))
       (cond (decide ((0 : Int) ≤ (IntKind.wrap IntKind.i64 (a1.2 - (1 : Int)))))
        (cond (decide ((IntKind.wrap IntKind.i64 (a1.2 - (1 : Int))) ≤ (((List.length y143) : Nat) : Int)))
         (kx ((List.drop 0 (List.take (Int.toNat a1.2) y142)), (List.drop 0 (List.take (Int.toNat (IntKind.wrap IntKind.i64 (a1.2 - (1 : Int)))) y143))))
         (none))
        (none))
       (none))
      (none))
     (none))
    (none))
   (Option.bind (idx y142 (IntKind.wrap IntKind.i64 (a1.2 - (1 : Int)))) fun y144 =>
    Option.bind (idx y142 a1.2) fun y145 =>
    Option.bind (idx y142 (IntKind.wrap IntKind.i64 (a1.2 + (1 : Int)))) fun y146 =>
    cond (decide ((List.length y142) = (List.length y142)))
    (Option.bind (g_slices_Replace_Sint64_int64 y142 (IntKind.wrap IntKind.i64 (a1.2 - (1 : Int))) (IntKind.wrap IntKind.i64 (a1.2 + (2 : Int))) [(IntKind.wrap IntKind.i64 ((IntKind.wrap IntKind.i64 (y144 - y145)) + y146))]) fun y155 =>
     cond (decide ((List.length y143) = (List.length y143)))
     (Option.bind (g_slices_Delete_Sint64_int64 y143 (IntKind.wrap IntKind.i64 (a1.2 - (1 : Int))) (IntKind.wrap IntKind.i64 (a1.2 + (1 : Int)))) fun y159 =>
      kx (y155, y159))
     (none))
    (none)))
noncomputable def g_impl_Strip_apply (a0 : ((List Int) × (List Int))) (a1 : (Int × Int)) : Option (((List Int) × (List Int))) := t_impl_Strip_apply some a0 a1
theorem nat_impl_Strip_apply {R : Type} (kx : ((List Int) × (List Int)) → Option R) (a0 : ((List Int) × (List Int))) (a1 : (Int × Int)) : t_impl_Strip_apply kx a0 a1 = (g_impl_Strip_apply a0 a1).bind kx := by
  unfold g_impl_Strip_apply t_impl_Strip_apply
  exact nat_bind fun _ => nat_bind fun _ => nat_cond (nat_cond (nat_cond (nat_cond (nat_cond (rfl) (rfl)) (rfl)) (rfl)) (rfl)) (nat_cond (nat_cond (nat_cond (nat_cond (nat_cond (nat_cond (nat_cond (rfl) (rfl)) (rfl)) (rfl)) (rfl)) (rfl)) (rfl)) (nat_bind fun _ => nat_bind fun _ => nat_bind fun _ => nat_cond (nat_bind fun _ => nat_cond (nat_bind fun _ => rfl) (rfl)) (rfl)))
abbrev as_impl_Strip_apply : List AX := [.val true (.pair (.slice (.int .i64)) (.slice (.int .i64))), .val true (.pair (.int .i64) (.int .i64))]
abbrev en_impl_Strip_apply : ((List Int) × (List Int)) → AV × List CV := fun b => (.one ⟨true, [(.own (.int .i64) b.1), (.own (.int .i64) b.2)]⟩, [])
noncomputable abbrev k_impl_Strip_apply : Contract := .fx as_impl_Strip_apply (((List Int) × (List Int))) (fun z => g_impl_Strip_apply z.1 z.2.1) en_impl_Strip_apply
theorem r_impl_Strip_apply (z : argsX as_impl_Strip_apply) : runF (tab C0 T_impl_Strip_apply) noHints 1 Try.f47 (lentOf as_impl_Strip_apply) (xBoxes as_impl_Strip_apply z) (xVals as_impl_Strip_apply 0 z) K2 = t_impl_Strip_apply (fun b => some (en_impl_Strip_apply b)) z.1 z.2.1 := by kernel_rfl
theorem so_impl_Strip_apply : Sound C0 47 k_impl_Strip_apply :=
  Sound.fx a_impl_Strip_apply mixed Try.func47 (by kernel_rfl) (by kernel_rfl) noHints 1 noHints_ok (fun z => (r_impl_Strip_apply z).trans (nat_impl_Strip_apply _ z.1 z.2.1))

/-! ### F21 impl.ApplyStrip -/
noncomputable def T_impl_ApplyStrip : List (FuncId × Contract) := [(40, k_impl_ValidStrip), (46, k_impl_Strip_isPossible), (47, k_impl_Strip_apply)]
theorem a_impl_ApplyStrip : AllSound C0 T_impl_ApplyStrip := .cons so_impl_ValidStrip (.cons so_impl_Strip_isPossible (.cons so_impl_Strip_apply (.nil)))
noncomputable def t_impl_ApplyStrip {R : Type} (kx : ((List Int) × (List Int)) × Int → Option R) (a0 : ((List Int) × (List Int))) (a1 : (Int × Int)) : Option R :=
  Option.bind (g_impl_ValidStrip a0) fun y123 =>
  cond (!y123)
  (kx (([], []), (1 : Int)))
  (Option.bind (g_impl_Strip_isPossible a0 a1) fun y138 =>
   cond (!y138)
   (kx (([], []), (9 : Int)))
   (Option.bind (g_impl_Strip_apply a0 a1) fun y160 =>
    kx (y160, (0 : Int))))
noncomputable def g_impl_ApplyStrip (a0 : ((List Int) × (List Int))) (a1 : (Int × Int)) : Option (((List Int) × (List Int)) × Int) := t_impl_ApplyStrip some a0 a1
theorem nat_impl_ApplyStrip {R : Type} (kx : ((List Int) × (List Int)) × Int → Option R) (a0 : ((List Int) × (List Int))) (a1 : (Int × Int)) : t_impl_ApplyStrip kx a0 a1 = (g_impl_ApplyStrip a0 a1).bind kx := by
  unfold g_impl_ApplyStrip t_impl_ApplyStrip
  exact nat_bind fun _ => nat_cond (rfl) (nat_bind fun _ => nat_cond (rfl) (nat_bind fun _ => rfl))
abbrev as_impl_ApplyStrip : List AX := [.val true (.pair (.slice (.int .i64)) (.slice (.int .i64))), .val true (.pair (.int .i64) (.int .i64))]
abbrev en_impl_ApplyStrip : ((List Int) × (List Int)) × Int → AV × List CV := fun b => (.tup [⟨true, [(.own (.int .i64) b.1.1), (.own (.int .i64) b.1.2)]⟩, ⟨false, [(.v (.int .i64 b.2))]⟩], [])
noncomputable abbrev k_impl_ApplyStrip : Contract := .fx as_impl_ApplyStrip (((List Int) × (List Int)) × Int) (fun z => g_impl_ApplyStrip z.1 z.2.1) en_impl_ApplyStrip
theorem r_impl_ApplyStrip (z : argsX as_impl_ApplyStrip) : runF (tab C0 T_impl_ApplyStrip) noHints 1 Try.f21 (lentOf as_impl_ApplyStrip) (xBoxes as_impl_ApplyStrip z) (xVals as_impl_ApplyStrip 0 z) K2 = t_impl_ApplyStrip (fun b => some (en_impl_ApplyStrip b)) z.1 z.2.1 := by kernel_rfl
theorem so_impl_ApplyStrip : Sound C0 21 k_impl_ApplyStrip :=
  Sound.fx a_impl_ApplyStrip mixed Try.func21 (by kernel_rfl) (by kernel_rfl) noHints 1 noHints_ok (fun z => (r_impl_ApplyStrip z).trans (nat_impl_ApplyStrip _ z.1 z.2.1))

/-! ### F26 laws.eqInt64S -/
noncomputable def T_laws_eqInt64S : List (FuncId × Contract) := []
theorem a_laws_eqInt64S : AllSound C0 T_laws_eqInt64S := .nil
abbrev s_laws_eqInt64S_5 : LS := ⟨[(false, [(.sl (.int .i64))]), (false, [(.sl (.int .i64))]), (false, [(.int .i64)])], [], []⟩
abbrev e_laws_eqInt64S_5_0 : LS := ⟨[(false, [.bool])], [], []⟩
abbrev d_laws_eqInt64S_5_0 (v0 : Bool) : e_laws_eqInt64S_5_0.T := (((v0, ()), ()), (), ())
abbrev e_laws_eqInt64S_5_1 : LS := ⟨[(false, [.undef])], [], []⟩
abbrev d_laws_eqInt64S_5_1 : e_laws_eqInt64S_5_1.T := ((((), ()), ()), (), ())
abbrev x_laws_eqInt64S_5 : List (Ex × LS) := [(.ret, e_laws_eqInt64S_5_0), (.exit 0, e_laws_eqInt64S_5_1)]
abbrev m_laws_eqInt64S_5 (x0 : List Int) (x1 : List Int) (x5 : Int) : s_laws_eqInt64S_5.T := (((x0, ()), (x1, ()), (x5, ()), ()), (), ())
noncomputable def u_laws_eqInt64S_5 {R : Type} (nx : s_laws_eqInt64S_5.T → Option R) (hx : exH R x_laws_eqInt64S_5) (x0 : List Int) (x1 : List Int) (x5 : Int) : Option R :=
  cond (decide (x5 < (((List.length x0) : Nat) : Int)))
  (Option.bind (idx x0 x5) fun y169 =>
   Option.bind (idx x1 x5) fun y170 =>
   cond (y169 != y170)
   (hx.1 (d_laws_eqInt64S_5_0 Bool.false))
   (nx (m_laws_eqInt64S_5 x0 x1 (IntKind.wrap IntKind.i64 (x5 + (1 : Int))))))
  (hx.2.1 (d_laws_eqInt64S_5_1))
noncomputable def t_laws_eqInt64S_5 {R : Type} (nx : s_laws_eqInt64S_5.T → Option R) (hx : exH R x_laws_eqInt64S_5) (z : s_laws_eqInt64S_5.T) : Option R := u_laws_eqInt64S_5 nx hx z.1.1.1 z.1.2.1.1 z.1.2.2.1.1
theorem nat_laws_eqInt64S_5 : Natural @t_laws_eqInt64S_5 := fun R nx hx z => by
  show u_laws_eqInt64S_5 nx hx z.1.1.1 z.1.2.1.1 z.1.2.2.1.1 = (u_laws_eqInt64S_5 (fun y => some (.inl y)) (hIn x_laws_eqInt64S_5 fun x => some (.inr x)) z.1.1.1 z.1.2.1.1 z.1.2.2.1.1).bind (goOn nx hx)
  unfold u_laws_eqInt64S_5
  exact nat_cond (nat_bind fun _ => nat_bind fun _ => nat_cond (rfl) (rfl)) (rfl)
noncomputable def w_laws_eqInt64S_5 : s_laws_eqInt64S_5.T → Option (exT x_laws_eqInt64S_5) := wOf @t_laws_eqInt64S_5
theorem wq_laws_eqInt64S_5 (x0 : List Int) (x1 : List Int) (x5 : Int) : w_laws_eqInt64S_5 (m_laws_eqInt64S_5 x0 x1 x5) = u_laws_eqInt64S_5 w_laws_eqInt64S_5 (hIn x_laws_eqInt64S_5 some) x0 x1 x5 := wOf_eq nat_laws_eqInt64S_5 _
def lh_laws_eqInt64S_5 : LoopHint := ⟨[0, 1, 5], [], [4], []⟩
noncomputable def h_laws_eqInt64S : Hints Rv := ⟨fun k => match k with | 5 => lh_laws_eqInt64S_5 | _ => ⟨[], [], [], []⟩, fun k => match k with | 5 => some (loopX s_laws_eqInt64S_5 x_laws_eqInt64S_5 w_laws_eqInt64S_5) | _ => none⟩
theorem st_laws_eqInt64S_5 (n : Nat) (z : s_laws_eqInt64S_5.T) (k : Ex → Live → Option Rv) : loopN ⟨26, 26⟩ lh_laws_eqInt64S_5 (den (tab C0 T_laws_eqInt64S) ⟨26, 26⟩ h_laws_eqInt64S 1 (loopOf Try.f26 4)) (n + 1) (s_laws_eqInt64S_5.enc z) k =
    t_laws_eqInt64S_5 (fun y => loopN ⟨26, 26⟩ lh_laws_eqInt64S_5 (den (tab C0 T_laws_eqInt64S) ⟨26, 26⟩ h_laws_eqInt64S 1 (loopOf Try.f26 4)) n (s_laws_eqInt64S_5.enc y) k) (hK k x_laws_eqInt64S_5) z := by kernel_rfl
theorem hs_laws_eqInt64S : HintsOk (tab C0 T_laws_eqInt64S) ⟨26, 26⟩ h_laws_eqInt64S 1 (loops (codeOf Try.f26)) := by
  have hl : loops (codeOf Try.f26) = [loopOf Try.f26 4] := by kernel_rfl
  rw [hl]
  exact HintsOk.cons (n := 5) (lh := lh_laws_eqInt64S_5) (S := loopX s_laws_eqInt64S_5 x_laws_eqInt64S_5 w_laws_eqInt64S_5) (by kernel_rfl) rfl rfl (loopX_ok nat_laws_eqInt64S_5 st_laws_eqInt64S_5)
    (HintsOk.nil)
noncomputable def t_laws_eqInt64S {R : Type} (kx : Bool → Option R) (a0 : (List Int)) (a1 : (List Int)) : Option R :=
  cond ((((List.length a0) : Nat) : Int) != (((List.length a1) : Nat) : Int))
  (kx Bool.false)
  (Option.bind (w_laws_eqInt64S_5 (m_laws_eqInt64S_5 a0 a1 (0 : Int))) (exC x_laws_eqInt64S_5
   (fun e171 =>
    kx (e171.1.1.1 : Bool), fun _ =>
    kx Bool.true, ())))
noncomputable def g_laws_eqInt64S (a0 : (List Int)) (a1 : (List Int)) : Option (Bool) := t_laws_eqInt64S some a0 a1
theorem nat_laws_eqInt64S {R : Type} (kx : Bool → Option R) (a0 : (List Int)) (a1 : (List Int)) : t_laws_eqInt64S kx a0 a1 = (g_laws_eqInt64S a0 a1).bind kx := by
  unfold g_laws_eqInt64S t_laws_eqInt64S
  exact nat_cond (rfl) (nat_exC ⟨fun _ => rfl, fun _ => rfl, trivial⟩)
abbrev as_laws_eqInt64S : List AX := [.val false (.slice (.int .i64)), .val false (.slice (.int .i64))]
abbrev en_laws_eqInt64S : Bool → AV × List CV := fun b => (.one ⟨false, [(.v (.bool b))]⟩, [])
noncomputable abbrev k_laws_eqInt64S : Contract := .fx as_laws_eqInt64S (Bool) (fun z => g_laws_eqInt64S z.1 z.2.1) en_laws_eqInt64S
theorem r_laws_eqInt64S (z : argsX as_laws_eqInt64S) : runF (tab C0 T_laws_eqInt64S) h_laws_eqInt64S 1 Try.f26 (lentOf as_laws_eqInt64S) (xBoxes as_laws_eqInt64S z) (xVals as_laws_eqInt64S 0 z) K2 = t_laws_eqInt64S (fun b => some (en_laws_eqInt64S b)) z.1 z.2.1 := by kernel_rfl
theorem so_laws_eqInt64S : Sound C0 26 k_laws_eqInt64S :=
  Sound.fx a_laws_eqInt64S mixed Try.func26 (by kernel_rfl) (by kernel_rfl) h_laws_eqInt64S 1 hs_laws_eqInt64S (fun z => (r_laws_eqInt64S z).trans (nat_laws_eqInt64S _ z.1 z.2.1))

/-! ### F15 laws.eqStrip -/
noncomputable def T_laws_eqStrip : List (FuncId × Contract) := [(26, k_laws_eqInt64S)]
theorem a_laws_eqStrip : AllSound C0 T_laws_eqStrip := .cons so_laws_eqInt64S (.nil)
noncomputable def t_laws_eqStrip {R : Type} (kx : Bool → Option R) (a0 : ((List Int) × (List Int))) (a1 : ((List Int) × (List Int))) : Option R :=
  Option.bind (g_laws_eqInt64S a0.1 a1.1) fun y174 =>
  cond (!y174)
  (kx Bool.false)
  (Option.bind (g_laws_eqInt64S a0.2 a1.2) fun y175 =>
   cond (!y175)
   (kx Bool.false)
   (kx Bool.true))
noncomputable def g_laws_eqStrip (a0 : ((List Int) × (List Int))) (a1 : ((List Int) × (List Int))) : Option (Bool) := t_laws_eqStrip some a0 a1
theorem nat_laws_eqStrip {R : Type} (kx : Bool → Option R) (a0 : ((List Int) × (List Int))) (a1 : ((List Int) × (List Int))) : t_laws_eqStrip kx a0 a1 = (g_laws_eqStrip a0 a1).bind kx := by
  unfold g_laws_eqStrip t_laws_eqStrip
  exact nat_bind fun _ => nat_cond (rfl) (nat_bind fun _ => nat_cond (rfl) (rfl))
abbrev as_laws_eqStrip : List AX := [.val true (.pair (.slice (.int .i64)) (.slice (.int .i64))), .val true (.pair (.slice (.int .i64)) (.slice (.int .i64)))]
abbrev en_laws_eqStrip : Bool → AV × List CV := fun b => (.one ⟨false, [(.v (.bool b))]⟩, [])
noncomputable abbrev k_laws_eqStrip : Contract := .fx as_laws_eqStrip (Bool) (fun z => g_laws_eqStrip z.1 z.2.1) en_laws_eqStrip
theorem r_laws_eqStrip (z : argsX as_laws_eqStrip) : runF (tab C0 T_laws_eqStrip) noHints 1 Try.f15 (lentOf as_laws_eqStrip) (xBoxes as_laws_eqStrip z) (xVals as_laws_eqStrip 0 z) K2 = t_laws_eqStrip (fun b => some (en_laws_eqStrip b)) z.1 z.2.1 := by kernel_rfl
theorem so_laws_eqStrip : Sound C0 15 k_laws_eqStrip :=
  Sound.fx a_laws_eqStrip mixed Try.func15 (by kernel_rfl) (by kernel_rfl) noHints 1 noHints_ok (fun z => (r_laws_eqStrip z).trans (nat_laws_eqStrip _ z.1 z.2.1))

/-! ### F43 laws.markInt64S -/
noncomputable def T_laws_markInt64S : List (FuncId × Contract) := []
theorem a_laws_markInt64S : AllSound C0 T_laws_markInt64S := .nil
abbrev s_laws_markInt64S_3 : LS := ⟨[(false, [(.view (.arg 0) true 0 (.int .i64))]), (false, [(.int .i64)]), (false, [(.int .i64)])], [], [(.own (.int .i64))]⟩
abbrev e_laws_markInt64S_3_0 : LS := ⟨[(false, [(.int .i64)])], [], [(.own (.int .i64))]⟩
abbrev d_laws_markInt64S_3_0 (v0 : Int) (v1 : List Int) : e_laws_markInt64S_3_0.T := (((v0, ()), ()), (), (v1, ()))
abbrev x_laws_markInt64S_3 : List (Ex × LS) := [(.exit 0, e_laws_markInt64S_3_0)]
abbrev m_laws_markInt64S_3 (x0 : List Int) (x1 : Int) (x5 : Int) (o : List Int) : s_laws_markInt64S_3.T := (((x0, ()), (x1, ()), (x5, ()), ()), (), (o, ()))
noncomputable def u_laws_markInt64S_3 {R : Type} (nx : s_laws_markInt64S_3.T → Option R) (hx : exH R x_laws_markInt64S_3) (x0 : List Int) (x1 : Int) (x5 : Int) (o : List Int) : Option R :=
  cond (decide (x5 < (((List.length x0) : Nat) : Int)))
  (Option.bind (idx x0 x5) fun _ =>
   nx (m_laws_markInt64S_3 (List.set x0 (0 + (Int.toNat x5)) x1) (IntKind.wrap IntKind.i64 (x1 + (1 : Int))) (IntKind.wrap IntKind.i64 (x5 + (1 : Int))) (List.set o (0 + (Int.toNat x5)) x1)))
  (hx.1 (d_laws_markInt64S_3_0 x1 o))
noncomputable def t_laws_markInt64S_3 {R : Type} (nx : s_laws_markInt64S_3.T → Option R) (hx : exH R x_laws_markInt64S_3) (z : s_laws_markInt64S_3.T) : Option R := u_laws_markInt64S_3 nx hx z.1.1.1 z.1.2.1.1 z.1.2.2.1.1 z.2.2.1
theorem nat_laws_markInt64S_3 : Natural @t_laws_markInt64S_3 := fun R nx hx z => by
  show u_laws_markInt64S_3 nx hx z.1.1.1 z.1.2.1.1 z.1.2.2.1.1 z.2.2.1 = (u_laws_markInt64S_3 (fun y => some (.inl y)) (hIn x_laws_markInt64S_3 fun x => some (.inr x)) z.1.1.1 z.1.2.1.1 z.1.2.2.1.1 z.2.2.1).bind (goOn nx hx)
  unfold u_laws_markInt64S_3
  exact nat_cond (nat_bind fun _ => rfl) (rfl)
noncomputable def w_laws_markInt64S_3 : s_laws_markInt64S_3.T → Option (exT x_laws_markInt64S_3) := wOf @t_laws_markInt64S_3
theorem wq_laws_markInt64S_3 (x0 : List Int) (x1 : Int) (x5 : Int) (o : List Int) : w_laws_markInt64S_3 (m_laws_markInt64S_3 x0 x1 x5 o) = u_laws_markInt64S_3 w_laws_markInt64S_3 (hIn x_laws_markInt64S_3 some) x0 x1 x5 o := wOf_eq nat_laws_markInt64S_3 _
def lh_laws_markInt64S_3 : LoopHint := ⟨[0, 1, 5], [], [1], []⟩
noncomputable def h_laws_markInt64S : Hints Rv := ⟨fun k => match k with | 3 => lh_laws_markInt64S_3 | _ => ⟨[], [], [], []⟩, fun k => match k with | 3 => some (loopX s_laws_markInt64S_3 x_laws_markInt64S_3 w_laws_markInt64S_3) | _ => none⟩
theorem st_laws_markInt64S_3 (n : Nat) (z : s_laws_markInt64S_3.T) (k : Ex → Live → Option Rv) : loopN ⟨19, 19⟩ lh_laws_markInt64S_3 (den (tab C0 T_laws_markInt64S) ⟨19, 19⟩ h_laws_markInt64S 1 (loopOf Try.f43 2)) (n + 1) (s_laws_markInt64S_3.enc z) k =
    t_laws_markInt64S_3 (fun y => loopN ⟨19, 19⟩ lh_laws_markInt64S_3 (den (tab C0 T_laws_markInt64S) ⟨19, 19⟩ h_laws_markInt64S 1 (loopOf Try.f43 2)) n (s_laws_markInt64S_3.enc y) k) (hK k x_laws_markInt64S_3) z := by kernel_rfl
theorem hs_laws_markInt64S : HintsOk (tab C0 T_laws_markInt64S) ⟨19, 19⟩ h_laws_markInt64S 1 (loops (codeOf Try.f43)) := by
  have hl : loops (codeOf Try.f43) = [loopOf Try.f43 2] := by kernel_rfl
  rw [hl]
  exact HintsOk.cons (n := 3) (lh := lh_laws_markInt64S_3) (S := loopX s_laws_markInt64S_3 x_laws_markInt64S_3 w_laws_markInt64S_3) (by kernel_rfl) rfl rfl (loopX_ok nat_laws_markInt64S_3 st_laws_markInt64S_3)
    (HintsOk.nil)
noncomputable def t_laws_markInt64S {R : Type} (kx : Int × (List Int) → Option R) (a0 : List Int) (a1 : Int) : Option R :=
  Option.bind (w_laws_markInt64S_3 (m_laws_markInt64S_3 a0 a1 (0 : Int) a0)) (exC x_laws_markInt64S_3
  (fun e189 =>
   kx ((e189.1.1.1 : Int), (e189.2.2.1 : List Int)), ()))
noncomputable def g_laws_markInt64S (a0 : List Int) (a1 : Int) : Option (Int × (List Int)) := t_laws_markInt64S some a0 a1
theorem nat_laws_markInt64S {R : Type} (kx : Int × (List Int) → Option R) (a0 : List Int) (a1 : Int) : t_laws_markInt64S kx a0 a1 = (g_laws_markInt64S a0 a1).bind kx := by
  unfold g_laws_markInt64S t_laws_markInt64S
  exact nat_exC ⟨fun _ => rfl, trivial⟩
abbrev as_laws_markInt64S : List AX := [.io (.int .i64), .val false (.int .i64)]
abbrev en_laws_markInt64S : Int × (List Int) → AV × List CV := fun b => (.one ⟨false, [(.v (.int .i64 b.1))]⟩, [(.own (.int .i64) b.2)])
noncomputable abbrev k_laws_markInt64S : Contract := .fx as_laws_markInt64S (Int × (List Int)) (fun z => g_laws_markInt64S z.1 z.2.1) en_laws_markInt64S
theorem r_laws_markInt64S (z : argsX as_laws_markInt64S) : runF (tab C0 T_laws_markInt64S) h_laws_markInt64S 1 Try.f43 (lentOf as_laws_markInt64S) (xBoxes as_laws_markInt64S z) (xVals as_laws_markInt64S 0 z) K2 = t_laws_markInt64S (fun b => some (en_laws_markInt64S b)) z.1 z.2.1 := by kernel_rfl
theorem so_laws_markInt64S : Sound C0 43 k_laws_markInt64S :=
  Sound.fx a_laws_markInt64S mixed Try.func43 (by kernel_rfl) (by kernel_rfl) h_laws_markInt64S 1 hs_laws_markInt64S (fun z => (r_laws_markInt64S z).trans (nat_laws_markInt64S _ z.1 z.2.1))

/-! ### F16 laws.markStrip -/
noncomputable def T_laws_markStrip : List (FuncId × Contract) := [(43, k_laws_markInt64S)]
theorem a_laws_markStrip : AllSound C0 T_laws_markStrip := .cons so_laws_markInt64S (.nil)
noncomputable def t_laws_markStrip {R : Type} (kx : Int × (List Int) × (List Int) → Option R) (a0_0 : List Int) (a0_1 : List Int) (a1 : Int) : Option R :=
  cond (decide ((List.length a0_0) = (List.length a0_0)))
  (Option.bind (g_laws_markInt64S a0_0 a1) fun y192 =>
   cond (decide ((List.length a0_0) = (List.length a0_0)))
   (cond (decide ((List.length a0_0) = (List.length a0_0)))
    (cond (decide ((List.length a0_1) = (List.length a0_1)))
     (Option.bind (g_laws_markInt64S a0_1 y192.1) fun y193 =>
      cond (decide ((List.length a0_1) = (List.length a0_1)))
      (cond (decide ((List.length a0_1) = (List.length a0_1)))
       (kx (y193.1, (y192.2, y193.2)))
       (none))
      (none))
     (none))
    (none))
   (none))
  (none)
noncomputable def g_laws_markStrip (a0_0 : List Int) (a0_1 : List Int) (a1 : Int) : Option (Int × (List Int) × (List Int)) := t_laws_markStrip some a0_0 a0_1 a1
theorem nat_laws_markStrip {R : Type} (kx : Int × (List Int) × (List Int) → Option R) (a0_0 : List Int) (a0_1 : List Int) (a1 : Int) : t_laws_markStrip kx a0_0 a0_1 a1 = (g_laws_markStrip a0_0 a0_1 a1).bind kx := by
  unfold g_laws_markStrip t_laws_markStrip
  exact nat_cond (nat_bind fun _ => nat_cond (nat_cond (nat_cond (nat_bind fun _ => nat_cond (nat_cond (rfl) (rfl)) (rfl)) (rfl)) (rfl)) (rfl)) (rfl)
abbrev as_laws_markStrip : List AX := [.ios true [(.int .i64), (.int .i64)], .val false (.int .i64)]
abbrev en_laws_markStrip : Int × (List Int) × (List Int) → AV × List CV := fun b => (.one ⟨false, [(.v (.int .i64 b.1))]⟩, [(.own (.int .i64) b.2.1), (.own (.int .i64) b.2.2)])
noncomputable abbrev k_laws_markStrip : Contract := .fx as_laws_markStrip (Int × (List Int) × (List Int)) (fun z => g_laws_markStrip z.1.1 z.1.2.1 z.2.1) en_laws_markStrip
theorem r_laws_markStrip (z : argsX as_laws_markStrip) : runF (tab C0 T_laws_markStrip) noHints 1 Try.f16 (lentOf as_laws_markStrip) (xBoxes as_laws_markStrip z) (xVals as_laws_markStrip 0 z) K2 = t_laws_markStrip (fun b => some (en_laws_markStrip b)) z.1.1 z.1.2.1 z.2.1 := by kernel_rfl
theorem so_laws_markStrip : Sound C0 16 k_laws_markStrip :=
  Sound.fx a_laws_markStrip mixed Try.func16 (by kernel_rfl) (by kernel_rfl) noHints 1 noHints_ok (fun z => (r_laws_markStrip z).trans (nat_laws_markStrip _ z.1.1 z.1.2.1 z.2.1))

/-! ### F48 laws.heldInt64S -/
noncomputable def T_laws_heldInt64S : List (FuncId × Contract) := []
theorem a_laws_heldInt64S : AllSound C0 T_laws_heldInt64S := .nil
abbrev s_laws_heldInt64S_3 : LS := ⟨[(false, [(.sl (.int .i64))]), (false, [(.int .i64)]), (false, [(.int .i64)])], [], []⟩
abbrev e_laws_heldInt64S_3_0 : LS := ⟨[(false, [(.int .i64)]), (false, [(.int .i64)])], [], []⟩
abbrev d_laws_heldInt64S_3_0 (v0 : Int) (v1 : Int) : e_laws_heldInt64S_3_0.T := (((v0, ()), (v1, ()), ()), (), ())
abbrev e_laws_heldInt64S_3_1 : LS := ⟨[(false, [(.int .i64)]), (false, [.undef])], [], []⟩
abbrev d_laws_heldInt64S_3_1 (v0 : Int) : e_laws_heldInt64S_3_1.T := (((v0, ()), ((), ()), ()), (), ())
abbrev x_laws_heldInt64S_3 : List (Ex × LS) := [(.ret, e_laws_heldInt64S_3_0), (.exit 0, e_laws_heldInt64S_3_1)]
abbrev m_laws_heldInt64S_3 (x0 : List Int) (x1 : Int) (x5 : Int) : s_laws_heldInt64S_3.T := (((x0, ()), (x1, ()), (x5, ()), ()), (), ())
noncomputable def u_laws_heldInt64S_3 {R : Type} (nx : s_laws_heldInt64S_3.T → Option R) (hx : exH R x_laws_heldInt64S_3) (x0 : List Int) (x1 : Int) (x5 : Int) : Option R :=
  cond (decide (x5 < (((List.length x0) : Nat) : Int)))
  (Option.bind (idx x0 x5) fun y204 =>
   cond (y204 != x1)
   (hx.1 (d_laws_heldInt64S_3_0 x1 (-(1 : Int))))
   (nx (m_laws_heldInt64S_3 x0 (IntKind.wrap IntKind.i64 (x1 + (1 : Int))) (IntKind.wrap IntKind.i64 (x5 + (1 : Int))))))
  (hx.2.1 (d_laws_heldInt64S_3_1 x1))
noncomputable def t_laws_heldInt64S_3 {R : Type} (nx : s_laws_heldInt64S_3.T → Option R) (hx : exH R x_laws_heldInt64S_3) (z : s_laws_heldInt64S_3.T) : Option R := u_laws_heldInt64S_3 nx hx z.1.1.1 z.1.2.1.1 z.1.2.2.1.1
theorem nat_laws_heldInt64S_3 : Natural @t_laws_heldInt64S_3 := fun R nx hx z => by
  show u_laws_heldInt64S_3 nx hx z.1.1.1 z.1.2.1.1 z.1.2.2.1.1 = (u_laws_heldInt64S_3 (fun y => some (.inl y)) (hIn x_laws_heldInt64S_3 fun x => some (.inr x)) z.1.1.1 z.1.2.1.1 z.1.2.2.1.1).bind (goOn nx hx)
  unfold u_laws_heldInt64S_3
  exact nat_cond (nat_bind fun _ => nat_cond (rfl) (rfl)) (rfl)
noncomputable def w_laws_heldInt64S_3 : s_laws_heldInt64S_3.T → Option (exT x_laws_heldInt64S_3) := wOf @t_laws_heldInt64S_3
theorem wq_laws_heldInt64S_3 (x0 : List Int) (x1 : Int) (x5 : Int) : w_laws_heldInt64S_3 (m_laws_heldInt64S_3 x0 x1 x5) = u_laws_heldInt64S_3 w_laws_heldInt64S_3 (hIn x_laws_heldInt64S_3 some) x0 x1 x5 := wOf_eq nat_laws_heldInt64S_3 _
def lh_laws_heldInt64S_3 : LoopHint := ⟨[0, 1, 5], [], [1, 4], []⟩
noncomputable def h_laws_heldInt64S : Hints Rv := ⟨fun k => match k with | 3 => lh_laws_heldInt64S_3 | _ => ⟨[], [], [], []⟩, fun k => match k with | 3 => some (loopX s_laws_heldInt64S_3 x_laws_heldInt64S_3 w_laws_heldInt64S_3) | _ => none⟩
theorem st_laws_heldInt64S_3 (n : Nat) (z : s_laws_heldInt64S_3.T) (k : Ex → Live → Option Rv) : loopN ⟨21, 21⟩ lh_laws_heldInt64S_3 (den (tab C0 T_laws_heldInt64S) ⟨21, 21⟩ h_laws_heldInt64S 1 (loopOf Try.f48 2)) (n + 1) (s_laws_heldInt64S_3.enc z) k =
    t_laws_heldInt64S_3 (fun y => loopN ⟨21, 21⟩ lh_laws_heldInt64S_3 (den (tab C0 T_laws_heldInt64S) ⟨21, 21⟩ h_laws_heldInt64S 1 (loopOf Try.f48 2)) n (s_laws_heldInt64S_3.enc y) k) (hK k x_laws_heldInt64S_3) z := by kernel_rfl
theorem hs_laws_heldInt64S : HintsOk (tab C0 T_laws_heldInt64S) ⟨21, 21⟩ h_laws_heldInt64S 1 (loops (codeOf Try.f48)) := by
  have hl : loops (codeOf Try.f48) = [loopOf Try.f48 2] := by kernel_rfl
  rw [hl]
  exact HintsOk.cons (n := 3) (lh := lh_laws_heldInt64S_3) (S := loopX s_laws_heldInt64S_3 x_laws_heldInt64S_3 w_laws_heldInt64S_3) (by kernel_rfl) rfl rfl (loopX_ok nat_laws_heldInt64S_3 st_laws_heldInt64S_3)
    (HintsOk.nil)
noncomputable def t_laws_heldInt64S {R : Type} (kx : Int → Option R) (a0 : (List Int)) (a1 : Int) : Option R :=
  Option.bind (w_laws_heldInt64S_3 (m_laws_heldInt64S_3 a0 a1 (0 : Int))) (exC x_laws_heldInt64S_3
  (fun e205 =>
   kx (e205.1.2.1.1 : Int), fun e208 =>
   kx (e208.1.1.1 : Int), ()))
noncomputable def g_laws_heldInt64S (a0 : (List Int)) (a1 : Int) : Option (Int) := t_laws_heldInt64S some a0 a1
theorem nat_laws_heldInt64S {R : Type} (kx : Int → Option R) (a0 : (List Int)) (a1 : Int) : t_laws_heldInt64S kx a0 a1 = (g_laws_heldInt64S a0 a1).bind kx := by
  unfold g_laws_heldInt64S t_laws_heldInt64S
  exact nat_exC ⟨fun _ => rfl, fun _ => rfl, trivial⟩
abbrev as_laws_heldInt64S : List AX := [.val false (.slice (.int .i64)), .val false (.int .i64)]
abbrev en_laws_heldInt64S : Int → AV × List CV := fun b => (.one ⟨false, [(.v (.int .i64 b))]⟩, [])
noncomputable abbrev k_laws_heldInt64S : Contract := .fx as_laws_heldInt64S (Int) (fun z => g_laws_heldInt64S z.1 z.2.1) en_laws_heldInt64S
theorem r_laws_heldInt64S (z : argsX as_laws_heldInt64S) : runF (tab C0 T_laws_heldInt64S) h_laws_heldInt64S 1 Try.f48 (lentOf as_laws_heldInt64S) (xBoxes as_laws_heldInt64S z) (xVals as_laws_heldInt64S 0 z) K2 = t_laws_heldInt64S (fun b => some (en_laws_heldInt64S b)) z.1 z.2.1 := by kernel_rfl
theorem so_laws_heldInt64S : Sound C0 48 k_laws_heldInt64S :=
  Sound.fx a_laws_heldInt64S mixed Try.func48 (by kernel_rfl) (by kernel_rfl) h_laws_heldInt64S 1 hs_laws_heldInt64S (fun z => (r_laws_heldInt64S z).trans (nat_laws_heldInt64S _ z.1 z.2.1))

/-! ### F22 laws.heldStrip -/
noncomputable def T_laws_heldStrip : List (FuncId × Contract) := [(48, k_laws_heldInt64S)]
theorem a_laws_heldStrip : AllSound C0 T_laws_heldStrip := .cons so_laws_heldInt64S (.nil)
noncomputable def t_laws_heldStrip {R : Type} (kx : Int → Option R) (a0 : ((List Int) × (List Int))) (a1 : Int) : Option R :=
  Option.bind (g_laws_heldInt64S a0.1 a1) fun y210 =>
  cond (decide (y210 < (0 : Int)))
  (kx (-(1 : Int)))
  (Option.bind (g_laws_heldInt64S a0.2 y210) fun y211 =>
   cond (decide (y211 < (0 : Int)))
   (kx (-(1 : Int)))
   (kx y211))
noncomputable def g_laws_heldStrip (a0 : ((List Int) × (List Int))) (a1 : Int) : Option (Int) := t_laws_heldStrip some a0 a1
theorem nat_laws_heldStrip {R : Type} (kx : Int → Option R) (a0 : ((List Int) × (List Int))) (a1 : Int) : t_laws_heldStrip kx a0 a1 = (g_laws_heldStrip a0 a1).bind kx := by
  unfold g_laws_heldStrip t_laws_heldStrip
  exact nat_bind fun _ => nat_cond (rfl) (nat_bind fun _ => nat_cond (rfl) (rfl))
abbrev as_laws_heldStrip : List AX := [.val true (.pair (.slice (.int .i64)) (.slice (.int .i64))), .val false (.int .i64)]
abbrev en_laws_heldStrip : Int → AV × List CV := fun b => (.one ⟨false, [(.v (.int .i64 b))]⟩, [])
noncomputable abbrev k_laws_heldStrip : Contract := .fx as_laws_heldStrip (Int) (fun z => g_laws_heldStrip z.1 z.2.1) en_laws_heldStrip
theorem r_laws_heldStrip (z : argsX as_laws_heldStrip) : runF (tab C0 T_laws_heldStrip) noHints 1 Try.f22 (lentOf as_laws_heldStrip) (xBoxes as_laws_heldStrip z) (xVals as_laws_heldStrip 0 z) K2 = t_laws_heldStrip (fun b => some (en_laws_heldStrip b)) z.1 z.2.1 := by kernel_rfl
theorem so_laws_heldStrip : Sound C0 22 k_laws_heldStrip :=
  Sound.fx a_laws_heldStrip mixed Try.func22 (by kernel_rfl) (by kernel_rfl) noHints 1 noHints_ok (fun z => (r_laws_heldStrip z).trans (nat_laws_heldStrip _ z.1 z.2.1))

/-! ### F4 laws.FnExactApplyStrip -/
noncomputable def T_laws_FnExactApplyStrip : List (FuncId × Contract) := [(10, k_laws_szStrip), (12, k_laws_toStrip), (20, k_laws_toStripStep), (19, k_spec_ApplyStrip), (21, k_impl_ApplyStrip), (15, k_laws_eqStrip), (16, k_laws_markStrip), (22, k_laws_heldStrip)]
theorem a_laws_FnExactApplyStrip : AllSound C0 T_laws_FnExactApplyStrip := .cons so_laws_szStrip (.cons so_laws_toStrip (.cons so_laws_toStripStep (.cons so_spec_ApplyStrip (.cons so_impl_ApplyStrip (.cons so_laws_eqStrip (.cons so_laws_markStrip (.cons so_laws_heldStrip (.nil))))))))
noncomputable def t_laws_FnExactApplyStrip {R : Type} (kx : Bool → Option R) (a0 : ((List Int) × (List Int))) (a1 : (Int × Int)) : Option R :=
  Option.bind (g_laws_szStrip a0 (1048576 : Int)) fun y8 =>
  cond (decide (y8 < (0 : Int)))
  (kx Bool.true)
  (Option.bind (g_laws_toStrip a0) fun y20 =>
   Option.bind (g_laws_toStripStep a1) fun y22 =>
   Option.bind (g_spec_ApplyStrip y20 y22) fun y72 =>
   Option.bind (g_laws_toStrip a0) fun y73 =>
   Option.bind (g_laws_toStripStep a1) fun y74 =>
   Option.bind (g_impl_ApplyStrip y73 y74) fun y161 =>
   Option.bind (g_laws_eqStrip y161.1 y72.1) fun y176 =>
   cond (!y176)
   (kx Bool.false)
   (cond (y161.2 != y72.2)
    (kx Bool.false)
    (Option.bind (g_laws_toStrip a0) fun y177 =>
     Option.bind (g_laws_eqStrip y73 y177) fun y178 =>
     cond (!y178)
     (kx Bool.false)
     (cond (decide ((List.length y73.1) = (List.length y73.1)))
      (cond (decide ((List.length y73.2) = (List.length y73.2)))
       (Option.bind (g_laws_markStrip y73.1 y73.2 (1 : Int)) fun y194 =>
        cond (decide (y194.1 < (0 : Int)))
        (kx Bool.false)
        (Option.bind (g_laws_eqStrip y161.1 y72.1) fun y195 =>
         cond (!y195)
         (kx Bool.false)
         (cond (y161.2 != y72.2)
          (kx Bool.false)
          (cond (decide ((List.length y161.1.1) = (List.length y161.1.1)))
           (cond (decide ((List.length y161.1.2) = (List.length y161.1.2)))
            (Option.bind (g_laws_markStrip y161.1.1 y161.1.2 (1 : Int)) fun y196 =>
             Option.bind (g_laws_heldStrip y196.2 (1 : Int)) fun y212 =>
             cond (decide (y212 < (0 : Int)))
             (kx Bool.false)
             (cond (y212 != y196.1)
              (kx Bool.false)
              (Option.bind (g_laws_toStrip a0) fun y213 =>
               Option.bind (g_laws_toStripStep a1) fun y214 =>
               Option.bind (g_impl_ApplyStrip y213 y214) fun y215 =>
               Option.bind (g_laws_eqStrip y215.1 y72.1) fun y216 =>
               cond (!y216)
               (kx Bool.false)
               (cond (y215.2 != y72.2)
                (kx Bool.false)
                (Option.bind (g_laws_heldStrip y196.2 (1 : Int)) fun y217 =>
                 cond (decide (y217 < (0 : Int)))
                 (kx Bool.false)
                 (cond (y217 != y196.1)
                  (kx Bool.false)
                  (kx Bool.true)))))))
            (none))
           (none)))))
       (none))
      (none)))))
noncomputable def g_laws_FnExactApplyStrip (a0 : ((List Int) × (List Int))) (a1 : (Int × Int)) : Option (Bool) := t_laws_FnExactApplyStrip some a0 a1
theorem nat_laws_FnExactApplyStrip {R : Type} (kx : Bool → Option R) (a0 : ((List Int) × (List Int))) (a1 : (Int × Int)) : t_laws_FnExactApplyStrip kx a0 a1 = (g_laws_FnExactApplyStrip a0 a1).bind kx := by
  unfold g_laws_FnExactApplyStrip t_laws_FnExactApplyStrip
  exact nat_bind fun _ => nat_cond (rfl) (nat_bind fun _ => nat_bind fun _ => nat_bind fun _ => nat_bind fun _ => nat_bind fun _ => nat_bind fun _ => nat_bind fun _ => nat_cond (rfl) (nat_cond (rfl) (nat_bind fun _ => nat_bind fun _ => nat_cond (rfl) (nat_cond (nat_cond (nat_bind fun _ => nat_cond (rfl) (nat_bind fun _ => nat_cond (rfl) (nat_cond (rfl) (nat_cond (nat_cond (nat_bind fun _ => nat_bind fun _ => nat_cond (rfl) (nat_cond (rfl) (nat_bind fun _ => nat_bind fun _ => nat_bind fun _ => nat_bind fun _ => nat_cond (rfl) (nat_cond (rfl) (nat_bind fun _ => nat_cond (rfl) (nat_cond (rfl) (rfl))))))) (rfl)) (rfl))))) (rfl)) (rfl)))))
abbrev as_laws_FnExactApplyStrip : List AX := [.val true (.pair (.slice (.int .i64)) (.slice (.int .i64))), .val true (.pair (.int .i64) (.int .i64))]
abbrev en_laws_FnExactApplyStrip : Bool → AV × List CV := fun b => (.one ⟨false, [(.v (.bool b))]⟩, [])
noncomputable abbrev k_laws_FnExactApplyStrip : Contract := .fx as_laws_FnExactApplyStrip (Bool) (fun z => g_laws_FnExactApplyStrip z.1 z.2.1) en_laws_FnExactApplyStrip
theorem r_laws_FnExactApplyStrip (z : argsX as_laws_FnExactApplyStrip) : runF (tab C0 T_laws_FnExactApplyStrip) noHints 1 Try.f4 (lentOf as_laws_FnExactApplyStrip) (xBoxes as_laws_FnExactApplyStrip z) (xVals as_laws_FnExactApplyStrip 0 z) K2 = t_laws_FnExactApplyStrip (fun b => some (en_laws_FnExactApplyStrip b)) z.1 z.2.1 := by kernel_rfl
theorem so_laws_FnExactApplyStrip : Sound C0 4 k_laws_FnExactApplyStrip :=
  Sound.fx a_laws_FnExactApplyStrip mixed Try.func4 (by kernel_rfl) (by kernel_rfl) noHints 1 noHints_ok (fun z => (r_laws_FnExactApplyStrip z).trans (nat_laws_FnExactApplyStrip _ z.1 z.2.1))

end Go.Proofs.Ytpabholjoblkbaa
