/- What the functions that StripPlaces reaches compute, printed. No conditions. -/
import Derived.Test.YtnpejkbnepncfaaW1
namespace Go.Proofs.Ytnpejkbnepncfaa
open Go.Vai
set_option maxRecDepth 100000

/-! ### F32 laws.szInt64S -/
noncomputable def T_laws_szInt64S : List (FuncId × Contract) := []
theorem a_laws_szInt64S : AllSound C0 T_laws_szInt64S := .nil
noncomputable def t_laws_szInt64S {R : Type} (kx : Int → Option R) (a0 : (List Int)) (a1 : Int) : Option R :=
  cond (decide ((IntKind.wrap IntKind.i64 (a1 - (((List.length a0) : Nat) : Int))) < (0 : Int)))
  (kx (-(1 : Int)))
  (kx (IntKind.wrap IntKind.i64 (a1 - (((List.length a0) : Nat) : Int))))
noncomputable def g_laws_szInt64S (a0 : (List Int)) (a1 : Int) : Option (Int) := t_laws_szInt64S some a0 a1
theorem nat_laws_szInt64S {R : Type} (kx : Int → Option R) (a0 : (List Int)) (a1 : Int) : t_laws_szInt64S kx a0 a1 = (g_laws_szInt64S a0 a1).bind kx := by
  unfold g_laws_szInt64S t_laws_szInt64S
  exact nat_cond (rfl) (rfl)
abbrev as_laws_szInt64S : List AX := [.val false (.slice (.int .i64)), .val false (.int .i64)]
abbrev en_laws_szInt64S : Int → AV × List CV := fun b => (.one ⟨false, [(.v (.int .i64 b))]⟩, [])
noncomputable abbrev k_laws_szInt64S : Contract := .fx as_laws_szInt64S (Int) (fun z => g_laws_szInt64S z.1 z.2.1) en_laws_szInt64S
theorem r_laws_szInt64S (z : argsX as_laws_szInt64S) : runF (tab C0 T_laws_szInt64S) noHints 1 Try.f32 (lentOf as_laws_szInt64S) (xBoxes as_laws_szInt64S z) (xVals as_laws_szInt64S 0 z) K2 = t_laws_szInt64S (fun b => some (en_laws_szInt64S b)) z.1 z.2.1 := by kernel_rfl
theorem so_laws_szInt64S : Sound C0 32 k_laws_szInt64S :=
  Sound.fx a_laws_szInt64S mixed Try.func32 (by kernel_rfl) (by kernel_rfl) noHints 1 noHints_ok (fun z => (r_laws_szInt64S z).trans (nat_laws_szInt64S _ z.1 z.2.1))

/-! ### F8 laws.szStrip -/
noncomputable def T_laws_szStrip : List (FuncId × Contract) := [(32, k_laws_szInt64S)]
theorem a_laws_szStrip : AllSound C0 T_laws_szStrip := .cons so_laws_szInt64S (.nil)
noncomputable def t_laws_szStrip {R : Type} (kx : Int → Option R) (a0 : ((List Int) × (List Int))) (a1 : Int) : Option R :=
  Option.bind (g_laws_szInt64S a0.1 a1) fun y5 =>
  cond (decide (y5 < (0 : Int)))
  (kx (-(1 : Int)))
  (Option.bind (g_laws_szInt64S a0.2 y5) fun y6 =>
   cond (decide (y6 < (0 : Int)))
   (kx (-(1 : Int)))
   (kx y6))
noncomputable def g_laws_szStrip (a0 : ((List Int) × (List Int))) (a1 : Int) : Option (Int) := t_laws_szStrip some a0 a1
theorem nat_laws_szStrip {R : Type} (kx : Int → Option R) (a0 : ((List Int) × (List Int))) (a1 : Int) : t_laws_szStrip kx a0 a1 = (g_laws_szStrip a0 a1).bind kx := by
  unfold g_laws_szStrip t_laws_szStrip
  exact nat_bind fun _ => nat_cond (rfl) (nat_bind fun _ => nat_cond (rfl) (rfl))
abbrev as_laws_szStrip : List AX := [.val true (.pair (.slice (.int .i64)) (.slice (.int .i64))), .val false (.int .i64)]
abbrev en_laws_szStrip : Int → AV × List CV := fun b => (.one ⟨false, [(.v (.int .i64 b))]⟩, [])
noncomputable abbrev k_laws_szStrip : Contract := .fx as_laws_szStrip (Int) (fun z => g_laws_szStrip z.1 z.2.1) en_laws_szStrip
theorem r_laws_szStrip (z : argsX as_laws_szStrip) : runF (tab C0 T_laws_szStrip) noHints 1 Try.f8 (lentOf as_laws_szStrip) (xBoxes as_laws_szStrip z) (xVals as_laws_szStrip 0 z) K2 = t_laws_szStrip (fun b => some (en_laws_szStrip b)) z.1 z.2.1 := by kernel_rfl
theorem so_laws_szStrip : Sound C0 8 k_laws_szStrip :=
  Sound.fx a_laws_szStrip mixed Try.func8 (by kernel_rfl) (by kernel_rfl) noHints 1 noHints_ok (fun z => (r_laws_szStrip z).trans (nat_laws_szStrip _ z.1 z.2.1))

/-! ### F14 laws.toInt64S -/
noncomputable def T_laws_toInt64S : List (FuncId × Contract) := []
theorem a_laws_toInt64S : AllSound C0 T_laws_toInt64S := .nil
abbrev s_laws_toInt64S_4 : LS := ⟨[(false, [(.sl (.int .i64))]), (false, [(.own (.int .i64))]), (false, [(.int .i64)])], [], []⟩
abbrev e_laws_toInt64S_4_0 : LS := ⟨[(false, [(.own (.int .i64))])], [], []⟩
abbrev d_laws_toInt64S_4_0 (v0 : List Int) : e_laws_toInt64S_4_0.T := (((v0, ()), ()), (), ())
abbrev x_laws_toInt64S_4 : List (Ex × LS) := [(.exit 0, e_laws_toInt64S_4_0)]
abbrev m_laws_toInt64S_4 (x0 : List Int) (x3 : List Int) (x4 : Int) : s_laws_toInt64S_4.T := (((x0, ()), (x3, ()), (x4, ()), ()), (), ())
noncomputable def u_laws_toInt64S_4 {R : Type} (nx : s_laws_toInt64S_4.T → Option R) (hx : exH R x_laws_toInt64S_4) (x0 : List Int) (x3 : List Int) (x4 : Int) : Option R :=
  cond (decide (x4 < (((List.length x0) : Nat) : Int)))
  (Option.bind (idx x0 x4) fun y13 =>
   Option.bind (idx x3 x4) fun _ =>
   nx (m_laws_toInt64S_4 x0 (List.set x3 (0 + (Int.toNat x4)) y13) (IntKind.wrap IntKind.i64 (x4 + (1 : Int)))))
  (hx.1 (d_laws_toInt64S_4_0 x3))
noncomputable def t_laws_toInt64S_4 {R : Type} (nx : s_laws_toInt64S_4.T → Option R) (hx : exH R x_laws_toInt64S_4) (z : s_laws_toInt64S_4.T) : Option R := u_laws_toInt64S_4 nx hx z.1.1.1 z.1.2.1.1 z.1.2.2.1.1
theorem nat_laws_toInt64S_4 : Natural @t_laws_toInt64S_4 := fun R nx hx z => by
  show u_laws_toInt64S_4 nx hx z.1.1.1 z.1.2.1.1 z.1.2.2.1.1 = (u_laws_toInt64S_4 (fun y => some (.inl y)) (hIn x_laws_toInt64S_4 fun x => some (.inr x)) z.1.1.1 z.1.2.1.1 z.1.2.2.1.1).bind (goOn nx hx)
  unfold u_laws_toInt64S_4
  exact nat_cond (nat_bind fun _ => nat_bind fun _ => rfl) (rfl)
noncomputable def w_laws_toInt64S_4 : s_laws_toInt64S_4.T → Option (exT x_laws_toInt64S_4) := wOf @t_laws_toInt64S_4
theorem wq_laws_toInt64S_4 (x0 : List Int) (x3 : List Int) (x4 : Int) : w_laws_toInt64S_4 (m_laws_toInt64S_4 x0 x3 x4) = u_laws_toInt64S_4 w_laws_toInt64S_4 (hIn x_laws_toInt64S_4 some) x0 x3 x4 := wOf_eq nat_laws_toInt64S_4 _
def lh_laws_toInt64S_4 : LoopHint := ⟨[0, 3, 4], [], [3], []⟩
noncomputable def h_laws_toInt64S : Hints Rv := ⟨fun k => match k with | 4 => lh_laws_toInt64S_4 | _ => ⟨[], [], [], []⟩, fun k => match k with | 4 => some (loopX s_laws_toInt64S_4 x_laws_toInt64S_4 w_laws_toInt64S_4) | _ => none⟩
theorem st_laws_toInt64S_4 (n : Nat) (z : s_laws_toInt64S_4.T) (k : Ex → Live → Option Rv) : loopN ⟨22, 22⟩ lh_laws_toInt64S_4 (den (tab C0 T_laws_toInt64S) ⟨22, 22⟩ h_laws_toInt64S 1 (loopOf Try.f14 3)) (n + 1) (s_laws_toInt64S_4.enc z) k =
    t_laws_toInt64S_4 (fun y => loopN ⟨22, 22⟩ lh_laws_toInt64S_4 (den (tab C0 T_laws_toInt64S) ⟨22, 22⟩ h_laws_toInt64S 1 (loopOf Try.f14 3)) n (s_laws_toInt64S_4.enc y) k) (hK k x_laws_toInt64S_4) z := by kernel_rfl
theorem hs_laws_toInt64S : HintsOk (tab C0 T_laws_toInt64S) ⟨22, 22⟩ h_laws_toInt64S 1 (loops (codeOf Try.f14)) := by
  have hl : loops (codeOf Try.f14) = [loopOf Try.f14 3] := by kernel_rfl
  rw [hl]
  exact HintsOk.cons (n := 4) (lh := lh_laws_toInt64S_4) (S := loopX s_laws_toInt64S_4 x_laws_toInt64S_4 w_laws_toInt64S_4) (by kernel_rfl) rfl rfl (loopX_ok nat_laws_toInt64S_4 st_laws_toInt64S_4)
    (HintsOk.nil)
noncomputable def t_laws_toInt64S {R : Type} (kx : (List Int) → Option R) (a0 : (List Int)) : Option R :=
  cond (decide ((((List.length a0) : Nat) : Int) ≤ (((List.length a0) : Nat) : Int)))
  (cond (decide (((((List.length a0) : Nat) : Int) * ((8 : Nat) : Int)) ≤ (70368744177664 : Int)))
   (cond (decide ((((List.length a0) : Nat) : Int) ≤ (70368744177664 : Int)))
    (Option.bind (w_laws_toInt64S_4 (m_laws_toInt64S_4 a0 (List.replicate (Int.toNat (((List.length a0) : Nat) : Int)) (0 : Int)) (0 : Int))) (exC x_laws_toInt64S_4
     (fun e15 =>
      kx (e15.1.1.1 : List Int), ())))
    (none))
   (none))
  (none)
noncomputable def g_laws_toInt64S (a0 : (List Int)) : Option ((List Int)) := t_laws_toInt64S some a0
theorem nat_laws_toInt64S {R : Type} (kx : (List Int) → Option R) (a0 : (List Int)) : t_laws_toInt64S kx a0 = (g_laws_toInt64S a0).bind kx := by
  unfold g_laws_toInt64S t_laws_toInt64S
  exact nat_cond (nat_cond (nat_cond (nat_exC ⟨fun _ => rfl, trivial⟩) (rfl)) (rfl)) (rfl)
abbrev as_laws_toInt64S : List AX := [.val false (.slice (.int .i64))]
abbrev en_laws_toInt64S : (List Int) → AV × List CV := fun b => (.one ⟨false, [(.own (.int .i64) b)]⟩, [])
noncomputable abbrev k_laws_toInt64S : Contract := .fx as_laws_toInt64S ((List Int)) (fun z => g_laws_toInt64S z.1) en_laws_toInt64S
theorem r_laws_toInt64S (z : argsX as_laws_toInt64S) : runF (tab C0 T_laws_toInt64S) h_laws_toInt64S 1 Try.f14 (lentOf as_laws_toInt64S) (xBoxes as_laws_toInt64S z) (xVals as_laws_toInt64S 0 z) K2 = t_laws_toInt64S (fun b => some (en_laws_toInt64S b)) z.1 := by kernel_rfl
theorem so_laws_toInt64S : Sound C0 14 k_laws_toInt64S :=
  Sound.fx a_laws_toInt64S mixed Try.func14 (by kernel_rfl) (by kernel_rfl) h_laws_toInt64S 1 hs_laws_toInt64S (fun z => (r_laws_toInt64S z).trans (nat_laws_toInt64S _ z.1))

/-! ### F10 laws.toStrip -/
noncomputable def T_laws_toStrip : List (FuncId × Contract) := [(14, k_laws_toInt64S)]
theorem a_laws_toStrip : AllSound C0 T_laws_toStrip := .cons so_laws_toInt64S (.nil)
noncomputable def t_laws_toStrip {R : Type} (kx : ((List Int) × (List Int)) → Option R) (a0 : ((List Int) × (List Int))) : Option R :=
  Option.bind (g_laws_toInt64S a0.1) fun y17 =>
  Option.bind (g_laws_toInt64S a0.2) fun y18 =>
  kx (y17, y18)
noncomputable def g_laws_toStrip (a0 : ((List Int) × (List Int))) : Option (((List Int) × (List Int))) := t_laws_toStrip some a0
theorem nat_laws_toStrip {R : Type} (kx : ((List Int) × (List Int)) → Option R) (a0 : ((List Int) × (List Int))) : t_laws_toStrip kx a0 = (g_laws_toStrip a0).bind kx := by
  unfold g_laws_toStrip t_laws_toStrip
  exact nat_bind fun _ => nat_bind fun _ => rfl
abbrev as_laws_toStrip : List AX := [.val true (.pair (.slice (.int .i64)) (.slice (.int .i64)))]
abbrev en_laws_toStrip : ((List Int) × (List Int)) → AV × List CV := fun b => (.one ⟨true, [(.own (.int .i64) b.1), (.own (.int .i64) b.2)]⟩, [])
noncomputable abbrev k_laws_toStrip : Contract := .fx as_laws_toStrip (((List Int) × (List Int))) (fun z => g_laws_toStrip z.1) en_laws_toStrip
theorem r_laws_toStrip (z : argsX as_laws_toStrip) : runF (tab C0 T_laws_toStrip) noHints 1 Try.f10 (lentOf as_laws_toStrip) (xBoxes as_laws_toStrip z) (xVals as_laws_toStrip 0 z) K2 = t_laws_toStrip (fun b => some (en_laws_toStrip b)) z.1 := by kernel_rfl
theorem so_laws_toStrip : Sound C0 10 k_laws_toStrip :=
  Sound.fx a_laws_toStrip mixed Try.func10 (by kernel_rfl) (by kernel_rfl) noHints 1 noHints_ok (fun z => (r_laws_toStrip z).trans (nat_laws_toStrip _ z.1))

/-! ### F56 spec.l00In -/
noncomputable def T_spec_l00In : List (FuncId × Contract) := []
theorem a_spec_l00In : AllSound C0 T_spec_l00In := .nil
noncomputable def t_spec_l00In {R : Type} (kx : Bool → Option R) (a0 : Int) (a1 : Int) (a2 : Int) : Option R :=
  cond (decide (a0 ≥ a1))
  (kx (decide (a0 ≤ a2)))
  (kx Bool.false)
noncomputable def g_spec_l00In (a0 : Int) (a1 : Int) (a2 : Int) : Option (Bool) := t_spec_l00In some a0 a1 a2
theorem nat_spec_l00In {R : Type} (kx : Bool → Option R) (a0 : Int) (a1 : Int) (a2 : Int) : t_spec_l00In kx a0 a1 a2 = (g_spec_l00In a0 a1 a2).bind kx := by
  unfold g_spec_l00In t_spec_l00In
  exact nat_cond (rfl) (rfl)
abbrev as_spec_l00In : List AX := [.val false (.int .i64), .val false (.int .i64), .val false (.int .i64)]
abbrev en_spec_l00In : Bool → AV × List CV := fun b => (.one ⟨false, [(.v (.bool b))]⟩, [])
noncomputable abbrev k_spec_l00In : Contract := .fx as_spec_l00In (Bool) (fun z => g_spec_l00In z.1 z.2.1 z.2.2.1) en_spec_l00In
theorem r_spec_l00In (z : argsX as_spec_l00In) : runF (tab C0 T_spec_l00In) noHints 1 Try.f56 (lentOf as_spec_l00In) (xBoxes as_spec_l00In z) (xVals as_spec_l00In 0 z) K2 = t_spec_l00In (fun b => some (en_spec_l00In b)) z.1 z.2.1 z.2.2.1 := by kernel_rfl
theorem so_spec_l00In : Sound C0 56 k_spec_l00In :=
  Sound.fx a_spec_l00In mixed Try.func56 (by kernel_rfl) (by kernel_rfl) noHints 1 noHints_ok (fun z => (r_spec_l00In z).trans (nat_spec_l00In _ z.1 z.2.1 z.2.2.1))

/-! ### F55 spec.l25Sizes -/
noncomputable def T_spec_l25Sizes : List (FuncId × Contract) := [(56, k_spec_l00In)]
theorem a_spec_l25Sizes : AllSound C0 T_spec_l25Sizes := .cons so_spec_l00In (.nil)
abbrev s_spec_l25Sizes_6 : LS := ⟨[(false, [(.sl (.int .i64))]), (false, [(.int .i64)]), (false, [(.int .i64)])], [], []⟩
abbrev e_spec_l25Sizes_6_0 : LS := ⟨[(false, [.bool]), (false, [(.int .i64)])], [], []⟩
abbrev d_spec_l25Sizes_6_0 (v0 : Bool) (v1 : Int) : e_spec_l25Sizes_6_0.T := (((v0, ()), (v1, ()), ()), (), ())
abbrev e_spec_l25Sizes_6_1 : LS := ⟨[(false, [.undef]), (false, [(.int .i64)])], [], []⟩
abbrev d_spec_l25Sizes_6_1 (v0 : Int) : e_spec_l25Sizes_6_1.T := ((((), ()), (v0, ()), ()), (), ())
abbrev x_spec_l25Sizes_6 : List (Ex × LS) := [(.ret, e_spec_l25Sizes_6_0), (.exit 0, e_spec_l25Sizes_6_1)]
abbrev m_spec_l25Sizes_6 (x0 : List Int) (x3 : Int) (x4 : Int) : s_spec_l25Sizes_6.T := (((x0, ()), (x3, ()), (x4, ()), ()), (), ())
noncomputable def u_spec_l25Sizes_6 {R : Type} (nx : s_spec_l25Sizes_6.T → Option R) (hx : exH R x_spec_l25Sizes_6) (x0 : List Int) (x3 : Int) (x4 : Int) : Option R :=
  cond (decide (x4 < (((List.length x0) : Nat) : Int)))
  (Option.bind (idx x0 x4) fun y30 =>
   Option.bind (g_spec_l00In y30 (1 : Int) (1000 : Int)) fun y31 =>
   cond (!y31)
   (hx.1 (d_spec_l25Sizes_6_0 Bool.false x3))
   (Option.bind (idx x0 x4) fun y32 =>
    nx (m_spec_l25Sizes_6 x0 (IntKind.wrap IntKind.i64 (x3 + y32)) (IntKind.wrap IntKind.i64 (x4 + (1 : Int))))))
  (hx.2.1 (d_spec_l25Sizes_6_1 x3))
noncomputable def t_spec_l25Sizes_6 {R : Type} (nx : s_spec_l25Sizes_6.T → Option R) (hx : exH R x_spec_l25Sizes_6) (z : s_spec_l25Sizes_6.T) : Option R := u_spec_l25Sizes_6 nx hx z.1.1.1 z.1.2.1.1 z.1.2.2.1.1
theorem nat_spec_l25Sizes_6 : Natural @t_spec_l25Sizes_6 := fun R nx hx z => by
  show u_spec_l25Sizes_6 nx hx z.1.1.1 z.1.2.1.1 z.1.2.2.1.1 = (u_spec_l25Sizes_6 (fun y => some (.inl y)) (hIn x_spec_l25Sizes_6 fun x => some (.inr x)) z.1.1.1 z.1.2.1.1 z.1.2.2.1.1).bind (goOn nx hx)
  unfold u_spec_l25Sizes_6
  exact nat_cond (nat_bind fun _ => nat_bind fun _ => nat_cond (rfl) (nat_bind fun _ => rfl)) (rfl)
noncomputable def w_spec_l25Sizes_6 : s_spec_l25Sizes_6.T → Option (exT x_spec_l25Sizes_6) := wOf @t_spec_l25Sizes_6
theorem wq_spec_l25Sizes_6 (x0 : List Int) (x3 : Int) (x4 : Int) : w_spec_l25Sizes_6 (m_spec_l25Sizes_6 x0 x3 x4) = u_spec_l25Sizes_6 w_spec_l25Sizes_6 (hIn x_spec_l25Sizes_6 some) x0 x3 x4 := wOf_eq nat_spec_l25Sizes_6 _
def lh_spec_l25Sizes_6 : LoopHint := ⟨[0, 3, 4], [], [2, 3], []⟩
noncomputable def h_spec_l25Sizes : Hints Rv := ⟨fun k => match k with | 6 => lh_spec_l25Sizes_6 | _ => ⟨[], [], [], []⟩, fun k => match k with | 6 => some (loopX s_spec_l25Sizes_6 x_spec_l25Sizes_6 w_spec_l25Sizes_6) | _ => none⟩
theorem st_spec_l25Sizes_6 (n : Nat) (z : s_spec_l25Sizes_6.T) (k : Ex → Live → Option Rv) : loopN ⟨29, 29⟩ lh_spec_l25Sizes_6 (den (tab C0 T_spec_l25Sizes) ⟨29, 29⟩ h_spec_l25Sizes 1 (loopOf Try.f55 5)) (n + 1) (s_spec_l25Sizes_6.enc z) k =
    t_spec_l25Sizes_6 (fun y => loopN ⟨29, 29⟩ lh_spec_l25Sizes_6 (den (tab C0 T_spec_l25Sizes) ⟨29, 29⟩ h_spec_l25Sizes 1 (loopOf Try.f55 5)) n (s_spec_l25Sizes_6.enc y) k) (hK k x_spec_l25Sizes_6) z := by kernel_rfl
theorem hs_spec_l25Sizes : HintsOk (tab C0 T_spec_l25Sizes) ⟨29, 29⟩ h_spec_l25Sizes 1 (loops (codeOf Try.f55)) := by
  have hl : loops (codeOf Try.f55) = [loopOf Try.f55 5] := by kernel_rfl
  rw [hl]
  exact HintsOk.cons (n := 6) (lh := lh_spec_l25Sizes_6) (S := loopX s_spec_l25Sizes_6 x_spec_l25Sizes_6 w_spec_l25Sizes_6) (by kernel_rfl) rfl rfl (loopX_ok nat_spec_l25Sizes_6 st_spec_l25Sizes_6)
    (HintsOk.nil)
noncomputable def t_spec_l25Sizes {R : Type} (kx : Bool → Option R) (a0 : (List Int)) : Option R :=
  Option.bind (g_spec_l00In (((List.length a0) : Nat) : Int) (1 : Int) (14 : Int)) fun y26 =>
  cond (!y26)
  (kx Bool.false)
  (Option.bind (w_spec_l25Sizes_6 (m_spec_l25Sizes_6 a0 (0 : Int) (0 : Int))) (exC x_spec_l25Sizes_6
   (fun e33 =>
    kx (e33.1.1.1 : Bool), fun e36 =>
    kx (decide ((e36.1.2.1.1 : Int) ≤ (1000 : Int))), ())))
noncomputable def g_spec_l25Sizes (a0 : (List Int)) : Option (Bool) := t_spec_l25Sizes some a0
theorem nat_spec_l25Sizes {R : Type} (kx : Bool → Option R) (a0 : (List Int)) : t_spec_l25Sizes kx a0 = (g_spec_l25Sizes a0).bind kx := by
  unfold g_spec_l25Sizes t_spec_l25Sizes
  exact nat_bind fun _ => nat_cond (rfl) (nat_exC ⟨fun _ => rfl, fun _ => rfl, trivial⟩)
abbrev as_spec_l25Sizes : List AX := [.val false (.slice (.int .i64))]
abbrev en_spec_l25Sizes : Bool → AV × List CV := fun b => (.one ⟨false, [(.v (.bool b))]⟩, [])
noncomputable abbrev k_spec_l25Sizes : Contract := .fx as_spec_l25Sizes (Bool) (fun z => g_spec_l25Sizes z.1) en_spec_l25Sizes
theorem r_spec_l25Sizes (z : argsX as_spec_l25Sizes) : runF (tab C0 T_spec_l25Sizes) h_spec_l25Sizes 1 Try.f55 (lentOf as_spec_l25Sizes) (xBoxes as_spec_l25Sizes z) (xVals as_spec_l25Sizes 0 z) K2 = t_spec_l25Sizes (fun b => some (en_spec_l25Sizes b)) z.1 := by kernel_rfl
theorem so_spec_l25Sizes : Sound C0 55 k_spec_l25Sizes :=
  Sound.fx a_spec_l25Sizes mixed Try.func55 (by kernel_rfl) (by kernel_rfl) h_spec_l25Sizes 1 hs_spec_l25Sizes (fun z => (r_spec_l25Sizes z).trans (nat_spec_l25Sizes _ z.1))

/-! ### F33 spec.l25Ok -/
noncomputable def T_spec_l25Ok : List (FuncId × Contract) := [(55, k_spec_l25Sizes), (56, k_spec_l00In)]
theorem a_spec_l25Ok : AllSound C0 T_spec_l25Ok := .cons so_spec_l25Sizes (.cons so_spec_l00In (.nil))
abbrev s_spec_l25Ok_5 : LS := ⟨[(false, [(.ptr 42 0)]), (false, [(.int .i64)])], [(true, [(.sl (.int .i64)), (.sl (.int .i64))])], []⟩
abbrev e_spec_l25Ok_5_0 : LS := ⟨[(false, [.bool])], [], []⟩
abbrev d_spec_l25Ok_5_0 (v0 : Bool) : e_spec_l25Ok_5_0.T := (((v0, ()), ()), (), ())
abbrev e_spec_l25Ok_5_1 : LS := ⟨[(false, [.undef])], [], []⟩
abbrev d_spec_l25Ok_5_1 : e_spec_l25Ok_5_1.T := ((((), ()), ()), (), ())
abbrev x_spec_l25Ok_5 : List (Ex × LS) := [(.ret, e_spec_l25Ok_5_0), (.exit 0, e_spec_l25Ok_5_1)]
abbrev m_spec_l25Ok_5 (x3 : Int) (b0_0 : List Int) (b0_1 : List Int) : s_spec_l25Ok_5.T := ((((), ()), (x3, ()), ()), ((b0_0, b0_1, ()), ()), ())
noncomputable def u_spec_l25Ok_5 {R : Type} (nx : s_spec_l25Ok_5.T → Option R) (hx : exH R x_spec_l25Ok_5) (x3 : Int) (b0_0 : List Int) (b0_1 : List Int) : Option R :=
  cond (decide (x3 < (((List.length b0_1) : Nat) : Int)))
  (Option.bind (idx b0_1 x3) fun y42 =>
   Option.bind (g_spec_l00In y42 (2 : Int) (3 : Int)) fun y43 =>
   cond (!y43)
   (hx.1 (d_spec_l25Ok_5_0 Bool.false))
   (nx (m_spec_l25Ok_5 (IntKind.wrap IntKind.i64 (x3 + (1 : Int))) b0_0 b0_1)))
  (hx.2.1 (d_spec_l25Ok_5_1))
noncomputable def t_spec_l25Ok_5 {R : Type} (nx : s_spec_l25Ok_5.T → Option R) (hx : exH R x_spec_l25Ok_5) (z : s_spec_l25Ok_5.T) : Option R := u_spec_l25Ok_5 nx hx z.1.2.1.1 z.2.1.1.1 z.2.1.1.2.1
theorem nat_spec_l25Ok_5 : Natural @t_spec_l25Ok_5 := fun R nx hx z => by
  show u_spec_l25Ok_5 nx hx z.1.2.1.1 z.2.1.1.1 z.2.1.1.2.1 = (u_spec_l25Ok_5 (fun y => some (.inl y)) (hIn x_spec_l25Ok_5 fun x => some (.inr x)) z.1.2.1.1 z.2.1.1.1 z.2.1.1.2.1).bind (goOn nx hx)
  unfold u_spec_l25Ok_5
  exact nat_cond (nat_bind fun _ => nat_bind fun _ => nat_cond (rfl) (rfl)) (rfl)
noncomputable def w_spec_l25Ok_5 : s_spec_l25Ok_5.T → Option (exT x_spec_l25Ok_5) := wOf @t_spec_l25Ok_5
theorem wq_spec_l25Ok_5 (x3 : Int) (b0_0 : List Int) (b0_1 : List Int) : w_spec_l25Ok_5 (m_spec_l25Ok_5 x3 b0_0 b0_1) = u_spec_l25Ok_5 w_spec_l25Ok_5 (hIn x_spec_l25Ok_5 some) x3 b0_0 b0_1 := wOf_eq nat_spec_l25Ok_5 _
def lh_spec_l25Ok_5 : LoopHint := ⟨[0, 3], [42], [2], []⟩
noncomputable def h_spec_l25Ok : Hints Rv := ⟨fun k => match k with | 5 => lh_spec_l25Ok_5 | _ => ⟨[], [], [], []⟩, fun k => match k with | 5 => some (loopX s_spec_l25Ok_5 x_spec_l25Ok_5 w_spec_l25Ok_5) | _ => none⟩
theorem st_spec_l25Ok_5 (n : Nat) (z : s_spec_l25Ok_5.T) (k : Ex → Live → Option Rv) : loopN ⟨42, 43⟩ lh_spec_l25Ok_5 (den (tab C0 T_spec_l25Ok) ⟨42, 43⟩ h_spec_l25Ok 1 (loopOf Try.f33 4)) (n + 1) (s_spec_l25Ok_5.enc z) k =
    t_spec_l25Ok_5 (fun y => loopN ⟨42, 43⟩ lh_spec_l25Ok_5 (den (tab C0 T_spec_l25Ok) ⟨42, 43⟩ h_spec_l25Ok 1 (loopOf Try.f33 4)) n (s_spec_l25Ok_5.enc y) k) (hK k x_spec_l25Ok_5) z := by kernel_rfl
theorem hs_spec_l25Ok : HintsOk (tab C0 T_spec_l25Ok) ⟨42, 43⟩ h_spec_l25Ok 1 (loops (codeOf Try.f33)) := by
  have hl : loops (codeOf Try.f33) = [loopOf Try.f33 4] := by kernel_rfl
  rw [hl]
  exact HintsOk.cons (n := 5) (lh := lh_spec_l25Ok_5) (S := loopX s_spec_l25Ok_5 x_spec_l25Ok_5 w_spec_l25Ok_5) (by kernel_rfl) rfl rfl (loopX_ok nat_spec_l25Ok_5 st_spec_l25Ok_5)
    (HintsOk.nil)
noncomputable def t_spec_l25Ok {R : Type} (kx : Bool → Option R) (a0 : ((List Int) × (List Int))) : Option R :=
  Option.bind (g_spec_l25Sizes a0.1) fun y38 =>
  cond (!y38)
  (kx Bool.false)
  (cond ((((List.length a0.2) : Nat) : Int) != (IntKind.wrap IntKind.i64 ((((List.length a0.1) : Nat) : Int) - (1 : Int))))
   (kx Bool.false)
   (Option.bind (w_spec_l25Ok_5 (m_spec_l25Ok_5 (0 : Int) a0.1 a0.2)) (exC x_spec_l25Ok_5
    (fun e44 =>
     kx (e44.1.1.1 : Bool), fun _ =>
     kx Bool.true, ()))))
noncomputable def g_spec_l25Ok (a0 : ((List Int) × (List Int))) : Option (Bool) := t_spec_l25Ok some a0
theorem nat_spec_l25Ok {R : Type} (kx : Bool → Option R) (a0 : ((List Int) × (List Int))) : t_spec_l25Ok kx a0 = (g_spec_l25Ok a0).bind kx := by
  unfold g_spec_l25Ok t_spec_l25Ok
  exact nat_bind fun _ => nat_cond (rfl) (nat_cond (rfl) (nat_exC ⟨fun _ => rfl, fun _ => rfl, trivial⟩))
abbrev as_spec_l25Ok : List AX := [.ptr (.pair (.slice (.int .i64)) (.slice (.int .i64)))]
abbrev en_spec_l25Ok : Bool → AV × List CV := fun b => (.one ⟨false, [(.v (.bool b))]⟩, [])
noncomputable abbrev k_spec_l25Ok : Contract := .fx as_spec_l25Ok (Bool) (fun z => g_spec_l25Ok z.1) en_spec_l25Ok
theorem r_spec_l25Ok (z : argsX as_spec_l25Ok) : runF (tab C0 T_spec_l25Ok) h_spec_l25Ok 1 Try.f33 (lentOf as_spec_l25Ok) (xBoxes as_spec_l25Ok z) (xVals as_spec_l25Ok 0 z) K2 = t_spec_l25Ok (fun b => some (en_spec_l25Ok b)) z.1 := by kernel_rfl
theorem so_spec_l25Ok : Sound C0 33 k_spec_l25Ok :=
  Sound.fx a_spec_l25Ok mixed Try.func33 (by kernel_rfl) (by kernel_rfl) h_spec_l25Ok 1 hs_spec_l25Ok (fun z => (r_spec_l25Ok z).trans (nat_spec_l25Ok _ z.1))

/-! ### F50 spec.l25Places -/
noncomputable def T_spec_l25Places : List (FuncId × Contract) := []
theorem a_spec_l25Places : AllSound C0 T_spec_l25Places := .nil
abbrev s_spec_l25Places_5 : LS := ⟨[(false, [(.sl (.int .i64))]), (false, [(.own (.int .i64))]), (false, [(.int .i64)]), (false, [(.int .i64)])], [], []⟩
abbrev e_spec_l25Places_5_0 : LS := ⟨[(false, [(.own (.int .i64))])], [], []⟩
abbrev d_spec_l25Places_5_0 (v0 : List Int) : e_spec_l25Places_5_0.T := (((v0, ()), ()), (), ())
abbrev x_spec_l25Places_5 : List (Ex × LS) := [(.exit 0, e_spec_l25Places_5_0)]
abbrev m_spec_l25Places_5 (x0 : List Int) (x3 : List Int) (x4 : Int) (x5 : Int) : s_spec_l25Places_5.T := (((x0, ()), (x3, ()), (x4, ()), (x5, ()), ()), (), ())
noncomputable def u_spec_l25Places_5 {R : Type} (nx : s_spec_l25Places_5.T → Option R) (hx : exH R x_spec_l25Places_5) (x0 : List Int) (x3 : List Int) (x4 : Int) (x5 : Int) : Option R :=
  cond (decide (x5 < (((List.length x0) : Nat) : Int)))
  (cond ((Int.tmod x5 (2 : Int)) == (0 : Int))
   (Option.bind (idx x0 x5) fun y53 =>
    cond (decide ((((List.length x3) + (List.length [(IntKind.wrap IntKind.i64 (x4 + y53))])) * 8) ≤ 70368744177664))
    (cond (decide (((List.length x3) + (List.length [(IntKind.wrap IntKind.i64 (x4 + y53))])) ≤ 70368744177664))
     (nx (m_spec_l25Places_5 x0 (x3 ++ [(IntKind.wrap IntKind.i64 (x4 + y53))]) (IntKind.wrap IntKind.i64 (x4 + y53)) (IntKind.wrap IntKind.i64 (x5 + (1 : Int)))))
     (none))
    (none))
   (Option.bind (idx x0 x5) fun y54 =>
    cond (decide ((((List.length x3) + (List.length [(IntKind.wrap IntKind.i64 (x4 - y54))])) * 8) ≤ 70368744177664))
    (cond (decide (((List.length x3) + (List.length [(IntKind.wrap IntKind.i64 (x4 - y54))])) ≤ 70368744177664))
     (nx (m_spec_l25Places_5 x0 (x3 ++ [(IntKind.wrap IntKind.i64 (x4 - y54))]) (IntKind.wrap IntKind.i64 (x4 - y54)) (IntKind.wrap IntKind.i64 (x5 + (1 : Int)))))
     (none))
    (none)))
  (hx.1 (d_spec_l25Places_5_0 x3))
noncomputable def t_spec_l25Places_5 {R : Type} (nx : s_spec_l25Places_5.T → Option R) (hx : exH R x_spec_l25Places_5) (z : s_spec_l25Places_5.T) : Option R := u_spec_l25Places_5 nx hx z.1.1.1 z.1.2.1.1 z.1.2.2.1.1 z.1.2.2.2.1.1
theorem nat_spec_l25Places_5 : Natural @t_spec_l25Places_5 := fun R nx hx z => by
  show u_spec_l25Places_5 nx hx z.1.1.1 z.1.2.1.1 z.1.2.2.1.1 z.1.2.2.2.1.1 = (u_spec_l25Places_5 (fun y => some (.inl y)) (hIn x_spec_l25Places_5 fun x => some (.inr x)) z.1.1.1 z.1.2.1.1 z.1.2.2.1.1 z.1.2.2.2.1.1).bind (goOn nx hx)
  unfold u_spec_l25Places_5
  exact nat_cond (nat_cond (nat_bind fun _ => nat_cond (nat_cond (rfl) (rfl)) (rfl)) (nat_bind fun _ => nat_cond (nat_cond (rfl) (rfl)) (rfl))) (rfl)
noncomputable def w_spec_l25Places_5 : s_spec_l25Places_5.T → Option (exT x_spec_l25Places_5) := wOf @t_spec_l25Places_5
theorem wq_spec_l25Places_5 (x0 : List Int) (x3 : List Int) (x4 : Int) (x5 : Int) : w_spec_l25Places_5 (m_spec_l25Places_5 x0 x3 x4 x5) = u_spec_l25Places_5 w_spec_l25Places_5 (hIn x_spec_l25Places_5 some) x0 x3 x4 x5 := wOf_eq nat_spec_l25Places_5 _
def lh_spec_l25Places_5 : LoopHint := ⟨[0, 3, 4, 5], [], [3], []⟩
noncomputable def h_spec_l25Places : Hints Rv := ⟨fun k => match k with | 5 => lh_spec_l25Places_5 | _ => ⟨[], [], [], []⟩, fun k => match k with | 5 => some (loopX s_spec_l25Places_5 x_spec_l25Places_5 w_spec_l25Places_5) | _ => none⟩
theorem st_spec_l25Places_5 (n : Nat) (z : s_spec_l25Places_5.T) (k : Ex → Live → Option Rv) : loopN ⟨33, 33⟩ lh_spec_l25Places_5 (den (tab C0 T_spec_l25Places) ⟨33, 33⟩ h_spec_l25Places 1 (loopOf Try.f50 4)) (n + 1) (s_spec_l25Places_5.enc z) k =
    t_spec_l25Places_5 (fun y => loopN ⟨33, 33⟩ lh_spec_l25Places_5 (den (tab C0 T_spec_l25Places) ⟨33, 33⟩ h_spec_l25Places 1 (loopOf Try.f50 4)) n (s_spec_l25Places_5.enc y) k) (hK k x_spec_l25Places_5) z := by kernel_rfl
theorem hs_spec_l25Places : HintsOk (tab C0 T_spec_l25Places) ⟨33, 33⟩ h_spec_l25Places 1 (loops (codeOf Try.f50)) := by
  have hl : loops (codeOf Try.f50) = [loopOf Try.f50 4] := by kernel_rfl
  rw [hl]
  exact HintsOk.cons (n := 5) (lh := lh_spec_l25Places_5) (S := loopX s_spec_l25Places_5 x_spec_l25Places_5 w_spec_l25Places_5) (by kernel_rfl) rfl rfl (loopX_ok nat_spec_l25Places_5 st_spec_l25Places_5)
    (HintsOk.nil)
noncomputable def t_spec_l25Places {R : Type} (kx : (List Int) → Option R) (a0 : (List Int)) : Option R :=
  Option.bind (w_spec_l25Places_5 (m_spec_l25Places_5 a0 [(0 : Int)] (0 : Int) (0 : Int))) (exC x_spec_l25Places_5
  (fun e55 =>
   kx (e55.1.1.1 : List Int), ()))
noncomputable def g_spec_l25Places (a0 : (List Int)) : Option ((List Int)) := t_spec_l25Places some a0
theorem nat_spec_l25Places {R : Type} (kx : (List Int) → Option R) (a0 : (List Int)) : t_spec_l25Places kx a0 = (g_spec_l25Places a0).bind kx := by
  unfold g_spec_l25Places t_spec_l25Places
  exact nat_exC ⟨fun _ => rfl, trivial⟩
abbrev as_spec_l25Places : List AX := [.val false (.slice (.int .i64))]
abbrev en_spec_l25Places : (List Int) → AV × List CV := fun b => (.one ⟨false, [(.own (.int .i64) b)]⟩, [])
noncomputable abbrev k_spec_l25Places : Contract := .fx as_spec_l25Places ((List Int)) (fun z => g_spec_l25Places z.1) en_spec_l25Places
theorem r_spec_l25Places (z : argsX as_spec_l25Places) : runF (tab C0 T_spec_l25Places) h_spec_l25Places 1 Try.f50 (lentOf as_spec_l25Places) (xBoxes as_spec_l25Places z) (xVals as_spec_l25Places 0 z) K2 = t_spec_l25Places (fun b => some (en_spec_l25Places b)) z.1 := by kernel_rfl
theorem so_spec_l25Places : Sound C0 50 k_spec_l25Places :=
  Sound.fx a_spec_l25Places mixed Try.func50 (by kernel_rfl) (by kernel_rfl) h_spec_l25Places 1 hs_spec_l25Places (fun z => (r_spec_l25Places z).trans (nat_spec_l25Places _ z.1))

/-! ### F24 spec.StripPlaces -/
noncomputable def T_spec_StripPlaces : List (FuncId × Contract) := [(33, k_spec_l25Ok), (50, k_spec_l25Places)]
theorem a_spec_StripPlaces : AllSound C0 T_spec_StripPlaces := .cons so_spec_l25Ok (.cons so_spec_l25Places (.nil))
noncomputable def t_spec_StripPlaces {R : Type} (kx : (List Int) → Option R) (a0 : ((List Int) × (List Int))) : Option R :=
  Option.bind (g_spec_l25Ok a0) fun y47 =>
  cond (!y47)
  (kx [])
  (Option.bind (g_spec_l25Places a0.1) fun y57 =>
   kx y57)
noncomputable def g_spec_StripPlaces (a0 : ((List Int) × (List Int))) : Option ((List Int)) := t_spec_StripPlaces some a0
theorem nat_spec_StripPlaces {R : Type} (kx : (List Int) → Option R) (a0 : ((List Int) × (List Int))) : t_spec_StripPlaces kx a0 = (g_spec_StripPlaces a0).bind kx := by
  unfold g_spec_StripPlaces t_spec_StripPlaces
  exact nat_bind fun _ => nat_cond (rfl) (nat_bind fun _ => rfl)
abbrev as_spec_StripPlaces : List AX := [.val true (.pair (.slice (.int .i64)) (.slice (.int .i64)))]
abbrev en_spec_StripPlaces : (List Int) → AV × List CV := fun b => (.one ⟨false, [(.own (.int .i64) b)]⟩, [])
noncomputable abbrev k_spec_StripPlaces : Contract := .fx as_spec_StripPlaces ((List Int)) (fun z => g_spec_StripPlaces z.1) en_spec_StripPlaces
theorem r_spec_StripPlaces (z : argsX as_spec_StripPlaces) : runF (tab C0 T_spec_StripPlaces) noHints 1 Try.f24 (lentOf as_spec_StripPlaces) (xBoxes as_spec_StripPlaces z) (xVals as_spec_StripPlaces 0 z) K2 = t_spec_StripPlaces (fun b => some (en_spec_StripPlaces b)) z.1 := by kernel_rfl
theorem so_spec_StripPlaces : Sound C0 24 k_spec_StripPlaces :=
  Sound.fx a_spec_StripPlaces mixed Try.func24 (by kernel_rfl) (by kernel_rfl) noHints 1 noHints_ok (fun z => (r_spec_StripPlaces z).trans (nat_spec_StripPlaces _ z.1))

/-! ### F57 impl.length[int64] -/
noncomputable def T_impl_length_int64 : List (FuncId × Contract) := []
theorem a_impl_length_int64 : AllSound C0 T_impl_length_int64 := .nil
noncomputable def t_impl_length_int64 {R : Type} (kx : Int → Option R) (a0 : (List Int)) : Option R :=
  kx (((List.length a0) : Nat) : Int)
noncomputable def g_impl_length_int64 (a0 : (List Int)) : Option (Int) := t_impl_length_int64 some a0
theorem nat_impl_length_int64 {R : Type} (kx : Int → Option R) (a0 : (List Int)) : t_impl_length_int64 kx a0 = (g_impl_length_int64 a0).bind kx := by
  unfold g_impl_length_int64 t_impl_length_int64
  exact rfl
abbrev as_impl_length_int64 : List AX := [.val false (.slice (.int .i64))]
abbrev en_impl_length_int64 : Int → AV × List CV := fun b => (.one ⟨false, [(.v (.int .i64 b))]⟩, [])
noncomputable abbrev k_impl_length_int64 : Contract := .fx as_impl_length_int64 (Int) (fun z => g_impl_length_int64 z.1) en_impl_length_int64
theorem r_impl_length_int64 (z : argsX as_impl_length_int64) : runF (tab C0 T_impl_length_int64) noHints 1 Try.f57 (lentOf as_impl_length_int64) (xBoxes as_impl_length_int64 z) (xVals as_impl_length_int64 0 z) K2 = t_impl_length_int64 (fun b => some (en_impl_length_int64 b)) z.1 := by kernel_rfl
theorem so_impl_length_int64 : Sound C0 57 k_impl_length_int64 :=
  Sound.fx a_impl_length_int64 mixed Try.func57 (by kernel_rfl) (by kernel_rfl) noHints 1 noHints_ok (fun z => (r_impl_length_int64 z).trans (nat_impl_length_int64 _ z.1))

/-! ### F37 impl.within -/
noncomputable def T_impl_within : List (FuncId × Contract) := []
theorem a_impl_within : AllSound C0 T_impl_within := .nil
noncomputable def t_impl_within {R : Type} (kx : Bool → Option R) (a0 : Int) (a1 : Int) (a2 : Int) : Option R :=
  cond (decide (a0 ≥ a1))
  (kx (decide (a0 ≤ a2)))
  (kx Bool.false)
noncomputable def g_impl_within (a0 : Int) (a1 : Int) (a2 : Int) : Option (Bool) := t_impl_within some a0 a1 a2
theorem nat_impl_within {R : Type} (kx : Bool → Option R) (a0 : Int) (a1 : Int) (a2 : Int) : t_impl_within kx a0 a1 a2 = (g_impl_within a0 a1 a2).bind kx := by
  unfold g_impl_within t_impl_within
  exact nat_cond (rfl) (rfl)
abbrev as_impl_within : List AX := [.val false (.int .i64), .val false (.int .i64), .val false (.int .i64)]
abbrev en_impl_within : Bool → AV × List CV := fun b => (.one ⟨false, [(.v (.bool b))]⟩, [])
noncomputable abbrev k_impl_within : Contract := .fx as_impl_within (Bool) (fun z => g_impl_within z.1 z.2.1 z.2.2.1) en_impl_within
theorem r_impl_within (z : argsX as_impl_within) : runF (tab C0 T_impl_within) noHints 1 Try.f37 (lentOf as_impl_within) (xBoxes as_impl_within z) (xVals as_impl_within 0 z) K2 = t_impl_within (fun b => some (en_impl_within b)) z.1 z.2.1 z.2.2.1 := by kernel_rfl
theorem so_impl_within : Sound C0 37 k_impl_within :=
  Sound.fx a_impl_within mixed Try.func37 (by kernel_rfl) (by kernel_rfl) noHints 1 noHints_ok (fun z => (r_impl_within z).trans (nat_impl_within _ z.1 z.2.1 z.2.2.1))

/-! ### F58 impl.areLengths$1 -/
noncomputable def T_impl_areLengths_1 : List (FuncId × Contract) := [(37, k_impl_within)]
theorem a_impl_areLengths_1 : AllSound C0 T_impl_areLengths_1 := .cons so_impl_within (.nil)
noncomputable def t_impl_areLengths_1 {R : Type} (kx : Bool → Option R) (a0 : Int) : Option R :=
  Option.bind (g_impl_within a0 (1 : Int) (1000 : Int)) fun y76 =>
  kx (!y76)
noncomputable def g_impl_areLengths_1 (a0 : Int) : Option (Bool) := t_impl_areLengths_1 some a0
theorem nat_impl_areLengths_1 {R : Type} (kx : Bool → Option R) (a0 : Int) : t_impl_areLengths_1 kx a0 = (g_impl_areLengths_1 a0).bind kx := by
  unfold g_impl_areLengths_1 t_impl_areLengths_1
  exact nat_bind fun _ => rfl
abbrev as_impl_areLengths_1 : List AX := [.val false (.int .i64)]
abbrev en_impl_areLengths_1 : Bool → AV × List CV := fun b => (.one ⟨false, [(.v (.bool b))]⟩, [])
noncomputable abbrev k_impl_areLengths_1 : Contract := .fx as_impl_areLengths_1 (Bool) (fun z => g_impl_areLengths_1 z.1) en_impl_areLengths_1
theorem r_impl_areLengths_1 (z : argsX as_impl_areLengths_1) : runF (tab C0 T_impl_areLengths_1) noHints 1 Try.f58 (lentOf as_impl_areLengths_1) (xBoxes as_impl_areLengths_1 z) (xVals as_impl_areLengths_1 0 z) K2 = t_impl_areLengths_1 (fun b => some (en_impl_areLengths_1 b)) z.1 := by kernel_rfl
theorem so_impl_areLengths_1 : Sound C0 58 k_impl_areLengths_1 :=
  Sound.fx a_impl_areLengths_1 mixed Try.func58 (by kernel_rfl) (by kernel_rfl) noHints 1 noHints_ok (fun z => (r_impl_areLengths_1 z).trans (nat_impl_areLengths_1 _ z.1))

/-! ### F60 slices.IndexFunc[[]int64,int64] -/
noncomputable def T_slices_IndexFunc_Sint64_int64__impl_areLengths_1 : List (FuncId × Contract) := [(58, k_impl_areLengths_1)]
theorem a_slices_IndexFunc_Sint64_int64__impl_areLengths_1 : AllSound C0 T_slices_IndexFunc_Sint64_int64__impl_areLengths_1 := .cons so_impl_areLengths_1 (.nil)
abbrev s_slices_IndexFunc_Sint64_int64__impl_areLengths_1_3 : LS := ⟨[(false, [(.sl (.int .i64))]), (false, [(.fn 58 [])]), (false, [(.int .i64)]), (false, [(.int .i64)])], [], []⟩
abbrev e_slices_IndexFunc_Sint64_int64__impl_areLengths_1_3_0 : LS := ⟨[(false, [(.int .i64)])], [], []⟩
abbrev d_slices_IndexFunc_Sint64_int64__impl_areLengths_1_3_0 (v0 : Int) : e_slices_IndexFunc_Sint64_int64__impl_areLengths_1_3_0.T := (((v0, ()), ()), (), ())
abbrev e_slices_IndexFunc_Sint64_int64__impl_areLengths_1_3_1 : LS := ⟨[(false, [.undef])], [], []⟩
abbrev d_slices_IndexFunc_Sint64_int64__impl_areLengths_1_3_1 : e_slices_IndexFunc_Sint64_int64__impl_areLengths_1_3_1.T := ((((), ()), ()), (), ())
abbrev x_slices_IndexFunc_Sint64_int64__impl_areLengths_1_3 : List (Ex × LS) := [(.ret, e_slices_IndexFunc_Sint64_int64__impl_areLengths_1_3_0), (.exit 0, e_slices_IndexFunc_Sint64_int64__impl_areLengths_1_3_1)]
abbrev m_slices_IndexFunc_Sint64_int64__impl_areLengths_1_3 (x0 : List Int) (x7 : Int) (x8 : Int) : s_slices_IndexFunc_Sint64_int64__impl_areLengths_1_3.T := (((x0, ()), ((), ()), (x7, ()), (x8, ()), ()), (), ())
noncomputable def u_slices_IndexFunc_Sint64_int64__impl_areLengths_1_3 {R : Type} (nx : s_slices_IndexFunc_Sint64_int64__impl_areLengths_1_3.T → Option R) (hx : exH R x_slices_IndexFunc_Sint64_int64__impl_areLengths_1_3) (x0 : List Int) (x7 : Int) (x8 : Int) : Option R :=
  cond (decide (x8 < x7))
  (Option.bind (idx x0 x8) fun y74 =>
   Option.bind (g_impl_areLengths_1 y74) fun y77 =>
   cond y77
   (hx.1 (d_slices_IndexFunc_Sint64_int64__impl_areLengths_1_3_0 x8))
   (nx (m_slices_IndexFunc_Sint64_int64__impl_areLengths_1_3 x0 x7 (IntKind.wrap IntKind.i64 (x8 + (1 : Int))))))
  (hx.2.1 (d_slices_IndexFunc_Sint64_int64__impl_areLengths_1_3_1))
noncomputable def t_slices_IndexFunc_Sint64_int64__impl_areLengths_1_3 {R : Type} (nx : s_slices_IndexFunc_Sint64_int64__impl_areLengths_1_3.T → Option R) (hx : exH R x_slices_IndexFunc_Sint64_int64__impl_areLengths_1_3) (z : s_slices_IndexFunc_Sint64_int64__impl_areLengths_1_3.T) : Option R := u_slices_IndexFunc_Sint64_int64__impl_areLengths_1_3 nx hx z.1.1.1 z.1.2.2.1.1 z.1.2.2.2.1.1
theorem nat_slices_IndexFunc_Sint64_int64__impl_areLengths_1_3 : Natural @t_slices_IndexFunc_Sint64_int64__impl_areLengths_1_3 := fun R nx hx z => by
  show u_slices_IndexFunc_Sint64_int64__impl_areLengths_1_3 nx hx z.1.1.1 z.1.2.2.1.1 z.1.2.2.2.1.1 = (u_slices_IndexFunc_Sint64_int64__impl_areLengths_1_3 (fun y => some (.inl y)) (hIn x_slices_IndexFunc_Sint64_int64__impl_areLengths_1_3 fun x => some (.inr x)) z.1.1.1 z.1.2.2.1.1 z.1.2.2.2.1.1).bind (goOn nx hx)
  unfold u_slices_IndexFunc_Sint64_int64__impl_areLengths_1_3
  exact nat_cond (nat_bind fun _ => nat_bind fun _ => nat_cond (rfl) (rfl)) (rfl)
noncomputable def w_slices_IndexFunc_Sint64_int64__impl_areLengths_1_3 : s_slices_IndexFunc_Sint64_int64__impl_areLengths_1_3.T → Option (exT x_slices_IndexFunc_Sint64_int64__impl_areLengths_1_3) := wOf @t_slices_IndexFunc_Sint64_int64__impl_areLengths_1_3
theorem wq_slices_IndexFunc_Sint64_int64__impl_areLengths_1_3 (x0 : List Int) (x7 : Int) (x8 : Int) : w_slices_IndexFunc_Sint64_int64__impl_areLengths_1_3 (m_slices_IndexFunc_Sint64_int64__impl_areLengths_1_3 x0 x7 x8) = u_slices_IndexFunc_Sint64_int64__impl_areLengths_1_3 w_slices_IndexFunc_Sint64_int64__impl_areLengths_1_3 (hIn x_slices_IndexFunc_Sint64_int64__impl_areLengths_1_3 some) x0 x7 x8 := wOf_eq nat_slices_IndexFunc_Sint64_int64__impl_areLengths_1_3 _
def lh_slices_IndexFunc_Sint64_int64__impl_areLengths_1_3 : LoopHint := ⟨[0, 1, 7, 8], [], [4], []⟩
noncomputable def h_slices_IndexFunc_Sint64_int64__impl_areLengths_1 : Hints Rv := ⟨fun k => match k with | 3 => lh_slices_IndexFunc_Sint64_int64__impl_areLengths_1_3 | _ => ⟨[], [], [], []⟩, fun k => match k with | 3 => some (loopX s_slices_IndexFunc_Sint64_int64__impl_areLengths_1_3 x_slices_IndexFunc_Sint64_int64__impl_areLengths_1_3 w_slices_IndexFunc_Sint64_int64__impl_areLengths_1_3) | _ => none⟩
theorem st_slices_IndexFunc_Sint64_int64__impl_areLengths_1_3 (n : Nat) (z : s_slices_IndexFunc_Sint64_int64__impl_areLengths_1_3.T) (k : Ex → Live → Option Rv) : loopN ⟨19, 19⟩ lh_slices_IndexFunc_Sint64_int64__impl_areLengths_1_3 (den (tab C0 T_slices_IndexFunc_Sint64_int64__impl_areLengths_1) ⟨19, 19⟩ h_slices_IndexFunc_Sint64_int64__impl_areLengths_1 1 (loopOf Try.f60 2)) (n + 1) (s_slices_IndexFunc_Sint64_int64__impl_areLengths_1_3.enc z) k =
    t_slices_IndexFunc_Sint64_int64__impl_areLengths_1_3 (fun y => loopN ⟨19, 19⟩ lh_slices_IndexFunc_Sint64_int64__impl_areLengths_1_3 (den (tab C0 T_slices_IndexFunc_Sint64_int64__impl_areLengths_1) ⟨19, 19⟩ h_slices_IndexFunc_Sint64_int64__impl_areLengths_1 1 (loopOf Try.f60 2)) n (s_slices_IndexFunc_Sint64_int64__impl_areLengths_1_3.enc y) k) (hK k x_slices_IndexFunc_Sint64_int64__impl_areLengths_1_3) z := by kernel_rfl
theorem hs_slices_IndexFunc_Sint64_int64__impl_areLengths_1 : HintsOk (tab C0 T_slices_IndexFunc_Sint64_int64__impl_areLengths_1) ⟨19, 19⟩ h_slices_IndexFunc_Sint64_int64__impl_areLengths_1 1 (loops (codeOf Try.f60)) := by
  have hl : loops (codeOf Try.f60) = [loopOf Try.f60 2] := by kernel_rfl
  rw [hl]
  exact HintsOk.cons (n := 3) (lh := lh_slices_IndexFunc_Sint64_int64__impl_areLengths_1_3) (S := loopX s_slices_IndexFunc_Sint64_int64__impl_areLengths_1_3 x_slices_IndexFunc_Sint64_int64__impl_areLengths_1_3 w_slices_IndexFunc_Sint64_int64__impl_areLengths_1_3) (by kernel_rfl) rfl rfl (loopX_ok nat_slices_IndexFunc_Sint64_int64__impl_areLengths_1_3 st_slices_IndexFunc_Sint64_int64__impl_areLengths_1_3)
    (HintsOk.nil)
noncomputable def t_slices_IndexFunc_Sint64_int64__impl_areLengths_1 {R : Type} (kx : Int → Option R) (a0 : (List Int)) : Option R :=
  Option.bind (w_slices_IndexFunc_Sint64_int64__impl_areLengths_1_3 (m_slices_IndexFunc_Sint64_int64__impl_areLengths_1_3 a0 (((List.length a0) : Nat) : Int) (0 : Int))) (exC x_slices_IndexFunc_Sint64_int64__impl_areLengths_1_3
  (fun e78 =>
   kx (e78.1.1.1 : Int), fun _ =>
   kx (-(1 : Int)), ()))
noncomputable def g_slices_IndexFunc_Sint64_int64__impl_areLengths_1 (a0 : (List Int)) : Option (Int) := t_slices_IndexFunc_Sint64_int64__impl_areLengths_1 some a0
theorem nat_slices_IndexFunc_Sint64_int64__impl_areLengths_1 {R : Type} (kx : Int → Option R) (a0 : (List Int)) : t_slices_IndexFunc_Sint64_int64__impl_areLengths_1 kx a0 = (g_slices_IndexFunc_Sint64_int64__impl_areLengths_1 a0).bind kx := by
  unfold g_slices_IndexFunc_Sint64_int64__impl_areLengths_1 t_slices_IndexFunc_Sint64_int64__impl_areLengths_1
  exact nat_exC ⟨fun _ => rfl, fun _ => rfl, trivial⟩
abbrev as_slices_IndexFunc_Sint64_int64__impl_areLengths_1 : List AX := [.val false (.slice (.int .i64)), .clo 58 []]
abbrev en_slices_IndexFunc_Sint64_int64__impl_areLengths_1 : Int → AV × List CV := fun b => (.one ⟨false, [(.v (.int .i64 b))]⟩, [])
noncomputable abbrev k_slices_IndexFunc_Sint64_int64__impl_areLengths_1 : Contract := .fx as_slices_IndexFunc_Sint64_int64__impl_areLengths_1 (Int) (fun z => g_slices_IndexFunc_Sint64_int64__impl_areLengths_1 z.1) en_slices_IndexFunc_Sint64_int64__impl_areLengths_1
theorem r_slices_IndexFunc_Sint64_int64__impl_areLengths_1 (z : argsX as_slices_IndexFunc_Sint64_int64__impl_areLengths_1) : runF (tab C0 T_slices_IndexFunc_Sint64_int64__impl_areLengths_1) h_slices_IndexFunc_Sint64_int64__impl_areLengths_1 1 Try.f60 (lentOf as_slices_IndexFunc_Sint64_int64__impl_areLengths_1) (xBoxes as_slices_IndexFunc_Sint64_int64__impl_areLengths_1 z) (xVals as_slices_IndexFunc_Sint64_int64__impl_areLengths_1 0 z) K2 = t_slices_IndexFunc_Sint64_int64__impl_areLengths_1 (fun b => some (en_slices_IndexFunc_Sint64_int64__impl_areLengths_1 b)) z.1 := by kernel_rfl
theorem so_slices_IndexFunc_Sint64_int64__impl_areLengths_1 : Sound C0 60 k_slices_IndexFunc_Sint64_int64__impl_areLengths_1 :=
  Sound.fx a_slices_IndexFunc_Sint64_int64__impl_areLengths_1 mixed Try.func60 (by kernel_rfl) (by kernel_rfl) h_slices_IndexFunc_Sint64_int64__impl_areLengths_1 1 hs_slices_IndexFunc_Sint64_int64__impl_areLengths_1 (fun z => (r_slices_IndexFunc_Sint64_int64__impl_areLengths_1 z).trans (nat_slices_IndexFunc_Sint64_int64__impl_areLengths_1 _ z.1))

/-! ### F35 slices.ContainsFunc[[]int64,int64] -/
noncomputable def T_slices_ContainsFunc_Sint64_int64__impl_areLengths_1 : List (FuncId × Contract) := [(60, k_slices_IndexFunc_Sint64_int64__impl_areLengths_1)]
theorem a_slices_ContainsFunc_Sint64_int64__impl_areLengths_1 : AllSound C0 T_slices_ContainsFunc_Sint64_int64__impl_areLengths_1 := .cons so_slices_IndexFunc_Sint64_int64__impl_areLengths_1 (.nil)
noncomputable def t_slices_ContainsFunc_Sint64_int64__impl_areLengths_1 {R : Type} (kx : Bool → Option R) (a0 : (List Int)) : Option R :=
  Option.bind (g_slices_IndexFunc_Sint64_int64__impl_areLengths_1 a0) fun y81 =>
  kx (decide (y81 ≥ (0 : Int)))
noncomputable def g_slices_ContainsFunc_Sint64_int64__impl_areLengths_1 (a0 : (List Int)) : Option (Bool) := t_slices_ContainsFunc_Sint64_int64__impl_areLengths_1 some a0
theorem nat_slices_ContainsFunc_Sint64_int64__impl_areLengths_1 {R : Type} (kx : Bool → Option R) (a0 : (List Int)) : t_slices_ContainsFunc_Sint64_int64__impl_areLengths_1 kx a0 = (g_slices_ContainsFunc_Sint64_int64__impl_areLengths_1 a0).bind kx := by
  unfold g_slices_ContainsFunc_Sint64_int64__impl_areLengths_1 t_slices_ContainsFunc_Sint64_int64__impl_areLengths_1
  exact nat_bind fun _ => rfl
abbrev as_slices_ContainsFunc_Sint64_int64__impl_areLengths_1 : List AX := [.val false (.slice (.int .i64)), .clo 58 []]
abbrev en_slices_ContainsFunc_Sint64_int64__impl_areLengths_1 : Bool → AV × List CV := fun b => (.one ⟨false, [(.v (.bool b))]⟩, [])
noncomputable abbrev k_slices_ContainsFunc_Sint64_int64__impl_areLengths_1 : Contract := .fx as_slices_ContainsFunc_Sint64_int64__impl_areLengths_1 (Bool) (fun z => g_slices_ContainsFunc_Sint64_int64__impl_areLengths_1 z.1) en_slices_ContainsFunc_Sint64_int64__impl_areLengths_1
theorem r_slices_ContainsFunc_Sint64_int64__impl_areLengths_1 (z : argsX as_slices_ContainsFunc_Sint64_int64__impl_areLengths_1) : runF (tab C0 T_slices_ContainsFunc_Sint64_int64__impl_areLengths_1) noHints 1 Try.f35 (lentOf as_slices_ContainsFunc_Sint64_int64__impl_areLengths_1) (xBoxes as_slices_ContainsFunc_Sint64_int64__impl_areLengths_1 z) (xVals as_slices_ContainsFunc_Sint64_int64__impl_areLengths_1 0 z) K2 = t_slices_ContainsFunc_Sint64_int64__impl_areLengths_1 (fun b => some (en_slices_ContainsFunc_Sint64_int64__impl_areLengths_1 b)) z.1 := by kernel_rfl
theorem so_slices_ContainsFunc_Sint64_int64__impl_areLengths_1 : Sound C0 35 k_slices_ContainsFunc_Sint64_int64__impl_areLengths_1 :=
  Sound.fx a_slices_ContainsFunc_Sint64_int64__impl_areLengths_1 mixed Try.func35 (by kernel_rfl) (by kernel_rfl) noHints 1 noHints_ok (fun z => (r_slices_ContainsFunc_Sint64_int64__impl_areLengths_1 z).trans (nat_slices_ContainsFunc_Sint64_int64__impl_areLengths_1 _ z.1))

/-! ### F59 impl.sumOf -/
noncomputable def T_impl_sumOf : List (FuncId × Contract) := []
theorem a_impl_sumOf : AllSound C0 T_impl_sumOf := .nil
abbrev s_impl_sumOf_4 : LS := ⟨[(false, [(.int .i64)]), (false, [(.sl (.int .i64))]), (false, [(.int .i64)]), (false, [(.int .i64)])], [], []⟩
abbrev e_impl_sumOf_4_0 : LS := ⟨[(false, [(.int .i64)])], [], []⟩
abbrev d_impl_sumOf_4_0 (v0 : Int) : e_impl_sumOf_4_0.T := (((v0, ()), ()), (), ())
abbrev x_impl_sumOf_4 : List (Ex × LS) := [(.exit 0, e_impl_sumOf_4_0)]
abbrev m_impl_sumOf_4 (x3 : Int) (x6 : List Int) (x7 : Int) (x8 : Int) : s_impl_sumOf_4.T := (((x3, ()), (x6, ()), (x7, ()), (x8, ()), ()), (), ())
noncomputable def u_impl_sumOf_4 {R : Type} (nx : s_impl_sumOf_4.T → Option R) (hx : exH R x_impl_sumOf_4) (x3 : Int) (x6 : List Int) (x7 : Int) (x8 : Int) : Option R :=
  cond (decide (x8 < x7))
  (Option.bind (idx x6 x8) fun y88 =>
   nx (m_impl_sumOf_4 (IntKind.wrap IntKind.i64 (x3 + y88)) x6 x7 (IntKind.wrap IntKind.i64 (x8 + (1 : Int)))))
  (hx.1 (d_impl_sumOf_4_0 x3))
noncomputable def t_impl_sumOf_4 {R : Type} (nx : s_impl_sumOf_4.T → Option R) (hx : exH R x_impl_sumOf_4) (z : s_impl_sumOf_4.T) : Option R := u_impl_sumOf_4 nx hx z.1.1.1 z.1.2.1.1 z.1.2.2.1.1 z.1.2.2.2.1.1
theorem nat_impl_sumOf_4 : Natural @t_impl_sumOf_4 := fun R nx hx z => by
  show u_impl_sumOf_4 nx hx z.1.1.1 z.1.2.1.1 z.1.2.2.1.1 z.1.2.2.2.1.1 = (u_impl_sumOf_4 (fun y => some (.inl y)) (hIn x_impl_sumOf_4 fun x => some (.inr x)) z.1.1.1 z.1.2.1.1 z.1.2.2.1.1 z.1.2.2.2.1.1).bind (goOn nx hx)
  unfold u_impl_sumOf_4
  exact nat_cond (nat_bind fun _ => rfl) (rfl)
noncomputable def w_impl_sumOf_4 : s_impl_sumOf_4.T → Option (exT x_impl_sumOf_4) := wOf @t_impl_sumOf_4
theorem wq_impl_sumOf_4 (x3 : Int) (x6 : List Int) (x7 : Int) (x8 : Int) : w_impl_sumOf_4 (m_impl_sumOf_4 x3 x6 x7 x8) = u_impl_sumOf_4 w_impl_sumOf_4 (hIn x_impl_sumOf_4 some) x3 x6 x7 x8 := wOf_eq nat_impl_sumOf_4 _
def lh_impl_sumOf_4 : LoopHint := ⟨[3, 6, 7, 8], [], [3], []⟩
noncomputable def h_impl_sumOf : Hints Rv := ⟨fun k => match k with | 4 => lh_impl_sumOf_4 | _ => ⟨[], [], [], []⟩, fun k => match k with | 4 => some (loopX s_impl_sumOf_4 x_impl_sumOf_4 w_impl_sumOf_4) | _ => none⟩
theorem st_impl_sumOf_4 (n : Nat) (z : s_impl_sumOf_4.T) (k : Ex → Live → Option Rv) : loopN ⟨17, 17⟩ lh_impl_sumOf_4 (den (tab C0 T_impl_sumOf) ⟨17, 17⟩ h_impl_sumOf 1 (loopOf Try.f59 3)) (n + 1) (s_impl_sumOf_4.enc z) k =
    t_impl_sumOf_4 (fun y => loopN ⟨17, 17⟩ lh_impl_sumOf_4 (den (tab C0 T_impl_sumOf) ⟨17, 17⟩ h_impl_sumOf 1 (loopOf Try.f59 3)) n (s_impl_sumOf_4.enc y) k) (hK k x_impl_sumOf_4) z := by kernel_rfl
theorem hs_impl_sumOf : HintsOk (tab C0 T_impl_sumOf) ⟨17, 17⟩ h_impl_sumOf 1 (loops (codeOf Try.f59)) := by
  have hl : loops (codeOf Try.f59) = [loopOf Try.f59 3] := by kernel_rfl
  rw [hl]
  exact HintsOk.cons (n := 4) (lh := lh_impl_sumOf_4) (S := loopX s_impl_sumOf_4 x_impl_sumOf_4 w_impl_sumOf_4) (by kernel_rfl) rfl rfl (loopX_ok nat_impl_sumOf_4 st_impl_sumOf_4)
    (HintsOk.nil)
noncomputable def t_impl_sumOf {R : Type} (kx : Int → Option R) (a0 : (List Int)) : Option R :=
  Option.bind (w_impl_sumOf_4 (m_impl_sumOf_4 (0 : Int) a0 (((List.length a0) : Nat) : Int) (0 : Int))) (exC x_impl_sumOf_4
  (fun e89 =>
   kx (e89.1.1.1 : Int), ()))
noncomputable def g_impl_sumOf (a0 : (List Int)) : Option (Int) := t_impl_sumOf some a0
theorem nat_impl_sumOf {R : Type} (kx : Int → Option R) (a0 : (List Int)) : t_impl_sumOf kx a0 = (g_impl_sumOf a0).bind kx := by
  unfold g_impl_sumOf t_impl_sumOf
  exact nat_exC ⟨fun _ => rfl, trivial⟩
abbrev as_impl_sumOf : List AX := [.val false (.slice (.int .i64))]
abbrev en_impl_sumOf : Int → AV × List CV := fun b => (.one ⟨false, [(.v (.int .i64 b))]⟩, [])
noncomputable abbrev k_impl_sumOf : Contract := .fx as_impl_sumOf (Int) (fun z => g_impl_sumOf z.1) en_impl_sumOf
theorem r_impl_sumOf (z : argsX as_impl_sumOf) : runF (tab C0 T_impl_sumOf) h_impl_sumOf 1 Try.f59 (lentOf as_impl_sumOf) (xBoxes as_impl_sumOf z) (xVals as_impl_sumOf 0 z) K2 = t_impl_sumOf (fun b => some (en_impl_sumOf b)) z.1 := by kernel_rfl
theorem so_impl_sumOf : Sound C0 59 k_impl_sumOf :=
  Sound.fx a_impl_sumOf mixed Try.func59 (by kernel_rfl) (by kernel_rfl) h_impl_sumOf 1 hs_impl_sumOf (fun z => (r_impl_sumOf z).trans (nat_impl_sumOf _ z.1))

/-! ### F34 impl.areLengths -/
noncomputable def T_impl_areLengths : List (FuncId × Contract) := [(57, k_impl_length_int64), (37, k_impl_within), (35, k_slices_ContainsFunc_Sint64_int64__impl_areLengths_1), (59, k_impl_sumOf)]
theorem a_impl_areLengths : AllSound C0 T_impl_areLengths := .cons so_impl_length_int64 (.cons so_impl_within (.cons so_slices_ContainsFunc_Sint64_int64__impl_areLengths_1 (.cons so_impl_sumOf (.nil))))
noncomputable def t_impl_areLengths {R : Type} (kx : Bool → Option R) (a0 : (List Int)) : Option R :=
  Option.bind (g_impl_length_int64 a0) fun y64 =>
  Option.bind (g_impl_within y64 (1 : Int) (14 : Int)) fun y68 =>
  cond y68
  (Option.bind (g_slices_ContainsFunc_Sint64_int64__impl_areLengths_1 a0) fun y82 =>
   cond (!y82)
   (Option.bind (g_impl_sumOf a0) fun y91 =>
    kx (decide (y91 ≤ (1000 : Int))))
   (kx Bool.false))
  (kx Bool.false)
noncomputable def g_impl_areLengths (a0 : (List Int)) : Option (Bool) := t_impl_areLengths some a0
theorem nat_impl_areLengths {R : Type} (kx : Bool → Option R) (a0 : (List Int)) : t_impl_areLengths kx a0 = (g_impl_areLengths a0).bind kx := by
  unfold g_impl_areLengths t_impl_areLengths
  exact nat_bind fun _ => nat_bind fun _ => nat_cond (nat_bind fun _ => nat_cond (nat_bind fun _ => rfl) (rfl)) (rfl)
abbrev as_impl_areLengths : List AX := [.val false (.slice (.int .i64))]
abbrev en_impl_areLengths : Bool → AV × List CV := fun b => (.one ⟨false, [(.v (.bool b))]⟩, [])
noncomputable abbrev k_impl_areLengths : Contract := .fx as_impl_areLengths (Bool) (fun z => g_impl_areLengths z.1) en_impl_areLengths
theorem r_impl_areLengths (z : argsX as_impl_areLengths) : runF (tab C0 T_impl_areLengths) noHints 1 Try.f34 (lentOf as_impl_areLengths) (xBoxes as_impl_areLengths z) (xVals as_impl_areLengths 0 z) K2 = t_impl_areLengths (fun b => some (en_impl_areLengths b)) z.1 := by kernel_rfl
theorem so_impl_areLengths : Sound C0 34 k_impl_areLengths :=
  Sound.fx a_impl_areLengths mixed Try.func34 (by kernel_rfl) (by kernel_rfl) noHints 1 noHints_ok (fun z => (r_impl_areLengths z).trans (nat_impl_areLengths _ z.1))

/-! ### F36 impl.ValidStrip$1 -/
noncomputable def T_impl_ValidStrip_1 : List (FuncId × Contract) := [(37, k_impl_within)]
theorem a_impl_ValidStrip_1 : AllSound C0 T_impl_ValidStrip_1 := .cons so_impl_within (.nil)
noncomputable def t_impl_ValidStrip_1 {R : Type} (kx : Bool → Option R) (a0 : Int) : Option R :=
  Option.bind (g_impl_within a0 (2 : Int) (3 : Int)) fun y100 =>
  kx (!y100)
noncomputable def g_impl_ValidStrip_1 (a0 : Int) : Option (Bool) := t_impl_ValidStrip_1 some a0
theorem nat_impl_ValidStrip_1 {R : Type} (kx : Bool → Option R) (a0 : Int) : t_impl_ValidStrip_1 kx a0 = (g_impl_ValidStrip_1 a0).bind kx := by
  unfold g_impl_ValidStrip_1 t_impl_ValidStrip_1
  exact nat_bind fun _ => rfl
abbrev as_impl_ValidStrip_1 : List AX := [.val false (.int .i64)]
abbrev en_impl_ValidStrip_1 : Bool → AV × List CV := fun b => (.one ⟨false, [(.v (.bool b))]⟩, [])
noncomputable abbrev k_impl_ValidStrip_1 : Contract := .fx as_impl_ValidStrip_1 (Bool) (fun z => g_impl_ValidStrip_1 z.1) en_impl_ValidStrip_1
theorem r_impl_ValidStrip_1 (z : argsX as_impl_ValidStrip_1) : runF (tab C0 T_impl_ValidStrip_1) noHints 1 Try.f36 (lentOf as_impl_ValidStrip_1) (xBoxes as_impl_ValidStrip_1 z) (xVals as_impl_ValidStrip_1 0 z) K2 = t_impl_ValidStrip_1 (fun b => some (en_impl_ValidStrip_1 b)) z.1 := by kernel_rfl
theorem so_impl_ValidStrip_1 : Sound C0 36 k_impl_ValidStrip_1 :=
  Sound.fx a_impl_ValidStrip_1 mixed Try.func36 (by kernel_rfl) (by kernel_rfl) noHints 1 noHints_ok (fun z => (r_impl_ValidStrip_1 z).trans (nat_impl_ValidStrip_1 _ z.1))

/-! ### F60 slices.IndexFunc[[]int64,int64] -/
noncomputable def T_slices_IndexFunc_Sint64_int64__impl_ValidStrip_1 : List (FuncId × Contract) := [(36, k_impl_ValidStrip_1)]
theorem a_slices_IndexFunc_Sint64_int64__impl_ValidStrip_1 : AllSound C0 T_slices_IndexFunc_Sint64_int64__impl_ValidStrip_1 := .cons so_impl_ValidStrip_1 (.nil)
abbrev s_slices_IndexFunc_Sint64_int64__impl_ValidStrip_1_3 : LS := ⟨[(false, [(.sl (.int .i64))]), (false, [(.fn 36 [])]), (false, [(.int .i64)]), (false, [(.int .i64)])], [], []⟩
abbrev e_slices_IndexFunc_Sint64_int64__impl_ValidStrip_1_3_0 : LS := ⟨[(false, [(.int .i64)])], [], []⟩
abbrev d_slices_IndexFunc_Sint64_int64__impl_ValidStrip_1_3_0 (v0 : Int) : e_slices_IndexFunc_Sint64_int64__impl_ValidStrip_1_3_0.T := (((v0, ()), ()), (), ())
abbrev e_slices_IndexFunc_Sint64_int64__impl_ValidStrip_1_3_1 : LS := ⟨[(false, [.undef])], [], []⟩
abbrev d_slices_IndexFunc_Sint64_int64__impl_ValidStrip_1_3_1 : e_slices_IndexFunc_Sint64_int64__impl_ValidStrip_1_3_1.T := ((((), ()), ()), (), ())
abbrev x_slices_IndexFunc_Sint64_int64__impl_ValidStrip_1_3 : List (Ex × LS) := [(.ret, e_slices_IndexFunc_Sint64_int64__impl_ValidStrip_1_3_0), (.exit 0, e_slices_IndexFunc_Sint64_int64__impl_ValidStrip_1_3_1)]
abbrev m_slices_IndexFunc_Sint64_int64__impl_ValidStrip_1_3 (x0 : List Int) (x7 : Int) (x8 : Int) : s_slices_IndexFunc_Sint64_int64__impl_ValidStrip_1_3.T := (((x0, ()), ((), ()), (x7, ()), (x8, ()), ()), (), ())
noncomputable def u_slices_IndexFunc_Sint64_int64__impl_ValidStrip_1_3 {R : Type} (nx : s_slices_IndexFunc_Sint64_int64__impl_ValidStrip_1_3.T → Option R) (hx : exH R x_slices_IndexFunc_Sint64_int64__impl_ValidStrip_1_3) (x0 : List Int) (x7 : Int) (x8 : Int) : Option R :=
  cond (decide (x8 < x7))
  (Option.bind (idx x0 x8) fun y98 =>
   Option.bind (g_impl_ValidStrip_1 y98) fun y101 =>
   cond y101
   (hx.1 (d_slices_IndexFunc_Sint64_int64__impl_ValidStrip_1_3_0 x8))
   (nx (m_slices_IndexFunc_Sint64_int64__impl_ValidStrip_1_3 x0 x7 (IntKind.wrap IntKind.i64 (x8 + (1 : Int))))))
  (hx.2.1 (d_slices_IndexFunc_Sint64_int64__impl_ValidStrip_1_3_1))
noncomputable def t_slices_IndexFunc_Sint64_int64__impl_ValidStrip_1_3 {R : Type} (nx : s_slices_IndexFunc_Sint64_int64__impl_ValidStrip_1_3.T → Option R) (hx : exH R x_slices_IndexFunc_Sint64_int64__impl_ValidStrip_1_3) (z : s_slices_IndexFunc_Sint64_int64__impl_ValidStrip_1_3.T) : Option R := u_slices_IndexFunc_Sint64_int64__impl_ValidStrip_1_3 nx hx z.1.1.1 z.1.2.2.1.1 z.1.2.2.2.1.1
theorem nat_slices_IndexFunc_Sint64_int64__impl_ValidStrip_1_3 : Natural @t_slices_IndexFunc_Sint64_int64__impl_ValidStrip_1_3 := fun R nx hx z => by
  show u_slices_IndexFunc_Sint64_int64__impl_ValidStrip_1_3 nx hx z.1.1.1 z.1.2.2.1.1 z.1.2.2.2.1.1 = (u_slices_IndexFunc_Sint64_int64__impl_ValidStrip_1_3 (fun y => some (.inl y)) (hIn x_slices_IndexFunc_Sint64_int64__impl_ValidStrip_1_3 fun x => some (.inr x)) z.1.1.1 z.1.2.2.1.1 z.1.2.2.2.1.1).bind (goOn nx hx)
  unfold u_slices_IndexFunc_Sint64_int64__impl_ValidStrip_1_3
  exact nat_cond (nat_bind fun _ => nat_bind fun _ => nat_cond (rfl) (rfl)) (rfl)
noncomputable def w_slices_IndexFunc_Sint64_int64__impl_ValidStrip_1_3 : s_slices_IndexFunc_Sint64_int64__impl_ValidStrip_1_3.T → Option (exT x_slices_IndexFunc_Sint64_int64__impl_ValidStrip_1_3) := wOf @t_slices_IndexFunc_Sint64_int64__impl_ValidStrip_1_3
theorem wq_slices_IndexFunc_Sint64_int64__impl_ValidStrip_1_3 (x0 : List Int) (x7 : Int) (x8 : Int) : w_slices_IndexFunc_Sint64_int64__impl_ValidStrip_1_3 (m_slices_IndexFunc_Sint64_int64__impl_ValidStrip_1_3 x0 x7 x8) = u_slices_IndexFunc_Sint64_int64__impl_ValidStrip_1_3 w_slices_IndexFunc_Sint64_int64__impl_ValidStrip_1_3 (hIn x_slices_IndexFunc_Sint64_int64__impl_ValidStrip_1_3 some) x0 x7 x8 := wOf_eq nat_slices_IndexFunc_Sint64_int64__impl_ValidStrip_1_3 _
def lh_slices_IndexFunc_Sint64_int64__impl_ValidStrip_1_3 : LoopHint := ⟨[0, 1, 7, 8], [], [4], []⟩
noncomputable def h_slices_IndexFunc_Sint64_int64__impl_ValidStrip_1 : Hints Rv := ⟨fun k => match k with | 3 => lh_slices_IndexFunc_Sint64_int64__impl_ValidStrip_1_3 | _ => ⟨[], [], [], []⟩, fun k => match k with | 3 => some (loopX s_slices_IndexFunc_Sint64_int64__impl_ValidStrip_1_3 x_slices_IndexFunc_Sint64_int64__impl_ValidStrip_1_3 w_slices_IndexFunc_Sint64_int64__impl_ValidStrip_1_3) | _ => none⟩
theorem st_slices_IndexFunc_Sint64_int64__impl_ValidStrip_1_3 (n : Nat) (z : s_slices_IndexFunc_Sint64_int64__impl_ValidStrip_1_3.T) (k : Ex → Live → Option Rv) : loopN ⟨19, 19⟩ lh_slices_IndexFunc_Sint64_int64__impl_ValidStrip_1_3 (den (tab C0 T_slices_IndexFunc_Sint64_int64__impl_ValidStrip_1) ⟨19, 19⟩ h_slices_IndexFunc_Sint64_int64__impl_ValidStrip_1 1 (loopOf Try.f60 2)) (n + 1) (s_slices_IndexFunc_Sint64_int64__impl_ValidStrip_1_3.enc z) k =
    t_slices_IndexFunc_Sint64_int64__impl_ValidStrip_1_3 (fun y => loopN ⟨19, 19⟩ lh_slices_IndexFunc_Sint64_int64__impl_ValidStrip_1_3 (den (tab C0 T_slices_IndexFunc_Sint64_int64__impl_ValidStrip_1) ⟨19, 19⟩ h_slices_IndexFunc_Sint64_int64__impl_ValidStrip_1 1 (loopOf Try.f60 2)) n (s_slices_IndexFunc_Sint64_int64__impl_ValidStrip_1_3.enc y) k) (hK k x_slices_IndexFunc_Sint64_int64__impl_ValidStrip_1_3) z := by kernel_rfl
theorem hs_slices_IndexFunc_Sint64_int64__impl_ValidStrip_1 : HintsOk (tab C0 T_slices_IndexFunc_Sint64_int64__impl_ValidStrip_1) ⟨19, 19⟩ h_slices_IndexFunc_Sint64_int64__impl_ValidStrip_1 1 (loops (codeOf Try.f60)) := by
  have hl : loops (codeOf Try.f60) = [loopOf Try.f60 2] := by kernel_rfl
  rw [hl]
  exact HintsOk.cons (n := 3) (lh := lh_slices_IndexFunc_Sint64_int64__impl_ValidStrip_1_3) (S := loopX s_slices_IndexFunc_Sint64_int64__impl_ValidStrip_1_3 x_slices_IndexFunc_Sint64_int64__impl_ValidStrip_1_3 w_slices_IndexFunc_Sint64_int64__impl_ValidStrip_1_3) (by kernel_rfl) rfl rfl (loopX_ok nat_slices_IndexFunc_Sint64_int64__impl_ValidStrip_1_3 st_slices_IndexFunc_Sint64_int64__impl_ValidStrip_1_3)
    (HintsOk.nil)
noncomputable def t_slices_IndexFunc_Sint64_int64__impl_ValidStrip_1 {R : Type} (kx : Int → Option R) (a0 : (List Int)) : Option R :=
  Option.bind (w_slices_IndexFunc_Sint64_int64__impl_ValidStrip_1_3 (m_slices_IndexFunc_Sint64_int64__impl_ValidStrip_1_3 a0 (((List.length a0) : Nat) : Int) (0 : Int))) (exC x_slices_IndexFunc_Sint64_int64__impl_ValidStrip_1_3
  (fun e102 =>
   kx (e102.1.1.1 : Int), fun _ =>
   kx (-(1 : Int)), ()))
noncomputable def g_slices_IndexFunc_Sint64_int64__impl_ValidStrip_1 (a0 : (List Int)) : Option (Int) := t_slices_IndexFunc_Sint64_int64__impl_ValidStrip_1 some a0
theorem nat_slices_IndexFunc_Sint64_int64__impl_ValidStrip_1 {R : Type} (kx : Int → Option R) (a0 : (List Int)) : t_slices_IndexFunc_Sint64_int64__impl_ValidStrip_1 kx a0 = (g_slices_IndexFunc_Sint64_int64__impl_ValidStrip_1 a0).bind kx := by
  unfold g_slices_IndexFunc_Sint64_int64__impl_ValidStrip_1 t_slices_IndexFunc_Sint64_int64__impl_ValidStrip_1
  exact nat_exC ⟨fun _ => rfl, fun _ => rfl, trivial⟩
abbrev as_slices_IndexFunc_Sint64_int64__impl_ValidStrip_1 : List AX := [.val false (.slice (.int .i64)), .clo 36 []]
abbrev en_slices_IndexFunc_Sint64_int64__impl_ValidStrip_1 : Int → AV × List CV := fun b => (.one ⟨false, [(.v (.int .i64 b))]⟩, [])
noncomputable abbrev k_slices_IndexFunc_Sint64_int64__impl_ValidStrip_1 : Contract := .fx as_slices_IndexFunc_Sint64_int64__impl_ValidStrip_1 (Int) (fun z => g_slices_IndexFunc_Sint64_int64__impl_ValidStrip_1 z.1) en_slices_IndexFunc_Sint64_int64__impl_ValidStrip_1
theorem r_slices_IndexFunc_Sint64_int64__impl_ValidStrip_1 (z : argsX as_slices_IndexFunc_Sint64_int64__impl_ValidStrip_1) : runF (tab C0 T_slices_IndexFunc_Sint64_int64__impl_ValidStrip_1) h_slices_IndexFunc_Sint64_int64__impl_ValidStrip_1 1 Try.f60 (lentOf as_slices_IndexFunc_Sint64_int64__impl_ValidStrip_1) (xBoxes as_slices_IndexFunc_Sint64_int64__impl_ValidStrip_1 z) (xVals as_slices_IndexFunc_Sint64_int64__impl_ValidStrip_1 0 z) K2 = t_slices_IndexFunc_Sint64_int64__impl_ValidStrip_1 (fun b => some (en_slices_IndexFunc_Sint64_int64__impl_ValidStrip_1 b)) z.1 := by kernel_rfl
theorem so_slices_IndexFunc_Sint64_int64__impl_ValidStrip_1 : Sound C0 60 k_slices_IndexFunc_Sint64_int64__impl_ValidStrip_1 :=
  Sound.fx a_slices_IndexFunc_Sint64_int64__impl_ValidStrip_1 mixed Try.func60 (by kernel_rfl) (by kernel_rfl) h_slices_IndexFunc_Sint64_int64__impl_ValidStrip_1 1 hs_slices_IndexFunc_Sint64_int64__impl_ValidStrip_1 (fun z => (r_slices_IndexFunc_Sint64_int64__impl_ValidStrip_1 z).trans (nat_slices_IndexFunc_Sint64_int64__impl_ValidStrip_1 _ z.1))

/-! ### F35 slices.ContainsFunc[[]int64,int64] -/
noncomputable def T_slices_ContainsFunc_Sint64_int64__impl_ValidStrip_1 : List (FuncId × Contract) := [(60, k_slices_IndexFunc_Sint64_int64__impl_ValidStrip_1)]
theorem a_slices_ContainsFunc_Sint64_int64__impl_ValidStrip_1 : AllSound C0 T_slices_ContainsFunc_Sint64_int64__impl_ValidStrip_1 := .cons so_slices_IndexFunc_Sint64_int64__impl_ValidStrip_1 (.nil)
noncomputable def t_slices_ContainsFunc_Sint64_int64__impl_ValidStrip_1 {R : Type} (kx : Bool → Option R) (a0 : (List Int)) : Option R :=
  Option.bind (g_slices_IndexFunc_Sint64_int64__impl_ValidStrip_1 a0) fun y105 =>
  kx (decide (y105 ≥ (0 : Int)))
noncomputable def g_slices_ContainsFunc_Sint64_int64__impl_ValidStrip_1 (a0 : (List Int)) : Option (Bool) := t_slices_ContainsFunc_Sint64_int64__impl_ValidStrip_1 some a0
theorem nat_slices_ContainsFunc_Sint64_int64__impl_ValidStrip_1 {R : Type} (kx : Bool → Option R) (a0 : (List Int)) : t_slices_ContainsFunc_Sint64_int64__impl_ValidStrip_1 kx a0 = (g_slices_ContainsFunc_Sint64_int64__impl_ValidStrip_1 a0).bind kx := by
  unfold g_slices_ContainsFunc_Sint64_int64__impl_ValidStrip_1 t_slices_ContainsFunc_Sint64_int64__impl_ValidStrip_1
  exact nat_bind fun _ => rfl
abbrev as_slices_ContainsFunc_Sint64_int64__impl_ValidStrip_1 : List AX := [.val false (.slice (.int .i64)), .clo 36 []]
abbrev en_slices_ContainsFunc_Sint64_int64__impl_ValidStrip_1 : Bool → AV × List CV := fun b => (.one ⟨false, [(.v (.bool b))]⟩, [])
noncomputable abbrev k_slices_ContainsFunc_Sint64_int64__impl_ValidStrip_1 : Contract := .fx as_slices_ContainsFunc_Sint64_int64__impl_ValidStrip_1 (Bool) (fun z => g_slices_ContainsFunc_Sint64_int64__impl_ValidStrip_1 z.1) en_slices_ContainsFunc_Sint64_int64__impl_ValidStrip_1
theorem r_slices_ContainsFunc_Sint64_int64__impl_ValidStrip_1 (z : argsX as_slices_ContainsFunc_Sint64_int64__impl_ValidStrip_1) : runF (tab C0 T_slices_ContainsFunc_Sint64_int64__impl_ValidStrip_1) noHints 1 Try.f35 (lentOf as_slices_ContainsFunc_Sint64_int64__impl_ValidStrip_1) (xBoxes as_slices_ContainsFunc_Sint64_int64__impl_ValidStrip_1 z) (xVals as_slices_ContainsFunc_Sint64_int64__impl_ValidStrip_1 0 z) K2 = t_slices_ContainsFunc_Sint64_int64__impl_ValidStrip_1 (fun b => some (en_slices_ContainsFunc_Sint64_int64__impl_ValidStrip_1 b)) z.1 := by kernel_rfl
theorem so_slices_ContainsFunc_Sint64_int64__impl_ValidStrip_1 : Sound C0 35 k_slices_ContainsFunc_Sint64_int64__impl_ValidStrip_1 :=
  Sound.fx a_slices_ContainsFunc_Sint64_int64__impl_ValidStrip_1 mixed Try.func35 (by kernel_rfl) (by kernel_rfl) noHints 1 noHints_ok (fun z => (r_slices_ContainsFunc_Sint64_int64__impl_ValidStrip_1 z).trans (nat_slices_ContainsFunc_Sint64_int64__impl_ValidStrip_1 _ z.1))

/-! ### F11 impl.ValidStrip -/
noncomputable def T_impl_ValidStrip : List (FuncId × Contract) := [(34, k_impl_areLengths), (35, k_slices_ContainsFunc_Sint64_int64__impl_ValidStrip_1)]
theorem a_impl_ValidStrip : AllSound C0 T_impl_ValidStrip := .cons so_impl_areLengths (.cons so_slices_ContainsFunc_Sint64_int64__impl_ValidStrip_1 (.nil))
noncomputable def t_impl_ValidStrip {R : Type} (kx : Bool → Option R) (a0 : ((List Int) × (List Int))) : Option R :=
  Option.bind (g_impl_areLengths a0.1) fun y92 =>
  cond y92
  (cond ((((List.length a0.2) : Nat) : Int) == (IntKind.wrap IntKind.i64 ((((List.length a0.1) : Nat) : Int) - (1 : Int))))
   (Option.bind (g_slices_ContainsFunc_Sint64_int64__impl_ValidStrip_1 a0.2) fun y106 =>
    kx (!y106))
   (kx Bool.false))
  (kx Bool.false)
noncomputable def g_impl_ValidStrip (a0 : ((List Int) × (List Int))) : Option (Bool) := t_impl_ValidStrip some a0
theorem nat_impl_ValidStrip {R : Type} (kx : Bool → Option R) (a0 : ((List Int) × (List Int))) : t_impl_ValidStrip kx a0 = (g_impl_ValidStrip a0).bind kx := by
  unfold g_impl_ValidStrip t_impl_ValidStrip
  exact nat_bind fun _ => nat_cond (nat_cond (nat_bind fun _ => rfl) (rfl)) (rfl)
abbrev as_impl_ValidStrip : List AX := [.val true (.pair (.slice (.int .i64)) (.slice (.int .i64)))]
abbrev en_impl_ValidStrip : Bool → AV × List CV := fun b => (.one ⟨false, [(.v (.bool b))]⟩, [])
noncomputable abbrev k_impl_ValidStrip : Contract := .fx as_impl_ValidStrip (Bool) (fun z => g_impl_ValidStrip z.1) en_impl_ValidStrip
theorem r_impl_ValidStrip (z : argsX as_impl_ValidStrip) : runF (tab C0 T_impl_ValidStrip) noHints 1 Try.f11 (lentOf as_impl_ValidStrip) (xBoxes as_impl_ValidStrip z) (xVals as_impl_ValidStrip 0 z) K2 = t_impl_ValidStrip (fun b => some (en_impl_ValidStrip b)) z.1 := by kernel_rfl
theorem so_impl_ValidStrip : Sound C0 11 k_impl_ValidStrip :=
  Sound.fx a_impl_ValidStrip mixed Try.func11 (by kernel_rfl) (by kernel_rfl) noHints 1 noHints_ok (fun z => (r_impl_ValidStrip z).trans (nat_impl_ValidStrip _ z.1))

/-! ### F51 (impl.Strip).places -/
noncomputable def T_impl_Strip_places : List (FuncId × Contract) := []
theorem a_impl_Strip_places : AllSound C0 T_impl_Strip_places := .nil
abbrev s_impl_Strip_places_4 : LS := ⟨[(false, [(.own (.int .i64))]), (false, [(.sl (.int .i64))]), (false, [(.int .i64)]), (false, [(.int .i64)])], [], []⟩
abbrev e_impl_Strip_places_4_0 : LS := ⟨[(false, [(.own (.int .i64))])], [], []⟩
abbrev d_impl_Strip_places_4_0 (v0 : List Int) : e_impl_Strip_places_4_0.T := (((v0, ()), ()), (), ())
abbrev x_impl_Strip_places_4 : List (Ex × LS) := [(.exit 0, e_impl_Strip_places_4_0)]
abbrev m_impl_Strip_places_4 (x3 : List Int) (x8 : List Int) (x9 : Int) (x10 : Int) : s_impl_Strip_places_4.T := (((x3, ()), (x8, ()), (x9, ()), (x10, ()), ()), (), ())
noncomputable def u_impl_Strip_places_4 {R : Type} (nx : s_impl_Strip_places_4.T → Option R) (hx : exH R x_impl_Strip_places_4) (x3 : List Int) (x8 : List Int) (x9 : Int) (x10 : Int) : Option R :=
  cond (decide (x10 < x9))
  (Option.bind (idx x8 x10) fun y113 =>
   cond ((Int.tmod x10 (2 : Int)) == (1 : Int))
   (Option.bind (idx x3 x10) fun y114 =>
    cond (decide ((((List.length x3) + (List.length [(IntKind.wrap IntKind.i64 (y114 + (IntKind.wrap IntKind.i64 ((0 : Int) - y113))))])) * 8) ≤ 70368744177664))
    (cond (decide (((List.length x3) + (List.length [(IntKind.wrap IntKind.i64 (y114 + (IntKind.wrap IntKind.i64 ((0 : Int) - y113))))])) ≤ 70368744177664))
     (nx (m_impl_Strip_places_4 (x3 ++ [(IntKind.wrap IntKind.i64 (y114 + (IntKind.wrap IntKind.i64 ((0 : Int) - y113))))]) x8 x9 (IntKind.wrap IntKind.i64 (x10 + (1 : Int)))))
     (none))
    (none))
   (Option.bind (idx x3 x10) fun y115 =>
    cond (decide ((((List.length x3) + (List.length [(IntKind.wrap IntKind.i64 (y115 + y113))])) * 8) ≤ 70368744177664))
    (cond (decide (((List.length x3) + (List.length [(IntKind.wrap IntKind.i64 (y115 + y113))])) ≤ 70368744177664))
     (nx (m_impl_Strip_places_4 (x3 ++ [(IntKind.wrap IntKind.i64 (y115 + y113))]) x8 x9 (IntKind.wrap IntKind.i64 (x10 + (1 : Int)))))
     (none))
    (none)))
  (hx.1 (d_impl_Strip_places_4_0 x3))
noncomputable def t_impl_Strip_places_4 {R : Type} (nx : s_impl_Strip_places_4.T → Option R) (hx : exH R x_impl_Strip_places_4) (z : s_impl_Strip_places_4.T) : Option R := u_impl_Strip_places_4 nx hx z.1.1.1 z.1.2.1.1 z.1.2.2.1.1 z.1.2.2.2.1.1
theorem nat_impl_Strip_places_4 : Natural @t_impl_Strip_places_4 := fun R nx hx z => by
  show u_impl_Strip_places_4 nx hx z.1.1.1 z.1.2.1.1 z.1.2.2.1.1 z.1.2.2.2.1.1 = (u_impl_Strip_places_4 (fun y => some (.inl y)) (hIn x_impl_Strip_places_4 fun x => some (.inr x)) z.1.1.1 z.1.2.1.1 z.1.2.2.1.1 z.1.2.2.2.1.1).bind (goOn nx hx)
  unfold u_impl_Strip_places_4
  exact nat_cond (nat_bind fun _ => nat_cond (nat_bind fun _ => nat_cond (nat_cond (rfl) (rfl)) (rfl)) (nat_bind fun _ => nat_cond (nat_cond (rfl) (rfl)) (rfl))) (rfl)
noncomputable def w_impl_Strip_places_4 : s_impl_Strip_places_4.T → Option (exT x_impl_Strip_places_4) := wOf @t_impl_Strip_places_4
theorem wq_impl_Strip_places_4 (x3 : List Int) (x8 : List Int) (x9 : Int) (x10 : Int) : w_impl_Strip_places_4 (m_impl_Strip_places_4 x3 x8 x9 x10) = u_impl_Strip_places_4 w_impl_Strip_places_4 (hIn x_impl_Strip_places_4 some) x3 x8 x9 x10 := wOf_eq nat_impl_Strip_places_4 _
def lh_impl_Strip_places_4 : LoopHint := ⟨[3, 8, 9, 10], [], [3], []⟩
noncomputable def h_impl_Strip_places : Hints Rv := ⟨fun k => match k with | 4 => lh_impl_Strip_places_4 | _ => ⟨[], [], [], []⟩, fun k => match k with | 4 => some (loopX s_impl_Strip_places_4 x_impl_Strip_places_4 w_impl_Strip_places_4) | _ => none⟩
theorem st_impl_Strip_places_4 (n : Nat) (z : s_impl_Strip_places_4.T) (k : Ex → Live → Option Rv) : loopN ⟨31, 31⟩ lh_impl_Strip_places_4 (den (tab C0 T_impl_Strip_places) ⟨31, 31⟩ h_impl_Strip_places 1 (loopOf Try.f51 3)) (n + 1) (s_impl_Strip_places_4.enc z) k =
    t_impl_Strip_places_4 (fun y => loopN ⟨31, 31⟩ lh_impl_Strip_places_4 (den (tab C0 T_impl_Strip_places) ⟨31, 31⟩ h_impl_Strip_places 1 (loopOf Try.f51 3)) n (s_impl_Strip_places_4.enc y) k) (hK k x_impl_Strip_places_4) z := by kernel_rfl
theorem hs_impl_Strip_places : HintsOk (tab C0 T_impl_Strip_places) ⟨31, 31⟩ h_impl_Strip_places 1 (loops (codeOf Try.f51)) := by
  have hl : loops (codeOf Try.f51) = [loopOf Try.f51 3] := by kernel_rfl
  rw [hl]
  exact HintsOk.cons (n := 4) (lh := lh_impl_Strip_places_4) (S := loopX s_impl_Strip_places_4 x_impl_Strip_places_4 w_impl_Strip_places_4) (by kernel_rfl) rfl rfl (loopX_ok nat_impl_Strip_places_4 st_impl_Strip_places_4)
    (HintsOk.nil)
noncomputable def t_impl_Strip_places {R : Type} (kx : (List Int) → Option R) (a0 : ((List Int) × (List Int))) : Option R :=
  Option.bind (w_impl_Strip_places_4 (m_impl_Strip_places_4 [(0 : Int)] a0.1 (((List.length a0.1) : Nat) : Int) (0 : Int))) (exC x_impl_Strip_places_4
  (fun e116 =>
   kx (e116.1.1.1 : List Int), ()))
noncomputable def g_impl_Strip_places (a0 : ((List Int) × (List Int))) : Option ((List Int)) := t_impl_Strip_places some a0
theorem nat_impl_Strip_places {R : Type} (kx : (List Int) → Option R) (a0 : ((List Int) × (List Int))) : t_impl_Strip_places kx a0 = (g_impl_Strip_places a0).bind kx := by
  unfold g_impl_Strip_places t_impl_Strip_places
  exact nat_exC ⟨fun _ => rfl, trivial⟩
abbrev as_impl_Strip_places : List AX := [.val true (.pair (.slice (.int .i64)) (.slice (.int .i64)))]
abbrev en_impl_Strip_places : (List Int) → AV × List CV := fun b => (.one ⟨false, [(.own (.int .i64) b)]⟩, [])
noncomputable abbrev k_impl_Strip_places : Contract := .fx as_impl_Strip_places ((List Int)) (fun z => g_impl_Strip_places z.1) en_impl_Strip_places
theorem r_impl_Strip_places (z : argsX as_impl_Strip_places) : runF (tab C0 T_impl_Strip_places) h_impl_Strip_places 1 Try.f51 (lentOf as_impl_Strip_places) (xBoxes as_impl_Strip_places z) (xVals as_impl_Strip_places 0 z) K2 = t_impl_Strip_places (fun b => some (en_impl_Strip_places b)) z.1 := by kernel_rfl
theorem so_impl_Strip_places : Sound C0 51 k_impl_Strip_places :=
  Sound.fx a_impl_Strip_places mixed Try.func51 (by kernel_rfl) (by kernel_rfl) h_impl_Strip_places 1 hs_impl_Strip_places (fun z => (r_impl_Strip_places z).trans (nat_impl_Strip_places _ z.1))

/-! ### F25 impl.StripPlaces -/
noncomputable def T_impl_StripPlaces : List (FuncId × Contract) := [(11, k_impl_ValidStrip), (51, k_impl_Strip_places)]
theorem a_impl_StripPlaces : AllSound C0 T_impl_StripPlaces := .cons so_impl_ValidStrip (.cons so_impl_Strip_places (.nil))
noncomputable def t_impl_StripPlaces {R : Type} (kx : (List Int) → Option R) (a0 : ((List Int) × (List Int))) : Option R :=
  Option.bind (g_impl_ValidStrip a0) fun y107 =>
  cond (!y107)
  (kx [])
  (Option.bind (g_impl_Strip_places a0) fun y118 =>
   kx y118)
noncomputable def g_impl_StripPlaces (a0 : ((List Int) × (List Int))) : Option ((List Int)) := t_impl_StripPlaces some a0
theorem nat_impl_StripPlaces {R : Type} (kx : (List Int) → Option R) (a0 : ((List Int) × (List Int))) : t_impl_StripPlaces kx a0 = (g_impl_StripPlaces a0).bind kx := by
  unfold g_impl_StripPlaces t_impl_StripPlaces
  exact nat_bind fun _ => nat_cond (rfl) (nat_bind fun _ => rfl)
abbrev as_impl_StripPlaces : List AX := [.val true (.pair (.slice (.int .i64)) (.slice (.int .i64)))]
abbrev en_impl_StripPlaces : (List Int) → AV × List CV := fun b => (.one ⟨false, [(.own (.int .i64) b)]⟩, [])
noncomputable abbrev k_impl_StripPlaces : Contract := .fx as_impl_StripPlaces ((List Int)) (fun z => g_impl_StripPlaces z.1) en_impl_StripPlaces
theorem r_impl_StripPlaces (z : argsX as_impl_StripPlaces) : runF (tab C0 T_impl_StripPlaces) noHints 1 Try.f25 (lentOf as_impl_StripPlaces) (xBoxes as_impl_StripPlaces z) (xVals as_impl_StripPlaces 0 z) K2 = t_impl_StripPlaces (fun b => some (en_impl_StripPlaces b)) z.1 := by kernel_rfl
theorem so_impl_StripPlaces : Sound C0 25 k_impl_StripPlaces :=
  Sound.fx a_impl_StripPlaces mixed Try.func25 (by kernel_rfl) (by kernel_rfl) noHints 1 noHints_ok (fun z => (r_impl_StripPlaces z).trans (nat_impl_StripPlaces _ z.1))

/-! ### F16 laws.eqInt64S -/
noncomputable def T_laws_eqInt64S : List (FuncId × Contract) := []
theorem a_laws_eqInt64S : AllSound C0 T_laws_eqInt64S := .nil
abbrev s_laws_eqInt64S_5 : LS := ⟨[(false, [(.sl (.int .i64))]), (false, [(.sl (.int .i64))]), (false, [(.int .i64)])], [], []⟩
abbrev e_laws_eqInt64S_5_0 : LS := ⟨[(false, [.bool])], [], []⟩
abbrev d_laws_eqInt64S_5_0 (v0 : Bool) : e_laws_eqInt64S_5_0.T := (((v0, ()), ()), (), ())
abbrev e_laws_eqInt64S_5_1 : LS := ⟨[(false, [.undef])], [], []⟩
abbrev d_laws_eqInt64S_5_1 : e_laws_eqInt64S_5_1.T := ((((), ()), ()), (), ())
abbrev x_laws_eqInt64S_5 : List (Ex × LS) := [(.ret, e_laws_eqInt64S_5_0), (.exit 0, e_laws_eqInt64S_5_1)]
abbrev m_laws_eqInt64S_5 (x0 : List Int) (x1 : List Int) (x5 : Int) : s_laws_eqInt64S_5.T := (((x0, ()), (x1, ()), (x5, ()), ()), (), ())
noncomputable def u_laws_eqInt64S_5 {R : Type} (nx : s_laws_eqInt64S_5.T → Option R) (hx : exH R x_laws_eqInt64S_5) (x0 : List Int) (x1 : List Int) (x5 : Int) : Option R :=
  cond (decide (x5 < (((List.length x0) : Nat) : Int)))
  (Option.bind (idx x0 x5) fun y125 =>
   Option.bind (idx x1 x5) fun y126 =>
   cond (y125 != y126)
   (hx.1 (d_laws_eqInt64S_5_0 Bool.false))
   (nx (m_laws_eqInt64S_5 x0 x1 (IntKind.wrap IntKind.i64 (x5 + (1 : Int))))))
  (hx.2.1 (d_laws_eqInt64S_5_1))
noncomputable def t_laws_eqInt64S_5 {R : Type} (nx : s_laws_eqInt64S_5.T → Option R) (hx : exH R x_laws_eqInt64S_5) (z : s_laws_eqInt64S_5.T) : Option R := u_laws_eqInt64S_5 nx hx z.1.1.1 z.1.2.1.1 z.1.2.2.1.1
theorem nat_laws_eqInt64S_5 : Natural @t_laws_eqInt64S_5 := fun R nx hx z => by
  show u_laws_eqInt64S_5 nx hx z.1.1.1 z.1.2.1.1 z.1.2.2.1.1 = (u_laws_eqInt64S_5 (fun y => some (.inl y)) (hIn x_laws_eqInt64S_5 fun x => some (.inr x)) z.1.1.1 z.1.2.1.1 z.1.2.2.1.1).bind (goOn nx hx)
  unfold u_laws_eqInt64S_5
  exact nat_cond (nat_bind fun _ => nat_bind fun _ => nat_cond (rfl) (rfl)) (rfl)
noncomputable def w_laws_eqInt64S_5 : s_laws_eqInt64S_5.T → Option (exT x_laws_eqInt64S_5) := wOf @t_laws_eqInt64S_5
theorem wq_laws_eqInt64S_5 (x0 : List Int) (x1 : List Int) (x5 : Int) : w_laws_eqInt64S_5 (m_laws_eqInt64S_5 x0 x1 x5) = u_laws_eqInt64S_5 w_laws_eqInt64S_5 (hIn x_laws_eqInt64S_5 some) x0 x1 x5 := wOf_eq nat_laws_eqInt64S_5 _
def lh_laws_eqInt64S_5 : LoopHint := ⟨[0, 1, 5], [], [4], []⟩
noncomputable def h_laws_eqInt64S : Hints Rv := ⟨fun k => match k with | 5 => lh_laws_eqInt64S_5 | _ => ⟨[], [], [], []⟩, fun k => match k with | 5 => some (loopX s_laws_eqInt64S_5 x_laws_eqInt64S_5 w_laws_eqInt64S_5) | _ => none⟩
theorem st_laws_eqInt64S_5 (n : Nat) (z : s_laws_eqInt64S_5.T) (k : Ex → Live → Option Rv) : loopN ⟨26, 26⟩ lh_laws_eqInt64S_5 (den (tab C0 T_laws_eqInt64S) ⟨26, 26⟩ h_laws_eqInt64S 1 (loopOf Try.f16 4)) (n + 1) (s_laws_eqInt64S_5.enc z) k =
    t_laws_eqInt64S_5 (fun y => loopN ⟨26, 26⟩ lh_laws_eqInt64S_5 (den (tab C0 T_laws_eqInt64S) ⟨26, 26⟩ h_laws_eqInt64S 1 (loopOf Try.f16 4)) n (s_laws_eqInt64S_5.enc y) k) (hK k x_laws_eqInt64S_5) z := by kernel_rfl
theorem hs_laws_eqInt64S : HintsOk (tab C0 T_laws_eqInt64S) ⟨26, 26⟩ h_laws_eqInt64S 1 (loops (codeOf Try.f16)) := by
  have hl : loops (codeOf Try.f16) = [loopOf Try.f16 4] := by kernel_rfl
  rw [hl]
  exact HintsOk.cons (n := 5) (lh := lh_laws_eqInt64S_5) (S := loopX s_laws_eqInt64S_5 x_laws_eqInt64S_5 w_laws_eqInt64S_5) (by kernel_rfl) rfl rfl (loopX_ok nat_laws_eqInt64S_5 st_laws_eqInt64S_5)
    (HintsOk.nil)
noncomputable def t_laws_eqInt64S {R : Type} (kx : Bool → Option R) (a0 : (List Int)) (a1 : (List Int)) : Option R :=
  cond ((((List.length a0) : Nat) : Int) != (((List.length a1) : Nat) : Int))
  (kx Bool.false)
  (Option.bind (w_laws_eqInt64S_5 (m_laws_eqInt64S_5 a0 a1 (0 : Int))) (exC x_laws_eqInt64S_5
   (fun e127 =>
    kx (e127.1.1.1 : Bool), fun _ =>
    kx Bool.true, ())))
noncomputable def g_laws_eqInt64S (a0 : (List Int)) (a1 : (List Int)) : Option (Bool) := t_laws_eqInt64S some a0 a1
theorem nat_laws_eqInt64S {R : Type} (kx : Bool → Option R) (a0 : (List Int)) (a1 : (List Int)) : t_laws_eqInt64S kx a0 a1 = (g_laws_eqInt64S a0 a1).bind kx := by
  unfold g_laws_eqInt64S t_laws_eqInt64S
  exact nat_cond (rfl) (nat_exC ⟨fun _ => rfl, fun _ => rfl, trivial⟩)
abbrev as_laws_eqInt64S : List AX := [.val false (.slice (.int .i64)), .val false (.slice (.int .i64))]
abbrev en_laws_eqInt64S : Bool → AV × List CV := fun b => (.one ⟨false, [(.v (.bool b))]⟩, [])
noncomputable abbrev k_laws_eqInt64S : Contract := .fx as_laws_eqInt64S (Bool) (fun z => g_laws_eqInt64S z.1 z.2.1) en_laws_eqInt64S
theorem r_laws_eqInt64S (z : argsX as_laws_eqInt64S) : runF (tab C0 T_laws_eqInt64S) h_laws_eqInt64S 1 Try.f16 (lentOf as_laws_eqInt64S) (xBoxes as_laws_eqInt64S z) (xVals as_laws_eqInt64S 0 z) K2 = t_laws_eqInt64S (fun b => some (en_laws_eqInt64S b)) z.1 z.2.1 := by kernel_rfl
theorem so_laws_eqInt64S : Sound C0 16 k_laws_eqInt64S :=
  Sound.fx a_laws_eqInt64S mixed Try.func16 (by kernel_rfl) (by kernel_rfl) h_laws_eqInt64S 1 hs_laws_eqInt64S (fun z => (r_laws_eqInt64S z).trans (nat_laws_eqInt64S _ z.1 z.2.1))

/-! ### F12 laws.eqStrip -/
noncomputable def T_laws_eqStrip : List (FuncId × Contract) := [(16, k_laws_eqInt64S)]
theorem a_laws_eqStrip : AllSound C0 T_laws_eqStrip := .cons so_laws_eqInt64S (.nil)
noncomputable def t_laws_eqStrip {R : Type} (kx : Bool → Option R) (a0 : ((List Int) × (List Int))) (a1 : ((List Int) × (List Int))) : Option R :=
  Option.bind (g_laws_eqInt64S a0.1 a1.1) fun y134 =>
  cond (!y134)
  (kx Bool.false)
  (Option.bind (g_laws_eqInt64S a0.2 a1.2) fun y135 =>
   cond (!y135)
   (kx Bool.false)
   (kx Bool.true))
noncomputable def g_laws_eqStrip (a0 : ((List Int) × (List Int))) (a1 : ((List Int) × (List Int))) : Option (Bool) := t_laws_eqStrip some a0 a1
theorem nat_laws_eqStrip {R : Type} (kx : Bool → Option R) (a0 : ((List Int) × (List Int))) (a1 : ((List Int) × (List Int))) : t_laws_eqStrip kx a0 a1 = (g_laws_eqStrip a0 a1).bind kx := by
  unfold g_laws_eqStrip t_laws_eqStrip
  exact nat_bind fun _ => nat_cond (rfl) (nat_bind fun _ => nat_cond (rfl) (rfl))
abbrev as_laws_eqStrip : List AX := [.val true (.pair (.slice (.int .i64)) (.slice (.int .i64))), .val true (.pair (.slice (.int .i64)) (.slice (.int .i64)))]
abbrev en_laws_eqStrip : Bool → AV × List CV := fun b => (.one ⟨false, [(.v (.bool b))]⟩, [])
noncomputable abbrev k_laws_eqStrip : Contract := .fx as_laws_eqStrip (Bool) (fun z => g_laws_eqStrip z.1 z.2.1) en_laws_eqStrip
theorem r_laws_eqStrip (z : argsX as_laws_eqStrip) : runF (tab C0 T_laws_eqStrip) noHints 1 Try.f12 (lentOf as_laws_eqStrip) (xBoxes as_laws_eqStrip z) (xVals as_laws_eqStrip 0 z) K2 = t_laws_eqStrip (fun b => some (en_laws_eqStrip b)) z.1 z.2.1 := by kernel_rfl
theorem so_laws_eqStrip : Sound C0 12 k_laws_eqStrip :=
  Sound.fx a_laws_eqStrip mixed Try.func12 (by kernel_rfl) (by kernel_rfl) noHints 1 noHints_ok (fun z => (r_laws_eqStrip z).trans (nat_laws_eqStrip _ z.1 z.2.1))

/-! ### F17 laws.markInt64S -/
noncomputable def T_laws_markInt64S : List (FuncId × Contract) := []
theorem a_laws_markInt64S : AllSound C0 T_laws_markInt64S := .nil
abbrev s_laws_markInt64S_3 : LS := ⟨[(false, [(.view (.arg 0) true 0 (.int .i64))]), (false, [(.int .i64)]), (false, [(.int .i64)])], [], [(.own (.int .i64))]⟩
abbrev e_laws_markInt64S_3_0 : LS := ⟨[(false, [(.int .i64)])], [], [(.own (.int .i64))]⟩
abbrev d_laws_markInt64S_3_0 (v0 : Int) (v1 : List Int) : e_laws_markInt64S_3_0.T := (((v0, ()), ()), (), (v1, ()))
abbrev x_laws_markInt64S_3 : List (Ex × LS) := [(.exit 0, e_laws_markInt64S_3_0)]
abbrev m_laws_markInt64S_3 (x0 : List Int) (x1 : Int) (x5 : Int) (o : List Int) : s_laws_markInt64S_3.T := (((x0, ()), (x1, ()), (x5, ()), ()), (), (o, ()))
noncomputable def u_laws_markInt64S_3 {R : Type} (nx : s_laws_markInt64S_3.T → Option R) (hx : exH R x_laws_markInt64S_3) (x0 : List Int) (x1 : Int) (x5 : Int) (o : List Int) : Option R :=
  cond (decide (x5 < (((List.length x0) : Nat) : Int)))
  (Option.bind (idx x0 x5) fun _ =>
   nx (m_laws_markInt64S_3 (if (0 ≤ (0 + (Int.toNat x5))) then (List.set x0 ((0 + (Int.toNat x5)) - 0) x1) else x0) (IntKind.wrap IntKind.i64 (x1 + (1 : Int))) (IntKind.wrap IntKind.i64 (x5 + (1 : Int))) (List.set o (0 + (Int.toNat x5)) x1)))
  (hx.1 (d_laws_markInt64S_3_0 x1 o))
noncomputable def t_laws_markInt64S_3 {R : Type} (nx : s_laws_markInt64S_3.T → Option R) (hx : exH R x_laws_markInt64S_3) (z : s_laws_markInt64S_3.T) : Option R := u_laws_markInt64S_3 nx hx z.1.1.1 z.1.2.1.1 z.1.2.2.1.1 z.2.2.1
theorem nat_laws_markInt64S_3 : Natural @t_laws_markInt64S_3 := fun R nx hx z => by
  show u_laws_markInt64S_3 nx hx z.1.1.1 z.1.2.1.1 z.1.2.2.1.1 z.2.2.1 = (u_laws_markInt64S_3 (fun y => some (.inl y)) (hIn x_laws_markInt64S_3 fun x => some (.inr x)) z.1.1.1 z.1.2.1.1 z.1.2.2.1.1 z.2.2.1).bind (goOn nx hx)
  unfold u_laws_markInt64S_3
  exact nat_cond (nat_bind fun _ => rfl) (rfl)
noncomputable def w_laws_markInt64S_3 : s_laws_markInt64S_3.T → Option (exT x_laws_markInt64S_3) := wOf @t_laws_markInt64S_3
theorem wq_laws_markInt64S_3 (x0 : List Int) (x1 : Int) (x5 : Int) (o : List Int) : w_laws_markInt64S_3 (m_laws_markInt64S_3 x0 x1 x5 o) = u_laws_markInt64S_3 w_laws_markInt64S_3 (hIn x_laws_markInt64S_3 some) x0 x1 x5 o := wOf_eq nat_laws_markInt64S_3 _
def lh_laws_markInt64S_3 : LoopHint := ⟨[0, 1, 5], [], [1], []⟩
noncomputable def h_laws_markInt64S : Hints Rv := ⟨fun k => match k with | 3 => lh_laws_markInt64S_3 | _ => ⟨[], [], [], []⟩, fun k => match k with | 3 => some (loopX s_laws_markInt64S_3 x_laws_markInt64S_3 w_laws_markInt64S_3) | _ => none⟩
theorem st_laws_markInt64S_3 (n : Nat) (z : s_laws_markInt64S_3.T) (k : Ex → Live → Option Rv) : loopN ⟨19, 19⟩ lh_laws_markInt64S_3 (den (tab C0 T_laws_markInt64S) ⟨19, 19⟩ h_laws_markInt64S 1 (loopOf Try.f17 2)) (n + 1) (s_laws_markInt64S_3.enc z) k =
    t_laws_markInt64S_3 (fun y => loopN ⟨19, 19⟩ lh_laws_markInt64S_3 (den (tab C0 T_laws_markInt64S) ⟨19, 19⟩ h_laws_markInt64S 1 (loopOf Try.f17 2)) n (s_laws_markInt64S_3.enc y) k) (hK k x_laws_markInt64S_3) z := by kernel_rfl
theorem hs_laws_markInt64S : HintsOk (tab C0 T_laws_markInt64S) ⟨19, 19⟩ h_laws_markInt64S 1 (loops (codeOf Try.f17)) := by
  have hl : loops (codeOf Try.f17) = [loopOf Try.f17 2] := by kernel_rfl
  rw [hl]
  exact HintsOk.cons (n := 3) (lh := lh_laws_markInt64S_3) (S := loopX s_laws_markInt64S_3 x_laws_markInt64S_3 w_laws_markInt64S_3) (by kernel_rfl) rfl rfl (loopX_ok nat_laws_markInt64S_3 st_laws_markInt64S_3)
    (HintsOk.nil)
noncomputable def t_laws_markInt64S {R : Type} (kx : Int × (List Int) → Option R) (a0 : List Int) (a1 : Int) : Option R :=
  Option.bind (w_laws_markInt64S_3 (m_laws_markInt64S_3 a0 a1 (0 : Int) a0)) (exC x_laws_markInt64S_3
  (fun e147 =>
   kx ((e147.1.1.1 : Int), (e147.2.2.1 : List Int)), ()))
noncomputable def g_laws_markInt64S (a0 : List Int) (a1 : Int) : Option (Int × (List Int)) := t_laws_markInt64S some a0 a1
theorem nat_laws_markInt64S {R : Type} (kx : Int × (List Int) → Option R) (a0 : List Int) (a1 : Int) : t_laws_markInt64S kx a0 a1 = (g_laws_markInt64S a0 a1).bind kx := by
  unfold g_laws_markInt64S t_laws_markInt64S
  exact nat_exC ⟨fun _ => rfl, trivial⟩
abbrev as_laws_markInt64S : List AX := [.io (.int .i64), .val false (.int .i64)]
abbrev en_laws_markInt64S : Int × (List Int) → AV × List CV := fun b => (.one ⟨false, [(.v (.int .i64 b.1))]⟩, [(.own (.int .i64) b.2)])
noncomputable abbrev k_laws_markInt64S : Contract := .fx as_laws_markInt64S (Int × (List Int)) (fun z => g_laws_markInt64S z.1 z.2.1) en_laws_markInt64S
theorem r_laws_markInt64S (z : argsX as_laws_markInt64S) : runF (tab C0 T_laws_markInt64S) h_laws_markInt64S 1 Try.f17 (lentOf as_laws_markInt64S) (xBoxes as_laws_markInt64S z) (xVals as_laws_markInt64S 0 z) K2 = t_laws_markInt64S (fun b => some (en_laws_markInt64S b)) z.1 z.2.1 := by kernel_rfl
theorem so_laws_markInt64S : Sound C0 17 k_laws_markInt64S :=
  Sound.fx a_laws_markInt64S mixed Try.func17 (by kernel_rfl) (by kernel_rfl) h_laws_markInt64S 1 hs_laws_markInt64S (fun z => (r_laws_markInt64S z).trans (nat_laws_markInt64S _ z.1 z.2.1))

/-! ### F26 laws.markStrip -/
noncomputable def T_laws_markStrip : List (FuncId × Contract) := [(17, k_laws_markInt64S)]
theorem a_laws_markStrip : AllSound C0 T_laws_markStrip := .cons so_laws_markInt64S (.nil)
noncomputable def t_laws_markStrip {R : Type} (kx : Int × (List Int) × (List Int) → Option R) (a0_0 : List Int) (a0_1 : List Int) (a1 : Int) : Option R :=
  cond (decide ((List.length a0_0) = (List.length a0_0)))
  (Option.bind (g_laws_markInt64S a0_0 a1) fun y150 =>
   cond (decide ((List.length a0_1) = (List.length a0_1)))
   (Option.bind (g_laws_markInt64S a0_1 y150.1) fun y151 =>
    kx (y151.1, (y150.2, y151.2)))
   (none))
  (none)
noncomputable def g_laws_markStrip (a0_0 : List Int) (a0_1 : List Int) (a1 : Int) : Option (Int × (List Int) × (List Int)) := t_laws_markStrip some a0_0 a0_1 a1
theorem nat_laws_markStrip {R : Type} (kx : Int × (List Int) × (List Int) → Option R) (a0_0 : List Int) (a0_1 : List Int) (a1 : Int) : t_laws_markStrip kx a0_0 a0_1 a1 = (g_laws_markStrip a0_0 a0_1 a1).bind kx := by
  unfold g_laws_markStrip t_laws_markStrip
  exact nat_cond (nat_bind fun _ => nat_cond (nat_bind fun _ => rfl) (rfl)) (rfl)
abbrev as_laws_markStrip : List AX := [.ios true [(.int .i64), (.int .i64)], .val false (.int .i64)]
abbrev en_laws_markStrip : Int × (List Int) × (List Int) → AV × List CV := fun b => (.one ⟨false, [(.v (.int .i64 b.1))]⟩, [(.own (.int .i64) b.2.1), (.own (.int .i64) b.2.2)])
noncomputable abbrev k_laws_markStrip : Contract := .fx as_laws_markStrip (Int × (List Int) × (List Int)) (fun z => g_laws_markStrip z.1.1 z.1.2.1 z.2.1) en_laws_markStrip
theorem r_laws_markStrip (z : argsX as_laws_markStrip) : runF (tab C0 T_laws_markStrip) noHints 1 Try.f26 (lentOf as_laws_markStrip) (xBoxes as_laws_markStrip z) (xVals as_laws_markStrip 0 z) K2 = t_laws_markStrip (fun b => some (en_laws_markStrip b)) z.1.1 z.1.2.1 z.2.1 := by kernel_rfl
theorem so_laws_markStrip : Sound C0 26 k_laws_markStrip :=
  Sound.fx a_laws_markStrip mixed Try.func26 (by kernel_rfl) (by kernel_rfl) noHints 1 noHints_ok (fun z => (r_laws_markStrip z).trans (nat_laws_markStrip _ z.1.1 z.1.2.1 z.2.1))

/-! ### F18 laws.heldInt64S -/
noncomputable def T_laws_heldInt64S : List (FuncId × Contract) := []
theorem a_laws_heldInt64S : AllSound C0 T_laws_heldInt64S := .nil
abbrev s_laws_heldInt64S_3 : LS := ⟨[(false, [(.sl (.int .i64))]), (false, [(.int .i64)]), (false, [(.int .i64)])], [], []⟩
abbrev e_laws_heldInt64S_3_0 : LS := ⟨[(false, [(.int .i64)]), (false, [(.int .i64)])], [], []⟩
abbrev d_laws_heldInt64S_3_0 (v0 : Int) (v1 : Int) : e_laws_heldInt64S_3_0.T := (((v0, ()), (v1, ()), ()), (), ())
abbrev e_laws_heldInt64S_3_1 : LS := ⟨[(false, [(.int .i64)]), (false, [.undef])], [], []⟩
abbrev d_laws_heldInt64S_3_1 (v0 : Int) : e_laws_heldInt64S_3_1.T := (((v0, ()), ((), ()), ()), (), ())
abbrev x_laws_heldInt64S_3 : List (Ex × LS) := [(.ret, e_laws_heldInt64S_3_0), (.exit 0, e_laws_heldInt64S_3_1)]
abbrev m_laws_heldInt64S_3 (x0 : List Int) (x1 : Int) (x5 : Int) : s_laws_heldInt64S_3.T := (((x0, ()), (x1, ()), (x5, ()), ()), (), ())
noncomputable def u_laws_heldInt64S_3 {R : Type} (nx : s_laws_heldInt64S_3.T → Option R) (hx : exH R x_laws_heldInt64S_3) (x0 : List Int) (x1 : Int) (x5 : Int) : Option R :=
  cond (decide (x5 < (((List.length x0) : Nat) : Int)))
  (Option.bind (idx x0 x5) fun y160 =>
   cond (y160 != x1)
   (hx.1 (d_laws_heldInt64S_3_0 x1 (-(1 : Int))))
   (nx (m_laws_heldInt64S_3 x0 (IntKind.wrap IntKind.i64 (x1 + (1 : Int))) (IntKind.wrap IntKind.i64 (x5 + (1 : Int))))))
  (hx.2.1 (d_laws_heldInt64S_3_1 x1))
noncomputable def t_laws_heldInt64S_3 {R : Type} (nx : s_laws_heldInt64S_3.T → Option R) (hx : exH R x_laws_heldInt64S_3) (z : s_laws_heldInt64S_3.T) : Option R := u_laws_heldInt64S_3 nx hx z.1.1.1 z.1.2.1.1 z.1.2.2.1.1
theorem nat_laws_heldInt64S_3 : Natural @t_laws_heldInt64S_3 := fun R nx hx z => by
  show u_laws_heldInt64S_3 nx hx z.1.1.1 z.1.2.1.1 z.1.2.2.1.1 = (u_laws_heldInt64S_3 (fun y => some (.inl y)) (hIn x_laws_heldInt64S_3 fun x => some (.inr x)) z.1.1.1 z.1.2.1.1 z.1.2.2.1.1).bind (goOn nx hx)
  unfold u_laws_heldInt64S_3
  exact nat_cond (nat_bind fun _ => nat_cond (rfl) (rfl)) (rfl)
noncomputable def w_laws_heldInt64S_3 : s_laws_heldInt64S_3.T → Option (exT x_laws_heldInt64S_3) := wOf @t_laws_heldInt64S_3
theorem wq_laws_heldInt64S_3 (x0 : List Int) (x1 : Int) (x5 : Int) : w_laws_heldInt64S_3 (m_laws_heldInt64S_3 x0 x1 x5) = u_laws_heldInt64S_3 w_laws_heldInt64S_3 (hIn x_laws_heldInt64S_3 some) x0 x1 x5 := wOf_eq nat_laws_heldInt64S_3 _
def lh_laws_heldInt64S_3 : LoopHint := ⟨[0, 1, 5], [], [1, 4], []⟩
noncomputable def h_laws_heldInt64S : Hints Rv := ⟨fun k => match k with | 3 => lh_laws_heldInt64S_3 | _ => ⟨[], [], [], []⟩, fun k => match k with | 3 => some (loopX s_laws_heldInt64S_3 x_laws_heldInt64S_3 w_laws_heldInt64S_3) | _ => none⟩
theorem st_laws_heldInt64S_3 (n : Nat) (z : s_laws_heldInt64S_3.T) (k : Ex → Live → Option Rv) : loopN ⟨21, 21⟩ lh_laws_heldInt64S_3 (den (tab C0 T_laws_heldInt64S) ⟨21, 21⟩ h_laws_heldInt64S 1 (loopOf Try.f18 2)) (n + 1) (s_laws_heldInt64S_3.enc z) k =
    t_laws_heldInt64S_3 (fun y => loopN ⟨21, 21⟩ lh_laws_heldInt64S_3 (den (tab C0 T_laws_heldInt64S) ⟨21, 21⟩ h_laws_heldInt64S 1 (loopOf Try.f18 2)) n (s_laws_heldInt64S_3.enc y) k) (hK k x_laws_heldInt64S_3) z := by kernel_rfl
theorem hs_laws_heldInt64S : HintsOk (tab C0 T_laws_heldInt64S) ⟨21, 21⟩ h_laws_heldInt64S 1 (loops (codeOf Try.f18)) := by
  have hl : loops (codeOf Try.f18) = [loopOf Try.f18 2] := by kernel_rfl
  rw [hl]
  exact HintsOk.cons (n := 3) (lh := lh_laws_heldInt64S_3) (S := loopX s_laws_heldInt64S_3 x_laws_heldInt64S_3 w_laws_heldInt64S_3) (by kernel_rfl) rfl rfl (loopX_ok nat_laws_heldInt64S_3 st_laws_heldInt64S_3)
    (HintsOk.nil)
noncomputable def t_laws_heldInt64S {R : Type} (kx : Int → Option R) (a0 : (List Int)) (a1 : Int) : Option R :=
  Option.bind (w_laws_heldInt64S_3 (m_laws_heldInt64S_3 a0 a1 (0 : Int))) (exC x_laws_heldInt64S_3
  (fun e161 =>
   kx (e161.1.2.1.1 : Int), fun e164 =>
   kx (e164.1.1.1 : Int), ()))
noncomputable def g_laws_heldInt64S (a0 : (List Int)) (a1 : Int) : Option (Int) := t_laws_heldInt64S some a0 a1
theorem nat_laws_heldInt64S {R : Type} (kx : Int → Option R) (a0 : (List Int)) (a1 : Int) : t_laws_heldInt64S kx a0 a1 = (g_laws_heldInt64S a0 a1).bind kx := by
  unfold g_laws_heldInt64S t_laws_heldInt64S
  exact nat_exC ⟨fun _ => rfl, fun _ => rfl, trivial⟩
abbrev as_laws_heldInt64S : List AX := [.val false (.slice (.int .i64)), .val false (.int .i64)]
abbrev en_laws_heldInt64S : Int → AV × List CV := fun b => (.one ⟨false, [(.v (.int .i64 b))]⟩, [])
noncomputable abbrev k_laws_heldInt64S : Contract := .fx as_laws_heldInt64S (Int) (fun z => g_laws_heldInt64S z.1 z.2.1) en_laws_heldInt64S
theorem r_laws_heldInt64S (z : argsX as_laws_heldInt64S) : runF (tab C0 T_laws_heldInt64S) h_laws_heldInt64S 1 Try.f18 (lentOf as_laws_heldInt64S) (xBoxes as_laws_heldInt64S z) (xVals as_laws_heldInt64S 0 z) K2 = t_laws_heldInt64S (fun b => some (en_laws_heldInt64S b)) z.1 z.2.1 := by kernel_rfl
theorem so_laws_heldInt64S : Sound C0 18 k_laws_heldInt64S :=
  Sound.fx a_laws_heldInt64S mixed Try.func18 (by kernel_rfl) (by kernel_rfl) h_laws_heldInt64S 1 hs_laws_heldInt64S (fun z => (r_laws_heldInt64S z).trans (nat_laws_heldInt64S _ z.1 z.2.1))

/-! ### F6 laws.FnExactStripPlaces -/
noncomputable def T_laws_FnExactStripPlaces : List (FuncId × Contract) := [(8, k_laws_szStrip), (10, k_laws_toStrip), (24, k_spec_StripPlaces), (25, k_impl_StripPlaces), (16, k_laws_eqInt64S), (12, k_laws_eqStrip), (26, k_laws_markStrip), (17, k_laws_markInt64S), (18, k_laws_heldInt64S)]
theorem a_laws_FnExactStripPlaces : AllSound C0 T_laws_FnExactStripPlaces := .cons so_laws_szStrip (.cons so_laws_toStrip (.cons so_spec_StripPlaces (.cons so_impl_StripPlaces (.cons so_laws_eqInt64S (.cons so_laws_eqStrip (.cons so_laws_markStrip (.cons so_laws_markInt64S (.cons so_laws_heldInt64S (.nil)))))))))
noncomputable def t_laws_FnExactStripPlaces {R : Type} (kx : Bool → Option R) (a0 : ((List Int) × (List Int))) : Option R :=
  Option.bind (g_laws_szStrip a0 (1048576 : Int)) fun y7 =>
  cond (decide (y7 < (0 : Int)))
  (kx Bool.true)
  (Option.bind (g_laws_toStrip a0) fun y19 =>
   Option.bind (g_spec_StripPlaces y19) fun y58 =>
   Option.bind (g_laws_toStrip a0) fun y59 =>
   Option.bind (g_impl_StripPlaces y59) fun y119 =>
   Option.bind (g_laws_eqInt64S y119 y58) fun y130 =>
   cond (!y130)
   (kx Bool.false)
   (Option.bind (g_laws_toStrip a0) fun y131 =>
    Option.bind (g_laws_eqStrip y59 y131) fun y136 =>
    cond (!y136)
    (kx Bool.false)
    (cond (decide ((List.length y59.1) = (List.length y59.1)))
     (cond (decide ((List.length y59.2) = (List.length y59.2)))
      (Option.bind (g_laws_markStrip y59.1 y59.2 (1 : Int)) fun y152 =>
       cond (decide (y152.1 < (0 : Int)))
       (kx Bool.false)
       (Option.bind (g_laws_eqInt64S y119 y58) fun y153 =>
        cond (!y153)
        (kx Bool.false)
        (cond (decide ((List.length y119) = (List.length y119)))
         (Option.bind (g_laws_markInt64S y119 (1 : Int)) fun y154 =>
          Option.bind (g_laws_heldInt64S y154.2 (1 : Int)) fun y166 =>
          cond (decide (y166 < (0 : Int)))
          (kx Bool.false)
          (cond (y166 != y154.1)
           (kx Bool.false)
           (Option.bind (g_laws_toStrip a0) fun y167 =>
            Option.bind (g_impl_StripPlaces y167) fun y168 =>
            Option.bind (g_laws_eqInt64S y168 y58) fun y169 =>
            cond (!y169)
            (kx Bool.false)
            (Option.bind (g_laws_heldInt64S y154.2 (1 : Int)) fun y170 =>
             cond (decide (y170 < (0 : Int)))
             (kx Bool.false)
             (cond (y170 != y154.1)
              (kx Bool.false)
              (kx Bool.true))))))
         (none))))
      (none))
     (none))))
noncomputable def g_laws_FnExactStripPlaces (a0 : ((List Int) × (List Int))) : Option (Bool) := t_laws_FnExactStripPlaces some a0
theorem nat_laws_FnExactStripPlaces {R : Type} (kx : Bool → Option R) (a0 : ((List Int) × (List Int))) : t_laws_FnExactStripPlaces kx a0 = (g_laws_FnExactStripPlaces a0).bind kx := by
  unfold g_laws_FnExactStripPlaces t_laws_FnExactStripPlaces
  exact nat_bind fun _ => nat_cond (rfl) (nat_bind fun _ => nat_bind fun _ => nat_bind fun _ => nat_bind fun _ => nat_bind fun _ => nat_cond (rfl) (nat_bind fun _ => nat_bind fun _ => nat_cond (rfl) (nat_cond (nat_cond (nat_bind fun _ => nat_cond (rfl) (nat_bind fun _ => nat_cond (rfl) (nat_cond (nat_bind fun _ => nat_bind fun _ => nat_cond (rfl) (nat_cond (rfl) (nat_bind fun _ => nat_bind fun _ => nat_bind fun _ => nat_cond (rfl) (nat_bind fun _ => nat_cond (rfl) (nat_cond (rfl) (rfl)))))) (rfl)))) (rfl)) (rfl))))
abbrev as_laws_FnExactStripPlaces : List AX := [.val true (.pair (.slice (.int .i64)) (.slice (.int .i64)))]
abbrev en_laws_FnExactStripPlaces : Bool → AV × List CV := fun b => (.one ⟨false, [(.v (.bool b))]⟩, [])
noncomputable abbrev k_laws_FnExactStripPlaces : Contract := .fx as_laws_FnExactStripPlaces (Bool) (fun z => g_laws_FnExactStripPlaces z.1) en_laws_FnExactStripPlaces
theorem r_laws_FnExactStripPlaces (z : argsX as_laws_FnExactStripPlaces) : runF (tab C0 T_laws_FnExactStripPlaces) noHints 1 Try.f6 (lentOf as_laws_FnExactStripPlaces) (xBoxes as_laws_FnExactStripPlaces z) (xVals as_laws_FnExactStripPlaces 0 z) K2 = t_laws_FnExactStripPlaces (fun b => some (en_laws_FnExactStripPlaces b)) z.1 := by kernel_rfl
theorem so_laws_FnExactStripPlaces : Sound C0 6 k_laws_FnExactStripPlaces :=
  Sound.fx a_laws_FnExactStripPlaces mixed Try.func6 (by kernel_rfl) (by kernel_rfl) noHints 1 noHints_ok (fun z => (r_laws_FnExactStripPlaces z).trans (nat_laws_FnExactStripPlaces _ z.1))

end Go.Proofs.Ytnpejkbnepncfaa
