/- What the functions that ReduceStrip reaches compute, printed. No conditions. -/
import Derived.Test.YtpabholjoblkbaaW1P
namespace Go.Proofs.Ytpabholjoblkbaa
open Go.Vai
set_option maxRecDepth 100000

/-! ### F37 laws.szInt64S -/
noncomputable def T_laws_szInt64S : List (FuncId × Contract) := []
theorem a_laws_szInt64S : AllSound C0 T_laws_szInt64S := .nil
noncomputable def t_laws_szInt64S {R : Type} (kx : Int → Option R) (a0 : (List Int)) (a1 : Int) : Option R :=
  cond (decide ((IntKind.wrap IntKind.i64 (a1 - (((List.length a0) : Nat) : Int))) < (0 : Int)))
  (kx (-(1 : Int)))
  (kx (IntKind.wrap IntKind.i64 (a1 - (((List.length a0) : Nat) : Int))))
noncomputable def g_laws_szInt64S (a0 : (List Int)) (a1 : Int) : Option (Int) := t_laws_szInt64S some a0 a1
theorem nat_laws_szInt64S {R : Type} (kx : Int → Option R) (a0 : (List Int)) (a1 : Int) : t_laws_szInt64S kx a0 a1 = (g_laws_szInt64S a0 a1).bind kx := by
  unfold g_laws_szInt64S t_laws_szInt64S
  exact nat_cond (rfl) (rfl)
abbrev as_laws_szInt64S : List AX := [.val false (.slice (.int .i64)), .val false (.int .i64)]
abbrev en_laws_szInt64S : Int → AV × List CV := fun b => (.one ⟨false, [(.v (.int .i64 b))]⟩, [])
noncomputable abbrev k_laws_szInt64S : Contract := .fx as_laws_szInt64S (Int) (fun z => g_laws_szInt64S z.1 z.2.1) en_laws_szInt64S
theorem r_laws_szInt64S (z : argsX as_laws_szInt64S) : runF (tab C0 T_laws_szInt64S) noHints 1 Try.f37 (lentOf as_laws_szInt64S) (xBoxes as_laws_szInt64S z) (xVals as_laws_szInt64S 0 z) K2 = t_laws_szInt64S (fun b => some (en_laws_szInt64S b)) z.1 z.2.1 := by kernel_rfl
theorem so_laws_szInt64S : Sound C0 37 k_laws_szInt64S :=
  Sound.fx a_laws_szInt64S mixed Try.func37 (by kernel_rfl) (by kernel_rfl) noHints 1 noHints_ok (fun z => (r_laws_szInt64S z).trans (nat_laws_szInt64S _ z.1 z.2.1))

/-! ### F10 laws.szStrip -/
noncomputable def T_laws_szStrip : List (FuncId × Contract) := [(37, k_laws_szInt64S)]
theorem a_laws_szStrip : AllSound C0 T_laws_szStrip := .cons so_laws_szInt64S (.nil)
noncomputable def t_laws_szStrip {R : Type} (kx : Int → Option R) (a0 : ((List Int) × (List Int))) (a1 : Int) : Option R :=
  Option.bind (g_laws_szInt64S a0.1 a1) fun y5 =>
  cond (decide (y5 < (0 : Int)))
  (kx (-(1 : Int)))
  (Option.bind (g_laws_szInt64S a0.2 y5) fun y6 =>
   cond (decide (y6 < (0 : Int)))
   (kx (-(1 : Int)))
   (kx y6))
noncomputable def g_laws_szStrip (a0 : ((List Int) × (List Int))) (a1 : Int) : Option (Int) := t_laws_szStrip some a0 a1
theorem nat_laws_szStrip {R : Type} (kx : Int → Option R) (a0 : ((List Int) × (List Int))) (a1 : Int) : t_laws_szStrip kx a0 a1 = (g_laws_szStrip a0 a1).bind kx := by
  unfold g_laws_szStrip t_laws_szStrip
  exact nat_bind fun _ => nat_cond (rfl) (nat_bind fun _ => nat_cond (rfl) (rfl))
abbrev as_laws_szStrip : List AX := [.val true (.pair (.slice (.int .i64)) (.slice (.int .i64))), .val false (.int .i64)]
abbrev en_laws_szStrip : Int → AV × List CV := fun b => (.one ⟨false, [(.v (.int .i64 b))]⟩, [])
noncomputable abbrev k_laws_szStrip : Contract := .fx as_laws_szStrip (Int) (fun z => g_laws_szStrip z.1 z.2.1) en_laws_szStrip
theorem r_laws_szStrip (z : argsX as_laws_szStrip) : runF (tab C0 T_laws_szStrip) noHints 1 Try.f10 (lentOf as_laws_szStrip) (xBoxes as_laws_szStrip z) (xVals as_laws_szStrip 0 z) K2 = t_laws_szStrip (fun b => some (en_laws_szStrip b)) z.1 z.2.1 := by kernel_rfl
theorem so_laws_szStrip : Sound C0 10 k_laws_szStrip :=
  Sound.fx a_laws_szStrip mixed Try.func10 (by kernel_rfl) (by kernel_rfl) noHints 1 noHints_ok (fun z => (r_laws_szStrip z).trans (nat_laws_szStrip _ z.1 z.2.1))

/-! ### F24 laws.toInt64S -/
noncomputable def T_laws_toInt64S : List (FuncId × Contract) := []
theorem a_laws_toInt64S : AllSound C0 T_laws_toInt64S := .nil
abbrev s_laws_toInt64S_4 : LS := ⟨[(false, [(.sl (.int .i64))]), (false, [(.own (.int .i64))]), (false, [(.int .i64)])], [], []⟩
abbrev e_laws_toInt64S_4_0 : LS := ⟨[(false, [(.own (.int .i64))])], [], []⟩
abbrev d_laws_toInt64S_4_0 (v0 : List Int) : e_laws_toInt64S_4_0.T := (((v0, ()), ()), (), ())
abbrev x_laws_toInt64S_4 : List (Ex × LS) := [(.exit 0, e_laws_toInt64S_4_0)]
abbrev m_laws_toInt64S_4 (x0 : List Int) (x3 : List Int) (x4 : Int) : s_laws_toInt64S_4.T := (((x0, ()), (x3, ()), (x4, ()), ()), (), ())
noncomputable def u_laws_toInt64S_4 {R : Type} (nx : s_laws_toInt64S_4.T → Option R) (hx : exH R x_laws_toInt64S_4) (x0 : List Int) (x3 : List Int) (x4 : Int) : Option R :=
  cond (decide (x4 < (((List.length x0) : Nat) : Int)))
  (Option.bind (idx x0 x4) fun y13 =>
   Option.bind (idx x3 x4) fun _ =>
   nx (m_laws_toInt64S_4 x0 (List.set x3 (0 + (Int.toNat x4)) y13) (IntKind.wrap IntKind.i64 (x4 + (1 : Int)))))
  (hx.1 (d_laws_toInt64S_4_0 x3))
noncomputable def t_laws_toInt64S_4 {R : Type} (nx : s_laws_toInt64S_4.T → Option R) (hx : exH R x_laws_toInt64S_4) (z : s_laws_toInt64S_4.T) : Option R := u_laws_toInt64S_4 nx hx z.1.1.1 z.1.2.1.1 z.1.2.2.1.1
theorem nat_laws_toInt64S_4 : Natural @t_laws_toInt64S_4 := fun R nx hx z => by
  show u_laws_toInt64S_4 nx hx z.1.1.1 z.1.2.1.1 z.1.2.2.1.1 = (u_laws_toInt64S_4 (fun y => some (.inl y)) (hIn x_laws_toInt64S_4 fun x => some (.inr x)) z.1.1.1 z.1.2.1.1 z.1.2.2.1.1).bind (goOn nx hx)
  unfold u_laws_toInt64S_4
  exact nat_cond (nat_bind fun _ => nat_bind fun _ => rfl) (rfl)
noncomputable def w_laws_toInt64S_4 : s_laws_toInt64S_4.T → Option (exT x_laws_toInt64S_4) := wOf @t_laws_toInt64S_4
theorem wq_laws_toInt64S_4 (x0 : List Int) (x3 : List Int) (x4 : Int) : w_laws_toInt64S_4 (m_laws_toInt64S_4 x0 x3 x4) = u_laws_toInt64S_4 w_laws_toInt64S_4 (hIn x_laws_toInt64S_4 some) x0 x3 x4 := wOf_eq nat_laws_toInt64S_4 _
def lh_laws_toInt64S_4 : LoopHint := ⟨[0, 3, 4], [], [3], []⟩
noncomputable def h_laws_toInt64S : Hints Rv := ⟨fun k => match k with | 4 => lh_laws_toInt64S_4 | _ => ⟨[], [], [], []⟩, fun k => match k with | 4 => some (loopX s_laws_toInt64S_4 x_laws_toInt64S_4 w_laws_toInt64S_4) | _ => none⟩
theorem st_laws_toInt64S_4 (n : Nat) (z : s_laws_toInt64S_4.T) (k : Ex → Live → Option Rv) : loopN ⟨22, 22⟩ lh_laws_toInt64S_4 (den (tab C0 T_laws_toInt64S) ⟨22, 22⟩ h_laws_toInt64S 1 (loopOf Try.f24 3)) (n + 1) (s_laws_toInt64S_4.enc z) k =
    t_laws_toInt64S_4 (fun y => loopN ⟨22, 22⟩ lh_laws_toInt64S_4 (den (tab C0 T_laws_toInt64S) ⟨22, 22⟩ h_laws_toInt64S 1 (loopOf Try.f24 3)) n (s_laws_toInt64S_4.enc y) k) (hK k x_laws_toInt64S_4) z := by kernel_rfl
theorem hs_laws_toInt64S : HintsOk (tab C0 T_laws_toInt64S) ⟨22, 22⟩ h_laws_toInt64S 1 (loops (codeOf Try.f24)) := by
  have hl : loops (codeOf Try.f24) = [loopOf Try.f24 3] := by kernel_rfl
  rw [hl]
  exact HintsOk.cons (n := 4) (lh := lh_laws_toInt64S_4) (S := loopX s_laws_toInt64S_4 x_laws_toInt64S_4 w_laws_toInt64S_4) (by kernel_rfl) rfl rfl (loopX_ok nat_laws_toInt64S_4 st_laws_toInt64S_4)
    (HintsOk.nil)
noncomputable def t_laws_toInt64S {R : Type} (kx : (List Int) → Option R) (a0 : (List Int)) : Option R :=
  cond (decide ((((List.length a0) : Nat) : Int) ≤ (((List.length a0) : Nat) : Int)))
  (cond (decide (((((List.length a0) : Nat) : Int) * ((8 : Nat) : Int)) ≤ (70368744177664 : Int)))
   (cond (decide ((((List.length a0) : Nat) : Int) ≤ (70368744177664 : Int)))
    (Option.bind (w_laws_toInt64S_4 (m_laws_toInt64S_4 a0 (List.replicate (Int.toNat (((List.length a0) : Nat) : Int)) (0 : Int)) (0 : Int))) (exC x_laws_toInt64S_4
     (fun e15 =>
      kx (e15.1.1.1 : List Int), ())))
    (none))
   (none))
  (none)
noncomputable def g_laws_toInt64S (a0 : (List Int)) : Option ((List Int)) := t_laws_toInt64S some a0
theorem nat_laws_toInt64S {R : Type} (kx : (List Int) → Option R) (a0 : (List Int)) : t_laws_toInt64S kx a0 = (g_laws_toInt64S a0).bind kx := by
  unfold g_laws_toInt64S t_laws_toInt64S
  exact nat_cond (nat_cond (nat_cond (nat_exC ⟨fun _ => rfl, trivial⟩) (rfl)) (rfl)) (rfl)
abbrev as_laws_toInt64S : List AX := [.val false (.slice (.int .i64))]
abbrev en_laws_toInt64S : (List Int) → AV × List CV := fun b => (.one ⟨false, [(.own (.int .i64) b)]⟩, [])
noncomputable abbrev k_laws_toInt64S : Contract := .fx as_laws_toInt64S ((List Int)) (fun z => g_laws_toInt64S z.1) en_laws_toInt64S
theorem r_laws_toInt64S (z : argsX as_laws_toInt64S) : runF (tab C0 T_laws_toInt64S) h_laws_toInt64S 1 Try.f24 (lentOf as_laws_toInt64S) (xBoxes as_laws_toInt64S z) (xVals as_laws_toInt64S 0 z) K2 = t_laws_toInt64S (fun b => some (en_laws_toInt64S b)) z.1 := by kernel_rfl
theorem so_laws_toInt64S : Sound C0 24 k_laws_toInt64S :=
  Sound.fx a_laws_toInt64S mixed Try.func24 (by kernel_rfl) (by kernel_rfl) h_laws_toInt64S 1 hs_laws_toInt64S (fun z => (r_laws_toInt64S z).trans (nat_laws_toInt64S _ z.1))

/-! ### F12 laws.toStrip -/
noncomputable def T_laws_toStrip : List (FuncId × Contract) := [(24, k_laws_toInt64S)]
theorem a_laws_toStrip : AllSound C0 T_laws_toStrip := .cons so_laws_toInt64S (.nil)
noncomputable def t_laws_toStrip {R : Type} (kx : ((List Int) × (List Int)) → Option R) (a0 : ((List Int) × (List Int))) : Option R :=
  Option.bind (g_laws_toInt64S a0.1) fun y17 =>
  Option.bind (g_laws_toInt64S a0.2) fun y18 =>
  kx (y17, y18)
noncomputable def g_laws_toStrip (a0 : ((List Int) × (List Int))) : Option (((List Int) × (List Int))) := t_laws_toStrip some a0
theorem nat_laws_toStrip {R : Type} (kx : ((List Int) × (List Int)) → Option R) (a0 : ((List Int) × (List Int))) : t_laws_toStrip kx a0 = (g_laws_toStrip a0).bind kx := by
  unfold g_laws_toStrip t_laws_toStrip
  exact nat_bind fun _ => nat_bind fun _ => rfl
abbrev as_laws_toStrip : List AX := [.val true (.pair (.slice (.int .i64)) (.slice (.int .i64)))]
abbrev en_laws_toStrip : ((List Int) × (List Int)) → AV × List CV := fun b => (.one ⟨true, [(.own (.int .i64) b.1), (.own (.int .i64) b.2)]⟩, [])
noncomputable abbrev k_laws_toStrip : Contract := .fx as_laws_toStrip (((List Int) × (List Int))) (fun z => g_laws_toStrip z.1) en_laws_toStrip
theorem r_laws_toStrip (z : argsX as_laws_toStrip) : runF (tab C0 T_laws_toStrip) noHints 1 Try.f12 (lentOf as_laws_toStrip) (xBoxes as_laws_toStrip z) (xVals as_laws_toStrip 0 z) K2 = t_laws_toStrip (fun b => some (en_laws_toStrip b)) z.1 := by kernel_rfl
theorem so_laws_toStrip : Sound C0 12 k_laws_toStrip :=
  Sound.fx a_laws_toStrip mixed Try.func12 (by kernel_rfl) (by kernel_rfl) noHints 1 noHints_ok (fun z => (r_laws_toStrip z).trans (nat_laws_toStrip _ z.1))

/-! ### F56 spec.l00In -/
noncomputable def T_spec_l00In : List (FuncId × Contract) := []
theorem a_spec_l00In : AllSound C0 T_spec_l00In := .nil
noncomputable def t_spec_l00In {R : Type} (kx : Bool → Option R) (a0 : Int) (a1 : Int) (a2 : Int) : Option R :=
  cond (decide (a0 ≥ a1))
  (kx (decide (a0 ≤ a2)))
  (kx Bool.false)
noncomputable def g_spec_l00In (a0 : Int) (a1 : Int) (a2 : Int) : Option (Bool) := t_spec_l00In some a0 a1 a2
theorem nat_spec_l00In {R : Type} (kx : Bool → Option R) (a0 : Int) (a1 : Int) (a2 : Int) : t_spec_l00In kx a0 a1 a2 = (g_spec_l00In a0 a1 a2).bind kx := by
  unfold g_spec_l00In t_spec_l00In
  exact nat_cond (rfl) (rfl)
abbrev as_spec_l00In : List AX := [.val false (.int .i64), .val false (.int .i64), .val false (.int .i64)]
abbrev en_spec_l00In : Bool → AV × List CV := fun b => (.one ⟨false, [(.v (.bool b))]⟩, [])
noncomputable abbrev k_spec_l00In : Contract := .fx as_spec_l00In (Bool) (fun z => g_spec_l00In z.1 z.2.1 z.2.2.1) en_spec_l00In
theorem r_spec_l00In (z : argsX as_spec_l00In) : runF (tab C0 T_spec_l00In) noHints 1 Try.f56 (lentOf as_spec_l00In) (xBoxes as_spec_l00In z) (xVals as_spec_l00In 0 z) K2 = t_spec_l00In (fun b => some (en_spec_l00In b)) z.1 z.2.1 z.2.2.1 := by kernel_rfl
theorem so_spec_l00In : Sound C0 56 k_spec_l00In :=
  Sound.fx a_spec_l00In mixed Try.func56 (by kernel_rfl) (by kernel_rfl) noHints 1 noHints_ok (fun z => (r_spec_l00In z).trans (nat_spec_l00In _ z.1 z.2.1 z.2.2.1))

/-! ### F49 spec.l25Sizes -/
noncomputable def T_spec_l25Sizes : List (FuncId × Contract) := [(56, k_spec_l00In)]
theorem a_spec_l25Sizes : AllSound C0 T_spec_l25Sizes := .cons so_spec_l00In (.nil)
abbrev s_spec_l25Sizes_6 : LS := ⟨[(false, [(.sl (.int .i64))]), (false, [(.int .i64)]), (false, [(.int .i64)])], [], []⟩
abbrev e_spec_l25Sizes_6_0 : LS := ⟨[(false, [.bool]), (false, [(.int .i64)])], [], []⟩
abbrev d_spec_l25Sizes_6_0 (v0 : Bool) (v1 : Int) : e_spec_l25Sizes_6_0.T := (((v0, ()), (v1, ()), ()), (), ())
abbrev e_spec_l25Sizes_6_1 : LS := ⟨[(false, [.undef]), (false, [(.int .i64)])], [], []⟩
abbrev d_spec_l25Sizes_6_1 (v0 : Int) : e_spec_l25Sizes_6_1.T := ((((), ()), (v0, ()), ()), (), ())
abbrev x_spec_l25Sizes_6 : List (Ex × LS) := [(.ret, e_spec_l25Sizes_6_0), (.exit 0, e_spec_l25Sizes_6_1)]
abbrev m_spec_l25Sizes_6 (x0 : List Int) (x3 : Int) (x4 : Int) : s_spec_l25Sizes_6.T := (((x0, ()), (x3, ()), (x4, ()), ()), (), ())
noncomputable def u_spec_l25Sizes_6 {R : Type} (nx : s_spec_l25Sizes_6.T → Option R) (hx : exH R x_spec_l25Sizes_6) (x0 : List Int) (x3 : Int) (x4 : Int) : Option R :=
  cond (decide (x4 < (((List.length x0) : Nat) : Int)))
  (Option.bind (idx x0 x4) fun y30 =>
   Option.bind (g_spec_l00In y30 (1 : Int) (1000 : Int)) fun y31 =>
   cond (!y31)
   (hx.1 (d_spec_l25Sizes_6_0 Bool.false x3))
   (Option.bind (idx x0 x4) fun y32 =>
    nx (m_spec_l25Sizes_6 x0 (IntKind.wrap IntKind.i64 (x3 + y32)) (IntKind.wrap IntKind.i64 (x4 + (1 : Int))))))
  (hx.2.1 (d_spec_l25Sizes_6_1 x3))
noncomputable def t_spec_l25Sizes_6 {R : Type} (nx : s_spec_l25Sizes_6.T → Option R) (hx : exH R x_spec_l25Sizes_6) (z : s_spec_l25Sizes_6.T) : Option R := u_spec_l25Sizes_6 nx hx z.1.1.1 z.1.2.1.1 z.1.2.2.1.1
theorem nat_spec_l25Sizes_6 : Natural @t_spec_l25Sizes_6 := fun R nx hx z => by
  show u_spec_l25Sizes_6 nx hx z.1.1.1 z.1.2.1.1 z.1.2.2.1.1 = (u_spec_l25Sizes_6 (fun y => some (.inl y)) (hIn x_spec_l25Sizes_6 fun x => some (.inr x)) z.1.1.1 z.1.2.1.1 z.1.2.2.1.1).bind (goOn nx hx)
  unfold u_spec_l25Sizes_6
  exact nat_cond (nat_bind fun _ => nat_bind fun _ => nat_cond (rfl) (nat_bind fun _ => rfl)) (rfl)
noncomputable def w_spec_l25Sizes_6 : s_spec_l25Sizes_6.T → Option (exT x_spec_l25Sizes_6) := wOf @t_spec_l25Sizes_6
theorem wq_spec_l25Sizes_6 (x0 : List Int) (x3 : Int) (x4 : Int) : w_spec_l25Sizes_6 (m_spec_l25Sizes_6 x0 x3 x4) = u_spec_l25Sizes_6 w_spec_l25Sizes_6 (hIn x_spec_l25Sizes_6 some) x0 x3 x4 := wOf_eq nat_spec_l25Sizes_6 _
def lh_spec_l25Sizes_6 : LoopHint := ⟨[0, 3, 4], [], [2, 3], []⟩
noncomputable def h_spec_l25Sizes : Hints Rv := ⟨fun k => match k with | 6 => lh_spec_l25Sizes_6 | _ => ⟨[], [], [], []⟩, fun k => match k with | 6 => some (loopX s_spec_l25Sizes_6 x_spec_l25Sizes_6 w_spec_l25Sizes_6) | _ => none⟩
theorem st_spec_l25Sizes_6 (n : Nat) (z : s_spec_l25Sizes_6.T) (k : Ex → Live → Option Rv) : loopN ⟨29, 29⟩ lh_spec_l25Sizes_6 (den (tab C0 T_spec_l25Sizes) ⟨29, 29⟩ h_spec_l25Sizes 1 (loopOf Try.f49 5)) (n + 1) (s_spec_l25Sizes_6.enc z) k =
    t_spec_l25Sizes_6 (fun y => loopN ⟨29, 29⟩ lh_spec_l25Sizes_6 (den (tab C0 T_spec_l25Sizes) ⟨29, 29⟩ h_spec_l25Sizes 1 (loopOf Try.f49 5)) n (s_spec_l25Sizes_6.enc y) k) (hK k x_spec_l25Sizes_6) z := by kernel_rfl
theorem hs_spec_l25Sizes : HintsOk (tab C0 T_spec_l25Sizes) ⟨29, 29⟩ h_spec_l25Sizes 1 (loops (codeOf Try.f49)) := by
  have hl : loops (codeOf Try.f49) = [loopOf Try.f49 5] := by kernel_rfl
  rw [hl]
  exact HintsOk.cons (n := 6) (lh := lh_spec_l25Sizes_6) (S := loopX s_spec_l25Sizes_6 x_spec_l25Sizes_6 w_spec_l25Sizes_6) (by kernel_rfl) rfl rfl (loopX_ok nat_spec_l25Sizes_6 st_spec_l25Sizes_6)
    (HintsOk.nil)
noncomputable def t_spec_l25Sizes {R : Type} (kx : Bool → Option R) (a0 : (List Int)) : Option R :=
  Option.bind (g_spec_l00In (((List.length a0) : Nat) : Int) (1 : Int) (14 : Int)) fun y26 =>
  cond (!y26)
  (kx Bool.false)
  (Option.bind (w_spec_l25Sizes_6 (m_spec_l25Sizes_6 a0 (0 : Int) (0 : Int))) (exC x_spec_l25Sizes_6
   (fun e33 =>
    kx (e33.1.1.1 : Bool), fun e36 =>
    kx (decide ((e36.1.2.1.1 : Int) ≤ (1000 : Int))), ())))
noncomputable def g_spec_l25Sizes (a0 : (List Int)) : Option (Bool) := t_spec_l25Sizes some a0
theorem nat_spec_l25Sizes {R : Type} (kx : Bool → Option R) (a0 : (List Int)) : t_spec_l25Sizes kx a0 = (g_spec_l25Sizes a0).bind kx := by
  unfold g_spec_l25Sizes t_spec_l25Sizes
  exact nat_bind fun _ => nat_cond (rfl) (nat_exC ⟨fun _ => rfl, fun _ => rfl, trivial⟩)
abbrev as_spec_l25Sizes : List AX := [.val false (.slice (.int .i64))]
abbrev en_spec_l25Sizes : Bool → AV × List CV := fun b => (.one ⟨false, [(.v (.bool b))]⟩, [])
noncomputable abbrev k_spec_l25Sizes : Contract := .fx as_spec_l25Sizes (Bool) (fun z => g_spec_l25Sizes z.1) en_spec_l25Sizes
theorem r_spec_l25Sizes (z : argsX as_spec_l25Sizes) : runF (tab C0 T_spec_l25Sizes) h_spec_l25Sizes 1 Try.f49 (lentOf as_spec_l25Sizes) (xBoxes as_spec_l25Sizes z) (xVals as_spec_l25Sizes 0 z) K2 = t_spec_l25Sizes (fun b => some (en_spec_l25Sizes b)) z.1 := by kernel_rfl
theorem so_spec_l25Sizes : Sound C0 49 k_spec_l25Sizes :=
  Sound.fx a_spec_l25Sizes mixed Try.func49 (by kernel_rfl) (by kernel_rfl) h_spec_l25Sizes 1 hs_spec_l25Sizes (fun z => (r_spec_l25Sizes z).trans (nat_spec_l25Sizes _ z.1))

/-! ### F38 spec.l25Ok -/
noncomputable def T_spec_l25Ok : List (FuncId × Contract) := [(49, k_spec_l25Sizes), (56, k_spec_l00In)]
theorem a_spec_l25Ok : AllSound C0 T_spec_l25Ok := .cons so_spec_l25Sizes (.cons so_spec_l00In (.nil))
abbrev s_spec_l25Ok_5 : LS := ⟨[(false, [(.ptr 42 0)]), (false, [(.int .i64)])], [(true, [(.sl (.int .i64)), (.sl (.int .i64))])], []⟩
abbrev e_spec_l25Ok_5_0 : LS := ⟨[(false, [.bool])], [], []⟩
abbrev d_spec_l25Ok_5_0 (v0 : Bool) : e_spec_l25Ok_5_0.T := (((v0, ()), ()), (), ())
abbrev e_spec_l25Ok_5_1 : LS := ⟨[(false, [.undef])], [], []⟩
abbrev d_spec_l25Ok_5_1 : e_spec_l25Ok_5_1.T := ((((), ()), ()), (), ())
abbrev x_spec_l25Ok_5 : List (Ex × LS) := [(.ret, e_spec_l25Ok_5_0), (.exit 0, e_spec_l25Ok_5_1)]
abbrev m_spec_l25Ok_5 (x3 : Int) (b0_0 : List Int) (b0_1 : List Int) : s_spec_l25Ok_5.T := ((((), ()), (x3, ()), ()), ((b0_0, b0_1, ()), ()), ())
noncomputable def u_spec_l25Ok_5 {R : Type} (nx : s_spec_l25Ok_5.T → Option R) (hx : exH R x_spec_l25Ok_5) (x3 : Int) (b0_0 : List Int) (b0_1 : List Int) : Option R :=
  cond (decide (x3 < (((List.length b0_1) : Nat) : Int)))
  (Option.bind (idx b0_1 x3) fun y42 =>
   Option.bind (g_spec_l00In y42 (2 : Int) (3 : Int)) fun y43 =>
   cond (!y43)
   (hx.1 (d_spec_l25Ok_5_0 Bool.false))
   (nx (m_spec_l25Ok_5 (IntKind.wrap IntKind.i64 (x3 + (1 : Int))) b0_0 b0_1)))
  (hx.2.1 (d_spec_l25Ok_5_1))
noncomputable def t_spec_l25Ok_5 {R : Type} (nx : s_spec_l25Ok_5.T → Option R) (hx : exH R x_spec_l25Ok_5) (z : s_spec_l25Ok_5.T) : Option R := u_spec_l25Ok_5 nx hx z.1.2.1.1 z.2.1.1.1 z.2.1.1.2.1
theorem nat_spec_l25Ok_5 : Natural @t_spec_l25Ok_5 := fun R nx hx z => by
  show u_spec_l25Ok_5 nx hx z.1.2.1.1 z.2.1.1.1 z.2.1.1.2.1 = (u_spec_l25Ok_5 (fun y => some (.inl y)) (hIn x_spec_l25Ok_5 fun x => some (.inr x)) z.1.2.1.1 z.2.1.1.1 z.2.1.1.2.1).bind (goOn nx hx)
  unfold u_spec_l25Ok_5
  exact nat_cond (nat_bind fun _ => nat_bind fun _ => nat_cond (rfl) (rfl)) (rfl)
noncomputable def w_spec_l25Ok_5 : s_spec_l25Ok_5.T → Option (exT x_spec_l25Ok_5) := wOf @t_spec_l25Ok_5
theorem wq_spec_l25Ok_5 (x3 : Int) (b0_0 : List Int) (b0_1 : List Int) : w_spec_l25Ok_5 (m_spec_l25Ok_5 x3 b0_0 b0_1) = u_spec_l25Ok_5 w_spec_l25Ok_5 (hIn x_spec_l25Ok_5 some) x3 b0_0 b0_1 := wOf_eq nat_spec_l25Ok_5 _
def lh_spec_l25Ok_5 : LoopHint := ⟨[0, 3], [42], [2], []⟩
noncomputable def h_spec_l25Ok : Hints Rv := ⟨fun k => match k with | 5 => lh_spec_l25Ok_5 | _ => ⟨[], [], [], []⟩, fun k => match k with | 5 => some (loopX s_spec_l25Ok_5 x_spec_l25Ok_5 w_spec_l25Ok_5) | _ => none⟩
theorem st_spec_l25Ok_5 (n : Nat) (z : s_spec_l25Ok_5.T) (k : Ex → Live → Option Rv) : loopN ⟨42, 43⟩ lh_spec_l25Ok_5 (den (tab C0 T_spec_l25Ok) ⟨42, 43⟩ h_spec_l25Ok 1 (loopOf Try.f38 4)) (n + 1) (s_spec_l25Ok_5.enc z) k =
    t_spec_l25Ok_5 (fun y => loopN ⟨42, 43⟩ lh_spec_l25Ok_5 (den (tab C0 T_spec_l25Ok) ⟨42, 43⟩ h_spec_l25Ok 1 (loopOf Try.f38 4)) n (s_spec_l25Ok_5.enc y) k) (hK k x_spec_l25Ok_5) z := by kernel_rfl
theorem hs_spec_l25Ok : HintsOk (tab C0 T_spec_l25Ok) ⟨42, 43⟩ h_spec_l25Ok 1 (loops (codeOf Try.f38)) := by
  have hl : loops (codeOf Try.f38) = [loopOf Try.f38 4] := by kernel_rfl
  rw [hl]
  exact HintsOk.cons (n := 5) (lh := lh_spec_l25Ok_5) (S := loopX s_spec_l25Ok_5 x_spec_l25Ok_5 w_spec_l25Ok_5) (by kernel_rfl) rfl rfl (loopX_ok nat_spec_l25Ok_5 st_spec_l25Ok_5)
    (HintsOk.nil)
noncomputable def t_spec_l25Ok {R : Type} (kx : Bool → Option R) (a0 : ((List Int) × (List Int))) : Option R :=
  Option.bind (g_spec_l25Sizes a0.1) fun y38 =>
  cond (!y38)
  (kx Bool.false)
  (cond ((((List.length a0.2) : Nat) : Int) != (IntKind.wrap IntKind.i64 ((((List.length a0.1) : Nat) : Int) - (1 : Int))))
   (kx Bool.false)
   (Option.bind (w_spec_l25Ok_5 (m_spec_l25Ok_5 (0 : Int) a0.1 a0.2)) (exC x_spec_l25Ok_5
    (fun e44 =>
     kx (e44.1.1.1 : Bool), fun _ =>
     kx Bool.true, ()))))
noncomputable def g_spec_l25Ok (a0 : ((List Int) × (List Int))) : Option (Bool) := t_spec_l25Ok some a0
theorem nat_spec_l25Ok {R : Type} (kx : Bool → Option R) (a0 : ((List Int) × (List Int))) : t_spec_l25Ok kx a0 = (g_spec_l25Ok a0).bind kx := by
  unfold g_spec_l25Ok t_spec_l25Ok
  exact nat_bind fun _ => nat_cond (rfl) (nat_cond (rfl) (nat_exC ⟨fun _ => rfl, fun _ => rfl, trivial⟩))
abbrev as_spec_l25Ok : List AX := [.ptr (.pair (.slice (.int .i64)) (.slice (.int .i64)))]
abbrev en_spec_l25Ok : Bool → AV × List CV := fun b => (.one ⟨false, [(.v (.bool b))]⟩, [])
noncomputable abbrev k_spec_l25Ok : Contract := .fx as_spec_l25Ok (Bool) (fun z => g_spec_l25Ok z.1) en_spec_l25Ok
theorem r_spec_l25Ok (z : argsX as_spec_l25Ok) : runF (tab C0 T_spec_l25Ok) h_spec_l25Ok 1 Try.f38 (lentOf as_spec_l25Ok) (xBoxes as_spec_l25Ok z) (xVals as_spec_l25Ok 0 z) K2 = t_spec_l25Ok (fun b => some (en_spec_l25Ok b)) z.1 := by kernel_rfl
theorem so_spec_l25Ok : Sound C0 38 k_spec_l25Ok :=
  Sound.fx a_spec_l25Ok mixed Try.func38 (by kernel_rfl) (by kernel_rfl) h_spec_l25Ok 1 hs_spec_l25Ok (fun z => (r_spec_l25Ok z).trans (nat_spec_l25Ok _ z.1))

/-! ### F71 spec.l00Own -/
noncomputable def T_spec_l00Own : List (FuncId × Contract) := []
theorem a_spec_l00Own : AllSound C0 T_spec_l00Own := .nil
noncomputable def t_spec_l00Own {R : Type} (kx : (List Int) → Option R) (a0 : (List Int)) : Option R :=
  cond (decide ((((List.length ([] : List Int)) + (List.length a0)) * 8) ≤ 70368744177664))
  (cond (decide (((List.length ([] : List Int)) + (List.length a0)) ≤ 70368744177664))
   (kx ([] ++ a0))
   (none))
  (none)
noncomputable def g_spec_l00Own (a0 : (List Int)) : Option ((List Int)) := t_spec_l00Own some a0
theorem nat_spec_l00Own {R : Type} (kx : (List Int) → Option R) (a0 : (List Int)) : t_spec_l00Own kx a0 = (g_spec_l00Own a0).bind kx := by
  unfold g_spec_l00Own t_spec_l00Own
  exact nat_cond (nat_cond (rfl) (rfl)) (rfl)
abbrev as_spec_l00Own : List AX := [.val false (.slice (.int .i64))]
abbrev en_spec_l00Own : (List Int) → AV × List CV := fun b => (.one ⟨false, [(.own (.int .i64) b)]⟩, [])
noncomputable abbrev k_spec_l00Own : Contract := .fx as_spec_l00Own ((List Int)) (fun z => g_spec_l00Own z.1) en_spec_l00Own
theorem r_spec_l00Own (z : argsX as_spec_l00Own) : runF (tab C0 T_spec_l00Own) noHints 1 Try.f71 (lentOf as_spec_l00Own) (xBoxes as_spec_l00Own z) (xVals as_spec_l00Own 0 z) K2 = t_spec_l00Own (fun b => some (en_spec_l00Own b)) z.1 := by kernel_rfl
theorem so_spec_l00Own : Sound C0 71 k_spec_l00Own :=
  Sound.fx a_spec_l00Own mixed Try.func71 (by kernel_rfl) (by kernel_rfl) noHints 1 noHints_ok (fun z => (r_spec_l00Own z).trans (nat_spec_l00Own _ z.1))

/-! ### F53 spec.l25Own -/
noncomputable def T_spec_l25Own : List (FuncId × Contract) := [(71, k_spec_l00Own)]
theorem a_spec_l25Own : AllSound C0 T_spec_l25Own := .cons so_spec_l00Own (.nil)
noncomputable def t_spec_l25Own {R : Type} (kx : ((List Int) × (List Int)) → Option R) (a0 : ((List Int) × (List Int))) : Option R :=
  Option.bind (g_spec_l00Own a0.1) fun y51 =>
  Option.bind (g_spec_l00Own a0.2) fun y52 =>
  kx (y51, y52)
noncomputable def g_spec_l25Own (a0 : ((List Int) × (List Int))) : Option (((List Int) × (List Int))) := t_spec_l25Own some a0
theorem nat_spec_l25Own {R : Type} (kx : ((List Int) × (List Int)) → Option R) (a0 : ((List Int) × (List Int))) : t_spec_l25Own kx a0 = (g_spec_l25Own a0).bind kx := by
  unfold g_spec_l25Own t_spec_l25Own
  exact nat_bind fun _ => nat_bind fun _ => rfl
abbrev as_spec_l25Own : List AX := [.ptr (.pair (.slice (.int .i64)) (.slice (.int .i64)))]
abbrev en_spec_l25Own : ((List Int) × (List Int)) → AV × List CV := fun b => (.one ⟨true, [(.own (.int .i64) b.1), (.own (.int .i64) b.2)]⟩, [])
noncomputable abbrev k_spec_l25Own : Contract := .fx as_spec_l25Own (((List Int) × (List Int))) (fun z => g_spec_l25Own z.1) en_spec_l25Own
theorem r_spec_l25Own (z : argsX as_spec_l25Own) : runF (tab C0 T_spec_l25Own) noHints 1 Try.f53 (lentOf as_spec_l25Own) (xBoxes as_spec_l25Own z) (xVals as_spec_l25Own 0 z) K2 = t_spec_l25Own (fun b => some (en_spec_l25Own b)) z.1 := by kernel_rfl
theorem so_spec_l25Own : Sound C0 53 k_spec_l25Own :=
  Sound.fx a_spec_l25Own mixed Try.func53 (by kernel_rfl) (by kernel_rfl) noHints 1 noHints_ok (fun z => (r_spec_l25Own z).trans (nat_spec_l25Own _ z.1))

/-! ### F44 spec.l25Can -/
noncomputable def T_spec_l25Can : List (FuncId × Contract) := [(56, k_spec_l00In)]
theorem a_spec_l25Can : AllSound C0 T_spec_l25Can := .cons so_spec_l00In (.nil)
noncomputable def t_spec_l25Can {R : Type} (kx : Bool → Option R) (a0 : ((List Int) × (List Int))) (a1 : (Int × Int)) : Option R :=
  cond (decide ((((List.length a0.1) : Nat) : Int) < (2 : Int)))
  (kx Bool.false)
  (cond (a1.1 == (2 : Int))
   (cond (a1.2 == (0 : Int))
    (Option.bind (idx a0.1 (0 : Int)) fun y75 =>
     Option.bind (idx a0.1 (1 : Int)) fun y76 =>
     kx (decide (y75 ≤ y76)))
    (kx Bool.false))
   (cond (a1.1 == (3 : Int))
    (cond (a1.2 == (IntKind.wrap IntKind.i64 ((((List.length a0.1) : Nat) : Int) - (1 : Int))))
     (Option.bind (idx a0.1 (IntKind.wrap IntKind.i64 ((((List.length a0.1) : Nat) : Int) - (1 : Int)))) fun y77 =>
      Option.bind (idx a0.1 (IntKind.wrap IntKind.i64 ((((List.length a0.1) : Nat) : Int) - (2 : Int)))) fun y78 =>
      kx (decide (y77 ≤ y78)))
     (kx Bool.false))
    (cond (a1.1 == (1 : Int))
     (Option.bind (g_spec_l00In a1.2 (1 : Int) (IntKind.wrap IntKind.i64 ((((List.length a0.1) : Nat) : Int) - (2 : Int)))) fun y79 =>
      cond y79
      (Option.bind (idx a0.1 a1.2) fun y80 =>
       Option.bind (idx a0.1 (IntKind.wrap IntKind.i64 (a1.2 - (1 : Int)))) fun y81 =>
       cond (decide (y80 ≤ y81))
       (Option.bind (idx a0.1 a1.2) fun y82 =>
        Option.bind (idx a0.1 (IntKind.wrap IntKind.i64 (a1.2 + (1 : Int)))) fun y83 =>
        cond (decide (y82 ≤ y83))
        (Option.bind (idx a0.2 (IntKind.wrap IntKind.i64 (a1.2 - (1 : Int)))) fun y84 =>
         Option.bind (idx a0.2 a1.2) fun y85 =>
         kx (y84 != y85))
        (kx Bool.false))
       (kx Bool.false))
      (kx Bool.false))
     (kx Bool.false))))
noncomputable def g_spec_l25Can (a0 : ((List Int) × (List Int))) (a1 : (Int × Int)) : Option (Bool) := t_spec_l25Can some a0 a1
theorem nat_spec_l25Can {R : Type} (kx : Bool → Option R) (a0 : ((List Int) × (List Int))) (a1 : (Int × Int)) : t_spec_l25Can kx a0 a1 = (g_spec_l25Can a0 a1).bind kx := by
  unfold g_spec_l25Can t_spec_l25Can
  exact nat_cond (rfl) (nat_cond (nat_cond (nat_bind fun _ => nat_bind fun _ => rfl) (rfl)) (nat_cond (nat_cond (nat_bind fun _ => nat_bind fun _ => rfl) (rfl)) (nat_cond (nat_bind fun _ => nat_cond (nat_bind fun _ => nat_bind fun _ => nat_cond (nat_bind fun _ => nat_bind fun _ => nat_cond (nat_bind fun _ => nat_bind fun _ => rfl) (rfl)) (rfl)) (rfl)) (rfl))))
abbrev as_spec_l25Can : List AX := [.ptr (.pair (.slice (.int .i64)) (.slice (.int .i64))), .val true (.pair (.int .i64) (.int .i64))]
abbrev en_spec_l25Can : Bool → AV × List CV := fun b => (.one ⟨false, [(.v (.bool b))]⟩, [])
noncomputable abbrev k_spec_l25Can : Contract := .fx as_spec_l25Can (Bool) (fun z => g_spec_l25Can z.1 z.2.1) en_spec_l25Can
theorem r_spec_l25Can (z : argsX as_spec_l25Can) : runF (tab C0 T_spec_l25Can) noHints 1 Try.f44 (lentOf as_spec_l25Can) (xBoxes as_spec_l25Can z) (xVals as_spec_l25Can 0 z) K2 = t_spec_l25Can (fun b => some (en_spec_l25Can b)) z.1 z.2.1 := by kernel_rfl
theorem so_spec_l25Can : Sound C0 44 k_spec_l25Can :=
  Sound.fx a_spec_l25Can mixed Try.func44 (by kernel_rfl) (by kernel_rfl) noHints 1 noHints_ok (fun z => (r_spec_l25Can z).trans (nat_spec_l25Can _ z.1 z.2.1))

/-! ### F39 spec.l25Steps -/
noncomputable def T_spec_l25Steps : List (FuncId × Contract) := [(44, k_spec_l25Can)]
theorem a_spec_l25Steps : AllSound C0 T_spec_l25Steps := .cons so_spec_l25Can (.nil)
abbrev s_spec_l25Steps_6 : LS := ⟨[(false, [(.ptr 53 0)]), (false, [(.own (.pair (.int .i64) (.int .i64)))]), (false, [(.int .i64)]), (false, [(.own (.pair (.int .i64) (.int .i64)))]), (false, [(.int .i64)])], [(true, [(.sl (.int .i64)), (.sl (.int .i64))])], []⟩
abbrev e_spec_l25Steps_6_0 : LS := ⟨[(false, [(.ptr 53 0)]), (false, [(.own (.pair (.int .i64) (.int .i64)))]), (false, [(.int .i64)]), (false, [(.own (.pair (.int .i64) (.int .i64)))])], [(true, [(.sl (.int .i64)), (.sl (.int .i64))])], []⟩
abbrev d_spec_l25Steps_6_0 (v0 : List (Int × Int)) (v1 : Int) (v2 : List (Int × Int)) (v3 : List Int) (v4 : List Int) : e_spec_l25Steps_6_0.T := ((((), ()), (v0, ()), (v1, ()), (v2, ()), ()), ((v3, v4, ()), ()), ())
abbrev x_spec_l25Steps_6 : List (Ex × LS) := [(.exit 0, e_spec_l25Steps_6_0)]
abbrev m_spec_l25Steps_6 (x3 : List (Int × Int)) (x4 : Int) (x5 : List (Int × Int)) (x6 : Int) (b0_0 : List Int) (b0_1 : List Int) : s_spec_l25Steps_6.T := ((((), ()), (x3, ()), (x4, ()), (x5, ()), (x6, ()), ()), ((b0_0, b0_1, ()), ()), ())
noncomputable def u_spec_l25Steps_6 {R : Type} (nx : s_spec_l25Steps_6.T → Option R) (hx : exH R x_spec_l25Steps_6) (x3 : List (Int × Int)) (x4 : Int) (x5 : List (Int × Int)) (x6 : Int) (b0_0 : List Int) (b0_1 : List Int) : Option R :=
  cond (decide (x6 < (IntKind.wrap IntKind.i64 (x4 - (1 : Int)))))
  (cond (decide ((((List.length x5) + (List.length [((1 : Int), x6)])) * 16) ≤ 70368744177664))
   (cond (decide (((List.length x5) + (List.length [((1 : Int), x6)])) ≤ 70368744177664))
    (nx (m_spec_l25Steps_6 x3 x4 (x5 ++ [((1 : Int), x6)]) (IntKind.wrap IntKind.i64 (x6 + (1 : Int))) b0_0 b0_1))
    (none))
   (none))
  (hx.1 (d_spec_l25Steps_6_0 x3 x4 x5 b0_0 b0_1))
noncomputable def t_spec_l25Steps_6 {R : Type} (nx : s_spec_l25Steps_6.T → Option R) (hx : exH R x_spec_l25Steps_6) (z : s_spec_l25Steps_6.T) : Option R := u_spec_l25Steps_6 nx hx z.1.2.1.1 z.1.2.2.1.1 z.1.2.2.2.1.1 z.1.2.2.2.2.1.1 z.2.1.1.1 z.2.1.1.2.1
theorem nat_spec_l25Steps_6 : Natural @t_spec_l25Steps_6 := fun R nx hx z => by
  show u_spec_l25Steps_6 nx hx z.1.2.1.1 z.1.2.2.1.1 z.1.2.2.2.1.1 z.1.2.2.2.2.1.1 z.2.1.1.1 z.2.1.1.2.1 = (u_spec_l25Steps_6 (fun y => some (.inl y)) (hIn x_spec_l25Steps_6 fun x => some (.inr x)) z.1.2.1.1 z.1.2.2.1.1 z.1.2.2.2.1.1 z.1.2.2.2.2.1.1 z.2.1.1.1 z.2.1.1.2.1).bind (goOn nx hx)
  unfold u_spec_l25Steps_6
  exact nat_cond (nat_cond (nat_cond (rfl) (rfl)) (rfl)) (rfl)
noncomputable def w_spec_l25Steps_6 : s_spec_l25Steps_6.T → Option (exT x_spec_l25Steps_6) := wOf @t_spec_l25Steps_6
theorem wq_spec_l25Steps_6 (x3 : List (Int × Int)) (x4 : Int) (x5 : List (Int × Int)) (x6 : Int) (b0_0 : List Int) (b0_1 : List Int) : w_spec_l25Steps_6 (m_spec_l25Steps_6 x3 x4 x5 x6 b0_0 b0_1) = u_spec_l25Steps_6 w_spec_l25Steps_6 (hIn x_spec_l25Steps_6 some) x3 x4 x5 x6 b0_0 b0_1 := wOf_eq nat_spec_l25Steps_6 _
def lh_spec_l25Steps_6 : LoopHint := ⟨[0, 3, 4, 5, 6], [53], [0, 3, 4, 5], [53]⟩
abbrev s_spec_l25Steps_11 : LS := ⟨[(false, [(.ptr 53 0)]), (false, [(.own (.pair (.int .i64) (.int .i64)))]), (false, [(.own (.pair (.int .i64) (.int .i64)))]), (false, [(.int .i64)])], [(true, [(.sl (.int .i64)), (.sl (.int .i64))])], []⟩
abbrev e_spec_l25Steps_11_0 : LS := ⟨[(false, [(.own (.pair (.int .i64) (.int .i64)))])], [], []⟩
abbrev d_spec_l25Steps_11_0 (v0 : List (Int × Int)) : e_spec_l25Steps_11_0.T := (((v0, ()), ()), (), ())
abbrev x_spec_l25Steps_11 : List (Ex × LS) := [(.exit 2, e_spec_l25Steps_11_0)]
abbrev m_spec_l25Steps_11 (x3 : List (Int × Int)) (x5 : List (Int × Int)) (x7 : Int) (b0_0 : List Int) (b0_1 : List Int) : s_spec_l25Steps_11.T := ((((), ()), (x3, ()), (x5, ()), (x7, ()), ()), ((b0_0, b0_1, ()), ()), ())
noncomputable def u_spec_l25Steps_11 {R : Type} (nx : s_spec_l25Steps_11.T → Option R) (hx : exH R x_spec_l25Steps_11) (x3 : List (Int × Int)) (x5 : List (Int × Int)) (x7 : Int) (b0_0 : List Int) (b0_1 : List Int) : Option R :=
  cond (decide (x7 < (((List.length x5) : Nat) : Int)))
  (Option.bind (idx x5 x7) fun y72 =>
   Option.bind (g_spec_l25Can (b0_0, b0_1) y72) fun y86 =>
   cond y86
   (Option.bind (idx x5 x7) fun y87 =>
    cond (decide ((((List.length x3) + (List.length [y87])) * 16) ≤ 70368744177664))
    (cond (decide (((List.length x3) + (List.length [y87])) ≤ 70368744177664))
     (nx (m_spec_l25Steps_11 (x3 ++ [y87]) x5 (IntKind.wrap IntKind.i64 (x7 + (1 : Int))) b0_0 b0_1))
     (none))
    (none))
   (nx (m_spec_l25Steps_11 x3 x5 (IntKind.wrap IntKind.i64 (x7 + (1 : Int))) b0_0 b0_1)))
  (hx.1 (d_spec_l25Steps_11_0 x3))
noncomputable def t_spec_l25Steps_11 {R : Type} (nx : s_spec_l25Steps_11.T → Option R) (hx : exH R x_spec_l25Steps_11) (z : s_spec_l25Steps_11.T) : Option R := u_spec_l25Steps_11 nx hx z.1.2.1.1 z.1.2.2.1.1 z.1.2.2.2.1.1 z.2.1.1.1 z.2.1.1.2.1
theorem nat_spec_l25Steps_11 : Natural @t_spec_l25Steps_11 := fun R nx hx z => by
  show u_spec_l25Steps_11 nx hx z.1.2.1.1 z.1.2.2.1.1 z.1.2.2.2.1.1 z.2.1.1.1 z.2.1.1.2.1 = (u_spec_l25Steps_11 (fun y => some (.inl y)) (hIn x_spec_l25Steps_11 fun x => some (.inr x)) z.1.2.1.1 z.1.2.2.1.1 z.1.2.2.2.1.1 z.2.1.1.1 z.2.1.1.2.1).bind (goOn nx hx)
  unfold u_spec_l25Steps_11
  exact nat_cond (nat_bind fun _ => nat_bind fun _ => nat_cond (nat_bind fun _ => nat_cond (nat_cond (rfl) (rfl)) (rfl)) (rfl)) (rfl)
noncomputable def w_spec_l25Steps_11 : s_spec_l25Steps_11.T → Option (exT x_spec_l25Steps_11) := wOf @t_spec_l25Steps_11
theorem wq_spec_l25Steps_11 (x3 : List (Int × Int)) (x5 : List (Int × Int)) (x7 : Int) (b0_0 : List Int) (b0_1 : List Int) : w_spec_l25Steps_11 (m_spec_l25Steps_11 x3 x5 x7 b0_0 b0_1) = u_spec_l25Steps_11 w_spec_l25Steps_11 (hIn x_spec_l25Steps_11 some) x3 x5 x7 b0_0 b0_1 := wOf_eq nat_spec_l25Steps_11 _
def lh_spec_l25Steps_11 : LoopHint := ⟨[0, 3, 5, 7], [53], [3], []⟩
noncomputable def h_spec_l25Steps : Hints Rv := ⟨fun k => match k with | 6 => lh_spec_l25Steps_6 | 11 => lh_spec_l25Steps_11 | _ => ⟨[], [], [], []⟩, fun k => match k with | 6 => some (loopX s_spec_l25Steps_6 x_spec_l25Steps_6 w_spec_l25Steps_6) | 11 => some (loopX s_spec_l25Steps_11 x_spec_l25Steps_11 w_spec_l25Steps_11) | _ => none⟩
theorem st_spec_l25Steps_6 (n : Nat) (z : s_spec_l25Steps_6.T) (k : Ex → Live → Option Rv) : loopN ⟨53, 54⟩ lh_spec_l25Steps_6 (den (tab C0 T_spec_l25Steps) ⟨53, 54⟩ h_spec_l25Steps 1 (loopOf Try.f39 5)) (n + 1) (s_spec_l25Steps_6.enc z) k =
    t_spec_l25Steps_6 (fun y => loopN ⟨53, 54⟩ lh_spec_l25Steps_6 (den (tab C0 T_spec_l25Steps) ⟨53, 54⟩ h_spec_l25Steps 1 (loopOf Try.f39 5)) n (s_spec_l25Steps_6.enc y) k) (hK k x_spec_l25Steps_6) z := by kernel_rfl
theorem st_spec_l25Steps_11 (n : Nat) (z : s_spec_l25Steps_11.T) (k : Ex → Live → Option Rv) : loopN ⟨53, 54⟩ lh_spec_l25Steps_11 (den (tab C0 T_spec_l25Steps) ⟨53, 54⟩ h_spec_l25Steps 1 (loopOf Try.f39 10)) (n + 1) (s_spec_l25Steps_11.enc z) k =
    t_spec_l25Steps_11 (fun y => loopN ⟨53, 54⟩ lh_spec_l25Steps_11 (den (tab C0 T_spec_l25Steps) ⟨53, 54⟩ h_spec_l25Steps 1 (loopOf Try.f39 10)) n (s_spec_l25Steps_11.enc y) k) (hK k x_spec_l25Steps_11) z := by kernel_rfl
theorem hs_spec_l25Steps : HintsOk (tab C0 T_spec_l25Steps) ⟨53, 54⟩ h_spec_l25Steps 1 (loops (codeOf Try.f39)) := by
  have hl : loops (codeOf Try.f39) = [loopOf Try.f39 5, loopOf Try.f39 10] := by kernel_rfl
  rw [hl]
  exact HintsOk.cons (n := 6) (lh := lh_spec_l25Steps_6) (S := loopX s_spec_l25Steps_6 x_spec_l25Steps_6 w_spec_l25Steps_6) (by kernel_rfl) rfl rfl (loopX_ok nat_spec_l25Steps_6 st_spec_l25Steps_6)
    (HintsOk.cons (n := 11) (lh := lh_spec_l25Steps_11) (S := loopX s_spec_l25Steps_11 x_spec_l25Steps_11 w_spec_l25Steps_11) (by kernel_rfl) rfl rfl (loopX_ok nat_spec_l25Steps_11 st_spec_l25Steps_11)
    (HintsOk.nil))
noncomputable def t_spec_l25Steps {R : Type} (kx : (List (Int × Int)) → Option R) (a0 : ((List Int) × (List Int))) : Option R :=
  Option.bind (w_spec_l25Steps_6 (m_spec_l25Steps_6 [] (((List.length a0.1) : Nat) : Int) [((2 : Int), (0 : Int))] (1 : Int) a0.1 a0.2)) (exC x_spec_l25Steps_6
  (fun e61 =>
   cond (decide ((((List.length (e61.1.2.2.2.1.1 : List (Int × Int))) + (List.length [((3 : Int), (IntKind.wrap IntKind.i64 ((e61.1.2.2.1.1 : Int) - (1 : Int))))])) * 16) ≤ 70368744177664))
   (cond (decide (((List.length (e61.1.2.2.2.1.1 : List (Int × Int))) + (List.length [((3 : Int), (IntKind.wrap IntKind.i64 ((e61.1.2.2.1.1 : Int) - (1 : Int))))])) ≤ 70368744177664))
    (Option.bind (w_spec_l25Steps_11 (m_spec_l25Steps_11 (e61.1.2.1.1 : List (Int × Int)) ((e61.1.2.2.2.1.1 : List (Int × Int)) ++ [((3 : Int), (IntKind.wrap IntKind.i64 ((e61.1.2.2.1.1 : Int) - (1 : Int))))]) (0 : Int) (e61.2.1.1.1 : List Int) (e61.2.1.1.2.1 : List Int))) (exC x_spec_l25Steps_11
     (fun e88 =>
      kx (e88.1.1.1 : List (Int × Int)), ())))
    (none))
   (none), ()))
noncomputable def g_spec_l25Steps (a0 : ((List Int) × (List Int))) : Option ((List (Int × Int))) := t_spec_l25Steps some a0
theorem nat_spec_l25Steps {R : Type} (kx : (List (Int × Int)) → Option R) (a0 : ((List Int) × (List Int))) : t_spec_l25Steps kx a0 = (g_spec_l25Steps a0).bind kx := by
  unfold g_spec_l25Steps t_spec_l25Steps
  exact nat_exC ⟨fun _ => nat_cond (nat_cond (nat_exC ⟨fun _ => rfl, trivial⟩) (rfl)) (rfl), trivial⟩
abbrev as_spec_l25Steps : List AX := [.ptr (.pair (.slice (.int .i64)) (.slice (.int .i64)))]
abbrev en_spec_l25Steps : (List (Int × Int)) → AV × List CV := fun b => (.one ⟨false, [(.own (.pair (.int .i64) (.int .i64)) b)]⟩, [])
noncomputable abbrev k_spec_l25Steps : Contract := .fx as_spec_l25Steps ((List (Int × Int))) (fun z => g_spec_l25Steps z.1) en_spec_l25Steps
theorem r_spec_l25Steps (z : argsX as_spec_l25Steps) : runF (tab C0 T_spec_l25Steps) h_spec_l25Steps 1 Try.f39 (lentOf as_spec_l25Steps) (xBoxes as_spec_l25Steps z) (xVals as_spec_l25Steps 0 z) K2 = t_spec_l25Steps (fun b => some (en_spec_l25Steps b)) z.1 := by kernel_rfl
theorem so_spec_l25Steps : Sound C0 39 k_spec_l25Steps :=
  Sound.fx a_spec_l25Steps mixed Try.func39 (by kernel_rfl) (by kernel_rfl) h_spec_l25Steps 1 hs_spec_l25Steps (fun z => (r_spec_l25Steps z).trans (nat_spec_l25Steps _ z.1))

/-! ### F45 spec.l25Apply -/
noncomputable def T_spec_l25Apply : List (FuncId × Contract) := []
theorem a_spec_l25Apply : AllSound C0 T_spec_l25Apply := .nil
noncomputable def t_spec_l25Apply {R : Type} (kx : ((List Int) × (List Int)) → Option R) (a0 : ((List Int) × (List Int))) (a1 : (Int × Int)) : Option R :=
  cond (a1.1 == (2 : Int))
  (cond (decide ((1 : Int) ≤ (((List.length a0.1) : Nat) : Int)))
   (cond (decide ((((List.length ([] : List Int)) + (List.length (List.drop (Int.toNat (1 : Int)) (List.take (List.length a0.1) a0.1)))) * 8) ≤ 70368744177664))
    (cond (decide (((List.length ([] : List Int)) + (List.length (List.drop (Int.toNat (1 : Int)) (List.take (List.length a0.1) a0.1)))) ≤ 70368744177664))
     (cond (decide ((1 : Int) ≤ (((List.length a0.2) : Nat) : Int)))
      (cond (decide ((((List.length ([] : List Int)) + (List.length (List.drop (Int.toNat (1 : Int)) (List.take (List.length a0.2) a0.2)))) * 8) ≤ 70368744177664))
       (cond (decide (((List.length ([] : List Int)) + (List.length (List.drop (Int.toNat (1 : Int)) (List.take (List.length a0.2) a0.2)))) ≤ 70368744177664))
        (kx (([] ++ (List.drop (Int.toNat (1 : Int)) (List.take (List.length a0.1) a0.1))), ([] ++ (List.drop (Int.toNat (1 : Int)) (List.take (List.length a0.2) a0.2)))))
        (none))
       (none))
      (none))
     (none))
    (none))
   (none))
  (cond (a1.1 == (3 : Int))
   (cond (decide ((0 : Int) ≤ (IntKind.wrap IntKind.i64 ((((List.length a0.1) : Nat) : Int) - (1 : Int)))))
    (cond (decide ((IntKind.wrap IntKind.i64 ((((List.length a0.1) : Nat) : Int) - (1 : Int))) ≤ (((List.length a0.1) : Nat) : Int)))
     (cond (decide ((((List.length ([] : List Int)) + (List.length (List.drop 0 (List.take (Int.toNat (IntKind.wrap IntKind.i64 ((((List.length a0.1) : Nat) : Int) - (1 : Int)))) a0.1)))) * 8) ≤ 70368744177664))
      (cond (decide (((List.length ([] : List Int)) + (List.length (List.drop 0 (List.take (Int.toNat (IntKind.wrap IntKind.i64 ((((List.length a0.1) : Nat) : Int) - (1 : Int)))) a0.1)))) ≤ 70368744177664))
       (cond (decide ((0 : Int) ≤ (IntKind.wrap IntKind.i64 ((((List.length a0.1) : Nat) : Int) - (2 : Int)))))
        (cond (decide ((IntKind.wrap IntKind.i64 ((((List.length a0.1) : Nat) : Int) - (2 : Int))) ≤ (((List.length a0.2) : Nat) : Int)))
         (cond (decide ((((List.length ([] : List Int)) + (List.length (List.drop 0 (List.take (Int.toNat (IntKind.wrap IntKind.i64 ((((List.length a0.1) : Nat) : Int) - (2 : Int)))) a0.2)))) * 8) ≤ 70368744177664))
          (cond (decide (((List.length ([] : List Int)) + (List.length (List.drop 0 (List.take (Int.toNat (IntKind.wrap IntKind.i64 ((((List.length a0.1) : Nat) : Int) - (2 : Int)))) a0.2)))) ≤ 70368744177664))
           (kx (([] ++ (List.drop 0 (List.take (Int.toNat (IntKind.wrap IntKind.i64 ((((List.length a0.1) : Nat) : Int) - (1 : Int)))) a0.1))), ([] ++ (List.drop 0 (List.take (Int.toNat (IntKind.wrap IntKind.i64 ((((List.length a0.1) : Nat) : Int) - (2 : Int)))) a0.2)))))
           (none))
          (none))
         (none))
        (none))
       (none))
      (none))
     (none))
    (none))
   (cond (decide ((0 : Int) ≤ (IntKind.wrap IntKind.i64 (a1.2 - (1 : Int)))))
    (cond (decide ((IntKind.wrap IntKind.i64 (a1.2 - (1 : Int))) ≤ (((List.length a0.1) : Nat) : Int)))
     (cond (decide ((((List.length ([] : List Int)) + (List.length (List.drop 0 (List.take (Int.toNat (IntKind.wrap IntKind.i64 (a1.2 - (1 : Int)))) a0.1)))) * 8) ≤ 70368744177664))
      (cond (decide (((List.length ([] : List Int)) + (List.length (List.drop 0 (List.take (Int.toNat (IntKind.wrap IntKind.i64 (a1.2 - (1 : Int)))) a0.1)))) ≤ 70368744177664))
       (Option.bind (idx a0.1 (IntKind.wrap IntKind.i64 (a1.2 - (1 : Int)))) fun y101 =>
        Option.bind (idx a0.1 a1.2) fun y102 =>
        Option.bind (idx a0.1 (IntKind.wrap IntKind.i64 (a1.2 + (1 : Int)))) fun y103 =>
        cond (decide ((((List.length ([] ++ (List.drop 0 (List.take (Int.toNat (IntKind.wrap IntKind.i64 (a1.2 - (1 : Int)))) a0.1)))) + (List.length [(IntKind.wrap IntKind.i64 ((IntKind.wrap IntKind.i64 (y101 - y102)) + y103))])) * 8) ≤ 70368744177664))
        (cond (decide (((List.length ([] ++ (List.drop 0 (List.take (Int.toNat (IntKind.wrap IntKind.i64 (a1.2 - (1 : Int)))) a0.1)))) + (List.length [(IntKind.wrap IntKind.i64 ((IntKind.wrap IntKind.i64 (y101 - y102)) + y103))])) ≤ 70368744177664))
         (cond (decide ((0 : Int) ≤ (IntKind.wrap IntKind.i64 (a1.2 + (2 : Int)))))
          (cond (decide ((IntKind.wrap IntKind.i64 (a1.2 + (2 : Int))) ≤ (((List.length a0.1) : Nat) : Int)))
           (cond (decide ((((List.length (([] ++ (List.drop 0 (List.take (Int.toNat (IntKind.wrap IntKind.i64 (a1.2 - (1 : Int)))) a0.1))) ++ [(IntKind.wrap IntKind.i64 ((IntKind.wrap IntKind.i64 (y101 - y102)) + y103))])) + (List.length (List.drop (Int.toNat (IntKind.wrap IntKind.i64 (a1.2 + (2 : Int)))) (List.take (List.length a0.1) a0.1)))) * 8) ≤ 70368744177664))
            (cond (decide (((List.length (([] ++ (List.drop 0 (List.take (Int.toNat (IntKind.wrap IntKind.i64 (a1.2 - (1 : Int)))) a0.1))) ++ [(IntKind.wrap IntKind.i64 ((IntKind.wrap IntKind.i64 (y101 - y102)) + y103))])) + (List.length (List.drop (Int.toNat (IntKind.wrap IntKind.i64 (a1.2 + (2 : Int)))) (List.take (List.length a0.1) a0.1)))) ≤ 70368744177664))
             (cond (decide ((0 : Int) ≤ (IntKind.wrap IntKind.i64 (a1.2 - (1 : Int)))))
              (cond (decide ((IntKind.wrap IntKind.i64 (a1.2 - (1 : Int))) ≤ (((List.length a0.2) : Nat) : Int)))
               (cond (decide ((((List.length ([] : List Int)) + (List.length (List.drop 0 (List.take (Int.toNat (IntKind.wrap IntKind.i64 (a1.2 - (1 : Int)))) a0.2)))) * 8) ≤ 70368744177664))
                (cond (decide (((List.length ([] : List Int)) + (List.length (List.drop 0 (List.take (Int.toNat (IntKind.wrap IntKind.i64 (a1.2 - (1 : Int)))) a0.2)))) ≤ 70368744177664))
                 (cond (decide ((0 : Int) ≤ (IntKind.wrap IntKind.i64 (a1.2 + (1 : Int)))))
                  (cond (decide ((IntKind.wrap IntKind.i64 (a1.2 + (1 : Int))) ≤ (((List.length a0.2) : Nat) : Int)))
                   (cond (decide ((((List.length ([] ++ (List.drop 0 (List.take (Int.toNat (IntKind.wrap IntKind.i64 (a1.2 - (1 : Int)))) a0.2)))) + (List.length (List.drop (Int.toNat (IntKind.wrap IntKind.i64 (a1.2 + (1 : Int)))) (List.take (List.length a0.2) a0.2)))) * 8) ≤ 70368744177664))
                    (cond (decide (((List.length ([] ++ (List.drop 0 (List.take (Int.toNat (IntKind.wrap IntKind.i64 (a1.2 - (1 : Int)))) a0.2)))) + (List.length (List.drop (Int.toNat (IntKind.wrap IntKind.i64 (a1.2 + (1 : Int)))) (List.take (List.length a0.2) a0.2)))) ≤ 70368744177664))
                     (kx (((([] ++ (List.drop 0 (List.take (Int.toNat (IntKind.wrap IntKind.i64 (a1.2 - (1 : Int)))) a0.1))) ++ [(IntKind.wrap IntKind.i64 ((IntKind.wrap IntKind.i64 (y101 - y102)) + y103))]) ++ (List.drop (Int.toNat (IntKind.wrap IntKind.i64 (a1.2 + (2 : Int)))) (List.take (List.length a0.1) a0.1))), (([] ++ (List.drop 0 (List.take (Int.toNat (IntKind.wrap IntKind.i64 (a1.2 - (1 : Int)))) a0.2))) ++ (List.drop (Int.toNat (IntKind.wrap IntKind.i64 (a1.2 + (1 : Int)))) (List.take (List.length a0.2) a0.2)))))
                     (none))
                    (none))
                   (none))
                  (none))
                 (none))
                (none))
               (none))
              (none))
             (none))
            (none))
           (none))
          (none))
         (none))
        (none))
       (none))
      (none))
     (none))
    (none)))
noncomputable def g_spec_l25Apply (a0 : ((List Int) × (List Int))) (a1 : (Int × Int)) : Option (((List Int) × (List Int))) := t_spec_l25Apply some a0 a1
theorem nat_spec_l25Apply {R : Type} (kx : ((List Int) × (List Int)) → Option R) (a0 : ((List Int) × (List Int))) (a1 : (Int × Int)) : t_spec_l25Apply kx a0 a1 = (g_spec_l25Apply a0 a1).bind kx := by
  unfold g_spec_l25Apply t_spec_l25Apply
  exact nat_cond (nat_cond (nat_cond (nat_cond (nat_cond (nat_cond (nat_cond (rfl) (rfl)) (rfl)) (rfl)) (rfl)) (rfl)) (rfl)) (nat_cond (nat_cond (nat_cond (nat_cond (nat_cond (nat_cond (nat_cond (nat_cond (nat_cond (rfl) (rfl)) (rfl)) (rfl)) (rfl)) (rfl)) (rfl)) (rfl)) (rfl)) (nat_cond (nat_cond (nat_cond (nat_cond (nat_bind fun _ => nat_bind fun _ => nat_bind fun _ => nat_cond (nat_cond (nat_cond (nat_cond (nat_cond (nat_cond (nat_cond (nat_cond (nat_cond (nat_cond (nat_cond (nat_cond (nat_cond (nat_cond (rfl) (rfl)) (rfl)) (rfl)) (rfl)) (rfl)) (rfl)) (rfl)) (rfl)) (rfl)) (rfl)) (rfl)) (rfl)) (rfl)) (rfl)) (rfl)) (rfl)) (rfl)) (rfl)))
abbrev as_spec_l25Apply : List AX := [.ptr (.pair (.slice (.int .i64)) (.slice (.int .i64))), .val true (.pair (.int .i64) (.int .i64))]
abbrev en_spec_l25Apply : ((List Int) × (List Int)) → AV × List CV := fun b => (.one ⟨true, [(.own (.int .i64) b.1), (.own (.int .i64) b.2)]⟩, [])
noncomputable abbrev k_spec_l25Apply : Contract := .fx as_spec_l25Apply (((List Int) × (List Int))) (fun z => g_spec_l25Apply z.1 z.2.1) en_spec_l25Apply
theorem r_spec_l25Apply (z : argsX as_spec_l25Apply) : runF (tab C0 T_spec_l25Apply) noHints 1 Try.f45 (lentOf as_spec_l25Apply) (xBoxes as_spec_l25Apply z) (xVals as_spec_l25Apply 0 z) K2 = t_spec_l25Apply (fun b => some (en_spec_l25Apply b)) z.1 z.2.1 := by kernel_rfl
theorem so_spec_l25Apply : Sound C0 45 k_spec_l25Apply :=
  Sound.fx a_spec_l25Apply mixed Try.func45 (by kernel_rfl) (by kernel_rfl) noHints 1 noHints_ok (fun z => (r_spec_l25Apply z).trans (nat_spec_l25Apply _ z.1 z.2.1))

/-! ### F54 spec.l25Reduce -/
noncomputable def T_spec_l25Reduce : List (FuncId × Contract) := [(53, k_spec_l25Own), (39, k_spec_l25Steps), (45, k_spec_l25Apply)]
theorem a_spec_l25Reduce : AllSound C0 T_spec_l25Reduce := .cons so_spec_l25Own (.cons so_spec_l25Steps (.cons so_spec_l25Apply (.nil)))
abbrev s_spec_l25Reduce_5 : LS := ⟨[(false, [(.ptr 3 0)]), (false, [(.own (.pair (.int .i64) (.int .i64)))]), (false, [(.ptr 5 0)]), (false, [(.own (.pair (.int .i64) (.int .i64)))])], [(false, [(.own (.int .i64)), (.own (.int .i64))]), (false, [(.own (.int .i64)), (.own (.int .i64))])], []⟩
abbrev e_spec_l25Reduce_5_0 : LS := ⟨[(false, [(.ptr 3 0)]), (false, [(.own (.pair (.int .i64) (.int .i64)))]), (false, [(.ptr 5 0)])], [(false, [(.own (.int .i64)), (.own (.int .i64))]), (false, [(.own (.int .i64)), (.own (.int .i64))])], []⟩
abbrev d_spec_l25Reduce_5_0 (v0 : List (Int × Int)) (v1 : List Int) (v2 : List Int) (v3 : List Int) (v4 : List Int) : e_spec_l25Reduce_5_0.T := ((((), ()), (v0, ()), ((), ()), ()), ((v1, v2, ()), (v3, v4, ()), ()), ())
abbrev x_spec_l25Reduce_5 : List (Ex × LS) := [(.exit 0, e_spec_l25Reduce_5_0)]
abbrev m_spec_l25Reduce_5 (x4 : List (Int × Int)) (x6 : List (Int × Int)) (b0_0 : List Int) (b0_1 : List Int) (b1_0 : List Int) (b1_1 : List Int) : s_spec_l25Reduce_5.T := ((((), ()), (x4, ()), ((), ()), (x6, ()), ()), ((b0_0, b0_1, ()), (b1_0, b1_1, ()), ()), ())
noncomputable def u_spec_l25Reduce_5 {R : Type} (nx : s_spec_l25Reduce_5.T → Option R) (hx : exH R x_spec_l25Reduce_5) (x4 : List (Int × Int)) (x6 : List (Int × Int)) (b0_0 : List Int) (b0_1 : List Int) (b1_0 : List Int) (b1_1 : List Int) : Option R :=
  cond (decide ((((List.length x6) : Nat) : Int) > (0 : Int)))
  (Option.bind (idx x6 (0 : Int)) fun y97 =>
   cond (decide ((((List.length x4) + (List.length [y97])) * 16) ≤ 70368744177664))
   (cond (decide (((List.length x4) + (List.length [y97])) ≤ 70368744177664))
    (Option.bind (idx x6 (0 : Int)) fun y98 =>
     Option.bind (g_spec_l25Apply (b1_0, b1_1) y98) fun y104 =>
     Option.bind (g_spec_l25Steps y104) fun y105 =>
     nx (m_spec_l25Reduce_5 (x4 ++ [y97]) y105 b0_0 b0_1 y104.1 y104.2))
    (none))
   (none))
  (hx.1 (d_spec_l25Reduce_5_0 x4 b0_0 b0_1 b1_0 b1_1))
noncomputable def t_spec_l25Reduce_5 {R : Type} (nx : s_spec_l25Reduce_5.T → Option R) (hx : exH R x_spec_l25Reduce_5) (z : s_spec_l25Reduce_5.T) : Option R := u_spec_l25Reduce_5 nx hx z.1.2.1.1 z.1.2.2.2.1.1 z.2.1.1.1 z.2.1.1.2.1 z.2.1.2.1.1 z.2.1.2.1.2.1
theorem nat_spec_l25Reduce_5 : Natural @t_spec_l25Reduce_5 := fun R nx hx z => by
  show u_spec_l25Reduce_5 nx hx z.1.2.1.1 z.1.2.2.2.1.1 z.2.1.1.1 z.2.1.1.2.1 z.2.1.2.1.1 z.2.1.2.1.2.1 = (u_spec_l25Reduce_5 (fun y => some (.inl y)) (hIn x_spec_l25Reduce_5 fun x => some (.inr x)) z.1.2.1.1 z.1.2.2.2.1.1 z.2.1.1.1 z.2.1.1.2.1 z.2.1.2.1.1 z.2.1.2.1.2.1).bind (goOn nx hx)
  unfold u_spec_l25Reduce_5
  exact nat_cond (nat_bind fun _ => nat_cond (nat_cond (nat_bind fun _ => nat_bind fun _ => nat_bind fun _ => rfl) (rfl)) (rfl)) (rfl)
noncomputable def w_spec_l25Reduce_5 : s_spec_l25Reduce_5.T → Option (exT x_spec_l25Reduce_5) := wOf @t_spec_l25Reduce_5
theorem wq_spec_l25Reduce_5 (x4 : List (Int × Int)) (x6 : List (Int × Int)) (b0_0 : List Int) (b0_1 : List Int) (b1_0 : List Int) (b1_1 : List Int) : w_spec_l25Reduce_5 (m_spec_l25Reduce_5 x4 x6 b0_0 b0_1 b1_0 b1_1) = u_spec_l25Reduce_5 w_spec_l25Reduce_5 (hIn x_spec_l25Reduce_5 some) x4 x6 b0_0 b0_1 b1_0 b1_1 := wOf_eq nat_spec_l25Reduce_5 _
def lh_spec_l25Reduce_5 : LoopHint := ⟨[3, 4, 5, 6], [3, 5], [3, 4, 5], [3, 5]⟩
noncomputable def h_spec_l25Reduce : Hints Rv := ⟨fun k => match k with | 5 => lh_spec_l25Reduce_5 | _ => ⟨[], [], [], []⟩, fun k => match k with | 5 => some (loopX s_spec_l25Reduce_5 x_spec_l25Reduce_5 w_spec_l25Reduce_5) | _ => none⟩
theorem st_spec_l25Reduce_5 (n : Nat) (z : s_spec_l25Reduce_5.T) (k : Ex → Live → Option Rv) : loopN ⟨27, 28⟩ lh_spec_l25Reduce_5 (den (tab C0 T_spec_l25Reduce) ⟨27, 28⟩ h_spec_l25Reduce 1 (loopOf Try.f54 4)) (n + 1) (s_spec_l25Reduce_5.enc z) k =
    t_spec_l25Reduce_5 (fun y => loopN ⟨27, 28⟩ lh_spec_l25Reduce_5 (den (tab C0 T_spec_l25Reduce) ⟨27, 28⟩ h_spec_l25Reduce 1 (loopOf Try.f54 4)) n (s_spec_l25Reduce_5.enc y) k) (hK k x_spec_l25Reduce_5) z := by kernel_rfl
theorem hs_spec_l25Reduce : HintsOk (tab C0 T_spec_l25Reduce) ⟨27, 28⟩ h_spec_l25Reduce 1 (loops (codeOf Try.f54)) := by
  have hl : loops (codeOf Try.f54) = [loopOf Try.f54 4] := by kernel_rfl
  rw [hl]
  exact HintsOk.cons (n := 5) (lh := lh_spec_l25Reduce_5) (S := loopX s_spec_l25Reduce_5 x_spec_l25Reduce_5 w_spec_l25Reduce_5) (by kernel_rfl) rfl rfl (loopX_ok nat_spec_l25Reduce_5 st_spec_l25Reduce_5)
    (HintsOk.nil)
noncomputable def t_spec_l25Reduce {R : Type} (kx : (List (Int × Int)) × ((List Int) × (List Int)) → Option R) (a0 : ((List Int) × (List Int))) : Option R :=
  Option.bind (g_spec_l25Own a0) fun y53 =>
  Option.bind (g_spec_l25Steps y53) fun y90 =>
  Option.bind (w_spec_l25Reduce_5 (m_spec_l25Reduce_5 [] y90 [] [] y53.1 y53.2)) (exC x_spec_l25Reduce_5
  (fun e106 =>
   kx ((e106.1.2.1.1 : List (Int × Int)), ((e106.2.1.2.1.1 : List Int), (e106.2.1.2.1.2.1 : List Int))), ()))
noncomputable def g_spec_l25Reduce (a0 : ((List Int) × (List Int))) : Option ((List (Int × Int)) × ((List Int) × (List Int))) := t_spec_l25Reduce some a0
theorem nat_spec_l25Reduce {R : Type} (kx : (List (Int × Int)) × ((List Int) × (List Int)) → Option R) (a0 : ((List Int) × (List Int))) : t_spec_l25Reduce kx a0 = (g_spec_l25Reduce a0).bind kx := by
  unfold g_spec_l25Reduce t_spec_l25Reduce
  exact nat_bind fun _ => nat_bind fun _ => nat_exC ⟨fun _ => rfl, trivial⟩
abbrev as_spec_l25Reduce : List AX := [.ptr (.pair (.slice (.int .i64)) (.slice (.int .i64)))]
abbrev en_spec_l25Reduce : (List (Int × Int)) × ((List Int) × (List Int)) → AV × List CV := fun b => (.tup [⟨false, [(.own (.pair (.int .i64) (.int .i64)) b.1)]⟩, ⟨true, [(.own (.int .i64) b.2.1), (.own (.int .i64) b.2.2)]⟩], [])
noncomputable abbrev k_spec_l25Reduce : Contract := .fx as_spec_l25Reduce ((List (Int × Int)) × ((List Int) × (List Int))) (fun z => g_spec_l25Reduce z.1) en_spec_l25Reduce
theorem r_spec_l25Reduce (z : argsX as_spec_l25Reduce) : runF (tab C0 T_spec_l25Reduce) h_spec_l25Reduce 1 Try.f54 (lentOf as_spec_l25Reduce) (xBoxes as_spec_l25Reduce z) (xVals as_spec_l25Reduce 0 z) K2 = t_spec_l25Reduce (fun b => some (en_spec_l25Reduce b)) z.1 := by kernel_rfl
theorem so_spec_l25Reduce : Sound C0 54 k_spec_l25Reduce :=
  Sound.fx a_spec_l25Reduce mixed Try.func54 (by kernel_rfl) (by kernel_rfl) h_spec_l25Reduce 1 hs_spec_l25Reduce (fun z => (r_spec_l25Reduce z).trans (nat_spec_l25Reduce _ z.1))

/-! ### F33 spec.ReduceStrip -/
noncomputable def T_spec_ReduceStrip : List (FuncId × Contract) := [(38, k_spec_l25Ok), (54, k_spec_l25Reduce)]
theorem a_spec_ReduceStrip : AllSound C0 T_spec_ReduceStrip := .cons so_spec_l25Ok (.cons so_spec_l25Reduce (.nil))
noncomputable def t_spec_ReduceStrip {R : Type} (kx : (List (Int × Int)) × ((List Int) × (List Int)) → Option R) (a0 : ((List Int) × (List Int))) : Option R :=
  Option.bind (g_spec_l25Ok a0) fun y47 =>
  cond (!y47)
  (kx ([], ([], [])))
  (Option.bind (g_spec_l25Reduce a0) fun y112 =>
   kx y112)
noncomputable def g_spec_ReduceStrip (a0 : ((List Int) × (List Int))) : Option ((List (Int × Int)) × ((List Int) × (List Int))) := t_spec_ReduceStrip some a0
theorem nat_spec_ReduceStrip {R : Type} (kx : (List (Int × Int)) × ((List Int) × (List Int)) → Option R) (a0 : ((List Int) × (List Int))) : t_spec_ReduceStrip kx a0 = (g_spec_ReduceStrip a0).bind kx := by
  unfold g_spec_ReduceStrip t_spec_ReduceStrip
  exact nat_bind fun _ => nat_cond (rfl) (nat_bind fun _ => rfl)
abbrev as_spec_ReduceStrip : List AX := [.val true (.pair (.slice (.int .i64)) (.slice (.int .i64)))]
abbrev en_spec_ReduceStrip : (List (Int × Int)) × ((List Int) × (List Int)) → AV × List CV := fun b => (.tup [⟨false, [(.own (.pair (.int .i64) (.int .i64)) b.1)]⟩, ⟨true, [(.own (.int .i64) b.2.1), (.own (.int .i64) b.2.2)]⟩], [])
noncomputable abbrev k_spec_ReduceStrip : Contract := .fx as_spec_ReduceStrip ((List (Int × Int)) × ((List Int) × (List Int))) (fun z => g_spec_ReduceStrip z.1) en_spec_ReduceStrip
theorem r_spec_ReduceStrip (z : argsX as_spec_ReduceStrip) : runF (tab C0 T_spec_ReduceStrip) noHints 1 Try.f33 (lentOf as_spec_ReduceStrip) (xBoxes as_spec_ReduceStrip z) (xVals as_spec_ReduceStrip 0 z) K2 = t_spec_ReduceStrip (fun b => some (en_spec_ReduceStrip b)) z.1 := by kernel_rfl
theorem so_spec_ReduceStrip : Sound C0 33 k_spec_ReduceStrip :=
  Sound.fx a_spec_ReduceStrip mixed Try.func33 (by kernel_rfl) (by kernel_rfl) noHints 1 noHints_ok (fun z => (r_spec_ReduceStrip z).trans (nat_spec_ReduceStrip _ z.1))

/-! ### F63 impl.length[int64] -/
noncomputable def T_impl_length_int64 : List (FuncId × Contract) := []
theorem a_impl_length_int64 : AllSound C0 T_impl_length_int64 := .nil
noncomputable def t_impl_length_int64 {R : Type} (kx : Int → Option R) (a0 : (List Int)) : Option R :=
  kx (((List.length a0) : Nat) : Int)
noncomputable def g_impl_length_int64 (a0 : (List Int)) : Option (Int) := t_impl_length_int64 some a0
theorem nat_impl_length_int64 {R : Type} (kx : Int → Option R) (a0 : (List Int)) : t_impl_length_int64 kx a0 = (g_impl_length_int64 a0).bind kx := by
  unfold g_impl_length_int64 t_impl_length_int64
  exact rfl
abbrev as_impl_length_int64 : List AX := [.val false (.slice (.int .i64))]
abbrev en_impl_length_int64 : Int → AV × List CV := fun b => (.one ⟨false, [(.v (.int .i64 b))]⟩, [])
noncomputable abbrev k_impl_length_int64 : Contract := .fx as_impl_length_int64 (Int) (fun z => g_impl_length_int64 z.1) en_impl_length_int64
theorem r_impl_length_int64 (z : argsX as_impl_length_int64) : runF (tab C0 T_impl_length_int64) noHints 1 Try.f63 (lentOf as_impl_length_int64) (xBoxes as_impl_length_int64 z) (xVals as_impl_length_int64 0 z) K2 = t_impl_length_int64 (fun b => some (en_impl_length_int64 b)) z.1 := by kernel_rfl
theorem so_impl_length_int64 : Sound C0 63 k_impl_length_int64 :=
  Sound.fx a_impl_length_int64 mixed Try.func63 (by kernel_rfl) (by kernel_rfl) noHints 1 noHints_ok (fun z => (r_impl_length_int64 z).trans (nat_impl_length_int64 _ z.1))

/-! ### F62 impl.within -/
noncomputable def T_impl_within : List (FuncId × Contract) := []
theorem a_impl_within : AllSound C0 T_impl_within := .nil
noncomputable def t_impl_within {R : Type} (kx : Bool → Option R) (a0 : Int) (a1 : Int) (a2 : Int) : Option R :=
  cond (decide (a0 ≥ a1))
  (kx (decide (a0 ≤ a2)))
  (kx Bool.false)
noncomputable def g_impl_within (a0 : Int) (a1 : Int) (a2 : Int) : Option (Bool) := t_impl_within some a0 a1 a2
theorem nat_impl_within {R : Type} (kx : Bool → Option R) (a0 : Int) (a1 : Int) (a2 : Int) : t_impl_within kx a0 a1 a2 = (g_impl_within a0 a1 a2).bind kx := by
  unfold g_impl_within t_impl_within
  exact nat_cond (rfl) (rfl)
abbrev as_impl_within : List AX := [.val false (.int .i64), .val false (.int .i64), .val false (.int .i64)]
abbrev en_impl_within : Bool → AV × List CV := fun b => (.one ⟨false, [(.v (.bool b))]⟩, [])
noncomputable abbrev k_impl_within : Contract := .fx as_impl_within (Bool) (fun z => g_impl_within z.1 z.2.1 z.2.2.1) en_impl_within
theorem r_impl_within (z : argsX as_impl_within) : runF (tab C0 T_impl_within) noHints 1 Try.f62 (lentOf as_impl_within) (xBoxes as_impl_within z) (xVals as_impl_within 0 z) K2 = t_impl_within (fun b => some (en_impl_within b)) z.1 z.2.1 z.2.2.1 := by kernel_rfl
theorem so_impl_within : Sound C0 62 k_impl_within :=
  Sound.fx a_impl_within mixed Try.func62 (by kernel_rfl) (by kernel_rfl) noHints 1 noHints_ok (fun z => (r_impl_within z).trans (nat_impl_within _ z.1 z.2.1 z.2.2.1))

/-! ### F69 impl.areLengths$1 -/
noncomputable def T_impl_areLengths_1 : List (FuncId × Contract) := [(62, k_impl_within)]
theorem a_impl_areLengths_1 : AllSound C0 T_impl_areLengths_1 := .cons so_impl_within (.nil)
noncomputable def t_impl_areLengths_1 {R : Type} (kx : Bool → Option R) (a0 : Int) : Option R :=
  Option.bind (g_impl_within a0 (1 : Int) (1000 : Int)) fun y131 =>
  kx (!y131)
noncomputable def g_impl_areLengths_1 (a0 : Int) : Option (Bool) := t_impl_areLengths_1 some a0
theorem nat_impl_areLengths_1 {R : Type} (kx : Bool → Option R) (a0 : Int) : t_impl_areLengths_1 kx a0 = (g_impl_areLengths_1 a0).bind kx := by
  unfold g_impl_areLengths_1 t_impl_areLengths_1
  exact nat_bind fun _ => rfl
abbrev as_impl_areLengths_1 : List AX := [.val false (.int .i64)]
abbrev en_impl_areLengths_1 : Bool → AV × List CV := fun b => (.one ⟨false, [(.v (.bool b))]⟩, [])
noncomputable abbrev k_impl_areLengths_1 : Contract := .fx as_impl_areLengths_1 (Bool) (fun z => g_impl_areLengths_1 z.1) en_impl_areLengths_1
theorem r_impl_areLengths_1 (z : argsX as_impl_areLengths_1) : runF (tab C0 T_impl_areLengths_1) noHints 1 Try.f69 (lentOf as_impl_areLengths_1) (xBoxes as_impl_areLengths_1 z) (xVals as_impl_areLengths_1 0 z) K2 = t_impl_areLengths_1 (fun b => some (en_impl_areLengths_1 b)) z.1 := by kernel_rfl
theorem so_impl_areLengths_1 : Sound C0 69 k_impl_areLengths_1 :=
  Sound.fx a_impl_areLengths_1 mixed Try.func69 (by kernel_rfl) (by kernel_rfl) noHints 1 noHints_ok (fun z => (r_impl_areLengths_1 z).trans (nat_impl_areLengths_1 _ z.1))

/-! ### F78 slices.IndexFunc[[]int64,int64] -/
noncomputable def T_slices_IndexFunc_Sint64_int64__impl_areLengths_1 : List (FuncId × Contract) := [(69, k_impl_areLengths_1)]
theorem a_slices_IndexFunc_Sint64_int64__impl_areLengths_1 : AllSound C0 T_slices_IndexFunc_Sint64_int64__impl_areLengths_1 := .cons so_impl_areLengths_1 (.nil)
abbrev s_slices_IndexFunc_Sint64_int64__impl_areLengths_1_3 : LS := ⟨[(false, [(.sl (.int .i64))]), (false, [(.fn 69 [])]), (false, [(.int .i64)]), (false, [(.int .i64)])], [], []⟩
abbrev e_slices_IndexFunc_Sint64_int64__impl_areLengths_1_3_0 : LS := ⟨[(false, [(.int .i64)])], [], []⟩
abbrev d_slices_IndexFunc_Sint64_int64__impl_areLengths_1_3_0 (v0 : Int) : e_slices_IndexFunc_Sint64_int64__impl_areLengths_1_3_0.T := (((v0, ()), ()), (), ())
abbrev e_slices_IndexFunc_Sint64_int64__impl_areLengths_1_3_1 : LS := ⟨[(false, [.undef])], [], []⟩
abbrev d_slices_IndexFunc_Sint64_int64__impl_areLengths_1_3_1 : e_slices_IndexFunc_Sint64_int64__impl_areLengths_1_3_1.T := ((((), ()), ()), (), ())
abbrev x_slices_IndexFunc_Sint64_int64__impl_areLengths_1_3 : List (Ex × LS) := [(.ret, e_slices_IndexFunc_Sint64_int64__impl_areLengths_1_3_0), (.exit 0, e_slices_IndexFunc_Sint64_int64__impl_areLengths_1_3_1)]
abbrev m_slices_IndexFunc_Sint64_int64__impl_areLengths_1_3 (x0 : List Int) (x7 : Int) (x8 : Int) : s_slices_IndexFunc_Sint64_int64__impl_areLengths_1_3.T := (((x0, ()), ((), ()), (x7, ()), (x8, ()), ()), (), ())
noncomputable def u_slices_IndexFunc_Sint64_int64__impl_areLengths_1_3 {R : Type} (nx : s_slices_IndexFunc_Sint64_int64__impl_areLengths_1_3.T → Option R) (hx : exH R x_slices_IndexFunc_Sint64_int64__impl_areLengths_1_3) (x0 : List Int) (x7 : Int) (x8 : Int) : Option R :=
  cond (decide (x8 < x7))
  (Option.bind (idx x0 x8) fun y129 =>
   Option.bind (g_impl_areLengths_1 y129) fun y132 =>
   cond y132
   (hx.1 (d_slices_IndexFunc_Sint64_int64__impl_areLengths_1_3_0 x8))
   (nx (m_slices_IndexFunc_Sint64_int64__impl_areLengths_1_3 x0 x7 (IntKind.wrap IntKind.i64 (x8 + (1 : Int))))))
  (hx.2.1 (d_slices_IndexFunc_Sint64_int64__impl_areLengths_1_3_1))
noncomputable def t_slices_IndexFunc_Sint64_int64__impl_areLengths_1_3 {R : Type} (nx : s_slices_IndexFunc_Sint64_int64__impl_areLengths_1_3.T → Option R) (hx : exH R x_slices_IndexFunc_Sint64_int64__impl_areLengths_1_3) (z : s_slices_IndexFunc_Sint64_int64__impl_areLengths_1_3.T) : Option R := u_slices_IndexFunc_Sint64_int64__impl_areLengths_1_3 nx hx z.1.1.1 z.1.2.2.1.1 z.1.2.2.2.1.1
theorem nat_slices_IndexFunc_Sint64_int64__impl_areLengths_1_3 : Natural @t_slices_IndexFunc_Sint64_int64__impl_areLengths_1_3 := fun R nx hx z => by
  show u_slices_IndexFunc_Sint64_int64__impl_areLengths_1_3 nx hx z.1.1.1 z.1.2.2.1.1 z.1.2.2.2.1.1 = (u_slices_IndexFunc_Sint64_int64__impl_areLengths_1_3 (fun y => some (.inl y)) (hIn x_slices_IndexFunc_Sint64_int64__impl_areLengths_1_3 fun x => some (.inr x)) z.1.1.1 z.1.2.2.1.1 z.1.2.2.2.1.1).bind (goOn nx hx)
  unfold u_slices_IndexFunc_Sint64_int64__impl_areLengths_1_3
  exact nat_cond (nat_bind fun _ => nat_bind fun _ => nat_cond (rfl) (rfl)) (rfl)
noncomputable def w_slices_IndexFunc_Sint64_int64__impl_areLengths_1_3 : s_slices_IndexFunc_Sint64_int64__impl_areLengths_1_3.T → Option (exT x_slices_IndexFunc_Sint64_int64__impl_areLengths_1_3) := wOf @t_slices_IndexFunc_Sint64_int64__impl_areLengths_1_3
theorem wq_slices_IndexFunc_Sint64_int64__impl_areLengths_1_3 (x0 : List Int) (x7 : Int) (x8 : Int) : w_slices_IndexFunc_Sint64_int64__impl_areLengths_1_3 (m_slices_IndexFunc_Sint64_int64__impl_areLengths_1_3 x0 x7 x8) = u_slices_IndexFunc_Sint64_int64__impl_areLengths_1_3 w_slices_IndexFunc_Sint64_int64__impl_areLengths_1_3 (hIn x_slices_IndexFunc_Sint64_int64__impl_areLengths_1_3 some) x0 x7 x8 := wOf_eq nat_slices_IndexFunc_Sint64_int64__impl_areLengths_1_3 _
def lh_slices_IndexFunc_Sint64_int64__impl_areLengths_1_3 : LoopHint := ⟨[0, 1, 7, 8], [], [4], []⟩
noncomputable def h_slices_IndexFunc_Sint64_int64__impl_areLengths_1 : Hints Rv := ⟨fun k => match k with | 3 => lh_slices_IndexFunc_Sint64_int64__impl_areLengths_1_3 | _ => ⟨[], [], [], []⟩, fun k => match k with | 3 => some (loopX s_slices_IndexFunc_Sint64_int64__impl_areLengths_1_3 x_slices_IndexFunc_Sint64_int64__impl_areLengths_1_3 w_slices_IndexFunc_Sint64_int64__impl_areLengths_1_3) | _ => none⟩
theorem st_slices_IndexFunc_Sint64_int64__impl_areLengths_1_3 (n : Nat) (z : s_slices_IndexFunc_Sint64_int64__impl_areLengths_1_3.T) (k : Ex → Live → Option Rv) : loopN ⟨19, 19⟩ lh_slices_IndexFunc_Sint64_int64__impl_areLengths_1_3 (den (tab C0 T_slices_IndexFunc_Sint64_int64__impl_areLengths_1) ⟨19, 19⟩ h_slices_IndexFunc_Sint64_int64__impl_areLengths_1 1 (loopOf Try.f78 2)) (n + 1) (s_slices_IndexFunc_Sint64_int64__impl_areLengths_1_3.enc z) k =
    t_slices_IndexFunc_Sint64_int64__impl_areLengths_1_3 (fun y => loopN ⟨19, 19⟩ lh_slices_IndexFunc_Sint64_int64__impl_areLengths_1_3 (den (tab C0 T_slices_IndexFunc_Sint64_int64__impl_areLengths_1) ⟨19, 19⟩ h_slices_IndexFunc_Sint64_int64__impl_areLengths_1 1 (loopOf Try.f78 2)) n (s_slices_IndexFunc_Sint64_int64__impl_areLengths_1_3.enc y) k) (hK k x_slices_IndexFunc_Sint64_int64__impl_areLengths_1_3) z := by kernel_rfl
theorem hs_slices_IndexFunc_Sint64_int64__impl_areLengths_1 : HintsOk (tab C0 T_slices_IndexFunc_Sint64_int64__impl_areLengths_1) ⟨19, 19⟩ h_slices_IndexFunc_Sint64_int64__impl_areLengths_1 1 (loops (codeOf Try.f78)) := by
  have hl : loops (codeOf Try.f78) = [loopOf Try.f78 2] := by kernel_rfl
  rw [hl]
  exact HintsOk.cons (n := 3) (lh := lh_slices_IndexFunc_Sint64_int64__impl_areLengths_1_3) (S := loopX s_slices_IndexFunc_Sint64_int64__impl_areLengths_1_3 x_slices_IndexFunc_Sint64_int64__impl_areLengths_1_3 w_slices_IndexFunc_Sint64_int64__impl_areLengths_1_3) (by kernel_rfl) rfl rfl (loopX_ok nat_slices_IndexFunc_Sint64_int64__impl_areLengths_1_3 st_slices_IndexFunc_Sint64_int64__impl_areLengths_1_3)
    (HintsOk.nil)
noncomputable def t_slices_IndexFunc_Sint64_int64__impl_areLengths_1 {R : Type} (kx : Int → Option R) (a0 : (List Int)) : Option R :=
  Option.bind (w_slices_IndexFunc_Sint64_int64__impl_areLengths_1_3 (m_slices_IndexFunc_Sint64_int64__impl_areLengths_1_3 a0 (((List.length a0) : Nat) : Int) (0 : Int))) (exC x_slices_IndexFunc_Sint64_int64__impl_areLengths_1_3
  (fun e133 =>
   kx (e133.1.1.1 : Int), fun _ =>
   kx (-(1 : Int)), ()))
noncomputable def g_slices_IndexFunc_Sint64_int64__impl_areLengths_1 (a0 : (List Int)) : Option (Int) := t_slices_IndexFunc_Sint64_int64__impl_areLengths_1 some a0
theorem nat_slices_IndexFunc_Sint64_int64__impl_areLengths_1 {R : Type} (kx : Int → Option R) (a0 : (List Int)) : t_slices_IndexFunc_Sint64_int64__impl_areLengths_1 kx a0 = (g_slices_IndexFunc_Sint64_int64__impl_areLengths_1 a0).bind kx := by
  unfold g_slices_IndexFunc_Sint64_int64__impl_areLengths_1 t_slices_IndexFunc_Sint64_int64__impl_areLengths_1
  exact nat_exC ⟨fun _ => rfl, fun _ => rfl, trivial⟩
abbrev as_slices_IndexFunc_Sint64_int64__impl_areLengths_1 : List AX := [.val false (.slice (.int .i64)), .clo 69 []]
abbrev en_slices_IndexFunc_Sint64_int64__impl_areLengths_1 : Int → AV × List CV := fun b => (.one ⟨false, [(.v (.int .i64 b))]⟩, [])
noncomputable abbrev k_slices_IndexFunc_Sint64_int64__impl_areLengths_1 : Contract := .fx as_slices_IndexFunc_Sint64_int64__impl_areLengths_1 (Int) (fun z => g_slices_IndexFunc_Sint64_int64__impl_areLengths_1 z.1) en_slices_IndexFunc_Sint64_int64__impl_areLengths_1
theorem r_slices_IndexFunc_Sint64_int64__impl_areLengths_1 (z : argsX as_slices_IndexFunc_Sint64_int64__impl_areLengths_1) : runF (tab C0 T_slices_IndexFunc_Sint64_int64__impl_areLengths_1) h_slices_IndexFunc_Sint64_int64__impl_areLengths_1 1 Try.f78 (lentOf as_slices_IndexFunc_Sint64_int64__impl_areLengths_1) (xBoxes as_slices_IndexFunc_Sint64_int64__impl_areLengths_1 z) (xVals as_slices_IndexFunc_Sint64_int64__impl_areLengths_1 0 z) K2 = t_slices_IndexFunc_Sint64_int64__impl_areLengths_1 (fun b => some (en_slices_IndexFunc_Sint64_int64__impl_areLengths_1 b)) z.1 := by kernel_rfl
theorem so_slices_IndexFunc_Sint64_int64__impl_areLengths_1 : Sound C0 78 k_slices_IndexFunc_Sint64_int64__impl_areLengths_1 :=
  Sound.fx a_slices_IndexFunc_Sint64_int64__impl_areLengths_1 mixed Try.func78 (by kernel_rfl) (by kernel_rfl) h_slices_IndexFunc_Sint64_int64__impl_areLengths_1 1 hs_slices_IndexFunc_Sint64_int64__impl_areLengths_1 (fun z => (r_slices_IndexFunc_Sint64_int64__impl_areLengths_1 z).trans (nat_slices_IndexFunc_Sint64_int64__impl_areLengths_1 _ z.1))

/-! ### F60 slices.ContainsFunc[[]int64,int64] -/
noncomputable def T_slices_ContainsFunc_Sint64_int64__impl_areLengths_1 : List (FuncId × Contract) := [(78, k_slices_IndexFunc_Sint64_int64__impl_areLengths_1)]
theorem a_slices_ContainsFunc_Sint64_int64__impl_areLengths_1 : AllSound C0 T_slices_ContainsFunc_Sint64_int64__impl_areLengths_1 := .cons so_slices_IndexFunc_Sint64_int64__impl_areLengths_1 (.nil)
noncomputable def t_slices_ContainsFunc_Sint64_int64__impl_areLengths_1 {R : Type} (kx : Bool → Option R) (a0 : (List Int)) : Option R :=
  Option.bind (g_slices_IndexFunc_Sint64_int64__impl_areLengths_1 a0) fun y136 =>
  kx (decide (y136 ≥ (0 : Int)))
noncomputable def g_slices_ContainsFunc_Sint64_int64__impl_areLengths_1 (a0 : (List Int)) : Option (Bool) := t_slices_ContainsFunc_Sint64_int64__impl_areLengths_1 some a0
theorem nat_slices_ContainsFunc_Sint64_int64__impl_areLengths_1 {R : Type} (kx : Bool → Option R) (a0 : (List Int)) : t_slices_ContainsFunc_Sint64_int64__impl_areLengths_1 kx a0 = (g_slices_ContainsFunc_Sint64_int64__impl_areLengths_1 a0).bind kx := by
  unfold g_slices_ContainsFunc_Sint64_int64__impl_areLengths_1 t_slices_ContainsFunc_Sint64_int64__impl_areLengths_1
  exact nat_bind fun _ => rfl
abbrev as_slices_ContainsFunc_Sint64_int64__impl_areLengths_1 : List AX := [.val false (.slice (.int .i64)), .clo 69 []]
abbrev en_slices_ContainsFunc_Sint64_int64__impl_areLengths_1 : Bool → AV × List CV := fun b => (.one ⟨false, [(.v (.bool b))]⟩, [])
noncomputable abbrev k_slices_ContainsFunc_Sint64_int64__impl_areLengths_1 : Contract := .fx as_slices_ContainsFunc_Sint64_int64__impl_areLengths_1 (Bool) (fun z => g_slices_ContainsFunc_Sint64_int64__impl_areLengths_1 z.1) en_slices_ContainsFunc_Sint64_int64__impl_areLengths_1
theorem r_slices_ContainsFunc_Sint64_int64__impl_areLengths_1 (z : argsX as_slices_ContainsFunc_Sint64_int64__impl_areLengths_1) : runF (tab C0 T_slices_ContainsFunc_Sint64_int64__impl_areLengths_1) noHints 1 Try.f60 (lentOf as_slices_ContainsFunc_Sint64_int64__impl_areLengths_1) (xBoxes as_slices_ContainsFunc_Sint64_int64__impl_areLengths_1 z) (xVals as_slices_ContainsFunc_Sint64_int64__impl_areLengths_1 0 z) K2 = t_slices_ContainsFunc_Sint64_int64__impl_areLengths_1 (fun b => some (en_slices_ContainsFunc_Sint64_int64__impl_areLengths_1 b)) z.1 := by kernel_rfl
theorem so_slices_ContainsFunc_Sint64_int64__impl_areLengths_1 : Sound C0 60 k_slices_ContainsFunc_Sint64_int64__impl_areLengths_1 :=
  Sound.fx a_slices_ContainsFunc_Sint64_int64__impl_areLengths_1 mixed Try.func60 (by kernel_rfl) (by kernel_rfl) noHints 1 noHints_ok (fun z => (r_slices_ContainsFunc_Sint64_int64__impl_areLengths_1 z).trans (nat_slices_ContainsFunc_Sint64_int64__impl_areLengths_1 _ z.1))

/-! ### F70 impl.sumOf -/
noncomputable def T_impl_sumOf : List (FuncId × Contract) := []
theorem a_impl_sumOf : AllSound C0 T_impl_sumOf := .nil
abbrev s_impl_sumOf_4 : LS := ⟨[(false, [(.int .i64)]), (false, [(.sl (.int .i64))]), (false, [(.int .i64)]), (false, [(.int .i64)])], [], []⟩
abbrev e_impl_sumOf_4_0 : LS := ⟨[(false, [(.int .i64)])], [], []⟩
abbrev d_impl_sumOf_4_0 (v0 : Int) : e_impl_sumOf_4_0.T := (((v0, ()), ()), (), ())
abbrev x_impl_sumOf_4 : List (Ex × LS) := [(.exit 0, e_impl_sumOf_4_0)]
abbrev m_impl_sumOf_4 (x3 : Int) (x6 : List Int) (x7 : Int) (x8 : Int) : s_impl_sumOf_4.T := (((x3, ()), (x6, ()), (x7, ()), (x8, ()), ()), (), ())
noncomputable def u_impl_sumOf_4 {R : Type} (nx : s_impl_sumOf_4.T → Option R) (hx : exH R x_impl_sumOf_4) (x3 : Int) (x6 : List Int) (x7 : Int) (x8 : Int) : Option R :=
  cond (decide (x8 < x7))
  (Option.bind (idx x6 x8) fun y143 =>
   nx (m_impl_sumOf_4 (IntKind.wrap IntKind.i64 (x3 + y143)) x6 x7 (IntKind.wrap IntKind.i64 (x8 + (1 : Int)))))
  (hx.1 (d_impl_sumOf_4_0 x3))
noncomputable def t_impl_sumOf_4 {R : Type} (nx : s_impl_sumOf_4.T → Option R) (hx : exH R x_impl_sumOf_4) (z : s_impl_sumOf_4.T) : Option R := u_impl_sumOf_4 nx hx z.1.1.1 z.1.2.1.1 z.1.2.2.1.1 z.1.2.2.2.1.1
theorem nat_impl_sumOf_4 : Natural @t_impl_sumOf_4 := fun R nx hx z => by
  show u_impl_sumOf_4 nx hx z.1.1.1 z.1.2.1.1 z.1.2.2.1.1 z.1.2.2.2.1.1 = (u_impl_sumOf_4 (fun y => some (.inl y)) (hIn x_impl_sumOf_4 fun x => some (.inr x)) z.1.1.1 z.1.2.1.1 z.1.2.2.1.1 z.1.2.2.2.1.1).bind (goOn nx hx)
  unfold u_impl_sumOf_4
  exact nat_cond (nat_bind fun _ => rfl) (rfl)
noncomputable def w_impl_sumOf_4 : s_impl_sumOf_4.T → Option (exT x_impl_sumOf_4) := wOf @t_impl_sumOf_4
theorem wq_impl_sumOf_4 (x3 : Int) (x6 : List Int) (x7 : Int) (x8 : Int) : w_impl_sumOf_4 (m_impl_sumOf_4 x3 x6 x7 x8) = u_impl_sumOf_4 w_impl_sumOf_4 (hIn x_impl_sumOf_4 some) x3 x6 x7 x8 := wOf_eq nat_impl_sumOf_4 _
def lh_impl_sumOf_4 : LoopHint := ⟨[3, 6, 7, 8], [], [3], []⟩
noncomputable def h_impl_sumOf : Hints Rv := ⟨fun k => match k with | 4 => lh_impl_sumOf_4 | _ => ⟨[], [], [], []⟩, fun k => match k with | 4 => some (loopX s_impl_sumOf_4 x_impl_sumOf_4 w_impl_sumOf_4) | _ => none⟩
theorem st_impl_sumOf_4 (n : Nat) (z : s_impl_sumOf_4.T) (k : Ex → Live → Option Rv) : loopN ⟨17, 17⟩ lh_impl_sumOf_4 (den (tab C0 T_impl_sumOf) ⟨17, 17⟩ h_impl_sumOf 1 (loopOf Try.f70 3)) (n + 1) (s_impl_sumOf_4.enc z) k =
    t_impl_sumOf_4 (fun y => loopN ⟨17, 17⟩ lh_impl_sumOf_4 (den (tab C0 T_impl_sumOf) ⟨17, 17⟩ h_impl_sumOf 1 (loopOf Try.f70 3)) n (s_impl_sumOf_4.enc y) k) (hK k x_impl_sumOf_4) z := by kernel_rfl
theorem hs_impl_sumOf : HintsOk (tab C0 T_impl_sumOf) ⟨17, 17⟩ h_impl_sumOf 1 (loops (codeOf Try.f70)) := by
  have hl : loops (codeOf Try.f70) = [loopOf Try.f70 3] := by kernel_rfl
  rw [hl]
  exact HintsOk.cons (n := 4) (lh := lh_impl_sumOf_4) (S := loopX s_impl_sumOf_4 x_impl_sumOf_4 w_impl_sumOf_4) (by kernel_rfl) rfl rfl (loopX_ok nat_impl_sumOf_4 st_impl_sumOf_4)
    (HintsOk.nil)
noncomputable def t_impl_sumOf {R : Type} (kx : Int → Option R) (a0 : (List Int)) : Option R :=
  Option.bind (w_impl_sumOf_4 (m_impl_sumOf_4 (0 : Int) a0 (((List.length a0) : Nat) : Int) (0 : Int))) (exC x_impl_sumOf_4
  (fun e144 =>
   kx (e144.1.1.1 : Int), ()))
noncomputable def g_impl_sumOf (a0 : (List Int)) : Option (Int) := t_impl_sumOf some a0
theorem nat_impl_sumOf {R : Type} (kx : Int → Option R) (a0 : (List Int)) : t_impl_sumOf kx a0 = (g_impl_sumOf a0).bind kx := by
  unfold g_impl_sumOf t_impl_sumOf
  exact nat_exC ⟨fun _ => rfl, trivial⟩
abbrev as_impl_sumOf : List AX := [.val false (.slice (.int .i64))]
abbrev en_impl_sumOf : Int → AV × List CV := fun b => (.one ⟨false, [(.v (.int .i64 b))]⟩, [])
noncomputable abbrev k_impl_sumOf : Contract := .fx as_impl_sumOf (Int) (fun z => g_impl_sumOf z.1) en_impl_sumOf
theorem r_impl_sumOf (z : argsX as_impl_sumOf) : runF (tab C0 T_impl_sumOf) h_impl_sumOf 1 Try.f70 (lentOf as_impl_sumOf) (xBoxes as_impl_sumOf z) (xVals as_impl_sumOf 0 z) K2 = t_impl_sumOf (fun b => some (en_impl_sumOf b)) z.1 := by kernel_rfl
theorem so_impl_sumOf : Sound C0 70 k_impl_sumOf :=
  Sound.fx a_impl_sumOf mixed Try.func70 (by kernel_rfl) (by kernel_rfl) h_impl_sumOf 1 hs_impl_sumOf (fun z => (r_impl_sumOf z).trans (nat_impl_sumOf _ z.1))

/-! ### F51 impl.areLengths -/
noncomputable def T_impl_areLengths : List (FuncId × Contract) := [(63, k_impl_length_int64), (62, k_impl_within), (60, k_slices_ContainsFunc_Sint64_int64__impl_areLengths_1), (70, k_impl_sumOf)]
theorem a_impl_areLengths : AllSound C0 T_impl_areLengths := .cons so_impl_length_int64 (.cons so_impl_within (.cons so_slices_ContainsFunc_Sint64_int64__impl_areLengths_1 (.cons so_impl_sumOf (.nil))))
noncomputable def t_impl_areLengths {R : Type} (kx : Bool → Option R) (a0 : (List Int)) : Option R :=
  Option.bind (g_impl_length_int64 a0) fun y119 =>
  Option.bind (g_impl_within y119 (1 : Int) (14 : Int)) fun y123 =>
  cond y123
  (Option.bind (g_slices_ContainsFunc_Sint64_int64__impl_areLengths_1 a0) fun y137 =>
   cond (!y137)
   (Option.bind (g_impl_sumOf a0) fun y146 =>
    kx (decide (y146 ≤ (1000 : Int))))
   (kx Bool.false))
  (kx Bool.false)
noncomputable def g_impl_areLengths (a0 : (List Int)) : Option (Bool) := t_impl_areLengths some a0
theorem nat_impl_areLengths {R : Type} (kx : Bool → Option R) (a0 : (List Int)) : t_impl_areLengths kx a0 = (g_impl_areLengths a0).bind kx := by
  unfold g_impl_areLengths t_impl_areLengths
  exact nat_bind fun _ => nat_bind fun _ => nat_cond (nat_bind fun _ => nat_cond (nat_bind fun _ => rfl) (rfl)) (rfl)
abbrev as_impl_areLengths : List AX := [.val false (.slice (.int .i64))]
abbrev en_impl_areLengths : Bool → AV × List CV := fun b => (.one ⟨false, [(.v (.bool b))]⟩, [])
noncomputable abbrev k_impl_areLengths : Contract := .fx as_impl_areLengths (Bool) (fun z => g_impl_areLengths z.1) en_impl_areLengths
theorem r_impl_areLengths (z : argsX as_impl_areLengths) : runF (tab C0 T_impl_areLengths) noHints 1 Try.f51 (lentOf as_impl_areLengths) (xBoxes as_impl_areLengths z) (xVals as_impl_areLengths 0 z) K2 = t_impl_areLengths (fun b => some (en_impl_areLengths b)) z.1 := by kernel_rfl
theorem so_impl_areLengths : Sound C0 51 k_impl_areLengths :=
  Sound.fx a_impl_areLengths mixed Try.func51 (by kernel_rfl) (by kernel_rfl) noHints 1 noHints_ok (fun z => (r_impl_areLengths z).trans (nat_impl_areLengths _ z.1))

/-! ### F61 impl.ValidStrip$1 -/
noncomputable def T_impl_ValidStrip_1 : List (FuncId × Contract) := [(62, k_impl_within)]
theorem a_impl_ValidStrip_1 : AllSound C0 T_impl_ValidStrip_1 := .cons so_impl_within (.nil)
noncomputable def t_impl_ValidStrip_1 {R : Type} (kx : Bool → Option R) (a0 : Int) : Option R :=
  Option.bind (g_impl_within a0 (2 : Int) (3 : Int)) fun y155 =>
  kx (!y155)
noncomputable def g_impl_ValidStrip_1 (a0 : Int) : Option (Bool) := t_impl_ValidStrip_1 some a0
theorem nat_impl_ValidStrip_1 {R : Type} (kx : Bool → Option R) (a0 : Int) : t_impl_ValidStrip_1 kx a0 = (g_impl_ValidStrip_1 a0).bind kx := by
  unfold g_impl_ValidStrip_1 t_impl_ValidStrip_1
  exact nat_bind fun _ => rfl
abbrev as_impl_ValidStrip_1 : List AX := [.val false (.int .i64)]
abbrev en_impl_ValidStrip_1 : Bool → AV × List CV := fun b => (.one ⟨false, [(.v (.bool b))]⟩, [])
noncomputable abbrev k_impl_ValidStrip_1 : Contract := .fx as_impl_ValidStrip_1 (Bool) (fun z => g_impl_ValidStrip_1 z.1) en_impl_ValidStrip_1
theorem r_impl_ValidStrip_1 (z : argsX as_impl_ValidStrip_1) : runF (tab C0 T_impl_ValidStrip_1) noHints 1 Try.f61 (lentOf as_impl_ValidStrip_1) (xBoxes as_impl_ValidStrip_1 z) (xVals as_impl_ValidStrip_1 0 z) K2 = t_impl_ValidStrip_1 (fun b => some (en_impl_ValidStrip_1 b)) z.1 := by kernel_rfl
theorem so_impl_ValidStrip_1 : Sound C0 61 k_impl_ValidStrip_1 :=
  Sound.fx a_impl_ValidStrip_1 mixed Try.func61 (by kernel_rfl) (by kernel_rfl) noHints 1 noHints_ok (fun z => (r_impl_ValidStrip_1 z).trans (nat_impl_ValidStrip_1 _ z.1))

/-! ### F78 slices.IndexFunc[[]int64,int64] -/
noncomputable def T_slices_IndexFunc_Sint64_int64__impl_ValidStrip_1 : List (FuncId × Contract) := [(61, k_impl_ValidStrip_1)]
theorem a_slices_IndexFunc_Sint64_int64__impl_ValidStrip_1 : AllSound C0 T_slices_IndexFunc_Sint64_int64__impl_ValidStrip_1 := .cons so_impl_ValidStrip_1 (.nil)
abbrev s_slices_IndexFunc_Sint64_int64__impl_ValidStrip_1_3 : LS := ⟨[(false, [(.sl (.int .i64))]), (false, [(.fn 61 [])]), (false, [(.int .i64)]), (false, [(.int .i64)])], [], []⟩
abbrev e_slices_IndexFunc_Sint64_int64__impl_ValidStrip_1_3_0 : LS := ⟨[(false, [(.int .i64)])], [], []⟩
abbrev d_slices_IndexFunc_Sint64_int64__impl_ValidStrip_1_3_0 (v0 : Int) : e_slices_IndexFunc_Sint64_int64__impl_ValidStrip_1_3_0.T := (((v0, ()), ()), (), ())
abbrev e_slices_IndexFunc_Sint64_int64__impl_ValidStrip_1_3_1 : LS := ⟨[(false, [.undef])], [], []⟩
abbrev d_slices_IndexFunc_Sint64_int64__impl_ValidStrip_1_3_1 : e_slices_IndexFunc_Sint64_int64__impl_ValidStrip_1_3_1.T := ((((), ()), ()), (), ())
abbrev x_slices_IndexFunc_Sint64_int64__impl_ValidStrip_1_3 : List (Ex × LS) := [(.ret, e_slices_IndexFunc_Sint64_int64__impl_ValidStrip_1_3_0), (.exit 0, e_slices_IndexFunc_Sint64_int64__impl_ValidStrip_1_3_1)]
abbrev m_slices_IndexFunc_Sint64_int64__impl_ValidStrip_1_3 (x0 : List Int) (x7 : Int) (x8 : Int) : s_slices_IndexFunc_Sint64_int64__impl_ValidStrip_1_3.T := (((x0, ()), ((), ()), (x7, ()), (x8, ()), ()), (), ())
noncomputable def u_slices_IndexFunc_Sint64_int64__impl_ValidStrip_1_3 {R : Type} (nx : s_slices_IndexFunc_Sint64_int64__impl_ValidStrip_1_3.T → Option R) (hx : exH R x_slices_IndexFunc_Sint64_int64__impl_ValidStrip_1_3) (x0 : List Int) (x7 : Int) (x8 : Int) : Option R :=
  cond (decide (x8 < x7))
  (Option.bind (idx x0 x8) fun y153 =>
   Option.bind (g_impl_ValidStrip_1 y153) fun y156 =>
   cond y156
   (hx.1 (d_slices_IndexFunc_Sint64_int64__impl_ValidStrip_1_3_0 x8))
   (nx (m_slices_IndexFunc_Sint64_int64__impl_ValidStrip_1_3 x0 x7 (IntKind.wrap IntKind.i64 (x8 + (1 : Int))))))
  (hx.2.1 (d_slices_IndexFunc_Sint64_int64__impl_ValidStrip_1_3_1))
noncomputable def t_slices_IndexFunc_Sint64_int64__impl_ValidStrip_1_3 {R : Type} (nx : s_slices_IndexFunc_Sint64_int64__impl_ValidStrip_1_3.T → Option R) (hx : exH R x_slices_IndexFunc_Sint64_int64__impl_ValidStrip_1_3) (z : s_slices_IndexFunc_Sint64_int64__impl_ValidStrip_1_3.T) : Option R := u_slices_IndexFunc_Sint64_int64__impl_ValidStrip_1_3 nx hx z.1.1.1 z.1.2.2.1.1 z.1.2.2.2.1.1
theorem nat_slices_IndexFunc_Sint64_int64__impl_ValidStrip_1_3 : Natural @t_slices_IndexFunc_Sint64_int64__impl_ValidStrip_1_3 := fun R nx hx z => by
  show u_slices_IndexFunc_Sint64_int64__impl_ValidStrip_1_3 nx hx z.1.1.1 z.1.2.2.1.1 z.1.2.2.2.1.1 = (u_slices_IndexFunc_Sint64_int64__impl_ValidStrip_1_3 (fun y => some (.inl y)) (hIn x_slices_IndexFunc_Sint64_int64__impl_ValidStrip_1_3 fun x => some (.inr x)) z.1.1.1 z.1.2.2.1.1 z.1.2.2.2.1.1).bind (goOn nx hx)
  unfold u_slices_IndexFunc_Sint64_int64__impl_ValidStrip_1_3
  exact nat_cond (nat_bind fun _ => nat_bind fun _ => nat_cond (rfl) (rfl)) (rfl)
noncomputable def w_slices_IndexFunc_Sint64_int64__impl_ValidStrip_1_3 : s_slices_IndexFunc_Sint64_int64__impl_ValidStrip_1_3.T → Option (exT x_slices_IndexFunc_Sint64_int64__impl_ValidStrip_1_3) := wOf @t_slices_IndexFunc_Sint64_int64__impl_ValidStrip_1_3
theorem wq_slices_IndexFunc_Sint64_int64__impl_ValidStrip_1_3 (x0 : List Int) (x7 : Int) (x8 : Int) : w_slices_IndexFunc_Sint64_int64__impl_ValidStrip_1_3 (m_slices_IndexFunc_Sint64_int64__impl_ValidStrip_1_3 x0 x7 x8) = u_slices_IndexFunc_Sint64_int64__impl_ValidStrip_1_3 w_slices_IndexFunc_Sint64_int64__impl_ValidStrip_1_3 (hIn x_slices_IndexFunc_Sint64_int64__impl_ValidStrip_1_3 some) x0 x7 x8 := wOf_eq nat_slices_IndexFunc_Sint64_int64__impl_ValidStrip_1_3 _
def lh_slices_IndexFunc_Sint64_int64__impl_ValidStrip_1_3 : LoopHint := ⟨[0, 1, 7, 8], [], [4], []⟩
noncomputable def h_slices_IndexFunc_Sint64_int64__impl_ValidStrip_1 : Hints Rv := ⟨fun k => match k with | 3 => lh_slices_IndexFunc_Sint64_int64__impl_ValidStrip_1_3 | _ => ⟨[], [], [], []⟩, fun k => match k with | 3 => some (loopX s_slices_IndexFunc_Sint64_int64__impl_ValidStrip_1_3 x_slices_IndexFunc_Sint64_int64__impl_ValidStrip_1_3 w_slices_IndexFunc_Sint64_int64__impl_ValidStrip_1_3) | _ => none⟩
theorem st_slices_IndexFunc_Sint64_int64__impl_ValidStrip_1_3 (n : Nat) (z : s_slices_IndexFunc_Sint64_int64__impl_ValidStrip_1_3.T) (k : Ex → Live → Option Rv) : loopN ⟨19, 19⟩ lh_slices_IndexFunc_Sint64_int64__impl_ValidStrip_1_3 (den (tab C0 T_slices_IndexFunc_Sint64_int64__impl_ValidStrip_1) ⟨19, 19⟩ h_slices_IndexFunc_Sint64_int64__impl_ValidStrip_1 1 (loopOf Try.f78 2)) (n + 1) (s_slices_IndexFunc_Sint64_int64__impl_ValidStrip_1_3.enc z) k =
    t_slices_IndexFunc_Sint64_int64__impl_ValidStrip_1_3 (fun y => loopN ⟨19, 19⟩ lh_slices_IndexFunc_Sint64_int64__impl_ValidStrip_1_3 (den (tab C0 T_slices_IndexFunc_Sint64_int64__impl_ValidStrip_1) ⟨19, 19⟩ h_slices_IndexFunc_Sint64_int64__impl_ValidStrip_1 1 (loopOf Try.f78 2)) n (s_slices_IndexFunc_Sint64_int64__impl_ValidStrip_1_3.enc y) k) (hK k x_slices_IndexFunc_Sint64_int64__impl_ValidStrip_1_3) z := by kernel_rfl
theorem hs_slices_IndexFunc_Sint64_int64__impl_ValidStrip_1 : HintsOk (tab C0 T_slices_IndexFunc_Sint64_int64__impl_ValidStrip_1) ⟨19, 19⟩ h_slices_IndexFunc_Sint64_int64__impl_ValidStrip_1 1 (loops (codeOf Try.f78)) := by
  have hl : loops (codeOf Try.f78) = [loopOf Try.f78 2] := by kernel_rfl
  rw [hl]
  exact HintsOk.cons (n := 3) (lh := lh_slices_IndexFunc_Sint64_int64__impl_ValidStrip_1_3) (S := loopX s_slices_IndexFunc_Sint64_int64__impl_ValidStrip_1_3 x_slices_IndexFunc_Sint64_int64__impl_ValidStrip_1_3 w_slices_IndexFunc_Sint64_int64__impl_ValidStrip_1_3) (by kernel_rfl) rfl rfl (loopX_ok nat_slices_IndexFunc_Sint64_int64__impl_ValidStrip_1_3 st_slices_IndexFunc_Sint64_int64__impl_ValidStrip_1_3)
    (HintsOk.nil)
noncomputable def t_slices_IndexFunc_Sint64_int64__impl_ValidStrip_1 {R : Type} (kx : Int → Option R) (a0 : (List Int)) : Option R :=
  Option.bind (w_slices_IndexFunc_Sint64_int64__impl_ValidStrip_1_3 (m_slices_IndexFunc_Sint64_int64__impl_ValidStrip_1_3 a0 (((List.length a0) : Nat) : Int) (0 : Int))) (exC x_slices_IndexFunc_Sint64_int64__impl_ValidStrip_1_3
  (fun e157 =>
   kx (e157.1.1.1 : Int), fun _ =>
   kx (-(1 : Int)), ()))
noncomputable def g_slices_IndexFunc_Sint64_int64__impl_ValidStrip_1 (a0 : (List Int)) : Option (Int) := t_slices_IndexFunc_Sint64_int64__impl_ValidStrip_1 some a0
theorem nat_slices_IndexFunc_Sint64_int64__impl_ValidStrip_1 {R : Type} (kx : Int → Option R) (a0 : (List Int)) : t_slices_IndexFunc_Sint64_int64__impl_ValidStrip_1 kx a0 = (g_slices_IndexFunc_Sint64_int64__impl_ValidStrip_1 a0).bind kx := by
  unfold g_slices_IndexFunc_Sint64_int64__impl_ValidStrip_1 t_slices_IndexFunc_Sint64_int64__impl_ValidStrip_1
  exact nat_exC ⟨fun _ => rfl, fun _ => rfl, trivial⟩
abbrev as_slices_IndexFunc_Sint64_int64__impl_ValidStrip_1 : List AX := [.val false (.slice (.int .i64)), .clo 61 []]
abbrev en_slices_IndexFunc_Sint64_int64__impl_ValidStrip_1 : Int → AV × List CV := fun b => (.one ⟨false, [(.v (.int .i64 b))]⟩, [])
noncomputable abbrev k_slices_IndexFunc_Sint64_int64__impl_ValidStrip_1 : Contract := .fx as_slices_IndexFunc_Sint64_int64__impl_ValidStrip_1 (Int) (fun z => g_slices_IndexFunc_Sint64_int64__impl_ValidStrip_1 z.1) en_slices_IndexFunc_Sint64_int64__impl_ValidStrip_1
theorem r_slices_IndexFunc_Sint64_int64__impl_ValidStrip_1 (z : argsX as_slices_IndexFunc_Sint64_int64__impl_ValidStrip_1) : runF (tab C0 T_slices_IndexFunc_Sint64_int64__impl_ValidStrip_1) h_slices_IndexFunc_Sint64_int64__impl_ValidStrip_1 1 Try.f78 (lentOf as_slices_IndexFunc_Sint64_int64__impl_ValidStrip_1) (xBoxes as_slices_IndexFunc_Sint64_int64__impl_ValidStrip_1 z) (xVals as_slices_IndexFunc_Sint64_int64__impl_ValidStrip_1 0 z) K2 = t_slices_IndexFunc_Sint64_int64__impl_ValidStrip_1 (fun b => some (en_slices_IndexFunc_Sint64_int64__impl_ValidStrip_1 b)) z.1 := by kernel_rfl
theorem so_slices_IndexFunc_Sint64_int64__impl_ValidStrip_1 : Sound C0 78 k_slices_IndexFunc_Sint64_int64__impl_ValidStrip_1 :=
  Sound.fx a_slices_IndexFunc_Sint64_int64__impl_ValidStrip_1 mixed Try.func78 (by kernel_rfl) (by kernel_rfl) h_slices_IndexFunc_Sint64_int64__impl_ValidStrip_1 1 hs_slices_IndexFunc_Sint64_int64__impl_ValidStrip_1 (fun z => (r_slices_IndexFunc_Sint64_int64__impl_ValidStrip_1 z).trans (nat_slices_IndexFunc_Sint64_int64__impl_ValidStrip_1 _ z.1))

/-! ### F60 slices.ContainsFunc[[]int64,int64] -/
noncomputable def T_slices_ContainsFunc_Sint64_int64__impl_ValidStrip_1 : List (FuncId × Contract) := [(78, k_slices_IndexFunc_Sint64_int64__impl_ValidStrip_1)]
theorem a_slices_ContainsFunc_Sint64_int64__impl_ValidStrip_1 : AllSound C0 T_slices_ContainsFunc_Sint64_int64__impl_ValidStrip_1 := .cons so_slices_IndexFunc_Sint64_int64__impl_ValidStrip_1 (.nil)
noncomputable def t_slices_ContainsFunc_Sint64_int64__impl_ValidStrip_1 {R : Type} (kx : Bool → Option R) (a0 : (List Int)) : Option R :=
  Option.bind (g_slices_IndexFunc_Sint64_int64__impl_ValidStrip_1 a0) fun y160 =>
  kx (decide (y160 ≥ (0 : Int)))
noncomputable def g_slices_ContainsFunc_Sint64_int64__impl_ValidStrip_1 (a0 : (List Int)) : Option (Bool) := t_slices_ContainsFunc_Sint64_int64__impl_ValidStrip_1 some a0
theorem nat_slices_ContainsFunc_Sint64_int64__impl_ValidStrip_1 {R : Type} (kx : Bool → Option R) (a0 : (List Int)) : t_slices_ContainsFunc_Sint64_int64__impl_ValidStrip_1 kx a0 = (g_slices_ContainsFunc_Sint64_int64__impl_ValidStrip_1 a0).bind kx := by
  unfold g_slices_ContainsFunc_Sint64_int64__impl_ValidStrip_1 t_slices_ContainsFunc_Sint64_int64__impl_ValidStrip_1
  exact nat_bind fun _ => rfl
abbrev as_slices_ContainsFunc_Sint64_int64__impl_ValidStrip_1 : List AX := [.val false (.slice (.int .i64)), .clo 61 []]
abbrev en_slices_ContainsFunc_Sint64_int64__impl_ValidStrip_1 : Bool → AV × List CV := fun b => (.one ⟨false, [(.v (.bool b))]⟩, [])
noncomputable abbrev k_slices_ContainsFunc_Sint64_int64__impl_ValidStrip_1 : Contract := .fx as_slices_ContainsFunc_Sint64_int64__impl_ValidStrip_1 (Bool) (fun z => g_slices_ContainsFunc_Sint64_int64__impl_ValidStrip_1 z.1) en_slices_ContainsFunc_Sint64_int64__impl_ValidStrip_1
theorem r_slices_ContainsFunc_Sint64_int64__impl_ValidStrip_1 (z : argsX as_slices_ContainsFunc_Sint64_int64__impl_ValidStrip_1) : runF (tab C0 T_slices_ContainsFunc_Sint64_int64__impl_ValidStrip_1) noHints 1 Try.f60 (lentOf as_slices_ContainsFunc_Sint64_int64__impl_ValidStrip_1) (xBoxes as_slices_ContainsFunc_Sint64_int64__impl_ValidStrip_1 z) (xVals as_slices_ContainsFunc_Sint64_int64__impl_ValidStrip_1 0 z) K2 = t_slices_ContainsFunc_Sint64_int64__impl_ValidStrip_1 (fun b => some (en_slices_ContainsFunc_Sint64_int64__impl_ValidStrip_1 b)) z.1 := by kernel_rfl
theorem so_slices_ContainsFunc_Sint64_int64__impl_ValidStrip_1 : Sound C0 60 k_slices_ContainsFunc_Sint64_int64__impl_ValidStrip_1 :=
  Sound.fx a_slices_ContainsFunc_Sint64_int64__impl_ValidStrip_1 mixed Try.func60 (by kernel_rfl) (by kernel_rfl) noHints 1 noHints_ok (fun z => (r_slices_ContainsFunc_Sint64_int64__impl_ValidStrip_1 z).trans (nat_slices_ContainsFunc_Sint64_int64__impl_ValidStrip_1 _ z.1))

/-! ### F40 impl.ValidStrip -/
noncomputable def T_impl_ValidStrip : List (FuncId × Contract) := [(51, k_impl_areLengths), (60, k_slices_ContainsFunc_Sint64_int64__impl_ValidStrip_1)]
theorem a_impl_ValidStrip : AllSound C0 T_impl_ValidStrip := .cons so_impl_areLengths (.cons so_slices_ContainsFunc_Sint64_int64__impl_ValidStrip_1 (.nil))
noncomputable def t_impl_ValidStrip {R : Type} (kx : Bool → Option R) (a0 : ((List Int) × (List Int))) : Option R :=
  Option.bind (g_impl_areLengths a0.1) fun y147 =>
  cond y147
  (cond ((((List.length a0.2) : Nat) : Int) == (IntKind.wrap IntKind.i64 ((((List.length a0.1) : Nat) : Int) - (1 : Int))))
   (Option.bind (g_slices_ContainsFunc_Sint64_int64__impl_ValidStrip_1 a0.2) fun y161 =>
    kx (!y161))
   (kx Bool.false))
  (kx Bool.false)
noncomputable def g_impl_ValidStrip (a0 : ((List Int) × (List Int))) : Option (Bool) := t_impl_ValidStrip some a0
theorem nat_impl_ValidStrip {R : Type} (kx : Bool → Option R) (a0 : ((List Int) × (List Int))) : t_impl_ValidStrip kx a0 = (g_impl_ValidStrip a0).bind kx := by
  unfold g_impl_ValidStrip t_impl_ValidStrip
  exact nat_bind fun _ => nat_cond (nat_cond (nat_bind fun _ => rfl) (rfl)) (rfl)
abbrev as_impl_ValidStrip : List AX := [.val true (.pair (.slice (.int .i64)) (.slice (.int .i64)))]
abbrev en_impl_ValidStrip : Bool → AV × List CV := fun b => (.one ⟨false, [(.v (.bool b))]⟩, [])
noncomputable abbrev k_impl_ValidStrip : Contract := .fx as_impl_ValidStrip (Bool) (fun z => g_impl_ValidStrip z.1) en_impl_ValidStrip
theorem r_impl_ValidStrip (z : argsX as_impl_ValidStrip) : runF (tab C0 T_impl_ValidStrip) noHints 1 Try.f40 (lentOf as_impl_ValidStrip) (xBoxes as_impl_ValidStrip z) (xVals as_impl_ValidStrip 0 z) K2 = t_impl_ValidStrip (fun b => some (en_impl_ValidStrip b)) z.1 := by kernel_rfl
theorem so_impl_ValidStrip : Sound C0 40 k_impl_ValidStrip :=
  Sound.fx a_impl_ValidStrip mixed Try.func40 (by kernel_rfl) (by kernel_rfl) noHints 1 noHints_ok (fun z => (r_impl_ValidStrip z).trans (nat_impl_ValidStrip _ z.1))

/-! ### F66 slices.Clone[[]int64,int64] -/
noncomputable def T_slices_Clone_Sint64_int64_n : List (FuncId × Contract) := []
theorem a_slices_Clone_Sint64_int64_n : AllSound C0 T_slices_Clone_Sint64_int64_n := .nil
noncomputable def t_slices_Clone_Sint64_int64_n {R : Type} (kx : (List Int) → Option R) (a0 : (List Int)) : Option R :=
  cond (decide (0 < (List.length a0)))
  (cond (decide ((((List.length ([] : List Int)) + (List.length a0)) * 8) ≤ 70368744177664))
   (cond (decide (((List.length ([] : List Int)) + (List.length a0)) ≤ 70368744177664))
    (kx ([] ++ a0))
    (none))
   (none))
  (none)
noncomputable def g_slices_Clone_Sint64_int64_n (a0 : (List Int)) : Option ((List Int)) := t_slices_Clone_Sint64_int64_n some a0
theorem nat_slices_Clone_Sint64_int64_n {R : Type} (kx : (List Int) → Option R) (a0 : (List Int)) : t_slices_Clone_Sint64_int64_n kx a0 = (g_slices_Clone_Sint64_int64_n a0).bind kx := by
  unfold g_slices_Clone_Sint64_int64_n t_slices_Clone_Sint64_int64_n
  exact nat_cond (nat_cond (nat_cond (rfl) (rfl)) (rfl)) (rfl)
abbrev as_slices_Clone_Sint64_int64_n : List AX := [.val false (.slice (.int .i64))]
abbrev en_slices_Clone_Sint64_int64_n : (List Int) → AV × List CV := fun b => (.one ⟨false, [(.own (.int .i64) b)]⟩, [])
noncomputable abbrev k_slices_Clone_Sint64_int64_n : Contract := .fx as_slices_Clone_Sint64_int64_n ((List Int)) (fun z => g_slices_Clone_Sint64_int64_n z.1) en_slices_Clone_Sint64_int64_n
theorem r_slices_Clone_Sint64_int64_n (z : argsX as_slices_Clone_Sint64_int64_n) : runF (tab C0 T_slices_Clone_Sint64_int64_n) noHints 1 Try.f66 (lentOf as_slices_Clone_Sint64_int64_n) (xBoxes as_slices_Clone_Sint64_int64_n z) (xVals as_slices_Clone_Sint64_int64_n 0 z) K2 = t_slices_Clone_Sint64_int64_n (fun b => some (en_slices_Clone_Sint64_int64_n b)) z.1 := by kernel_rfl
theorem so_slices_Clone_Sint64_int64_n : Sound C0 66 k_slices_Clone_Sint64_int64_n :=
  Sound.fx a_slices_Clone_Sint64_int64_n mixed Try.func66 (by kernel_rfl) (by kernel_rfl) noHints 1 noHints_ok (fun z => (r_slices_Clone_Sint64_int64_n z).trans (nat_slices_Clone_Sint64_int64_n _ z.1))
theorem e_slices_Clone_Sint64_int64 : Sound C0 66 (Contract.emptyS (.int .i64)) :=
  Sound.emptyRun mixed Try.func66 (by kernel_rfl) (by kernel_rfl) (fun _ => rfl) (fun A c => by cases A <;> kernel_rfl)
noncomputable def g_slices_Clone_Sint64_int64 (a0 : (List Int)) : Option ((List Int)) := cond (decide (List.length a0 ≤ 1000000)) (some a0) none
abbrev as_slices_Clone_Sint64_int64 : List AX := [.val false (.slice (.int .i64))]
abbrev en_slices_Clone_Sint64_int64 : (List Int) → AV × List CV := fun b => (.one ⟨false, [(.own (.int .i64) b)]⟩, [])
noncomputable abbrev k_slices_Clone_Sint64_int64 : Contract := .fx as_slices_Clone_Sint64_int64 ((List Int)) (fun z => g_slices_Clone_Sint64_int64 z.1) en_slices_Clone_Sint64_int64
theorem so_slices_Clone_Sint64_int64 : Sound C0 66 k_slices_Clone_Sint64_int64 := by
  refine Sound.orEmpty so_slices_Clone_Sint64_int64_n (g' := g_slices_Clone_Sint64_int64) (fun l y h hne => ?_) (fun y h => ?_) e_slices_Clone_Sint64_int64
  · show g_slices_Clone_Sint64_int64_n l = some y
    unfold g_slices_Clone_Sint64_int64 at h
    cases hd : decide (List.length l ≤ 1000000) with
    | false => rw [hd] at h; cases h
    | true =>
      rw [hd] at h; cases h
      have h1 := of_decide_eq_true hd
      have h2 : 0 < List.length l := List.length_pos_iff.2 hne
      unfold g_slices_Clone_Sint64_int64_n t_slices_Clone_Sint64_int64_n
      simp only [List.length_nil, Nat.zero_add, List.nil_append]
      rw [decide_eq_true h2, decide_eq_true (by omega), decide_eq_true (by omega)]; rfl
  · cases h; rfl

/-! ### F46 (impl.Strip).isPossible -/
noncomputable def T_impl_Strip_isPossible : List (FuncId × Contract) := [(63, k_impl_length_int64), (62, k_impl_within)]
theorem a_impl_Strip_isPossible : AllSound C0 T_impl_Strip_isPossible := .cons so_impl_length_int64 (.cons so_impl_within (.nil))
noncomputable def t_impl_Strip_isPossible {R : Type} (kx : Bool → Option R) (a0 : ((List Int) × (List Int))) (a1 : (Int × Int)) : Option R :=
  Option.bind (g_impl_length_int64 a0.1) fun y198 =>
  cond (decide (y198 < (2 : Int)))
  (kx Bool.false)
  (cond (a1.1 == (2 : Int))
   (cond (a1.2 == (0 : Int))
    (Option.bind (idx a0.1 (0 : Int)) fun y199 =>
     Option.bind (idx a0.1 (1 : Int)) fun y200 =>
     kx (decide (y199 ≤ y200)))
    (kx Bool.false))
   (cond (a1.1 == (3 : Int))
    (cond (a1.2 == (IntKind.wrap IntKind.i64 (y198 - (1 : Int))))
     (Option.bind (idx a0.1 (IntKind.wrap IntKind.i64 (y198 - (1 : Int)))) fun y201 =>
      Option.bind (idx a0.1 (IntKind.wrap IntKind.i64 (y198 - (2 : Int)))) fun y202 =>
      kx (decide (y201 ≤ y202)))
     (kx Bool.false))
    (cond (a1.1 == (1 : Int))
     (Option.bind (g_impl_within a1.2 (1 : Int) (IntKind.wrap IntKind.i64 (y198 - (2 : Int)))) fun y203 =>
      cond y203
      (Option.bind (idx a0.1 a1.2) fun y204 =>
       Option.bind (idx a0.1 (IntKind.wrap IntKind.i64 (a1.2 - (1 : Int)))) fun y205 =>
       cond (decide (y204 ≤ y205))
       (Option.bind (idx a0.1 a1.2) fun y206 =>
        Option.bind (idx a0.1 (IntKind.wrap IntKind.i64 (a1.2 + (1 : Int)))) fun y207 =>
        cond (decide (y206 ≤ y207))
        (Option.bind (idx a0.2 (IntKind.wrap IntKind.i64 (a1.2 - (1 : Int)))) fun y208 =>
         Option.bind (idx a0.2 a1.2) fun y209 =>
         kx (y208 != y209))
        (kx Bool.false))
       (kx Bool.false))
      (kx Bool.false))
     (kx Bool.false))))
noncomputable def g_impl_Strip_isPossible (a0 : ((List Int) × (List Int))) (a1 : (Int × Int)) : Option (Bool) := t_impl_Strip_isPossible some a0 a1
theorem nat_impl_Strip_isPossible {R : Type} (kx : Bool → Option R) (a0 : ((List Int) × (List Int))) (a1 : (Int × Int)) : t_impl_Strip_isPossible kx a0 a1 = (g_impl_Strip_isPossible a0 a1).bind kx := by
  unfold g_impl_Strip_isPossible t_impl_Strip_isPossible
  exact nat_bind fun _ => nat_cond (rfl) (nat_cond (nat_cond (nat_bind fun _ => nat_bind fun _ => rfl) (rfl)) (nat_cond (nat_cond (nat_bind fun _ => nat_bind fun _ => rfl) (rfl)) (nat_cond (nat_bind fun _ => nat_cond (nat_bind fun _ => nat_bind fun _ => nat_cond (nat_bind fun _ => nat_bind fun _ => nat_cond (nat_bind fun _ => nat_bind fun _ => rfl) (rfl)) (rfl)) (rfl)) (rfl))))
abbrev as_impl_Strip_isPossible : List AX := [.val true (.pair (.slice (.int .i64)) (.slice (.int .i64))), .val true (.pair (.int .i64) (.int .i64))]
abbrev en_impl_Strip_isPossible : Bool → AV × List CV := fun b => (.one ⟨false, [(.v (.bool b))]⟩, [])
noncomputable abbrev k_impl_Strip_isPossible : Contract := .fx as_impl_Strip_isPossible (Bool) (fun z => g_impl_Strip_isPossible z.1 z.2.1) en_impl_Strip_isPossible
theorem r_impl_Strip_isPossible (z : argsX as_impl_Strip_isPossible) : runF (tab C0 T_impl_Strip_isPossible) noHints 1 Try.f46 (lentOf as_impl_Strip_isPossible) (xBoxes as_impl_Strip_isPossible z) (xVals as_impl_Strip_isPossible 0 z) K2 = t_impl_Strip_isPossible (fun b => some (en_impl_Strip_isPossible b)) z.1 z.2.1 := by kernel_rfl
theorem so_impl_Strip_isPossible : Sound C0 46 k_impl_Strip_isPossible :=
  Sound.fx a_impl_Strip_isPossible mixed Try.func46 (by kernel_rfl) (by kernel_rfl) noHints 1 noHints_ok (fun z => (r_impl_Strip_isPossible z).trans (nat_impl_Strip_isPossible _ z.1 z.2.1))

/-! ### F65 (impl.Strip).steps$1 -/
noncomputable def T_impl_Strip_steps_1 : List (FuncId × Contract) := [(46, k_impl_Strip_isPossible)]
theorem a_impl_Strip_steps_1 : AllSound C0 T_impl_Strip_steps_1 := .cons so_impl_Strip_isPossible (.nil)
noncomputable def t_impl_Strip_steps_1 {R : Type} (kx : Bool → Option R) (a0 : (Int × Int)) (a1 : ((List Int) × (List Int))) : Option R :=
  Option.bind (g_impl_Strip_isPossible a1 a0) fun y210 =>
  kx (!y210)
noncomputable def g_impl_Strip_steps_1 (a0 : (Int × Int)) (a1 : ((List Int) × (List Int))) : Option (Bool) := t_impl_Strip_steps_1 some a0 a1
theorem nat_impl_Strip_steps_1 {R : Type} (kx : Bool → Option R) (a0 : (Int × Int)) (a1 : ((List Int) × (List Int))) : t_impl_Strip_steps_1 kx a0 a1 = (g_impl_Strip_steps_1 a0 a1).bind kx := by
  unfold g_impl_Strip_steps_1 t_impl_Strip_steps_1
  exact nat_bind fun _ => rfl
abbrev as_impl_Strip_steps_1 : List AX := [.val true (.pair (.int .i64) (.int .i64)), .ptr (.pair (.slice (.int .i64)) (.slice (.int .i64)))]
abbrev en_impl_Strip_steps_1 : Bool → AV × List CV := fun b => (.one ⟨false, [(.v (.bool b))]⟩, [])
noncomputable abbrev k_impl_Strip_steps_1 : Contract := .fx as_impl_Strip_steps_1 (Bool) (fun z => g_impl_Strip_steps_1 z.1 z.2.1) en_impl_Strip_steps_1
theorem r_impl_Strip_steps_1 (z : argsX as_impl_Strip_steps_1) : runF (tab C0 T_impl_Strip_steps_1) noHints 1 Try.f65 (lentOf as_impl_Strip_steps_1) (xBoxes as_impl_Strip_steps_1 z) (xVals as_impl_Strip_steps_1 0 z) K2 = t_impl_Strip_steps_1 (fun b => some (en_impl_Strip_steps_1 b)) z.1 z.2.1 := by kernel_rfl
theorem so_impl_Strip_steps_1 : Sound C0 65 k_impl_Strip_steps_1 :=
  Sound.fx a_impl_Strip_steps_1 mixed Try.func65 (by kernel_rfl) (by kernel_rfl) noHints 1 noHints_ok (fun z => (r_impl_Strip_steps_1 z).trans (nat_impl_Strip_steps_1 _ z.1 z.2.1))

/-! ### F79 slices.IndexFunc[[]impl.StripStep,impl.StripStep] -/
noncomputable def T_slices_IndexFunc_Simpl_StripStep_impl_StripStep__impl_Strip_steps_1 : List (FuncId × Contract) := [(65, k_impl_Strip_steps_1)]
theorem a_slices_IndexFunc_Simpl_StripStep_impl_StripStep__impl_Strip_steps_1 : AllSound C0 T_slices_IndexFunc_Simpl_StripStep_impl_StripStep__impl_Strip_steps_1 := .cons so_impl_Strip_steps_1 (.nil)
abbrev s_slices_IndexFunc_Simpl_StripStep_impl_StripStep__impl_Strip_steps_1_3 : LS := ⟨[(false, [(.sl (.pair (.int .i64) (.int .i64)))]), (false, [(.fn 65 [(19, 0)])]), (false, [(.int .i64)]), (false, [(.int .i64)])], [(true, [(.sl (.int .i64)), (.sl (.int .i64))])], []⟩
abbrev e_slices_IndexFunc_Simpl_StripStep_impl_StripStep__impl_Strip_steps_1_3_0 : LS := ⟨[(false, [(.int .i64)])], [], []⟩
abbrev d_slices_IndexFunc_Simpl_StripStep_impl_StripStep__impl_Strip_steps_1_3_0 (v0 : Int) : e_slices_IndexFunc_Simpl_StripStep_impl_StripStep__impl_Strip_steps_1_3_0.T := (((v0, ()), ()), (), ())
abbrev e_slices_IndexFunc_Simpl_StripStep_impl_StripStep__impl_Strip_steps_1_3_1 : LS := ⟨[(false, [.undef])], [], []⟩
abbrev d_slices_IndexFunc_Simpl_StripStep_impl_StripStep__impl_Strip_steps_1_3_1 : e_slices_IndexFunc_Simpl_StripStep_impl_StripStep__impl_Strip_steps_1_3_1.T := ((((), ()), ()), (), ())
abbrev x_slices_IndexFunc_Simpl_StripStep_impl_StripStep__impl_Strip_steps_1_3 : List (Ex × LS) := [(.ret, e_slices_IndexFunc_Simpl_StripStep_impl_StripStep__impl_Strip_steps_1_3_0), (.exit 0, e_slices_IndexFunc_Simpl_StripStep_impl_StripStep__impl_Strip_steps_1_3_1)]
abbrev m_slices_IndexFunc_Simpl_StripStep_impl_StripStep__impl_Strip_steps_1_3 (x0 : List (Int × Int)) (x7 : Int) (x8 : Int) (b0_0 : List Int) (b0_1 : List Int) : s_slices_IndexFunc_Simpl_StripStep_impl_StripStep__impl_Strip_steps_1_3.T := (((x0, ()), ((), ()), (x7, ()), (x8, ()), ()), ((b0_0, b0_1, ()), ()), ())
noncomputable def u_slices_IndexFunc_Simpl_StripStep_impl_StripStep__impl_Strip_steps_1_3 {R : Type} (nx : s_slices_IndexFunc_Simpl_StripStep_impl_StripStep__impl_Strip_steps_1_3.T → Option R) (hx : exH R x_slices_IndexFunc_Simpl_StripStep_impl_StripStep__impl_Strip_steps_1_3) (x0 : List (Int × Int)) (x7 : Int) (x8 : Int) (b0_0 : List Int) (b0_1 : List Int) : Option R :=
  cond (decide (x8 < x7))
  (Option.bind (idx x0 x8) fun y193 =>
   Option.bind (g_impl_Strip_steps_1 y193 (b0_0, b0_1)) fun y211 =>
   cond y211
   (hx.1 (d_slices_IndexFunc_Simpl_StripStep_impl_StripStep__impl_Strip_steps_1_3_0 x8))
   (nx (m_slices_IndexFunc_Simpl_StripStep_impl_StripStep__impl_Strip_steps_1_3 x0 x7 (IntKind.wrap IntKind.i64 (x8 + (1 : Int))) b0_0 b0_1)))
  (hx.2.1 (d_slices_IndexFunc_Simpl_StripStep_impl_StripStep__impl_Strip_steps_1_3_1))
noncomputable def t_slices_IndexFunc_Simpl_StripStep_impl_StripStep__impl_Strip_steps_1_3 {R : Type} (nx : s_slices_IndexFunc_Simpl_StripStep_impl_StripStep__impl_Strip_steps_1_3.T → Option R) (hx : exH R x_slices_IndexFunc_Simpl_StripStep_impl_StripStep__impl_Strip_steps_1_3) (z : s_slices_IndexFunc_Simpl_StripStep_impl_StripStep__impl_Strip_steps_1_3.T) : Option R := u_slices_IndexFunc_Simpl_StripStep_impl_StripStep__impl_Strip_steps_1_3 nx hx z.1.1.1 z.1.2.2.1.1 z.1.2.2.2.1.1 z.2.1.1.1 z.2.1.1.2.1
theorem nat_slices_IndexFunc_Simpl_StripStep_impl_StripStep__impl_Strip_steps_1_3 : Natural @t_slices_IndexFunc_Simpl_StripStep_impl_StripStep__impl_Strip_steps_1_3 := fun R nx hx z => by
  show u_slices_IndexFunc_Simpl_StripStep_impl_StripStep__impl_Strip_steps_1_3 nx hx z.1.1.1 z.1.2.2.1.1 z.1.2.2.2.1.1 z.2.1.1.1 z.2.1.1.2.1 = (u_slices_IndexFunc_Simpl_StripStep_impl_StripStep__impl_Strip_steps_1_3 (fun y => some (.inl y)) (hIn x_slices_IndexFunc_Simpl_StripStep_impl_StripStep__impl_Strip_steps_1_3 fun x => some (.inr x)) z.1.1.1 z.1.2.2.1.1 z.1.2.2.2.1.1 z.2.1.1.1 z.2.1.1.2.1).bind (goOn nx hx)
  unfold u_slices_IndexFunc_Simpl_StripStep_impl_StripStep__impl_Strip_steps_1_3
  exact nat_cond (nat_bind fun _ => nat_bind fun _ => nat_cond (rfl) (rfl)) (rfl)
noncomputable def w_slices_IndexFunc_Simpl_StripStep_impl_StripStep__impl_Strip_steps_1_3 : s_slices_IndexFunc_Simpl_StripStep_impl_StripStep__impl_Strip_steps_1_3.T → Option (exT x_slices_IndexFunc_Simpl_StripStep_impl_StripStep__impl_Strip_steps_1_3) := wOf @t_slices_IndexFunc_Simpl_StripStep_impl_StripStep__impl_Strip_steps_1_3
theorem wq_slices_IndexFunc_Simpl_StripStep_impl_StripStep__impl_Strip_steps_1_3 (x0 : List (Int × Int)) (x7 : Int) (x8 : Int) (b0_0 : List Int) (b0_1 : List Int) : w_slices_IndexFunc_Simpl_StripStep_impl_StripStep__impl_Strip_steps_1_3 (m_slices_IndexFunc_Simpl_StripStep_impl_StripStep__impl_Strip_steps_1_3 x0 x7 x8 b0_0 b0_1) = u_slices_IndexFunc_Simpl_StripStep_impl_StripStep__impl_Strip_steps_1_3 w_slices_IndexFunc_Simpl_StripStep_impl_StripStep__impl_Strip_steps_1_3 (hIn x_slices_IndexFunc_Simpl_StripStep_impl_StripStep__impl_Strip_steps_1_3 some) x0 x7 x8 b0_0 b0_1 := wOf_eq nat_slices_IndexFunc_Simpl_StripStep_impl_StripStep__impl_Strip_steps_1_3 _
def lh_slices_IndexFunc_Simpl_StripStep_impl_StripStep__impl_Strip_steps_1_3 : LoopHint := ⟨[0, 1, 7, 8], [19], [4], []⟩
noncomputable def h_slices_IndexFunc_Simpl_StripStep_impl_StripStep__impl_Strip_steps_1 : Hints Rv := ⟨fun k => match k with | 3 => lh_slices_IndexFunc_Simpl_StripStep_impl_StripStep__impl_Strip_steps_1_3 | _ => ⟨[], [], [], []⟩, fun k => match k with | 3 => some (loopX s_slices_IndexFunc_Simpl_StripStep_impl_StripStep__impl_Strip_steps_1_3 x_slices_IndexFunc_Simpl_StripStep_impl_StripStep__impl_Strip_steps_1_3 w_slices_IndexFunc_Simpl_StripStep_impl_StripStep__impl_Strip_steps_1_3) | _ => none⟩
theorem st_slices_IndexFunc_Simpl_StripStep_impl_StripStep__impl_Strip_steps_1_3 (n : Nat) (z : s_slices_IndexFunc_Simpl_StripStep_impl_StripStep__impl_Strip_steps_1_3.T) (k : Ex → Live → Option Rv) : loopN ⟨19, 20⟩ lh_slices_IndexFunc_Simpl_StripStep_impl_StripStep__impl_Strip_steps_1_3 (den (tab C0 T_slices_IndexFunc_Simpl_StripStep_impl_StripStep__impl_Strip_steps_1) ⟨19, 20⟩ h_slices_IndexFunc_Simpl_StripStep_impl_StripStep__impl_Strip_steps_1 1 (loopOf Try.f79 2)) (n + 1) (s_slices_IndexFunc_Simpl_StripStep_impl_StripStep__impl_Strip_steps_1_3.enc z) k =
    t_slices_IndexFunc_Simpl_StripStep_impl_StripStep__impl_Strip_steps_1_3 (fun y => loopN ⟨19, 20⟩ lh_slices_IndexFunc_Simpl_StripStep_impl_StripStep__impl_Strip_steps_1_3 (den (tab C0 T_slices_IndexFunc_Simpl_StripStep_impl_StripStep__impl_Strip_steps_1) ⟨19, 20⟩ h_slices_IndexFunc_Simpl_StripStep_impl_StripStep__impl_Strip_steps_1 1 (loopOf Try.f79 2)) n (s_slices_IndexFunc_Simpl_StripStep_impl_StripStep__impl_Strip_steps_1_3.enc y) k) (hK k x_slices_IndexFunc_Simpl_StripStep_impl_StripStep__impl_Strip_steps_1_3) z := by kernel_rfl
theorem hs_slices_IndexFunc_Simpl_StripStep_impl_StripStep__impl_Strip_steps_1 : HintsOk (tab C0 T_slices_IndexFunc_Simpl_StripStep_impl_StripStep__impl_Strip_steps_1) ⟨19, 20⟩ h_slices_IndexFunc_Simpl_StripStep_impl_StripStep__impl_Strip_steps_1 1 (loops (codeOf Try.f79)) := by
  have hl : loops (codeOf Try.f79) = [loopOf Try.f79 2] := by kernel_rfl
  rw [hl]
  exact HintsOk.cons (n := 3) (lh := lh_slices_IndexFunc_Simpl_StripStep_impl_StripStep__impl_Strip_steps_1_3) (S := loopX s_slices_IndexFunc_Simpl_StripStep_impl_StripStep__impl_Strip_steps_1_3 x_slices_IndexFunc_Simpl_StripStep_impl_StripStep__impl_Strip_steps_1_3 w_slices_IndexFunc_Simpl_StripStep_impl_StripStep__impl_Strip_steps_1_3) (by kernel_rfl) rfl rfl (loopX_ok nat_slices_IndexFunc_Simpl_StripStep_impl_StripStep__impl_Strip_steps_1_3 st_slices_IndexFunc_Simpl_StripStep_impl_StripStep__impl_Strip_steps_1_3)
    (HintsOk.nil)
noncomputable def t_slices_IndexFunc_Simpl_StripStep_impl_StripStep__impl_Strip_steps_1 {R : Type} (kx : Int → Option R) (a0 : (List (Int × Int))) (a1_0 : ((List Int) × (List Int))) : Option R :=
  Option.bind (w_slices_IndexFunc_Simpl_StripStep_impl_StripStep__impl_Strip_steps_1_3 (m_slices_IndexFunc_Simpl_StripStep_impl_StripStep__impl_Strip_steps_1_3 a0 (((List.length a0) : Nat) : Int) (0 : Int) a1_0.1 a1_0.2)) (exC x_slices_IndexFunc_Simpl_StripStep_impl_StripStep__impl_Strip_steps_1_3
  (fun e212 =>
   kx (e212.1.1.1 : Int), fun _ =>
   kx (-(1 : Int)), ()))
noncomputable def g_slices_IndexFunc_Simpl_StripStep_impl_StripStep__impl_Strip_steps_1 (a0 : (List (Int × Int))) (a1_0 : ((List Int) × (List Int))) : Option (Int) := t_slices_IndexFunc_Simpl_StripStep_impl_StripStep__impl_Strip_steps_1 some a0 a1_0
theorem nat_slices_IndexFunc_Simpl_StripStep_impl_StripStep__impl_Strip_steps_1 {R : Type} (kx : Int → Option R) (a0 : (List (Int × Int))) (a1_0 : ((List Int) × (List Int))) : t_slices_IndexFunc_Simpl_StripStep_impl_StripStep__impl_Strip_steps_1 kx a0 a1_0 = (g_slices_IndexFunc_Simpl_StripStep_impl_StripStep__impl_Strip_steps_1 a0 a1_0).bind kx := by
  unfold g_slices_IndexFunc_Simpl_StripStep_impl_StripStep__impl_Strip_steps_1 t_slices_IndexFunc_Simpl_StripStep_impl_StripStep__impl_Strip_steps_1
  exact nat_exC ⟨fun _ => rfl, fun _ => rfl, trivial⟩
abbrev as_slices_IndexFunc_Simpl_StripStep_impl_StripStep__impl_Strip_steps_1 : List AX := [.val false (.slice (.pair (.int .i64) (.int .i64))), .clo 65 [(.pair (.slice (.int .i64)) (.slice (.int .i64)))]]
abbrev en_slices_IndexFunc_Simpl_StripStep_impl_StripStep__impl_Strip_steps_1 : Int → AV × List CV := fun b => (.one ⟨false, [(.v (.int .i64 b))]⟩, [])
noncomputable abbrev k_slices_IndexFunc_Simpl_StripStep_impl_StripStep__impl_Strip_steps_1 : Contract := .fx as_slices_IndexFunc_Simpl_StripStep_impl_StripStep__impl_Strip_steps_1 (Int) (fun z => g_slices_IndexFunc_Simpl_StripStep_impl_StripStep__impl_Strip_steps_1 z.1 z.2.1.1) en_slices_IndexFunc_Simpl_StripStep_impl_StripStep__impl_Strip_steps_1
theorem r_slices_IndexFunc_Simpl_StripStep_impl_StripStep__impl_Strip_steps_1 (z : argsX as_slices_IndexFunc_Simpl_StripStep_impl_StripStep__impl_Strip_steps_1) : runF (tab C0 T_slices_IndexFunc_Simpl_StripStep_impl_StripStep__impl_Strip_steps_1) h_slices_IndexFunc_Simpl_StripStep_impl_StripStep__impl_Strip_steps_1 1 Try.f79 (lentOf as_slices_IndexFunc_Simpl_StripStep_impl_StripStep__impl_Strip_steps_1) (xBoxes as_slices_IndexFunc_Simpl_StripStep_impl_StripStep__impl_Strip_steps_1 z) (xVals as_slices_IndexFunc_Simpl_StripStep_impl_StripStep__impl_Strip_steps_1 0 z) K2 = t_slices_IndexFunc_Simpl_StripStep_impl_StripStep__impl_Strip_steps_1 (fun b => some (en_slices_IndexFunc_Simpl_StripStep_impl_StripStep__impl_Strip_steps_1 b)) z.1 z.2.1.1 := by kernel_rfl
theorem so_slices_IndexFunc_Simpl_StripStep_impl_StripStep__impl_Strip_steps_1 : Sound C0 79 k_slices_IndexFunc_Simpl_StripStep_impl_StripStep__impl_Strip_steps_1 :=
  Sound.fx a_slices_IndexFunc_Simpl_StripStep_impl_StripStep__impl_Strip_steps_1 mixed Try.func79 (by kernel_rfl) (by kernel_rfl) h_slices_IndexFunc_Simpl_StripStep_impl_StripStep__impl_Strip_steps_1 1 hs_slices_IndexFunc_Simpl_StripStep_impl_StripStep__impl_Strip_steps_1 (fun z => (r_slices_IndexFunc_Simpl_StripStep_impl_StripStep__impl_Strip_steps_1 z).trans (nat_slices_IndexFunc_Simpl_StripStep_impl_StripStep__impl_Strip_steps_1 _ z.1 z.2.1.1))

/-! ### F64 slices.DeleteFunc[[]impl.StripStep,impl.StripStep] -/
noncomputable def T_slices_DeleteFunc_Simpl_StripStep_impl_StripStep__impl_Strip_steps_1 : List (FuncId × Contract) := [(79, k_slices_IndexFunc_Simpl_StripStep_impl_StripStep__impl_Strip_steps_1), (65, k_impl_Strip_steps_1)]
theorem a_slices_DeleteFunc_Simpl_StripStep_impl_StripStep__impl_Strip_steps_1 : AllSound C0 T_slices_DeleteFunc_Simpl_StripStep_impl_StripStep__impl_Strip_steps_1 := .cons so_slices_IndexFunc_Simpl_StripStep_impl_StripStep__impl_Strip_steps_1 (.cons so_impl_Strip_steps_1 (.nil))
abbrev s_slices_DeleteFunc_Simpl_StripStep_impl_StripStep__impl_Strip_steps_1_6 : LS := ⟨[(false, [(.view (.arg 0) true 0 (.pair (.int .i64) (.int .i64)))]), (false, [(.fn 65 [(42, 0)])]), (false, [(.int .i64)]), (false, [(.int .i64)])], [(true, [(.sl (.int .i64)), (.sl (.int .i64))])], [(.own (.pair (.int .i64) (.int .i64)))]⟩
abbrev e_slices_DeleteFunc_Simpl_StripStep_impl_StripStep__impl_Strip_steps_1_6_0 : LS := ⟨[(false, [(.view (.arg 0) true 0 (.pair (.int .i64) (.int .i64)))]), (false, [(.int .i64)])], [], [(.own (.pair (.int .i64) (.int .i64)))]⟩
abbrev d_slices_DeleteFunc_Simpl_StripStep_impl_StripStep__impl_Strip_steps_1_6_0 (v0 : List (Int × Int)) (v1 : Int) (v2 : List (Int × Int)) : e_slices_DeleteFunc_Simpl_StripStep_impl_StripStep__impl_Strip_steps_1_6_0.T := (((v0, ()), (v1, ()), ()), (), (v2, ()))
abbrev x_slices_DeleteFunc_Simpl_StripStep_impl_StripStep__impl_Strip_steps_1_6 : List (Ex × LS) := [(.exit 0, e_slices_DeleteFunc_Simpl_StripStep_impl_StripStep__impl_Strip_steps_1_6_0)]
abbrev m_slices_DeleteFunc_Simpl_StripStep_impl_StripStep__impl_Strip_steps_1_6 (x0 : List (Int × Int)) (x5 : Int) (x6 : Int) (b0_0 : List Int) (b0_1 : List Int) (o : List (Int × Int)) : s_slices_DeleteFunc_Simpl_StripStep_impl_StripStep__impl_Strip_steps_1_6.T := (((x0, ()), ((), ()), (x5, ()), (x6, ()), ()), ((b0_0, b0_1, ()), ()), (o, ()))
noncomputable def u_slices_DeleteFunc_Simpl_StripStep_impl_StripStep__impl_Strip_steps_1_6 {R : Type} (nx : s_slices_DeleteFunc_Simpl_StripStep_impl_StripStep__impl_Strip_steps_1_6.T → Option R) (hx : exH R x_slices_DeleteFunc_Simpl_StripStep_impl_StripStep__impl_Strip_steps_1_6) (x0 : List (Int × Int)) (x5 : Int) (x6 : Int) (b0_0 : List Int) (b0_1 : List Int) (o : List (Int × Int)) : Option R :=
  cond (decide (x6 < (((List.length x0) : Nat) : Int)))
  (Option.bind (idx x0 x6) fun y222 =>
   Option.bind (g_impl_Strip_steps_1 y222 (b0_0, b0_1)) fun y223 =>
   cond (!y223)
   (Option.bind (idx x0 x5) fun _ =>
    nx (m_slices_DeleteFunc_Simpl_StripStep_impl_StripStep__impl_Strip_steps_1_6 (List.set x0 (0 + (Int.toNat x5)) y222) (IntKind.wrap IntKind.i64 (x5 + (1 : Int))) (IntKind.wrap IntKind.i64 (x6 + (1 : Int))) b0_0 b0_1 (List.set o (0 + (Int.toNat x5)) y222)))
   (nx (m_slices_DeleteFunc_Simpl_StripStep_impl_StripStep__impl_Strip_steps_1_6 x0 x5 (IntKind.wrap IntKind.i64 (x6 + (1 : Int))) b0_0 b0_1 o)))
  (hx.1 (d_slices_DeleteFunc_Simpl_StripStep_impl_StripStep__impl_Strip_steps_1_6_0 x0 x5 o))
noncomputable def t_slices_DeleteFunc_Simpl_StripStep_impl_StripStep__impl_Strip_steps_1_6 {R : Type} (nx : s_slices_DeleteFunc_Simpl_StripStep_impl_StripStep__impl_Strip_steps_1_6.T → Option R) (hx : exH R x_slices_DeleteFunc_Simpl_StripStep_impl_StripStep__impl_Strip_steps_1_6) (z : s_slices_DeleteFunc_Simpl_StripStep_impl_StripStep__impl_Strip_steps_1_6.T) : Option R := u_slices_DeleteFunc_Simpl_StripStep_impl_StripStep__impl_Strip_steps_1_6 nx hx z.1.1.1 z.1.2.2.1.1 z.1.2.2.2.1.1 z.2.1.1.1 z.2.1.1.2.1 z.2.2.1
theorem nat_slices_DeleteFunc_Simpl_StripStep_impl_StripStep__impl_Strip_steps_1_6 : Natural @t_slices_DeleteFunc_Simpl_StripStep_impl_StripStep__impl_Strip_steps_1_6 := fun R nx hx z => by
  show u_slices_DeleteFunc_Simpl_StripStep_impl_StripStep__impl_Strip_steps_1_6 nx hx z.1.1.1 z.1.2.2.1.1 z.1.2.2.2.1.1 z.2.1.1.1 z.2.1.1.2.1 z.2.2.1 = (u_slices_DeleteFunc_Simpl_StripStep_impl_StripStep__impl_Strip_steps_1_6 (fun y => some (.inl y)) (hIn x_slices_DeleteFunc_Simpl_StripStep_impl_StripStep__impl_Strip_steps_1_6 fun x => some (.inr x)) z.1.1.1 z.1.2.2.1.1 z.1.2.2.2.1.1 z.2.1.1.1 z.2.1.1.2.1 z.2.2.1).bind (goOn nx hx)
  unfold u_slices_DeleteFunc_Simpl_StripStep_impl_StripStep__impl_Strip_steps_1_6
  exact nat_cond (nat_bind fun _ => nat_bind fun _ => nat_cond (nat_bind fun _ => rfl) (rfl)) (rfl)
noncomputable def w_slices_DeleteFunc_Simpl_StripStep_impl_StripStep__impl_Strip_steps_1_6 : s_slices_DeleteFunc_Simpl_StripStep_impl_StripStep__impl_Strip_steps_1_6.T → Option (exT x_slices_DeleteFunc_Simpl_StripStep_impl_StripStep__impl_Strip_steps_1_6) := wOf @t_slices_DeleteFunc_Simpl_StripStep_impl_StripStep__impl_Strip_steps_1_6
theorem wq_slices_DeleteFunc_Simpl_StripStep_impl_StripStep__impl_Strip_steps_1_6 (x0 : List (Int × Int)) (x5 : Int) (x6 : Int) (b0_0 : List Int) (b0_1 : List Int) (o : List (Int × Int)) : w_slices_DeleteFunc_Simpl_StripStep_impl_StripStep__impl_Strip_steps_1_6 (m_slices_DeleteFunc_Simpl_StripStep_impl_StripStep__impl_Strip_steps_1_6 x0 x5 x6 b0_0 b0_1 o) = u_slices_DeleteFunc_Simpl_StripStep_impl_StripStep__impl_Strip_steps_1_6 w_slices_DeleteFunc_Simpl_StripStep_impl_StripStep__impl_Strip_steps_1_6 (hIn x_slices_DeleteFunc_Simpl_StripStep_impl_StripStep__impl_Strip_steps_1_6 some) x0 x5 x6 b0_0 b0_1 o := wOf_eq nat_slices_DeleteFunc_Simpl_StripStep_impl_StripStep__impl_Strip_steps_1_6 _
def lh_slices_DeleteFunc_Simpl_StripStep_impl_StripStep__impl_Strip_steps_1_6 : LoopHint := ⟨[0, 1, 5, 6], [42], [0, 5], []⟩
noncomputable def h_slices_DeleteFunc_Simpl_StripStep_impl_StripStep__impl_Strip_steps_1 : Hints Rv := ⟨fun k => match k with | 6 => lh_slices_DeleteFunc_Simpl_StripStep_impl_StripStep__impl_Strip_steps_1_6 | _ => ⟨[], [], [], []⟩, fun k => match k with | 6 => some (loopX s_slices_DeleteFunc_Simpl_StripStep_impl_StripStep__impl_Strip_steps_1_6 x_slices_DeleteFunc_Simpl_StripStep_impl_StripStep__impl_Strip_steps_1_6 w_slices_DeleteFunc_Simpl_StripStep_impl_StripStep__impl_Strip_steps_1_6) | _ => none⟩
theorem st_slices_DeleteFunc_Simpl_StripStep_impl_StripStep__impl_Strip_steps_1_6 (n : Nat) (z : s_slices_DeleteFunc_Simpl_StripStep_impl_StripStep__impl_Strip_steps_1_6.T) (k : Ex → Live → Option Rv) : loopN ⟨42, 43⟩ lh_slices_DeleteFunc_Simpl_StripStep_impl_StripStep__impl_Strip_steps_1_6 (den (tab C0 T_slices_DeleteFunc_Simpl_StripStep_impl_StripStep__impl_Strip_steps_1) ⟨42, 43⟩ h_slices_DeleteFunc_Simpl_StripStep_impl_StripStep__impl_Strip_steps_1 1 (loopOf Try.f64 5)) (n + 1) (s_slices_DeleteFunc_Simpl_StripStep_impl_StripStep__impl_Strip_steps_1_6.enc z) k =
    t_slices_DeleteFunc_Simpl_StripStep_impl_StripStep__impl_Strip_steps_1_6 (fun y => loopN ⟨42, 43⟩ lh_slices_DeleteFunc_Simpl_StripStep_impl_StripStep__impl_Strip_steps_1_6 (den (tab C0 T_slices_DeleteFunc_Simpl_StripStep_impl_StripStep__impl_Strip_steps_1) ⟨42, 43⟩ h_slices_DeleteFunc_Simpl_StripStep_impl_StripStep__impl_Strip_steps_1 1 (loopOf Try.f64 5)) n (s_slices_DeleteFunc_Simpl_StripStep_impl_StripStep__impl_Strip_steps_1_6.enc y) k) (hK k x_slices_DeleteFunc_Simpl_StripStep_impl_StripStep__impl_Strip_steps_1_6) z := by kernel_rfl
theorem hs_slices_DeleteFunc_Simpl_StripStep_impl_StripStep__impl_Strip_steps_1 : HintsOk (tab C0 T_slices_DeleteFunc_Simpl_StripStep_impl_StripStep__impl_Strip_steps_1) ⟨42, 43⟩ h_slices_DeleteFunc_Simpl_StripStep_impl_StripStep__impl_Strip_steps_1 1 (loops (codeOf Try.f64)) := by
  have hl : loops (codeOf Try.f64) = [loopOf Try.f64 5] := by kernel_rfl
  rw [hl]
  exact HintsOk.cons (n := 6) (lh := lh_slices_DeleteFunc_Simpl_StripStep_impl_StripStep__impl_Strip_steps_1_6) (S := loopX s_slices_DeleteFunc_Simpl_StripStep_impl_StripStep__impl_Strip_steps_1_6 x_slices_DeleteFunc_Simpl_StripStep_impl_StripStep__impl_Strip_steps_1_6 w_slices_DeleteFunc_Simpl_StripStep_impl_StripStep__impl_Strip_steps_1_6) (by kernel_rfl) rfl rfl (loopX_ok nat_slices_DeleteFunc_Simpl_StripStep_impl_StripStep__impl_Strip_steps_1_6 st_slices_DeleteFunc_Simpl_StripStep_impl_StripStep__impl_Strip_steps_1_6)
    (HintsOk.nil)
noncomputable def t_slices_DeleteFunc_Simpl_StripStep_impl_StripStep__impl_Strip_steps_1 {R : Type} (kx : (List (Int × Int)) → Option R) (a0 : List (Int × Int)) (a1_0 : ((List Int) × (List Int))) : Option R :=
  Option.bind (g_slices_IndexFunc_Simpl_StripStep_impl_StripStep__impl_Strip_steps_1 a0 a1_0) fun y215 =>
  cond (y215 == (-(1 : Int)))
  (kx a0)
  (Option.bind (w_slices_DeleteFunc_Simpl_StripStep_impl_StripStep__impl_Strip_steps_1_6 (m_slices_DeleteFunc_Simpl_StripStep_impl_StripStep__impl_Strip_steps_1_6 a0 y215 (IntKind.wrap IntKind.i64 (y215 + (1 : Int))) a1_0.1 a1_0.2 a0)) (exC x_slices_DeleteFunc_Simpl_StripStep_impl_StripStep__impl_Strip_steps_1_6
   (fun e225 =>
    cond (decide (0 < (List.length (e225.1.1.1 : List (Int × Int)))))
    (cond (decide ((0 : Int) ≤ (e225.1.2.1.1 : Int)))
     (cond (decide ((e225.1.2.1.1 : Int) ≤ (((List.length (e225.1.1.1 : List (Int × Int))) : Nat) : Int)))
      (cond (decide (0 < (List.length (overL 0 (0 + (Int.toNat (e225.1.2.1.1 : Int))) (List.replicate (List.length (List.drop (Int.toNat (e225.1.2.1.1 : Int)) (List.take (List.length (e225.1.1.1 : List (Int × Int))) (e225.1.1.1 : List (Int × Int))))) ((0 : Int), (0 : Int))) (e225.1.1.1 : List (Int × Int))))))
       (cond (decide ((0 : Int) ≤ (e225.1.2.1.1 : Int)))
        (cond (decide ((e225.1.2.1.1 : Int) ≤ (((List.length (overL 0 (0 + (Int.toNat (e225.1.2.1.1 : Int))) (List.replicate (List.length (List.drop (Int.toNat (e225.1.2.1.1 : Int)) (List.take (List.length (e225.1.1.1 : List (Int × Int))) (e225.1.1.1 : List (Int × Int))))) ((0 : Int), (0 : Int))) (e225.1.1.1 : List (Int × Int)))) : Nat) : Int)))
         (kx (List.drop 0 (List.take (Int.toNat (e225.1.2.1.1 : Int)) (overL 0 (0 + (Int.toNat (e225.1.2.1.1 : Int))) (List.replicate (List.length (List.drop (Int.toNat (e225.1.2.1.1 : Int)) (List.take (List.length (e225.1.1.1 : List (Int × Int))) (e225.1.1.1 : List (Int × Int))))) ((0 : Int), (0 : Int))) (e225.1.1.1 : List (Int × Int))))))
         (none))
        (none))
       (none))
      (none))
     (none))
    (none), ())))
noncomputable def g_slices_DeleteFunc_Simpl_StripStep_impl_StripStep__impl_Strip_steps_1 (a0 : List (Int × Int)) (a1_0 : ((List Int) × (List Int))) : Option ((List (Int × Int))) := t_slices_DeleteFunc_Simpl_StripStep_impl_StripStep__impl_Strip_steps_1 some a0 a1_0
theorem nat_slices_DeleteFunc_Simpl_StripStep_impl_StripStep__impl_Strip_steps_1 {R : Type} (kx : (List (Int × Int)) → Option R) (a0 : List (Int × Int)) (a1_0 : ((List Int) × (List Int))) : t_slices_DeleteFunc_Simpl_StripStep_impl_StripStep__impl_Strip_steps_1 kx a0 a1_0 = (g_slices_DeleteFunc_Simpl_StripStep_impl_StripStep__impl_Strip_steps_1 a0 a1_0).bind kx := by
  unfold g_slices_DeleteFunc_Simpl_StripStep_impl_StripStep__impl_Strip_steps_1 t_slices_DeleteFunc_Simpl_StripStep_impl_StripStep__impl_Strip_steps_1
  exact nat_bind fun _ => nat_cond (rfl) (nat_exC ⟨fun _ => nat_cond (nat_cond (nat_cond (nat_cond (nat_cond (nat_cond (rfl) (rfl)) (rfl)) (rfl)) (rfl)) (rfl)) (rfl), trivial⟩)
abbrev as_slices_DeleteFunc_Simpl_StripStep_impl_StripStep__impl_Strip_steps_1 : List AX := [.io (.pair (.int .i64) (.int .i64)), .clo 65 [(.pair (.slice (.int .i64)) (.slice (.int .i64)))]]
abbrev en_slices_DeleteFunc_Simpl_StripStep_impl_StripStep__impl_Strip_steps_1 : (List (Int × Int)) → AV × List CV := fun b => (.one ⟨false, [(.own (.pair (.int .i64) (.int .i64)) b)]⟩, [.undef])
noncomputable abbrev k_slices_DeleteFunc_Simpl_StripStep_impl_StripStep__impl_Strip_steps_1 : Contract := .fx as_slices_DeleteFunc_Simpl_StripStep_impl_StripStep__impl_Strip_steps_1 ((List (Int × Int))) (fun z => g_slices_DeleteFunc_Simpl_StripStep_impl_StripStep__impl_Strip_steps_1 z.1 z.2.1.1) en_slices_DeleteFunc_Simpl_StripStep_impl_StripStep__impl_Strip_steps_1
theorem r_slices_DeleteFunc_Simpl_StripStep_impl_StripStep__impl_Strip_steps_1 (z : argsX as_slices_DeleteFunc_Simpl_StripStep_impl_StripStep__impl_Strip_steps_1) : runF (tab C0 T_slices_DeleteFunc_Simpl_StripStep_impl_StripStep__impl_Strip_steps_1) h_slices_DeleteFunc_Simpl_StripStep_impl_StripStep__impl_Strip_steps_1 1 Try.f64 (lentOf as_slices_DeleteFunc_Simpl_StripStep_impl_StripStep__impl_Strip_steps_1) (xBoxes as_slices_DeleteFunc_Simpl_StripStep_impl_StripStep__impl_Strip_steps_1 z) (xVals as_slices_DeleteFunc_Simpl_StripStep_impl_StripStep__impl_Strip_steps_1 0 z) K3 = t_slices_DeleteFunc_Simpl_StripStep_impl_StripStep__impl_Strip_steps_1 (fun b => some (en_slices_DeleteFunc_Simpl_StripStep_impl_StripStep__impl_Strip_steps_1 b)) z.1 z.2.1.1 := by kernel_rfl
theorem so_slices_DeleteFunc_Simpl_StripStep_impl_StripStep__impl_Strip_steps_1 : Sound C0 64 k_slices_DeleteFunc_Simpl_StripStep_impl_StripStep__impl_Strip_steps_1 :=
  Sound.fxTake a_slices_DeleteFunc_Simpl_StripStep_impl_StripStep__impl_Strip_steps_1 mixed Try.func64 (by kernel_rfl) (by kernel_rfl) h_slices_DeleteFunc_Simpl_StripStep_impl_StripStep__impl_Strip_steps_1 1 hs_slices_DeleteFunc_Simpl_StripStep_impl_StripStep__impl_Strip_steps_1 (fun z => (r_slices_DeleteFunc_Simpl_StripStep_impl_StripStep__impl_Strip_steps_1 z).trans (nat_slices_DeleteFunc_Simpl_StripStep_impl_StripStep__impl_Strip_steps_1 _ z.1 z.2.1.1))

/-! ### F41 (impl.Strip).steps -/
noncomputable def T_impl_Strip_steps : List (FuncId × Contract) := [(63, k_impl_length_int64), (64, k_slices_DeleteFunc_Simpl_StripStep_impl_StripStep__impl_Strip_steps_1)]
theorem a_impl_Strip_steps : AllSound C0 T_impl_Strip_steps := .cons so_impl_length_int64 (.cons so_slices_DeleteFunc_Simpl_StripStep_impl_StripStep__impl_Strip_steps_1 (.nil))
abbrev s_impl_Strip_steps_5 : LS := ⟨[(false, [(.ptr 1 0)]), (false, [(.int .i64)]), (false, [(.own (.pair (.int .i64) (.int .i64)))]), (false, [(.int .i64)])], [(false, [(.sl (.int .i64)), (.sl (.int .i64))])], []⟩
abbrev e_impl_Strip_steps_5_0 : LS := ⟨[(false, [(.ptr 1 0)]), (false, [(.int .i64)]), (false, [(.own (.pair (.int .i64) (.int .i64)))])], [(false, [(.sl (.int .i64)), (.sl (.int .i64))])], []⟩
abbrev d_impl_Strip_steps_5_0 (v0 : Int) (v1 : List (Int × Int)) (v2 : List Int) (v3 : List Int) : e_impl_Strip_steps_5_0.T := ((((), ()), (v0, ()), (v1, ()), ()), ((v2, v3, ()), ()), ())
abbrev x_impl_Strip_steps_5 : List (Ex × LS) := [(.exit 0, e_impl_Strip_steps_5_0)]
abbrev m_impl_Strip_steps_5 (x3 : Int) (x4 : List (Int × Int)) (x5 : Int) (b0_0 : List Int) (b0_1 : List Int) : s_impl_Strip_steps_5.T := ((((), ()), (x3, ()), (x4, ()), (x5, ()), ()), ((b0_0, b0_1, ()), ()), ())
noncomputable def u_impl_Strip_steps_5 {R : Type} (nx : s_impl_Strip_steps_5.T → Option R) (hx : exH R x_impl_Strip_steps_5) (x3 : Int) (x4 : List (Int × Int)) (x5 : Int) (b0_0 : List Int) (b0_1 : List Int) : Option R :=
  cond (decide (x5 ≤ (IntKind.wrap IntKind.i64 (x3 - (2 : Int)))))
  (cond (decide ((((List.length x4) + (List.length [((1 : Int), x5)])) * 16) ≤ 70368744177664))
   (cond (decide (((List.length x4) + (List.length [((1 : Int), x5)])) ≤ 70368744177664))
    (nx (m_impl_Strip_steps_5 x3 (x4 ++ [((1 : Int), x5)]) (IntKind.wrap IntKind.i64 (x5 + (1 : Int))) b0_0 b0_1))
    (none))
   (none))
  (hx.1 (d_impl_Strip_steps_5_0 x3 x4 b0_0 b0_1))
noncomputable def t_impl_Strip_steps_5 {R : Type} (nx : s_impl_Strip_steps_5.T → Option R) (hx : exH R x_impl_Strip_steps_5) (z : s_impl_Strip_steps_5.T) : Option R := u_impl_Strip_steps_5 nx hx z.1.2.1.1 z.1.2.2.1.1 z.1.2.2.2.1.1 z.2.1.1.1 z.2.1.1.2.1
theorem nat_impl_Strip_steps_5 : Natural @t_impl_Strip_steps_5 := fun R nx hx z => by
  show u_impl_Strip_steps_5 nx hx z.1.2.1.1 z.1.2.2.1.1 z.1.2.2.2.1.1 z.2.1.1.1 z.2.1.1.2.1 = (u_impl_Strip_steps_5 (fun y => some (.inl y)) (hIn x_impl_Strip_steps_5 fun x => some (.inr x)) z.1.2.1.1 z.1.2.2.1.1 z.1.2.2.2.1.1 z.2.1.1.1 z.2.1.1.2.1).bind (goOn nx hx)
  unfold u_impl_Strip_steps_5
  exact nat_cond (nat_cond (nat_cond (rfl) (rfl)) (rfl)) (rfl)
noncomputable def w_impl_Strip_steps_5 : s_impl_Strip_steps_5.T → Option (exT x_impl_Strip_steps_5) := wOf @t_impl_Strip_steps_5
theorem wq_impl_Strip_steps_5 (x3 : Int) (x4 : List (Int × Int)) (x5 : Int) (b0_0 : List Int) (b0_1 : List Int) : w_impl_Strip_steps_5 (m_impl_Strip_steps_5 x3 x4 x5 b0_0 b0_1) = u_impl_Strip_steps_5 w_impl_Strip_steps_5 (hIn x_impl_Strip_steps_5 some) x3 x4 x5 b0_0 b0_1 := wOf_eq nat_impl_Strip_steps_5 _
def lh_impl_Strip_steps_5 : LoopHint := ⟨[1, 3, 4, 5], [1], [1, 3, 4], [1]⟩
noncomputable def h_impl_Strip_steps : Hints Rv := ⟨fun k => match k with | 5 => lh_impl_Strip_steps_5 | _ => ⟨[], [], [], []⟩, fun k => match k with | 5 => some (loopX s_impl_Strip_steps_5 x_impl_Strip_steps_5 w_impl_Strip_steps_5) | _ => none⟩
theorem st_impl_Strip_steps_5 (n : Nat) (z : s_impl_Strip_steps_5.T) (k : Ex → Live → Option Rv) : loopN ⟨31, 31⟩ lh_impl_Strip_steps_5 (den (tab C0 T_impl_Strip_steps) ⟨31, 31⟩ h_impl_Strip_steps 1 (loopOf Try.f41 4)) (n + 1) (s_impl_Strip_steps_5.enc z) k =
    t_impl_Strip_steps_5 (fun y => loopN ⟨31, 31⟩ lh_impl_Strip_steps_5 (den (tab C0 T_impl_Strip_steps) ⟨31, 31⟩ h_impl_Strip_steps 1 (loopOf Try.f41 4)) n (s_impl_Strip_steps_5.enc y) k) (hK k x_impl_Strip_steps_5) z := by kernel_rfl
theorem hs_impl_Strip_steps : HintsOk (tab C0 T_impl_Strip_steps) ⟨31, 31⟩ h_impl_Strip_steps 1 (loops (codeOf Try.f41)) := by
  have hl : loops (codeOf Try.f41) = [loopOf Try.f41 4] := by kernel_rfl
  rw [hl]
  exact HintsOk.cons (n := 5) (lh := lh_impl_Strip_steps_5) (S := loopX s_impl_Strip_steps_5 x_impl_Strip_steps_5 w_impl_Strip_steps_5) (by kernel_rfl) rfl rfl (loopX_ok nat_impl_Strip_steps_5 st_impl_Strip_steps_5)
    (HintsOk.nil)
noncomputable def t_impl_Strip_steps {R : Type} (kx : (List (Int × Int)) → Option R) (a0 : ((List Int) × (List Int))) : Option R :=
  Option.bind (g_impl_length_int64 a0.1) fun y173 =>
  Option.bind (w_impl_Strip_steps_5 (m_impl_Strip_steps_5 y173 [((2 : Int), (0 : Int))] (1 : Int) a0.1 a0.2)) (exC x_impl_Strip_steps_5
  (fun e179 =>
   cond (decide ((((List.length (e179.1.2.2.1.1 : List (Int × Int))) + (List.length [((3 : Int), (IntKind.wrap IntKind.i64 ((e179.1.2.1.1 : Int) - (1 : Int))))])) * 16) ≤ 70368744177664))
   (cond (decide (((List.length (e179.1.2.2.1.1 : List (Int × Int))) + (List.length [((3 : Int), (IntKind.wrap IntKind.i64 ((e179.1.2.1.1 : Int) - (1 : Int))))])) ≤ 70368744177664))
    (cond (decide ((List.length ((e179.1.2.2.1.1 : List (Int × Int)) ++ [((3 : Int), (IntKind.wrap IntKind.i64 ((e179.1.2.1.1 : Int) - (1 : Int))))])) = (List.length ((e179.1.2.2.1.1 : List (Int × Int)) ++ [((3 : Int), (IntKind.wrap IntKind.i64 ((e179.1.2.1.1 : Int) - (1 : Int))))]))))
     (Option.bind (g_slices_DeleteFunc_Simpl_StripStep_impl_StripStep__impl_Strip_steps_1 ((e179.1.2.2.1.1 : List (Int × Int)) ++ [((3 : Int), (IntKind.wrap IntKind.i64 ((e179.1.2.1.1 : Int) - (1 : Int))))]) ((e179.2.1.1.1 : List Int), (e179.2.1.1.2.1 : List Int))) fun y229 =>
      kx y229)
     (none))
    (none))
   (none), ()))
noncomputable def g_impl_Strip_steps (a0 : ((List Int) × (List Int))) : Option ((List (Int × Int))) := t_impl_Strip_steps some a0
theorem nat_impl_Strip_steps {R : Type} (kx : (List (Int × Int)) → Option R) (a0 : ((List Int) × (List Int))) : t_impl_Strip_steps kx a0 = (g_impl_Strip_steps a0).bind kx := by
  unfold g_impl_Strip_steps t_impl_Strip_steps
  exact nat_bind fun _ => nat_exC ⟨fun _ => nat_cond (nat_cond (nat_cond (nat_bind fun _ => rfl) (rfl)) (rfl)) (rfl), trivial⟩
abbrev as_impl_Strip_steps : List AX := [.val true (.pair (.slice (.int .i64)) (.slice (.int .i64)))]
abbrev en_impl_Strip_steps : (List (Int × Int)) → AV × List CV := fun b => (.one ⟨false, [(.own (.pair (.int .i64) (.int .i64)) b)]⟩, [])
noncomputable abbrev k_impl_Strip_steps : Contract := .fx as_impl_Strip_steps ((List (Int × Int))) (fun z => g_impl_Strip_steps z.1) en_impl_Strip_steps
theorem r_impl_Strip_steps (z : argsX as_impl_Strip_steps) : runF (tab C0 T_impl_Strip_steps) h_impl_Strip_steps 1 Try.f41 (lentOf as_impl_Strip_steps) (xBoxes as_impl_Strip_steps z) (xVals as_impl_Strip_steps 0 z) K2 = t_impl_Strip_steps (fun b => some (en_impl_Strip_steps b)) z.1 := by kernel_rfl
theorem so_impl_Strip_steps : Sound C0 41 k_impl_Strip_steps :=
  Sound.fx a_impl_Strip_steps mixed Try.func41 (by kernel_rfl) (by kernel_rfl) h_impl_Strip_steps 1 hs_impl_Strip_steps (fun z => (r_impl_Strip_steps z).trans (nat_impl_Strip_steps _ z.1))

/-! ### F80 slices.Insert[[]int64,int64] -/
noncomputable def T_slices_Insert_Sint64_int64 : List (FuncId × Contract) := []
theorem a_slices_Insert_Sint64_int64 : AllSound C0 T_slices_Insert_Sint64_int64 := .nil
noncomputable def t_slices_Insert_Sint64_int64 {R : Type} (kx : (List Int) → Option R) (a0 : (List Int)) (a1 : Int) (a2 : (List Int)) : Option R :=
  cond (decide ((0 : Int) ≤ a1))
  (cond (decide (a1 ≤ (((List.length a0) : Nat) : Int)))
   (cond ((((List.length a2) : Nat) : Int) == (0 : Int))
    (kx a0)
    (cond (a1 == (((List.length a0) : Nat) : Int))
     (none)
     (none)))
   (none))
  (none)
noncomputable def g_slices_Insert_Sint64_int64 (a0 : (List Int)) (a1 : Int) (a2 : (List Int)) : Option ((List Int)) := t_slices_Insert_Sint64_int64 some a0 a1 a2
theorem nat_slices_Insert_Sint64_int64 {R : Type} (kx : (List Int) → Option R) (a0 : (List Int)) (a1 : Int) (a2 : (List Int)) : t_slices_Insert_Sint64_int64 kx a0 a1 a2 = (g_slices_Insert_Sint64_int64 a0 a1 a2).bind kx := by
  unfold g_slices_Insert_Sint64_int64 t_slices_Insert_Sint64_int64
  exact nat_cond (nat_cond (nat_cond (rfl) (nat_cond (rfl) (rfl))) (rfl)) (rfl)
abbrev as_slices_Insert_Sint64_int64 : List AX := [.val false (.slice (.int .i64)), .val false (.int .i64), .val false (.slice (.int .i64))]
abbrev en_slices_Insert_Sint64_int64 : (List Int) → AV × List CV := fun b => (.one ⟨false, [(.sl (.int .i64) b)]⟩, [])
noncomputable abbrev k_slices_Insert_Sint64_int64 : Contract := .fx as_slices_Insert_Sint64_int64 ((List Int)) (fun z => g_slices_Insert_Sint64_int64 z.1 z.2.1 z.2.2.1) en_slices_Insert_Sint64_int64
theorem r_slices_Insert_Sint64_int64 (z : argsX as_slices_Insert_Sint64_int64) : runF (tab C0 T_slices_Insert_Sint64_int64) noHints 1 Try.f80 (lentOf as_slices_Insert_Sint64_int64) (xBoxes as_slices_Insert_Sint64_int64 z) (xVals as_slices_Insert_Sint64_int64 0 z) K2 = t_slices_Insert_Sint64_int64 (fun b => some (en_slices_Insert_Sint64_int64 b)) z.1 z.2.1 z.2.2.1 := by kernel_rfl
theorem so_slices_Insert_Sint64_int64 : Sound C0 80 k_slices_Insert_Sint64_int64 :=
  Sound.fx a_slices_Insert_Sint64_int64 mixed Try.func80 (by kernel_rfl) (by kernel_rfl) noHints 1 noHints_ok (fun z => (r_slices_Insert_Sint64_int64 z).trans (nat_slices_Insert_Sint64_int64 _ z.1 z.2.1 z.2.2.1))

/-! ### F67 slices.Replace[[]int64,int64] -/
noncomputable def T_slices_Replace_Sint64_int64 : List (FuncId × Contract) := [(80, k_slices_Insert_Sint64_int64)]
theorem a_slices_Replace_Sint64_int64 : AllSound C0 T_slices_Replace_Sint64_int64 := .cons so_slices_Insert_Sint64_int64 (.nil)
noncomputable def t_slices_Replace_Sint64_int64 {R : Type} (kx : (List Int) → Option R) (a0 : List Int) (a1 : Int) (a2 : Int) (a3 : (List Int)) : Option R :=
  cond (decide (0 < (List.length a0)))
  (cond (decide ((0 : Int) ≤ a1))
   (cond (decide (a1 ≤ a2))
    (cond (decide (a2 ≤ (((List.length a0) : Nat) : Int)))
     (cond (a1 == a2)
      (Option.bind (g_slices_Insert_Sint64_int64 a0 a1 a3) fun _ =>
       none)
      (cond (a2 == (((List.length a0) : Nat) : Int))
       (cond (decide (0 < (List.length a0)))
        (cond (decide ((0 : Int) ≤ a1))
         (cond (decide (a1 ≤ (((List.length a0) : Nat) : Int)))
          (cond (decide ((((0 + 0) + (List.length (List.drop 0 (List.take (Int.toNat a1) a0)))) + (List.length a3)) ≤ (List.length a0)))
           (cond (decide ((((List.length ((List.drop 0 (List.take (Int.toNat a1) a0)) ++ a3)) : Nat) : Int) < (((List.length (overL 0 ((0 + 0) + (List.length (List.drop 0 (List.take (Int.toNat a1) a0)))) a3 a0)) : Nat) : Int)))
            (cond (decide (0 < (List.length (overL 0 ((0 + 0) + (List.length (List.drop 0 (List.take (Int.toNat a1) a0)))) a3 a0))))
             (cond (decide ((((List.length ((List.drop 0 (List.take (Int.toNat a1) a0)) ++ a3)) : Nat) : Int) ≤ (((List.length (overL 0 ((0 + 0) + (List.length (List.drop 0 (List.take (Int.toNat a1) a0)))) a3 a0)) : Nat) : Int)))
              (kx (overL (0 + 0) (0 + (Int.toNat (((List.length ((List.drop 0 (List.take (Int.toNat a1) a0)) ++ a3)) : Nat) : Int))) (List.replicate (List.length (List.drop (Int.toNat (((List.length ((List.drop 0 (List.take (Int.toNat a1) a0)) ++ a3)) : Nat) : Int)) (List.take (List.length (overL 0 ((0 + 0) + (List.length (List.drop 0 (List.take (Int.toNat a1) a0)))) a3 a0)) (overL 0 ((0 + 0) + (List.length (List.drop 0 (List.take (Int.toNat a1) a0)))) a3 a0)))) (0 : Int)) ((List.drop 0 (List.take (Int.toNat a1) a0)) ++ a3)))
              (none))
             (none))
            (kx ((List.drop 0 (List.take (Int.toNat a1) a0)) ++ a3)))
           (cond (decide ((((List.length (List.drop 0 (List.take (Int.toNat a1) a0))) + (List.length a3)) * 8) ≤ 70368744177664))
            (cond (decide (((List.length (List.drop 0 (List.take (Int.toNat a1) a0))) + (List.length a3)) ≤ 70368744177664))
             (none)
             (none))
            (none)))
          (none))
         (none))
        (none))
       (cond (decide (0 < (List.length a0)))
        (cond (decide ((0 : Int) ≤ a1))
         (cond (decide (a1 ≤ (((List.length a0) : Nat) : Int)))
          (cond (decide (0 < (List.length a0)))
           (cond (decide ((0 : Int) ≤ a2))
            (cond (decide (a2 ≤ (((List.length a0) : Nat) : Int)))
             (cond (decide ((IntKind.wrap IntKind.i64 ((IntKind.wrap IntKind.i64 ((((List.length (List.drop 0 (List.take (Int.toNat a1) a0))) : Nat) : Int) + (((List.length a3) : Nat) : Int))) + (((List.length (List.drop (Int.toNat a2) (List.take (List.length a0) a0))) : Nat) : Int))) ≤ (((List.length a0) : Nat) : Int)))
              (cond (decide (0 < (List.length a0)))
               (cond (decide ((0 : Int) ≤ (IntKind.wrap IntKind.i64 ((IntKind.wrap IntKind.i64 ((((List.length (List.drop 0 (List.take (Int.toNat a1) a0))) : Nat) : Int) + (((List.length a3) : Nat) : Int))) + (((List.length (List.drop (Int.toNat a2) (List.take (List.length a0) a0))) : Nat) : Int)))))
                (cond (decide ((IntKind.wrap IntKind.i64 ((IntKind.wrap IntKind.i64 ((((List.length (List.drop 0 (List.take (Int.toNat a1) a0))) : Nat) : Int) + (((List.length a3) : Nat) : Int))) + (((List.length (List.drop (Int.toNat a2) (List.take (List.length a0) a0))) : Nat) : Int))) ≤ (((List.length a0) : Nat) : Int)))
                 (cond (decide ((IntKind.wrap IntKind.i64 (a1 + (((List.length a3) : Nat) : Int))) ≤ a2))
                  (cond (decide ((0 : Int) ≤ a1))
                   (cond (decide (a1 ≤ (((List.length (List.drop 0 (List.take (Int.toNat (IntKind.wrap IntKind.i64 ((IntKind.wrap IntKind.i64 ((((List.length (List.drop 0 (List.take (Int.toNat a1) a0))) : Nat) : Int) + (((List.length a3) : Nat) : Int))) + (((List.length (List.drop (Int.toNat a2) (List.take (List.length a0) a0))) : Nat) : Int)))) a0))) : Nat) : Int)))
                    (cond (decide ((List.length a3) ≤ (List.length (List.drop (Int.toNat a1) (List.take (List.length (List.drop 0 (List.take (Int.toNat (IntKind.wrap IntKind.i64 ((IntKind.wrap IntKind.i64 ((((List.length (List.drop 0 (List.take (Int.toNat a1) a0))) : Nat) : Int) + (((List.length a3) : Nat) : Int))) + (((List.length (List.drop (Int.toNat a2) (List.take (List.length a0) a0))) : Nat) : Int)))) a0))) (List.drop 0 (List.take (Int.toNat (IntKind.wrap IntKind.i64 ((IntKind.wrap IntKind.i64 ((((List.length (List.drop 0 (List.take (Int.toNat a1) a0))) : Nat) : Int) + (((List.length a3) : Nat) : Int))) + (((List.length (List.drop (Int.toNat a2) (List.take (List.length a0) a0))) : Nat) : Int)))) a0)))))))
                     (cond (decide ((0 : Int) ≤ (IntKind.wrap IntKind.i64 (a1 + (((List.length a3) : Nat) : Int)))))
                      (cond (decide ((IntKind.wrap IntKind.i64 (a1 + (((List.length a3) : Nat) : Int))) ≤ (((List.length (overL (0 + 0) ((0 + 0) + (Int.toNat a1)) a3 (List.drop 0 (List.take (Int.toNat (IntKind.wrap IntKind.i64 ((IntKind.wrap IntKind.i64 ((((List.length (List.drop 0 (List.take (Int.toNat a1) a0))) : Nat) : Int) + (((List.length a3) : Nat) : Int))) + (((List.length (List.drop (Int.toNat a2) (List.take (List.length a0) a0))) : Nat) : Int)))) a0)))) : Nat) : Int)))
                       (cond (decide (0 < (List.length (overL 0 ((0 + 0) + (Int.toNat a1)) a3 a0))))
                        (cond (decide ((0 : Int) ≤ a2))
                         (cond (decide (a2 ≤ (((List.length (overL 0 ((0 + 0) + (Int.toNat a1)) a3 a0)) : Nat) : Int)))
                          (cond (decide ((List.length (List.drop (Int.toNat a2) (List.take (List.length (overL 0 ((0 + 0) + (Int.toNat a1)) a3 a0)) (overL 0 ((0 + 0) + (Int.toNat a1)) a3 a0)))) ≤ (List.length (List.drop (Int.toNat (IntKind.wrap IntKind.i64 (a1 + (((List.length a3) : Nat) : Int)))) (List.take (List.length (overL (0 + 0) ((0 + 0) + (Int.toNat a1)) a3 (List.drop 0 (List.take (Int.toNat (IntKind.wrap IntKind.i64 ((IntKind.wrap IntKind.i64 ((((List.length (List.drop 0 (List.take (Int.toNat a1) a0))) : Nat) : Int) + (((List.length a3) : Nat) : Int))) + (((List.length (List.drop (Int.toNat a2) (List.take (List.length a0) a0))) : Nat) : Int)))) a0)))) (overL (0 + 0) ((0 + 0) + (Int.toNat a1)) a3 (List.drop 0 (List.take (Int.toNat (IntKind.wrap IntKind.i64 ((IntKind.wrap IntKind.i64 ((((List.length (List.drop 0 (List.take (Int.toNat a1) a0))) : Nat) : Int) + (((List.length a3) : Nat) : Int))) + (((List.length (List.drop (Int.toNat a2) (List.take (List.length a0) a0))) : Nat) : Int)))) a0))))))))
                           (cond (decide (0 < (List.length (overL 0 ((0 + 0) + (Int.toNat (IntKind.wrap IntKind.i64 (a1 + (((List.length a3) : Nat) : Int))))) (List.drop (Int.toNat a2) (List.take (List.length (overL 0 ((0 + 0) + (Int.toNat a1)) a3 a0)) (overL 0 ((0 + 0) + (Int.toNat a1)) a3 a0))) (overL 0 ((0 + 0) + (Int.toNat a1)) a3 a0)))))
                            (cond (decide ((0 : Int) ≤ (IntKind.wrap IntKind.i64 ((IntKind.wrap IntKind.i64 ((((List.length (List.drop 0 (List.take (Int.toNat a1) a0))) : Nat) : Int) + (((List.length a3) : Nat) : Int))) + (((List.length (List.drop (Int.toNat a2) (List.take (List.length a0) a0))) : Nat) : Int)))))
                             (cond (decide ((IntKind.wrap IntKind.i64 ((IntKind.wrap IntKind.i64 ((((List.length (List.drop 0 (List.take (Int.toNat a1) a0))) : Nat) : Int) + (((List.length a3) : Nat) : Int))) + (((List.length (List.drop (Int.toNat a2) (List.take (List.length a0) a0))) : Nat) : Int))) ≤ (((List.length (overL 0 ((0 + 0) + (Int.toNat (IntKind.wrap IntKind.i64 (a1 + (((List.length a3) : Nat) : Int))))) (List.drop (Int.toNat a2) (List.take (List.length (overL 0 ((0 + 0) + (Int.toNat a1)) a3 a0)) (overL 0 ((0 + 0) + (Int.toNat a1)) a3 a0))) (overL 0 ((0 + 0) + (Int.toNat a1)) a3 a0))) : Nat) : Int)))
                              (kx (overL (0 + 0) (0 + (Int.toNat (IntKind.wrap IntKind.i64 ((IntKind.wrap IntKind.i64 ((((List.length (List.drop 0 (List.take (Int.toNat a1) a0))) : Nat) : Int) + (((List.length a3) : Nat) : Int))) + (((List.length (List.drop (Int.toNat a2) (List.take (List.length a0) a0))) : Nat) : Int))))) (List.replicate (List.length (List.drop (Int.toNat (IntKind.wrap IntKind.i64 ((IntKind.wrap IntKind.i64 ((((List.length (List.drop 0 (List.take (Int.toNat a1) a0))) : Nat) : Int) + (((List.length a3) : Nat) : Int))) + (((List.length (List.drop (Int.toNat a2) (List.take (List.length a0) a0))) : Nat) : Int)))) (List.take (List.length (overL 0 ((0 + 0) + (Int.toNat (IntKind.wrap IntKind.i64 (a1 + (((List.length a3) : Nat) : Int))))) (List.drop (Int.toNat a2) (List.take (List.length (overL 0 ((0 + 0) + (Int.toNat a1)) a3 a0)) (overL 0 ((0 + 0) + (Int.toNat a1)) a3 a0))) (overL 0 ((0 + 0) + (Int.toNat a1)) a3 a0))) (overL 0 ((0 + 0) + (Int.toNat (IntKind.wrap IntKind.i64 (a1 + (((List.length a3) : Nat) : Int))))) (List.drop (Int.toNat a2) (List.take (List.length (overL 0 ((0 + 0) + (Int.toNat a1)) a3 a0)) (overL 0 ((0 + 0) + (Int.toNat a1)) a3 a0))) (overL 0 ((0 + 0) + (Int.toNat a1)) a3 a0))))) (0 : Int)) (overL (0 + 0) ((0 + 0) + (Int.toNat (IntKind.wrap IntKind.i64 (a1 + (((List.length a3) : Nat) : Int))))) (List.drop (Int.toNat a2) (List.take (List.length (overL 0 ((0 + 0) + (Int.toNat a1)) a3 a0)) (overL 0 ((0 + 0) + (Int.toNat a1)) a3 a0))) (overL (0 + 0) ((0 + 0) + (Int.toNat a1)) a3 (List.drop 0 (List.take (Int.toNat (IntKind.wrap IntKind.i64 ((IntKind.wrap IntKind.i64 ((((List.length (List.drop 0 (List.take (Int.toNat a1) a0))) : Nat) : Int) + (((List.length a3) : Nat) : Int))) + (((List.length (List.drop (Int.toNat a2) (List.take (List.length a0) a0))) : Nat) : Int)))) a0))))))
                              (none))
                             (none))
                            (none))
                           (none))
                          (none))
                         (none))
                        (none))
                       (none))
                      (none))
                     (none))
                    (none))
                   (none))
                  (cond (decide ((0 : Int) ≤ (IntKind.wrap IntKind.i64 (a1 + (((List.length a3) : Nat) : Int)))))
                   (cond (decide ((IntKind.wrap IntKind.i64 (a1 + (((List.length a3) : Nat) : Int))) ≤ (((List.length (List.drop 0 (List.take (Int.toNat (IntKind.wrap IntKind.i64 ((IntKind.wrap IntKind.i64 ((((List.length (List.drop 0 (List.take (Int.toNat a1) a0))) : Nat) : Int) + (((List.length a3) : Nat) : Int))) + (((List.length (List.drop (Int.toNat a2) (List.take (List.length a0) a0))) : Nat) : Int)))) a0))) : Nat) : Int)))
                    (none)
                    (none))
                   (none)))
                 (none))
                (none))
               (none))
              (none))
             (none))
            (none))
           (none))
          (none))
         (none))
        (none))))
     (none))
    (none))
   (none))
  (none)
noncomputable def g_slices_Replace_Sint64_int64 (a0 : List Int) (a1 : Int) (a2 : Int) (a3 : (List Int)) : Option ((List Int)) := t_slices_Replace_Sint64_int64 some a0 a1 a2 a3
theorem nat_slices_Replace_Sint64_int64 {R : Type} (kx : (List Int) → Option R) (a0 : List Int) (a1 : Int) (a2 : Int) (a3 : (List Int)) : t_slices_Replace_Sint64_int64 kx a0 a1 a2 a3 = (g_slices_Replace_Sint64_int64 a0 a1 a2 a3).bind kx := by
  unfold g_slices_Replace_Sint64_int64 t_slices_Replace_Sint64_int64
  exact nat_cond (nat_cond (nat_cond (nat_cond (nat_cond (nat_bind fun _ => rfl) (nat_cond (nat_cond (nat_cond (nat_cond (nat_cond (nat_cond (nat_cond (nat_cond (rfl) (rfl)) (rfl)) (rfl)) (nat_cond (nat_cond (rfl) (rfl)) (rfl))) (rfl)) (rfl)) (rfl)) (nat_cond (nat_cond (nat_cond (nat_cond (nat_cond (nat_cond (nat_cond (nat_cond (nat_cond (nat_cond (nat_cond (nat_cond (nat_cond (nat_cond (nat_cond (nat_cond (nat_cond (nat_cond (nat_cond (nat_cond (nat_cond (nat_cond (nat_cond (rfl) (rfl)) (rfl)) (rfl)) (rfl)) (rfl)) (rfl)) (rfl)) (rfl)) (rfl)) (rfl)) (rfl)) (rfl)) (nat_cond (nat_cond (rfl) (rfl)) (rfl))) (rfl)) (rfl)) (rfl)) (rfl)) (rfl)) (rfl)) (rfl)) (rfl)) (rfl)) (rfl)))) (rfl)) (rfl)) (rfl)) (rfl)
abbrev as_slices_Replace_Sint64_int64 : List AX := [.io (.int .i64), .val false (.int .i64), .val false (.int .i64), .val false (.slice (.int .i64))]
abbrev en_slices_Replace_Sint64_int64 : (List Int) → AV × List CV := fun b => (.one ⟨false, [(.own (.int .i64) b)]⟩, [.undef])
noncomputable abbrev k_slices_Replace_Sint64_int64 : Contract := .fx as_slices_Replace_Sint64_int64 ((List Int)) (fun z => g_slices_Replace_Sint64_int64 z.1 z.2.1 z.2.2.1 z.2.2.2.1) en_slices_Replace_Sint64_int64
theorem r_slices_Replace_Sint64_int64 (z : argsX as_slices_Replace_Sint64_int64) : runF (tab C0 T_slices_Replace_Sint64_int64) noHints 1 Try.f67 (lentOf as_slices_Replace_Sint64_int64) (xBoxes as_slices_Replace_Sint64_int64 z) (xVals as_slices_Replace_Sint64_int64 0 z) K3 = t_slices_Replace_Sint64_int64 (fun b => some (en_slices_Replace_Sint64_int64 b)) z.1 z.2.1 z.2.2.1 z.2.2.2.1 := by kernel_rfl
theorem so_slices_Replace_Sint64_int64 : Sound C0 67 k_slices_Replace_Sint64_int64 :=
  Sound.fxTake a_slices_Replace_Sint64_int64 mixed Try.func67 (by kernel_rfl) (by kernel_rfl) noHints 1 noHints_ok (fun z => (r_slices_Replace_Sint64_int64 z).trans (nat_slices_Replace_Sint64_int64 _ z.1 z.2.1 z.2.2.1 z.2.2.2.1))

/-! ### F68 slices.Delete[[]int64,int64] -/
noncomputable def T_slices_Delete_Sint64_int64 : List (FuncId × Contract) := []
theorem a_slices_Delete_Sint64_int64 : AllSound C0 T_slices_Delete_Sint64_int64 := .nil
noncomputable def t_slices_Delete_Sint64_int64 {R : Type} (kx : (List Int) → Option R) (a0 : List Int) (a1 : Int) (a2 : Int) : Option R :=
  cond (decide ((0 : Int) ≤ a1))
  (cond (decide (a1 ≤ a2))
   (cond (decide (a2 ≤ (((List.length a0) : Nat) : Int)))
    (cond (decide ((((List.length a0) : Nat) : Int) ≤ (((List.length a0) : Nat) : Int)))
     (cond (a1 == a2)
      (kx a0)
      (cond (decide (0 < (List.length a0)))
       (cond (decide ((0 : Int) ≤ a1))
        (cond (decide (a1 ≤ (((List.length a0) : Nat) : Int)))
         (cond (decide (0 < (List.length a0)))
          (cond (decide ((0 : Int) ≤ a2))
           (cond (decide (a2 ≤ (((List.length a0) : Nat) : Int)))
            (cond (decide ((((0 + 0) + (List.length (List.drop 0 (List.take (Int.toNat a1) a0)))) + (List.length (List.drop (Int.toNat a2) (List.take (List.length a0) a0)))) ≤ (List.length a0)))
             (cond (decide ((((List.length ((List.drop 0 (List.take (Int.toNat a1) a0)) ++ (List.drop (Int.toNat a2) (List.take (List.length a0) a0)))) : Nat) : Int) ≤ (((List.length a0) : Nat) : Int)))
              (cond (decide ((((List.length a0) : Nat) : Int) ≤ ((((List.length (overL 0 ((0 + 0) + (List.length (List.drop 0 (List.take (Int.toNat a1) a0)))) (List.drop (Int.toNat a2) (List.take (List.length a0) a0)) a0)) - (0 + 0)) : Nat) : Int)))
               (kx (overL (0 + 0) ((0 + 0) + (Int.toNat (((List.length ((List.drop 0 (List.take (Int.toNat a1) a0)) ++ (List.drop (Int.toNat a2) (List.take (List.length a0) a0)))) : Nat) : Int))) (List.replicate (List.length (List.drop (Int.toNat (((List.length ((List.drop 0 (List.take (Int.toNat a1) a0)) ++ (List.drop (Int.toNat a2) (List.take (List.length a0) a0)))) : Nat) : Int)) (List.take (Int.toNat (((List.length a0) : Nat) : Int)) (List.drop (0 + 0) (overL 0 ((0 + 0) + (List.length (List.drop 0 (List.take (Int.toNat a1) a0)))) (List.drop (Int.toNat a2) (List.take (List.length a0) a0)) a0))))) (0 : Int)) ((List.drop 0 (List.take (Int.toNat a1) a0)) ++ (List.drop (Int.toNat a2) (List.take (List.length a0) a0)))))
               (none))
              (none))
             (cond (decide ((((List.length (List.drop 0 (List.take (Int.toNat a1) a0))) + (List.length (List.drop (Int.toNat a2) (List.take (List.length a0) a0)))) * 8) ≤ 70368744177664))
              (cond (decide (((List.length (List.drop 0 (List.take (Int.toNat a1) a0))) + (List.length (List.drop (Int.toNat a2) (List.take (List.length a0) a0)))) ≤ 70368744177664))
               (cond (decide (0 < (List.length ((List.drop 0 (List.take (Int.toNat a1) a0)) ++ (List.drop (Int.toNat a2) (List.take (List.length a0) a0))))))
                (cond (decide ((((List.length ((List.drop 0 (List.take (Int.toNat a1) a0)) ++ (List.drop (Int.toNat a2) (List.take (List.length a0) a0)))) : Nat) : Int) ≤ (((List.length a0) : Nat) : Int)))
                 (cond (decide ((((List.length a0) : Nat) : Int) ≤ (((List.length ((List.drop 0 (List.take (Int.toNat a1) a0)) ++ (List.drop (Int.toNat a2) (List.take (List.length a0) a0)))) : Nat) : Int)))
                  (kx (overL 0 (0 + (Int.toNat (((List.length ((List.drop 0 (List.take (Int.toNat a1) a0)) ++ (List.drop (Int.toNat a2) (List.take (List.length a0) a0)))) : Nat) : Int))) (List.replicate (List.length (List.drop (Int.toNat (((List.length ((List.drop 0 (List.take (Int.toNat a1) a0)) ++ (List.drop (Int.toNat a2) (List.take (List.length a0) a0)))) : Nat) : Int)) (List.take (Int.toNat (((List.length a0) : Nat) : Int)) ((List.drop 0 (List.take (Int.toNat a1) a0)) ++ (List.drop (Int.toNat a2) (List.take (List.length a0) a0)))))) (0 : Int)) ((List.drop 0 (List.take (Int.toNat a1) a0)) ++ (List.drop (Int.toNat a2) (List.take (List.length a0) a0)))))
                  (none))
                 (none))
                (none))
               (none))
              (none)))
            (none))
           (none))
          (none))
         (none))
        (none))
       (none)))
     (none))
    (none))
   (none))
  (none)
noncomputable def g_slices_Delete_Sint64_int64 (a0 : List Int) (a1 : Int) (a2 : Int) : Option ((List Int)) := t_slices_Delete_Sint64_int64 some a0 a1 a2
theorem nat_slices_Delete_Sint64_int64 {R : Type} (kx : (List Int) → Option R) (a0 : List Int) (a1 : Int) (a2 : Int) : t_slices_Delete_Sint64_int64 kx a0 a1 a2 = (g_slices_Delete_Sint64_int64 a0 a1 a2).bind kx := by
  unfold g_slices_Delete_Sint64_int64 t_slices_Delete_Sint64_int64
  exact nat_cond (nat_cond (nat_cond (nat_cond (nat_cond (rfl) (nat_cond (nat_cond (nat_cond (nat_cond (nat_cond (nat_cond (nat_cond (nat_cond (nat_cond (rfl) (rfl)) (rfl)) (nat_cond (nat_cond (nat_cond (nat_cond (nat_cond (rfl) (rfl)) (rfl)) (rfl)) (rfl)) (rfl))) (rfl)) (rfl)) (rfl)) (rfl)) (rfl)) (rfl))) (rfl)) (rfl)) (rfl)) (rfl)
abbrev as_slices_Delete_Sint64_int64 : List AX := [.io (.int .i64), .val false (.int .i64), .val false (.int .i64)]
abbrev en_slices_Delete_Sint64_int64 : (List Int) → AV × List CV := fun b => (.one ⟨false, [(.own (.int .i64) b)]⟩, [.undef])
noncomputable abbrev k_slices_Delete_Sint64_int64 : Contract := .fx as_slices_Delete_Sint64_int64 ((List Int)) (fun z => g_slices_Delete_Sint64_int64 z.1 z.2.1 z.2.2.1) en_slices_Delete_Sint64_int64
theorem r_slices_Delete_Sint64_int64 (z : argsX as_slices_Delete_Sint64_int64) : runF (tab C0 T_slices_Delete_Sint64_int64) noHints 1 Try.f68 (lentOf as_slices_Delete_Sint64_int64) (xBoxes as_slices_Delete_Sint64_int64 z) (xVals as_slices_Delete_Sint64_int64 0 z) K3 = t_slices_Delete_Sint64_int64 (fun b => some (en_slices_Delete_Sint64_int64 b)) z.1 z.2.1 z.2.2.1 := by kernel_rfl
theorem so_slices_Delete_Sint64_int64 : Sound C0 68 k_slices_Delete_Sint64_int64 :=
  Sound.fxTake a_slices_Delete_Sint64_int64 mixed Try.func68 (by kernel_rfl) (by kernel_rfl) noHints 1 noHints_ok (fun z => (r_slices_Delete_Sint64_int64 z).trans (nat_slices_Delete_Sint64_int64 _ z.1 z.2.1 z.2.2.1))

/-! ### F47 (impl.Strip).apply -/
noncomputable def T_impl_Strip_apply : List (FuncId × Contract) := [(66, k_slices_Clone_Sint64_int64), (67, k_slices_Replace_Sint64_int64), (68, k_slices_Delete_Sint64_int64)]
theorem a_impl_Strip_apply : AllSound C0 T_impl_Strip_apply := .cons so_slices_Clone_Sint64_int64 (.cons so_slices_Replace_Sint64_int64 (.cons so_slices_Delete_Sint64_int64 (.nil)))
noncomputable def t_impl_Strip_apply {R : Type} (kx : ((List Int) × (List Int)) → Option R) (a0 : ((List Int) × (List Int))) (a1 : (Int × Int)) : Option R :=
  Option.bind (g_slices_Clone_Sint64_int64 a0.1) fun y235 =>
  Option.bind (g_slices_Clone_Sint64_int64 a0.2) fun y236 =>
  cond (a1.1 == (2 : Int))
  (cond (decide (0 < (List.length y235)))
   (cond (decide ((1 : Int) ≤ (((List.length y235) : Nat) : Int)))
    (cond (decide (0 < (List.length y236)))
     (cond (decide ((1 : Int) ≤ (((List.length y236) : Nat) : Int)))
      (kx ((List.drop (Int.toNat (1 : Int)) (List.take (List.length y235) y235)), (List.drop (Int.toNat (1 : Int)) (List.take (List.length y236) y236))))
      (none))
     (none))
    (none))
   (none))
  (cond (a1.1 == (3 : Int))
   (cond (decide (0 < (List.length y235)))
    (cond (decide ((0 : Int) ≤ a1.2))
     (cond (decide (a1.2 ≤ (((List.length y235) : Nat) : Int)))
      (cond (decide (0 < (List.length y236)))
       (cond (decide ((0 : Int) ≤ (IntKind.wrap IntKind.i64 (a1.2 - (1 : Int)))))
        (cond (decide ((IntKind.wrap IntKind.i64 (a1.2 - (1 : Int))) ≤ (((List.length y236) : Nat) : Int)))
         (kx ((List.drop 0 (List.take (Int.toNat a1.2) y235)), (List.drop 0 (List.take (Int.toNat (IntKind.wrap IntKind.i64 (a1.2 - (1 : Int)))) y236))))
         (none))
        (none))
       (none))
      (none))
     (none))
    (none))
   (Option.bind (idx y235 (IntKind.wrap IntKind.i64 (a1.2 - (1 : Int)))) fun y237 =>
    Option.bind (idx y235 a1.2) fun y238 =>
    Option.bind (idx y235 (IntKind.wrap IntKind.i64 (a1.2 + (1 : Int)))) fun y239 =>
    cond (decide ((List.length y235) = (List.length y235)))
    (Option.bind (g_slices_Replace_Sint64_int64 y235 (IntKind.wrap IntKind.i64 (a1.2 - (1 : Int))) (IntKind.wrap IntKind.i64 (a1.2 + (2 : Int))) [(IntKind.wrap IntKind.i64 ((IntKind.wrap IntKind.i64 (y237 - y238)) + y239))]) fun y248 =>
     cond (decide ((List.length y236) = (List.length y236)))
     (Option.bind (g_slices_Delete_Sint64_int64 y236 (IntKind.wrap IntKind.i64 (a1.2 - (1 : Int))) (IntKind.wrap IntKind.i64 (a1.2 + (1 : Int)))) fun y252 =>
      kx (y248, y252))
     (none))
    (none)))
noncomputable def g_impl_Strip_apply (a0 : ((List Int) × (List Int))) (a1 : (Int × Int)) : Option (((List Int) × (List Int))) := t_impl_Strip_apply some a0 a1
theorem nat_impl_Strip_apply {R : Type} (kx : ((List Int) × (List Int)) → Option R) (a0 : ((List Int) × (List Int))) (a1 : (Int × Int)) : t_impl_Strip_apply kx a0 a1 = (g_impl_Strip_apply a0 a1).bind kx := by
  unfold g_impl_Strip_apply t_impl_Strip_apply
  exact nat_bind fun _ => nat_bind fun _ => nat_cond (nat_cond (nat_cond (nat_cond (nat_cond (rfl) (rfl)) (rfl)) (rfl)) (rfl)) (nat_cond (nat_cond (nat_cond (nat_cond (nat_cond (nat_cond (nat_cond (rfl) (rfl)) (rfl)) (rfl)) (rfl)) (rfl)) (rfl)) (nat_bind fun _ => nat_bind fun _ => nat_bind fun _ => nat_cond (nat_bind fun _ => nat_cond (nat_bind fun _ => rfl) (rfl)) (rfl)))
abbrev as_impl_Strip_apply : List AX := [.val true (.pair (.slice (.int .i64)) (.slice (.int .i64))), .val true (.pair (.int .i64) (.int .i64))]
abbrev en_impl_Strip_apply : ((List Int) × (List Int)) → AV × List CV := fun b => (.one ⟨true, [(.own (.int .i64) b.1), (.own (.int .i64) b.2)]⟩, [])
noncomputable abbrev k_impl_Strip_apply : Contract := .fx as_impl_Strip_apply (((List Int) × (List Int))) (fun z => g_impl_Strip_apply z.1 z.2.1) en_impl_Strip_apply
theorem r_impl_Strip_apply (z : argsX as_impl_Strip_apply) : runF (tab C0 T_impl_Strip_apply) noHints 1 Try.f47 (lentOf as_impl_Strip_apply) (xBoxes as_impl_Strip_apply z) (xVals as_impl_Strip_apply 0 z) K2 = t_impl_Strip_apply (fun b => some (en_impl_Strip_apply b)) z.1 z.2.1 := by kernel_rfl
theorem so_impl_Strip_apply : Sound C0 47 k_impl_Strip_apply :=
  Sound.fx a_impl_Strip_apply mixed Try.func47 (by kernel_rfl) (by kernel_rfl) noHints 1 noHints_ok (fun z => (r_impl_Strip_apply z).trans (nat_impl_Strip_apply _ z.1 z.2.1))

/-! ### F55 (impl.Strip).reduce -/
noncomputable def T_impl_Strip_reduce : List (FuncId × Contract) := [(66, k_slices_Clone_Sint64_int64), (41, k_impl_Strip_steps), (47, k_impl_Strip_apply)]
theorem a_impl_Strip_reduce : AllSound C0 T_impl_Strip_reduce := .cons so_slices_Clone_Sint64_int64 (.cons so_impl_Strip_steps (.cons so_impl_Strip_apply (.nil)))
abbrev s_impl_Strip_reduce_4 : LS := ⟨[(false, [(.ptr 3 0)]), (false, [(.ptr 4 0)]), (false, [(.own (.pair (.int .i64) (.int .i64)))])], [(false, [(.own (.int .i64)), (.own (.int .i64))]), (false, [(.own (.int .i64)), (.own (.int .i64))])], []⟩
abbrev e_impl_Strip_reduce_4_0 : LS := ⟨[(false, [(.own (.pair (.int .i64) (.int .i64)))]), (false, [(.ptr 3 0)])], [(false, [(.own (.int .i64)), (.own (.int .i64))])], []⟩
abbrev d_impl_Strip_reduce_4_0 (v0 : List (Int × Int)) (v1 : List Int) (v2 : List Int) : e_impl_Strip_reduce_4_0.T := (((v0, ()), ((), ()), ()), ((v1, v2, ()), ()), ())
abbrev x_impl_Strip_reduce_4 : List (Ex × LS) := [(.ret, e_impl_Strip_reduce_4_0)]
abbrev m_impl_Strip_reduce_4 (x5 : List (Int × Int)) (b0_0 : List Int) (b0_1 : List Int) (b1_0 : List Int) (b1_1 : List Int) : s_impl_Strip_reduce_4.T := ((((), ()), ((), ()), (x5, ()), ()), ((b0_0, b0_1, ()), (b1_0, b1_1, ()), ()), ())
noncomputable def u_impl_Strip_reduce_4 {R : Type} (nx : s_impl_Strip_reduce_4.T → Option R) (hx : exH R x_impl_Strip_reduce_4) (x5 : List (Int × Int)) (b0_0 : List Int) (b0_1 : List Int) (b1_0 : List Int) (b1_1 : List Int) : Option R :=
  Option.bind (g_impl_Strip_steps (b1_0, b1_1)) fun y230 =>
  cond ((((List.length y230) : Nat) : Int) == (0 : Int))
  (hx.1 (d_impl_Strip_reduce_4_0 x5 b1_0 b1_1))
  (Option.bind (idx y230 (0 : Int)) fun y231 =>
   cond (decide ((((List.length x5) + (List.length [y231])) * 16) ≤ 70368744177664))
   (cond (decide (((List.length x5) + (List.length [y231])) ≤ 70368744177664))
    (Option.bind (idx y230 (0 : Int)) fun y232 =>
     Option.bind (g_impl_Strip_apply (b1_0, b1_1) y232) fun y253 =>
     nx (m_impl_Strip_reduce_4 (x5 ++ [y231]) b0_0 b0_1 y253.1 y253.2))
    (none))
   (none))
noncomputable def t_impl_Strip_reduce_4 {R : Type} (nx : s_impl_Strip_reduce_4.T → Option R) (hx : exH R x_impl_Strip_reduce_4) (z : s_impl_Strip_reduce_4.T) : Option R := u_impl_Strip_reduce_4 nx hx z.1.2.2.1.1 z.2.1.1.1 z.2.1.1.2.1 z.2.1.2.1.1 z.2.1.2.1.2.1
theorem nat_impl_Strip_reduce_4 : Natural @t_impl_Strip_reduce_4 := fun R nx hx z => by
  show u_impl_Strip_reduce_4 nx hx z.1.2.2.1.1 z.2.1.1.1 z.2.1.1.2.1 z.2.1.2.1.1 z.2.1.2.1.2.1 = (u_impl_Strip_reduce_4 (fun y => some (.inl y)) (hIn x_impl_Strip_reduce_4 fun x => some (.inr x)) z.1.2.2.1.1 z.2.1.1.1 z.2.1.1.2.1 z.2.1.2.1.1 z.2.1.2.1.2.1).bind (goOn nx hx)
  unfold u_impl_Strip_reduce_4
  exact nat_bind fun _ => nat_cond (rfl) (nat_bind fun _ => nat_cond (nat_cond (nat_bind fun _ => nat_bind fun _ => rfl) (rfl)) (rfl))
noncomputable def w_impl_Strip_reduce_4 : s_impl_Strip_reduce_4.T → Option (exT x_impl_Strip_reduce_4) := wOf @t_impl_Strip_reduce_4
theorem wq_impl_Strip_reduce_4 (x5 : List (Int × Int)) (b0_0 : List Int) (b0_1 : List Int) (b1_0 : List Int) (b1_1 : List Int) : w_impl_Strip_reduce_4 (m_impl_Strip_reduce_4 x5 b0_0 b0_1 b1_0 b1_1) = u_impl_Strip_reduce_4 w_impl_Strip_reduce_4 (hIn x_impl_Strip_reduce_4 some) x5 b0_0 b0_1 b1_0 b1_1 := wOf_eq nat_impl_Strip_reduce_4 _
def lh_impl_Strip_reduce_4 : LoopHint := ⟨[3, 4, 5], [3, 4], [2, 3], [3]⟩
noncomputable def h_impl_Strip_reduce : Hints Rv := ⟨fun k => match k with | 4 => lh_impl_Strip_reduce_4 | _ => ⟨[], [], [], []⟩, fun k => match k with | 4 => some (loopX s_impl_Strip_reduce_4 x_impl_Strip_reduce_4 w_impl_Strip_reduce_4) | _ => none⟩
theorem st_impl_Strip_reduce_4 (n : Nat) (z : s_impl_Strip_reduce_4.T) (k : Ex → Live → Option Rv) : loopN ⟨32, 32⟩ lh_impl_Strip_reduce_4 (den (tab C0 T_impl_Strip_reduce) ⟨32, 32⟩ h_impl_Strip_reduce 1 (loopOf Try.f55 3)) (n + 1) (s_impl_Strip_reduce_4.enc z) k =
    t_impl_Strip_reduce_4 (fun y => loopN ⟨32, 32⟩ lh_impl_Strip_reduce_4 (den (tab C0 T_impl_Strip_reduce) ⟨32, 32⟩ h_impl_Strip_reduce 1 (loopOf Try.f55 3)) n (s_impl_Strip_reduce_4.enc y) k) (hK k x_impl_Strip_reduce_4) z := by kernel_rfl
theorem hs_impl_Strip_reduce : HintsOk (tab C0 T_impl_Strip_reduce) ⟨32, 32⟩ h_impl_Strip_reduce 1 (loops (codeOf Try.f55)) := by
  have hl : loops (codeOf Try.f55) = [loopOf Try.f55 3] := by kernel_rfl
  rw [hl]
  exact HintsOk.cons (n := 4) (lh := lh_impl_Strip_reduce_4) (S := loopX s_impl_Strip_reduce_4 x_impl_Strip_reduce_4 w_impl_Strip_reduce_4) (by kernel_rfl) rfl rfl (loopX_ok nat_impl_Strip_reduce_4 st_impl_Strip_reduce_4)
    (HintsOk.nil)
noncomputable def t_impl_Strip_reduce {R : Type} (kx : (List (Int × Int)) × ((List Int) × (List Int)) → Option R) (a0 : ((List Int) × (List Int))) : Option R :=
  Option.bind (g_slices_Clone_Sint64_int64 a0.1) fun y165 =>
  Option.bind (g_slices_Clone_Sint64_int64 a0.2) fun y166 =>
  Option.bind (w_impl_Strip_reduce_4 (m_impl_Strip_reduce_4 [] [] [] y165 y166)) (exC x_impl_Strip_reduce_4
  (fun e254 =>
   kx ((e254.1.1.1 : List (Int × Int)), ((e254.2.1.1.1 : List Int), (e254.2.1.1.2.1 : List Int))), ()))
noncomputable def g_impl_Strip_reduce (a0 : ((List Int) × (List Int))) : Option ((List (Int × Int)) × ((List Int) × (List Int))) := t_impl_Strip_reduce some a0
theorem nat_impl_Strip_reduce {R : Type} (kx : (List (Int × Int)) × ((List Int) × (List Int)) → Option R) (a0 : ((List Int) × (List Int))) : t_impl_Strip_reduce kx a0 = (g_impl_Strip_reduce a0).bind kx := by
  unfold g_impl_Strip_reduce t_impl_Strip_reduce
  exact nat_bind fun _ => nat_bind fun _ => nat_exC ⟨fun _ => rfl, trivial⟩
abbrev as_impl_Strip_reduce : List AX := [.val true (.pair (.slice (.int .i64)) (.slice (.int .i64)))]
abbrev en_impl_Strip_reduce : (List (Int × Int)) × ((List Int) × (List Int)) → AV × List CV := fun b => (.tup [⟨false, [(.own (.pair (.int .i64) (.int .i64)) b.1)]⟩, ⟨true, [(.own (.int .i64) b.2.1), (.own (.int .i64) b.2.2)]⟩], [])
noncomputable abbrev k_impl_Strip_reduce : Contract := .fx as_impl_Strip_reduce ((List (Int × Int)) × ((List Int) × (List Int))) (fun z => g_impl_Strip_reduce z.1) en_impl_Strip_reduce
theorem r_impl_Strip_reduce (z : argsX as_impl_Strip_reduce) : runF (tab C0 T_impl_Strip_reduce) h_impl_Strip_reduce 1 Try.f55 (lentOf as_impl_Strip_reduce) (xBoxes as_impl_Strip_reduce z) (xVals as_impl_Strip_reduce 0 z) K2 = t_impl_Strip_reduce (fun b => some (en_impl_Strip_reduce b)) z.1 := by kernel_rfl
theorem so_impl_Strip_reduce : Sound C0 55 k_impl_Strip_reduce :=
  Sound.fx a_impl_Strip_reduce mixed Try.func55 (by kernel_rfl) (by kernel_rfl) h_impl_Strip_reduce 1 hs_impl_Strip_reduce (fun z => (r_impl_Strip_reduce z).trans (nat_impl_Strip_reduce _ z.1))

/-! ### F34 impl.ReduceStrip -/
noncomputable def T_impl_ReduceStrip : List (FuncId × Contract) := [(40, k_impl_ValidStrip), (55, k_impl_Strip_reduce)]
theorem a_impl_ReduceStrip : AllSound C0 T_impl_ReduceStrip := .cons so_impl_ValidStrip (.cons so_impl_Strip_reduce (.nil))
noncomputable def t_impl_ReduceStrip {R : Type} (kx : (List (Int × Int)) × ((List Int) × (List Int)) → Option R) (a0 : ((List Int) × (List Int))) : Option R :=
  Option.bind (g_impl_ValidStrip a0) fun y162 =>
  cond (!y162)
  (kx ([], ([], [])))
  (Option.bind (g_impl_Strip_reduce a0) fun y258 =>
   kx y258)
noncomputable def g_impl_ReduceStrip (a0 : ((List Int) × (List Int))) : Option ((List (Int × Int)) × ((List Int) × (List Int))) := t_impl_ReduceStrip some a0
theorem nat_impl_ReduceStrip {R : Type} (kx : (List (Int × Int)) × ((List Int) × (List Int)) → Option R) (a0 : ((List Int) × (List Int))) : t_impl_ReduceStrip kx a0 = (g_impl_ReduceStrip a0).bind kx := by
  unfold g_impl_ReduceStrip t_impl_ReduceStrip
  exact nat_bind fun _ => nat_cond (rfl) (nat_bind fun _ => rfl)
abbrev as_impl_ReduceStrip : List AX := [.val true (.pair (.slice (.int .i64)) (.slice (.int .i64)))]
abbrev en_impl_ReduceStrip : (List (Int × Int)) × ((List Int) × (List Int)) → AV × List CV := fun b => (.tup [⟨false, [(.own (.pair (.int .i64) (.int .i64)) b.1)]⟩, ⟨true, [(.own (.int .i64) b.2.1), (.own (.int .i64) b.2.2)]⟩], [])
noncomputable abbrev k_impl_ReduceStrip : Contract := .fx as_impl_ReduceStrip ((List (Int × Int)) × ((List Int) × (List Int))) (fun z => g_impl_ReduceStrip z.1) en_impl_ReduceStrip
theorem r_impl_ReduceStrip (z : argsX as_impl_ReduceStrip) : runF (tab C0 T_impl_ReduceStrip) noHints 1 Try.f34 (lentOf as_impl_ReduceStrip) (xBoxes as_impl_ReduceStrip z) (xVals as_impl_ReduceStrip 0 z) K2 = t_impl_ReduceStrip (fun b => some (en_impl_ReduceStrip b)) z.1 := by kernel_rfl
theorem so_impl_ReduceStrip : Sound C0 34 k_impl_ReduceStrip :=
  Sound.fx a_impl_ReduceStrip mixed Try.func34 (by kernel_rfl) (by kernel_rfl) noHints 1 noHints_ok (fun z => (r_impl_ReduceStrip z).trans (nat_impl_ReduceStrip _ z.1))

/-! ### F42 laws.eqStripStep -/
noncomputable def T_laws_eqStripStep : List (FuncId × Contract) := []
theorem a_laws_eqStripStep : AllSound C0 T_laws_eqStripStep := .nil
noncomputable def t_laws_eqStripStep {R : Type} (kx : Bool → Option R) (a0 : (Int × Int)) (a1 : (Int × Int)) : Option R :=
  cond (a0.1 != a1.1)
  (kx Bool.false)
  (cond (a0.2 != a1.2)
   (kx Bool.false)
   (kx Bool.true))
noncomputable def g_laws_eqStripStep (a0 : (Int × Int)) (a1 : (Int × Int)) : Option (Bool) := t_laws_eqStripStep some a0 a1
theorem nat_laws_eqStripStep {R : Type} (kx : Bool → Option R) (a0 : (Int × Int)) (a1 : (Int × Int)) : t_laws_eqStripStep kx a0 a1 = (g_laws_eqStripStep a0 a1).bind kx := by
  unfold g_laws_eqStripStep t_laws_eqStripStep
  exact nat_cond (rfl) (nat_cond (rfl) (rfl))
abbrev as_laws_eqStripStep : List AX := [.val true (.pair (.int .i64) (.int .i64)), .val true (.pair (.int .i64) (.int .i64))]
abbrev en_laws_eqStripStep : Bool → AV × List CV := fun b => (.one ⟨false, [(.v (.bool b))]⟩, [])
noncomputable abbrev k_laws_eqStripStep : Contract := .fx as_laws_eqStripStep (Bool) (fun z => g_laws_eqStripStep z.1 z.2.1) en_laws_eqStripStep
theorem r_laws_eqStripStep (z : argsX as_laws_eqStripStep) : runF (tab C0 T_laws_eqStripStep) noHints 1 Try.f42 (lentOf as_laws_eqStripStep) (xBoxes as_laws_eqStripStep z) (xVals as_laws_eqStripStep 0 z) K2 = t_laws_eqStripStep (fun b => some (en_laws_eqStripStep b)) z.1 z.2.1 := by kernel_rfl
theorem so_laws_eqStripStep : Sound C0 42 k_laws_eqStripStep :=
  Sound.fx a_laws_eqStripStep mixed Try.func42 (by kernel_rfl) (by kernel_rfl) noHints 1 noHints_ok (fun z => (r_laws_eqStripStep z).trans (nat_laws_eqStripStep _ z.1 z.2.1))

/-! ### F14 laws.eqStripStepS -/
noncomputable def T_laws_eqStripStepS : List (FuncId × Contract) := [(42, k_laws_eqStripStep)]
theorem a_laws_eqStripStepS : AllSound C0 T_laws_eqStripStepS := .cons so_laws_eqStripStep (.nil)
abbrev s_laws_eqStripStepS_5 : LS := ⟨[(false, [(.sl (.pair (.int .i64) (.int .i64)))]), (false, [(.sl (.pair (.int .i64) (.int .i64)))]), (false, [(.int .i64)])], [], []⟩
abbrev e_laws_eqStripStepS_5_0 : LS := ⟨[(false, [.bool])], [], []⟩
abbrev d_laws_eqStripStepS_5_0 (v0 : Bool) : e_laws_eqStripStepS_5_0.T := (((v0, ()), ()), (), ())
abbrev e_laws_eqStripStepS_5_1 : LS := ⟨[(false, [.undef])], [], []⟩
abbrev d_laws_eqStripStepS_5_1 : e_laws_eqStripStepS_5_1.T := ((((), ()), ()), (), ())
abbrev x_laws_eqStripStepS_5 : List (Ex × LS) := [(.ret, e_laws_eqStripStepS_5_0), (.exit 0, e_laws_eqStripStepS_5_1)]
abbrev m_laws_eqStripStepS_5 (x0 : List (Int × Int)) (x1 : List (Int × Int)) (x5 : Int) : s_laws_eqStripStepS_5.T := (((x0, ()), (x1, ()), (x5, ()), ()), (), ())
noncomputable def u_laws_eqStripStepS_5 {R : Type} (nx : s_laws_eqStripStepS_5.T → Option R) (hx : exH R x_laws_eqStripStepS_5) (x0 : List (Int × Int)) (x1 : List (Int × Int)) (x5 : Int) : Option R :=
  cond (decide (x5 < (((List.length x0) : Nat) : Int)))
  (Option.bind (idx x0 x5) fun y265 =>
   Option.bind (idx x1 x5) fun y266 =>
   Option.bind (g_laws_eqStripStep y265 y266) fun y269 =>
   cond (!y269)
   (hx.1 (d_laws_eqStripStepS_5_0 Bool.false))
   (nx (m_laws_eqStripStepS_5 x0 x1 (IntKind.wrap IntKind.i64 (x5 + (1 : Int))))))
  (hx.2.1 (d_laws_eqStripStepS_5_1))
noncomputable def t_laws_eqStripStepS_5 {R : Type} (nx : s_laws_eqStripStepS_5.T → Option R) (hx : exH R x_laws_eqStripStepS_5) (z : s_laws_eqStripStepS_5.T) : Option R := u_laws_eqStripStepS_5 nx hx z.1.1.1 z.1.2.1.1 z.1.2.2.1.1
theorem nat_laws_eqStripStepS_5 : Natural @t_laws_eqStripStepS_5 := fun R nx hx z => by
  show u_laws_eqStripStepS_5 nx hx z.1.1.1 z.1.2.1.1 z.1.2.2.1.1 = (u_laws_eqStripStepS_5 (fun y => some (.inl y)) (hIn x_laws_eqStripStepS_5 fun x => some (.inr x)) z.1.1.1 z.1.2.1.1 z.1.2.2.1.1).bind (goOn nx hx)
  unfold u_laws_eqStripStepS_5
  exact nat_cond (nat_bind fun _ => nat_bind fun _ => nat_bind fun _ => nat_cond (rfl) (rfl)) (rfl)
noncomputable def w_laws_eqStripStepS_5 : s_laws_eqStripStepS_5.T → Option (exT x_laws_eqStripStepS_5) := wOf @t_laws_eqStripStepS_5
theorem wq_laws_eqStripStepS_5 (x0 : List (Int × Int)) (x1 : List (Int × Int)) (x5 : Int) : w_laws_eqStripStepS_5 (m_laws_eqStripStepS_5 x0 x1 x5) = u_laws_eqStripStepS_5 w_laws_eqStripStepS_5 (hIn x_laws_eqStripStepS_5 some) x0 x1 x5 := wOf_eq nat_laws_eqStripStepS_5 _
def lh_laws_eqStripStepS_5 : LoopHint := ⟨[0, 1, 5], [], [4], []⟩
noncomputable def h_laws_eqStripStepS : Hints Rv := ⟨fun k => match k with | 5 => lh_laws_eqStripStepS_5 | _ => ⟨[], [], [], []⟩, fun k => match k with | 5 => some (loopX s_laws_eqStripStepS_5 x_laws_eqStripStepS_5 w_laws_eqStripStepS_5) | _ => none⟩
theorem st_laws_eqStripStepS_5 (n : Nat) (z : s_laws_eqStripStepS_5.T) (k : Ex → Live → Option Rv) : loopN ⟨27, 27⟩ lh_laws_eqStripStepS_5 (den (tab C0 T_laws_eqStripStepS) ⟨27, 27⟩ h_laws_eqStripStepS 1 (loopOf Try.f14 4)) (n + 1) (s_laws_eqStripStepS_5.enc z) k =
    t_laws_eqStripStepS_5 (fun y => loopN ⟨27, 27⟩ lh_laws_eqStripStepS_5 (den (tab C0 T_laws_eqStripStepS) ⟨27, 27⟩ h_laws_eqStripStepS 1 (loopOf Try.f14 4)) n (s_laws_eqStripStepS_5.enc y) k) (hK k x_laws_eqStripStepS_5) z := by kernel_rfl
theorem hs_laws_eqStripStepS : HintsOk (tab C0 T_laws_eqStripStepS) ⟨27, 27⟩ h_laws_eqStripStepS 1 (loops (codeOf Try.f14)) := by
  have hl : loops (codeOf Try.f14) = [loopOf Try.f14 4] := by kernel_rfl
  rw [hl]
  exact HintsOk.cons (n := 5) (lh := lh_laws_eqStripStepS_5) (S := loopX s_laws_eqStripStepS_5 x_laws_eqStripStepS_5 w_laws_eqStripStepS_5) (by kernel_rfl) rfl rfl (loopX_ok nat_laws_eqStripStepS_5 st_laws_eqStripStepS_5)
    (HintsOk.nil)
noncomputable def t_laws_eqStripStepS {R : Type} (kx : Bool → Option R) (a0 : (List (Int × Int))) (a1 : (List (Int × Int))) : Option R :=
  cond ((((List.length a0) : Nat) : Int) != (((List.length a1) : Nat) : Int))
  (kx Bool.false)
  (Option.bind (w_laws_eqStripStepS_5 (m_laws_eqStripStepS_5 a0 a1 (0 : Int))) (exC x_laws_eqStripStepS_5
   (fun e270 =>
    kx (e270.1.1.1 : Bool), fun _ =>
    kx Bool.true, ())))
noncomputable def g_laws_eqStripStepS (a0 : (List (Int × Int))) (a1 : (List (Int × Int))) : Option (Bool) := t_laws_eqStripStepS some a0 a1
theorem nat_laws_eqStripStepS {R : Type} (kx : Bool → Option R) (a0 : (List (Int × Int))) (a1 : (List (Int × Int))) : t_laws_eqStripStepS kx a0 a1 = (g_laws_eqStripStepS a0 a1).bind kx := by
  unfold g_laws_eqStripStepS t_laws_eqStripStepS
  exact nat_cond (rfl) (nat_exC ⟨fun _ => rfl, fun _ => rfl, trivial⟩)
abbrev as_laws_eqStripStepS : List AX := [.val false (.slice (.pair (.int .i64) (.int .i64))), .val false (.slice (.pair (.int .i64) (.int .i64)))]
abbrev en_laws_eqStripStepS : Bool → AV × List CV := fun b => (.one ⟨false, [(.v (.bool b))]⟩, [])
noncomputable abbrev k_laws_eqStripStepS : Contract := .fx as_laws_eqStripStepS (Bool) (fun z => g_laws_eqStripStepS z.1 z.2.1) en_laws_eqStripStepS
theorem r_laws_eqStripStepS (z : argsX as_laws_eqStripStepS) : runF (tab C0 T_laws_eqStripStepS) h_laws_eqStripStepS 1 Try.f14 (lentOf as_laws_eqStripStepS) (xBoxes as_laws_eqStripStepS z) (xVals as_laws_eqStripStepS 0 z) K2 = t_laws_eqStripStepS (fun b => some (en_laws_eqStripStepS b)) z.1 z.2.1 := by kernel_rfl
theorem so_laws_eqStripStepS : Sound C0 14 k_laws_eqStripStepS :=
  Sound.fx a_laws_eqStripStepS mixed Try.func14 (by kernel_rfl) (by kernel_rfl) h_laws_eqStripStepS 1 hs_laws_eqStripStepS (fun z => (r_laws_eqStripStepS z).trans (nat_laws_eqStripStepS _ z.1 z.2.1))

/-! ### F26 laws.eqInt64S -/
noncomputable def T_laws_eqInt64S : List (FuncId × Contract) := []
theorem a_laws_eqInt64S : AllSound C0 T_laws_eqInt64S := .nil
abbrev s_laws_eqInt64S_5 : LS := ⟨[(false, [(.sl (.int .i64))]), (false, [(.sl (.int .i64))]), (false, [(.int .i64)])], [], []⟩
abbrev e_laws_eqInt64S_5_0 : LS := ⟨[(false, [.bool])], [], []⟩
abbrev d_laws_eqInt64S_5_0 (v0 : Bool) : e_laws_eqInt64S_5_0.T := (((v0, ()), ()), (), ())
abbrev e_laws_eqInt64S_5_1 : LS := ⟨[(false, [.undef])], [], []⟩
abbrev d_laws_eqInt64S_5_1 : e_laws_eqInt64S_5_1.T := ((((), ()), ()), (), ())
abbrev x_laws_eqInt64S_5 : List (Ex × LS) := [(.ret, e_laws_eqInt64S_5_0), (.exit 0, e_laws_eqInt64S_5_1)]
abbrev m_laws_eqInt64S_5 (x0 : List Int) (x1 : List Int) (x5 : Int) : s_laws_eqInt64S_5.T := (((x0, ()), (x1, ()), (x5, ()), ()), (), ())
noncomputable def u_laws_eqInt64S_5 {R : Type} (nx : s_laws_eqInt64S_5.T → Option R) (hx : exH R x_laws_eqInt64S_5) (x0 : List Int) (x1 : List Int) (x5 : Int) : Option R :=
  cond (decide (x5 < (((List.length x0) : Nat) : Int)))
  (Option.bind (idx x0 x5) fun y281 =>
   Option.bind (idx x1 x5) fun y282 =>
   cond (y281 != y282)
   (hx.1 (d_laws_eqInt64S_5_0 Bool.false))
   (nx (m_laws_eqInt64S_5 x0 x1 (IntKind.wrap IntKind.i64 (x5 + (1 : Int))))))
  (hx.2.1 (d_laws_eqInt64S_5_1))
noncomputable def t_laws_eqInt64S_5 {R : Type} (nx : s_laws_eqInt64S_5.T → Option R) (hx : exH R x_laws_eqInt64S_5) (z : s_laws_eqInt64S_5.T) : Option R := u_laws_eqInt64S_5 nx hx z.1.1.1 z.1.2.1.1 z.1.2.2.1.1
theorem nat_laws_eqInt64S_5 : Natural @t_laws_eqInt64S_5 := fun R nx hx z => by
  show u_laws_eqInt64S_5 nx hx z.1.1.1 z.1.2.1.1 z.1.2.2.1.1 = (u_laws_eqInt64S_5 (fun y => some (.inl y)) (hIn x_laws_eqInt64S_5 fun x => some (.inr x)) z.1.1.1 z.1.2.1.1 z.1.2.2.1.1).bind (goOn nx hx)
  unfold u_laws_eqInt64S_5
  exact nat_cond (nat_bind fun _ => nat_bind fun _ => nat_cond (rfl) (rfl)) (rfl)
noncomputable def w_laws_eqInt64S_5 : s_laws_eqInt64S_5.T → Option (exT x_laws_eqInt64S_5) := wOf @t_laws_eqInt64S_5
theorem wq_laws_eqInt64S_5 (x0 : List Int) (x1 : List Int) (x5 : Int) : w_laws_eqInt64S_5 (m_laws_eqInt64S_5 x0 x1 x5) = u_laws_eqInt64S_5 w_laws_eqInt64S_5 (hIn x_laws_eqInt64S_5 some) x0 x1 x5 := wOf_eq nat_laws_eqInt64S_5 _
def lh_laws_eqInt64S_5 : LoopHint := ⟨[0, 1, 5], [], [4], []⟩
noncomputable def h_laws_eqInt64S : Hints Rv := ⟨fun k => match k with | 5 => lh_laws_eqInt64S_5 | _ => ⟨[], [], [], []⟩, fun k => match k with | 5 => some (loopX s_laws_eqInt64S_5 x_laws_eqInt64S_5 w_laws_eqInt64S_5) | _ => none⟩
theorem st_laws_eqInt64S_5 (n : Nat) (z : s_laws_eqInt64S_5.T) (k : Ex → Live → Option Rv) : loopN ⟨26, 26⟩ lh_laws_eqInt64S_5 (den (tab C0 T_laws_eqInt64S) ⟨26, 26⟩ h_laws_eqInt64S 1 (loopOf Try.f26 4)) (n + 1) (s_laws_eqInt64S_5.enc z) k =
    t_laws_eqInt64S_5 (fun y => loopN ⟨26, 26⟩ lh_laws_eqInt64S_5 (den (tab C0 T_laws_eqInt64S) ⟨26, 26⟩ h_laws_eqInt64S 1 (loopOf Try.f26 4)) n (s_laws_eqInt64S_5.enc y) k) (hK k x_laws_eqInt64S_5) z := by kernel_rfl
theorem hs_laws_eqInt64S : HintsOk (tab C0 T_laws_eqInt64S) ⟨26, 26⟩ h_laws_eqInt64S 1 (loops (codeOf Try.f26)) := by
  have hl : loops (codeOf Try.f26) = [loopOf Try.f26 4] := by kernel_rfl
  rw [hl]
  exact HintsOk.cons (n := 5) (lh := lh_laws_eqInt64S_5) (S := loopX s_laws_eqInt64S_5 x_laws_eqInt64S_5 w_laws_eqInt64S_5) (by kernel_rfl) rfl rfl (loopX_ok nat_laws_eqInt64S_5 st_laws_eqInt64S_5)
    (HintsOk.nil)
noncomputable def t_laws_eqInt64S {R : Type} (kx : Bool → Option R) (a0 : (List Int)) (a1 : (List Int)) : Option R :=
  cond ((((List.length a0) : Nat) : Int) != (((List.length a1) : Nat) : Int))
  (kx Bool.false)
  (Option.bind (w_laws_eqInt64S_5 (m_laws_eqInt64S_5 a0 a1 (0 : Int))) (exC x_laws_eqInt64S_5
   (fun e283 =>
    kx (e283.1.1.1 : Bool), fun _ =>
    kx Bool.true, ())))
noncomputable def g_laws_eqInt64S (a0 : (List Int)) (a1 : (List Int)) : Option (Bool) := t_laws_eqInt64S some a0 a1
theorem nat_laws_eqInt64S {R : Type} (kx : Bool → Option R) (a0 : (List Int)) (a1 : (List Int)) : t_laws_eqInt64S kx a0 a1 = (g_laws_eqInt64S a0 a1).bind kx := by
  unfold g_laws_eqInt64S t_laws_eqInt64S
  exact nat_cond (rfl) (nat_exC ⟨fun _ => rfl, fun _ => rfl, trivial⟩)
abbrev as_laws_eqInt64S : List AX := [.val false (.slice (.int .i64)), .val false (.slice (.int .i64))]
abbrev en_laws_eqInt64S : Bool → AV × List CV := fun b => (.one ⟨false, [(.v (.bool b))]⟩, [])
noncomputable abbrev k_laws_eqInt64S : Contract := .fx as_laws_eqInt64S (Bool) (fun z => g_laws_eqInt64S z.1 z.2.1) en_laws_eqInt64S
theorem r_laws_eqInt64S (z : argsX as_laws_eqInt64S) : runF (tab C0 T_laws_eqInt64S) h_laws_eqInt64S 1 Try.f26 (lentOf as_laws_eqInt64S) (xBoxes as_laws_eqInt64S z) (xVals as_laws_eqInt64S 0 z) K2 = t_laws_eqInt64S (fun b => some (en_laws_eqInt64S b)) z.1 z.2.1 := by kernel_rfl
theorem so_laws_eqInt64S : Sound C0 26 k_laws_eqInt64S :=
  Sound.fx a_laws_eqInt64S mixed Try.func26 (by kernel_rfl) (by kernel_rfl) h_laws_eqInt64S 1 hs_laws_eqInt64S (fun z => (r_laws_eqInt64S z).trans (nat_laws_eqInt64S _ z.1 z.2.1))

/-! ### F15 laws.eqStrip -/
noncomputable def T_laws_eqStrip : List (FuncId × Contract) := [(26, k_laws_eqInt64S)]
theorem a_laws_eqStrip : AllSound C0 T_laws_eqStrip := .cons so_laws_eqInt64S (.nil)
noncomputable def t_laws_eqStrip {R : Type} (kx : Bool → Option R) (a0 : ((List Int) × (List Int))) (a1 : ((List Int) × (List Int))) : Option R :=
  Option.bind (g_laws_eqInt64S a0.1 a1.1) fun y286 =>
  cond (!y286)
  (kx Bool.false)
  (Option.bind (g_laws_eqInt64S a0.2 a1.2) fun y287 =>
   cond (!y287)
   (kx Bool.false)
   (kx Bool.true))
noncomputable def g_laws_eqStrip (a0 : ((List Int) × (List Int))) (a1 : ((List Int) × (List Int))) : Option (Bool) := t_laws_eqStrip some a0 a1
theorem nat_laws_eqStrip {R : Type} (kx : Bool → Option R) (a0 : ((List Int) × (List Int))) (a1 : ((List Int) × (List Int))) : t_laws_eqStrip kx a0 a1 = (g_laws_eqStrip a0 a1).bind kx := by
  unfold g_laws_eqStrip t_laws_eqStrip
  exact nat_bind fun _ => nat_cond (rfl) (nat_bind fun _ => nat_cond (rfl) (rfl))
abbrev as_laws_eqStrip : List AX := [.val true (.pair (.slice (.int .i64)) (.slice (.int .i64))), .val true (.pair (.slice (.int .i64)) (.slice (.int .i64)))]
abbrev en_laws_eqStrip : Bool → AV × List CV := fun b => (.one ⟨false, [(.v (.bool b))]⟩, [])
noncomputable abbrev k_laws_eqStrip : Contract := .fx as_laws_eqStrip (Bool) (fun z => g_laws_eqStrip z.1 z.2.1) en_laws_eqStrip
theorem r_laws_eqStrip (z : argsX as_laws_eqStrip) : runF (tab C0 T_laws_eqStrip) noHints 1 Try.f15 (lentOf as_laws_eqStrip) (xBoxes as_laws_eqStrip z) (xVals as_laws_eqStrip 0 z) K2 = t_laws_eqStrip (fun b => some (en_laws_eqStrip b)) z.1 z.2.1 := by kernel_rfl
theorem so_laws_eqStrip : Sound C0 15 k_laws_eqStrip :=
  Sound.fx a_laws_eqStrip mixed Try.func15 (by kernel_rfl) (by kernel_rfl) noHints 1 noHints_ok (fun z => (r_laws_eqStrip z).trans (nat_laws_eqStrip _ z.1 z.2.1))

/-! ### F43 laws.markInt64S -/
noncomputable def T_laws_markInt64S : List (FuncId × Contract) := []
theorem a_laws_markInt64S : AllSound C0 T_laws_markInt64S := .nil
abbrev s_laws_markInt64S_3 : LS := ⟨[(false, [(.view (.arg 0) true 0 (.int .i64))]), (false, [(.int .i64)]), (false, [(.int .i64)])], [], [(.own (.int .i64))]⟩
abbrev e_laws_markInt64S_3_0 : LS := ⟨[(false, [(.int .i64)])], [], [(.own (.int .i64))]⟩
abbrev d_laws_markInt64S_3_0 (v0 : Int) (v1 : List Int) : e_laws_markInt64S_3_0.T := (((v0, ()), ()), (), (v1, ()))
abbrev x_laws_markInt64S_3 : List (Ex × LS) := [(.exit 0, e_laws_markInt64S_3_0)]
abbrev m_laws_markInt64S_3 (x0 : List Int) (x1 : Int) (x5 : Int) (o : List Int) : s_laws_markInt64S_3.T := (((x0, ()), (x1, ()), (x5, ()), ()), (), (o, ()))
noncomputable def u_laws_markInt64S_3 {R : Type} (nx : s_laws_markInt64S_3.T → Option R) (hx : exH R x_laws_markInt64S_3) (x0 : List Int) (x1 : Int) (x5 : Int) (o : List Int) : Option R :=
  cond (decide (x5 < (((List.length x0) : Nat) : Int)))
  (Option.bind (idx x0 x5) fun _ =>
   nx (m_laws_markInt64S_3 (List.set x0 (0 + (Int.toNat x5)) x1) (IntKind.wrap IntKind.i64 (x1 + (1 : Int))) (IntKind.wrap IntKind.i64 (x5 + (1 : Int))) (List.set o (0 + (Int.toNat x5)) x1)))
  (hx.1 (d_laws_markInt64S_3_0 x1 o))
noncomputable def t_laws_markInt64S_3 {R : Type} (nx : s_laws_markInt64S_3.T → Option R) (hx : exH R x_laws_markInt64S_3) (z : s_laws_markInt64S_3.T) : Option R := u_laws_markInt64S_3 nx hx z.1.1.1 z.1.2.1.1 z.1.2.2.1.1 z.2.2.1
theorem nat_laws_markInt64S_3 : Natural @t_laws_markInt64S_3 := fun R nx hx z => by
  show u_laws_markInt64S_3 nx hx z.1.1.1 z.1.2.1.1 z.1.2.2.1.1 z.2.2.1 = (u_laws_markInt64S_3 (fun y => some (.inl y)) (hIn x_laws_markInt64S_3 fun x => some (.inr x)) z.1.1.1 z.1.2.1.1 z.1.2.2.1.1 z.2.2.1).bind (goOn nx hx)
  unfold u_laws_markInt64S_3
  exact nat_cond (nat_bind fun _ => rfl) (rfl)
noncomputable def w_laws_markInt64S_3 : s_laws_markInt64S_3.T → Option (exT x_laws_markInt64S_3) := wOf @t_laws_markInt64S_3
theorem wq_laws_markInt64S_3 (x0 : List Int) (x1 : Int) (x5 : Int) (o : List Int) : w_laws_markInt64S_3 (m_laws_markInt64S_3 x0 x1 x5 o) = u_laws_markInt64S_3 w_laws_markInt64S_3 (hIn x_laws_markInt64S_3 some) x0 x1 x5 o := wOf_eq nat_laws_markInt64S_3 _
def lh_laws_markInt64S_3 : LoopHint := ⟨[0, 1, 5], [], [1], []⟩
noncomputable def h_laws_markInt64S : Hints Rv := ⟨fun k => match k with | 3 => lh_laws_markInt64S_3 | _ => ⟨[], [], [], []⟩, fun k => match k with | 3 => some (loopX s_laws_markInt64S_3 x_laws_markInt64S_3 w_laws_markInt64S_3) | _ => none⟩
theorem st_laws_markInt64S_3 (n : Nat) (z : s_laws_markInt64S_3.T) (k : Ex → Live → Option Rv) : loopN ⟨19, 19⟩ lh_laws_markInt64S_3 (den (tab C0 T_laws_markInt64S) ⟨19, 19⟩ h_laws_markInt64S 1 (loopOf Try.f43 2)) (n + 1) (s_laws_markInt64S_3.enc z) k =
    t_laws_markInt64S_3 (fun y => loopN ⟨19, 19⟩ lh_laws_markInt64S_3 (den (tab C0 T_laws_markInt64S) ⟨19, 19⟩ h_laws_markInt64S 1 (loopOf Try.f43 2)) n (s_laws_markInt64S_3.enc y) k) (hK k x_laws_markInt64S_3) z := by kernel_rfl
theorem hs_laws_markInt64S : HintsOk (tab C0 T_laws_markInt64S) ⟨19, 19⟩ h_laws_markInt64S 1 (loops (codeOf Try.f43)) := by
  have hl : loops (codeOf Try.f43) = [loopOf Try.f43 2] := by kernel_rfl
  rw [hl]
  exact HintsOk.cons (n := 3) (lh := lh_laws_markInt64S_3) (S := loopX s_laws_markInt64S_3 x_laws_markInt64S_3 w_laws_markInt64S_3) (by kernel_rfl) rfl rfl (loopX_ok nat_laws_markInt64S_3 st_laws_markInt64S_3)
    (HintsOk.nil)
noncomputable def t_laws_markInt64S {R : Type} (kx : Int × (List Int) → Option R) (a0 : List Int) (a1 : Int) : Option R :=
  Option.bind (w_laws_markInt64S_3 (m_laws_markInt64S_3 a0 a1 (0 : Int) a0)) (exC x_laws_markInt64S_3
  (fun e301 =>
   kx ((e301.1.1.1 : Int), (e301.2.2.1 : List Int)), ()))
noncomputable def g_laws_markInt64S (a0 : List Int) (a1 : Int) : Option (Int × (List Int)) := t_laws_markInt64S some a0 a1
theorem nat_laws_markInt64S {R : Type} (kx : Int × (List Int) → Option R) (a0 : List Int) (a1 : Int) : t_laws_markInt64S kx a0 a1 = (g_laws_markInt64S a0 a1).bind kx := by
  unfold g_laws_markInt64S t_laws_markInt64S
  exact nat_exC ⟨fun _ => rfl, trivial⟩
abbrev as_laws_markInt64S : List AX := [.io (.int .i64), .val false (.int .i64)]
abbrev en_laws_markInt64S : Int × (List Int) → AV × List CV := fun b => (.one ⟨false, [(.v (.int .i64 b.1))]⟩, [(.own (.int .i64) b.2)])
noncomputable abbrev k_laws_markInt64S : Contract := .fx as_laws_markInt64S (Int × (List Int)) (fun z => g_laws_markInt64S z.1 z.2.1) en_laws_markInt64S
theorem r_laws_markInt64S (z : argsX as_laws_markInt64S) : runF (tab C0 T_laws_markInt64S) h_laws_markInt64S 1 Try.f43 (lentOf as_laws_markInt64S) (xBoxes as_laws_markInt64S z) (xVals as_laws_markInt64S 0 z) K2 = t_laws_markInt64S (fun b => some (en_laws_markInt64S b)) z.1 z.2.1 := by kernel_rfl
theorem so_laws_markInt64S : Sound C0 43 k_laws_markInt64S :=
  Sound.fx a_laws_markInt64S mixed Try.func43 (by kernel_rfl) (by kernel_rfl) h_laws_markInt64S 1 hs_laws_markInt64S (fun z => (r_laws_markInt64S z).trans (nat_laws_markInt64S _ z.1 z.2.1))

/-! ### F16 laws.markStrip -/
noncomputable def T_laws_markStrip : List (FuncId × Contract) := [(43, k_laws_markInt64S)]
theorem a_laws_markStrip : AllSound C0 T_laws_markStrip := .cons so_laws_markInt64S (.nil)
noncomputable def t_laws_markStrip {R : Type} (kx : Int × (List Int) × (List Int) → Option R) (a0_0 : List Int) (a0_1 : List Int) (a1 : Int) : Option R :=
  cond (decide ((List.length a0_0) = (List.length a0_0)))
  (Option.bind (g_laws_markInt64S a0_0 a1) fun y304 =>
   cond (decide ((List.length a0_0) = (List.length a0_0)))
   (cond (decide ((List.length a0_0) = (List.length a0_0)))
    (cond (decide ((List.length a0_1) = (List.length a0_1)))
     (Option.bind (g_laws_markInt64S a0_1 y304.1) fun y305 =>
      cond (decide ((List.length a0_1) = (List.length a0_1)))
      (cond (decide ((List.length a0_1) = (List.length a0_1)))
       (kx (y305.1, (y304.2, y305.2)))
       (none))
      (none))
     (none))
    (none))
   (none))
  (none)
noncomputable def g_laws_markStrip (a0_0 : List Int) (a0_1 : List Int) (a1 : Int) : Option (Int × (List Int) × (List Int)) := t_laws_markStrip some a0_0 a0_1 a1
theorem nat_laws_markStrip {R : Type} (kx : Int × (List Int) × (List Int) → Option R) (a0_0 : List Int) (a0_1 : List Int) (a1 : Int) : t_laws_markStrip kx a0_0 a0_1 a1 = (g_laws_markStrip a0_0 a0_1 a1).bind kx := by
  unfold g_laws_markStrip t_laws_markStrip
  exact nat_cond (nat_bind fun _ => nat_cond (nat_cond (nat_cond (nat_bind fun _ => nat_cond (nat_cond (rfl) (rfl)) (rfl)) (rfl)) (rfl)) (rfl)) (rfl)
abbrev as_laws_markStrip : List AX := [.ios true [(.int .i64), (.int .i64)], .val false (.int .i64)]
abbrev en_laws_markStrip : Int × (List Int) × (List Int) → AV × List CV := fun b => (.one ⟨false, [(.v (.int .i64 b.1))]⟩, [(.own (.int .i64) b.2.1), (.own (.int .i64) b.2.2)])
noncomputable abbrev k_laws_markStrip : Contract := .fx as_laws_markStrip (Int × (List Int) × (List Int)) (fun z => g_laws_markStrip z.1.1 z.1.2.1 z.2.1) en_laws_markStrip
theorem r_laws_markStrip (z : argsX as_laws_markStrip) : runF (tab C0 T_laws_markStrip) noHints 1 Try.f16 (lentOf as_laws_markStrip) (xBoxes as_laws_markStrip z) (xVals as_laws_markStrip 0 z) K2 = t_laws_markStrip (fun b => some (en_laws_markStrip b)) z.1.1 z.1.2.1 z.2.1 := by kernel_rfl
theorem so_laws_markStrip : Sound C0 16 k_laws_markStrip :=
  Sound.fx a_laws_markStrip mixed Try.func16 (by kernel_rfl) (by kernel_rfl) noHints 1 noHints_ok (fun z => (r_laws_markStrip z).trans (nat_laws_markStrip _ z.1.1 z.1.2.1 z.2.1))

/-! ### F17 laws.markStripStepS -/
noncomputable def T_laws_markStripStepS : List (FuncId × Contract) := []
theorem a_laws_markStripStepS : AllSound C0 T_laws_markStripStepS := .nil
abbrev s_laws_markStripStepS_3 : LS := ⟨[(false, [(.view (.arg 0) true 0 (.pair (.int .i64) (.int .i64)))]), (false, [(.int .i64)]), (false, [(.int .i64)])], [], [(.own (.pair (.int .i64) (.int .i64)))]⟩
abbrev e_laws_markStripStepS_3_0 : LS := ⟨[(false, [(.int .i64)])], [], [(.own (.pair (.int .i64) (.int .i64)))]⟩
abbrev d_laws_markStripStepS_3_0 (v0 : Int) (v1 : List (Int × Int)) : e_laws_markStripStepS_3_0.T := (((v0, ()), ()), (), (v1, ()))
abbrev x_laws_markStripStepS_3 : List (Ex × LS) := [(.exit 0, e_laws_markStripStepS_3_0)]
abbrev m_laws_markStripStepS_3 (x0 : List (Int × Int)) (x1 : Int) (x5 : Int) (o : List (Int × Int)) : s_laws_markStripStepS_3.T := (((x0, ()), (x1, ()), (x5, ()), ()), (), (o, ()))
noncomputable def u_laws_markStripStepS_3 {R : Type} (nx : s_laws_markStripStepS_3.T → Option R) (hx : exH R x_laws_markStripStepS_3) (x0 : List (Int × Int)) (x1 : Int) (x5 : Int) (o : List (Int × Int)) : Option R :=
  cond (decide (x5 < (((List.length x0) : Nat) : Int)))
  (Option.bind (idx x0 x5) fun y315 =>
   Option.bind (idx (List.set x0 (0 + (Int.toNat x5)) (x1, y315.2)) x5) fun y316 =>
   nx (m_laws_markStripStepS_3 (List.set (List.set x0 (0 + (Int.toNat x5)) (x1, y315.2)) (0 + (Int.toNat x5)) (y316.1, (IntKind.wrap IntKind.i64 (x1 + (1 : Int))))) (IntKind.wrap IntKind.i64 ((IntKind.wrap IntKind.i64 (x1 + (1 : Int))) + (1 : Int))) (IntKind.wrap IntKind.i64 (x5 + (1 : Int))) (List.set (List.set o (0 + (Int.toNat x5)) (x1, y315.2)) (0 + (Int.toNat x5)) (y316.1, (IntKind.wrap IntKind.i64 (x1 + (1 : Int)))))))
  (hx.1 (d_laws_markStripStepS_3_0 x1 o))
noncomputable def t_laws_markStripStepS_3 {R : Type} (nx : s_laws_markStripStepS_3.T → Option R) (hx : exH R x_laws_markStripStepS_3) (z : s_laws_markStripStepS_3.T) : Option R := u_laws_markStripStepS_3 nx hx z.1.1.1 z.1.2.1.1 z.1.2.2.1.1 z.2.2.1
theorem nat_laws_markStripStepS_3 : Natural @t_laws_markStripStepS_3 := fun R nx hx z => by
  show u_laws_markStripStepS_3 nx hx z.1.1.1 z.1.2.1.1 z.1.2.2.1.1 z.2.2.1 = (u_laws_markStripStepS_3 (fun y => some (.inl y)) (hIn x_laws_markStripStepS_3 fun x => some (.inr x)) z.1.1.1 z.1.2.1.1 z.1.2.2.1.1 z.2.2.1).bind (goOn nx hx)
  unfold u_laws_markStripStepS_3
  exact nat_cond (nat_bind fun _ => nat_bind fun _ => rfl) (rfl)
noncomputable def w_laws_markStripStepS_3 : s_laws_markStripStepS_3.T → Option (exT x_laws_markStripStepS_3) := wOf @t_laws_markStripStepS_3
theorem wq_laws_markStripStepS_3 (x0 : List (Int × Int)) (x1 : Int) (x5 : Int) (o : List (Int × Int)) : w_laws_markStripStepS_3 (m_laws_markStripStepS_3 x0 x1 x5 o) = u_laws_markStripStepS_3 w_laws_markStripStepS_3 (hIn x_laws_markStripStepS_3 some) x0 x1 x5 o := wOf_eq nat_laws_markStripStepS_3 _
def lh_laws_markStripStepS_3 : LoopHint := ⟨[0, 1, 5], [], [1], []⟩
noncomputable def h_laws_markStripStepS : Hints Rv := ⟨fun k => match k with | 3 => lh_laws_markStripStepS_3 | _ => ⟨[], [], [], []⟩, fun k => match k with | 3 => some (loopX s_laws_markStripStepS_3 x_laws_markStripStepS_3 w_laws_markStripStepS_3) | _ => none⟩
theorem st_laws_markStripStepS_3 (n : Nat) (z : s_laws_markStripStepS_3.T) (k : Ex → Live → Option Rv) : loopN ⟨27, 27⟩ lh_laws_markStripStepS_3 (den (tab C0 T_laws_markStripStepS) ⟨27, 27⟩ h_laws_markStripStepS 1 (loopOf Try.f17 2)) (n + 1) (s_laws_markStripStepS_3.enc z) k =
    t_laws_markStripStepS_3 (fun y => loopN ⟨27, 27⟩ lh_laws_markStripStepS_3 (den (tab C0 T_laws_markStripStepS) ⟨27, 27⟩ h_laws_markStripStepS 1 (loopOf Try.f17 2)) n (s_laws_markStripStepS_3.enc y) k) (hK k x_laws_markStripStepS_3) z := by kernel_rfl
theorem hs_laws_markStripStepS : HintsOk (tab C0 T_laws_markStripStepS) ⟨27, 27⟩ h_laws_markStripStepS 1 (loops (codeOf Try.f17)) := by
  have hl : loops (codeOf Try.f17) = [loopOf Try.f17 2] := by kernel_rfl
  rw [hl]
  exact HintsOk.cons (n := 3) (lh := lh_laws_markStripStepS_3) (S := loopX s_laws_markStripStepS_3 x_laws_markStripStepS_3 w_laws_markStripStepS_3) (by kernel_rfl) rfl rfl (loopX_ok nat_laws_markStripStepS_3 st_laws_markStripStepS_3)
    (HintsOk.nil)
noncomputable def t_laws_markStripStepS {R : Type} (kx : Int × (List (Int × Int)) → Option R) (a0 : List (Int × Int)) (a1 : Int) : Option R :=
  Option.bind (w_laws_markStripStepS_3 (m_laws_markStripStepS_3 a0 a1 (0 : Int) a0)) (exC x_laws_markStripStepS_3
  (fun e317 =>
   kx ((e317.1.1.1 : Int), (e317.2.2.1 : List (Int × Int))), ()))
noncomputable def g_laws_markStripStepS (a0 : List (Int × Int)) (a1 : Int) : Option (Int × (List (Int × Int))) := t_laws_markStripStepS some a0 a1
theorem nat_laws_markStripStepS {R : Type} (kx : Int × (List (Int × Int)) → Option R) (a0 : List (Int × Int)) (a1 : Int) : t_laws_markStripStepS kx a0 a1 = (g_laws_markStripStepS a0 a1).bind kx := by
  unfold g_laws_markStripStepS t_laws_markStripStepS
  exact nat_exC ⟨fun _ => rfl, trivial⟩
abbrev as_laws_markStripStepS : List AX := [.io (.pair (.int .i64) (.int .i64)), .val false (.int .i64)]
abbrev en_laws_markStripStepS : Int × (List (Int × Int)) → AV × List CV := fun b => (.one ⟨false, [(.v (.int .i64 b.1))]⟩, [(.own (.pair (.int .i64) (.int .i64)) b.2)])
noncomputable abbrev k_laws_markStripStepS : Contract := .fx as_laws_markStripStepS (Int × (List (Int × Int))) (fun z => g_laws_markStripStepS z.1 z.2.1) en_laws_markStripStepS
theorem r_laws_markStripStepS (z : argsX as_laws_markStripStepS) : runF (tab C0 T_laws_markStripStepS) h_laws_markStripStepS 1 Try.f17 (lentOf as_laws_markStripStepS) (xBoxes as_laws_markStripStepS z) (xVals as_laws_markStripStepS 0 z) K2 = t_laws_markStripStepS (fun b => some (en_laws_markStripStepS b)) z.1 z.2.1 := by kernel_rfl
theorem so_laws_markStripStepS : Sound C0 17 k_laws_markStripStepS :=
  Sound.fx a_laws_markStripStepS mixed Try.func17 (by kernel_rfl) (by kernel_rfl) h_laws_markStripStepS 1 hs_laws_markStripStepS (fun z => (r_laws_markStripStepS z).trans (nat_laws_markStripStepS _ z.1 z.2.1))

/-! ### F18 laws.heldStripStepS -/
noncomputable def T_laws_heldStripStepS : List (FuncId × Contract) := []
theorem a_laws_heldStripStepS : AllSound C0 T_laws_heldStripStepS := .nil
abbrev s_laws_heldStripStepS_3 : LS := ⟨[(false, [(.sl (.pair (.int .i64) (.int .i64)))]), (false, [(.int .i64)]), (false, [(.int .i64)])], [], []⟩
abbrev e_laws_heldStripStepS_3_0 : LS := ⟨[(false, [(.int .i64)]), (false, [(.int .i64)])], [], []⟩
abbrev d_laws_heldStripStepS_3_0 (v0 : Int) (v1 : Int) : e_laws_heldStripStepS_3_0.T := (((v0, ()), (v1, ()), ()), (), ())
abbrev e_laws_heldStripStepS_3_1 : LS := ⟨[(false, [(.int .i64)]), (false, [.undef])], [], []⟩
abbrev d_laws_heldStripStepS_3_1 (v0 : Int) : e_laws_heldStripStepS_3_1.T := (((v0, ()), ((), ()), ()), (), ())
abbrev x_laws_heldStripStepS_3 : List (Ex × LS) := [(.ret, e_laws_heldStripStepS_3_0), (.exit 0, e_laws_heldStripStepS_3_1)]
abbrev m_laws_heldStripStepS_3 (x0 : List (Int × Int)) (x1 : Int) (x5 : Int) : s_laws_heldStripStepS_3.T := (((x0, ()), (x1, ()), (x5, ()), ()), (), ())
noncomputable def u_laws_heldStripStepS_3 {R : Type} (nx : s_laws_heldStripStepS_3.T → Option R) (hx : exH R x_laws_heldStripStepS_3) (x0 : List (Int × Int)) (x1 : Int) (x5 : Int) : Option R :=
  cond (decide (x5 < (((List.length x0) : Nat) : Int)))
  (Option.bind (idx x0 x5) fun y327 =>
   cond (y327.1 != x1)
   (hx.1 (d_laws_heldStripStepS_3_0 x1 (-(1 : Int))))
   (Option.bind (idx x0 x5) fun y328 =>
    cond (y328.2 != (IntKind.wrap IntKind.i64 (x1 + (1 : Int))))
    (hx.1 (d_laws_heldStripStepS_3_0 (IntKind.wrap IntKind.i64 (x1 + (1 : Int))) (-(1 : Int))))
    (nx (m_laws_heldStripStepS_3 x0 (IntKind.wrap IntKind.i64 ((IntKind.wrap IntKind.i64 (x1 + (1 : Int))) + (1 : Int))) (IntKind.wrap IntKind.i64 (x5 + (1 : Int)))))))
  (hx.2.1 (d_laws_heldStripStepS_3_1 x1))
noncomputable def t_laws_heldStripStepS_3 {R : Type} (nx : s_laws_heldStripStepS_3.T → Option R) (hx : exH R x_laws_heldStripStepS_3) (z : s_laws_heldStripStepS_3.T) : Option R := u_laws_heldStripStepS_3 nx hx z.1.1.1 z.1.2.1.1 z.1.2.2.1.1
theorem nat_laws_heldStripStepS_3 : Natural @t_laws_heldStripStepS_3 := fun R nx hx z => by
  show u_laws_heldStripStepS_3 nx hx z.1.1.1 z.1.2.1.1 z.1.2.2.1.1 = (u_laws_heldStripStepS_3 (fun y => some (.inl y)) (hIn x_laws_heldStripStepS_3 fun x => some (.inr x)) z.1.1.1 z.1.2.1.1 z.1.2.2.1.1).bind (goOn nx hx)
  unfold u_laws_heldStripStepS_3
  exact nat_cond (nat_bind fun _ => nat_cond (rfl) (nat_bind fun _ => nat_cond (rfl) (rfl))) (rfl)
noncomputable def w_laws_heldStripStepS_3 : s_laws_heldStripStepS_3.T → Option (exT x_laws_heldStripStepS_3) := wOf @t_laws_heldStripStepS_3
theorem wq_laws_heldStripStepS_3 (x0 : List (Int × Int)) (x1 : Int) (x5 : Int) : w_laws_heldStripStepS_3 (m_laws_heldStripStepS_3 x0 x1 x5) = u_laws_heldStripStepS_3 w_laws_heldStripStepS_3 (hIn x_laws_heldStripStepS_3 some) x0 x1 x5 := wOf_eq nat_laws_heldStripStepS_3 _
def lh_laws_heldStripStepS_3 : LoopHint := ⟨[0, 1, 5], [], [1, 4], []⟩
noncomputable def h_laws_heldStripStepS : Hints Rv := ⟨fun k => match k with | 3 => lh_laws_heldStripStepS_3 | _ => ⟨[], [], [], []⟩, fun k => match k with | 3 => some (loopX s_laws_heldStripStepS_3 x_laws_heldStripStepS_3 w_laws_heldStripStepS_3) | _ => none⟩
theorem st_laws_heldStripStepS_3 (n : Nat) (z : s_laws_heldStripStepS_3.T) (k : Ex → Live → Option Rv) : loopN ⟨31, 31⟩ lh_laws_heldStripStepS_3 (den (tab C0 T_laws_heldStripStepS) ⟨31, 31⟩ h_laws_heldStripStepS 1 (loopOf Try.f18 2)) (n + 1) (s_laws_heldStripStepS_3.enc z) k =
    t_laws_heldStripStepS_3 (fun y => loopN ⟨31, 31⟩ lh_laws_heldStripStepS_3 (den (tab C0 T_laws_heldStripStepS) ⟨31, 31⟩ h_laws_heldStripStepS 1 (loopOf Try.f18 2)) n (s_laws_heldStripStepS_3.enc y) k) (hK k x_laws_heldStripStepS_3) z := by kernel_rfl
theorem hs_laws_heldStripStepS : HintsOk (tab C0 T_laws_heldStripStepS) ⟨31, 31⟩ h_laws_heldStripStepS 1 (loops (codeOf Try.f18)) := by
  have hl : loops (codeOf Try.f18) = [loopOf Try.f18 2] := by kernel_rfl
  rw [hl]
  exact HintsOk.cons (n := 3) (lh := lh_laws_heldStripStepS_3) (S := loopX s_laws_heldStripStepS_3 x_laws_heldStripStepS_3 w_laws_heldStripStepS_3) (by kernel_rfl) rfl rfl (loopX_ok nat_laws_heldStripStepS_3 st_laws_heldStripStepS_3)
    (HintsOk.nil)
noncomputable def t_laws_heldStripStepS {R : Type} (kx : Int → Option R) (a0 : (List (Int × Int))) (a1 : Int) : Option R :=
  Option.bind (w_laws_heldStripStepS_3 (m_laws_heldStripStepS_3 a0 a1 (0 : Int))) (exC x_laws_heldStripStepS_3
  (fun e329 =>
   kx (e329.1.2.1.1 : Int), fun e332 =>
   kx (e332.1.1.1 : Int), ()))
noncomputable def g_laws_heldStripStepS (a0 : (List (Int × Int))) (a1 : Int) : Option (Int) := t_laws_heldStripStepS some a0 a1
theorem nat_laws_heldStripStepS {R : Type} (kx : Int → Option R) (a0 : (List (Int × Int))) (a1 : Int) : t_laws_heldStripStepS kx a0 a1 = (g_laws_heldStripStepS a0 a1).bind kx := by
  unfold g_laws_heldStripStepS t_laws_heldStripStepS
  exact nat_exC ⟨fun _ => rfl, fun _ => rfl, trivial⟩
abbrev as_laws_heldStripStepS : List AX := [.val false (.slice (.pair (.int .i64) (.int .i64))), .val false (.int .i64)]
abbrev en_laws_heldStripStepS : Int → AV × List CV := fun b => (.one ⟨false, [(.v (.int .i64 b))]⟩, [])
noncomputable abbrev k_laws_heldStripStepS : Contract := .fx as_laws_heldStripStepS (Int) (fun z => g_laws_heldStripStepS z.1 z.2.1) en_laws_heldStripStepS
theorem r_laws_heldStripStepS (z : argsX as_laws_heldStripStepS) : runF (tab C0 T_laws_heldStripStepS) h_laws_heldStripStepS 1 Try.f18 (lentOf as_laws_heldStripStepS) (xBoxes as_laws_heldStripStepS z) (xVals as_laws_heldStripStepS 0 z) K2 = t_laws_heldStripStepS (fun b => some (en_laws_heldStripStepS b)) z.1 z.2.1 := by kernel_rfl
theorem so_laws_heldStripStepS : Sound C0 18 k_laws_heldStripStepS :=
  Sound.fx a_laws_heldStripStepS mixed Try.func18 (by kernel_rfl) (by kernel_rfl) h_laws_heldStripStepS 1 hs_laws_heldStripStepS (fun z => (r_laws_heldStripStepS z).trans (nat_laws_heldStripStepS _ z.1 z.2.1))

/-! ### F48 laws.heldInt64S -/
noncomputable def T_laws_heldInt64S : List (FuncId × Contract) := []
theorem a_laws_heldInt64S : AllSound C0 T_laws_heldInt64S := .nil
abbrev s_laws_heldInt64S_3 : LS := ⟨[(false, [(.sl (.int .i64))]), (false, [(.int .i64)]), (false, [(.int .i64)])], [], []⟩
abbrev e_laws_heldInt64S_3_0 : LS := ⟨[(false, [(.int .i64)]), (false, [(.int .i64)])], [], []⟩
abbrev d_laws_heldInt64S_3_0 (v0 : Int) (v1 : Int) : e_laws_heldInt64S_3_0.T := (((v0, ()), (v1, ()), ()), (), ())
abbrev e_laws_heldInt64S_3_1 : LS := ⟨[(false, [(.int .i64)]), (false, [.undef])], [], []⟩
abbrev d_laws_heldInt64S_3_1 (v0 : Int) : e_laws_heldInt64S_3_1.T := (((v0, ()), ((), ()), ()), (), ())
abbrev x_laws_heldInt64S_3 : List (Ex × LS) := [(.ret, e_laws_heldInt64S_3_0), (.exit 0, e_laws_heldInt64S_3_1)]
abbrev m_laws_heldInt64S_3 (x0 : List Int) (x1 : Int) (x5 : Int) : s_laws_heldInt64S_3.T := (((x0, ()), (x1, ()), (x5, ()), ()), (), ())
noncomputable def u_laws_heldInt64S_3 {R : Type} (nx : s_laws_heldInt64S_3.T → Option R) (hx : exH R x_laws_heldInt64S_3) (x0 : List Int) (x1 : Int) (x5 : Int) : Option R :=
  cond (decide (x5 < (((List.length x0) : Nat) : Int)))
  (Option.bind (idx x0 x5) fun y342 =>
   cond (y342 != x1)
   (hx.1 (d_laws_heldInt64S_3_0 x1 (-(1 : Int))))
   (nx (m_laws_heldInt64S_3 x0 (IntKind.wrap IntKind.i64 (x1 + (1 : Int))) (IntKind.wrap IntKind.i64 (x5 + (1 : Int))))))
  (hx.2.1 (d_laws_heldInt64S_3_1 x1))
noncomputable def t_laws_heldInt64S_3 {R : Type} (nx : s_laws_heldInt64S_3.T → Option R) (hx : exH R x_laws_heldInt64S_3) (z : s_laws_heldInt64S_3.T) : Option R := u_laws_heldInt64S_3 nx hx z.1.1.1 z.1.2.1.1 z.1.2.2.1.1
theorem nat_laws_heldInt64S_3 : Natural @t_laws_heldInt64S_3 := fun R nx hx z => by
  show u_laws_heldInt64S_3 nx hx z.1.1.1 z.1.2.1.1 z.1.2.2.1.1 = (u_laws_heldInt64S_3 (fun y => some (.inl y)) (hIn x_laws_heldInt64S_3 fun x => some (.inr x)) z.1.1.1 z.1.2.1.1 z.1.2.2.1.1).bind (goOn nx hx)
  unfold u_laws_heldInt64S_3
  exact nat_cond (nat_bind fun _ => nat_cond (rfl) (rfl)) (rfl)
noncomputable def w_laws_heldInt64S_3 : s_laws_heldInt64S_3.T → Option (exT x_laws_heldInt64S_3) := wOf @t_laws_heldInt64S_3
theorem wq_laws_heldInt64S_3 (x0 : List Int) (x1 : Int) (x5 : Int) : w_laws_heldInt64S_3 (m_laws_heldInt64S_3 x0 x1 x5) = u_laws_heldInt64S_3 w_laws_heldInt64S_3 (hIn x_laws_heldInt64S_3 some) x0 x1 x5 := wOf_eq nat_laws_heldInt64S_3 _
def lh_laws_heldInt64S_3 : LoopHint := ⟨[0, 1, 5], [], [1, 4], []⟩
noncomputable def h_laws_heldInt64S : Hints Rv := ⟨fun k => match k with | 3 => lh_laws_heldInt64S_3 | _ => ⟨[], [], [], []⟩, fun k => match k with | 3 => some (loopX s_laws_heldInt64S_3 x_laws_heldInt64S_3 w_laws_heldInt64S_3) | _ => none⟩
theorem st_laws_heldInt64S_3 (n : Nat) (z : s_laws_heldInt64S_3.T) (k : Ex → Live → Option Rv) : loopN ⟨21, 21⟩ lh_laws_heldInt64S_3 (den (tab C0 T_laws_heldInt64S) ⟨21, 21⟩ h_laws_heldInt64S 1 (loopOf Try.f48 2)) (n + 1) (s_laws_heldInt64S_3.enc z) k =
    t_laws_heldInt64S_3 (fun y => loopN ⟨21, 21⟩ lh_laws_heldInt64S_3 (den (tab C0 T_laws_heldInt64S) ⟨21, 21⟩ h_laws_heldInt64S 1 (loopOf Try.f48 2)) n (s_laws_heldInt64S_3.enc y) k) (hK k x_laws_heldInt64S_3) z := by kernel_rfl
theorem hs_laws_heldInt64S : HintsOk (tab C0 T_laws_heldInt64S) ⟨21, 21⟩ h_laws_heldInt64S 1 (loops (codeOf Try.f48)) := by
  have hl : loops (codeOf Try.f48) = [loopOf Try.f48 2] := by kernel_rfl
  rw [hl]
  exact HintsOk.cons (n := 3) (lh := lh_laws_heldInt64S_3) (S := loopX s_laws_heldInt64S_3 x_laws_heldInt64S_3 w_laws_heldInt64S_3) (by kernel_rfl) rfl rfl (loopX_ok nat_laws_heldInt64S_3 st_laws_heldInt64S_3)
    (HintsOk.nil)
noncomputable def t_laws_heldInt64S {R : Type} (kx : Int → Option R) (a0 : (List Int)) (a1 : Int) : Option R :=
  Option.bind (w_laws_heldInt64S_3 (m_laws_heldInt64S_3 a0 a1 (0 : Int))) (exC x_laws_heldInt64S_3
  (fun e343 =>
   kx (e343.1.2.1.1 : Int), fun e346 =>
   kx (e346.1.1.1 : Int), ()))
noncomputable def g_laws_heldInt64S (a0 : (List Int)) (a1 : Int) : Option (Int) := t_laws_heldInt64S some a0 a1
theorem nat_laws_heldInt64S {R : Type} (kx : Int → Option R) (a0 : (List Int)) (a1 : Int) : t_laws_heldInt64S kx a0 a1 = (g_laws_heldInt64S a0 a1).bind kx := by
  unfold g_laws_heldInt64S t_laws_heldInt64S
  exact nat_exC ⟨fun _ => rfl, fun _ => rfl, trivial⟩
abbrev as_laws_heldInt64S : List AX := [.val false (.slice (.int .i64)), .val false (.int .i64)]
abbrev en_laws_heldInt64S : Int → AV × List CV := fun b => (.one ⟨false, [(.v (.int .i64 b))]⟩, [])
noncomputable abbrev k_laws_heldInt64S : Contract := .fx as_laws_heldInt64S (Int) (fun z => g_laws_heldInt64S z.1 z.2.1) en_laws_heldInt64S
theorem r_laws_heldInt64S (z : argsX as_laws_heldInt64S) : runF (tab C0 T_laws_heldInt64S) h_laws_heldInt64S 1 Try.f48 (lentOf as_laws_heldInt64S) (xBoxes as_laws_heldInt64S z) (xVals as_laws_heldInt64S 0 z) K2 = t_laws_heldInt64S (fun b => some (en_laws_heldInt64S b)) z.1 z.2.1 := by kernel_rfl
theorem so_laws_heldInt64S : Sound C0 48 k_laws_heldInt64S :=
  Sound.fx a_laws_heldInt64S mixed Try.func48 (by kernel_rfl) (by kernel_rfl) h_laws_heldInt64S 1 hs_laws_heldInt64S (fun z => (r_laws_heldInt64S z).trans (nat_laws_heldInt64S _ z.1 z.2.1))

/-! ### F22 laws.heldStrip -/
noncomputable def T_laws_heldStrip : List (FuncId × Contract) := [(48, k_laws_heldInt64S)]
theorem a_laws_heldStrip : AllSound C0 T_laws_heldStrip := .cons so_laws_heldInt64S (.nil)
noncomputable def t_laws_heldStrip {R : Type} (kx : Int → Option R) (a0 : ((List Int) × (List Int))) (a1 : Int) : Option R :=
  Option.bind (g_laws_heldInt64S a0.1 a1) fun y348 =>
  cond (decide (y348 < (0 : Int)))
  (kx (-(1 : Int)))
  (Option.bind (g_laws_heldInt64S a0.2 y348) fun y349 =>
   cond (decide (y349 < (0 : Int)))
   (kx (-(1 : Int)))
   (kx y349))
noncomputable def g_laws_heldStrip (a0 : ((List Int) × (List Int))) (a1 : Int) : Option (Int) := t_laws_heldStrip some a0 a1
theorem nat_laws_heldStrip {R : Type} (kx : Int → Option R) (a0 : ((List Int) × (List Int))) (a1 : Int) : t_laws_heldStrip kx a0 a1 = (g_laws_heldStrip a0 a1).bind kx := by
  unfold g_laws_heldStrip t_laws_heldStrip
  exact nat_bind fun _ => nat_cond (rfl) (nat_bind fun _ => nat_cond (rfl) (rfl))
abbrev as_laws_heldStrip : List AX := [.val true (.pair (.slice (.int .i64)) (.slice (.int .i64))), .val false (.int .i64)]
abbrev en_laws_heldStrip : Int → AV × List CV := fun b => (.one ⟨false, [(.v (.int .i64 b))]⟩, [])
noncomputable abbrev k_laws_heldStrip : Contract := .fx as_laws_heldStrip (Int) (fun z => g_laws_heldStrip z.1 z.2.1) en_laws_heldStrip
theorem r_laws_heldStrip (z : argsX as_laws_heldStrip) : runF (tab C0 T_laws_heldStrip) noHints 1 Try.f22 (lentOf as_laws_heldStrip) (xBoxes as_laws_heldStrip z) (xVals as_laws_heldStrip 0 z) K2 = t_laws_heldStrip (fun b => some (en_laws_heldStrip b)) z.1 z.2.1 := by kernel_rfl
theorem so_laws_heldStrip : Sound C0 22 k_laws_heldStrip :=
  Sound.fx a_laws_heldStrip mixed Try.func22 (by kernel_rfl) (by kernel_rfl) noHints 1 noHints_ok (fun z => (r_laws_heldStrip z).trans (nat_laws_heldStrip _ z.1 z.2.1))

/-! ### F8 laws.FnExactReduceStrip -/
noncomputable def T_laws_FnExactReduceStrip : List (FuncId × Contract) := [(10, k_laws_szStrip), (12, k_laws_toStrip), (33, k_spec_ReduceStrip), (34, k_impl_ReduceStrip), (14, k_laws_eqStripStepS), (15, k_laws_eqStrip), (16, k_laws_markStrip), (17, k_laws_markStripStepS), (18, k_laws_heldStripStepS), (22, k_laws_heldStrip)]
theorem a_laws_FnExactReduceStrip : AllSound C0 T_laws_FnExactReduceStrip := .cons so_laws_szStrip (.cons so_laws_toStrip (.cons so_spec_ReduceStrip (.cons so_impl_ReduceStrip (.cons so_laws_eqStripStepS (.cons so_laws_eqStrip (.cons so_laws_markStrip (.cons so_laws_markStripStepS (.cons so_laws_heldStripStepS (.cons so_laws_heldStrip (.nil))))))))))
noncomputable def t_laws_FnExactReduceStrip {R : Type} (kx : Bool → Option R) (a0 : ((List Int) × (List Int))) : Option R :=
  Option.bind (g_laws_szStrip a0 (1048576 : Int)) fun y7 =>
  cond (decide (y7 < (0 : Int)))
  (kx Bool.true)
  (Option.bind (g_laws_toStrip a0) fun y19 =>
   Option.bind (g_spec_ReduceStrip y19) fun y113 =>
   Option.bind (g_laws_toStrip a0) fun y114 =>
   Option.bind (g_impl_ReduceStrip y114) fun y259 =>
   Option.bind (g_laws_eqStripStepS y259.1 y113.1) fun y273 =>
   cond (!y273)
   (kx Bool.false)
   (Option.bind (g_laws_eqStrip y259.2 y113.2) fun y288 =>
    cond (!y288)
    (kx Bool.false)
    (Option.bind (g_laws_toStrip a0) fun y289 =>
     Option.bind (g_laws_eqStrip y114 y289) fun y290 =>
     cond (!y290)
     (kx Bool.false)
     (cond (decide ((List.length y114.1) = (List.length y114.1)))
      (cond (decide ((List.length y114.2) = (List.length y114.2)))
       (Option.bind (g_laws_markStrip y114.1 y114.2 (1 : Int)) fun y306 =>
        cond (decide (y306.1 < (0 : Int)))
        (kx Bool.false)
        (Option.bind (g_laws_eqStripStepS y259.1 y113.1) fun y307 =>
         cond (!y307)
         (kx Bool.false)
         (Option.bind (g_laws_eqStrip y259.2 y113.2) fun y308 =>
          cond (!y308)
          (kx Bool.false)
          (cond (decide ((List.length y259.1) = (List.length y259.1)))
           (Option.bind (g_laws_markStripStepS y259.1 (1 : Int)) fun y320 =>
            cond (decide ((List.length y259.2.1) = (List.length y259.2.1)))
            (cond (decide ((List.length y259.2.2) = (List.length y259.2.2)))
             (Option.bind (g_laws_markStrip y259.2.1 y259.2.2 y320.1) fun y321 =>
              Option.bind (g_laws_heldStripStepS y320.2 (1 : Int)) fun y334 =>
              cond (decide (y334 < (0 : Int)))
              (kx Bool.false)
              (Option.bind (g_laws_heldStrip y321.2 y334) fun y350 =>
               cond (decide (y350 < (0 : Int)))
               (kx Bool.false)
               (cond (y350 != y321.1)
                (kx Bool.false)
                (Option.bind (g_laws_toStrip a0) fun y351 =>
                 Option.bind (g_impl_ReduceStrip y351) fun y352 =>
                 Option.bind (g_laws_eqStripStepS y352.1 y113.1) fun y353 =>
                 cond (!y353)
                 (kx Bool.false)
                 (Option.bind (g_laws_eqStrip y352.2 y113.2) fun y354 =>
                  cond (!y354)
                  (kx Bool.false)
                  (Option.bind (g_laws_heldStripStepS y320.2 (1 : Int)) fun y355 =>
                   cond (decide (y355 < (0 : Int)))
                   (kx Bool.false)
                   (Option.bind (g_laws_heldStrip y321.2 y355) fun y356 =>
                    cond (decide (y356 < (0 : Int)))
                    (kx Bool.false)
                    (cond (y356 != y321.1)
                     (kx Bool.false)
                     (kx Bool.true)))))))))
             (none))
            (none))
           (none)))))
       (none))
      (none)))))
noncomputable def g_laws_FnExactReduceStrip (a0 : ((List Int) × (List Int))) : Option (Bool) := t_laws_FnExactReduceStrip some a0
theorem nat_laws_FnExactReduceStrip {R : Type} (kx : Bool → Option R) (a0 : ((List Int) × (List Int))) : t_laws_FnExactReduceStrip kx a0 = (g_laws_FnExactReduceStrip a0).bind kx := by
  unfold g_laws_FnExactReduceStrip t_laws_FnExactReduceStrip
  exact nat_bind fun _ => nat_cond (rfl) (nat_bind fun _ => nat_bind fun _ => nat_bind fun _ => nat_bind fun _ => nat_bind fun _ => nat_cond (rfl) (nat_bind fun _ => nat_cond (rfl) (nat_bind fun _ => nat_bind fun _ => nat_cond (rfl) (nat_cond (nat_cond (nat_bind fun _ => nat_cond (rfl) (nat_bind fun _ => nat_cond (rfl) (nat_bind fun _ => nat_cond (rfl) (nat_cond (nat_bind fun _ => nat_cond (nat_cond (nat_bind fun _ => nat_bind fun _ => nat_cond (rfl) (nat_bind fun _ => nat_cond (rfl) (nat_cond (rfl) (nat_bind fun _ => nat_bind fun _ => nat_bind fun _ => nat_cond (rfl) (nat_bind fun _ => nat_cond (rfl) (nat_bind fun _ => nat_cond (rfl) (nat_bind fun _ => nat_cond (rfl) (nat_cond (rfl) (rfl))))))))) (rfl)) (rfl)) (rfl))))) (rfl)) (rfl)))))
abbrev as_laws_FnExactReduceStrip : List AX := [.val true (.pair (.slice (.int .i64)) (.slice (.int .i64)))]
abbrev en_laws_FnExactReduceStrip : Bool → AV × List CV := fun b => (.one ⟨false, [(.v (.bool b))]⟩, [])
noncomputable abbrev k_laws_FnExactReduceStrip : Contract := .fx as_laws_FnExactReduceStrip (Bool) (fun z => g_laws_FnExactReduceStrip z.1) en_laws_FnExactReduceStrip
theorem r_laws_FnExactReduceStrip (z : argsX as_laws_FnExactReduceStrip) : runF (tab C0 T_laws_FnExactReduceStrip) noHints 1 Try.f8 (lentOf as_laws_FnExactReduceStrip) (xBoxes as_laws_FnExactReduceStrip z) (xVals as_laws_FnExactReduceStrip 0 z) K2 = t_laws_FnExactReduceStrip (fun b => some (en_laws_FnExactReduceStrip b)) z.1 := by kernel_rfl
theorem so_laws_FnExactReduceStrip : Sound C0 8 k_laws_FnExactReduceStrip :=
  Sound.fx a_laws_FnExactReduceStrip mixed Try.func8 (by kernel_rfl) (by kernel_rfl) noHints 1 noHints_ok (fun z => (r_laws_FnExactReduceStrip z).trans (nat_laws_FnExactReduceStrip _ z.1))

end Go.Proofs.Ytpabholjoblkbaa
