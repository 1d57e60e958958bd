/- What the functions that CheckLayers reaches compute, printed. No conditions. -/
import Derived.Test.YtpabholjoblkbaaCLS
import Derived.Test.YtpabholjoblkbaaPK
namespace Go.Proofs.Ytpabholjoblkbaa
open Go.Vai
set_option maxRecDepth 100000

/-! ### F37 laws.szInt64S -/
noncomputable def T_laws_szInt64S : List (FuncId × Contract) := []
theorem a_laws_szInt64S : AllSound C0 T_laws_szInt64S := .nil
noncomputable def t_laws_szInt64S {R : Type} (kx : Int → Option R) (a0 : (List Int)) (a1 : Int) : Option R :=
  cond (decide ((IntKind.wrap IntKind.i64 (a1 - (((List.length a0) : Nat) : Int))) < (0 : Int)))
  (kx (-(1 : Int)))
  (kx (IntKind.wrap IntKind.i64 (a1 - (((List.length a0) : Nat) : Int))))
noncomputable def g_laws_szInt64S (a0 : (List Int)) (a1 : Int) : Option (Int) := t_laws_szInt64S some a0 a1
theorem nat_laws_szInt64S {R : Type} (kx : Int → Option R) (a0 : (List Int)) (a1 : Int) : t_laws_szInt64S kx a0 a1 = (g_laws_szInt64S a0 a1).bind kx := by
  unfold g_laws_szInt64S t_laws_szInt64S
  exact nat_cond (rfl) (rfl)
abbrev as_laws_szInt64S : List AX := [.val false (.slice (.int .i64)), .val false (.int .i64)]
abbrev en_laws_szInt64S : Int → AV × List CV := fun b => (.one ⟨false, [(.v (.int .i64 b))]⟩, [])
noncomputable abbrev k_laws_szInt64S : Contract := .fx as_laws_szInt64S (Int) (fun z => g_laws_szInt64S z.1 z.2.1) en_laws_szInt64S
theorem r_laws_szInt64S (z : argsX as_laws_szInt64S) : runF (tab C0 T_laws_szInt64S) noHints 1 Try.f37 (lentOf as_laws_szInt64S) (xBoxes as_laws_szInt64S z) (xVals as_laws_szInt64S 0 z) K2 = t_laws_szInt64S (fun b => some (en_laws_szInt64S b)) z.1 z.2.1 := by kernel_rfl
theorem so_laws_szInt64S : Sound C0 37 k_laws_szInt64S :=
  Sound.fx a_laws_szInt64S mixed Try.func37 (by kernel_rfl) (by kernel_rfl) noHints 1 noHints_ok (fun z => (r_laws_szInt64S z).trans (nat_laws_szInt64S _ z.1 z.2.1))

/-! ### F10 laws.szStrip -/
noncomputable def T_laws_szStrip : List (FuncId × Contract) := [(37, k_laws_szInt64S)]
theorem a_laws_szStrip : AllSound C0 T_laws_szStrip := .cons so_laws_szInt64S (.nil)
noncomputable def t_laws_szStrip {R : Type} (kx : Int → Option R) (a0 : ((List Int) × (List Int))) (a1 : Int) : Option R :=
  Option.bind (g_laws_szInt64S a0.1 a1) fun y6 =>
  cond (decide (y6 < (0 : Int)))
  (kx (-(1 : Int)))
  (Option.bind (g_laws_szInt64S a0.2 y6) fun y7 =>
   cond (decide (y7 < (0 : Int)))
   (kx (-(1 : Int)))
   (kx y7))
noncomputable def g_laws_szStrip (a0 : ((List Int) × (List Int))) (a1 : Int) : Option (Int) := t_laws_szStrip some a0 a1
theorem nat_laws_szStrip {R : Type} (kx : Int → Option R) (a0 : ((List Int) × (List Int))) (a1 : Int) : t_laws_szStrip kx a0 a1 = (g_laws_szStrip a0 a1).bind kx := by
  unfold g_laws_szStrip t_laws_szStrip
  exact nat_bind fun _ => nat_cond (rfl) (nat_bind fun _ => nat_cond (rfl) (rfl))
abbrev as_laws_szStrip : List AX := [.val true (.pair (.slice (.int .i64)) (.slice (.int .i64))), .val false (.int .i64)]
abbrev en_laws_szStrip : Int → AV × List CV := fun b => (.one ⟨false, [(.v (.int .i64 b))]⟩, [])
noncomputable abbrev k_laws_szStrip : Contract := .fx as_laws_szStrip (Int) (fun z => g_laws_szStrip z.1 z.2.1) en_laws_szStrip
theorem r_laws_szStrip (z : argsX as_laws_szStrip) : runF (tab C0 T_laws_szStrip) noHints 1 Try.f10 (lentOf as_laws_szStrip) (xBoxes as_laws_szStrip z) (xVals as_laws_szStrip 0 z) K2 = t_laws_szStrip (fun b => some (en_laws_szStrip b)) z.1 z.2.1 := by kernel_rfl
theorem so_laws_szStrip : Sound C0 10 k_laws_szStrip :=
  Sound.fx a_laws_szStrip mixed Try.func10 (by kernel_rfl) (by kernel_rfl) noHints 1 noHints_ok (fun z => (r_laws_szStrip z).trans (nat_laws_szStrip _ z.1 z.2.1))

/-! ### F24 laws.toInt64S -/
noncomputable def T_laws_toInt64S : List (FuncId × Contract) := []
theorem a_laws_toInt64S : AllSound C0 T_laws_toInt64S := .nil
abbrev s_laws_toInt64S_4 : LS := ⟨[(false, [(.sl (.int .i64))]), (false, [(.own (.int .i64))]), (false, [(.int .i64)])], [], []⟩
abbrev e_laws_toInt64S_4_0 : LS := ⟨[(false, [(.own (.int .i64))])], [], []⟩
abbrev d_laws_toInt64S_4_0 (v0 : List Int) : e_laws_toInt64S_4_0.T := (((v0, ()), ()), (), ())
abbrev x_laws_toInt64S_4 : List (Ex × LS) := [(.exit 0, e_laws_toInt64S_4_0)]
abbrev m_laws_toInt64S_4 (x0 : List Int) (x3 : List Int) (x4 : Int) : s_laws_toInt64S_4.T := (((x0, ()), (x3, ()), (x4, ()), ()), (), ())
noncomputable def u_laws_toInt64S_4 {R : Type} (nx : s_laws_toInt64S_4.T → Option R) (hx : exH R x_laws_toInt64S_4) (x0 : List Int) (x3 : List Int) (x4 : Int) : Option R :=
  cond (decide (x4 < (((List.length x0) : Nat) : Int)))
  (Option.bind (idx x0 x4) fun y14 =>
   Option.bind (idx x3 x4) fun _ =>
   nx (m_laws_toInt64S_4 x0 (List.set x3 (0 + (Int.toNat x4)) y14) (IntKind.wrap IntKind.i64 (x4 + (1 : Int)))))
  (hx.1 (d_laws_toInt64S_4_0 x3))
noncomputable def t_laws_toInt64S_4 {R : Type} (nx : s_laws_toInt64S_4.T → Option R) (hx : exH R x_laws_toInt64S_4) (z : s_laws_toInt64S_4.T) : Option R := u_laws_toInt64S_4 nx hx z.1.1.1 z.1.2.1.1 z.1.2.2.1.1
theorem nat_laws_toInt64S_4 : Natural @t_laws_toInt64S_4 := fun R nx hx z => by
  show u_laws_toInt64S_4 nx hx z.1.1.1 z.1.2.1.1 z.1.2.2.1.1 = (u_laws_toInt64S_4 (fun y => some (.inl y)) (hIn x_laws_toInt64S_4 fun x => some (.inr x)) z.1.1.1 z.1.2.1.1 z.1.2.2.1.1).bind (goOn nx hx)
  unfold u_laws_toInt64S_4
  exact nat_cond (nat_bind fun _ => nat_bind fun _ => rfl) (rfl)
noncomputable def w_laws_toInt64S_4 : s_laws_toInt64S_4.T → Option (exT x_laws_toInt64S_4) := wOf @t_laws_toInt64S_4
theorem wq_laws_toInt64S_4 (x0 : List Int) (x3 : List Int) (x4 : Int) : w_laws_toInt64S_4 (m_laws_toInt64S_4 x0 x3 x4) = u_laws_toInt64S_4 w_laws_toInt64S_4 (hIn x_laws_toInt64S_4 some) x0 x3 x4 := wOf_eq nat_laws_toInt64S_4 _
def lh_laws_toInt64S_4 : LoopHint := ⟨[0, 3, 4], [], [3], []⟩
noncomputable def h_laws_toInt64S : Hints Rv := ⟨fun k => match k with | 4 => lh_laws_toInt64S_4 | _ => ⟨[], [], [], []⟩, fun k => match k with | 4 => some (loopX s_laws_toInt64S_4 x_laws_toInt64S_4 w_laws_toInt64S_4) | _ => none⟩
theorem st_laws_toInt64S_4 (n : Nat) (z : s_laws_toInt64S_4.T) (k : Ex → Live → Option Rv) : loopN ⟨22, 22⟩ lh_laws_toInt64S_4 (den (tab C0 T_laws_toInt64S) ⟨22, 22⟩ h_laws_toInt64S 1 (loopOf Try.f24 3)) (n + 1) (s_laws_toInt64S_4.enc z) k =
    t_laws_toInt64S_4 (fun y => loopN ⟨22, 22⟩ lh_laws_toInt64S_4 (den (tab C0 T_laws_toInt64S) ⟨22, 22⟩ h_laws_toInt64S 1 (loopOf Try.f24 3)) n (s_laws_toInt64S_4.enc y) k) (hK k x_laws_toInt64S_4) z := by kernel_rfl
theorem hs_laws_toInt64S : HintsOk (tab C0 T_laws_toInt64S) ⟨22, 22⟩ h_laws_toInt64S 1 (loops (codeOf Try.f24)) := by
  have hl : loops (codeOf Try.f24) = [loopOf Try.f24 3] := by kernel_rfl
  rw [hl]
  exact HintsOk.cons (n := 4) (lh := lh_laws_toInt64S_4) (S := loopX s_laws_toInt64S_4 x_laws_toInt64S_4 w_laws_toInt64S_4) (by kernel_rfl) rfl rfl (loopX_ok nat_laws_toInt64S_4 st_laws_toInt64S_4)
    (HintsOk.nil)
noncomputable def t_laws_toInt64S {R : Type} (kx : (List Int) → Option R) (a0 : (List Int)) : Option R :=
  cond (decide ((((List.length a0) : Nat) : Int) ≤ (((List.length a0) : Nat) : Int)))
  (cond (decide (((((List.length a0) : Nat) : Int) * ((8 : Nat) : Int)) ≤ (70368744177664 : Int)))
   (cond (decide ((((List.length a0) : Nat) : Int) ≤ (70368744177664 : Int)))
    (Option.bind (w_laws_toInt64S_4 (m_laws_toInt64S_4 a0 (List.replicate (Int.toNat (((List.length a0) : Nat) : Int)) (0 : Int)) (0 : Int))) (exC x_laws_toInt64S_4
     (fun e16 =>
      kx (e16.1.1.1 : List Int), ())))
    (none))
   (none))
  (none)
noncomputable def g_laws_toInt64S (a0 : (List Int)) : Option ((List Int)) := t_laws_toInt64S some a0
theorem nat_laws_toInt64S {R : Type} (kx : (List Int) → Option R) (a0 : (List Int)) : t_laws_toInt64S kx a0 = (g_laws_toInt64S a0).bind kx := by
  unfold g_laws_toInt64S t_laws_toInt64S
  exact nat_cond (nat_cond (nat_cond (nat_exC ⟨fun _ => rfl, trivial⟩) (rfl)) (rfl)) (rfl)
abbrev as_laws_toInt64S : List AX := [.val false (.slice (.int .i64))]
abbrev en_laws_toInt64S : (List Int) → AV × List CV := fun b => (.one ⟨false, [(.own (.int .i64) b)]⟩, [])
noncomputable abbrev k_laws_toInt64S : Contract := .fx as_laws_toInt64S ((List Int)) (fun z => g_laws_toInt64S z.1) en_laws_toInt64S
theorem r_laws_toInt64S (z : argsX as_laws_toInt64S) : runF (tab C0 T_laws_toInt64S) h_laws_toInt64S 1 Try.f24 (lentOf as_laws_toInt64S) (xBoxes as_laws_toInt64S z) (xVals as_laws_toInt64S 0 z) K2 = t_laws_toInt64S (fun b => some (en_laws_toInt64S b)) z.1 := by kernel_rfl
theorem so_laws_toInt64S : Sound C0 24 k_laws_toInt64S :=
  Sound.fx a_laws_toInt64S mixed Try.func24 (by kernel_rfl) (by kernel_rfl) h_laws_toInt64S 1 hs_laws_toInt64S (fun z => (r_laws_toInt64S z).trans (nat_laws_toInt64S _ z.1))

/-! ### F12 laws.toStrip -/
noncomputable def T_laws_toStrip : List (FuncId × Contract) := [(24, k_laws_toInt64S)]
theorem a_laws_toStrip : AllSound C0 T_laws_toStrip := .cons so_laws_toInt64S (.nil)
noncomputable def t_laws_toStrip {R : Type} (kx : ((List Int) × (List Int)) → Option R) (a0 : ((List Int) × (List Int))) : Option R :=
  Option.bind (g_laws_toInt64S a0.1) fun y18 =>
  Option.bind (g_laws_toInt64S a0.2) fun y19 =>
  kx (y18, y19)
noncomputable def g_laws_toStrip (a0 : ((List Int) × (List Int))) : Option (((List Int) × (List Int))) := t_laws_toStrip some a0
theorem nat_laws_toStrip {R : Type} (kx : ((List Int) × (List Int)) → Option R) (a0 : ((List Int) × (List Int))) : t_laws_toStrip kx a0 = (g_laws_toStrip a0).bind kx := by
  unfold g_laws_toStrip t_laws_toStrip
  exact nat_bind fun _ => nat_bind fun _ => rfl
abbrev as_laws_toStrip : List AX := [.val true (.pair (.slice (.int .i64)) (.slice (.int .i64)))]
abbrev en_laws_toStrip : ((List Int) × (List Int)) → AV × List CV := fun b => (.one ⟨true, [(.own (.int .i64) b.1), (.own (.int .i64) b.2)]⟩, [])
noncomputable abbrev k_laws_toStrip : Contract := .fx as_laws_toStrip (((List Int) × (List Int))) (fun z => g_laws_toStrip z.1) en_laws_toStrip
theorem r_laws_toStrip (z : argsX as_laws_toStrip) : runF (tab C0 T_laws_toStrip) noHints 1 Try.f12 (lentOf as_laws_toStrip) (xBoxes as_laws_toStrip z) (xVals as_laws_toStrip 0 z) K2 = t_laws_toStrip (fun b => some (en_laws_toStrip b)) z.1 := by kernel_rfl
theorem so_laws_toStrip : Sound C0 12 k_laws_toStrip :=
  Sound.fx a_laws_toStrip mixed Try.func12 (by kernel_rfl) (by kernel_rfl) noHints 1 noHints_ok (fun z => (r_laws_toStrip z).trans (nat_laws_toStrip _ z.1))

/-! ### F56 spec.l00In -/
noncomputable def T_spec_l00In : List (FuncId × Contract) := []
theorem a_spec_l00In : AllSound C0 T_spec_l00In := .nil
noncomputable def t_spec_l00In {R : Type} (kx : Bool → Option R) (a0 : Int) (a1 : Int) (a2 : Int) : Option R :=
  cond (decide (a0 ≥ a1))
  (kx (decide (a0 ≤ a2)))
  (kx Bool.false)
noncomputable def g_spec_l00In (a0 : Int) (a1 : Int) (a2 : Int) : Option (Bool) := t_spec_l00In some a0 a1 a2
theorem nat_spec_l00In {R : Type} (kx : Bool → Option R) (a0 : Int) (a1 : Int) (a2 : Int) : t_spec_l00In kx a0 a1 a2 = (g_spec_l00In a0 a1 a2).bind kx := by
  unfold g_spec_l00In t_spec_l00In
  exact nat_cond (rfl) (rfl)
abbrev as_spec_l00In : List AX := [.val false (.int .i64), .val false (.int .i64), .val false (.int .i64)]
abbrev en_spec_l00In : Bool → AV × List CV := fun b => (.one ⟨false, [(.v (.bool b))]⟩, [])
noncomputable abbrev k_spec_l00In : Contract := .fx as_spec_l00In (Bool) (fun z => g_spec_l00In z.1 z.2.1 z.2.2.1) en_spec_l00In
theorem r_spec_l00In (z : argsX as_spec_l00In) : runF (tab C0 T_spec_l00In) noHints 1 Try.f56 (lentOf as_spec_l00In) (xBoxes as_spec_l00In z) (xVals as_spec_l00In 0 z) K2 = t_spec_l00In (fun b => some (en_spec_l00In b)) z.1 z.2.1 z.2.2.1 := by kernel_rfl
theorem so_spec_l00In : Sound C0 56 k_spec_l00In :=
  Sound.fx a_spec_l00In mixed Try.func56 (by kernel_rfl) (by kernel_rfl) noHints 1 noHints_ok (fun z => (r_spec_l00In z).trans (nat_spec_l00In _ z.1 z.2.1 z.2.2.1))

/-! ### F49 spec.l25Sizes -/
noncomputable def T_spec_l25Sizes : List (FuncId × Contract) := [(56, k_spec_l00In)]
theorem a_spec_l25Sizes : AllSound C0 T_spec_l25Sizes := .cons so_spec_l00In (.nil)
abbrev s_spec_l25Sizes_6 : LS := ⟨[(false, [(.sl (.int .i64))]), (false, [(.int .i64)]), (false, [(.int .i64)])], [], []⟩
abbrev e_spec_l25Sizes_6_0 : LS := ⟨[(false, [.bool]), (false, [(.int .i64)])], [], []⟩
abbrev d_spec_l25Sizes_6_0 (v0 : Bool) (v1 : Int) : e_spec_l25Sizes_6_0.T := (((v0, ()), (v1, ()), ()), (), ())
abbrev e_spec_l25Sizes_6_1 : LS := ⟨[(false, [.undef]), (false, [(.int .i64)])], [], []⟩
abbrev d_spec_l25Sizes_6_1 (v0 : Int) : e_spec_l25Sizes_6_1.T := ((((), ()), (v0, ()), ()), (), ())
abbrev x_spec_l25Sizes_6 : List (Ex × LS) := [(.ret, e_spec_l25Sizes_6_0), (.exit 0, e_spec_l25Sizes_6_1)]
abbrev m_spec_l25Sizes_6 (x0 : List Int) (x3 : Int) (x4 : Int) : s_spec_l25Sizes_6.T := (((x0, ()), (x3, ()), (x4, ()), ()), (), ())
noncomputable def u_spec_l25Sizes_6 {R : Type} (nx : s_spec_l25Sizes_6.T → Option R) (hx : exH R x_spec_l25Sizes_6) (x0 : List Int) (x3 : Int) (x4 : Int) : Option R :=
  cond (decide (x4 < (((List.length x0) : Nat) : Int)))
  (Option.bind (idx x0 x4) fun y33 =>
   Option.bind (g_spec_l00In y33 (1 : Int) (1000 : Int)) fun y34 =>
   cond (!y34)
   (hx.1 (d_spec_l25Sizes_6_0 Bool.false x3))
   (Option.bind (idx x0 x4) fun y35 =>
    nx (m_spec_l25Sizes_6 x0 (IntKind.wrap IntKind.i64 (x3 + y35)) (IntKind.wrap IntKind.i64 (x4 + (1 : Int))))))
  (hx.2.1 (d_spec_l25Sizes_6_1 x3))
noncomputable def t_spec_l25Sizes_6 {R : Type} (nx : s_spec_l25Sizes_6.T → Option R) (hx : exH R x_spec_l25Sizes_6) (z : s_spec_l25Sizes_6.T) : Option R := u_spec_l25Sizes_6 nx hx z.1.1.1 z.1.2.1.1 z.1.2.2.1.1
theorem nat_spec_l25Sizes_6 : Natural @t_spec_l25Sizes_6 := fun R nx hx z => by
  show u_spec_l25Sizes_6 nx hx z.1.1.1 z.1.2.1.1 z.1.2.2.1.1 = (u_spec_l25Sizes_6 (fun y => some (.inl y)) (hIn x_spec_l25Sizes_6 fun x => some (.inr x)) z.1.1.1 z.1.2.1.1 z.1.2.2.1.1).bind (goOn nx hx)
  unfold u_spec_l25Sizes_6
  exact nat_cond (nat_bind fun _ => nat_bind fun _ => nat_cond (rfl) (nat_bind fun _ => rfl)) (rfl)
noncomputable def w_spec_l25Sizes_6 : s_spec_l25Sizes_6.T → Option (exT x_spec_l25Sizes_6) := wOf @t_spec_l25Sizes_6
theorem wq_spec_l25Sizes_6 (x0 : List Int) (x3 : Int) (x4 : Int) : w_spec_l25Sizes_6 (m_spec_l25Sizes_6 x0 x3 x4) = u_spec_l25Sizes_6 w_spec_l25Sizes_6 (hIn x_spec_l25Sizes_6 some) x0 x3 x4 := wOf_eq nat_spec_l25Sizes_6 _
def lh_spec_l25Sizes_6 : LoopHint := ⟨[0, 3, 4], [], [2, 3], []⟩
noncomputable def h_spec_l25Sizes : Hints Rv := ⟨fun k => match k with | 6 => lh_spec_l25Sizes_6 | _ => ⟨[], [], [], []⟩, fun k => match k with | 6 => some (loopX s_spec_l25Sizes_6 x_spec_l25Sizes_6 w_spec_l25Sizes_6) | _ => none⟩
theorem st_spec_l25Sizes_6 (n : Nat) (z : s_spec_l25Sizes_6.T) (k : Ex → Live → Option Rv) : loopN ⟨29, 29⟩ lh_spec_l25Sizes_6 (den (tab C0 T_spec_l25Sizes) ⟨29, 29⟩ h_spec_l25Sizes 1 (loopOf Try.f49 5)) (n + 1) (s_spec_l25Sizes_6.enc z) k =
    t_spec_l25Sizes_6 (fun y => loopN ⟨29, 29⟩ lh_spec_l25Sizes_6 (den (tab C0 T_spec_l25Sizes) ⟨29, 29⟩ h_spec_l25Sizes 1 (loopOf Try.f49 5)) n (s_spec_l25Sizes_6.enc y) k) (hK k x_spec_l25Sizes_6) z := by kernel_rfl
theorem hs_spec_l25Sizes : HintsOk (tab C0 T_spec_l25Sizes) ⟨29, 29⟩ h_spec_l25Sizes 1 (loops (codeOf Try.f49)) := by
  have hl : loops (codeOf Try.f49) = [loopOf Try.f49 5] := by kernel_rfl
  rw [hl]
  exact HintsOk.cons (n := 6) (lh := lh_spec_l25Sizes_6) (S := loopX s_spec_l25Sizes_6 x_spec_l25Sizes_6 w_spec_l25Sizes_6) (by kernel_rfl) rfl rfl (loopX_ok nat_spec_l25Sizes_6 st_spec_l25Sizes_6)
    (HintsOk.nil)
noncomputable def t_spec_l25Sizes {R : Type} (kx : Bool → Option R) (a0 : (List Int)) : Option R :=
  Option.bind (g_spec_l00In (((List.length a0) : Nat) : Int) (1 : Int) (14 : Int)) fun y29 =>
  cond (!y29)
  (kx Bool.false)
  (Option.bind (w_spec_l25Sizes_6 (m_spec_l25Sizes_6 a0 (0 : Int) (0 : Int))) (exC x_spec_l25Sizes_6
   (fun e36 =>
    kx (e36.1.1.1 : Bool), fun e39 =>
    kx (decide ((e39.1.2.1.1 : Int) ≤ (1000 : Int))), ())))
noncomputable def g_spec_l25Sizes (a0 : (List Int)) : Option (Bool) := t_spec_l25Sizes some a0
theorem nat_spec_l25Sizes {R : Type} (kx : Bool → Option R) (a0 : (List Int)) : t_spec_l25Sizes kx a0 = (g_spec_l25Sizes a0).bind kx := by
  unfold g_spec_l25Sizes t_spec_l25Sizes
  exact nat_bind fun _ => nat_cond (rfl) (nat_exC ⟨fun _ => rfl, fun _ => rfl, trivial⟩)
abbrev as_spec_l25Sizes : List AX := [.val false (.slice (.int .i64))]
abbrev en_spec_l25Sizes : Bool → AV × List CV := fun b => (.one ⟨false, [(.v (.bool b))]⟩, [])
noncomputable abbrev k_spec_l25Sizes : Contract := .fx as_spec_l25Sizes (Bool) (fun z => g_spec_l25Sizes z.1) en_spec_l25Sizes
theorem r_spec_l25Sizes (z : argsX as_spec_l25Sizes) : runF (tab C0 T_spec_l25Sizes) h_spec_l25Sizes 1 Try.f49 (lentOf as_spec_l25Sizes) (xBoxes as_spec_l25Sizes z) (xVals as_spec_l25Sizes 0 z) K2 = t_spec_l25Sizes (fun b => some (en_spec_l25Sizes b)) z.1 := by kernel_rfl
theorem so_spec_l25Sizes : Sound C0 49 k_spec_l25Sizes :=
  Sound.fx a_spec_l25Sizes mixed Try.func49 (by kernel_rfl) (by kernel_rfl) h_spec_l25Sizes 1 hs_spec_l25Sizes (fun z => (r_spec_l25Sizes z).trans (nat_spec_l25Sizes _ z.1))

/-! ### F38 spec.l25Ok -/
noncomputable def T_spec_l25Ok : List (FuncId × Contract) := [(49, k_spec_l25Sizes), (56, k_spec_l00In)]
theorem a_spec_l25Ok : AllSound C0 T_spec_l25Ok := .cons so_spec_l25Sizes (.cons so_spec_l00In (.nil))
abbrev s_spec_l25Ok_5 : LS := ⟨[(false, [(.ptr 42 0)]), (false, [(.int .i64)])], [(true, [(.sl (.int .i64)), (.sl (.int .i64))])], []⟩
abbrev e_spec_l25Ok_5_0 : LS := ⟨[(false, [.bool])], [], []⟩
abbrev d_spec_l25Ok_5_0 (v0 : Bool) : e_spec_l25Ok_5_0.T := (((v0, ()), ()), (), ())
abbrev e_spec_l25Ok_5_1 : LS := ⟨[(false, [.undef])], [], []⟩
abbrev d_spec_l25Ok_5_1 : e_spec_l25Ok_5_1.T := ((((), ()), ()), (), ())
abbrev x_spec_l25Ok_5 : List (Ex × LS) := [(.ret, e_spec_l25Ok_5_0), (.exit 0, e_spec_l25Ok_5_1)]
abbrev m_spec_l25Ok_5 (x3 : Int) (b0_0 : List Int) (b0_1 : List Int) : s_spec_l25Ok_5.T := ((((), ()), (x3, ()), ()), ((b0_0, b0_1, ()), ()), ())
noncomputable def u_spec_l25Ok_5 {R : Type} (nx : s_spec_l25Ok_5.T → Option R) (hx : exH R x_spec_l25Ok_5) (x3 : Int) (b0_0 : List Int) (b0_1 : List Int) : Option R :=
  cond (decide (x3 < (((List.length b0_1) : Nat) : Int)))
  (Option.bind (idx b0_1 x3) fun y45 =>
   Option.bind (g_spec_l00In y45 (2 : Int) (3 : Int)) fun y46 =>
   cond (!y46)
   (hx.1 (d_spec_l25Ok_5_0 Bool.false))
   (nx (m_spec_l25Ok_5 (IntKind.wrap IntKind.i64 (x3 + (1 : Int))) b0_0 b0_1)))
  (hx.2.1 (d_spec_l25Ok_5_1))
noncomputable def t_spec_l25Ok_5 {R : Type} (nx : s_spec_l25Ok_5.T → Option R) (hx : exH R x_spec_l25Ok_5) (z : s_spec_l25Ok_5.T) : Option R := u_spec_l25Ok_5 nx hx z.1.2.1.1 z.2.1.1.1 z.2.1.1.2.1
theorem nat_spec_l25Ok_5 : Natural @t_spec_l25Ok_5 := fun R nx hx z => by
  show u_spec_l25Ok_5 nx hx z.1.2.1.1 z.2.1.1.1 z.2.1.1.2.1 = (u_spec_l25Ok_5 (fun y => some (.inl y)) (hIn x_spec_l25Ok_5 fun x => some (.inr x)) z.1.2.1.1 z.2.1.1.1 z.2.1.1.2.1).bind (goOn nx hx)
  unfold u_spec_l25Ok_5
  exact nat_cond (nat_bind fun _ => nat_bind fun _ => nat_cond (rfl) (rfl)) (rfl)
noncomputable def w_spec_l25Ok_5 : s_spec_l25Ok_5.T → Option (exT x_spec_l25Ok_5) := wOf @t_spec_l25Ok_5
theorem wq_spec_l25Ok_5 (x3 : Int) (b0_0 : List Int) (b0_1 : List Int) : w_spec_l25Ok_5 (m_spec_l25Ok_5 x3 b0_0 b0_1) = u_spec_l25Ok_5 w_spec_l25Ok_5 (hIn x_spec_l25Ok_5 some) x3 b0_0 b0_1 := wOf_eq nat_spec_l25Ok_5 _
def lh_spec_l25Ok_5 : LoopHint := ⟨[0, 3], [42], [2], []⟩
noncomputable def h_spec_l25Ok : Hints Rv := ⟨fun k => match k with | 5 => lh_spec_l25Ok_5 | _ => ⟨[], [], [], []⟩, fun k => match k with | 5 => some (loopX s_spec_l25Ok_5 x_spec_l25Ok_5 w_spec_l25Ok_5) | _ => none⟩
theorem st_spec_l25Ok_5 (n : Nat) (z : s_spec_l25Ok_5.T) (k : Ex → Live → Option Rv) : loopN ⟨42, 43⟩ lh_spec_l25Ok_5 (den (tab C0 T_spec_l25Ok) ⟨42, 43⟩ h_spec_l25Ok 1 (loopOf Try.f38 4)) (n + 1) (s_spec_l25Ok_5.enc z) k =
    t_spec_l25Ok_5 (fun y => loopN ⟨42, 43⟩ lh_spec_l25Ok_5 (den (tab C0 T_spec_l25Ok) ⟨42, 43⟩ h_spec_l25Ok 1 (loopOf Try.f38 4)) n (s_spec_l25Ok_5.enc y) k) (hK k x_spec_l25Ok_5) z := by kernel_rfl
theorem hs_spec_l25Ok : HintsOk (tab C0 T_spec_l25Ok) ⟨42, 43⟩ h_spec_l25Ok 1 (loops (codeOf Try.f38)) := by
  have hl : loops (codeOf Try.f38) = [loopOf Try.f38 4] := by kernel_rfl
  rw [hl]
  exact HintsOk.cons (n := 5) (lh := lh_spec_l25Ok_5) (S := loopX s_spec_l25Ok_5 x_spec_l25Ok_5 w_spec_l25Ok_5) (by kernel_rfl) rfl rfl (loopX_ok nat_spec_l25Ok_5 st_spec_l25Ok_5)
    (HintsOk.nil)
noncomputable def t_spec_l25Ok {R : Type} (kx : Bool → Option R) (a0 : ((List Int) × (List Int))) : Option R :=
  Option.bind (g_spec_l25Sizes a0.1) fun y41 =>
  cond (!y41)
  (kx Bool.false)
  (cond ((((List.length a0.2) : Nat) : Int) != (IntKind.wrap IntKind.i64 ((((List.length a0.1) : Nat) : Int) - (1 : Int))))
   (kx Bool.false)
   (Option.bind (w_spec_l25Ok_5 (m_spec_l25Ok_5 (0 : Int) a0.1 a0.2)) (exC x_spec_l25Ok_5
    (fun e47 =>
     kx (e47.1.1.1 : Bool), fun _ =>
     kx Bool.true, ()))))
noncomputable def g_spec_l25Ok (a0 : ((List Int) × (List Int))) : Option (Bool) := t_spec_l25Ok some a0
theorem nat_spec_l25Ok {R : Type} (kx : Bool → Option R) (a0 : ((List Int) × (List Int))) : t_spec_l25Ok kx a0 = (g_spec_l25Ok a0).bind kx := by
  unfold g_spec_l25Ok t_spec_l25Ok
  exact nat_bind fun _ => nat_cond (rfl) (nat_cond (rfl) (nat_exC ⟨fun _ => rfl, fun _ => rfl, trivial⟩))
abbrev as_spec_l25Ok : List AX := [.ptr (.pair (.slice (.int .i64)) (.slice (.int .i64)))]
abbrev en_spec_l25Ok : Bool → AV × List CV := fun b => (.one ⟨false, [(.v (.bool b))]⟩, [])
noncomputable abbrev k_spec_l25Ok : Contract := .fx as_spec_l25Ok (Bool) (fun z => g_spec_l25Ok z.1) en_spec_l25Ok
theorem r_spec_l25Ok (z : argsX as_spec_l25Ok) : runF (tab C0 T_spec_l25Ok) h_spec_l25Ok 1 Try.f38 (lentOf as_spec_l25Ok) (xBoxes as_spec_l25Ok z) (xVals as_spec_l25Ok 0 z) K2 = t_spec_l25Ok (fun b => some (en_spec_l25Ok b)) z.1 := by kernel_rfl
theorem so_spec_l25Ok : Sound C0 38 k_spec_l25Ok :=
  Sound.fx a_spec_l25Ok mixed Try.func38 (by kernel_rfl) (by kernel_rfl) h_spec_l25Ok 1 hs_spec_l25Ok (fun z => (r_spec_l25Ok z).trans (nat_spec_l25Ok _ z.1))

/-! ### F72 spec.l25Places -/
noncomputable def T_spec_l25Places : List (FuncId × Contract) := []
theorem a_spec_l25Places : AllSound C0 T_spec_l25Places := .nil
abbrev s_spec_l25Places_5 : LS := ⟨[(false, [(.sl (.int .i64))]), (false, [(.own (.int .i64))]), (false, [(.int .i64)]), (false, [(.int .i64)])], [], []⟩
abbrev e_spec_l25Places_5_0 : LS := ⟨[(false, [(.own (.int .i64))])], [], []⟩
abbrev d_spec_l25Places_5_0 (v0 : List Int) : e_spec_l25Places_5_0.T := (((v0, ()), ()), (), ())
abbrev x_spec_l25Places_5 : List (Ex × LS) := [(.exit 0, e_spec_l25Places_5_0)]
abbrev m_spec_l25Places_5 (x0 : List Int) (x3 : List Int) (x4 : Int) (x5 : Int) : s_spec_l25Places_5.T := (((x0, ()), (x3, ()), (x4, ()), (x5, ()), ()), (), ())
noncomputable def u_spec_l25Places_5 {R : Type} (nx : s_spec_l25Places_5.T → Option R) (hx : exH R x_spec_l25Places_5) (x0 : List Int) (x3 : List Int) (x4 : Int) (x5 : Int) : Option R :=
  cond (decide (x5 < (((List.length x0) : Nat) : Int)))
  (cond ((Int.tmod x5 (2 : Int)) == (0 : Int))
   (Option.bind (idx x0 x5) fun y79 =>
    cond (decide ((((List.length x3) + (List.length [(IntKind.wrap IntKind.i64 (x4 + y79))])) * 8) ≤ 70368744177664))
    (cond (decide (((List.length x3) + (List.length [(IntKind.wrap IntKind.i64 (x4 + y79))])) ≤ 70368744177664))
     (nx (m_spec_l25Places_5 x0 (x3 ++ [(IntKind.wrap IntKind.i64 (x4 + y79))]) (IntKind.wrap IntKind.i64 (x4 + y79)) (IntKind.wrap IntKind.i64 (x5 + (1 : Int)))))
     (none))
    (none))
   (Option.bind (idx x0 x5) fun y80 =>
    cond (decide ((((List.length x3) + (List.length [(IntKind.wrap IntKind.i64 (x4 - y80))])) * 8) ≤ 70368744177664))
    (cond (decide (((List.length x3) + (List.length [(IntKind.wrap IntKind.i64 (x4 - y80))])) ≤ 70368744177664))
     (nx (m_spec_l25Places_5 x0 (x3 ++ [(IntKind.wrap IntKind.i64 (x4 - y80))]) (IntKind.wrap IntKind.i64 (x4 - y80)) (IntKind.wrap IntKind.i64 (x5 + (1 : Int)))))
     (none))
    (none)))
  (hx.1 (d_spec_l25Places_5_0 x3))
noncomputable def t_spec_l25Places_5 {R : Type} (nx : s_spec_l25Places_5.T → Option R) (hx : exH R x_spec_l25Places_5) (z : s_spec_l25Places_5.T) : Option R := u_spec_l25Places_5 nx hx z.1.1.1 z.1.2.1.1 z.1.2.2.1.1 z.1.2.2.2.1.1
theorem nat_spec_l25Places_5 : Natural @t_spec_l25Places_5 := fun R nx hx z => by
  show u_spec_l25Places_5 nx hx z.1.1.1 z.1.2.1.1 z.1.2.2.1.1 z.1.2.2.2.1.1 = (u_spec_l25Places_5 (fun y => some (.inl y)) (hIn x_spec_l25Places_5 fun x => some (.inr x)) z.1.1.1 z.1.2.1.1 z.1.2.2.1.1 z.1.2.2.2.1.1).bind (goOn nx hx)
  unfold u_spec_l25Places_5
  exact nat_cond (nat_cond (nat_bind fun _ => nat_cond (nat_cond (rfl) (rfl)) (rfl)) (nat_bind fun _ => nat_cond (nat_cond (rfl) (rfl)) (rfl))) (rfl)
noncomputable def w_spec_l25Places_5 : s_spec_l25Places_5.T → Option (exT x_spec_l25Places_5) := wOf @t_spec_l25Places_5
theorem wq_spec_l25Places_5 (x0 : List Int) (x3 : List Int) (x4 : Int) (x5 : Int) : w_spec_l25Places_5 (m_spec_l25Places_5 x0 x3 x4 x5) = u_spec_l25Places_5 w_spec_l25Places_5 (hIn x_spec_l25Places_5 some) x0 x3 x4 x5 := wOf_eq nat_spec_l25Places_5 _
def lh_spec_l25Places_5 : LoopHint := ⟨[0, 3, 4, 5], [], [3], []⟩
noncomputable def h_spec_l25Places : Hints Rv := ⟨fun k => match k with | 5 => lh_spec_l25Places_5 | _ => ⟨[], [], [], []⟩, fun k => match k with | 5 => some (loopX s_spec_l25Places_5 x_spec_l25Places_5 w_spec_l25Places_5) | _ => none⟩
theorem st_spec_l25Places_5 (n : Nat) (z : s_spec_l25Places_5.T) (k : Ex → Live → Option Rv) : loopN ⟨33, 33⟩ lh_spec_l25Places_5 (den (tab C0 T_spec_l25Places) ⟨33, 33⟩ h_spec_l25Places 1 (loopOf Try.f72 4)) (n + 1) (s_spec_l25Places_5.enc z) k =
    t_spec_l25Places_5 (fun y => loopN ⟨33, 33⟩ lh_spec_l25Places_5 (den (tab C0 T_spec_l25Places) ⟨33, 33⟩ h_spec_l25Places 1 (loopOf Try.f72 4)) n (s_spec_l25Places_5.enc y) k) (hK k x_spec_l25Places_5) z := by kernel_rfl
theorem hs_spec_l25Places : HintsOk (tab C0 T_spec_l25Places) ⟨33, 33⟩ h_spec_l25Places 1 (loops (codeOf Try.f72)) := by
  have hl : loops (codeOf Try.f72) = [loopOf Try.f72 4] := by kernel_rfl
  rw [hl]
  exact HintsOk.cons (n := 5) (lh := lh_spec_l25Places_5) (S := loopX s_spec_l25Places_5 x_spec_l25Places_5 w_spec_l25Places_5) (by kernel_rfl) rfl rfl (loopX_ok nat_spec_l25Places_5 st_spec_l25Places_5)
    (HintsOk.nil)
noncomputable def t_spec_l25Places {R : Type} (kx : (List Int) → Option R) (a0 : (List Int)) : Option R :=
  Option.bind (w_spec_l25Places_5 (m_spec_l25Places_5 a0 [(0 : Int)] (0 : Int) (0 : Int))) (exC x_spec_l25Places_5
  (fun e81 =>
   kx (e81.1.1.1 : List Int), ()))
noncomputable def g_spec_l25Places (a0 : (List Int)) : Option ((List Int)) := t_spec_l25Places some a0
theorem nat_spec_l25Places {R : Type} (kx : (List Int) → Option R) (a0 : (List Int)) : t_spec_l25Places kx a0 = (g_spec_l25Places a0).bind kx := by
  unfold g_spec_l25Places t_spec_l25Places
  exact nat_exC ⟨fun _ => rfl, trivial⟩
abbrev as_spec_l25Places : List AX := [.val false (.slice (.int .i64))]
abbrev en_spec_l25Places : (List Int) → AV × List CV := fun b => (.one ⟨false, [(.own (.int .i64) b)]⟩, [])
noncomputable abbrev k_spec_l25Places : Contract := .fx as_spec_l25Places ((List Int)) (fun z => g_spec_l25Places z.1) en_spec_l25Places
theorem r_spec_l25Places (z : argsX as_spec_l25Places) : runF (tab C0 T_spec_l25Places) h_spec_l25Places 1 Try.f72 (lentOf as_spec_l25Places) (xBoxes as_spec_l25Places z) (xVals as_spec_l25Places 0 z) K2 = t_spec_l25Places (fun b => some (en_spec_l25Places b)) z.1 := by kernel_rfl
theorem so_spec_l25Places : Sound C0 72 k_spec_l25Places :=
  Sound.fx a_spec_l25Places mixed Try.func72 (by kernel_rfl) (by kernel_rfl) h_spec_l25Places 1 hs_spec_l25Places (fun z => (r_spec_l25Places z).trans (nat_spec_l25Places _ z.1))

/-! ### F73 spec.l25Kind -/
noncomputable def T_spec_l25Kind : List (FuncId × Contract) := []
theorem a_spec_l25Kind : AllSound C0 T_spec_l25Kind := .nil
noncomputable def t_spec_l25Kind {R : Type} (kx : Bool → Option R) (a0 : ((List Int) × (List Int))) (a1 : Int) (a2 : Int) (a3 : Int) : Option R :=
  cond ((Int.tmod a1 (2 : Int)) == (1 : Int))
  (Option.bind (idx a0.2 a1) fun y95 =>
   kx ((decide (a3 < a2)) == (y95 == (3 : Int))))
  (Option.bind (idx a0.2 a1) fun y96 =>
   kx ((decide (a2 < a3)) == (y96 == (3 : Int))))
noncomputable def g_spec_l25Kind (a0 : ((List Int) × (List Int))) (a1 : Int) (a2 : Int) (a3 : Int) : Option (Bool) := t_spec_l25Kind some a0 a1 a2 a3
theorem nat_spec_l25Kind {R : Type} (kx : Bool → Option R) (a0 : ((List Int) × (List Int))) (a1 : Int) (a2 : Int) (a3 : Int) : t_spec_l25Kind kx a0 a1 a2 a3 = (g_spec_l25Kind a0 a1 a2 a3).bind kx := by
  unfold g_spec_l25Kind t_spec_l25Kind
  exact nat_cond (nat_bind fun _ => rfl) (nat_bind fun _ => rfl)
abbrev as_spec_l25Kind : List AX := [.ptr (.pair (.slice (.int .i64)) (.slice (.int .i64))), .val false (.int .i64), .val false (.int .i64), .val false (.int .i64)]
abbrev en_spec_l25Kind : Bool → AV × List CV := fun b => (.one ⟨false, [(.v (.bool b))]⟩, [])
noncomputable abbrev k_spec_l25Kind : Contract := .fx as_spec_l25Kind (Bool) (fun z => g_spec_l25Kind z.1 z.2.1 z.2.2.1 z.2.2.2.1) en_spec_l25Kind
theorem r_spec_l25Kind (z : argsX as_spec_l25Kind) : runF (tab C0 T_spec_l25Kind) noHints 1 Try.f73 (lentOf as_spec_l25Kind) (xBoxes as_spec_l25Kind z) (xVals as_spec_l25Kind 0 z) K2 = t_spec_l25Kind (fun b => some (en_spec_l25Kind b)) z.1 z.2.1 z.2.2.1 z.2.2.2.1 := by kernel_rfl
theorem so_spec_l25Kind : Sound C0 73 k_spec_l25Kind :=
  Sound.fx a_spec_l25Kind mixed Try.func73 (by kernel_rfl) (by kernel_rfl) noHints 1 noHints_ok (fun z => (r_spec_l25Kind z).trans (nat_spec_l25Kind _ z.1 z.2.1 z.2.2.1 z.2.2.2.1))

/-! ### F89 spec.l00Min -/
noncomputable def T_spec_l00Min : List (FuncId × Contract) := []
theorem a_spec_l00Min : AllSound C0 T_spec_l00Min := .nil
noncomputable def t_spec_l00Min {R : Type} (kx : Int → Option R) (a0 : Int) (a1 : Int) : Option R :=
  cond (decide (a0 < a1))
  (kx a0)
  (kx a1)
noncomputable def g_spec_l00Min (a0 : Int) (a1 : Int) : Option (Int) := t_spec_l00Min some a0 a1
theorem nat_spec_l00Min {R : Type} (kx : Int → Option R) (a0 : Int) (a1 : Int) : t_spec_l00Min kx a0 a1 = (g_spec_l00Min a0 a1).bind kx := by
  unfold g_spec_l00Min t_spec_l00Min
  exact nat_cond (rfl) (rfl)
abbrev as_spec_l00Min : List AX := [.val false (.int .i64), .val false (.int .i64)]
abbrev en_spec_l00Min : Int → AV × List CV := fun b => (.one ⟨false, [(.v (.int .i64 b))]⟩, [])
noncomputable abbrev k_spec_l00Min : Contract := .fx as_spec_l00Min (Int) (fun z => g_spec_l00Min z.1 z.2.1) en_spec_l00Min
theorem r_spec_l00Min (z : argsX as_spec_l00Min) : runF (tab C0 T_spec_l00Min) noHints 1 Try.f89 (lentOf as_spec_l00Min) (xBoxes as_spec_l00Min z) (xVals as_spec_l00Min 0 z) K2 = t_spec_l00Min (fun b => some (en_spec_l00Min b)) z.1 z.2.1 := by kernel_rfl
theorem so_spec_l00Min : Sound C0 89 k_spec_l00Min :=
  Sound.fx a_spec_l00Min mixed Try.func89 (by kernel_rfl) (by kernel_rfl) noHints 1 noHints_ok (fun z => (r_spec_l00Min z).trans (nat_spec_l00Min _ z.1 z.2.1))

/-! ### F90 spec.l00Max -/
noncomputable def T_spec_l00Max : List (FuncId × Contract) := []
theorem a_spec_l00Max : AllSound C0 T_spec_l00Max := .nil
noncomputable def t_spec_l00Max {R : Type} (kx : Int → Option R) (a0 : Int) (a1 : Int) : Option R :=
  cond (decide (a0 > a1))
  (kx a0)
  (kx a1)
noncomputable def g_spec_l00Max (a0 : Int) (a1 : Int) : Option (Int) := t_spec_l00Max some a0 a1
theorem nat_spec_l00Max {R : Type} (kx : Int → Option R) (a0 : Int) (a1 : Int) : t_spec_l00Max kx a0 a1 = (g_spec_l00Max a0 a1).bind kx := by
  unfold g_spec_l00Max t_spec_l00Max
  exact nat_cond (rfl) (rfl)
abbrev as_spec_l00Max : List AX := [.val false (.int .i64), .val false (.int .i64)]
abbrev en_spec_l00Max : Int → AV × List CV := fun b => (.one ⟨false, [(.v (.int .i64 b))]⟩, [])
noncomputable abbrev k_spec_l00Max : Contract := .fx as_spec_l00Max (Int) (fun z => g_spec_l00Max z.1 z.2.1) en_spec_l00Max
theorem r_spec_l00Max (z : argsX as_spec_l00Max) : runF (tab C0 T_spec_l00Max) noHints 1 Try.f90 (lentOf as_spec_l00Max) (xBoxes as_spec_l00Max z) (xVals as_spec_l00Max 0 z) K2 = t_spec_l00Max (fun b => some (en_spec_l00Max b)) z.1 z.2.1 := by kernel_rfl
theorem so_spec_l00Max : Sound C0 90 k_spec_l00Max :=
  Sound.fx a_spec_l00Max mixed Try.func90 (by kernel_rfl) (by kernel_rfl) noHints 1 noHints_ok (fun z => (r_spec_l00Max z).trans (nat_spec_l00Max _ z.1 z.2.1))

/-! ### F84 spec.l25Between -/
noncomputable def T_spec_l25Between : List (FuncId × Contract) := [(89, k_spec_l00Min), (90, k_spec_l00Max)]
theorem a_spec_l25Between : AllSound C0 T_spec_l25Between := .cons so_spec_l00Min (.cons so_spec_l00Max (.nil))
noncomputable def t_spec_l25Between {R : Type} (kx : Bool → Option R) (a0 : Int) (a1 : Int) (a2 : Int) : Option R :=
  Option.bind (g_spec_l00Min a1 a2) fun y120 =>
  cond (decide (a0 > y120))
  (Option.bind (g_spec_l00Max a1 a2) fun y123 =>
   kx (decide (a0 < y123)))
  (kx Bool.false)
noncomputable def g_spec_l25Between (a0 : Int) (a1 : Int) (a2 : Int) : Option (Bool) := t_spec_l25Between some a0 a1 a2
theorem nat_spec_l25Between {R : Type} (kx : Bool → Option R) (a0 : Int) (a1 : Int) (a2 : Int) : t_spec_l25Between kx a0 a1 a2 = (g_spec_l25Between a0 a1 a2).bind kx := by
  unfold g_spec_l25Between t_spec_l25Between
  exact nat_bind fun _ => nat_cond (nat_bind fun _ => rfl) (rfl)
abbrev as_spec_l25Between : List AX := [.val false (.int .i64), .val false (.int .i64), .val false (.int .i64)]
abbrev en_spec_l25Between : Bool → AV × List CV := fun b => (.one ⟨false, [(.v (.bool b))]⟩, [])
noncomputable abbrev k_spec_l25Between : Contract := .fx as_spec_l25Between (Bool) (fun z => g_spec_l25Between z.1 z.2.1 z.2.2.1) en_spec_l25Between
theorem r_spec_l25Between (z : argsX as_spec_l25Between) : runF (tab C0 T_spec_l25Between) noHints 1 Try.f84 (lentOf as_spec_l25Between) (xBoxes as_spec_l25Between z) (xVals as_spec_l25Between 0 z) K2 = t_spec_l25Between (fun b => some (en_spec_l25Between b)) z.1 z.2.1 z.2.2.1 := by kernel_rfl
theorem so_spec_l25Between : Sound C0 84 k_spec_l25Between :=
  Sound.fx a_spec_l25Between mixed Try.func84 (by kernel_rfl) (by kernel_rfl) noHints 1 noHints_ok (fun z => (r_spec_l25Between z).trans (nat_spec_l25Between _ z.1 z.2.1 z.2.2.1))

/-! ### F74 spec.l25Crease -/
noncomputable def T_spec_l25Crease : List (FuncId × Contract) := [(84, k_spec_l25Between)]
theorem a_spec_l25Crease : AllSound C0 T_spec_l25Crease := .cons so_spec_l25Between (.nil)
abbrev s_spec_l25Crease_5 : LS := ⟨[(false, [(.ptr 111 0)]), (false, [(.sl (.int .i64))]), (false, [(.sl (.int .i64))]), (false, [(.int .i64)]), (false, [(.int .i64)]), (false, [(.int .i64)]), (false, [(.int .i64)])], [(true, [(.sl (.int .i64)), (.sl (.int .i64))])], []⟩
abbrev e_spec_l25Crease_5_0 : LS := ⟨[(false, [(.ptr 111 0)]), (false, [(.sl (.int .i64))]), (false, [(.sl (.int .i64))]), (false, [(.int .i64)]), (false, [.bool]), (false, [(.int .i64)]), (false, [(.int .i64)])], [(true, [(.sl (.int .i64)), (.sl (.int .i64))])], []⟩
abbrev d_spec_l25Crease_5_0 (v0 : List Int) (v1 : List Int) (v2 : Int) (v3 : Bool) (v4 : Int) (v5 : Int) (v6 : List Int) (v7 : List Int) : e_spec_l25Crease_5_0.T := ((((), ()), (v0, ()), (v1, ()), (v2, ()), (v3, ()), (v4, ()), (v5, ()), ()), ((v6, v7, ()), ()), ())
abbrev e_spec_l25Crease_5_1 : LS := ⟨[(false, [(.ptr 111 0)]), (false, [(.sl (.int .i64))]), (false, [(.sl (.int .i64))]), (false, [(.int .i64)]), (false, [.undef]), (false, [(.int .i64)]), (false, [(.int .i64)])], [(true, [(.sl (.int .i64)), (.sl (.int .i64))])], []⟩
abbrev d_spec_l25Crease_5_1 (v0 : List Int) (v1 : List Int) (v2 : Int) (v3 : Int) (v4 : Int) (v5 : List Int) (v6 : List Int) : e_spec_l25Crease_5_1.T := ((((), ()), (v0, ()), (v1, ()), (v2, ()), ((), ()), (v3, ()), (v4, ()), ()), ((v5, v6, ()), ()), ())
abbrev x_spec_l25Crease_5 : List (Ex × LS) := [(.ret, e_spec_l25Crease_5_0), (.exit 0, e_spec_l25Crease_5_1)]
abbrev m_spec_l25Crease_5 (x1 : List Int) (x2 : List Int) (x3 : Int) (x9 : Int) (x10 : Int) (x11 : Int) (b0_0 : List Int) (b0_1 : List Int) : s_spec_l25Crease_5.T := ((((), ()), (x1, ()), (x2, ()), (x3, ()), (x9, ()), (x10, ()), (x11, ()), ()), ((b0_0, b0_1, ()), ()), ())
noncomputable def u_spec_l25Crease_5 {R : Type} (nx : s_spec_l25Crease_5.T → Option R) (hx : exH R x_spec_l25Crease_5) (x1 : List Int) (x2 : List Int) (x3 : Int) (x9 : Int) (x10 : Int) (x11 : Int) (b0_0 : List Int) (b0_1 : List Int) : Option R :=
  cond (decide (x11 < (((List.length x2) : Nat) : Int)))
  (cond (x11 != x3)
   (cond (x11 != (IntKind.wrap IntKind.i64 (x3 + (1 : Int))))
    (Option.bind (idx x1 (IntKind.wrap IntKind.i64 (x3 + (1 : Int)))) fun y112 =>
     Option.bind (idx x1 x11) fun y113 =>
     Option.bind (idx x1 (IntKind.wrap IntKind.i64 (x11 + (1 : Int)))) fun y114 =>
     Option.bind (g_spec_l25Between y112 y113 y114) fun y124 =>
     cond y124
     (Option.bind (idx x2 x11) fun y125 =>
      Option.bind (g_spec_l25Between y125 x9 x10) fun y126 =>
      cond y126
      (hx.1 (d_spec_l25Crease_5_0 x1 x2 x3 Bool.false x9 x10 b0_0 b0_1))
      (nx (m_spec_l25Crease_5 x1 x2 x3 x9 x10 (IntKind.wrap IntKind.i64 (x11 + (1 : Int))) b0_0 b0_1)))
     (nx (m_spec_l25Crease_5 x1 x2 x3 x9 x10 (IntKind.wrap IntKind.i64 (x11 + (1 : Int))) b0_0 b0_1)))
    (nx (m_spec_l25Crease_5 x1 x2 x3 x9 x10 (IntKind.wrap IntKind.i64 (x11 + (1 : Int))) b0_0 b0_1)))
   (nx (m_spec_l25Crease_5 x1 x2 x3 x9 x10 (IntKind.wrap IntKind.i64 (x11 + (1 : Int))) b0_0 b0_1)))
  (hx.2.1 (d_spec_l25Crease_5_1 x1 x2 x3 x9 x10 b0_0 b0_1))
noncomputable def t_spec_l25Crease_5 {R : Type} (nx : s_spec_l25Crease_5.T → Option R) (hx : exH R x_spec_l25Crease_5) (z : s_spec_l25Crease_5.T) : Option R := u_spec_l25Crease_5 nx hx z.1.2.1.1 z.1.2.2.1.1 z.1.2.2.2.1.1 z.1.2.2.2.2.1.1 z.1.2.2.2.2.2.1.1 z.1.2.2.2.2.2.2.1.1 z.2.1.1.1 z.2.1.1.2.1
theorem nat_spec_l25Crease_5 : Natural @t_spec_l25Crease_5 := fun R nx hx z => by
  show u_spec_l25Crease_5 nx hx z.1.2.1.1 z.1.2.2.1.1 z.1.2.2.2.1.1 z.1.2.2.2.2.1.1 z.1.2.2.2.2.2.1.1 z.1.2.2.2.2.2.2.1.1 z.2.1.1.1 z.2.1.1.2.1 = (u_spec_l25Crease_5 (fun y => some (.inl y)) (hIn x_spec_l25Crease_5 fun x => some (.inr x)) z.1.2.1.1 z.1.2.2.1.1 z.1.2.2.2.1.1 z.1.2.2.2.2.1.1 z.1.2.2.2.2.2.1.1 z.1.2.2.2.2.2.2.1.1 z.2.1.1.1 z.2.1.1.2.1).bind (goOn nx hx)
  unfold u_spec_l25Crease_5
  exact nat_cond (nat_cond (nat_cond (nat_bind fun _ => nat_bind fun _ => nat_bind fun _ => nat_bind fun _ => nat_cond (nat_bind fun _ => nat_bind fun _ => nat_cond (rfl) (rfl)) (rfl)) (rfl)) (rfl)) (rfl)
noncomputable def w_spec_l25Crease_5 : s_spec_l25Crease_5.T → Option (exT x_spec_l25Crease_5) := wOf @t_spec_l25Crease_5
theorem wq_spec_l25Crease_5 (x1 : List Int) (x2 : List Int) (x3 : Int) (x9 : Int) (x10 : Int) (x11 : Int) (b0_0 : List Int) (b0_1 : List Int) : w_spec_l25Crease_5 (m_spec_l25Crease_5 x1 x2 x3 x9 x10 x11 b0_0 b0_1) = u_spec_l25Crease_5 w_spec_l25Crease_5 (hIn x_spec_l25Crease_5 some) x1 x2 x3 x9 x10 x11 b0_0 b0_1 := wOf_eq nat_spec_l25Crease_5 _
def lh_spec_l25Crease_5 : LoopHint := ⟨[0, 1, 2, 3, 9, 10, 11], [111], [0, 1, 2, 3, 8, 9, 10], [111]⟩
abbrev s_spec_l25Crease_10 : LS := ⟨[(false, [(.ptr 111 0)]), (false, [(.sl (.int .i64))]), (false, [(.sl (.int .i64))]), (false, [(.int .i64)]), (false, [(.int .i64)]), (false, [(.int .i64)]), (false, [(.int .i64)])], [(true, [(.sl (.int .i64)), (.sl (.int .i64))])], []⟩
abbrev e_spec_l25Crease_10_0 : LS := ⟨[(false, [.bool])], [], []⟩
abbrev d_spec_l25Crease_10_0 (v0 : Bool) : e_spec_l25Crease_10_0.T := (((v0, ()), ()), (), ())
abbrev e_spec_l25Crease_10_1 : LS := ⟨[(false, [.undef])], [], []⟩
abbrev d_spec_l25Crease_10_1 : e_spec_l25Crease_10_1.T := ((((), ()), ()), (), ())
abbrev x_spec_l25Crease_10 : List (Ex × LS) := [(.ret, e_spec_l25Crease_10_0), (.exit 2, e_spec_l25Crease_10_1)]
abbrev m_spec_l25Crease_10 (x1 : List Int) (x2 : List Int) (x3 : Int) (x9 : Int) (x10 : Int) (x12 : Int) (b0_0 : List Int) (b0_1 : List Int) : s_spec_l25Crease_10.T := ((((), ()), (x1, ()), (x2, ()), (x3, ()), (x9, ()), (x10, ()), (x12, ()), ()), ((b0_0, b0_1, ()), ()), ())
noncomputable def u_spec_l25Crease_10 {R : Type} (nx : s_spec_l25Crease_10.T → Option R) (hx : exH R x_spec_l25Crease_10) (x1 : List Int) (x2 : List Int) (x3 : Int) (x9 : Int) (x10 : Int) (x12 : Int) (b0_0 : List Int) (b0_1 : List Int) : Option R :=
  cond (decide (x12 < (((List.length b0_1) : Nat) : Int)))
  (cond (x12 == x3)
   (nx (m_spec_l25Crease_10 x1 x2 x3 x9 x10 (IntKind.wrap IntKind.i64 (x12 + (1 : Int))) b0_0 b0_1))
   (Option.bind (idx x1 (IntKind.wrap IntKind.i64 (x12 + (1 : Int)))) fun y152 =>
    Option.bind (idx x1 (IntKind.wrap IntKind.i64 (x3 + (1 : Int)))) fun y153 =>
    cond (y152 != y153)
    (nx (m_spec_l25Crease_10 x1 x2 x3 x9 x10 (IntKind.wrap IntKind.i64 (x12 + (1 : Int))) b0_0 b0_1))
    (cond ((Int.tmod (IntKind.wrap IntKind.i64 (x12 - x3)) (2 : Int)) != (0 : Int))
     (nx (m_spec_l25Crease_10 x1 x2 x3 x9 x10 (IntKind.wrap IntKind.i64 (x12 + (1 : Int))) b0_0 b0_1))
     (Option.bind (idx x2 x12) fun y154 =>
      Option.bind (g_spec_l25Between y154 x9 x10) fun y155 =>
      Option.bind (idx x2 (IntKind.wrap IntKind.i64 (x12 + (1 : Int)))) fun y156 =>
      Option.bind (g_spec_l25Between y156 x9 x10) fun y157 =>
      cond (!(y155 == y157))
      (hx.1 (d_spec_l25Crease_10_0 Bool.false))
      (nx (m_spec_l25Crease_10 x1 x2 x3 x9 x10 (IntKind.wrap IntKind.i64 (x12 + (1 : Int))) b0_0 b0_1))))))
  (hx.2.1 (d_spec_l25Crease_10_1))
noncomputable def t_spec_l25Crease_10 {R : Type} (nx : s_spec_l25Crease_10.T → Option R) (hx : exH R x_spec_l25Crease_10) (z : s_spec_l25Crease_10.T) : Option R := u_spec_l25Crease_10 nx hx z.1.2.1.1 z.1.2.2.1.1 z.1.2.2.2.1.1 z.1.2.2.2.2.1.1 z.1.2.2.2.2.2.1.1 z.1.2.2.2.2.2.2.1.1 z.2.1.1.1 z.2.1.1.2.1
theorem nat_spec_l25Crease_10 : Natural @t_spec_l25Crease_10 := fun R nx hx z => by
  show u_spec_l25Crease_10 nx hx z.1.2.1.1 z.1.2.2.1.1 z.1.2.2.2.1.1 z.1.2.2.2.2.1.1 z.1.2.2.2.2.2.1.1 z.1.2.2.2.2.2.2.1.1 z.2.1.1.1 z.2.1.1.2.1 = (u_spec_l25Crease_10 (fun y => some (.inl y)) (hIn x_spec_l25Crease_10 fun x => some (.inr x)) z.1.2.1.1 z.1.2.2.1.1 z.1.2.2.2.1.1 z.1.2.2.2.2.1.1 z.1.2.2.2.2.2.1.1 z.1.2.2.2.2.2.2.1.1 z.2.1.1.1 z.2.1.1.2.1).bind (goOn nx hx)
  unfold u_spec_l25Crease_10
  exact nat_cond (nat_cond (rfl) (nat_bind fun _ => nat_bind fun _ => nat_cond (rfl) (nat_cond (rfl) (nat_bind fun _ => nat_bind fun _ => nat_bind fun _ => nat_bind fun _ => nat_cond (rfl) (rfl))))) (rfl)
noncomputable def w_spec_l25Crease_10 : s_spec_l25Crease_10.T → Option (exT x_spec_l25Crease_10) := wOf @t_spec_l25Crease_10
theorem wq_spec_l25Crease_10 (x1 : List Int) (x2 : List Int) (x3 : Int) (x9 : Int) (x10 : Int) (x12 : Int) (b0_0 : List Int) (b0_1 : List Int) : w_spec_l25Crease_10 (m_spec_l25Crease_10 x1 x2 x3 x9 x10 x12 b0_0 b0_1) = u_spec_l25Crease_10 w_spec_l25Crease_10 (hIn x_spec_l25Crease_10 some) x1 x2 x3 x9 x10 x12 b0_0 b0_1 := wOf_eq nat_spec_l25Crease_10 _
def lh_spec_l25Crease_10 : LoopHint := ⟨[0, 1, 2, 3, 9, 10, 12], [111], [8], []⟩
noncomputable def h_spec_l25Crease : Hints Rv := ⟨fun k => match k with | 5 => lh_spec_l25Crease_5 | 10 => lh_spec_l25Crease_10 | _ => ⟨[], [], [], []⟩, fun k => match k with | 5 => some (loopX s_spec_l25Crease_5 x_spec_l25Crease_5 w_spec_l25Crease_5) | 10 => some (loopX s_spec_l25Crease_10 x_spec_l25Crease_10 w_spec_l25Crease_10) | _ => none⟩
theorem st_spec_l25Crease_5 (n : Nat) (z : s_spec_l25Crease_5.T) (k : Ex → Live → Option Rv) : loopN ⟨111, 112⟩ lh_spec_l25Crease_5 (den (tab C0 T_spec_l25Crease) ⟨111, 112⟩ h_spec_l25Crease 1 (loopOf Try.f74 4)) (n + 1) (s_spec_l25Crease_5.enc z) k =
    t_spec_l25Crease_5 (fun y => loopN ⟨111, 112⟩ lh_spec_l25Crease_5 (den (tab C0 T_spec_l25Crease) ⟨111, 112⟩ h_spec_l25Crease 1 (loopOf Try.f74 4)) n (s_spec_l25Crease_5.enc y) k) (hK k x_spec_l25Crease_5) z := by kernel_rfl
theorem st_spec_l25Crease_10 (n : Nat) (z : s_spec_l25Crease_10.T) (k : Ex → Live → Option Rv) : loopN ⟨111, 112⟩ lh_spec_l25Crease_10 (den (tab C0 T_spec_l25Crease) ⟨111, 112⟩ h_spec_l25Crease 1 (loopOf Try.f74 9)) (n + 1) (s_spec_l25Crease_10.enc z) k =
    t_spec_l25Crease_10 (fun y => loopN ⟨111, 112⟩ lh_spec_l25Crease_10 (den (tab C0 T_spec_l25Crease) ⟨111, 112⟩ h_spec_l25Crease 1 (loopOf Try.f74 9)) n (s_spec_l25Crease_10.enc y) k) (hK k x_spec_l25Crease_10) z := by kernel_rfl
theorem hs_spec_l25Crease : HintsOk (tab C0 T_spec_l25Crease) ⟨111, 112⟩ h_spec_l25Crease 1 (loops (codeOf Try.f74)) := by
  have hl : loops (codeOf Try.f74) = [loopOf Try.f74 4, loopOf Try.f74 9] := by kernel_rfl
  rw [hl]
  exact HintsOk.cons (n := 5) (lh := lh_spec_l25Crease_5) (S := loopX s_spec_l25Crease_5 x_spec_l25Crease_5 w_spec_l25Crease_5) (by kernel_rfl) rfl rfl (loopX_ok nat_spec_l25Crease_5 st_spec_l25Crease_5)
    (HintsOk.cons (n := 10) (lh := lh_spec_l25Crease_10) (S := loopX s_spec_l25Crease_10 x_spec_l25Crease_10 w_spec_l25Crease_10) (by kernel_rfl) rfl rfl (loopX_ok nat_spec_l25Crease_10 st_spec_l25Crease_10)
    (HintsOk.nil))
noncomputable def t_spec_l25Crease {R : Type} (kx : Bool → Option R) (a0 : ((List Int) × (List Int))) (a1 : (List Int)) (a2 : (List Int)) (a3 : Int) : Option R :=
  Option.bind (idx a2 a3) fun y102 =>
  Option.bind (idx a2 (IntKind.wrap IntKind.i64 (a3 + (1 : Int)))) fun y103 =>
  Option.bind (w_spec_l25Crease_5 (m_spec_l25Crease_5 a1 a2 a3 y102 y103 (0 : Int) a0.1 a0.2)) (exC x_spec_l25Crease_5
  (fun e127 =>
   kx (e127.1.2.2.2.2.1.1 : Bool), fun e136 =>
   Option.bind (w_spec_l25Crease_10 (m_spec_l25Crease_10 (e136.1.2.1.1 : List Int) (e136.1.2.2.1.1 : List Int) (e136.1.2.2.2.1.1 : Int) (e136.1.2.2.2.2.2.1.1 : Int) (e136.1.2.2.2.2.2.2.1.1 : Int) (0 : Int) (e136.2.1.1.1 : List Int) (e136.2.1.1.2.1 : List Int))) (exC x_spec_l25Crease_10
   (fun e158 =>
    kx (e158.1.1.1 : Bool), fun _ =>
    kx Bool.true, ())), ()))
noncomputable def g_spec_l25Crease (a0 : ((List Int) × (List Int))) (a1 : (List Int)) (a2 : (List Int)) (a3 : Int) : Option (Bool) := t_spec_l25Crease some a0 a1 a2 a3
theorem nat_spec_l25Crease {R : Type} (kx : Bool → Option R) (a0 : ((List Int) × (List Int))) (a1 : (List Int)) (a2 : (List Int)) (a3 : Int) : t_spec_l25Crease kx a0 a1 a2 a3 = (g_spec_l25Crease a0 a1 a2 a3).bind kx := by
  unfold g_spec_l25Crease t_spec_l25Crease
  exact nat_bind fun _ => nat_bind fun _ => nat_exC ⟨fun _ => rfl, fun _ => nat_exC ⟨fun _ => rfl, fun _ => rfl, trivial⟩, trivial⟩
abbrev as_spec_l25Crease : List AX := [.ptr (.pair (.slice (.int .i64)) (.slice (.int .i64))), .val false (.slice (.int .i64)), .val false (.slice (.int .i64)), .val false (.int .i64)]
abbrev en_spec_l25Crease : Bool → AV × List CV := fun b => (.one ⟨false, [(.v (.bool b))]⟩, [])
noncomputable abbrev k_spec_l25Crease : Contract := .fx as_spec_l25Crease (Bool) (fun z => g_spec_l25Crease z.1 z.2.1 z.2.2.1 z.2.2.2.1) en_spec_l25Crease
theorem r_spec_l25Crease (z : argsX as_spec_l25Crease) : runF (tab C0 T_spec_l25Crease) h_spec_l25Crease 1 Try.f74 (lentOf as_spec_l25Crease) (xBoxes as_spec_l25Crease z) (xVals as_spec_l25Crease 0 z) K2 = t_spec_l25Crease (fun b => some (en_spec_l25Crease b)) z.1 z.2.1 z.2.2.1 z.2.2.2.1 := by kernel_rfl
theorem so_spec_l25Crease : Sound C0 74 k_spec_l25Crease :=
  Sound.fx a_spec_l25Crease mixed Try.func74 (by kernel_rfl) (by kernel_rfl) h_spec_l25Crease 1 hs_spec_l25Crease (fun z => (r_spec_l25Crease z).trans (nat_spec_l25Crease _ z.1 z.2.1 z.2.2.1 z.2.2.2.1))

/-! ### F57 spec.l25Layers -/
noncomputable def T_spec_l25Layers : List (FuncId × Contract) := [(72, k_spec_l25Places), (73, k_spec_l25Kind), (74, k_spec_l25Crease)]
theorem a_spec_l25Layers : AllSound C0 T_spec_l25Layers := .cons so_spec_l25Places (.cons so_spec_l25Kind (.cons so_spec_l25Crease (.nil)))
abbrev s_spec_l25Layers_4 : LS := ⟨[(false, [(.ptr 42 0)]), (false, [(.sl (.int .i64))]), (false, [(.own (.int .i64))]), (false, [(.int .i64)])], [(true, [(.sl (.int .i64)), (.sl (.int .i64))])], []⟩
abbrev e_spec_l25Layers_4_0 : LS := ⟨[(false, [.bool])], [], []⟩
abbrev d_spec_l25Layers_4_0 (v0 : Bool) : e_spec_l25Layers_4_0.T := (((v0, ()), ()), (), ())
abbrev e_spec_l25Layers_4_1 : LS := ⟨[(false, [.undef])], [], []⟩
abbrev d_spec_l25Layers_4_1 : e_spec_l25Layers_4_1.T := ((((), ()), ()), (), ())
abbrev x_spec_l25Layers_4 : List (Ex × LS) := [(.ret, e_spec_l25Layers_4_0), (.exit 0, e_spec_l25Layers_4_1)]
abbrev m_spec_l25Layers_4 (x1 : List Int) (x5 : List Int) (x6 : Int) (b0_0 : List Int) (b0_1 : List Int) : s_spec_l25Layers_4.T := ((((), ()), (x1, ()), (x5, ()), (x6, ()), ()), ((b0_0, b0_1, ()), ()), ())
noncomputable def u_spec_l25Layers_4 {R : Type} (nx : s_spec_l25Layers_4.T → Option R) (hx : exH R x_spec_l25Layers_4) (x1 : List Int) (x5 : List Int) (x6 : Int) (b0_0 : List Int) (b0_1 : List Int) : Option R :=
  cond (decide (x6 < (((List.length b0_1) : Nat) : Int)))
  (Option.bind (idx x1 x6) fun y89 =>
   Option.bind (idx x1 (IntKind.wrap IntKind.i64 (x6 + (1 : Int)))) fun y90 =>
   Option.bind (g_spec_l25Kind (b0_0, b0_1) x6 y89 y90) fun y97 =>
   cond (!y97)
   (hx.1 (d_spec_l25Layers_4_0 Bool.false))
   (Option.bind (g_spec_l25Crease (b0_0, b0_1) x5 x1 x6) fun y161 =>
    cond (!y161)
    (hx.1 (d_spec_l25Layers_4_0 Bool.false))
    (nx (m_spec_l25Layers_4 x1 x5 (IntKind.wrap IntKind.i64 (x6 + (1 : Int))) b0_0 b0_1))))
  (hx.2.1 (d_spec_l25Layers_4_1))
noncomputable def t_spec_l25Layers_4 {R : Type} (nx : s_spec_l25Layers_4.T → Option R) (hx : exH R x_spec_l25Layers_4) (z : s_spec_l25Layers_4.T) : Option R := u_spec_l25Layers_4 nx hx z.1.2.1.1 z.1.2.2.1.1 z.1.2.2.2.1.1 z.2.1.1.1 z.2.1.1.2.1
theorem nat_spec_l25Layers_4 : Natural @t_spec_l25Layers_4 := fun R nx hx z => by
  show u_spec_l25Layers_4 nx hx z.1.2.1.1 z.1.2.2.1.1 z.1.2.2.2.1.1 z.2.1.1.1 z.2.1.1.2.1 = (u_spec_l25Layers_4 (fun y => some (.inl y)) (hIn x_spec_l25Layers_4 fun x => some (.inr x)) z.1.2.1.1 z.1.2.2.1.1 z.1.2.2.2.1.1 z.2.1.1.1 z.2.1.1.2.1).bind (goOn nx hx)
  unfold u_spec_l25Layers_4
  exact nat_cond (nat_bind fun _ => nat_bind fun _ => nat_bind fun _ => nat_cond (rfl) (nat_bind fun _ => nat_cond (rfl) (rfl))) (rfl)
noncomputable def w_spec_l25Layers_4 : s_spec_l25Layers_4.T → Option (exT x_spec_l25Layers_4) := wOf @t_spec_l25Layers_4
theorem wq_spec_l25Layers_4 (x1 : List Int) (x5 : List Int) (x6 : Int) (b0_0 : List Int) (b0_1 : List Int) : w_spec_l25Layers_4 (m_spec_l25Layers_4 x1 x5 x6 b0_0 b0_1) = u_spec_l25Layers_4 w_spec_l25Layers_4 (hIn x_spec_l25Layers_4 some) x1 x5 x6 b0_0 b0_1 := wOf_eq nat_spec_l25Layers_4 _
def lh_spec_l25Layers_4 : LoopHint := ⟨[0, 1, 5, 6], [42], [4], []⟩
noncomputable def h_spec_l25Layers : Hints Rv := ⟨fun k => match k with | 4 => lh_spec_l25Layers_4 | _ => ⟨[], [], [], []⟩, fun k => match k with | 4 => some (loopX s_spec_l25Layers_4 x_spec_l25Layers_4 w_spec_l25Layers_4) | _ => none⟩
theorem st_spec_l25Layers_4 (n : Nat) (z : s_spec_l25Layers_4.T) (k : Ex → Live → Option Rv) : loopN ⟨42, 43⟩ lh_spec_l25Layers_4 (den (tab C0 T_spec_l25Layers) ⟨42, 43⟩ h_spec_l25Layers 1 (loopOf Try.f57 3)) (n + 1) (s_spec_l25Layers_4.enc z) k =
    t_spec_l25Layers_4 (fun y => loopN ⟨42, 43⟩ lh_spec_l25Layers_4 (den (tab C0 T_spec_l25Layers) ⟨42, 43⟩ h_spec_l25Layers 1 (loopOf Try.f57 3)) n (s_spec_l25Layers_4.enc y) k) (hK k x_spec_l25Layers_4) z := by kernel_rfl
theorem hs_spec_l25Layers : HintsOk (tab C0 T_spec_l25Layers) ⟨42, 43⟩ h_spec_l25Layers 1 (loops (codeOf Try.f57)) := by
  have hl : loops (codeOf Try.f57) = [loopOf Try.f57 3] := by kernel_rfl
  rw [hl]
  exact HintsOk.cons (n := 4) (lh := lh_spec_l25Layers_4) (S := loopX s_spec_l25Layers_4 x_spec_l25Layers_4 w_spec_l25Layers_4) (by kernel_rfl) rfl rfl (loopX_ok nat_spec_l25Layers_4 st_spec_l25Layers_4)
    (HintsOk.nil)
noncomputable def t_spec_l25Layers {R : Type} (kx : Bool → Option R) (a0 : ((List Int) × (List Int))) (a1 : (List Int)) : Option R :=
  Option.bind (g_spec_l25Places a0.1) fun y83 =>
  Option.bind (w_spec_l25Layers_4 (m_spec_l25Layers_4 a1 y83 (0 : Int) a0.1 a0.2)) (exC x_spec_l25Layers_4
  (fun e162 =>
   kx (e162.1.1.1 : Bool), fun _ =>
   kx Bool.true, ()))
noncomputable def g_spec_l25Layers (a0 : ((List Int) × (List Int))) (a1 : (List Int)) : Option (Bool) := t_spec_l25Layers some a0 a1
theorem nat_spec_l25Layers {R : Type} (kx : Bool → Option R) (a0 : ((List Int) × (List Int))) (a1 : (List Int)) : t_spec_l25Layers kx a0 a1 = (g_spec_l25Layers a0 a1).bind kx := by
  unfold g_spec_l25Layers t_spec_l25Layers
  exact nat_bind fun _ => nat_exC ⟨fun _ => rfl, fun _ => rfl, trivial⟩
abbrev as_spec_l25Layers : List AX := [.ptr (.pair (.slice (.int .i64)) (.slice (.int .i64))), .val false (.slice (.int .i64))]
abbrev en_spec_l25Layers : Bool → AV × List CV := fun b => (.one ⟨false, [(.v (.bool b))]⟩, [])
noncomputable abbrev k_spec_l25Layers : Contract := .fx as_spec_l25Layers (Bool) (fun z => g_spec_l25Layers z.1 z.2.1) en_spec_l25Layers
theorem r_spec_l25Layers (z : argsX as_spec_l25Layers) : runF (tab C0 T_spec_l25Layers) h_spec_l25Layers 1 Try.f57 (lentOf as_spec_l25Layers) (xBoxes as_spec_l25Layers z) (xVals as_spec_l25Layers 0 z) K2 = t_spec_l25Layers (fun b => some (en_spec_l25Layers b)) z.1 z.2.1 := by kernel_rfl
theorem so_spec_l25Layers : Sound C0 57 k_spec_l25Layers :=
  Sound.fx a_spec_l25Layers mixed Try.func57 (by kernel_rfl) (by kernel_rfl) h_spec_l25Layers 1 hs_spec_l25Layers (fun z => (r_spec_l25Layers z).trans (nat_spec_l25Layers _ z.1 z.2.1))

/-! ### F35 spec.CheckLayers -/
noncomputable def T_spec_CheckLayers : List (FuncId × Contract) := [(38, k_spec_l25Ok), (56, k_spec_l00In), (57, k_spec_l25Layers)]
theorem a_spec_CheckLayers : AllSound C0 T_spec_CheckLayers := .cons so_spec_l25Ok (.cons so_spec_l00In (.cons so_spec_l25Layers (.nil)))
abbrev s_spec_CheckLayers_7 : LS := ⟨[(false, [(.sl (.int .i64))]), (false, [(.ptr 2 0)]), (false, [(.int .i64)]), (false, [(.own .bool)]), (false, [(.int .i64)])], [(false, [(.sl (.int .i64)), (.sl (.int .i64))])], []⟩
abbrev e_spec_CheckLayers_7_0 : LS := ⟨[(false, [(.sl (.int .i64))]), (false, [(.ptr 2 0)]), (false, [.bool])], [(false, [(.sl (.int .i64)), (.sl (.int .i64))])], []⟩
abbrev d_spec_CheckLayers_7_0 (v0 : List Int) (v1 : Bool) (v2 : List Int) (v3 : List Int) : e_spec_CheckLayers_7_0.T := (((v0, ()), ((), ()), (v1, ()), ()), ((v2, v3, ()), ()), ())
abbrev e_spec_CheckLayers_7_1 : LS := ⟨[(false, [(.sl (.int .i64))]), (false, [(.ptr 2 0)]), (false, [.undef])], [(false, [(.sl (.int .i64)), (.sl (.int .i64))])], []⟩
abbrev d_spec_CheckLayers_7_1 (v0 : List Int) (v1 : List Int) (v2 : List Int) : e_spec_CheckLayers_7_1.T := (((v0, ()), ((), ()), ((), ()), ()), ((v1, v2, ()), ()), ())
abbrev x_spec_CheckLayers_7 : List (Ex × LS) := [(.ret, e_spec_CheckLayers_7_0), (.exit 0, e_spec_CheckLayers_7_1)]
abbrev m_spec_CheckLayers_7 (x1 : List Int) (x5 : Int) (x6 : List Bool) (x7 : Int) (b0_0 : List Int) (b0_1 : List Int) : s_spec_CheckLayers_7.T := (((x1, ()), ((), ()), (x5, ()), (x6, ()), (x7, ()), ()), ((b0_0, b0_1, ()), ()), ())
noncomputable def u_spec_CheckLayers_7 {R : Type} (nx : s_spec_CheckLayers_7.T → Option R) (hx : exH R x_spec_CheckLayers_7) (x1 : List Int) (x5 : Int) (x6 : List Bool) (x7 : Int) (b0_0 : List Int) (b0_1 : List Int) : Option R :=
  cond (decide (x7 < x5))
  (Option.bind (idx x1 x7) fun y57 =>
   Option.bind (g_spec_l00In y57 (0 : Int) (IntKind.wrap IntKind.i64 (x5 - (1 : Int)))) fun y58 =>
   cond (!y58)
   (hx.1 (d_spec_CheckLayers_7_0 x1 Bool.false b0_0 b0_1))
   (Option.bind (idx x1 x7) fun y59 =>
    Option.bind (idx x6 y59) fun y60 =>
    cond y60
    (hx.1 (d_spec_CheckLayers_7_0 x1 Bool.false b0_0 b0_1))
    (Option.bind (idx x1 x7) fun y61 =>
     Option.bind (idx x6 y61) fun _ =>
     nx (m_spec_CheckLayers_7 x1 x5 (List.set x6 (0 + (Int.toNat y61)) Bool.true) (IntKind.wrap IntKind.i64 (x7 + (1 : Int))) b0_0 b0_1))))
  (hx.2.1 (d_spec_CheckLayers_7_1 x1 b0_0 b0_1))
noncomputable def t_spec_CheckLayers_7 {R : Type} (nx : s_spec_CheckLayers_7.T → Option R) (hx : exH R x_spec_CheckLayers_7) (z : s_spec_CheckLayers_7.T) : Option R := u_spec_CheckLayers_7 nx hx z.1.1.1 z.1.2.2.1.1 z.1.2.2.2.1.1 z.1.2.2.2.2.1.1 z.2.1.1.1 z.2.1.1.2.1
theorem nat_spec_CheckLayers_7 : Natural @t_spec_CheckLayers_7 := fun R nx hx z => by
  show u_spec_CheckLayers_7 nx hx z.1.1.1 z.1.2.2.1.1 z.1.2.2.2.1.1 z.1.2.2.2.2.1.1 z.2.1.1.1 z.2.1.1.2.1 = (u_spec_CheckLayers_7 (fun y => some (.inl y)) (hIn x_spec_CheckLayers_7 fun x => some (.inr x)) z.1.1.1 z.1.2.2.1.1 z.1.2.2.2.1.1 z.1.2.2.2.2.1.1 z.2.1.1.1 z.2.1.1.2.1).bind (goOn nx hx)
  unfold u_spec_CheckLayers_7
  exact nat_cond (nat_bind fun _ => nat_bind fun _ => nat_cond (rfl) (nat_bind fun _ => nat_bind fun _ => nat_cond (rfl) (nat_bind fun _ => nat_bind fun _ => rfl))) (rfl)
noncomputable def w_spec_CheckLayers_7 : s_spec_CheckLayers_7.T → Option (exT x_spec_CheckLayers_7) := wOf @t_spec_CheckLayers_7
theorem wq_spec_CheckLayers_7 (x1 : List Int) (x5 : Int) (x6 : List Bool) (x7 : Int) (b0_0 : List Int) (b0_1 : List Int) : w_spec_CheckLayers_7 (m_spec_CheckLayers_7 x1 x5 x6 x7 b0_0 b0_1) = u_spec_CheckLayers_7 w_spec_CheckLayers_7 (hIn x_spec_CheckLayers_7 some) x1 x5 x6 x7 b0_0 b0_1 := wOf_eq nat_spec_CheckLayers_7 _
def lh_spec_CheckLayers_7 : LoopHint := ⟨[1, 2, 5, 6, 7], [2], [1, 2, 4], [2]⟩
noncomputable def h_spec_CheckLayers : Hints Rv := ⟨fun k => match k with | 7 => lh_spec_CheckLayers_7 | _ => ⟨[], [], [], []⟩, fun k => match k with | 7 => some (loopX s_spec_CheckLayers_7 x_spec_CheckLayers_7 w_spec_CheckLayers_7) | _ => none⟩
theorem st_spec_CheckLayers_7 (n : Nat) (z : s_spec_CheckLayers_7.T) (k : Ex → Live → Option Rv) : loopN ⟨51, 51⟩ lh_spec_CheckLayers_7 (den (tab C0 T_spec_CheckLayers) ⟨51, 51⟩ h_spec_CheckLayers 1 (loopOf Try.f35 6)) (n + 1) (s_spec_CheckLayers_7.enc z) k =
    t_spec_CheckLayers_7 (fun y => loopN ⟨51, 51⟩ lh_spec_CheckLayers_7 (den (tab C0 T_spec_CheckLayers) ⟨51, 51⟩ h_spec_CheckLayers 1 (loopOf Try.f35 6)) n (s_spec_CheckLayers_7.enc y) k) (hK k x_spec_CheckLayers_7) z := by kernel_rfl
theorem hs_spec_CheckLayers : HintsOk (tab C0 T_spec_CheckLayers) ⟨51, 51⟩ h_spec_CheckLayers 1 (loops (codeOf Try.f35)) := by
  have hl : loops (codeOf Try.f35) = [loopOf Try.f35 6] := by kernel_rfl
  rw [hl]
  exact HintsOk.cons (n := 7) (lh := lh_spec_CheckLayers_7) (S := loopX s_spec_CheckLayers_7 x_spec_CheckLayers_7 w_spec_CheckLayers_7) (by kernel_rfl) rfl rfl (loopX_ok nat_spec_CheckLayers_7 st_spec_CheckLayers_7)
    (HintsOk.nil)
noncomputable def t_spec_CheckLayers {R : Type} (kx : Bool → Option R) (a0 : ((List Int) × (List Int))) (a1 : (List Int)) : Option R :=
  Option.bind (g_spec_l25Ok a0) fun y50 =>
  cond (!y50)
  (kx Bool.false)
  (cond ((((List.length a1) : Nat) : Int) != (((List.length a0.1) : Nat) : Int))
   (kx Bool.false)
   (cond (decide ((((List.length a0.1) : Nat) : Int) ≤ (((List.length a0.1) : Nat) : Int)))
    (cond (decide (((((List.length a0.1) : Nat) : Int) * ((1 : Nat) : Int)) ≤ (70368744177664 : Int)))
     (cond (decide ((((List.length a0.1) : Nat) : Int) ≤ (70368744177664 : Int)))
      (Option.bind (w_spec_CheckLayers_7 (m_spec_CheckLayers_7 a1 (((List.length a0.1) : Nat) : Int) (List.replicate (Int.toNat (((List.length a0.1) : Nat) : Int)) Bool.false) (0 : Int) a0.1 a0.2)) (exC x_spec_CheckLayers_7
       (fun e63 =>
        kx (e63.1.2.2.1.1 : Bool), fun e68 =>
        Option.bind (g_spec_l25Layers ((e68.2.1.1.1 : List Int), (e68.2.1.1.2.1 : List Int)) (e68.1.1.1 : List Int)) fun y165 =>
        kx y165, ())))
      (none))
     (none))
    (none)))
noncomputable def g_spec_CheckLayers (a0 : ((List Int) × (List Int))) (a1 : (List Int)) : Option (Bool) := t_spec_CheckLayers some a0 a1
theorem nat_spec_CheckLayers {R : Type} (kx : Bool → Option R) (a0 : ((List Int) × (List Int))) (a1 : (List Int)) : t_spec_CheckLayers kx a0 a1 = (g_spec_CheckLayers a0 a1).bind kx := by
  unfold g_spec_CheckLayers t_spec_CheckLayers
  exact nat_bind fun _ => nat_cond (rfl) (nat_cond (rfl) (nat_cond (nat_cond (nat_cond (nat_exC ⟨fun _ => rfl, fun _ => nat_bind fun _ => rfl, trivial⟩) (rfl)) (rfl)) (rfl)))
abbrev as_spec_CheckLayers : List AX := [.val true (.pair (.slice (.int .i64)) (.slice (.int .i64))), .val false (.slice (.int .i64))]
abbrev en_spec_CheckLayers : Bool → AV × List CV := fun b => (.one ⟨false, [(.v (.bool b))]⟩, [])
noncomputable abbrev k_spec_CheckLayers : Contract := .fx as_spec_CheckLayers (Bool) (fun z => g_spec_CheckLayers z.1 z.2.1) en_spec_CheckLayers
theorem r_spec_CheckLayers (z : argsX as_spec_CheckLayers) : runF (tab C0 T_spec_CheckLayers) h_spec_CheckLayers 1 Try.f35 (lentOf as_spec_CheckLayers) (xBoxes as_spec_CheckLayers z) (xVals as_spec_CheckLayers 0 z) K2 = t_spec_CheckLayers (fun b => some (en_spec_CheckLayers b)) z.1 z.2.1 := by kernel_rfl
theorem so_spec_CheckLayers : Sound C0 35 k_spec_CheckLayers :=
  Sound.fx a_spec_CheckLayers mixed Try.func35 (by kernel_rfl) (by kernel_rfl) h_spec_CheckLayers 1 hs_spec_CheckLayers (fun z => (r_spec_CheckLayers z).trans (nat_spec_CheckLayers _ z.1 z.2.1))

/-! ### F63 impl.length[int64] -/
noncomputable def T_impl_length_int64 : List (FuncId × Contract) := []
theorem a_impl_length_int64 : AllSound C0 T_impl_length_int64 := .nil
noncomputable def t_impl_length_int64 {R : Type} (kx : Int → Option R) (a0 : (List Int)) : Option R :=
  kx (((List.length a0) : Nat) : Int)
noncomputable def g_impl_length_int64 (a0 : (List Int)) : Option (Int) := t_impl_length_int64 some a0
theorem nat_impl_length_int64 {R : Type} (kx : Int → Option R) (a0 : (List Int)) : t_impl_length_int64 kx a0 = (g_impl_length_int64 a0).bind kx := by
  unfold g_impl_length_int64 t_impl_length_int64
  exact rfl
abbrev as_impl_length_int64 : List AX := [.val false (.slice (.int .i64))]
abbrev en_impl_length_int64 : Int → AV × List CV := fun b => (.one ⟨false, [(.v (.int .i64 b))]⟩, [])
noncomputable abbrev k_impl_length_int64 : Contract := .fx as_impl_length_int64 (Int) (fun z => g_impl_length_int64 z.1) en_impl_length_int64
theorem r_impl_length_int64 (z : argsX as_impl_length_int64) : runF (tab C0 T_impl_length_int64) noHints 1 Try.f63 (lentOf as_impl_length_int64) (xBoxes as_impl_length_int64 z) (xVals as_impl_length_int64 0 z) K2 = t_impl_length_int64 (fun b => some (en_impl_length_int64 b)) z.1 := by kernel_rfl
theorem so_impl_length_int64 : Sound C0 63 k_impl_length_int64 :=
  Sound.fx a_impl_length_int64 mixed Try.func63 (by kernel_rfl) (by kernel_rfl) noHints 1 noHints_ok (fun z => (r_impl_length_int64 z).trans (nat_impl_length_int64 _ z.1))

/-! ### F62 impl.within -/
noncomputable def T_impl_within : List (FuncId × Contract) := []
theorem a_impl_within : AllSound C0 T_impl_within := .nil
noncomputable def t_impl_within {R : Type} (kx : Bool → Option R) (a0 : Int) (a1 : Int) (a2 : Int) : Option R :=
  cond (decide (a0 ≥ a1))
  (kx (decide (a0 ≤ a2)))
  (kx Bool.false)
noncomputable def g_impl_within (a0 : Int) (a1 : Int) (a2 : Int) : Option (Bool) := t_impl_within some a0 a1 a2
theorem nat_impl_within {R : Type} (kx : Bool → Option R) (a0 : Int) (a1 : Int) (a2 : Int) : t_impl_within kx a0 a1 a2 = (g_impl_within a0 a1 a2).bind kx := by
  unfold g_impl_within t_impl_within
  exact nat_cond (rfl) (rfl)
abbrev as_impl_within : List AX := [.val false (.int .i64), .val false (.int .i64), .val false (.int .i64)]
abbrev en_impl_within : Bool → AV × List CV := fun b => (.one ⟨false, [(.v (.bool b))]⟩, [])
noncomputable abbrev k_impl_within : Contract := .fx as_impl_within (Bool) (fun z => g_impl_within z.1 z.2.1 z.2.2.1) en_impl_within
theorem r_impl_within (z : argsX as_impl_within) : runF (tab C0 T_impl_within) noHints 1 Try.f62 (lentOf as_impl_within) (xBoxes as_impl_within z) (xVals as_impl_within 0 z) K2 = t_impl_within (fun b => some (en_impl_within b)) z.1 z.2.1 z.2.2.1 := by kernel_rfl
theorem so_impl_within : Sound C0 62 k_impl_within :=
  Sound.fx a_impl_within mixed Try.func62 (by kernel_rfl) (by kernel_rfl) noHints 1 noHints_ok (fun z => (r_impl_within z).trans (nat_impl_within _ z.1 z.2.1 z.2.2.1))

/-! ### F69 impl.areLengths$1 -/
noncomputable def T_impl_areLengths_1 : List (FuncId × Contract) := [(62, k_impl_within)]
theorem a_impl_areLengths_1 : AllSound C0 T_impl_areLengths_1 := .cons so_impl_within (.nil)
noncomputable def t_impl_areLengths_1 {R : Type} (kx : Bool → Option R) (a0 : Int) : Option R :=
  Option.bind (g_impl_within a0 (1 : Int) (1000 : Int)) fun y186 =>
  kx (!y186)
noncomputable def g_impl_areLengths_1 (a0 : Int) : Option (Bool) := t_impl_areLengths_1 some a0
theorem nat_impl_areLengths_1 {R : Type} (kx : Bool → Option R) (a0 : Int) : t_impl_areLengths_1 kx a0 = (g_impl_areLengths_1 a0).bind kx := by
  unfold g_impl_areLengths_1 t_impl_areLengths_1
  exact nat_bind fun _ => rfl
abbrev as_impl_areLengths_1 : List AX := [.val false (.int .i64)]
abbrev en_impl_areLengths_1 : Bool → AV × List CV := fun b => (.one ⟨false, [(.v (.bool b))]⟩, [])
noncomputable abbrev k_impl_areLengths_1 : Contract := .fx as_impl_areLengths_1 (Bool) (fun z => g_impl_areLengths_1 z.1) en_impl_areLengths_1
theorem r_impl_areLengths_1 (z : argsX as_impl_areLengths_1) : runF (tab C0 T_impl_areLengths_1) noHints 1 Try.f69 (lentOf as_impl_areLengths_1) (xBoxes as_impl_areLengths_1 z) (xVals as_impl_areLengths_1 0 z) K2 = t_impl_areLengths_1 (fun b => some (en_impl_areLengths_1 b)) z.1 := by kernel_rfl
theorem so_impl_areLengths_1 : Sound C0 69 k_impl_areLengths_1 :=
  Sound.fx a_impl_areLengths_1 mixed Try.func69 (by kernel_rfl) (by kernel_rfl) noHints 1 noHints_ok (fun z => (r_impl_areLengths_1 z).trans (nat_impl_areLengths_1 _ z.1))

/-! ### F78 slices.IndexFunc[[]int64,int64] -/
noncomputable def T_slices_IndexFunc_Sint64_int64__impl_areLengths_1 : List (FuncId × Contract) := [(69, k_impl_areLengths_1)]
theorem a_slices_IndexFunc_Sint64_int64__impl_areLengths_1 : AllSound C0 T_slices_IndexFunc_Sint64_int64__impl_areLengths_1 := .cons so_impl_areLengths_1 (.nil)
abbrev s_slices_IndexFunc_Sint64_int64__impl_areLengths_1_3 : LS := ⟨[(false, [(.sl (.int .i64))]), (false, [(.fn 69 [])]), (false, [(.int .i64)]), (false, [(.int .i64)])], [], []⟩
abbrev e_slices_IndexFunc_Sint64_int64__impl_areLengths_1_3_0 : LS := ⟨[(false, [(.int .i64)])], [], []⟩
abbrev d_slices_IndexFunc_Sint64_int64__impl_areLengths_1_3_0 (v0 : Int) : e_slices_IndexFunc_Sint64_int64__impl_areLengths_1_3_0.T := (((v0, ()), ()), (), ())
abbrev e_slices_IndexFunc_Sint64_int64__impl_areLengths_1_3_1 : LS := ⟨[(false, [.undef])], [], []⟩
abbrev d_slices_IndexFunc_Sint64_int64__impl_areLengths_1_3_1 : e_slices_IndexFunc_Sint64_int64__impl_areLengths_1_3_1.T := ((((), ()), ()), (), ())
abbrev x_slices_IndexFunc_Sint64_int64__impl_areLengths_1_3 : List (Ex × LS) := [(.ret, e_slices_IndexFunc_Sint64_int64__impl_areLengths_1_3_0), (.exit 0, e_slices_IndexFunc_Sint64_int64__impl_areLengths_1_3_1)]
abbrev m_slices_IndexFunc_Sint64_int64__impl_areLengths_1_3 (x0 : List Int) (x7 : Int) (x8 : Int) : s_slices_IndexFunc_Sint64_int64__impl_areLengths_1_3.T := (((x0, ()), ((), ()), (x7, ()), (x8, ()), ()), (), ())
noncomputable def u_slices_IndexFunc_Sint64_int64__impl_areLengths_1_3 {R : Type} (nx : s_slices_IndexFunc_Sint64_int64__impl_areLengths_1_3.T → Option R) (hx : exH R x_slices_IndexFunc_Sint64_int64__impl_areLengths_1_3) (x0 : List Int) (x7 : Int) (x8 : Int) : Option R :=
  cond (decide (x8 < x7))
  (Option.bind (idx x0 x8) fun y184 =>
   Option.bind (g_impl_areLengths_1 y184) fun y187 =>
   cond y187
   (hx.1 (d_slices_IndexFunc_Sint64_int64__impl_areLengths_1_3_0 x8))
   (nx (m_slices_IndexFunc_Sint64_int64__impl_areLengths_1_3 x0 x7 (IntKind.wrap IntKind.i64 (x8 + (1 : Int))))))
  (hx.2.1 (d_slices_IndexFunc_Sint64_int64__impl_areLengths_1_3_1))
noncomputable def t_slices_IndexFunc_Sint64_int64__impl_areLengths_1_3 {R : Type} (nx : s_slices_IndexFunc_Sint64_int64__impl_areLengths_1_3.T → Option R) (hx : exH R x_slices_IndexFunc_Sint64_int64__impl_areLengths_1_3) (z : s_slices_IndexFunc_Sint64_int64__impl_areLengths_1_3.T) : Option R := u_slices_IndexFunc_Sint64_int64__impl_areLengths_1_3 nx hx z.1.1.1 z.1.2.2.1.1 z.1.2.2.2.1.1
theorem nat_slices_IndexFunc_Sint64_int64__impl_areLengths_1_3 : Natural @t_slices_IndexFunc_Sint64_int64__impl_areLengths_1_3 := fun R nx hx z => by
  show u_slices_IndexFunc_Sint64_int64__impl_areLengths_1_3 nx hx z.1.1.1 z.1.2.2.1.1 z.1.2.2.2.1.1 = (u_slices_IndexFunc_Sint64_int64__impl_areLengths_1_3 (fun y => some (.inl y)) (hIn x_slices_IndexFunc_Sint64_int64__impl_areLengths_1_3 fun x => some (.inr x)) z.1.1.1 z.1.2.2.1.1 z.1.2.2.2.1.1).bind (goOn nx hx)
  unfold u_slices_IndexFunc_Sint64_int64__impl_areLengths_1_3
  exact nat_cond (nat_bind fun _ => nat_bind fun _ => nat_cond (rfl) (rfl)) (rfl)
noncomputable def w_slices_IndexFunc_Sint64_int64__impl_areLengths_1_3 : s_slices_IndexFunc_Sint64_int64__impl_areLengths_1_3.T → Option (exT x_slices_IndexFunc_Sint64_int64__impl_areLengths_1_3) := wOf @t_slices_IndexFunc_Sint64_int64__impl_areLengths_1_3
theorem wq_slices_IndexFunc_Sint64_int64__impl_areLengths_1_3 (x0 : List Int) (x7 : Int) (x8 : Int) : w_slices_IndexFunc_Sint64_int64__impl_areLengths_1_3 (m_slices_IndexFunc_Sint64_int64__impl_areLengths_1_3 x0 x7 x8) = u_slices_IndexFunc_Sint64_int64__impl_areLengths_1_3 w_slices_IndexFunc_Sint64_int64__impl_areLengths_1_3 (hIn x_slices_IndexFunc_Sint64_int64__impl_areLengths_1_3 some) x0 x7 x8 := wOf_eq nat_slices_IndexFunc_Sint64_int64__impl_areLengths_1_3 _
def lh_slices_IndexFunc_Sint64_int64__impl_areLengths_1_3 : LoopHint := ⟨[0, 1, 7, 8], [], [4], []⟩
noncomputable def h_slices_IndexFunc_Sint64_int64__impl_areLengths_1 : Hints Rv := ⟨fun k => match k with | 3 => lh_slices_IndexFunc_Sint64_int64__impl_areLengths_1_3 | _ => ⟨[], [], [], []⟩, fun k => match k with | 3 => some (loopX s_slices_IndexFunc_Sint64_int64__impl_areLengths_1_3 x_slices_IndexFunc_Sint64_int64__impl_areLengths_1_3 w_slices_IndexFunc_Sint64_int64__impl_areLengths_1_3) | _ => none⟩
theorem st_slices_IndexFunc_Sint64_int64__impl_areLengths_1_3 (n : Nat) (z : s_slices_IndexFunc_Sint64_int64__impl_areLengths_1_3.T) (k : Ex → Live → Option Rv) : loopN ⟨19, 19⟩ lh_slices_IndexFunc_Sint64_int64__impl_areLengths_1_3 (den (tab C0 T_slices_IndexFunc_Sint64_int64__impl_areLengths_1) ⟨19, 19⟩ h_slices_IndexFunc_Sint64_int64__impl_areLengths_1 1 (loopOf Try.f78 2)) (n + 1) (s_slices_IndexFunc_Sint64_int64__impl_areLengths_1_3.enc z) k =
    t_slices_IndexFunc_Sint64_int64__impl_areLengths_1_3 (fun y => loopN ⟨19, 19⟩ lh_slices_IndexFunc_Sint64_int64__impl_areLengths_1_3 (den (tab C0 T_slices_IndexFunc_Sint64_int64__impl_areLengths_1) ⟨19, 19⟩ h_slices_IndexFunc_Sint64_int64__impl_areLengths_1 1 (loopOf Try.f78 2)) n (s_slices_IndexFunc_Sint64_int64__impl_areLengths_1_3.enc y) k) (hK k x_slices_IndexFunc_Sint64_int64__impl_areLengths_1_3) z := by kernel_rfl
theorem hs_slices_IndexFunc_Sint64_int64__impl_areLengths_1 : HintsOk (tab C0 T_slices_IndexFunc_Sint64_int64__impl_areLengths_1) ⟨19, 19⟩ h_slices_IndexFunc_Sint64_int64__impl_areLengths_1 1 (loops (codeOf Try.f78)) := by
  have hl : loops (codeOf Try.f78) = [loopOf Try.f78 2] := by kernel_rfl
  rw [hl]
  exact HintsOk.cons (n := 3) (lh := lh_slices_IndexFunc_Sint64_int64__impl_areLengths_1_3) (S := loopX s_slices_IndexFunc_Sint64_int64__impl_areLengths_1_3 x_slices_IndexFunc_Sint64_int64__impl_areLengths_1_3 w_slices_IndexFunc_Sint64_int64__impl_areLengths_1_3) (by kernel_rfl) rfl rfl (loopX_ok nat_slices_IndexFunc_Sint64_int64__impl_areLengths_1_3 st_slices_IndexFunc_Sint64_int64__impl_areLengths_1_3)
    (HintsOk.nil)
noncomputable def t_slices_IndexFunc_Sint64_int64__impl_areLengths_1 {R : Type} (kx : Int → Option R) (a0 : (List Int)) : Option R :=
  Option.bind (w_slices_IndexFunc_Sint64_int64__impl_areLengths_1_3 (m_slices_IndexFunc_Sint64_int64__impl_areLengths_1_3 a0 (((List.length a0) : Nat) : Int) (0 : Int))) (exC x_slices_IndexFunc_Sint64_int64__impl_areLengths_1_3
  (fun e188 =>
   kx (e188.1.1.1 : Int), fun _ =>
   kx (-(1 : Int)), ()))
noncomputable def g_slices_IndexFunc_Sint64_int64__impl_areLengths_1 (a0 : (List Int)) : Option (Int) := t_slices_IndexFunc_Sint64_int64__impl_areLengths_1 some a0
theorem nat_slices_IndexFunc_Sint64_int64__impl_areLengths_1 {R : Type} (kx : Int → Option R) (a0 : (List Int)) : t_slices_IndexFunc_Sint64_int64__impl_areLengths_1 kx a0 = (g_slices_IndexFunc_Sint64_int64__impl_areLengths_1 a0).bind kx := by
  unfold g_slices_IndexFunc_Sint64_int64__impl_areLengths_1 t_slices_IndexFunc_Sint64_int64__impl_areLengths_1
  exact nat_exC ⟨fun _ => rfl, fun _ => rfl, trivial⟩
abbrev as_slices_IndexFunc_Sint64_int64__impl_areLengths_1 : List AX := [.val false (.slice (.int .i64)), .clo 69 []]
abbrev en_slices_IndexFunc_Sint64_int64__impl_areLengths_1 : Int → AV × List CV := fun b => (.one ⟨false, [(.v (.int .i64 b))]⟩, [])
noncomputable abbrev k_slices_IndexFunc_Sint64_int64__impl_areLengths_1 : Contract := .fx as_slices_IndexFunc_Sint64_int64__impl_areLengths_1 (Int) (fun z => g_slices_IndexFunc_Sint64_int64__impl_areLengths_1 z.1) en_slices_IndexFunc_Sint64_int64__impl_areLengths_1
theorem r_slices_IndexFunc_Sint64_int64__impl_areLengths_1 (z : argsX as_slices_IndexFunc_Sint64_int64__impl_areLengths_1) : runF (tab C0 T_slices_IndexFunc_Sint64_int64__impl_areLengths_1) h_slices_IndexFunc_Sint64_int64__impl_areLengths_1 1 Try.f78 (lentOf as_slices_IndexFunc_Sint64_int64__impl_areLengths_1) (xBoxes as_slices_IndexFunc_Sint64_int64__impl_areLengths_1 z) (xVals as_slices_IndexFunc_Sint64_int64__impl_areLengths_1 0 z) K2 = t_slices_IndexFunc_Sint64_int64__impl_areLengths_1 (fun b => some (en_slices_IndexFunc_Sint64_int64__impl_areLengths_1 b)) z.1 := by kernel_rfl
theorem so_slices_IndexFunc_Sint64_int64__impl_areLengths_1 : Sound C0 78 k_slices_IndexFunc_Sint64_int64__impl_areLengths_1 :=
  Sound.fx a_slices_IndexFunc_Sint64_int64__impl_areLengths_1 mixed Try.func78 (by kernel_rfl) (by kernel_rfl) h_slices_IndexFunc_Sint64_int64__impl_areLengths_1 1 hs_slices_IndexFunc_Sint64_int64__impl_areLengths_1 (fun z => (r_slices_IndexFunc_Sint64_int64__impl_areLengths_1 z).trans (nat_slices_IndexFunc_Sint64_int64__impl_areLengths_1 _ z.1))

/-! ### F60 slices.ContainsFunc[[]int64,int64] -/
noncomputable def T_slices_ContainsFunc_Sint64_int64__impl_areLengths_1 : List (FuncId × Contract) := [(78, k_slices_IndexFunc_Sint64_int64__impl_areLengths_1)]
theorem a_slices_ContainsFunc_Sint64_int64__impl_areLengths_1 : AllSound C0 T_slices_ContainsFunc_Sint64_int64__impl_areLengths_1 := .cons so_slices_IndexFunc_Sint64_int64__impl_areLengths_1 (.nil)
noncomputable def t_slices_ContainsFunc_Sint64_int64__impl_areLengths_1 {R : Type} (kx : Bool → Option R) (a0 : (List Int)) : Option R :=
  Option.bind (g_slices_IndexFunc_Sint64_int64__impl_areLengths_1 a0) fun y191 =>
  kx (decide (y191 ≥ (0 : Int)))
noncomputable def g_slices_ContainsFunc_Sint64_int64__impl_areLengths_1 (a0 : (List Int)) : Option (Bool) := t_slices_ContainsFunc_Sint64_int64__impl_areLengths_1 some a0
theorem nat_slices_ContainsFunc_Sint64_int64__impl_areLengths_1 {R : Type} (kx : Bool → Option R) (a0 : (List Int)) : t_slices_ContainsFunc_Sint64_int64__impl_areLengths_1 kx a0 = (g_slices_ContainsFunc_Sint64_int64__impl_areLengths_1 a0).bind kx := by
  unfold g_slices_ContainsFunc_Sint64_int64__impl_areLengths_1 t_slices_ContainsFunc_Sint64_int64__impl_areLengths_1
  exact nat_bind fun _ => rfl
abbrev as_slices_ContainsFunc_Sint64_int64__impl_areLengths_1 : List AX := [.val false (.slice (.int .i64)), .clo 69 []]
abbrev en_slices_ContainsFunc_Sint64_int64__impl_areLengths_1 : Bool → AV × List CV := fun b => (.one ⟨false, [(.v (.bool b))]⟩, [])
noncomputable abbrev k_slices_ContainsFunc_Sint64_int64__impl_areLengths_1 : Contract := .fx as_slices_ContainsFunc_Sint64_int64__impl_areLengths_1 (Bool) (fun z => g_slices_ContainsFunc_Sint64_int64__impl_areLengths_1 z.1) en_slices_ContainsFunc_Sint64_int64__impl_areLengths_1
theorem r_slices_ContainsFunc_Sint64_int64__impl_areLengths_1 (z : argsX as_slices_ContainsFunc_Sint64_int64__impl_areLengths_1) : runF (tab C0 T_slices_ContainsFunc_Sint64_int64__impl_areLengths_1) noHints 1 Try.f60 (lentOf as_slices_ContainsFunc_Sint64_int64__impl_areLengths_1) (xBoxes as_slices_ContainsFunc_Sint64_int64__impl_areLengths_1 z) (xVals as_slices_ContainsFunc_Sint64_int64__impl_areLengths_1 0 z) K2 = t_slices_ContainsFunc_Sint64_int64__impl_areLengths_1 (fun b => some (en_slices_ContainsFunc_Sint64_int64__impl_areLengths_1 b)) z.1 := by kernel_rfl
theorem so_slices_ContainsFunc_Sint64_int64__impl_areLengths_1 : Sound C0 60 k_slices_ContainsFunc_Sint64_int64__impl_areLengths_1 :=
  Sound.fx a_slices_ContainsFunc_Sint64_int64__impl_areLengths_1 mixed Try.func60 (by kernel_rfl) (by kernel_rfl) noHints 1 noHints_ok (fun z => (r_slices_ContainsFunc_Sint64_int64__impl_areLengths_1 z).trans (nat_slices_ContainsFunc_Sint64_int64__impl_areLengths_1 _ z.1))

/-! ### F70 impl.sumOf -/
noncomputable def T_impl_sumOf : List (FuncId × Contract) := []
theorem a_impl_sumOf : AllSound C0 T_impl_sumOf := .nil
abbrev s_impl_sumOf_4 : LS := ⟨[(false, [(.int .i64)]), (false, [(.sl (.int .i64))]), (false, [(.int .i64)]), (false, [(.int .i64)])], [], []⟩
abbrev e_impl_sumOf_4_0 : LS := ⟨[(false, [(.int .i64)])], [], []⟩
abbrev d_impl_sumOf_4_0 (v0 : Int) : e_impl_sumOf_4_0.T := (((v0, ()), ()), (), ())
abbrev x_impl_sumOf_4 : List (Ex × LS) := [(.exit 0, e_impl_sumOf_4_0)]
abbrev m_impl_sumOf_4 (x3 : Int) (x6 : List Int) (x7 : Int) (x8 : Int) : s_impl_sumOf_4.T := (((x3, ()), (x6, ()), (x7, ()), (x8, ()), ()), (), ())
noncomputable def u_impl_sumOf_4 {R : Type} (nx : s_impl_sumOf_4.T → Option R) (hx : exH R x_impl_sumOf_4) (x3 : Int) (x6 : List Int) (x7 : Int) (x8 : Int) : Option R :=
  cond (decide (x8 < x7))
  (Option.bind (idx x6 x8) fun y198 =>
   nx (m_impl_sumOf_4 (IntKind.wrap IntKind.i64 (x3 + y198)) x6 x7 (IntKind.wrap IntKind.i64 (x8 + (1 : Int)))))
  (hx.1 (d_impl_sumOf_4_0 x3))
noncomputable def t_impl_sumOf_4 {R : Type} (nx : s_impl_sumOf_4.T → Option R) (hx : exH R x_impl_sumOf_4) (z : s_impl_sumOf_4.T) : Option R := u_impl_sumOf_4 nx hx z.1.1.1 z.1.2.1.1 z.1.2.2.1.1 z.1.2.2.2.1.1
theorem nat_impl_sumOf_4 : Natural @t_impl_sumOf_4 := fun R nx hx z => by
  show u_impl_sumOf_4 nx hx z.1.1.1 z.1.2.1.1 z.1.2.2.1.1 z.1.2.2.2.1.1 = (u_impl_sumOf_4 (fun y => some (.inl y)) (hIn x_impl_sumOf_4 fun x => some (.inr x)) z.1.1.1 z.1.2.1.1 z.1.2.2.1.1 z.1.2.2.2.1.1).bind (goOn nx hx)
  unfold u_impl_sumOf_4
  exact nat_cond (nat_bind fun _ => rfl) (rfl)
noncomputable def w_impl_sumOf_4 : s_impl_sumOf_4.T → Option (exT x_impl_sumOf_4) := wOf @t_impl_sumOf_4
theorem wq_impl_sumOf_4 (x3 : Int) (x6 : List Int) (x7 : Int) (x8 : Int) : w_impl_sumOf_4 (m_impl_sumOf_4 x3 x6 x7 x8) = u_impl_sumOf_4 w_impl_sumOf_4 (hIn x_impl_sumOf_4 some) x3 x6 x7 x8 := wOf_eq nat_impl_sumOf_4 _
def lh_impl_sumOf_4 : LoopHint := ⟨[3, 6, 7, 8], [], [3], []⟩
noncomputable def h_impl_sumOf : Hints Rv := ⟨fun k => match k with | 4 => lh_impl_sumOf_4 | _ => ⟨[], [], [], []⟩, fun k => match k with | 4 => some (loopX s_impl_sumOf_4 x_impl_sumOf_4 w_impl_sumOf_4) | _ => none⟩
theorem st_impl_sumOf_4 (n : Nat) (z : s_impl_sumOf_4.T) (k : Ex → Live → Option Rv) : loopN ⟨17, 17⟩ lh_impl_sumOf_4 (den (tab C0 T_impl_sumOf) ⟨17, 17⟩ h_impl_sumOf 1 (loopOf Try.f70 3)) (n + 1) (s_impl_sumOf_4.enc z) k =
    t_impl_sumOf_4 (fun y => loopN ⟨17, 17⟩ lh_impl_sumOf_4 (den (tab C0 T_impl_sumOf) ⟨17, 17⟩ h_impl_sumOf 1 (loopOf Try.f70 3)) n (s_impl_sumOf_4.enc y) k) (hK k x_impl_sumOf_4) z := by kernel_rfl
theorem hs_impl_sumOf : HintsOk (tab C0 T_impl_sumOf) ⟨17, 17⟩ h_impl_sumOf 1 (loops (codeOf Try.f70)) := by
  have hl : loops (codeOf Try.f70) = [loopOf Try.f70 3] := by kernel_rfl
  rw [hl]
  exact HintsOk.cons (n := 4) (lh := lh_impl_sumOf_4) (S := loopX s_impl_sumOf_4 x_impl_sumOf_4 w_impl_sumOf_4) (by kernel_rfl) rfl rfl (loopX_ok nat_impl_sumOf_4 st_impl_sumOf_4)
    (HintsOk.nil)
noncomputable def t_impl_sumOf {R : Type} (kx : Int → Option R) (a0 : (List Int)) : Option R :=
  Option.bind (w_impl_sumOf_4 (m_impl_sumOf_4 (0 : Int) a0 (((List.length a0) : Nat) : Int) (0 : Int))) (exC x_impl_sumOf_4
  (fun e199 =>
   kx (e199.1.1.1 : Int), ()))
noncomputable def g_impl_sumOf (a0 : (List Int)) : Option (Int) := t_impl_sumOf some a0
theorem nat_impl_sumOf {R : Type} (kx : Int → Option R) (a0 : (List Int)) : t_impl_sumOf kx a0 = (g_impl_sumOf a0).bind kx := by
  unfold g_impl_sumOf t_impl_sumOf
  exact nat_exC ⟨fun _ => rfl, trivial⟩
abbrev as_impl_sumOf : List AX := [.val false (.slice (.int .i64))]
abbrev en_impl_sumOf : Int → AV × List CV := fun b => (.one ⟨false, [(.v (.int .i64 b))]⟩, [])
noncomputable abbrev k_impl_sumOf : Contract := .fx as_impl_sumOf (Int) (fun z => g_impl_sumOf z.1) en_impl_sumOf
theorem r_impl_sumOf (z : argsX as_impl_sumOf) : runF (tab C0 T_impl_sumOf) h_impl_sumOf 1 Try.f70 (lentOf as_impl_sumOf) (xBoxes as_impl_sumOf z) (xVals as_impl_sumOf 0 z) K2 = t_impl_sumOf (fun b => some (en_impl_sumOf b)) z.1 := by kernel_rfl
theorem so_impl_sumOf : Sound C0 70 k_impl_sumOf :=
  Sound.fx a_impl_sumOf mixed Try.func70 (by kernel_rfl) (by kernel_rfl) h_impl_sumOf 1 hs_impl_sumOf (fun z => (r_impl_sumOf z).trans (nat_impl_sumOf _ z.1))

/-! ### F51 impl.areLengths -/
noncomputable def T_impl_areLengths : List (FuncId × Contract) := [(63, k_impl_length_int64), (62, k_impl_within), (60, k_slices_ContainsFunc_Sint64_int64__impl_areLengths_1), (70, k_impl_sumOf)]
theorem a_impl_areLengths : AllSound C0 T_impl_areLengths := .cons so_impl_length_int64 (.cons so_impl_within (.cons so_slices_ContainsFunc_Sint64_int64__impl_areLengths_1 (.cons so_impl_sumOf (.nil))))
noncomputable def t_impl_areLengths {R : Type} (kx : Bool → Option R) (a0 : (List Int)) : Option R :=
  Option.bind (g_impl_length_int64 a0) fun y174 =>
  Option.bind (g_impl_within y174 (1 : Int) (14 : Int)) fun y178 =>
  cond y178
  (Option.bind (g_slices_ContainsFunc_Sint64_int64__impl_areLengths_1 a0) fun y192 =>
   cond (!y192)
   (Option.bind (g_impl_sumOf a0) fun y201 =>
    kx (decide (y201 ≤ (1000 : Int))))
   (kx Bool.false))
  (kx Bool.false)
noncomputable def g_impl_areLengths (a0 : (List Int)) : Option (Bool) := t_impl_areLengths some a0
theorem nat_impl_areLengths {R : Type} (kx : Bool → Option R) (a0 : (List Int)) : t_impl_areLengths kx a0 = (g_impl_areLengths a0).bind kx := by
  unfold g_impl_areLengths t_impl_areLengths
  exact nat_bind fun _ => nat_bind fun _ => nat_cond (nat_bind fun _ => nat_cond (nat_bind fun _ => rfl) (rfl)) (rfl)
abbrev as_impl_areLengths : List AX := [.val false (.slice (.int .i64))]
abbrev en_impl_areLengths : Bool → AV × List CV := fun b => (.one ⟨false, [(.v (.bool b))]⟩, [])
noncomputable abbrev k_impl_areLengths : Contract := .fx as_impl_areLengths (Bool) (fun z => g_impl_areLengths z.1) en_impl_areLengths
theorem r_impl_areLengths (z : argsX as_impl_areLengths) : runF (tab C0 T_impl_areLengths) noHints 1 Try.f51 (lentOf as_impl_areLengths) (xBoxes as_impl_areLengths z) (xVals as_impl_areLengths 0 z) K2 = t_impl_areLengths (fun b => some (en_impl_areLengths b)) z.1 := by kernel_rfl
theorem so_impl_areLengths : Sound C0 51 k_impl_areLengths :=
  Sound.fx a_impl_areLengths mixed Try.func51 (by kernel_rfl) (by kernel_rfl) noHints 1 noHints_ok (fun z => (r_impl_areLengths z).trans (nat_impl_areLengths _ z.1))

/-! ### F61 impl.ValidStrip$1 -/
noncomputable def T_impl_ValidStrip_1 : List (FuncId × Contract) := [(62, k_impl_within)]
theorem a_impl_ValidStrip_1 : AllSound C0 T_impl_ValidStrip_1 := .cons so_impl_within (.nil)
noncomputable def t_impl_ValidStrip_1 {R : Type} (kx : Bool → Option R) (a0 : Int) : Option R :=
  Option.bind (g_impl_within a0 (2 : Int) (3 : Int)) fun y210 =>
  kx (!y210)
noncomputable def g_impl_ValidStrip_1 (a0 : Int) : Option (Bool) := t_impl_ValidStrip_1 some a0
theorem nat_impl_ValidStrip_1 {R : Type} (kx : Bool → Option R) (a0 : Int) : t_impl_ValidStrip_1 kx a0 = (g_impl_ValidStrip_1 a0).bind kx := by
  unfold g_impl_ValidStrip_1 t_impl_ValidStrip_1
  exact nat_bind fun _ => rfl
abbrev as_impl_ValidStrip_1 : List AX := [.val false (.int .i64)]
abbrev en_impl_ValidStrip_1 : Bool → AV × List CV := fun b => (.one ⟨false, [(.v (.bool b))]⟩, [])
noncomputable abbrev k_impl_ValidStrip_1 : Contract := .fx as_impl_ValidStrip_1 (Bool) (fun z => g_impl_ValidStrip_1 z.1) en_impl_ValidStrip_1
theorem r_impl_ValidStrip_1 (z : argsX as_impl_ValidStrip_1) : runF (tab C0 T_impl_ValidStrip_1) noHints 1 Try.f61 (lentOf as_impl_ValidStrip_1) (xBoxes as_impl_ValidStrip_1 z) (xVals as_impl_ValidStrip_1 0 z) K2 = t_impl_ValidStrip_1 (fun b => some (en_impl_ValidStrip_1 b)) z.1 := by kernel_rfl
theorem so_impl_ValidStrip_1 : Sound C0 61 k_impl_ValidStrip_1 :=
  Sound.fx a_impl_ValidStrip_1 mixed Try.func61 (by kernel_rfl) (by kernel_rfl) noHints 1 noHints_ok (fun z => (r_impl_ValidStrip_1 z).trans (nat_impl_ValidStrip_1 _ z.1))

/-! ### F78 slices.IndexFunc[[]int64,int64] -/
noncomputable def T_slices_IndexFunc_Sint64_int64__impl_ValidStrip_1 : List (FuncId × Contract) := [(61, k_impl_ValidStrip_1)]
theorem a_slices_IndexFunc_Sint64_int64__impl_ValidStrip_1 : AllSound C0 T_slices_IndexFunc_Sint64_int64__impl_ValidStrip_1 := .cons so_impl_ValidStrip_1 (.nil)
abbrev s_slices_IndexFunc_Sint64_int64__impl_ValidStrip_1_3 : LS := ⟨[(false, [(.sl (.int .i64))]), (false, [(.fn 61 [])]), (false, [(.int .i64)]), (false, [(.int .i64)])], [], []⟩
abbrev e_slices_IndexFunc_Sint64_int64__impl_ValidStrip_1_3_0 : LS := ⟨[(false, [(.int .i64)])], [], []⟩
abbrev d_slices_IndexFunc_Sint64_int64__impl_ValidStrip_1_3_0 (v0 : Int) : e_slices_IndexFunc_Sint64_int64__impl_ValidStrip_1_3_0.T := (((v0, ()), ()), (), ())
abbrev e_slices_IndexFunc_Sint64_int64__impl_ValidStrip_1_3_1 : LS := ⟨[(false, [.undef])], [], []⟩
abbrev d_slices_IndexFunc_Sint64_int64__impl_ValidStrip_1_3_1 : e_slices_IndexFunc_Sint64_int64__impl_ValidStrip_1_3_1.T := ((((), ()), ()), (), ())
abbrev x_slices_IndexFunc_Sint64_int64__impl_ValidStrip_1_3 : List (Ex × LS) := [(.ret, e_slices_IndexFunc_Sint64_int64__impl_ValidStrip_1_3_0), (.exit 0, e_slices_IndexFunc_Sint64_int64__impl_ValidStrip_1_3_1)]
abbrev m_slices_IndexFunc_Sint64_int64__impl_ValidStrip_1_3 (x0 : List Int) (x7 : Int) (x8 : Int) : s_slices_IndexFunc_Sint64_int64__impl_ValidStrip_1_3.T := (((x0, ()), ((), ()), (x7, ()), (x8, ()), ()), (), ())
noncomputable def u_slices_IndexFunc_Sint64_int64__impl_ValidStrip_1_3 {R : Type} (nx : s_slices_IndexFunc_Sint64_int64__impl_ValidStrip_1_3.T → Option R) (hx : exH R x_slices_IndexFunc_Sint64_int64__impl_ValidStrip_1_3) (x0 : List Int) (x7 : Int) (x8 : Int) : Option R :=
  cond (decide (x8 < x7))
  (Option.bind (idx x0 x8) fun y208 =>
   Option.bind (g_impl_ValidStrip_1 y208) fun y211 =>
   cond y211
   (hx.1 (d_slices_IndexFunc_Sint64_int64__impl_ValidStrip_1_3_0 x8))
   (nx (m_slices_IndexFunc_Sint64_int64__impl_ValidStrip_1_3 x0 x7 (IntKind.wrap IntKind.i64 (x8 + (1 : Int))))))
  (hx.2.1 (d_slices_IndexFunc_Sint64_int64__impl_ValidStrip_1_3_1))
noncomputable def t_slices_IndexFunc_Sint64_int64__impl_ValidStrip_1_3 {R : Type} (nx : s_slices_IndexFunc_Sint64_int64__impl_ValidStrip_1_3.T → Option R) (hx : exH R x_slices_IndexFunc_Sint64_int64__impl_ValidStrip_1_3) (z : s_slices_IndexFunc_Sint64_int64__impl_ValidStrip_1_3.T) : Option R := u_slices_IndexFunc_Sint64_int64__impl_ValidStrip_1_3 nx hx z.1.1.1 z.1.2.2.1.1 z.1.2.2.2.1.1
theorem nat_slices_IndexFunc_Sint64_int64__impl_ValidStrip_1_3 : Natural @t_slices_IndexFunc_Sint64_int64__impl_ValidStrip_1_3 := fun R nx hx z => by
  show u_slices_IndexFunc_Sint64_int64__impl_ValidStrip_1_3 nx hx z.1.1.1 z.1.2.2.1.1 z.1.2.2.2.1.1 = (u_slices_IndexFunc_Sint64_int64__impl_ValidStrip_1_3 (fun y => some (.inl y)) (hIn x_slices_IndexFunc_Sint64_int64__impl_ValidStrip_1_3 fun x => some (.inr x)) z.1.1.1 z.1.2.2.1.1 z.1.2.2.2.1.1).bind (goOn nx hx)
  unfold u_slices_IndexFunc_Sint64_int64__impl_ValidStrip_1_3
  exact nat_cond (nat_bind fun _ => nat_bind fun _ => nat_cond (rfl) (rfl)) (rfl)
noncomputable def w_slices_IndexFunc_Sint64_int64__impl_ValidStrip_1_3 : s_slices_IndexFunc_Sint64_int64__impl_ValidStrip_1_3.T → Option (exT x_slices_IndexFunc_Sint64_int64__impl_ValidStrip_1_3) := wOf @t_slices_IndexFunc_Sint64_int64__impl_ValidStrip_1_3
theorem wq_slices_IndexFunc_Sint64_int64__impl_ValidStrip_1_3 (x0 : List Int) (x7 : Int) (x8 : Int) : w_slices_IndexFunc_Sint64_int64__impl_ValidStrip_1_3 (m_slices_IndexFunc_Sint64_int64__impl_ValidStrip_1_3 x0 x7 x8) = u_slices_IndexFunc_Sint64_int64__impl_ValidStrip_1_3 w_slices_IndexFunc_Sint64_int64__impl_ValidStrip_1_3 (hIn x_slices_IndexFunc_Sint64_int64__impl_ValidStrip_1_3 some) x0 x7 x8 := wOf_eq nat_slices_IndexFunc_Sint64_int64__impl_ValidStrip_1_3 _
def lh_slices_IndexFunc_Sint64_int64__impl_ValidStrip_1_3 : LoopHint := ⟨[0, 1, 7, 8], [], [4], []⟩
noncomputable def h_slices_IndexFunc_Sint64_int64__impl_ValidStrip_1 : Hints Rv := ⟨fun k => match k with | 3 => lh_slices_IndexFunc_Sint64_int64__impl_ValidStrip_1_3 | _ => ⟨[], [], [], []⟩, fun k => match k with | 3 => some (loopX s_slices_IndexFunc_Sint64_int64__impl_ValidStrip_1_3 x_slices_IndexFunc_Sint64_int64__impl_ValidStrip_1_3 w_slices_IndexFunc_Sint64_int64__impl_ValidStrip_1_3) | _ => none⟩
theorem st_slices_IndexFunc_Sint64_int64__impl_ValidStrip_1_3 (n : Nat) (z : s_slices_IndexFunc_Sint64_int64__impl_ValidStrip_1_3.T) (k : Ex → Live → Option Rv) : loopN ⟨19, 19⟩ lh_slices_IndexFunc_Sint64_int64__impl_ValidStrip_1_3 (den (tab C0 T_slices_IndexFunc_Sint64_int64__impl_ValidStrip_1) ⟨19, 19⟩ h_slices_IndexFunc_Sint64_int64__impl_ValidStrip_1 1 (loopOf Try.f78 2)) (n + 1) (s_slices_IndexFunc_Sint64_int64__impl_ValidStrip_1_3.enc z) k =
    t_slices_IndexFunc_Sint64_int64__impl_ValidStrip_1_3 (fun y => loopN ⟨19, 19⟩ lh_slices_IndexFunc_Sint64_int64__impl_ValidStrip_1_3 (den (tab C0 T_slices_IndexFunc_Sint64_int64__impl_ValidStrip_1) ⟨19, 19⟩ h_slices_IndexFunc_Sint64_int64__impl_ValidStrip_1 1 (loopOf Try.f78 2)) n (s_slices_IndexFunc_Sint64_int64__impl_ValidStrip_1_3.enc y) k) (hK k x_slices_IndexFunc_Sint64_int64__impl_ValidStrip_1_3) z := by kernel_rfl
theorem hs_slices_IndexFunc_Sint64_int64__impl_ValidStrip_1 : HintsOk (tab C0 T_slices_IndexFunc_Sint64_int64__impl_ValidStrip_1) ⟨19, 19⟩ h_slices_IndexFunc_Sint64_int64__impl_ValidStrip_1 1 (loops (codeOf Try.f78)) := by
  have hl : loops (codeOf Try.f78) = [loopOf Try.f78 2] := by kernel_rfl
  rw [hl]
  exact HintsOk.cons (n := 3) (lh := lh_slices_IndexFunc_Sint64_int64__impl_ValidStrip_1_3) (S := loopX s_slices_IndexFunc_Sint64_int64__impl_ValidStrip_1_3 x_slices_IndexFunc_Sint64_int64__impl_ValidStrip_1_3 w_slices_IndexFunc_Sint64_int64__impl_ValidStrip_1_3) (by kernel_rfl) rfl rfl (loopX_ok nat_slices_IndexFunc_Sint64_int64__impl_ValidStrip_1_3 st_slices_IndexFunc_Sint64_int64__impl_ValidStrip_1_3)
    (HintsOk.nil)
noncomputable def t_slices_IndexFunc_Sint64_int64__impl_ValidStrip_1 {R : Type} (kx : Int → Option R) (a0 : (List Int)) : Option R :=
  Option.bind (w_slices_IndexFunc_Sint64_int64__impl_ValidStrip_1_3 (m_slices_IndexFunc_Sint64_int64__impl_ValidStrip_1_3 a0 (((List.length a0) : Nat) : Int) (0 : Int))) (exC x_slices_IndexFunc_Sint64_int64__impl_ValidStrip_1_3
  (fun e212 =>
   kx (e212.1.1.1 : Int), fun _ =>
   kx (-(1 : Int)), ()))
noncomputable def g_slices_IndexFunc_Sint64_int64__impl_ValidStrip_1 (a0 : (List Int)) : Option (Int) := t_slices_IndexFunc_Sint64_int64__impl_ValidStrip_1 some a0
theorem nat_slices_IndexFunc_Sint64_int64__impl_ValidStrip_1 {R : Type} (kx : Int → Option R) (a0 : (List Int)) : t_slices_IndexFunc_Sint64_int64__impl_ValidStrip_1 kx a0 = (g_slices_IndexFunc_Sint64_int64__impl_ValidStrip_1 a0).bind kx := by
  unfold g_slices_IndexFunc_Sint64_int64__impl_ValidStrip_1 t_slices_IndexFunc_Sint64_int64__impl_ValidStrip_1
  exact nat_exC ⟨fun _ => rfl, fun _ => rfl, trivial⟩
abbrev as_slices_IndexFunc_Sint64_int64__impl_ValidStrip_1 : List AX := [.val false (.slice (.int .i64)), .clo 61 []]
abbrev en_slices_IndexFunc_Sint64_int64__impl_ValidStrip_1 : Int → AV × List CV := fun b => (.one ⟨false, [(.v (.int .i64 b))]⟩, [])
noncomputable abbrev k_slices_IndexFunc_Sint64_int64__impl_ValidStrip_1 : Contract := .fx as_slices_IndexFunc_Sint64_int64__impl_ValidStrip_1 (Int) (fun z => g_slices_IndexFunc_Sint64_int64__impl_ValidStrip_1 z.1) en_slices_IndexFunc_Sint64_int64__impl_ValidStrip_1
theorem r_slices_IndexFunc_Sint64_int64__impl_ValidStrip_1 (z : argsX as_slices_IndexFunc_Sint64_int64__impl_ValidStrip_1) : runF (tab C0 T_slices_IndexFunc_Sint64_int64__impl_ValidStrip_1) h_slices_IndexFunc_Sint64_int64__impl_ValidStrip_1 1 Try.f78 (lentOf as_slices_IndexFunc_Sint64_int64__impl_ValidStrip_1) (xBoxes as_slices_IndexFunc_Sint64_int64__impl_ValidStrip_1 z) (xVals as_slices_IndexFunc_Sint64_int64__impl_ValidStrip_1 0 z) K2 = t_slices_IndexFunc_Sint64_int64__impl_ValidStrip_1 (fun b => some (en_slices_IndexFunc_Sint64_int64__impl_ValidStrip_1 b)) z.1 := by kernel_rfl
theorem so_slices_IndexFunc_Sint64_int64__impl_ValidStrip_1 : Sound C0 78 k_slices_IndexFunc_Sint64_int64__impl_ValidStrip_1 :=
  Sound.fx a_slices_IndexFunc_Sint64_int64__impl_ValidStrip_1 mixed Try.func78 (by kernel_rfl) (by kernel_rfl) h_slices_IndexFunc_Sint64_int64__impl_ValidStrip_1 1 hs_slices_IndexFunc_Sint64_int64__impl_ValidStrip_1 (fun z => (r_slices_IndexFunc_Sint64_int64__impl_ValidStrip_1 z).trans (nat_slices_IndexFunc_Sint64_int64__impl_ValidStrip_1 _ z.1))

/-! ### F60 slices.ContainsFunc[[]int64,int64] -/
noncomputable def T_slices_ContainsFunc_Sint64_int64__impl_ValidStrip_1 : List (FuncId × Contract) := [(78, k_slices_IndexFunc_Sint64_int64__impl_ValidStrip_1)]
theorem a_slices_ContainsFunc_Sint64_int64__impl_ValidStrip_1 : AllSound C0 T_slices_ContainsFunc_Sint64_int64__impl_ValidStrip_1 := .cons so_slices_IndexFunc_Sint64_int64__impl_ValidStrip_1 (.nil)
noncomputable def t_slices_ContainsFunc_Sint64_int64__impl_ValidStrip_1 {R : Type} (kx : Bool → Option R) (a0 : (List Int)) : Option R :=
  Option.bind (g_slices_IndexFunc_Sint64_int64__impl_ValidStrip_1 a0) fun y215 =>
  kx (decide (y215 ≥ (0 : Int)))
noncomputable def g_slices_ContainsFunc_Sint64_int64__impl_ValidStrip_1 (a0 : (List Int)) : Option (Bool) := t_slices_ContainsFunc_Sint64_int64__impl_ValidStrip_1 some a0
theorem nat_slices_ContainsFunc_Sint64_int64__impl_ValidStrip_1 {R : Type} (kx : Bool → Option R) (a0 : (List Int)) : t_slices_ContainsFunc_Sint64_int64__impl_ValidStrip_1 kx a0 = (g_slices_ContainsFunc_Sint64_int64__impl_ValidStrip_1 a0).bind kx := by
  unfold g_slices_ContainsFunc_Sint64_int64__impl_ValidStrip_1 t_slices_ContainsFunc_Sint64_int64__impl_ValidStrip_1
  exact nat_bind fun _ => rfl
abbrev as_slices_ContainsFunc_Sint64_int64__impl_ValidStrip_1 : List AX := [.val false (.slice (.int .i64)), .clo 61 []]
abbrev en_slices_ContainsFunc_Sint64_int64__impl_ValidStrip_1 : Bool → AV × List CV := fun b => (.one ⟨false, [(.v (.bool b))]⟩, [])
noncomputable abbrev k_slices_ContainsFunc_Sint64_int64__impl_ValidStrip_1 : Contract := .fx as_slices_ContainsFunc_Sint64_int64__impl_ValidStrip_1 (Bool) (fun z => g_slices_ContainsFunc_Sint64_int64__impl_ValidStrip_1 z.1) en_slices_ContainsFunc_Sint64_int64__impl_ValidStrip_1
theorem r_slices_ContainsFunc_Sint64_int64__impl_ValidStrip_1 (z : argsX as_slices_ContainsFunc_Sint64_int64__impl_ValidStrip_1) : runF (tab C0 T_slices_ContainsFunc_Sint64_int64__impl_ValidStrip_1) noHints 1 Try.f60 (lentOf as_slices_ContainsFunc_Sint64_int64__impl_ValidStrip_1) (xBoxes as_slices_ContainsFunc_Sint64_int64__impl_ValidStrip_1 z) (xVals as_slices_ContainsFunc_Sint64_int64__impl_ValidStrip_1 0 z) K2 = t_slices_ContainsFunc_Sint64_int64__impl_ValidStrip_1 (fun b => some (en_slices_ContainsFunc_Sint64_int64__impl_ValidStrip_1 b)) z.1 := by kernel_rfl
theorem so_slices_ContainsFunc_Sint64_int64__impl_ValidStrip_1 : Sound C0 60 k_slices_ContainsFunc_Sint64_int64__impl_ValidStrip_1 :=
  Sound.fx a_slices_ContainsFunc_Sint64_int64__impl_ValidStrip_1 mixed Try.func60 (by kernel_rfl) (by kernel_rfl) noHints 1 noHints_ok (fun z => (r_slices_ContainsFunc_Sint64_int64__impl_ValidStrip_1 z).trans (nat_slices_ContainsFunc_Sint64_int64__impl_ValidStrip_1 _ z.1))

/-! ### F40 impl.ValidStrip -/
noncomputable def T_impl_ValidStrip : List (FuncId × Contract) := [(51, k_impl_areLengths), (60, k_slices_ContainsFunc_Sint64_int64__impl_ValidStrip_1)]
theorem a_impl_ValidStrip : AllSound C0 T_impl_ValidStrip := .cons so_impl_areLengths (.cons so_slices_ContainsFunc_Sint64_int64__impl_ValidStrip_1 (.nil))
noncomputable def t_impl_ValidStrip {R : Type} (kx : Bool → Option R) (a0 : ((List Int) × (List Int))) : Option R :=
  Option.bind (g_impl_areLengths a0.1) fun y202 =>
  cond y202
  (cond ((((List.length a0.2) : Nat) : Int) == (IntKind.wrap IntKind.i64 ((((List.length a0.1) : Nat) : Int) - (1 : Int))))
   (Option.bind (g_slices_ContainsFunc_Sint64_int64__impl_ValidStrip_1 a0.2) fun y216 =>
    kx (!y216))
   (kx Bool.false))
  (kx Bool.false)
noncomputable def g_impl_ValidStrip (a0 : ((List Int) × (List Int))) : Option (Bool) := t_impl_ValidStrip some a0
theorem nat_impl_ValidStrip {R : Type} (kx : Bool → Option R) (a0 : ((List Int) × (List Int))) : t_impl_ValidStrip kx a0 = (g_impl_ValidStrip a0).bind kx := by
  unfold g_impl_ValidStrip t_impl_ValidStrip
  exact nat_bind fun _ => nat_cond (nat_cond (nat_bind fun _ => rfl) (rfl)) (rfl)
abbrev as_impl_ValidStrip : List AX := [.val true (.pair (.slice (.int .i64)) (.slice (.int .i64)))]
abbrev en_impl_ValidStrip : Bool → AV × List CV := fun b => (.one ⟨false, [(.v (.bool b))]⟩, [])
noncomputable abbrev k_impl_ValidStrip : Contract := .fx as_impl_ValidStrip (Bool) (fun z => g_impl_ValidStrip z.1) en_impl_ValidStrip
theorem r_impl_ValidStrip (z : argsX as_impl_ValidStrip) : runF (tab C0 T_impl_ValidStrip) noHints 1 Try.f40 (lentOf as_impl_ValidStrip) (xBoxes as_impl_ValidStrip z) (xVals as_impl_ValidStrip 0 z) K2 = t_impl_ValidStrip (fun b => some (en_impl_ValidStrip b)) z.1 := by kernel_rfl
theorem so_impl_ValidStrip : Sound C0 40 k_impl_ValidStrip :=
  Sound.fx a_impl_ValidStrip mixed Try.func40 (by kernel_rfl) (by kernel_rfl) noHints 1 noHints_ok (fun z => (r_impl_ValidStrip z).trans (nat_impl_ValidStrip _ z.1))

/-! ### F66 slices.Clone[[]int64,int64] -/
noncomputable def T_slices_Clone_Sint64_int64_n : List (FuncId × Contract) := []
theorem a_slices_Clone_Sint64_int64_n : AllSound C0 T_slices_Clone_Sint64_int64_n := .nil
noncomputable def t_slices_Clone_Sint64_int64_n {R : Type} (kx : (List Int) → Option R) (a0 : (List Int)) : Option R :=
  cond (decide (0 < (List.length a0)))
  (cond (decide ((((List.length ([] : List Int)) + (List.length a0)) * 8) ≤ 70368744177664))
   (cond (decide (((List.length ([] : List Int)) + (List.length a0)) ≤ 70368744177664))
    (kx ([] ++ a0))
    (none))
   (none))
  (none)
noncomputable def g_slices_Clone_Sint64_int64_n (a0 : (List Int)) : Option ((List Int)) := t_slices_Clone_Sint64_int64_n some a0
theorem nat_slices_Clone_Sint64_int64_n {R : Type} (kx : (List Int) → Option R) (a0 : (List Int)) : t_slices_Clone_Sint64_int64_n kx a0 = (g_slices_Clone_Sint64_int64_n a0).bind kx := by
  unfold g_slices_Clone_Sint64_int64_n t_slices_Clone_Sint64_int64_n
  exact nat_cond (nat_cond (nat_cond (rfl) (rfl)) (rfl)) (rfl)
abbrev as_slices_Clone_Sint64_int64_n : List AX := [.val false (.slice (.int .i64))]
abbrev en_slices_Clone_Sint64_int64_n : (List Int) → AV × List CV := fun b => (.one ⟨false, [(.own (.int .i64) b)]⟩, [])
noncomputable abbrev k_slices_Clone_Sint64_int64_n : Contract := .fx as_slices_Clone_Sint64_int64_n ((List Int)) (fun z => g_slices_Clone_Sint64_int64_n z.1) en_slices_Clone_Sint64_int64_n
theorem r_slices_Clone_Sint64_int64_n (z : argsX as_slices_Clone_Sint64_int64_n) : runF (tab C0 T_slices_Clone_Sint64_int64_n) noHints 1 Try.f66 (lentOf as_slices_Clone_Sint64_int64_n) (xBoxes as_slices_Clone_Sint64_int64_n z) (xVals as_slices_Clone_Sint64_int64_n 0 z) K2 = t_slices_Clone_Sint64_int64_n (fun b => some (en_slices_Clone_Sint64_int64_n b)) z.1 := by kernel_rfl
theorem so_slices_Clone_Sint64_int64_n : Sound C0 66 k_slices_Clone_Sint64_int64_n :=
  Sound.fx a_slices_Clone_Sint64_int64_n mixed Try.func66 (by kernel_rfl) (by kernel_rfl) noHints 1 noHints_ok (fun z => (r_slices_Clone_Sint64_int64_n z).trans (nat_slices_Clone_Sint64_int64_n _ z.1))
theorem e_slices_Clone_Sint64_int64 : Sound C0 66 (Contract.emptyS (.int .i64)) :=
  Sound.emptyRun mixed Try.func66 (by kernel_rfl) (by kernel_rfl) (fun _ => rfl) (fun A c => by cases A <;> kernel_rfl)
noncomputable def g_slices_Clone_Sint64_int64 (a0 : (List Int)) : Option ((List Int)) := cond (decide (List.length a0 ≤ 4000000)) (some a0) none
abbrev as_slices_Clone_Sint64_int64 : List AX := [.val false (.slice (.int .i64))]
abbrev en_slices_Clone_Sint64_int64 : (List Int) → AV × List CV := fun b => (.one ⟨false, [(.own (.int .i64) b)]⟩, [])
noncomputable abbrev k_slices_Clone_Sint64_int64 : Contract := .fx as_slices_Clone_Sint64_int64 ((List Int)) (fun z => g_slices_Clone_Sint64_int64 z.1) en_slices_Clone_Sint64_int64
theorem so_slices_Clone_Sint64_int64 : Sound C0 66 k_slices_Clone_Sint64_int64 := by
  refine Sound.orEmpty so_slices_Clone_Sint64_int64_n (g' := g_slices_Clone_Sint64_int64) (fun l y h hne => ?_) (fun y h => ?_) e_slices_Clone_Sint64_int64
  · show g_slices_Clone_Sint64_int64_n l = some y
    unfold g_slices_Clone_Sint64_int64 at h
    cases hd : decide (List.length l ≤ 4000000) with
    | false => rw [hd] at h; cases h
    | true =>
      rw [hd] at h; cases h
      have h1 := of_decide_eq_true hd
      have h2 : 0 < List.length l := List.length_pos_iff.2 hne
      unfold g_slices_Clone_Sint64_int64_n t_slices_Clone_Sint64_int64_n
      simp only [List.length_nil, Nat.zero_add, List.nil_append]
      rw [decide_eq_true h2, decide_eq_true (by omega), decide_eq_true (by omega)]; rfl
  · cases h; rfl

/-! ### F101 math/bits.Len64 -/
noncomputable def T_math_bits_Len64 : List (FuncId × Contract) := []
theorem a_math_bits_Len64 : AllSound C0 T_math_bits_Len64 := .nil
noncomputable def t_math_bits_Len64 {R : Type} (kx : Int → Option R) (a0 : Int) : Option R :=
  cond (decide (a0 ≥ (4294967296 : Int)))
  (cond (decide ((Int.fdiv a0 ((2 : Int) ^ (Min.min (Int.toNat (32 : Int)) 64))) ≥ (65536 : Int)))
   (cond (decide ((Int.fdiv (Int.fdiv a0 ((2 : Int) ^ (Min.min (Int.toNat (32 : Int)) 64))) ((2 : Int) ^ (Min.min (Int.toNat (16 : Int)) 64))) ≥ (256 : Int)))
    (Option.bind (idxB (ByteArray.mk (Array.mk (List.append (List.append [0, 1, 2, 2, 3, 3, 3, 3, 4, 4, 4, 4, 4, 4, 4, 4, 5, 5, 5, 5, 5, 5, 5, 5, 5, 5, 5, 5, 5, 5, 5, 5, 6, 6, 6, 6, 6, 6, 6, 6, 6, 6, 6, 6, 6, 6, 6, 6, 6, 6, 6, 6, 6, 6, 6, 6, 6, 6, 6, 6, 6, 6, 6, 6] [7, 7, 7, 7, 7, 7, 7, 7, 7, 7, 7, 7, 7, 7, 7, 7, 7, 7, 7, 7, 7, 7, 7, 7, 7, 7, 7, 7, 7, 7, 7, 7, 7, 7, 7, 7, 7, 7, 7, 7, 7, 7, 7, 7, 7, 7, 7, 7, 7, 7, 7, 7, 7, 7, 7, 7, 7, 7, 7, 7, 7, 7, 7, 7]) (List.append [8, 8, 8, 8, 8, 8, 8, 8, 8, 8, 8, 8, 8, 8, 8, 8, 8, 8, 8, 8, 8, 8, 8, 8, 8, 8, 8, 8, 8, 8, 8, 8, 8, 8, 8, 8, 8, 8, 8, 8, 8, 8, 8, 8, 8, 8, 8, 8, 8, 8, 8, 8, 8, 8, 8, 8, 8, 8, 8, 8, 8, 8, 8, 8] [8, 8, 8, 8, 8, 8, 8, 8, 8, 8, 8, 8, 8, 8, 8, 8, 8, 8, 8, 8, 8, 8, 8, 8, 8, 8, 8, 8, 8, 8, 8, 8, 8, 8, 8, 8, 8, 8, 8, 8, 8, 8, 8, 8, 8, 8, 8, 8, 8, 8, 8, 8, 8, 8, 8, 8, 8, 8, 8, 8, 8, 8, 8, 8])))) (IntKind.wrap IntKind.u8 (Int.fdiv (Int.fdiv (Int.fdiv a0 ((2 : Int) ^ (Min.min (Int.toNat (32 : Int)) 64))) ((2 : Int) ^ (Min.min (Int.toNat (16 : Int)) 64))) ((2 : Int) ^ (Min.min (Int.toNat (8 : Int)) 64))))) fun y225 =>
     kx (IntKind.wrap IntKind.i64 ((IntKind.wrap IntKind.i64 ((IntKind.wrap IntKind.i64 ((32 : Int) + (16 : Int))) + (8 : Int))) + (IntKind.wrap IntKind.i64 (((UInt8.toNat y225) : Nat) : Int)))))
    (Option.bind (idxB (ByteArray.mk (Array.mk (List.append (List.append [0, 1, 2, 2, 3, 3, 3, 3, 4, 4, 4, 4, 4, 4, 4, 4, 5, 5, 5, 5, 5, 5, 5, 5, 5, 5, 5, 5, 5, 5, 5, 5, 6, 6, 6, 6, 6, 6, 6, 6, 6, 6, 6, 6, 6, 6, 6, 6, 6, 6, 6, 6, 6, 6, 6, 6, 6, 6, 6, 6, 6, 6, 6, 6] [7, 7, 7, 7, 7, 7, 7, 7, 7, 7, 7, 7, 7, 7, 7, 7, 7, 7, 7, 7, 7, 7, 7, 7, 7, 7, 7, 7, 7, 7, 7, 7, 7, 7, 7, 7, 7, 7, 7, 7, 7, 7, 7, 7, 7, 7, 7, 7, 7, 7, 7, 7, 7, 7, 7, 7, 7, 7, 7, 7, 7, 7, 7, 7]) (List.append [8, 8, 8, 8, 8, 8, 8, 8, 8, 8, 8, 8, 8, 8, 8, 8, 8, 8, 8, 8, 8, 8, 8, 8, 8, 8, 8, 8, 8, 8, 8, 8, 8, 8, 8, 8, 8, 8, 8, 8, 8, 8, 8, 8, 8, 8, 8, 8, 8, 8, 8, 8, 8, 8, 8, 8, 8, 8, 8, 8, 8, 8, 8, 8] [8, 8, 8, 8, 8, 8, 8, 8, 8, 8, 8, 8, 8, 8, 8, 8, 8, 8, 8, 8, 8, 8, 8, 8, 8, 8, 8, 8, 8, 8, 8, 8, 8, 8, 8, 8, 8, 8, 8, 8, 8, 8, 8, 8, 8, 8, 8, 8, 8, 8, 8, 8, 8, 8, 8, 8, 8, 8, 8, 8, 8, 8, 8, 8])))) (IntKind.wrap IntKind.u8 (Int.fdiv (Int.fdiv a0 ((2 : Int) ^ (Min.min (Int.toNat (32 : Int)) 64))) ((2 : Int) ^ (Min.min (Int.toNat (16 : Int)) 64))))) fun y226 =>
     kx (IntKind.wrap IntKind.i64 ((IntKind.wrap IntKind.i64 ((32 : Int) + (16 : Int))) + (IntKind.wrap IntKind.i64 (((UInt8.toNat y226) : Nat) : Int))))))
   (cond (decide ((Int.fdiv a0 ((2 : Int) ^ (Min.min (Int.toNat (32 : Int)) 64))) ≥ (256 : Int)))
    (Option.bind (idxB (ByteArray.mk (Array.mk (List.append (List.append [0, 1, 2, 2, 3, 3, 3, 3, 4, 4, 4, 4, 4, 4, 4, 4, 5, 5, 5, 5, 5, 5, 5, 5, 5, 5, 5, 5, 5, 5, 5, 5, 6, 6, 6, 6, 6, 6, 6, 6, 6, 6, 6, 6, 6, 6, 6, 6, 6, 6, 6, 6, 6, 6, 6, 6, 6, 6, 6, 6, 6, 6, 6, 6] [7, 7, 7, 7, 7, 7, 7, 7, 7, 7, 7, 7, 7, 7, 7, 7, 7, 7, 7, 7, 7, 7, 7, 7, 7, 7, 7, 7, 7, 7, 7, 7, 7, 7, 7, 7, 7, 7, 7, 7, 7, 7, 7, 7, 7, 7, 7, 7, 7, 7, 7, 7, 7, 7, 7, 7, 7, 7, 7, 7, 7, 7, 7, 7]) (List.append [8, 8, 8, 8, 8, 8, 8, 8, 8, 8, 8, 8, 8, 8, 8, 8, 8, 8, 8, 8, 8, 8, 8, 8, 8, 8, 8, 8, 8, 8, 8, 8, 8, 8, 8, 8, 8, 8, 8, 8, 8, 8, 8, 8, 8, 8, 8, 8, 8, 8, 8, 8, 8, 8, 8, 8, 8, 8, 8, 8, 8, 8, 8, 8] [8, 8, 8, 8, 8, 8, 8, 8, 8, 8, 8, 8, 8, 8, 8, 8, 8, 8, 8, 8, 8, 8, 8, 8, 8, 8, 8, 8, 8, 8, 8, 8, 8, 8, 8, 8, 8, 8, 8, 8, 8, 8, 8, 8, 8, 8, 8, 8, 8, 8, 8, 8, 8, 8, 8, 8, 8, 8, 8, 8, 8, 8, 8, 8])))) (IntKind.wrap IntKind.u8 (Int.fdiv (Int.fdiv a0 ((2 : Int) ^ (Min.min (Int.toNat (32 : Int)) 64))) ((2 : Int) ^ (Min.min (Int.toNat (8 : Int)) 64))))) fun y227 =>
     kx (IntKind.wrap IntKind.i64 ((IntKind.wrap IntKind.i64 ((32 : Int) + (8 : Int))) + (IntKind.wrap IntKind.i64 (((UInt8.toNat y227) : Nat) : Int)))))
    (Option.bind (idxB (ByteArray.mk (Array.mk (List.append (List.append [0, 1, 2, 2, 3, 3, 3, 3, 4, 4, 4, 4, 4, 4, 4, 4, 5, 5, 5, 5, 5, 5, 5, 5, 5, 5, 5, 5, 5, 5, 5, 5, 6, 6, 6, 6, 6, 6, 6, 6, 6, 6, 6, 6, 6, 6, 6, 6, 6, 6, 6, 6, 6, 6, 6, 6, 6, 6, 6, 6, 6, 6, 6, 6] [7, 7, 7, 7, 7, 7, 7, 7, 7, 7, 7, 7, 7, 7, 7, 7, 7, 7, 7, 7, 7, 7, 7, 7, 7, 7, 7, 7, 7, 7, 7, 7, 7, 7, 7, 7, 7, 7, 7, 7, 7, 7, 7, 7, 7, 7, 7, 7, 7, 7, 7, 7, 7, 7, 7, 7, 7, 7, 7, 7, 7, 7, 7, 7]) (List.append [8, 8, 8, 8, 8, 8, 8, 8, 8, 8, 8, 8, 8, 8, 8, 8, 8, 8, 8, 8, 8, 8, 8, 8, 8, 8, 8, 8, 8, 8, 8, 8, 8, 8, 8, 8, 8, 8, 8, 8, 8, 8, 8, 8, 8, 8, 8, 8, 8, 8, 8, 8, 8, 8, 8, 8, 8, 8, 8, 8, 8, 8, 8, 8] [8, 8, 8, 8, 8, 8, 8, 8, 8, 8, 8, 8, 8, 8, 8, 8, 8, 8, 8, 8, 8, 8, 8, 8, 8, 8, 8, 8, 8, 8, 8, 8, 8, 8, 8, 8, 8, 8, 8, 8, 8, 8, 8, 8, 8, 8, 8, 8, 8, 8, 8, 8, 8, 8, 8, 8, 8, 8, 8, 8, 8, 8, 8, 8])))) (IntKind.wrap IntKind.u8 (Int.fdiv a0 ((2 : Int) ^ (Min.min (Int.toNat (32 : Int)) 64))))) fun y228 =>
     kx (IntKind.wrap IntKind.i64 ((32 : Int) + (IntKind.wrap IntKind.i64 (((UInt8.toNat y228) : Nat) : Int)))))))
  (cond (decide (a0 ≥ (65536 : Int)))
   (cond (decide ((Int.fdiv a0 ((2 : Int) ^ (Min.min (Int.toNat (16 : Int)) 64))) ≥ (256 : Int)))
    (Option.bind (idxB (ByteArray.mk (Array.mk (List.append (List.append [0, 1, 2, 2, 3, 3, 3, 3, 4, 4, 4, 4, 4, 4, 4, 4, 5, 5, 5, 5, 5, 5, 5, 5, 5, 5, 5, 5, 5, 5, 5, 5, 6, 6, 6, 6, 6, 6, 6, 6, 6, 6, 6, 6, 6, 6, 6, 6, 6, 6, 6, 6, 6, 6, 6, 6, 6, 6, 6, 6, 6, 6, 6, 6] [7, 7, 7, 7, 7, 7, 7, 7, 7, 7, 7, 7, 7, 7, 7, 7, 7, 7, 7, 7, 7, 7, 7, 7, 7, 7, 7, 7, 7, 7, 7, 7, 7, 7, 7, 7, 7, 7, 7, 7, 7, 7, 7, 7, 7, 7, 7, 7, 7, 7, 7, 7, 7, 7, 7, 7, 7, 7, 7, 7, 7, 7, 7, 7]) (List.append [8, 8, 8, 8, 8, 8, 8, 8, 8, 8, 8, 8, 8, 8, 8, 8, 8, 8, 8, 8, 8, 8, 8, 8, 8, 8, 8, 8, 8, 8, 8, 8, 8, 8, 8, 8, 8, 8, 8, 8, 8, 8, 8, 8, 8, 8, 8, 8, 8, 8, 8, 8, 8, 8, 8, 8, 8, 8, 8, 8, 8, 8, 8, 8] [8, 8, 8, 8, 8, 8, 8, 8, 8, 8, 8, 8, 8, 8, 8, 8, 8, 8, 8, 8, 8, 8, 8, 8, 8, 8, 8, 8, 8, 8, 8, 8, 8, 8, 8, 8, 8, 8, 8, 8, 8, 8, 8, 8, 8, 8, 8, 8, 8, 8, 8, 8, 8, 8, 8, 8, 8, 8, 8, 8, 8, 8, 8, 8])))) (IntKind.wrap IntKind.u8 (Int.fdiv (Int.fdiv a0 ((2 : Int) ^ (Min.min (Int.toNat (16 : Int)) 64))) ((2 : Int) ^ (Min.min (Int.toNat (8 : Int)) 64))))) fun y229 =>
     kx (IntKind.wrap IntKind.i64 ((IntKind.wrap IntKind.i64 ((IntKind.wrap IntKind.i64 ((0 : Int) + (16 : Int))) + (8 : Int))) + (IntKind.wrap IntKind.i64 (((UInt8.toNat y229) : Nat) : Int)))))
    (Option.bind (idxB (ByteArray.mk (Array.mk (List.append (List.append [0, 1, 2, 2, 3, 3, 3, 3, 4, 4, 4, 4, 4, 4, 4, 4, 5, 5, 5, 5, 5, 5, 5, 5, 5, 5, 5, 5, 5, 5, 5, 5, 6, 6, 6, 6, 6, 6, 6, 6, 6, 6, 6, 6, 6, 6, 6, 6, 6, 6, 6, 6, 6, 6, 6, 6, 6, 6, 6, 6, 6, 6, 6, 6] [7, 7, 7, 7, 7, 7, 7, 7, 7, 7, 7, 7, 7, 7, 7, 7, 7, 7, 7, 7, 7, 7, 7, 7, 7, 7, 7, 7, 7, 7, 7, 7, 7, 7, 7, 7, 7, 7, 7, 7, 7, 7, 7, 7, 7, 7, 7, 7, 7, 7, 7, 7, 7, 7, 7, 7, 7, 7, 7, 7, 7, 7, 7, 7]) (List.append [8, 8, 8, 8, 8, 8, 8, 8, 8, 8, 8, 8, 8, 8, 8, 8, 8, 8, 8, 8, 8, 8, 8, 8, 8, 8, 8, 8, 8, 8, 8, 8, 8, 8, 8, 8, 8, 8, 8, 8, 8, 8, 8, 8, 8, 8, 8, 8, 8, 8, 8, 8, 8, 8, 8, 8, 8, 8, 8, 8, 8, 8, 8, 8] [8, 8, 8, 8, 8, 8, 8, 8, 8, 8, 8, 8, 8, 8, 8, 8, 8, 8, 8, 8, 8, 8, 8, 8, 8, 8, 8, 8, 8, 8, 8, 8, 8, 8, 8, 8, 8, 8, 8, 8, 8, 8, 8, 8, 8, 8, 8, 8, 8, 8, 8, 8, 8, 8, 8, 8, 8, 8, 8, 8, 8, 8, 8, 8])))) (IntKind.wrap IntKind.u8 (Int.fdiv a0 ((2 : Int) ^ (Min.min (Int.toNat (16 : Int)) 64))))) fun y230 =>
     kx (IntKind.wrap IntKind.i64 ((IntKind.wrap IntKind.i64 ((0 : Int) + (16 : Int))) + (IntKind.wrap IntKind.i64 (((UInt8.toNat y230) : Nat) : Int))))))
   (cond (decide (a0 ≥ (256 : Int)))
    (Option.bind (idxB (ByteArray.mk (Array.mk (List.append (List.append [0, 1, 2, 2, 3, 3, 3, 3, 4, 4, 4, 4, 4, 4, 4, 4, 5, 5, 5, 5, 5, 5, 5, 5, 5, 5, 5, 5, 5, 5, 5, 5, 6, 6, 6, 6, 6, 6, 6, 6, 6, 6, 6, 6, 6, 6, 6, 6, 6, 6, 6, 6, 6, 6, 6, 6, 6, 6, 6, 6, 6, 6, 6, 6] [7, 7, 7, 7, 7, 7, 7, 7, 7, 7, 7, 7, 7, 7, 7, 7, 7, 7, 7, 7, 7, 7, 7, 7, 7, 7, 7, 7, 7, 7, 7, 7, 7, 7, 7, 7, 7, 7, 7, 7, 7, 7, 7, 7, 7, 7, 7, 7, 7, 7, 7, 7, 7, 7, 7, 7, 7, 7, 7, 7, 7, 7, 7, 7]) (List.append [8, 8, 8, 8, 8, 8, 8, 8, 8, 8, 8, 8, 8, 8, 8, 8, 8, 8, 8, 8, 8, 8, 8, 8, 8, 8, 8, 8, 8, 8, 8, 8, 8, 8, 8, 8, 8, 8, 8, 8, 8, 8, 8, 8, 8, 8, 8, 8, 8, 8, 8, 8, 8, 8, 8, 8, 8, 8, 8, 8, 8, 8, 8, 8] [8, 8, 8, 8, 8, 8, 8, 8, 8, 8, 8, 8, 8, 8, 8, 8, 8, 8, 8, 8, 8, 8, 8, 8, 8, 8, 8, 8, 8, 8, 8, 8, 8, 8, 8, 8, 8, 8, 8, 8, 8, 8, 8, 8, 8, 8, 8, 8, 8, 8, 8, 8, 8, 8, 8, 8, 8, 8, 8, 8, 8, 8, 8, 8])))) (IntKind.wrap IntKind.u8 (Int.fdiv a0 ((2 : Int) ^ (Min.min (Int.toNat (8 : Int)) 64))))) fun y231 =>
     kx (IntKind.wrap IntKind.i64 ((IntKind.wrap IntKind.i64 ((0 : Int) + (8 : Int))) + (IntKind.wrap IntKind.i64 (((UInt8.toNat y231) : Nat) : Int)))))
    (Option.bind (idxB (ByteArray.mk (Array.mk (List.append (List.append [0, 1, 2, 2, 3, 3, 3, 3, 4, 4, 4, 4, 4, 4, 4, 4, 5, 5, 5, 5, 5, 5, 5, 5, 5, 5, 5, 5, 5, 5, 5, 5, 6, 6, 6, 6, 6, 6, 6, 6, 6, 6, 6, 6, 6, 6, 6, 6, 6, 6, 6, 6, 6, 6, 6, 6, 6, 6, 6, 6, 6, 6, 6, 6] [7, 7, 7, 7, 7, 7, 7, 7, 7, 7, 7, 7, 7, 7, 7, 7, 7, 7, 7, 7, 7, 7, 7, 7, 7, 7, 7, 7, 7, 7, 7, 7, 7, 7, 7, 7, 7, 7, 7, 7, 7, 7, 7, 7, 7, 7, 7, 7, 7, 7, 7, 7, 7, 7, 7, 7, 7, 7, 7, 7, 7, 7, 7, 7]) (List.append [8, 8, 8, 8, 8, 8, 8, 8, 8, 8, 8, 8, 8, 8, 8, 8, 8, 8, 8, 8, 8, 8, 8, 8, 8, 8, 8, 8, 8, 8, 8, 8, 8, 8, 8, 8, 8, 8, 8, 8, 8, 8, 8, 8, 8, 8, 8, 8, 8, 8, 8, 8, 8, 8, 8, 8, 8, 8, 8, 8, 8, 8, 8, 8] [8, 8, 8, 8, 8, 8, 8, 8, 8, 8, 8, 8, 8, 8, 8, 8, 8, 8, 8, 8, 8, 8, 8, 8, 8, 8, 8, 8, 8, 8, 8, 8, 8, 8, 8, 8, 8, 8, 8, 8, 8, 8, 8, 8, 8, 8, 8, 8, 8, 8, 8, 8, 8, 8, 8, 8, 8, 8, 8, 8, 8, 8, 8, 8])))) (IntKind.wrap IntKind.u8 a0)) fun y232 =>
     kx (IntKind.wrap IntKind.i64 ((0 : Int) + (IntKind.wrap IntKind.i64 (((UInt8.toNat y232) : Nat) : Int)))))))
noncomputable def g_math_bits_Len64 (a0 : Int) : Option (Int) := t_math_bits_Len64 some a0
theorem nat_math_bits_Len64 {R : Type} (kx : Int → Option R) (a0 : Int) : t_math_bits_Len64 kx a0 = (g_math_bits_Len64 a0).bind kx := by
  unfold g_math_bits_Len64 t_math_bits_Len64
  exact nat_cond (nat_cond (nat_cond (nat_bind fun _ => rfl) (nat_bind fun _ => rfl)) (nat_cond (nat_bind fun _ => rfl) (nat_bind fun _ => rfl))) (nat_cond (nat_cond (nat_bind fun _ => rfl) (nat_bind fun _ => rfl)) (nat_cond (nat_bind fun _ => rfl) (nat_bind fun _ => rfl)))
abbrev as_math_bits_Len64 : List AX := [.val false (.int .u64)]
abbrev en_math_bits_Len64 : Int → AV × List CV := fun b => (.one ⟨false, [(.v (.int .i64 b))]⟩, [])
noncomputable abbrev k_math_bits_Len64 : Contract := .fx as_math_bits_Len64 (Int) (fun z => g_math_bits_Len64 z.1) en_math_bits_Len64
theorem r_math_bits_Len64 (z : argsX as_math_bits_Len64) : runF (tab C0 T_math_bits_Len64) noHints 1 Try.f101 (lentOf as_math_bits_Len64) (xBoxes as_math_bits_Len64 z) (xVals as_math_bits_Len64 0 z) K2 = t_math_bits_Len64 (fun b => some (en_math_bits_Len64 b)) z.1 := by kernel_rfl
theorem so_math_bits_Len64 : Sound C0 101 k_math_bits_Len64 :=
  Sound.fx a_math_bits_Len64 mixed Try.func101 (by kernel_rfl) (by kernel_rfl) noHints 1 noHints_ok (fun z => (r_math_bits_Len64 z).trans (nat_math_bits_Len64 _ z.1))

/-! ### F86 math/bits.Len -/
noncomputable def T_math_bits_Len : List (FuncId × Contract) := [(101, k_math_bits_Len64)]
theorem a_math_bits_Len : AllSound C0 T_math_bits_Len := .cons so_math_bits_Len64 (.nil)
noncomputable def t_math_bits_Len {R : Type} (kx : Int → Option R) (a0 : Int) : Option R :=
  Option.bind (g_math_bits_Len64 a0) fun y233 =>
  kx y233
noncomputable def g_math_bits_Len (a0 : Int) : Option (Int) := t_math_bits_Len some a0
theorem nat_math_bits_Len {R : Type} (kx : Int → Option R) (a0 : Int) : t_math_bits_Len kx a0 = (g_math_bits_Len a0).bind kx := by
  unfold g_math_bits_Len t_math_bits_Len
  exact nat_bind fun _ => rfl
abbrev as_math_bits_Len : List AX := [.val false (.int .u64)]
abbrev en_math_bits_Len : Int → AV × List CV := fun b => (.one ⟨false, [(.v (.int .i64 b))]⟩, [])
noncomputable abbrev k_math_bits_Len : Contract := .fx as_math_bits_Len (Int) (fun z => g_math_bits_Len z.1) en_math_bits_Len
theorem r_math_bits_Len (z : argsX as_math_bits_Len) : runF (tab C0 T_math_bits_Len) noHints 1 Try.f86 (lentOf as_math_bits_Len) (xBoxes as_math_bits_Len z) (xVals as_math_bits_Len 0 z) K2 = t_math_bits_Len (fun b => some (en_math_bits_Len b)) z.1 := by kernel_rfl
theorem so_math_bits_Len : Sound C0 86 k_math_bits_Len :=
  Sound.fx a_math_bits_Len mixed Try.func86 (by kernel_rfl) (by kernel_rfl) noHints 1 noHints_ok (fun z => (r_math_bits_Len z).trans (nat_math_bits_Len _ z.1))

/-! ### F108 cmp.isNaN[int64] -/
noncomputable def T_cmp_isNaN_int64 : List (FuncId × Contract) := []
theorem a_cmp_isNaN_int64 : AllSound C0 T_cmp_isNaN_int64 := .nil
noncomputable def t_cmp_isNaN_int64 {R : Type} (kx : Bool → Option R) (a0 : Int) : Option R :=
  kx (a0 != a0)
noncomputable def g_cmp_isNaN_int64 (a0 : Int) : Option (Bool) := t_cmp_isNaN_int64 some a0
theorem nat_cmp_isNaN_int64 {R : Type} (kx : Bool → Option R) (a0 : Int) : t_cmp_isNaN_int64 kx a0 = (g_cmp_isNaN_int64 a0).bind kx := by
  unfold g_cmp_isNaN_int64 t_cmp_isNaN_int64
  exact rfl
abbrev as_cmp_isNaN_int64 : List AX := [.val false (.int .i64)]
abbrev en_cmp_isNaN_int64 : Bool → AV × List CV := fun b => (.one ⟨false, [(.v (.bool b))]⟩, [])
noncomputable abbrev k_cmp_isNaN_int64 : Contract := .fx as_cmp_isNaN_int64 (Bool) (fun z => g_cmp_isNaN_int64 z.1) en_cmp_isNaN_int64
theorem r_cmp_isNaN_int64 (z : argsX as_cmp_isNaN_int64) : runF (tab C0 T_cmp_isNaN_int64) noHints 1 Try.f108 (lentOf as_cmp_isNaN_int64) (xBoxes as_cmp_isNaN_int64 z) (xVals as_cmp_isNaN_int64 0 z) K2 = t_cmp_isNaN_int64 (fun b => some (en_cmp_isNaN_int64 b)) z.1 := by kernel_rfl
theorem so_cmp_isNaN_int64 : Sound C0 108 k_cmp_isNaN_int64 :=
  Sound.fx a_cmp_isNaN_int64 mixed Try.func108 (by kernel_rfl) (by kernel_rfl) noHints 1 noHints_ok (fun z => (r_cmp_isNaN_int64 z).trans (nat_cmp_isNaN_int64 _ z.1))

/-! ### F97 cmp.Less[int64] -/
noncomputable def T_cmp_Less_int64 : List (FuncId × Contract) := [(108, k_cmp_isNaN_int64)]
theorem a_cmp_Less_int64 : AllSound C0 T_cmp_Less_int64 := .cons so_cmp_isNaN_int64 (.nil)
noncomputable def t_cmp_Less_int64 {R : Type} (kx : Bool → Option R) (a0 : Int) (a1 : Int) : Option R :=
  Option.bind (g_cmp_isNaN_int64 a0) fun y265 =>
  cond y265
  (Option.bind (g_cmp_isNaN_int64 a1) fun y266 =>
   cond (!y266)
   (kx Bool.true)
   (kx (decide (a0 < a1))))
  (kx (decide (a0 < a1)))
noncomputable def g_cmp_Less_int64 (a0 : Int) (a1 : Int) : Option (Bool) := t_cmp_Less_int64 some a0 a1
theorem nat_cmp_Less_int64 {R : Type} (kx : Bool → Option R) (a0 : Int) (a1 : Int) : t_cmp_Less_int64 kx a0 a1 = (g_cmp_Less_int64 a0 a1).bind kx := by
  unfold g_cmp_Less_int64 t_cmp_Less_int64
  exact nat_bind fun _ => nat_cond (nat_bind fun _ => nat_cond (rfl) (rfl)) (rfl)
abbrev as_cmp_Less_int64 : List AX := [.val false (.int .i64), .val false (.int .i64)]
abbrev en_cmp_Less_int64 : Bool → AV × List CV := fun b => (.one ⟨false, [(.v (.bool b))]⟩, [])
noncomputable abbrev k_cmp_Less_int64 : Contract := .fx as_cmp_Less_int64 (Bool) (fun z => g_cmp_Less_int64 z.1 z.2.1) en_cmp_Less_int64
theorem r_cmp_Less_int64 (z : argsX as_cmp_Less_int64) : runF (tab C0 T_cmp_Less_int64) noHints 1 Try.f97 (lentOf as_cmp_Less_int64) (xBoxes as_cmp_Less_int64 z) (xVals as_cmp_Less_int64 0 z) K2 = t_cmp_Less_int64 (fun b => some (en_cmp_Less_int64 b)) z.1 z.2.1 := by kernel_rfl
theorem so_cmp_Less_int64 : Sound C0 97 k_cmp_Less_int64 :=
  Sound.fx a_cmp_Less_int64 mixed Try.func97 (by kernel_rfl) (by kernel_rfl) noHints 1 noHints_ok (fun z => (r_cmp_Less_int64 z).trans (nat_cmp_Less_int64 _ z.1 z.2.1))

/-! ### F91 slices.insertionSortOrdered[int64] -/
noncomputable def T_slices_insertionSortOrdered_int64 : List (FuncId × Contract) := [(97, k_cmp_Less_int64)]
theorem a_slices_insertionSortOrdered_int64 : AllSound C0 T_slices_insertionSortOrdered_int64 := .cons so_cmp_Less_int64 (.nil)
abbrev s_slices_insertionSortOrdered_int64_5 : LS := ⟨[(false, [(.view (.arg 0) true 0 (.int .i64))]), (false, [(.int .i64)]), (false, [(.int .i64)]), (false, [(.int .i64)]), (false, [(.int .i64)])], [], [(.own (.int .i64))]⟩
abbrev e_slices_insertionSortOrdered_int64_5_0 : LS := ⟨[(false, [(.view (.arg 0) true 0 (.int .i64))]), (false, [(.int .i64)]), (false, [(.int .i64)]), (false, [(.int .i64)])], [], [(.own (.int .i64))]⟩
abbrev d_slices_insertionSortOrdered_int64_5_0 (v0 : List Int) (v1 : Int) (v2 : Int) (v3 : Int) (v4 : List Int) : e_slices_insertionSortOrdered_int64_5_0.T := (((v0, ()), (v1, ()), (v2, ()), (v3, ()), ()), (), (v4, ()))
abbrev x_slices_insertionSortOrdered_int64_5 : List (Ex × LS) := [(.exit 2, e_slices_insertionSortOrdered_int64_5_0)]
abbrev m_slices_insertionSortOrdered_int64_5 (x0 : List Int) (x1 : Int) (x2 : Int) (x6 : Int) (x7 : Int) (o : List Int) : s_slices_insertionSortOrdered_int64_5.T := (((x0, ()), (x1, ()), (x2, ()), (x6, ()), (x7, ()), ()), (), (o, ()))
noncomputable def u_slices_insertionSortOrdered_int64_5 {R : Type} (nx : s_slices_insertionSortOrdered_int64_5.T → Option R) (hx : exH R x_slices_insertionSortOrdered_int64_5) (x0 : List Int) (x1 : Int) (x2 : Int) (x6 : Int) (x7 : Int) (o : List Int) : Option R :=
  cond (decide (x7 > x1))
  (Option.bind (idx x0 x7) fun y260 =>
   Option.bind (idx x0 (IntKind.wrap IntKind.i64 (x7 - (1 : Int)))) fun y261 =>
   Option.bind (g_cmp_Less_int64 y260 y261) fun y267 =>
   cond y267
   (Option.bind (idx x0 (IntKind.wrap IntKind.i64 (x7 - (1 : Int)))) fun y268 =>
    Option.bind (idx x0 x7) fun y269 =>
    Option.bind (idx x0 x7) fun _ =>
    Option.bind (idx (List.set x0 (0 + (Int.toNat x7)) y268) (IntKind.wrap IntKind.i64 (x7 - (1 : Int)))) fun _ =>
    nx (m_slices_insertionSortOrdered_int64_5 (List.set (List.set x0 (0 + (Int.toNat x7)) y268) (0 + (Int.toNat (IntKind.wrap IntKind.i64 (x7 - (1 : Int))))) y269) x1 x2 x6 (IntKind.wrap IntKind.i64 (x7 - (1 : Int))) (List.set (List.set o (0 + (Int.toNat x7)) y268) (0 + (Int.toNat (IntKind.wrap IntKind.i64 (x7 - (1 : Int))))) y269)))
   (hx.1 (d_slices_insertionSortOrdered_int64_5_0 x0 x1 x2 x6 o)))
  (hx.1 (d_slices_insertionSortOrdered_int64_5_0 x0 x1 x2 x6 o))
noncomputable def t_slices_insertionSortOrdered_int64_5 {R : Type} (nx : s_slices_insertionSortOrdered_int64_5.T → Option R) (hx : exH R x_slices_insertionSortOrdered_int64_5) (z : s_slices_insertionSortOrdered_int64_5.T) : Option R := u_slices_insertionSortOrdered_int64_5 nx hx z.1.1.1 z.1.2.1.1 z.1.2.2.1.1 z.1.2.2.2.1.1 z.1.2.2.2.2.1.1 z.2.2.1
theorem nat_slices_insertionSortOrdered_int64_5 : Natural @t_slices_insertionSortOrdered_int64_5 := fun R nx hx z => by
  show u_slices_insertionSortOrdered_int64_5 nx hx z.1.1.1 z.1.2.1.1 z.1.2.2.1.1 z.1.2.2.2.1.1 z.1.2.2.2.2.1.1 z.2.2.1 = (u_slices_insertionSortOrdered_int64_5 (fun y => some (.inl y)) (hIn x_slices_insertionSortOrdered_int64_5 fun x => some (.inr x)) z.1.1.1 z.1.2.1.1 z.1.2.2.1.1 z.1.2.2.2.1.1 z.1.2.2.2.2.1.1 z.2.2.1).bind (goOn nx hx)
  unfold u_slices_insertionSortOrdered_int64_5
  exact nat_cond (nat_bind fun _ => nat_bind fun _ => nat_bind fun _ => nat_cond (nat_bind fun _ => nat_bind fun _ => nat_bind fun _ => nat_bind fun _ => rfl) (rfl)) (rfl)
noncomputable def w_slices_insertionSortOrdered_int64_5 : s_slices_insertionSortOrdered_int64_5.T → Option (exT x_slices_insertionSortOrdered_int64_5) := wOf @t_slices_insertionSortOrdered_int64_5
theorem wq_slices_insertionSortOrdered_int64_5 (x0 : List Int) (x1 : Int) (x2 : Int) (x6 : Int) (x7 : Int) (o : List Int) : w_slices_insertionSortOrdered_int64_5 (m_slices_insertionSortOrdered_int64_5 x0 x1 x2 x6 x7 o) = u_slices_insertionSortOrdered_int64_5 w_slices_insertionSortOrdered_int64_5 (hIn x_slices_insertionSortOrdered_int64_5 some) x0 x1 x2 x6 x7 o := wOf_eq nat_slices_insertionSortOrdered_int64_5 _
def lh_slices_insertionSortOrdered_int64_5 : LoopHint := ⟨[0, 1, 2, 6, 7], [], [0, 1, 2, 6], []⟩
abbrev s_slices_insertionSortOrdered_int64_2 : LS := ⟨[(false, [(.view (.arg 0) true 0 (.int .i64))]), (false, [(.int .i64)]), (false, [(.int .i64)]), (false, [(.int .i64)])], [], [(.own (.int .i64))]⟩
abbrev e_slices_insertionSortOrdered_int64_2_0 : LS := ⟨[], [], [(.own (.int .i64))]⟩
abbrev d_slices_insertionSortOrdered_int64_2_0 (v0 : List Int) : e_slices_insertionSortOrdered_int64_2_0.T := ((), (), (v0, ()))
abbrev x_slices_insertionSortOrdered_int64_2 : List (Ex × LS) := [(.exit 0, e_slices_insertionSortOrdered_int64_2_0)]
abbrev m_slices_insertionSortOrdered_int64_2 (x0 : List Int) (x1 : Int) (x2 : Int) (x6 : Int) (o : List Int) : s_slices_insertionSortOrdered_int64_2.T := (((x0, ()), (x1, ()), (x2, ()), (x6, ()), ()), (), (o, ()))
noncomputable def u_slices_insertionSortOrdered_int64_2 {R : Type} (nx : s_slices_insertionSortOrdered_int64_2.T → Option R) (hx : exH R x_slices_insertionSortOrdered_int64_2) (x0 : List Int) (x1 : Int) (x2 : Int) (x6 : Int) (o : List Int) : Option R :=
  cond (decide (x6 < x2))
  (Option.bind (w_slices_insertionSortOrdered_int64_5 (m_slices_insertionSortOrdered_int64_5 x0 x1 x2 x6 x6 o)) (exC x_slices_insertionSortOrdered_int64_5
   (fun e272 =>
    nx (m_slices_insertionSortOrdered_int64_2 (e272.1.1.1 : List Int) (e272.1.2.1.1 : Int) (e272.1.2.2.1.1 : Int) (IntKind.wrap IntKind.i64 ((e272.1.2.2.2.1.1 : Int) + (1 : Int))) (e272.2.2.1 : List Int)), ())))
  (hx.1 (d_slices_insertionSortOrdered_int64_2_0 o))
noncomputable def t_slices_insertionSortOrdered_int64_2 {R : Type} (nx : s_slices_insertionSortOrdered_int64_2.T → Option R) (hx : exH R x_slices_insertionSortOrdered_int64_2) (z : s_slices_insertionSortOrdered_int64_2.T) : Option R := u_slices_insertionSortOrdered_int64_2 nx hx z.1.1.1 z.1.2.1.1 z.1.2.2.1.1 z.1.2.2.2.1.1 z.2.2.1
theorem nat_slices_insertionSortOrdered_int64_2 : Natural @t_slices_insertionSortOrdered_int64_2 := fun R nx hx z => by
  show u_slices_insertionSortOrdered_int64_2 nx hx z.1.1.1 z.1.2.1.1 z.1.2.2.1.1 z.1.2.2.2.1.1 z.2.2.1 = (u_slices_insertionSortOrdered_int64_2 (fun y => some (.inl y)) (hIn x_slices_insertionSortOrdered_int64_2 fun x => some (.inr x)) z.1.1.1 z.1.2.1.1 z.1.2.2.1.1 z.1.2.2.2.1.1 z.2.2.1).bind (goOn nx hx)
  unfold u_slices_insertionSortOrdered_int64_2
  exact nat_cond (nat_exC ⟨fun _ => rfl, trivial⟩) (rfl)
noncomputable def w_slices_insertionSortOrdered_int64_2 : s_slices_insertionSortOrdered_int64_2.T → Option (exT x_slices_insertionSortOrdered_int64_2) := wOf @t_slices_insertionSortOrdered_int64_2
theorem wq_slices_insertionSortOrdered_int64_2 (x0 : List Int) (x1 : Int) (x2 : Int) (x6 : Int) (o : List Int) : w_slices_insertionSortOrdered_int64_2 (m_slices_insertionSortOrdered_int64_2 x0 x1 x2 x6 o) = u_slices_insertionSortOrdered_int64_2 w_slices_insertionSortOrdered_int64_2 (hIn x_slices_insertionSortOrdered_int64_2 some) x0 x1 x2 x6 o := wOf_eq nat_slices_insertionSortOrdered_int64_2 _
def lh_slices_insertionSortOrdered_int64_2 : LoopHint := ⟨[0, 1, 2, 6], [], [], []⟩
noncomputable def h_slices_insertionSortOrdered_int64 : Hints Rv := ⟨fun k => match k with | 5 => lh_slices_insertionSortOrdered_int64_5 | 2 => lh_slices_insertionSortOrdered_int64_2 | _ => ⟨[], [], [], []⟩, fun k => match k with | 5 => some (loopX s_slices_insertionSortOrdered_int64_5 x_slices_insertionSortOrdered_int64_5 w_slices_insertionSortOrdered_int64_5) | 2 => some (loopX s_slices_insertionSortOrdered_int64_2 x_slices_insertionSortOrdered_int64_2 w_slices_insertionSortOrdered_int64_2) | _ => none⟩
theorem st_slices_insertionSortOrdered_int64_5 (n : Nat) (z : s_slices_insertionSortOrdered_int64_5.T) (k : Ex → Live → Option Rv) : loopN ⟨49, 49⟩ lh_slices_insertionSortOrdered_int64_5 (den (tab C0 T_slices_insertionSortOrdered_int64) ⟨49, 49⟩ h_slices_insertionSortOrdered_int64 1 (loopOf Try.f91 4)) (n + 1) (s_slices_insertionSortOrdered_int64_5.enc z) k =
    t_slices_insertionSortOrdered_int64_5 (fun y => loopN ⟨49, 49⟩ lh_slices_insertionSortOrdered_int64_5 (den (tab C0 T_slices_insertionSortOrdered_int64) ⟨49, 49⟩ h_slices_insertionSortOrdered_int64 1 (loopOf Try.f91 4)) n (s_slices_insertionSortOrdered_int64_5.enc y) k) (hK k x_slices_insertionSortOrdered_int64_5) z := by kernel_rfl
theorem st_slices_insertionSortOrdered_int64_2 (n : Nat) (z : s_slices_insertionSortOrdered_int64_2.T) (k : Ex → Live → Option Rv) : loopN ⟨49, 49⟩ lh_slices_insertionSortOrdered_int64_2 (den (tab C0 T_slices_insertionSortOrdered_int64) ⟨49, 49⟩ h_slices_insertionSortOrdered_int64 1 (loopOf Try.f91 1)) (n + 1) (s_slices_insertionSortOrdered_int64_2.enc z) k =
    t_slices_insertionSortOrdered_int64_2 (fun y => loopN ⟨49, 49⟩ lh_slices_insertionSortOrdered_int64_2 (den (tab C0 T_slices_insertionSortOrdered_int64) ⟨49, 49⟩ h_slices_insertionSortOrdered_int64 1 (loopOf Try.f91 1)) n (s_slices_insertionSortOrdered_int64_2.enc y) k) (hK k x_slices_insertionSortOrdered_int64_2) z := by kernel_rfl
theorem hs_slices_insertionSortOrdered_int64 : HintsOk (tab C0 T_slices_insertionSortOrdered_int64) ⟨49, 49⟩ h_slices_insertionSortOrdered_int64 1 (loops (codeOf Try.f91)) := by
  have hl : loops (codeOf Try.f91) = [loopOf Try.f91 1, loopOf Try.f91 4] := by kernel_rfl
  rw [hl]
  exact HintsOk.cons (n := 2) (lh := lh_slices_insertionSortOrdered_int64_2) (S := loopX s_slices_insertionSortOrdered_int64_2 x_slices_insertionSortOrdered_int64_2 w_slices_insertionSortOrdered_int64_2) (by kernel_rfl) rfl rfl (loopX_ok nat_slices_insertionSortOrdered_int64_2 st_slices_insertionSortOrdered_int64_2)
    (HintsOk.cons (n := 5) (lh := lh_slices_insertionSortOrdered_int64_5) (S := loopX s_slices_insertionSortOrdered_int64_5 x_slices_insertionSortOrdered_int64_5 w_slices_insertionSortOrdered_int64_5) (by kernel_rfl) rfl rfl (loopX_ok nat_slices_insertionSortOrdered_int64_5 st_slices_insertionSortOrdered_int64_5)
    (HintsOk.nil))
noncomputable def t_slices_insertionSortOrdered_int64 {R : Type} (kx : (List Int) → Option R) (a0 : List Int) (a1 : Int) (a2 : Int) : Option R :=
  Option.bind (w_slices_insertionSortOrdered_int64_2 (m_slices_insertionSortOrdered_int64_2 a0 a1 a2 (IntKind.wrap IntKind.i64 (a1 + (1 : Int))) a0)) (exC x_slices_insertionSortOrdered_int64_2
  (fun e278 =>
   kx (e278.2.2.1 : List Int), ()))
noncomputable def g_slices_insertionSortOrdered_int64 (a0 : List Int) (a1 : Int) (a2 : Int) : Option ((List Int)) := t_slices_insertionSortOrdered_int64 some a0 a1 a2
theorem nat_slices_insertionSortOrdered_int64 {R : Type} (kx : (List Int) → Option R) (a0 : List Int) (a1 : Int) (a2 : Int) : t_slices_insertionSortOrdered_int64 kx a0 a1 a2 = (g_slices_insertionSortOrdered_int64 a0 a1 a2).bind kx := by
  unfold g_slices_insertionSortOrdered_int64 t_slices_insertionSortOrdered_int64
  exact nat_exC ⟨fun _ => rfl, trivial⟩
abbrev as_slices_insertionSortOrdered_int64 : List AX := [.io (.int .i64), .val false (.int .i64), .val false (.int .i64)]
abbrev en_slices_insertionSortOrdered_int64 : (List Int) → AV × List CV := fun b => (.tup [], [(.own (.int .i64) b)])
noncomputable abbrev k_slices_insertionSortOrdered_int64 : Contract := .fx as_slices_insertionSortOrdered_int64 ((List Int)) (fun z => g_slices_insertionSortOrdered_int64 z.1 z.2.1 z.2.2.1) en_slices_insertionSortOrdered_int64
theorem r_slices_insertionSortOrdered_int64 (z : argsX as_slices_insertionSortOrdered_int64) : runF (tab C0 T_slices_insertionSortOrdered_int64) h_slices_insertionSortOrdered_int64 1 Try.f91 (lentOf as_slices_insertionSortOrdered_int64) (xBoxes as_slices_insertionSortOrdered_int64 z) (xVals as_slices_insertionSortOrdered_int64 0 z) K2 = t_slices_insertionSortOrdered_int64 (fun b => some (en_slices_insertionSortOrdered_int64 b)) z.1 z.2.1 z.2.2.1 := by kernel_rfl
theorem so_slices_insertionSortOrdered_int64 : Sound C0 91 k_slices_insertionSortOrdered_int64 :=
  Sound.fx a_slices_insertionSortOrdered_int64 mixed Try.func91 (by kernel_rfl) (by kernel_rfl) h_slices_insertionSortOrdered_int64 1 hs_slices_insertionSortOrdered_int64 (fun z => (r_slices_insertionSortOrdered_int64 z).trans (nat_slices_insertionSortOrdered_int64 _ z.1 z.2.1 z.2.2.1))

/-! ### F85 slices.pdqsortOrdered[int64] -/
noncomputable def T_slices_pdqsortOrdered_int64 : List (FuncId × Contract) := [(91, k_slices_insertionSortOrdered_int64)]
theorem a_slices_pdqsortOrdered_int64 : AllSound C0 T_slices_pdqsortOrdered_int64 := .cons so_slices_insertionSortOrdered_int64 (.nil)
abbrev s_slices_pdqsortOrdered_int64_3 : LS := ⟨[(false, [(.view (.arg 0) true 0 (.int .i64))]), (false, [(.int .i64)]), (false, [(.int .i64)]), (false, [(.int .i64)]), (false, [.bool]), (false, [.bool])], [], [(.own (.int .i64))]⟩
abbrev e_slices_pdqsortOrdered_int64_3_0 : LS := ⟨[], [], [(.own (.int .i64))]⟩
abbrev d_slices_pdqsortOrdered_int64_3_0 (v0 : List Int) : e_slices_pdqsortOrdered_int64_3_0.T := ((), (), (v0, ()))
abbrev x_slices_pdqsortOrdered_int64_3 : List (Ex × LS) := [(.ret, e_slices_pdqsortOrdered_int64_3_0)]
abbrev m_slices_pdqsortOrdered_int64_3 (x0 : List Int) (x1 : Int) (x2 : Int) (x3 : Int) (x8 : Bool) (x9 : Bool) (o : List Int) : s_slices_pdqsortOrdered_int64_3.T := (((x0, ()), (x1, ()), (x2, ()), (x3, ()), (x8, ()), (x9, ()), ()), (), (o, ()))
noncomputable def u_slices_pdqsortOrdered_int64_3 {R : Type} (nx : s_slices_pdqsortOrdered_int64_3.T → Option R) (hx : exH R x_slices_pdqsortOrdered_int64_3) (x0 : List Int) (x1 : Int) (x2 : Int) (x3 : Int) (x8 : Bool) (x9 : Bool) (o : List Int) : Option R :=
  cond (decide ((IntKind.wrap IntKind.i64 (x2 - x1)) ≤ (12 : Int)))
  (cond (decide ((List.length o) = (List.length x0)))
   (Option.bind (g_slices_insertionSortOrdered_int64 x0 x1 x2) fun y280 =>
    cond (decide ((List.length x0) = (List.length x0)))
    (cond (decide ((List.length x0) = (List.length x0)))
     (hx.1 (d_slices_pdqsortOrdered_int64_3_0 y280))
     (none))
    (none))
   (none))
  (cond (x3 == (0 : Int))
   (none)
   (cond (!x8)
    (none)
    (none)))
noncomputable def t_slices_pdqsortOrdered_int64_3 {R : Type} (nx : s_slices_pdqsortOrdered_int64_3.T → Option R) (hx : exH R x_slices_pdqsortOrdered_int64_3) (z : s_slices_pdqsortOrdered_int64_3.T) : Option R := u_slices_pdqsortOrdered_int64_3 nx hx z.1.1.1 z.1.2.1.1 z.1.2.2.1.1 z.1.2.2.2.1.1 z.1.2.2.2.2.1.1 z.1.2.2.2.2.2.1.1 z.2.2.1
theorem nat_slices_pdqsortOrdered_int64_3 : Natural @t_slices_pdqsortOrdered_int64_3 := fun R nx hx z => by
  show u_slices_pdqsortOrdered_int64_3 nx hx z.1.1.1 z.1.2.1.1 z.1.2.2.1.1 z.1.2.2.2.1.1 z.1.2.2.2.2.1.1 z.1.2.2.2.2.2.1.1 z.2.2.1 = (u_slices_pdqsortOrdered_int64_3 (fun y => some (.inl y)) (hIn x_slices_pdqsortOrdered_int64_3 fun x => some (.inr x)) z.1.1.1 z.1.2.1.1 z.1.2.2.1.1 z.1.2.2.2.1.1 z.1.2.2.2.2.1.1 z.1.2.2.2.2.2.1.1 z.2.2.1).bind (goOn nx hx)
  unfold u_slices_pdqsortOrdered_int64_3
  exact nat_cond (nat_cond (nat_bind fun _ => nat_cond (nat_cond (rfl) (rfl)) (rfl)) (rfl)) (nat_cond (rfl) (nat_cond (rfl) (rfl)))
noncomputable def w_slices_pdqsortOrdered_int64_3 : s_slices_pdqsortOrdered_int64_3.T → Option (exT x_slices_pdqsortOrdered_int64_3) := wOf @t_slices_pdqsortOrdered_int64_3
theorem wq_slices_pdqsortOrdered_int64_3 (x0 : List Int) (x1 : Int) (x2 : Int) (x3 : Int) (x8 : Bool) (x9 : Bool) (o : List Int) : w_slices_pdqsortOrdered_int64_3 (m_slices_pdqsortOrdered_int64_3 x0 x1 x2 x3 x8 x9 o) = u_slices_pdqsortOrdered_int64_3 w_slices_pdqsortOrdered_int64_3 (hIn x_slices_pdqsortOrdered_int64_3 some) x0 x1 x2 x3 x8 x9 o := wOf_eq nat_slices_pdqsortOrdered_int64_3 _
def lh_slices_pdqsortOrdered_int64_3 : LoopHint := ⟨[0, 1, 2, 3, 8, 9], [], [], []⟩
noncomputable def h_slices_pdqsortOrdered_int64 : Hints Rv := ⟨fun k => match k with | 3 => lh_slices_pdqsortOrdered_int64_3 | _ => ⟨[], [], [], []⟩, fun k => match k with | 3 => some (loopX s_slices_pdqsortOrdered_int64_3 x_slices_pdqsortOrdered_int64_3 w_slices_pdqsortOrdered_int64_3) | _ => none⟩
theorem st_slices_pdqsortOrdered_int64_3 (n : Nat) (z : s_slices_pdqsortOrdered_int64_3.T) (k : Ex → Live → Option Rv) : loopN ⟨134, 134⟩ lh_slices_pdqsortOrdered_int64_3 (den (tab C0 T_slices_pdqsortOrdered_int64) ⟨134, 134⟩ h_slices_pdqsortOrdered_int64 1 (loopOf Try.f85 2)) (n + 1) (s_slices_pdqsortOrdered_int64_3.enc z) k =
    t_slices_pdqsortOrdered_int64_3 (fun y => loopN ⟨134, 134⟩ lh_slices_pdqsortOrdered_int64_3 (den (tab C0 T_slices_pdqsortOrdered_int64) ⟨134, 134⟩ h_slices_pdqsortOrdered_int64 1 (loopOf Try.f85 2)) n (s_slices_pdqsortOrdered_int64_3.enc y) k) (hK k x_slices_pdqsortOrdered_int64_3) z := by kernel_rfl
theorem hs_slices_pdqsortOrdered_int64 : HintsOk (tab C0 T_slices_pdqsortOrdered_int64) ⟨134, 134⟩ h_slices_pdqsortOrdered_int64 1 (loops (codeOf Try.f85)) := by
  have hl : loops (codeOf Try.f85) = [loopOf Try.f85 2] := by kernel_rfl
  rw [hl]
  exact HintsOk.cons (n := 3) (lh := lh_slices_pdqsortOrdered_int64_3) (S := loopX s_slices_pdqsortOrdered_int64_3 x_slices_pdqsortOrdered_int64_3 w_slices_pdqsortOrdered_int64_3) (by kernel_rfl) rfl rfl (loopX_ok nat_slices_pdqsortOrdered_int64_3 st_slices_pdqsortOrdered_int64_3)
    (HintsOk.nil)
noncomputable def t_slices_pdqsortOrdered_int64 {R : Type} (kx : (List Int) → Option R) (a0 : List Int) (a1 : Int) (a2 : Int) (a3 : Int) : Option R :=
  Option.bind (w_slices_pdqsortOrdered_int64_3 (m_slices_pdqsortOrdered_int64_3 a0 a1 a2 a3 Bool.true Bool.true a0)) (exC x_slices_pdqsortOrdered_int64_3
  (fun e281 =>
   kx (e281.2.2.1 : List Int), ()))
noncomputable def g_slices_pdqsortOrdered_int64 (a0 : List Int) (a1 : Int) (a2 : Int) (a3 : Int) : Option ((List Int)) := t_slices_pdqsortOrdered_int64 some a0 a1 a2 a3
theorem nat_slices_pdqsortOrdered_int64 {R : Type} (kx : (List Int) → Option R) (a0 : List Int) (a1 : Int) (a2 : Int) (a3 : Int) : t_slices_pdqsortOrdered_int64 kx a0 a1 a2 a3 = (g_slices_pdqsortOrdered_int64 a0 a1 a2 a3).bind kx := by
  unfold g_slices_pdqsortOrdered_int64 t_slices_pdqsortOrdered_int64
  exact nat_exC ⟨fun _ => rfl, trivial⟩
abbrev as_slices_pdqsortOrdered_int64 : List AX := [.io (.int .i64), .val false (.int .i64), .val false (.int .i64), .val false (.int .i64)]
abbrev en_slices_pdqsortOrdered_int64 : (List Int) → AV × List CV := fun b => (.tup [], [(.own (.int .i64) b)])
noncomputable abbrev k_slices_pdqsortOrdered_int64 : Contract := .fx as_slices_pdqsortOrdered_int64 ((List Int)) (fun z => g_slices_pdqsortOrdered_int64 z.1 z.2.1 z.2.2.1 z.2.2.2.1) en_slices_pdqsortOrdered_int64
theorem r_slices_pdqsortOrdered_int64 (z : argsX as_slices_pdqsortOrdered_int64) : runF (tab C0 T_slices_pdqsortOrdered_int64) h_slices_pdqsortOrdered_int64 1 Try.f85 (lentOf as_slices_pdqsortOrdered_int64) (xBoxes as_slices_pdqsortOrdered_int64 z) (xVals as_slices_pdqsortOrdered_int64 0 z) K2 = t_slices_pdqsortOrdered_int64 (fun b => some (en_slices_pdqsortOrdered_int64 b)) z.1 z.2.1 z.2.2.1 z.2.2.2.1 := by kernel_rfl
theorem so_slices_pdqsortOrdered_int64 : Sound C0 85 k_slices_pdqsortOrdered_int64 :=
  Sound.fx a_slices_pdqsortOrdered_int64 mixed Try.func85 (by kernel_rfl) (by kernel_rfl) h_slices_pdqsortOrdered_int64 1 hs_slices_pdqsortOrdered_int64 (fun z => (r_slices_pdqsortOrdered_int64 z).trans (nat_slices_pdqsortOrdered_int64 _ z.1 z.2.1 z.2.2.1 z.2.2.2.1))

/-! ### F75 slices.Sort[[]int64,int64] -/
noncomputable def T_slices_SortP : List (FuncId × Contract) := [(86, k_math_bits_Len), (85, k_slices_pdqsortOrdered_int64)]
theorem a_slices_SortP : AllSound C0 T_slices_SortP := .cons so_math_bits_Len (.cons so_slices_pdqsortOrdered_int64 (.nil))
noncomputable def t_slices_SortP {R : Type} (kx : (List Int) → Option R) (a0 : List Int) : Option R :=
  Option.bind (g_math_bits_Len (IntKind.wrap IntKind.u64 (((List.length a0) : Nat) : Int))) fun y234 =>
  cond (decide ((List.length a0) = (List.length a0)))
  (Option.bind (g_slices_pdqsortOrdered_int64 a0 (0 : Int) (((List.length a0) : Nat) : Int) y234) fun y283 =>
   cond (decide ((List.length a0) = (List.length a0)))
   (cond (decide ((List.length a0) = (List.length a0)))
    (cond (decide ((List.length a0) = (List.length a0)))
     (kx y283)
     (none))
    (none))
   (none))
  (none)
noncomputable def g_slices_SortP (a0 : List Int) : Option ((List Int)) := t_slices_SortP some a0
theorem nat_slices_SortP {R : Type} (kx : (List Int) → Option R) (a0 : List Int) : t_slices_SortP kx a0 = (g_slices_SortP a0).bind kx := by
  unfold g_slices_SortP t_slices_SortP
  exact nat_bind fun _ => nat_cond (nat_bind fun _ => nat_cond (nat_cond (nat_cond (rfl) (rfl)) (rfl)) (rfl)) (rfl)
abbrev as_slices_SortP : List AX := [.io (.int .i64)]
abbrev en_slices_SortP : (List Int) → AV × List CV := fun b => (.tup [], [(.own (.int .i64) b)])
noncomputable abbrev k_slices_SortP : Contract := .fx as_slices_SortP ((List Int)) (fun z => g_slices_SortP z.1) en_slices_SortP
theorem r_slices_SortP (z : argsX as_slices_SortP) : runF (tab C0 T_slices_SortP) noHints 1 Try.f75 (lentOf as_slices_SortP) (xBoxes as_slices_SortP z) (xVals as_slices_SortP 0 z) K2 = t_slices_SortP (fun b => some (en_slices_SortP b)) z.1 := by kernel_rfl
theorem so_slices_SortP : Sound C0 75 k_slices_SortP :=
  Sound.fx a_slices_SortP mixed Try.func75 (by kernel_rfl) (by kernel_rfl) noHints 1 noHints_ok (fun z => (r_slices_SortP z).trans (nat_slices_SortP _ z.1))


theorem sortP_nil : g_slices_SortP [] = some [] := by
  have h5 : w_slices_insertionSortOrdered_int64_2 (m_slices_insertionSortOrdered_int64_2 [] 0 0 1 []) = some (.inl (d_slices_insertionSortOrdered_int64_2_0 [])) := by
    rw [wq_slices_insertionSortOrdered_int64_2, u_slices_insertionSortOrdered_int64_2, dec_f (by omega), cond_false]; rfl
  have hi : g_slices_insertionSortOrdered_int64 [] 0 0 = some [] := by
    rw [g_slices_insertionSortOrdered_int64, t_slices_insertionSortOrdered_int64]
    have e : IntKind.wrap IntKind.i64 ((0 : Int) + 1) = 1 := by rfl
    rw [e, h5]; rfl
  have h3 : ∀ y, w_slices_pdqsortOrdered_int64_3 (m_slices_pdqsortOrdered_int64_3 [] 0 0 y true true []) = some (.inl (d_slices_pdqsortOrdered_int64_3_0 [])) := by
    intro y
    rw [wq_slices_pdqsortOrdered_int64_3, u_slices_pdqsortOrdered_int64_3]
    have e : IntKind.wrap IntKind.i64 ((0 : Int) - 0) = 0 := by rfl
    rw [e, dec_t (by omega), cond_true, dec_t rfl, cond_true, hi, Option.bind_some]; rfl
  have hp : ∀ y, g_slices_pdqsortOrdered_int64 [] 0 0 y = some [] := by
    intro y
    rw [g_slices_pdqsortOrdered_int64, t_slices_pdqsortOrdered_int64, h3]; rfl
  rw [g_slices_SortP, t_slices_SortP]
  have e : IntKind.wrap IntKind.u64 (((List.length ([] : List Int) : Nat) : Int)) = 0 := by rfl
  have hl : g_math_bits_Len 0 = some 0 := by
    rw [g_math_bits_Len, t_math_bits_Len]
    have : g_math_bits_Len64 0 = some 0 := by kernel_rfl
    rw [this]; rfl
  rw [e, hl, Option.bind_some]
  have h0 := hp 0
  have h0' : g_slices_pdqsortOrdered_int64 [] (0 : Int) (((List.length ([] : List Int)) : Nat) : Int) 0 = some [] := h0
  rw [h0', dec_t rfl]; rfl
noncomputable def g_slices_Sort_Sint64_int64 (a0 : List Int) : Option (List Int) := cond (decide (0 < a0.length)) (srt a0) (some [])
abbrev as_slices_Sort_Sint64_int64 : List AX := [.io (.int .i64)]
abbrev en_slices_Sort_Sint64_int64 : (List Int) → AV × List CV := fun b => (.tup [], [(.own (.int .i64) b)])
noncomputable abbrev k_slices_Sort_Sint64_int64 : Contract := .fx as_slices_Sort_Sint64_int64 ((List Int)) (fun z => g_slices_Sort_Sint64_int64 z.1) en_slices_Sort_Sint64_int64
theorem so_slices_Sort_Sint64_int64 : Sound C0 75 k_slices_Sort_Sint64_int64 := by
  refine Sound.either so_sortAll so_slices_SortP ?_
  rintro ⟨l, ⟨⟩⟩ y h
  have h : g_slices_Sort_Sint64_int64 l = some y := h
  cases l with
  | nil => exact .inr (sortP_nil.trans h)
  | cons x r => exact .inl h

/-! ### F58 impl.isPermutation -/
noncomputable def T_impl_isPermutation : List (FuncId × Contract) := [(66, k_slices_Clone_Sint64_int64), (75, k_slices_Sort_Sint64_int64)]
theorem a_impl_isPermutation : AllSound C0 T_impl_isPermutation := .cons so_slices_Clone_Sint64_int64 (.cons so_slices_Sort_Sint64_int64 (.nil))
abbrev s_impl_isPermutation_5 : LS := ⟨[(false, [(.int .i64)]), (false, [(.own (.int .i64))]), (false, [(.view (.slot 5 0 0) true 0 (.int .i64))]), (false, [(.int .i64)]), (false, [(.int .i64)])], [], []⟩
abbrev e_impl_isPermutation_5_0 : LS := ⟨[(false, [(.int .i64)]), (false, [.bool]), (false, [(.own (.int .i64))])], [], []⟩
abbrev d_impl_isPermutation_5_0 (v0 : Int) (v1 : Bool) (v2 : List Int) : e_impl_isPermutation_5_0.T := (((v0, ()), (v1, ()), (v2, ()), ()), (), ())
abbrev e_impl_isPermutation_5_1 : LS := ⟨[(false, [(.int .i64)]), (false, [.undef]), (false, [(.own (.int .i64))])], [], []⟩
abbrev d_impl_isPermutation_5_1 (v0 : Int) (v1 : List Int) : e_impl_isPermutation_5_1.T := (((v0, ()), ((), ()), (v1, ()), ()), (), ())
abbrev x_impl_isPermutation_5 : List (Ex × LS) := [(.ret, e_impl_isPermutation_5_0), (.exit 0, e_impl_isPermutation_5_1)]
abbrev m_impl_isPermutation_5 (x1 : Int) (x5 : List Int) (x12 : List Int) (x13 : Int) (x14 : Int) : s_impl_isPermutation_5.T := (((x1, ()), (x5, ()), (x12, ()), (x13, ()), (x14, ()), ()), (), ())
noncomputable def u_impl_isPermutation_5 {R : Type} (nx : s_impl_isPermutation_5.T → Option R) (hx : exH R x_impl_isPermutation_5) (x1 : Int) (x5 : List Int) (x12 : List Int) (x13 : Int) (x14 : Int) : Option R :=
  cond (decide (x14 < x13))
  (Option.bind (idx x12 x14) fun y290 =>
   cond (y290 != x14)
   (hx.1 (d_impl_isPermutation_5_0 x1 Bool.false x5))
   (nx (m_impl_isPermutation_5 x1 x5 x12 x13 (IntKind.wrap IntKind.i64 (x14 + (1 : Int))))))
  (hx.2.1 (d_impl_isPermutation_5_1 x1 x5))
noncomputable def t_impl_isPermutation_5 {R : Type} (nx : s_impl_isPermutation_5.T → Option R) (hx : exH R x_impl_isPermutation_5) (z : s_impl_isPermutation_5.T) : Option R := u_impl_isPermutation_5 nx hx z.1.1.1 z.1.2.1.1 z.1.2.2.1.1 z.1.2.2.2.1.1 z.1.2.2.2.2.1.1
theorem nat_impl_isPermutation_5 : Natural @t_impl_isPermutation_5 := fun R nx hx z => by
  show u_impl_isPermutation_5 nx hx z.1.1.1 z.1.2.1.1 z.1.2.2.1.1 z.1.2.2.2.1.1 z.1.2.2.2.2.1.1 = (u_impl_isPermutation_5 (fun y => some (.inl y)) (hIn x_impl_isPermutation_5 fun x => some (.inr x)) z.1.1.1 z.1.2.1.1 z.1.2.2.1.1 z.1.2.2.2.1.1 z.1.2.2.2.2.1.1).bind (goOn nx hx)
  unfold u_impl_isPermutation_5
  exact nat_cond (nat_bind fun _ => nat_cond (rfl) (rfl)) (rfl)
noncomputable def w_impl_isPermutation_5 : s_impl_isPermutation_5.T → Option (exT x_impl_isPermutation_5) := wOf @t_impl_isPermutation_5
theorem wq_impl_isPermutation_5 (x1 : Int) (x5 : List Int) (x12 : List Int) (x13 : Int) (x14 : Int) : w_impl_isPermutation_5 (m_impl_isPermutation_5 x1 x5 x12 x13 x14) = u_impl_isPermutation_5 w_impl_isPermutation_5 (hIn x_impl_isPermutation_5 some) x1 x5 x12 x13 x14 := wOf_eq nat_impl_isPermutation_5 _
def lh_impl_isPermutation_5 : LoopHint := ⟨[1, 5, 12, 13, 14], [], [1, 4, 5], []⟩
noncomputable def h_impl_isPermutation : Hints Rv := ⟨fun k => match k with | 5 => lh_impl_isPermutation_5 | _ => ⟨[], [], [], []⟩, fun k => match k with | 5 => some (loopX s_impl_isPermutation_5 x_impl_isPermutation_5 w_impl_isPermutation_5) | _ => none⟩
theorem st_impl_isPermutation_5 (n : Nat) (z : s_impl_isPermutation_5.T) (k : Ex → Live → Option Rv) : loopN ⟨27, 27⟩ lh_impl_isPermutation_5 (den (tab C0 T_impl_isPermutation) ⟨27, 27⟩ h_impl_isPermutation 1 (loopOf Try.f58 4)) (n + 1) (s_impl_isPermutation_5.enc z) k =
    t_impl_isPermutation_5 (fun y => loopN ⟨27, 27⟩ lh_impl_isPermutation_5 (den (tab C0 T_impl_isPermutation) ⟨27, 27⟩ h_impl_isPermutation 1 (loopOf Try.f58 4)) n (s_impl_isPermutation_5.enc y) k) (hK k x_impl_isPermutation_5) z := by kernel_rfl
theorem hs_impl_isPermutation : HintsOk (tab C0 T_impl_isPermutation) ⟨27, 27⟩ h_impl_isPermutation 1 (loops (codeOf Try.f58)) := by
  have hl : loops (codeOf Try.f58) = [loopOf Try.f58 4] := by kernel_rfl
  rw [hl]
  exact HintsOk.cons (n := 5) (lh := lh_impl_isPermutation_5) (S := loopX s_impl_isPermutation_5 x_impl_isPermutation_5 w_impl_isPermutation_5) (by kernel_rfl) rfl rfl (loopX_ok nat_impl_isPermutation_5 st_impl_isPermutation_5)
    (HintsOk.nil)
noncomputable def t_impl_isPermutation {R : Type} (kx : Bool → Option R) (a0 : (List Int)) (a1 : Int) : Option R :=
  Option.bind (g_slices_Clone_Sint64_int64 a0) fun y221 =>
  cond (decide ((List.length y221) = (List.length y221)))
  (Option.bind (g_slices_Sort_Sint64_int64 y221) fun y284 =>
   Option.bind (w_impl_isPermutation_5 (m_impl_isPermutation_5 a1 y284 y284 (((List.length y284) : Nat) : Int) (0 : Int))) (exC x_impl_isPermutation_5
   (fun e291 =>
    kx (e291.1.2.1.1 : Bool), fun e295 =>
    kx ((((List.length (e295.1.2.2.1.1 : List Int)) : Nat) : Int) == (e295.1.1.1 : Int)), ())))
  (none)
noncomputable def g_impl_isPermutation (a0 : (List Int)) (a1 : Int) : Option (Bool) := t_impl_isPermutation some a0 a1
theorem nat_impl_isPermutation {R : Type} (kx : Bool → Option R) (a0 : (List Int)) (a1 : Int) : t_impl_isPermutation kx a0 a1 = (g_impl_isPermutation a0 a1).bind kx := by
  unfold g_impl_isPermutation t_impl_isPermutation
  exact nat_bind fun _ => nat_cond (nat_bind fun _ => nat_exC ⟨fun _ => rfl, fun _ => rfl, trivial⟩) (rfl)
abbrev as_impl_isPermutation : List AX := [.val false (.slice (.int .i64)), .val false (.int .i64)]
abbrev en_impl_isPermutation : Bool → AV × List CV := fun b => (.one ⟨false, [(.v (.bool b))]⟩, [])
noncomputable abbrev k_impl_isPermutation : Contract := .fx as_impl_isPermutation (Bool) (fun z => g_impl_isPermutation z.1 z.2.1) en_impl_isPermutation
theorem r_impl_isPermutation (z : argsX as_impl_isPermutation) : runF (tab C0 T_impl_isPermutation) h_impl_isPermutation 1 Try.f58 (lentOf as_impl_isPermutation) (xBoxes as_impl_isPermutation z) (xVals as_impl_isPermutation 0 z) K2 = t_impl_isPermutation (fun b => some (en_impl_isPermutation b)) z.1 z.2.1 := by kernel_rfl
theorem so_impl_isPermutation : Sound C0 58 k_impl_isPermutation :=
  Sound.fx a_impl_isPermutation mixed Try.func58 (by kernel_rfl) (by kernel_rfl) h_impl_isPermutation 1 hs_impl_isPermutation (fun z => (r_impl_isPermutation z).trans (nat_impl_isPermutation _ z.1 z.2.1))

/-! ### F76 (impl.Strip).places -/
noncomputable def T_impl_Strip_places : List (FuncId × Contract) := []
theorem a_impl_Strip_places : AllSound C0 T_impl_Strip_places := .nil
abbrev s_impl_Strip_places_4 : LS := ⟨[(false, [(.own (.int .i64))]), (false, [(.sl (.int .i64))]), (false, [(.int .i64)]), (false, [(.int .i64)])], [], []⟩
abbrev e_impl_Strip_places_4_0 : LS := ⟨[(false, [(.own (.int .i64))])], [], []⟩
abbrev d_impl_Strip_places_4_0 (v0 : List Int) : e_impl_Strip_places_4_0.T := (((v0, ()), ()), (), ())
abbrev x_impl_Strip_places_4 : List (Ex × LS) := [(.exit 0, e_impl_Strip_places_4_0)]
abbrev m_impl_Strip_places_4 (x3 : List Int) (x8 : List Int) (x9 : Int) (x10 : Int) : s_impl_Strip_places_4.T := (((x3, ()), (x8, ()), (x9, ()), (x10, ()), ()), (), ())
noncomputable def u_impl_Strip_places_4 {R : Type} (nx : s_impl_Strip_places_4.T → Option R) (hx : exH R x_impl_Strip_places_4) (x3 : List Int) (x8 : List Int) (x9 : Int) (x10 : Int) : Option R :=
  cond (decide (x10 < x9))
  (Option.bind (idx x8 x10) fun y306 =>
   cond ((Int.tmod x10 (2 : Int)) == (1 : Int))
   (Option.bind (idx x3 x10) fun y307 =>
    cond (decide ((((List.length x3) + (List.length [(IntKind.wrap IntKind.i64 (y307 + (IntKind.wrap IntKind.i64 ((0 : Int) - y306))))])) * 8) ≤ 70368744177664))
    (cond (decide (((List.length x3) + (List.length [(IntKind.wrap IntKind.i64 (y307 + (IntKind.wrap IntKind.i64 ((0 : Int) - y306))))])) ≤ 70368744177664))
     (nx (m_impl_Strip_places_4 (x3 ++ [(IntKind.wrap IntKind.i64 (y307 + (IntKind.wrap IntKind.i64 ((0 : Int) - y306))))]) x8 x9 (IntKind.wrap IntKind.i64 (x10 + (1 : Int)))))
     (none))
    (none))
   (Option.bind (idx x3 x10) fun y308 =>
    cond (decide ((((List.length x3) + (List.length [(IntKind.wrap IntKind.i64 (y308 + y306))])) * 8) ≤ 70368744177664))
    (cond (decide (((List.length x3) + (List.length [(IntKind.wrap IntKind.i64 (y308 + y306))])) ≤ 70368744177664))
     (nx (m_impl_Strip_places_4 (x3 ++ [(IntKind.wrap IntKind.i64 (y308 + y306))]) x8 x9 (IntKind.wrap IntKind.i64 (x10 + (1 : Int)))))
     (none))
    (none)))
  (hx.1 (d_impl_Strip_places_4_0 x3))
noncomputable def t_impl_Strip_places_4 {R : Type} (nx : s_impl_Strip_places_4.T → Option R) (hx : exH R x_impl_Strip_places_4) (z : s_impl_Strip_places_4.T) : Option R := u_impl_Strip_places_4 nx hx z.1.1.1 z.1.2.1.1 z.1.2.2.1.1 z.1.2.2.2.1.1
theorem nat_impl_Strip_places_4 : Natural @t_impl_Strip_places_4 := fun R nx hx z => by
  show u_impl_Strip_places_4 nx hx z.1.1.1 z.1.2.1.1 z.1.2.2.1.1 z.1.2.2.2.1.1 = (u_impl_Strip_places_4 (fun y => some (.inl y)) (hIn x_impl_Strip_places_4 fun x => some (.inr x)) z.1.1.1 z.1.2.1.1 z.1.2.2.1.1 z.1.2.2.2.1.1).bind (goOn nx hx)
  unfold u_impl_Strip_places_4
  exact nat_cond (nat_bind fun _ => nat_cond (nat_bind fun _ => nat_cond (nat_cond (rfl) (rfl)) (rfl)) (nat_bind fun _ => nat_cond (nat_cond (rfl) (rfl)) (rfl))) (rfl)
noncomputable def w_impl_Strip_places_4 : s_impl_Strip_places_4.T → Option (exT x_impl_Strip_places_4) := wOf @t_impl_Strip_places_4
theorem wq_impl_Strip_places_4 (x3 : List Int) (x8 : List Int) (x9 : Int) (x10 : Int) : w_impl_Strip_places_4 (m_impl_Strip_places_4 x3 x8 x9 x10) = u_impl_Strip_places_4 w_impl_Strip_places_4 (hIn x_impl_Strip_places_4 some) x3 x8 x9 x10 := wOf_eq nat_impl_Strip_places_4 _
def lh_impl_Strip_places_4 : LoopHint := ⟨[3, 8, 9, 10], [], [3], []⟩
noncomputable def h_impl_Strip_places : Hints Rv := ⟨fun k => match k with | 4 => lh_impl_Strip_places_4 | _ => ⟨[], [], [], []⟩, fun k => match k with | 4 => some (loopX s_impl_Strip_places_4 x_impl_Strip_places_4 w_impl_Strip_places_4) | _ => none⟩
theorem st_impl_Strip_places_4 (n : Nat) (z : s_impl_Strip_places_4.T) (k : Ex → Live → Option Rv) : loopN ⟨31, 31⟩ lh_impl_Strip_places_4 (den (tab C0 T_impl_Strip_places) ⟨31, 31⟩ h_impl_Strip_places 1 (loopOf Try.f76 3)) (n + 1) (s_impl_Strip_places_4.enc z) k =
    t_impl_Strip_places_4 (fun y => loopN ⟨31, 31⟩ lh_impl_Strip_places_4 (den (tab C0 T_impl_Strip_places) ⟨31, 31⟩ h_impl_Strip_places 1 (loopOf Try.f76 3)) n (s_impl_Strip_places_4.enc y) k) (hK k x_impl_Strip_places_4) z := by kernel_rfl
theorem hs_impl_Strip_places : HintsOk (tab C0 T_impl_Strip_places) ⟨31, 31⟩ h_impl_Strip_places 1 (loops (codeOf Try.f76)) := by
  have hl : loops (codeOf Try.f76) = [loopOf Try.f76 3] := by kernel_rfl
  rw [hl]
  exact HintsOk.cons (n := 4) (lh := lh_impl_Strip_places_4) (S := loopX s_impl_Strip_places_4 x_impl_Strip_places_4 w_impl_Strip_places_4) (by kernel_rfl) rfl rfl (loopX_ok nat_impl_Strip_places_4 st_impl_Strip_places_4)
    (HintsOk.nil)
noncomputable def t_impl_Strip_places {R : Type} (kx : (List Int) → Option R) (a0 : ((List Int) × (List Int))) : Option R :=
  Option.bind (w_impl_Strip_places_4 (m_impl_Strip_places_4 [(0 : Int)] a0.1 (((List.length a0.1) : Nat) : Int) (0 : Int))) (exC x_impl_Strip_places_4
  (fun e309 =>
   kx (e309.1.1.1 : List Int), ()))
noncomputable def g_impl_Strip_places (a0 : ((List Int) × (List Int))) : Option ((List Int)) := t_impl_Strip_places some a0
theorem nat_impl_Strip_places {R : Type} (kx : (List Int) → Option R) (a0 : ((List Int) × (List Int))) : t_impl_Strip_places kx a0 = (g_impl_Strip_places a0).bind kx := by
  unfold g_impl_Strip_places t_impl_Strip_places
  exact nat_exC ⟨fun _ => rfl, trivial⟩
abbrev as_impl_Strip_places : List AX := [.val true (.pair (.slice (.int .i64)) (.slice (.int .i64)))]
abbrev en_impl_Strip_places : (List Int) → AV × List CV := fun b => (.one ⟨false, [(.own (.int .i64) b)]⟩, [])
noncomputable abbrev k_impl_Strip_places : Contract := .fx as_impl_Strip_places ((List Int)) (fun z => g_impl_Strip_places z.1) en_impl_Strip_places
theorem r_impl_Strip_places (z : argsX as_impl_Strip_places) : runF (tab C0 T_impl_Strip_places) h_impl_Strip_places 1 Try.f76 (lentOf as_impl_Strip_places) (xBoxes as_impl_Strip_places z) (xVals as_impl_Strip_places 0 z) K2 = t_impl_Strip_places (fun b => some (en_impl_Strip_places b)) z.1 := by kernel_rfl
theorem so_impl_Strip_places : Sound C0 76 k_impl_Strip_places :=
  Sound.fx a_impl_Strip_places mixed Try.func76 (by kernel_rfl) (by kernel_rfl) h_impl_Strip_places 1 hs_impl_Strip_places (fun z => (r_impl_Strip_places z).trans (nat_impl_Strip_places _ z.1))

/-! ### F87 impl.isAmong -/
noncomputable def T_impl_isAmong : List (FuncId × Contract) := []
theorem a_impl_isAmong : AllSound C0 T_impl_isAmong := .nil
noncomputable def t_impl_isAmong {R : Type} (kx : Bool → Option R) (a0 : Int) (a1 : Int) (a2 : Int) : Option R :=
  cond (decide ((if (Bool.false = Bool.true) then (if (a2 > a1) then a2 else a1) else (if (a2 < a1) then a2 else a1)) < a0))
  (kx (decide (a0 < (if (Bool.true = Bool.true) then (if (a2 > a1) then a2 else a1) else (if (a2 < a1) then a2 else a1)))))
  (kx Bool.false)
noncomputable def g_impl_isAmong (a0 : Int) (a1 : Int) (a2 : Int) : Option (Bool) := t_impl_isAmong some a0 a1 a2
theorem nat_impl_isAmong {R : Type} (kx : Bool → Option R) (a0 : Int) (a1 : Int) (a2 : Int) : t_impl_isAmong kx a0 a1 a2 = (g_impl_isAmong a0 a1 a2).bind kx := by
  unfold g_impl_isAmong t_impl_isAmong
  exact nat_cond (rfl) (rfl)
abbrev as_impl_isAmong : List AX := [.val false (.int .i64), .val false (.int .i64), .val false (.int .i64)]
abbrev en_impl_isAmong : Bool → AV × List CV := fun b => (.one ⟨false, [(.v (.bool b))]⟩, [])
noncomputable abbrev k_impl_isAmong : Contract := .fx as_impl_isAmong (Bool) (fun z => g_impl_isAmong z.1 z.2.1 z.2.2.1) en_impl_isAmong
theorem r_impl_isAmong (z : argsX as_impl_isAmong) : runF (tab C0 T_impl_isAmong) noHints 1 Try.f87 (lentOf as_impl_isAmong) (xBoxes as_impl_isAmong z) (xVals as_impl_isAmong 0 z) K2 = t_impl_isAmong (fun b => some (en_impl_isAmong b)) z.1 z.2.1 z.2.2.1 := by kernel_rfl
theorem so_impl_isAmong : Sound C0 87 k_impl_isAmong :=
  Sound.fx a_impl_isAmong mixed Try.func87 (by kernel_rfl) (by kernel_rfl) noHints 1 noHints_ok (fun z => (r_impl_isAmong z).trans (nat_impl_isAmong _ z.1 z.2.1 z.2.2.1))

/-! ### F77 (impl.Strip).isRightCrease -/
noncomputable def T_impl_Strip_isRightCrease : List (FuncId × Contract) := [(87, k_impl_isAmong)]
theorem a_impl_Strip_isRightCrease : AllSound C0 T_impl_Strip_isRightCrease := .cons so_impl_isAmong (.nil)
abbrev s_impl_Strip_isRightCrease_7 : LS := ⟨[(false, [(.sl (.int .i64))]), (false, [(.sl (.int .i64))]), (false, [(.int .i64)]), (false, [(.int .i64)]), (false, [(.int .i64)]), (false, [(.int .i64)]), (false, [(.int .i64)]), (false, [(.int .i64)])], [], []⟩
abbrev e_impl_Strip_isRightCrease_7_0 : LS := ⟨[(false, [(.sl (.int .i64))]), (false, [(.sl (.int .i64))]), (false, [(.int .i64)]), (false, [.bool]), (false, [(.int .i64)]), (false, [(.int .i64)]), (false, [(.int .i64)])], [], []⟩
abbrev d_impl_Strip_isRightCrease_7_0 (v0 : List Int) (v1 : List Int) (v2 : Int) (v3 : Bool) (v4 : Int) (v5 : Int) (v6 : Int) : e_impl_Strip_isRightCrease_7_0.T := (((v0, ()), (v1, ()), (v2, ()), (v3, ()), (v4, ()), (v5, ()), (v6, ()), ()), (), ())
abbrev e_impl_Strip_isRightCrease_7_1 : LS := ⟨[(false, [(.sl (.int .i64))]), (false, [(.sl (.int .i64))]), (false, [(.int .i64)]), (false, [.undef]), (false, [(.int .i64)]), (false, [(.int .i64)]), (false, [(.int .i64)])], [], []⟩
abbrev d_impl_Strip_isRightCrease_7_1 (v0 : List Int) (v1 : List Int) (v2 : Int) (v3 : Int) (v4 : Int) (v5 : Int) : e_impl_Strip_isRightCrease_7_1.T := (((v0, ()), (v1, ()), (v2, ()), ((), ()), (v3, ()), (v4, ()), (v5, ()), ()), (), ())
abbrev x_impl_Strip_isRightCrease_7 : List (Ex × LS) := [(.ret, e_impl_Strip_isRightCrease_7_0), (.exit 0, e_impl_Strip_isRightCrease_7_1)]
abbrev m_impl_Strip_isRightCrease_7 (x1 : List Int) (x2 : List Int) (x3 : Int) (x9 : Int) (x10 : Int) (x11 : Int) (x47 : Int) (x48 : Int) : s_impl_Strip_isRightCrease_7.T := (((x1, ()), (x2, ()), (x3, ()), (x9, ()), (x10, ()), (x11, ()), (x47, ()), (x48, ()), ()), (), ())
noncomputable def u_impl_Strip_isRightCrease_7 {R : Type} (nx : s_impl_Strip_isRightCrease_7.T → Option R) (hx : exH R x_impl_Strip_isRightCrease_7) (x1 : List Int) (x2 : List Int) (x3 : Int) (x9 : Int) (x10 : Int) (x11 : Int) (x47 : Int) (x48 : Int) : Option R :=
  cond (decide (x48 < x47))
  (cond (x48 != x3)
   (cond (x48 != (IntKind.wrap IntKind.i64 (x3 + (1 : Int))))
    (Option.bind (idx x1 x48) fun y334 =>
     Option.bind (idx x1 (IntKind.wrap IntKind.i64 (x48 + (1 : Int)))) fun y335 =>
     cond (decide ((if (Bool.false = Bool.true) then (if (y335 > y334) then y335 else y334) else (if (y335 < y334) then y335 else y334)) < x11))
     (Option.bind (idx x1 x48) fun y336 =>
      Option.bind (idx x1 (IntKind.wrap IntKind.i64 (x48 + (1 : Int)))) fun y337 =>
      cond (decide (x11 < (if (Bool.true = Bool.true) then (if (y337 > y336) then y337 else y336) else (if (y337 < y336) then y337 else y336))))
      (Option.bind (idx x2 x48) fun y338 =>
       Option.bind (g_impl_isAmong y338 x9 x10) fun y342 =>
       cond y342
       (hx.1 (d_impl_Strip_isRightCrease_7_0 x1 x2 x3 Bool.false x9 x10 x11))
       (nx (m_impl_Strip_isRightCrease_7 x1 x2 x3 x9 x10 x11 x47 (IntKind.wrap IntKind.i64 (x48 + (1 : Int))))))
      (nx (m_impl_Strip_isRightCrease_7 x1 x2 x3 x9 x10 x11 x47 (IntKind.wrap IntKind.i64 (x48 + (1 : Int))))))
     (nx (m_impl_Strip_isRightCrease_7 x1 x2 x3 x9 x10 x11 x47 (IntKind.wrap IntKind.i64 (x48 + (1 : Int))))))
    (nx (m_impl_Strip_isRightCrease_7 x1 x2 x3 x9 x10 x11 x47 (IntKind.wrap IntKind.i64 (x48 + (1 : Int))))))
   (nx (m_impl_Strip_isRightCrease_7 x1 x2 x3 x9 x10 x11 x47 (IntKind.wrap IntKind.i64 (x48 + (1 : Int))))))
  (hx.2.1 (d_impl_Strip_isRightCrease_7_1 x1 x2 x3 x9 x10 x11))
noncomputable def t_impl_Strip_isRightCrease_7 {R : Type} (nx : s_impl_Strip_isRightCrease_7.T → Option R) (hx : exH R x_impl_Strip_isRightCrease_7) (z : s_impl_Strip_isRightCrease_7.T) : Option R := u_impl_Strip_isRightCrease_7 nx hx z.1.1.1 z.1.2.1.1 z.1.2.2.1.1 z.1.2.2.2.1.1 z.1.2.2.2.2.1.1 z.1.2.2.2.2.2.1.1 z.1.2.2.2.2.2.2.1.1 z.1.2.2.2.2.2.2.2.1.1
theorem nat_impl_Strip_isRightCrease_7 : Natural @t_impl_Strip_isRightCrease_7 := fun R nx hx z => by
  show u_impl_Strip_isRightCrease_7 nx hx z.1.1.1 z.1.2.1.1 z.1.2.2.1.1 z.1.2.2.2.1.1 z.1.2.2.2.2.1.1 z.1.2.2.2.2.2.1.1 z.1.2.2.2.2.2.2.1.1 z.1.2.2.2.2.2.2.2.1.1 = (u_impl_Strip_isRightCrease_7 (fun y => some (.inl y)) (hIn x_impl_Strip_isRightCrease_7 fun x => some (.inr x)) z.1.1.1 z.1.2.1.1 z.1.2.2.1.1 z.1.2.2.2.1.1 z.1.2.2.2.2.1.1 z.1.2.2.2.2.2.1.1 z.1.2.2.2.2.2.2.1.1 z.1.2.2.2.2.2.2.2.1.1).bind (goOn nx hx)
  unfold u_impl_Strip_isRightCrease_7
  exact nat_cond (nat_cond (nat_cond (nat_bind fun _ => nat_bind fun _ => nat_cond (nat_bind fun _ => nat_bind fun _ => nat_cond (nat_bind fun _ => nat_bind fun _ => nat_cond (rfl) (rfl)) (rfl)) (rfl)) (rfl)) (rfl)) (rfl)
noncomputable def w_impl_Strip_isRightCrease_7 : s_impl_Strip_isRightCrease_7.T → Option (exT x_impl_Strip_isRightCrease_7) := wOf @t_impl_Strip_isRightCrease_7
theorem wq_impl_Strip_isRightCrease_7 (x1 : List Int) (x2 : List Int) (x3 : Int) (x9 : Int) (x10 : Int) (x11 : Int) (x47 : Int) (x48 : Int) : w_impl_Strip_isRightCrease_7 (m_impl_Strip_isRightCrease_7 x1 x2 x3 x9 x10 x11 x47 x48) = u_impl_Strip_isRightCrease_7 w_impl_Strip_isRightCrease_7 (hIn x_impl_Strip_isRightCrease_7 some) x1 x2 x3 x9 x10 x11 x47 x48 := wOf_eq nat_impl_Strip_isRightCrease_7 _
def lh_impl_Strip_isRightCrease_7 : LoopHint := ⟨[1, 2, 3, 9, 10, 11, 47, 48], [], [1, 2, 3, 8, 9, 10, 11], []⟩
abbrev s_impl_Strip_isRightCrease_13 : LS := ⟨[(false, [(.sl (.int .i64))]), (false, [(.sl (.int .i64))]), (false, [(.int .i64)]), (false, [(.int .i64)]), (false, [(.int .i64)]), (false, [(.int .i64)]), (false, [(.int .i64)]), (false, [(.int .i64)])], [], []⟩
abbrev e_impl_Strip_isRightCrease_13_0 : LS := ⟨[(false, [.bool])], [], []⟩
abbrev d_impl_Strip_isRightCrease_13_0 (v0 : Bool) : e_impl_Strip_isRightCrease_13_0.T := (((v0, ()), ()), (), ())
abbrev e_impl_Strip_isRightCrease_13_1 : LS := ⟨[(false, [.undef])], [], []⟩
abbrev d_impl_Strip_isRightCrease_13_1 : e_impl_Strip_isRightCrease_13_1.T := ((((), ()), ()), (), ())
abbrev x_impl_Strip_isRightCrease_13 : List (Ex × LS) := [(.ret, e_impl_Strip_isRightCrease_13_0), (.exit 2, e_impl_Strip_isRightCrease_13_1)]
abbrev m_impl_Strip_isRightCrease_13 (x1 : List Int) (x2 : List Int) (x3 : Int) (x9 : Int) (x10 : Int) (x11 : Int) (x98 : Int) (x99 : Int) : s_impl_Strip_isRightCrease_13.T := (((x1, ()), (x2, ()), (x3, ()), (x9, ()), (x10, ()), (x11, ()), (x98, ()), (x99, ()), ()), (), ())
noncomputable def u_impl_Strip_isRightCrease_13 {R : Type} (nx : s_impl_Strip_isRightCrease_13.T → Option R) (hx : exH R x_impl_Strip_isRightCrease_13) (x1 : List Int) (x2 : List Int) (x3 : Int) (x9 : Int) (x10 : Int) (x11 : Int) (x98 : Int) (x99 : Int) : Option R :=
  cond (decide (x99 < x98))
  (Option.bind (idx x1 (IntKind.wrap IntKind.i64 (x99 + (1 : Int)))) fun y366 =>
   cond (y366 == x11)
   (cond ((Int.tmod (IntKind.wrap IntKind.i64 (x99 - x3)) (2 : Int)) == (0 : Int))
    (cond (x99 != x3)
     (Option.bind (idx x2 x99) fun y367 =>
      Option.bind (idx x2 (IntKind.wrap IntKind.i64 (x99 + (1 : Int)))) fun y368 =>
      Option.bind (g_impl_isAmong y367 x9 x10) fun y369 =>
      Option.bind (g_impl_isAmong y368 x9 x10) fun y370 =>
      cond (!(y369 == y370))
      (hx.1 (d_impl_Strip_isRightCrease_13_0 Bool.false))
      (Option.bind (g_impl_isAmong x9 y367 y368) fun y371 =>
       Option.bind (g_impl_isAmong x10 y367 y368) fun y372 =>
       cond (!(y371 == y372))
       (hx.1 (d_impl_Strip_isRightCrease_13_0 Bool.false))
       (nx (m_impl_Strip_isRightCrease_13 x1 x2 x3 x9 x10 x11 x98 (IntKind.wrap IntKind.i64 (x99 + (1 : Int)))))))
     (nx (m_impl_Strip_isRightCrease_13 x1 x2 x3 x9 x10 x11 x98 (IntKind.wrap IntKind.i64 (x99 + (1 : Int))))))
    (nx (m_impl_Strip_isRightCrease_13 x1 x2 x3 x9 x10 x11 x98 (IntKind.wrap IntKind.i64 (x99 + (1 : Int))))))
   (nx (m_impl_Strip_isRightCrease_13 x1 x2 x3 x9 x10 x11 x98 (IntKind.wrap IntKind.i64 (x99 + (1 : Int))))))
  (hx.2.1 (d_impl_Strip_isRightCrease_13_1))
noncomputable def t_impl_Strip_isRightCrease_13 {R : Type} (nx : s_impl_Strip_isRightCrease_13.T → Option R) (hx : exH R x_impl_Strip_isRightCrease_13) (z : s_impl_Strip_isRightCrease_13.T) : Option R := u_impl_Strip_isRightCrease_13 nx hx z.1.1.1 z.1.2.1.1 z.1.2.2.1.1 z.1.2.2.2.1.1 z.1.2.2.2.2.1.1 z.1.2.2.2.2.2.1.1 z.1.2.2.2.2.2.2.1.1 z.1.2.2.2.2.2.2.2.1.1
theorem nat_impl_Strip_isRightCrease_13 : Natural @t_impl_Strip_isRightCrease_13 := fun R nx hx z => by
  show u_impl_Strip_isRightCrease_13 nx hx z.1.1.1 z.1.2.1.1 z.1.2.2.1.1 z.1.2.2.2.1.1 z.1.2.2.2.2.1.1 z.1.2.2.2.2.2.1.1 z.1.2.2.2.2.2.2.1.1 z.1.2.2.2.2.2.2.2.1.1 = (u_impl_Strip_isRightCrease_13 (fun y => some (.inl y)) (hIn x_impl_Strip_isRightCrease_13 fun x => some (.inr x)) z.1.1.1 z.1.2.1.1 z.1.2.2.1.1 z.1.2.2.2.1.1 z.1.2.2.2.2.1.1 z.1.2.2.2.2.2.1.1 z.1.2.2.2.2.2.2.1.1 z.1.2.2.2.2.2.2.2.1.1).bind (goOn nx hx)
  unfold u_impl_Strip_isRightCrease_13
  exact nat_cond (nat_bind fun _ => nat_cond (nat_cond (nat_cond (nat_bind fun _ => nat_bind fun _ => nat_bind fun _ => nat_bind fun _ => nat_cond (rfl) (nat_bind fun _ => nat_bind fun _ => nat_cond (rfl) (rfl))) (rfl)) (rfl)) (rfl)) (rfl)
noncomputable def w_impl_Strip_isRightCrease_13 : s_impl_Strip_isRightCrease_13.T → Option (exT x_impl_Strip_isRightCrease_13) := wOf @t_impl_Strip_isRightCrease_13
theorem wq_impl_Strip_isRightCrease_13 (x1 : List Int) (x2 : List Int) (x3 : Int) (x9 : Int) (x10 : Int) (x11 : Int) (x98 : Int) (x99 : Int) : w_impl_Strip_isRightCrease_13 (m_impl_Strip_isRightCrease_13 x1 x2 x3 x9 x10 x11 x98 x99) = u_impl_Strip_isRightCrease_13 w_impl_Strip_isRightCrease_13 (hIn x_impl_Strip_isRightCrease_13 some) x1 x2 x3 x9 x10 x11 x98 x99 := wOf_eq nat_impl_Strip_isRightCrease_13 _
def lh_impl_Strip_isRightCrease_13 : LoopHint := ⟨[1, 2, 3, 9, 10, 11, 98, 99], [], [8], []⟩
noncomputable def h_impl_Strip_isRightCrease : Hints Rv := ⟨fun k => match k with | 7 => lh_impl_Strip_isRightCrease_7 | 13 => lh_impl_Strip_isRightCrease_13 | _ => ⟨[], [], [], []⟩, fun k => match k with | 7 => some (loopX s_impl_Strip_isRightCrease_7 x_impl_Strip_isRightCrease_7 w_impl_Strip_isRightCrease_7) | 13 => some (loopX s_impl_Strip_isRightCrease_13 x_impl_Strip_isRightCrease_13 w_impl_Strip_isRightCrease_13) | _ => none⟩
theorem st_impl_Strip_isRightCrease_7 (n : Nat) (z : s_impl_Strip_isRightCrease_7.T) (k : Ex → Live → Option Rv) : loopN ⟨151, 151⟩ lh_impl_Strip_isRightCrease_7 (den (tab C0 T_impl_Strip_isRightCrease) ⟨151, 151⟩ h_impl_Strip_isRightCrease 1 (loopOf Try.f77 6)) (n + 1) (s_impl_Strip_isRightCrease_7.enc z) k =
    t_impl_Strip_isRightCrease_7 (fun y => loopN ⟨151, 151⟩ lh_impl_Strip_isRightCrease_7 (den (tab C0 T_impl_Strip_isRightCrease) ⟨151, 151⟩ h_impl_Strip_isRightCrease 1 (loopOf Try.f77 6)) n (s_impl_Strip_isRightCrease_7.enc y) k) (hK k x_impl_Strip_isRightCrease_7) z := by kernel_rfl
theorem st_impl_Strip_isRightCrease_13 (n : Nat) (z : s_impl_Strip_isRightCrease_13.T) (k : Ex → Live → Option Rv) : loopN ⟨151, 151⟩ lh_impl_Strip_isRightCrease_13 (den (tab C0 T_impl_Strip_isRightCrease) ⟨151, 151⟩ h_impl_Strip_isRightCrease 1 (loopOf Try.f77 12)) (n + 1) (s_impl_Strip_isRightCrease_13.enc z) k =
    t_impl_Strip_isRightCrease_13 (fun y => loopN ⟨151, 151⟩ lh_impl_Strip_isRightCrease_13 (den (tab C0 T_impl_Strip_isRightCrease) ⟨151, 151⟩ h_impl_Strip_isRightCrease 1 (loopOf Try.f77 12)) n (s_impl_Strip_isRightCrease_13.enc y) k) (hK k x_impl_Strip_isRightCrease_13) z := by kernel_rfl
theorem hs_impl_Strip_isRightCrease : HintsOk (tab C0 T_impl_Strip_isRightCrease) ⟨151, 151⟩ h_impl_Strip_isRightCrease 1 (loops (codeOf Try.f77)) := by
  have hl : loops (codeOf Try.f77) = [loopOf Try.f77 6, loopOf Try.f77 12] := by kernel_rfl
  rw [hl]
  exact HintsOk.cons (n := 7) (lh := lh_impl_Strip_isRightCrease_7) (S := loopX s_impl_Strip_isRightCrease_7 x_impl_Strip_isRightCrease_7 w_impl_Strip_isRightCrease_7) (by kernel_rfl) rfl rfl (loopX_ok nat_impl_Strip_isRightCrease_7 st_impl_Strip_isRightCrease_7)
    (HintsOk.cons (n := 13) (lh := lh_impl_Strip_isRightCrease_13) (S := loopX s_impl_Strip_isRightCrease_13 x_impl_Strip_isRightCrease_13 w_impl_Strip_isRightCrease_13) (by kernel_rfl) rfl rfl (loopX_ok nat_impl_Strip_isRightCrease_13 st_impl_Strip_isRightCrease_13)
    (HintsOk.nil))
noncomputable def t_impl_Strip_isRightCrease {R : Type} (kx : Bool → Option R) (a0 : ((List Int) × (List Int))) (a1 : (List Int)) (a2 : (List Int)) (a3 : Int) : Option R :=
  Option.bind (idx a2 a3) fun y322 =>
  Option.bind (idx a2 (IntKind.wrap IntKind.i64 (a3 + (1 : Int)))) fun y323 =>
  Option.bind (idx a1 (IntKind.wrap IntKind.i64 (a3 + (1 : Int)))) fun y324 =>
  Option.bind (idx a0.2 a3) fun y325 =>
  cond (!((y325 == (3 : Int)) == (((Int.tmod a3 (2 : Int)) == (0 : Int)) == (decide (y322 < y323)))))
  (kx Bool.false)
  (Option.bind (w_impl_Strip_isRightCrease_7 (m_impl_Strip_isRightCrease_7 a1 a2 a3 y322 y323 y324 (((List.length a2) : Nat) : Int) (0 : Int))) (exC x_impl_Strip_isRightCrease_7
   (fun e343 =>
    kx (e343.1.2.2.2.1.1 : Bool), fun e351 =>
    Option.bind (w_impl_Strip_isRightCrease_13 (m_impl_Strip_isRightCrease_13 (e351.1.1.1 : List Int) (e351.1.2.1.1 : List Int) (e351.1.2.2.1.1 : Int) (e351.1.2.2.2.2.1.1 : Int) (e351.1.2.2.2.2.2.1.1 : Int) (e351.1.2.2.2.2.2.2.1.1 : Int) (e351.1.2.2.1.1 : Int) (0 : Int))) (exC x_impl_Strip_isRightCrease_13
    (fun e373 =>
     kx (e373.1.1.1 : Bool), fun _ =>
     kx Bool.true, ())), ())))
noncomputable def g_impl_Strip_isRightCrease (a0 : ((List Int) × (List Int))) (a1 : (List Int)) (a2 : (List Int)) (a3 : Int) : Option (Bool) := t_impl_Strip_isRightCrease some a0 a1 a2 a3
theorem nat_impl_Strip_isRightCrease {R : Type} (kx : Bool → Option R) (a0 : ((List Int) × (List Int))) (a1 : (List Int)) (a2 : (List Int)) (a3 : Int) : t_impl_Strip_isRightCrease kx a0 a1 a2 a3 = (g_impl_Strip_isRightCrease a0 a1 a2 a3).bind kx := by
  unfold g_impl_Strip_isRightCrease t_impl_Strip_isRightCrease
  exact nat_bind fun _ => nat_bind fun _ => nat_bind fun _ => nat_bind fun _ => nat_cond (rfl) (nat_exC ⟨fun _ => rfl, fun _ => nat_exC ⟨fun _ => rfl, fun _ => rfl, trivial⟩, trivial⟩)
abbrev as_impl_Strip_isRightCrease : List AX := [.val true (.pair (.slice (.int .i64)) (.slice (.int .i64))), .val false (.slice (.int .i64)), .val false (.slice (.int .i64)), .val false (.int .i64)]
abbrev en_impl_Strip_isRightCrease : Bool → AV × List CV := fun b => (.one ⟨false, [(.v (.bool b))]⟩, [])
noncomputable abbrev k_impl_Strip_isRightCrease : Contract := .fx as_impl_Strip_isRightCrease (Bool) (fun z => g_impl_Strip_isRightCrease z.1 z.2.1 z.2.2.1 z.2.2.2.1) en_impl_Strip_isRightCrease
theorem r_impl_Strip_isRightCrease (z : argsX as_impl_Strip_isRightCrease) : runF (tab C0 T_impl_Strip_isRightCrease) h_impl_Strip_isRightCrease 1 Try.f77 (lentOf as_impl_Strip_isRightCrease) (xBoxes as_impl_Strip_isRightCrease z) (xVals as_impl_Strip_isRightCrease 0 z) K2 = t_impl_Strip_isRightCrease (fun b => some (en_impl_Strip_isRightCrease b)) z.1 z.2.1 z.2.2.1 z.2.2.2.1 := by kernel_rfl
theorem so_impl_Strip_isRightCrease : Sound C0 77 k_impl_Strip_isRightCrease :=
  Sound.fx a_impl_Strip_isRightCrease mixed Try.func77 (by kernel_rfl) (by kernel_rfl) h_impl_Strip_isRightCrease 1 hs_impl_Strip_isRightCrease (fun z => (r_impl_Strip_isRightCrease z).trans (nat_impl_Strip_isRightCrease _ z.1 z.2.1 z.2.2.1 z.2.2.2.1))

/-! ### F59 (impl.Strip).isFolded -/
noncomputable def T_impl_Strip_isFolded : List (FuncId × Contract) := [(76, k_impl_Strip_places), (77, k_impl_Strip_isRightCrease)]
theorem a_impl_Strip_isFolded : AllSound C0 T_impl_Strip_isFolded := .cons so_impl_Strip_places (.cons so_impl_Strip_isRightCrease (.nil))
abbrev s_impl_Strip_isFolded_4 : LS := ⟨[(false, [(.sl (.int .i64))]), (false, [(.ptr 2 0)]), (false, [(.own (.int .i64))]), (false, [(.int .i64)]), (false, [(.int .i64)])], [(false, [(.sl (.int .i64)), (.sl (.int .i64))])], []⟩
abbrev e_impl_Strip_isFolded_4_0 : LS := ⟨[(false, [.bool])], [], []⟩
abbrev d_impl_Strip_isFolded_4_0 (v0 : Bool) : e_impl_Strip_isFolded_4_0.T := (((v0, ()), ()), (), ())
abbrev e_impl_Strip_isFolded_4_1 : LS := ⟨[(false, [.undef])], [], []⟩
abbrev d_impl_Strip_isFolded_4_1 : e_impl_Strip_isFolded_4_1.T := ((((), ()), ()), (), ())
abbrev x_impl_Strip_isFolded_4 : List (Ex × LS) := [(.ret, e_impl_Strip_isFolded_4_0), (.exit 0, e_impl_Strip_isFolded_4_1)]
abbrev m_impl_Strip_isFolded_4 (x1 : List Int) (x5 : List Int) (x11 : Int) (x12 : Int) (b0_0 : List Int) (b0_1 : List Int) : s_impl_Strip_isFolded_4.T := (((x1, ()), ((), ()), (x5, ()), (x11, ()), (x12, ()), ()), ((b0_0, b0_1, ()), ()), ())
noncomputable def u_impl_Strip_isFolded_4 {R : Type} (nx : s_impl_Strip_isFolded_4.T → Option R) (hx : exH R x_impl_Strip_isFolded_4) (x1 : List Int) (x5 : List Int) (x11 : Int) (x12 : Int) (b0_0 : List Int) (b0_1 : List Int) : Option R :=
  cond (decide (x12 < x11))
  (Option.bind (g_impl_Strip_isRightCrease (b0_0, b0_1) x5 x1 x12) fun y376 =>
   cond (!y376)
   (hx.1 (d_impl_Strip_isFolded_4_0 Bool.false))
   (nx (m_impl_Strip_isFolded_4 x1 x5 x11 (IntKind.wrap IntKind.i64 (x12 + (1 : Int))) b0_0 b0_1)))
  (hx.2.1 (d_impl_Strip_isFolded_4_1))
noncomputable def t_impl_Strip_isFolded_4 {R : Type} (nx : s_impl_Strip_isFolded_4.T → Option R) (hx : exH R x_impl_Strip_isFolded_4) (z : s_impl_Strip_isFolded_4.T) : Option R := u_impl_Strip_isFolded_4 nx hx z.1.1.1 z.1.2.2.1.1 z.1.2.2.2.1.1 z.1.2.2.2.2.1.1 z.2.1.1.1 z.2.1.1.2.1
theorem nat_impl_Strip_isFolded_4 : Natural @t_impl_Strip_isFolded_4 := fun R nx hx z => by
  show u_impl_Strip_isFolded_4 nx hx z.1.1.1 z.1.2.2.1.1 z.1.2.2.2.1.1 z.1.2.2.2.2.1.1 z.2.1.1.1 z.2.1.1.2.1 = (u_impl_Strip_isFolded_4 (fun y => some (.inl y)) (hIn x_impl_Strip_isFolded_4 fun x => some (.inr x)) z.1.1.1 z.1.2.2.1.1 z.1.2.2.2.1.1 z.1.2.2.2.2.1.1 z.2.1.1.1 z.2.1.1.2.1).bind (goOn nx hx)
  unfold u_impl_Strip_isFolded_4
  exact nat_cond (nat_bind fun _ => nat_cond (rfl) (rfl)) (rfl)
noncomputable def w_impl_Strip_isFolded_4 : s_impl_Strip_isFolded_4.T → Option (exT x_impl_Strip_isFolded_4) := wOf @t_impl_Strip_isFolded_4
theorem wq_impl_Strip_isFolded_4 (x1 : List Int) (x5 : List Int) (x11 : Int) (x12 : Int) (b0_0 : List Int) (b0_1 : List Int) : w_impl_Strip_isFolded_4 (m_impl_Strip_isFolded_4 x1 x5 x11 x12 b0_0 b0_1) = u_impl_Strip_isFolded_4 w_impl_Strip_isFolded_4 (hIn x_impl_Strip_isFolded_4 some) x1 x5 x11 x12 b0_0 b0_1 := wOf_eq nat_impl_Strip_isFolded_4 _
def lh_impl_Strip_isFolded_4 : LoopHint := ⟨[1, 2, 5, 11, 12], [2], [4], []⟩
noncomputable def h_impl_Strip_isFolded : Hints Rv := ⟨fun k => match k with | 4 => lh_impl_Strip_isFolded_4 | _ => ⟨[], [], [], []⟩, fun k => match k with | 4 => some (loopX s_impl_Strip_isFolded_4 x_impl_Strip_isFolded_4 w_impl_Strip_isFolded_4) | _ => none⟩
theorem st_impl_Strip_isFolded_4 (n : Nat) (z : s_impl_Strip_isFolded_4.T) (k : Ex → Live → Option Rv) : loopN ⟨22, 22⟩ lh_impl_Strip_isFolded_4 (den (tab C0 T_impl_Strip_isFolded) ⟨22, 22⟩ h_impl_Strip_isFolded 1 (loopOf Try.f59 3)) (n + 1) (s_impl_Strip_isFolded_4.enc z) k =
    t_impl_Strip_isFolded_4 (fun y => loopN ⟨22, 22⟩ lh_impl_Strip_isFolded_4 (den (tab C0 T_impl_Strip_isFolded) ⟨22, 22⟩ h_impl_Strip_isFolded 1 (loopOf Try.f59 3)) n (s_impl_Strip_isFolded_4.enc y) k) (hK k x_impl_Strip_isFolded_4) z := by kernel_rfl
theorem hs_impl_Strip_isFolded : HintsOk (tab C0 T_impl_Strip_isFolded) ⟨22, 22⟩ h_impl_Strip_isFolded 1 (loops (codeOf Try.f59)) := by
  have hl : loops (codeOf Try.f59) = [loopOf Try.f59 3] := by kernel_rfl
  rw [hl]
  exact HintsOk.cons (n := 4) (lh := lh_impl_Strip_isFolded_4) (S := loopX s_impl_Strip_isFolded_4 x_impl_Strip_isFolded_4 w_impl_Strip_isFolded_4) (by kernel_rfl) rfl rfl (loopX_ok nat_impl_Strip_isFolded_4 st_impl_Strip_isFolded_4)
    (HintsOk.nil)
noncomputable def t_impl_Strip_isFolded {R : Type} (kx : Bool → Option R) (a0 : ((List Int) × (List Int))) (a1 : (List Int)) : Option R :=
  Option.bind (g_impl_Strip_places a0) fun y311 =>
  Option.bind (w_impl_Strip_isFolded_4 (m_impl_Strip_isFolded_4 a1 y311 (((List.length a0.2) : Nat) : Int) (0 : Int) a0.1 a0.2)) (exC x_impl_Strip_isFolded_4
  (fun e377 =>
   kx (e377.1.1.1 : Bool), fun _ =>
   kx Bool.true, ()))
noncomputable def g_impl_Strip_isFolded (a0 : ((List Int) × (List Int))) (a1 : (List Int)) : Option (Bool) := t_impl_Strip_isFolded some a0 a1
theorem nat_impl_Strip_isFolded {R : Type} (kx : Bool → Option R) (a0 : ((List Int) × (List Int))) (a1 : (List Int)) : t_impl_Strip_isFolded kx a0 a1 = (g_impl_Strip_isFolded a0 a1).bind kx := by
  unfold g_impl_Strip_isFolded t_impl_Strip_isFolded
  exact nat_bind fun _ => nat_exC ⟨fun _ => rfl, fun _ => rfl, trivial⟩
abbrev as_impl_Strip_isFolded : List AX := [.val true (.pair (.slice (.int .i64)) (.slice (.int .i64))), .val false (.slice (.int .i64))]
abbrev en_impl_Strip_isFolded : Bool → AV × List CV := fun b => (.one ⟨false, [(.v (.bool b))]⟩, [])
noncomputable abbrev k_impl_Strip_isFolded : Contract := .fx as_impl_Strip_isFolded (Bool) (fun z => g_impl_Strip_isFolded z.1 z.2.1) en_impl_Strip_isFolded
theorem r_impl_Strip_isFolded (z : argsX as_impl_Strip_isFolded) : runF (tab C0 T_impl_Strip_isFolded) h_impl_Strip_isFolded 1 Try.f59 (lentOf as_impl_Strip_isFolded) (xBoxes as_impl_Strip_isFolded z) (xVals as_impl_Strip_isFolded 0 z) K2 = t_impl_Strip_isFolded (fun b => some (en_impl_Strip_isFolded b)) z.1 z.2.1 := by kernel_rfl
theorem so_impl_Strip_isFolded : Sound C0 59 k_impl_Strip_isFolded :=
  Sound.fx a_impl_Strip_isFolded mixed Try.func59 (by kernel_rfl) (by kernel_rfl) h_impl_Strip_isFolded 1 hs_impl_Strip_isFolded (fun z => (r_impl_Strip_isFolded z).trans (nat_impl_Strip_isFolded _ z.1 z.2.1))

/-! ### F36 impl.CheckLayers -/
noncomputable def T_impl_CheckLayers : List (FuncId × Contract) := [(40, k_impl_ValidStrip), (58, k_impl_isPermutation), (59, k_impl_Strip_isFolded)]
theorem a_impl_CheckLayers : AllSound C0 T_impl_CheckLayers := .cons so_impl_ValidStrip (.cons so_impl_isPermutation (.cons so_impl_Strip_isFolded (.nil)))
noncomputable def t_impl_CheckLayers {R : Type} (kx : Bool → Option R) (a0 : ((List Int) × (List Int))) (a1 : (List Int)) : Option R :=
  Option.bind (g_impl_ValidStrip a0) fun y217 =>
  cond y217
  (Option.bind (g_impl_isPermutation a1 (((List.length a0.1) : Nat) : Int)) fun y298 =>
   cond y298
   (Option.bind (g_impl_Strip_isFolded a0 a1) fun y380 =>
    kx y380)
   (kx Bool.false))
  (kx Bool.false)
noncomputable def g_impl_CheckLayers (a0 : ((List Int) × (List Int))) (a1 : (List Int)) : Option (Bool) := t_impl_CheckLayers some a0 a1
theorem nat_impl_CheckLayers {R : Type} (kx : Bool → Option R) (a0 : ((List Int) × (List Int))) (a1 : (List Int)) : t_impl_CheckLayers kx a0 a1 = (g_impl_CheckLayers a0 a1).bind kx := by
  unfold g_impl_CheckLayers t_impl_CheckLayers
  exact nat_bind fun _ => nat_cond (nat_bind fun _ => nat_cond (nat_bind fun _ => rfl) (rfl)) (rfl)
abbrev as_impl_CheckLayers : List AX := [.val true (.pair (.slice (.int .i64)) (.slice (.int .i64))), .val false (.slice (.int .i64))]
abbrev en_impl_CheckLayers : Bool → AV × List CV := fun b => (.one ⟨false, [(.v (.bool b))]⟩, [])
noncomputable abbrev k_impl_CheckLayers : Contract := .fx as_impl_CheckLayers (Bool) (fun z => g_impl_CheckLayers z.1 z.2.1) en_impl_CheckLayers
theorem r_impl_CheckLayers (z : argsX as_impl_CheckLayers) : runF (tab C0 T_impl_CheckLayers) noHints 1 Try.f36 (lentOf as_impl_CheckLayers) (xBoxes as_impl_CheckLayers z) (xVals as_impl_CheckLayers 0 z) K2 = t_impl_CheckLayers (fun b => some (en_impl_CheckLayers b)) z.1 z.2.1 := by kernel_rfl
theorem so_impl_CheckLayers : Sound C0 36 k_impl_CheckLayers :=
  Sound.fx a_impl_CheckLayers mixed Try.func36 (by kernel_rfl) (by kernel_rfl) noHints 1 noHints_ok (fun z => (r_impl_CheckLayers z).trans (nat_impl_CheckLayers _ z.1 z.2.1))

/-! ### F26 laws.eqInt64S -/
noncomputable def T_laws_eqInt64S : List (FuncId × Contract) := []
theorem a_laws_eqInt64S : AllSound C0 T_laws_eqInt64S := .nil
abbrev s_laws_eqInt64S_5 : LS := ⟨[(false, [(.sl (.int .i64))]), (false, [(.sl (.int .i64))]), (false, [(.int .i64)])], [], []⟩
abbrev e_laws_eqInt64S_5_0 : LS := ⟨[(false, [.bool])], [], []⟩
abbrev d_laws_eqInt64S_5_0 (v0 : Bool) : e_laws_eqInt64S_5_0.T := (((v0, ()), ()), (), ())
abbrev e_laws_eqInt64S_5_1 : LS := ⟨[(false, [.undef])], [], []⟩
abbrev d_laws_eqInt64S_5_1 : e_laws_eqInt64S_5_1.T := ((((), ()), ()), (), ())
abbrev x_laws_eqInt64S_5 : List (Ex × LS) := [(.ret, e_laws_eqInt64S_5_0), (.exit 0, e_laws_eqInt64S_5_1)]
abbrev m_laws_eqInt64S_5 (x0 : List Int) (x1 : List Int) (x5 : Int) : s_laws_eqInt64S_5.T := (((x0, ()), (x1, ()), (x5, ()), ()), (), ())
noncomputable def u_laws_eqInt64S_5 {R : Type} (nx : s_laws_eqInt64S_5.T → Option R) (hx : exH R x_laws_eqInt64S_5) (x0 : List Int) (x1 : List Int) (x5 : Int) : Option R :=
  cond (decide (x5 < (((List.length x0) : Nat) : Int)))
  (Option.bind (idx x0 x5) fun y390 =>
   Option.bind (idx x1 x5) fun y391 =>
   cond (y390 != y391)
   (hx.1 (d_laws_eqInt64S_5_0 Bool.false))
   (nx (m_laws_eqInt64S_5 x0 x1 (IntKind.wrap IntKind.i64 (x5 + (1 : Int))))))
  (hx.2.1 (d_laws_eqInt64S_5_1))
noncomputable def t_laws_eqInt64S_5 {R : Type} (nx : s_laws_eqInt64S_5.T → Option R) (hx : exH R x_laws_eqInt64S_5) (z : s_laws_eqInt64S_5.T) : Option R := u_laws_eqInt64S_5 nx hx z.1.1.1 z.1.2.1.1 z.1.2.2.1.1
theorem nat_laws_eqInt64S_5 : Natural @t_laws_eqInt64S_5 := fun R nx hx z => by
  show u_laws_eqInt64S_5 nx hx z.1.1.1 z.1.2.1.1 z.1.2.2.1.1 = (u_laws_eqInt64S_5 (fun y => some (.inl y)) (hIn x_laws_eqInt64S_5 fun x => some (.inr x)) z.1.1.1 z.1.2.1.1 z.1.2.2.1.1).bind (goOn nx hx)
  unfold u_laws_eqInt64S_5
  exact nat_cond (nat_bind fun _ => nat_bind fun _ => nat_cond (rfl) (rfl)) (rfl)
noncomputable def w_laws_eqInt64S_5 : s_laws_eqInt64S_5.T → Option (exT x_laws_eqInt64S_5) := wOf @t_laws_eqInt64S_5
theorem wq_laws_eqInt64S_5 (x0 : List Int) (x1 : List Int) (x5 : Int) : w_laws_eqInt64S_5 (m_laws_eqInt64S_5 x0 x1 x5) = u_laws_eqInt64S_5 w_laws_eqInt64S_5 (hIn x_laws_eqInt64S_5 some) x0 x1 x5 := wOf_eq nat_laws_eqInt64S_5 _
def lh_laws_eqInt64S_5 : LoopHint := ⟨[0, 1, 5], [], [4], []⟩
noncomputable def h_laws_eqInt64S : Hints Rv := ⟨fun k => match k with | 5 => lh_laws_eqInt64S_5 | _ => ⟨[], [], [], []⟩, fun k => match k with | 5 => some (loopX s_laws_eqInt64S_5 x_laws_eqInt64S_5 w_laws_eqInt64S_5) | _ => none⟩
theorem st_laws_eqInt64S_5 (n : Nat) (z : s_laws_eqInt64S_5.T) (k : Ex → Live → Option Rv) : loopN ⟨26, 26⟩ lh_laws_eqInt64S_5 (den (tab C0 T_laws_eqInt64S) ⟨26, 26⟩ h_laws_eqInt64S 1 (loopOf Try.f26 4)) (n + 1) (s_laws_eqInt64S_5.enc z) k =
    t_laws_eqInt64S_5 (fun y => loopN ⟨26, 26⟩ lh_laws_eqInt64S_5 (den (tab C0 T_laws_eqInt64S) ⟨26, 26⟩ h_laws_eqInt64S 1 (loopOf Try.f26 4)) n (s_laws_eqInt64S_5.enc y) k) (hK k x_laws_eqInt64S_5) z := by kernel_rfl
theorem hs_laws_eqInt64S : HintsOk (tab C0 T_laws_eqInt64S) ⟨26, 26⟩ h_laws_eqInt64S 1 (loops (codeOf Try.f26)) := by
  have hl : loops (codeOf Try.f26) = [loopOf Try.f26 4] := by kernel_rfl
  rw [hl]
  exact HintsOk.cons (n := 5) (lh := lh_laws_eqInt64S_5) (S := loopX s_laws_eqInt64S_5 x_laws_eqInt64S_5 w_laws_eqInt64S_5) (by kernel_rfl) rfl rfl (loopX_ok nat_laws_eqInt64S_5 st_laws_eqInt64S_5)
    (HintsOk.nil)
noncomputable def t_laws_eqInt64S {R : Type} (kx : Bool → Option R) (a0 : (List Int)) (a1 : (List Int)) : Option R :=
  cond ((((List.length a0) : Nat) : Int) != (((List.length a1) : Nat) : Int))
  (kx Bool.false)
  (Option.bind (w_laws_eqInt64S_5 (m_laws_eqInt64S_5 a0 a1 (0 : Int))) (exC x_laws_eqInt64S_5
   (fun e392 =>
    kx (e392.1.1.1 : Bool), fun _ =>
    kx Bool.true, ())))
noncomputable def g_laws_eqInt64S (a0 : (List Int)) (a1 : (List Int)) : Option (Bool) := t_laws_eqInt64S some a0 a1
theorem nat_laws_eqInt64S {R : Type} (kx : Bool → Option R) (a0 : (List Int)) (a1 : (List Int)) : t_laws_eqInt64S kx a0 a1 = (g_laws_eqInt64S a0 a1).bind kx := by
  unfold g_laws_eqInt64S t_laws_eqInt64S
  exact nat_cond (rfl) (nat_exC ⟨fun _ => rfl, fun _ => rfl, trivial⟩)
abbrev as_laws_eqInt64S : List AX := [.val false (.slice (.int .i64)), .val false (.slice (.int .i64))]
abbrev en_laws_eqInt64S : Bool → AV × List CV := fun b => (.one ⟨false, [(.v (.bool b))]⟩, [])
noncomputable abbrev k_laws_eqInt64S : Contract := .fx as_laws_eqInt64S (Bool) (fun z => g_laws_eqInt64S z.1 z.2.1) en_laws_eqInt64S
theorem r_laws_eqInt64S (z : argsX as_laws_eqInt64S) : runF (tab C0 T_laws_eqInt64S) h_laws_eqInt64S 1 Try.f26 (lentOf as_laws_eqInt64S) (xBoxes as_laws_eqInt64S z) (xVals as_laws_eqInt64S 0 z) K2 = t_laws_eqInt64S (fun b => some (en_laws_eqInt64S b)) z.1 z.2.1 := by kernel_rfl
theorem so_laws_eqInt64S : Sound C0 26 k_laws_eqInt64S :=
  Sound.fx a_laws_eqInt64S mixed Try.func26 (by kernel_rfl) (by kernel_rfl) h_laws_eqInt64S 1 hs_laws_eqInt64S (fun z => (r_laws_eqInt64S z).trans (nat_laws_eqInt64S _ z.1 z.2.1))

/-! ### F15 laws.eqStrip -/
noncomputable def T_laws_eqStrip : List (FuncId × Contract) := [(26, k_laws_eqInt64S)]
theorem a_laws_eqStrip : AllSound C0 T_laws_eqStrip := .cons so_laws_eqInt64S (.nil)
noncomputable def t_laws_eqStrip {R : Type} (kx : Bool → Option R) (a0 : ((List Int) × (List Int))) (a1 : ((List Int) × (List Int))) : Option R :=
  Option.bind (g_laws_eqInt64S a0.1 a1.1) fun y395 =>
  cond (!y395)
  (kx Bool.false)
  (Option.bind (g_laws_eqInt64S a0.2 a1.2) fun y396 =>
   cond (!y396)
   (kx Bool.false)
   (kx Bool.true))
noncomputable def g_laws_eqStrip (a0 : ((List Int) × (List Int))) (a1 : ((List Int) × (List Int))) : Option (Bool) := t_laws_eqStrip some a0 a1
theorem nat_laws_eqStrip {R : Type} (kx : Bool → Option R) (a0 : ((List Int) × (List Int))) (a1 : ((List Int) × (List Int))) : t_laws_eqStrip kx a0 a1 = (g_laws_eqStrip a0 a1).bind kx := by
  unfold g_laws_eqStrip t_laws_eqStrip
  exact nat_bind fun _ => nat_cond (rfl) (nat_bind fun _ => nat_cond (rfl) (rfl))
abbrev as_laws_eqStrip : List AX := [.val true (.pair (.slice (.int .i64)) (.slice (.int .i64))), .val true (.pair (.slice (.int .i64)) (.slice (.int .i64)))]
abbrev en_laws_eqStrip : Bool → AV × List CV := fun b => (.one ⟨false, [(.v (.bool b))]⟩, [])
noncomputable abbrev k_laws_eqStrip : Contract := .fx as_laws_eqStrip (Bool) (fun z => g_laws_eqStrip z.1 z.2.1) en_laws_eqStrip
theorem r_laws_eqStrip (z : argsX as_laws_eqStrip) : runF (tab C0 T_laws_eqStrip) noHints 1 Try.f15 (lentOf as_laws_eqStrip) (xBoxes as_laws_eqStrip z) (xVals as_laws_eqStrip 0 z) K2 = t_laws_eqStrip (fun b => some (en_laws_eqStrip b)) z.1 z.2.1 := by kernel_rfl
theorem so_laws_eqStrip : Sound C0 15 k_laws_eqStrip :=
  Sound.fx a_laws_eqStrip mixed Try.func15 (by kernel_rfl) (by kernel_rfl) noHints 1 noHints_ok (fun z => (r_laws_eqStrip z).trans (nat_laws_eqStrip _ z.1 z.2.1))

/-! ### F9 laws.FnExactCheckLayers -/
noncomputable def T_laws_FnExactCheckLayers : List (FuncId × Contract) := [(10, k_laws_szStrip), (12, k_laws_toStrip), (24, k_laws_toInt64S), (35, k_spec_CheckLayers), (36, k_impl_CheckLayers), (15, k_laws_eqStrip), (26, k_laws_eqInt64S)]
theorem a_laws_FnExactCheckLayers : AllSound C0 T_laws_FnExactCheckLayers := .cons so_laws_szStrip (.cons so_laws_toStrip (.cons so_laws_toInt64S (.cons so_spec_CheckLayers (.cons so_impl_CheckLayers (.cons so_laws_eqStrip (.cons so_laws_eqInt64S (.nil)))))))
noncomputable def t_laws_FnExactCheckLayers {R : Type} (kx : Bool → Option R) (a0 : ((List Int) × (List Int))) (a1 : (List Int)) : Option R :=
  cond (decide ((((List.length a1) : Nat) : Int) > (1048576 : Int)))
  (kx Bool.true)
  (Option.bind (g_laws_szStrip a0 (1048576 : Int)) fun y8 =>
   cond (decide (y8 < (0 : Int)))
   (kx Bool.true)
   (Option.bind (g_laws_toStrip a0) fun y20 =>
    Option.bind (g_laws_toInt64S a1) fun y21 =>
    Option.bind (g_spec_CheckLayers y20 y21) fun y166 =>
    Option.bind (g_laws_toStrip a0) fun y167 =>
    Option.bind (g_laws_toInt64S a1) fun y168 =>
    Option.bind (g_impl_CheckLayers y167 y168) fun y381 =>
    cond (!(y381 == y166))
    (kx Bool.false)
    (Option.bind (g_laws_toStrip a0) fun y382 =>
     Option.bind (g_laws_eqStrip y167 y382) fun y397 =>
     cond (!y397)
     (kx Bool.false)
     (Option.bind (g_laws_toInt64S a1) fun y398 =>
      Option.bind (g_laws_eqInt64S y168 y398) fun y399 =>
      cond (!y399)
      (kx Bool.false)
      (kx Bool.true)))))
noncomputable def g_laws_FnExactCheckLayers (a0 : ((List Int) × (List Int))) (a1 : (List Int)) : Option (Bool) := t_laws_FnExactCheckLayers some a0 a1
theorem nat_laws_FnExactCheckLayers {R : Type} (kx : Bool → Option R) (a0 : ((List Int) × (List Int))) (a1 : (List Int)) : t_laws_FnExactCheckLayers kx a0 a1 = (g_laws_FnExactCheckLayers a0 a1).bind kx := by
  unfold g_laws_FnExactCheckLayers t_laws_FnExactCheckLayers
  exact nat_cond (rfl) (nat_bind fun _ => nat_cond (rfl) (nat_bind fun _ => nat_bind fun _ => nat_bind fun _ => nat_bind fun _ => nat_bind fun _ => nat_bind fun _ => nat_cond (rfl) (nat_bind fun _ => nat_bind fun _ => nat_cond (rfl) (nat_bind fun _ => nat_bind fun _ => nat_cond (rfl) (rfl)))))
abbrev as_laws_FnExactCheckLayers : List AX := [.val true (.pair (.slice (.int .i64)) (.slice (.int .i64))), .val false (.slice (.int .i64))]
abbrev en_laws_FnExactCheckLayers : Bool → AV × List CV := fun b => (.one ⟨false, [(.v (.bool b))]⟩, [])
noncomputable abbrev k_laws_FnExactCheckLayers : Contract := .fx as_laws_FnExactCheckLayers (Bool) (fun z => g_laws_FnExactCheckLayers z.1 z.2.1) en_laws_FnExactCheckLayers
theorem r_laws_FnExactCheckLayers (z : argsX as_laws_FnExactCheckLayers) : runF (tab C0 T_laws_FnExactCheckLayers) noHints 1 Try.f9 (lentOf as_laws_FnExactCheckLayers) (xBoxes as_laws_FnExactCheckLayers z) (xVals as_laws_FnExactCheckLayers 0 z) K2 = t_laws_FnExactCheckLayers (fun b => some (en_laws_FnExactCheckLayers b)) z.1 z.2.1 := by kernel_rfl
theorem so_laws_FnExactCheckLayers : Sound C0 9 k_laws_FnExactCheckLayers :=
  Sound.fx a_laws_FnExactCheckLayers mixed Try.func9 (by kernel_rfl) (by kernel_rfl) noHints 1 noHints_ok (fun z => (r_laws_FnExactCheckLayers z).trans (nat_laws_FnExactCheckLayers _ z.1 z.2.1))

end Go.Proofs.Ytpabholjoblkbaa
