/- What the functions that StripText reaches compute, printed. No conditions. -/
import Derived.Test.YtjfgddmngnkfdaaDoorW1S
namespace Go.Proofs.YtjfgddmngnkfdaaDoor
open Go.Vai
set_option maxRecDepth 100000

/-! ### F14 laws.szInt64S -/
noncomputable def T_laws_szInt64S : List (FuncId × Contract) := []
theorem a_laws_szInt64S : AllSound C0 T_laws_szInt64S := .nil
noncomputable def t_laws_szInt64S {R : Type} (kx : Int → Option R) (a0 : (List Int)) (a1 : Int) : Option R :=
  cond (decide ((IntKind.wrap IntKind.i64 (a1 - (((List.length a0) : Nat) : Int))) < (0 : Int)))
  (kx (-(1 : Int)))
  (kx (IntKind.wrap IntKind.i64 (a1 - (((List.length a0) : Nat) : Int))))
noncomputable def g_laws_szInt64S (a0 : (List Int)) (a1 : Int) : Option (Int) := t_laws_szInt64S some a0 a1
theorem nat_laws_szInt64S {R : Type} (kx : Int → Option R) (a0 : (List Int)) (a1 : Int) : t_laws_szInt64S kx a0 a1 = (g_laws_szInt64S a0 a1).bind kx := by
  unfold g_laws_szInt64S t_laws_szInt64S
  exact nat_cond (rfl) (rfl)
abbrev as_laws_szInt64S : List AX := [.val false (.slice (.int .i64)), .val false (.int .i64)]
abbrev en_laws_szInt64S : Int → AV × List CV := fun b => (.one ⟨false, [(.v (.int .i64 b))]⟩, [])
noncomputable abbrev k_laws_szInt64S : Contract := .fx as_laws_szInt64S (Int) (fun z => g_laws_szInt64S z.1 z.2.1) en_laws_szInt64S
theorem r_laws_szInt64S (z : argsX as_laws_szInt64S) : runF (tab C0 T_laws_szInt64S) noHints 1 Tryd.f14 (lentOf as_laws_szInt64S) (xBoxes as_laws_szInt64S z) (xVals as_laws_szInt64S 0 z) K2 = t_laws_szInt64S (fun b => some (en_laws_szInt64S b)) z.1 z.2.1 := by kernel_rfl
theorem so_laws_szInt64S : Sound C0 14 k_laws_szInt64S :=
  Sound.fx a_laws_szInt64S mixed Tryd.func14 (by kernel_rfl) (by kernel_rfl) noHints 1 noHints_ok (fun z => (r_laws_szInt64S z).trans (nat_laws_szInt64S _ z.1 z.2.1))

/-! ### F5 laws.szStrip -/
noncomputable def T_laws_szStrip : List (FuncId × Contract) := [(14, k_laws_szInt64S)]
theorem a_laws_szStrip : AllSound C0 T_laws_szStrip := .cons so_laws_szInt64S (.nil)
noncomputable def t_laws_szStrip {R : Type} (kx : Int → Option R) (a0 : ((List Int) × (List Int))) (a1 : Int) : Option R :=
  Option.bind (g_laws_szInt64S a0.1 a1) fun y5 =>
  cond (decide (y5 < (0 : Int)))
  (kx (-(1 : Int)))
  (Option.bind (g_laws_szInt64S a0.2 y5) fun y6 =>
   cond (decide (y6 < (0 : Int)))
   (kx (-(1 : Int)))
   (kx y6))
noncomputable def g_laws_szStrip (a0 : ((List Int) × (List Int))) (a1 : Int) : Option (Int) := t_laws_szStrip some a0 a1
theorem nat_laws_szStrip {R : Type} (kx : Int → Option R) (a0 : ((List Int) × (List Int))) (a1 : Int) : t_laws_szStrip kx a0 a1 = (g_laws_szStrip a0 a1).bind kx := by
  unfold g_laws_szStrip t_laws_szStrip
  exact nat_bind fun _ => nat_cond (rfl) (nat_bind fun _ => nat_cond (rfl) (rfl))
abbrev as_laws_szStrip : List AX := [.val true (.pair (.slice (.int .i64)) (.slice (.int .i64))), .val false (.int .i64)]
abbrev en_laws_szStrip : Int → AV × List CV := fun b => (.one ⟨false, [(.v (.int .i64 b))]⟩, [])
noncomputable abbrev k_laws_szStrip : Contract := .fx as_laws_szStrip (Int) (fun z => g_laws_szStrip z.1 z.2.1) en_laws_szStrip
theorem r_laws_szStrip (z : argsX as_laws_szStrip) : runF (tab C0 T_laws_szStrip) noHints 1 Tryd.f5 (lentOf as_laws_szStrip) (xBoxes as_laws_szStrip z) (xVals as_laws_szStrip 0 z) K2 = t_laws_szStrip (fun b => some (en_laws_szStrip b)) z.1 z.2.1 := by kernel_rfl
theorem so_laws_szStrip : Sound C0 5 k_laws_szStrip :=
  Sound.fx a_laws_szStrip mixed Tryd.func5 (by kernel_rfl) (by kernel_rfl) noHints 1 noHints_ok (fun z => (r_laws_szStrip z).trans (nat_laws_szStrip _ z.1 z.2.1))

/-! ### F17 laws.toInt64S -/
noncomputable def T_laws_toInt64S : List (FuncId × Contract) := []
theorem a_laws_toInt64S : AllSound C0 T_laws_toInt64S := .nil
abbrev s_laws_toInt64S_4 : LS := ⟨[(false, [(.sl (.int .i64))]), (false, [(.own (.int .i64))]), (false, [(.int .i64)])], [], []⟩
abbrev e_laws_toInt64S_4_0 : LS := ⟨[(false, [(.own (.int .i64))])], [], []⟩
abbrev d_laws_toInt64S_4_0 (v0 : List Int) : e_laws_toInt64S_4_0.T := (((v0, ()), ()), (), ())
abbrev x_laws_toInt64S_4 : List (Ex × LS) := [(.exit 0, e_laws_toInt64S_4_0)]
abbrev m_laws_toInt64S_4 (x0 : List Int) (x3 : List Int) (x4 : Int) : s_laws_toInt64S_4.T := (((x0, ()), (x3, ()), (x4, ()), ()), (), ())
noncomputable def u_laws_toInt64S_4 {R : Type} (nx : s_laws_toInt64S_4.T → Option R) (hx : exH R x_laws_toInt64S_4) (x0 : List Int) (x3 : List Int) (x4 : Int) : Option R :=
  cond (decide (x4 < (((List.length x0) : Nat) : Int)))
  (Option.bind (idx x0 x4) fun y13 =>
   Option.bind (idx x3 x4) fun _ =>
   nx (m_laws_toInt64S_4 x0 (List.set x3 (0 + (Int.toNat x4)) y13) (IntKind.wrap IntKind.i64 (x4 + (1 : Int)))))
  (hx.1 (d_laws_toInt64S_4_0 x3))
noncomputable def t_laws_toInt64S_4 {R : Type} (nx : s_laws_toInt64S_4.T → Option R) (hx : exH R x_laws_toInt64S_4) (z : s_laws_toInt64S_4.T) : Option R := u_laws_toInt64S_4 nx hx z.1.1.1 z.1.2.1.1 z.1.2.2.1.1
theorem nat_laws_toInt64S_4 : Natural @t_laws_toInt64S_4 := fun R nx hx z => by
  show u_laws_toInt64S_4 nx hx z.1.1.1 z.1.2.1.1 z.1.2.2.1.1 = (u_laws_toInt64S_4 (fun y => some (.inl y)) (hIn x_laws_toInt64S_4 fun x => some (.inr x)) z.1.1.1 z.1.2.1.1 z.1.2.2.1.1).bind (goOn nx hx)
  unfold u_laws_toInt64S_4
  exact nat_cond (nat_bind fun _ => nat_bind fun _ => rfl) (rfl)
noncomputable def w_laws_toInt64S_4 : s_laws_toInt64S_4.T → Option (exT x_laws_toInt64S_4) := wOf @t_laws_toInt64S_4
theorem wq_laws_toInt64S_4 (x0 : List Int) (x3 : List Int) (x4 : Int) : w_laws_toInt64S_4 (m_laws_toInt64S_4 x0 x3 x4) = u_laws_toInt64S_4 w_laws_toInt64S_4 (hIn x_laws_toInt64S_4 some) x0 x3 x4 := wOf_eq nat_laws_toInt64S_4 _
def lh_laws_toInt64S_4 : LoopHint := ⟨[0, 3, 4], [], [3], []⟩
noncomputable def h_laws_toInt64S : Hints Rv := ⟨fun k => match k with | 4 => lh_laws_toInt64S_4 | _ => ⟨[], [], [], []⟩, fun k => match k with | 4 => some (loopX s_laws_toInt64S_4 x_laws_toInt64S_4 w_laws_toInt64S_4) | _ => none⟩
theorem st_laws_toInt64S_4 (n : Nat) (z : s_laws_toInt64S_4.T) (k : Ex → Live → Option Rv) : loopN ⟨22, 22⟩ lh_laws_toInt64S_4 (den (tab C0 T_laws_toInt64S) ⟨22, 22⟩ h_laws_toInt64S 1 (loopOf Tryd.f17 3)) (n + 1) (s_laws_toInt64S_4.enc z) k =
    t_laws_toInt64S_4 (fun y => loopN ⟨22, 22⟩ lh_laws_toInt64S_4 (den (tab C0 T_laws_toInt64S) ⟨22, 22⟩ h_laws_toInt64S 1 (loopOf Tryd.f17 3)) n (s_laws_toInt64S_4.enc y) k) (hK k x_laws_toInt64S_4) z := by kernel_rfl
theorem hs_laws_toInt64S : HintsOk (tab C0 T_laws_toInt64S) ⟨22, 22⟩ h_laws_toInt64S 1 (loops (codeOf Tryd.f17)) := by
  have hl : loops (codeOf Tryd.f17) = [loopOf Tryd.f17 3] := by kernel_rfl
  rw [hl]
  exact HintsOk.cons (n := 4) (lh := lh_laws_toInt64S_4) (S := loopX s_laws_toInt64S_4 x_laws_toInt64S_4 w_laws_toInt64S_4) (by kernel_rfl) rfl rfl (loopX_ok nat_laws_toInt64S_4 st_laws_toInt64S_4)
    (HintsOk.nil)
noncomputable def t_laws_toInt64S {R : Type} (kx : (List Int) → Option R) (a0 : (List Int)) : Option R :=
  cond (decide ((((List.length a0) : Nat) : Int) ≤ (((List.length a0) : Nat) : Int)))
  (cond (decide (((((List.length a0) : Nat) : Int) * ((8 : Nat) : Int)) ≤ (70368744177664 : Int)))
   (cond (decide ((((List.length a0) : Nat) : Int) ≤ (70368744177664 : Int)))
    (Option.bind (w_laws_toInt64S_4 (m_laws_toInt64S_4 a0 (List.replicate (Int.toNat (((List.length a0) : Nat) : Int)) (0 : Int)) (0 : Int))) (exC x_laws_toInt64S_4
     (fun e15 =>
      kx (e15.1.1.1 : List Int), ())))
    (none))
   (none))
  (none)
noncomputable def g_laws_toInt64S (a0 : (List Int)) : Option ((List Int)) := t_laws_toInt64S some a0
theorem nat_laws_toInt64S {R : Type} (kx : (List Int) → Option R) (a0 : (List Int)) : t_laws_toInt64S kx a0 = (g_laws_toInt64S a0).bind kx := by
  unfold g_laws_toInt64S t_laws_toInt64S
  exact nat_cond (nat_cond (nat_cond (nat_exC ⟨fun _ => rfl, trivial⟩) (rfl)) (rfl)) (rfl)
abbrev as_laws_toInt64S : List AX := [.val false (.slice (.int .i64))]
abbrev en_laws_toInt64S : (List Int) → AV × List CV := fun b => (.one ⟨false, [(.own (.int .i64) b)]⟩, [])
noncomputable abbrev k_laws_toInt64S : Contract := .fx as_laws_toInt64S ((List Int)) (fun z => g_laws_toInt64S z.1) en_laws_toInt64S
theorem r_laws_toInt64S (z : argsX as_laws_toInt64S) : runF (tab C0 T_laws_toInt64S) h_laws_toInt64S 1 Tryd.f17 (lentOf as_laws_toInt64S) (xBoxes as_laws_toInt64S z) (xVals as_laws_toInt64S 0 z) K2 = t_laws_toInt64S (fun b => some (en_laws_toInt64S b)) z.1 := by kernel_rfl
theorem so_laws_toInt64S : Sound C0 17 k_laws_toInt64S :=
  Sound.fx a_laws_toInt64S mixed Tryd.func17 (by kernel_rfl) (by kernel_rfl) h_laws_toInt64S 1 hs_laws_toInt64S (fun z => (r_laws_toInt64S z).trans (nat_laws_toInt64S _ z.1))

/-! ### F7 laws.toStrip -/
noncomputable def T_laws_toStrip : List (FuncId × Contract) := [(17, k_laws_toInt64S)]
theorem a_laws_toStrip : AllSound C0 T_laws_toStrip := .cons so_laws_toInt64S (.nil)
noncomputable def t_laws_toStrip {R : Type} (kx : ((List Int) × (List Int)) → Option R) (a0 : ((List Int) × (List Int))) : Option R :=
  Option.bind (g_laws_toInt64S a0.1) fun y17 =>
  Option.bind (g_laws_toInt64S a0.2) fun y18 =>
  kx (y17, y18)
noncomputable def g_laws_toStrip (a0 : ((List Int) × (List Int))) : Option (((List Int) × (List Int))) := t_laws_toStrip some a0
theorem nat_laws_toStrip {R : Type} (kx : ((List Int) × (List Int)) → Option R) (a0 : ((List Int) × (List Int))) : t_laws_toStrip kx a0 = (g_laws_toStrip a0).bind kx := by
  unfold g_laws_toStrip t_laws_toStrip
  exact nat_bind fun _ => nat_bind fun _ => rfl
abbrev as_laws_toStrip : List AX := [.val true (.pair (.slice (.int .i64)) (.slice (.int .i64)))]
abbrev en_laws_toStrip : ((List Int) × (List Int)) → AV × List CV := fun b => (.one ⟨true, [(.own (.int .i64) b.1), (.own (.int .i64) b.2)]⟩, [])
noncomputable abbrev k_laws_toStrip : Contract := .fx as_laws_toStrip (((List Int) × (List Int))) (fun z => g_laws_toStrip z.1) en_laws_toStrip
theorem r_laws_toStrip (z : argsX as_laws_toStrip) : runF (tab C0 T_laws_toStrip) noHints 1 Tryd.f7 (lentOf as_laws_toStrip) (xBoxes as_laws_toStrip z) (xVals as_laws_toStrip 0 z) K2 = t_laws_toStrip (fun b => some (en_laws_toStrip b)) z.1 := by kernel_rfl
theorem so_laws_toStrip : Sound C0 7 k_laws_toStrip :=
  Sound.fx a_laws_toStrip mixed Tryd.func7 (by kernel_rfl) (by kernel_rfl) noHints 1 noHints_ok (fun z => (r_laws_toStrip z).trans (nat_laws_toStrip _ z.1))

/-! ### F28 spec.l00In -/
noncomputable def T_spec_l00In : List (FuncId × Contract) := []
theorem a_spec_l00In : AllSound C0 T_spec_l00In := .nil
noncomputable def t_spec_l00In {R : Type} (kx : Bool → Option R) (a0 : Int) (a1 : Int) (a2 : Int) : Option R :=
  cond (decide (a0 ≥ a1))
  (kx (decide (a0 ≤ a2)))
  (kx Bool.false)
noncomputable def g_spec_l00In (a0 : Int) (a1 : Int) (a2 : Int) : Option (Bool) := t_spec_l00In some a0 a1 a2
theorem nat_spec_l00In {R : Type} (kx : Bool → Option R) (a0 : Int) (a1 : Int) (a2 : Int) : t_spec_l00In kx a0 a1 a2 = (g_spec_l00In a0 a1 a2).bind kx := by
  unfold g_spec_l00In t_spec_l00In
  exact nat_cond (rfl) (rfl)
abbrev as_spec_l00In : List AX := [.val false (.int .i64), .val false (.int .i64), .val false (.int .i64)]
abbrev en_spec_l00In : Bool → AV × List CV := fun b => (.one ⟨false, [(.v (.bool b))]⟩, [])
noncomputable abbrev k_spec_l00In : Contract := .fx as_spec_l00In (Bool) (fun z => g_spec_l00In z.1 z.2.1 z.2.2.1) en_spec_l00In
theorem r_spec_l00In (z : argsX as_spec_l00In) : runF (tab C0 T_spec_l00In) noHints 1 Tryd.f28 (lentOf as_spec_l00In) (xBoxes as_spec_l00In z) (xVals as_spec_l00In 0 z) K2 = t_spec_l00In (fun b => some (en_spec_l00In b)) z.1 z.2.1 z.2.2.1 := by kernel_rfl
theorem so_spec_l00In : Sound C0 28 k_spec_l00In :=
  Sound.fx a_spec_l00In mixed Tryd.func28 (by kernel_rfl) (by kernel_rfl) noHints 1 noHints_ok (fun z => (r_spec_l00In z).trans (nat_spec_l00In _ z.1 z.2.1 z.2.2.1))

/-! ### F27 spec.l25Sizes -/
noncomputable def T_spec_l25Sizes : List (FuncId × Contract) := [(28, k_spec_l00In)]
theorem a_spec_l25Sizes : AllSound C0 T_spec_l25Sizes := .cons so_spec_l00In (.nil)
abbrev s_spec_l25Sizes_6 : LS := ⟨[(false, [(.sl (.int .i64))]), (false, [(.int .i64)]), (false, [(.int .i64)])], [], []⟩
abbrev e_spec_l25Sizes_6_0 : LS := ⟨[(false, [.bool]), (false, [(.int .i64)])], [], []⟩
abbrev d_spec_l25Sizes_6_0 (v0 : Bool) (v1 : Int) : e_spec_l25Sizes_6_0.T := (((v0, ()), (v1, ()), ()), (), ())
abbrev e_spec_l25Sizes_6_1 : LS := ⟨[(false, [.undef]), (false, [(.int .i64)])], [], []⟩
abbrev d_spec_l25Sizes_6_1 (v0 : Int) : e_spec_l25Sizes_6_1.T := ((((), ()), (v0, ()), ()), (), ())
abbrev x_spec_l25Sizes_6 : List (Ex × LS) := [(.ret, e_spec_l25Sizes_6_0), (.exit 0, e_spec_l25Sizes_6_1)]
abbrev m_spec_l25Sizes_6 (x0 : List Int) (x3 : Int) (x4 : Int) : s_spec_l25Sizes_6.T := (((x0, ()), (x3, ()), (x4, ()), ()), (), ())
noncomputable def u_spec_l25Sizes_6 {R : Type} (nx : s_spec_l25Sizes_6.T → Option R) (hx : exH R x_spec_l25Sizes_6) (x0 : List Int) (x3 : Int) (x4 : Int) : Option R :=
  cond (decide (x4 < (((List.length x0) : Nat) : Int)))
  (Option.bind (idx x0 x4) fun y30 =>
   Option.bind (g_spec_l00In y30 (1 : Int) (1000 : Int)) fun y31 =>
   cond (!y31)
   (hx.1 (d_spec_l25Sizes_6_0 Bool.false x3))
   (Option.bind (idx x0 x4) fun y32 =>
    nx (m_spec_l25Sizes_6 x0 (IntKind.wrap IntKind.i64 (x3 + y32)) (IntKind.wrap IntKind.i64 (x4 + (1 : Int))))))
  (hx.2.1 (d_spec_l25Sizes_6_1 x3))
noncomputable def t_spec_l25Sizes_6 {R : Type} (nx : s_spec_l25Sizes_6.T → Option R) (hx : exH R x_spec_l25Sizes_6) (z : s_spec_l25Sizes_6.T) : Option R := u_spec_l25Sizes_6 nx hx z.1.1.1 z.1.2.1.1 z.1.2.2.1.1
theorem nat_spec_l25Sizes_6 : Natural @t_spec_l25Sizes_6 := fun R nx hx z => by
  show u_spec_l25Sizes_6 nx hx z.1.1.1 z.1.2.1.1 z.1.2.2.1.1 = (u_spec_l25Sizes_6 (fun y => some (.inl y)) (hIn x_spec_l25Sizes_6 fun x => some (.inr x)) z.1.1.1 z.1.2.1.1 z.1.2.2.1.1).bind (goOn nx hx)
  unfold u_spec_l25Sizes_6
  exact nat_cond (nat_bind fun _ => nat_bind fun _ => nat_cond (rfl) (nat_bind fun _ => rfl)) (rfl)
noncomputable def w_spec_l25Sizes_6 : s_spec_l25Sizes_6.T → Option (exT x_spec_l25Sizes_6) := wOf @t_spec_l25Sizes_6
theorem wq_spec_l25Sizes_6 (x0 : List Int) (x3 : Int) (x4 : Int) : w_spec_l25Sizes_6 (m_spec_l25Sizes_6 x0 x3 x4) = u_spec_l25Sizes_6 w_spec_l25Sizes_6 (hIn x_spec_l25Sizes_6 some) x0 x3 x4 := wOf_eq nat_spec_l25Sizes_6 _
def lh_spec_l25Sizes_6 : LoopHint := ⟨[0, 3, 4], [], [2, 3], []⟩
noncomputable def h_spec_l25Sizes : Hints Rv := ⟨fun k => match k with | 6 => lh_spec_l25Sizes_6 | _ => ⟨[], [], [], []⟩, fun k => match k with | 6 => some (loopX s_spec_l25Sizes_6 x_spec_l25Sizes_6 w_spec_l25Sizes_6) | _ => none⟩
theorem st_spec_l25Sizes_6 (n : Nat) (z : s_spec_l25Sizes_6.T) (k : Ex → Live → Option Rv) : loopN ⟨29, 29⟩ lh_spec_l25Sizes_6 (den (tab C0 T_spec_l25Sizes) ⟨29, 29⟩ h_spec_l25Sizes 1 (loopOf Tryd.f27 5)) (n + 1) (s_spec_l25Sizes_6.enc z) k =
    t_spec_l25Sizes_6 (fun y => loopN ⟨29, 29⟩ lh_spec_l25Sizes_6 (den (tab C0 T_spec_l25Sizes) ⟨29, 29⟩ h_spec_l25Sizes 1 (loopOf Tryd.f27 5)) n (s_spec_l25Sizes_6.enc y) k) (hK k x_spec_l25Sizes_6) z := by kernel_rfl
theorem hs_spec_l25Sizes : HintsOk (tab C0 T_spec_l25Sizes) ⟨29, 29⟩ h_spec_l25Sizes 1 (loops (codeOf Tryd.f27)) := by
  have hl : loops (codeOf Tryd.f27) = [loopOf Tryd.f27 5] := by kernel_rfl
  rw [hl]
  exact HintsOk.cons (n := 6) (lh := lh_spec_l25Sizes_6) (S := loopX s_spec_l25Sizes_6 x_spec_l25Sizes_6 w_spec_l25Sizes_6) (by kernel_rfl) rfl rfl (loopX_ok nat_spec_l25Sizes_6 st_spec_l25Sizes_6)
    (HintsOk.nil)
noncomputable def t_spec_l25Sizes {R : Type} (kx : Bool → Option R) (a0 : (List Int)) : Option R :=
  Option.bind (g_spec_l00In (((List.length a0) : Nat) : Int) (1 : Int) (14 : Int)) fun y26 =>
  cond (!y26)
  (kx Bool.false)
  (Option.bind (w_spec_l25Sizes_6 (m_spec_l25Sizes_6 a0 (0 : Int) (0 : Int))) (exC x_spec_l25Sizes_6
   (fun e33 =>
    kx (e33.1.1.1 : Bool), fun e36 =>
    kx (decide ((e36.1.2.1.1 : Int) ≤ (1000 : Int))), ())))
noncomputable def g_spec_l25Sizes (a0 : (List Int)) : Option (Bool) := t_spec_l25Sizes some a0
theorem nat_spec_l25Sizes {R : Type} (kx : Bool → Option R) (a0 : (List Int)) : t_spec_l25Sizes kx a0 = (g_spec_l25Sizes a0).bind kx := by
  unfold g_spec_l25Sizes t_spec_l25Sizes
  exact nat_bind fun _ => nat_cond (rfl) (nat_exC ⟨fun _ => rfl, fun _ => rfl, trivial⟩)
abbrev as_spec_l25Sizes : List AX := [.val false (.slice (.int .i64))]
abbrev en_spec_l25Sizes : Bool → AV × List CV := fun b => (.one ⟨false, [(.v (.bool b))]⟩, [])
noncomputable abbrev k_spec_l25Sizes : Contract := .fx as_spec_l25Sizes (Bool) (fun z => g_spec_l25Sizes z.1) en_spec_l25Sizes
theorem r_spec_l25Sizes (z : argsX as_spec_l25Sizes) : runF (tab C0 T_spec_l25Sizes) h_spec_l25Sizes 1 Tryd.f27 (lentOf as_spec_l25Sizes) (xBoxes as_spec_l25Sizes z) (xVals as_spec_l25Sizes 0 z) K2 = t_spec_l25Sizes (fun b => some (en_spec_l25Sizes b)) z.1 := by kernel_rfl
theorem so_spec_l25Sizes : Sound C0 27 k_spec_l25Sizes :=
  Sound.fx a_spec_l25Sizes mixed Tryd.func27 (by kernel_rfl) (by kernel_rfl) h_spec_l25Sizes 1 hs_spec_l25Sizes (fun z => (r_spec_l25Sizes z).trans (nat_spec_l25Sizes _ z.1))

/-! ### F15 spec.l25Ok -/
noncomputable def T_spec_l25Ok : List (FuncId × Contract) := [(27, k_spec_l25Sizes), (28, k_spec_l00In)]
theorem a_spec_l25Ok : AllSound C0 T_spec_l25Ok := .cons so_spec_l25Sizes (.cons so_spec_l00In (.nil))
abbrev s_spec_l25Ok_5 : LS := ⟨[(false, [(.ptr 42 0)]), (false, [(.int .i64)])], [(true, [(.sl (.int .i64)), (.sl (.int .i64))])], []⟩
abbrev e_spec_l25Ok_5_0 : LS := ⟨[(false, [.bool])], [], []⟩
abbrev d_spec_l25Ok_5_0 (v0 : Bool) : e_spec_l25Ok_5_0.T := (((v0, ()), ()), (), ())
abbrev e_spec_l25Ok_5_1 : LS := ⟨[(false, [.undef])], [], []⟩
abbrev d_spec_l25Ok_5_1 : e_spec_l25Ok_5_1.T := ((((), ()), ()), (), ())
abbrev x_spec_l25Ok_5 : List (Ex × LS) := [(.ret, e_spec_l25Ok_5_0), (.exit 0, e_spec_l25Ok_5_1)]
abbrev m_spec_l25Ok_5 (x3 : Int) (b0_0 : List Int) (b0_1 : List Int) : s_spec_l25Ok_5.T := ((((), ()), (x3, ()), ()), ((b0_0, b0_1, ()), ()), ())
noncomputable def u_spec_l25Ok_5 {R : Type} (nx : s_spec_l25Ok_5.T → Option R) (hx : exH R x_spec_l25Ok_5) (x3 : Int) (b0_0 : List Int) (b0_1 : List Int) : Option R :=
  cond (decide (x3 < (((List.length b0_1) : Nat) : Int)))
  (Option.bind (idx b0_1 x3) fun y42 =>
   Option.bind (g_spec_l00In y42 (2 : Int) (3 : Int)) fun y43 =>
   cond (!y43)
   (hx.1 (d_spec_l25Ok_5_0 Bool.false))
   (nx (m_spec_l25Ok_5 (IntKind.wrap IntKind.i64 (x3 + (1 : Int))) b0_0 b0_1)))
  (hx.2.1 (d_spec_l25Ok_5_1))
noncomputable def t_spec_l25Ok_5 {R : Type} (nx : s_spec_l25Ok_5.T → Option R) (hx : exH R x_spec_l25Ok_5) (z : s_spec_l25Ok_5.T) : Option R := u_spec_l25Ok_5 nx hx z.1.2.1.1 z.2.1.1.1 z.2.1.1.2.1
theorem nat_spec_l25Ok_5 : Natural @t_spec_l25Ok_5 := fun R nx hx z => by
  show u_spec_l25Ok_5 nx hx z.1.2.1.1 z.2.1.1.1 z.2.1.1.2.1 = (u_spec_l25Ok_5 (fun y => some (.inl y)) (hIn x_spec_l25Ok_5 fun x => some (.inr x)) z.1.2.1.1 z.2.1.1.1 z.2.1.1.2.1).bind (goOn nx hx)
  unfold u_spec_l25Ok_5
  exact nat_cond (nat_bind fun _ => nat_bind fun _ => nat_cond (rfl) (rfl)) (rfl)
noncomputable def w_spec_l25Ok_5 : s_spec_l25Ok_5.T → Option (exT x_spec_l25Ok_5) := wOf @t_spec_l25Ok_5
theorem wq_spec_l25Ok_5 (x3 : Int) (b0_0 : List Int) (b0_1 : List Int) : w_spec_l25Ok_5 (m_spec_l25Ok_5 x3 b0_0 b0_1) = u_spec_l25Ok_5 w_spec_l25Ok_5 (hIn x_spec_l25Ok_5 some) x3 b0_0 b0_1 := wOf_eq nat_spec_l25Ok_5 _
def lh_spec_l25Ok_5 : LoopHint := ⟨[0, 3], [42], [2], []⟩
noncomputable def h_spec_l25Ok : Hints Rv := ⟨fun k => match k with | 5 => lh_spec_l25Ok_5 | _ => ⟨[], [], [], []⟩, fun k => match k with | 5 => some (loopX s_spec_l25Ok_5 x_spec_l25Ok_5 w_spec_l25Ok_5) | _ => none⟩
theorem st_spec_l25Ok_5 (n : Nat) (z : s_spec_l25Ok_5.T) (k : Ex → Live → Option Rv) : loopN ⟨42, 43⟩ lh_spec_l25Ok_5 (den (tab C0 T_spec_l25Ok) ⟨42, 43⟩ h_spec_l25Ok 1 (loopOf Tryd.f15 4)) (n + 1) (s_spec_l25Ok_5.enc z) k =
    t_spec_l25Ok_5 (fun y => loopN ⟨42, 43⟩ lh_spec_l25Ok_5 (den (tab C0 T_spec_l25Ok) ⟨42, 43⟩ h_spec_l25Ok 1 (loopOf Tryd.f15 4)) n (s_spec_l25Ok_5.enc y) k) (hK k x_spec_l25Ok_5) z := by kernel_rfl
theorem hs_spec_l25Ok : HintsOk (tab C0 T_spec_l25Ok) ⟨42, 43⟩ h_spec_l25Ok 1 (loops (codeOf Tryd.f15)) := by
  have hl : loops (codeOf Tryd.f15) = [loopOf Tryd.f15 4] := by kernel_rfl
  rw [hl]
  exact HintsOk.cons (n := 5) (lh := lh_spec_l25Ok_5) (S := loopX s_spec_l25Ok_5 x_spec_l25Ok_5 w_spec_l25Ok_5) (by kernel_rfl) rfl rfl (loopX_ok nat_spec_l25Ok_5 st_spec_l25Ok_5)
    (HintsOk.nil)
noncomputable def t_spec_l25Ok {R : Type} (kx : Bool → Option R) (a0 : ((List Int) × (List Int))) : Option R :=
  Option.bind (g_spec_l25Sizes a0.1) fun y38 =>
  cond (!y38)
  (kx Bool.false)
  (cond ((((List.length a0.2) : Nat) : Int) != (IntKind.wrap IntKind.i64 ((((List.length a0.1) : Nat) : Int) - (1 : Int))))
   (kx Bool.false)
   (Option.bind (w_spec_l25Ok_5 (m_spec_l25Ok_5 (0 : Int) a0.1 a0.2)) (exC x_spec_l25Ok_5
    (fun e44 =>
     kx (e44.1.1.1 : Bool), fun _ =>
     kx Bool.true, ()))))
noncomputable def g_spec_l25Ok (a0 : ((List Int) × (List Int))) : Option (Bool) := t_spec_l25Ok some a0
theorem nat_spec_l25Ok {R : Type} (kx : Bool → Option R) (a0 : ((List Int) × (List Int))) : t_spec_l25Ok kx a0 = (g_spec_l25Ok a0).bind kx := by
  unfold g_spec_l25Ok t_spec_l25Ok
  exact nat_bind fun _ => nat_cond (rfl) (nat_cond (rfl) (nat_exC ⟨fun _ => rfl, fun _ => rfl, trivial⟩))
abbrev as_spec_l25Ok : List AX := [.ptr (.pair (.slice (.int .i64)) (.slice (.int .i64)))]
abbrev en_spec_l25Ok : Bool → AV × List CV := fun b => (.one ⟨false, [(.v (.bool b))]⟩, [])
noncomputable abbrev k_spec_l25Ok : Contract := .fx as_spec_l25Ok (Bool) (fun z => g_spec_l25Ok z.1) en_spec_l25Ok
theorem r_spec_l25Ok (z : argsX as_spec_l25Ok) : runF (tab C0 T_spec_l25Ok) h_spec_l25Ok 1 Tryd.f15 (lentOf as_spec_l25Ok) (xBoxes as_spec_l25Ok z) (xVals as_spec_l25Ok 0 z) K2 = t_spec_l25Ok (fun b => some (en_spec_l25Ok b)) z.1 := by kernel_rfl
theorem so_spec_l25Ok : Sound C0 15 k_spec_l25Ok :=
  Sound.fx a_spec_l25Ok mixed Tryd.func15 (by kernel_rfl) (by kernel_rfl) h_spec_l25Ok 1 hs_spec_l25Ok (fun z => (r_spec_l25Ok z).trans (nat_spec_l25Ok _ z.1))

def S_spec_l01Dec : Type := (Int) → Option (ByteArray)
noncomputable def self_spec_l01Dec [Inhabited S_spec_l01Dec] : (Int) → Option (ByteArray) := (default : S_spec_l01Dec)
noncomputable abbrev k_self_spec_l01Dec [Inhabited S_spec_l01Dec] : Contract := .fx [.val false (.int .i64)] (ByteArray) (fun z => self_spec_l01Dec z.1) (fun b => (.one ⟨false, [(.v (.string b))]⟩, []))
/-! ### F29 spec.l01Dec -/
noncomputable def T_spec_l01Dec_r [Inhabited S_spec_l01Dec] : List (FuncId × Contract) := [(29, k_self_spec_l01Dec)]
theorem a_spec_l01Dec_r [Inhabited S_spec_l01Dec] (hself : Sound C0 29 k_self_spec_l01Dec) : AllSound C0 T_spec_l01Dec_r := .cons hself (.nil)
noncomputable def t_spec_l01Dec_r [Inhabited S_spec_l01Dec] {R : Type} (kx : ByteArray → Option R) (a0 : Int) : Option R :=
  cond (decide (a0 < (0 : Int)))
  (cond (decide (a0 > (-(10 : Int))))
   (Option.bind (self_spec_l01Dec (IntKind.wrap IntKind.i64 ((0 : Int) - a0))) fun y55 =>
    cond (decide (((((ByteArray.size (ByteArray.mk (Array.mk [45]))) + (ByteArray.size y55)) : Nat) : Int) > (if (Bool.true = Bool.true) then (((2 : Int) ^ (64 - 1)) - (1 : Int)) else (((2 : Int) ^ 64) - (1 : Int)))))
    (none)
    (kx ((ByteArray.mk (Array.mk [45])) ++ y55)))
   (cond (decide (a0 < (0 : Int)))
    (Option.bind (self_spec_l01Dec (IntKind.wrap IntKind.i64 (Int.tdiv a0 (10 : Int)))) fun y56 =>
     Option.bind (self_spec_l01Dec (IntKind.wrap IntKind.i64 ((0 : Int) - (Int.tmod a0 (10 : Int))))) fun y57 =>
     cond (decide (((((ByteArray.size y56) + (ByteArray.size y57)) : Nat) : Int) > (if (Bool.true = Bool.true) then (((2 : Int) ^ (64 - 1)) - (1 : Int)) else (((2 : Int) ^ 64) - (1 : Int)))))
     (none)
     (kx (y56 ++ y57)))
    (cond (decide (a0 < (10 : Int)))
     (kx (ByteArray.mk (Array.mk [(UInt8.ofNat (Int.toNat (IntKind.wrap IntKind.u8 (IntKind.wrap IntKind.i64 ((48 : Int) + a0)))))])))
     (Option.bind (self_spec_l01Dec (IntKind.wrap IntKind.i64 (Int.tdiv a0 (10 : Int)))) fun y58 =>
      cond (decide (((((ByteArray.size y58) + (ByteArray.size (ByteArray.mk (Array.mk [(UInt8.ofNat (Int.toNat (IntKind.wrap IntKind.u8 (IntKind.wrap IntKind.i64 ((48 : Int) + (Int.tmod a0 (10 : Int)))))))])))) : Nat) : Int) > (if (Bool.true = Bool.true) then (((2 : Int) ^ (64 - 1)) - (1 : Int)) else (((2 : Int) ^ 64) - (1 : Int)))))
      (none)
      (kx (y58 ++ (ByteArray.mk (Array.mk [(UInt8.ofNat (Int.toNat (IntKind.wrap IntKind.u8 (IntKind.wrap IntKind.i64 ((48 : Int) + (Int.tmod a0 (10 : Int)))))))]))))))))
  (cond (decide (a0 < (0 : Int)))
   (Option.bind (self_spec_l01Dec (IntKind.wrap IntKind.i64 (Int.tdiv a0 (10 : Int)))) fun y59 =>
    Option.bind (self_spec_l01Dec (IntKind.wrap IntKind.i64 ((0 : Int) - (Int.tmod a0 (10 : Int))))) fun y60 =>
    cond (decide (((((ByteArray.size y59) + (ByteArray.size y60)) : Nat) : Int) > (if (Bool.true = Bool.true) then (((2 : Int) ^ (64 - 1)) - (1 : Int)) else (((2 : Int) ^ 64) - (1 : Int)))))
    (none)
    (kx (y59 ++ y60)))
   (cond (decide (a0 < (10 : Int)))
    (kx (ByteArray.mk (Array.mk [(UInt8.ofNat (Int.toNat (IntKind.wrap IntKind.u8 (IntKind.wrap IntKind.i64 ((48 : Int) + a0)))))])))
    (Option.bind (self_spec_l01Dec (IntKind.wrap IntKind.i64 (Int.tdiv a0 (10 : Int)))) fun y61 =>
     cond (decide (((((ByteArray.size y61) + (ByteArray.size (ByteArray.mk (Array.mk [(UInt8.ofNat (Int.toNat (IntKind.wrap IntKind.u8 (IntKind.wrap IntKind.i64 ((48 : Int) + (Int.tmod a0 (10 : Int)))))))])))) : Nat) : Int) > (if (Bool.true = Bool.true) then (((2 : Int) ^ (64 - 1)) - (1 : Int)) else (((2 : Int) ^ 64) - (1 : Int)))))
     (none)
     (kx (y61 ++ (ByteArray.mk (Array.mk [(UInt8.ofNat (Int.toNat (IntKind.wrap IntKind.u8 (IntKind.wrap IntKind.i64 ((48 : Int) + (Int.tmod a0 (10 : Int)))))))])))))))
noncomputable def g_spec_l01Dec_r [Inhabited S_spec_l01Dec] (a0 : Int) : Option (ByteArray) := t_spec_l01Dec_r some a0
theorem nat_spec_l01Dec_r [Inhabited S_spec_l01Dec] {R : Type} (kx : ByteArray → Option R) (a0 : Int) : t_spec_l01Dec_r kx a0 = (g_spec_l01Dec_r a0).bind kx := by
  unfold g_spec_l01Dec_r t_spec_l01Dec_r
  exact nat_cond (nat_cond (nat_bind fun _ => nat_cond (rfl) (rfl)) (nat_cond (nat_bind fun _ => nat_bind fun _ => nat_cond (rfl) (rfl)) (nat_cond (rfl) (nat_bind fun _ => nat_cond (rfl) (rfl))))) (nat_cond (nat_bind fun _ => nat_bind fun _ => nat_cond (rfl) (rfl)) (nat_cond (rfl) (nat_bind fun _ => nat_cond (rfl) (rfl))))
abbrev as_spec_l01Dec_r : List AX := [.val false (.int .i64)]
abbrev en_spec_l01Dec_r : ByteArray → AV × List CV := fun b => (.one ⟨false, [(.v (.string b))]⟩, [])
noncomputable abbrev k_spec_l01Dec_r [Inhabited S_spec_l01Dec] : Contract := .fx as_spec_l01Dec_r (ByteArray) (fun z => g_spec_l01Dec_r z.1) en_spec_l01Dec_r
theorem r_spec_l01Dec_r [Inhabited S_spec_l01Dec] (z : argsX as_spec_l01Dec_r) : runF (tab C0 T_spec_l01Dec_r) noHints 1 Tryd.f29 (lentOf as_spec_l01Dec_r) (xBoxes as_spec_l01Dec_r z) (xVals as_spec_l01Dec_r 0 z) K2 = t_spec_l01Dec_r (fun b => some (en_spec_l01Dec_r b)) z.1 := by kernel_rfl
theorem so_spec_l01Dec_r [Inhabited S_spec_l01Dec] (hself : Sound C0 29 k_self_spec_l01Dec) : Sound C0 29 k_spec_l01Dec_r :=
  Sound.fx (a_spec_l01Dec_r hself) mixed Tryd.func29 (by kernel_rfl) (by kernel_rfl) noHints 1 noHints_ok (fun z => (r_spec_l01Dec_r z).trans (nat_spec_l01Dec_r _ z.1))
noncomputable def gN_spec_l01Dec : Nat → S_spec_l01Dec
  | 0 => fun _ => none
  | n + 1 => @g_spec_l01Dec_r ⟨gN_spec_l01Dec n⟩
theorem soN_spec_l01Dec : ∀ n, Sound C0 29 (.fx [.val false (.int .i64)] (ByteArray) (fun z => gN_spec_l01Dec n z.1) (fun b => (.one ⟨false, [(.v (.string b))]⟩, [])))
  | 0 => Sound.never Tryd.func29 (by kernel_rfl) (by kernel_rfl)
  | n + 1 => @so_spec_l01Dec_r ⟨gN_spec_l01Dec n⟩ (soN_spec_l01Dec n)
noncomputable def g_spec_l01Dec : (Int) → Option (ByteArray) := gN_spec_l01Dec 1000
abbrev as_spec_l01Dec : List AX := [.val false (.int .i64)]
abbrev en_spec_l01Dec : ByteArray → AV × List CV := fun b => (.one ⟨false, [(.v (.string b))]⟩, [])
noncomputable abbrev k_spec_l01Dec : Contract := .fx as_spec_l01Dec (ByteArray) (fun z => g_spec_l01Dec z.1) en_spec_l01Dec
theorem so_spec_l01Dec : Sound C0 29 k_spec_l01Dec := soN_spec_l01Dec 1000

/-! ### F16 spec.l25Text -/
noncomputable def T_spec_l25Text : List (FuncId × Contract) := [(29, k_spec_l01Dec)]
theorem a_spec_l25Text : AllSound C0 T_spec_l25Text := .cons so_spec_l01Dec (.nil)
abbrev s_spec_l25Text_4 : LS := ⟨[(false, [(.ptr 44 0)]), (false, [.str]), (false, [(.int .i64)])], [(true, [(.sl (.int .i64)), (.sl (.int .i64))])], []⟩
abbrev e_spec_l25Text_4_0 : LS := ⟨[(false, [.str])], [], []⟩
abbrev d_spec_l25Text_4_0 (v0 : ByteArray) : e_spec_l25Text_4_0.T := (((v0, ()), ()), (), ())
abbrev x_spec_l25Text_4 : List (Ex × LS) := [(.exit 0, e_spec_l25Text_4_0)]
abbrev m_spec_l25Text_4 (x3 : ByteArray) (x4 : Int) (b0_0 : List Int) (b0_1 : List Int) : s_spec_l25Text_4.T := ((((), ()), (x3, ()), (x4, ()), ()), ((b0_0, b0_1, ()), ()), ())
noncomputable def u_spec_l25Text_4 {R : Type} (nx : s_spec_l25Text_4.T → Option R) (hx : exH R x_spec_l25Text_4) (x3 : ByteArray) (x4 : Int) (b0_0 : List Int) (b0_1 : List Int) : Option R :=
  cond (decide (x4 < (((List.length b0_0) : Nat) : Int)))
  (Option.bind (idx b0_0 x4) fun y53 =>
   Option.bind (g_spec_l01Dec y53) fun y62 =>
   cond (decide (((((ByteArray.size x3) + (ByteArray.size y62)) : Nat) : Int) > (if (Bool.true = Bool.true) then (((2 : Int) ^ (64 - 1)) - (1 : Int)) else (((2 : Int) ^ 64) - (1 : Int)))))
   (none)
   (cond (decide (x4 < (((List.length b0_1) : Nat) : Int)))
    (Option.bind (idx b0_1 x4) fun y63 =>
     cond (y63 == (2 : Int))
     (cond (decide (((((ByteArray.size (x3 ++ y62)) + (ByteArray.size (ByteArray.mk (Array.mk [77])))) : Nat) : Int) > (if (Bool.true = Bool.true) then (((2 : Int) ^ (64 - 1)) - (1 : Int)) else (((2 : Int) ^ 64) - (1 : Int)))))
      (none)
      (nx (m_spec_l25Text_4 ((x3 ++ y62) ++ (ByteArray.mk (Array.mk [77]))) (IntKind.wrap IntKind.i64 (x4 + (1 : Int))) b0_0 b0_1)))
     (cond (decide (((((ByteArray.size (x3 ++ y62)) + (ByteArray.size (ByteArray.mk (Array.mk [86])))) : Nat) : Int) > (if (Bool.true = Bool.true) then (((2 : Int) ^ (64 - 1)) - (1 : Int)) else (((2 : Int) ^ 64) - (1 : Int)))))
      (none)
      (nx (m_spec_l25Text_4 ((x3 ++ y62) ++ (ByteArray.mk (Array.mk [86]))) (IntKind.wrap IntKind.i64 (x4 + (1 : Int))) b0_0 b0_1))))
    (nx (m_spec_l25Text_4 (x3 ++ y62) (IntKind.wrap IntKind.i64 (x4 + (1 : Int))) b0_0 b0_1))))
  (hx.1 (d_spec_l25Text_4_0 x3))
noncomputable def t_spec_l25Text_4 {R : Type} (nx : s_spec_l25Text_4.T → Option R) (hx : exH R x_spec_l25Text_4) (z : s_spec_l25Text_4.T) : Option R := u_spec_l25Text_4 nx hx z.1.2.1.1 z.1.2.2.1.1 z.2.1.1.1 z.2.1.1.2.1
theorem nat_spec_l25Text_4 : Natural @t_spec_l25Text_4 := fun R nx hx z => by
  show u_spec_l25Text_4 nx hx z.1.2.1.1 z.1.2.2.1.1 z.2.1.1.1 z.2.1.1.2.1 = (u_spec_l25Text_4 (fun y => some (.inl y)) (hIn x_spec_l25Text_4 fun x => some (.inr x)) z.1.2.1.1 z.1.2.2.1.1 z.2.1.1.1 z.2.1.1.2.1).bind (goOn nx hx)
  unfold u_spec_l25Text_4
  exact nat_cond (nat_bind fun _ => nat_bind fun _ => nat_cond (rfl) (nat_cond (nat_bind fun _ => nat_cond (nat_cond (rfl) (rfl)) (nat_cond (rfl) (rfl))) (rfl))) (rfl)
noncomputable def w_spec_l25Text_4 : s_spec_l25Text_4.T → Option (exT x_spec_l25Text_4) := wOf @t_spec_l25Text_4
theorem wq_spec_l25Text_4 (x3 : ByteArray) (x4 : Int) (b0_0 : List Int) (b0_1 : List Int) : w_spec_l25Text_4 (m_spec_l25Text_4 x3 x4 b0_0 b0_1) = u_spec_l25Text_4 w_spec_l25Text_4 (hIn x_spec_l25Text_4 some) x3 x4 b0_0 b0_1 := wOf_eq nat_spec_l25Text_4 _
def lh_spec_l25Text_4 : LoopHint := ⟨[0, 3, 4], [44], [3], []⟩
noncomputable def h_spec_l25Text : Hints Rv := ⟨fun k => match k with | 4 => lh_spec_l25Text_4 | _ => ⟨[], [], [], []⟩, fun k => match k with | 4 => some (loopX s_spec_l25Text_4 x_spec_l25Text_4 w_spec_l25Text_4) | _ => none⟩
theorem st_spec_l25Text_4 (n : Nat) (z : s_spec_l25Text_4.T) (k : Ex → Live → Option Rv) : loopN ⟨44, 45⟩ lh_spec_l25Text_4 (den (tab C0 T_spec_l25Text) ⟨44, 45⟩ h_spec_l25Text 1 (loopOf Tryd.f16 3)) (n + 1) (s_spec_l25Text_4.enc z) k =
    t_spec_l25Text_4 (fun y => loopN ⟨44, 45⟩ lh_spec_l25Text_4 (den (tab C0 T_spec_l25Text) ⟨44, 45⟩ h_spec_l25Text 1 (loopOf Tryd.f16 3)) n (s_spec_l25Text_4.enc y) k) (hK k x_spec_l25Text_4) z := by kernel_rfl
theorem hs_spec_l25Text : HintsOk (tab C0 T_spec_l25Text) ⟨44, 45⟩ h_spec_l25Text 1 (loops (codeOf Tryd.f16)) := by
  have hl : loops (codeOf Tryd.f16) = [loopOf Tryd.f16 3] := by kernel_rfl
  rw [hl]
  exact HintsOk.cons (n := 4) (lh := lh_spec_l25Text_4) (S := loopX s_spec_l25Text_4 x_spec_l25Text_4 w_spec_l25Text_4) (by kernel_rfl) rfl rfl (loopX_ok nat_spec_l25Text_4 st_spec_l25Text_4)
    (HintsOk.nil)
noncomputable def t_spec_l25Text {R : Type} (kx : ByteArray → Option R) (a0 : ((List Int) × (List Int))) : Option R :=
  Option.bind (w_spec_l25Text_4 (m_spec_l25Text_4 (ByteArray.mk (Array.mk [])) (0 : Int) a0.1 a0.2)) (exC x_spec_l25Text_4
  (fun e64 =>
   kx (e64.1.1.1 : ByteArray), ()))
noncomputable def g_spec_l25Text (a0 : ((List Int) × (List Int))) : Option (ByteArray) := t_spec_l25Text some a0
theorem nat_spec_l25Text {R : Type} (kx : ByteArray → Option R) (a0 : ((List Int) × (List Int))) : t_spec_l25Text kx a0 = (g_spec_l25Text a0).bind kx := by
  unfold g_spec_l25Text t_spec_l25Text
  exact nat_exC ⟨fun _ => rfl, trivial⟩
abbrev as_spec_l25Text : List AX := [.ptr (.pair (.slice (.int .i64)) (.slice (.int .i64)))]
abbrev en_spec_l25Text : ByteArray → AV × List CV := fun b => (.one ⟨false, [(.v (.string b))]⟩, [])
noncomputable abbrev k_spec_l25Text : Contract := .fx as_spec_l25Text (ByteArray) (fun z => g_spec_l25Text z.1) en_spec_l25Text
theorem r_spec_l25Text (z : argsX as_spec_l25Text) : runF (tab C0 T_spec_l25Text) h_spec_l25Text 1 Tryd.f16 (lentOf as_spec_l25Text) (xBoxes as_spec_l25Text z) (xVals as_spec_l25Text 0 z) K2 = t_spec_l25Text (fun b => some (en_spec_l25Text b)) z.1 := by kernel_rfl
theorem so_spec_l25Text : Sound C0 16 k_spec_l25Text :=
  Sound.fx a_spec_l25Text mixed Tryd.func16 (by kernel_rfl) (by kernel_rfl) h_spec_l25Text 1 hs_spec_l25Text (fun z => (r_spec_l25Text z).trans (nat_spec_l25Text _ z.1))

/-! ### F6 spec.StripText -/
noncomputable def T_spec_StripText : List (FuncId × Contract) := [(15, k_spec_l25Ok), (16, k_spec_l25Text)]
theorem a_spec_StripText : AllSound C0 T_spec_StripText := .cons so_spec_l25Ok (.cons so_spec_l25Text (.nil))
noncomputable def t_spec_StripText {R : Type} (kx : ByteArray → Option R) (a0 : ((List Int) × (List Int))) : Option R :=
  Option.bind (g_spec_l25Ok a0) fun y47 =>
  cond (!y47)
  (kx (ByteArray.mk (Array.mk [])))
  (Option.bind (g_spec_l25Text a0) fun y66 =>
   kx y66)
noncomputable def g_spec_StripText (a0 : ((List Int) × (List Int))) : Option (ByteArray) := t_spec_StripText some a0
theorem nat_spec_StripText {R : Type} (kx : ByteArray → Option R) (a0 : ((List Int) × (List Int))) : t_spec_StripText kx a0 = (g_spec_StripText a0).bind kx := by
  unfold g_spec_StripText t_spec_StripText
  exact nat_bind fun _ => nat_cond (rfl) (nat_bind fun _ => rfl)
abbrev as_spec_StripText : List AX := [.val true (.pair (.slice (.int .i64)) (.slice (.int .i64)))]
abbrev en_spec_StripText : ByteArray → AV × List CV := fun b => (.one ⟨false, [(.v (.string b))]⟩, [])
noncomputable abbrev k_spec_StripText : Contract := .fx as_spec_StripText (ByteArray) (fun z => g_spec_StripText z.1) en_spec_StripText
theorem r_spec_StripText (z : argsX as_spec_StripText) : runF (tab C0 T_spec_StripText) noHints 1 Tryd.f6 (lentOf as_spec_StripText) (xBoxes as_spec_StripText z) (xVals as_spec_StripText 0 z) K2 = t_spec_StripText (fun b => some (en_spec_StripText b)) z.1 := by kernel_rfl
theorem so_spec_StripText : Sound C0 6 k_spec_StripText :=
  Sound.fx a_spec_StripText mixed Tryd.func6 (by kernel_rfl) (by kernel_rfl) noHints 1 noHints_ok (fun z => (r_spec_StripText z).trans (nat_spec_StripText _ z.1))

/-! ### F41 impl.length[int64] -/
noncomputable def T_impl_length_int64 : List (FuncId × Contract) := []
theorem a_impl_length_int64 : AllSound C0 T_impl_length_int64 := .nil
noncomputable def t_impl_length_int64 {R : Type} (kx : Int → Option R) (a0 : (List Int)) : Option R :=
  kx (((List.length a0) : Nat) : Int)
noncomputable def g_impl_length_int64 (a0 : (List Int)) : Option (Int) := t_impl_length_int64 some a0
theorem nat_impl_length_int64 {R : Type} (kx : Int → Option R) (a0 : (List Int)) : t_impl_length_int64 kx a0 = (g_impl_length_int64 a0).bind kx := by
  unfold g_impl_length_int64 t_impl_length_int64
  exact rfl
abbrev as_impl_length_int64 : List AX := [.val false (.slice (.int .i64))]
abbrev en_impl_length_int64 : Int → AV × List CV := fun b => (.one ⟨false, [(.v (.int .i64 b))]⟩, [])
noncomputable abbrev k_impl_length_int64 : Contract := .fx as_impl_length_int64 (Int) (fun z => g_impl_length_int64 z.1) en_impl_length_int64
theorem r_impl_length_int64 (z : argsX as_impl_length_int64) : runF (tab C0 T_impl_length_int64) noHints 1 Tryd.f41 (lentOf as_impl_length_int64) (xBoxes as_impl_length_int64 z) (xVals as_impl_length_int64 0 z) K2 = t_impl_length_int64 (fun b => some (en_impl_length_int64 b)) z.1 := by kernel_rfl
theorem so_impl_length_int64 : Sound C0 41 k_impl_length_int64 :=
  Sound.fx a_impl_length_int64 mixed Tryd.func41 (by kernel_rfl) (by kernel_rfl) noHints 1 noHints_ok (fun z => (r_impl_length_int64 z).trans (nat_impl_length_int64 _ z.1))

/-! ### F33 impl.within -/
noncomputable def T_impl_within : List (FuncId × Contract) := []
theorem a_impl_within : AllSound C0 T_impl_within := .nil
noncomputable def t_impl_within {R : Type} (kx : Bool → Option R) (a0 : Int) (a1 : Int) (a2 : Int) : Option R :=
  cond (decide (a0 ≥ a1))
  (kx (decide (a0 ≤ a2)))
  (kx Bool.false)
noncomputable def g_impl_within (a0 : Int) (a1 : Int) (a2 : Int) : Option (Bool) := t_impl_within some a0 a1 a2
theorem nat_impl_within {R : Type} (kx : Bool → Option R) (a0 : Int) (a1 : Int) (a2 : Int) : t_impl_within kx a0 a1 a2 = (g_impl_within a0 a1 a2).bind kx := by
  unfold g_impl_within t_impl_within
  exact nat_cond (rfl) (rfl)
abbrev as_impl_within : List AX := [.val false (.int .i64), .val false (.int .i64), .val false (.int .i64)]
abbrev en_impl_within : Bool → AV × List CV := fun b => (.one ⟨false, [(.v (.bool b))]⟩, [])
noncomputable abbrev k_impl_within : Contract := .fx as_impl_within (Bool) (fun z => g_impl_within z.1 z.2.1 z.2.2.1) en_impl_within
theorem r_impl_within (z : argsX as_impl_within) : runF (tab C0 T_impl_within) noHints 1 Tryd.f33 (lentOf as_impl_within) (xBoxes as_impl_within z) (xVals as_impl_within 0 z) K2 = t_impl_within (fun b => some (en_impl_within b)) z.1 z.2.1 z.2.2.1 := by kernel_rfl
theorem so_impl_within : Sound C0 33 k_impl_within :=
  Sound.fx a_impl_within mixed Tryd.func33 (by kernel_rfl) (by kernel_rfl) noHints 1 noHints_ok (fun z => (r_impl_within z).trans (nat_impl_within _ z.1 z.2.1 z.2.2.1))

/-! ### F42 impl.areLengths$1 -/
noncomputable def T_impl_areLengths_1 : List (FuncId × Contract) := [(33, k_impl_within)]
theorem a_impl_areLengths_1 : AllSound C0 T_impl_areLengths_1 := .cons so_impl_within (.nil)
noncomputable def t_impl_areLengths_1 {R : Type} (kx : Bool → Option R) (a0 : Int) : Option R :=
  Option.bind (g_impl_within a0 (1 : Int) (1000 : Int)) fun y85 =>
  kx (!y85)
noncomputable def g_impl_areLengths_1 (a0 : Int) : Option (Bool) := t_impl_areLengths_1 some a0
theorem nat_impl_areLengths_1 {R : Type} (kx : Bool → Option R) (a0 : Int) : t_impl_areLengths_1 kx a0 = (g_impl_areLengths_1 a0).bind kx := by
  unfold g_impl_areLengths_1 t_impl_areLengths_1
  exact nat_bind fun _ => rfl
abbrev as_impl_areLengths_1 : List AX := [.val false (.int .i64)]
abbrev en_impl_areLengths_1 : Bool → AV × List CV := fun b => (.one ⟨false, [(.v (.bool b))]⟩, [])
noncomputable abbrev k_impl_areLengths_1 : Contract := .fx as_impl_areLengths_1 (Bool) (fun z => g_impl_areLengths_1 z.1) en_impl_areLengths_1
theorem r_impl_areLengths_1 (z : argsX as_impl_areLengths_1) : runF (tab C0 T_impl_areLengths_1) noHints 1 Tryd.f42 (lentOf as_impl_areLengths_1) (xBoxes as_impl_areLengths_1 z) (xVals as_impl_areLengths_1 0 z) K2 = t_impl_areLengths_1 (fun b => some (en_impl_areLengths_1 b)) z.1 := by kernel_rfl
theorem so_impl_areLengths_1 : Sound C0 42 k_impl_areLengths_1 :=
  Sound.fx a_impl_areLengths_1 mixed Tryd.func42 (by kernel_rfl) (by kernel_rfl) noHints 1 noHints_ok (fun z => (r_impl_areLengths_1 z).trans (nat_impl_areLengths_1 _ z.1))

/-! ### F44 slices.IndexFunc[[]int64,int64] -/
noncomputable def T_slices_IndexFunc_Sint64_int64__impl_areLengths_1 : List (FuncId × Contract) := [(42, k_impl_areLengths_1)]
theorem a_slices_IndexFunc_Sint64_int64__impl_areLengths_1 : AllSound C0 T_slices_IndexFunc_Sint64_int64__impl_areLengths_1 := .cons so_impl_areLengths_1 (.nil)
abbrev s_slices_IndexFunc_Sint64_int64__impl_areLengths_1_3 : LS := ⟨[(false, [(.sl (.int .i64))]), (false, [(.fn 42 [])]), (false, [(.int .i64)]), (false, [(.int .i64)])], [], []⟩
abbrev e_slices_IndexFunc_Sint64_int64__impl_areLengths_1_3_0 : LS := ⟨[(false, [(.int .i64)])], [], []⟩
abbrev d_slices_IndexFunc_Sint64_int64__impl_areLengths_1_3_0 (v0 : Int) : e_slices_IndexFunc_Sint64_int64__impl_areLengths_1_3_0.T := (((v0, ()), ()), (), ())
abbrev e_slices_IndexFunc_Sint64_int64__impl_areLengths_1_3_1 : LS := ⟨[(false, [.undef])], [], []⟩
abbrev d_slices_IndexFunc_Sint64_int64__impl_areLengths_1_3_1 : e_slices_IndexFunc_Sint64_int64__impl_areLengths_1_3_1.T := ((((), ()), ()), (), ())
abbrev x_slices_IndexFunc_Sint64_int64__impl_areLengths_1_3 : List (Ex × LS) := [(.ret, e_slices_IndexFunc_Sint64_int64__impl_areLengths_1_3_0), (.exit 0, e_slices_IndexFunc_Sint64_int64__impl_areLengths_1_3_1)]
abbrev m_slices_IndexFunc_Sint64_int64__impl_areLengths_1_3 (x0 : List Int) (x7 : Int) (x8 : Int) : s_slices_IndexFunc_Sint64_int64__impl_areLengths_1_3.T := (((x0, ()), ((), ()), (x7, ()), (x8, ()), ()), (), ())
noncomputable def u_slices_IndexFunc_Sint64_int64__impl_areLengths_1_3 {R : Type} (nx : s_slices_IndexFunc_Sint64_int64__impl_areLengths_1_3.T → Option R) (hx : exH R x_slices_IndexFunc_Sint64_int64__impl_areLengths_1_3) (x0 : List Int) (x7 : Int) (x8 : Int) : Option R :=
  cond (decide (x8 < x7))
  (Option.bind (idx x0 x8) fun y83 =>
   Option.bind (g_impl_areLengths_1 y83) fun y86 =>
   cond y86
   (hx.1 (d_slices_IndexFunc_Sint64_int64__impl_areLengths_1_3_0 x8))
   (nx (m_slices_IndexFunc_Sint64_int64__impl_areLengths_1_3 x0 x7 (IntKind.wrap IntKind.i64 (x8 + (1 : Int))))))
  (hx.2.1 (d_slices_IndexFunc_Sint64_int64__impl_areLengths_1_3_1))
noncomputable def t_slices_IndexFunc_Sint64_int64__impl_areLengths_1_3 {R : Type} (nx : s_slices_IndexFunc_Sint64_int64__impl_areLengths_1_3.T → Option R) (hx : exH R x_slices_IndexFunc_Sint64_int64__impl_areLengths_1_3) (z : s_slices_IndexFunc_Sint64_int64__impl_areLengths_1_3.T) : Option R := u_slices_IndexFunc_Sint64_int64__impl_areLengths_1_3 nx hx z.1.1.1 z.1.2.2.1.1 z.1.2.2.2.1.1
theorem nat_slices_IndexFunc_Sint64_int64__impl_areLengths_1_3 : Natural @t_slices_IndexFunc_Sint64_int64__impl_areLengths_1_3 := fun R nx hx z => by
  show u_slices_IndexFunc_Sint64_int64__impl_areLengths_1_3 nx hx z.1.1.1 z.1.2.2.1.1 z.1.2.2.2.1.1 = (u_slices_IndexFunc_Sint64_int64__impl_areLengths_1_3 (fun y => some (.inl y)) (hIn x_slices_IndexFunc_Sint64_int64__impl_areLengths_1_3 fun x => some (.inr x)) z.1.1.1 z.1.2.2.1.1 z.1.2.2.2.1.1).bind (goOn nx hx)
  unfold u_slices_IndexFunc_Sint64_int64__impl_areLengths_1_3
  exact nat_cond (nat_bind fun _ => nat_bind fun _ => nat_cond (rfl) (rfl)) (rfl)
noncomputable def w_slices_IndexFunc_Sint64_int64__impl_areLengths_1_3 : s_slices_IndexFunc_Sint64_int64__impl_areLengths_1_3.T → Option (exT x_slices_IndexFunc_Sint64_int64__impl_areLengths_1_3) := wOf @t_slices_IndexFunc_Sint64_int64__impl_areLengths_1_3
theorem wq_slices_IndexFunc_Sint64_int64__impl_areLengths_1_3 (x0 : List Int) (x7 : Int) (x8 : Int) : w_slices_IndexFunc_Sint64_int64__impl_areLengths_1_3 (m_slices_IndexFunc_Sint64_int64__impl_areLengths_1_3 x0 x7 x8) = u_slices_IndexFunc_Sint64_int64__impl_areLengths_1_3 w_slices_IndexFunc_Sint64_int64__impl_areLengths_1_3 (hIn x_slices_IndexFunc_Sint64_int64__impl_areLengths_1_3 some) x0 x7 x8 := wOf_eq nat_slices_IndexFunc_Sint64_int64__impl_areLengths_1_3 _
def lh_slices_IndexFunc_Sint64_int64__impl_areLengths_1_3 : LoopHint := ⟨[0, 1, 7, 8], [], [4], []⟩
noncomputable def h_slices_IndexFunc_Sint64_int64__impl_areLengths_1 : Hints Rv := ⟨fun k => match k with | 3 => lh_slices_IndexFunc_Sint64_int64__impl_areLengths_1_3 | _ => ⟨[], [], [], []⟩, fun k => match k with | 3 => some (loopX s_slices_IndexFunc_Sint64_int64__impl_areLengths_1_3 x_slices_IndexFunc_Sint64_int64__impl_areLengths_1_3 w_slices_IndexFunc_Sint64_int64__impl_areLengths_1_3) | _ => none⟩
theorem st_slices_IndexFunc_Sint64_int64__impl_areLengths_1_3 (n : Nat) (z : s_slices_IndexFunc_Sint64_int64__impl_areLengths_1_3.T) (k : Ex → Live → Option Rv) : loopN ⟨19, 19⟩ lh_slices_IndexFunc_Sint64_int64__impl_areLengths_1_3 (den (tab C0 T_slices_IndexFunc_Sint64_int64__impl_areLengths_1) ⟨19, 19⟩ h_slices_IndexFunc_Sint64_int64__impl_areLengths_1 1 (loopOf Tryd.f44 2)) (n + 1) (s_slices_IndexFunc_Sint64_int64__impl_areLengths_1_3.enc z) k =
    t_slices_IndexFunc_Sint64_int64__impl_areLengths_1_3 (fun y => loopN ⟨19, 19⟩ lh_slices_IndexFunc_Sint64_int64__impl_areLengths_1_3 (den (tab C0 T_slices_IndexFunc_Sint64_int64__impl_areLengths_1) ⟨19, 19⟩ h_slices_IndexFunc_Sint64_int64__impl_areLengths_1 1 (loopOf Tryd.f44 2)) n (s_slices_IndexFunc_Sint64_int64__impl_areLengths_1_3.enc y) k) (hK k x_slices_IndexFunc_Sint64_int64__impl_areLengths_1_3) z := by kernel_rfl
theorem hs_slices_IndexFunc_Sint64_int64__impl_areLengths_1 : HintsOk (tab C0 T_slices_IndexFunc_Sint64_int64__impl_areLengths_1) ⟨19, 19⟩ h_slices_IndexFunc_Sint64_int64__impl_areLengths_1 1 (loops (codeOf Tryd.f44)) := by
  have hl : loops (codeOf Tryd.f44) = [loopOf Tryd.f44 2] := by kernel_rfl
  rw [hl]
  exact HintsOk.cons (n := 3) (lh := lh_slices_IndexFunc_Sint64_int64__impl_areLengths_1_3) (S := loopX s_slices_IndexFunc_Sint64_int64__impl_areLengths_1_3 x_slices_IndexFunc_Sint64_int64__impl_areLengths_1_3 w_slices_IndexFunc_Sint64_int64__impl_areLengths_1_3) (by kernel_rfl) rfl rfl (loopX_ok nat_slices_IndexFunc_Sint64_int64__impl_areLengths_1_3 st_slices_IndexFunc_Sint64_int64__impl_areLengths_1_3)
    (HintsOk.nil)
noncomputable def t_slices_IndexFunc_Sint64_int64__impl_areLengths_1 {R : Type} (kx : Int → Option R) (a0 : (List Int)) : Option R :=
  Option.bind (w_slices_IndexFunc_Sint64_int64__impl_areLengths_1_3 (m_slices_IndexFunc_Sint64_int64__impl_areLengths_1_3 a0 (((List.length a0) : Nat) : Int) (0 : Int))) (exC x_slices_IndexFunc_Sint64_int64__impl_areLengths_1_3
  (fun e87 =>
   kx (e87.1.1.1 : Int), fun _ =>
   kx (-(1 : Int)), ()))
noncomputable def g_slices_IndexFunc_Sint64_int64__impl_areLengths_1 (a0 : (List Int)) : Option (Int) := t_slices_IndexFunc_Sint64_int64__impl_areLengths_1 some a0
theorem nat_slices_IndexFunc_Sint64_int64__impl_areLengths_1 {R : Type} (kx : Int → Option R) (a0 : (List Int)) : t_slices_IndexFunc_Sint64_int64__impl_areLengths_1 kx a0 = (g_slices_IndexFunc_Sint64_int64__impl_areLengths_1 a0).bind kx := by
  unfold g_slices_IndexFunc_Sint64_int64__impl_areLengths_1 t_slices_IndexFunc_Sint64_int64__impl_areLengths_1
  exact nat_exC ⟨fun _ => rfl, fun _ => rfl, trivial⟩
abbrev as_slices_IndexFunc_Sint64_int64__impl_areLengths_1 : List AX := [.val false (.slice (.int .i64)), .clo 42 []]
abbrev en_slices_IndexFunc_Sint64_int64__impl_areLengths_1 : Int → AV × List CV := fun b => (.one ⟨false, [(.v (.int .i64 b))]⟩, [])
noncomputable abbrev k_slices_IndexFunc_Sint64_int64__impl_areLengths_1 : Contract := .fx as_slices_IndexFunc_Sint64_int64__impl_areLengths_1 (Int) (fun z => g_slices_IndexFunc_Sint64_int64__impl_areLengths_1 z.1) en_slices_IndexFunc_Sint64_int64__impl_areLengths_1
theorem r_slices_IndexFunc_Sint64_int64__impl_areLengths_1 (z : argsX as_slices_IndexFunc_Sint64_int64__impl_areLengths_1) : runF (tab C0 T_slices_IndexFunc_Sint64_int64__impl_areLengths_1) h_slices_IndexFunc_Sint64_int64__impl_areLengths_1 1 Tryd.f44 (lentOf as_slices_IndexFunc_Sint64_int64__impl_areLengths_1) (xBoxes as_slices_IndexFunc_Sint64_int64__impl_areLengths_1 z) (xVals as_slices_IndexFunc_Sint64_int64__impl_areLengths_1 0 z) K2 = t_slices_IndexFunc_Sint64_int64__impl_areLengths_1 (fun b => some (en_slices_IndexFunc_Sint64_int64__impl_areLengths_1 b)) z.1 := by kernel_rfl
theorem so_slices_IndexFunc_Sint64_int64__impl_areLengths_1 : Sound C0 44 k_slices_IndexFunc_Sint64_int64__impl_areLengths_1 :=
  Sound.fx a_slices_IndexFunc_Sint64_int64__impl_areLengths_1 mixed Tryd.func44 (by kernel_rfl) (by kernel_rfl) h_slices_IndexFunc_Sint64_int64__impl_areLengths_1 1 hs_slices_IndexFunc_Sint64_int64__impl_areLengths_1 (fun z => (r_slices_IndexFunc_Sint64_int64__impl_areLengths_1 z).trans (nat_slices_IndexFunc_Sint64_int64__impl_areLengths_1 _ z.1))

/-! ### F31 slices.ContainsFunc[[]int64,int64] -/
noncomputable def T_slices_ContainsFunc_Sint64_int64__impl_areLengths_1 : List (FuncId × Contract) := [(44, k_slices_IndexFunc_Sint64_int64__impl_areLengths_1)]
theorem a_slices_ContainsFunc_Sint64_int64__impl_areLengths_1 : AllSound C0 T_slices_ContainsFunc_Sint64_int64__impl_areLengths_1 := .cons so_slices_IndexFunc_Sint64_int64__impl_areLengths_1 (.nil)
noncomputable def t_slices_ContainsFunc_Sint64_int64__impl_areLengths_1 {R : Type} (kx : Bool → Option R) (a0 : (List Int)) : Option R :=
  Option.bind (g_slices_IndexFunc_Sint64_int64__impl_areLengths_1 a0) fun y90 =>
  kx (decide (y90 ≥ (0 : Int)))
noncomputable def g_slices_ContainsFunc_Sint64_int64__impl_areLengths_1 (a0 : (List Int)) : Option (Bool) := t_slices_ContainsFunc_Sint64_int64__impl_areLengths_1 some a0
theorem nat_slices_ContainsFunc_Sint64_int64__impl_areLengths_1 {R : Type} (kx : Bool → Option R) (a0 : (List Int)) : t_slices_ContainsFunc_Sint64_int64__impl_areLengths_1 kx a0 = (g_slices_ContainsFunc_Sint64_int64__impl_areLengths_1 a0).bind kx := by
  unfold g_slices_ContainsFunc_Sint64_int64__impl_areLengths_1 t_slices_ContainsFunc_Sint64_int64__impl_areLengths_1
  exact nat_bind fun _ => rfl
abbrev as_slices_ContainsFunc_Sint64_int64__impl_areLengths_1 : List AX := [.val false (.slice (.int .i64)), .clo 42 []]
abbrev en_slices_ContainsFunc_Sint64_int64__impl_areLengths_1 : Bool → AV × List CV := fun b => (.one ⟨false, [(.v (.bool b))]⟩, [])
noncomputable abbrev k_slices_ContainsFunc_Sint64_int64__impl_areLengths_1 : Contract := .fx as_slices_ContainsFunc_Sint64_int64__impl_areLengths_1 (Bool) (fun z => g_slices_ContainsFunc_Sint64_int64__impl_areLengths_1 z.1) en_slices_ContainsFunc_Sint64_int64__impl_areLengths_1
theorem r_slices_ContainsFunc_Sint64_int64__impl_areLengths_1 (z : argsX as_slices_ContainsFunc_Sint64_int64__impl_areLengths_1) : runF (tab C0 T_slices_ContainsFunc_Sint64_int64__impl_areLengths_1) noHints 1 Tryd.f31 (lentOf as_slices_ContainsFunc_Sint64_int64__impl_areLengths_1) (xBoxes as_slices_ContainsFunc_Sint64_int64__impl_areLengths_1 z) (xVals as_slices_ContainsFunc_Sint64_int64__impl_areLengths_1 0 z) K2 = t_slices_ContainsFunc_Sint64_int64__impl_areLengths_1 (fun b => some (en_slices_ContainsFunc_Sint64_int64__impl_areLengths_1 b)) z.1 := by kernel_rfl
theorem so_slices_ContainsFunc_Sint64_int64__impl_areLengths_1 : Sound C0 31 k_slices_ContainsFunc_Sint64_int64__impl_areLengths_1 :=
  Sound.fx a_slices_ContainsFunc_Sint64_int64__impl_areLengths_1 mixed Tryd.func31 (by kernel_rfl) (by kernel_rfl) noHints 1 noHints_ok (fun z => (r_slices_ContainsFunc_Sint64_int64__impl_areLengths_1 z).trans (nat_slices_ContainsFunc_Sint64_int64__impl_areLengths_1 _ z.1))

/-! ### F43 impl.sumOf -/
noncomputable def T_impl_sumOf : List (FuncId × Contract) := []
theorem a_impl_sumOf : AllSound C0 T_impl_sumOf := .nil
abbrev s_impl_sumOf_4 : LS := ⟨[(false, [(.int .i64)]), (false, [(.sl (.int .i64))]), (false, [(.int .i64)]), (false, [(.int .i64)])], [], []⟩
abbrev e_impl_sumOf_4_0 : LS := ⟨[(false, [(.int .i64)])], [], []⟩
abbrev d_impl_sumOf_4_0 (v0 : Int) : e_impl_sumOf_4_0.T := (((v0, ()), ()), (), ())
abbrev x_impl_sumOf_4 : List (Ex × LS) := [(.exit 0, e_impl_sumOf_4_0)]
abbrev m_impl_sumOf_4 (x3 : Int) (x6 : List Int) (x7 : Int) (x8 : Int) : s_impl_sumOf_4.T := (((x3, ()), (x6, ()), (x7, ()), (x8, ()), ()), (), ())
noncomputable def u_impl_sumOf_4 {R : Type} (nx : s_impl_sumOf_4.T → Option R) (hx : exH R x_impl_sumOf_4) (x3 : Int) (x6 : List Int) (x7 : Int) (x8 : Int) : Option R :=
  cond (decide (x8 < x7))
  (Option.bind (idx x6 x8) fun y97 =>
   nx (m_impl_sumOf_4 (IntKind.wrap IntKind.i64 (x3 + y97)) x6 x7 (IntKind.wrap IntKind.i64 (x8 + (1 : Int)))))
  (hx.1 (d_impl_sumOf_4_0 x3))
noncomputable def t_impl_sumOf_4 {R : Type} (nx : s_impl_sumOf_4.T → Option R) (hx : exH R x_impl_sumOf_4) (z : s_impl_sumOf_4.T) : Option R := u_impl_sumOf_4 nx hx z.1.1.1 z.1.2.1.1 z.1.2.2.1.1 z.1.2.2.2.1.1
theorem nat_impl_sumOf_4 : Natural @t_impl_sumOf_4 := fun R nx hx z => by
  show u_impl_sumOf_4 nx hx z.1.1.1 z.1.2.1.1 z.1.2.2.1.1 z.1.2.2.2.1.1 = (u_impl_sumOf_4 (fun y => some (.inl y)) (hIn x_impl_sumOf_4 fun x => some (.inr x)) z.1.1.1 z.1.2.1.1 z.1.2.2.1.1 z.1.2.2.2.1.1).bind (goOn nx hx)
  unfold u_impl_sumOf_4
  exact nat_cond (nat_bind fun _ => rfl) (rfl)
noncomputable def w_impl_sumOf_4 : s_impl_sumOf_4.T → Option (exT x_impl_sumOf_4) := wOf @t_impl_sumOf_4
theorem wq_impl_sumOf_4 (x3 : Int) (x6 : List Int) (x7 : Int) (x8 : Int) : w_impl_sumOf_4 (m_impl_sumOf_4 x3 x6 x7 x8) = u_impl_sumOf_4 w_impl_sumOf_4 (hIn x_impl_sumOf_4 some) x3 x6 x7 x8 := wOf_eq nat_impl_sumOf_4 _
def lh_impl_sumOf_4 : LoopHint := ⟨[3, 6, 7, 8], [], [3], []⟩
noncomputable def h_impl_sumOf : Hints Rv := ⟨fun k => match k with | 4 => lh_impl_sumOf_4 | _ => ⟨[], [], [], []⟩, fun k => match k with | 4 => some (loopX s_impl_sumOf_4 x_impl_sumOf_4 w_impl_sumOf_4) | _ => none⟩
theorem st_impl_sumOf_4 (n : Nat) (z : s_impl_sumOf_4.T) (k : Ex → Live → Option Rv) : loopN ⟨17, 17⟩ lh_impl_sumOf_4 (den (tab C0 T_impl_sumOf) ⟨17, 17⟩ h_impl_sumOf 1 (loopOf Tryd.f43 3)) (n + 1) (s_impl_sumOf_4.enc z) k =
    t_impl_sumOf_4 (fun y => loopN ⟨17, 17⟩ lh_impl_sumOf_4 (den (tab C0 T_impl_sumOf) ⟨17, 17⟩ h_impl_sumOf 1 (loopOf Tryd.f43 3)) n (s_impl_sumOf_4.enc y) k) (hK k x_impl_sumOf_4) z := by kernel_rfl
theorem hs_impl_sumOf : HintsOk (tab C0 T_impl_sumOf) ⟨17, 17⟩ h_impl_sumOf 1 (loops (codeOf Tryd.f43)) := by
  have hl : loops (codeOf Tryd.f43) = [loopOf Tryd.f43 3] := by kernel_rfl
  rw [hl]
  exact HintsOk.cons (n := 4) (lh := lh_impl_sumOf_4) (S := loopX s_impl_sumOf_4 x_impl_sumOf_4 w_impl_sumOf_4) (by kernel_rfl) rfl rfl (loopX_ok nat_impl_sumOf_4 st_impl_sumOf_4)
    (HintsOk.nil)
noncomputable def t_impl_sumOf {R : Type} (kx : Int → Option R) (a0 : (List Int)) : Option R :=
  Option.bind (w_impl_sumOf_4 (m_impl_sumOf_4 (0 : Int) a0 (((List.length a0) : Nat) : Int) (0 : Int))) (exC x_impl_sumOf_4
  (fun e98 =>
   kx (e98.1.1.1 : Int), ()))
noncomputable def g_impl_sumOf (a0 : (List Int)) : Option (Int) := t_impl_sumOf some a0
theorem nat_impl_sumOf {R : Type} (kx : Int → Option R) (a0 : (List Int)) : t_impl_sumOf kx a0 = (g_impl_sumOf a0).bind kx := by
  unfold g_impl_sumOf t_impl_sumOf
  exact nat_exC ⟨fun _ => rfl, trivial⟩
abbrev as_impl_sumOf : List AX := [.val false (.slice (.int .i64))]
abbrev en_impl_sumOf : Int → AV × List CV := fun b => (.one ⟨false, [(.v (.int .i64 b))]⟩, [])
noncomputable abbrev k_impl_sumOf : Contract := .fx as_impl_sumOf (Int) (fun z => g_impl_sumOf z.1) en_impl_sumOf
theorem r_impl_sumOf (z : argsX as_impl_sumOf) : runF (tab C0 T_impl_sumOf) h_impl_sumOf 1 Tryd.f43 (lentOf as_impl_sumOf) (xBoxes as_impl_sumOf z) (xVals as_impl_sumOf 0 z) K2 = t_impl_sumOf (fun b => some (en_impl_sumOf b)) z.1 := by kernel_rfl
theorem so_impl_sumOf : Sound C0 43 k_impl_sumOf :=
  Sound.fx a_impl_sumOf mixed Tryd.func43 (by kernel_rfl) (by kernel_rfl) h_impl_sumOf 1 hs_impl_sumOf (fun z => (r_impl_sumOf z).trans (nat_impl_sumOf _ z.1))

/-! ### F30 impl.areLengths -/
noncomputable def T_impl_areLengths : List (FuncId × Contract) := [(41, k_impl_length_int64), (33, k_impl_within), (31, k_slices_ContainsFunc_Sint64_int64__impl_areLengths_1), (43, k_impl_sumOf)]
theorem a_impl_areLengths : AllSound C0 T_impl_areLengths := .cons so_impl_length_int64 (.cons so_impl_within (.cons so_slices_ContainsFunc_Sint64_int64__impl_areLengths_1 (.cons so_impl_sumOf (.nil))))
noncomputable def t_impl_areLengths {R : Type} (kx : Bool → Option R) (a0 : (List Int)) : Option R :=
  Option.bind (g_impl_length_int64 a0) fun y73 =>
  Option.bind (g_impl_within y73 (1 : Int) (14 : Int)) fun y77 =>
  cond y77
  (Option.bind (g_slices_ContainsFunc_Sint64_int64__impl_areLengths_1 a0) fun y91 =>
   cond (!y91)
   (Option.bind (g_impl_sumOf a0) fun y100 =>
    kx (decide (y100 ≤ (1000 : Int))))
   (kx Bool.false))
  (kx Bool.false)
noncomputable def g_impl_areLengths (a0 : (List Int)) : Option (Bool) := t_impl_areLengths some a0
theorem nat_impl_areLengths {R : Type} (kx : Bool → Option R) (a0 : (List Int)) : t_impl_areLengths kx a0 = (g_impl_areLengths a0).bind kx := by
  unfold g_impl_areLengths t_impl_areLengths
  exact nat_bind fun _ => nat_bind fun _ => nat_cond (nat_bind fun _ => nat_cond (nat_bind fun _ => rfl) (rfl)) (rfl)
abbrev as_impl_areLengths : List AX := [.val false (.slice (.int .i64))]
abbrev en_impl_areLengths : Bool → AV × List CV := fun b => (.one ⟨false, [(.v (.bool b))]⟩, [])
noncomputable abbrev k_impl_areLengths : Contract := .fx as_impl_areLengths (Bool) (fun z => g_impl_areLengths z.1) en_impl_areLengths
theorem r_impl_areLengths (z : argsX as_impl_areLengths) : runF (tab C0 T_impl_areLengths) noHints 1 Tryd.f30 (lentOf as_impl_areLengths) (xBoxes as_impl_areLengths z) (xVals as_impl_areLengths 0 z) K2 = t_impl_areLengths (fun b => some (en_impl_areLengths b)) z.1 := by kernel_rfl
theorem so_impl_areLengths : Sound C0 30 k_impl_areLengths :=
  Sound.fx a_impl_areLengths mixed Tryd.func30 (by kernel_rfl) (by kernel_rfl) noHints 1 noHints_ok (fun z => (r_impl_areLengths z).trans (nat_impl_areLengths _ z.1))

/-! ### F32 impl.ValidStrip$1 -/
noncomputable def T_impl_ValidStrip_1 : List (FuncId × Contract) := [(33, k_impl_within)]
theorem a_impl_ValidStrip_1 : AllSound C0 T_impl_ValidStrip_1 := .cons so_impl_within (.nil)
noncomputable def t_impl_ValidStrip_1 {R : Type} (kx : Bool → Option R) (a0 : Int) : Option R :=
  Option.bind (g_impl_within a0 (2 : Int) (3 : Int)) fun y109 =>
  kx (!y109)
noncomputable def g_impl_ValidStrip_1 (a0 : Int) : Option (Bool) := t_impl_ValidStrip_1 some a0
theorem nat_impl_ValidStrip_1 {R : Type} (kx : Bool → Option R) (a0 : Int) : t_impl_ValidStrip_1 kx a0 = (g_impl_ValidStrip_1 a0).bind kx := by
  unfold g_impl_ValidStrip_1 t_impl_ValidStrip_1
  exact nat_bind fun _ => rfl
abbrev as_impl_ValidStrip_1 : List AX := [.val false (.int .i64)]
abbrev en_impl_ValidStrip_1 : Bool → AV × List CV := fun b => (.one ⟨false, [(.v (.bool b))]⟩, [])
noncomputable abbrev k_impl_ValidStrip_1 : Contract := .fx as_impl_ValidStrip_1 (Bool) (fun z => g_impl_ValidStrip_1 z.1) en_impl_ValidStrip_1
theorem r_impl_ValidStrip_1 (z : argsX as_impl_ValidStrip_1) : runF (tab C0 T_impl_ValidStrip_1) noHints 1 Tryd.f32 (lentOf as_impl_ValidStrip_1) (xBoxes as_impl_ValidStrip_1 z) (xVals as_impl_ValidStrip_1 0 z) K2 = t_impl_ValidStrip_1 (fun b => some (en_impl_ValidStrip_1 b)) z.1 := by kernel_rfl
theorem so_impl_ValidStrip_1 : Sound C0 32 k_impl_ValidStrip_1 :=
  Sound.fx a_impl_ValidStrip_1 mixed Tryd.func32 (by kernel_rfl) (by kernel_rfl) noHints 1 noHints_ok (fun z => (r_impl_ValidStrip_1 z).trans (nat_impl_ValidStrip_1 _ z.1))

/-! ### F44 slices.IndexFunc[[]int64,int64] -/
noncomputable def T_slices_IndexFunc_Sint64_int64__impl_ValidStrip_1 : List (FuncId × Contract) := [(32, k_impl_ValidStrip_1)]
theorem a_slices_IndexFunc_Sint64_int64__impl_ValidStrip_1 : AllSound C0 T_slices_IndexFunc_Sint64_int64__impl_ValidStrip_1 := .cons so_impl_ValidStrip_1 (.nil)
abbrev s_slices_IndexFunc_Sint64_int64__impl_ValidStrip_1_3 : LS := ⟨[(false, [(.sl (.int .i64))]), (false, [(.fn 32 [])]), (false, [(.int .i64)]), (false, [(.int .i64)])], [], []⟩
abbrev e_slices_IndexFunc_Sint64_int64__impl_ValidStrip_1_3_0 : LS := ⟨[(false, [(.int .i64)])], [], []⟩
abbrev d_slices_IndexFunc_Sint64_int64__impl_ValidStrip_1_3_0 (v0 : Int) : e_slices_IndexFunc_Sint64_int64__impl_ValidStrip_1_3_0.T := (((v0, ()), ()), (), ())
abbrev e_slices_IndexFunc_Sint64_int64__impl_ValidStrip_1_3_1 : LS := ⟨[(false, [.undef])], [], []⟩
abbrev d_slices_IndexFunc_Sint64_int64__impl_ValidStrip_1_3_1 : e_slices_IndexFunc_Sint64_int64__impl_ValidStrip_1_3_1.T := ((((), ()), ()), (), ())
abbrev x_slices_IndexFunc_Sint64_int64__impl_ValidStrip_1_3 : List (Ex × LS) := [(.ret, e_slices_IndexFunc_Sint64_int64__impl_ValidStrip_1_3_0), (.exit 0, e_slices_IndexFunc_Sint64_int64__impl_ValidStrip_1_3_1)]
abbrev m_slices_IndexFunc_Sint64_int64__impl_ValidStrip_1_3 (x0 : List Int) (x7 : Int) (x8 : Int) : s_slices_IndexFunc_Sint64_int64__impl_ValidStrip_1_3.T := (((x0, ()), ((), ()), (x7, ()), (x8, ()), ()), (), ())
noncomputable def u_slices_IndexFunc_Sint64_int64__impl_ValidStrip_1_3 {R : Type} (nx : s_slices_IndexFunc_Sint64_int64__impl_ValidStrip_1_3.T → Option R) (hx : exH R x_slices_IndexFunc_Sint64_int64__impl_ValidStrip_1_3) (x0 : List Int) (x7 : Int) (x8 : Int) : Option R :=
  cond (decide (x8 < x7))
  (Option.bind (idx x0 x8) fun y107 =>
   Option.bind (g_impl_ValidStrip_1 y107) fun y110 =>
   cond y110
   (hx.1 (d_slices_IndexFunc_Sint64_int64__impl_ValidStrip_1_3_0 x8))
   (nx (m_slices_IndexFunc_Sint64_int64__impl_ValidStrip_1_3 x0 x7 (IntKind.wrap IntKind.i64 (x8 + (1 : Int))))))
  (hx.2.1 (d_slices_IndexFunc_Sint64_int64__impl_ValidStrip_1_3_1))
noncomputable def t_slices_IndexFunc_Sint64_int64__impl_ValidStrip_1_3 {R : Type} (nx : s_slices_IndexFunc_Sint64_int64__impl_ValidStrip_1_3.T → Option R) (hx : exH R x_slices_IndexFunc_Sint64_int64__impl_ValidStrip_1_3) (z : s_slices_IndexFunc_Sint64_int64__impl_ValidStrip_1_3.T) : Option R := u_slices_IndexFunc_Sint64_int64__impl_ValidStrip_1_3 nx hx z.1.1.1 z.1.2.2.1.1 z.1.2.2.2.1.1
theorem nat_slices_IndexFunc_Sint64_int64__impl_ValidStrip_1_3 : Natural @t_slices_IndexFunc_Sint64_int64__impl_ValidStrip_1_3 := fun R nx hx z => by
  show u_slices_IndexFunc_Sint64_int64__impl_ValidStrip_1_3 nx hx z.1.1.1 z.1.2.2.1.1 z.1.2.2.2.1.1 = (u_slices_IndexFunc_Sint64_int64__impl_ValidStrip_1_3 (fun y => some (.inl y)) (hIn x_slices_IndexFunc_Sint64_int64__impl_ValidStrip_1_3 fun x => some (.inr x)) z.1.1.1 z.1.2.2.1.1 z.1.2.2.2.1.1).bind (goOn nx hx)
  unfold u_slices_IndexFunc_Sint64_int64__impl_ValidStrip_1_3
  exact nat_cond (nat_bind fun _ => nat_bind fun _ => nat_cond (rfl) (rfl)) (rfl)
noncomputable def w_slices_IndexFunc_Sint64_int64__impl_ValidStrip_1_3 : s_slices_IndexFunc_Sint64_int64__impl_ValidStrip_1_3.T → Option (exT x_slices_IndexFunc_Sint64_int64__impl_ValidStrip_1_3) := wOf @t_slices_IndexFunc_Sint64_int64__impl_ValidStrip_1_3
theorem wq_slices_IndexFunc_Sint64_int64__impl_ValidStrip_1_3 (x0 : List Int) (x7 : Int) (x8 : Int) : w_slices_IndexFunc_Sint64_int64__impl_ValidStrip_1_3 (m_slices_IndexFunc_Sint64_int64__impl_ValidStrip_1_3 x0 x7 x8) = u_slices_IndexFunc_Sint64_int64__impl_ValidStrip_1_3 w_slices_IndexFunc_Sint64_int64__impl_ValidStrip_1_3 (hIn x_slices_IndexFunc_Sint64_int64__impl_ValidStrip_1_3 some) x0 x7 x8 := wOf_eq nat_slices_IndexFunc_Sint64_int64__impl_ValidStrip_1_3 _
def lh_slices_IndexFunc_Sint64_int64__impl_ValidStrip_1_3 : LoopHint := ⟨[0, 1, 7, 8], [], [4], []⟩
noncomputable def h_slices_IndexFunc_Sint64_int64__impl_ValidStrip_1 : Hints Rv := ⟨fun k => match k with | 3 => lh_slices_IndexFunc_Sint64_int64__impl_ValidStrip_1_3 | _ => ⟨[], [], [], []⟩, fun k => match k with | 3 => some (loopX s_slices_IndexFunc_Sint64_int64__impl_ValidStrip_1_3 x_slices_IndexFunc_Sint64_int64__impl_ValidStrip_1_3 w_slices_IndexFunc_Sint64_int64__impl_ValidStrip_1_3) | _ => none⟩
theorem st_slices_IndexFunc_Sint64_int64__impl_ValidStrip_1_3 (n : Nat) (z : s_slices_IndexFunc_Sint64_int64__impl_ValidStrip_1_3.T) (k : Ex → Live → Option Rv) : loopN ⟨19, 19⟩ lh_slices_IndexFunc_Sint64_int64__impl_ValidStrip_1_3 (den (tab C0 T_slices_IndexFunc_Sint64_int64__impl_ValidStrip_1) ⟨19, 19⟩ h_slices_IndexFunc_Sint64_int64__impl_ValidStrip_1 1 (loopOf Tryd.f44 2)) (n + 1) (s_slices_IndexFunc_Sint64_int64__impl_ValidStrip_1_3.enc z) k =
    t_slices_IndexFunc_Sint64_int64__impl_ValidStrip_1_3 (fun y => loopN ⟨19, 19⟩ lh_slices_IndexFunc_Sint64_int64__impl_ValidStrip_1_3 (den (tab C0 T_slices_IndexFunc_Sint64_int64__impl_ValidStrip_1) ⟨19, 19⟩ h_slices_IndexFunc_Sint64_int64__impl_ValidStrip_1 1 (loopOf Tryd.f44 2)) n (s_slices_IndexFunc_Sint64_int64__impl_ValidStrip_1_3.enc y) k) (hK k x_slices_IndexFunc_Sint64_int64__impl_ValidStrip_1_3) z := by kernel_rfl
theorem hs_slices_IndexFunc_Sint64_int64__impl_ValidStrip_1 : HintsOk (tab C0 T_slices_IndexFunc_Sint64_int64__impl_ValidStrip_1) ⟨19, 19⟩ h_slices_IndexFunc_Sint64_int64__impl_ValidStrip_1 1 (loops (codeOf Tryd.f44)) := by
  have hl : loops (codeOf Tryd.f44) = [loopOf Tryd.f44 2] := by kernel_rfl
  rw [hl]
  exact HintsOk.cons (n := 3) (lh := lh_slices_IndexFunc_Sint64_int64__impl_ValidStrip_1_3) (S := loopX s_slices_IndexFunc_Sint64_int64__impl_ValidStrip_1_3 x_slices_IndexFunc_Sint64_int64__impl_ValidStrip_1_3 w_slices_IndexFunc_Sint64_int64__impl_ValidStrip_1_3) (by kernel_rfl) rfl rfl (loopX_ok nat_slices_IndexFunc_Sint64_int64__impl_ValidStrip_1_3 st_slices_IndexFunc_Sint64_int64__impl_ValidStrip_1_3)
    (HintsOk.nil)
noncomputable def t_slices_IndexFunc_Sint64_int64__impl_ValidStrip_1 {R : Type} (kx : Int → Option R) (a0 : (List Int)) : Option R :=
  Option.bind (w_slices_IndexFunc_Sint64_int64__impl_ValidStrip_1_3 (m_slices_IndexFunc_Sint64_int64__impl_ValidStrip_1_3 a0 (((List.length a0) : Nat) : Int) (0 : Int))) (exC x_slices_IndexFunc_Sint64_int64__impl_ValidStrip_1_3
  (fun e111 =>
   kx (e111.1.1.1 : Int), fun _ =>
   kx (-(1 : Int)), ()))
noncomputable def g_slices_IndexFunc_Sint64_int64__impl_ValidStrip_1 (a0 : (List Int)) : Option (Int) := t_slices_IndexFunc_Sint64_int64__impl_ValidStrip_1 some a0
theorem nat_slices_IndexFunc_Sint64_int64__impl_ValidStrip_1 {R : Type} (kx : Int → Option R) (a0 : (List Int)) : t_slices_IndexFunc_Sint64_int64__impl_ValidStrip_1 kx a0 = (g_slices_IndexFunc_Sint64_int64__impl_ValidStrip_1 a0).bind kx := by
  unfold g_slices_IndexFunc_Sint64_int64__impl_ValidStrip_1 t_slices_IndexFunc_Sint64_int64__impl_ValidStrip_1
  exact nat_exC ⟨fun _ => rfl, fun _ => rfl, trivial⟩
abbrev as_slices_IndexFunc_Sint64_int64__impl_ValidStrip_1 : List AX := [.val false (.slice (.int .i64)), .clo 32 []]
abbrev en_slices_IndexFunc_Sint64_int64__impl_ValidStrip_1 : Int → AV × List CV := fun b => (.one ⟨false, [(.v (.int .i64 b))]⟩, [])
noncomputable abbrev k_slices_IndexFunc_Sint64_int64__impl_ValidStrip_1 : Contract := .fx as_slices_IndexFunc_Sint64_int64__impl_ValidStrip_1 (Int) (fun z => g_slices_IndexFunc_Sint64_int64__impl_ValidStrip_1 z.1) en_slices_IndexFunc_Sint64_int64__impl_ValidStrip_1
theorem r_slices_IndexFunc_Sint64_int64__impl_ValidStrip_1 (z : argsX as_slices_IndexFunc_Sint64_int64__impl_ValidStrip_1) : runF (tab C0 T_slices_IndexFunc_Sint64_int64__impl_ValidStrip_1) h_slices_IndexFunc_Sint64_int64__impl_ValidStrip_1 1 Tryd.f44 (lentOf as_slices_IndexFunc_Sint64_int64__impl_ValidStrip_1) (xBoxes as_slices_IndexFunc_Sint64_int64__impl_ValidStrip_1 z) (xVals as_slices_IndexFunc_Sint64_int64__impl_ValidStrip_1 0 z) K2 = t_slices_IndexFunc_Sint64_int64__impl_ValidStrip_1 (fun b => some (en_slices_IndexFunc_Sint64_int64__impl_ValidStrip_1 b)) z.1 := by kernel_rfl
theorem so_slices_IndexFunc_Sint64_int64__impl_ValidStrip_1 : Sound C0 44 k_slices_IndexFunc_Sint64_int64__impl_ValidStrip_1 :=
  Sound.fx a_slices_IndexFunc_Sint64_int64__impl_ValidStrip_1 mixed Tryd.func44 (by kernel_rfl) (by kernel_rfl) h_slices_IndexFunc_Sint64_int64__impl_ValidStrip_1 1 hs_slices_IndexFunc_Sint64_int64__impl_ValidStrip_1 (fun z => (r_slices_IndexFunc_Sint64_int64__impl_ValidStrip_1 z).trans (nat_slices_IndexFunc_Sint64_int64__impl_ValidStrip_1 _ z.1))

/-! ### F31 slices.ContainsFunc[[]int64,int64] -/
noncomputable def T_slices_ContainsFunc_Sint64_int64__impl_ValidStrip_1 : List (FuncId × Contract) := [(44, k_slices_IndexFunc_Sint64_int64__impl_ValidStrip_1)]
theorem a_slices_ContainsFunc_Sint64_int64__impl_ValidStrip_1 : AllSound C0 T_slices_ContainsFunc_Sint64_int64__impl_ValidStrip_1 := .cons so_slices_IndexFunc_Sint64_int64__impl_ValidStrip_1 (.nil)
noncomputable def t_slices_ContainsFunc_Sint64_int64__impl_ValidStrip_1 {R : Type} (kx : Bool → Option R) (a0 : (List Int)) : Option R :=
  Option.bind (g_slices_IndexFunc_Sint64_int64__impl_ValidStrip_1 a0) fun y114 =>
  kx (decide (y114 ≥ (0 : Int)))
noncomputable def g_slices_ContainsFunc_Sint64_int64__impl_ValidStrip_1 (a0 : (List Int)) : Option (Bool) := t_slices_ContainsFunc_Sint64_int64__impl_ValidStrip_1 some a0
theorem nat_slices_ContainsFunc_Sint64_int64__impl_ValidStrip_1 {R : Type} (kx : Bool → Option R) (a0 : (List Int)) : t_slices_ContainsFunc_Sint64_int64__impl_ValidStrip_1 kx a0 = (g_slices_ContainsFunc_Sint64_int64__impl_ValidStrip_1 a0).bind kx := by
  unfold g_slices_ContainsFunc_Sint64_int64__impl_ValidStrip_1 t_slices_ContainsFunc_Sint64_int64__impl_ValidStrip_1
  exact nat_bind fun _ => rfl
abbrev as_slices_ContainsFunc_Sint64_int64__impl_ValidStrip_1 : List AX := [.val false (.slice (.int .i64)), .clo 32 []]
abbrev en_slices_ContainsFunc_Sint64_int64__impl_ValidStrip_1 : Bool → AV × List CV := fun b => (.one ⟨false, [(.v (.bool b))]⟩, [])
noncomputable abbrev k_slices_ContainsFunc_Sint64_int64__impl_ValidStrip_1 : Contract := .fx as_slices_ContainsFunc_Sint64_int64__impl_ValidStrip_1 (Bool) (fun z => g_slices_ContainsFunc_Sint64_int64__impl_ValidStrip_1 z.1) en_slices_ContainsFunc_Sint64_int64__impl_ValidStrip_1
theorem r_slices_ContainsFunc_Sint64_int64__impl_ValidStrip_1 (z : argsX as_slices_ContainsFunc_Sint64_int64__impl_ValidStrip_1) : runF (tab C0 T_slices_ContainsFunc_Sint64_int64__impl_ValidStrip_1) noHints 1 Tryd.f31 (lentOf as_slices_ContainsFunc_Sint64_int64__impl_ValidStrip_1) (xBoxes as_slices_ContainsFunc_Sint64_int64__impl_ValidStrip_1 z) (xVals as_slices_ContainsFunc_Sint64_int64__impl_ValidStrip_1 0 z) K2 = t_slices_ContainsFunc_Sint64_int64__impl_ValidStrip_1 (fun b => some (en_slices_ContainsFunc_Sint64_int64__impl_ValidStrip_1 b)) z.1 := by kernel_rfl
theorem so_slices_ContainsFunc_Sint64_int64__impl_ValidStrip_1 : Sound C0 31 k_slices_ContainsFunc_Sint64_int64__impl_ValidStrip_1 :=
  Sound.fx a_slices_ContainsFunc_Sint64_int64__impl_ValidStrip_1 mixed Tryd.func31 (by kernel_rfl) (by kernel_rfl) noHints 1 noHints_ok (fun z => (r_slices_ContainsFunc_Sint64_int64__impl_ValidStrip_1 z).trans (nat_slices_ContainsFunc_Sint64_int64__impl_ValidStrip_1 _ z.1))

/-! ### F18 impl.ValidStrip -/
noncomputable def T_impl_ValidStrip : List (FuncId × Contract) := [(30, k_impl_areLengths), (31, k_slices_ContainsFunc_Sint64_int64__impl_ValidStrip_1)]
theorem a_impl_ValidStrip : AllSound C0 T_impl_ValidStrip := .cons so_impl_areLengths (.cons so_slices_ContainsFunc_Sint64_int64__impl_ValidStrip_1 (.nil))
noncomputable def t_impl_ValidStrip {R : Type} (kx : Bool → Option R) (a0 : ((List Int) × (List Int))) : Option R :=
  Option.bind (g_impl_areLengths a0.1) fun y101 =>
  cond y101
  (cond ((((List.length a0.2) : Nat) : Int) == (IntKind.wrap IntKind.i64 ((((List.length a0.1) : Nat) : Int) - (1 : Int))))
   (Option.bind (g_slices_ContainsFunc_Sint64_int64__impl_ValidStrip_1 a0.2) fun y115 =>
    kx (!y115))
   (kx Bool.false))
  (kx Bool.false)
noncomputable def g_impl_ValidStrip (a0 : ((List Int) × (List Int))) : Option (Bool) := t_impl_ValidStrip some a0
theorem nat_impl_ValidStrip {R : Type} (kx : Bool → Option R) (a0 : ((List Int) × (List Int))) : t_impl_ValidStrip kx a0 = (g_impl_ValidStrip a0).bind kx := by
  unfold g_impl_ValidStrip t_impl_ValidStrip
  exact nat_bind fun _ => nat_cond (nat_cond (nat_bind fun _ => rfl) (rfl)) (rfl)
abbrev as_impl_ValidStrip : List AX := [.val true (.pair (.slice (.int .i64)) (.slice (.int .i64)))]
abbrev en_impl_ValidStrip : Bool → AV × List CV := fun b => (.one ⟨false, [(.v (.bool b))]⟩, [])
noncomputable abbrev k_impl_ValidStrip : Contract := .fx as_impl_ValidStrip (Bool) (fun z => g_impl_ValidStrip z.1) en_impl_ValidStrip
theorem r_impl_ValidStrip (z : argsX as_impl_ValidStrip) : runF (tab C0 T_impl_ValidStrip) noHints 1 Tryd.f18 (lentOf as_impl_ValidStrip) (xBoxes as_impl_ValidStrip z) (xVals as_impl_ValidStrip 0 z) K2 = t_impl_ValidStrip (fun b => some (en_impl_ValidStrip b)) z.1 := by kernel_rfl
theorem so_impl_ValidStrip : Sound C0 18 k_impl_ValidStrip :=
  Sound.fx a_impl_ValidStrip mixed Tryd.func18 (by kernel_rfl) (by kernel_rfl) noHints 1 noHints_ok (fun z => (r_impl_ValidStrip z).trans (nat_impl_ValidStrip _ z.1))

/-! ### F34 impl.decimal -/
noncomputable def T_impl_decimal : List (FuncId × Contract) := [(45, k_strconv_FormatInt)]
theorem a_impl_decimal : AllSound C0 T_impl_decimal := .cons so_strconv_FormatInt (.nil)
noncomputable def t_impl_decimal {R : Type} (kx : ByteArray → Option R) (a0 : Int) : Option R :=
  Option.bind (g_strconv_FormatInt a0 (10 : Int)) fun y120 =>
  kx y120
noncomputable def g_impl_decimal (a0 : Int) : Option (ByteArray) := t_impl_decimal some a0
theorem nat_impl_decimal {R : Type} (kx : ByteArray → Option R) (a0 : Int) : t_impl_decimal kx a0 = (g_impl_decimal a0).bind kx := by
  unfold g_impl_decimal t_impl_decimal
  exact nat_bind fun _ => rfl
abbrev as_impl_decimal : List AX := [.val false (.int .i64)]
abbrev en_impl_decimal : ByteArray → AV × List CV := fun b => (.one ⟨false, [(.v (.string b))]⟩, [])
noncomputable abbrev k_impl_decimal : Contract := .fx as_impl_decimal (ByteArray) (fun z => g_impl_decimal z.1) en_impl_decimal
theorem r_impl_decimal (z : argsX as_impl_decimal) : runF (tab C0 T_impl_decimal) noHints 1 Tryd.f34 (lentOf as_impl_decimal) (xBoxes as_impl_decimal z) (xVals as_impl_decimal 0 z) K2 = t_impl_decimal (fun b => some (en_impl_decimal b)) z.1 := by kernel_rfl
theorem so_impl_decimal : Sound C0 34 k_impl_decimal :=
  Sound.fx a_impl_decimal mixed Tryd.func34 (by kernel_rfl) (by kernel_rfl) noHints 1 noHints_ok (fun z => (r_impl_decimal z).trans (nat_impl_decimal _ z.1))

/-! ### F19 impl.stripText -/
noncomputable def T_impl_stripText : List (FuncId × Contract) := [(34, k_impl_decimal)]
theorem a_impl_stripText : AllSound C0 T_impl_stripText := .cons so_impl_decimal (.nil)
abbrev s_impl_stripText_4 : LS := ⟨[(false, [(.ptr 1 0)]), (false, [.str]), (false, [(.sl (.int .i64))]), (false, [(.int .i64)]), (false, [(.int .i64)])], [(false, [(.sl (.int .i64)), (.sl (.int .i64))])], []⟩
abbrev e_impl_stripText_4_0 : LS := ⟨[(false, [.str])], [], []⟩
abbrev d_impl_stripText_4_0 (v0 : ByteArray) : e_impl_stripText_4_0.T := (((v0, ()), ()), (), ())
abbrev x_impl_stripText_4 : List (Ex × LS) := [(.exit 0, e_impl_stripText_4_0)]
abbrev m_impl_stripText_4 (x3 : ByteArray) (x12 : List Int) (x13 : Int) (x14 : Int) (b0_0 : List Int) (b0_1 : List Int) : s_impl_stripText_4.T := ((((), ()), (x3, ()), (x12, ()), (x13, ()), (x14, ()), ()), ((b0_0, b0_1, ()), ()), ())
noncomputable def u_impl_stripText_4 {R : Type} (nx : s_impl_stripText_4.T → Option R) (hx : exH R x_impl_stripText_4) (x3 : ByteArray) (x12 : List Int) (x13 : Int) (x14 : Int) (b0_0 : List Int) (b0_1 : List Int) : Option R :=
  cond (decide (x14 < x13))
  (Option.bind (idx x12 x14) fun y128 =>
   cond (decide ((0 : Int) ≤ (IntKind.wrap IntKind.i64 (y128 - (1 : Int)))))
   (cond (decide ((IntKind.wrap IntKind.i64 (y128 - (1 : Int))) ≤ y128))
    (cond (decide (y128 ≤ (((ByteArray.size (ByteArray.mk (Array.mk [66, 77, 86, 79]))) : Nat) : Int)))
     (Option.bind (idx b0_0 (IntKind.wrap IntKind.i64 (x14 + (1 : Int)))) fun y129 =>
      Option.bind (g_impl_decimal y129) fun y130 =>
      cond (decide (((((ByteArray.size (ByteArray.extract (ByteArray.mk (Array.mk [66, 77, 86, 79])) (Int.toNat (IntKind.wrap IntKind.i64 (y128 - (1 : Int)))) (Int.toNat y128))) + (ByteArray.size y130)) : Nat) : Int) > (if (Bool.true = Bool.true) then (((2 : Int) ^ (64 - 1)) - (1 : Int)) else (((2 : Int) ^ 64) - (1 : Int)))))
      (none)
      (cond (decide (((((ByteArray.size x3) + (ByteArray.size ((ByteArray.extract (ByteArray.mk (Array.mk [66, 77, 86, 79])) (Int.toNat (IntKind.wrap IntKind.i64 (y128 - (1 : Int)))) (Int.toNat y128)) ++ y130))) : Nat) : Int) > (if (Bool.true = Bool.true) then (((2 : Int) ^ (64 - 1)) - (1 : Int)) else (((2 : Int) ^ 64) - (1 : Int)))))
       (none)
       (nx (m_impl_stripText_4 (x3 ++ ((ByteArray.extract (ByteArray.mk (Array.mk [66, 77, 86, 79])) (Int.toNat (IntKind.wrap IntKind.i64 (y128 - (1 : Int)))) (Int.toNat y128)) ++ y130)) x12 x13 (IntKind.wrap IntKind.i64 (x14 + (1 : Int))) b0_0 b0_1))))
     (none))
    (none))
   (none))
  (hx.1 (d_impl_stripText_4_0 x3))
noncomputable def t_impl_stripText_4 {R : Type} (nx : s_impl_stripText_4.T → Option R) (hx : exH R x_impl_stripText_4) (z : s_impl_stripText_4.T) : Option R := u_impl_stripText_4 nx hx z.1.2.1.1 z.1.2.2.1.1 z.1.2.2.2.1.1 z.1.2.2.2.2.1.1 z.2.1.1.1 z.2.1.1.2.1
theorem nat_impl_stripText_4 : Natural @t_impl_stripText_4 := fun R nx hx z => by
  show u_impl_stripText_4 nx hx z.1.2.1.1 z.1.2.2.1.1 z.1.2.2.2.1.1 z.1.2.2.2.2.1.1 z.2.1.1.1 z.2.1.1.2.1 = (u_impl_stripText_4 (fun y => some (.inl y)) (hIn x_impl_stripText_4 fun x => some (.inr x)) z.1.2.1.1 z.1.2.2.1.1 z.1.2.2.2.1.1 z.1.2.2.2.2.1.1 z.2.1.1.1 z.2.1.1.2.1).bind (goOn nx hx)
  unfold u_impl_stripText_4
  exact nat_cond (nat_bind fun _ => nat_cond (nat_cond (nat_cond (nat_bind fun _ => nat_bind fun _ => nat_cond (rfl) (nat_cond (rfl) (rfl))) (rfl)) (rfl)) (rfl)) (rfl)
noncomputable def w_impl_stripText_4 : s_impl_stripText_4.T → Option (exT x_impl_stripText_4) := wOf @t_impl_stripText_4
theorem wq_impl_stripText_4 (x3 : ByteArray) (x12 : List Int) (x13 : Int) (x14 : Int) (b0_0 : List Int) (b0_1 : List Int) : w_impl_stripText_4 (m_impl_stripText_4 x3 x12 x13 x14 b0_0 b0_1) = u_impl_stripText_4 w_impl_stripText_4 (hIn x_impl_stripText_4 some) x3 x12 x13 x14 b0_0 b0_1 := wOf_eq nat_impl_stripText_4 _
def lh_impl_stripText_4 : LoopHint := ⟨[1, 3, 12, 13, 14], [1], [3], []⟩
noncomputable def h_impl_stripText : Hints Rv := ⟨fun k => match k with | 4 => lh_impl_stripText_4 | _ => ⟨[], [], [], []⟩, fun k => match k with | 4 => some (loopX s_impl_stripText_4 x_impl_stripText_4 w_impl_stripText_4) | _ => none⟩
theorem st_impl_stripText_4 (n : Nat) (z : s_impl_stripText_4.T) (k : Ex → Live → Option Rv) : loopN ⟨35, 35⟩ lh_impl_stripText_4 (den (tab C0 T_impl_stripText) ⟨35, 35⟩ h_impl_stripText 1 (loopOf Tryd.f19 3)) (n + 1) (s_impl_stripText_4.enc z) k =
    t_impl_stripText_4 (fun y => loopN ⟨35, 35⟩ lh_impl_stripText_4 (den (tab C0 T_impl_stripText) ⟨35, 35⟩ h_impl_stripText 1 (loopOf Tryd.f19 3)) n (s_impl_stripText_4.enc y) k) (hK k x_impl_stripText_4) z := by kernel_rfl
theorem hs_impl_stripText : HintsOk (tab C0 T_impl_stripText) ⟨35, 35⟩ h_impl_stripText 1 (loops (codeOf Tryd.f19)) := by
  have hl : loops (codeOf Tryd.f19) = [loopOf Tryd.f19 3] := by kernel_rfl
  rw [hl]
  exact HintsOk.cons (n := 4) (lh := lh_impl_stripText_4) (S := loopX s_impl_stripText_4 x_impl_stripText_4 w_impl_stripText_4) (by kernel_rfl) rfl rfl (loopX_ok nat_impl_stripText_4 st_impl_stripText_4)
    (HintsOk.nil)
noncomputable def t_impl_stripText {R : Type} (kx : ByteArray → Option R) (a0 : ((List Int) × (List Int))) : Option R :=
  Option.bind (idx a0.1 (0 : Int)) fun y118 =>
  Option.bind (g_impl_decimal y118) fun y121 =>
  Option.bind (w_impl_stripText_4 (m_impl_stripText_4 y121 a0.2 (((List.length a0.2) : Nat) : Int) (0 : Int) a0.1 a0.2)) (exC x_impl_stripText_4
  (fun e131 =>
   kx (e131.1.1.1 : ByteArray), ()))
noncomputable def g_impl_stripText (a0 : ((List Int) × (List Int))) : Option (ByteArray) := t_impl_stripText some a0
theorem nat_impl_stripText {R : Type} (kx : ByteArray → Option R) (a0 : ((List Int) × (List Int))) : t_impl_stripText kx a0 = (g_impl_stripText a0).bind kx := by
  unfold g_impl_stripText t_impl_stripText
  exact nat_bind fun _ => nat_bind fun _ => nat_exC ⟨fun _ => rfl, trivial⟩
abbrev as_impl_stripText : List AX := [.val true (.pair (.slice (.int .i64)) (.slice (.int .i64)))]
abbrev en_impl_stripText : ByteArray → AV × List CV := fun b => (.one ⟨false, [(.v (.string b))]⟩, [])
noncomputable abbrev k_impl_stripText : Contract := .fx as_impl_stripText (ByteArray) (fun z => g_impl_stripText z.1) en_impl_stripText
theorem r_impl_stripText (z : argsX as_impl_stripText) : runF (tab C0 T_impl_stripText) h_impl_stripText 1 Tryd.f19 (lentOf as_impl_stripText) (xBoxes as_impl_stripText z) (xVals as_impl_stripText 0 z) K2 = t_impl_stripText (fun b => some (en_impl_stripText b)) z.1 := by kernel_rfl
theorem so_impl_stripText : Sound C0 19 k_impl_stripText :=
  Sound.fx a_impl_stripText mixed Tryd.func19 (by kernel_rfl) (by kernel_rfl) h_impl_stripText 1 hs_impl_stripText (fun z => (r_impl_stripText z).trans (nat_impl_stripText _ z.1))

/-! ### F8 impl.StripText -/
noncomputable def T_impl_StripText : List (FuncId × Contract) := [(18, k_impl_ValidStrip), (19, k_impl_stripText)]
theorem a_impl_StripText : AllSound C0 T_impl_StripText := .cons so_impl_ValidStrip (.cons so_impl_stripText (.nil))
noncomputable def t_impl_StripText {R : Type} (kx : ByteArray → Option R) (a0 : ((List Int) × (List Int))) : Option R :=
  Option.bind (g_impl_ValidStrip a0) fun y116 =>
  cond (!y116)
  (kx (ByteArray.mk (Array.mk [])))
  (Option.bind (g_impl_stripText a0) fun y133 =>
   kx y133)
noncomputable def g_impl_StripText (a0 : ((List Int) × (List Int))) : Option (ByteArray) := t_impl_StripText some a0
theorem nat_impl_StripText {R : Type} (kx : ByteArray → Option R) (a0 : ((List Int) × (List Int))) : t_impl_StripText kx a0 = (g_impl_StripText a0).bind kx := by
  unfold g_impl_StripText t_impl_StripText
  exact nat_bind fun _ => nat_cond (rfl) (nat_bind fun _ => rfl)
abbrev as_impl_StripText : List AX := [.val true (.pair (.slice (.int .i64)) (.slice (.int .i64)))]
abbrev en_impl_StripText : ByteArray → AV × List CV := fun b => (.one ⟨false, [(.v (.string b))]⟩, [])
noncomputable abbrev k_impl_StripText : Contract := .fx as_impl_StripText (ByteArray) (fun z => g_impl_StripText z.1) en_impl_StripText
theorem r_impl_StripText (z : argsX as_impl_StripText) : runF (tab C0 T_impl_StripText) noHints 1 Tryd.f8 (lentOf as_impl_StripText) (xBoxes as_impl_StripText z) (xVals as_impl_StripText 0 z) K2 = t_impl_StripText (fun b => some (en_impl_StripText b)) z.1 := by kernel_rfl
theorem so_impl_StripText : Sound C0 8 k_impl_StripText :=
  Sound.fx a_impl_StripText mixed Tryd.func8 (by kernel_rfl) (by kernel_rfl) noHints 1 noHints_ok (fun z => (r_impl_StripText z).trans (nat_impl_StripText _ z.1))

/-! ### F20 laws.eqInt64S -/
noncomputable def T_laws_eqInt64S : List (FuncId × Contract) := []
theorem a_laws_eqInt64S : AllSound C0 T_laws_eqInt64S := .nil
abbrev s_laws_eqInt64S_5 : LS := ⟨[(false, [(.sl (.int .i64))]), (false, [(.sl (.int .i64))]), (false, [(.int .i64)])], [], []⟩
abbrev e_laws_eqInt64S_5_0 : LS := ⟨[(false, [.bool])], [], []⟩
abbrev d_laws_eqInt64S_5_0 (v0 : Bool) : e_laws_eqInt64S_5_0.T := (((v0, ()), ()), (), ())
abbrev e_laws_eqInt64S_5_1 : LS := ⟨[(false, [.undef])], [], []⟩
abbrev d_laws_eqInt64S_5_1 : e_laws_eqInt64S_5_1.T := ((((), ()), ()), (), ())
abbrev x_laws_eqInt64S_5 : List (Ex × LS) := [(.ret, e_laws_eqInt64S_5_0), (.exit 0, e_laws_eqInt64S_5_1)]
abbrev m_laws_eqInt64S_5 (x0 : List Int) (x1 : List Int) (x5 : Int) : s_laws_eqInt64S_5.T := (((x0, ()), (x1, ()), (x5, ()), ()), (), ())
noncomputable def u_laws_eqInt64S_5 {R : Type} (nx : s_laws_eqInt64S_5.T → Option R) (hx : exH R x_laws_eqInt64S_5) (x0 : List Int) (x1 : List Int) (x5 : Int) : Option R :=
  cond (decide (x5 < (((List.length x0) : Nat) : Int)))
  (Option.bind (idx x0 x5) fun y143 =>
   Option.bind (idx x1 x5) fun y144 =>
   cond (y143 != y144)
   (hx.1 (d_laws_eqInt64S_5_0 Bool.false))
   (nx (m_laws_eqInt64S_5 x0 x1 (IntKind.wrap IntKind.i64 (x5 + (1 : Int))))))
  (hx.2.1 (d_laws_eqInt64S_5_1))
noncomputable def t_laws_eqInt64S_5 {R : Type} (nx : s_laws_eqInt64S_5.T → Option R) (hx : exH R x_laws_eqInt64S_5) (z : s_laws_eqInt64S_5.T) : Option R := u_laws_eqInt64S_5 nx hx z.1.1.1 z.1.2.1.1 z.1.2.2.1.1
theorem nat_laws_eqInt64S_5 : Natural @t_laws_eqInt64S_5 := fun R nx hx z => by
  show u_laws_eqInt64S_5 nx hx z.1.1.1 z.1.2.1.1 z.1.2.2.1.1 = (u_laws_eqInt64S_5 (fun y => some (.inl y)) (hIn x_laws_eqInt64S_5 fun x => some (.inr x)) z.1.1.1 z.1.2.1.1 z.1.2.2.1.1).bind (goOn nx hx)
  unfold u_laws_eqInt64S_5
  exact nat_cond (nat_bind fun _ => nat_bind fun _ => nat_cond (rfl) (rfl)) (rfl)
noncomputable def w_laws_eqInt64S_5 : s_laws_eqInt64S_5.T → Option (exT x_laws_eqInt64S_5) := wOf @t_laws_eqInt64S_5
theorem wq_laws_eqInt64S_5 (x0 : List Int) (x1 : List Int) (x5 : Int) : w_laws_eqInt64S_5 (m_laws_eqInt64S_5 x0 x1 x5) = u_laws_eqInt64S_5 w_laws_eqInt64S_5 (hIn x_laws_eqInt64S_5 some) x0 x1 x5 := wOf_eq nat_laws_eqInt64S_5 _
def lh_laws_eqInt64S_5 : LoopHint := ⟨[0, 1, 5], [], [4], []⟩
noncomputable def h_laws_eqInt64S : Hints Rv := ⟨fun k => match k with | 5 => lh_laws_eqInt64S_5 | _ => ⟨[], [], [], []⟩, fun k => match k with | 5 => some (loopX s_laws_eqInt64S_5 x_laws_eqInt64S_5 w_laws_eqInt64S_5) | _ => none⟩
theorem st_laws_eqInt64S_5 (n : Nat) (z : s_laws_eqInt64S_5.T) (k : Ex → Live → Option Rv) : loopN ⟨26, 26⟩ lh_laws_eqInt64S_5 (den (tab C0 T_laws_eqInt64S) ⟨26, 26⟩ h_laws_eqInt64S 1 (loopOf Tryd.f20 4)) (n + 1) (s_laws_eqInt64S_5.enc z) k =
    t_laws_eqInt64S_5 (fun y => loopN ⟨26, 26⟩ lh_laws_eqInt64S_5 (den (tab C0 T_laws_eqInt64S) ⟨26, 26⟩ h_laws_eqInt64S 1 (loopOf Tryd.f20 4)) n (s_laws_eqInt64S_5.enc y) k) (hK k x_laws_eqInt64S_5) z := by kernel_rfl
theorem hs_laws_eqInt64S : HintsOk (tab C0 T_laws_eqInt64S) ⟨26, 26⟩ h_laws_eqInt64S 1 (loops (codeOf Tryd.f20)) := by
  have hl : loops (codeOf Tryd.f20) = [loopOf Tryd.f20 4] := by kernel_rfl
  rw [hl]
  exact HintsOk.cons (n := 5) (lh := lh_laws_eqInt64S_5) (S := loopX s_laws_eqInt64S_5 x_laws_eqInt64S_5 w_laws_eqInt64S_5) (by kernel_rfl) rfl rfl (loopX_ok nat_laws_eqInt64S_5 st_laws_eqInt64S_5)
    (HintsOk.nil)
noncomputable def t_laws_eqInt64S {R : Type} (kx : Bool → Option R) (a0 : (List Int)) (a1 : (List Int)) : Option R :=
  cond ((((List.length a0) : Nat) : Int) != (((List.length a1) : Nat) : Int))
  (kx Bool.false)
  (Option.bind (w_laws_eqInt64S_5 (m_laws_eqInt64S_5 a0 a1 (0 : Int))) (exC x_laws_eqInt64S_5
   (fun e145 =>
    kx (e145.1.1.1 : Bool), fun _ =>
    kx Bool.true, ())))
noncomputable def g_laws_eqInt64S (a0 : (List Int)) (a1 : (List Int)) : Option (Bool) := t_laws_eqInt64S some a0 a1
theorem nat_laws_eqInt64S {R : Type} (kx : Bool → Option R) (a0 : (List Int)) (a1 : (List Int)) : t_laws_eqInt64S kx a0 a1 = (g_laws_eqInt64S a0 a1).bind kx := by
  unfold g_laws_eqInt64S t_laws_eqInt64S
  exact nat_cond (rfl) (nat_exC ⟨fun _ => rfl, fun _ => rfl, trivial⟩)
abbrev as_laws_eqInt64S : List AX := [.val false (.slice (.int .i64)), .val false (.slice (.int .i64))]
abbrev en_laws_eqInt64S : Bool → AV × List CV := fun b => (.one ⟨false, [(.v (.bool b))]⟩, [])
noncomputable abbrev k_laws_eqInt64S : Contract := .fx as_laws_eqInt64S (Bool) (fun z => g_laws_eqInt64S z.1 z.2.1) en_laws_eqInt64S
theorem r_laws_eqInt64S (z : argsX as_laws_eqInt64S) : runF (tab C0 T_laws_eqInt64S) h_laws_eqInt64S 1 Tryd.f20 (lentOf as_laws_eqInt64S) (xBoxes as_laws_eqInt64S z) (xVals as_laws_eqInt64S 0 z) K2 = t_laws_eqInt64S (fun b => some (en_laws_eqInt64S b)) z.1 z.2.1 := by kernel_rfl
theorem so_laws_eqInt64S : Sound C0 20 k_laws_eqInt64S :=
  Sound.fx a_laws_eqInt64S mixed Tryd.func20 (by kernel_rfl) (by kernel_rfl) h_laws_eqInt64S 1 hs_laws_eqInt64S (fun z => (r_laws_eqInt64S z).trans (nat_laws_eqInt64S _ z.1 z.2.1))

/-! ### F9 laws.eqStrip -/
noncomputable def T_laws_eqStrip : List (FuncId × Contract) := [(20, k_laws_eqInt64S)]
theorem a_laws_eqStrip : AllSound C0 T_laws_eqStrip := .cons so_laws_eqInt64S (.nil)
noncomputable def t_laws_eqStrip {R : Type} (kx : Bool → Option R) (a0 : ((List Int) × (List Int))) (a1 : ((List Int) × (List Int))) : Option R :=
  Option.bind (g_laws_eqInt64S a0.1 a1.1) fun y148 =>
  cond (!y148)
  (kx Bool.false)
  (Option.bind (g_laws_eqInt64S a0.2 a1.2) fun y149 =>
   cond (!y149)
   (kx Bool.false)
   (kx Bool.true))
noncomputable def g_laws_eqStrip (a0 : ((List Int) × (List Int))) (a1 : ((List Int) × (List Int))) : Option (Bool) := t_laws_eqStrip some a0 a1
theorem nat_laws_eqStrip {R : Type} (kx : Bool → Option R) (a0 : ((List Int) × (List Int))) (a1 : ((List Int) × (List Int))) : t_laws_eqStrip kx a0 a1 = (g_laws_eqStrip a0 a1).bind kx := by
  unfold g_laws_eqStrip t_laws_eqStrip
  exact nat_bind fun _ => nat_cond (rfl) (nat_bind fun _ => nat_cond (rfl) (rfl))
abbrev as_laws_eqStrip : List AX := [.val true (.pair (.slice (.int .i64)) (.slice (.int .i64))), .val true (.pair (.slice (.int .i64)) (.slice (.int .i64)))]
abbrev en_laws_eqStrip : Bool → AV × List CV := fun b => (.one ⟨false, [(.v (.bool b))]⟩, [])
noncomputable abbrev k_laws_eqStrip : Contract := .fx as_laws_eqStrip (Bool) (fun z => g_laws_eqStrip z.1 z.2.1) en_laws_eqStrip
theorem r_laws_eqStrip (z : argsX as_laws_eqStrip) : runF (tab C0 T_laws_eqStrip) noHints 1 Tryd.f9 (lentOf as_laws_eqStrip) (xBoxes as_laws_eqStrip z) (xVals as_laws_eqStrip 0 z) K2 = t_laws_eqStrip (fun b => some (en_laws_eqStrip b)) z.1 z.2.1 := by kernel_rfl
theorem so_laws_eqStrip : Sound C0 9 k_laws_eqStrip :=
  Sound.fx a_laws_eqStrip mixed Tryd.func9 (by kernel_rfl) (by kernel_rfl) noHints 1 noHints_ok (fun z => (r_laws_eqStrip z).trans (nat_laws_eqStrip _ z.1 z.2.1))

/-! ### F3 laws.FnExactStripText -/
noncomputable def T_laws_FnExactStripText : List (FuncId × Contract) := [(5, k_laws_szStrip), (7, k_laws_toStrip), (6, k_spec_StripText), (8, k_impl_StripText), (9, k_laws_eqStrip)]
theorem a_laws_FnExactStripText : AllSound C0 T_laws_FnExactStripText := .cons so_laws_szStrip (.cons so_laws_toStrip (.cons so_spec_StripText (.cons so_impl_StripText (.cons so_laws_eqStrip (.nil)))))
noncomputable def t_laws_FnExactStripText {R : Type} (kx : Bool → Option R) (a0 : ((List Int) × (List Int))) : Option R :=
  Option.bind (g_laws_szStrip a0 (1048576 : Int)) fun y7 =>
  cond (decide (y7 < (0 : Int)))
  (kx Bool.true)
  (Option.bind (g_laws_toStrip a0) fun y19 =>
   Option.bind (g_spec_StripText y19) fun y67 =>
   Option.bind (g_laws_toStrip a0) fun y68 =>
   Option.bind (g_impl_StripText y68) fun y134 =>
   cond (!((ByteArray.toList y134) == (ByteArray.toList y67)))
   (kx Bool.false)
   (Option.bind (g_laws_toStrip a0) fun y135 =>
    Option.bind (g_laws_eqStrip y68 y135) fun y150 =>
    cond (!y150)
    (kx Bool.false)
    (kx Bool.true)))
noncomputable def g_laws_FnExactStripText (a0 : ((List Int) × (List Int))) : Option (Bool) := t_laws_FnExactStripText some a0
theorem nat_laws_FnExactStripText {R : Type} (kx : Bool → Option R) (a0 : ((List Int) × (List Int))) : t_laws_FnExactStripText kx a0 = (g_laws_FnExactStripText a0).bind kx := by
  unfold g_laws_FnExactStripText t_laws_FnExactStripText
  exact nat_bind fun _ => nat_cond (rfl) (nat_bind fun _ => nat_bind fun _ => nat_bind fun _ => nat_bind fun _ => nat_cond (rfl) (nat_bind fun _ => nat_bind fun _ => nat_cond (rfl) (rfl)))
abbrev as_laws_FnExactStripText : List AX := [.val true (.pair (.slice (.int .i64)) (.slice (.int .i64)))]
abbrev en_laws_FnExactStripText : Bool → AV × List CV := fun b => (.one ⟨false, [(.v (.bool b))]⟩, [])
noncomputable abbrev k_laws_FnExactStripText : Contract := .fx as_laws_FnExactStripText (Bool) (fun z => g_laws_FnExactStripText z.1) en_laws_FnExactStripText
theorem r_laws_FnExactStripText (z : argsX as_laws_FnExactStripText) : runF (tab C0 T_laws_FnExactStripText) noHints 1 Tryd.f3 (lentOf as_laws_FnExactStripText) (xBoxes as_laws_FnExactStripText z) (xVals as_laws_FnExactStripText 0 z) K2 = t_laws_FnExactStripText (fun b => some (en_laws_FnExactStripText b)) z.1 := by kernel_rfl
theorem so_laws_FnExactStripText : Sound C0 3 k_laws_FnExactStripText :=
  Sound.fx a_laws_FnExactStripText mixed Tryd.func3 (by kernel_rfl) (by kernel_rfl) noHints 1 noHints_ok (fun z => (r_laws_FnExactStripText z).trans (nat_laws_FnExactStripText _ z.1))

end Go.Proofs.YtjfgddmngnkfdaaDoor
