/- What the functions that StartItems reaches compute, printed. No conditions. -/
import Derived.Test.YtooaomcmhgpbpaaDoorW1F
namespace Go.Proofs.YtooaomcmhgpbpaaDoor
open Go.Vai
set_option maxRecDepth 100000

/-! ### F35 spec.l00In -/
noncomputable def T_spec_l00In : List (FuncId × Contract) := []
theorem a_spec_l00In : AllSound C0 T_spec_l00In := .nil
noncomputable def t_spec_l00In {R : Type} (kx : Bool → Option R) (a0 : Int) (a1 : Int) (a2 : Int) : Option R :=
  cond (decide (a0 ≥ a1))
  (kx (decide (a0 ≤ a2)))
  (kx Bool.false)
noncomputable def g_spec_l00In (a0 : Int) (a1 : Int) (a2 : Int) : Option (Bool) := t_spec_l00In some a0 a1 a2
theorem nat_spec_l00In {R : Type} (kx : Bool → Option R) (a0 : Int) (a1 : Int) (a2 : Int) : t_spec_l00In kx a0 a1 a2 = (g_spec_l00In a0 a1 a2).bind kx := by
  unfold g_spec_l00In t_spec_l00In
  exact nat_cond (rfl) (rfl)
abbrev as_spec_l00In : List AX := [.val false (.int .i64), .val false (.int .i64), .val false (.int .i64)]
abbrev en_spec_l00In : Bool → AV × List CV := fun b => (.one ⟨false, [(.v (.bool b))]⟩, [])
noncomputable abbrev k_spec_l00In : Contract := .fx as_spec_l00In (Bool) (fun z => g_spec_l00In z.1 z.2.1 z.2.2.1) en_spec_l00In
theorem r_spec_l00In (z : argsX as_spec_l00In) : runF (tab C0 T_spec_l00In) noHints 1 Tryd.f35 (lentOf as_spec_l00In) (xBoxes as_spec_l00In z) (xVals as_spec_l00In 0 z) K2 = t_spec_l00In (fun b => some (en_spec_l00In b)) z.1 z.2.1 z.2.2.1 := by kernel_rfl
theorem so_spec_l00In : Sound C0 35 k_spec_l00In :=
  Sound.fx a_spec_l00In mixed Tryd.func35 (by kernel_rfl) (by kernel_rfl) noHints 1 noHints_ok (fun z => (r_spec_l00In z).trans (nat_spec_l00In _ z.1 z.2.1 z.2.2.1))

/-! ### F79 spec.l03Square -/
noncomputable def T_spec_l03Square : List (FuncId × Contract) := []
theorem a_spec_l03Square : AllSound C0 T_spec_l03Square := .nil
noncomputable def t_spec_l03Square {R : Type} (kx : (List ((Int × (Int × Int)) × (Int × (Int × Int)))) → Option R) (a0 : Int) : Option R :=
  kx [(((0 : Int), ((0 : Int), (0 : Int))), ((0 : Int), ((0 : Int), (0 : Int)))), ((a0, ((0 : Int), (0 : Int))), ((0 : Int), ((0 : Int), (0 : Int)))), ((a0, ((0 : Int), (0 : Int))), (a0, ((0 : Int), (0 : Int)))), (((0 : Int), ((0 : Int), (0 : Int))), (a0, ((0 : Int), (0 : Int))))]
noncomputable def g_spec_l03Square (a0 : Int) : Option ((List ((Int × (Int × Int)) × (Int × (Int × Int))))) := t_spec_l03Square some a0
theorem nat_spec_l03Square {R : Type} (kx : (List ((Int × (Int × Int)) × (Int × (Int × Int)))) → Option R) (a0 : Int) : t_spec_l03Square kx a0 = (g_spec_l03Square a0).bind kx := by
  unfold g_spec_l03Square t_spec_l03Square
  exact rfl
abbrev as_spec_l03Square : List AX := [.val false (.int .i64)]
abbrev en_spec_l03Square : (List ((Int × (Int × Int)) × (Int × (Int × Int)))) → AV × List CV := fun b => (.one ⟨false, [(.own (.pair (.pair (.int .i64) (.pair (.int .i64) (.int .i64))) (.pair (.int .i64) (.pair (.int .i64) (.int .i64)))) b)]⟩, [])
noncomputable abbrev k_spec_l03Square : Contract := .fx as_spec_l03Square ((List ((Int × (Int × Int)) × (Int × (Int × Int))))) (fun z => g_spec_l03Square z.1) en_spec_l03Square
theorem r_spec_l03Square (z : argsX as_spec_l03Square) : runF (tab C0 T_spec_l03Square) noHints 1 Tryd.f79 (lentOf as_spec_l03Square) (xBoxes as_spec_l03Square z) (xVals as_spec_l03Square 0 z) K2 = t_spec_l03Square (fun b => some (en_spec_l03Square b)) z.1 := by kernel_rfl
theorem so_spec_l03Square : Sound C0 79 k_spec_l03Square :=
  Sound.fx a_spec_l03Square mixed Tryd.func79 (by kernel_rfl) (by kernel_rfl) noHints 1 noHints_ok (fun z => (r_spec_l03Square z).trans (nat_spec_l03Square _ z.1))

/-! ### F84 spec.l01Ok -/
noncomputable def T_spec_l01Ok : List (FuncId × Contract) := [(35, k_spec_l00In)]
theorem a_spec_l01Ok : AllSound C0 T_spec_l01Ok := .cons so_spec_l00In (.nil)
noncomputable def t_spec_l01Ok {R : Type} (kx : Bool → Option R) (a0 : (Int × (Int × Int))) : Option R :=
  Option.bind (g_spec_l00In a0.1 (-(131072 : Int)) (131072 : Int)) fun y29 =>
  cond (!y29)
  (kx Bool.false)
  (Option.bind (g_spec_l00In a0.2.1 (-(131072 : Int)) (131072 : Int)) fun y30 =>
   cond (!y30)
   (kx Bool.false)
   (Option.bind (g_spec_l00In a0.2.2 (0 : Int) (10 : Int)) fun y31 =>
    cond (!y31)
    (kx Bool.false)
    (cond (a0.2.2 == (0 : Int))
     (kx Bool.true)
     (cond ((Int.tmod a0.1 (2 : Int)) != (0 : Int))
      (kx Bool.true)
      (kx ((Int.tmod a0.2.1 (2 : Int)) != (0 : Int)))))))
noncomputable def g_spec_l01Ok (a0 : (Int × (Int × Int))) : Option (Bool) := t_spec_l01Ok some a0
theorem nat_spec_l01Ok {R : Type} (kx : Bool → Option R) (a0 : (Int × (Int × Int))) : t_spec_l01Ok kx a0 = (g_spec_l01Ok a0).bind kx := by
  unfold g_spec_l01Ok t_spec_l01Ok
  exact nat_bind fun _ => nat_cond (rfl) (nat_bind fun _ => nat_cond (rfl) (nat_bind fun _ => nat_cond (rfl) (nat_cond (rfl) (nat_cond (rfl) (rfl)))))
abbrev as_spec_l01Ok : List AX := [.val true (.pair (.int .i64) (.pair (.int .i64) (.int .i64)))]
abbrev en_spec_l01Ok : Bool → AV × List CV := fun b => (.one ⟨false, [(.v (.bool b))]⟩, [])
noncomputable abbrev k_spec_l01Ok : Contract := .fx as_spec_l01Ok (Bool) (fun z => g_spec_l01Ok z.1) en_spec_l01Ok
theorem r_spec_l01Ok (z : argsX as_spec_l01Ok) : runF (tab C0 T_spec_l01Ok) noHints 1 Tryd.f84 (lentOf as_spec_l01Ok) (xBoxes as_spec_l01Ok z) (xVals as_spec_l01Ok 0 z) K2 = t_spec_l01Ok (fun b => some (en_spec_l01Ok b)) z.1 := by kernel_rfl
theorem so_spec_l01Ok : Sound C0 84 k_spec_l01Ok :=
  Sound.fx a_spec_l01Ok mixed Tryd.func84 (by kernel_rfl) (by kernel_rfl) noHints 1 noHints_ok (fun z => (r_spec_l01Ok z).trans (nat_spec_l01Ok _ z.1))

/-! ### F41 spec.l02Point -/
noncomputable def T_spec_l02Point : List (FuncId × Contract) := [(84, k_spec_l01Ok)]
theorem a_spec_l02Point : AllSound C0 T_spec_l02Point := .cons so_spec_l01Ok (.nil)
noncomputable def t_spec_l02Point {R : Type} (kx : Bool → Option R) (a0 : ((Int × (Int × Int)) × (Int × (Int × Int)))) : Option R :=
  Option.bind (g_spec_l01Ok a0.1) fun y32 =>
  cond y32
  (Option.bind (g_spec_l01Ok a0.2) fun y33 =>
   kx y33)
  (kx Bool.false)
noncomputable def g_spec_l02Point (a0 : ((Int × (Int × Int)) × (Int × (Int × Int)))) : Option (Bool) := t_spec_l02Point some a0
theorem nat_spec_l02Point {R : Type} (kx : Bool → Option R) (a0 : ((Int × (Int × Int)) × (Int × (Int × Int)))) : t_spec_l02Point kx a0 = (g_spec_l02Point a0).bind kx := by
  unfold g_spec_l02Point t_spec_l02Point
  exact nat_bind fun _ => nat_cond (nat_bind fun _ => rfl) (rfl)
abbrev as_spec_l02Point : List AX := [.val true (.pair (.pair (.int .i64) (.pair (.int .i64) (.int .i64))) (.pair (.int .i64) (.pair (.int .i64) (.int .i64))))]
abbrev en_spec_l02Point : Bool → AV × List CV := fun b => (.one ⟨false, [(.v (.bool b))]⟩, [])
noncomputable abbrev k_spec_l02Point : Contract := .fx as_spec_l02Point (Bool) (fun z => g_spec_l02Point z.1) en_spec_l02Point
theorem r_spec_l02Point (z : argsX as_spec_l02Point) : runF (tab C0 T_spec_l02Point) noHints 1 Tryd.f41 (lentOf as_spec_l02Point) (xBoxes as_spec_l02Point z) (xVals as_spec_l02Point 0 z) K2 = t_spec_l02Point (fun b => some (en_spec_l02Point b)) z.1 := by kernel_rfl
theorem so_spec_l02Point : Sound C0 41 k_spec_l02Point :=
  Sound.fx a_spec_l02Point mixed Tryd.func41 (by kernel_rfl) (by kernel_rfl) noHints 1 noHints_ok (fun z => (r_spec_l02Point z).trans (nat_spec_l02Point _ z.1))

/-! ### F90 spec.l01Of -/
noncomputable def T_spec_l01Of : List (FuncId × Contract) := []
theorem a_spec_l01Of : AllSound C0 T_spec_l01Of := .nil
noncomputable def t_spec_l01Of {R : Type} (kx : (Int × (Int × Int)) → Option R) (a0 : (Int × (Int × Int))) : Option R :=
  kx a0
noncomputable def g_spec_l01Of (a0 : (Int × (Int × Int))) : Option ((Int × (Int × Int))) := t_spec_l01Of some a0
theorem nat_spec_l01Of {R : Type} (kx : (Int × (Int × Int)) → Option R) (a0 : (Int × (Int × Int))) : t_spec_l01Of kx a0 = (g_spec_l01Of a0).bind kx := by
  unfold g_spec_l01Of t_spec_l01Of
  exact rfl
abbrev as_spec_l01Of : List AX := [.val true (.pair (.int .i64) (.pair (.int .i64) (.int .i64)))]
abbrev en_spec_l01Of : (Int × (Int × Int)) → AV × List CV := fun b => (.one ⟨true, [(.v (.int .i64 b.1)), (.v (.int .i64 b.2.1)), (.v (.int .i64 b.2.2))]⟩, [])
noncomputable abbrev k_spec_l01Of : Contract := .fx as_spec_l01Of ((Int × (Int × Int))) (fun z => g_spec_l01Of z.1) en_spec_l01Of
theorem r_spec_l01Of (z : argsX as_spec_l01Of) : runF (tab C0 T_spec_l01Of) noHints 1 Tryd.f90 (lentOf as_spec_l01Of) (xBoxes as_spec_l01Of z) (xVals as_spec_l01Of 0 z) K2 = t_spec_l01Of (fun b => some (en_spec_l01Of b)) z.1 := by kernel_rfl
theorem so_spec_l01Of : Sound C0 90 k_spec_l01Of :=
  Sound.fx a_spec_l01Of mixed Tryd.func90 (by kernel_rfl) (by kernel_rfl) noHints 1 noHints_ok (fun z => (r_spec_l01Of z).trans (nat_spec_l01Of _ z.1))

/-! ### F44 spec.l02Of -/
noncomputable def T_spec_l02Of : List (FuncId × Contract) := [(90, k_spec_l01Of)]
theorem a_spec_l02Of : AllSound C0 T_spec_l02Of := .cons so_spec_l01Of (.nil)
noncomputable def t_spec_l02Of {R : Type} (kx : ((Int × (Int × Int)) × (Int × (Int × Int))) → Option R) (a0 : ((Int × (Int × Int)) × (Int × (Int × Int)))) : Option R :=
  Option.bind (g_spec_l01Of a0.1) fun y38 =>
  Option.bind (g_spec_l01Of a0.2) fun y39 =>
  kx (y38, y39)
noncomputable def g_spec_l02Of (a0 : ((Int × (Int × Int)) × (Int × (Int × Int)))) : Option (((Int × (Int × Int)) × (Int × (Int × Int)))) := t_spec_l02Of some a0
theorem nat_spec_l02Of {R : Type} (kx : ((Int × (Int × Int)) × (Int × (Int × Int))) → Option R) (a0 : ((Int × (Int × Int)) × (Int × (Int × Int)))) : t_spec_l02Of kx a0 = (g_spec_l02Of a0).bind kx := by
  unfold g_spec_l02Of t_spec_l02Of
  exact nat_bind fun _ => nat_bind fun _ => rfl
abbrev as_spec_l02Of : List AX := [.val true (.pair (.pair (.int .i64) (.pair (.int .i64) (.int .i64))) (.pair (.int .i64) (.pair (.int .i64) (.int .i64))))]
abbrev en_spec_l02Of : ((Int × (Int × Int)) × (Int × (Int × Int))) → AV × List CV := fun b => (.one ⟨true, [(.v (.int .i64 b.1.1)), (.v (.int .i64 b.1.2.1)), (.v (.int .i64 b.1.2.2)), (.v (.int .i64 b.2.1)), (.v (.int .i64 b.2.2.1)), (.v (.int .i64 b.2.2.2))]⟩, [])
noncomputable abbrev k_spec_l02Of : Contract := .fx as_spec_l02Of (((Int × (Int × Int)) × (Int × (Int × Int)))) (fun z => g_spec_l02Of z.1) en_spec_l02Of
theorem r_spec_l02Of (z : argsX as_spec_l02Of) : runF (tab C0 T_spec_l02Of) noHints 1 Tryd.f44 (lentOf as_spec_l02Of) (xBoxes as_spec_l02Of z) (xVals as_spec_l02Of 0 z) K2 = t_spec_l02Of (fun b => some (en_spec_l02Of b)) z.1 := by kernel_rfl
theorem so_spec_l02Of : Sound C0 44 k_spec_l02Of :=
  Sound.fx a_spec_l02Of mixed Tryd.func44 (by kernel_rfl) (by kernel_rfl) noHints 1 noHints_ok (fun z => (r_spec_l02Of z).trans (nat_spec_l02Of _ z.1))

/-! ### F91 spec.l01Neg -/
noncomputable def T_spec_l01Neg : List (FuncId × Contract) := []
theorem a_spec_l01Neg : AllSound C0 T_spec_l01Neg := .nil
noncomputable def t_spec_l01Neg {R : Type} (kx : (Int × (Int × Int)) → Option R) (a0 : (Int × (Int × Int))) : Option R :=
  kx ((IntKind.wrap IntKind.i64 ((0 : Int) - a0.1)), ((IntKind.wrap IntKind.i64 ((0 : Int) - a0.2.1)), a0.2.2))
noncomputable def g_spec_l01Neg (a0 : (Int × (Int × Int))) : Option ((Int × (Int × Int))) := t_spec_l01Neg some a0
theorem nat_spec_l01Neg {R : Type} (kx : (Int × (Int × Int)) → Option R) (a0 : (Int × (Int × Int))) : t_spec_l01Neg kx a0 = (g_spec_l01Neg a0).bind kx := by
  unfold g_spec_l01Neg t_spec_l01Neg
  exact rfl
abbrev as_spec_l01Neg : List AX := [.val true (.pair (.int .i64) (.pair (.int .i64) (.int .i64)))]
abbrev en_spec_l01Neg : (Int × (Int × Int)) → AV × List CV := fun b => (.one ⟨true, [(.v (.int .i64 b.1)), (.v (.int .i64 b.2.1)), (.v (.int .i64 b.2.2))]⟩, [])
noncomputable abbrev k_spec_l01Neg : Contract := .fx as_spec_l01Neg ((Int × (Int × Int))) (fun z => g_spec_l01Neg z.1) en_spec_l01Neg
theorem r_spec_l01Neg (z : argsX as_spec_l01Neg) : runF (tab C0 T_spec_l01Neg) noHints 1 Tryd.f91 (lentOf as_spec_l01Neg) (xBoxes as_spec_l01Neg z) (xVals as_spec_l01Neg 0 z) K2 = t_spec_l01Neg (fun b => some (en_spec_l01Neg b)) z.1 := by kernel_rfl
theorem so_spec_l01Neg : Sound C0 91 k_spec_l01Neg :=
  Sound.fx a_spec_l01Neg mixed Tryd.func91 (by kernel_rfl) (by kernel_rfl) noHints 1 noHints_ok (fun z => (r_spec_l01Neg z).trans (nat_spec_l01Neg _ z.1))

/-! ### F114 spec.l01Low -/
noncomputable def T_spec_l01Low : List (FuncId × Contract) := []
theorem a_spec_l01Low : AllSound C0 T_spec_l01Low := .nil
abbrev s_spec_l01Low_4 : LS := ⟨[(false, [(.ptr 1 0)]), (false, [(.ptr 2 0)])], [(false, [(.int .i64), (.int .i64), (.int .i64)]), (false, [(.int .i64), (.int .i64), (.int .i64)])], []⟩
abbrev e_spec_l01Low_4_0 : LS := ⟨[(false, [(.ptr 1 0)]), (false, [(.ptr 2 0)])], [(false, [(.int .i64), (.int .i64), (.int .i64)]), (false, [(.int .i64), (.int .i64), (.int .i64)])], []⟩
abbrev d_spec_l01Low_4_0 (v0 : Int) (v1 : Int) (v2 : Int) (v3 : Int) (v4 : Int) (v5 : Int) : e_spec_l01Low_4_0.T := ((((), ()), ((), ()), ()), ((v0, v1, v2, ()), (v3, v4, v5, ()), ()), ())
abbrev x_spec_l01Low_4 : List (Ex × LS) := [(.exit 0, e_spec_l01Low_4_0)]
abbrev m_spec_l01Low_4 (b0_0 : Int) (b0_1 : Int) (b0_2 : Int) (b1_0 : Int) (b1_1 : Int) (b1_2 : Int) : s_spec_l01Low_4.T := ((((), ()), ((), ()), ()), ((b0_0, b0_1, b0_2, ()), (b1_0, b1_1, b1_2, ()), ()), ())
noncomputable def u_spec_l01Low_4 {R : Type} (nx : s_spec_l01Low_4.T → Option R) (hx : exH R x_spec_l01Low_4) (b0_0 : Int) (b0_1 : Int) (b0_2 : Int) (b1_0 : Int) (b1_1 : Int) (b1_2 : Int) : Option R :=
  cond (decide (b0_2 > (0 : Int)))
  (cond ((Int.tmod b0_0 (2 : Int)) == (0 : Int))
   (cond ((Int.tmod b0_1 (2 : Int)) == (0 : Int))
    (nx (m_spec_l01Low_4 (IntKind.wrap IntKind.i64 (Int.tdiv b0_0 (2 : Int))) (IntKind.wrap IntKind.i64 (Int.tdiv b0_1 (2 : Int))) (IntKind.wrap IntKind.i64 (b0_2 - (1 : Int))) b1_0 b1_1 b1_2))
    (hx.1 (d_spec_l01Low_4_0 b0_0 b0_1 b0_2 b1_0 b1_1 b1_2)))
   (hx.1 (d_spec_l01Low_4_0 b0_0 b0_1 b0_2 b1_0 b1_1 b1_2)))
  (hx.1 (d_spec_l01Low_4_0 b0_0 b0_1 b0_2 b1_0 b1_1 b1_2))
noncomputable def t_spec_l01Low_4 {R : Type} (nx : s_spec_l01Low_4.T → Option R) (hx : exH R x_spec_l01Low_4) (z : s_spec_l01Low_4.T) : Option R := u_spec_l01Low_4 nx hx z.2.1.1.1 z.2.1.1.2.1 z.2.1.1.2.2.1 z.2.1.2.1.1 z.2.1.2.1.2.1 z.2.1.2.1.2.2.1
theorem nat_spec_l01Low_4 : Natural @t_spec_l01Low_4 := fun R nx hx z => by
  show u_spec_l01Low_4 nx hx z.2.1.1.1 z.2.1.1.2.1 z.2.1.1.2.2.1 z.2.1.2.1.1 z.2.1.2.1.2.1 z.2.1.2.1.2.2.1 = (u_spec_l01Low_4 (fun y => some (.inl y)) (hIn x_spec_l01Low_4 fun x => some (.inr x)) z.2.1.1.1 z.2.1.1.2.1 z.2.1.1.2.2.1 z.2.1.2.1.1 z.2.1.2.1.2.1 z.2.1.2.1.2.2.1).bind (goOn nx hx)
  unfold u_spec_l01Low_4
  exact nat_cond (nat_cond (nat_cond (rfl) (rfl)) (rfl)) (rfl)
noncomputable def w_spec_l01Low_4 : s_spec_l01Low_4.T → Option (exT x_spec_l01Low_4) := wOf @t_spec_l01Low_4
theorem wq_spec_l01Low_4 (b0_0 : Int) (b0_1 : Int) (b0_2 : Int) (b1_0 : Int) (b1_1 : Int) (b1_2 : Int) : w_spec_l01Low_4 (m_spec_l01Low_4 b0_0 b0_1 b0_2 b1_0 b1_1 b1_2) = u_spec_l01Low_4 w_spec_l01Low_4 (hIn x_spec_l01Low_4 some) b0_0 b0_1 b0_2 b1_0 b1_1 b1_2 := wOf_eq nat_spec_l01Low_4 _
def lh_spec_l01Low_4 : LoopHint := ⟨[1, 2], [1, 2], [1, 2], [1, 2]⟩
noncomputable def h_spec_l01Low : Hints Rv := ⟨fun k => match k with | 4 => lh_spec_l01Low_4 | _ => ⟨[], [], [], []⟩, fun k => match k with | 4 => some (loopX s_spec_l01Low_4 x_spec_l01Low_4 w_spec_l01Low_4) | _ => none⟩
theorem st_spec_l01Low_4 (n : Nat) (z : s_spec_l01Low_4.T) (k : Ex → Live → Option Rv) : loopN ⟨40, 40⟩ lh_spec_l01Low_4 (den (tab C0 T_spec_l01Low) ⟨40, 40⟩ h_spec_l01Low 1 (loopOf Tryd.f114 3)) (n + 1) (s_spec_l01Low_4.enc z) k =
    t_spec_l01Low_4 (fun y => loopN ⟨40, 40⟩ lh_spec_l01Low_4 (den (tab C0 T_spec_l01Low) ⟨40, 40⟩ h_spec_l01Low 1 (loopOf Tryd.f114 3)) n (s_spec_l01Low_4.enc y) k) (hK k x_spec_l01Low_4) z := by kernel_rfl
theorem hs_spec_l01Low : HintsOk (tab C0 T_spec_l01Low) ⟨40, 40⟩ h_spec_l01Low 1 (loops (codeOf Tryd.f114)) := by
  have hl : loops (codeOf Tryd.f114) = [loopOf Tryd.f114 3] := by kernel_rfl
  rw [hl]
  exact HintsOk.cons (n := 4) (lh := lh_spec_l01Low_4) (S := loopX s_spec_l01Low_4 x_spec_l01Low_4 w_spec_l01Low_4) (by kernel_rfl) rfl rfl (loopX_ok nat_spec_l01Low_4 st_spec_l01Low_4)
    (HintsOk.nil)
noncomputable def t_spec_l01Low {R : Type} (kx : (Int × (Int × Int)) → Option R) (a0 : (Int × (Int × Int))) : Option R :=
  cond (a0.1 == (0 : Int))
  (cond (a0.2.1 == (0 : Int))
   (kx ((0 : Int), ((0 : Int), (0 : Int))))
   (Option.bind (w_spec_l01Low_4 (m_spec_l01Low_4 a0.1 a0.2.1 a0.2.2 (0 : Int) (0 : Int) (0 : Int))) (exC x_spec_l01Low_4
    (fun e95 =>
     kx ((e95.2.1.1.1 : Int), ((e95.2.1.1.2.1 : Int), (e95.2.1.1.2.2.1 : Int))), ()))))
  (Option.bind (w_spec_l01Low_4 (m_spec_l01Low_4 a0.1 a0.2.1 a0.2.2 (0 : Int) (0 : Int) (0 : Int))) (exC x_spec_l01Low_4
   (fun e102 =>
    kx ((e102.2.1.1.1 : Int), ((e102.2.1.1.2.1 : Int), (e102.2.1.1.2.2.1 : Int))), ())))
noncomputable def g_spec_l01Low (a0 : (Int × (Int × Int))) : Option ((Int × (Int × Int))) := t_spec_l01Low some a0
theorem nat_spec_l01Low {R : Type} (kx : (Int × (Int × Int)) → Option R) (a0 : (Int × (Int × Int))) : t_spec_l01Low kx a0 = (g_spec_l01Low a0).bind kx := by
  unfold g_spec_l01Low t_spec_l01Low
  exact nat_cond (nat_cond (rfl) (nat_exC ⟨fun _ => rfl, trivial⟩)) (nat_exC ⟨fun _ => rfl, trivial⟩)
abbrev as_spec_l01Low : List AX := [.val true (.pair (.int .i64) (.pair (.int .i64) (.int .i64)))]
abbrev en_spec_l01Low : (Int × (Int × Int)) → AV × List CV := fun b => (.one ⟨true, [(.v (.int .i64 b.1)), (.v (.int .i64 b.2.1)), (.v (.int .i64 b.2.2))]⟩, [])
noncomputable abbrev k_spec_l01Low : Contract := .fx as_spec_l01Low ((Int × (Int × Int))) (fun z => g_spec_l01Low z.1) en_spec_l01Low
theorem r_spec_l01Low (z : argsX as_spec_l01Low) : runF (tab C0 T_spec_l01Low) h_spec_l01Low 1 Tryd.f114 (lentOf as_spec_l01Low) (xBoxes as_spec_l01Low z) (xVals as_spec_l01Low 0 z) K2 = t_spec_l01Low (fun b => some (en_spec_l01Low b)) z.1 := by kernel_rfl
theorem so_spec_l01Low : Sound C0 114 k_spec_l01Low :=
  Sound.fx a_spec_l01Low mixed Tryd.func114 (by kernel_rfl) (by kernel_rfl) h_spec_l01Low 1 hs_spec_l01Low (fun z => (r_spec_l01Low z).trans (nat_spec_l01Low _ z.1))

/-! ### F61 spec.l01Add -/
noncomputable def T_spec_l01Add : List (FuncId × Contract) := [(114, k_spec_l01Low)]
theorem a_spec_l01Add : AllSound C0 T_spec_l01Add := .cons so_spec_l01Low (.nil)
abbrev s_spec_l01Add_2 : LS := ⟨[(false, [(.ptr 2 0)]), (false, [(.ptr 3 0)]), (false, [(.ptr 4 0)])], [(false, [(.int .i64), (.int .i64), (.int .i64)]), (false, [(.int .i64), (.int .i64), (.int .i64)]), (false, [(.int .i64), (.int .i64), (.int .i64)])], []⟩
abbrev e_spec_l01Add_2_0 : LS := ⟨[(false, [(.ptr 2 0)]), (false, [(.ptr 3 0)]), (false, [(.ptr 4 0)])], [(false, [(.int .i64), (.int .i64), (.int .i64)]), (false, [(.int .i64), (.int .i64), (.int .i64)]), (false, [(.int .i64), (.int .i64), (.int .i64)])], []⟩
abbrev d_spec_l01Add_2_0 (v0 : Int) (v1 : Int) (v2 : Int) (v3 : Int) (v4 : Int) (v5 : Int) (v6 : Int) (v7 : Int) (v8 : Int) : e_spec_l01Add_2_0.T := ((((), ()), ((), ()), ((), ()), ()), ((v0, v1, v2, ()), (v3, v4, v5, ()), (v6, v7, v8, ()), ()), ())
abbrev x_spec_l01Add_2 : List (Ex × LS) := [(.exit 0, e_spec_l01Add_2_0)]
abbrev m_spec_l01Add_2 (b0_0 : Int) (b0_1 : Int) (b0_2 : Int) (b1_0 : Int) (b1_1 : Int) (b1_2 : Int) (b2_0 : Int) (b2_1 : Int) (b2_2 : Int) : s_spec_l01Add_2.T := ((((), ()), ((), ()), ((), ()), ()), ((b0_0, b0_1, b0_2, ()), (b1_0, b1_1, b1_2, ()), (b2_0, b2_1, b2_2, ()), ()), ())
noncomputable def u_spec_l01Add_2 {R : Type} (nx : s_spec_l01Add_2.T → Option R) (hx : exH R x_spec_l01Add_2) (b0_0 : Int) (b0_1 : Int) (b0_2 : Int) (b1_0 : Int) (b1_1 : Int) (b1_2 : Int) (b2_0 : Int) (b2_1 : Int) (b2_2 : Int) : Option R :=
  cond (decide (b0_2 < b1_2))
  (nx (m_spec_l01Add_2 (IntKind.wrap IntKind.i64 (b0_0 * (2 : Int))) (IntKind.wrap IntKind.i64 (b0_1 * (2 : Int))) (IntKind.wrap IntKind.i64 (b0_2 + (1 : Int))) b1_0 b1_1 b1_2 b2_0 b2_1 b2_2))
  (hx.1 (d_spec_l01Add_2_0 b0_0 b0_1 b0_2 b1_0 b1_1 b1_2 b2_0 b2_1 b2_2))
noncomputable def t_spec_l01Add_2 {R : Type} (nx : s_spec_l01Add_2.T → Option R) (hx : exH R x_spec_l01Add_2) (z : s_spec_l01Add_2.T) : Option R := u_spec_l01Add_2 nx hx z.2.1.1.1 z.2.1.1.2.1 z.2.1.1.2.2.1 z.2.1.2.1.1 z.2.1.2.1.2.1 z.2.1.2.1.2.2.1 z.2.1.2.2.1.1 z.2.1.2.2.1.2.1 z.2.1.2.2.1.2.2.1
theorem nat_spec_l01Add_2 : Natural @t_spec_l01Add_2 := fun R nx hx z => by
  show u_spec_l01Add_2 nx hx z.2.1.1.1 z.2.1.1.2.1 z.2.1.1.2.2.1 z.2.1.2.1.1 z.2.1.2.1.2.1 z.2.1.2.1.2.2.1 z.2.1.2.2.1.1 z.2.1.2.2.1.2.1 z.2.1.2.2.1.2.2.1 = (u_spec_l01Add_2 (fun y => some (.inl y)) (hIn x_spec_l01Add_2 fun x => some (.inr x)) z.2.1.1.1 z.2.1.1.2.1 z.2.1.1.2.2.1 z.2.1.2.1.1 z.2.1.2.1.2.1 z.2.1.2.1.2.2.1 z.2.1.2.2.1.1 z.2.1.2.2.1.2.1 z.2.1.2.2.1.2.2.1).bind (goOn nx hx)
  unfold u_spec_l01Add_2
  exact nat_cond (rfl) (rfl)
noncomputable def w_spec_l01Add_2 : s_spec_l01Add_2.T → Option (exT x_spec_l01Add_2) := wOf @t_spec_l01Add_2
theorem wq_spec_l01Add_2 (b0_0 : Int) (b0_1 : Int) (b0_2 : Int) (b1_0 : Int) (b1_1 : Int) (b1_2 : Int) (b2_0 : Int) (b2_1 : Int) (b2_2 : Int) : w_spec_l01Add_2 (m_spec_l01Add_2 b0_0 b0_1 b0_2 b1_0 b1_1 b1_2 b2_0 b2_1 b2_2) = u_spec_l01Add_2 w_spec_l01Add_2 (hIn x_spec_l01Add_2 some) b0_0 b0_1 b0_2 b1_0 b1_1 b1_2 b2_0 b2_1 b2_2 := wOf_eq nat_spec_l01Add_2 _
def lh_spec_l01Add_2 : LoopHint := ⟨[2, 3, 4], [2, 3, 4], [2, 3, 4], [2, 3, 4]⟩
abbrev s_spec_l01Add_6 : LS := ⟨[(false, [(.ptr 2 0)]), (false, [(.ptr 3 0)]), (false, [(.ptr 4 0)])], [(false, [(.int .i64), (.int .i64), (.int .i64)]), (false, [(.int .i64), (.int .i64), (.int .i64)]), (false, [(.int .i64), (.int .i64), (.int .i64)])], []⟩
abbrev e_spec_l01Add_6_0 : LS := ⟨[(false, [(.ptr 2 0)]), (false, [(.ptr 3 0)]), (false, [(.ptr 4 0)])], [(false, [(.int .i64), (.int .i64), (.int .i64)]), (false, [(.int .i64), (.int .i64), (.int .i64)]), (false, [(.int .i64), (.int .i64), (.int .i64)])], []⟩
abbrev d_spec_l01Add_6_0 (v0 : Int) (v1 : Int) (v2 : Int) (v3 : Int) (v4 : Int) (v5 : Int) (v6 : Int) (v7 : Int) (v8 : Int) : e_spec_l01Add_6_0.T := ((((), ()), ((), ()), ((), ()), ()), ((v0, v1, v2, ()), (v3, v4, v5, ()), (v6, v7, v8, ()), ()), ())
abbrev x_spec_l01Add_6 : List (Ex × LS) := [(.exit 2, e_spec_l01Add_6_0)]
abbrev m_spec_l01Add_6 (b0_0 : Int) (b0_1 : Int) (b0_2 : Int) (b1_0 : Int) (b1_1 : Int) (b1_2 : Int) (b2_0 : Int) (b2_1 : Int) (b2_2 : Int) : s_spec_l01Add_6.T := ((((), ()), ((), ()), ((), ()), ()), ((b0_0, b0_1, b0_2, ()), (b1_0, b1_1, b1_2, ()), (b2_0, b2_1, b2_2, ()), ()), ())
noncomputable def u_spec_l01Add_6 {R : Type} (nx : s_spec_l01Add_6.T → Option R) (hx : exH R x_spec_l01Add_6) (b0_0 : Int) (b0_1 : Int) (b0_2 : Int) (b1_0 : Int) (b1_1 : Int) (b1_2 : Int) (b2_0 : Int) (b2_1 : Int) (b2_2 : Int) : Option R :=
  cond (decide (b1_2 < b0_2))
  (nx (m_spec_l01Add_6 b0_0 b0_1 b0_2 (IntKind.wrap IntKind.i64 (b1_0 * (2 : Int))) (IntKind.wrap IntKind.i64 (b1_1 * (2 : Int))) (IntKind.wrap IntKind.i64 (b1_2 + (1 : Int))) b2_0 b2_1 b2_2))
  (hx.1 (d_spec_l01Add_6_0 b0_0 b0_1 b0_2 b1_0 b1_1 b1_2 b2_0 b2_1 b2_2))
noncomputable def t_spec_l01Add_6 {R : Type} (nx : s_spec_l01Add_6.T → Option R) (hx : exH R x_spec_l01Add_6) (z : s_spec_l01Add_6.T) : Option R := u_spec_l01Add_6 nx hx z.2.1.1.1 z.2.1.1.2.1 z.2.1.1.2.2.1 z.2.1.2.1.1 z.2.1.2.1.2.1 z.2.1.2.1.2.2.1 z.2.1.2.2.1.1 z.2.1.2.2.1.2.1 z.2.1.2.2.1.2.2.1
theorem nat_spec_l01Add_6 : Natural @t_spec_l01Add_6 := fun R nx hx z => by
  show u_spec_l01Add_6 nx hx z.2.1.1.1 z.2.1.1.2.1 z.2.1.1.2.2.1 z.2.1.2.1.1 z.2.1.2.1.2.1 z.2.1.2.1.2.2.1 z.2.1.2.2.1.1 z.2.1.2.2.1.2.1 z.2.1.2.2.1.2.2.1 = (u_spec_l01Add_6 (fun y => some (.inl y)) (hIn x_spec_l01Add_6 fun x => some (.inr x)) z.2.1.1.1 z.2.1.1.2.1 z.2.1.1.2.2.1 z.2.1.2.1.1 z.2.1.2.1.2.1 z.2.1.2.1.2.2.1 z.2.1.2.2.1.1 z.2.1.2.2.1.2.1 z.2.1.2.2.1.2.2.1).bind (goOn nx hx)
  unfold u_spec_l01Add_6
  exact nat_cond (rfl) (rfl)
noncomputable def w_spec_l01Add_6 : s_spec_l01Add_6.T → Option (exT x_spec_l01Add_6) := wOf @t_spec_l01Add_6
theorem wq_spec_l01Add_6 (b0_0 : Int) (b0_1 : Int) (b0_2 : Int) (b1_0 : Int) (b1_1 : Int) (b1_2 : Int) (b2_0 : Int) (b2_1 : Int) (b2_2 : Int) : w_spec_l01Add_6 (m_spec_l01Add_6 b0_0 b0_1 b0_2 b1_0 b1_1 b1_2 b2_0 b2_1 b2_2) = u_spec_l01Add_6 w_spec_l01Add_6 (hIn x_spec_l01Add_6 some) b0_0 b0_1 b0_2 b1_0 b1_1 b1_2 b2_0 b2_1 b2_2 := wOf_eq nat_spec_l01Add_6 _
def lh_spec_l01Add_6 : LoopHint := ⟨[2, 3, 4], [2, 3, 4], [2, 3, 4], [2, 3, 4]⟩
noncomputable def h_spec_l01Add : Hints Rv := ⟨fun k => match k with | 2 => lh_spec_l01Add_2 | 6 => lh_spec_l01Add_6 | _ => ⟨[], [], [], []⟩, fun k => match k with | 2 => some (loopX s_spec_l01Add_2 x_spec_l01Add_2 w_spec_l01Add_2) | 6 => some (loopX s_spec_l01Add_6 x_spec_l01Add_6 w_spec_l01Add_6) | _ => none⟩
theorem st_spec_l01Add_2 (n : Nat) (z : s_spec_l01Add_2.T) (k : Ex → Live → Option Rv) : loopN ⟨53, 53⟩ lh_spec_l01Add_2 (den (tab C0 T_spec_l01Add) ⟨53, 53⟩ h_spec_l01Add 1 (loopOf Tryd.f61 1)) (n + 1) (s_spec_l01Add_2.enc z) k =
    t_spec_l01Add_2 (fun y => loopN ⟨53, 53⟩ lh_spec_l01Add_2 (den (tab C0 T_spec_l01Add) ⟨53, 53⟩ h_spec_l01Add 1 (loopOf Tryd.f61 1)) n (s_spec_l01Add_2.enc y) k) (hK k x_spec_l01Add_2) z := by kernel_rfl
theorem st_spec_l01Add_6 (n : Nat) (z : s_spec_l01Add_6.T) (k : Ex → Live → Option Rv) : loopN ⟨53, 53⟩ lh_spec_l01Add_6 (den (tab C0 T_spec_l01Add) ⟨53, 53⟩ h_spec_l01Add 1 (loopOf Tryd.f61 5)) (n + 1) (s_spec_l01Add_6.enc z) k =
    t_spec_l01Add_6 (fun y => loopN ⟨53, 53⟩ lh_spec_l01Add_6 (den (tab C0 T_spec_l01Add) ⟨53, 53⟩ h_spec_l01Add 1 (loopOf Tryd.f61 5)) n (s_spec_l01Add_6.enc y) k) (hK k x_spec_l01Add_6) z := by kernel_rfl
theorem hs_spec_l01Add : HintsOk (tab C0 T_spec_l01Add) ⟨53, 53⟩ h_spec_l01Add 1 (loops (codeOf Tryd.f61)) := by
  have hl : loops (codeOf Tryd.f61) = [loopOf Tryd.f61 1, loopOf Tryd.f61 5] := by kernel_rfl
  rw [hl]
  exact HintsOk.cons (n := 2) (lh := lh_spec_l01Add_2) (S := loopX s_spec_l01Add_2 x_spec_l01Add_2 w_spec_l01Add_2) (by kernel_rfl) rfl rfl (loopX_ok nat_spec_l01Add_2 st_spec_l01Add_2)
    (HintsOk.cons (n := 6) (lh := lh_spec_l01Add_6) (S := loopX s_spec_l01Add_6 x_spec_l01Add_6 w_spec_l01Add_6) (by kernel_rfl) rfl rfl (loopX_ok nat_spec_l01Add_6 st_spec_l01Add_6)
    (HintsOk.nil))
noncomputable def t_spec_l01Add {R : Type} (kx : (Int × (Int × Int)) → Option R) (a0 : (Int × (Int × Int))) (a1 : (Int × (Int × Int))) : Option R :=
  Option.bind (w_spec_l01Add_2 (m_spec_l01Add_2 a0.1 a0.2.1 a0.2.2 a1.1 a1.2.1 a1.2.2 (0 : Int) (0 : Int) (0 : Int))) (exC x_spec_l01Add_2
  (fun e59 =>
   Option.bind (w_spec_l01Add_6 (m_spec_l01Add_6 (e59.2.1.1.1 : Int) (e59.2.1.1.2.1 : Int) (e59.2.1.1.2.2.1 : Int) (e59.2.1.2.1.1 : Int) (e59.2.1.2.1.2.1 : Int) (e59.2.1.2.1.2.2.1 : Int) (e59.2.1.2.2.1.1 : Int) (e59.2.1.2.2.1.2.1 : Int) (e59.2.1.2.2.1.2.2.1 : Int))) (exC x_spec_l01Add_6
   (fun e78 =>
    Option.bind (g_spec_l01Low ((IntKind.wrap IntKind.i64 ((e78.2.1.1.1 : Int) + (e78.2.1.2.1.1 : Int))), ((IntKind.wrap IntKind.i64 ((e78.2.1.1.2.1 : Int) + (e78.2.1.2.1.2.1 : Int))), (e78.2.1.1.2.2.1 : Int)))) fun y109 =>
    kx y109, ())), ()))
noncomputable def g_spec_l01Add (a0 : (Int × (Int × Int))) (a1 : (Int × (Int × Int))) : Option ((Int × (Int × Int))) := t_spec_l01Add some a0 a1
theorem nat_spec_l01Add {R : Type} (kx : (Int × (Int × Int)) → Option R) (a0 : (Int × (Int × Int))) (a1 : (Int × (Int × Int))) : t_spec_l01Add kx a0 a1 = (g_spec_l01Add a0 a1).bind kx := by
  unfold g_spec_l01Add t_spec_l01Add
  exact nat_exC ⟨fun _ => nat_exC ⟨fun _ => nat_bind fun _ => rfl, trivial⟩, trivial⟩
abbrev as_spec_l01Add : List AX := [.val true (.pair (.int .i64) (.pair (.int .i64) (.int .i64))), .val true (.pair (.int .i64) (.pair (.int .i64) (.int .i64)))]
abbrev en_spec_l01Add : (Int × (Int × Int)) → AV × List CV := fun b => (.one ⟨true, [(.v (.int .i64 b.1)), (.v (.int .i64 b.2.1)), (.v (.int .i64 b.2.2))]⟩, [])
noncomputable abbrev k_spec_l01Add : Contract := .fx as_spec_l01Add ((Int × (Int × Int))) (fun z => g_spec_l01Add z.1 z.2.1) en_spec_l01Add
theorem r_spec_l01Add (z : argsX as_spec_l01Add) : runF (tab C0 T_spec_l01Add) h_spec_l01Add 1 Tryd.f61 (lentOf as_spec_l01Add) (xBoxes as_spec_l01Add z) (xVals as_spec_l01Add 0 z) K2 = t_spec_l01Add (fun b => some (en_spec_l01Add b)) z.1 z.2.1 := by kernel_rfl
theorem so_spec_l01Add : Sound C0 61 k_spec_l01Add :=
  Sound.fx a_spec_l01Add mixed Tryd.func61 (by kernel_rfl) (by kernel_rfl) h_spec_l01Add 1 hs_spec_l01Add (fun z => (r_spec_l01Add z).trans (nat_spec_l01Add _ z.1 z.2.1))

/-! ### F47 spec.l01Sub -/
noncomputable def T_spec_l01Sub : List (FuncId × Contract) := [(91, k_spec_l01Neg), (61, k_spec_l01Add)]
theorem a_spec_l01Sub : AllSound C0 T_spec_l01Sub := .cons so_spec_l01Neg (.cons so_spec_l01Add (.nil))
noncomputable def t_spec_l01Sub {R : Type} (kx : (Int × (Int × Int)) → Option R) (a0 : (Int × (Int × Int))) (a1 : (Int × (Int × Int))) : Option R :=
  Option.bind (g_spec_l01Neg a1) fun y47 =>
  Option.bind (g_spec_l01Add a0 y47) fun y110 =>
  kx y110
noncomputable def g_spec_l01Sub (a0 : (Int × (Int × Int))) (a1 : (Int × (Int × Int))) : Option ((Int × (Int × Int))) := t_spec_l01Sub some a0 a1
theorem nat_spec_l01Sub {R : Type} (kx : (Int × (Int × Int)) → Option R) (a0 : (Int × (Int × Int))) (a1 : (Int × (Int × Int))) : t_spec_l01Sub kx a0 a1 = (g_spec_l01Sub a0 a1).bind kx := by
  unfold g_spec_l01Sub t_spec_l01Sub
  exact nat_bind fun _ => nat_bind fun _ => rfl
abbrev as_spec_l01Sub : List AX := [.val true (.pair (.int .i64) (.pair (.int .i64) (.int .i64))), .val true (.pair (.int .i64) (.pair (.int .i64) (.int .i64)))]
abbrev en_spec_l01Sub : (Int × (Int × Int)) → AV × List CV := fun b => (.one ⟨true, [(.v (.int .i64 b.1)), (.v (.int .i64 b.2.1)), (.v (.int .i64 b.2.2))]⟩, [])
noncomputable abbrev k_spec_l01Sub : Contract := .fx as_spec_l01Sub ((Int × (Int × Int))) (fun z => g_spec_l01Sub z.1 z.2.1) en_spec_l01Sub
theorem r_spec_l01Sub (z : argsX as_spec_l01Sub) : runF (tab C0 T_spec_l01Sub) noHints 1 Tryd.f47 (lentOf as_spec_l01Sub) (xBoxes as_spec_l01Sub z) (xVals as_spec_l01Sub 0 z) K2 = t_spec_l01Sub (fun b => some (en_spec_l01Sub b)) z.1 z.2.1 := by kernel_rfl
theorem so_spec_l01Sub : Sound C0 47 k_spec_l01Sub :=
  Sound.fx a_spec_l01Sub mixed Tryd.func47 (by kernel_rfl) (by kernel_rfl) noHints 1 noHints_ok (fun z => (r_spec_l01Sub z).trans (nat_spec_l01Sub _ z.1 z.2.1))

/-! ### F124 spec.l02Minus -/
noncomputable def T_spec_l02Minus : List (FuncId × Contract) := [(47, k_spec_l01Sub)]
theorem a_spec_l02Minus : AllSound C0 T_spec_l02Minus := .cons so_spec_l01Sub (.nil)
noncomputable def t_spec_l02Minus {R : Type} (kx : ((Int × (Int × Int)) × (Int × (Int × Int))) → Option R) (a0 : ((Int × (Int × Int)) × (Int × (Int × Int)))) (a1 : ((Int × (Int × Int)) × (Int × (Int × Int)))) : Option R :=
  Option.bind (g_spec_l01Sub a0.1 a1.1) fun y111 =>
  Option.bind (g_spec_l01Sub a0.2 a1.2) fun y112 =>
  kx (y111, y112)
noncomputable def g_spec_l02Minus (a0 : ((Int × (Int × Int)) × (Int × (Int × Int)))) (a1 : ((Int × (Int × Int)) × (Int × (Int × Int)))) : Option (((Int × (Int × Int)) × (Int × (Int × Int)))) := t_spec_l02Minus some a0 a1
theorem nat_spec_l02Minus {R : Type} (kx : ((Int × (Int × Int)) × (Int × (Int × Int))) → Option R) (a0 : ((Int × (Int × Int)) × (Int × (Int × Int)))) (a1 : ((Int × (Int × Int)) × (Int × (Int × Int)))) : t_spec_l02Minus kx a0 a1 = (g_spec_l02Minus a0 a1).bind kx := by
  unfold g_spec_l02Minus t_spec_l02Minus
  exact nat_bind fun _ => nat_bind fun _ => rfl
abbrev as_spec_l02Minus : List AX := [.val true (.pair (.pair (.int .i64) (.pair (.int .i64) (.int .i64))) (.pair (.int .i64) (.pair (.int .i64) (.int .i64)))), .val true (.pair (.pair (.int .i64) (.pair (.int .i64) (.int .i64))) (.pair (.int .i64) (.pair (.int .i64) (.int .i64))))]
abbrev en_spec_l02Minus : ((Int × (Int × Int)) × (Int × (Int × Int))) → AV × List CV := fun b => (.one ⟨true, [(.v (.int .i64 b.1.1)), (.v (.int .i64 b.1.2.1)), (.v (.int .i64 b.1.2.2)), (.v (.int .i64 b.2.1)), (.v (.int .i64 b.2.2.1)), (.v (.int .i64 b.2.2.2))]⟩, [])
noncomputable abbrev k_spec_l02Minus : Contract := .fx as_spec_l02Minus (((Int × (Int × Int)) × (Int × (Int × Int)))) (fun z => g_spec_l02Minus z.1 z.2.1) en_spec_l02Minus
theorem r_spec_l02Minus (z : argsX as_spec_l02Minus) : runF (tab C0 T_spec_l02Minus) noHints 1 Tryd.f124 (lentOf as_spec_l02Minus) (xBoxes as_spec_l02Minus z) (xVals as_spec_l02Minus 0 z) K2 = t_spec_l02Minus (fun b => some (en_spec_l02Minus b)) z.1 z.2.1 := by kernel_rfl
theorem so_spec_l02Minus : Sound C0 124 k_spec_l02Minus :=
  Sound.fx a_spec_l02Minus mixed Tryd.func124 (by kernel_rfl) (by kernel_rfl) noHints 1 noHints_ok (fun z => (r_spec_l02Minus z).trans (nat_spec_l02Minus _ z.1 z.2.1))

/-! ### F108 spec.l02Mod -/
noncomputable def T_spec_l02Mod : List (FuncId × Contract) := []
theorem a_spec_l02Mod : AllSound C0 T_spec_l02Mod := .nil
noncomputable def t_spec_l02Mod {R : Type} (kx : Int → Option R) (a0 : Int) : Option R :=
  kx (Int.tmod (IntKind.wrap IntKind.i64 ((Int.tmod a0 (16 : Int)) + (16 : Int))) (16 : Int))
noncomputable def g_spec_l02Mod (a0 : Int) : Option (Int) := t_spec_l02Mod some a0
theorem nat_spec_l02Mod {R : Type} (kx : Int → Option R) (a0 : Int) : t_spec_l02Mod kx a0 = (g_spec_l02Mod a0).bind kx := by
  unfold g_spec_l02Mod t_spec_l02Mod
  exact rfl
abbrev as_spec_l02Mod : List AX := [.val false (.int .i64)]
abbrev en_spec_l02Mod : Int → AV × List CV := fun b => (.one ⟨false, [(.v (.int .i64 b))]⟩, [])
noncomputable abbrev k_spec_l02Mod : Contract := .fx as_spec_l02Mod (Int) (fun z => g_spec_l02Mod z.1) en_spec_l02Mod
theorem r_spec_l02Mod (z : argsX as_spec_l02Mod) : runF (tab C0 T_spec_l02Mod) noHints 1 Tryd.f108 (lentOf as_spec_l02Mod) (xBoxes as_spec_l02Mod z) (xVals as_spec_l02Mod 0 z) K2 = t_spec_l02Mod (fun b => some (en_spec_l02Mod b)) z.1 := by kernel_rfl
theorem so_spec_l02Mod : Sound C0 108 k_spec_l02Mod :=
  Sound.fx a_spec_l02Mod mixed Tryd.func108 (by kernel_rfl) (by kernel_rfl) noHints 1 noHints_ok (fun z => (r_spec_l02Mod z).trans (nat_spec_l02Mod _ z.1))

/-! ### F85 spec.l02Vec -/
noncomputable def T_spec_l02Vec : List (FuncId × Contract) := [(108, k_spec_l02Mod)]
theorem a_spec_l02Vec : AllSound C0 T_spec_l02Vec := .cons so_spec_l02Mod (.nil)
noncomputable def t_spec_l02Vec {R : Type} (kx : ((Int × (Int × Int)) × (Int × (Int × Int))) → Option R) (a0 : Int) : Option R :=
  Option.bind (g_spec_l02Mod a0) fun y126 =>
  Option.bind (idx [(((1 : Int), ((0 : Int), (0 : Int))), ((0 : Int), ((0 : Int), (0 : Int)))), (((1 : Int), ((0 : Int), (0 : Int))), ((-(1 : Int)), ((1 : Int), (0 : Int)))), (((1 : Int), ((0 : Int), (0 : Int))), ((1 : Int), ((0 : Int), (0 : Int)))), (((-(1 : Int)), ((1 : Int), (0 : Int))), ((1 : Int), ((0 : Int), (0 : Int)))), (((0 : Int), ((0 : Int), (0 : Int))), ((1 : Int), ((0 : Int), (0 : Int)))), (((1 : Int), ((-(1 : Int)), (0 : Int))), ((1 : Int), ((0 : Int), (0 : Int)))), (((-(1 : Int)), ((0 : Int), (0 : Int))), ((1 : Int), ((0 : Int), (0 : Int)))), (((-(1 : Int)), ((0 : Int), (0 : Int))), ((-(1 : Int)), ((1 : Int), (0 : Int))))] (Int.tmod y126 (8 : Int))) fun y127 =>
  cond (decide (y126 ≥ (8 : Int)))
  (kx (((IntKind.wrap IntKind.i64 ((0 : Int) - y127.1.1)), ((IntKind.wrap IntKind.i64 ((0 : Int) - y127.1.2.1)), (0 : Int))), ((IntKind.wrap IntKind.i64 ((0 : Int) - y127.2.1)), ((IntKind.wrap IntKind.i64 ((0 : Int) - y127.2.2.1)), (0 : Int)))))
  (kx y127)
noncomputable def g_spec_l02Vec (a0 : Int) : Option (((Int × (Int × Int)) × (Int × (Int × Int)))) := t_spec_l02Vec some a0
theorem nat_spec_l02Vec {R : Type} (kx : ((Int × (Int × Int)) × (Int × (Int × Int))) → Option R) (a0 : Int) : t_spec_l02Vec kx a0 = (g_spec_l02Vec a0).bind kx := by
  unfold g_spec_l02Vec t_spec_l02Vec
  exact nat_bind fun _ => nat_bind fun _ => nat_cond (rfl) (rfl)
abbrev as_spec_l02Vec : List AX := [.val false (.int .i64)]
abbrev en_spec_l02Vec : ((Int × (Int × Int)) × (Int × (Int × Int))) → AV × List CV := fun b => (.one ⟨true, [(.v (.int .i64 b.1.1)), (.v (.int .i64 b.1.2.1)), (.v (.int .i64 b.1.2.2)), (.v (.int .i64 b.2.1)), (.v (.int .i64 b.2.2.1)), (.v (.int .i64 b.2.2.2))]⟩, [])
noncomputable abbrev k_spec_l02Vec : Contract := .fx as_spec_l02Vec (((Int × (Int × Int)) × (Int × (Int × Int)))) (fun z => g_spec_l02Vec z.1) en_spec_l02Vec
theorem r_spec_l02Vec (z : argsX as_spec_l02Vec) : runF (tab C0 T_spec_l02Vec) noHints 1 Tryd.f85 (lentOf as_spec_l02Vec) (xBoxes as_spec_l02Vec z) (xVals as_spec_l02Vec 0 z) K2 = t_spec_l02Vec (fun b => some (en_spec_l02Vec b)) z.1 := by kernel_rfl
theorem so_spec_l02Vec : Sound C0 85 k_spec_l02Vec :=
  Sound.fx a_spec_l02Vec mixed Tryd.func85 (by kernel_rfl) (by kernel_rfl) noHints 1 noHints_ok (fun z => (r_spec_l02Vec z).trans (nat_spec_l02Vec _ z.1))

/-! ### F88 spec.l01Mul -/
noncomputable def T_spec_l01Mul : List (FuncId × Contract) := [(114, k_spec_l01Low)]
theorem a_spec_l01Mul : AllSound C0 T_spec_l01Mul := .cons so_spec_l01Low (.nil)
noncomputable def t_spec_l01Mul {R : Type} (kx : (Int × (Int × Int)) → Option R) (a0 : (Int × (Int × Int))) (a1 : (Int × (Int × Int))) : Option R :=
  Option.bind (g_spec_l01Low ((IntKind.wrap IntKind.i64 ((IntKind.wrap IntKind.i64 (a0.1 * a1.1)) + (IntKind.wrap IntKind.i64 ((IntKind.wrap IntKind.i64 ((2 : Int) * a0.2.1)) * a1.2.1)))), ((IntKind.wrap IntKind.i64 ((IntKind.wrap IntKind.i64 (a0.1 * a1.2.1)) + (IntKind.wrap IntKind.i64 (a0.2.1 * a1.1)))), (IntKind.wrap IntKind.i64 (a0.2.2 + a1.2.2))))) fun y132 =>
  kx y132
noncomputable def g_spec_l01Mul (a0 : (Int × (Int × Int))) (a1 : (Int × (Int × Int))) : Option ((Int × (Int × Int))) := t_spec_l01Mul some a0 a1
theorem nat_spec_l01Mul {R : Type} (kx : (Int × (Int × Int)) → Option R) (a0 : (Int × (Int × Int))) (a1 : (Int × (Int × Int))) : t_spec_l01Mul kx a0 a1 = (g_spec_l01Mul a0 a1).bind kx := by
  unfold g_spec_l01Mul t_spec_l01Mul
  exact nat_bind fun _ => rfl
abbrev as_spec_l01Mul : List AX := [.val true (.pair (.int .i64) (.pair (.int .i64) (.int .i64))), .val true (.pair (.int .i64) (.pair (.int .i64) (.int .i64)))]
abbrev en_spec_l01Mul : (Int × (Int × Int)) → AV × List CV := fun b => (.one ⟨true, [(.v (.int .i64 b.1)), (.v (.int .i64 b.2.1)), (.v (.int .i64 b.2.2))]⟩, [])
noncomputable abbrev k_spec_l01Mul : Contract := .fx as_spec_l01Mul ((Int × (Int × Int))) (fun z => g_spec_l01Mul z.1 z.2.1) en_spec_l01Mul
theorem r_spec_l01Mul (z : argsX as_spec_l01Mul) : runF (tab C0 T_spec_l01Mul) noHints 1 Tryd.f88 (lentOf as_spec_l01Mul) (xBoxes as_spec_l01Mul z) (xVals as_spec_l01Mul 0 z) K2 = t_spec_l01Mul (fun b => some (en_spec_l01Mul b)) z.1 z.2.1 := by kernel_rfl
theorem so_spec_l01Mul : Sound C0 88 k_spec_l01Mul :=
  Sound.fx a_spec_l01Mul mixed Tryd.func88 (by kernel_rfl) (by kernel_rfl) noHints 1 noHints_ok (fun z => (r_spec_l01Mul z).trans (nat_spec_l01Mul _ z.1 z.2.1))

/-! ### F86 spec.l02Dot -/
noncomputable def T_spec_l02Dot : List (FuncId × Contract) := [(85, k_spec_l02Vec), (44, k_spec_l02Of), (88, k_spec_l01Mul), (61, k_spec_l01Add)]
theorem a_spec_l02Dot : AllSound C0 T_spec_l02Dot := .cons so_spec_l02Vec (.cons so_spec_l02Of (.cons so_spec_l01Mul (.cons so_spec_l01Add (.nil))))
noncomputable def t_spec_l02Dot {R : Type} (kx : (Int × (Int × Int)) → Option R) (a0 : Int) (a1 : ((Int × (Int × Int)) × (Int × (Int × Int)))) : Option R :=
  Option.bind (g_spec_l02Vec a0) fun y128 =>
  Option.bind (g_spec_l02Of y128) fun y129 =>
  Option.bind (g_spec_l01Mul y129.1 a1.1) fun y133 =>
  Option.bind (g_spec_l01Mul y129.2 a1.2) fun y134 =>
  Option.bind (g_spec_l01Add y133 y134) fun y135 =>
  kx y135
noncomputable def g_spec_l02Dot (a0 : Int) (a1 : ((Int × (Int × Int)) × (Int × (Int × Int)))) : Option ((Int × (Int × Int))) := t_spec_l02Dot some a0 a1
theorem nat_spec_l02Dot {R : Type} (kx : (Int × (Int × Int)) → Option R) (a0 : Int) (a1 : ((Int × (Int × Int)) × (Int × (Int × Int)))) : t_spec_l02Dot kx a0 a1 = (g_spec_l02Dot a0 a1).bind kx := by
  unfold g_spec_l02Dot t_spec_l02Dot
  exact nat_bind fun _ => nat_bind fun _ => nat_bind fun _ => nat_bind fun _ => nat_bind fun _ => rfl
abbrev as_spec_l02Dot : List AX := [.val false (.int .i64), .val true (.pair (.pair (.int .i64) (.pair (.int .i64) (.int .i64))) (.pair (.int .i64) (.pair (.int .i64) (.int .i64))))]
abbrev en_spec_l02Dot : (Int × (Int × Int)) → AV × List CV := fun b => (.one ⟨true, [(.v (.int .i64 b.1)), (.v (.int .i64 b.2.1)), (.v (.int .i64 b.2.2))]⟩, [])
noncomputable abbrev k_spec_l02Dot : Contract := .fx as_spec_l02Dot ((Int × (Int × Int))) (fun z => g_spec_l02Dot z.1 z.2.1) en_spec_l02Dot
theorem r_spec_l02Dot (z : argsX as_spec_l02Dot) : runF (tab C0 T_spec_l02Dot) noHints 1 Tryd.f86 (lentOf as_spec_l02Dot) (xBoxes as_spec_l02Dot z) (xVals as_spec_l02Dot 0 z) K2 = t_spec_l02Dot (fun b => some (en_spec_l02Dot b)) z.1 z.2.1 := by kernel_rfl
theorem so_spec_l02Dot : Sound C0 86 k_spec_l02Dot :=
  Sound.fx a_spec_l02Dot mixed Tryd.func86 (by kernel_rfl) (by kernel_rfl) noHints 1 noHints_ok (fun z => (r_spec_l02Dot z).trans (nat_spec_l02Dot _ z.1 z.2.1))

/-! ### F46 spec.l02Zero -/
noncomputable def T_spec_l02Zero : List (FuncId × Contract) := []
theorem a_spec_l02Zero : AllSound C0 T_spec_l02Zero := .nil
noncomputable def t_spec_l02Zero {R : Type} (kx : Bool → Option R) (a0 : (Int × (Int × Int))) : Option R :=
  cond (a0.1 == (0 : Int))
  (kx (a0.2.1 == (0 : Int)))
  (kx Bool.false)
noncomputable def g_spec_l02Zero (a0 : (Int × (Int × Int))) : Option (Bool) := t_spec_l02Zero some a0
theorem nat_spec_l02Zero {R : Type} (kx : Bool → Option R) (a0 : (Int × (Int × Int))) : t_spec_l02Zero kx a0 = (g_spec_l02Zero a0).bind kx := by
  unfold g_spec_l02Zero t_spec_l02Zero
  exact nat_cond (rfl) (rfl)
abbrev as_spec_l02Zero : List AX := [.val true (.pair (.int .i64) (.pair (.int .i64) (.int .i64)))]
abbrev en_spec_l02Zero : Bool → AV × List CV := fun b => (.one ⟨false, [(.v (.bool b))]⟩, [])
noncomputable abbrev k_spec_l02Zero : Contract := .fx as_spec_l02Zero (Bool) (fun z => g_spec_l02Zero z.1) en_spec_l02Zero
theorem r_spec_l02Zero (z : argsX as_spec_l02Zero) : runF (tab C0 T_spec_l02Zero) noHints 1 Tryd.f46 (lentOf as_spec_l02Zero) (xBoxes as_spec_l02Zero z) (xVals as_spec_l02Zero 0 z) K2 = t_spec_l02Zero (fun b => some (en_spec_l02Zero b)) z.1 := by kernel_rfl
theorem so_spec_l02Zero : Sound C0 46 k_spec_l02Zero :=
  Sound.fx a_spec_l02Zero mixed Tryd.func46 (by kernel_rfl) (by kernel_rfl) noHints 1 noHints_ok (fun z => (r_spec_l02Zero z).trans (nat_spec_l02Zero _ z.1))

/-! ### F149 spec.l01Square -/
noncomputable def T_spec_l01Square : List (FuncId × Contract) := []
theorem a_spec_l01Square : AllSound C0 T_spec_l01Square := .nil
noncomputable def t_spec_l01Square {R : Type} (kx : Int × Int → Option R) (a0 : Int) : Option R :=
  cond (decide (a0 < (0 : Int)))
  (cond (decide ((IntKind.wrap IntKind.u64 ((IntKind.wrap IntKind.u64 ((IntKind.wrap IntKind.u64 (((BitVec.toNat ((BitVec.ofInt 64 (IntKind.wrap IntKind.u64 (IntKind.wrap IntKind.i64 ((0 : Int) - a0)))) &&& (BitVec.ofInt 64 (4294967295 : Int)))) : Nat) : Int)) * (IntKind.wrap IntKind.u64 (((BitVec.toNat ((BitVec.ofInt 64 (IntKind.wrap IntKind.u64 (IntKind.wrap IntKind.i64 ((0 : Int) - a0)))) &&& (BitVec.ofInt 64 (4294967295 : Int)))) : Nat) : Int)))) + (IntKind.wrap IntKind.u64 ((IntKind.wrap IntKind.u64 ((IntKind.wrap IntKind.u64 ((2 : Int) * (IntKind.wrap IntKind.u64 (((BitVec.toNat ((BitVec.ofInt 64 (IntKind.wrap IntKind.u64 (IntKind.wrap IntKind.i64 ((0 : Int) - a0)))) &&& (BitVec.ofInt 64 (4294967295 : Int)))) : Nat) : Int)))) * (Int.fdiv (IntKind.wrap IntKind.u64 (IntKind.wrap IntKind.i64 ((0 : Int) - a0))) ((2 : Int) ^ (Min.min (Int.toNat (32 : Int)) 64))))) * ((2 : Int) ^ (Min.min (Int.toNat (32 : Int)) 64)))))) < (IntKind.wrap IntKind.u64 ((IntKind.wrap IntKind.u64 (((BitVec.toNat ((BitVec.ofInt 64 (IntKind.wrap IntKind.u64 (IntKind.wrap IntKind.i64 ((0 : Int) - a0)))) &&& (BitVec.ofInt 64 (4294967295 : Int)))) : Nat) : Int)) * (IntKind.wrap IntKind.u64 (((BitVec.toNat ((BitVec.ofInt 64 (IntKind.wrap IntKind.u64 (IntKind.wrap IntKind.i64 ((0 : Int) - a0)))) &&& (BitVec.ofInt 64 (4294967295 : Int)))) : Nat) : Int))))))
   (kx ((IntKind.wrap IntKind.u64 ((IntKind.wrap IntKind.u64 ((Int.fdiv (IntKind.wrap IntKind.u64 (IntKind.wrap IntKind.i64 ((0 : Int) - a0))) ((2 : Int) ^ (Min.min (Int.toNat (32 : Int)) 64))) * (Int.fdiv (IntKind.wrap IntKind.u64 (IntKind.wrap IntKind.i64 ((0 : Int) - a0))) ((2 : Int) ^ (Min.min (Int.toNat (32 : Int)) 64))))) + (IntKind.wrap IntKind.u64 ((Int.fdiv (IntKind.wrap IntKind.u64 ((IntKind.wrap IntKind.u64 ((2 : Int) * (IntKind.wrap IntKind.u64 (((BitVec.toNat ((BitVec.ofInt 64 (IntKind.wrap IntKind.u64 (IntKind.wrap IntKind.i64 ((0 : Int) - a0)))) &&& (BitVec.ofInt 64 (4294967295 : Int)))) : Nat) : Int)))) * (Int.fdiv (IntKind.wrap IntKind.u64 (IntKind.wrap IntKind.i64 ((0 : Int) - a0))) ((2 : Int) ^ (Min.min (Int.toNat (32 : Int)) 64))))) ((2 : Int) ^ (Min.min (Int.toNat (32 : Int)) 64))) + (1 : Int))))), (IntKind.wrap IntKind.u64 ((IntKind.wrap IntKind.u64 ((IntKind.wrap IntKind.u64 (((BitVec.toNat ((BitVec.ofInt 64 (IntKind.wrap IntKind.u64 (IntKind.wrap IntKind.i64 ((0 : Int) - a0)))) &&& (BitVec.ofInt 64 (4294967295 : Int)))) : Nat) : Int)) * (IntKind.wrap IntKind.u64 (((BitVec.toNat ((BitVec.ofInt 64 (IntKind.wrap IntKind.u64 (IntKind.wrap IntKind.i64 ((0 : Int) - a0)))) &&& (BitVec.ofInt 64 (4294967295 : Int)))) : Nat) : Int)))) + (IntKind.wrap IntKind.u64 ((IntKind.wrap IntKind.u64 ((IntKind.wrap IntKind.u64 ((2 : Int) * (IntKind.wrap IntKind.u64 (((BitVec.toNat ((BitVec.ofInt 64 (IntKind.wrap IntKind.u64 (IntKind.wrap IntKind.i64 ((0 : Int) - a0)))) &&& (BitVec.ofInt 64 (4294967295 : Int)))) : Nat) : Int)))) * (Int.fdiv (IntKind.wrap IntKind.u64 (IntKind.wrap IntKind.i64 ((0 : Int) - a0))) ((2 : Int) ^ (Min.min (Int.toNat (32 : Int)) 64))))) * ((2 : Int) ^ (Min.min (Int.toNat (32 : Int)) 64))))))))
   (kx ((IntKind.wrap IntKind.u64 ((IntKind.wrap IntKind.u64 ((Int.fdiv (IntKind.wrap IntKind.u64 (IntKind.wrap IntKind.i64 ((0 : Int) - a0))) ((2 : Int) ^ (Min.min (Int.toNat (32 : Int)) 64))) * (Int.fdiv (IntKind.wrap IntKind.u64 (IntKind.wrap IntKind.i64 ((0 : Int) - a0))) ((2 : Int) ^ (Min.min (Int.toNat (32 : Int)) 64))))) + (Int.fdiv (IntKind.wrap IntKind.u64 ((IntKind.wrap IntKind.u64 ((2 : Int) * (IntKind.wrap IntKind.u64 (((BitVec.toNat ((BitVec.ofInt 64 (IntKind.wrap IntKind.u64 (IntKind.wrap IntKind.i64 ((0 : Int) - a0)))) &&& (BitVec.ofInt 64 (4294967295 : Int)))) : Nat) : Int)))) * (Int.fdiv (IntKind.wrap IntKind.u64 (IntKind.wrap IntKind.i64 ((0 : Int) - a0))) ((2 : Int) ^ (Min.min (Int.toNat (32 : Int)) 64))))) ((2 : Int) ^ (Min.min (Int.toNat (32 : Int)) 64))))), (IntKind.wrap IntKind.u64 ((IntKind.wrap IntKind.u64 ((IntKind.wrap IntKind.u64 (((BitVec.toNat ((BitVec.ofInt 64 (IntKind.wrap IntKind.u64 (IntKind.wrap IntKind.i64 ((0 : Int) - a0)))) &&& (BitVec.ofInt 64 (4294967295 : Int)))) : Nat) : Int)) * (IntKind.wrap IntKind.u64 (((BitVec.toNat ((BitVec.ofInt 64 (IntKind.wrap IntKind.u64 (IntKind.wrap IntKind.i64 ((0 : Int) - a0)))) &&& (BitVec.ofInt 64 (4294967295 : Int)))) : Nat) : Int)))) + (IntKind.wrap IntKind.u64 ((IntKind.wrap IntKind.u64 ((IntKind.wrap IntKind.u64 ((2 : Int) * (IntKind.wrap IntKind.u64 (((BitVec.toNat ((BitVec.ofInt 64 (IntKind.wrap IntKind.u64 (IntKind.wrap IntKind.i64 ((0 : Int) - a0)))) &&& (BitVec.ofInt 64 (4294967295 : Int)))) : Nat) : Int)))) * (Int.fdiv (IntKind.wrap IntKind.u64 (IntKind.wrap IntKind.i64 ((0 : Int) - a0))) ((2 : Int) ^ (Min.min (Int.toNat (32 : Int)) 64))))) * ((2 : Int) ^ (Min.min (Int.toNat (32 : Int)) 64)))))))))
  (cond (decide ((IntKind.wrap IntKind.u64 ((IntKind.wrap IntKind.u64 ((IntKind.wrap IntKind.u64 (((BitVec.toNat ((BitVec.ofInt 64 (IntKind.wrap IntKind.u64 a0)) &&& (BitVec.ofInt 64 (4294967295 : Int)))) : Nat) : Int)) * (IntKind.wrap IntKind.u64 (((BitVec.toNat ((BitVec.ofInt 64 (IntKind.wrap IntKind.u64 a0)) &&& (BitVec.ofInt 64 (4294967295 : Int)))) : Nat) : Int)))) + (IntKind.wrap IntKind.u64 ((IntKind.wrap IntKind.u64 ((IntKind.wrap IntKind.u64 ((2 : Int) * (IntKind.wrap IntKind.u64 (((BitVec.toNat ((BitVec.ofInt 64 (IntKind.wrap IntKind.u64 a0)) &&& (BitVec.ofInt 64 (4294967295 : Int)))) : Nat) : Int)))) * (Int.fdiv (IntKind.wrap IntKind.u64 a0) ((2 : Int) ^ (Min.min (Int.toNat (32 : Int)) 64))))) * ((2 : Int) ^ (Min.min (Int.toNat (32 : Int)) 64)))))) < (IntKind.wrap IntKind.u64 ((IntKind.wrap IntKind.u64 (((BitVec.toNat ((BitVec.ofInt 64 (IntKind.wrap IntKind.u64 a0)) &&& (BitVec.ofInt 64 (4294967295 : Int)))) : Nat) : Int)) * (IntKind.wrap IntKind.u64 (((BitVec.toNat ((BitVec.ofInt 64 (IntKind.wrap IntKind.u64 a0)) &&& (BitVec.ofInt 64 (4294967295 : Int)))) : Nat) : Int))))))
   (kx ((IntKind.wrap IntKind.u64 ((IntKind.wrap IntKind.u64 ((Int.fdiv (IntKind.wrap IntKind.u64 a0) ((2 : Int) ^ (Min.min (Int.toNat (32 : Int)) 64))) * (Int.fdiv (IntKind.wrap IntKind.u64 a0) ((2 : Int) ^ (Min.min (Int.toNat (32 : Int)) 64))))) + (IntKind.wrap IntKind.u64 ((Int.fdiv (IntKind.wrap IntKind.u64 ((IntKind.wrap IntKind.u64 ((2 : Int) * (IntKind.wrap IntKind.u64 (((BitVec.toNat ((BitVec.ofInt 64 (IntKind.wrap IntKind.u64 a0)) &&& (BitVec.ofInt 64 (4294967295 : Int)))) : Nat) : Int)))) * (Int.fdiv (IntKind.wrap IntKind.u64 a0) ((2 : Int) ^ (Min.min (Int.toNat (32 : Int)) 64))))) ((2 : Int) ^ (Min.min (Int.toNat (32 : Int)) 64))) + (1 : Int))))), (IntKind.wrap IntKind.u64 ((IntKind.wrap IntKind.u64 ((IntKind.wrap IntKind.u64 (((BitVec.toNat ((BitVec.ofInt 64 (IntKind.wrap IntKind.u64 a0)) &&& (BitVec.ofInt 64 (4294967295 : Int)))) : Nat) : Int)) * (IntKind.wrap IntKind.u64 (((BitVec.toNat ((BitVec.ofInt 64 (IntKind.wrap IntKind.u64 a0)) &&& (BitVec.ofInt 64 (4294967295 : Int)))) : Nat) : Int)))) + (IntKind.wrap IntKind.u64 ((IntKind.wrap IntKind.u64 ((IntKind.wrap IntKind.u64 ((2 : Int) * (IntKind.wrap IntKind.u64 (((BitVec.toNat ((BitVec.ofInt 64 (IntKind.wrap IntKind.u64 a0)) &&& (BitVec.ofInt 64 (4294967295 : Int)))) : Nat) : Int)))) * (Int.fdiv (IntKind.wrap IntKind.u64 a0) ((2 : Int) ^ (Min.min (Int.toNat (32 : Int)) 64))))) * ((2 : Int) ^ (Min.min (Int.toNat (32 : Int)) 64))))))))
   (kx ((IntKind.wrap IntKind.u64 ((IntKind.wrap IntKind.u64 ((Int.fdiv (IntKind.wrap IntKind.u64 a0) ((2 : Int) ^ (Min.min (Int.toNat (32 : Int)) 64))) * (Int.fdiv (IntKind.wrap IntKind.u64 a0) ((2 : Int) ^ (Min.min (Int.toNat (32 : Int)) 64))))) + (Int.fdiv (IntKind.wrap IntKind.u64 ((IntKind.wrap IntKind.u64 ((2 : Int) * (IntKind.wrap IntKind.u64 (((BitVec.toNat ((BitVec.ofInt 64 (IntKind.wrap IntKind.u64 a0)) &&& (BitVec.ofInt 64 (4294967295 : Int)))) : Nat) : Int)))) * (Int.fdiv (IntKind.wrap IntKind.u64 a0) ((2 : Int) ^ (Min.min (Int.toNat (32 : Int)) 64))))) ((2 : Int) ^ (Min.min (Int.toNat (32 : Int)) 64))))), (IntKind.wrap IntKind.u64 ((IntKind.wrap IntKind.u64 ((IntKind.wrap IntKind.u64 (((BitVec.toNat ((BitVec.ofInt 64 (IntKind.wrap IntKind.u64 a0)) &&& (BitVec.ofInt 64 (4294967295 : Int)))) : Nat) : Int)) * (IntKind.wrap IntKind.u64 (((BitVec.toNat ((BitVec.ofInt 64 (IntKind.wrap IntKind.u64 a0)) &&& (BitVec.ofInt 64 (4294967295 : Int)))) : Nat) : Int)))) + (IntKind.wrap IntKind.u64 ((IntKind.wrap IntKind.u64 ((IntKind.wrap IntKind.u64 ((2 : Int) * (IntKind.wrap IntKind.u64 (((BitVec.toNat ((BitVec.ofInt 64 (IntKind.wrap IntKind.u64 a0)) &&& (BitVec.ofInt 64 (4294967295 : Int)))) : Nat) : Int)))) * (Int.fdiv (IntKind.wrap IntKind.u64 a0) ((2 : Int) ^ (Min.min (Int.toNat (32 : Int)) 64))))) * ((2 : Int) ^ (Min.min (Int.toNat (32 : Int)) 64)))))))))
noncomputable def g_spec_l01Square (a0 : Int) : Option (Int × Int) := t_spec_l01Square some a0
theorem nat_spec_l01Square {R : Type} (kx : Int × Int → Option R) (a0 : Int) : t_spec_l01Square kx a0 = (g_spec_l01Square a0).bind kx := by
  unfold g_spec_l01Square t_spec_l01Square
  exact nat_cond (nat_cond (rfl) (rfl)) (nat_cond (rfl) (rfl))
abbrev as_spec_l01Square : List AX := [.val false (.int .i64)]
abbrev en_spec_l01Square : Int × Int → AV × List CV := fun b => (.tup [⟨false, [(.v (.int .u64 b.1))]⟩, ⟨false, [(.v (.int .u64 b.2))]⟩], [])
noncomputable abbrev k_spec_l01Square : Contract := .fx as_spec_l01Square (Int × Int) (fun z => g_spec_l01Square z.1) en_spec_l01Square
theorem r_spec_l01Square (z : argsX as_spec_l01Square) : runF (tab C0 T_spec_l01Square) noHints 1 Tryd.f149 (lentOf as_spec_l01Square) (xBoxes as_spec_l01Square z) (xVals as_spec_l01Square 0 z) K2 = t_spec_l01Square (fun b => some (en_spec_l01Square b)) z.1 := by kernel_rfl
theorem so_spec_l01Square : Sound C0 149 k_spec_l01Square :=
  Sound.fx a_spec_l01Square mixed Tryd.func149 (by kernel_rfl) (by kernel_rfl) noHints 1 noHints_ok (fun z => (r_spec_l01Square z).trans (nat_spec_l01Square _ z.1))

/-! ### F134 spec.l01Less -/
noncomputable def T_spec_l01Less : List (FuncId × Contract) := [(149, k_spec_l01Square)]
theorem a_spec_l01Less : AllSound C0 T_spec_l01Less := .cons so_spec_l01Square (.nil)
noncomputable def t_spec_l01Less {R : Type} (kx : Bool → Option R) (a0 : Int) (a1 : Int) : Option R :=
  Option.bind (g_spec_l01Square a0) fun y144 =>
  Option.bind (g_spec_l01Square a1) fun y145 =>
  cond (decide (y144.1 < (IntKind.wrap IntKind.u64 ((IntKind.wrap IntKind.u64 (y145.1 * (2 : Int))) + (Int.fdiv y145.2 ((2 : Int) ^ (Min.min (Int.toNat (63 : Int)) 64)))))))
  (kx Bool.true)
  (cond (y144.1 == (IntKind.wrap IntKind.u64 ((IntKind.wrap IntKind.u64 (y145.1 * (2 : Int))) + (Int.fdiv y145.2 ((2 : Int) ^ (Min.min (Int.toNat (63 : Int)) 64))))))
   (kx (decide (y144.2 < (IntKind.wrap IntKind.u64 (y145.2 * (2 : Int))))))
   (kx Bool.false))
noncomputable def g_spec_l01Less (a0 : Int) (a1 : Int) : Option (Bool) := t_spec_l01Less some a0 a1
theorem nat_spec_l01Less {R : Type} (kx : Bool → Option R) (a0 : Int) (a1 : Int) : t_spec_l01Less kx a0 a1 = (g_spec_l01Less a0 a1).bind kx := by
  unfold g_spec_l01Less t_spec_l01Less
  exact nat_bind fun _ => nat_bind fun _ => nat_cond (rfl) (nat_cond (rfl) (rfl))
abbrev as_spec_l01Less : List AX := [.val false (.int .i64), .val false (.int .i64)]
abbrev en_spec_l01Less : Bool → AV × List CV := fun b => (.one ⟨false, [(.v (.bool b))]⟩, [])
noncomputable abbrev k_spec_l01Less : Contract := .fx as_spec_l01Less (Bool) (fun z => g_spec_l01Less z.1 z.2.1) en_spec_l01Less
theorem r_spec_l01Less (z : argsX as_spec_l01Less) : runF (tab C0 T_spec_l01Less) noHints 1 Tryd.f134 (lentOf as_spec_l01Less) (xBoxes as_spec_l01Less z) (xVals as_spec_l01Less 0 z) K2 = t_spec_l01Less (fun b => some (en_spec_l01Less b)) z.1 z.2.1 := by kernel_rfl
theorem so_spec_l01Less : Sound C0 134 k_spec_l01Less :=
  Sound.fx a_spec_l01Less mixed Tryd.func134 (by kernel_rfl) (by kernel_rfl) noHints 1 noHints_ok (fun z => (r_spec_l01Less z).trans (nat_spec_l01Less _ z.1 z.2.1))

/-! ### F115 spec.l01Sign -/
noncomputable def T_spec_l01Sign : List (FuncId × Contract) := [(134, k_spec_l01Less)]
theorem a_spec_l01Sign : AllSound C0 T_spec_l01Sign := .cons so_spec_l01Less (.nil)
noncomputable def t_spec_l01Sign {R : Type} (kx : Int → Option R) (a0 : (Int × (Int × Int))) : Option R :=
  cond (a0.1 == (0 : Int))
  (cond (a0.2.1 == (0 : Int))
   (kx (0 : Int))
   (cond (decide (a0.1 ≥ (0 : Int)))
    (cond (decide (a0.2.1 ≥ (0 : Int)))
     (kx (1 : Int))
     (cond (decide (a0.1 ≤ (0 : Int)))
      (cond (decide (a0.2.1 ≤ (0 : Int)))
       (kx (-(1 : Int)))
       (Option.bind (g_spec_l01Less a0.1 a0.2.1) fun y146 =>
        cond (y146 == (decide (a0.2.1 > (0 : Int))))
        (kx (1 : Int))
        (kx (-(1 : Int)))))
      (Option.bind (g_spec_l01Less a0.1 a0.2.1) fun y147 =>
       cond (y147 == (decide (a0.2.1 > (0 : Int))))
       (kx (1 : Int))
       (kx (-(1 : Int))))))
    (cond (decide (a0.1 ≤ (0 : Int)))
     (cond (decide (a0.2.1 ≤ (0 : Int)))
      (kx (-(1 : Int)))
      (Option.bind (g_spec_l01Less a0.1 a0.2.1) fun y148 =>
       cond (y148 == (decide (a0.2.1 > (0 : Int))))
       (kx (1 : Int))
       (kx (-(1 : Int)))))
     (Option.bind (g_spec_l01Less a0.1 a0.2.1) fun y149 =>
      cond (y149 == (decide (a0.2.1 > (0 : Int))))
      (kx (1 : Int))
      (kx (-(1 : Int)))))))
  (cond (decide (a0.1 ≥ (0 : Int)))
   (cond (decide (a0.2.1 ≥ (0 : Int)))
    (kx (1 : Int))
    (cond (decide (a0.1 ≤ (0 : Int)))
     (cond (decide (a0.2.1 ≤ (0 : Int)))
      (kx (-(1 : Int)))
      (Option.bind (g_spec_l01Less a0.1 a0.2.1) fun y150 =>
       cond (y150 == (decide (a0.2.1 > (0 : Int))))
       (kx (1 : Int))
       (kx (-(1 : Int)))))
     (Option.bind (g_spec_l01Less a0.1 a0.2.1) fun y151 =>
      cond (y151 == (decide (a0.2.1 > (0 : Int))))
      (kx (1 : Int))
      (kx (-(1 : Int))))))
   (cond (decide (a0.1 ≤ (0 : Int)))
    (cond (decide (a0.2.1 ≤ (0 : Int)))
     (kx (-(1 : Int)))
     (Option.bind (g_spec_l01Less a0.1 a0.2.1) fun y152 =>
      cond (y152 == (decide (a0.2.1 > (0 : Int))))
      (kx (1 : Int))
      (kx (-(1 : Int)))))
    (Option.bind (g_spec_l01Less a0.1 a0.2.1) fun y153 =>
     cond (y153 == (decide (a0.2.1 > (0 : Int))))
     (kx (1 : Int))
     (kx (-(1 : Int))))))
noncomputable def g_spec_l01Sign (a0 : (Int × (Int × Int))) : Option (Int) := t_spec_l01Sign some a0
theorem nat_spec_l01Sign {R : Type} (kx : Int → Option R) (a0 : (Int × (Int × Int))) : t_spec_l01Sign kx a0 = (g_spec_l01Sign a0).bind kx := by
  unfold g_spec_l01Sign t_spec_l01Sign
  exact nat_cond (nat_cond (rfl) (nat_cond (nat_cond (rfl) (nat_cond (nat_cond (rfl) (nat_bind fun _ => nat_cond (rfl) (rfl))) (nat_bind fun _ => nat_cond (rfl) (rfl)))) (nat_cond (nat_cond (rfl) (nat_bind fun _ => nat_cond (rfl) (rfl))) (nat_bind fun _ => nat_cond (rfl) (rfl))))) (nat_cond (nat_cond (rfl) (nat_cond (nat_cond (rfl) (nat_bind fun _ => nat_cond (rfl) (rfl))) (nat_bind fun _ => nat_cond (rfl) (rfl)))) (nat_cond (nat_cond (rfl) (nat_bind fun _ => nat_cond (rfl) (rfl))) (nat_bind fun _ => nat_cond (rfl) (rfl))))
abbrev as_spec_l01Sign : List AX := [.val true (.pair (.int .i64) (.pair (.int .i64) (.int .i64)))]
abbrev en_spec_l01Sign : Int → AV × List CV := fun b => (.one ⟨false, [(.v (.int .i64 b))]⟩, [])
noncomputable abbrev k_spec_l01Sign : Contract := .fx as_spec_l01Sign (Int) (fun z => g_spec_l01Sign z.1) en_spec_l01Sign
theorem r_spec_l01Sign (z : argsX as_spec_l01Sign) : runF (tab C0 T_spec_l01Sign) noHints 1 Tryd.f115 (lentOf as_spec_l01Sign) (xBoxes as_spec_l01Sign z) (xVals as_spec_l01Sign 0 z) K2 = t_spec_l01Sign (fun b => some (en_spec_l01Sign b)) z.1 := by kernel_rfl
theorem so_spec_l01Sign : Sound C0 115 k_spec_l01Sign :=
  Sound.fx a_spec_l01Sign mixed Tryd.func115 (by kernel_rfl) (by kernel_rfl) noHints 1 noHints_ok (fun z => (r_spec_l01Sign z).trans (nat_spec_l01Sign _ z.1))

/-! ### F123 spec.l02Direction -/
noncomputable def T_spec_l02Direction : List (FuncId × Contract) := [(86, k_spec_l02Dot), (46, k_spec_l02Zero), (115, k_spec_l01Sign)]
theorem a_spec_l02Direction : AllSound C0 T_spec_l02Direction := .cons so_spec_l02Dot (.cons so_spec_l02Zero (.cons so_spec_l01Sign (.nil)))
abbrev s_spec_l02Direction_3 : LS := ⟨[(false, [(.ptr 1 0)]), (false, [(.int .i64)])], [(false, [(.int .i64), (.int .i64), (.int .i64), (.int .i64), (.int .i64), (.int .i64)])], []⟩
abbrev e_spec_l02Direction_3_0 : LS := ⟨[(false, [(.int .i64)])], [], []⟩
abbrev d_spec_l02Direction_3_0 (v0 : Int) : e_spec_l02Direction_3_0.T := (((v0, ()), ()), (), ())
abbrev e_spec_l02Direction_3_1 : LS := ⟨[(false, [.undef])], [], []⟩
abbrev d_spec_l02Direction_3_1 : e_spec_l02Direction_3_1.T := ((((), ()), ()), (), ())
abbrev x_spec_l02Direction_3 : List (Ex × LS) := [(.ret, e_spec_l02Direction_3_0), (.exit 0, e_spec_l02Direction_3_1)]
abbrev m_spec_l02Direction_3 (x3 : Int) (b0_0 : Int) (b0_1 : Int) (b0_2 : Int) (b0_3 : Int) (b0_4 : Int) (b0_5 : Int) : s_spec_l02Direction_3.T := ((((), ()), (x3, ()), ()), ((b0_0, b0_1, b0_2, b0_3, b0_4, b0_5, ()), ()), ())
noncomputable def u_spec_l02Direction_3 {R : Type} (nx : s_spec_l02Direction_3.T → Option R) (hx : exH R x_spec_l02Direction_3) (x3 : Int) (b0_0 : Int) (b0_1 : Int) (b0_2 : Int) (b0_3 : Int) (b0_4 : Int) (b0_5 : Int) : Option R :=
  cond (decide (x3 < (16 : Int)))
  (Option.bind (g_spec_l02Dot (IntKind.wrap IntKind.i64 (x3 + (4 : Int))) ((b0_0, (b0_1, b0_2)), (b0_3, (b0_4, b0_5)))) fun y136 =>
   Option.bind (g_spec_l02Zero y136) fun y138 =>
   cond y138
   (Option.bind (g_spec_l02Dot x3 ((b0_0, (b0_1, b0_2)), (b0_3, (b0_4, b0_5)))) fun y139 =>
    Option.bind (g_spec_l01Sign y139) fun y154 =>
    cond (decide (y154 > (0 : Int)))
    (hx.1 (d_spec_l02Direction_3_0 x3))
    (nx (m_spec_l02Direction_3 (IntKind.wrap IntKind.i64 (x3 + (1 : Int))) b0_0 b0_1 b0_2 b0_3 b0_4 b0_5)))
   (nx (m_spec_l02Direction_3 (IntKind.wrap IntKind.i64 (x3 + (1 : Int))) b0_0 b0_1 b0_2 b0_3 b0_4 b0_5)))
  (hx.2.1 (d_spec_l02Direction_3_1))
noncomputable def t_spec_l02Direction_3 {R : Type} (nx : s_spec_l02Direction_3.T → Option R) (hx : exH R x_spec_l02Direction_3) (z : s_spec_l02Direction_3.T) : Option R := u_spec_l02Direction_3 nx hx z.1.2.1.1 z.2.1.1.1 z.2.1.1.2.1 z.2.1.1.2.2.1 z.2.1.1.2.2.2.1 z.2.1.1.2.2.2.2.1 z.2.1.1.2.2.2.2.2.1
theorem nat_spec_l02Direction_3 : Natural @t_spec_l02Direction_3 := fun R nx hx z => by
  show u_spec_l02Direction_3 nx hx z.1.2.1.1 z.2.1.1.1 z.2.1.1.2.1 z.2.1.1.2.2.1 z.2.1.1.2.2.2.1 z.2.1.1.2.2.2.2.1 z.2.1.1.2.2.2.2.2.1 = (u_spec_l02Direction_3 (fun y => some (.inl y)) (hIn x_spec_l02Direction_3 fun x => some (.inr x)) z.1.2.1.1 z.2.1.1.1 z.2.1.1.2.1 z.2.1.1.2.2.1 z.2.1.1.2.2.2.1 z.2.1.1.2.2.2.2.1 z.2.1.1.2.2.2.2.2.1).bind (goOn nx hx)
  unfold u_spec_l02Direction_3
  exact nat_cond (nat_bind fun _ => nat_bind fun _ => nat_cond (nat_bind fun _ => nat_bind fun _ => nat_cond (rfl) (rfl)) (rfl)) (rfl)
noncomputable def w_spec_l02Direction_3 : s_spec_l02Direction_3.T → Option (exT x_spec_l02Direction_3) := wOf @t_spec_l02Direction_3
theorem wq_spec_l02Direction_3 (x3 : Int) (b0_0 : Int) (b0_1 : Int) (b0_2 : Int) (b0_3 : Int) (b0_4 : Int) (b0_5 : Int) : w_spec_l02Direction_3 (m_spec_l02Direction_3 x3 b0_0 b0_1 b0_2 b0_3 b0_4 b0_5) = u_spec_l02Direction_3 w_spec_l02Direction_3 (hIn x_spec_l02Direction_3 some) x3 b0_0 b0_1 b0_2 b0_3 b0_4 b0_5 := wOf_eq nat_spec_l02Direction_3 _
def lh_spec_l02Direction_3 : LoopHint := ⟨[1, 3], [1], [2], []⟩
noncomputable def h_spec_l02Direction : Hints Rv := ⟨fun k => match k with | 3 => lh_spec_l02Direction_3 | _ => ⟨[], [], [], []⟩, fun k => match k with | 3 => some (loopX s_spec_l02Direction_3 x_spec_l02Direction_3 w_spec_l02Direction_3) | _ => none⟩
theorem st_spec_l02Direction_3 (n : Nat) (z : s_spec_l02Direction_3.T) (k : Ex → Live → Option Rv) : loopN ⟨21, 21⟩ lh_spec_l02Direction_3 (den (tab C0 T_spec_l02Direction) ⟨21, 21⟩ h_spec_l02Direction 1 (loopOf Tryd.f123 2)) (n + 1) (s_spec_l02Direction_3.enc z) k =
    t_spec_l02Direction_3 (fun y => loopN ⟨21, 21⟩ lh_spec_l02Direction_3 (den (tab C0 T_spec_l02Direction) ⟨21, 21⟩ h_spec_l02Direction 1 (loopOf Tryd.f123 2)) n (s_spec_l02Direction_3.enc y) k) (hK k x_spec_l02Direction_3) z := by kernel_rfl
theorem hs_spec_l02Direction : HintsOk (tab C0 T_spec_l02Direction) ⟨21, 21⟩ h_spec_l02Direction 1 (loops (codeOf Tryd.f123)) := by
  have hl : loops (codeOf Tryd.f123) = [loopOf Tryd.f123 2] := by kernel_rfl
  rw [hl]
  exact HintsOk.cons (n := 3) (lh := lh_spec_l02Direction_3) (S := loopX s_spec_l02Direction_3 x_spec_l02Direction_3 w_spec_l02Direction_3) (by kernel_rfl) rfl rfl (loopX_ok nat_spec_l02Direction_3 st_spec_l02Direction_3)
    (HintsOk.nil)
noncomputable def t_spec_l02Direction {R : Type} (kx : Int → Option R) (a0 : ((Int × (Int × Int)) × (Int × (Int × Int)))) : Option R :=
  Option.bind (w_spec_l02Direction_3 (m_spec_l02Direction_3 (0 : Int) a0.1.1 a0.1.2.1 a0.1.2.2 a0.2.1 a0.2.2.1 a0.2.2.2)) (exC x_spec_l02Direction_3
  (fun e155 =>
   kx (e155.1.1.1 : Int), fun _ =>
   kx (-(1 : Int)), ()))
noncomputable def g_spec_l02Direction (a0 : ((Int × (Int × Int)) × (Int × (Int × Int)))) : Option (Int) := t_spec_l02Direction some a0
theorem nat_spec_l02Direction {R : Type} (kx : Int → Option R) (a0 : ((Int × (Int × Int)) × (Int × (Int × Int)))) : t_spec_l02Direction kx a0 = (g_spec_l02Direction a0).bind kx := by
  unfold g_spec_l02Direction t_spec_l02Direction
  exact nat_exC ⟨fun _ => rfl, fun _ => rfl, trivial⟩
abbrev as_spec_l02Direction : List AX := [.val true (.pair (.pair (.int .i64) (.pair (.int .i64) (.int .i64))) (.pair (.int .i64) (.pair (.int .i64) (.int .i64))))]
abbrev en_spec_l02Direction : Int → AV × List CV := fun b => (.one ⟨false, [(.v (.int .i64 b))]⟩, [])
noncomputable abbrev k_spec_l02Direction : Contract := .fx as_spec_l02Direction (Int) (fun z => g_spec_l02Direction z.1) en_spec_l02Direction
theorem r_spec_l02Direction (z : argsX as_spec_l02Direction) : runF (tab C0 T_spec_l02Direction) h_spec_l02Direction 1 Tryd.f123 (lentOf as_spec_l02Direction) (xBoxes as_spec_l02Direction z) (xVals as_spec_l02Direction 0 z) K2 = t_spec_l02Direction (fun b => some (en_spec_l02Direction b)) z.1 := by kernel_rfl
theorem so_spec_l02Direction : Sound C0 123 k_spec_l02Direction :=
  Sound.fx a_spec_l02Direction mixed Tryd.func123 (by kernel_rfl) (by kernel_rfl) h_spec_l02Direction 1 hs_spec_l02Direction (fun z => (r_spec_l02Direction z).trans (nat_spec_l02Direction _ z.1))

/-! ### F126 spec.l01Num -/
noncomputable def T_spec_l01Num : List (FuncId × Contract) := [(114, k_spec_l01Low), (84, k_spec_l01Ok)]
theorem a_spec_l01Num : AllSound C0 T_spec_l01Num := .cons so_spec_l01Low (.cons so_spec_l01Ok (.nil))
noncomputable def t_spec_l01Num {R : Type} (kx : (Int × (Int × Int)) × Bool → Option R) (a0 : (Int × (Int × Int))) : Option R :=
  Option.bind (g_spec_l01Low a0) fun y166 =>
  Option.bind (g_spec_l01Ok y166) fun y167 =>
  cond (!y167)
  (kx (((0 : Int), ((0 : Int), (0 : Int))), Bool.false))
  (kx (y166, Bool.true))
noncomputable def g_spec_l01Num (a0 : (Int × (Int × Int))) : Option ((Int × (Int × Int)) × Bool) := t_spec_l01Num some a0
theorem nat_spec_l01Num {R : Type} (kx : (Int × (Int × Int)) × Bool → Option R) (a0 : (Int × (Int × Int))) : t_spec_l01Num kx a0 = (g_spec_l01Num a0).bind kx := by
  unfold g_spec_l01Num t_spec_l01Num
  exact nat_bind fun _ => nat_bind fun _ => nat_cond (rfl) (rfl)
abbrev as_spec_l01Num : List AX := [.val true (.pair (.int .i64) (.pair (.int .i64) (.int .i64)))]
abbrev en_spec_l01Num : (Int × (Int × Int)) × Bool → AV × List CV := fun b => (.tup [⟨true, [(.v (.int .i64 b.1.1)), (.v (.int .i64 b.1.2.1)), (.v (.int .i64 b.1.2.2))]⟩, ⟨false, [(.v (.bool b.2))]⟩], [])
noncomputable abbrev k_spec_l01Num : Contract := .fx as_spec_l01Num ((Int × (Int × Int)) × Bool) (fun z => g_spec_l01Num z.1) en_spec_l01Num
theorem r_spec_l01Num (z : argsX as_spec_l01Num) : runF (tab C0 T_spec_l01Num) noHints 1 Tryd.f126 (lentOf as_spec_l01Num) (xBoxes as_spec_l01Num z) (xVals as_spec_l01Num 0 z) K2 = t_spec_l01Num (fun b => some (en_spec_l01Num b)) z.1 := by kernel_rfl
theorem so_spec_l01Num : Sound C0 126 k_spec_l01Num :=
  Sound.fx a_spec_l01Num mixed Tryd.func126 (by kernel_rfl) (by kernel_rfl) noHints 1 noHints_ok (fun z => (r_spec_l01Num z).trans (nat_spec_l01Num _ z.1))

/-! ### F125 spec.LineAt -/
noncomputable def T_spec_LineAt : List (FuncId × Contract) := [(41, k_spec_l02Point), (35, k_spec_l00In), (44, k_spec_l02Of), (86, k_spec_l02Dot), (126, k_spec_l01Num)]
theorem a_spec_LineAt : AllSound C0 T_spec_LineAt := .cons so_spec_l02Point (.cons so_spec_l00In (.cons so_spec_l02Of (.cons so_spec_l02Dot (.cons so_spec_l01Num (.nil)))))
noncomputable def t_spec_LineAt {R : Type} (kx : (Int × (Int × (Int × Int))) × Bool → Option R) (a0 : ((Int × (Int × Int)) × (Int × (Int × Int)))) (a1 : Int) : Option R :=
  Option.bind (g_spec_l02Point a0) fun y161 =>
  cond (!y161)
  (kx (((0 : Int), ((0 : Int), ((0 : Int), (0 : Int)))), Bool.false))
  (Option.bind (g_spec_l00In a1 (0 : Int) (7 : Int)) fun y162 =>
   cond (!y162)
   (kx (((0 : Int), ((0 : Int), ((0 : Int), (0 : Int)))), Bool.false))
   (Option.bind (g_spec_l02Of a0) fun y163 =>
    Option.bind (g_spec_l02Dot (IntKind.wrap IntKind.i64 (a1 + (4 : Int))) y163) fun y164 =>
    Option.bind (g_spec_l01Num y164) fun y168 =>
    cond (!y168.2)
    (kx (((0 : Int), ((0 : Int), ((0 : Int), (0 : Int)))), Bool.false))
    (kx ((a1, y168.1), Bool.true))))
noncomputable def g_spec_LineAt (a0 : ((Int × (Int × Int)) × (Int × (Int × Int)))) (a1 : Int) : Option ((Int × (Int × (Int × Int))) × Bool) := t_spec_LineAt some a0 a1
theorem nat_spec_LineAt {R : Type} (kx : (Int × (Int × (Int × Int))) × Bool → Option R) (a0 : ((Int × (Int × Int)) × (Int × (Int × Int)))) (a1 : Int) : t_spec_LineAt kx a0 a1 = (g_spec_LineAt a0 a1).bind kx := by
  unfold g_spec_LineAt t_spec_LineAt
  exact nat_bind fun _ => nat_cond (rfl) (nat_bind fun _ => nat_cond (rfl) (nat_bind fun _ => nat_bind fun _ => nat_bind fun _ => nat_cond (rfl) (rfl)))
abbrev as_spec_LineAt : List AX := [.val true (.pair (.pair (.int .i64) (.pair (.int .i64) (.int .i64))) (.pair (.int .i64) (.pair (.int .i64) (.int .i64)))), .val false (.int .i64)]
abbrev en_spec_LineAt : (Int × (Int × (Int × Int))) × Bool → AV × List CV := fun b => (.tup [⟨true, [(.v (.int .i64 b.1.1)), (.v (.int .i64 b.1.2.1)), (.v (.int .i64 b.1.2.2.1)), (.v (.int .i64 b.1.2.2.2))]⟩, ⟨false, [(.v (.bool b.2))]⟩], [])
noncomputable abbrev k_spec_LineAt : Contract := .fx as_spec_LineAt ((Int × (Int × (Int × Int))) × Bool) (fun z => g_spec_LineAt z.1 z.2.1) en_spec_LineAt
theorem r_spec_LineAt (z : argsX as_spec_LineAt) : runF (tab C0 T_spec_LineAt) noHints 1 Tryd.f125 (lentOf as_spec_LineAt) (xBoxes as_spec_LineAt z) (xVals as_spec_LineAt 0 z) K2 = t_spec_LineAt (fun b => some (en_spec_LineAt b)) z.1 z.2.1 := by kernel_rfl
theorem so_spec_LineAt : Sound C0 125 k_spec_LineAt :=
  Sound.fx a_spec_LineAt mixed Tryd.func125 (by kernel_rfl) (by kernel_rfl) noHints 1 noHints_ok (fun z => (r_spec_LineAt z).trans (nat_spec_LineAt _ z.1 z.2.1))

/-! ### F80 spec.LineThrough -/
noncomputable def T_spec_LineThrough : List (FuncId × Contract) := [(41, k_spec_l02Point), (44, k_spec_l02Of), (124, k_spec_l02Minus), (123, k_spec_l02Direction), (125, k_spec_LineAt)]
theorem a_spec_LineThrough : AllSound C0 T_spec_LineThrough := .cons so_spec_l02Point (.cons so_spec_l02Of (.cons so_spec_l02Minus (.cons so_spec_l02Direction (.cons so_spec_LineAt (.nil)))))
noncomputable def t_spec_LineThrough {R : Type} (kx : (Int × (Int × (Int × Int))) × Int → Option R) (a0 : ((Int × (Int × Int)) × (Int × (Int × Int)))) (a1 : ((Int × (Int × Int)) × (Int × (Int × Int)))) : Option R :=
  Option.bind (g_spec_l02Point a0) fun y34 =>
  cond (!y34)
  (kx (((0 : Int), ((0 : Int), ((0 : Int), (0 : Int)))), (1 : Int)))
  (Option.bind (g_spec_l02Point a1) fun y35 =>
   cond (!y35)
   (kx (((0 : Int), ((0 : Int), ((0 : Int), (0 : Int)))), (1 : Int)))
   (Option.bind (g_spec_l02Of a1) fun y40 =>
    Option.bind (g_spec_l02Of a0) fun y41 =>
    Option.bind (g_spec_l02Minus y40 y41) fun y113 =>
    Option.bind (g_spec_l02Direction y113) fun y158 =>
    cond (decide (y158 < (0 : Int)))
    (kx (((0 : Int), ((0 : Int), ((0 : Int), (0 : Int)))), (7 : Int)))
    (Option.bind (g_spec_LineAt a0 (Int.tmod y158 (8 : Int))) fun y169 =>
     cond (!y169.2)
     (kx (((0 : Int), ((0 : Int), ((0 : Int), (0 : Int)))), (2 : Int)))
     (kx (y169.1, (0 : Int))))))
noncomputable def g_spec_LineThrough (a0 : ((Int × (Int × Int)) × (Int × (Int × Int)))) (a1 : ((Int × (Int × Int)) × (Int × (Int × Int)))) : Option ((Int × (Int × (Int × Int))) × Int) := t_spec_LineThrough some a0 a1
theorem nat_spec_LineThrough {R : Type} (kx : (Int × (Int × (Int × Int))) × Int → Option R) (a0 : ((Int × (Int × Int)) × (Int × (Int × Int)))) (a1 : ((Int × (Int × Int)) × (Int × (Int × Int)))) : t_spec_LineThrough kx a0 a1 = (g_spec_LineThrough a0 a1).bind kx := by
  unfold g_spec_LineThrough t_spec_LineThrough
  exact nat_bind fun _ => nat_cond (rfl) (nat_bind fun _ => nat_cond (rfl) (nat_bind fun _ => nat_bind fun _ => nat_bind fun _ => nat_bind fun _ => nat_cond (rfl) (nat_bind fun _ => nat_cond (rfl) (rfl))))
abbrev as_spec_LineThrough : List AX := [.val true (.pair (.pair (.int .i64) (.pair (.int .i64) (.int .i64))) (.pair (.int .i64) (.pair (.int .i64) (.int .i64)))), .val true (.pair (.pair (.int .i64) (.pair (.int .i64) (.int .i64))) (.pair (.int .i64) (.pair (.int .i64) (.int .i64))))]
abbrev en_spec_LineThrough : (Int × (Int × (Int × Int))) × Int → AV × List CV := fun b => (.tup [⟨true, [(.v (.int .i64 b.1.1)), (.v (.int .i64 b.1.2.1)), (.v (.int .i64 b.1.2.2.1)), (.v (.int .i64 b.1.2.2.2))]⟩, ⟨false, [(.v (.int .i64 b.2))]⟩], [])
noncomputable abbrev k_spec_LineThrough : Contract := .fx as_spec_LineThrough ((Int × (Int × (Int × Int))) × Int) (fun z => g_spec_LineThrough z.1 z.2.1) en_spec_LineThrough
theorem r_spec_LineThrough (z : argsX as_spec_LineThrough) : runF (tab C0 T_spec_LineThrough) noHints 1 Tryd.f80 (lentOf as_spec_LineThrough) (xBoxes as_spec_LineThrough z) (xVals as_spec_LineThrough 0 z) K2 = t_spec_LineThrough (fun b => some (en_spec_LineThrough b)) z.1 z.2.1 := by kernel_rfl
theorem so_spec_LineThrough : Sound C0 80 k_spec_LineThrough :=
  Sound.fx a_spec_LineThrough mixed Tryd.func80 (by kernel_rfl) (by kernel_rfl) noHints 1 noHints_ok (fun z => (r_spec_LineThrough z).trans (nat_spec_LineThrough _ z.1 z.2.1))

/-! ### F36 spec.l24Start -/
noncomputable def T_spec_l24Start : List (FuncId × Contract) := [(79, k_spec_l03Square), (80, k_spec_LineThrough)]
theorem a_spec_l24Start : AllSound C0 T_spec_l24Start := .cons so_spec_l03Square (.cons so_spec_LineThrough (.nil))
abbrev s_spec_l24Start_6 : LS := ⟨[(false, [(.own (.pair (.pair (.int .i64) (.pair (.int .i64) (.int .i64))) (.pair (.int .i64) (.pair (.int .i64) (.int .i64)))))]), (false, [(.own .str)]), (false, [(.own (.pair .str (.pair .bool (.pair (.pair (.pair (.int .i64) (.pair (.int .i64) (.int .i64))) (.pair (.int .i64) (.pair (.int .i64) (.int .i64)))) (.pair (.int .i64) (.pair (.int .i64) (.pair (.int .i64) (.int .i64))))))))]), (false, [(.int .i64)])], [], []⟩
abbrev e_spec_l24Start_6_0 : LS := ⟨[(false, [(.own (.pair (.pair (.int .i64) (.pair (.int .i64) (.int .i64))) (.pair (.int .i64) (.pair (.int .i64) (.int .i64)))))]), (false, [(.own .str)]), (false, [(.own (.pair .str (.pair .bool (.pair (.pair (.pair (.int .i64) (.pair (.int .i64) (.int .i64))) (.pair (.int .i64) (.pair (.int .i64) (.int .i64)))) (.pair (.int .i64) (.pair (.int .i64) (.pair (.int .i64) (.int .i64))))))))])], [], []⟩
abbrev d_spec_l24Start_6_0 (v0 : List ((Int × (Int × Int)) × (Int × (Int × Int)))) (v1 : List ByteArray) (v2 : List (ByteArray × (Bool × (((Int × (Int × Int)) × (Int × (Int × Int))) × (Int × (Int × (Int × Int))))))) : e_spec_l24Start_6_0.T := (((v0, ()), (v1, ()), (v2, ()), ()), (), ())
abbrev x_spec_l24Start_6 : List (Ex × LS) := [(.exit 0, e_spec_l24Start_6_0)]
abbrev m_spec_l24Start_6 (x3 : List ((Int × (Int × Int)) × (Int × (Int × Int)))) (x4 : List ByteArray) (x5 : List (ByteArray × (Bool × (((Int × (Int × Int)) × (Int × (Int × Int))) × (Int × (Int × (Int × Int))))))) (x6 : Int) : s_spec_l24Start_6.T := (((x3, ()), (x4, ()), (x5, ()), (x6, ()), ()), (), ())
noncomputable def u_spec_l24Start_6 {R : Type} (nx : s_spec_l24Start_6.T → Option R) (hx : exH R x_spec_l24Start_6) (x3 : List ((Int × (Int × Int)) × (Int × (Int × Int)))) (x4 : List ByteArray) (x5 : List (ByteArray × (Bool × (((Int × (Int × Int)) × (Int × (Int × Int))) × (Int × (Int × (Int × Int))))))) (x6 : Int) : Option R :=
  cond (decide (x6 < (4 : Int)))
  (Option.bind (idx x4 x6) fun y13 =>
   Option.bind (idx x3 x6) fun y14 =>
   cond (decide ((((List.length x5) + (List.length [(y13, (Bool.false, (y14, ((0 : Int), ((0 : Int), ((0 : Int), (0 : Int)))))))])) * 104) ≤ 70368744177664))
   (cond (decide (((List.length x5) + (List.length [(y13, (Bool.false, (y14, ((0 : Int), ((0 : Int), ((0 : Int), (0 : Int)))))))])) ≤ 70368744177664))
    (nx (m_spec_l24Start_6 x3 x4 (x5 ++ [(y13, (Bool.false, (y14, ((0 : Int), ((0 : Int), ((0 : Int), (0 : Int)))))))]) (IntKind.wrap IntKind.i64 (x6 + (1 : Int)))))
    (none))
   (none))
  (hx.1 (d_spec_l24Start_6_0 x3 x4 x5))
noncomputable def t_spec_l24Start_6 {R : Type} (nx : s_spec_l24Start_6.T → Option R) (hx : exH R x_spec_l24Start_6) (z : s_spec_l24Start_6.T) : Option R := u_spec_l24Start_6 nx hx z.1.1.1 z.1.2.1.1 z.1.2.2.1.1 z.1.2.2.2.1.1
theorem nat_spec_l24Start_6 : Natural @t_spec_l24Start_6 := fun R nx hx z => by
  show u_spec_l24Start_6 nx hx z.1.1.1 z.1.2.1.1 z.1.2.2.1.1 z.1.2.2.2.1.1 = (u_spec_l24Start_6 (fun y => some (.inl y)) (hIn x_spec_l24Start_6 fun x => some (.inr x)) z.1.1.1 z.1.2.1.1 z.1.2.2.1.1 z.1.2.2.2.1.1).bind (goOn nx hx)
  unfold u_spec_l24Start_6
  exact nat_cond (nat_bind fun _ => nat_bind fun _ => nat_cond (nat_cond (rfl) (rfl)) (rfl)) (rfl)
noncomputable def w_spec_l24Start_6 : s_spec_l24Start_6.T → Option (exT x_spec_l24Start_6) := wOf @t_spec_l24Start_6
theorem wq_spec_l24Start_6 (x3 : List ((Int × (Int × Int)) × (Int × (Int × Int)))) (x4 : List ByteArray) (x5 : List (ByteArray × (Bool × (((Int × (Int × Int)) × (Int × (Int × Int))) × (Int × (Int × (Int × Int))))))) (x6 : Int) : w_spec_l24Start_6 (m_spec_l24Start_6 x3 x4 x5 x6) = u_spec_l24Start_6 w_spec_l24Start_6 (hIn x_spec_l24Start_6 some) x3 x4 x5 x6 := wOf_eq nat_spec_l24Start_6 _
def lh_spec_l24Start_6 : LoopHint := ⟨[3, 4, 5, 6], [], [3, 4, 5], []⟩
abbrev s_spec_l24Start_10 : LS := ⟨[(false, [(.own (.pair (.pair (.int .i64) (.pair (.int .i64) (.int .i64))) (.pair (.int .i64) (.pair (.int .i64) (.int .i64)))))]), (false, [(.own .str)]), (false, [(.own (.pair .str (.pair .bool (.pair (.pair (.pair (.int .i64) (.pair (.int .i64) (.int .i64))) (.pair (.int .i64) (.pair (.int .i64) (.int .i64)))) (.pair (.int .i64) (.pair (.int .i64) (.pair (.int .i64) (.int .i64))))))))]), (false, [(.int .i64)])], [], []⟩
abbrev e_spec_l24Start_10_0 : LS := ⟨[(false, [(.own (.pair .str (.pair .bool (.pair (.pair (.pair (.int .i64) (.pair (.int .i64) (.int .i64))) (.pair (.int .i64) (.pair (.int .i64) (.int .i64)))) (.pair (.int .i64) (.pair (.int .i64) (.pair (.int .i64) (.int .i64))))))))])], [], []⟩
abbrev d_spec_l24Start_10_0 (v0 : List (ByteArray × (Bool × (((Int × (Int × Int)) × (Int × (Int × Int))) × (Int × (Int × (Int × Int))))))) : e_spec_l24Start_10_0.T := (((v0, ()), ()), (), ())
abbrev x_spec_l24Start_10 : List (Ex × LS) := [(.exit 2, e_spec_l24Start_10_0)]
abbrev m_spec_l24Start_10 (x3 : List ((Int × (Int × Int)) × (Int × (Int × Int)))) (x4 : List ByteArray) (x5 : List (ByteArray × (Bool × (((Int × (Int × Int)) × (Int × (Int × Int))) × (Int × (Int × (Int × Int))))))) (x7 : Int) : s_spec_l24Start_10.T := (((x3, ()), (x4, ()), (x5, ()), (x7, ()), ()), (), ())
noncomputable def u_spec_l24Start_10 {R : Type} (nx : s_spec_l24Start_10.T → Option R) (hx : exH R x_spec_l24Start_10) (x3 : List ((Int × (Int × Int)) × (Int × (Int × Int)))) (x4 : List ByteArray) (x5 : List (ByteArray × (Bool × (((Int × (Int × Int)) × (Int × (Int × Int))) × (Int × (Int × (Int × Int))))))) (x7 : Int) : Option R :=
  cond (decide (x7 < (4 : Int)))
  (Option.bind (idx x3 x7) fun y23 =>
   Option.bind (idx x3 (Int.tmod (IntKind.wrap IntKind.i64 (x7 + (1 : Int))) (4 : Int))) fun y24 =>
   Option.bind (g_spec_LineThrough y23 y24) fun y170 =>
   Option.bind (idx x4 x7) fun y171 =>
   Option.bind (idx x4 (Int.tmod (IntKind.wrap IntKind.i64 (x7 + (1 : Int))) (4 : Int))) fun y172 =>
   cond (decide (((((ByteArray.size y171) + (ByteArray.size y172)) : Nat) : Int) > (if (Bool.true = Bool.true) then (((2 : Int) ^ (64 - 1)) - (1 : Int)) else (((2 : Int) ^ 64) - (1 : Int)))))
   (none)
   (cond (decide ((((List.length x5) + (List.length [((y171 ++ y172), (Bool.true, ((((0 : Int), ((0 : Int), (0 : Int))), ((0 : Int), ((0 : Int), (0 : Int)))), y170.1)))])) * 104) ≤ 70368744177664))
    (cond (decide (((List.length x5) + (List.length [((y171 ++ y172), (Bool.true, ((((0 : Int), ((0 : Int), (0 : Int))), ((0 : Int), ((0 : Int), (0 : Int)))), y170.1)))])) ≤ 70368744177664))
     (nx (m_spec_l24Start_10 x3 x4 (x5 ++ [((y171 ++ y172), (Bool.true, ((((0 : Int), ((0 : Int), (0 : Int))), ((0 : Int), ((0 : Int), (0 : Int)))), y170.1)))]) (IntKind.wrap IntKind.i64 (x7 + (1 : Int)))))
     (none))
    (none)))
  (hx.1 (d_spec_l24Start_10_0 x5))
noncomputable def t_spec_l24Start_10 {R : Type} (nx : s_spec_l24Start_10.T → Option R) (hx : exH R x_spec_l24Start_10) (z : s_spec_l24Start_10.T) : Option R := u_spec_l24Start_10 nx hx z.1.1.1 z.1.2.1.1 z.1.2.2.1.1 z.1.2.2.2.1.1
theorem nat_spec_l24Start_10 : Natural @t_spec_l24Start_10 := fun R nx hx z => by
  show u_spec_l24Start_10 nx hx z.1.1.1 z.1.2.1.1 z.1.2.2.1.1 z.1.2.2.2.1.1 = (u_spec_l24Start_10 (fun y => some (.inl y)) (hIn x_spec_l24Start_10 fun x => some (.inr x)) z.1.1.1 z.1.2.1.1 z.1.2.2.1.1 z.1.2.2.2.1.1).bind (goOn nx hx)
  unfold u_spec_l24Start_10
  exact nat_cond (nat_bind fun _ => nat_bind fun _ => nat_bind fun _ => nat_bind fun _ => nat_bind fun _ => nat_cond (rfl) (nat_cond (nat_cond (rfl) (rfl)) (rfl))) (rfl)
noncomputable def w_spec_l24Start_10 : s_spec_l24Start_10.T → Option (exT x_spec_l24Start_10) := wOf @t_spec_l24Start_10
theorem wq_spec_l24Start_10 (x3 : List ((Int × (Int × Int)) × (Int × (Int × Int)))) (x4 : List ByteArray) (x5 : List (ByteArray × (Bool × (((Int × (Int × Int)) × (Int × (Int × Int))) × (Int × (Int × (Int × Int))))))) (x7 : Int) : w_spec_l24Start_10 (m_spec_l24Start_10 x3 x4 x5 x7) = u_spec_l24Start_10 w_spec_l24Start_10 (hIn x_spec_l24Start_10 some) x3 x4 x5 x7 := wOf_eq nat_spec_l24Start_10 _
def lh_spec_l24Start_10 : LoopHint := ⟨[3, 4, 5, 7], [], [5], []⟩
noncomputable def h_spec_l24Start : Hints Rv := ⟨fun k => match k with | 6 => lh_spec_l24Start_6 | 10 => lh_spec_l24Start_10 | _ => ⟨[], [], [], []⟩, fun k => match k with | 6 => some (loopX s_spec_l24Start_6 x_spec_l24Start_6 w_spec_l24Start_6) | 10 => some (loopX s_spec_l24Start_10 x_spec_l24Start_10 w_spec_l24Start_10) | _ => none⟩
theorem st_spec_l24Start_6 (n : Nat) (z : s_spec_l24Start_6.T) (k : Ex → Live → Option Rv) : loopN ⟨65, 65⟩ lh_spec_l24Start_6 (den (tab C0 T_spec_l24Start) ⟨65, 65⟩ h_spec_l24Start 1 (loopOf Tryd.f36 5)) (n + 1) (s_spec_l24Start_6.enc z) k =
    t_spec_l24Start_6 (fun y => loopN ⟨65, 65⟩ lh_spec_l24Start_6 (den (tab C0 T_spec_l24Start) ⟨65, 65⟩ h_spec_l24Start 1 (loopOf Tryd.f36 5)) n (s_spec_l24Start_6.enc y) k) (hK k x_spec_l24Start_6) z := by kernel_rfl
theorem st_spec_l24Start_10 (n : Nat) (z : s_spec_l24Start_10.T) (k : Ex → Live → Option Rv) : loopN ⟨65, 65⟩ lh_spec_l24Start_10 (den (tab C0 T_spec_l24Start) ⟨65, 65⟩ h_spec_l24Start 1 (loopOf Tryd.f36 9)) (n + 1) (s_spec_l24Start_10.enc z) k =
    t_spec_l24Start_10 (fun y => loopN ⟨65, 65⟩ lh_spec_l24Start_10 (den (tab C0 T_spec_l24Start) ⟨65, 65⟩ h_spec_l24Start 1 (loopOf Tryd.f36 9)) n (s_spec_l24Start_10.enc y) k) (hK k x_spec_l24Start_10) z := by kernel_rfl
theorem hs_spec_l24Start : HintsOk (tab C0 T_spec_l24Start) ⟨65, 65⟩ h_spec_l24Start 1 (loops (codeOf Tryd.f36)) := by
  have hl : loops (codeOf Tryd.f36) = [loopOf Tryd.f36 5, loopOf Tryd.f36 9] := by kernel_rfl
  rw [hl]
  exact HintsOk.cons (n := 6) (lh := lh_spec_l24Start_6) (S := loopX s_spec_l24Start_6 x_spec_l24Start_6 w_spec_l24Start_6) (by kernel_rfl) rfl rfl (loopX_ok nat_spec_l24Start_6 st_spec_l24Start_6)
    (HintsOk.cons (n := 10) (lh := lh_spec_l24Start_10) (S := loopX s_spec_l24Start_10 x_spec_l24Start_10 w_spec_l24Start_10) (by kernel_rfl) rfl rfl (loopX_ok nat_spec_l24Start_10 st_spec_l24Start_10)
    (HintsOk.nil))
noncomputable def t_spec_l24Start {R : Type} (kx : (List (ByteArray × (Bool × (((Int × (Int × Int)) × (Int × (Int × Int))) × (Int × (Int × (Int × Int))))))) → Option R) (a0 : Int) : Option R :=
  Option.bind (g_spec_l03Square a0) fun y8 =>
  Option.bind (w_spec_l24Start_6 (m_spec_l24Start_6 y8 [(ByteArray.mk (Array.mk [97])), (ByteArray.mk (Array.mk [98])), (ByteArray.mk (Array.mk [99])), (ByteArray.mk (Array.mk [100]))] [] (0 : Int))) (exC x_spec_l24Start_6
  (fun e15 =>
   Option.bind (w_spec_l24Start_10 (m_spec_l24Start_10 (e15.1.1.1 : List ((Int × (Int × Int)) × (Int × (Int × Int)))) (e15.1.2.1.1 : List ByteArray) (e15.1.2.2.1.1 : List (ByteArray × (Bool × (((Int × (Int × Int)) × (Int × (Int × Int))) × (Int × (Int × (Int × Int))))))) (0 : Int))) (exC x_spec_l24Start_10
   (fun e173 =>
    kx (e173.1.1.1 : List (ByteArray × (Bool × (((Int × (Int × Int)) × (Int × (Int × Int))) × (Int × (Int × (Int × Int))))))), ())), ()))
noncomputable def g_spec_l24Start (a0 : Int) : Option ((List (ByteArray × (Bool × (((Int × (Int × Int)) × (Int × (Int × Int))) × (Int × (Int × (Int × Int)))))))) := t_spec_l24Start some a0
theorem nat_spec_l24Start {R : Type} (kx : (List (ByteArray × (Bool × (((Int × (Int × Int)) × (Int × (Int × Int))) × (Int × (Int × (Int × Int))))))) → Option R) (a0 : Int) : t_spec_l24Start kx a0 = (g_spec_l24Start a0).bind kx := by
  unfold g_spec_l24Start t_spec_l24Start
  exact nat_bind fun _ => nat_exC ⟨fun _ => nat_exC ⟨fun _ => rfl, trivial⟩, trivial⟩
abbrev as_spec_l24Start : List AX := [.val false (.int .i64)]
abbrev en_spec_l24Start : (List (ByteArray × (Bool × (((Int × (Int × Int)) × (Int × (Int × Int))) × (Int × (Int × (Int × Int))))))) → AV × List CV := fun b => (.one ⟨false, [(.own (.pair .str (.pair .bool (.pair (.pair (.pair (.int .i64) (.pair (.int .i64) (.int .i64))) (.pair (.int .i64) (.pair (.int .i64) (.int .i64)))) (.pair (.int .i64) (.pair (.int .i64) (.pair (.int .i64) (.int .i64))))))) b)]⟩, [])
noncomputable abbrev k_spec_l24Start : Contract := .fx as_spec_l24Start ((List (ByteArray × (Bool × (((Int × (Int × Int)) × (Int × (Int × Int))) × (Int × (Int × (Int × Int)))))))) (fun z => g_spec_l24Start z.1) en_spec_l24Start
theorem r_spec_l24Start (z : argsX as_spec_l24Start) : runF (tab C0 T_spec_l24Start) h_spec_l24Start 1 Tryd.f36 (lentOf as_spec_l24Start) (xBoxes as_spec_l24Start z) (xVals as_spec_l24Start 0 z) K2 = t_spec_l24Start (fun b => some (en_spec_l24Start b)) z.1 := by kernel_rfl
theorem so_spec_l24Start : Sound C0 36 k_spec_l24Start :=
  Sound.fx a_spec_l24Start mixed Tryd.func36 (by kernel_rfl) (by kernel_rfl) h_spec_l24Start 1 hs_spec_l24Start (fun z => (r_spec_l24Start z).trans (nat_spec_l24Start _ z.1))

/-! ### F8 spec.StartItems -/
noncomputable def T_spec_StartItems : List (FuncId × Contract) := [(35, k_spec_l00In), (36, k_spec_l24Start)]
theorem a_spec_StartItems : AllSound C0 T_spec_StartItems := .cons so_spec_l00In (.cons so_spec_l24Start (.nil))
noncomputable def t_spec_StartItems {R : Type} (kx : (List (ByteArray × (Bool × (((Int × (Int × Int)) × (Int × (Int × Int))) × (Int × (Int × (Int × Int))))))) × Int → Option R) (a0 : Int) : Option R :=
  Option.bind (g_spec_l00In a0 (1 : Int) (1000 : Int)) fun y5 =>
  cond (!y5)
  (kx ([], (2 : Int)))
  (Option.bind (g_spec_l24Start a0) fun y175 =>
   kx (y175, (0 : Int)))
noncomputable def g_spec_StartItems (a0 : Int) : Option ((List (ByteArray × (Bool × (((Int × (Int × Int)) × (Int × (Int × Int))) × (Int × (Int × (Int × Int))))))) × Int) := t_spec_StartItems some a0
theorem nat_spec_StartItems {R : Type} (kx : (List (ByteArray × (Bool × (((Int × (Int × Int)) × (Int × (Int × Int))) × (Int × (Int × (Int × Int))))))) × Int → Option R) (a0 : Int) : t_spec_StartItems kx a0 = (g_spec_StartItems a0).bind kx := by
  unfold g_spec_StartItems t_spec_StartItems
  exact nat_bind fun _ => nat_cond (rfl) (nat_bind fun _ => rfl)
abbrev as_spec_StartItems : List AX := [.val false (.int .i64)]
abbrev en_spec_StartItems : (List (ByteArray × (Bool × (((Int × (Int × Int)) × (Int × (Int × Int))) × (Int × (Int × (Int × Int))))))) × Int → AV × List CV := fun b => (.tup [⟨false, [(.own (.pair .str (.pair .bool (.pair (.pair (.pair (.int .i64) (.pair (.int .i64) (.int .i64))) (.pair (.int .i64) (.pair (.int .i64) (.int .i64)))) (.pair (.int .i64) (.pair (.int .i64) (.pair (.int .i64) (.int .i64))))))) b.1)]⟩, ⟨false, [(.v (.int .i64 b.2))]⟩], [])
noncomputable abbrev k_spec_StartItems : Contract := .fx as_spec_StartItems ((List (ByteArray × (Bool × (((Int × (Int × Int)) × (Int × (Int × Int))) × (Int × (Int × (Int × Int))))))) × Int) (fun z => g_spec_StartItems z.1) en_spec_StartItems
theorem r_spec_StartItems (z : argsX as_spec_StartItems) : runF (tab C0 T_spec_StartItems) noHints 1 Tryd.f8 (lentOf as_spec_StartItems) (xBoxes as_spec_StartItems z) (xVals as_spec_StartItems 0 z) K2 = t_spec_StartItems (fun b => some (en_spec_StartItems b)) z.1 := by kernel_rfl
theorem so_spec_StartItems : Sound C0 8 k_spec_StartItems :=
  Sound.fx a_spec_StartItems mixed Tryd.func8 (by kernel_rfl) (by kernel_rfl) noHints 1 noHints_ok (fun z => (r_spec_StartItems z).trans (nat_spec_StartItems _ z.1))

/-! ### F81 impl.within -/
noncomputable def T_impl_within : List (FuncId × Contract) := []
theorem a_impl_within : AllSound C0 T_impl_within := .nil
noncomputable def t_impl_within {R : Type} (kx : Bool → Option R) (a0 : Int) (a1 : Int) (a2 : Int) : Option R :=
  cond (decide (a0 ≥ a1))
  (kx (decide (a0 ≤ a2)))
  (kx Bool.false)
noncomputable def g_impl_within (a0 : Int) (a1 : Int) (a2 : Int) : Option (Bool) := t_impl_within some a0 a1 a2
theorem nat_impl_within {R : Type} (kx : Bool → Option R) (a0 : Int) (a1 : Int) (a2 : Int) : t_impl_within kx a0 a1 a2 = (g_impl_within a0 a1 a2).bind kx := by
  unfold g_impl_within t_impl_within
  exact nat_cond (rfl) (rfl)
abbrev as_impl_within : List AX := [.val false (.int .i64), .val false (.int .i64), .val false (.int .i64)]
abbrev en_impl_within : Bool → AV × List CV := fun b => (.one ⟨false, [(.v (.bool b))]⟩, [])
noncomputable abbrev k_impl_within : Contract := .fx as_impl_within (Bool) (fun z => g_impl_within z.1 z.2.1 z.2.2.1) en_impl_within
theorem r_impl_within (z : argsX as_impl_within) : runF (tab C0 T_impl_within) noHints 1 Tryd.f81 (lentOf as_impl_within) (xBoxes as_impl_within z) (xVals as_impl_within 0 z) K2 = t_impl_within (fun b => some (en_impl_within b)) z.1 z.2.1 z.2.2.1 := by kernel_rfl
theorem so_impl_within : Sound C0 81 k_impl_within :=
  Sound.fx a_impl_within mixed Tryd.func81 (by kernel_rfl) (by kernel_rfl) noHints 1 noHints_ok (fun z => (r_impl_within z).trans (nat_impl_within _ z.1 z.2.1 z.2.2.1))

/-! ### F82 impl.whole -/
noncomputable def T_impl_whole : List (FuncId × Contract) := []
theorem a_impl_whole : AllSound C0 T_impl_whole := .nil
noncomputable def t_impl_whole {R : Type} (kx : (Int × (Int × Int)) → Option R) (a0 : Int) : Option R :=
  kx (a0, ((0 : Int), (0 : Int)))
noncomputable def g_impl_whole (a0 : Int) : Option ((Int × (Int × Int))) := t_impl_whole some a0
theorem nat_impl_whole {R : Type} (kx : (Int × (Int × Int)) → Option R) (a0 : Int) : t_impl_whole kx a0 = (g_impl_whole a0).bind kx := by
  unfold g_impl_whole t_impl_whole
  exact rfl
abbrev as_impl_whole : List AX := [.val false (.int .i64)]
abbrev en_impl_whole : (Int × (Int × Int)) → AV × List CV := fun b => (.one ⟨true, [(.v (.int .i64 b.1)), (.v (.int .i64 b.2.1)), (.v (.int .i64 b.2.2))]⟩, [])
noncomputable abbrev k_impl_whole : Contract := .fx as_impl_whole ((Int × (Int × Int))) (fun z => g_impl_whole z.1) en_impl_whole
theorem r_impl_whole (z : argsX as_impl_whole) : runF (tab C0 T_impl_whole) noHints 1 Tryd.f82 (lentOf as_impl_whole) (xBoxes as_impl_whole z) (xVals as_impl_whole 0 z) K2 = t_impl_whole (fun b => some (en_impl_whole b)) z.1 := by kernel_rfl
theorem so_impl_whole : Sound C0 82 k_impl_whole :=
  Sound.fx a_impl_whole mixed Tryd.func82 (by kernel_rfl) (by kernel_rfl) noHints 1 noHints_ok (fun z => (r_impl_whole z).trans (nat_impl_whole _ z.1))

/-! ### F37 impl.SquarePaper -/
noncomputable def T_impl_SquarePaper : List (FuncId × Contract) := [(81, k_impl_within), (82, k_impl_whole)]
theorem a_impl_SquarePaper : AllSound C0 T_impl_SquarePaper := .cons so_impl_within (.cons so_impl_whole (.nil))
noncomputable def t_impl_SquarePaper {R : Type} (kx : (List ((Int × (Int × Int)) × (Int × (Int × Int)))) × Bool → Option R) (a0 : Int) : Option R :=
  Option.bind (g_impl_within a0 (1 : Int) (1000 : Int)) fun y182 =>
  cond (!y182)
  (kx ([], Bool.false))
  (Option.bind (g_impl_whole a0) fun y184 =>
   Option.bind (g_impl_whole (0 : Int)) fun y185 =>
   kx ([(y185, y185), (y184, y185), (y184, y184), (y185, y184)], Bool.true))
noncomputable def g_impl_SquarePaper (a0 : Int) : Option ((List ((Int × (Int × Int)) × (Int × (Int × Int)))) × Bool) := t_impl_SquarePaper some a0
theorem nat_impl_SquarePaper {R : Type} (kx : (List ((Int × (Int × Int)) × (Int × (Int × Int)))) × Bool → Option R) (a0 : Int) : t_impl_SquarePaper kx a0 = (g_impl_SquarePaper a0).bind kx := by
  unfold g_impl_SquarePaper t_impl_SquarePaper
  exact nat_bind fun _ => nat_cond (rfl) (nat_bind fun _ => nat_bind fun _ => rfl)
abbrev as_impl_SquarePaper : List AX := [.val false (.int .i64)]
abbrev en_impl_SquarePaper : (List ((Int × (Int × Int)) × (Int × (Int × Int)))) × Bool → AV × List CV := fun b => (.tup [⟨false, [(.own (.pair (.pair (.int .i64) (.pair (.int .i64) (.int .i64))) (.pair (.int .i64) (.pair (.int .i64) (.int .i64)))) b.1)]⟩, ⟨false, [(.v (.bool b.2))]⟩], [])
noncomputable abbrev k_impl_SquarePaper : Contract := .fx as_impl_SquarePaper ((List ((Int × (Int × Int)) × (Int × (Int × Int)))) × Bool) (fun z => g_impl_SquarePaper z.1) en_impl_SquarePaper
theorem r_impl_SquarePaper (z : argsX as_impl_SquarePaper) : runF (tab C0 T_impl_SquarePaper) noHints 1 Tryd.f37 (lentOf as_impl_SquarePaper) (xBoxes as_impl_SquarePaper z) (xVals as_impl_SquarePaper 0 z) K2 = t_impl_SquarePaper (fun b => some (en_impl_SquarePaper b)) z.1 := by kernel_rfl
theorem so_impl_SquarePaper : Sound C0 37 k_impl_SquarePaper :=
  Sound.fx a_impl_SquarePaper mixed Tryd.func37 (by kernel_rfl) (by kernel_rfl) noHints 1 noHints_ok (fun z => (r_impl_SquarePaper z).trans (nat_impl_SquarePaper _ z.1))

/-! ### F127 (impl.Num).neg -/
noncomputable def T_impl_Num_neg : List (FuncId × Contract) := []
theorem a_impl_Num_neg : AllSound C0 T_impl_Num_neg := .nil
noncomputable def t_impl_Num_neg {R : Type} (kx : (Int × (Int × Int)) → Option R) (a0 : (Int × (Int × Int))) : Option R :=
  kx ((IntKind.wrap IntKind.i64 ((0 : Int) - a0.1)), ((IntKind.wrap IntKind.i64 ((0 : Int) - a0.2.1)), a0.2.2))
noncomputable def g_impl_Num_neg (a0 : (Int × (Int × Int))) : Option ((Int × (Int × Int))) := t_impl_Num_neg some a0
theorem nat_impl_Num_neg {R : Type} (kx : (Int × (Int × Int)) → Option R) (a0 : (Int × (Int × Int))) : t_impl_Num_neg kx a0 = (g_impl_Num_neg a0).bind kx := by
  unfold g_impl_Num_neg t_impl_Num_neg
  exact rfl
abbrev as_impl_Num_neg : List AX := [.val true (.pair (.int .i64) (.pair (.int .i64) (.int .i64)))]
abbrev en_impl_Num_neg : (Int × (Int × Int)) → AV × List CV := fun b => (.one ⟨true, [(.v (.int .i64 b.1)), (.v (.int .i64 b.2.1)), (.v (.int .i64 b.2.2))]⟩, [])
noncomputable abbrev k_impl_Num_neg : Contract := .fx as_impl_Num_neg ((Int × (Int × Int))) (fun z => g_impl_Num_neg z.1) en_impl_Num_neg
theorem r_impl_Num_neg (z : argsX as_impl_Num_neg) : runF (tab C0 T_impl_Num_neg) noHints 1 Tryd.f127 (lentOf as_impl_Num_neg) (xBoxes as_impl_Num_neg z) (xVals as_impl_Num_neg 0 z) K2 = t_impl_Num_neg (fun b => some (en_impl_Num_neg b)) z.1 := by kernel_rfl
theorem so_impl_Num_neg : Sound C0 127 k_impl_Num_neg :=
  Sound.fx a_impl_Num_neg mixed Tryd.func127 (by kernel_rfl) (by kernel_rfl) noHints 1 noHints_ok (fun z => (r_impl_Num_neg z).trans (nat_impl_Num_neg _ z.1))

/-! ### F116 (impl.Num).reduced -/
noncomputable def T_impl_Num_reduced : List (FuncId × Contract) := []
theorem a_impl_Num_reduced : AllSound C0 T_impl_Num_reduced := .nil
abbrev s_impl_Num_reduced_2 : LS := ⟨[(false, [(.ptr 1 0)]), (false, [(.ptr 2 0)])], [(false, [(.int .i64), (.int .i64), (.int .i64)]), (false, [(.int .i64), (.int .i64), (.int .i64)])], []⟩
abbrev e_impl_Num_reduced_2_0 : LS := ⟨[(false, [(.ptr 1 0)]), (false, [(.ptr 2 0)])], [(false, [(.int .i64), (.int .i64), (.int .i64)]), (false, [(.int .i64), (.int .i64), (.int .i64)])], []⟩
abbrev d_impl_Num_reduced_2_0 (v0 : Int) (v1 : Int) (v2 : Int) (v3 : Int) (v4 : Int) (v5 : Int) : e_impl_Num_reduced_2_0.T := ((((), ()), ((), ()), ()), ((v0, v1, v2, ()), (v3, v4, v5, ()), ()), ())
abbrev x_impl_Num_reduced_2 : List (Ex × LS) := [(.exit 0, e_impl_Num_reduced_2_0)]
abbrev m_impl_Num_reduced_2 (b0_0 : Int) (b0_1 : Int) (b0_2 : Int) (b1_0 : Int) (b1_1 : Int) (b1_2 : Int) : s_impl_Num_reduced_2.T := ((((), ()), ((), ()), ()), ((b0_0, b0_1, b0_2, ()), (b1_0, b1_1, b1_2, ()), ()), ())
noncomputable def u_impl_Num_reduced_2 {R : Type} (nx : s_impl_Num_reduced_2.T → Option R) (hx : exH R x_impl_Num_reduced_2) (b0_0 : Int) (b0_1 : Int) (b0_2 : Int) (b1_0 : Int) (b1_1 : Int) (b1_2 : Int) : Option R :=
  cond (decide (b0_2 > (0 : Int)))
  (cond ((IntKind.wrap IntKind.i64 (((BitVec.toNat ((BitVec.ofInt 64 b0_0) &&& (BitVec.ofInt 64 (1 : Int)))) : Nat) : Int)) == (0 : Int))
   (cond ((IntKind.wrap IntKind.i64 (((BitVec.toNat ((BitVec.ofInt 64 b0_1) &&& (BitVec.ofInt 64 (1 : Int)))) : Nat) : Int)) == (0 : Int))
    (cond ((IntKind.wrap IntKind.i64 (Int.tdiv b0_0 (2 : Int))) == (0 : Int))
     (cond ((IntKind.wrap IntKind.i64 (Int.tdiv b0_1 (2 : Int))) == (0 : Int))
      (nx (m_impl_Num_reduced_2 (IntKind.wrap IntKind.i64 (Int.tdiv b0_0 (2 : Int))) (IntKind.wrap IntKind.i64 (Int.tdiv b0_1 (2 : Int))) (0 : Int) b1_0 b1_1 b1_2))
      (nx (m_impl_Num_reduced_2 (IntKind.wrap IntKind.i64 (Int.tdiv b0_0 (2 : Int))) (IntKind.wrap IntKind.i64 (Int.tdiv b0_1 (2 : Int))) (IntKind.wrap IntKind.i64 (b0_2 - (1 : Int))) b1_0 b1_1 b1_2)))
     (nx (m_impl_Num_reduced_2 (IntKind.wrap IntKind.i64 (Int.tdiv b0_0 (2 : Int))) (IntKind.wrap IntKind.i64 (Int.tdiv b0_1 (2 : Int))) (IntKind.wrap IntKind.i64 (b0_2 - (1 : Int))) b1_0 b1_1 b1_2)))
    (hx.1 (d_impl_Num_reduced_2_0 b0_0 b0_1 b0_2 b1_0 b1_1 b1_2)))
   (hx.1 (d_impl_Num_reduced_2_0 b0_0 b0_1 b0_2 b1_0 b1_1 b1_2)))
  (hx.1 (d_impl_Num_reduced_2_0 b0_0 b0_1 b0_2 b1_0 b1_1 b1_2))
noncomputable def t_impl_Num_reduced_2 {R : Type} (nx : s_impl_Num_reduced_2.T → Option R) (hx : exH R x_impl_Num_reduced_2) (z : s_impl_Num_reduced_2.T) : Option R := u_impl_Num_reduced_2 nx hx z.2.1.1.1 z.2.1.1.2.1 z.2.1.1.2.2.1 z.2.1.2.1.1 z.2.1.2.1.2.1 z.2.1.2.1.2.2.1
theorem nat_impl_Num_reduced_2 : Natural @t_impl_Num_reduced_2 := fun R nx hx z => by
  show u_impl_Num_reduced_2 nx hx z.2.1.1.1 z.2.1.1.2.1 z.2.1.1.2.2.1 z.2.1.2.1.1 z.2.1.2.1.2.1 z.2.1.2.1.2.2.1 = (u_impl_Num_reduced_2 (fun y => some (.inl y)) (hIn x_impl_Num_reduced_2 fun x => some (.inr x)) z.2.1.1.1 z.2.1.1.2.1 z.2.1.1.2.2.1 z.2.1.2.1.1 z.2.1.2.1.2.1 z.2.1.2.1.2.2.1).bind (goOn nx hx)
  unfold u_impl_Num_reduced_2
  exact nat_cond (nat_cond (nat_cond (nat_cond (nat_cond (rfl) (rfl)) (rfl)) (rfl)) (rfl)) (rfl)
noncomputable def w_impl_Num_reduced_2 : s_impl_Num_reduced_2.T → Option (exT x_impl_Num_reduced_2) := wOf @t_impl_Num_reduced_2
theorem wq_impl_Num_reduced_2 (b0_0 : Int) (b0_1 : Int) (b0_2 : Int) (b1_0 : Int) (b1_1 : Int) (b1_2 : Int) : w_impl_Num_reduced_2 (m_impl_Num_reduced_2 b0_0 b0_1 b0_2 b1_0 b1_1 b1_2) = u_impl_Num_reduced_2 w_impl_Num_reduced_2 (hIn x_impl_Num_reduced_2 some) b0_0 b0_1 b0_2 b1_0 b1_1 b1_2 := wOf_eq nat_impl_Num_reduced_2 _
def lh_impl_Num_reduced_2 : LoopHint := ⟨[1, 2], [1, 2], [1, 2], [1, 2]⟩
noncomputable def h_impl_Num_reduced : Hints Rv := ⟨fun k => match k with | 2 => lh_impl_Num_reduced_2 | _ => ⟨[], [], [], []⟩, fun k => match k with | 2 => some (loopX s_impl_Num_reduced_2 x_impl_Num_reduced_2 w_impl_Num_reduced_2) | _ => none⟩
theorem st_impl_Num_reduced_2 (n : Nat) (z : s_impl_Num_reduced_2.T) (k : Ex → Live → Option Rv) : loopN ⟨40, 40⟩ lh_impl_Num_reduced_2 (den (tab C0 T_impl_Num_reduced) ⟨40, 40⟩ h_impl_Num_reduced 1 (loopOf Tryd.f116 1)) (n + 1) (s_impl_Num_reduced_2.enc z) k =
    t_impl_Num_reduced_2 (fun y => loopN ⟨40, 40⟩ lh_impl_Num_reduced_2 (den (tab C0 T_impl_Num_reduced) ⟨40, 40⟩ h_impl_Num_reduced 1 (loopOf Tryd.f116 1)) n (s_impl_Num_reduced_2.enc y) k) (hK k x_impl_Num_reduced_2) z := by kernel_rfl
theorem hs_impl_Num_reduced : HintsOk (tab C0 T_impl_Num_reduced) ⟨40, 40⟩ h_impl_Num_reduced 1 (loops (codeOf Tryd.f116)) := by
  have hl : loops (codeOf Tryd.f116) = [loopOf Tryd.f116 1] := by kernel_rfl
  rw [hl]
  exact HintsOk.cons (n := 2) (lh := lh_impl_Num_reduced_2) (S := loopX s_impl_Num_reduced_2 x_impl_Num_reduced_2 w_impl_Num_reduced_2) (by kernel_rfl) rfl rfl (loopX_ok nat_impl_Num_reduced_2 st_impl_Num_reduced_2)
    (HintsOk.nil)
noncomputable def t_impl_Num_reduced {R : Type} (kx : (Int × (Int × Int)) → Option R) (a0 : (Int × (Int × Int))) : Option R :=
  Option.bind (w_impl_Num_reduced_2 (m_impl_Num_reduced_2 a0.1 a0.2.1 a0.2.2 (0 : Int) (0 : Int) (0 : Int))) (exC x_impl_Num_reduced_2
  (fun e215 =>
   kx ((e215.2.1.1.1 : Int), ((e215.2.1.1.2.1 : Int), (e215.2.1.1.2.2.1 : Int))), ()))
noncomputable def g_impl_Num_reduced (a0 : (Int × (Int × Int))) : Option ((Int × (Int × Int))) := t_impl_Num_reduced some a0
theorem nat_impl_Num_reduced {R : Type} (kx : (Int × (Int × Int)) → Option R) (a0 : (Int × (Int × Int))) : t_impl_Num_reduced kx a0 = (g_impl_Num_reduced a0).bind kx := by
  unfold g_impl_Num_reduced t_impl_Num_reduced
  exact nat_exC ⟨fun _ => rfl, trivial⟩
abbrev as_impl_Num_reduced : List AX := [.val true (.pair (.int .i64) (.pair (.int .i64) (.int .i64)))]
abbrev en_impl_Num_reduced : (Int × (Int × Int)) → AV × List CV := fun b => (.one ⟨true, [(.v (.int .i64 b.1)), (.v (.int .i64 b.2.1)), (.v (.int .i64 b.2.2))]⟩, [])
noncomputable abbrev k_impl_Num_reduced : Contract := .fx as_impl_Num_reduced ((Int × (Int × Int))) (fun z => g_impl_Num_reduced z.1) en_impl_Num_reduced
theorem r_impl_Num_reduced (z : argsX as_impl_Num_reduced) : runF (tab C0 T_impl_Num_reduced) h_impl_Num_reduced 1 Tryd.f116 (lentOf as_impl_Num_reduced) (xBoxes as_impl_Num_reduced z) (xVals as_impl_Num_reduced 0 z) K2 = t_impl_Num_reduced (fun b => some (en_impl_Num_reduced b)) z.1 := by kernel_rfl
theorem so_impl_Num_reduced : Sound C0 116 k_impl_Num_reduced :=
  Sound.fx a_impl_Num_reduced mixed Tryd.func116 (by kernel_rfl) (by kernel_rfl) h_impl_Num_reduced 1 hs_impl_Num_reduced (fun z => (r_impl_Num_reduced z).trans (nat_impl_Num_reduced _ z.1))

/-! ### F64 (impl.Num).plus -/
noncomputable def T_impl_Num_plus : List (FuncId × Contract) := [(116, k_impl_Num_reduced)]
theorem a_impl_Num_plus : AllSound C0 T_impl_Num_plus := .cons so_impl_Num_reduced (.nil)
noncomputable def t_impl_Num_plus {R : Type} (kx : (Int × (Int × Int)) → Option R) (a0 : (Int × (Int × Int))) (a1 : (Int × (Int × Int))) : Option R :=
  cond (decide ((IntKind.wrap IntKind.i64 ((if (Bool.true = Bool.true) then (if (a1.2.2 > a0.2.2) then a1.2.2 else a0.2.2) else (if (a1.2.2 < a0.2.2) then a1.2.2 else a0.2.2)) - a0.2.2)) < (0 : Int)))
  (none)
  (cond (decide ((IntKind.wrap IntKind.i64 ((if (Bool.true = Bool.true) then (if (a1.2.2 > a0.2.2) then a1.2.2 else a0.2.2) else (if (a1.2.2 < a0.2.2) then a1.2.2 else a0.2.2)) - a1.2.2)) < (0 : Int)))
   (none)
   (cond (decide ((IntKind.wrap IntKind.i64 ((if (Bool.true = Bool.true) then (if (a1.2.2 > a0.2.2) then a1.2.2 else a0.2.2) else (if (a1.2.2 < a0.2.2) then a1.2.2 else a0.2.2)) - a0.2.2)) < (0 : Int)))
    (none)
    (cond (decide ((IntKind.wrap IntKind.i64 ((if (Bool.true = Bool.true) then (if (a1.2.2 > a0.2.2) then a1.2.2 else a0.2.2) else (if (a1.2.2 < a0.2.2) then a1.2.2 else a0.2.2)) - a1.2.2)) < (0 : Int)))
     (none)
     (Option.bind (g_impl_Num_reduced ((IntKind.wrap IntKind.i64 ((IntKind.wrap IntKind.i64 (a0.1 * ((2 : Int) ^ (Min.min (Int.toNat (IntKind.wrap IntKind.i64 ((if (Bool.true = Bool.true) then (if (a1.2.2 > a0.2.2) then a1.2.2 else a0.2.2) else (if (a1.2.2 < a0.2.2) then a1.2.2 else a0.2.2)) - a0.2.2))) 64)))) + (IntKind.wrap IntKind.i64 (a1.1 * ((2 : Int) ^ (Min.min (Int.toNat (IntKind.wrap IntKind.i64 ((if (Bool.true = Bool.true) then (if (a1.2.2 > a0.2.2) then a1.2.2 else a0.2.2) else (if (a1.2.2 < a0.2.2) then a1.2.2 else a0.2.2)) - a1.2.2))) 64)))))), ((IntKind.wrap IntKind.i64 ((IntKind.wrap IntKind.i64 (a0.2.1 * ((2 : Int) ^ (Min.min (Int.toNat (IntKind.wrap IntKind.i64 ((if (Bool.true = Bool.true) then (if (a1.2.2 > a0.2.2) then a1.2.2 else a0.2.2) else (if (a1.2.2 < a0.2.2) then a1.2.2 else a0.2.2)) - a0.2.2))) 64)))) + (IntKind.wrap IntKind.i64 (a1.2.1 * ((2 : Int) ^ (Min.min (Int.toNat (IntKind.wrap IntKind.i64 ((if (Bool.true = Bool.true) then (if (a1.2.2 > a0.2.2) then a1.2.2 else a0.2.2) else (if (a1.2.2 < a0.2.2) then a1.2.2 else a0.2.2)) - a1.2.2))) 64)))))), (if (Bool.true = Bool.true) then (if (a1.2.2 > a0.2.2) then a1.2.2 else a0.2.2) else (if (a1.2.2 < a0.2.2) then a1.2.2 else a0.2.2))))) fun y222 =>
      kx y222))))
noncomputable def g_impl_Num_plus (a0 : (Int × (Int × Int))) (a1 : (Int × (Int × Int))) : Option ((Int × (Int × Int))) := t_impl_Num_plus some a0 a1
theorem nat_impl_Num_plus {R : Type} (kx : (Int × (Int × Int)) → Option R) (a0 : (Int × (Int × Int))) (a1 : (Int × (Int × Int))) : t_impl_Num_plus kx a0 a1 = (g_impl_Num_plus a0 a1).bind kx := by
  unfold g_impl_Num_plus t_impl_Num_plus
  exact nat_cond (rfl) (nat_cond (rfl) (nat_cond (rfl) (nat_cond (rfl) (nat_bind fun _ => rfl))))
abbrev as_impl_Num_plus : List AX := [.val true (.pair (.int .i64) (.pair (.int .i64) (.int .i64))), .val true (.pair (.int .i64) (.pair (.int .i64) (.int .i64)))]
abbrev en_impl_Num_plus : (Int × (Int × Int)) → AV × List CV := fun b => (.one ⟨true, [(.v (.int .i64 b.1)), (.v (.int .i64 b.2.1)), (.v (.int .i64 b.2.2))]⟩, [])
noncomputable abbrev k_impl_Num_plus : Contract := .fx as_impl_Num_plus ((Int × (Int × Int))) (fun z => g_impl_Num_plus z.1 z.2.1) en_impl_Num_plus
theorem r_impl_Num_plus (z : argsX as_impl_Num_plus) : runF (tab C0 T_impl_Num_plus) noHints 1 Tryd.f64 (lentOf as_impl_Num_plus) (xBoxes as_impl_Num_plus z) (xVals as_impl_Num_plus 0 z) K2 = t_impl_Num_plus (fun b => some (en_impl_Num_plus b)) z.1 z.2.1 := by kernel_rfl
theorem so_impl_Num_plus : Sound C0 64 k_impl_Num_plus :=
  Sound.fx a_impl_Num_plus mixed Tryd.func64 (by kernel_rfl) (by kernel_rfl) noHints 1 noHints_ok (fun z => (r_impl_Num_plus z).trans (nat_impl_Num_plus _ z.1 z.2.1))

/-! ### F97 (impl.Num).minus -/
noncomputable def T_impl_Num_minus : List (FuncId × Contract) := [(127, k_impl_Num_neg), (64, k_impl_Num_plus)]
theorem a_impl_Num_minus : AllSound C0 T_impl_Num_minus := .cons so_impl_Num_neg (.cons so_impl_Num_plus (.nil))
noncomputable def t_impl_Num_minus {R : Type} (kx : (Int × (Int × Int)) → Option R) (a0 : (Int × (Int × Int))) (a1 : (Int × (Int × Int))) : Option R :=
  Option.bind (g_impl_Num_neg a1) fun y205 =>
  Option.bind (g_impl_Num_plus a0 y205) fun y223 =>
  kx y223
noncomputable def g_impl_Num_minus (a0 : (Int × (Int × Int))) (a1 : (Int × (Int × Int))) : Option ((Int × (Int × Int))) := t_impl_Num_minus some a0 a1
theorem nat_impl_Num_minus {R : Type} (kx : (Int × (Int × Int)) → Option R) (a0 : (Int × (Int × Int))) (a1 : (Int × (Int × Int))) : t_impl_Num_minus kx a0 a1 = (g_impl_Num_minus a0 a1).bind kx := by
  unfold g_impl_Num_minus t_impl_Num_minus
  exact nat_bind fun _ => nat_bind fun _ => rfl
abbrev as_impl_Num_minus : List AX := [.val true (.pair (.int .i64) (.pair (.int .i64) (.int .i64))), .val true (.pair (.int .i64) (.pair (.int .i64) (.int .i64)))]
abbrev en_impl_Num_minus : (Int × (Int × Int)) → AV × List CV := fun b => (.one ⟨true, [(.v (.int .i64 b.1)), (.v (.int .i64 b.2.1)), (.v (.int .i64 b.2.2))]⟩, [])
noncomputable abbrev k_impl_Num_minus : Contract := .fx as_impl_Num_minus ((Int × (Int × Int))) (fun z => g_impl_Num_minus z.1 z.2.1) en_impl_Num_minus
theorem r_impl_Num_minus (z : argsX as_impl_Num_minus) : runF (tab C0 T_impl_Num_minus) noHints 1 Tryd.f97 (lentOf as_impl_Num_minus) (xBoxes as_impl_Num_minus z) (xVals as_impl_Num_minus 0 z) K2 = t_impl_Num_minus (fun b => some (en_impl_Num_minus b)) z.1 z.2.1 := by kernel_rfl
theorem so_impl_Num_minus : Sound C0 97 k_impl_Num_minus :=
  Sound.fx a_impl_Num_minus mixed Tryd.func97 (by kernel_rfl) (by kernel_rfl) noHints 1 noHints_ok (fun z => (r_impl_Num_minus z).trans (nat_impl_Num_minus _ z.1 z.2.1))

/-! ### F121 (impl.Point).minus -/
noncomputable def T_impl_Point_minus : List (FuncId × Contract) := [(97, k_impl_Num_minus)]
theorem a_impl_Point_minus : AllSound C0 T_impl_Point_minus := .cons so_impl_Num_minus (.nil)
noncomputable def t_impl_Point_minus {R : Type} (kx : ((Int × (Int × Int)) × (Int × (Int × Int))) → Option R) (a0 : ((Int × (Int × Int)) × (Int × (Int × Int)))) (a1 : ((Int × (Int × Int)) × (Int × (Int × Int)))) : Option R :=
  Option.bind (g_impl_Num_minus a0.1 a1.1) fun y224 =>
  Option.bind (g_impl_Num_minus a0.2 a1.2) fun y225 =>
  kx (y224, y225)
noncomputable def g_impl_Point_minus (a0 : ((Int × (Int × Int)) × (Int × (Int × Int)))) (a1 : ((Int × (Int × Int)) × (Int × (Int × Int)))) : Option (((Int × (Int × Int)) × (Int × (Int × Int)))) := t_impl_Point_minus some a0 a1
theorem nat_impl_Point_minus {R : Type} (kx : ((Int × (Int × Int)) × (Int × (Int × Int))) → Option R) (a0 : ((Int × (Int × Int)) × (Int × (Int × Int)))) (a1 : ((Int × (Int × Int)) × (Int × (Int × Int)))) : t_impl_Point_minus kx a0 a1 = (g_impl_Point_minus a0 a1).bind kx := by
  unfold g_impl_Point_minus t_impl_Point_minus
  exact nat_bind fun _ => nat_bind fun _ => rfl
abbrev as_impl_Point_minus : List AX := [.val true (.pair (.pair (.int .i64) (.pair (.int .i64) (.int .i64))) (.pair (.int .i64) (.pair (.int .i64) (.int .i64)))), .val true (.pair (.pair (.int .i64) (.pair (.int .i64) (.int .i64))) (.pair (.int .i64) (.pair (.int .i64) (.int .i64))))]
abbrev en_impl_Point_minus : ((Int × (Int × Int)) × (Int × (Int × Int))) → AV × List CV := fun b => (.one ⟨true, [(.v (.int .i64 b.1.1)), (.v (.int .i64 b.1.2.1)), (.v (.int .i64 b.1.2.2)), (.v (.int .i64 b.2.1)), (.v (.int .i64 b.2.2.1)), (.v (.int .i64 b.2.2.2))]⟩, [])
noncomputable abbrev k_impl_Point_minus : Contract := .fx as_impl_Point_minus (((Int × (Int × Int)) × (Int × (Int × Int)))) (fun z => g_impl_Point_minus z.1 z.2.1) en_impl_Point_minus
theorem r_impl_Point_minus (z : argsX as_impl_Point_minus) : runF (tab C0 T_impl_Point_minus) noHints 1 Tryd.f121 (lentOf as_impl_Point_minus) (xBoxes as_impl_Point_minus z) (xVals as_impl_Point_minus 0 z) K2 = t_impl_Point_minus (fun b => some (en_impl_Point_minus b)) z.1 z.2.1 := by kernel_rfl
theorem so_impl_Point_minus : Sound C0 121 k_impl_Point_minus :=
  Sound.fx a_impl_Point_minus mixed Tryd.func121 (by kernel_rfl) (by kernel_rfl) noHints 1 noHints_ok (fun z => (r_impl_Point_minus z).trans (nat_impl_Point_minus _ z.1 z.2.1))

/-! ### F94 impl.vector -/
noncomputable def T_impl_vector : List (FuncId × Contract) := [(127, k_impl_Num_neg)]
theorem a_impl_vector : AllSound C0 T_impl_vector := .cons so_impl_Num_neg (.nil)
noncomputable def t_impl_vector {R : Type} (kx : ((Int × (Int × Int)) × (Int × (Int × Int))) → Option R) (a0 : Int) : Option R :=
  cond (decide (a0 ≥ (8 : Int)))
  (cond (decide ((IntKind.wrap IntKind.i64 (a0 - (8 : Int))) = ((0 : Nat) : Int)))
   (Option.bind (g_impl_Num_neg ((1 : Int), ((0 : Int), (0 : Int)))) fun y235 =>
    Option.bind (g_impl_Num_neg ((0 : Int), ((0 : Int), (0 : Int)))) fun y236 =>
    kx (y235, y236))
   (cond (decide ((IntKind.wrap IntKind.i64 (a0 - (8 : Int))) = (((0 + 1) : Nat) : Int)))
    (Option.bind (g_impl_Num_neg ((1 : Int), ((0 : Int), (0 : Int)))) fun y237 =>
     Option.bind (g_impl_Num_neg ((-(1 : Int)), ((1 : Int), (0 : Int)))) fun y238 =>
     kx (y237, y238))
    (cond (decide ((IntKind.wrap IntKind.i64 (a0 - (8 : Int))) = ((((0 + 1) + 1) : Nat) : Int)))
     (Option.bind (g_impl_Num_neg ((1 : Int), ((0 : Int), (0 : Int)))) fun y239 =>
      Option.bind (g_impl_Num_neg ((1 : Int), ((0 : Int), (0 : Int)))) fun y240 =>
      kx (y239, y240))
     (cond (decide ((IntKind.wrap IntKind.i64 (a0 - (8 : Int))) = (((((0 + 1) + 1) + 1) : Nat) : Int)))
      (Option.bind (g_impl_Num_neg ((-(1 : Int)), ((1 : Int), (0 : Int)))) fun y241 =>
       Option.bind (g_impl_Num_neg ((1 : Int), ((0 : Int), (0 : Int)))) fun y242 =>
       kx (y241, y242))
      (cond (decide ((IntKind.wrap IntKind.i64 (a0 - (8 : Int))) = ((((((0 + 1) + 1) + 1) + 1) : Nat) : Int)))
       (Option.bind (g_impl_Num_neg ((0 : Int), ((0 : Int), (0 : Int)))) fun y243 =>
        Option.bind (g_impl_Num_neg ((1 : Int), ((0 : Int), (0 : Int)))) fun y244 =>
        kx (y243, y244))
       (cond (decide ((IntKind.wrap IntKind.i64 (a0 - (8 : Int))) = (((((((0 + 1) + 1) + 1) + 1) + 1) : Nat) : Int)))
        (Option.bind (g_impl_Num_neg ((1 : Int), ((-(1 : Int)), (0 : Int)))) fun y245 =>
         Option.bind (g_impl_Num_neg ((1 : Int), ((0 : Int), (0 : Int)))) fun y246 =>
         kx (y245, y246))
        (cond (decide ((IntKind.wrap IntKind.i64 (a0 - (8 : Int))) = ((((((((0 + 1) + 1) + 1) + 1) + 1) + 1) : Nat) : Int)))
         (Option.bind (g_impl_Num_neg ((-(1 : Int)), ((0 : Int), (0 : Int)))) fun y247 =>
          Option.bind (g_impl_Num_neg ((1 : Int), ((0 : Int), (0 : Int)))) fun y248 =>
          kx (y247, y248))
         (cond (decide ((IntKind.wrap IntKind.i64 (a0 - (8 : Int))) = (((((((((0 + 1) + 1) + 1) + 1) + 1) + 1) + 1) : Nat) : Int)))
          (Option.bind (g_impl_Num_neg ((-(1 : Int)), ((0 : Int), (0 : Int)))) fun y249 =>
           Option.bind (g_impl_Num_neg ((-(1 : Int)), ((1 : Int), (0 : Int)))) fun y250 =>
           kx (y249, y250))
          (none)))))))))
  (cond (decide (a0 = ((0 : Nat) : Int)))
   (kx (((1 : Int), ((0 : Int), (0 : Int))), ((0 : Int), ((0 : Int), (0 : Int)))))
   (cond (decide (a0 = (((0 + 1) : Nat) : Int)))
    (kx (((1 : Int), ((0 : Int), (0 : Int))), ((-(1 : Int)), ((1 : Int), (0 : Int)))))
    (cond (decide (a0 = ((((0 + 1) + 1) : Nat) : Int)))
     (kx (((1 : Int), ((0 : Int), (0 : Int))), ((1 : Int), ((0 : Int), (0 : Int)))))
     (cond (decide (a0 = (((((0 + 1) + 1) + 1) : Nat) : Int)))
      (kx (((-(1 : Int)), ((1 : Int), (0 : Int))), ((1 : Int), ((0 : Int), (0 : Int)))))
      (cond (decide (a0 = ((((((0 + 1) + 1) + 1) + 1) : Nat) : Int)))
       (kx (((0 : Int), ((0 : Int), (0 : Int))), ((1 : Int), ((0 : Int), (0 : Int)))))
       (cond (decide (a0 = (((((((0 + 1) + 1) + 1) + 1) + 1) : Nat) : Int)))
        (kx (((1 : Int), ((-(1 : Int)), (0 : Int))), ((1 : Int), ((0 : Int), (0 : Int)))))
        (cond (decide (a0 = ((((((((0 + 1) + 1) + 1) + 1) + 1) + 1) : Nat) : Int)))
         (kx (((-(1 : Int)), ((0 : Int), (0 : Int))), ((1 : Int), ((0 : Int), (0 : Int)))))
         (cond (decide (a0 = (((((((((0 + 1) + 1) + 1) + 1) + 1) + 1) + 1) : Nat) : Int)))
          (kx (((-(1 : Int)), ((0 : Int), (0 : Int))), ((-(1 : Int)), ((1 : Int), (0 : Int)))))
          (none)))))))))
noncomputable def g_impl_vector (a0 : Int) : Option (((Int × (Int × Int)) × (Int × (Int × Int)))) := t_impl_vector some a0
theorem nat_impl_vector {R : Type} (kx : ((Int × (Int × Int)) × (Int × (Int × Int))) → Option R) (a0 : Int) : t_impl_vector kx a0 = (g_impl_vector a0).bind kx := by
  unfold g_impl_vector t_impl_vector
  exact nat_cond (nat_cond (nat_bind fun _ => nat_bind fun _ => rfl) (nat_cond (nat_bind fun _ => nat_bind fun _ => rfl) (nat_cond (nat_bind fun _ => nat_bind fun _ => rfl) (nat_cond (nat_bind fun _ => nat_bind fun _ => rfl) (nat_cond (nat_bind fun _ => nat_bind fun _ => rfl) (nat_cond (nat_bind fun _ => nat_bind fun _ => rfl) (nat_cond (nat_bind fun _ => nat_bind fun _ => rfl) (nat_cond (nat_bind fun _ => nat_bind fun _ => rfl) (rfl))))))))) (nat_cond (rfl) (nat_cond (rfl) (nat_cond (rfl) (nat_cond (rfl) (nat_cond (rfl) (nat_cond (rfl) (nat_cond (rfl) (nat_cond (rfl) (rfl)))))))))
abbrev as_impl_vector : List AX := [.val false (.int .i64)]
abbrev en_impl_vector : ((Int × (Int × Int)) × (Int × (Int × Int))) → AV × List CV := fun b => (.one ⟨true, [(.v (.int .i64 b.1.1)), (.v (.int .i64 b.1.2.1)), (.v (.int .i64 b.1.2.2)), (.v (.int .i64 b.2.1)), (.v (.int .i64 b.2.2.1)), (.v (.int .i64 b.2.2.2))]⟩, [])
noncomputable abbrev k_impl_vector : Contract := .fx as_impl_vector (((Int × (Int × Int)) × (Int × (Int × Int)))) (fun z => g_impl_vector z.1) en_impl_vector
theorem r_impl_vector (z : argsX as_impl_vector) : runF (tab C0 T_impl_vector) noHints 1 Tryd.f94 (lentOf as_impl_vector) (xBoxes as_impl_vector z) (xVals as_impl_vector 0 z) K2 = t_impl_vector (fun b => some (en_impl_vector b)) z.1 := by kernel_rfl
theorem so_impl_vector : Sound C0 94 k_impl_vector :=
  Sound.fx a_impl_vector mixed Tryd.func94 (by kernel_rfl) (by kernel_rfl) noHints 1 noHints_ok (fun z => (r_impl_vector z).trans (nat_impl_vector _ z.1))

/-! ### F98 (impl.Num).times -/
noncomputable def T_impl_Num_times : List (FuncId × Contract) := [(116, k_impl_Num_reduced)]
theorem a_impl_Num_times : AllSound C0 T_impl_Num_times := .cons so_impl_Num_reduced (.nil)
noncomputable def t_impl_Num_times {R : Type} (kx : (Int × (Int × Int)) → Option R) (a0 : (Int × (Int × Int))) (a1 : (Int × (Int × Int))) : Option R :=
  Option.bind (g_impl_Num_reduced ((IntKind.wrap IntKind.i64 ((IntKind.wrap IntKind.i64 (a0.1 * a1.1)) + (IntKind.wrap IntKind.i64 ((IntKind.wrap IntKind.i64 ((2 : Int) * a0.2.1)) * a1.2.1)))), ((IntKind.wrap IntKind.i64 ((IntKind.wrap IntKind.i64 (a0.1 * a1.2.1)) + (IntKind.wrap IntKind.i64 (a0.2.1 * a1.1)))), (IntKind.wrap IntKind.i64 (a0.2.2 + a1.2.2))))) fun y256 =>
  kx y256
noncomputable def g_impl_Num_times (a0 : (Int × (Int × Int))) (a1 : (Int × (Int × Int))) : Option ((Int × (Int × Int))) := t_impl_Num_times some a0 a1
theorem nat_impl_Num_times {R : Type} (kx : (Int × (Int × Int)) → Option R) (a0 : (Int × (Int × Int))) (a1 : (Int × (Int × Int))) : t_impl_Num_times kx a0 a1 = (g_impl_Num_times a0 a1).bind kx := by
  unfold g_impl_Num_times t_impl_Num_times
  exact nat_bind fun _ => rfl
abbrev as_impl_Num_times : List AX := [.val true (.pair (.int .i64) (.pair (.int .i64) (.int .i64))), .val true (.pair (.int .i64) (.pair (.int .i64) (.int .i64)))]
abbrev en_impl_Num_times : (Int × (Int × Int)) → AV × List CV := fun b => (.one ⟨true, [(.v (.int .i64 b.1)), (.v (.int .i64 b.2.1)), (.v (.int .i64 b.2.2))]⟩, [])
noncomputable abbrev k_impl_Num_times : Contract := .fx as_impl_Num_times ((Int × (Int × Int))) (fun z => g_impl_Num_times z.1 z.2.1) en_impl_Num_times
theorem r_impl_Num_times (z : argsX as_impl_Num_times) : runF (tab C0 T_impl_Num_times) noHints 1 Tryd.f98 (lentOf as_impl_Num_times) (xBoxes as_impl_Num_times z) (xVals as_impl_Num_times 0 z) K2 = t_impl_Num_times (fun b => some (en_impl_Num_times b)) z.1 z.2.1 := by kernel_rfl
theorem so_impl_Num_times : Sound C0 98 k_impl_Num_times :=
  Sound.fx a_impl_Num_times mixed Tryd.func98 (by kernel_rfl) (by kernel_rfl) noHints 1 noHints_ok (fun z => (r_impl_Num_times z).trans (nat_impl_Num_times _ z.1 z.2.1))

/-! ### F117 (impl.Point).cross -/
noncomputable def T_impl_Point_cross : List (FuncId × Contract) := [(98, k_impl_Num_times), (97, k_impl_Num_minus)]
theorem a_impl_Point_cross : AllSound C0 T_impl_Point_cross := .cons so_impl_Num_times (.cons so_impl_Num_minus (.nil))
noncomputable def t_impl_Point_cross {R : Type} (kx : (Int × (Int × Int)) → Option R) (a0 : ((Int × (Int × Int)) × (Int × (Int × Int)))) (a1 : ((Int × (Int × Int)) × (Int × (Int × Int)))) : Option R :=
  Option.bind (g_impl_Num_times a0.1 a1.2) fun y257 =>
  Option.bind (g_impl_Num_times a0.2 a1.1) fun y258 =>
  Option.bind (g_impl_Num_minus y257 y258) fun y259 =>
  kx y259
noncomputable def g_impl_Point_cross (a0 : ((Int × (Int × Int)) × (Int × (Int × Int)))) (a1 : ((Int × (Int × Int)) × (Int × (Int × Int)))) : Option ((Int × (Int × Int))) := t_impl_Point_cross some a0 a1
theorem nat_impl_Point_cross {R : Type} (kx : (Int × (Int × Int)) → Option R) (a0 : ((Int × (Int × Int)) × (Int × (Int × Int)))) (a1 : ((Int × (Int × Int)) × (Int × (Int × Int)))) : t_impl_Point_cross kx a0 a1 = (g_impl_Point_cross a0 a1).bind kx := by
  unfold g_impl_Point_cross t_impl_Point_cross
  exact nat_bind fun _ => nat_bind fun _ => nat_bind fun _ => rfl
abbrev as_impl_Point_cross : List AX := [.val true (.pair (.pair (.int .i64) (.pair (.int .i64) (.int .i64))) (.pair (.int .i64) (.pair (.int .i64) (.int .i64)))), .val true (.pair (.pair (.int .i64) (.pair (.int .i64) (.int .i64))) (.pair (.int .i64) (.pair (.int .i64) (.int .i64))))]
abbrev en_impl_Point_cross : (Int × (Int × Int)) → AV × List CV := fun b => (.one ⟨true, [(.v (.int .i64 b.1)), (.v (.int .i64 b.2.1)), (.v (.int .i64 b.2.2))]⟩, [])
noncomputable abbrev k_impl_Point_cross : Contract := .fx as_impl_Point_cross ((Int × (Int × Int))) (fun z => g_impl_Point_cross z.1 z.2.1) en_impl_Point_cross
theorem r_impl_Point_cross (z : argsX as_impl_Point_cross) : runF (tab C0 T_impl_Point_cross) noHints 1 Tryd.f117 (lentOf as_impl_Point_cross) (xBoxes as_impl_Point_cross z) (xVals as_impl_Point_cross 0 z) K2 = t_impl_Point_cross (fun b => some (en_impl_Point_cross b)) z.1 z.2.1 := by kernel_rfl
theorem so_impl_Point_cross : Sound C0 117 k_impl_Point_cross :=
  Sound.fx a_impl_Point_cross mixed Tryd.func117 (by kernel_rfl) (by kernel_rfl) noHints 1 noHints_ok (fun z => (r_impl_Point_cross z).trans (nat_impl_Point_cross _ z.1 z.2.1))

/-! ### F96 (impl.Point).dot -/
noncomputable def T_impl_Point_dot : List (FuncId × Contract) := [(98, k_impl_Num_times), (64, k_impl_Num_plus)]
theorem a_impl_Point_dot : AllSound C0 T_impl_Point_dot := .cons so_impl_Num_times (.cons so_impl_Num_plus (.nil))
noncomputable def t_impl_Point_dot {R : Type} (kx : (Int × (Int × Int)) → Option R) (a0 : ((Int × (Int × Int)) × (Int × (Int × Int)))) (a1 : ((Int × (Int × Int)) × (Int × (Int × Int)))) : Option R :=
  Option.bind (g_impl_Num_times a0.1 a1.1) fun y263 =>
  Option.bind (g_impl_Num_times a0.2 a1.2) fun y264 =>
  Option.bind (g_impl_Num_plus y263 y264) fun y265 =>
  kx y265
noncomputable def g_impl_Point_dot (a0 : ((Int × (Int × Int)) × (Int × (Int × Int)))) (a1 : ((Int × (Int × Int)) × (Int × (Int × Int)))) : Option ((Int × (Int × Int))) := t_impl_Point_dot some a0 a1
theorem nat_impl_Point_dot {R : Type} (kx : (Int × (Int × Int)) → Option R) (a0 : ((Int × (Int × Int)) × (Int × (Int × Int)))) (a1 : ((Int × (Int × Int)) × (Int × (Int × Int)))) : t_impl_Point_dot kx a0 a1 = (g_impl_Point_dot a0 a1).bind kx := by
  unfold g_impl_Point_dot t_impl_Point_dot
  exact nat_bind fun _ => nat_bind fun _ => nat_bind fun _ => rfl
abbrev as_impl_Point_dot : List AX := [.val true (.pair (.pair (.int .i64) (.pair (.int .i64) (.int .i64))) (.pair (.int .i64) (.pair (.int .i64) (.int .i64)))), .val true (.pair (.pair (.int .i64) (.pair (.int .i64) (.int .i64))) (.pair (.int .i64) (.pair (.int .i64) (.int .i64))))]
abbrev en_impl_Point_dot : (Int × (Int × Int)) → AV × List CV := fun b => (.one ⟨true, [(.v (.int .i64 b.1)), (.v (.int .i64 b.2.1)), (.v (.int .i64 b.2.2))]⟩, [])
noncomputable abbrev k_impl_Point_dot : Contract := .fx as_impl_Point_dot ((Int × (Int × Int))) (fun z => g_impl_Point_dot z.1 z.2.1) en_impl_Point_dot
theorem r_impl_Point_dot (z : argsX as_impl_Point_dot) : runF (tab C0 T_impl_Point_dot) noHints 1 Tryd.f96 (lentOf as_impl_Point_dot) (xBoxes as_impl_Point_dot z) (xVals as_impl_Point_dot 0 z) K2 = t_impl_Point_dot (fun b => some (en_impl_Point_dot b)) z.1 z.2.1 := by kernel_rfl
theorem so_impl_Point_dot : Sound C0 96 k_impl_Point_dot :=
  Sound.fx a_impl_Point_dot mixed Tryd.func96 (by kernel_rfl) (by kernel_rfl) noHints 1 noHints_ok (fun z => (r_impl_Point_dot z).trans (nat_impl_Point_dot _ z.1 z.2.1))

/-! ### F132 impl.signOf -/
noncomputable def T_impl_signOf : List (FuncId × Contract) := []
theorem a_impl_signOf : AllSound C0 T_impl_signOf := .nil
noncomputable def t_impl_signOf {R : Type} (kx : Int → Option R) (a0 : Int) : Option R :=
  kx (if (Bool.true = Bool.true) then (if ((if (Bool.false = Bool.true) then (if (a0 > (1 : Int)) then a0 else (1 : Int)) else (if (a0 < (1 : Int)) then a0 else (1 : Int))) > (-(1 : Int))) then (if (Bool.false = Bool.true) then (if (a0 > (1 : Int)) then a0 else (1 : Int)) else (if (a0 < (1 : Int)) then a0 else (1 : Int))) else (-(1 : Int))) else (if ((if (Bool.false = Bool.true) then (if (a0 > (1 : Int)) then a0 else (1 : Int)) else (if (a0 < (1 : Int)) then a0 else (1 : Int))) < (-(1 : Int))) then (if (Bool.false = Bool.true) then (if (a0 > (1 : Int)) then a0 else (1 : Int)) else (if (a0 < (1 : Int)) then a0 else (1 : Int))) else (-(1 : Int))))
noncomputable def g_impl_signOf (a0 : Int) : Option (Int) := t_impl_signOf some a0
theorem nat_impl_signOf {R : Type} (kx : Int → Option R) (a0 : Int) : t_impl_signOf kx a0 = (g_impl_signOf a0).bind kx := by
  unfold g_impl_signOf t_impl_signOf
  exact rfl
abbrev as_impl_signOf : List AX := [.val false (.int .i64)]
abbrev en_impl_signOf : Int → AV × List CV := fun b => (.one ⟨false, [(.v (.int .i64 b))]⟩, [])
noncomputable abbrev k_impl_signOf : Contract := .fx as_impl_signOf (Int) (fun z => g_impl_signOf z.1) en_impl_signOf
theorem r_impl_signOf (z : argsX as_impl_signOf) : runF (tab C0 T_impl_signOf) noHints 1 Tryd.f132 (lentOf as_impl_signOf) (xBoxes as_impl_signOf z) (xVals as_impl_signOf 0 z) K2 = t_impl_signOf (fun b => some (en_impl_signOf b)) z.1 := by kernel_rfl
theorem so_impl_signOf : Sound C0 132 k_impl_signOf :=
  Sound.fx a_impl_signOf mixed Tryd.func132 (by kernel_rfl) (by kernel_rfl) noHints 1 noHints_ok (fun z => (r_impl_signOf z).trans (nat_impl_signOf _ z.1))

/-! ### F148 impl.abs -/
noncomputable def T_impl_abs : List (FuncId × Contract) := []
theorem a_impl_abs : AllSound C0 T_impl_abs := .nil
noncomputable def t_impl_abs {R : Type} (kx : Int → Option R) (a0 : Int) : Option R :=
  kx (if (Bool.true = Bool.true) then (if ((IntKind.wrap IntKind.i64 ((0 : Int) - a0)) > a0) then (IntKind.wrap IntKind.i64 ((0 : Int) - a0)) else a0) else (if ((IntKind.wrap IntKind.i64 ((0 : Int) - a0)) < a0) then (IntKind.wrap IntKind.i64 ((0 : Int) - a0)) else a0))
noncomputable def g_impl_abs (a0 : Int) : Option (Int) := t_impl_abs some a0
theorem nat_impl_abs {R : Type} (kx : Int → Option R) (a0 : Int) : t_impl_abs kx a0 = (g_impl_abs a0).bind kx := by
  unfold g_impl_abs t_impl_abs
  exact rfl
abbrev as_impl_abs : List AX := [.val false (.int .i64)]
abbrev en_impl_abs : Int → AV × List CV := fun b => (.one ⟨false, [(.v (.int .i64 b))]⟩, [])
noncomputable abbrev k_impl_abs : Contract := .fx as_impl_abs (Int) (fun z => g_impl_abs z.1) en_impl_abs
theorem r_impl_abs (z : argsX as_impl_abs) : runF (tab C0 T_impl_abs) noHints 1 Tryd.f148 (lentOf as_impl_abs) (xBoxes as_impl_abs z) (xVals as_impl_abs 0 z) K2 = t_impl_abs (fun b => some (en_impl_abs b)) z.1 := by kernel_rfl
theorem so_impl_abs : Sound C0 148 k_impl_abs :=
  Sound.fx a_impl_abs mixed Tryd.func148 (by kernel_rfl) (by kernel_rfl) noHints 1 noHints_ok (fun z => (r_impl_abs z).trans (nat_impl_abs _ z.1))

/-! ### F147 math/bits.Mul64 -/
noncomputable def T_math_bits_Mul64 : List (FuncId × Contract) := []
theorem a_math_bits_Mul64 : AllSound C0 T_math_bits_Mul64 := .nil
noncomputable def t_math_bits_Mul64 {R : Type} (kx : Int × Int → Option R) (a0 : Int) (a1 : Int) : Option R :=
  kx ((IntKind.wrap IntKind.u64 ((IntKind.wrap IntKind.u64 ((IntKind.wrap IntKind.u64 ((Int.fdiv a0 ((2 : Int) ^ (Min.min (Int.toNat (32 : Int)) 64))) * (Int.fdiv a1 ((2 : Int) ^ (Min.min (Int.toNat (32 : Int)) 64))))) + (Int.fdiv (IntKind.wrap IntKind.u64 ((IntKind.wrap IntKind.u64 ((Int.fdiv a0 ((2 : Int) ^ (Min.min (Int.toNat (32 : Int)) 64))) * (IntKind.wrap IntKind.u64 (((BitVec.toNat ((BitVec.ofInt 64 a1) &&& (BitVec.ofInt 64 (4294967295 : Int)))) : Nat) : Int)))) + (Int.fdiv (IntKind.wrap IntKind.u64 ((IntKind.wrap IntKind.u64 (((BitVec.toNat ((BitVec.ofInt 64 a0) &&& (BitVec.ofInt 64 (4294967295 : Int)))) : Nat) : Int)) * (IntKind.wrap IntKind.u64 (((BitVec.toNat ((BitVec.ofInt 64 a1) &&& (BitVec.ofInt 64 (4294967295 : Int)))) : Nat) : Int)))) ((2 : Int) ^ (Min.min (Int.toNat (32 : Int)) 64))))) ((2 : Int) ^ (Min.min (Int.toNat (32 : Int)) 64))))) + (Int.fdiv (IntKind.wrap IntKind.u64 ((IntKind.wrap IntKind.u64 (((BitVec.toNat ((BitVec.ofInt 64 (IntKind.wrap IntKind.u64 ((IntKind.wrap IntKind.u64 ((Int.fdiv a0 ((2 : Int) ^ (Min.min (Int.toNat (32 : Int)) 64))) * (IntKind.wrap IntKind.u64 (((BitVec.toNat ((BitVec.ofInt 64 a1) &&& (BitVec.ofInt 64 (4294967295 : Int)))) : Nat) : Int)))) + (Int.fdiv (IntKind.wrap IntKind.u64 ((IntKind.wrap IntKind.u64 (((BitVec.toNat ((BitVec.ofInt 64 a0) &&& (BitVec.ofInt 64 (4294967295 : Int)))) : Nat) : Int)) * (IntKind.wrap IntKind.u64 (((BitVec.toNat ((BitVec.ofInt 64 a1) &&& (BitVec.ofInt 64 (4294967295 : Int)))) : Nat) : Int)))) ((2 : Int) ^ (Min.min (Int.toNat (32 : Int)) 64)))))) &&& (BitVec.ofInt 64 (4294967295 : Int)))) : Nat) : Int)) + (IntKind.wrap IntKind.u64 ((IntKind.wrap IntKind.u64 (((BitVec.toNat ((BitVec.ofInt 64 a0) &&& (BitVec.ofInt 64 (4294967295 : Int)))) : Nat) : Int)) * (Int.fdiv a1 ((2 : Int) ^ (Min.min (Int.toNat (32 : Int)) 64))))))) ((2 : Int) ^ (Min.min (Int.toNat (32 : Int)) 64))))), (IntKind.wrap IntKind.u64 (a0 * a1)))
noncomputable def g_math_bits_Mul64 (a0 : Int) (a1 : Int) : Option (Int × Int) := t_math_bits_Mul64 some a0 a1
theorem nat_math_bits_Mul64 {R : Type} (kx : Int × Int → Option R) (a0 : Int) (a1 : Int) : t_math_bits_Mul64 kx a0 a1 = (g_math_bits_Mul64 a0 a1).bind kx := by
  unfold g_math_bits_Mul64 t_math_bits_Mul64
  exact rfl
abbrev as_math_bits_Mul64 : List AX := [.val false (.int .u64), .val false (.int .u64)]
abbrev en_math_bits_Mul64 : Int × Int → AV × List CV := fun b => (.tup [⟨false, [(.v (.int .u64 b.1))]⟩, ⟨false, [(.v (.int .u64 b.2))]⟩], [])
noncomputable abbrev k_math_bits_Mul64 : Contract := .fx as_math_bits_Mul64 (Int × Int) (fun z => g_math_bits_Mul64 z.1 z.2.1) en_math_bits_Mul64
theorem r_math_bits_Mul64 (z : argsX as_math_bits_Mul64) : runF (tab C0 T_math_bits_Mul64) noHints 1 Tryd.f147 (lentOf as_math_bits_Mul64) (xBoxes as_math_bits_Mul64 z) (xVals as_math_bits_Mul64 0 z) K2 = t_math_bits_Mul64 (fun b => some (en_math_bits_Mul64 b)) z.1 z.2.1 := by kernel_rfl
theorem so_math_bits_Mul64 : Sound C0 147 k_math_bits_Mul64 :=
  Sound.fx a_math_bits_Mul64 mixed Tryd.func147 (by kernel_rfl) (by kernel_rfl) noHints 1 noHints_ok (fun z => (r_math_bits_Mul64 z).trans (nat_math_bits_Mul64 _ z.1 z.2.1))

/-! ### F133 impl.isGreater -/
noncomputable def T_impl_isGreater : List (FuncId × Contract) := [(148, k_impl_abs), (147, k_math_bits_Mul64)]
theorem a_impl_isGreater : AllSound C0 T_impl_isGreater := .cons so_impl_abs (.cons so_math_bits_Mul64 (.nil))
noncomputable def t_impl_isGreater {R : Type} (kx : Bool → Option R) (a0 : Int) (a1 : Int) : Option R :=
  Option.bind (g_impl_abs a0) fun y274 =>
  Option.bind (g_impl_abs a0) fun y275 =>
  Option.bind (g_math_bits_Mul64 (IntKind.wrap IntKind.u64 y274) (IntKind.wrap IntKind.u64 y275)) fun y278 =>
  Option.bind (g_impl_abs a1) fun y279 =>
  Option.bind (g_impl_abs a1) fun y280 =>
  Option.bind (g_math_bits_Mul64 (IntKind.wrap IntKind.u64 y279) (IntKind.wrap IntKind.u64 y280)) fun y281 =>
  cond (decide (y278.1 > (IntKind.wrap IntKind.u64 (((BitVec.toNat ((BitVec.ofInt 64 (IntKind.wrap IntKind.u64 (y281.1 * ((2 : Int) ^ (Min.min (Int.toNat (1 : Int)) 64))))) ||| (BitVec.ofInt 64 (Int.fdiv y281.2 ((2 : Int) ^ (Min.min (Int.toNat (63 : Int)) 64)))))) : Nat) : Int))))
  (kx Bool.true)
  (cond (y278.1 == (IntKind.wrap IntKind.u64 (((BitVec.toNat ((BitVec.ofInt 64 (IntKind.wrap IntKind.u64 (y281.1 * ((2 : Int) ^ (Min.min (Int.toNat (1 : Int)) 64))))) ||| (BitVec.ofInt 64 (Int.fdiv y281.2 ((2 : Int) ^ (Min.min (Int.toNat (63 : Int)) 64)))))) : Nat) : Int)))
   (kx (decide (y278.2 > (IntKind.wrap IntKind.u64 (y281.2 * ((2 : Int) ^ (Min.min (Int.toNat (1 : Int)) 64)))))))
   (kx Bool.false))
noncomputable def g_impl_isGreater (a0 : Int) (a1 : Int) : Option (Bool) := t_impl_isGreater some a0 a1
theorem nat_impl_isGreater {R : Type} (kx : Bool → Option R) (a0 : Int) (a1 : Int) : t_impl_isGreater kx a0 a1 = (g_impl_isGreater a0 a1).bind kx := by
  unfold g_impl_isGreater t_impl_isGreater
  exact nat_bind fun _ => nat_bind fun _ => nat_bind fun _ => nat_bind fun _ => nat_bind fun _ => nat_bind fun _ => nat_cond (rfl) (nat_cond (rfl) (rfl))
abbrev as_impl_isGreater : List AX := [.val false (.int .i64), .val false (.int .i64)]
abbrev en_impl_isGreater : Bool → AV × List CV := fun b => (.one ⟨false, [(.v (.bool b))]⟩, [])
noncomputable abbrev k_impl_isGreater : Contract := .fx as_impl_isGreater (Bool) (fun z => g_impl_isGreater z.1 z.2.1) en_impl_isGreater
theorem r_impl_isGreater (z : argsX as_impl_isGreater) : runF (tab C0 T_impl_isGreater) noHints 1 Tryd.f133 (lentOf as_impl_isGreater) (xBoxes as_impl_isGreater z) (xVals as_impl_isGreater 0 z) K2 = t_impl_isGreater (fun b => some (en_impl_isGreater b)) z.1 z.2.1 := by kernel_rfl
theorem so_impl_isGreater : Sound C0 133 k_impl_isGreater :=
  Sound.fx a_impl_isGreater mixed Tryd.func133 (by kernel_rfl) (by kernel_rfl) noHints 1 noHints_ok (fun z => (r_impl_isGreater z).trans (nat_impl_isGreater _ z.1 z.2.1))

/-! ### F111 (impl.Num).sign -/
noncomputable def T_impl_Num_sign : List (FuncId × Contract) := [(132, k_impl_signOf), (133, k_impl_isGreater)]
theorem a_impl_Num_sign : AllSound C0 T_impl_Num_sign := .cons so_impl_signOf (.cons so_impl_isGreater (.nil))
noncomputable def t_impl_Num_sign {R : Type} (kx : Int → Option R) (a0 : (Int × (Int × Int))) : Option R :=
  Option.bind (g_impl_signOf a0.1) fun y269 =>
  Option.bind (g_impl_signOf a0.2.1) fun y270 =>
  cond (y269 == y270)
  (kx y269)
  (cond (y270 == (0 : Int))
   (kx y269)
   (cond (y269 == (0 : Int))
    (kx y270)
    (Option.bind (g_impl_isGreater a0.1 a0.2.1) fun y282 =>
     cond (!y282)
     (kx y270)
     (kx y269))))
noncomputable def g_impl_Num_sign (a0 : (Int × (Int × Int))) : Option (Int) := t_impl_Num_sign some a0
theorem nat_impl_Num_sign {R : Type} (kx : Int → Option R) (a0 : (Int × (Int × Int))) : t_impl_Num_sign kx a0 = (g_impl_Num_sign a0).bind kx := by
  unfold g_impl_Num_sign t_impl_Num_sign
  exact nat_bind fun _ => nat_bind fun _ => nat_cond (rfl) (nat_cond (rfl) (nat_cond (rfl) (nat_bind fun _ => nat_cond (rfl) (rfl))))
abbrev as_impl_Num_sign : List AX := [.val true (.pair (.int .i64) (.pair (.int .i64) (.int .i64)))]
abbrev en_impl_Num_sign : Int → AV × List CV := fun b => (.one ⟨false, [(.v (.int .i64 b))]⟩, [])
noncomputable abbrev k_impl_Num_sign : Contract := .fx as_impl_Num_sign (Int) (fun z => g_impl_Num_sign z.1) en_impl_Num_sign
theorem r_impl_Num_sign (z : argsX as_impl_Num_sign) : runF (tab C0 T_impl_Num_sign) noHints 1 Tryd.f111 (lentOf as_impl_Num_sign) (xBoxes as_impl_Num_sign z) (xVals as_impl_Num_sign 0 z) K2 = t_impl_Num_sign (fun b => some (en_impl_Num_sign b)) z.1 := by kernel_rfl
theorem so_impl_Num_sign : Sound C0 111 k_impl_Num_sign :=
  Sound.fx a_impl_Num_sign mixed Tryd.func111 (by kernel_rfl) (by kernel_rfl) noHints 1 noHints_ok (fun z => (r_impl_Num_sign z).trans (nat_impl_Num_sign _ z.1))

/-! ### F74 impl.direction -/
noncomputable def T_impl_direction : List (FuncId × Contract) := [(121, k_impl_Point_minus), (94, k_impl_vector), (117, k_impl_Point_cross), (96, k_impl_Point_dot), (111, k_impl_Num_sign)]
theorem a_impl_direction : AllSound C0 T_impl_direction := .cons so_impl_Point_minus (.cons so_impl_vector (.cons so_impl_Point_cross (.cons so_impl_Point_dot (.cons so_impl_Num_sign (.nil)))))
abbrev s_impl_direction_4 : LS := ⟨[(false, [(.ptr 5 0)]), (false, [(.int .i64)])], [(false, [(.int .i64), (.int .i64), (.int .i64), (.int .i64), (.int .i64), (.int .i64)])], []⟩
abbrev e_impl_direction_4_0 : LS := ⟨[(false, [(.int .i64)])], [], []⟩
abbrev d_impl_direction_4_0 (v0 : Int) : e_impl_direction_4_0.T := (((v0, ()), ()), (), ())
abbrev e_impl_direction_4_1 : LS := ⟨[(false, [.undef])], [], []⟩
abbrev d_impl_direction_4_1 : e_impl_direction_4_1.T := ((((), ()), ()), (), ())
abbrev x_impl_direction_4 : List (Ex × LS) := [(.ret, e_impl_direction_4_0), (.exit 0, e_impl_direction_4_1)]
abbrev m_impl_direction_4 (x11 : Int) (b0_0 : Int) (b0_1 : Int) (b0_2 : Int) (b0_3 : Int) (b0_4 : Int) (b0_5 : Int) : s_impl_direction_4.T := ((((), ()), (x11, ()), ()), ((b0_0, b0_1, b0_2, b0_3, b0_4, b0_5, ()), ()), ())
noncomputable def u_impl_direction_4 {R : Type} (nx : s_impl_direction_4.T → Option R) (hx : exH R x_impl_direction_4) (x11 : Int) (b0_0 : Int) (b0_1 : Int) (b0_2 : Int) (b0_3 : Int) (b0_4 : Int) (b0_5 : Int) : Option R :=
  cond (decide (x11 < (16 : Int)))
  (Option.bind (g_impl_vector x11) fun y251 =>
   Option.bind (g_impl_Point_cross y251 ((b0_0, (b0_1, b0_2)), (b0_3, (b0_4, b0_5)))) fun y260 =>
   cond ((y260.1 == (0 : Int)) && ((y260.2.1 == (0 : Int)) && ((y260.2.2 == (0 : Int)) && Bool.true)))
   (Option.bind (g_impl_Point_dot y251 ((b0_0, (b0_1, b0_2)), (b0_3, (b0_4, b0_5)))) fun y266 =>
    Option.bind (g_impl_Num_sign y266) fun y283 =>
    cond (decide (y283 > (0 : Int)))
    (hx.1 (d_impl_direction_4_0 x11))
    (nx (m_impl_direction_4 (IntKind.wrap IntKind.i64 (x11 + (1 : Int))) b0_0 b0_1 b0_2 b0_3 b0_4 b0_5)))
   (nx (m_impl_direction_4 (IntKind.wrap IntKind.i64 (x11 + (1 : Int))) b0_0 b0_1 b0_2 b0_3 b0_4 b0_5)))
  (hx.2.1 (d_impl_direction_4_1))
noncomputable def t_impl_direction_4 {R : Type} (nx : s_impl_direction_4.T → Option R) (hx : exH R x_impl_direction_4) (z : s_impl_direction_4.T) : Option R := u_impl_direction_4 nx hx z.1.2.1.1 z.2.1.1.1 z.2.1.1.2.1 z.2.1.1.2.2.1 z.2.1.1.2.2.2.1 z.2.1.1.2.2.2.2.1 z.2.1.1.2.2.2.2.2.1
theorem nat_impl_direction_4 : Natural @t_impl_direction_4 := fun R nx hx z => by
  show u_impl_direction_4 nx hx z.1.2.1.1 z.2.1.1.1 z.2.1.1.2.1 z.2.1.1.2.2.1 z.2.1.1.2.2.2.1 z.2.1.1.2.2.2.2.1 z.2.1.1.2.2.2.2.2.1 = (u_impl_direction_4 (fun y => some (.inl y)) (hIn x_impl_direction_4 fun x => some (.inr x)) z.1.2.1.1 z.2.1.1.1 z.2.1.1.2.1 z.2.1.1.2.2.1 z.2.1.1.2.2.2.1 z.2.1.1.2.2.2.2.1 z.2.1.1.2.2.2.2.2.1).bind (goOn nx hx)
  unfold u_impl_direction_4
  exact nat_cond (nat_bind fun _ => nat_bind fun _ => nat_cond (nat_bind fun _ => nat_bind fun _ => nat_cond (rfl) (rfl)) (rfl)) (rfl)
noncomputable def w_impl_direction_4 : s_impl_direction_4.T → Option (exT x_impl_direction_4) := wOf @t_impl_direction_4
theorem wq_impl_direction_4 (x11 : Int) (b0_0 : Int) (b0_1 : Int) (b0_2 : Int) (b0_3 : Int) (b0_4 : Int) (b0_5 : Int) : w_impl_direction_4 (m_impl_direction_4 x11 b0_0 b0_1 b0_2 b0_3 b0_4 b0_5) = u_impl_direction_4 w_impl_direction_4 (hIn x_impl_direction_4 some) x11 b0_0 b0_1 b0_2 b0_3 b0_4 b0_5 := wOf_eq nat_impl_direction_4 _
def lh_impl_direction_4 : LoopHint := ⟨[5, 11], [5], [4], []⟩
noncomputable def h_impl_direction : Hints Rv := ⟨fun k => match k with | 4 => lh_impl_direction_4 | _ => ⟨[], [], [], []⟩, fun k => match k with | 4 => some (loopX s_impl_direction_4 x_impl_direction_4 w_impl_direction_4) | _ => none⟩
theorem st_impl_direction_4 (n : Nat) (z : s_impl_direction_4.T) (k : Ex → Live → Option Rv) : loopN ⟨30, 30⟩ lh_impl_direction_4 (den (tab C0 T_impl_direction) ⟨30, 30⟩ h_impl_direction 1 (loopOf Tryd.f74 3)) (n + 1) (s_impl_direction_4.enc z) k =
    t_impl_direction_4 (fun y => loopN ⟨30, 30⟩ lh_impl_direction_4 (den (tab C0 T_impl_direction) ⟨30, 30⟩ h_impl_direction 1 (loopOf Tryd.f74 3)) n (s_impl_direction_4.enc y) k) (hK k x_impl_direction_4) z := by kernel_rfl
theorem hs_impl_direction : HintsOk (tab C0 T_impl_direction) ⟨30, 30⟩ h_impl_direction 1 (loops (codeOf Tryd.f74)) := by
  have hl : loops (codeOf Tryd.f74) = [loopOf Tryd.f74 3] := by kernel_rfl
  rw [hl]
  exact HintsOk.cons (n := 4) (lh := lh_impl_direction_4) (S := loopX s_impl_direction_4 x_impl_direction_4 w_impl_direction_4) (by kernel_rfl) rfl rfl (loopX_ok nat_impl_direction_4 st_impl_direction_4)
    (HintsOk.nil)
noncomputable def t_impl_direction {R : Type} (kx : Int → Option R) (a0 : ((Int × (Int × Int)) × (Int × (Int × Int)))) (a1 : ((Int × (Int × Int)) × (Int × (Int × Int)))) : Option R :=
  Option.bind (g_impl_Point_minus a1 a0) fun y226 =>
  Option.bind (w_impl_direction_4 (m_impl_direction_4 (0 : Int) y226.1.1 y226.1.2.1 y226.1.2.2 y226.2.1 y226.2.2.1 y226.2.2.2)) (exC x_impl_direction_4
  (fun e284 =>
   kx (e284.1.1.1 : Int), fun _ =>
   kx (-(1 : Int)), ()))
noncomputable def g_impl_direction (a0 : ((Int × (Int × Int)) × (Int × (Int × Int)))) (a1 : ((Int × (Int × Int)) × (Int × (Int × Int)))) : Option (Int) := t_impl_direction some a0 a1
theorem nat_impl_direction {R : Type} (kx : Int → Option R) (a0 : ((Int × (Int × Int)) × (Int × (Int × Int)))) (a1 : ((Int × (Int × Int)) × (Int × (Int × Int)))) : t_impl_direction kx a0 a1 = (g_impl_direction a0 a1).bind kx := by
  unfold g_impl_direction t_impl_direction
  exact nat_bind fun _ => nat_exC ⟨fun _ => rfl, fun _ => rfl, trivial⟩
abbrev as_impl_direction : List AX := [.val true (.pair (.pair (.int .i64) (.pair (.int .i64) (.int .i64))) (.pair (.int .i64) (.pair (.int .i64) (.int .i64)))), .val true (.pair (.pair (.int .i64) (.pair (.int .i64) (.int .i64))) (.pair (.int .i64) (.pair (.int .i64) (.int .i64))))]
abbrev en_impl_direction : Int → AV × List CV := fun b => (.one ⟨false, [(.v (.int .i64 b))]⟩, [])
noncomputable abbrev k_impl_direction : Contract := .fx as_impl_direction (Int) (fun z => g_impl_direction z.1 z.2.1) en_impl_direction
theorem r_impl_direction (z : argsX as_impl_direction) : runF (tab C0 T_impl_direction) h_impl_direction 1 Tryd.f74 (lentOf as_impl_direction) (xBoxes as_impl_direction z) (xVals as_impl_direction 0 z) K2 = t_impl_direction (fun b => some (en_impl_direction b)) z.1 z.2.1 := by kernel_rfl
theorem so_impl_direction : Sound C0 74 k_impl_direction :=
  Sound.fx a_impl_direction mixed Tryd.func74 (by kernel_rfl) (by kernel_rfl) h_impl_direction 1 hs_impl_direction (fun z => (r_impl_direction z).trans (nat_impl_direction _ z.1 z.2.1))

/-! ### F95 (impl.Line).normal -/
noncomputable def T_impl_Line_normal : List (FuncId × Contract) := [(94, k_impl_vector)]
theorem a_impl_Line_normal : AllSound C0 T_impl_Line_normal := .cons so_impl_vector (.nil)
noncomputable def t_impl_Line_normal {R : Type} (kx : ((Int × (Int × Int)) × (Int × (Int × Int))) → Option R) (a0 : (Int × (Int × (Int × Int)))) : Option R :=
  Option.bind (g_impl_vector (IntKind.wrap IntKind.i64 (a0.1 + (4 : Int)))) fun y291 =>
  kx y291
noncomputable def g_impl_Line_normal (a0 : (Int × (Int × (Int × Int)))) : Option (((Int × (Int × Int)) × (Int × (Int × Int)))) := t_impl_Line_normal some a0
theorem nat_impl_Line_normal {R : Type} (kx : ((Int × (Int × Int)) × (Int × (Int × Int))) → Option R) (a0 : (Int × (Int × (Int × Int)))) : t_impl_Line_normal kx a0 = (g_impl_Line_normal a0).bind kx := by
  unfold g_impl_Line_normal t_impl_Line_normal
  exact nat_bind fun _ => rfl
abbrev as_impl_Line_normal : List AX := [.val true (.pair (.int .i64) (.pair (.int .i64) (.pair (.int .i64) (.int .i64))))]
abbrev en_impl_Line_normal : ((Int × (Int × Int)) × (Int × (Int × Int))) → AV × List CV := fun b => (.one ⟨true, [(.v (.int .i64 b.1.1)), (.v (.int .i64 b.1.2.1)), (.v (.int .i64 b.1.2.2)), (.v (.int .i64 b.2.1)), (.v (.int .i64 b.2.2.1)), (.v (.int .i64 b.2.2.2))]⟩, [])
noncomputable abbrev k_impl_Line_normal : Contract := .fx as_impl_Line_normal (((Int × (Int × Int)) × (Int × (Int × Int)))) (fun z => g_impl_Line_normal z.1) en_impl_Line_normal
theorem r_impl_Line_normal (z : argsX as_impl_Line_normal) : runF (tab C0 T_impl_Line_normal) noHints 1 Tryd.f95 (lentOf as_impl_Line_normal) (xBoxes as_impl_Line_normal z) (xVals as_impl_Line_normal 0 z) K2 = t_impl_Line_normal (fun b => some (en_impl_Line_normal b)) z.1 := by kernel_rfl
theorem so_impl_Line_normal : Sound C0 95 k_impl_Line_normal :=
  Sound.fx a_impl_Line_normal mixed Tryd.func95 (by kernel_rfl) (by kernel_rfl) noHints 1 noHints_ok (fun z => (r_impl_Line_normal z).trans (nat_impl_Line_normal _ z.1))

/-! ### F57 impl.lineAt -/
noncomputable def T_impl_lineAt : List (FuncId × Contract) := [(95, k_impl_Line_normal), (96, k_impl_Point_dot)]
theorem a_impl_lineAt : AllSound C0 T_impl_lineAt := .cons so_impl_Line_normal (.cons so_impl_Point_dot (.nil))
noncomputable def t_impl_lineAt {R : Type} (kx : (Int × (Int × (Int × Int))) → Option R) (a0 : ((Int × (Int × Int)) × (Int × (Int × Int)))) (a1 : Int) : Option R :=
  Option.bind (g_impl_Line_normal (a1, ((0 : Int), ((0 : Int), (0 : Int))))) fun y292 =>
  Option.bind (g_impl_Point_dot y292 a0) fun y293 =>
  kx (a1, y293)
noncomputable def g_impl_lineAt (a0 : ((Int × (Int × Int)) × (Int × (Int × Int)))) (a1 : Int) : Option ((Int × (Int × (Int × Int)))) := t_impl_lineAt some a0 a1
theorem nat_impl_lineAt {R : Type} (kx : (Int × (Int × (Int × Int))) → Option R) (a0 : ((Int × (Int × Int)) × (Int × (Int × Int)))) (a1 : Int) : t_impl_lineAt kx a0 a1 = (g_impl_lineAt a0 a1).bind kx := by
  unfold g_impl_lineAt t_impl_lineAt
  exact nat_bind fun _ => nat_bind fun _ => rfl
abbrev as_impl_lineAt : List AX := [.val true (.pair (.pair (.int .i64) (.pair (.int .i64) (.int .i64))) (.pair (.int .i64) (.pair (.int .i64) (.int .i64)))), .val false (.int .i64)]
abbrev en_impl_lineAt : (Int × (Int × (Int × Int))) → AV × List CV := fun b => (.one ⟨true, [(.v (.int .i64 b.1)), (.v (.int .i64 b.2.1)), (.v (.int .i64 b.2.2.1)), (.v (.int .i64 b.2.2.2))]⟩, [])
noncomputable abbrev k_impl_lineAt : Contract := .fx as_impl_lineAt ((Int × (Int × (Int × Int)))) (fun z => g_impl_lineAt z.1 z.2.1) en_impl_lineAt
theorem r_impl_lineAt (z : argsX as_impl_lineAt) : runF (tab C0 T_impl_lineAt) noHints 1 Tryd.f57 (lentOf as_impl_lineAt) (xBoxes as_impl_lineAt z) (xVals as_impl_lineAt 0 z) K2 = t_impl_lineAt (fun b => some (en_impl_lineAt b)) z.1 z.2.1 := by kernel_rfl
theorem so_impl_lineAt : Sound C0 57 k_impl_lineAt :=
  Sound.fx a_impl_lineAt mixed Tryd.func57 (by kernel_rfl) (by kernel_rfl) noHints 1 noHints_ok (fun z => (r_impl_lineAt z).trans (nat_impl_lineAt _ z.1 z.2.1))

/-! ### F38 impl.sideLine -/
noncomputable def T_impl_sideLine : List (FuncId × Contract) := [(74, k_impl_direction), (57, k_impl_lineAt)]
theorem a_impl_sideLine : AllSound C0 T_impl_sideLine := .cons so_impl_direction (.cons so_impl_lineAt (.nil))
noncomputable def t_impl_sideLine {R : Type} (kx : (Int × (Int × (Int × Int))) × Bool → Option R) (a0 : ((Int × (Int × Int)) × (Int × (Int × Int)))) (a1 : ((Int × (Int × Int)) × (Int × (Int × Int)))) : Option R :=
  Option.bind (g_impl_direction a0 a1) fun y287 =>
  Option.bind (g_impl_lineAt a0 (Int.tmod y287 (8 : Int))) fun y294 =>
  kx (y294, (decide (y287 < (8 : Int))))
noncomputable def g_impl_sideLine (a0 : ((Int × (Int × Int)) × (Int × (Int × Int)))) (a1 : ((Int × (Int × Int)) × (Int × (Int × Int)))) : Option ((Int × (Int × (Int × Int))) × Bool) := t_impl_sideLine some a0 a1
theorem nat_impl_sideLine {R : Type} (kx : (Int × (Int × (Int × Int))) × Bool → Option R) (a0 : ((Int × (Int × Int)) × (Int × (Int × Int)))) (a1 : ((Int × (Int × Int)) × (Int × (Int × Int)))) : t_impl_sideLine kx a0 a1 = (g_impl_sideLine a0 a1).bind kx := by
  unfold g_impl_sideLine t_impl_sideLine
  exact nat_bind fun _ => nat_bind fun _ => rfl
abbrev as_impl_sideLine : List AX := [.val true (.pair (.pair (.int .i64) (.pair (.int .i64) (.int .i64))) (.pair (.int .i64) (.pair (.int .i64) (.int .i64)))), .val true (.pair (.pair (.int .i64) (.pair (.int .i64) (.int .i64))) (.pair (.int .i64) (.pair (.int .i64) (.int .i64))))]
abbrev en_impl_sideLine : (Int × (Int × (Int × Int))) × Bool → AV × List CV := fun b => (.tup [⟨true, [(.v (.int .i64 b.1.1)), (.v (.int .i64 b.1.2.1)), (.v (.int .i64 b.1.2.2.1)), (.v (.int .i64 b.1.2.2.2))]⟩, ⟨false, [(.v (.bool b.2))]⟩], [])
noncomputable abbrev k_impl_sideLine : Contract := .fx as_impl_sideLine ((Int × (Int × (Int × Int))) × Bool) (fun z => g_impl_sideLine z.1 z.2.1) en_impl_sideLine
theorem r_impl_sideLine (z : argsX as_impl_sideLine) : runF (tab C0 T_impl_sideLine) noHints 1 Tryd.f38 (lentOf as_impl_sideLine) (xBoxes as_impl_sideLine z) (xVals as_impl_sideLine 0 z) K2 = t_impl_sideLine (fun b => some (en_impl_sideLine b)) z.1 z.2.1 := by kernel_rfl
theorem so_impl_sideLine : Sound C0 38 k_impl_sideLine :=
  Sound.fx a_impl_sideLine mixed Tryd.func38 (by kernel_rfl) (by kernel_rfl) noHints 1 noHints_ok (fun z => (r_impl_sideLine z).trans (nat_impl_sideLine _ z.1 z.2.1))

/-! ### F9 impl.StartItems -/
noncomputable def T_impl_StartItems : List (FuncId × Contract) := [(37, k_impl_SquarePaper), (38, k_impl_sideLine)]
theorem a_impl_StartItems : AllSound C0 T_impl_StartItems := .cons so_impl_SquarePaper (.cons so_impl_sideLine (.nil))
abbrev s_impl_StartItems_8 : LS := ⟨[(false, [(.own (.pair (.pair (.int .i64) (.pair (.int .i64) (.int .i64))) (.pair (.int .i64) (.pair (.int .i64) (.int .i64)))))]), (false, [.str]), (false, [(.own (.pair .str (.pair .bool (.pair (.pair (.pair (.int .i64) (.pair (.int .i64) (.int .i64))) (.pair (.int .i64) (.pair (.int .i64) (.int .i64)))) (.pair (.int .i64) (.pair (.int .i64) (.pair (.int .i64) (.int .i64))))))))]), (false, [(.own (.pair .str (.pair .bool (.pair (.pair (.pair (.int .i64) (.pair (.int .i64) (.int .i64))) (.pair (.int .i64) (.pair (.int .i64) (.int .i64)))) (.pair (.int .i64) (.pair (.int .i64) (.pair (.int .i64) (.int .i64))))))))]), (false, [(.view (.slot 4 0 0) true 0 (.pair (.pair (.int .i64) (.pair (.int .i64) (.int .i64))) (.pair (.int .i64) (.pair (.int .i64) (.int .i64)))))]), (false, [(.int .i64)]), (false, [(.int .i64)])], [], []⟩
abbrev e_impl_StartItems_8_0 : LS := ⟨[(false, [(.own (.pair .str (.pair .bool (.pair (.pair (.pair (.int .i64) (.pair (.int .i64) (.int .i64))) (.pair (.int .i64) (.pair (.int .i64) (.int .i64)))) (.pair (.int .i64) (.pair (.int .i64) (.pair (.int .i64) (.int .i64))))))))]), (false, [(.own (.pair .str (.pair .bool (.pair (.pair (.pair (.int .i64) (.pair (.int .i64) (.int .i64))) (.pair (.int .i64) (.pair (.int .i64) (.int .i64)))) (.pair (.int .i64) (.pair (.int .i64) (.pair (.int .i64) (.int .i64))))))))])], [], []⟩
abbrev d_impl_StartItems_8_0 (v0 : List (ByteArray × (Bool × (((Int × (Int × Int)) × (Int × (Int × Int))) × (Int × (Int × (Int × Int))))))) (v1 : List (ByteArray × (Bool × (((Int × (Int × Int)) × (Int × (Int × Int))) × (Int × (Int × (Int × Int))))))) : e_impl_StartItems_8_0.T := (((v0, ()), (v1, ()), ()), (), ())
abbrev x_impl_StartItems_8 : List (Ex × LS) := [(.exit 0, e_impl_StartItems_8_0)]
abbrev m_impl_StartItems_8 (x4 : List ((Int × (Int × Int)) × (Int × (Int × Int)))) (x6 : ByteArray) (x7 : List (ByteArray × (Bool × (((Int × (Int × Int)) × (Int × (Int × Int))) × (Int × (Int × (Int × Int))))))) (x8 : List (ByteArray × (Bool × (((Int × (Int × Int)) × (Int × (Int × Int))) × (Int × (Int × (Int × Int))))))) (x21 : List ((Int × (Int × Int)) × (Int × (Int × Int)))) (x22 : Int) (x23 : Int) : s_impl_StartItems_8.T := (((x4, ()), (x6, ()), (x7, ()), (x8, ()), (x21, ()), (x22, ()), (x23, ()), ()), (), ())
noncomputable def u_impl_StartItems_8 {R : Type} (nx : s_impl_StartItems_8.T → Option R) (hx : exH R x_impl_StartItems_8) (x4 : List ((Int × (Int × Int)) × (Int × (Int × Int)))) (x6 : ByteArray) (x7 : List (ByteArray × (Bool × (((Int × (Int × Int)) × (Int × (Int × Int))) × (Int × (Int × (Int × Int))))))) (x8 : List (ByteArray × (Bool × (((Int × (Int × Int)) × (Int × (Int × Int))) × (Int × (Int × (Int × Int))))))) (x21 : List ((Int × (Int × Int)) × (Int × (Int × Int)))) (x22 : Int) (x23 : Int) : Option R :=
  cond (decide (x23 < x22))
  (Option.bind (idx x21 x23) fun y194 =>
   Option.bind (idx x4 (Int.tmod (IntKind.wrap IntKind.i64 (x23 + (1 : Int))) (4 : Int))) fun y195 =>
   Option.bind (g_impl_sideLine y194 y195) fun y295 =>
   cond (decide ((0 : Int) ≤ x23))
   (cond (decide (x23 ≤ (IntKind.wrap IntKind.i64 (x23 + (1 : Int)))))
    (cond (decide ((IntKind.wrap IntKind.i64 (x23 + (1 : Int))) ≤ (((ByteArray.size x6) : Nat) : Int)))
     (cond (decide ((((List.length x7) + (List.length [((ByteArray.extract x6 (Int.toNat x23) (Int.toNat (IntKind.wrap IntKind.i64 (x23 + (1 : Int))))), (Bool.false, (y194, ((0 : Int), ((0 : Int), ((0 : Int), (0 : Int)))))))])) * 104) ≤ 70368744177664))
      (cond (decide (((List.length x7) + (List.length [((ByteArray.extract x6 (Int.toNat x23) (Int.toNat (IntKind.wrap IntKind.i64 (x23 + (1 : Int))))), (Bool.false, (y194, ((0 : Int), ((0 : Int), ((0 : Int), (0 : Int)))))))])) ≤ 70368744177664))
       (cond (decide ((0 : Int) ≤ x23))
        (cond (decide (x23 ≤ (IntKind.wrap IntKind.i64 (x23 + (1 : Int)))))
         (cond (decide ((IntKind.wrap IntKind.i64 (x23 + (1 : Int))) ≤ (((ByteArray.size x6) : Nat) : Int)))
          (cond (decide ((0 : Int) ≤ (Int.tmod (IntKind.wrap IntKind.i64 (x23 + (1 : Int))) (4 : Int))))
           (cond (decide ((Int.tmod (IntKind.wrap IntKind.i64 (x23 + (1 : Int))) (4 : Int)) ≤ (IntKind.wrap IntKind.i64 ((Int.tmod (IntKind.wrap IntKind.i64 (x23 + (1 : Int))) (4 : Int)) + (1 : Int)))))
            (cond (decide ((IntKind.wrap IntKind.i64 ((Int.tmod (IntKind.wrap IntKind.i64 (x23 + (1 : Int))) (4 : Int)) + (1 : Int))) ≤ (((ByteArray.size x6) : Nat) : Int)))
             (cond (decide (((((ByteArray.size (ByteArray.extract x6 (Int.toNat x23) (Int.toNat (IntKind.wrap IntKind.i64 (x23 + (1 : Int)))))) + (ByteArray.size (ByteArray.extract x6 (Int.toNat (Int.tmod (IntKind.wrap IntKind.i64 (x23 + (1 : Int))) (4 : Int))) (Int.toNat (IntKind.wrap IntKind.i64 ((Int.tmod (IntKind.wrap IntKind.i64 (x23 + (1 : Int))) (4 : Int)) + (1 : Int))))))) : Nat) : Int) > (if (Bool.true = Bool.true) then (((2 : Int) ^ (64 - 1)) - (1 : Int)) else (((2 : Int) ^ 64) - (1 : Int)))))
              (none)
              (cond (decide ((((List.length x8) + (List.length [(((ByteArray.extract x6 (Int.toNat x23) (Int.toNat (IntKind.wrap IntKind.i64 (x23 + (1 : Int))))) ++ (ByteArray.extract x6 (Int.toNat (Int.tmod (IntKind.wrap IntKind.i64 (x23 + (1 : Int))) (4 : Int))) (Int.toNat (IntKind.wrap IntKind.i64 ((Int.tmod (IntKind.wrap IntKind.i64 (x23 + (1 : Int))) (4 : Int)) + (1 : Int)))))), (Bool.true, ((((0 : Int), ((0 : Int), (0 : Int))), ((0 : Int), ((0 : Int), (0 : Int)))), y295.1)))])) * 104) ≤ 70368744177664))
               (cond (decide (((List.length x8) + (List.length [(((ByteArray.extract x6 (Int.toNat x23) (Int.toNat (IntKind.wrap IntKind.i64 (x23 + (1 : Int))))) ++ (ByteArray.extract x6 (Int.toNat (Int.tmod (IntKind.wrap IntKind.i64 (x23 + (1 : Int))) (4 : Int))) (Int.toNat (IntKind.wrap IntKind.i64 ((Int.tmod (IntKind.wrap IntKind.i64 (x23 + (1 : Int))) (4 : Int)) + (1 : Int)))))), (Bool.true, ((((0 : Int), ((0 : Int), (0 : Int))), ((0 : Int), ((0 : Int), (0 : Int)))), y295.1)))])) ≤ 70368744177664))
                (nx (m_impl_StartItems_8 x4 x6 (x7 ++ [((ByteArray.extract x6 (Int.toNat x23) (Int.toNat (IntKind.wrap IntKind.i64 (x23 + (1 : Int))))), (Bool.false, (y194, ((0 : Int), ((0 : Int), ((0 : Int), (0 : Int)))))))]) (x8 ++ [(((ByteArray.extract x6 (Int.toNat x23) (Int.toNat (IntKind.wrap IntKind.i64 (x23 + (1 : Int))))) ++ (ByteArray.extract x6 (Int.toNat (Int.tmod (IntKind.wrap IntKind.i64 (x23 + (1 : Int))) (4 : Int))) (Int.toNat (IntKind.wrap IntKind.i64 ((Int.tmod (IntKind.wrap IntKind.i64 (x23 + (1 : Int))) (4 : Int)) + (1 : Int)))))), (Bool.true, ((((0 : Int), ((0 : Int), (0 : Int))), ((0 : Int), ((0 : Int), (0 : Int)))), y295.1)))]) x21 x22 (IntKind.wrap IntKind.i64 (x23 + (1 : Int)))))
                (none))
               (none)))
             (none))
            (none))
           (none))
          (none))
         (none))
        (none))
       (none))
      (none))
     (none))
    (none))
   (none))
  (hx.1 (d_impl_StartItems_8_0 x7 x8))
noncomputable def t_impl_StartItems_8 {R : Type} (nx : s_impl_StartItems_8.T → Option R) (hx : exH R x_impl_StartItems_8) (z : s_impl_StartItems_8.T) : Option R := u_impl_StartItems_8 nx hx z.1.1.1 z.1.2.1.1 z.1.2.2.1.1 z.1.2.2.2.1.1 z.1.2.2.2.2.1.1 z.1.2.2.2.2.2.1.1 z.1.2.2.2.2.2.2.1.1
theorem nat_impl_StartItems_8 : Natural @t_impl_StartItems_8 := fun R nx hx z => by
  show u_impl_StartItems_8 nx hx z.1.1.1 z.1.2.1.1 z.1.2.2.1.1 z.1.2.2.2.1.1 z.1.2.2.2.2.1.1 z.1.2.2.2.2.2.1.1 z.1.2.2.2.2.2.2.1.1 = (u_impl_StartItems_8 (fun y => some (.inl y)) (hIn x_impl_StartItems_8 fun x => some (.inr x)) z.1.1.1 z.1.2.1.1 z.1.2.2.1.1 z.1.2.2.2.1.1 z.1.2.2.2.2.1.1 z.1.2.2.2.2.2.1.1 z.1.2.2.2.2.2.2.1.1).bind (goOn nx hx)
  unfold u_impl_StartItems_8
  exact nat_cond (nat_bind fun _ => nat_bind fun _ => nat_bind fun _ => nat_cond (nat_cond (nat_cond (nat_cond (nat_cond (nat_cond (nat_cond (nat_cond (nat_cond (nat_cond (nat_cond (nat_cond (rfl) (nat_cond (nat_cond (rfl) (rfl)) (rfl))) (rfl)) (rfl)) (rfl)) (rfl)) (rfl)) (rfl)) (rfl)) (rfl)) (rfl)) (rfl)) (rfl)) (rfl)
noncomputable def w_impl_StartItems_8 : s_impl_StartItems_8.T → Option (exT x_impl_StartItems_8) := wOf @t_impl_StartItems_8
theorem wq_impl_StartItems_8 (x4 : List ((Int × (Int × Int)) × (Int × (Int × Int)))) (x6 : ByteArray) (x7 : List (ByteArray × (Bool × (((Int × (Int × Int)) × (Int × (Int × Int))) × (Int × (Int × (Int × Int))))))) (x8 : List (ByteArray × (Bool × (((Int × (Int × Int)) × (Int × (Int × Int))) × (Int × (Int × (Int × Int))))))) (x21 : List ((Int × (Int × Int)) × (Int × (Int × Int)))) (x22 : Int) (x23 : Int) : w_impl_StartItems_8 (m_impl_StartItems_8 x4 x6 x7 x8 x21 x22 x23) = u_impl_StartItems_8 w_impl_StartItems_8 (hIn x_impl_StartItems_8 some) x4 x6 x7 x8 x21 x22 x23 := wOf_eq nat_impl_StartItems_8 _
def lh_impl_StartItems_8 : LoopHint := ⟨[4, 6, 7, 8, 21, 22, 23], [], [7, 8], []⟩
noncomputable def h_impl_StartItems : Hints Rv := ⟨fun k => match k with | 8 => lh_impl_StartItems_8 | _ => ⟨[], [], [], []⟩, fun k => match k with | 8 => some (loopX s_impl_StartItems_8 x_impl_StartItems_8 w_impl_StartItems_8) | _ => none⟩
theorem st_impl_StartItems_8 (n : Nat) (z : s_impl_StartItems_8.T) (k : Ex → Live → Option Rv) : loopN ⟨70, 70⟩ lh_impl_StartItems_8 (den (tab C0 T_impl_StartItems) ⟨70, 70⟩ h_impl_StartItems 1 (loopOf Tryd.f9 7)) (n + 1) (s_impl_StartItems_8.enc z) k =
    t_impl_StartItems_8 (fun y => loopN ⟨70, 70⟩ lh_impl_StartItems_8 (den (tab C0 T_impl_StartItems) ⟨70, 70⟩ h_impl_StartItems 1 (loopOf Tryd.f9 7)) n (s_impl_StartItems_8.enc y) k) (hK k x_impl_StartItems_8) z := by kernel_rfl
theorem hs_impl_StartItems : HintsOk (tab C0 T_impl_StartItems) ⟨70, 70⟩ h_impl_StartItems 1 (loops (codeOf Tryd.f9)) := by
  have hl : loops (codeOf Tryd.f9) = [loopOf Tryd.f9 7] := by kernel_rfl
  rw [hl]
  exact HintsOk.cons (n := 8) (lh := lh_impl_StartItems_8) (S := loopX s_impl_StartItems_8 x_impl_StartItems_8 w_impl_StartItems_8) (by kernel_rfl) rfl rfl (loopX_ok nat_impl_StartItems_8 st_impl_StartItems_8)
    (HintsOk.nil)
noncomputable def t_impl_StartItems {R : Type} (kx : (List (ByteArray × (Bool × (((Int × (Int × Int)) × (Int × (Int × Int))) × (Int × (Int × (Int × Int))))))) × Int → Option R) (a0 : Int) : Option R :=
  Option.bind (g_impl_SquarePaper a0) fun y186 =>
  cond (!y186.2)
  (kx ([], (2 : Int)))
  (Option.bind (w_impl_StartItems_8 (m_impl_StartItems_8 y186.1 (ByteArray.mk (Array.mk [97, 98, 99, 100])) [] [] y186.1 (((List.length y186.1) : Nat) : Int) (0 : Int))) (exC x_impl_StartItems_8
   (fun e296 =>
    cond (decide ((((List.length (e296.1.1.1 : List (ByteArray × (Bool × (((Int × (Int × Int)) × (Int × (Int × Int))) × (Int × (Int × (Int × Int)))))))) + (List.length (e296.1.2.1.1 : List (ByteArray × (Bool × (((Int × (Int × Int)) × (Int × (Int × Int))) × (Int × (Int × (Int × Int))))))))) * 104) ≤ 70368744177664))
    (cond (decide (((List.length (e296.1.1.1 : List (ByteArray × (Bool × (((Int × (Int × Int)) × (Int × (Int × Int))) × (Int × (Int × (Int × Int)))))))) + (List.length (e296.1.2.1.1 : List (ByteArray × (Bool × (((Int × (Int × Int)) × (Int × (Int × Int))) × (Int × (Int × (Int × Int))))))))) ≤ 70368744177664))
     (kx (((e296.1.1.1 : List (ByteArray × (Bool × (((Int × (Int × Int)) × (Int × (Int × Int))) × (Int × (Int × (Int × Int))))))) ++ (e296.1.2.1.1 : List (ByteArray × (Bool × (((Int × (Int × Int)) × (Int × (Int × Int))) × (Int × (Int × (Int × Int)))))))), (0 : Int)))
     (none))
    (none), ())))
noncomputable def g_impl_StartItems (a0 : Int) : Option ((List (ByteArray × (Bool × (((Int × (Int × Int)) × (Int × (Int × Int))) × (Int × (Int × (Int × Int))))))) × Int) := t_impl_StartItems some a0
theorem nat_impl_StartItems {R : Type} (kx : (List (ByteArray × (Bool × (((Int × (Int × Int)) × (Int × (Int × Int))) × (Int × (Int × (Int × Int))))))) × Int → Option R) (a0 : Int) : t_impl_StartItems kx a0 = (g_impl_StartItems a0).bind kx := by
  unfold g_impl_StartItems t_impl_StartItems
  exact nat_bind fun _ => nat_cond (rfl) (nat_exC ⟨fun _ => nat_cond (nat_cond (rfl) (rfl)) (rfl), trivial⟩)
abbrev as_impl_StartItems : List AX := [.val false (.int .i64)]
abbrev en_impl_StartItems : (List (ByteArray × (Bool × (((Int × (Int × Int)) × (Int × (Int × Int))) × (Int × (Int × (Int × Int))))))) × Int → AV × List CV := fun b => (.tup [⟨false, [(.own (.pair .str (.pair .bool (.pair (.pair (.pair (.int .i64) (.pair (.int .i64) (.int .i64))) (.pair (.int .i64) (.pair (.int .i64) (.int .i64)))) (.pair (.int .i64) (.pair (.int .i64) (.pair (.int .i64) (.int .i64))))))) b.1)]⟩, ⟨false, [(.v (.int .i64 b.2))]⟩], [])
noncomputable abbrev k_impl_StartItems : Contract := .fx as_impl_StartItems ((List (ByteArray × (Bool × (((Int × (Int × Int)) × (Int × (Int × Int))) × (Int × (Int × (Int × Int))))))) × Int) (fun z => g_impl_StartItems z.1) en_impl_StartItems
theorem r_impl_StartItems (z : argsX as_impl_StartItems) : runF (tab C0 T_impl_StartItems) h_impl_StartItems 1 Tryd.f9 (lentOf as_impl_StartItems) (xBoxes as_impl_StartItems z) (xVals as_impl_StartItems 0 z) K2 = t_impl_StartItems (fun b => some (en_impl_StartItems b)) z.1 := by kernel_rfl
theorem so_impl_StartItems : Sound C0 9 k_impl_StartItems :=
  Sound.fx a_impl_StartItems mixed Tryd.func9 (by kernel_rfl) (by kernel_rfl) h_impl_StartItems 1 hs_impl_StartItems (fun z => (r_impl_StartItems z).trans (nat_impl_StartItems _ z.1))

/-! ### F107 laws.eqNum -/
noncomputable def T_laws_eqNum : List (FuncId × Contract) := []
theorem a_laws_eqNum : AllSound C0 T_laws_eqNum := .nil
noncomputable def t_laws_eqNum {R : Type} (kx : Bool → Option R) (a0 : (Int × (Int × Int))) (a1 : (Int × (Int × Int))) : Option R :=
  cond (a0.1 != a1.1)
  (kx Bool.false)
  (cond (a0.2.1 != a1.2.1)
   (kx Bool.false)
   (cond (a0.2.2 != a1.2.2)
    (kx Bool.false)
    (kx Bool.true)))
noncomputable def g_laws_eqNum (a0 : (Int × (Int × Int))) (a1 : (Int × (Int × Int))) : Option (Bool) := t_laws_eqNum some a0 a1
theorem nat_laws_eqNum {R : Type} (kx : Bool → Option R) (a0 : (Int × (Int × Int))) (a1 : (Int × (Int × Int))) : t_laws_eqNum kx a0 a1 = (g_laws_eqNum a0 a1).bind kx := by
  unfold g_laws_eqNum t_laws_eqNum
  exact nat_cond (rfl) (nat_cond (rfl) (nat_cond (rfl) (rfl)))
abbrev as_laws_eqNum : List AX := [.val true (.pair (.int .i64) (.pair (.int .i64) (.int .i64))), .val true (.pair (.int .i64) (.pair (.int .i64) (.int .i64)))]
abbrev en_laws_eqNum : Bool → AV × List CV := fun b => (.one ⟨false, [(.v (.bool b))]⟩, [])
noncomputable abbrev k_laws_eqNum : Contract := .fx as_laws_eqNum (Bool) (fun z => g_laws_eqNum z.1 z.2.1) en_laws_eqNum
theorem r_laws_eqNum (z : argsX as_laws_eqNum) : runF (tab C0 T_laws_eqNum) noHints 1 Tryd.f107 (lentOf as_laws_eqNum) (xBoxes as_laws_eqNum z) (xVals as_laws_eqNum 0 z) K2 = t_laws_eqNum (fun b => some (en_laws_eqNum b)) z.1 z.2.1 := by kernel_rfl
theorem so_laws_eqNum : Sound C0 107 k_laws_eqNum :=
  Sound.fx a_laws_eqNum mixed Tryd.func107 (by kernel_rfl) (by kernel_rfl) noHints 1 noHints_ok (fun z => (r_laws_eqNum z).trans (nat_laws_eqNum _ z.1 z.2.1))

/-! ### F83 laws.eqPoint -/
noncomputable def T_laws_eqPoint : List (FuncId × Contract) := [(107, k_laws_eqNum)]
theorem a_laws_eqPoint : AllSound C0 T_laws_eqPoint := .cons so_laws_eqNum (.nil)
noncomputable def t_laws_eqPoint {R : Type} (kx : Bool → Option R) (a0 : ((Int × (Int × Int)) × (Int × (Int × Int)))) (a1 : ((Int × (Int × Int)) × (Int × (Int × Int)))) : Option R :=
  Option.bind (g_laws_eqNum a0.1 a1.1) fun y313 =>
  cond (!y313)
  (kx Bool.false)
  (Option.bind (g_laws_eqNum a0.2 a1.2) fun y314 =>
   cond (!y314)
   (kx Bool.false)
   (kx Bool.true))
noncomputable def g_laws_eqPoint (a0 : ((Int × (Int × Int)) × (Int × (Int × Int)))) (a1 : ((Int × (Int × Int)) × (Int × (Int × Int)))) : Option (Bool) := t_laws_eqPoint some a0 a1
theorem nat_laws_eqPoint {R : Type} (kx : Bool → Option R) (a0 : ((Int × (Int × Int)) × (Int × (Int × Int)))) (a1 : ((Int × (Int × Int)) × (Int × (Int × Int)))) : t_laws_eqPoint kx a0 a1 = (g_laws_eqPoint a0 a1).bind kx := by
  unfold g_laws_eqPoint t_laws_eqPoint
  exact nat_bind fun _ => nat_cond (rfl) (nat_bind fun _ => nat_cond (rfl) (rfl))
abbrev as_laws_eqPoint : List AX := [.val true (.pair (.pair (.int .i64) (.pair (.int .i64) (.int .i64))) (.pair (.int .i64) (.pair (.int .i64) (.int .i64)))), .val true (.pair (.pair (.int .i64) (.pair (.int .i64) (.int .i64))) (.pair (.int .i64) (.pair (.int .i64) (.int .i64))))]
abbrev en_laws_eqPoint : Bool → AV × List CV := fun b => (.one ⟨false, [(.v (.bool b))]⟩, [])
noncomputable abbrev k_laws_eqPoint : Contract := .fx as_laws_eqPoint (Bool) (fun z => g_laws_eqPoint z.1 z.2.1) en_laws_eqPoint
theorem r_laws_eqPoint (z : argsX as_laws_eqPoint) : runF (tab C0 T_laws_eqPoint) noHints 1 Tryd.f83 (lentOf as_laws_eqPoint) (xBoxes as_laws_eqPoint z) (xVals as_laws_eqPoint 0 z) K2 = t_laws_eqPoint (fun b => some (en_laws_eqPoint b)) z.1 z.2.1 := by kernel_rfl
theorem so_laws_eqPoint : Sound C0 83 k_laws_eqPoint :=
  Sound.fx a_laws_eqPoint mixed Tryd.func83 (by kernel_rfl) (by kernel_rfl) noHints 1 noHints_ok (fun z => (r_laws_eqPoint z).trans (nat_laws_eqPoint _ z.1 z.2.1))

/-! ### F54 laws.eqLine -/
noncomputable def T_laws_eqLine : List (FuncId × Contract) := [(107, k_laws_eqNum)]
theorem a_laws_eqLine : AllSound C0 T_laws_eqLine := .cons so_laws_eqNum (.nil)
noncomputable def t_laws_eqLine {R : Type} (kx : Bool → Option R) (a0 : (Int × (Int × (Int × Int)))) (a1 : (Int × (Int × (Int × Int)))) : Option R :=
  cond (a0.1 != a1.1)
  (kx Bool.false)
  (Option.bind (g_laws_eqNum a0.2 a1.2) fun y318 =>
   cond (!y318)
   (kx Bool.false)
   (kx Bool.true))
noncomputable def g_laws_eqLine (a0 : (Int × (Int × (Int × Int)))) (a1 : (Int × (Int × (Int × Int)))) : Option (Bool) := t_laws_eqLine some a0 a1
theorem nat_laws_eqLine {R : Type} (kx : Bool → Option R) (a0 : (Int × (Int × (Int × Int)))) (a1 : (Int × (Int × (Int × Int)))) : t_laws_eqLine kx a0 a1 = (g_laws_eqLine a0 a1).bind kx := by
  unfold g_laws_eqLine t_laws_eqLine
  exact nat_cond (rfl) (nat_bind fun _ => nat_cond (rfl) (rfl))
abbrev as_laws_eqLine : List AX := [.val true (.pair (.int .i64) (.pair (.int .i64) (.pair (.int .i64) (.int .i64)))), .val true (.pair (.int .i64) (.pair (.int .i64) (.pair (.int .i64) (.int .i64))))]
abbrev en_laws_eqLine : Bool → AV × List CV := fun b => (.one ⟨false, [(.v (.bool b))]⟩, [])
noncomputable abbrev k_laws_eqLine : Contract := .fx as_laws_eqLine (Bool) (fun z => g_laws_eqLine z.1 z.2.1) en_laws_eqLine
theorem r_laws_eqLine (z : argsX as_laws_eqLine) : runF (tab C0 T_laws_eqLine) noHints 1 Tryd.f54 (lentOf as_laws_eqLine) (xBoxes as_laws_eqLine z) (xVals as_laws_eqLine 0 z) K2 = t_laws_eqLine (fun b => some (en_laws_eqLine b)) z.1 z.2.1 := by kernel_rfl
theorem so_laws_eqLine : Sound C0 54 k_laws_eqLine :=
  Sound.fx a_laws_eqLine mixed Tryd.func54 (by kernel_rfl) (by kernel_rfl) noHints 1 noHints_ok (fun z => (r_laws_eqLine z).trans (nat_laws_eqLine _ z.1 z.2.1))

/-! ### F39 laws.eqItem -/
noncomputable def T_laws_eqItem : List (FuncId × Contract) := [(83, k_laws_eqPoint), (54, k_laws_eqLine)]
theorem a_laws_eqItem : AllSound C0 T_laws_eqItem := .cons so_laws_eqPoint (.cons so_laws_eqLine (.nil))
noncomputable def t_laws_eqItem {R : Type} (kx : Bool → Option R) (a0 : (ByteArray × (Bool × (((Int × (Int × Int)) × (Int × (Int × Int))) × (Int × (Int × (Int × Int))))))) (a1 : (ByteArray × (Bool × (((Int × (Int × Int)) × (Int × (Int × Int))) × (Int × (Int × (Int × Int))))))) : Option R :=
  cond (!((ByteArray.toList a0.1) == (ByteArray.toList a1.1)))
  (kx Bool.false)
  (cond (!(a0.2.1 == a1.2.1))
   (kx Bool.false)
   (Option.bind (g_laws_eqPoint a0.2.2.1 a1.2.2.1) fun y315 =>
    cond (!y315)
    (kx Bool.false)
    (Option.bind (g_laws_eqLine a0.2.2.2 a1.2.2.2) fun y319 =>
     cond (!y319)
     (kx Bool.false)
     (kx Bool.true))))
noncomputable def g_laws_eqItem (a0 : (ByteArray × (Bool × (((Int × (Int × Int)) × (Int × (Int × Int))) × (Int × (Int × (Int × Int))))))) (a1 : (ByteArray × (Bool × (((Int × (Int × Int)) × (Int × (Int × Int))) × (Int × (Int × (Int × Int))))))) : Option (Bool) := t_laws_eqItem some a0 a1
theorem nat_laws_eqItem {R : Type} (kx : Bool → Option R) (a0 : (ByteArray × (Bool × (((Int × (Int × Int)) × (Int × (Int × Int))) × (Int × (Int × (Int × Int))))))) (a1 : (ByteArray × (Bool × (((Int × (Int × Int)) × (Int × (Int × Int))) × (Int × (Int × (Int × Int))))))) : t_laws_eqItem kx a0 a1 = (g_laws_eqItem a0 a1).bind kx := by
  unfold g_laws_eqItem t_laws_eqItem
  exact nat_cond (rfl) (nat_cond (rfl) (nat_bind fun _ => nat_cond (rfl) (nat_bind fun _ => nat_cond (rfl) (rfl))))
abbrev as_laws_eqItem : List AX := [.val true (.pair .str (.pair .bool (.pair (.pair (.pair (.int .i64) (.pair (.int .i64) (.int .i64))) (.pair (.int .i64) (.pair (.int .i64) (.int .i64)))) (.pair (.int .i64) (.pair (.int .i64) (.pair (.int .i64) (.int .i64))))))), .val true (.pair .str (.pair .bool (.pair (.pair (.pair (.int .i64) (.pair (.int .i64) (.int .i64))) (.pair (.int .i64) (.pair (.int .i64) (.int .i64)))) (.pair (.int .i64) (.pair (.int .i64) (.pair (.int .i64) (.int .i64)))))))]
abbrev en_laws_eqItem : Bool → AV × List CV := fun b => (.one ⟨false, [(.v (.bool b))]⟩, [])
noncomputable abbrev k_laws_eqItem : Contract := .fx as_laws_eqItem (Bool) (fun z => g_laws_eqItem z.1 z.2.1) en_laws_eqItem
theorem r_laws_eqItem (z : argsX as_laws_eqItem) : runF (tab C0 T_laws_eqItem) noHints 1 Tryd.f39 (lentOf as_laws_eqItem) (xBoxes as_laws_eqItem z) (xVals as_laws_eqItem 0 z) K2 = t_laws_eqItem (fun b => some (en_laws_eqItem b)) z.1 z.2.1 := by kernel_rfl
theorem so_laws_eqItem : Sound C0 39 k_laws_eqItem :=
  Sound.fx a_laws_eqItem mixed Tryd.func39 (by kernel_rfl) (by kernel_rfl) noHints 1 noHints_ok (fun z => (r_laws_eqItem z).trans (nat_laws_eqItem _ z.1 z.2.1))

/-! ### F10 laws.eqItemS -/
noncomputable def T_laws_eqItemS : List (FuncId × Contract) := [(39, k_laws_eqItem)]
theorem a_laws_eqItemS : AllSound C0 T_laws_eqItemS := .cons so_laws_eqItem (.nil)
abbrev s_laws_eqItemS_5 : LS := ⟨[(false, [(.sl (.pair .str (.pair .bool (.pair (.pair (.pair (.int .i64) (.pair (.int .i64) (.int .i64))) (.pair (.int .i64) (.pair (.int .i64) (.int .i64)))) (.pair (.int .i64) (.pair (.int .i64) (.pair (.int .i64) (.int .i64))))))))]), (false, [(.sl (.pair .str (.pair .bool (.pair (.pair (.pair (.int .i64) (.pair (.int .i64) (.int .i64))) (.pair (.int .i64) (.pair (.int .i64) (.int .i64)))) (.pair (.int .i64) (.pair (.int .i64) (.pair (.int .i64) (.int .i64))))))))]), (false, [(.int .i64)])], [], []⟩
abbrev e_laws_eqItemS_5_0 : LS := ⟨[(false, [.bool])], [], []⟩
abbrev d_laws_eqItemS_5_0 (v0 : Bool) : e_laws_eqItemS_5_0.T := (((v0, ()), ()), (), ())
abbrev e_laws_eqItemS_5_1 : LS := ⟨[(false, [.undef])], [], []⟩
abbrev d_laws_eqItemS_5_1 : e_laws_eqItemS_5_1.T := ((((), ()), ()), (), ())
abbrev x_laws_eqItemS_5 : List (Ex × LS) := [(.ret, e_laws_eqItemS_5_0), (.exit 0, e_laws_eqItemS_5_1)]
abbrev m_laws_eqItemS_5 (x0 : List (ByteArray × (Bool × (((Int × (Int × Int)) × (Int × (Int × Int))) × (Int × (Int × (Int × Int))))))) (x1 : List (ByteArray × (Bool × (((Int × (Int × Int)) × (Int × (Int × Int))) × (Int × (Int × (Int × Int))))))) (x5 : Int) : s_laws_eqItemS_5.T := (((x0, ()), (x1, ()), (x5, ()), ()), (), ())
noncomputable def u_laws_eqItemS_5 {R : Type} (nx : s_laws_eqItemS_5.T → Option R) (hx : exH R x_laws_eqItemS_5) (x0 : List (ByteArray × (Bool × (((Int × (Int × Int)) × (Int × (Int × Int))) × (Int × (Int × (Int × Int))))))) (x1 : List (ByteArray × (Bool × (((Int × (Int × Int)) × (Int × (Int × Int))) × (Int × (Int × (Int × Int))))))) (x5 : Int) : Option R :=
  cond (decide (x5 < (((List.length x0) : Nat) : Int)))
  (Option.bind (idx x0 x5) fun y305 =>
   Option.bind (idx x1 x5) fun y306 =>
   Option.bind (g_laws_eqItem y305 y306) fun y320 =>
   cond (!y320)
   (hx.1 (d_laws_eqItemS_5_0 Bool.false))
   (nx (m_laws_eqItemS_5 x0 x1 (IntKind.wrap IntKind.i64 (x5 + (1 : Int))))))
  (hx.2.1 (d_laws_eqItemS_5_1))
noncomputable def t_laws_eqItemS_5 {R : Type} (nx : s_laws_eqItemS_5.T → Option R) (hx : exH R x_laws_eqItemS_5) (z : s_laws_eqItemS_5.T) : Option R := u_laws_eqItemS_5 nx hx z.1.1.1 z.1.2.1.1 z.1.2.2.1.1
theorem nat_laws_eqItemS_5 : Natural @t_laws_eqItemS_5 := fun R nx hx z => by
  show u_laws_eqItemS_5 nx hx z.1.1.1 z.1.2.1.1 z.1.2.2.1.1 = (u_laws_eqItemS_5 (fun y => some (.inl y)) (hIn x_laws_eqItemS_5 fun x => some (.inr x)) z.1.1.1 z.1.2.1.1 z.1.2.2.1.1).bind (goOn nx hx)
  unfold u_laws_eqItemS_5
  exact nat_cond (nat_bind fun _ => nat_bind fun _ => nat_bind fun _ => nat_cond (rfl) (rfl)) (rfl)
noncomputable def w_laws_eqItemS_5 : s_laws_eqItemS_5.T → Option (exT x_laws_eqItemS_5) := wOf @t_laws_eqItemS_5
theorem wq_laws_eqItemS_5 (x0 : List (ByteArray × (Bool × (((Int × (Int × Int)) × (Int × (Int × Int))) × (Int × (Int × (Int × Int))))))) (x1 : List (ByteArray × (Bool × (((Int × (Int × Int)) × (Int × (Int × Int))) × (Int × (Int × (Int × Int))))))) (x5 : Int) : w_laws_eqItemS_5 (m_laws_eqItemS_5 x0 x1 x5) = u_laws_eqItemS_5 w_laws_eqItemS_5 (hIn x_laws_eqItemS_5 some) x0 x1 x5 := wOf_eq nat_laws_eqItemS_5 _
def lh_laws_eqItemS_5 : LoopHint := ⟨[0, 1, 5], [], [4], []⟩
noncomputable def h_laws_eqItemS : Hints Rv := ⟨fun k => match k with | 5 => lh_laws_eqItemS_5 | _ => ⟨[], [], [], []⟩, fun k => match k with | 5 => some (loopX s_laws_eqItemS_5 x_laws_eqItemS_5 w_laws_eqItemS_5) | _ => none⟩
theorem st_laws_eqItemS_5 (n : Nat) (z : s_laws_eqItemS_5.T) (k : Ex → Live → Option Rv) : loopN ⟨27, 27⟩ lh_laws_eqItemS_5 (den (tab C0 T_laws_eqItemS) ⟨27, 27⟩ h_laws_eqItemS 1 (loopOf Tryd.f10 4)) (n + 1) (s_laws_eqItemS_5.enc z) k =
    t_laws_eqItemS_5 (fun y => loopN ⟨27, 27⟩ lh_laws_eqItemS_5 (den (tab C0 T_laws_eqItemS) ⟨27, 27⟩ h_laws_eqItemS 1 (loopOf Tryd.f10 4)) n (s_laws_eqItemS_5.enc y) k) (hK k x_laws_eqItemS_5) z := by kernel_rfl
theorem hs_laws_eqItemS : HintsOk (tab C0 T_laws_eqItemS) ⟨27, 27⟩ h_laws_eqItemS 1 (loops (codeOf Tryd.f10)) := by
  have hl : loops (codeOf Tryd.f10) = [loopOf Tryd.f10 4] := by kernel_rfl
  rw [hl]
  exact HintsOk.cons (n := 5) (lh := lh_laws_eqItemS_5) (S := loopX s_laws_eqItemS_5 x_laws_eqItemS_5 w_laws_eqItemS_5) (by kernel_rfl) rfl rfl (loopX_ok nat_laws_eqItemS_5 st_laws_eqItemS_5)
    (HintsOk.nil)
noncomputable def t_laws_eqItemS {R : Type} (kx : Bool → Option R) (a0 : (List (ByteArray × (Bool × (((Int × (Int × Int)) × (Int × (Int × Int))) × (Int × (Int × (Int × Int)))))))) (a1 : (List (ByteArray × (Bool × (((Int × (Int × Int)) × (Int × (Int × Int))) × (Int × (Int × (Int × Int)))))))) : Option R :=
  cond ((((List.length a0) : Nat) : Int) != (((List.length a1) : Nat) : Int))
  (kx Bool.false)
  (Option.bind (w_laws_eqItemS_5 (m_laws_eqItemS_5 a0 a1 (0 : Int))) (exC x_laws_eqItemS_5
   (fun e321 =>
    kx (e321.1.1.1 : Bool), fun _ =>
    kx Bool.true, ())))
noncomputable def g_laws_eqItemS (a0 : (List (ByteArray × (Bool × (((Int × (Int × Int)) × (Int × (Int × Int))) × (Int × (Int × (Int × Int)))))))) (a1 : (List (ByteArray × (Bool × (((Int × (Int × Int)) × (Int × (Int × Int))) × (Int × (Int × (Int × Int)))))))) : Option (Bool) := t_laws_eqItemS some a0 a1
theorem nat_laws_eqItemS {R : Type} (kx : Bool → Option R) (a0 : (List (ByteArray × (Bool × (((Int × (Int × Int)) × (Int × (Int × Int))) × (Int × (Int × (Int × Int)))))))) (a1 : (List (ByteArray × (Bool × (((Int × (Int × Int)) × (Int × (Int × Int))) × (Int × (Int × (Int × Int)))))))) : t_laws_eqItemS kx a0 a1 = (g_laws_eqItemS a0 a1).bind kx := by
  unfold g_laws_eqItemS t_laws_eqItemS
  exact nat_cond (rfl) (nat_exC ⟨fun _ => rfl, fun _ => rfl, trivial⟩)
abbrev as_laws_eqItemS : List AX := [.val false (.slice (.pair .str (.pair .bool (.pair (.pair (.pair (.int .i64) (.pair (.int .i64) (.int .i64))) (.pair (.int .i64) (.pair (.int .i64) (.int .i64)))) (.pair (.int .i64) (.pair (.int .i64) (.pair (.int .i64) (.int .i64)))))))), .val false (.slice (.pair .str (.pair .bool (.pair (.pair (.pair (.int .i64) (.pair (.int .i64) (.int .i64))) (.pair (.int .i64) (.pair (.int .i64) (.int .i64)))) (.pair (.int .i64) (.pair (.int .i64) (.pair (.int .i64) (.int .i64))))))))]
abbrev en_laws_eqItemS : Bool → AV × List CV := fun b => (.one ⟨false, [(.v (.bool b))]⟩, [])
noncomputable abbrev k_laws_eqItemS : Contract := .fx as_laws_eqItemS (Bool) (fun z => g_laws_eqItemS z.1 z.2.1) en_laws_eqItemS
theorem r_laws_eqItemS (z : argsX as_laws_eqItemS) : runF (tab C0 T_laws_eqItemS) h_laws_eqItemS 1 Tryd.f10 (lentOf as_laws_eqItemS) (xBoxes as_laws_eqItemS z) (xVals as_laws_eqItemS 0 z) K2 = t_laws_eqItemS (fun b => some (en_laws_eqItemS b)) z.1 z.2.1 := by kernel_rfl
theorem so_laws_eqItemS : Sound C0 10 k_laws_eqItemS :=
  Sound.fx a_laws_eqItemS mixed Tryd.func10 (by kernel_rfl) (by kernel_rfl) h_laws_eqItemS 1 hs_laws_eqItemS (fun z => (r_laws_eqItemS z).trans (nat_laws_eqItemS _ z.1 z.2.1))

/-! ### F40 laws.markText -/
noncomputable def T_laws_markText : List (FuncId × Contract) := []
theorem a_laws_markText : AllSound C0 T_laws_markText := .nil
abbrev s_laws_markText_5 : LS := ⟨[(false, [(.int .i64)]), (false, [.str])], [], []⟩
abbrev e_laws_markText_5_0 : LS := ⟨[(false, [.str])], [], []⟩
abbrev d_laws_markText_5_0 (v0 : ByteArray) : e_laws_markText_5_0.T := (((v0, ()), ()), (), ())
abbrev x_laws_markText_5 : List (Ex × LS) := [(.exit 0, e_laws_markText_5_0)]
abbrev m_laws_markText_5 (x0 : Int) (x3 : ByteArray) : s_laws_markText_5.T := (((x0, ()), (x3, ()), ()), (), ())
noncomputable def u_laws_markText_5 {R : Type} (nx : s_laws_markText_5.T → Option R) (hx : exH R x_laws_markText_5) (x0 : Int) (x3 : ByteArray) : Option R :=
  cond (decide (x0 > (0 : Int)))
  (cond (decide (((((ByteArray.size (ByteArray.mk (Array.mk [(UInt8.ofBitVec (BitVec.ofFin (Fin.mk ((Int.toNat (IntKind.wrap IntKind.u8 (IntKind.wrap IntKind.i64 ((48 : Int) + (Int.tmod x0 (10 : Int)))))) % (2 ^ 8)) (Nat.mod_lt (Int.toNat (IntKind.wrap IntKind.u8 (IntKind.wrap IntKind.i64 ((48 : Int) + (Int.tmod x0 (10 : Int)))))) (BitVec.ofNat._proof_1 8)))))]))) + (ByteArray.size x3)) : Nat) : Int) > (if (Bool.true = Bool.true) then (((2 : Int) ^ (64 - 1)) - (1 : Int)) else (((2 : Int) ^ 64) - (1 : Int)))))
   (none)
   (nx (m_laws_markText_5 (IntKind.wrap IntKind.i64 (Int.tdiv x0 (10 : Int))) ((ByteArray.mk (Array.mk [(UInt8.ofBitVec (BitVec.ofFin (Fin.mk ((Int.toNat (IntKind.wrap IntKind.u8 (IntKind.wrap IntKind.i64 ((48 : Int) + (Int.tmod x0 (10 : Int)))))) % (2 ^ 8)) (Nat.mod_lt (Int.toNat (IntKind.wrap IntKind.u8 (IntKind.wrap IntKind.i64 ((48 : Int) + (Int.tmod x0 (10 : Int)))))) (BitVec.ofNat._proof_1 8)))))])) ++ x3))))
  (hx.1 (d_laws_markText_5_0 x3))
noncomputable def t_laws_markText_5 {R : Type} (nx : s_laws_markText_5.T → Option R) (hx : exH R x_laws_markText_5) (z : s_laws_markText_5.T) : Option R := u_laws_markText_5 nx hx z.1.1.1 z.1.2.1.1
theorem nat_laws_markText_5 : Natural @t_laws_markText_5 := fun R nx hx z => by
  show u_laws_markText_5 nx hx z.1.1.1 z.1.2.1.1 = (u_laws_markText_5 (fun y => some (.inl y)) (hIn x_laws_markText_5 fun x => some (.inr x)) z.1.1.1 z.1.2.1.1).bind (goOn nx hx)
  unfold u_laws_markText_5
  exact nat_cond (nat_cond (rfl) (rfl)) (rfl)
noncomputable def w_laws_markText_5 : s_laws_markText_5.T → Option (exT x_laws_markText_5) := wOf @t_laws_markText_5
theorem wq_laws_markText_5 (x0 : Int) (x3 : ByteArray) : w_laws_markText_5 (m_laws_markText_5 x0 x3) = u_laws_markText_5 w_laws_markText_5 (hIn x_laws_markText_5 some) x0 x3 := wOf_eq nat_laws_markText_5 _
def lh_laws_markText_5 : LoopHint := ⟨[0, 3], [], [3], []⟩
noncomputable def h_laws_markText : Hints Rv := ⟨fun k => match k with | 5 => lh_laws_markText_5 | _ => ⟨[], [], [], []⟩, fun k => match k with | 5 => some (loopX s_laws_markText_5 x_laws_markText_5 w_laws_markText_5) | _ => none⟩
theorem st_laws_markText_5 (n : Nat) (z : s_laws_markText_5.T) (k : Ex → Live → Option Rv) : loopN ⟨20, 20⟩ lh_laws_markText_5 (den (tab C0 T_laws_markText) ⟨20, 20⟩ h_laws_markText 1 (loopOf Tryd.f40 4)) (n + 1) (s_laws_markText_5.enc z) k =
    t_laws_markText_5 (fun y => loopN ⟨20, 20⟩ lh_laws_markText_5 (den (tab C0 T_laws_markText) ⟨20, 20⟩ h_laws_markText 1 (loopOf Tryd.f40 4)) n (s_laws_markText_5.enc y) k) (hK k x_laws_markText_5) z := by kernel_rfl
theorem hs_laws_markText : HintsOk (tab C0 T_laws_markText) ⟨20, 20⟩ h_laws_markText 1 (loops (codeOf Tryd.f40)) := by
  have hl : loops (codeOf Tryd.f40) = [loopOf Tryd.f40 4] := by kernel_rfl
  rw [hl]
  exact HintsOk.cons (n := 5) (lh := lh_laws_markText_5) (S := loopX s_laws_markText_5 x_laws_markText_5 w_laws_markText_5) (by kernel_rfl) rfl rfl (loopX_ok nat_laws_markText_5 st_laws_markText_5)
    (HintsOk.nil)
noncomputable def t_laws_markText {R : Type} (kx : ByteArray → Option R) (a0 : Int) : Option R :=
  cond (decide (a0 ≤ (0 : Int)))
  (kx (ByteArray.mk (Array.mk [109, 48])))
  (Option.bind (w_laws_markText_5 (m_laws_markText_5 a0 (ByteArray.mk (Array.mk [])))) (exC x_laws_markText_5
   (fun e334 =>
    cond (decide (((((ByteArray.size (ByteArray.mk (Array.mk [109]))) + (ByteArray.size (e334.1.1.1 : ByteArray))) : Nat) : Int) > (if (Bool.true = Bool.true) then (((2 : Int) ^ (64 - 1)) - (1 : Int)) else (((2 : Int) ^ 64) - (1 : Int)))))
    (none)
    (kx ((ByteArray.mk (Array.mk [109])) ++ (e334.1.1.1 : ByteArray))), ())))
noncomputable def g_laws_markText (a0 : Int) : Option (ByteArray) := t_laws_markText some a0
theorem nat_laws_markText {R : Type} (kx : ByteArray → Option R) (a0 : Int) : t_laws_markText kx a0 = (g_laws_markText a0).bind kx := by
  unfold g_laws_markText t_laws_markText
  exact nat_cond (rfl) (nat_exC ⟨fun _ => nat_cond (rfl) (rfl), trivial⟩)
abbrev as_laws_markText : List AX := [.val false (.int .i64)]
abbrev en_laws_markText : ByteArray → AV × List CV := fun b => (.one ⟨false, [(.v (.string b))]⟩, [])
noncomputable abbrev k_laws_markText : Contract := .fx as_laws_markText (ByteArray) (fun z => g_laws_markText z.1) en_laws_markText
theorem r_laws_markText (z : argsX as_laws_markText) : runF (tab C0 T_laws_markText) h_laws_markText 1 Tryd.f40 (lentOf as_laws_markText) (xBoxes as_laws_markText z) (xVals as_laws_markText 0 z) K2 = t_laws_markText (fun b => some (en_laws_markText b)) z.1 := by kernel_rfl
theorem so_laws_markText : Sound C0 40 k_laws_markText :=
  Sound.fx a_laws_markText mixed Tryd.func40 (by kernel_rfl) (by kernel_rfl) h_laws_markText 1 hs_laws_markText (fun z => (r_laws_markText z).trans (nat_laws_markText _ z.1))

/-! ### F11 laws.markItemS -/
noncomputable def T_laws_markItemS : List (FuncId × Contract) := [(40, k_laws_markText)]
theorem a_laws_markItemS : AllSound C0 T_laws_markItemS := .cons so_laws_markText (.nil)
abbrev s_laws_markItemS_3 : LS := ⟨[(false, [(.view (.arg 0) true 0 (.pair .str (.pair .bool (.pair (.pair (.pair (.int .i64) (.pair (.int .i64) (.int .i64))) (.pair (.int .i64) (.pair (.int .i64) (.int .i64)))) (.pair (.int .i64) (.pair (.int .i64) (.pair (.int .i64) (.int .i64))))))))]), (false, [(.int .i64)]), (false, [(.int .i64)])], [], [(.own (.pair .str (.pair .bool (.pair (.pair (.pair (.int .i64) (.pair (.int .i64) (.int .i64))) (.pair (.int .i64) (.pair (.int .i64) (.int .i64)))) (.pair (.int .i64) (.pair (.int .i64) (.pair (.int .i64) (.int .i64))))))))]⟩
abbrev e_laws_markItemS_3_0 : LS := ⟨[(false, [(.int .i64)])], [], [(.own (.pair .str (.pair .bool (.pair (.pair (.pair (.int .i64) (.pair (.int .i64) (.int .i64))) (.pair (.int .i64) (.pair (.int .i64) (.int .i64)))) (.pair (.int .i64) (.pair (.int .i64) (.pair (.int .i64) (.int .i64))))))))]⟩
abbrev d_laws_markItemS_3_0 (v0 : Int) (v1 : List (ByteArray × (Bool × (((Int × (Int × Int)) × (Int × (Int × Int))) × (Int × (Int × (Int × Int))))))) : e_laws_markItemS_3_0.T := (((v0, ()), ()), (), (v1, ()))
abbrev x_laws_markItemS_3 : List (Ex × LS) := [(.exit 0, e_laws_markItemS_3_0)]
abbrev m_laws_markItemS_3 (x0 : List (ByteArray × (Bool × (((Int × (Int × Int)) × (Int × (Int × Int))) × (Int × (Int × (Int × Int))))))) (x1 : Int) (x5 : Int) (o : List (ByteArray × (Bool × (((Int × (Int × Int)) × (Int × (Int × Int))) × (Int × (Int × (Int × Int))))))) : s_laws_markItemS_3.T := (((x0, ()), (x1, ()), (x5, ()), ()), (), (o, ()))
noncomputable def u_laws_markItemS_3 {R : Type} (nx : s_laws_markItemS_3.T → Option R) (hx : exH R x_laws_markItemS_3) (x0 : List (ByteArray × (Bool × (((Int × (Int × Int)) × (Int × (Int × Int))) × (Int × (Int × (Int × Int))))))) (x1 : Int) (x5 : Int) (o : List (ByteArray × (Bool × (((Int × (Int × Int)) × (Int × (Int × Int))) × (Int × (Int × (Int × Int))))))) : Option R :=
  cond (decide (x5 < (((List.length x0) : Nat) : Int)))
  (Option.bind (g_laws_markText x1) fun y336 =>
   Option.bind (idx x0 x5) fun y337 =>
   Option.bind (idx (List.set x0 (0 + (Int.toNat x5)) (y336, y337.2)) x5) fun y338 =>
   Option.bind (idx (List.set (List.set x0 (0 + (Int.toNat x5)) (y336, y337.2)) (0 + (Int.toNat x5)) (y338.1, (((Int.tmod (IntKind.wrap IntKind.i64 (x1 + (1 : Int))) (3 : Int)) == (0 : Int)), y338.2.2))) x5) fun y339 =>
   Option.bind (idx (List.set (List.set (List.set x0 (0 + (Int.toNat x5)) (y336, y337.2)) (0 + (Int.toNat x5)) (y338.1, (((Int.tmod (IntKind.wrap IntKind.i64 (x1 + (1 : Int))) (3 : Int)) == (0 : Int)), y338.2.2))) (0 + (Int.toNat x5)) (y339.1, (y339.2.1, ((((IntKind.wrap IntKind.i64 ((IntKind.wrap IntKind.i64 (x1 + (1 : Int))) + (1 : Int))), y339.2.2.1.1.2), y339.2.2.1.2), y339.2.2.2)))) x5) fun y340 =>
   Option.bind (idx (List.set (List.set (List.set (List.set x0 (0 + (Int.toNat x5)) (y336, y337.2)) (0 + (Int.toNat x5)) (y338.1, (((Int.tmod (IntKind.wrap IntKind.i64 (x1 + (1 : Int))) (3 : Int)) == (0 : Int)), y338.2.2))) (0 + (Int.toNat x5)) (y339.1, (y339.2.1, ((((IntKind.wrap IntKind.i64 ((IntKind.wrap IntKind.i64 (x1 + (1 : Int))) + (1 : Int))), y339.2.2.1.1.2), y339.2.2.1.2), y339.2.2.2)))) (0 + (Int.toNat x5)) (y340.1, (y340.2.1, (((y340.2.2.1.1.1, ((IntKind.wrap IntKind.i64 ((IntKind.wrap IntKind.i64 ((IntKind.wrap IntKind.i64 (x1 + (1 : Int))) + (1 : Int))) + (1 : Int))), y340.2.2.1.1.2.2)), y340.2.2.1.2), y340.2.2.2)))) x5) fun y341 =>
   Option.bind (idx (List.set (List.set (List.set (List.set (List.set x0 (0 + (Int.toNat x5)) (y336, y337.2)) (0 + (Int.toNat x5)) (y338.1, (((Int.tmod (IntKind.wrap IntKind.i64 (x1 + (1 : Int))) (3 : Int)) == (0 : Int)), y338.2.2))) (0 + (Int.toNat x5)) (y339.1, (y339.2.1, ((((IntKind.wrap IntKind.i64 ((IntKind.wrap IntKind.i64 (x1 + (1 : Int))) + (1 : Int))), y339.2.2.1.1.2), y339.2.2.1.2), y339.2.2.2)))) (0 + (Int.toNat x5)) (y340.1, (y340.2.1, (((y340.2.2.1.1.1, ((IntKind.wrap IntKind.i64 ((IntKind.wrap IntKind.i64 ((IntKind.wrap IntKind.i64 (x1 + (1 : Int))) + (1 : Int))) + (1 : Int))), y340.2.2.1.1.2.2)), y340.2.2.1.2), y340.2.2.2)))) (0 + (Int.toNat x5)) (y341.1, (y341.2.1, (((y341.2.2.1.1.1, (y341.2.2.1.1.2.1, (IntKind.wrap IntKind.i64 ((IntKind.wrap IntKind.i64 ((IntKind.wrap IntKind.i64 ((IntKind.wrap IntKind.i64 (x1 + (1 : Int))) + (1 : Int))) + (1 : Int))) + (1 : Int))))), y341.2.2.1.2), y341.2.2.2)))) x5) fun y342 =>
   Option.bind (idx (List.set (List.set (List.set (List.set (List.set (List.set x0 (0 + (Int.toNat x5)) (y336, y337.2)) (0 + (Int.toNat x5)) (y338.1, (((Int.tmod (IntKind.wrap IntKind.i64 (x1 + (1 : Int))) (3 : Int)) == (0 : Int)), y338.2.2))) (0 + (Int.toNat x5)) (y339.1, (y339.2.1, ((((IntKind.wrap IntKind.i64 ((IntKind.wrap IntKind.i64 (x1 + (1 : Int))) + (1 : Int))), y339.2.2.1.1.2), y339.2.2.1.2), y339.2.2.2)))) (0 + (Int.toNat x5)) (y340.1, (y340.2.1, (((y340.2.2.1.1.1, ((IntKind.wrap IntKind.i64 ((IntKind.wrap IntKind.i64 ((IntKind.wrap IntKind.i64 (x1 + (1 : Int))) + (1 : Int))) + (1 : Int))), y340.2.2.1.1.2.2)), y340.2.2.1.2), y340.2.2.2)))) (0 + (Int.toNat x5)) (y341.1, (y341.2.1, (((y341.2.2.1.1.1, (y341.2.2.1.1.2.1, (IntKind.wrap IntKind.i64 ((IntKind.wrap IntKind.i64 ((IntKind.wrap IntKind.i64 ((IntKind.wrap IntKind.i64 (x1 + (1 : Int))) + (1 : Int))) + (1 : Int))) + (1 : Int))))), y341.2.2.1.2), y341.2.2.2)))) (0 + (Int.toNat x5)) (y342.1, (y342.2.1, ((y342.2.2.1.1, ((IntKind.wrap IntKind.i64 ((IntKind.wrap IntKind.i64 ((IntKind.wrap IntKind.i64 ((IntKind.wrap IntKind.i64 ((IntKind.wrap IntKind.i64 (x1 + (1 : Int))) + (1 : Int))) + (1 : Int))) + (1 : Int))) + (1 : Int))), y342.2.2.1.2.2)), y342.2.2.2)))) x5) fun y343 =>
   Option.bind (idx (List.set (List.set (List.set (List.set (List.set (List.set (List.set x0 (0 + (Int.toNat x5)) (y336, y337.2)) (0 + (Int.toNat x5)) (y338.1, (((Int.tmod (IntKind.wrap IntKind.i64 (x1 + (1 : Int))) (3 : Int)) == (0 : Int)), y338.2.2))) (0 + (Int.toNat x5)) (y339.1, (y339.2.1, ((((IntKind.wrap IntKind.i64 ((IntKind.wrap IntKind.i64 (x1 + (1 : Int))) + (1 : Int))), y339.2.2.1.1.2), y339.2.2.1.2), y339.2.2.2)))) (0 + (Int.toNat x5)) (y340.1, (y340.2.1, (((y340.2.2.1.1.1, ((IntKind.wrap IntKind.i64 ((IntKind.wrap IntKind.i64 ((IntKind.wrap IntKind.i64 (x1 + (1 : Int))) + (1 : Int))) + (1 : Int))), y340.2.2.1.1.2.2)), y340.2.2.1.2), y340.2.2.2)))) (0 + (Int.toNat x5)) (y341.1, (y341.2.1, (((y341.2.2.1.1.1, (y341.2.2.1.1.2.1, (IntKind.wrap IntKind.i64 ((IntKind.wrap IntKind.i64 ((IntKind.wrap IntKind.i64 ((IntKind.wrap IntKind.i64 (x1 + (1 : Int))) + (1 : Int))) + (1 : Int))) + (1 : Int))))), y341.2.2.1.2), y341.2.2.2)))) (0 + (Int.toNat x5)) (y342.1, (y342.2.1, ((y342.2.2.1.1, ((IntKind.wrap IntKind.i64 ((IntKind.wrap IntKind.i64 ((IntKind.wrap IntKind.i64 ((IntKind.wrap IntKind.i64 ((IntKind.wrap IntKind.i64 (x1 + (1 : Int))) + (1 : Int))) + (1 : Int))) + (1 : Int))) + (1 : Int))), y342.2.2.1.2.2)), y342.2.2.2)))) (0 + (Int.toNat x5)) (y343.1, (y343.2.1, ((y343.2.2.1.1, (y343.2.2.1.2.1, ((IntKind.wrap IntKind.i64 ((IntKind.wrap IntKind.i64 ((IntKind.wrap IntKind.i64 ((IntKind.wrap IntKind.i64 ((IntKind.wrap IntKind.i64 ((IntKind.wrap IntKind.i64 (x1 + (1 : Int))) + (1 : Int))) + (1 : Int))) + (1 : Int))) + (1 : Int))) + (1 : Int))), y343.2.2.1.2.2.2))), y343.2.2.2)))) x5) fun y344 =>
   Option.bind (idx (List.set (List.set (List.set (List.set (List.set (List.set (List.set (List.set x0 (0 + (Int.toNat x5)) (y336, y337.2)) (0 + (Int.toNat x5)) (y338.1, (((Int.tmod (IntKind.wrap IntKind.i64 (x1 + (1 : Int))) (3 : Int)) == (0 : Int)), y338.2.2))) (0 + (Int.toNat x5)) (y339.1, (y339.2.1, ((((IntKind.wrap IntKind.i64 ((IntKind.wrap IntKind.i64 (x1 + (1 : Int))) + (1 : Int))), y339.2.2.1.1.2), y339.2.2.1.2), y339.2.2.2)))) (0 + (Int.toNat x5)) (y340.1, (y340.2.1, (((y340.2.2.1.1.1, ((IntKind.wrap IntKind.i64 ((IntKind.wrap IntKind.i64 ((IntKind.wrap IntKind.i64 (x1 + (1 : Int))) + (1 : Int))) + (1 : Int))), y340.2.2.1.1.2.2)), y340.2.2.1.2), y340.2.2.2)))) (0 + (Int.toNat x5)) (y341.1, (y341.2.1, (((y341.2.2.1.1.1, (y341.2.2.1.1.2.1, (IntKind.wrap IntKind.i64 ((IntKind.wrap IntKind.i64 ((IntKind.wrap IntKind.i64 ((IntKind.wrap IntKind.i64 (x1 + (1 : Int))) + (1 : Int))) + (1 : Int))) + (1 : Int))))), y341.2.2.1.2), y341.2.2.2)))) (0 + (Int.toNat x5)) (y342.1, (y342.2.1, ((y342.2.2.1.1, ((IntKind.wrap IntKind.i64 ((IntKind.wrap IntKind.i64 ((IntKind.wrap IntKind.i64 ((IntKind.wrap IntKind.i64 ((IntKind.wrap IntKind.i64 (x1 + (1 : Int))) + (1 : Int))) + (1 : Int))) + (1 : Int))) + (1 : Int))), y342.2.2.1.2.2)), y342.2.2.2)))) (0 + (Int.toNat x5)) (y343.1, (y343.2.1, ((y343.2.2.1.1, (y343.2.2.1.2.1, ((IntKind.wrap IntKind.i64 ((IntKind.wrap IntKind.i64 ((IntKind.wrap IntKind.i64 ((IntKind.wrap IntKind.i64 ((IntKind.wrap IntKind.i64 ((IntKind.wrap IntKind.i64 (x1 + (1 : Int))) + (1 : Int))) + (1 : Int))) + (1 : Int))) + (1 : Int))) + (1 : Int))), y343.2.2.1.2.2.2))), y343.2.2.2)))) (0 + (Int.toNat x5)) (y344.1, (y344.2.1, ((y344.2.2.1.1, (y344.2.2.1.2.1, (y344.2.2.1.2.2.1, (IntKind.wrap IntKind.i64 ((IntKind.wrap IntKind.i64 ((IntKind.wrap IntKind.i64 ((IntKind.wrap IntKind.i64 ((IntKind.wrap IntKind.i64 ((IntKind.wrap IntKind.i64 ((IntKind.wrap IntKind.i64 (x1 + (1 : Int))) + (1 : Int))) + (1 : Int))) + (1 : Int))) + (1 : Int))) + (1 : Int))) + (1 : Int)))))), y344.2.2.2)))) x5) fun y345 =>
   Option.bind (idx (List.set (List.set (List.set (List.set (List.set (List.set (List.set (List.set (List.set x0 (0 + (Int.toNat x5)) (y336, y337.2)) (0 + (Int.toNat x5)) (y338.1, (((Int.tmod (IntKind.wrap IntKind.i64 (x1 + (1 : Int))) (3 : Int)) == (0 : Int)), y338.2.2))) (0 + (Int.toNat x5)) (y339.1, (y339.2.1, ((((IntKind.wrap IntKind.i64 ((IntKind.wrap IntKind.i64 (x1 + (1 : Int))) + (1 : Int))), y339.2.2.1.1.2), y339.2.2.1.2), y339.2.2.2)))) (0 + (Int.toNat x5)) (y340.1, (y340.2.1, (((y340.2.2.1.1.1, ((IntKind.wrap IntKind.i64 ((IntKind.wrap IntKind.i64 ((IntKind.wrap IntKind.i64 (x1 + (1 : Int))) + (1 : Int))) + (1 : Int))), y340.2.2.1.1.2.2)), y340.2.2.1.2), y340.2.2.2)))) (0 + (Int.toNat x5)) (y341.1, (y341.2.1, (((y341.2.2.1.1.1, (y341.2.2.1.1.2.1, (IntKind.wrap IntKind.i64 ((IntKind.wrap IntKind.i64 ((IntKind.wrap IntKind.i64 ((IntKind.wrap IntKind.i64 (x1 + (1 : Int))) + (1 : Int))) + (1 : Int))) + (1 : Int))))), y341.2.2.1.2), y341.2.2.2)))) (0 + (Int.toNat x5)) (y342.1, (y342.2.1, ((y342.2.2.1.1, ((IntKind.wrap IntKind.i64 ((IntKind.wrap IntKind.i64 ((IntKind.wrap IntKind.i64 ((IntKind.wrap IntKind.i64 ((IntKind.wrap IntKind.i64 (x1 + (1 : Int))) + (1 : Int))) + (1 : Int))) + (1 : Int))) + (1 : Int))), y342.2.2.1.2.2)), y342.2.2.2)))) (0 + (Int.toNat x5)) (y343.1, (y343.2.1, ((y343.2.2.1.1, (y343.2.2.1.2.1, ((IntKind.wrap IntKind.i64 ((IntKind.wrap IntKind.i64 ((IntKind.wrap IntKind.i64 ((IntKind.wrap IntKind.i64 ((IntKind.wrap IntKind.i64 ((IntKind.wrap IntKind.i64 (x1 + (1 : Int))) + (1 : Int))) + (1 : Int))) + (1 : Int))) + (1 : Int))) + (1 : Int))), y343.2.2.1.2.2.2))), y343.2.2.2)))) (0 + (Int.toNat x5)) (y344.1, (y344.2.1, ((y344.2.2.1.1, (y344.2.2.1.2.1, (y344.2.2.1.2.2.1, (IntKind.wrap IntKind.i64 ((IntKind.wrap IntKind.i64 ((IntKind.wrap IntKind.i64 ((IntKind.wrap IntKind.i64 ((IntKind.wrap IntKind.i64 ((IntKind.wrap IntKind.i64 ((IntKind.wrap IntKind.i64 (x1 + (1 : Int))) + (1 : Int))) + (1 : Int))) + (1 : Int))) + (1 : Int))) + (1 : Int))) + (1 : Int)))))), y344.2.2.2)))) (0 + (Int.toNat x5)) (y345.1, (y345.2.1, (y345.2.2.1, ((IntKind.wrap IntKind.i64 ((IntKind.wrap IntKind.i64 ((IntKind.wrap IntKind.i64 ((IntKind.wrap IntKind.i64 ((IntKind.wrap IntKind.i64 ((IntKind.wrap IntKind.i64 ((IntKind.wrap IntKind.i64 ((IntKind.wrap IntKind.i64 (x1 + (1 : Int))) + (1 : Int))) + (1 : Int))) + (1 : Int))) + (1 : Int))) + (1 : Int))) + (1 : Int))) + (1 : Int))), y345.2.2.2.2))))) x5) fun y346 =>
   Option.bind (idx (List.set (List.set (List.set (List.set (List.set (List.set (List.set (List.set (List.set (List.set x0 (0 + (Int.toNat x5)) (y336, y337.2)) (0 + (Int.toNat x5)) (y338.1, (((Int.tmod (IntKind.wrap IntKind.i64 (x1 + (1 : Int))) (3 : Int)) == (0 : Int)), y338.2.2))) (0 + (Int.toNat x5)) (y339.1, (y339.2.1, ((((IntKind.wrap IntKind.i64 ((IntKind.wrap IntKind.i64 (x1 + (1 : Int))) + (1 : Int))), y339.2.2.1.1.2), y339.2.2.1.2), y339.2.2.2)))) (0 + (Int.toNat x5)) (y340.1, (y340.2.1, (((y340.2.2.1.1.1, ((IntKind.wrap IntKind.i64 ((IntKind.wrap IntKind.i64 ((IntKind.wrap IntKind.i64 (x1 + (1 : Int))) + (1 : Int))) + (1 : Int))), y340.2.2.1.1.2.2)), y340.2.2.1.2), y340.2.2.2)))) (0 + (Int.toNat x5)) (y341.1, (y341.2.1, (((y341.2.2.1.1.1, (y341.2.2.1.1.2.1, (IntKind.wrap IntKind.i64 ((IntKind.wrap IntKind.i64 ((IntKind.wrap IntKind.i64 ((IntKind.wrap IntKind.i64 (x1 + (1 : Int))) + (1 : Int))) + (1 : Int))) + (1 : Int))))), y341.2.2.1.2), y341.2.2.2)))) (0 + (Int.toNat x5)) (y342.1, (y342.2.1, ((y342.2.2.1.1, ((IntKind.wrap IntKind.i64 ((IntKind.wrap IntKind.i64 ((IntKind.wrap IntKind.i64 ((IntKind.wrap IntKind.i64 ((IntKind.wrap IntKind.i64 (x1 + (1 : Int))) + (1 : Int))) + (1 : Int))) + (1 : Int))) + (1 : Int))), y342.2.2.1.2.2)), y342.2.2.2)))) (0 + (Int.toNat x5)) (y343.1, (y343.2.1, ((y343.2.2.1.1, (y343.2.2.1.2.1, ((IntKind.wrap IntKind.i64 ((IntKind.wrap IntKind.i64 ((IntKind.wrap IntKind.i64 ((IntKind.wrap IntKind.i64 ((IntKind.wrap IntKind.i64 ((IntKind.wrap IntKind.i64 (x1 + (1 : Int))) + (1 : Int))) + (1 : Int))) + (1 : Int))) + (1 : Int))) + (1 : Int))), y343.2.2.1.2.2.2))), y343.2.2.2)))) (0 + (Int.toNat x5)) (y344.1, (y344.2.1, ((y344.2.2.1.1, (y344.2.2.1.2.1, (y344.2.2.1.2.2.1, (IntKind.wrap IntKind.i64 ((IntKind.wrap IntKind.i64 ((IntKind.wrap IntKind.i64 ((IntKind.wrap IntKind.i64 ((IntKind.wrap IntKind.i64 ((IntKind.wrap IntKind.i64 ((IntKind.wrap IntKind.i64 (x1 + (1 : Int))) + (1 : Int))) + (1 : Int))) + (1 : Int))) + (1 : Int))) + (1 : Int))) + (1 : Int)))))), y344.2.2.2)))) (0 + (Int.toNat x5)) (y345.1, (y345.2.1, (y345.2.2.1, ((IntKind.wrap IntKind.i64 ((IntKind.wrap IntKind.i64 ((IntKind.wrap IntKind.i64 ((IntKind.wrap IntKind.i64 ((IntKind.wrap IntKind.i64 ((IntKind.wrap IntKind.i64 ((IntKind.wrap IntKind.i64 ((IntKind.wrap IntKind.i64 (x1 + (1 : Int))) + (1 : Int))) + (1 : Int))) + (1 : Int))) + (1 : Int))) + (1 : Int))) + (1 : Int))) + (1 : Int))), y345.2.2.2.2))))) (0 + (Int.toNat x5)) (y346.1, (y346.2.1, (y346.2.2.1, (y346.2.2.2.1, ((IntKind.wrap IntKind.i64 ((IntKind.wrap IntKind.i64 ((IntKind.wrap IntKind.i64 ((IntKind.wrap IntKind.i64 ((IntKind.wrap IntKind.i64 ((IntKind.wrap IntKind.i64 ((IntKind.wrap IntKind.i64 ((IntKind.wrap IntKind.i64 ((IntKind.wrap IntKind.i64 (x1 + (1 : Int))) + (1 : Int))) + (1 : Int))) + (1 : Int))) + (1 : Int))) + (1 : Int))) + (1 : Int))) + (1 : Int))) + (1 : Int))), y346.2.2.2.2.2)))))) x5) fun y347 =>
   Option.bind (idx (List.set (List.set (List.set (List.set (List.set (List.set (List.set (List.set (List.set (List.set (List.set x0 (0 + (Int.toNat x5)) (y336, y337.2)) (0 + (Int.toNat x5)) (y338.1, (((Int.tmod (IntKind.wrap IntKind.i64 (x1 + (1 : Int))) (3 : Int)) == (0 : Int)), y338.2.2))) (0 + (Int.toNat x5)) (y339.1, (y339.2.1, ((((IntKind.wrap IntKind.i64 ((IntKind.wrap IntKind.i64 (x1 + (1 : Int))) + (1 : Int))), y339.2.2.1.1.2), y339.2.2.1.2), y339.2.2.2)))) (0 + (Int.toNat x5)) (y340.1, (y340.2.1, (((y340.2.2.1.1.1, ((IntKind.wrap IntKind.i64 ((IntKind.wrap IntKind.i64 ((IntKind.wrap IntKind.i64 (x1 + (1 : Int))) + (1 : Int))) + (1 : Int))), y340.2.2.1.1.2.2)), y340.2.2.1.2), y340.2.2.2)))) (0 + (Int.toNat x5)) (y341.1, (y341.2.1, (((y341.2.2.1.1.1, (y341.2.2.1.1.2.1, (IntKind.wrap IntKind.i64 ((IntKind.wrap IntKind.i64 ((IntKind.wrap IntKind.i64 ((IntKind.wrap IntKind.i64 (x1 + (1 : Int))) + (1 : Int))) + (1 : Int))) + (1 : Int))))), y341.2.2.1.2), y341.2.2.2)))) (0 + (Int.toNat x5)) (y342.1, (y342.2.1, ((y342.2.2.1.1, ((IntKind.wrap IntKind.i64 ((IntKind.wrap IntKind.i64 ((IntKind.wrap IntKind.i64 ((IntKind.wrap IntKind.i64 ((IntKind.wrap IntKind.i64 (x1 + (1 : Int))) + (1 : Int))) + (1 : Int))) + (1 : Int))) + (1 : Int))), y342.2.2.1.2.2)), y342.2.2.2)))) (0 + (Int.toNat x5)) (y343.1, (y343.2.1, ((y343.2.2.1.1, (y343.2.2.1.2.1, ((IntKind.wrap IntKind.i64 ((IntKind.wrap IntKind.i64 ((IntKind.wrap IntKind.i64 ((IntKind.wrap IntKind.i64 ((IntKind.wrap IntKind.i64 ((IntKind.wrap IntKind.i64 (x1 + (1 : Int))) + (1 : Int))) + (1 : Int))) + (1 : Int))) + (1 : Int))) + (1 : Int))), y343.2.2.1.2.2.2))), y343.2.2.2)))) (0 + (Int.toNat x5)) (y344.1, (y344.2.1, ((y344.2.2.1.1, (y344.2.2.1.2.1, (y344.2.2.1.2.2.1, (IntKind.wrap IntKind.i64 ((IntKind.wrap IntKind.i64 ((IntKind.wrap IntKind.i64 ((IntKind.wrap IntKind.i64 ((IntKind.wrap IntKind.i64 ((IntKind.wrap IntKind.i64 ((IntKind.wrap IntKind.i64 (x1 + (1 : Int))) + (1 : Int))) + (1 : Int))) + (1 : Int))) + (1 : Int))) + (1 : Int))) + (1 : Int)))))), y344.2.2.2)))) (0 + (Int.toNat x5)) (y345.1, (y345.2.1, (y345.2.2.1, ((IntKind.wrap IntKind.i64 ((IntKind.wrap IntKind.i64 ((IntKind.wrap IntKind.i64 ((IntKind.wrap IntKind.i64 ((IntKind.wrap IntKind.i64 ((IntKind.wrap IntKind.i64 ((IntKind.wrap IntKind.i64 ((IntKind.wrap IntKind.i64 (x1 + (1 : Int))) + (1 : Int))) + (1 : Int))) + (1 : Int))) + (1 : Int))) + (1 : Int))) + (1 : Int))) + (1 : Int))), y345.2.2.2.2))))) (0 + (Int.toNat x5)) (y346.1, (y346.2.1, (y346.2.2.1, (y346.2.2.2.1, ((IntKind.wrap IntKind.i64 ((IntKind.wrap IntKind.i64 ((IntKind.wrap IntKind.i64 ((IntKind.wrap IntKind.i64 ((IntKind.wrap IntKind.i64 ((IntKind.wrap IntKind.i64 ((IntKind.wrap IntKind.i64 ((IntKind.wrap IntKind.i64 ((IntKind.wrap IntKind.i64 (x1 + (1 : Int))) + (1 : Int))) + (1 : Int))) + (1 : Int))) + (1 : Int))) + (1 : Int))) + (1 : Int))) + (1 : Int))) + (1 : Int))), y346.2.2.2.2.2)))))) (0 + (Int.toNat x5)) (y347.1, (y347.2.1, (y347.2.2.1, (y347.2.2.2.1, (y347.2.2.2.2.1, ((IntKind.wrap IntKind.i64 ((IntKind.wrap IntKind.i64 ((IntKind.wrap IntKind.i64 ((IntKind.wrap IntKind.i64 ((IntKind.wrap IntKind.i64 ((IntKind.wrap IntKind.i64 ((IntKind.wrap IntKind.i64 ((IntKind.wrap IntKind.i64 ((IntKind.wrap IntKind.i64 ((IntKind.wrap IntKind.i64 (x1 + (1 : Int))) + (1 : Int))) + (1 : Int))) + (1 : Int))) + (1 : Int))) + (1 : Int))) + (1 : Int))) + (1 : Int))) + (1 : Int))) + (1 : Int))), y347.2.2.2.2.2.2))))))) x5) fun y348 =>
   nx (m_laws_markItemS_3 (List.set (List.set (List.set (List.set (List.set (List.set (List.set (List.set (List.set (List.set (List.set (List.set x0 (0 + (Int.toNat x5)) (y336, y337.2)) (0 + (Int.toNat x5)) (y338.1, (((Int.tmod (IntKind.wrap IntKind.i64 (x1 + (1 : Int))) (3 : Int)) == (0 : Int)), y338.2.2))) (0 + (Int.toNat x5)) (y339.1, (y339.2.1, ((((IntKind.wrap IntKind.i64 ((IntKind.wrap IntKind.i64 (x1 + (1 : Int))) + (1 : Int))), y339.2.2.1.1.2), y339.2.2.1.2), y339.2.2.2)))) (0 + (Int.toNat x5)) (y340.1, (y340.2.1, (((y340.2.2.1.1.1, ((IntKind.wrap IntKind.i64 ((IntKind.wrap IntKind.i64 ((IntKind.wrap IntKind.i64 (x1 + (1 : Int))) + (1 : Int))) + (1 : Int))), y340.2.2.1.1.2.2)), y340.2.2.1.2), y340.2.2.2)))) (0 + (Int.toNat x5)) (y341.1, (y341.2.1, (((y341.2.2.1.1.1, (y341.2.2.1.1.2.1, (IntKind.wrap IntKind.i64 ((IntKind.wrap IntKind.i64 ((IntKind.wrap IntKind.i64 ((IntKind.wrap IntKind.i64 (x1 + (1 : Int))) + (1 : Int))) + (1 : Int))) + (1 : Int))))), y341.2.2.1.2), y341.2.2.2)))) (0 + (Int.toNat x5)) (y342.1, (y342.2.1, ((y342.2.2.1.1, ((IntKind.wrap IntKind.i64 ((IntKind.wrap IntKind.i64 ((IntKind.wrap IntKind.i64 ((IntKind.wrap IntKind.i64 ((IntKind.wrap IntKind.i64 (x1 + (1 : Int))) + (1 : Int))) + (1 : Int))) + (1 : Int))) + (1 : Int))), y342.2.2.1.2.2)), y342.2.2.2)))) (0 + (Int.toNat x5)) (y343.1, (y343.2.1, ((y343.2.2.1.1, (y343.2.2.1.2.1, ((IntKind.wrap IntKind.i64 ((IntKind.wrap IntKind.i64 ((IntKind.wrap IntKind.i64 ((IntKind.wrap IntKind.i64 ((IntKind.wrap IntKind.i64 ((IntKind.wrap IntKind.i64 (x1 + (1 : Int))) + (1 : Int))) + (1 : Int))) + (1 : Int))) + (1 : Int))) + (1 : Int))), y343.2.2.1.2.2.2))), y343.2.2.2)))) (0 + (Int.toNat x5)) (y344.1, (y344.2.1, ((y344.2.2.1.1, (y344.2.2.1.2.1, (y344.2.2.1.2.2.1, (IntKind.wrap IntKind.i64 ((IntKind.wrap IntKind.i64 ((IntKind.wrap IntKind.i64 ((IntKind.wrap IntKind.i64 ((IntKind.wrap IntKind.i64 ((IntKind.wrap IntKind.i64 ((IntKind.wrap IntKind.i64 (x1 + (1 : Int))) + (1 : Int))) + (1 : Int))) + (1 : Int))) + (1 : Int))) + (1 : Int))) + (1 : Int)))))), y344.2.2.2)))) (0 + (Int.toNat x5)) (y345.1, (y345.2.1, (y345.2.2.1, ((IntKind.wrap IntKind.i64 ((IntKind.wrap IntKind.i64 ((IntKind.wrap IntKind.i64 ((IntKind.wrap IntKind.i64 ((IntKind.wrap IntKind.i64 ((IntKind.wrap IntKind.i64 ((IntKind.wrap IntKind.i64 ((IntKind.wrap IntKind.i64 (x1 + (1 : Int))) + (1 : Int))) + (1 : Int))) + (1 : Int))) + (1 : Int))) + (1 : Int))) + (1 : Int))) + (1 : Int))), y345.2.2.2.2))))) (0 + (Int.toNat x5)) (y346.1, (y346.2.1, (y346.2.2.1, (y346.2.2.2.1, ((IntKind.wrap IntKind.i64 ((IntKind.wrap IntKind.i64 ((IntKind.wrap IntKind.i64 ((IntKind.wrap IntKind.i64 ((IntKind.wrap IntKind.i64 ((IntKind.wrap IntKind.i64 ((IntKind.wrap IntKind.i64 ((IntKind.wrap IntKind.i64 ((IntKind.wrap IntKind.i64 (x1 + (1 : Int))) + (1 : Int))) + (1 : Int))) + (1 : Int))) + (1 : Int))) + (1 : Int))) + (1 : Int))) + (1 : Int))) + (1 : Int))), y346.2.2.2.2.2)))))) (0 + (Int.toNat x5)) (y347.1, (y347.2.1, (y347.2.2.1, (y347.2.2.2.1, (y347.2.2.2.2.1, ((IntKind.wrap IntKind.i64 ((IntKind.wrap IntKind.i64 ((IntKind.wrap IntKind.i64 ((IntKind.wrap IntKind.i64 ((IntKind.wrap IntKind.i64 ((IntKind.wrap IntKind.i64 ((IntKind.wrap IntKind.i64 ((IntKind.wrap IntKind.i64 ((IntKind.wrap IntKind.i64 ((IntKind.wrap IntKind.i64 (x1 + (1 : Int))) + (1 : Int))) + (1 : Int))) + (1 : Int))) + (1 : Int))) + (1 : Int))) + (1 : Int))) + (1 : Int))) + (1 : Int))) + (1 : Int))), y347.2.2.2.2.2.2))))))) (0 + (Int.toNat x5)) (y348.1, (y348.2.1, (y348.2.2.1, (y348.2.2.2.1, (y348.2.2.2.2.1, (y348.2.2.2.2.2.1, (IntKind.wrap IntKind.i64 ((IntKind.wrap IntKind.i64 ((IntKind.wrap IntKind.i64 ((IntKind.wrap IntKind.i64 ((IntKind.wrap IntKind.i64 ((IntKind.wrap IntKind.i64 ((IntKind.wrap IntKind.i64 ((IntKind.wrap IntKind.i64 ((IntKind.wrap IntKind.i64 ((IntKind.wrap IntKind.i64 ((IntKind.wrap IntKind.i64 (x1 + (1 : Int))) + (1 : Int))) + (1 : Int))) + (1 : Int))) + (1 : Int))) + (1 : Int))) + (1 : Int))) + (1 : Int))) + (1 : Int))) + (1 : Int))) + (1 : Int)))))))))) (IntKind.wrap IntKind.i64 ((IntKind.wrap IntKind.i64 ((IntKind.wrap IntKind.i64 ((IntKind.wrap IntKind.i64 ((IntKind.wrap IntKind.i64 ((IntKind.wrap IntKind.i64 ((IntKind.wrap IntKind.i64 ((IntKind.wrap IntKind.i64 ((IntKind.wrap IntKind.i64 ((IntKind.wrap IntKind.i64 ((IntKind.wrap IntKind.i64 ((IntKind.wrap IntKind.i64 (x1 + (1 : Int))) + (1 : Int))) + (1 : Int))) + (1 : Int))) + (1 : Int))) + (1 : Int))) + (1 : Int))) + (1 : Int))) + (1 : Int))) + (1 : Int))) + (1 : Int))) + (1 : Int))) (IntKind.wrap IntKind.i64 (x5 + (1 : Int))) (List.set (List.set (List.set (List.set (List.set (List.set (List.set (List.set (List.set (List.set (List.set (List.set o (0 + (Int.toNat x5)) (y336, y337.2)) (0 + (Int.toNat x5)) (y338.1, (((Int.tmod (IntKind.wrap IntKind.i64 (x1 + (1 : Int))) (3 : Int)) == (0 : Int)), y338.2.2))) (0 + (Int.toNat x5)) (y339.1, (y339.2.1, ((((IntKind.wrap IntKind.i64 ((IntKind.wrap IntKind.i64 (x1 + (1 : Int))) + (1 : Int))), y339.2.2.1.1.2), y339.2.2.1.2), y339.2.2.2)))) (0 + (Int.toNat x5)) (y340.1, (y340.2.1, (((y340.2.2.1.1.1, ((IntKind.wrap IntKind.i64 ((IntKind.wrap IntKind.i64 ((IntKind.wrap IntKind.i64 (x1 + (1 : Int))) + (1 : Int))) + (1 : Int))), y340.2.2.1.1.2.2)), y340.2.2.1.2), y340.2.2.2)))) (0 + (Int.toNat x5)) (y341.1, (y341.2.1, (((y341.2.2.1.1.1, (y341.2.2.1.1.2.1, (IntKind.wrap IntKind.i64 ((IntKind.wrap IntKind.i64 ((IntKind.wrap IntKind.i64 ((IntKind.wrap IntKind.i64 (x1 + (1 : Int))) + (1 : Int))) + (1 : Int))) + (1 : Int))))), y341.2.2.1.2), y341.2.2.2)))) (0 + (Int.toNat x5)) (y342.1, (y342.2.1, ((y342.2.2.1.1, ((IntKind.wrap IntKind.i64 ((IntKind.wrap IntKind.i64 ((IntKind.wrap IntKind.i64 ((IntKind.wrap IntKind.i64 ((IntKind.wrap IntKind.i64 (x1 + (1 : Int))) + (1 : Int))) + (1 : Int))) + (1 : Int))) + (1 : Int))), y342.2.2.1.2.2)), y342.2.2.2)))) (0 + (Int.toNat x5)) (y343.1, (y343.2.1, ((y343.2.2.1.1, (y343.2.2.1.2.1, ((IntKind.wrap IntKind.i64 ((IntKind.wrap IntKind.i64 ((IntKind.wrap IntKind.i64 ((IntKind.wrap IntKind.i64 ((IntKind.wrap IntKind.i64 ((IntKind.wrap IntKind.i64 (x1 + (1 : Int))) + (1 : Int))) + (1 : Int))) + (1 : Int))) + (1 : Int))) + (1 : Int))), y343.2.2.1.2.2.2))), y343.2.2.2)))) (0 + (Int.toNat x5)) (y344.1, (y344.2.1, ((y344.2.2.1.1, (y344.2.2.1.2.1, (y344.2.2.1.2.2.1, (IntKind.wrap IntKind.i64 ((IntKind.wrap IntKind.i64 ((IntKind.wrap IntKind.i64 ((IntKind.wrap IntKind.i64 ((IntKind.wrap IntKind.i64 ((IntKind.wrap IntKind.i64 ((IntKind.wrap IntKind.i64 (x1 + (1 : Int))) + (1 : Int))) + (1 : Int))) + (1 : Int))) + (1 : Int))) + (1 : Int))) + (1 : Int)))))), y344.2.2.2)))) (0 + (Int.toNat x5)) (y345.1, (y345.2.1, (y345.2.2.1, ((IntKind.wrap IntKind.i64 ((IntKind.wrap IntKind.i64 ((IntKind.wrap IntKind.i64 ((IntKind.wrap IntKind.i64 ((IntKind.wrap IntKind.i64 ((IntKind.wrap IntKind.i64 ((IntKind.wrap IntKind.i64 ((IntKind.wrap IntKind.i64 (x1 + (1 : Int))) + (1 : Int))) + (1 : Int))) + (1 : Int))) + (1 : Int))) + (1 : Int))) + (1 : Int))) + (1 : Int))), y345.2.2.2.2))))) (0 + (Int.toNat x5)) (y346.1, (y346.2.1, (y346.2.2.1, (y346.2.2.2.1, ((IntKind.wrap IntKind.i64 ((IntKind.wrap IntKind.i64 ((IntKind.wrap IntKind.i64 ((IntKind.wrap IntKind.i64 ((IntKind.wrap IntKind.i64 ((IntKind.wrap IntKind.i64 ((IntKind.wrap IntKind.i64 ((IntKind.wrap IntKind.i64 ((IntKind.wrap IntKind.i64 (x1 + (1 : Int))) + (1 : Int))) + (1 : Int))) + (1 : Int))) + (1 : Int))) + (1 : Int))) + (1 : Int))) + (1 : Int))) + (1 : Int))), y346.2.2.2.2.2)))))) (0 + (Int.toNat x5)) (y347.1, (y347.2.1, (y347.2.2.1, (y347.2.2.2.1, (y347.2.2.2.2.1, ((IntKind.wrap IntKind.i64 ((IntKind.wrap IntKind.i64 ((IntKind.wrap IntKind.i64 ((IntKind.wrap IntKind.i64 ((IntKind.wrap IntKind.i64 ((IntKind.wrap IntKind.i64 ((IntKind.wrap IntKind.i64 ((IntKind.wrap IntKind.i64 ((IntKind.wrap IntKind.i64 ((IntKind.wrap IntKind.i64 (x1 + (1 : Int))) + (1 : Int))) + (1 : Int))) + (1 : Int))) + (1 : Int))) + (1 : Int))) + (1 : Int))) + (1 : Int))) + (1 : Int))) + (1 : Int))), y347.2.2.2.2.2.2))))))) (0 + (Int.toNat x5)) (y348.1, (y348.2.1, (y348.2.2.1, (y348.2.2.2.1, (y348.2.2.2.2.1, (y348.2.2.2.2.2.1, (IntKind.wrap IntKind.i64 ((IntKind.wrap IntKind.i64 ((IntKind.wrap IntKind.i64 ((IntKind.wrap IntKind.i64 ((IntKind.wrap IntKind.i64 ((IntKind.wrap IntKind.i64 ((IntKind.wrap IntKind.i64 ((IntKind.wrap IntKind.i64 ((IntKind.wrap IntKind.i64 ((IntKind.wrap IntKind.i64 ((IntKind.wrap IntKind.i64 (x1 + (1 : Int))) + (1 : Int))) + (1 : Int))) + (1 : Int))) + (1 : Int))) + (1 : Int))) + (1 : Int))) + (1 : Int))) + (1 : Int))) + (1 : Int))) + (1 : Int))))))))))))
  (hx.1 (d_laws_markItemS_3_0 x1 o))
noncomputable def t_laws_markItemS_3 {R : Type} (nx : s_laws_markItemS_3.T → Option R) (hx : exH R x_laws_markItemS_3) (z : s_laws_markItemS_3.T) : Option R := u_laws_markItemS_3 nx hx z.1.1.1 z.1.2.1.1 z.1.2.2.1.1 z.2.2.1
theorem nat_laws_markItemS_3 : Natural @t_laws_markItemS_3 := fun R nx hx z => by
  show u_laws_markItemS_3 nx hx z.1.1.1 z.1.2.1.1 z.1.2.2.1.1 z.2.2.1 = (u_laws_markItemS_3 (fun y => some (.inl y)) (hIn x_laws_markItemS_3 fun x => some (.inr x)) z.1.1.1 z.1.2.1.1 z.1.2.2.1.1 z.2.2.1).bind (goOn nx hx)
  unfold u_laws_markItemS_3
  exact nat_cond (nat_bind fun _ => nat_bind fun _ => nat_bind fun _ => nat_bind fun _ => nat_bind fun _ => nat_bind fun _ => nat_bind fun _ => nat_bind fun _ => nat_bind fun _ => nat_bind fun _ => nat_bind fun _ => nat_bind fun _ => nat_bind fun _ => rfl) (rfl)
noncomputable def w_laws_markItemS_3 : s_laws_markItemS_3.T → Option (exT x_laws_markItemS_3) := wOf @t_laws_markItemS_3
theorem wq_laws_markItemS_3 (x0 : List (ByteArray × (Bool × (((Int × (Int × Int)) × (Int × (Int × Int))) × (Int × (Int × (Int × Int))))))) (x1 : Int) (x5 : Int) (o : List (ByteArray × (Bool × (((Int × (Int × Int)) × (Int × (Int × Int))) × (Int × (Int × (Int × Int))))))) : w_laws_markItemS_3 (m_laws_markItemS_3 x0 x1 x5 o) = u_laws_markItemS_3 w_laws_markItemS_3 (hIn x_laws_markItemS_3 some) x0 x1 x5 o := wOf_eq nat_laws_markItemS_3 _
def lh_laws_markItemS_3 : LoopHint := ⟨[0, 1, 5], [], [1], []⟩
noncomputable def h_laws_markItemS : Hints Rv := ⟨fun k => match k with | 3 => lh_laws_markItemS_3 | _ => ⟨[], [], [], []⟩, fun k => match k with | 3 => some (loopX s_laws_markItemS_3 x_laws_markItemS_3 w_laws_markItemS_3) | _ => none⟩
theorem st_laws_markItemS_3 (n : Nat) (z : s_laws_markItemS_3.T) (k : Ex → Live → Option Rv) : loopN ⟨119, 119⟩ lh_laws_markItemS_3 (den (tab C0 T_laws_markItemS) ⟨119, 119⟩ h_laws_markItemS 1 (loopOf Tryd.f11 2)) (n + 1) (s_laws_markItemS_3.enc z) k =
    t_laws_markItemS_3 (fun y => loopN ⟨119, 119⟩ lh_laws_markItemS_3 (den (tab C0 T_laws_markItemS) ⟨119, 119⟩ h_laws_markItemS 1 (loopOf Tryd.f11 2)) n (s_laws_markItemS_3.enc y) k) (hK k x_laws_markItemS_3) z := by kernel_rfl
theorem hs_laws_markItemS : HintsOk (tab C0 T_laws_markItemS) ⟨119, 119⟩ h_laws_markItemS 1 (loops (codeOf Tryd.f11)) := by
  have hl : loops (codeOf Tryd.f11) = [loopOf Tryd.f11 2] := by kernel_rfl
  rw [hl]
  exact HintsOk.cons (n := 3) (lh := lh_laws_markItemS_3) (S := loopX s_laws_markItemS_3 x_laws_markItemS_3 w_laws_markItemS_3) (by kernel_rfl) rfl rfl (loopX_ok nat_laws_markItemS_3 st_laws_markItemS_3)
    (HintsOk.nil)
noncomputable def t_laws_markItemS {R : Type} (kx : Int × (List (ByteArray × (Bool × (((Int × (Int × Int)) × (Int × (Int × Int))) × (Int × (Int × (Int × Int))))))) → Option R) (a0 : List (ByteArray × (Bool × (((Int × (Int × Int)) × (Int × (Int × Int))) × (Int × (Int × (Int × Int))))))) (a1 : Int) : Option R :=
  Option.bind (w_laws_markItemS_3 (m_laws_markItemS_3 a0 a1 (0 : Int) a0)) (exC x_laws_markItemS_3
  (fun e349 =>
   kx ((e349.1.1.1 : Int), (e349.2.2.1 : List (ByteArray × (Bool × (((Int × (Int × Int)) × (Int × (Int × Int))) × (Int × (Int × (Int × Int)))))))), ()))
noncomputable def g_laws_markItemS (a0 : List (ByteArray × (Bool × (((Int × (Int × Int)) × (Int × (Int × Int))) × (Int × (Int × (Int × Int))))))) (a1 : Int) : Option (Int × (List (ByteArray × (Bool × (((Int × (Int × Int)) × (Int × (Int × Int))) × (Int × (Int × (Int × Int)))))))) := t_laws_markItemS some a0 a1
theorem nat_laws_markItemS {R : Type} (kx : Int × (List (ByteArray × (Bool × (((Int × (Int × Int)) × (Int × (Int × Int))) × (Int × (Int × (Int × Int))))))) → Option R) (a0 : List (ByteArray × (Bool × (((Int × (Int × Int)) × (Int × (Int × Int))) × (Int × (Int × (Int × Int))))))) (a1 : Int) : t_laws_markItemS kx a0 a1 = (g_laws_markItemS a0 a1).bind kx := by
  unfold g_laws_markItemS t_laws_markItemS
  exact nat_exC ⟨fun _ => rfl, trivial⟩
abbrev as_laws_markItemS : List AX := [.io (.pair .str (.pair .bool (.pair (.pair (.pair (.int .i64) (.pair (.int .i64) (.int .i64))) (.pair (.int .i64) (.pair (.int .i64) (.int .i64)))) (.pair (.int .i64) (.pair (.int .i64) (.pair (.int .i64) (.int .i64))))))), .val false (.int .i64)]
abbrev en_laws_markItemS : Int × (List (ByteArray × (Bool × (((Int × (Int × Int)) × (Int × (Int × Int))) × (Int × (Int × (Int × Int))))))) → AV × List CV := fun b => (.one ⟨false, [(.v (.int .i64 b.1))]⟩, [(.own (.pair .str (.pair .bool (.pair (.pair (.pair (.int .i64) (.pair (.int .i64) (.int .i64))) (.pair (.int .i64) (.pair (.int .i64) (.int .i64)))) (.pair (.int .i64) (.pair (.int .i64) (.pair (.int .i64) (.int .i64))))))) b.2)])
noncomputable abbrev k_laws_markItemS : Contract := .fx as_laws_markItemS (Int × (List (ByteArray × (Bool × (((Int × (Int × Int)) × (Int × (Int × Int))) × (Int × (Int × (Int × Int)))))))) (fun z => g_laws_markItemS z.1 z.2.1) en_laws_markItemS
theorem r_laws_markItemS (z : argsX as_laws_markItemS) : runF (tab C0 T_laws_markItemS) h_laws_markItemS 1 Tryd.f11 (lentOf as_laws_markItemS) (xBoxes as_laws_markItemS z) (xVals as_laws_markItemS 0 z) K2 = t_laws_markItemS (fun b => some (en_laws_markItemS b)) z.1 z.2.1 := by kernel_rfl
theorem so_laws_markItemS : Sound C0 11 k_laws_markItemS :=
  Sound.fx a_laws_markItemS mixed Tryd.func11 (by kernel_rfl) (by kernel_rfl) h_laws_markItemS 1 hs_laws_markItemS (fun z => (r_laws_markItemS z).trans (nat_laws_markItemS _ z.1 z.2.1))

/-! ### F12 laws.heldItemS -/
noncomputable def T_laws_heldItemS : List (FuncId × Contract) := [(40, k_laws_markText)]
theorem a_laws_heldItemS : AllSound C0 T_laws_heldItemS := .cons so_laws_markText (.nil)
abbrev s_laws_heldItemS_3 : LS := ⟨[(false, [(.sl (.pair .str (.pair .bool (.pair (.pair (.pair (.int .i64) (.pair (.int .i64) (.int .i64))) (.pair (.int .i64) (.pair (.int .i64) (.int .i64)))) (.pair (.int .i64) (.pair (.int .i64) (.pair (.int .i64) (.int .i64))))))))]), (false, [(.int .i64)]), (false, [(.int .i64)])], [], []⟩
abbrev e_laws_heldItemS_3_0 : LS := ⟨[(false, [(.int .i64)]), (false, [(.int .i64)])], [], []⟩
abbrev d_laws_heldItemS_3_0 (v0 : Int) (v1 : Int) : e_laws_heldItemS_3_0.T := (((v0, ()), (v1, ()), ()), (), ())
abbrev e_laws_heldItemS_3_1 : LS := ⟨[(false, [(.int .i64)]), (false, [.undef])], [], []⟩
abbrev d_laws_heldItemS_3_1 (v0 : Int) : e_laws_heldItemS_3_1.T := (((v0, ()), ((), ()), ()), (), ())
abbrev x_laws_heldItemS_3 : List (Ex × LS) := [(.ret, e_laws_heldItemS_3_0), (.exit 0, e_laws_heldItemS_3_1)]
abbrev m_laws_heldItemS_3 (x0 : List (ByteArray × (Bool × (((Int × (Int × Int)) × (Int × (Int × Int))) × (Int × (Int × (Int × Int))))))) (x1 : Int) (x5 : Int) : s_laws_heldItemS_3.T := (((x0, ()), (x1, ()), (x5, ()), ()), (), ())
noncomputable def u_laws_heldItemS_3 {R : Type} (nx : s_laws_heldItemS_3.T → Option R) (hx : exH R x_laws_heldItemS_3) (x0 : List (ByteArray × (Bool × (((Int × (Int × Int)) × (Int × (Int × Int))) × (Int × (Int × (Int × Int))))))) (x1 : Int) (x5 : Int) : Option R :=
  cond (decide (x5 < (((List.length x0) : Nat) : Int)))
  (Option.bind (idx x0 x5) fun y358 =>
   Option.bind (g_laws_markText x1) fun y359 =>
   cond (!((ByteArray.toList y358.1) == (ByteArray.toList y359)))
   (hx.1 (d_laws_heldItemS_3_0 x1 (-(1 : Int))))
   (Option.bind (idx x0 x5) fun y360 =>
    cond (!(y360.2.1 == ((Int.tmod (IntKind.wrap IntKind.i64 (x1 + (1 : Int))) (3 : Int)) == (0 : Int))))
    (hx.1 (d_laws_heldItemS_3_0 (IntKind.wrap IntKind.i64 (x1 + (1 : Int))) (-(1 : Int))))
    (Option.bind (idx x0 x5) fun y361 =>
     cond (y361.2.2.1.1.1 != (IntKind.wrap IntKind.i64 ((IntKind.wrap IntKind.i64 (x1 + (1 : Int))) + (1 : Int))))
     (hx.1 (d_laws_heldItemS_3_0 (IntKind.wrap IntKind.i64 ((IntKind.wrap IntKind.i64 (x1 + (1 : Int))) + (1 : Int))) (-(1 : Int))))
     (Option.bind (idx x0 x5) fun y362 =>
      cond (y362.2.2.1.1.2.1 != (IntKind.wrap IntKind.i64 ((IntKind.wrap IntKind.i64 ((IntKind.wrap IntKind.i64 (x1 + (1 : Int))) + (1 : Int))) + (1 : Int))))
      (hx.1 (d_laws_heldItemS_3_0 (IntKind.wrap IntKind.i64 ((IntKind.wrap IntKind.i64 ((IntKind.wrap IntKind.i64 (x1 + (1 : Int))) + (1 : Int))) + (1 : Int))) (-(1 : Int))))
      (Option.bind (idx x0 x5) fun y363 =>
       cond (y363.2.2.1.1.2.2 != (IntKind.wrap IntKind.i64 ((IntKind.wrap IntKind.i64 ((IntKind.wrap IntKind.i64 ((IntKind.wrap IntKind.i64 (x1 + (1 : Int))) + (1 : Int))) + (1 : Int))) + (1 : Int))))
       (hx.1 (d_laws_heldItemS_3_0 (IntKind.wrap IntKind.i64 ((IntKind.wrap IntKind.i64 ((IntKind.wrap IntKind.i64 ((IntKind.wrap IntKind.i64 (x1 + (1 : Int))) + (1 : Int))) + (1 : Int))) + (1 : Int))) (-(1 : Int))))
       (Option.bind (idx x0 x5) fun y364 =>
        cond (y364.2.2.1.2.1 != (IntKind.wrap IntKind.i64 ((IntKind.wrap IntKind.i64 ((IntKind.wrap IntKind.i64 ((IntKind.wrap IntKind.i64 ((IntKind.wrap IntKind.i64 (x1 + (1 : Int))) + (1 : Int))) + (1 : Int))) + (1 : Int))) + (1 : Int))))
        (hx.1 (d_laws_heldItemS_3_0 (IntKind.wrap IntKind.i64 ((IntKind.wrap IntKind.i64 ((IntKind.wrap IntKind.i64 ((IntKind.wrap IntKind.i64 ((IntKind.wrap IntKind.i64 (x1 + (1 : Int))) + (1 : Int))) + (1 : Int))) + (1 : Int))) + (1 : Int))) (-(1 : Int))))
        (Option.bind (idx x0 x5) fun y365 =>
         cond (y365.2.2.1.2.2.1 != (IntKind.wrap IntKind.i64 ((IntKind.wrap IntKind.i64 ((IntKind.wrap IntKind.i64 ((IntKind.wrap IntKind.i64 ((IntKind.wrap IntKind.i64 ((IntKind.wrap IntKind.i64 (x1 + (1 : Int))) + (1 : Int))) + (1 : Int))) + (1 : Int))) + (1 : Int))) + (1 : Int))))
         (hx.1 (d_laws_heldItemS_3_0 (IntKind.wrap IntKind.i64 ((IntKind.wrap IntKind.i64 ((IntKind.wrap IntKind.i64 ((IntKind.wrap IntKind.i64 ((IntKind.wrap IntKind.i64 ((IntKind.wrap IntKind.i64 (x1 + (1 : Int))) + (1 : Int))) + (1 : Int))) + (1 : Int))) + (1 : Int))) + (1 : Int))) (-(1 : Int))))
         (Option.bind (idx x0 x5) fun y366 =>
          cond (y366.2.2.1.2.2.2 != (IntKind.wrap IntKind.i64 ((IntKind.wrap IntKind.i64 ((IntKind.wrap IntKind.i64 ((IntKind.wrap IntKind.i64 ((IntKind.wrap IntKind.i64 ((IntKind.wrap IntKind.i64 ((IntKind.wrap IntKind.i64 (x1 + (1 : Int))) + (1 : Int))) + (1 : Int))) + (1 : Int))) + (1 : Int))) + (1 : Int))) + (1 : Int))))
          (hx.1 (d_laws_heldItemS_3_0 (IntKind.wrap IntKind.i64 ((IntKind.wrap IntKind.i64 ((IntKind.wrap IntKind.i64 ((IntKind.wrap IntKind.i64 ((IntKind.wrap IntKind.i64 ((IntKind.wrap IntKind.i64 ((IntKind.wrap IntKind.i64 (x1 + (1 : Int))) + (1 : Int))) + (1 : Int))) + (1 : Int))) + (1 : Int))) + (1 : Int))) + (1 : Int))) (-(1 : Int))))
          (Option.bind (idx x0 x5) fun y367 =>
           cond (y367.2.2.2.1 != (IntKind.wrap IntKind.i64 ((IntKind.wrap IntKind.i64 ((IntKind.wrap IntKind.i64 ((IntKind.wrap IntKind.i64 ((IntKind.wrap IntKind.i64 ((IntKind.wrap IntKind.i64 ((IntKind.wrap IntKind.i64 ((IntKind.wrap IntKind.i64 (x1 + (1 : Int))) + (1 : Int))) + (1 : Int))) + (1 : Int))) + (1 : Int))) + (1 : Int))) + (1 : Int))) + (1 : Int))))
           (hx.1 (d_laws_heldItemS_3_0 (IntKind.wrap IntKind.i64 ((IntKind.wrap IntKind.i64 ((IntKind.wrap IntKind.i64 ((IntKind.wrap IntKind.i64 ((IntKind.wrap IntKind.i64 ((IntKind.wrap IntKind.i64 ((IntKind.wrap IntKind.i64 ((IntKind.wrap IntKind.i64 (x1 + (1 : Int))) + (1 : Int))) + (1 : Int))) + (1 : Int))) + (1 : Int))) + (1 : Int))) + (1 : Int))) + (1 : Int))) (-(1 : Int))))
           (Option.bind (idx x0 x5) fun y368 =>
            cond (y368.2.2.2.2.1 != (IntKind.wrap IntKind.i64 ((IntKind.wrap IntKind.i64 ((IntKind.wrap IntKind.i64 ((IntKind.wrap IntKind.i64 ((IntKind.wrap IntKind.i64 ((IntKind.wrap IntKind.i64 ((IntKind.wrap IntKind.i64 ((IntKind.wrap IntKind.i64 ((IntKind.wrap IntKind.i64 (x1 + (1 : Int))) + (1 : Int))) + (1 : Int))) + (1 : Int))) + (1 : Int))) + (1 : Int))) + (1 : Int))) + (1 : Int))) + (1 : Int))))
            (hx.1 (d_laws_heldItemS_3_0 (IntKind.wrap IntKind.i64 ((IntKind.wrap IntKind.i64 ((IntKind.wrap IntKind.i64 ((IntKind.wrap IntKind.i64 ((IntKind.wrap IntKind.i64 ((IntKind.wrap IntKind.i64 ((IntKind.wrap IntKind.i64 ((IntKind.wrap IntKind.i64 ((IntKind.wrap IntKind.i64 (x1 + (1 : Int))) + (1 : Int))) + (1 : Int))) + (1 : Int))) + (1 : Int))) + (1 : Int))) + (1 : Int))) + (1 : Int))) + (1 : Int))) (-(1 : Int))))
            (Option.bind (idx x0 x5) fun y369 =>
             cond (y369.2.2.2.2.2.1 != (IntKind.wrap IntKind.i64 ((IntKind.wrap IntKind.i64 ((IntKind.wrap IntKind.i64 ((IntKind.wrap IntKind.i64 ((IntKind.wrap IntKind.i64 ((IntKind.wrap IntKind.i64 ((IntKind.wrap IntKind.i64 ((IntKind.wrap IntKind.i64 ((IntKind.wrap IntKind.i64 ((IntKind.wrap IntKind.i64 (x1 + (1 : Int))) + (1 : Int))) + (1 : Int))) + (1 : Int))) + (1 : Int))) + (1 : Int))) + (1 : Int))) + (1 : Int))) + (1 : Int))) + (1 : Int))))
             (hx.1 (d_laws_heldItemS_3_0 (IntKind.wrap IntKind.i64 ((IntKind.wrap IntKind.i64 ((IntKind.wrap IntKind.i64 ((IntKind.wrap IntKind.i64 ((IntKind.wrap IntKind.i64 ((IntKind.wrap IntKind.i64 ((IntKind.wrap IntKind.i64 ((IntKind.wrap IntKind.i64 ((IntKind.wrap IntKind.i64 ((IntKind.wrap IntKind.i64 (x1 + (1 : Int))) + (1 : Int))) + (1 : Int))) + (1 : Int))) + (1 : Int))) + (1 : Int))) + (1 : Int))) + (1 : Int))) + (1 : Int))) + (1 : Int))) (-(1 : Int))))
             (Option.bind (idx x0 x5) fun y370 =>
              cond (y370.2.2.2.2.2.2 != (IntKind.wrap IntKind.i64 ((IntKind.wrap IntKind.i64 ((IntKind.wrap IntKind.i64 ((IntKind.wrap IntKind.i64 ((IntKind.wrap IntKind.i64 ((IntKind.wrap IntKind.i64 ((IntKind.wrap IntKind.i64 ((IntKind.wrap IntKind.i64 ((IntKind.wrap IntKind.i64 ((IntKind.wrap IntKind.i64 ((IntKind.wrap IntKind.i64 (x1 + (1 : Int))) + (1 : Int))) + (1 : Int))) + (1 : Int))) + (1 : Int))) + (1 : Int))) + (1 : Int))) + (1 : Int))) + (1 : Int))) + (1 : Int))) + (1 : Int))))
              (hx.1 (d_laws_heldItemS_3_0 (IntKind.wrap IntKind.i64 ((IntKind.wrap IntKind.i64 ((IntKind.wrap IntKind.i64 ((IntKind.wrap IntKind.i64 ((IntKind.wrap IntKind.i64 ((IntKind.wrap IntKind.i64 ((IntKind.wrap IntKind.i64 ((IntKind.wrap IntKind.i64 ((IntKind.wrap IntKind.i64 ((IntKind.wrap IntKind.i64 ((IntKind.wrap IntKind.i64 (x1 + (1 : Int))) + (1 : Int))) + (1 : Int))) + (1 : Int))) + (1 : Int))) + (1 : Int))) + (1 : Int))) + (1 : Int))) + (1 : Int))) + (1 : Int))) + (1 : Int))) (-(1 : Int))))
              (nx (m_laws_heldItemS_3 x0 (IntKind.wrap IntKind.i64 ((IntKind.wrap IntKind.i64 ((IntKind.wrap IntKind.i64 ((IntKind.wrap IntKind.i64 ((IntKind.wrap IntKind.i64 ((IntKind.wrap IntKind.i64 ((IntKind.wrap IntKind.i64 ((IntKind.wrap IntKind.i64 ((IntKind.wrap IntKind.i64 ((IntKind.wrap IntKind.i64 ((IntKind.wrap IntKind.i64 ((IntKind.wrap IntKind.i64 (x1 + (1 : Int))) + (1 : Int))) + (1 : Int))) + (1 : Int))) + (1 : Int))) + (1 : Int))) + (1 : Int))) + (1 : Int))) + (1 : Int))) + (1 : Int))) + (1 : Int))) + (1 : Int))) (IntKind.wrap IntKind.i64 (x5 + (1 : Int)))))))))))))))))
  (hx.2.1 (d_laws_heldItemS_3_1 x1))
noncomputable def t_laws_heldItemS_3 {R : Type} (nx : s_laws_heldItemS_3.T → Option R) (hx : exH R x_laws_heldItemS_3) (z : s_laws_heldItemS_3.T) : Option R := u_laws_heldItemS_3 nx hx z.1.1.1 z.1.2.1.1 z.1.2.2.1.1
theorem nat_laws_heldItemS_3 : Natural @t_laws_heldItemS_3 := fun R nx hx z => by
  show u_laws_heldItemS_3 nx hx z.1.1.1 z.1.2.1.1 z.1.2.2.1.1 = (u_laws_heldItemS_3 (fun y => some (.inl y)) (hIn x_laws_heldItemS_3 fun x => some (.inr x)) z.1.1.1 z.1.2.1.1 z.1.2.2.1.1).bind (goOn nx hx)
  unfold u_laws_heldItemS_3
  exact nat_cond (nat_bind fun _ => nat_bind fun _ => nat_cond (rfl) (nat_bind fun _ => nat_cond (rfl) (nat_bind fun _ => nat_cond (rfl) (nat_bind fun _ => nat_cond (rfl) (nat_bind fun _ => nat_cond (rfl) (nat_bind fun _ => nat_cond (rfl) (nat_bind fun _ => nat_cond (rfl) (nat_bind fun _ => nat_cond (rfl) (nat_bind fun _ => nat_cond (rfl) (nat_bind fun _ => nat_cond (rfl) (nat_bind fun _ => nat_cond (rfl) (nat_bind fun _ => nat_cond (rfl) (rfl))))))))))))) (rfl)
noncomputable def w_laws_heldItemS_3 : s_laws_heldItemS_3.T → Option (exT x_laws_heldItemS_3) := wOf @t_laws_heldItemS_3
theorem wq_laws_heldItemS_3 (x0 : List (ByteArray × (Bool × (((Int × (Int × Int)) × (Int × (Int × Int))) × (Int × (Int × (Int × Int))))))) (x1 : Int) (x5 : Int) : w_laws_heldItemS_3 (m_laws_heldItemS_3 x0 x1 x5) = u_laws_heldItemS_3 w_laws_heldItemS_3 (hIn x_laws_heldItemS_3 some) x0 x1 x5 := wOf_eq nat_laws_heldItemS_3 _
def lh_laws_heldItemS_3 : LoopHint := ⟨[0, 1, 5], [], [1, 4], []⟩
noncomputable def h_laws_heldItemS : Hints Rv := ⟨fun k => match k with | 3 => lh_laws_heldItemS_3 | _ => ⟨[], [], [], []⟩, fun k => match k with | 3 => some (loopX s_laws_heldItemS_3 x_laws_heldItemS_3 w_laws_heldItemS_3) | _ => none⟩
theorem st_laws_heldItemS_3 (n : Nat) (z : s_laws_heldItemS_3.T) (k : Ex → Live → Option Rv) : loopN ⟨143, 143⟩ lh_laws_heldItemS_3 (den (tab C0 T_laws_heldItemS) ⟨143, 143⟩ h_laws_heldItemS 1 (loopOf Tryd.f12 2)) (n + 1) (s_laws_heldItemS_3.enc z) k =
    t_laws_heldItemS_3 (fun y => loopN ⟨143, 143⟩ lh_laws_heldItemS_3 (den (tab C0 T_laws_heldItemS) ⟨143, 143⟩ h_laws_heldItemS 1 (loopOf Tryd.f12 2)) n (s_laws_heldItemS_3.enc y) k) (hK k x_laws_heldItemS_3) z := by kernel_rfl
theorem hs_laws_heldItemS : HintsOk (tab C0 T_laws_heldItemS) ⟨143, 143⟩ h_laws_heldItemS 1 (loops (codeOf Tryd.f12)) := by
  have hl : loops (codeOf Tryd.f12) = [loopOf Tryd.f12 2] := by kernel_rfl
  rw [hl]
  exact HintsOk.cons (n := 3) (lh := lh_laws_heldItemS_3) (S := loopX s_laws_heldItemS_3 x_laws_heldItemS_3 w_laws_heldItemS_3) (by kernel_rfl) rfl rfl (loopX_ok nat_laws_heldItemS_3 st_laws_heldItemS_3)
    (HintsOk.nil)
noncomputable def t_laws_heldItemS {R : Type} (kx : Int → Option R) (a0 : (List (ByteArray × (Bool × (((Int × (Int × Int)) × (Int × (Int × Int))) × (Int × (Int × (Int × Int)))))))) (a1 : Int) : Option R :=
  Option.bind (w_laws_heldItemS_3 (m_laws_heldItemS_3 a0 a1 (0 : Int))) (exC x_laws_heldItemS_3
  (fun e371 =>
   kx (e371.1.2.1.1 : Int), fun e374 =>
   kx (e374.1.1.1 : Int), ()))
noncomputable def g_laws_heldItemS (a0 : (List (ByteArray × (Bool × (((Int × (Int × Int)) × (Int × (Int × Int))) × (Int × (Int × (Int × Int)))))))) (a1 : Int) : Option (Int) := t_laws_heldItemS some a0 a1
theorem nat_laws_heldItemS {R : Type} (kx : Int → Option R) (a0 : (List (ByteArray × (Bool × (((Int × (Int × Int)) × (Int × (Int × Int))) × (Int × (Int × (Int × Int)))))))) (a1 : Int) : t_laws_heldItemS kx a0 a1 = (g_laws_heldItemS a0 a1).bind kx := by
  unfold g_laws_heldItemS t_laws_heldItemS
  exact nat_exC ⟨fun _ => rfl, fun _ => rfl, trivial⟩
abbrev as_laws_heldItemS : List AX := [.val false (.slice (.pair .str (.pair .bool (.pair (.pair (.pair (.int .i64) (.pair (.int .i64) (.int .i64))) (.pair (.int .i64) (.pair (.int .i64) (.int .i64)))) (.pair (.int .i64) (.pair (.int .i64) (.pair (.int .i64) (.int .i64)))))))), .val false (.int .i64)]
abbrev en_laws_heldItemS : Int → AV × List CV := fun b => (.one ⟨false, [(.v (.int .i64 b))]⟩, [])
noncomputable abbrev k_laws_heldItemS : Contract := .fx as_laws_heldItemS (Int) (fun z => g_laws_heldItemS z.1 z.2.1) en_laws_heldItemS
theorem r_laws_heldItemS (z : argsX as_laws_heldItemS) : runF (tab C0 T_laws_heldItemS) h_laws_heldItemS 1 Tryd.f12 (lentOf as_laws_heldItemS) (xBoxes as_laws_heldItemS z) (xVals as_laws_heldItemS 0 z) K2 = t_laws_heldItemS (fun b => some (en_laws_heldItemS b)) z.1 z.2.1 := by kernel_rfl
theorem so_laws_heldItemS : Sound C0 12 k_laws_heldItemS :=
  Sound.fx a_laws_heldItemS mixed Tryd.func12 (by kernel_rfl) (by kernel_rfl) h_laws_heldItemS 1 hs_laws_heldItemS (fun z => (r_laws_heldItemS z).trans (nat_laws_heldItemS _ z.1 z.2.1))

/-! ### F3 laws.FnExactStartItems -/
noncomputable def T_laws_FnExactStartItems : List (FuncId × Contract) := [(8, k_spec_StartItems), (9, k_impl_StartItems), (10, k_laws_eqItemS), (11, k_laws_markItemS), (12, k_laws_heldItemS)]
theorem a_laws_FnExactStartItems : AllSound C0 T_laws_FnExactStartItems := .cons so_spec_StartItems (.cons so_impl_StartItems (.cons so_laws_eqItemS (.cons so_laws_markItemS (.cons so_laws_heldItemS (.nil)))))
noncomputable def t_laws_FnExactStartItems {R : Type} (kx : Bool → Option R) (a0 : Int) : Option R :=
  Option.bind (g_spec_StartItems a0) fun y176 =>
  Option.bind (g_impl_StartItems a0) fun y299 =>
  Option.bind (g_laws_eqItemS y299.1 y176.1) fun y324 =>
  cond (!y324)
  (kx Bool.false)
  (cond (y299.2 != y176.2)
   (kx Bool.false)
   (cond (decide ((List.length y299.1) = (List.length y299.1)))
    (Option.bind (g_laws_markItemS y299.1 (1 : Int)) fun y352 =>
     Option.bind (g_laws_heldItemS y352.2 (1 : Int)) fun y376 =>
     cond (decide (y376 < (0 : Int)))
     (kx Bool.false)
     (cond (y376 != y352.1)
      (kx Bool.false)
      (Option.bind (g_impl_StartItems a0) fun y377 =>
       Option.bind (g_laws_eqItemS y377.1 y176.1) fun y378 =>
       cond (!y378)
       (kx Bool.false)
       (cond (y377.2 != y176.2)
        (kx Bool.false)
        (Option.bind (g_laws_heldItemS y352.2 (1 : Int)) fun y379 =>
         cond (decide (y379 < (0 : Int)))
         (kx Bool.false)
         (cond (y379 != y352.1)
          (kx Bool.false)
          (kx Bool.true)))))))
    (none)))
noncomputable def g_laws_FnExactStartItems (a0 : Int) : Option (Bool) := t_laws_FnExactStartItems some a0
theorem nat_laws_FnExactStartItems {R : Type} (kx : Bool → Option R) (a0 : Int) : t_laws_FnExactStartItems kx a0 = (g_laws_FnExactStartItems a0).bind kx := by
  unfold g_laws_FnExactStartItems t_laws_FnExactStartItems
  exact nat_bind fun _ => nat_bind fun _ => nat_bind fun _ => nat_cond (rfl) (nat_cond (rfl) (nat_cond (nat_bind fun _ => nat_bind fun _ => nat_cond (rfl) (nat_cond (rfl) (nat_bind fun _ => nat_bind fun _ => nat_cond (rfl) (nat_cond (rfl) (nat_bind fun _ => nat_cond (rfl) (nat_cond (rfl) (rfl))))))) (rfl)))
abbrev as_laws_FnExactStartItems : List AX := [.val false (.int .i64)]
abbrev en_laws_FnExactStartItems : Bool → AV × List CV := fun b => (.one ⟨false, [(.v (.bool b))]⟩, [])
noncomputable abbrev k_laws_FnExactStartItems : Contract := .fx as_laws_FnExactStartItems (Bool) (fun z => g_laws_FnExactStartItems z.1) en_laws_FnExactStartItems
theorem r_laws_FnExactStartItems (z : argsX as_laws_FnExactStartItems) : runF (tab C0 T_laws_FnExactStartItems) noHints 1 Tryd.f3 (lentOf as_laws_FnExactStartItems) (xBoxes as_laws_FnExactStartItems z) (xVals as_laws_FnExactStartItems 0 z) K2 = t_laws_FnExactStartItems (fun b => some (en_laws_FnExactStartItems b)) z.1 := by kernel_rfl
theorem so_laws_FnExactStartItems : Sound C0 3 k_laws_FnExactStartItems :=
  Sound.fx a_laws_FnExactStartItems mixed Tryd.func3 (by kernel_rfl) (by kernel_rfl) noHints 1 noHints_ok (fun z => (r_laws_FnExactStartItems z).trans (nat_laws_FnExactStartItems _ z.1))

end Go.Proofs.YtooaomcmhgpbpaaDoor
