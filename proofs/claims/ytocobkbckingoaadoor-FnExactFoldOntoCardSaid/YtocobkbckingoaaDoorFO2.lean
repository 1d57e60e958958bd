/- What the functions that FoldOnto reaches compute, printed. No conditions. -/
import Derived.Test.YtocobkbckingoaaDoorW1E
namespace Go.Proofs.YtocobkbckingoaaDoor
open Go.Vai
set_option maxRecDepth 100000

/-! ### F40 laws.toNum -/
noncomputable def T_laws_toNum : List (FuncId × Contract) := []
theorem a_laws_toNum : AllSound C0 T_laws_toNum := .nil
noncomputable def t_laws_toNum {R : Type} (kx : (Int × (Int × Int)) → Option R) (a0 : (Int × (Int × Int))) : Option R :=
  kx a0
noncomputable def g_laws_toNum (a0 : (Int × (Int × Int))) : Option ((Int × (Int × Int))) := t_laws_toNum some a0
theorem nat_laws_toNum {R : Type} (kx : (Int × (Int × Int)) → Option R) (a0 : (Int × (Int × Int))) : t_laws_toNum kx a0 = (g_laws_toNum a0).bind kx := by
  unfold g_laws_toNum t_laws_toNum
  exact rfl
abbrev as_laws_toNum : List AX := [.val true (.pair (.int .i64) (.pair (.int .i64) (.int .i64)))]
abbrev en_laws_toNum : (Int × (Int × Int)) → AV × List CV := fun b => (.one ⟨true, [(.v (.int .i64 b.1)), (.v (.int .i64 b.2.1)), (.v (.int .i64 b.2.2))]⟩, [])
noncomputable abbrev k_laws_toNum : Contract := .fx as_laws_toNum ((Int × (Int × Int))) (fun z => g_laws_toNum z.1) en_laws_toNum
theorem r_laws_toNum (z : argsX as_laws_toNum) : runF (tab C0 T_laws_toNum) noHints 1 Tryd.f40 (lentOf as_laws_toNum) (xBoxes as_laws_toNum z) (xVals as_laws_toNum 0 z) K2 = t_laws_toNum (fun b => some (en_laws_toNum b)) z.1 := by kernel_rfl
theorem so_laws_toNum : Sound C0 40 k_laws_toNum :=
  Sound.fx a_laws_toNum mixed Tryd.func40 (by kernel_rfl) (by kernel_rfl) noHints 1 noHints_ok (fun z => (r_laws_toNum z).trans (nat_laws_toNum _ z.1))

/-! ### F12 laws.toPoint -/
noncomputable def T_laws_toPoint : List (FuncId × Contract) := [(40, k_laws_toNum)]
theorem a_laws_toPoint : AllSound C0 T_laws_toPoint := .cons so_laws_toNum (.nil)
noncomputable def t_laws_toPoint {R : Type} (kx : ((Int × (Int × Int)) × (Int × (Int × Int))) → Option R) (a0 : ((Int × (Int × Int)) × (Int × (Int × Int)))) : Option R :=
  Option.bind (g_laws_toNum a0.1) fun y4 =>
  Option.bind (g_laws_toNum a0.2) fun y5 =>
  kx (y4, y5)
noncomputable def g_laws_toPoint (a0 : ((Int × (Int × Int)) × (Int × (Int × Int)))) : Option (((Int × (Int × Int)) × (Int × (Int × Int)))) := t_laws_toPoint some a0
theorem nat_laws_toPoint {R : Type} (kx : ((Int × (Int × Int)) × (Int × (Int × Int))) → Option R) (a0 : ((Int × (Int × Int)) × (Int × (Int × Int)))) : t_laws_toPoint kx a0 = (g_laws_toPoint a0).bind kx := by
  unfold g_laws_toPoint t_laws_toPoint
  exact nat_bind fun _ => nat_bind fun _ => rfl
abbrev as_laws_toPoint : List AX := [.val true (.pair (.pair (.int .i64) (.pair (.int .i64) (.int .i64))) (.pair (.int .i64) (.pair (.int .i64) (.int .i64))))]
abbrev en_laws_toPoint : ((Int × (Int × Int)) × (Int × (Int × Int))) → AV × List CV := fun b => (.one ⟨true, [(.v (.int .i64 b.1.1)), (.v (.int .i64 b.1.2.1)), (.v (.int .i64 b.1.2.2)), (.v (.int .i64 b.2.1)), (.v (.int .i64 b.2.2.1)), (.v (.int .i64 b.2.2.2))]⟩, [])
noncomputable abbrev k_laws_toPoint : Contract := .fx as_laws_toPoint (((Int × (Int × Int)) × (Int × (Int × Int)))) (fun z => g_laws_toPoint z.1) en_laws_toPoint
theorem r_laws_toPoint (z : argsX as_laws_toPoint) : runF (tab C0 T_laws_toPoint) noHints 1 Tryd.f12 (lentOf as_laws_toPoint) (xBoxes as_laws_toPoint z) (xVals as_laws_toPoint 0 z) K2 = t_laws_toPoint (fun b => some (en_laws_toPoint b)) z.1 := by kernel_rfl
theorem so_laws_toPoint : Sound C0 12 k_laws_toPoint :=
  Sound.fx a_laws_toPoint mixed Tryd.func12 (by kernel_rfl) (by kernel_rfl) noHints 1 noHints_ok (fun z => (r_laws_toPoint z).trans (nat_laws_toPoint _ z.1))

/-! ### F67 spec.l00In -/
noncomputable def T_spec_l00In : List (FuncId × Contract) := []
theorem a_spec_l00In : AllSound C0 T_spec_l00In := .nil
noncomputable def t_spec_l00In {R : Type} (kx : Bool → Option R) (a0 : Int) (a1 : Int) (a2 : Int) : Option R :=
  cond (decide (a0 ≥ a1))
  (kx (decide (a0 ≤ a2)))
  (kx Bool.false)
noncomputable def g_spec_l00In (a0 : Int) (a1 : Int) (a2 : Int) : Option (Bool) := t_spec_l00In some a0 a1 a2
theorem nat_spec_l00In {R : Type} (kx : Bool → Option R) (a0 : Int) (a1 : Int) (a2 : Int) : t_spec_l00In kx a0 a1 a2 = (g_spec_l00In a0 a1 a2).bind kx := by
  unfold g_spec_l00In t_spec_l00In
  exact nat_cond (rfl) (rfl)
abbrev as_spec_l00In : List AX := [.val false (.int .i64), .val false (.int .i64), .val false (.int .i64)]
abbrev en_spec_l00In : Bool → AV × List CV := fun b => (.one ⟨false, [(.v (.bool b))]⟩, [])
noncomputable abbrev k_spec_l00In : Contract := .fx as_spec_l00In (Bool) (fun z => g_spec_l00In z.1 z.2.1 z.2.2.1) en_spec_l00In
theorem r_spec_l00In (z : argsX as_spec_l00In) : runF (tab C0 T_spec_l00In) noHints 1 Tryd.f67 (lentOf as_spec_l00In) (xBoxes as_spec_l00In z) (xVals as_spec_l00In 0 z) K2 = t_spec_l00In (fun b => some (en_spec_l00In b)) z.1 z.2.1 z.2.2.1 := by kernel_rfl
theorem so_spec_l00In : Sound C0 67 k_spec_l00In :=
  Sound.fx a_spec_l00In mixed Tryd.func67 (by kernel_rfl) (by kernel_rfl) noHints 1 noHints_ok (fun z => (r_spec_l00In z).trans (nat_spec_l00In _ z.1 z.2.1 z.2.2.1))

/-! ### F78 spec.l01Ok -/
noncomputable def T_spec_l01Ok : List (FuncId × Contract) := [(67, k_spec_l00In)]
theorem a_spec_l01Ok : AllSound C0 T_spec_l01Ok := .cons so_spec_l00In (.nil)
noncomputable def t_spec_l01Ok {R : Type} (kx : Bool → Option R) (a0 : (Int × (Int × Int))) : Option R :=
  Option.bind (g_spec_l00In a0.1 (-(131072 : Int)) (131072 : Int)) fun y15 =>
  cond (!y15)
  (kx Bool.false)
  (Option.bind (g_spec_l00In a0.2.1 (-(131072 : Int)) (131072 : Int)) fun y16 =>
   cond (!y16)
   (kx Bool.false)
   (Option.bind (g_spec_l00In a0.2.2 (0 : Int) (10 : Int)) fun y17 =>
    cond (!y17)
    (kx Bool.false)
    (cond (a0.2.2 == (0 : Int))
     (kx Bool.true)
     (cond ((Int.tmod a0.1 (2 : Int)) != (0 : Int))
      (kx Bool.true)
      (kx ((Int.tmod a0.2.1 (2 : Int)) != (0 : Int)))))))
noncomputable def g_spec_l01Ok (a0 : (Int × (Int × Int))) : Option (Bool) := t_spec_l01Ok some a0
theorem nat_spec_l01Ok {R : Type} (kx : Bool → Option R) (a0 : (Int × (Int × Int))) : t_spec_l01Ok kx a0 = (g_spec_l01Ok a0).bind kx := by
  unfold g_spec_l01Ok t_spec_l01Ok
  exact nat_bind fun _ => nat_cond (rfl) (nat_bind fun _ => nat_cond (rfl) (nat_bind fun _ => nat_cond (rfl) (nat_cond (rfl) (nat_cond (rfl) (rfl)))))
abbrev as_spec_l01Ok : List AX := [.val true (.pair (.int .i64) (.pair (.int .i64) (.int .i64)))]
abbrev en_spec_l01Ok : Bool → AV × List CV := fun b => (.one ⟨false, [(.v (.bool b))]⟩, [])
noncomputable abbrev k_spec_l01Ok : Contract := .fx as_spec_l01Ok (Bool) (fun z => g_spec_l01Ok z.1) en_spec_l01Ok
theorem r_spec_l01Ok (z : argsX as_spec_l01Ok) : runF (tab C0 T_spec_l01Ok) noHints 1 Tryd.f78 (lentOf as_spec_l01Ok) (xBoxes as_spec_l01Ok z) (xVals as_spec_l01Ok 0 z) K2 = t_spec_l01Ok (fun b => some (en_spec_l01Ok b)) z.1 := by kernel_rfl
theorem so_spec_l01Ok : Sound C0 78 k_spec_l01Ok :=
  Sound.fx a_spec_l01Ok mixed Tryd.func78 (by kernel_rfl) (by kernel_rfl) noHints 1 noHints_ok (fun z => (r_spec_l01Ok z).trans (nat_spec_l01Ok _ z.1))

/-! ### F36 spec.l02Point -/
noncomputable def T_spec_l02Point : List (FuncId × Contract) := [(78, k_spec_l01Ok)]
theorem a_spec_l02Point : AllSound C0 T_spec_l02Point := .cons so_spec_l01Ok (.nil)
noncomputable def t_spec_l02Point {R : Type} (kx : Bool → Option R) (a0 : ((Int × (Int × Int)) × (Int × (Int × Int)))) : Option R :=
  Option.bind (g_spec_l01Ok a0.1) fun y18 =>
  cond y18
  (Option.bind (g_spec_l01Ok a0.2) fun y19 =>
   kx y19)
  (kx Bool.false)
noncomputable def g_spec_l02Point (a0 : ((Int × (Int × Int)) × (Int × (Int × Int)))) : Option (Bool) := t_spec_l02Point some a0
theorem nat_spec_l02Point {R : Type} (kx : Bool → Option R) (a0 : ((Int × (Int × Int)) × (Int × (Int × Int)))) : t_spec_l02Point kx a0 = (g_spec_l02Point a0).bind kx := by
  unfold g_spec_l02Point t_spec_l02Point
  exact nat_bind fun _ => nat_cond (nat_bind fun _ => rfl) (rfl)
abbrev as_spec_l02Point : List AX := [.val true (.pair (.pair (.int .i64) (.pair (.int .i64) (.int .i64))) (.pair (.int .i64) (.pair (.int .i64) (.int .i64))))]
abbrev en_spec_l02Point : Bool → AV × List CV := fun b => (.one ⟨false, [(.v (.bool b))]⟩, [])
noncomputable abbrev k_spec_l02Point : Contract := .fx as_spec_l02Point (Bool) (fun z => g_spec_l02Point z.1) en_spec_l02Point
theorem r_spec_l02Point (z : argsX as_spec_l02Point) : runF (tab C0 T_spec_l02Point) noHints 1 Tryd.f36 (lentOf as_spec_l02Point) (xBoxes as_spec_l02Point z) (xVals as_spec_l02Point 0 z) K2 = t_spec_l02Point (fun b => some (en_spec_l02Point b)) z.1 := by kernel_rfl
theorem so_spec_l02Point : Sound C0 36 k_spec_l02Point :=
  Sound.fx a_spec_l02Point mixed Tryd.func36 (by kernel_rfl) (by kernel_rfl) noHints 1 noHints_ok (fun z => (r_spec_l02Point z).trans (nat_spec_l02Point _ z.1))

/-! ### F81 spec.l01Of -/
noncomputable def T_spec_l01Of : List (FuncId × Contract) := []
theorem a_spec_l01Of : AllSound C0 T_spec_l01Of := .nil
noncomputable def t_spec_l01Of {R : Type} (kx : (Int × (Int × Int)) → Option R) (a0 : (Int × (Int × Int))) : Option R :=
  kx a0
noncomputable def g_spec_l01Of (a0 : (Int × (Int × Int))) : Option ((Int × (Int × Int))) := t_spec_l01Of some a0
theorem nat_spec_l01Of {R : Type} (kx : (Int × (Int × Int)) → Option R) (a0 : (Int × (Int × Int))) : t_spec_l01Of kx a0 = (g_spec_l01Of a0).bind kx := by
  unfold g_spec_l01Of t_spec_l01Of
  exact rfl
abbrev as_spec_l01Of : List AX := [.val true (.pair (.int .i64) (.pair (.int .i64) (.int .i64)))]
abbrev en_spec_l01Of : (Int × (Int × Int)) → AV × List CV := fun b => (.one ⟨true, [(.v (.int .i64 b.1)), (.v (.int .i64 b.2.1)), (.v (.int .i64 b.2.2))]⟩, [])
noncomputable abbrev k_spec_l01Of : Contract := .fx as_spec_l01Of ((Int × (Int × Int))) (fun z => g_spec_l01Of z.1) en_spec_l01Of
theorem r_spec_l01Of (z : argsX as_spec_l01Of) : runF (tab C0 T_spec_l01Of) noHints 1 Tryd.f81 (lentOf as_spec_l01Of) (xBoxes as_spec_l01Of z) (xVals as_spec_l01Of 0 z) K2 = t_spec_l01Of (fun b => some (en_spec_l01Of b)) z.1 := by kernel_rfl
theorem so_spec_l01Of : Sound C0 81 k_spec_l01Of :=
  Sound.fx a_spec_l01Of mixed Tryd.func81 (by kernel_rfl) (by kernel_rfl) noHints 1 noHints_ok (fun z => (r_spec_l01Of z).trans (nat_spec_l01Of _ z.1))

/-! ### F39 spec.l02Of -/
noncomputable def T_spec_l02Of : List (FuncId × Contract) := [(81, k_spec_l01Of)]
theorem a_spec_l02Of : AllSound C0 T_spec_l02Of := .cons so_spec_l01Of (.nil)
noncomputable def t_spec_l02Of {R : Type} (kx : ((Int × (Int × Int)) × (Int × (Int × Int))) → Option R) (a0 : ((Int × (Int × Int)) × (Int × (Int × Int)))) : Option R :=
  Option.bind (g_spec_l01Of a0.1) fun y24 =>
  Option.bind (g_spec_l01Of a0.2) fun y25 =>
  kx (y24, y25)
noncomputable def g_spec_l02Of (a0 : ((Int × (Int × Int)) × (Int × (Int × Int)))) : Option (((Int × (Int × Int)) × (Int × (Int × Int)))) := t_spec_l02Of some a0
theorem nat_spec_l02Of {R : Type} (kx : ((Int × (Int × Int)) × (Int × (Int × Int))) → Option R) (a0 : ((Int × (Int × Int)) × (Int × (Int × Int)))) : t_spec_l02Of kx a0 = (g_spec_l02Of a0).bind kx := by
  unfold g_spec_l02Of t_spec_l02Of
  exact nat_bind fun _ => nat_bind fun _ => rfl
abbrev as_spec_l02Of : List AX := [.val true (.pair (.pair (.int .i64) (.pair (.int .i64) (.int .i64))) (.pair (.int .i64) (.pair (.int .i64) (.int .i64))))]
abbrev en_spec_l02Of : ((Int × (Int × Int)) × (Int × (Int × Int))) → AV × List CV := fun b => (.one ⟨true, [(.v (.int .i64 b.1.1)), (.v (.int .i64 b.1.2.1)), (.v (.int .i64 b.1.2.2)), (.v (.int .i64 b.2.1)), (.v (.int .i64 b.2.2.1)), (.v (.int .i64 b.2.2.2))]⟩, [])
noncomputable abbrev k_spec_l02Of : Contract := .fx as_spec_l02Of (((Int × (Int × Int)) × (Int × (Int × Int)))) (fun z => g_spec_l02Of z.1) en_spec_l02Of
theorem r_spec_l02Of (z : argsX as_spec_l02Of) : runF (tab C0 T_spec_l02Of) noHints 1 Tryd.f39 (lentOf as_spec_l02Of) (xBoxes as_spec_l02Of z) (xVals as_spec_l02Of 0 z) K2 = t_spec_l02Of (fun b => some (en_spec_l02Of b)) z.1 := by kernel_rfl
theorem so_spec_l02Of : Sound C0 39 k_spec_l02Of :=
  Sound.fx a_spec_l02Of mixed Tryd.func39 (by kernel_rfl) (by kernel_rfl) noHints 1 noHints_ok (fun z => (r_spec_l02Of z).trans (nat_spec_l02Of _ z.1))

/-! ### F126 spec.l01Neg -/
noncomputable def T_spec_l01Neg : List (FuncId × Contract) := []
theorem a_spec_l01Neg : AllSound C0 T_spec_l01Neg := .nil
noncomputable def t_spec_l01Neg {R : Type} (kx : (Int × (Int × Int)) → Option R) (a0 : (Int × (Int × Int))) : Option R :=
  kx ((IntKind.wrap IntKind.i64 ((0 : Int) - a0.1)), ((IntKind.wrap IntKind.i64 ((0 : Int) - a0.2.1)), a0.2.2))
noncomputable def g_spec_l01Neg (a0 : (Int × (Int × Int))) : Option ((Int × (Int × Int))) := t_spec_l01Neg some a0
theorem nat_spec_l01Neg {R : Type} (kx : (Int × (Int × Int)) → Option R) (a0 : (Int × (Int × Int))) : t_spec_l01Neg kx a0 = (g_spec_l01Neg a0).bind kx := by
  unfold g_spec_l01Neg t_spec_l01Neg
  exact rfl
abbrev as_spec_l01Neg : List AX := [.val true (.pair (.int .i64) (.pair (.int .i64) (.int .i64)))]
abbrev en_spec_l01Neg : (Int × (Int × Int)) → AV × List CV := fun b => (.one ⟨true, [(.v (.int .i64 b.1)), (.v (.int .i64 b.2.1)), (.v (.int .i64 b.2.2))]⟩, [])
noncomputable abbrev k_spec_l01Neg : Contract := .fx as_spec_l01Neg ((Int × (Int × Int))) (fun z => g_spec_l01Neg z.1) en_spec_l01Neg
theorem r_spec_l01Neg (z : argsX as_spec_l01Neg) : runF (tab C0 T_spec_l01Neg) noHints 1 Tryd.f126 (lentOf as_spec_l01Neg) (xBoxes as_spec_l01Neg z) (xVals as_spec_l01Neg 0 z) K2 = t_spec_l01Neg (fun b => some (en_spec_l01Neg b)) z.1 := by kernel_rfl
theorem so_spec_l01Neg : Sound C0 126 k_spec_l01Neg :=
  Sound.fx a_spec_l01Neg mixed Tryd.func126 (by kernel_rfl) (by kernel_rfl) noHints 1 noHints_ok (fun z => (r_spec_l01Neg z).trans (nat_spec_l01Neg _ z.1))

/-! ### F104 spec.l01Low -/
noncomputable def T_spec_l01Low : List (FuncId × Contract) := []
theorem a_spec_l01Low : AllSound C0 T_spec_l01Low := .nil
abbrev s_spec_l01Low_4 : LS := ⟨[(false, [(.ptr 1 0)]), (false, [(.ptr 2 0)])], [(false, [(.int .i64), (.int .i64), (.int .i64)]), (false, [(.int .i64), (.int .i64), (.int .i64)])], []⟩
abbrev e_spec_l01Low_4_0 : LS := ⟨[(false, [(.ptr 1 0)]), (false, [(.ptr 2 0)])], [(false, [(.int .i64), (.int .i64), (.int .i64)]), (false, [(.int .i64), (.int .i64), (.int .i64)])], []⟩
abbrev d_spec_l01Low_4_0 (v0 : Int) (v1 : Int) (v2 : Int) (v3 : Int) (v4 : Int) (v5 : Int) : e_spec_l01Low_4_0.T := ((((), ()), ((), ()), ()), ((v0, v1, v2, ()), (v3, v4, v5, ()), ()), ())
abbrev x_spec_l01Low_4 : List (Ex × LS) := [(.exit 0, e_spec_l01Low_4_0)]
abbrev m_spec_l01Low_4 (b0_0 : Int) (b0_1 : Int) (b0_2 : Int) (b1_0 : Int) (b1_1 : Int) (b1_2 : Int) : s_spec_l01Low_4.T := ((((), ()), ((), ()), ()), ((b0_0, b0_1, b0_2, ()), (b1_0, b1_1, b1_2, ()), ()), ())
noncomputable def u_spec_l01Low_4 {R : Type} (nx : s_spec_l01Low_4.T → Option R) (hx : exH R x_spec_l01Low_4) (b0_0 : Int) (b0_1 : Int) (b0_2 : Int) (b1_0 : Int) (b1_1 : Int) (b1_2 : Int) : Option R :=
  cond (decide (b0_2 > (0 : Int)))
  (cond ((Int.tmod b0_0 (2 : Int)) == (0 : Int))
   (cond ((Int.tmod b0_1 (2 : Int)) == (0 : Int))
    (nx (m_spec_l01Low_4 (IntKind.wrap IntKind.i64 (Int.tdiv b0_0 (2 : Int))) (IntKind.wrap IntKind.i64 (Int.tdiv b0_1 (2 : Int))) (IntKind.wrap IntKind.i64 (b0_2 - (1 : Int))) b1_0 b1_1 b1_2))
    (hx.1 (d_spec_l01Low_4_0 b0_0 b0_1 b0_2 b1_0 b1_1 b1_2)))
   (hx.1 (d_spec_l01Low_4_0 b0_0 b0_1 b0_2 b1_0 b1_1 b1_2)))
  (hx.1 (d_spec_l01Low_4_0 b0_0 b0_1 b0_2 b1_0 b1_1 b1_2))
noncomputable def t_spec_l01Low_4 {R : Type} (nx : s_spec_l01Low_4.T → Option R) (hx : exH R x_spec_l01Low_4) (z : s_spec_l01Low_4.T) : Option R := u_spec_l01Low_4 nx hx z.2.1.1.1 z.2.1.1.2.1 z.2.1.1.2.2.1 z.2.1.2.1.1 z.2.1.2.1.2.1 z.2.1.2.1.2.2.1
theorem nat_spec_l01Low_4 : Natural @t_spec_l01Low_4 := fun R nx hx z => by
  show u_spec_l01Low_4 nx hx z.2.1.1.1 z.2.1.1.2.1 z.2.1.1.2.2.1 z.2.1.2.1.1 z.2.1.2.1.2.1 z.2.1.2.1.2.2.1 = (u_spec_l01Low_4 (fun y => some (.inl y)) (hIn x_spec_l01Low_4 fun x => some (.inr x)) z.2.1.1.1 z.2.1.1.2.1 z.2.1.1.2.2.1 z.2.1.2.1.1 z.2.1.2.1.2.1 z.2.1.2.1.2.2.1).bind (goOn nx hx)
  unfold u_spec_l01Low_4
  exact nat_cond (nat_cond (nat_cond (rfl) (rfl)) (rfl)) (rfl)
noncomputable def w_spec_l01Low_4 : s_spec_l01Low_4.T → Option (exT x_spec_l01Low_4) := wOf @t_spec_l01Low_4
theorem wq_spec_l01Low_4 (b0_0 : Int) (b0_1 : Int) (b0_2 : Int) (b1_0 : Int) (b1_1 : Int) (b1_2 : Int) : w_spec_l01Low_4 (m_spec_l01Low_4 b0_0 b0_1 b0_2 b1_0 b1_1 b1_2) = u_spec_l01Low_4 w_spec_l01Low_4 (hIn x_spec_l01Low_4 some) b0_0 b0_1 b0_2 b1_0 b1_1 b1_2 := wOf_eq nat_spec_l01Low_4 _
def lh_spec_l01Low_4 : LoopHint := ⟨[1, 2], [1, 2], [1, 2], [1, 2]⟩
noncomputable def h_spec_l01Low : Hints Rv := ⟨fun k => match k with | 4 => lh_spec_l01Low_4 | _ => ⟨[], [], [], []⟩, fun k => match k with | 4 => some (loopX s_spec_l01Low_4 x_spec_l01Low_4 w_spec_l01Low_4) | _ => none⟩
theorem st_spec_l01Low_4 (n : Nat) (z : s_spec_l01Low_4.T) (k : Ex → Live → Option Rv) : loopN ⟨40, 40⟩ lh_spec_l01Low_4 (den (tab C0 T_spec_l01Low) ⟨40, 40⟩ h_spec_l01Low 1 (loopOf Tryd.f104 3)) (n + 1) (s_spec_l01Low_4.enc z) k =
    t_spec_l01Low_4 (fun y => loopN ⟨40, 40⟩ lh_spec_l01Low_4 (den (tab C0 T_spec_l01Low) ⟨40, 40⟩ h_spec_l01Low 1 (loopOf Tryd.f104 3)) n (s_spec_l01Low_4.enc y) k) (hK k x_spec_l01Low_4) z := by kernel_rfl
theorem hs_spec_l01Low : HintsOk (tab C0 T_spec_l01Low) ⟨40, 40⟩ h_spec_l01Low 1 (loops (codeOf Tryd.f104)) := by
  have hl : loops (codeOf Tryd.f104) = [loopOf Tryd.f104 3] := by kernel_rfl
  rw [hl]
  exact HintsOk.cons (n := 4) (lh := lh_spec_l01Low_4) (S := loopX s_spec_l01Low_4 x_spec_l01Low_4 w_spec_l01Low_4) (by kernel_rfl) rfl rfl (loopX_ok nat_spec_l01Low_4 st_spec_l01Low_4)
    (HintsOk.nil)
noncomputable def t_spec_l01Low {R : Type} (kx : (Int × (Int × Int)) → Option R) (a0 : (Int × (Int × Int))) : Option R :=
  cond (a0.1 == (0 : Int))
  (cond (a0.2.1 == (0 : Int))
   (kx ((0 : Int), ((0 : Int), (0 : Int))))
   (Option.bind (w_spec_l01Low_4 (m_spec_l01Low_4 a0.1 a0.2.1 a0.2.2 (0 : Int) (0 : Int) (0 : Int))) (exC x_spec_l01Low_4
    (fun e81 =>
     kx ((e81.2.1.1.1 : Int), ((e81.2.1.1.2.1 : Int), (e81.2.1.1.2.2.1 : Int))), ()))))
  (Option.bind (w_spec_l01Low_4 (m_spec_l01Low_4 a0.1 a0.2.1 a0.2.2 (0 : Int) (0 : Int) (0 : Int))) (exC x_spec_l01Low_4
   (fun e88 =>
    kx ((e88.2.1.1.1 : Int), ((e88.2.1.1.2.1 : Int), (e88.2.1.1.2.2.1 : Int))), ())))
noncomputable def g_spec_l01Low (a0 : (Int × (Int × Int))) : Option ((Int × (Int × Int))) := t_spec_l01Low some a0
theorem nat_spec_l01Low {R : Type} (kx : (Int × (Int × Int)) → Option R) (a0 : (Int × (Int × Int))) : t_spec_l01Low kx a0 = (g_spec_l01Low a0).bind kx := by
  unfold g_spec_l01Low t_spec_l01Low
  exact nat_cond (nat_cond (rfl) (nat_exC ⟨fun _ => rfl, trivial⟩)) (nat_exC ⟨fun _ => rfl, trivial⟩)
abbrev as_spec_l01Low : List AX := [.val true (.pair (.int .i64) (.pair (.int .i64) (.int .i64)))]
abbrev en_spec_l01Low : (Int × (Int × Int)) → AV × List CV := fun b => (.one ⟨true, [(.v (.int .i64 b.1)), (.v (.int .i64 b.2.1)), (.v (.int .i64 b.2.2))]⟩, [])
noncomputable abbrev k_spec_l01Low : Contract := .fx as_spec_l01Low ((Int × (Int × Int))) (fun z => g_spec_l01Low z.1) en_spec_l01Low
theorem r_spec_l01Low (z : argsX as_spec_l01Low) : runF (tab C0 T_spec_l01Low) h_spec_l01Low 1 Tryd.f104 (lentOf as_spec_l01Low) (xBoxes as_spec_l01Low z) (xVals as_spec_l01Low 0 z) K2 = t_spec_l01Low (fun b => some (en_spec_l01Low b)) z.1 := by kernel_rfl
theorem so_spec_l01Low : Sound C0 104 k_spec_l01Low :=
  Sound.fx a_spec_l01Low mixed Tryd.func104 (by kernel_rfl) (by kernel_rfl) h_spec_l01Low 1 hs_spec_l01Low (fun z => (r_spec_l01Low z).trans (nat_spec_l01Low _ z.1))

/-! ### F55 spec.l01Add -/
noncomputable def T_spec_l01Add : List (FuncId × Contract) := [(104, k_spec_l01Low)]
theorem a_spec_l01Add : AllSound C0 T_spec_l01Add := .cons so_spec_l01Low (.nil)
abbrev s_spec_l01Add_2 : LS := ⟨[(false, [(.ptr 2 0)]), (false, [(.ptr 3 0)]), (false, [(.ptr 4 0)])], [(false, [(.int .i64), (.int .i64), (.int .i64)]), (false, [(.int .i64), (.int .i64), (.int .i64)]), (false, [(.int .i64), (.int .i64), (.int .i64)])], []⟩
abbrev e_spec_l01Add_2_0 : LS := ⟨[(false, [(.ptr 2 0)]), (false, [(.ptr 3 0)]), (false, [(.ptr 4 0)])], [(false, [(.int .i64), (.int .i64), (.int .i64)]), (false, [(.int .i64), (.int .i64), (.int .i64)]), (false, [(.int .i64), (.int .i64), (.int .i64)])], []⟩
abbrev d_spec_l01Add_2_0 (v0 : Int) (v1 : Int) (v2 : Int) (v3 : Int) (v4 : Int) (v5 : Int) (v6 : Int) (v7 : Int) (v8 : Int) : e_spec_l01Add_2_0.T := ((((), ()), ((), ()), ((), ()), ()), ((v0, v1, v2, ()), (v3, v4, v5, ()), (v6, v7, v8, ()), ()), ())
abbrev x_spec_l01Add_2 : List (Ex × LS) := [(.exit 0, e_spec_l01Add_2_0)]
abbrev m_spec_l01Add_2 (b0_0 : Int) (b0_1 : Int) (b0_2 : Int) (b1_0 : Int) (b1_1 : Int) (b1_2 : Int) (b2_0 : Int) (b2_1 : Int) (b2_2 : Int) : s_spec_l01Add_2.T := ((((), ()), ((), ()), ((), ()), ()), ((b0_0, b0_1, b0_2, ()), (b1_0, b1_1, b1_2, ()), (b2_0, b2_1, b2_2, ()), ()), ())
noncomputable def u_spec_l01Add_2 {R : Type} (nx : s_spec_l01Add_2.T → Option R) (hx : exH R x_spec_l01Add_2) (b0_0 : Int) (b0_1 : Int) (b0_2 : Int) (b1_0 : Int) (b1_1 : Int) (b1_2 : Int) (b2_0 : Int) (b2_1 : Int) (b2_2 : Int) : Option R :=
  cond (decide (b0_2 < b1_2))
  (nx (m_spec_l01Add_2 (IntKind.wrap IntKind.i64 (b0_0 * (2 : Int))) (IntKind.wrap IntKind.i64 (b0_1 * (2 : Int))) (IntKind.wrap IntKind.i64 (b0_2 + (1 : Int))) b1_0 b1_1 b1_2 b2_0 b2_1 b2_2))
  (hx.1 (d_spec_l01Add_2_0 b0_0 b0_1 b0_2 b1_0 b1_1 b1_2 b2_0 b2_1 b2_2))
noncomputable def t_spec_l01Add_2 {R : Type} (nx : s_spec_l01Add_2.T → Option R) (hx : exH R x_spec_l01Add_2) (z : s_spec_l01Add_2.T) : Option R := u_spec_l01Add_2 nx hx z.2.1.1.1 z.2.1.1.2.1 z.2.1.1.2.2.1 z.2.1.2.1.1 z.2.1.2.1.2.1 z.2.1.2.1.2.2.1 z.2.1.2.2.1.1 z.2.1.2.2.1.2.1 z.2.1.2.2.1.2.2.1
theorem nat_spec_l01Add_2 : Natural @t_spec_l01Add_2 := fun R nx hx z => by
  show u_spec_l01Add_2 nx hx z.2.1.1.1 z.2.1.1.2.1 z.2.1.1.2.2.1 z.2.1.2.1.1 z.2.1.2.1.2.1 z.2.1.2.1.2.2.1 z.2.1.2.2.1.1 z.2.1.2.2.1.2.1 z.2.1.2.2.1.2.2.1 = (u_spec_l01Add_2 (fun y => some (.inl y)) (hIn x_spec_l01Add_2 fun x => some (.inr x)) z.2.1.1.1 z.2.1.1.2.1 z.2.1.1.2.2.1 z.2.1.2.1.1 z.2.1.2.1.2.1 z.2.1.2.1.2.2.1 z.2.1.2.2.1.1 z.2.1.2.2.1.2.1 z.2.1.2.2.1.2.2.1).bind (goOn nx hx)
  unfold u_spec_l01Add_2
  exact nat_cond (rfl) (rfl)
noncomputable def w_spec_l01Add_2 : s_spec_l01Add_2.T → Option (exT x_spec_l01Add_2) := wOf @t_spec_l01Add_2
theorem wq_spec_l01Add_2 (b0_0 : Int) (b0_1 : Int) (b0_2 : Int) (b1_0 : Int) (b1_1 : Int) (b1_2 : Int) (b2_0 : Int) (b2_1 : Int) (b2_2 : Int) : w_spec_l01Add_2 (m_spec_l01Add_2 b0_0 b0_1 b0_2 b1_0 b1_1 b1_2 b2_0 b2_1 b2_2) = u_spec_l01Add_2 w_spec_l01Add_2 (hIn x_spec_l01Add_2 some) b0_0 b0_1 b0_2 b1_0 b1_1 b1_2 b2_0 b2_1 b2_2 := wOf_eq nat_spec_l01Add_2 _
def lh_spec_l01Add_2 : LoopHint := ⟨[2, 3, 4], [2, 3, 4], [2, 3, 4], [2, 3, 4]⟩
abbrev s_spec_l01Add_6 : LS := ⟨[(false, [(.ptr 2 0)]), (false, [(.ptr 3 0)]), (false, [(.ptr 4 0)])], [(false, [(.int .i64), (.int .i64), (.int .i64)]), (false, [(.int .i64), (.int .i64), (.int .i64)]), (false, [(.int .i64), (.int .i64), (.int .i64)])], []⟩
abbrev e_spec_l01Add_6_0 : LS := ⟨[(false, [(.ptr 2 0)]), (false, [(.ptr 3 0)]), (false, [(.ptr 4 0)])], [(false, [(.int .i64), (.int .i64), (.int .i64)]), (false, [(.int .i64), (.int .i64), (.int .i64)]), (false, [(.int .i64), (.int .i64), (.int .i64)])], []⟩
abbrev d_spec_l01Add_6_0 (v0 : Int) (v1 : Int) (v2 : Int) (v3 : Int) (v4 : Int) (v5 : Int) (v6 : Int) (v7 : Int) (v8 : Int) : e_spec_l01Add_6_0.T := ((((), ()), ((), ()), ((), ()), ()), ((v0, v1, v2, ()), (v3, v4, v5, ()), (v6, v7, v8, ()), ()), ())
abbrev x_spec_l01Add_6 : List (Ex × LS) := [(.exit 2, e_spec_l01Add_6_0)]
abbrev m_spec_l01Add_6 (b0_0 : Int) (b0_1 : Int) (b0_2 : Int) (b1_0 : Int) (b1_1 : Int) (b1_2 : Int) (b2_0 : Int) (b2_1 : Int) (b2_2 : Int) : s_spec_l01Add_6.T := ((((), ()), ((), ()), ((), ()), ()), ((b0_0, b0_1, b0_2, ()), (b1_0, b1_1, b1_2, ()), (b2_0, b2_1, b2_2, ()), ()), ())
noncomputable def u_spec_l01Add_6 {R : Type} (nx : s_spec_l01Add_6.T → Option R) (hx : exH R x_spec_l01Add_6) (b0_0 : Int) (b0_1 : Int) (b0_2 : Int) (b1_0 : Int) (b1_1 : Int) (b1_2 : Int) (b2_0 : Int) (b2_1 : Int) (b2_2 : Int) : Option R :=
  cond (decide (b1_2 < b0_2))
  (nx (m_spec_l01Add_6 b0_0 b0_1 b0_2 (IntKind.wrap IntKind.i64 (b1_0 * (2 : Int))) (IntKind.wrap IntKind.i64 (b1_1 * (2 : Int))) (IntKind.wrap IntKind.i64 (b1_2 + (1 : Int))) b2_0 b2_1 b2_2))
  (hx.1 (d_spec_l01Add_6_0 b0_0 b0_1 b0_2 b1_0 b1_1 b1_2 b2_0 b2_1 b2_2))
noncomputable def t_spec_l01Add_6 {R : Type} (nx : s_spec_l01Add_6.T → Option R) (hx : exH R x_spec_l01Add_6) (z : s_spec_l01Add_6.T) : Option R := u_spec_l01Add_6 nx hx z.2.1.1.1 z.2.1.1.2.1 z.2.1.1.2.2.1 z.2.1.2.1.1 z.2.1.2.1.2.1 z.2.1.2.1.2.2.1 z.2.1.2.2.1.1 z.2.1.2.2.1.2.1 z.2.1.2.2.1.2.2.1
theorem nat_spec_l01Add_6 : Natural @t_spec_l01Add_6 := fun R nx hx z => by
  show u_spec_l01Add_6 nx hx z.2.1.1.1 z.2.1.1.2.1 z.2.1.1.2.2.1 z.2.1.2.1.1 z.2.1.2.1.2.1 z.2.1.2.1.2.2.1 z.2.1.2.2.1.1 z.2.1.2.2.1.2.1 z.2.1.2.2.1.2.2.1 = (u_spec_l01Add_6 (fun y => some (.inl y)) (hIn x_spec_l01Add_6 fun x => some (.inr x)) z.2.1.1.1 z.2.1.1.2.1 z.2.1.1.2.2.1 z.2.1.2.1.1 z.2.1.2.1.2.1 z.2.1.2.1.2.2.1 z.2.1.2.2.1.1 z.2.1.2.2.1.2.1 z.2.1.2.2.1.2.2.1).bind (goOn nx hx)
  unfold u_spec_l01Add_6
  exact nat_cond (rfl) (rfl)
noncomputable def w_spec_l01Add_6 : s_spec_l01Add_6.T → Option (exT x_spec_l01Add_6) := wOf @t_spec_l01Add_6
theorem wq_spec_l01Add_6 (b0_0 : Int) (b0_1 : Int) (b0_2 : Int) (b1_0 : Int) (b1_1 : Int) (b1_2 : Int) (b2_0 : Int) (b2_1 : Int) (b2_2 : Int) : w_spec_l01Add_6 (m_spec_l01Add_6 b0_0 b0_1 b0_2 b1_0 b1_1 b1_2 b2_0 b2_1 b2_2) = u_spec_l01Add_6 w_spec_l01Add_6 (hIn x_spec_l01Add_6 some) b0_0 b0_1 b0_2 b1_0 b1_1 b1_2 b2_0 b2_1 b2_2 := wOf_eq nat_spec_l01Add_6 _
def lh_spec_l01Add_6 : LoopHint := ⟨[2, 3, 4], [2, 3, 4], [2, 3, 4], [2, 3, 4]⟩
noncomputable def h_spec_l01Add : Hints Rv := ⟨fun k => match k with | 2 => lh_spec_l01Add_2 | 6 => lh_spec_l01Add_6 | _ => ⟨[], [], [], []⟩, fun k => match k with | 2 => some (loopX s_spec_l01Add_2 x_spec_l01Add_2 w_spec_l01Add_2) | 6 => some (loopX s_spec_l01Add_6 x_spec_l01Add_6 w_spec_l01Add_6) | _ => none⟩
theorem st_spec_l01Add_2 (n : Nat) (z : s_spec_l01Add_2.T) (k : Ex → Live → Option Rv) : loopN ⟨53, 53⟩ lh_spec_l01Add_2 (den (tab C0 T_spec_l01Add) ⟨53, 53⟩ h_spec_l01Add 1 (loopOf Tryd.f55 1)) (n + 1) (s_spec_l01Add_2.enc z) k =
    t_spec_l01Add_2 (fun y => loopN ⟨53, 53⟩ lh_spec_l01Add_2 (den (tab C0 T_spec_l01Add) ⟨53, 53⟩ h_spec_l01Add 1 (loopOf Tryd.f55 1)) n (s_spec_l01Add_2.enc y) k) (hK k x_spec_l01Add_2) z := by kernel_rfl
theorem st_spec_l01Add_6 (n : Nat) (z : s_spec_l01Add_6.T) (k : Ex → Live → Option Rv) : loopN ⟨53, 53⟩ lh_spec_l01Add_6 (den (tab C0 T_spec_l01Add) ⟨53, 53⟩ h_spec_l01Add 1 (loopOf Tryd.f55 5)) (n + 1) (s_spec_l01Add_6.enc z) k =
    t_spec_l01Add_6 (fun y => loopN ⟨53, 53⟩ lh_spec_l01Add_6 (den (tab C0 T_spec_l01Add) ⟨53, 53⟩ h_spec_l01Add 1 (loopOf Tryd.f55 5)) n (s_spec_l01Add_6.enc y) k) (hK k x_spec_l01Add_6) z := by kernel_rfl
theorem hs_spec_l01Add : HintsOk (tab C0 T_spec_l01Add) ⟨53, 53⟩ h_spec_l01Add 1 (loops (codeOf Tryd.f55)) := by
  have hl : loops (codeOf Tryd.f55) = [loopOf Tryd.f55 1, loopOf Tryd.f55 5] := by kernel_rfl
  rw [hl]
  exact HintsOk.cons (n := 2) (lh := lh_spec_l01Add_2) (S := loopX s_spec_l01Add_2 x_spec_l01Add_2 w_spec_l01Add_2) (by kernel_rfl) rfl rfl (loopX_ok nat_spec_l01Add_2 st_spec_l01Add_2)
    (HintsOk.cons (n := 6) (lh := lh_spec_l01Add_6) (S := loopX s_spec_l01Add_6 x_spec_l01Add_6 w_spec_l01Add_6) (by kernel_rfl) rfl rfl (loopX_ok nat_spec_l01Add_6 st_spec_l01Add_6)
    (HintsOk.nil))
noncomputable def t_spec_l01Add {R : Type} (kx : (Int × (Int × Int)) → Option R) (a0 : (Int × (Int × Int))) (a1 : (Int × (Int × Int))) : Option R :=
  Option.bind (w_spec_l01Add_2 (m_spec_l01Add_2 a0.1 a0.2.1 a0.2.2 a1.1 a1.2.1 a1.2.2 (0 : Int) (0 : Int) (0 : Int))) (exC x_spec_l01Add_2
  (fun e45 =>
   Option.bind (w_spec_l01Add_6 (m_spec_l01Add_6 (e45.2.1.1.1 : Int) (e45.2.1.1.2.1 : Int) (e45.2.1.1.2.2.1 : Int) (e45.2.1.2.1.1 : Int) (e45.2.1.2.1.2.1 : Int) (e45.2.1.2.1.2.2.1 : Int) (e45.2.1.2.2.1.1 : Int) (e45.2.1.2.2.1.2.1 : Int) (e45.2.1.2.2.1.2.2.1 : Int))) (exC x_spec_l01Add_6
   (fun e64 =>
    Option.bind (g_spec_l01Low ((IntKind.wrap IntKind.i64 ((e64.2.1.1.1 : Int) + (e64.2.1.2.1.1 : Int))), ((IntKind.wrap IntKind.i64 ((e64.2.1.1.2.1 : Int) + (e64.2.1.2.1.2.1 : Int))), (e64.2.1.1.2.2.1 : Int)))) fun y95 =>
    kx y95, ())), ()))
noncomputable def g_spec_l01Add (a0 : (Int × (Int × Int))) (a1 : (Int × (Int × Int))) : Option ((Int × (Int × Int))) := t_spec_l01Add some a0 a1
theorem nat_spec_l01Add {R : Type} (kx : (Int × (Int × Int)) → Option R) (a0 : (Int × (Int × Int))) (a1 : (Int × (Int × Int))) : t_spec_l01Add kx a0 a1 = (g_spec_l01Add a0 a1).bind kx := by
  unfold g_spec_l01Add t_spec_l01Add
  exact nat_exC ⟨fun _ => nat_exC ⟨fun _ => nat_bind fun _ => rfl, trivial⟩, trivial⟩
abbrev as_spec_l01Add : List AX := [.val true (.pair (.int .i64) (.pair (.int .i64) (.int .i64))), .val true (.pair (.int .i64) (.pair (.int .i64) (.int .i64)))]
abbrev en_spec_l01Add : (Int × (Int × Int)) → AV × List CV := fun b => (.one ⟨true, [(.v (.int .i64 b.1)), (.v (.int .i64 b.2.1)), (.v (.int .i64 b.2.2))]⟩, [])
noncomputable abbrev k_spec_l01Add : Contract := .fx as_spec_l01Add ((Int × (Int × Int))) (fun z => g_spec_l01Add z.1 z.2.1) en_spec_l01Add
theorem r_spec_l01Add (z : argsX as_spec_l01Add) : runF (tab C0 T_spec_l01Add) h_spec_l01Add 1 Tryd.f55 (lentOf as_spec_l01Add) (xBoxes as_spec_l01Add z) (xVals as_spec_l01Add 0 z) K2 = t_spec_l01Add (fun b => some (en_spec_l01Add b)) z.1 z.2.1 := by kernel_rfl
theorem so_spec_l01Add : Sound C0 55 k_spec_l01Add :=
  Sound.fx a_spec_l01Add mixed Tryd.func55 (by kernel_rfl) (by kernel_rfl) h_spec_l01Add 1 hs_spec_l01Add (fun z => (r_spec_l01Add z).trans (nat_spec_l01Add _ z.1 z.2.1))

/-! ### F94 spec.l01Sub -/
noncomputable def T_spec_l01Sub : List (FuncId × Contract) := [(126, k_spec_l01Neg), (55, k_spec_l01Add)]
theorem a_spec_l01Sub : AllSound C0 T_spec_l01Sub := .cons so_spec_l01Neg (.cons so_spec_l01Add (.nil))
noncomputable def t_spec_l01Sub {R : Type} (kx : (Int × (Int × Int)) → Option R) (a0 : (Int × (Int × Int))) (a1 : (Int × (Int × Int))) : Option R :=
  Option.bind (g_spec_l01Neg a1) fun y33 =>
  Option.bind (g_spec_l01Add a0 y33) fun y96 =>
  kx y96
noncomputable def g_spec_l01Sub (a0 : (Int × (Int × Int))) (a1 : (Int × (Int × Int))) : Option ((Int × (Int × Int))) := t_spec_l01Sub some a0 a1
theorem nat_spec_l01Sub {R : Type} (kx : (Int × (Int × Int)) → Option R) (a0 : (Int × (Int × Int))) (a1 : (Int × (Int × Int))) : t_spec_l01Sub kx a0 a1 = (g_spec_l01Sub a0 a1).bind kx := by
  unfold g_spec_l01Sub t_spec_l01Sub
  exact nat_bind fun _ => nat_bind fun _ => rfl
abbrev as_spec_l01Sub : List AX := [.val true (.pair (.int .i64) (.pair (.int .i64) (.int .i64))), .val true (.pair (.int .i64) (.pair (.int .i64) (.int .i64)))]
abbrev en_spec_l01Sub : (Int × (Int × Int)) → AV × List CV := fun b => (.one ⟨true, [(.v (.int .i64 b.1)), (.v (.int .i64 b.2.1)), (.v (.int .i64 b.2.2))]⟩, [])
noncomputable abbrev k_spec_l01Sub : Contract := .fx as_spec_l01Sub ((Int × (Int × Int))) (fun z => g_spec_l01Sub z.1 z.2.1) en_spec_l01Sub
theorem r_spec_l01Sub (z : argsX as_spec_l01Sub) : runF (tab C0 T_spec_l01Sub) noHints 1 Tryd.f94 (lentOf as_spec_l01Sub) (xBoxes as_spec_l01Sub z) (xVals as_spec_l01Sub 0 z) K2 = t_spec_l01Sub (fun b => some (en_spec_l01Sub b)) z.1 z.2.1 := by kernel_rfl
theorem so_spec_l01Sub : Sound C0 94 k_spec_l01Sub :=
  Sound.fx a_spec_l01Sub mixed Tryd.func94 (by kernel_rfl) (by kernel_rfl) noHints 1 noHints_ok (fun z => (r_spec_l01Sub z).trans (nat_spec_l01Sub _ z.1 z.2.1))

/-! ### F53 spec.l02Minus -/
noncomputable def T_spec_l02Minus : List (FuncId × Contract) := [(94, k_spec_l01Sub)]
theorem a_spec_l02Minus : AllSound C0 T_spec_l02Minus := .cons so_spec_l01Sub (.nil)
noncomputable def t_spec_l02Minus {R : Type} (kx : ((Int × (Int × Int)) × (Int × (Int × Int))) → Option R) (a0 : ((Int × (Int × Int)) × (Int × (Int × Int)))) (a1 : ((Int × (Int × Int)) × (Int × (Int × Int)))) : Option R :=
  Option.bind (g_spec_l01Sub a0.1 a1.1) fun y97 =>
  Option.bind (g_spec_l01Sub a0.2 a1.2) fun y98 =>
  kx (y97, y98)
noncomputable def g_spec_l02Minus (a0 : ((Int × (Int × Int)) × (Int × (Int × Int)))) (a1 : ((Int × (Int × Int)) × (Int × (Int × Int)))) : Option (((Int × (Int × Int)) × (Int × (Int × Int)))) := t_spec_l02Minus some a0 a1
theorem nat_spec_l02Minus {R : Type} (kx : ((Int × (Int × Int)) × (Int × (Int × Int))) → Option R) (a0 : ((Int × (Int × Int)) × (Int × (Int × Int)))) (a1 : ((Int × (Int × Int)) × (Int × (Int × Int)))) : t_spec_l02Minus kx a0 a1 = (g_spec_l02Minus a0 a1).bind kx := by
  unfold g_spec_l02Minus t_spec_l02Minus
  exact nat_bind fun _ => nat_bind fun _ => rfl
abbrev as_spec_l02Minus : List AX := [.val true (.pair (.pair (.int .i64) (.pair (.int .i64) (.int .i64))) (.pair (.int .i64) (.pair (.int .i64) (.int .i64)))), .val true (.pair (.pair (.int .i64) (.pair (.int .i64) (.int .i64))) (.pair (.int .i64) (.pair (.int .i64) (.int .i64))))]
abbrev en_spec_l02Minus : ((Int × (Int × Int)) × (Int × (Int × Int))) → AV × List CV := fun b => (.one ⟨true, [(.v (.int .i64 b.1.1)), (.v (.int .i64 b.1.2.1)), (.v (.int .i64 b.1.2.2)), (.v (.int .i64 b.2.1)), (.v (.int .i64 b.2.2.1)), (.v (.int .i64 b.2.2.2))]⟩, [])
noncomputable abbrev k_spec_l02Minus : Contract := .fx as_spec_l02Minus (((Int × (Int × Int)) × (Int × (Int × Int)))) (fun z => g_spec_l02Minus z.1 z.2.1) en_spec_l02Minus
theorem r_spec_l02Minus (z : argsX as_spec_l02Minus) : runF (tab C0 T_spec_l02Minus) noHints 1 Tryd.f53 (lentOf as_spec_l02Minus) (xBoxes as_spec_l02Minus z) (xVals as_spec_l02Minus 0 z) K2 = t_spec_l02Minus (fun b => some (en_spec_l02Minus b)) z.1 z.2.1 := by kernel_rfl
theorem so_spec_l02Minus : Sound C0 53 k_spec_l02Minus :=
  Sound.fx a_spec_l02Minus mixed Tryd.func53 (by kernel_rfl) (by kernel_rfl) noHints 1 noHints_ok (fun z => (r_spec_l02Minus z).trans (nat_spec_l02Minus _ z.1 z.2.1))

/-! ### F105 spec.l02Mod -/
noncomputable def T_spec_l02Mod : List (FuncId × Contract) := []
theorem a_spec_l02Mod : AllSound C0 T_spec_l02Mod := .nil
noncomputable def t_spec_l02Mod {R : Type} (kx : Int → Option R) (a0 : Int) : Option R :=
  kx (Int.tmod (IntKind.wrap IntKind.i64 ((Int.tmod a0 (16 : Int)) + (16 : Int))) (16 : Int))
noncomputable def g_spec_l02Mod (a0 : Int) : Option (Int) := t_spec_l02Mod some a0
theorem nat_spec_l02Mod {R : Type} (kx : Int → Option R) (a0 : Int) : t_spec_l02Mod kx a0 = (g_spec_l02Mod a0).bind kx := by
  unfold g_spec_l02Mod t_spec_l02Mod
  exact rfl
abbrev as_spec_l02Mod : List AX := [.val false (.int .i64)]
abbrev en_spec_l02Mod : Int → AV × List CV := fun b => (.one ⟨false, [(.v (.int .i64 b))]⟩, [])
noncomputable abbrev k_spec_l02Mod : Contract := .fx as_spec_l02Mod (Int) (fun z => g_spec_l02Mod z.1) en_spec_l02Mod
theorem r_spec_l02Mod (z : argsX as_spec_l02Mod) : runF (tab C0 T_spec_l02Mod) noHints 1 Tryd.f105 (lentOf as_spec_l02Mod) (xBoxes as_spec_l02Mod z) (xVals as_spec_l02Mod 0 z) K2 = t_spec_l02Mod (fun b => some (en_spec_l02Mod b)) z.1 := by kernel_rfl
theorem so_spec_l02Mod : Sound C0 105 k_spec_l02Mod :=
  Sound.fx a_spec_l02Mod mixed Tryd.func105 (by kernel_rfl) (by kernel_rfl) noHints 1 noHints_ok (fun z => (r_spec_l02Mod z).trans (nat_spec_l02Mod _ z.1))

/-! ### F92 spec.l02Vec -/
noncomputable def T_spec_l02Vec : List (FuncId × Contract) := [(105, k_spec_l02Mod)]
theorem a_spec_l02Vec : AllSound C0 T_spec_l02Vec := .cons so_spec_l02Mod (.nil)
noncomputable def t_spec_l02Vec {R : Type} (kx : ((Int × (Int × Int)) × (Int × (Int × Int))) → Option R) (a0 : Int) : Option R :=
  Option.bind (g_spec_l02Mod a0) fun y112 =>
  Option.bind (idx [(((1 : Int), ((0 : Int), (0 : Int))), ((0 : Int), ((0 : Int), (0 : Int)))), (((1 : Int), ((0 : Int), (0 : Int))), ((-(1 : Int)), ((1 : Int), (0 : Int)))), (((1 : Int), ((0 : Int), (0 : Int))), ((1 : Int), ((0 : Int), (0 : Int)))), (((-(1 : Int)), ((1 : Int), (0 : Int))), ((1 : Int), ((0 : Int), (0 : Int)))), (((0 : Int), ((0 : Int), (0 : Int))), ((1 : Int), ((0 : Int), (0 : Int)))), (((1 : Int), ((-(1 : Int)), (0 : Int))), ((1 : Int), ((0 : Int), (0 : Int)))), (((-(1 : Int)), ((0 : Int), (0 : Int))), ((1 : Int), ((0 : Int), (0 : Int)))), (((-(1 : Int)), ((0 : Int), (0 : Int))), ((-(1 : Int)), ((1 : Int), (0 : Int))))] (Int.tmod y112 (8 : Int))) fun y113 =>
  cond (decide (y112 ≥ (8 : Int)))
  (kx (((IntKind.wrap IntKind.i64 ((0 : Int) - y113.1.1)), ((IntKind.wrap IntKind.i64 ((0 : Int) - y113.1.2.1)), (0 : Int))), ((IntKind.wrap IntKind.i64 ((0 : Int) - y113.2.1)), ((IntKind.wrap IntKind.i64 ((0 : Int) - y113.2.2.1)), (0 : Int)))))
  (kx y113)
noncomputable def g_spec_l02Vec (a0 : Int) : Option (((Int × (Int × Int)) × (Int × (Int × Int)))) := t_spec_l02Vec some a0
theorem nat_spec_l02Vec {R : Type} (kx : ((Int × (Int × Int)) × (Int × (Int × Int))) → Option R) (a0 : Int) : t_spec_l02Vec kx a0 = (g_spec_l02Vec a0).bind kx := by
  unfold g_spec_l02Vec t_spec_l02Vec
  exact nat_bind fun _ => nat_bind fun _ => nat_cond (rfl) (rfl)
abbrev as_spec_l02Vec : List AX := [.val false (.int .i64)]
abbrev en_spec_l02Vec : ((Int × (Int × Int)) × (Int × (Int × Int))) → AV × List CV := fun b => (.one ⟨true, [(.v (.int .i64 b.1.1)), (.v (.int .i64 b.1.2.1)), (.v (.int .i64 b.1.2.2)), (.v (.int .i64 b.2.1)), (.v (.int .i64 b.2.2.1)), (.v (.int .i64 b.2.2.2))]⟩, [])
noncomputable abbrev k_spec_l02Vec : Contract := .fx as_spec_l02Vec (((Int × (Int × Int)) × (Int × (Int × Int)))) (fun z => g_spec_l02Vec z.1) en_spec_l02Vec
theorem r_spec_l02Vec (z : argsX as_spec_l02Vec) : runF (tab C0 T_spec_l02Vec) noHints 1 Tryd.f92 (lentOf as_spec_l02Vec) (xBoxes as_spec_l02Vec z) (xVals as_spec_l02Vec 0 z) K2 = t_spec_l02Vec (fun b => some (en_spec_l02Vec b)) z.1 := by kernel_rfl
theorem so_spec_l02Vec : Sound C0 92 k_spec_l02Vec :=
  Sound.fx a_spec_l02Vec mixed Tryd.func92 (by kernel_rfl) (by kernel_rfl) noHints 1 noHints_ok (fun z => (r_spec_l02Vec z).trans (nat_spec_l02Vec _ z.1))

/-! ### F97 spec.l01Mul -/
noncomputable def T_spec_l01Mul : List (FuncId × Contract) := [(104, k_spec_l01Low)]
theorem a_spec_l01Mul : AllSound C0 T_spec_l01Mul := .cons so_spec_l01Low (.nil)
noncomputable def t_spec_l01Mul {R : Type} (kx : (Int × (Int × Int)) → Option R) (a0 : (Int × (Int × Int))) (a1 : (Int × (Int × Int))) : Option R :=
  Option.bind (g_spec_l01Low ((IntKind.wrap IntKind.i64 ((IntKind.wrap IntKind.i64 (a0.1 * a1.1)) + (IntKind.wrap IntKind.i64 ((IntKind.wrap IntKind.i64 ((2 : Int) * a0.2.1)) * a1.2.1)))), ((IntKind.wrap IntKind.i64 ((IntKind.wrap IntKind.i64 (a0.1 * a1.2.1)) + (IntKind.wrap IntKind.i64 (a0.2.1 * a1.1)))), (IntKind.wrap IntKind.i64 (a0.2.2 + a1.2.2))))) fun y118 =>
  kx y118
noncomputable def g_spec_l01Mul (a0 : (Int × (Int × Int))) (a1 : (Int × (Int × Int))) : Option ((Int × (Int × Int))) := t_spec_l01Mul some a0 a1
theorem nat_spec_l01Mul {R : Type} (kx : (Int × (Int × Int)) → Option R) (a0 : (Int × (Int × Int))) (a1 : (Int × (Int × Int))) : t_spec_l01Mul kx a0 a1 = (g_spec_l01Mul a0 a1).bind kx := by
  unfold g_spec_l01Mul t_spec_l01Mul
  exact nat_bind fun _ => rfl
abbrev as_spec_l01Mul : List AX := [.val true (.pair (.int .i64) (.pair (.int .i64) (.int .i64))), .val true (.pair (.int .i64) (.pair (.int .i64) (.int .i64)))]
abbrev en_spec_l01Mul : (Int × (Int × Int)) → AV × List CV := fun b => (.one ⟨true, [(.v (.int .i64 b.1)), (.v (.int .i64 b.2.1)), (.v (.int .i64 b.2.2))]⟩, [])
noncomputable abbrev k_spec_l01Mul : Contract := .fx as_spec_l01Mul ((Int × (Int × Int))) (fun z => g_spec_l01Mul z.1 z.2.1) en_spec_l01Mul
theorem r_spec_l01Mul (z : argsX as_spec_l01Mul) : runF (tab C0 T_spec_l01Mul) noHints 1 Tryd.f97 (lentOf as_spec_l01Mul) (xBoxes as_spec_l01Mul z) (xVals as_spec_l01Mul 0 z) K2 = t_spec_l01Mul (fun b => some (en_spec_l01Mul b)) z.1 z.2.1 := by kernel_rfl
theorem so_spec_l01Mul : Sound C0 97 k_spec_l01Mul :=
  Sound.fx a_spec_l01Mul mixed Tryd.func97 (by kernel_rfl) (by kernel_rfl) noHints 1 noHints_ok (fun z => (r_spec_l01Mul z).trans (nat_spec_l01Mul _ z.1 z.2.1))

/-! ### F93 spec.l02Dot -/
noncomputable def T_spec_l02Dot : List (FuncId × Contract) := [(92, k_spec_l02Vec), (39, k_spec_l02Of), (97, k_spec_l01Mul), (55, k_spec_l01Add)]
theorem a_spec_l02Dot : AllSound C0 T_spec_l02Dot := .cons so_spec_l02Vec (.cons so_spec_l02Of (.cons so_spec_l01Mul (.cons so_spec_l01Add (.nil))))
noncomputable def t_spec_l02Dot {R : Type} (kx : (Int × (Int × Int)) → Option R) (a0 : Int) (a1 : ((Int × (Int × Int)) × (Int × (Int × Int)))) : Option R :=
  Option.bind (g_spec_l02Vec a0) fun y114 =>
  Option.bind (g_spec_l02Of y114) fun y115 =>
  Option.bind (g_spec_l01Mul y115.1 a1.1) fun y119 =>
  Option.bind (g_spec_l01Mul y115.2 a1.2) fun y120 =>
  Option.bind (g_spec_l01Add y119 y120) fun y121 =>
  kx y121
noncomputable def g_spec_l02Dot (a0 : Int) (a1 : ((Int × (Int × Int)) × (Int × (Int × Int)))) : Option ((Int × (Int × Int))) := t_spec_l02Dot some a0 a1
theorem nat_spec_l02Dot {R : Type} (kx : (Int × (Int × Int)) → Option R) (a0 : Int) (a1 : ((Int × (Int × Int)) × (Int × (Int × Int)))) : t_spec_l02Dot kx a0 a1 = (g_spec_l02Dot a0 a1).bind kx := by
  unfold g_spec_l02Dot t_spec_l02Dot
  exact nat_bind fun _ => nat_bind fun _ => nat_bind fun _ => nat_bind fun _ => nat_bind fun _ => rfl
abbrev as_spec_l02Dot : List AX := [.val false (.int .i64), .val true (.pair (.pair (.int .i64) (.pair (.int .i64) (.int .i64))) (.pair (.int .i64) (.pair (.int .i64) (.int .i64))))]
abbrev en_spec_l02Dot : (Int × (Int × Int)) → AV × List CV := fun b => (.one ⟨true, [(.v (.int .i64 b.1)), (.v (.int .i64 b.2.1)), (.v (.int .i64 b.2.2))]⟩, [])
noncomputable abbrev k_spec_l02Dot : Contract := .fx as_spec_l02Dot ((Int × (Int × Int))) (fun z => g_spec_l02Dot z.1 z.2.1) en_spec_l02Dot
theorem r_spec_l02Dot (z : argsX as_spec_l02Dot) : runF (tab C0 T_spec_l02Dot) noHints 1 Tryd.f93 (lentOf as_spec_l02Dot) (xBoxes as_spec_l02Dot z) (xVals as_spec_l02Dot 0 z) K2 = t_spec_l02Dot (fun b => some (en_spec_l02Dot b)) z.1 z.2.1 := by kernel_rfl
theorem so_spec_l02Dot : Sound C0 93 k_spec_l02Dot :=
  Sound.fx a_spec_l02Dot mixed Tryd.func93 (by kernel_rfl) (by kernel_rfl) noHints 1 noHints_ok (fun z => (r_spec_l02Dot z).trans (nat_spec_l02Dot _ z.1 z.2.1))

/-! ### F95 spec.l02Zero -/
noncomputable def T_spec_l02Zero : List (FuncId × Contract) := []
theorem a_spec_l02Zero : AllSound C0 T_spec_l02Zero := .nil
noncomputable def t_spec_l02Zero {R : Type} (kx : Bool → Option R) (a0 : (Int × (Int × Int))) : Option R :=
  cond (a0.1 == (0 : Int))
  (kx (a0.2.1 == (0 : Int)))
  (kx Bool.false)
noncomputable def g_spec_l02Zero (a0 : (Int × (Int × Int))) : Option (Bool) := t_spec_l02Zero some a0
theorem nat_spec_l02Zero {R : Type} (kx : Bool → Option R) (a0 : (Int × (Int × Int))) : t_spec_l02Zero kx a0 = (g_spec_l02Zero a0).bind kx := by
  unfold g_spec_l02Zero t_spec_l02Zero
  exact nat_cond (rfl) (rfl)
abbrev as_spec_l02Zero : List AX := [.val true (.pair (.int .i64) (.pair (.int .i64) (.int .i64)))]
abbrev en_spec_l02Zero : Bool → AV × List CV := fun b => (.one ⟨false, [(.v (.bool b))]⟩, [])
noncomputable abbrev k_spec_l02Zero : Contract := .fx as_spec_l02Zero (Bool) (fun z => g_spec_l02Zero z.1) en_spec_l02Zero
theorem r_spec_l02Zero (z : argsX as_spec_l02Zero) : runF (tab C0 T_spec_l02Zero) noHints 1 Tryd.f95 (lentOf as_spec_l02Zero) (xBoxes as_spec_l02Zero z) (xVals as_spec_l02Zero 0 z) K2 = t_spec_l02Zero (fun b => some (en_spec_l02Zero b)) z.1 := by kernel_rfl
theorem so_spec_l02Zero : Sound C0 95 k_spec_l02Zero :=
  Sound.fx a_spec_l02Zero mixed Tryd.func95 (by kernel_rfl) (by kernel_rfl) noHints 1 noHints_ok (fun z => (r_spec_l02Zero z).trans (nat_spec_l02Zero _ z.1))

/-! ### F139 spec.l01Square -/
noncomputable def T_spec_l01Square : List (FuncId × Contract) := []
theorem a_spec_l01Square : AllSound C0 T_spec_l01Square := .nil
noncomputable def t_spec_l01Square {R : Type} (kx : Int × Int → Option R) (a0 : Int) : Option R :=
  cond (decide (a0 < (0 : Int)))
  (cond (decide ((IntKind.wrap IntKind.u64 ((IntKind.wrap IntKind.u64 ((IntKind.wrap IntKind.u64 (((BitVec.toNat ((BitVec.ofInt 64 (IntKind.wrap IntKind.u64 (IntKind.wrap IntKind.i64 ((0 : Int) - a0)))) &&& (BitVec.ofInt 64 (4294967295 : Int)))) : Nat) : Int)) * (IntKind.wrap IntKind.u64 (((BitVec.toNat ((BitVec.ofInt 64 (IntKind.wrap IntKind.u64 (IntKind.wrap IntKind.i64 ((0 : Int) - a0)))) &&& (BitVec.ofInt 64 (4294967295 : Int)))) : Nat) : Int)))) + (IntKind.wrap IntKind.u64 ((IntKind.wrap IntKind.u64 ((IntKind.wrap IntKind.u64 ((2 : Int) * (IntKind.wrap IntKind.u64 (((BitVec.toNat ((BitVec.ofInt 64 (IntKind.wrap IntKind.u64 (IntKind.wrap IntKind.i64 ((0 : Int) - a0)))) &&& (BitVec.ofInt 64 (4294967295 : Int)))) : Nat) : Int)))) * (Int.fdiv (IntKind.wrap IntKind.u64 (IntKind.wrap IntKind.i64 ((0 : Int) - a0))) ((2 : Int) ^ (Min.min (Int.toNat (32 : Int)) 64))))) * ((2 : Int) ^ (Min.min (Int.toNat (32 : Int)) 64)))))) < (IntKind.wrap IntKind.u64 ((IntKind.wrap IntKind.u64 (((BitVec.toNat ((BitVec.ofInt 64 (IntKind.wrap IntKind.u64 (IntKind.wrap IntKind.i64 ((0 : Int) - a0)))) &&& (BitVec.ofInt 64 (4294967295 : Int)))) : Nat) : Int)) * (IntKind.wrap IntKind.u64 (((BitVec.toNat ((BitVec.ofInt 64 (IntKind.wrap IntKind.u64 (IntKind.wrap IntKind.i64 ((0 : Int) - a0)))) &&& (BitVec.ofInt 64 (4294967295 : Int)))) : Nat) : Int))))))
   (kx ((IntKind.wrap IntKind.u64 ((IntKind.wrap IntKind.u64 ((Int.fdiv (IntKind.wrap IntKind.u64 (IntKind.wrap IntKind.i64 ((0 : Int) - a0))) ((2 : Int) ^ (Min.min (Int.toNat (32 : Int)) 64))) * (Int.fdiv (IntKind.wrap IntKind.u64 (IntKind.wrap IntKind.i64 ((0 : Int) - a0))) ((2 : Int) ^ (Min.min (Int.toNat (32 : Int)) 64))))) + (IntKind.wrap IntKind.u64 ((Int.fdiv (IntKind.wrap IntKind.u64 ((IntKind.wrap IntKind.u64 ((2 : Int) * (IntKind.wrap IntKind.u64 (((BitVec.toNat ((BitVec.ofInt 64 (IntKind.wrap IntKind.u64 (IntKind.wrap IntKind.i64 ((0 : Int) - a0)))) &&& (BitVec.ofInt 64 (4294967295 : Int)))) : Nat) : Int)))) * (Int.fdiv (IntKind.wrap IntKind.u64 (IntKind.wrap IntKind.i64 ((0 : Int) - a0))) ((2 : Int) ^ (Min.min (Int.toNat (32 : Int)) 64))))) ((2 : Int) ^ (Min.min (Int.toNat (32 : Int)) 64))) + (1 : Int))))), (IntKind.wrap IntKind.u64 ((IntKind.wrap IntKind.u64 ((IntKind.wrap IntKind.u64 (((BitVec.toNat ((BitVec.ofInt 64 (IntKind.wrap IntKind.u64 (IntKind.wrap IntKind.i64 ((0 : Int) - a0)))) &&& (BitVec.ofInt 64 (4294967295 : Int)))) : Nat) : Int)) * (IntKind.wrap IntKind.u64 (((BitVec.toNat ((BitVec.ofInt 64 (IntKind.wrap IntKind.u64 (IntKind.wrap IntKind.i64 ((0 : Int) - a0)))) &&& (BitVec.ofInt 64 (4294967295 : Int)))) : Nat) : Int)))) + (IntKind.wrap IntKind.u64 ((IntKind.wrap IntKind.u64 ((IntKind.wrap IntKind.u64 ((2 : Int) * (IntKind.wrap IntKind.u64 (((BitVec.toNat ((BitVec.ofInt 64 (IntKind.wrap IntKind.u64 (IntKind.wrap IntKind.i64 ((0 : Int) - a0)))) &&& (BitVec.ofInt 64 (4294967295 : Int)))) : Nat) : Int)))) * (Int.fdiv (IntKind.wrap IntKind.u64 (IntKind.wrap IntKind.i64 ((0 : Int) - a0))) ((2 : Int) ^ (Min.min (Int.toNat (32 : Int)) 64))))) * ((2 : Int) ^ (Min.min (Int.toNat (32 : Int)) 64))))))))
   (kx ((IntKind.wrap IntKind.u64 ((IntKind.wrap IntKind.u64 ((Int.fdiv (IntKind.wrap IntKind.u64 (IntKind.wrap IntKind.i64 ((0 : Int) - a0))) ((2 : Int) ^ (Min.min (Int.toNat (32 : Int)) 64))) * (Int.fdiv (IntKind.wrap IntKind.u64 (IntKind.wrap IntKind.i64 ((0 : Int) - a0))) ((2 : Int) ^ (Min.min (Int.toNat (32 : Int)) 64))))) + (Int.fdiv (IntKind.wrap IntKind.u64 ((IntKind.wrap IntKind.u64 ((2 : Int) * (IntKind.wrap IntKind.u64 (((BitVec.toNat ((BitVec.ofInt 64 (IntKind.wrap IntKind.u64 (IntKind.wrap IntKind.i64 ((0 : Int) - a0)))) &&& (BitVec.ofInt 64 (4294967295 : Int)))) : Nat) : Int)))) * (Int.fdiv (IntKind.wrap IntKind.u64 (IntKind.wrap IntKind.i64 ((0 : Int) - a0))) ((2 : Int) ^ (Min.min (Int.toNat (32 : Int)) 64))))) ((2 : Int) ^ (Min.min (Int.toNat (32 : Int)) 64))))), (IntKind.wrap IntKind.u64 ((IntKind.wrap IntKind.u64 ((IntKind.wrap IntKind.u64 (((BitVec.toNat ((BitVec.ofInt 64 (IntKind.wrap IntKind.u64 (IntKind.wrap IntKind.i64 ((0 : Int) - a0)))) &&& (BitVec.ofInt 64 (4294967295 : Int)))) : Nat) : Int)) * (IntKind.wrap IntKind.u64 (((BitVec.toNat ((BitVec.ofInt 64 (IntKind.wrap IntKind.u64 (IntKind.wrap IntKind.i64 ((0 : Int) - a0)))) &&& (BitVec.ofInt 64 (4294967295 : Int)))) : Nat) : Int)))) + (IntKind.wrap IntKind.u64 ((IntKind.wrap IntKind.u64 ((IntKind.wrap IntKind.u64 ((2 : Int) * (IntKind.wrap IntKind.u64 (((BitVec.toNat ((BitVec.ofInt 64 (IntKind.wrap IntKind.u64 (IntKind.wrap IntKind.i64 ((0 : Int) - a0)))) &&& (BitVec.ofInt 64 (4294967295 : Int)))) : Nat) : Int)))) * (Int.fdiv (IntKind.wrap IntKind.u64 (IntKind.wrap IntKind.i64 ((0 : Int) - a0))) ((2 : Int) ^ (Min.min (Int.toNat (32 : Int)) 64))))) * ((2 : Int) ^ (Min.min (Int.toNat (32 : Int)) 64)))))))))
  (cond (decide ((IntKind.wrap IntKind.u64 ((IntKind.wrap IntKind.u64 ((IntKind.wrap IntKind.u64 (((BitVec.toNat ((BitVec.ofInt 64 (IntKind.wrap IntKind.u64 a0)) &&& (BitVec.ofInt 64 (4294967295 : Int)))) : Nat) : Int)) * (IntKind.wrap IntKind.u64 (((BitVec.toNat ((BitVec.ofInt 64 (IntKind.wrap IntKind.u64 a0)) &&& (BitVec.ofInt 64 (4294967295 : Int)))) : Nat) : Int)))) + (IntKind.wrap IntKind.u64 ((IntKind.wrap IntKind.u64 ((IntKind.wrap IntKind.u64 ((2 : Int) * (IntKind.wrap IntKind.u64 (((BitVec.toNat ((BitVec.ofInt 64 (IntKind.wrap IntKind.u64 a0)) &&& (BitVec.ofInt 64 (4294967295 : Int)))) : Nat) : Int)))) * (Int.fdiv (IntKind.wrap IntKind.u64 a0) ((2 : Int) ^ (Min.min (Int.toNat (32 : Int)) 64))))) * ((2 : Int) ^ (Min.min (Int.toNat (32 : Int)) 64)))))) < (IntKind.wrap IntKind.u64 ((IntKind.wrap IntKind.u64 (((BitVec.toNat ((BitVec.ofInt 64 (IntKind.wrap IntKind.u64 a0)) &&& (BitVec.ofInt 64 (4294967295 : Int)))) : Nat) : Int)) * (IntKind.wrap IntKind.u64 (((BitVec.toNat ((BitVec.ofInt 64 (IntKind.wrap IntKind.u64 a0)) &&& (BitVec.ofInt 64 (4294967295 : Int)))) : Nat) : Int))))))
   (kx ((IntKind.wrap IntKind.u64 ((IntKind.wrap IntKind.u64 ((Int.fdiv (IntKind.wrap IntKind.u64 a0) ((2 : Int) ^ (Min.min (Int.toNat (32 : Int)) 64))) * (Int.fdiv (IntKind.wrap IntKind.u64 a0) ((2 : Int) ^ (Min.min (Int.toNat (32 : Int)) 64))))) + (IntKind.wrap IntKind.u64 ((Int.fdiv (IntKind.wrap IntKind.u64 ((IntKind.wrap IntKind.u64 ((2 : Int) * (IntKind.wrap IntKind.u64 (((BitVec.toNat ((BitVec.ofInt 64 (IntKind.wrap IntKind.u64 a0)) &&& (BitVec.ofInt 64 (4294967295 : Int)))) : Nat) : Int)))) * (Int.fdiv (IntKind.wrap IntKind.u64 a0) ((2 : Int) ^ (Min.min (Int.toNat (32 : Int)) 64))))) ((2 : Int) ^ (Min.min (Int.toNat (32 : Int)) 64))) + (1 : Int))))), (IntKind.wrap IntKind.u64 ((IntKind.wrap IntKind.u64 ((IntKind.wrap IntKind.u64 (((BitVec.toNat ((BitVec.ofInt 64 (IntKind.wrap IntKind.u64 a0)) &&& (BitVec.ofInt 64 (4294967295 : Int)))) : Nat) : Int)) * (IntKind.wrap IntKind.u64 (((BitVec.toNat ((BitVec.ofInt 64 (IntKind.wrap IntKind.u64 a0)) &&& (BitVec.ofInt 64 (4294967295 : Int)))) : Nat) : Int)))) + (IntKind.wrap IntKind.u64 ((IntKind.wrap IntKind.u64 ((IntKind.wrap IntKind.u64 ((2 : Int) * (IntKind.wrap IntKind.u64 (((BitVec.toNat ((BitVec.ofInt 64 (IntKind.wrap IntKind.u64 a0)) &&& (BitVec.ofInt 64 (4294967295 : Int)))) : Nat) : Int)))) * (Int.fdiv (IntKind.wrap IntKind.u64 a0) ((2 : Int) ^ (Min.min (Int.toNat (32 : Int)) 64))))) * ((2 : Int) ^ (Min.min (Int.toNat (32 : Int)) 64))))))))
   (kx ((IntKind.wrap IntKind.u64 ((IntKind.wrap IntKind.u64 ((Int.fdiv (IntKind.wrap IntKind.u64 a0) ((2 : Int) ^ (Min.min (Int.toNat (32 : Int)) 64))) * (Int.fdiv (IntKind.wrap IntKind.u64 a0) ((2 : Int) ^ (Min.min (Int.toNat (32 : Int)) 64))))) + (Int.fdiv (IntKind.wrap IntKind.u64 ((IntKind.wrap IntKind.u64 ((2 : Int) * (IntKind.wrap IntKind.u64 (((BitVec.toNat ((BitVec.ofInt 64 (IntKind.wrap IntKind.u64 a0)) &&& (BitVec.ofInt 64 (4294967295 : Int)))) : Nat) : Int)))) * (Int.fdiv (IntKind.wrap IntKind.u64 a0) ((2 : Int) ^ (Min.min (Int.toNat (32 : Int)) 64))))) ((2 : Int) ^ (Min.min (Int.toNat (32 : Int)) 64))))), (IntKind.wrap IntKind.u64 ((IntKind.wrap IntKind.u64 ((IntKind.wrap IntKind.u64 (((BitVec.toNat ((BitVec.ofInt 64 (IntKind.wrap IntKind.u64 a0)) &&& (BitVec.ofInt 64 (4294967295 : Int)))) : Nat) : Int)) * (IntKind.wrap IntKind.u64 (((BitVec.toNat ((BitVec.ofInt 64 (IntKind.wrap IntKind.u64 a0)) &&& (BitVec.ofInt 64 (4294967295 : Int)))) : Nat) : Int)))) + (IntKind.wrap IntKind.u64 ((IntKind.wrap IntKind.u64 ((IntKind.wrap IntKind.u64 ((2 : Int) * (IntKind.wrap IntKind.u64 (((BitVec.toNat ((BitVec.ofInt 64 (IntKind.wrap IntKind.u64 a0)) &&& (BitVec.ofInt 64 (4294967295 : Int)))) : Nat) : Int)))) * (Int.fdiv (IntKind.wrap IntKind.u64 a0) ((2 : Int) ^ (Min.min (Int.toNat (32 : Int)) 64))))) * ((2 : Int) ^ (Min.min (Int.toNat (32 : Int)) 64)))))))))
noncomputable def g_spec_l01Square (a0 : Int) : Option (Int × Int) := t_spec_l01Square some a0
theorem nat_spec_l01Square {R : Type} (kx : Int × Int → Option R) (a0 : Int) : t_spec_l01Square kx a0 = (g_spec_l01Square a0).bind kx := by
  unfold g_spec_l01Square t_spec_l01Square
  exact nat_cond (nat_cond (rfl) (rfl)) (nat_cond (rfl) (rfl))
abbrev as_spec_l01Square : List AX := [.val false (.int .i64)]
abbrev en_spec_l01Square : Int × Int → AV × List CV := fun b => (.tup [⟨false, [(.v (.int .u64 b.1))]⟩, ⟨false, [(.v (.int .u64 b.2))]⟩], [])
noncomputable abbrev k_spec_l01Square : Contract := .fx as_spec_l01Square (Int × Int) (fun z => g_spec_l01Square z.1) en_spec_l01Square
theorem r_spec_l01Square (z : argsX as_spec_l01Square) : runF (tab C0 T_spec_l01Square) noHints 1 Tryd.f139 (lentOf as_spec_l01Square) (xBoxes as_spec_l01Square z) (xVals as_spec_l01Square 0 z) K2 = t_spec_l01Square (fun b => some (en_spec_l01Square b)) z.1 := by kernel_rfl
theorem so_spec_l01Square : Sound C0 139 k_spec_l01Square :=
  Sound.fx a_spec_l01Square mixed Tryd.func139 (by kernel_rfl) (by kernel_rfl) noHints 1 noHints_ok (fun z => (r_spec_l01Square z).trans (nat_spec_l01Square _ z.1))

/-! ### F128 spec.l01Less -/
noncomputable def T_spec_l01Less : List (FuncId × Contract) := [(139, k_spec_l01Square)]
theorem a_spec_l01Less : AllSound C0 T_spec_l01Less := .cons so_spec_l01Square (.nil)
noncomputable def t_spec_l01Less {R : Type} (kx : Bool → Option R) (a0 : Int) (a1 : Int) : Option R :=
  Option.bind (g_spec_l01Square a0) fun y130 =>
  Option.bind (g_spec_l01Square a1) fun y131 =>
  cond (decide (y130.1 < (IntKind.wrap IntKind.u64 ((IntKind.wrap IntKind.u64 (y131.1 * (2 : Int))) + (Int.fdiv y131.2 ((2 : Int) ^ (Min.min (Int.toNat (63 : Int)) 64)))))))
  (kx Bool.true)
  (cond (y130.1 == (IntKind.wrap IntKind.u64 ((IntKind.wrap IntKind.u64 (y131.1 * (2 : Int))) + (Int.fdiv y131.2 ((2 : Int) ^ (Min.min (Int.toNat (63 : Int)) 64))))))
   (kx (decide (y130.2 < (IntKind.wrap IntKind.u64 (y131.2 * (2 : Int))))))
   (kx Bool.false))
noncomputable def g_spec_l01Less (a0 : Int) (a1 : Int) : Option (Bool) := t_spec_l01Less some a0 a1
theorem nat_spec_l01Less {R : Type} (kx : Bool → Option R) (a0 : Int) (a1 : Int) : t_spec_l01Less kx a0 a1 = (g_spec_l01Less a0 a1).bind kx := by
  unfold g_spec_l01Less t_spec_l01Less
  exact nat_bind fun _ => nat_bind fun _ => nat_cond (rfl) (nat_cond (rfl) (rfl))
abbrev as_spec_l01Less : List AX := [.val false (.int .i64), .val false (.int .i64)]
abbrev en_spec_l01Less : Bool → AV × List CV := fun b => (.one ⟨false, [(.v (.bool b))]⟩, [])
noncomputable abbrev k_spec_l01Less : Contract := .fx as_spec_l01Less (Bool) (fun z => g_spec_l01Less z.1 z.2.1) en_spec_l01Less
theorem r_spec_l01Less (z : argsX as_spec_l01Less) : runF (tab C0 T_spec_l01Less) noHints 1 Tryd.f128 (lentOf as_spec_l01Less) (xBoxes as_spec_l01Less z) (xVals as_spec_l01Less 0 z) K2 = t_spec_l01Less (fun b => some (en_spec_l01Less b)) z.1 z.2.1 := by kernel_rfl
theorem so_spec_l01Less : Sound C0 128 k_spec_l01Less :=
  Sound.fx a_spec_l01Less mixed Tryd.func128 (by kernel_rfl) (by kernel_rfl) noHints 1 noHints_ok (fun z => (r_spec_l01Less z).trans (nat_spec_l01Less _ z.1 z.2.1))

/-! ### F103 spec.l01Sign -/
noncomputable def T_spec_l01Sign : List (FuncId × Contract) := [(128, k_spec_l01Less)]
theorem a_spec_l01Sign : AllSound C0 T_spec_l01Sign := .cons so_spec_l01Less (.nil)
noncomputable def t_spec_l01Sign {R : Type} (kx : Int → Option R) (a0 : (Int × (Int × Int))) : Option R :=
  cond (a0.1 == (0 : Int))
  (cond (a0.2.1 == (0 : Int))
   (kx (0 : Int))
   (cond (decide (a0.1 ≥ (0 : Int)))
    (cond (decide (a0.2.1 ≥ (0 : Int)))
     (kx (1 : Int))
     (cond (decide (a0.1 ≤ (0 : Int)))
      (cond (decide (a0.2.1 ≤ (0 : Int)))
       (kx (-(1 : Int)))
       (Option.bind (g_spec_l01Less a0.1 a0.2.1) fun y132 =>
        cond (y132 == (decide (a0.2.1 > (0 : Int))))
        (kx (1 : Int))
        (kx (-(1 : Int)))))
      (Option.bind (g_spec_l01Less a0.1 a0.2.1) fun y133 =>
       cond (y133 == (decide (a0.2.1 > (0 : Int))))
       (kx (1 : Int))
       (kx (-(1 : Int))))))
    (cond (decide (a0.1 ≤ (0 : Int)))
     (cond (decide (a0.2.1 ≤ (0 : Int)))
      (kx (-(1 : Int)))
      (Option.bind (g_spec_l01Less a0.1 a0.2.1) fun y134 =>
       cond (y134 == (decide (a0.2.1 > (0 : Int))))
       (kx (1 : Int))
       (kx (-(1 : Int)))))
     (Option.bind (g_spec_l01Less a0.1 a0.2.1) fun y135 =>
      cond (y135 == (decide (a0.2.1 > (0 : Int))))
      (kx (1 : Int))
      (kx (-(1 : Int)))))))
  (cond (decide (a0.1 ≥ (0 : Int)))
   (cond (decide (a0.2.1 ≥ (0 : Int)))
    (kx (1 : Int))
    (cond (decide (a0.1 ≤ (0 : Int)))
     (cond (decide (a0.2.1 ≤ (0 : Int)))
      (kx (-(1 : Int)))
      (Option.bind (g_spec_l01Less a0.1 a0.2.1) fun y136 =>
       cond (y136 == (decide (a0.2.1 > (0 : Int))))
       (kx (1 : Int))
       (kx (-(1 : Int)))))
     (Option.bind (g_spec_l01Less a0.1 a0.2.1) fun y137 =>
      cond (y137 == (decide (a0.2.1 > (0 : Int))))
      (kx (1 : Int))
      (kx (-(1 : Int))))))
   (cond (decide (a0.1 ≤ (0 : Int)))
    (cond (decide (a0.2.1 ≤ (0 : Int)))
     (kx (-(1 : Int)))
     (Option.bind (g_spec_l01Less a0.1 a0.2.1) fun y138 =>
      cond (y138 == (decide (a0.2.1 > (0 : Int))))
      (kx (1 : Int))
      (kx (-(1 : Int)))))
    (Option.bind (g_spec_l01Less a0.1 a0.2.1) fun y139 =>
     cond (y139 == (decide (a0.2.1 > (0 : Int))))
     (kx (1 : Int))
     (kx (-(1 : Int))))))
noncomputable def g_spec_l01Sign (a0 : (Int × (Int × Int))) : Option (Int) := t_spec_l01Sign some a0
theorem nat_spec_l01Sign {R : Type} (kx : Int → Option R) (a0 : (Int × (Int × Int))) : t_spec_l01Sign kx a0 = (g_spec_l01Sign a0).bind kx := by
  unfold g_spec_l01Sign t_spec_l01Sign
  exact nat_cond (nat_cond (rfl) (nat_cond (nat_cond (rfl) (nat_cond (nat_cond (rfl) (nat_bind fun _ => nat_cond (rfl) (rfl))) (nat_bind fun _ => nat_cond (rfl) (rfl)))) (nat_cond (nat_cond (rfl) (nat_bind fun _ => nat_cond (rfl) (rfl))) (nat_bind fun _ => nat_cond (rfl) (rfl))))) (nat_cond (nat_cond (rfl) (nat_cond (nat_cond (rfl) (nat_bind fun _ => nat_cond (rfl) (rfl))) (nat_bind fun _ => nat_cond (rfl) (rfl)))) (nat_cond (nat_cond (rfl) (nat_bind fun _ => nat_cond (rfl) (rfl))) (nat_bind fun _ => nat_cond (rfl) (rfl))))
abbrev as_spec_l01Sign : List AX := [.val true (.pair (.int .i64) (.pair (.int .i64) (.int .i64)))]
abbrev en_spec_l01Sign : Int → AV × List CV := fun b => (.one ⟨false, [(.v (.int .i64 b))]⟩, [])
noncomputable abbrev k_spec_l01Sign : Contract := .fx as_spec_l01Sign (Int) (fun z => g_spec_l01Sign z.1) en_spec_l01Sign
theorem r_spec_l01Sign (z : argsX as_spec_l01Sign) : runF (tab C0 T_spec_l01Sign) noHints 1 Tryd.f103 (lentOf as_spec_l01Sign) (xBoxes as_spec_l01Sign z) (xVals as_spec_l01Sign 0 z) K2 = t_spec_l01Sign (fun b => some (en_spec_l01Sign b)) z.1 := by kernel_rfl
theorem so_spec_l01Sign : Sound C0 103 k_spec_l01Sign :=
  Sound.fx a_spec_l01Sign mixed Tryd.func103 (by kernel_rfl) (by kernel_rfl) noHints 1 noHints_ok (fun z => (r_spec_l01Sign z).trans (nat_spec_l01Sign _ z.1))

/-! ### F52 spec.l02Direction -/
noncomputable def T_spec_l02Direction : List (FuncId × Contract) := [(93, k_spec_l02Dot), (95, k_spec_l02Zero), (103, k_spec_l01Sign)]
theorem a_spec_l02Direction : AllSound C0 T_spec_l02Direction := .cons so_spec_l02Dot (.cons so_spec_l02Zero (.cons so_spec_l01Sign (.nil)))
abbrev s_spec_l02Direction_3 : LS := ⟨[(false, [(.ptr 1 0)]), (false, [(.int .i64)])], [(false, [(.int .i64), (.int .i64), (.int .i64), (.int .i64), (.int .i64), (.int .i64)])], []⟩
abbrev e_spec_l02Direction_3_0 : LS := ⟨[(false, [(.int .i64)])], [], []⟩
abbrev d_spec_l02Direction_3_0 (v0 : Int) : e_spec_l02Direction_3_0.T := (((v0, ()), ()), (), ())
abbrev e_spec_l02Direction_3_1 : LS := ⟨[(false, [.undef])], [], []⟩
abbrev d_spec_l02Direction_3_1 : e_spec_l02Direction_3_1.T := ((((), ()), ()), (), ())
abbrev x_spec_l02Direction_3 : List (Ex × LS) := [(.ret, e_spec_l02Direction_3_0), (.exit 0, e_spec_l02Direction_3_1)]
abbrev m_spec_l02Direction_3 (x3 : Int) (b0_0 : Int) (b0_1 : Int) (b0_2 : Int) (b0_3 : Int) (b0_4 : Int) (b0_5 : Int) : s_spec_l02Direction_3.T := ((((), ()), (x3, ()), ()), ((b0_0, b0_1, b0_2, b0_3, b0_4, b0_5, ()), ()), ())
noncomputable def u_spec_l02Direction_3 {R : Type} (nx : s_spec_l02Direction_3.T → Option R) (hx : exH R x_spec_l02Direction_3) (x3 : Int) (b0_0 : Int) (b0_1 : Int) (b0_2 : Int) (b0_3 : Int) (b0_4 : Int) (b0_5 : Int) : Option R :=
  cond (decide (x3 < (16 : Int)))
  (Option.bind (g_spec_l02Dot (IntKind.wrap IntKind.i64 (x3 + (4 : Int))) ((b0_0, (b0_1, b0_2)), (b0_3, (b0_4, b0_5)))) fun y122 =>
   Option.bind (g_spec_l02Zero y122) fun y124 =>
   cond y124
   (Option.bind (g_spec_l02Dot x3 ((b0_0, (b0_1, b0_2)), (b0_3, (b0_4, b0_5)))) fun y125 =>
    Option.bind (g_spec_l01Sign y125) fun y140 =>
    cond (decide (y140 > (0 : Int)))
    (hx.1 (d_spec_l02Direction_3_0 x3))
    (nx (m_spec_l02Direction_3 (IntKind.wrap IntKind.i64 (x3 + (1 : Int))) b0_0 b0_1 b0_2 b0_3 b0_4 b0_5)))
   (nx (m_spec_l02Direction_3 (IntKind.wrap IntKind.i64 (x3 + (1 : Int))) b0_0 b0_1 b0_2 b0_3 b0_4 b0_5)))
  (hx.2.1 (d_spec_l02Direction_3_1))
noncomputable def t_spec_l02Direction_3 {R : Type} (nx : s_spec_l02Direction_3.T → Option R) (hx : exH R x_spec_l02Direction_3) (z : s_spec_l02Direction_3.T) : Option R := u_spec_l02Direction_3 nx hx z.1.2.1.1 z.2.1.1.1 z.2.1.1.2.1 z.2.1.1.2.2.1 z.2.1.1.2.2.2.1 z.2.1.1.2.2.2.2.1 z.2.1.1.2.2.2.2.2.1
theorem nat_spec_l02Direction_3 : Natural @t_spec_l02Direction_3 := fun R nx hx z => by
  show u_spec_l02Direction_3 nx hx z.1.2.1.1 z.2.1.1.1 z.2.1.1.2.1 z.2.1.1.2.2.1 z.2.1.1.2.2.2.1 z.2.1.1.2.2.2.2.1 z.2.1.1.2.2.2.2.2.1 = (u_spec_l02Direction_3 (fun y => some (.inl y)) (hIn x_spec_l02Direction_3 fun x => some (.inr x)) z.1.2.1.1 z.2.1.1.1 z.2.1.1.2.1 z.2.1.1.2.2.1 z.2.1.1.2.2.2.1 z.2.1.1.2.2.2.2.1 z.2.1.1.2.2.2.2.2.1).bind (goOn nx hx)
  unfold u_spec_l02Direction_3
  exact nat_cond (nat_bind fun _ => nat_bind fun _ => nat_cond (nat_bind fun _ => nat_bind fun _ => nat_cond (rfl) (rfl)) (rfl)) (rfl)
noncomputable def w_spec_l02Direction_3 : s_spec_l02Direction_3.T → Option (exT x_spec_l02Direction_3) := wOf @t_spec_l02Direction_3
theorem wq_spec_l02Direction_3 (x3 : Int) (b0_0 : Int) (b0_1 : Int) (b0_2 : Int) (b0_3 : Int) (b0_4 : Int) (b0_5 : Int) : w_spec_l02Direction_3 (m_spec_l02Direction_3 x3 b0_0 b0_1 b0_2 b0_3 b0_4 b0_5) = u_spec_l02Direction_3 w_spec_l02Direction_3 (hIn x_spec_l02Direction_3 some) x3 b0_0 b0_1 b0_2 b0_3 b0_4 b0_5 := wOf_eq nat_spec_l02Direction_3 _
def lh_spec_l02Direction_3 : LoopHint := ⟨[1, 3], [1], [2], []⟩
noncomputable def h_spec_l02Direction : Hints Rv := ⟨fun k => match k with | 3 => lh_spec_l02Direction_3 | _ => ⟨[], [], [], []⟩, fun k => match k with | 3 => some (loopX s_spec_l02Direction_3 x_spec_l02Direction_3 w_spec_l02Direction_3) | _ => none⟩
theorem st_spec_l02Direction_3 (n : Nat) (z : s_spec_l02Direction_3.T) (k : Ex → Live → Option Rv) : loopN ⟨21, 21⟩ lh_spec_l02Direction_3 (den (tab C0 T_spec_l02Direction) ⟨21, 21⟩ h_spec_l02Direction 1 (loopOf Tryd.f52 2)) (n + 1) (s_spec_l02Direction_3.enc z) k =
    t_spec_l02Direction_3 (fun y => loopN ⟨21, 21⟩ lh_spec_l02Direction_3 (den (tab C0 T_spec_l02Direction) ⟨21, 21⟩ h_spec_l02Direction 1 (loopOf Tryd.f52 2)) n (s_spec_l02Direction_3.enc y) k) (hK k x_spec_l02Direction_3) z := by kernel_rfl
theorem hs_spec_l02Direction : HintsOk (tab C0 T_spec_l02Direction) ⟨21, 21⟩ h_spec_l02Direction 1 (loops (codeOf Tryd.f52)) := by
  have hl : loops (codeOf Tryd.f52) = [loopOf Tryd.f52 2] := by kernel_rfl
  rw [hl]
  exact HintsOk.cons (n := 3) (lh := lh_spec_l02Direction_3) (S := loopX s_spec_l02Direction_3 x_spec_l02Direction_3 w_spec_l02Direction_3) (by kernel_rfl) rfl rfl (loopX_ok nat_spec_l02Direction_3 st_spec_l02Direction_3)
    (HintsOk.nil)
noncomputable def t_spec_l02Direction {R : Type} (kx : Int → Option R) (a0 : ((Int × (Int × Int)) × (Int × (Int × Int)))) : Option R :=
  Option.bind (w_spec_l02Direction_3 (m_spec_l02Direction_3 (0 : Int) a0.1.1 a0.1.2.1 a0.1.2.2 a0.2.1 a0.2.2.1 a0.2.2.2)) (exC x_spec_l02Direction_3
  (fun e141 =>
   kx (e141.1.1.1 : Int), fun _ =>
   kx (-(1 : Int)), ()))
noncomputable def g_spec_l02Direction (a0 : ((Int × (Int × Int)) × (Int × (Int × Int)))) : Option (Int) := t_spec_l02Direction some a0
theorem nat_spec_l02Direction {R : Type} (kx : Int → Option R) (a0 : ((Int × (Int × Int)) × (Int × (Int × Int)))) : t_spec_l02Direction kx a0 = (g_spec_l02Direction a0).bind kx := by
  unfold g_spec_l02Direction t_spec_l02Direction
  exact nat_exC ⟨fun _ => rfl, fun _ => rfl, trivial⟩
abbrev as_spec_l02Direction : List AX := [.val true (.pair (.pair (.int .i64) (.pair (.int .i64) (.int .i64))) (.pair (.int .i64) (.pair (.int .i64) (.int .i64))))]
abbrev en_spec_l02Direction : Int → AV × List CV := fun b => (.one ⟨false, [(.v (.int .i64 b))]⟩, [])
noncomputable abbrev k_spec_l02Direction : Contract := .fx as_spec_l02Direction (Int) (fun z => g_spec_l02Direction z.1) en_spec_l02Direction
theorem r_spec_l02Direction (z : argsX as_spec_l02Direction) : runF (tab C0 T_spec_l02Direction) h_spec_l02Direction 1 Tryd.f52 (lentOf as_spec_l02Direction) (xBoxes as_spec_l02Direction z) (xVals as_spec_l02Direction 0 z) K2 = t_spec_l02Direction (fun b => some (en_spec_l02Direction b)) z.1 := by kernel_rfl
theorem so_spec_l02Direction : Sound C0 52 k_spec_l02Direction :=
  Sound.fx a_spec_l02Direction mixed Tryd.func52 (by kernel_rfl) (by kernel_rfl) h_spec_l02Direction 1 hs_spec_l02Direction (fun z => (r_spec_l02Direction z).trans (nat_spec_l02Direction _ z.1))

/-! ### F54 spec.l23Half -/
noncomputable def T_spec_l23Half : List (FuncId × Contract) := []
theorem a_spec_l23Half : AllSound C0 T_spec_l23Half := .nil
noncomputable def t_spec_l23Half {R : Type} (kx : (Int × (Int × Int)) → Option R) (a0 : (Int × (Int × Int))) : Option R :=
  kx (a0.1, (a0.2.1, (IntKind.wrap IntKind.i64 (a0.2.2 + (1 : Int)))))
noncomputable def g_spec_l23Half (a0 : (Int × (Int × Int))) : Option ((Int × (Int × Int))) := t_spec_l23Half some a0
theorem nat_spec_l23Half {R : Type} (kx : (Int × (Int × Int)) → Option R) (a0 : (Int × (Int × Int))) : t_spec_l23Half kx a0 = (g_spec_l23Half a0).bind kx := by
  unfold g_spec_l23Half t_spec_l23Half
  exact rfl
abbrev as_spec_l23Half : List AX := [.val true (.pair (.int .i64) (.pair (.int .i64) (.int .i64)))]
abbrev en_spec_l23Half : (Int × (Int × Int)) → AV × List CV := fun b => (.one ⟨true, [(.v (.int .i64 b.1)), (.v (.int .i64 b.2.1)), (.v (.int .i64 b.2.2))]⟩, [])
noncomputable abbrev k_spec_l23Half : Contract := .fx as_spec_l23Half ((Int × (Int × Int))) (fun z => g_spec_l23Half z.1) en_spec_l23Half
theorem r_spec_l23Half (z : argsX as_spec_l23Half) : runF (tab C0 T_spec_l23Half) noHints 1 Tryd.f54 (lentOf as_spec_l23Half) (xBoxes as_spec_l23Half z) (xVals as_spec_l23Half 0 z) K2 = t_spec_l23Half (fun b => some (en_spec_l23Half b)) z.1 := by kernel_rfl
theorem so_spec_l23Half : Sound C0 54 k_spec_l23Half :=
  Sound.fx a_spec_l23Half mixed Tryd.func54 (by kernel_rfl) (by kernel_rfl) noHints 1 noHints_ok (fun z => (r_spec_l23Half z).trans (nat_spec_l23Half _ z.1))

/-! ### F56 spec.l02Through -/
noncomputable def T_spec_l02Through : List (FuncId × Contract) := [(105, k_spec_l02Mod), (93, k_spec_l02Dot)]
theorem a_spec_l02Through : AllSound C0 T_spec_l02Through := .cons so_spec_l02Mod (.cons so_spec_l02Dot (.nil))
noncomputable def t_spec_l02Through {R : Type} (kx : (Int × (Int × (Int × Int))) → Option R) (a0 : ((Int × (Int × Int)) × (Int × (Int × Int)))) (a1 : Int) : Option R :=
  Option.bind (g_spec_l02Mod a1) fun y152 =>
  Option.bind (g_spec_l02Dot (IntKind.wrap IntKind.i64 ((Int.tmod y152 (8 : Int)) + (4 : Int))) a0) fun y153 =>
  kx ((Int.tmod y152 (8 : Int)), y153)
noncomputable def g_spec_l02Through (a0 : ((Int × (Int × Int)) × (Int × (Int × Int)))) (a1 : Int) : Option ((Int × (Int × (Int × Int)))) := t_spec_l02Through some a0 a1
theorem nat_spec_l02Through {R : Type} (kx : (Int × (Int × (Int × Int))) → Option R) (a0 : ((Int × (Int × Int)) × (Int × (Int × Int)))) (a1 : Int) : t_spec_l02Through kx a0 a1 = (g_spec_l02Through a0 a1).bind kx := by
  unfold g_spec_l02Through t_spec_l02Through
  exact nat_bind fun _ => nat_bind fun _ => rfl
abbrev as_spec_l02Through : List AX := [.val true (.pair (.pair (.int .i64) (.pair (.int .i64) (.int .i64))) (.pair (.int .i64) (.pair (.int .i64) (.int .i64)))), .val false (.int .i64)]
abbrev en_spec_l02Through : (Int × (Int × (Int × Int))) → AV × List CV := fun b => (.one ⟨true, [(.v (.int .i64 b.1)), (.v (.int .i64 b.2.1)), (.v (.int .i64 b.2.2.1)), (.v (.int .i64 b.2.2.2))]⟩, [])
noncomputable abbrev k_spec_l02Through : Contract := .fx as_spec_l02Through ((Int × (Int × (Int × Int)))) (fun z => g_spec_l02Through z.1 z.2.1) en_spec_l02Through
theorem r_spec_l02Through (z : argsX as_spec_l02Through) : runF (tab C0 T_spec_l02Through) noHints 1 Tryd.f56 (lentOf as_spec_l02Through) (xBoxes as_spec_l02Through z) (xVals as_spec_l02Through 0 z) K2 = t_spec_l02Through (fun b => some (en_spec_l02Through b)) z.1 z.2.1 := by kernel_rfl
theorem so_spec_l02Through : Sound C0 56 k_spec_l02Through :=
  Sound.fx a_spec_l02Through mixed Tryd.func56 (by kernel_rfl) (by kernel_rfl) noHints 1 noHints_ok (fun z => (r_spec_l02Through z).trans (nat_spec_l02Through _ z.1 z.2.1))

/-! ### F127 spec.l01Num -/
noncomputable def T_spec_l01Num : List (FuncId × Contract) := [(104, k_spec_l01Low), (78, k_spec_l01Ok)]
theorem a_spec_l01Num : AllSound C0 T_spec_l01Num := .cons so_spec_l01Low (.cons so_spec_l01Ok (.nil))
noncomputable def t_spec_l01Num {R : Type} (kx : (Int × (Int × Int)) × Bool → Option R) (a0 : (Int × (Int × Int))) : Option R :=
  Option.bind (g_spec_l01Low a0) fun y158 =>
  Option.bind (g_spec_l01Ok y158) fun y159 =>
  cond (!y159)
  (kx (((0 : Int), ((0 : Int), (0 : Int))), Bool.false))
  (kx (y158, Bool.true))
noncomputable def g_spec_l01Num (a0 : (Int × (Int × Int))) : Option ((Int × (Int × Int)) × Bool) := t_spec_l01Num some a0
theorem nat_spec_l01Num {R : Type} (kx : (Int × (Int × Int)) × Bool → Option R) (a0 : (Int × (Int × Int))) : t_spec_l01Num kx a0 = (g_spec_l01Num a0).bind kx := by
  unfold g_spec_l01Num t_spec_l01Num
  exact nat_bind fun _ => nat_bind fun _ => nat_cond (rfl) (rfl)
abbrev as_spec_l01Num : List AX := [.val true (.pair (.int .i64) (.pair (.int .i64) (.int .i64)))]
abbrev en_spec_l01Num : (Int × (Int × Int)) × Bool → AV × List CV := fun b => (.tup [⟨true, [(.v (.int .i64 b.1.1)), (.v (.int .i64 b.1.2.1)), (.v (.int .i64 b.1.2.2))]⟩, ⟨false, [(.v (.bool b.2))]⟩], [])
noncomputable abbrev k_spec_l01Num : Contract := .fx as_spec_l01Num ((Int × (Int × Int)) × Bool) (fun z => g_spec_l01Num z.1) en_spec_l01Num
theorem r_spec_l01Num (z : argsX as_spec_l01Num) : runF (tab C0 T_spec_l01Num) noHints 1 Tryd.f127 (lentOf as_spec_l01Num) (xBoxes as_spec_l01Num z) (xVals as_spec_l01Num 0 z) K2 = t_spec_l01Num (fun b => some (en_spec_l01Num b)) z.1 := by kernel_rfl
theorem so_spec_l01Num : Sound C0 127 k_spec_l01Num :=
  Sound.fx a_spec_l01Num mixed Tryd.func127 (by kernel_rfl) (by kernel_rfl) noHints 1 noHints_ok (fun z => (r_spec_l01Num z).trans (nat_spec_l01Num _ z.1))

/-! ### F99 spec.l23Line -/
noncomputable def T_spec_l23Line : List (FuncId × Contract) := [(127, k_spec_l01Num)]
theorem a_spec_l23Line : AllSound C0 T_spec_l23Line := .cons so_spec_l01Num (.nil)
noncomputable def t_spec_l23Line {R : Type} (kx : (Int × (Int × (Int × Int))) × Bool → Option R) (a0 : (Int × (Int × (Int × Int)))) : Option R :=
  Option.bind (g_spec_l01Num a0.2) fun y160 =>
  cond (!y160.2)
  (kx (((0 : Int), ((0 : Int), ((0 : Int), (0 : Int)))), Bool.false))
  (kx ((a0.1, y160.1), Bool.true))
noncomputable def g_spec_l23Line (a0 : (Int × (Int × (Int × Int)))) : Option ((Int × (Int × (Int × Int))) × Bool) := t_spec_l23Line some a0
theorem nat_spec_l23Line {R : Type} (kx : (Int × (Int × (Int × Int))) × Bool → Option R) (a0 : (Int × (Int × (Int × Int)))) : t_spec_l23Line kx a0 = (g_spec_l23Line a0).bind kx := by
  unfold g_spec_l23Line t_spec_l23Line
  exact nat_bind fun _ => nat_cond (rfl) (rfl)
abbrev as_spec_l23Line : List AX := [.val true (.pair (.int .i64) (.pair (.int .i64) (.pair (.int .i64) (.int .i64))))]
abbrev en_spec_l23Line : (Int × (Int × (Int × Int))) × Bool → AV × List CV := fun b => (.tup [⟨true, [(.v (.int .i64 b.1.1)), (.v (.int .i64 b.1.2.1)), (.v (.int .i64 b.1.2.2.1)), (.v (.int .i64 b.1.2.2.2))]⟩, ⟨false, [(.v (.bool b.2))]⟩], [])
noncomputable abbrev k_spec_l23Line : Contract := .fx as_spec_l23Line ((Int × (Int × (Int × Int))) × Bool) (fun z => g_spec_l23Line z.1) en_spec_l23Line
theorem r_spec_l23Line (z : argsX as_spec_l23Line) : runF (tab C0 T_spec_l23Line) noHints 1 Tryd.f99 (lentOf as_spec_l23Line) (xBoxes as_spec_l23Line z) (xVals as_spec_l23Line 0 z) K2 = t_spec_l23Line (fun b => some (en_spec_l23Line b)) z.1 := by kernel_rfl
theorem so_spec_l23Line : Sound C0 99 k_spec_l23Line :=
  Sound.fx a_spec_l23Line mixed Tryd.func99 (by kernel_rfl) (by kernel_rfl) noHints 1 noHints_ok (fun z => (r_spec_l23Line z).trans (nat_spec_l23Line _ z.1))

/-! ### F46 spec.l23One -/
noncomputable def T_spec_l23One : List (FuncId × Contract) := [(99, k_spec_l23Line)]
theorem a_spec_l23One : AllSound C0 T_spec_l23One := .cons so_spec_l23Line (.nil)
noncomputable def t_spec_l23One {R : Type} (kx : (Int × (Int × (Int × Int))) × Int → Option R) (a0 : (Int × (Int × (Int × Int)))) : Option R :=
  Option.bind (g_spec_l23Line a0) fun y161 =>
  cond (!y161.2)
  (kx (((0 : Int), ((0 : Int), ((0 : Int), (0 : Int)))), (2 : Int)))
  (kx (y161.1, (0 : Int)))
noncomputable def g_spec_l23One (a0 : (Int × (Int × (Int × Int)))) : Option ((Int × (Int × (Int × Int))) × Int) := t_spec_l23One some a0
theorem nat_spec_l23One {R : Type} (kx : (Int × (Int × (Int × Int))) × Int → Option R) (a0 : (Int × (Int × (Int × Int)))) : t_spec_l23One kx a0 = (g_spec_l23One a0).bind kx := by
  unfold g_spec_l23One t_spec_l23One
  exact nat_bind fun _ => nat_cond (rfl) (rfl)
abbrev as_spec_l23One : List AX := [.val true (.pair (.int .i64) (.pair (.int .i64) (.pair (.int .i64) (.int .i64))))]
abbrev en_spec_l23One : (Int × (Int × (Int × Int))) × Int → AV × List CV := fun b => (.tup [⟨true, [(.v (.int .i64 b.1.1)), (.v (.int .i64 b.1.2.1)), (.v (.int .i64 b.1.2.2.1)), (.v (.int .i64 b.1.2.2.2))]⟩, ⟨false, [(.v (.int .i64 b.2))]⟩], [])
noncomputable abbrev k_spec_l23One : Contract := .fx as_spec_l23One ((Int × (Int × (Int × Int))) × Int) (fun z => g_spec_l23One z.1) en_spec_l23One
theorem r_spec_l23One (z : argsX as_spec_l23One) : runF (tab C0 T_spec_l23One) noHints 1 Tryd.f46 (lentOf as_spec_l23One) (xBoxes as_spec_l23One z) (xVals as_spec_l23One 0 z) K2 = t_spec_l23One (fun b => some (en_spec_l23One b)) z.1 := by kernel_rfl
theorem so_spec_l23One : Sound C0 46 k_spec_l23One :=
  Sound.fx a_spec_l23One mixed Tryd.func46 (by kernel_rfl) (by kernel_rfl) noHints 1 noHints_ok (fun z => (r_spec_l23One z).trans (nat_spec_l23One _ z.1))

/-! ### F19 spec.FoldOnto -/
noncomputable def T_spec_FoldOnto : List (FuncId × Contract) := [(36, k_spec_l02Point), (39, k_spec_l02Of), (53, k_spec_l02Minus), (52, k_spec_l02Direction), (55, k_spec_l01Add), (54, k_spec_l23Half), (56, k_spec_l02Through), (46, k_spec_l23One)]
theorem a_spec_FoldOnto : AllSound C0 T_spec_FoldOnto := .cons so_spec_l02Point (.cons so_spec_l02Of (.cons so_spec_l02Minus (.cons so_spec_l02Direction (.cons so_spec_l01Add (.cons so_spec_l23Half (.cons so_spec_l02Through (.cons so_spec_l23One (.nil))))))))
noncomputable def t_spec_FoldOnto {R : Type} (kx : (Int × (Int × (Int × Int))) × Int → Option R) (a0 : ((Int × (Int × Int)) × (Int × (Int × Int)))) (a1 : ((Int × (Int × Int)) × (Int × (Int × Int)))) : Option R :=
  Option.bind (g_spec_l02Point a0) fun y20 =>
  cond (!y20)
  (kx (((0 : Int), ((0 : Int), ((0 : Int), (0 : Int)))), (1 : Int)))
  (Option.bind (g_spec_l02Point a1) fun y21 =>
   cond (!y21)
   (kx (((0 : Int), ((0 : Int), ((0 : Int), (0 : Int)))), (1 : Int)))
   (Option.bind (g_spec_l02Of a0) fun y26 =>
    Option.bind (g_spec_l02Of a1) fun y27 =>
    Option.bind (g_spec_l02Minus y27 y26) fun y99 =>
    Option.bind (g_spec_l02Direction y99) fun y144 =>
    cond (decide (y144 < (0 : Int)))
    (kx (((0 : Int), ((0 : Int), ((0 : Int), (0 : Int)))), (7 : Int)))
    (Option.bind (g_spec_l01Add y26.1 y27.1) fun y145 =>
     Option.bind (g_spec_l23Half y145) fun y147 =>
     Option.bind (g_spec_l01Add y26.2 y27.2) fun y148 =>
     Option.bind (g_spec_l23Half y148) fun y149 =>
     Option.bind (g_spec_l02Through (y147, y149) (IntKind.wrap IntKind.i64 (y144 + (4 : Int)))) fun y154 =>
     Option.bind (g_spec_l23One y154) fun y162 =>
     kx y162)))
noncomputable def g_spec_FoldOnto (a0 : ((Int × (Int × Int)) × (Int × (Int × Int)))) (a1 : ((Int × (Int × Int)) × (Int × (Int × Int)))) : Option ((Int × (Int × (Int × Int))) × Int) := t_spec_FoldOnto some a0 a1
theorem nat_spec_FoldOnto {R : Type} (kx : (Int × (Int × (Int × Int))) × Int → Option R) (a0 : ((Int × (Int × Int)) × (Int × (Int × Int)))) (a1 : ((Int × (Int × Int)) × (Int × (Int × Int)))) : t_spec_FoldOnto kx a0 a1 = (g_spec_FoldOnto a0 a1).bind kx := by
  unfold g_spec_FoldOnto t_spec_FoldOnto
  exact nat_bind fun _ => nat_cond (rfl) (nat_bind fun _ => nat_cond (rfl) (nat_bind fun _ => nat_bind fun _ => nat_bind fun _ => nat_bind fun _ => nat_cond (rfl) (nat_bind fun _ => nat_bind fun _ => nat_bind fun _ => nat_bind fun _ => nat_bind fun _ => nat_bind fun _ => rfl)))
abbrev as_spec_FoldOnto : List AX := [.val true (.pair (.pair (.int .i64) (.pair (.int .i64) (.int .i64))) (.pair (.int .i64) (.pair (.int .i64) (.int .i64)))), .val true (.pair (.pair (.int .i64) (.pair (.int .i64) (.int .i64))) (.pair (.int .i64) (.pair (.int .i64) (.int .i64))))]
abbrev en_spec_FoldOnto : (Int × (Int × (Int × Int))) × Int → AV × List CV := fun b => (.tup [⟨true, [(.v (.int .i64 b.1.1)), (.v (.int .i64 b.1.2.1)), (.v (.int .i64 b.1.2.2.1)), (.v (.int .i64 b.1.2.2.2))]⟩, ⟨false, [(.v (.int .i64 b.2))]⟩], [])
noncomputable abbrev k_spec_FoldOnto : Contract := .fx as_spec_FoldOnto ((Int × (Int × (Int × Int))) × Int) (fun z => g_spec_FoldOnto z.1 z.2.1) en_spec_FoldOnto
theorem r_spec_FoldOnto (z : argsX as_spec_FoldOnto) : runF (tab C0 T_spec_FoldOnto) noHints 1 Tryd.f19 (lentOf as_spec_FoldOnto) (xBoxes as_spec_FoldOnto z) (xVals as_spec_FoldOnto 0 z) K2 = t_spec_FoldOnto (fun b => some (en_spec_FoldOnto b)) z.1 z.2.1 := by kernel_rfl
theorem so_spec_FoldOnto : Sound C0 19 k_spec_FoldOnto :=
  Sound.fx a_spec_FoldOnto mixed Tryd.func19 (by kernel_rfl) (by kernel_rfl) noHints 1 noHints_ok (fun z => (r_spec_FoldOnto z).trans (nat_spec_FoldOnto _ z.1 z.2.1))

/-! ### F82 impl.within -/
noncomputable def T_impl_within : List (FuncId × Contract) := []
theorem a_impl_within : AllSound C0 T_impl_within := .nil
noncomputable def t_impl_within {R : Type} (kx : Bool → Option R) (a0 : Int) (a1 : Int) (a2 : Int) : Option R :=
  cond (decide (a0 ≥ a1))
  (kx (decide (a0 ≤ a2)))
  (kx Bool.false)
noncomputable def g_impl_within (a0 : Int) (a1 : Int) (a2 : Int) : Option (Bool) := t_impl_within some a0 a1 a2
theorem nat_impl_within {R : Type} (kx : Bool → Option R) (a0 : Int) (a1 : Int) (a2 : Int) : t_impl_within kx a0 a1 a2 = (g_impl_within a0 a1 a2).bind kx := by
  unfold g_impl_within t_impl_within
  exact nat_cond (rfl) (rfl)
abbrev as_impl_within : List AX := [.val false (.int .i64), .val false (.int .i64), .val false (.int .i64)]
abbrev en_impl_within : Bool → AV × List CV := fun b => (.one ⟨false, [(.v (.bool b))]⟩, [])
noncomputable abbrev k_impl_within : Contract := .fx as_impl_within (Bool) (fun z => g_impl_within z.1 z.2.1 z.2.2.1) en_impl_within
theorem r_impl_within (z : argsX as_impl_within) : runF (tab C0 T_impl_within) noHints 1 Tryd.f82 (lentOf as_impl_within) (xBoxes as_impl_within z) (xVals as_impl_within 0 z) K2 = t_impl_within (fun b => some (en_impl_within b)) z.1 z.2.1 z.2.2.1 := by kernel_rfl
theorem so_impl_within : Sound C0 82 k_impl_within :=
  Sound.fx a_impl_within mixed Tryd.func82 (by kernel_rfl) (by kernel_rfl) noHints 1 noHints_ok (fun z => (r_impl_within z).trans (nat_impl_within _ z.1 z.2.1 z.2.2.1))

/-! ### F83 impl.ValidNum -/
noncomputable def T_impl_ValidNum : List (FuncId × Contract) := [(82, k_impl_within)]
theorem a_impl_ValidNum : AllSound C0 T_impl_ValidNum := .cons so_impl_within (.nil)
noncomputable def t_impl_ValidNum {R : Type} (kx : Bool → Option R) (a0 : (Int × (Int × Int))) : Option R :=
  Option.bind (g_impl_within a0.1 (-(131072 : Int)) (131072 : Int)) fun y173 =>
  cond y173
  (Option.bind (g_impl_within a0.2.1 (-(131072 : Int)) (131072 : Int)) fun y174 =>
   cond y174
   (Option.bind (g_impl_within a0.2.2 (0 : Int) (10 : Int)) fun y175 =>
    cond y175
    (cond (a0.2.2 == (0 : Int))
     (kx Bool.true)
     (cond ((IntKind.wrap IntKind.i64 (((BitVec.toNat ((BitVec.ofInt 64 a0.1) &&& (BitVec.ofInt 64 (1 : Int)))) : Nat) : Int)) == (1 : Int))
      (kx Bool.true)
      (kx ((IntKind.wrap IntKind.i64 (((BitVec.toNat ((BitVec.ofInt 64 a0.2.1) &&& (BitVec.ofInt 64 (1 : Int)))) : Nat) : Int)) == (1 : Int)))))
    (kx Bool.false))
   (kx Bool.false))
  (kx Bool.false)
noncomputable def g_impl_ValidNum (a0 : (Int × (Int × Int))) : Option (Bool) := t_impl_ValidNum some a0
theorem nat_impl_ValidNum {R : Type} (kx : Bool → Option R) (a0 : (Int × (Int × Int))) : t_impl_ValidNum kx a0 = (g_impl_ValidNum a0).bind kx := by
  unfold g_impl_ValidNum t_impl_ValidNum
  exact nat_bind fun _ => nat_cond (nat_bind fun _ => nat_cond (nat_bind fun _ => nat_cond (nat_cond (rfl) (nat_cond (rfl) (rfl))) (rfl)) (rfl)) (rfl)
abbrev as_impl_ValidNum : List AX := [.val true (.pair (.int .i64) (.pair (.int .i64) (.int .i64)))]
abbrev en_impl_ValidNum : Bool → AV × List CV := fun b => (.one ⟨false, [(.v (.bool b))]⟩, [])
noncomputable abbrev k_impl_ValidNum : Contract := .fx as_impl_ValidNum (Bool) (fun z => g_impl_ValidNum z.1) en_impl_ValidNum
theorem r_impl_ValidNum (z : argsX as_impl_ValidNum) : runF (tab C0 T_impl_ValidNum) noHints 1 Tryd.f83 (lentOf as_impl_ValidNum) (xBoxes as_impl_ValidNum z) (xVals as_impl_ValidNum 0 z) K2 = t_impl_ValidNum (fun b => some (en_impl_ValidNum b)) z.1 := by kernel_rfl
theorem so_impl_ValidNum : Sound C0 83 k_impl_ValidNum :=
  Sound.fx a_impl_ValidNum mixed Tryd.func83 (by kernel_rfl) (by kernel_rfl) noHints 1 noHints_ok (fun z => (r_impl_ValidNum z).trans (nat_impl_ValidNum _ z.1))

/-! ### F42 impl.ValidPoint -/
noncomputable def T_impl_ValidPoint : List (FuncId × Contract) := [(83, k_impl_ValidNum)]
theorem a_impl_ValidPoint : AllSound C0 T_impl_ValidPoint := .cons so_impl_ValidNum (.nil)
noncomputable def t_impl_ValidPoint {R : Type} (kx : Bool → Option R) (a0 : ((Int × (Int × Int)) × (Int × (Int × Int)))) : Option R :=
  Option.bind (g_impl_ValidNum a0.1) fun y176 =>
  cond y176
  (Option.bind (g_impl_ValidNum a0.2) fun y177 =>
   kx y177)
  (kx Bool.false)
noncomputable def g_impl_ValidPoint (a0 : ((Int × (Int × Int)) × (Int × (Int × Int)))) : Option (Bool) := t_impl_ValidPoint some a0
theorem nat_impl_ValidPoint {R : Type} (kx : Bool → Option R) (a0 : ((Int × (Int × Int)) × (Int × (Int × Int)))) : t_impl_ValidPoint kx a0 = (g_impl_ValidPoint a0).bind kx := by
  unfold g_impl_ValidPoint t_impl_ValidPoint
  exact nat_bind fun _ => nat_cond (nat_bind fun _ => rfl) (rfl)
abbrev as_impl_ValidPoint : List AX := [.val true (.pair (.pair (.int .i64) (.pair (.int .i64) (.int .i64))) (.pair (.int .i64) (.pair (.int .i64) (.int .i64))))]
abbrev en_impl_ValidPoint : Bool → AV × List CV := fun b => (.one ⟨false, [(.v (.bool b))]⟩, [])
noncomputable abbrev k_impl_ValidPoint : Contract := .fx as_impl_ValidPoint (Bool) (fun z => g_impl_ValidPoint z.1) en_impl_ValidPoint
theorem r_impl_ValidPoint (z : argsX as_impl_ValidPoint) : runF (tab C0 T_impl_ValidPoint) noHints 1 Tryd.f42 (lentOf as_impl_ValidPoint) (xBoxes as_impl_ValidPoint z) (xVals as_impl_ValidPoint 0 z) K2 = t_impl_ValidPoint (fun b => some (en_impl_ValidPoint b)) z.1 := by kernel_rfl
theorem so_impl_ValidPoint : Sound C0 42 k_impl_ValidPoint :=
  Sound.fx a_impl_ValidPoint mixed Tryd.func42 (by kernel_rfl) (by kernel_rfl) noHints 1 noHints_ok (fun z => (r_impl_ValidPoint z).trans (nat_impl_ValidPoint _ z.1))

/-! ### F122 (impl.Num).neg -/
noncomputable def T_impl_Num_neg : List (FuncId × Contract) := []
theorem a_impl_Num_neg : AllSound C0 T_impl_Num_neg := .nil
noncomputable def t_impl_Num_neg {R : Type} (kx : (Int × (Int × Int)) → Option R) (a0 : (Int × (Int × Int))) : Option R :=
  kx ((IntKind.wrap IntKind.i64 ((0 : Int) - a0.1)), ((IntKind.wrap IntKind.i64 ((0 : Int) - a0.2.1)), a0.2.2))
noncomputable def g_impl_Num_neg (a0 : (Int × (Int × Int))) : Option ((Int × (Int × Int))) := t_impl_Num_neg some a0
theorem nat_impl_Num_neg {R : Type} (kx : (Int × (Int × Int)) → Option R) (a0 : (Int × (Int × Int))) : t_impl_Num_neg kx a0 = (g_impl_Num_neg a0).bind kx := by
  unfold g_impl_Num_neg t_impl_Num_neg
  exact rfl
abbrev as_impl_Num_neg : List AX := [.val true (.pair (.int .i64) (.pair (.int .i64) (.int .i64)))]
abbrev en_impl_Num_neg : (Int × (Int × Int)) → AV × List CV := fun b => (.one ⟨true, [(.v (.int .i64 b.1)), (.v (.int .i64 b.2.1)), (.v (.int .i64 b.2.2))]⟩, [])
noncomputable abbrev k_impl_Num_neg : Contract := .fx as_impl_Num_neg ((Int × (Int × Int))) (fun z => g_impl_Num_neg z.1) en_impl_Num_neg
theorem r_impl_Num_neg (z : argsX as_impl_Num_neg) : runF (tab C0 T_impl_Num_neg) noHints 1 Tryd.f122 (lentOf as_impl_Num_neg) (xBoxes as_impl_Num_neg z) (xVals as_impl_Num_neg 0 z) K2 = t_impl_Num_neg (fun b => some (en_impl_Num_neg b)) z.1 := by kernel_rfl
theorem so_impl_Num_neg : Sound C0 122 k_impl_Num_neg :=
  Sound.fx a_impl_Num_neg mixed Tryd.func122 (by kernel_rfl) (by kernel_rfl) noHints 1 noHints_ok (fun z => (r_impl_Num_neg z).trans (nat_impl_Num_neg _ z.1))

/-! ### F125 (impl.Num).reduced -/
noncomputable def T_impl_Num_reduced : List (FuncId × Contract) := []
theorem a_impl_Num_reduced : AllSound C0 T_impl_Num_reduced := .nil
abbrev s_impl_Num_reduced_2 : LS := ⟨[(false, [(.ptr 1 0)]), (false, [(.ptr 2 0)])], [(false, [(.int .i64), (.int .i64), (.int .i64)]), (false, [(.int .i64), (.int .i64), (.int .i64)])], []⟩
abbrev e_impl_Num_reduced_2_0 : LS := ⟨[(false, [(.ptr 1 0)]), (false, [(.ptr 2 0)])], [(false, [(.int .i64), (.int .i64), (.int .i64)]), (false, [(.int .i64), (.int .i64), (.int .i64)])], []⟩
abbrev d_impl_Num_reduced_2_0 (v0 : Int) (v1 : Int) (v2 : Int) (v3 : Int) (v4 : Int) (v5 : Int) : e_impl_Num_reduced_2_0.T := ((((), ()), ((), ()), ()), ((v0, v1, v2, ()), (v3, v4, v5, ()), ()), ())
abbrev x_impl_Num_reduced_2 : List (Ex × LS) := [(.exit 0, e_impl_Num_reduced_2_0)]
abbrev m_impl_Num_reduced_2 (b0_0 : Int) (b0_1 : Int) (b0_2 : Int) (b1_0 : Int) (b1_1 : Int) (b1_2 : Int) : s_impl_Num_reduced_2.T := ((((), ()), ((), ()), ()), ((b0_0, b0_1, b0_2, ()), (b1_0, b1_1, b1_2, ()), ()), ())
noncomputable def u_impl_Num_reduced_2 {R : Type} (nx : s_impl_Num_reduced_2.T → Option R) (hx : exH R x_impl_Num_reduced_2) (b0_0 : Int) (b0_1 : Int) (b0_2 : Int) (b1_0 : Int) (b1_1 : Int) (b1_2 : Int) : Option R :=
  cond (decide (b0_2 > (0 : Int)))
  (cond ((IntKind.wrap IntKind.i64 (((BitVec.toNat ((BitVec.ofInt 64 b0_0) &&& (BitVec.ofInt 64 (1 : Int)))) : Nat) : Int)) == (0 : Int))
   (cond ((IntKind.wrap IntKind.i64 (((BitVec.toNat ((BitVec.ofInt 64 b0_1) &&& (BitVec.ofInt 64 (1 : Int)))) : Nat) : Int)) == (0 : Int))
    (cond ((IntKind.wrap IntKind.i64 (Int.tdiv b0_0 (2 : Int))) == (0 : Int))
     (cond ((IntKind.wrap IntKind.i64 (Int.tdiv b0_1 (2 : Int))) == (0 : Int))
      (nx (m_impl_Num_reduced_2 (IntKind.wrap IntKind.i64 (Int.tdiv b0_0 (2 : Int))) (IntKind.wrap IntKind.i64 (Int.tdiv b0_1 (2 : Int))) (0 : Int) b1_0 b1_1 b1_2))
      (nx (m_impl_Num_reduced_2 (IntKind.wrap IntKind.i64 (Int.tdiv b0_0 (2 : Int))) (IntKind.wrap IntKind.i64 (Int.tdiv b0_1 (2 : Int))) (IntKind.wrap IntKind.i64 (b0_2 - (1 : Int))) b1_0 b1_1 b1_2)))
     (nx (m_impl_Num_reduced_2 (IntKind.wrap IntKind.i64 (Int.tdiv b0_0 (2 : Int))) (IntKind.wrap IntKind.i64 (Int.tdiv b0_1 (2 : Int))) (IntKind.wrap IntKind.i64 (b0_2 - (1 : Int))) b1_0 b1_1 b1_2)))
    (hx.1 (d_impl_Num_reduced_2_0 b0_0 b0_1 b0_2 b1_0 b1_1 b1_2)))
   (hx.1 (d_impl_Num_reduced_2_0 b0_0 b0_1 b0_2 b1_0 b1_1 b1_2)))
  (hx.1 (d_impl_Num_reduced_2_0 b0_0 b0_1 b0_2 b1_0 b1_1 b1_2))
noncomputable def t_impl_Num_reduced_2 {R : Type} (nx : s_impl_Num_reduced_2.T → Option R) (hx : exH R x_impl_Num_reduced_2) (z : s_impl_Num_reduced_2.T) : Option R := u_impl_Num_reduced_2 nx hx z.2.1.1.1 z.2.1.1.2.1 z.2.1.1.2.2.1 z.2.1.2.1.1 z.2.1.2.1.2.1 z.2.1.2.1.2.2.1
theorem nat_impl_Num_reduced_2 : Natural @t_impl_Num_reduced_2 := fun R nx hx z => by
  show u_impl_Num_reduced_2 nx hx z.2.1.1.1 z.2.1.1.2.1 z.2.1.1.2.2.1 z.2.1.2.1.1 z.2.1.2.1.2.1 z.2.1.2.1.2.2.1 = (u_impl_Num_reduced_2 (fun y => some (.inl y)) (hIn x_impl_Num_reduced_2 fun x => some (.inr x)) z.2.1.1.1 z.2.1.1.2.1 z.2.1.1.2.2.1 z.2.1.2.1.1 z.2.1.2.1.2.1 z.2.1.2.1.2.2.1).bind (goOn nx hx)
  unfold u_impl_Num_reduced_2
  exact nat_cond (nat_cond (nat_cond (nat_cond (nat_cond (rfl) (rfl)) (rfl)) (rfl)) (rfl)) (rfl)
noncomputable def w_impl_Num_reduced_2 : s_impl_Num_reduced_2.T → Option (exT x_impl_Num_reduced_2) := wOf @t_impl_Num_reduced_2
theorem wq_impl_Num_reduced_2 (b0_0 : Int) (b0_1 : Int) (b0_2 : Int) (b1_0 : Int) (b1_1 : Int) (b1_2 : Int) : w_impl_Num_reduced_2 (m_impl_Num_reduced_2 b0_0 b0_1 b0_2 b1_0 b1_1 b1_2) = u_impl_Num_reduced_2 w_impl_Num_reduced_2 (hIn x_impl_Num_reduced_2 some) b0_0 b0_1 b0_2 b1_0 b1_1 b1_2 := wOf_eq nat_impl_Num_reduced_2 _
def lh_impl_Num_reduced_2 : LoopHint := ⟨[1, 2], [1, 2], [1, 2], [1, 2]⟩
noncomputable def h_impl_Num_reduced : Hints Rv := ⟨fun k => match k with | 2 => lh_impl_Num_reduced_2 | _ => ⟨[], [], [], []⟩, fun k => match k with | 2 => some (loopX s_impl_Num_reduced_2 x_impl_Num_reduced_2 w_impl_Num_reduced_2) | _ => none⟩
theorem st_impl_Num_reduced_2 (n : Nat) (z : s_impl_Num_reduced_2.T) (k : Ex → Live → Option Rv) : loopN ⟨40, 40⟩ lh_impl_Num_reduced_2 (den (tab C0 T_impl_Num_reduced) ⟨40, 40⟩ h_impl_Num_reduced 1 (loopOf Tryd.f125 1)) (n + 1) (s_impl_Num_reduced_2.enc z) k =
    t_impl_Num_reduced_2 (fun y => loopN ⟨40, 40⟩ lh_impl_Num_reduced_2 (den (tab C0 T_impl_Num_reduced) ⟨40, 40⟩ h_impl_Num_reduced 1 (loopOf Tryd.f125 1)) n (s_impl_Num_reduced_2.enc y) k) (hK k x_impl_Num_reduced_2) z := by kernel_rfl
theorem hs_impl_Num_reduced : HintsOk (tab C0 T_impl_Num_reduced) ⟨40, 40⟩ h_impl_Num_reduced 1 (loops (codeOf Tryd.f125)) := by
  have hl : loops (codeOf Tryd.f125) = [loopOf Tryd.f125 1] := by kernel_rfl
  rw [hl]
  exact HintsOk.cons (n := 2) (lh := lh_impl_Num_reduced_2) (S := loopX s_impl_Num_reduced_2 x_impl_Num_reduced_2 w_impl_Num_reduced_2) (by kernel_rfl) rfl rfl (loopX_ok nat_impl_Num_reduced_2 st_impl_Num_reduced_2)
    (HintsOk.nil)
noncomputable def t_impl_Num_reduced {R : Type} (kx : (Int × (Int × Int)) → Option R) (a0 : (Int × (Int × Int))) : Option R :=
  Option.bind (w_impl_Num_reduced_2 (m_impl_Num_reduced_2 a0.1 a0.2.1 a0.2.2 (0 : Int) (0 : Int) (0 : Int))) (exC x_impl_Num_reduced_2
  (fun e197 =>
   kx ((e197.2.1.1.1 : Int), ((e197.2.1.1.2.1 : Int), (e197.2.1.1.2.2.1 : Int))), ()))
noncomputable def g_impl_Num_reduced (a0 : (Int × (Int × Int))) : Option ((Int × (Int × Int))) := t_impl_Num_reduced some a0
theorem nat_impl_Num_reduced {R : Type} (kx : (Int × (Int × Int)) → Option R) (a0 : (Int × (Int × Int))) : t_impl_Num_reduced kx a0 = (g_impl_Num_reduced a0).bind kx := by
  unfold g_impl_Num_reduced t_impl_Num_reduced
  exact nat_exC ⟨fun _ => rfl, trivial⟩
abbrev as_impl_Num_reduced : List AX := [.val true (.pair (.int .i64) (.pair (.int .i64) (.int .i64)))]
abbrev en_impl_Num_reduced : (Int × (Int × Int)) → AV × List CV := fun b => (.one ⟨true, [(.v (.int .i64 b.1)), (.v (.int .i64 b.2.1)), (.v (.int .i64 b.2.2))]⟩, [])
noncomputable abbrev k_impl_Num_reduced : Contract := .fx as_impl_Num_reduced ((Int × (Int × Int))) (fun z => g_impl_Num_reduced z.1) en_impl_Num_reduced
theorem r_impl_Num_reduced (z : argsX as_impl_Num_reduced) : runF (tab C0 T_impl_Num_reduced) h_impl_Num_reduced 1 Tryd.f125 (lentOf as_impl_Num_reduced) (xBoxes as_impl_Num_reduced z) (xVals as_impl_Num_reduced 0 z) K2 = t_impl_Num_reduced (fun b => some (en_impl_Num_reduced b)) z.1 := by kernel_rfl
theorem so_impl_Num_reduced : Sound C0 125 k_impl_Num_reduced :=
  Sound.fx a_impl_Num_reduced mixed Tryd.func125 (by kernel_rfl) (by kernel_rfl) h_impl_Num_reduced 1 hs_impl_Num_reduced (fun z => (r_impl_Num_reduced z).trans (nat_impl_Num_reduced _ z.1))

/-! ### F91 (impl.Num).plus -/
noncomputable def T_impl_Num_plus : List (FuncId × Contract) := [(125, k_impl_Num_reduced)]
theorem a_impl_Num_plus : AllSound C0 T_impl_Num_plus := .cons so_impl_Num_reduced (.nil)
noncomputable def t_impl_Num_plus {R : Type} (kx : (Int × (Int × Int)) → Option R) (a0 : (Int × (Int × Int))) (a1 : (Int × (Int × Int))) : Option R :=
  cond (decide ((IntKind.wrap IntKind.i64 ((if (Bool.true = Bool.true) then (if (a1.2.2 > a0.2.2) then a1.2.2 else a0.2.2) else (if (a1.2.2 < a0.2.2) then a1.2.2 else a0.2.2)) - a0.2.2)) < (0 : Int)))
  (none)
  (cond (decide ((IntKind.wrap IntKind.i64 ((if (Bool.true = Bool.true) then (if (a1.2.2 > a0.2.2) then a1.2.2 else a0.2.2) else (if (a1.2.2 < a0.2.2) then a1.2.2 else a0.2.2)) - a1.2.2)) < (0 : Int)))
   (none)
   (cond (decide ((IntKind.wrap IntKind.i64 ((if (Bool.true = Bool.true) then (if (a1.2.2 > a0.2.2) then a1.2.2 else a0.2.2) else (if (a1.2.2 < a0.2.2) then a1.2.2 else a0.2.2)) - a0.2.2)) < (0 : Int)))
    (none)
    (cond (decide ((IntKind.wrap IntKind.i64 ((if (Bool.true = Bool.true) then (if (a1.2.2 > a0.2.2) then a1.2.2 else a0.2.2) else (if (a1.2.2 < a0.2.2) then a1.2.2 else a0.2.2)) - a1.2.2)) < (0 : Int)))
     (none)
     (Option.bind (g_impl_Num_reduced ((IntKind.wrap IntKind.i64 ((IntKind.wrap IntKind.i64 (a0.1 * ((2 : Int) ^ (Min.min (Int.toNat (IntKind.wrap IntKind.i64 ((if (Bool.true = Bool.true) then (if (a1.2.2 > a0.2.2) then a1.2.2 else a0.2.2) else (if (a1.2.2 < a0.2.2) then a1.2.2 else a0.2.2)) - a0.2.2))) 64)))) + (IntKind.wrap IntKind.i64 (a1.1 * ((2 : Int) ^ (Min.min (Int.toNat (IntKind.wrap IntKind.i64 ((if (Bool.true = Bool.true) then (if (a1.2.2 > a0.2.2) then a1.2.2 else a0.2.2) else (if (a1.2.2 < a0.2.2) then a1.2.2 else a0.2.2)) - a1.2.2))) 64)))))), ((IntKind.wrap IntKind.i64 ((IntKind.wrap IntKind.i64 (a0.2.1 * ((2 : Int) ^ (Min.min (Int.toNat (IntKind.wrap IntKind.i64 ((if (Bool.true = Bool.true) then (if (a1.2.2 > a0.2.2) then a1.2.2 else a0.2.2) else (if (a1.2.2 < a0.2.2) then a1.2.2 else a0.2.2)) - a0.2.2))) 64)))) + (IntKind.wrap IntKind.i64 (a1.2.1 * ((2 : Int) ^ (Min.min (Int.toNat (IntKind.wrap IntKind.i64 ((if (Bool.true = Bool.true) then (if (a1.2.2 > a0.2.2) then a1.2.2 else a0.2.2) else (if (a1.2.2 < a0.2.2) then a1.2.2 else a0.2.2)) - a1.2.2))) 64)))))), (if (Bool.true = Bool.true) then (if (a1.2.2 > a0.2.2) then a1.2.2 else a0.2.2) else (if (a1.2.2 < a0.2.2) then a1.2.2 else a0.2.2))))) fun y204 =>
      kx y204))))
noncomputable def g_impl_Num_plus (a0 : (Int × (Int × Int))) (a1 : (Int × (Int × Int))) : Option ((Int × (Int × Int))) := t_impl_Num_plus some a0 a1
theorem nat_impl_Num_plus {R : Type} (kx : (Int × (Int × Int)) → Option R) (a0 : (Int × (Int × Int))) (a1 : (Int × (Int × Int))) : t_impl_Num_plus kx a0 a1 = (g_impl_Num_plus a0 a1).bind kx := by
  unfold g_impl_Num_plus t_impl_Num_plus
  exact nat_cond (rfl) (nat_cond (rfl) (nat_cond (rfl) (nat_cond (rfl) (nat_bind fun _ => rfl))))
abbrev as_impl_Num_plus : List AX := [.val true (.pair (.int .i64) (.pair (.int .i64) (.int .i64))), .val true (.pair (.int .i64) (.pair (.int .i64) (.int .i64)))]
abbrev en_impl_Num_plus : (Int × (Int × Int)) → AV × List CV := fun b => (.one ⟨true, [(.v (.int .i64 b.1)), (.v (.int .i64 b.2.1)), (.v (.int .i64 b.2.2))]⟩, [])
noncomputable abbrev k_impl_Num_plus : Contract := .fx as_impl_Num_plus ((Int × (Int × Int))) (fun z => g_impl_Num_plus z.1 z.2.1) en_impl_Num_plus
theorem r_impl_Num_plus (z : argsX as_impl_Num_plus) : runF (tab C0 T_impl_Num_plus) noHints 1 Tryd.f91 (lentOf as_impl_Num_plus) (xBoxes as_impl_Num_plus z) (xVals as_impl_Num_plus 0 z) K2 = t_impl_Num_plus (fun b => some (en_impl_Num_plus b)) z.1 z.2.1 := by kernel_rfl
theorem so_impl_Num_plus : Sound C0 91 k_impl_Num_plus :=
  Sound.fx a_impl_Num_plus mixed Tryd.func91 (by kernel_rfl) (by kernel_rfl) noHints 1 noHints_ok (fun z => (r_impl_Num_plus z).trans (nat_impl_Num_plus _ z.1 z.2.1))

/-! ### F86 (impl.Num).minus -/
noncomputable def T_impl_Num_minus : List (FuncId × Contract) := [(122, k_impl_Num_neg), (91, k_impl_Num_plus)]
theorem a_impl_Num_minus : AllSound C0 T_impl_Num_minus := .cons so_impl_Num_neg (.cons so_impl_Num_plus (.nil))
noncomputable def t_impl_Num_minus {R : Type} (kx : (Int × (Int × Int)) → Option R) (a0 : (Int × (Int × Int))) (a1 : (Int × (Int × Int))) : Option R :=
  Option.bind (g_impl_Num_neg a1) fun y187 =>
  Option.bind (g_impl_Num_plus a0 y187) fun y205 =>
  kx y205
noncomputable def g_impl_Num_minus (a0 : (Int × (Int × Int))) (a1 : (Int × (Int × Int))) : Option ((Int × (Int × Int))) := t_impl_Num_minus some a0 a1
theorem nat_impl_Num_minus {R : Type} (kx : (Int × (Int × Int)) → Option R) (a0 : (Int × (Int × Int))) (a1 : (Int × (Int × Int))) : t_impl_Num_minus kx a0 a1 = (g_impl_Num_minus a0 a1).bind kx := by
  unfold g_impl_Num_minus t_impl_Num_minus
  exact nat_bind fun _ => nat_bind fun _ => rfl
abbrev as_impl_Num_minus : List AX := [.val true (.pair (.int .i64) (.pair (.int .i64) (.int .i64))), .val true (.pair (.int .i64) (.pair (.int .i64) (.int .i64)))]
abbrev en_impl_Num_minus : (Int × (Int × Int)) → AV × List CV := fun b => (.one ⟨true, [(.v (.int .i64 b.1)), (.v (.int .i64 b.2.1)), (.v (.int .i64 b.2.2))]⟩, [])
noncomputable abbrev k_impl_Num_minus : Contract := .fx as_impl_Num_minus ((Int × (Int × Int))) (fun z => g_impl_Num_minus z.1 z.2.1) en_impl_Num_minus
theorem r_impl_Num_minus (z : argsX as_impl_Num_minus) : runF (tab C0 T_impl_Num_minus) noHints 1 Tryd.f86 (lentOf as_impl_Num_minus) (xBoxes as_impl_Num_minus z) (xVals as_impl_Num_minus 0 z) K2 = t_impl_Num_minus (fun b => some (en_impl_Num_minus b)) z.1 z.2.1 := by kernel_rfl
theorem so_impl_Num_minus : Sound C0 86 k_impl_Num_minus :=
  Sound.fx a_impl_Num_minus mixed Tryd.func86 (by kernel_rfl) (by kernel_rfl) noHints 1 noHints_ok (fun z => (r_impl_Num_minus z).trans (nat_impl_Num_minus _ z.1 z.2.1))

/-! ### F106 (impl.Point).minus -/
noncomputable def T_impl_Point_minus : List (FuncId × Contract) := [(86, k_impl_Num_minus)]
theorem a_impl_Point_minus : AllSound C0 T_impl_Point_minus := .cons so_impl_Num_minus (.nil)
noncomputable def t_impl_Point_minus {R : Type} (kx : ((Int × (Int × Int)) × (Int × (Int × Int))) → Option R) (a0 : ((Int × (Int × Int)) × (Int × (Int × Int)))) (a1 : ((Int × (Int × Int)) × (Int × (Int × Int)))) : Option R :=
  Option.bind (g_impl_Num_minus a0.1 a1.1) fun y206 =>
  Option.bind (g_impl_Num_minus a0.2 a1.2) fun y207 =>
  kx (y206, y207)
noncomputable def g_impl_Point_minus (a0 : ((Int × (Int × Int)) × (Int × (Int × Int)))) (a1 : ((Int × (Int × Int)) × (Int × (Int × Int)))) : Option (((Int × (Int × Int)) × (Int × (Int × Int)))) := t_impl_Point_minus some a0 a1
theorem nat_impl_Point_minus {R : Type} (kx : ((Int × (Int × Int)) × (Int × (Int × Int))) → Option R) (a0 : ((Int × (Int × Int)) × (Int × (Int × Int)))) (a1 : ((Int × (Int × Int)) × (Int × (Int × Int)))) : t_impl_Point_minus kx a0 a1 = (g_impl_Point_minus a0 a1).bind kx := by
  unfold g_impl_Point_minus t_impl_Point_minus
  exact nat_bind fun _ => nat_bind fun _ => rfl
abbrev as_impl_Point_minus : List AX := [.val true (.pair (.pair (.int .i64) (.pair (.int .i64) (.int .i64))) (.pair (.int .i64) (.pair (.int .i64) (.int .i64)))), .val true (.pair (.pair (.int .i64) (.pair (.int .i64) (.int .i64))) (.pair (.int .i64) (.pair (.int .i64) (.int .i64))))]
abbrev en_impl_Point_minus : ((Int × (Int × Int)) × (Int × (Int × Int))) → AV × List CV := fun b => (.one ⟨true, [(.v (.int .i64 b.1.1)), (.v (.int .i64 b.1.2.1)), (.v (.int .i64 b.1.2.2)), (.v (.int .i64 b.2.1)), (.v (.int .i64 b.2.2.1)), (.v (.int .i64 b.2.2.2))]⟩, [])
noncomputable abbrev k_impl_Point_minus : Contract := .fx as_impl_Point_minus (((Int × (Int × Int)) × (Int × (Int × Int)))) (fun z => g_impl_Point_minus z.1 z.2.1) en_impl_Point_minus
theorem r_impl_Point_minus (z : argsX as_impl_Point_minus) : runF (tab C0 T_impl_Point_minus) noHints 1 Tryd.f106 (lentOf as_impl_Point_minus) (xBoxes as_impl_Point_minus z) (xVals as_impl_Point_minus 0 z) K2 = t_impl_Point_minus (fun b => some (en_impl_Point_minus b)) z.1 z.2.1 := by kernel_rfl
theorem so_impl_Point_minus : Sound C0 106 k_impl_Point_minus :=
  Sound.fx a_impl_Point_minus mixed Tryd.func106 (by kernel_rfl) (by kernel_rfl) noHints 1 noHints_ok (fun z => (r_impl_Point_minus z).trans (nat_impl_Point_minus _ z.1 z.2.1))

/-! ### F100 impl.vector -/
noncomputable def T_impl_vector : List (FuncId × Contract) := [(122, k_impl_Num_neg)]
theorem a_impl_vector : AllSound C0 T_impl_vector := .cons so_impl_Num_neg (.nil)
noncomputable def t_impl_vector {R : Type} (kx : ((Int × (Int × Int)) × (Int × (Int × Int))) → Option R) (a0 : Int) : Option R :=
  cond (decide (a0 ≥ (8 : Int)))
  (cond (decide ((IntKind.wrap IntKind.i64 (a0 - (8 : Int))) = ((0 : Nat) : Int)))
   (Option.bind (g_impl_Num_neg ((1 : Int), ((0 : Int), (0 : Int)))) fun y217 =>
    Option.bind (g_impl_Num_neg ((0 : Int), ((0 : Int), (0 : Int)))) fun y218 =>
    kx (y217, y218))
   (cond (decide ((IntKind.wrap IntKind.i64 (a0 - (8 : Int))) = (((0 + 1) : Nat) : Int)))
    (Option.bind (g_impl_Num_neg ((1 : Int), ((0 : Int), (0 : Int)))) fun y219 =>
     Option.bind (g_impl_Num_neg ((-(1 : Int)), ((1 : Int), (0 : Int)))) fun y220 =>
     kx (y219, y220))
    (cond (decide ((IntKind.wrap IntKind.i64 (a0 - (8 : Int))) = ((((0 + 1) + 1) : Nat) : Int)))
     (Option.bind (g_impl_Num_neg ((1 : Int), ((0 : Int), (0 : Int)))) fun y221 =>
      Option.bind (g_impl_Num_neg ((1 : Int), ((0 : Int), (0 : Int)))) fun y222 =>
      kx (y221, y222))
     (cond (decide ((IntKind.wrap IntKind.i64 (a0 - (8 : Int))) = (((((0 + 1) + 1) + 1) : Nat) : Int)))
      (Option.bind (g_impl_Num_neg ((-(1 : Int)), ((1 : Int), (0 : Int)))) fun y223 =>
       Option.bind (g_impl_Num_neg ((1 : Int), ((0 : Int), (0 : Int)))) fun y224 =>
       kx (y223, y224))
      (cond (decide ((IntKind.wrap IntKind.i64 (a0 - (8 : Int))) = ((((((0 + 1) + 1) + 1) + 1) : Nat) : Int)))
       (Option.bind (g_impl_Num_neg ((0 : Int), ((0 : Int), (0 : Int)))) fun y225 =>
        Option.bind (g_impl_Num_neg ((1 : Int), ((0 : Int), (0 : Int)))) fun y226 =>
        kx (y225, y226))
       (cond (decide ((IntKind.wrap IntKind.i64 (a0 - (8 : Int))) = (((((((0 + 1) + 1) + 1) + 1) + 1) : Nat) : Int)))
        (Option.bind (g_impl_Num_neg ((1 : Int), ((-(1 : Int)), (0 : Int)))) fun y227 =>
         Option.bind (g_impl_Num_neg ((1 : Int), ((0 : Int), (0 : Int)))) fun y228 =>
         kx (y227, y228))
        (cond (decide ((IntKind.wrap IntKind.i64 (a0 - (8 : Int))) = ((((((((0 + 1) + 1) + 1) + 1) + 1) + 1) : Nat) : Int)))
         (Option.bind (g_impl_Num_neg ((-(1 : Int)), ((0 : Int), (0 : Int)))) fun y229 =>
          Option.bind (g_impl_Num_neg ((1 : Int), ((0 : Int), (0 : Int)))) fun y230 =>
          kx (y229, y230))
         (cond (decide ((IntKind.wrap IntKind.i64 (a0 - (8 : Int))) = (((((((((0 + 1) + 1) + 1) + 1) + 1) + 1) + 1) : Nat) : Int)))
          (Option.bind (g_impl_Num_neg ((-(1 : Int)), ((0 : Int), (0 : Int)))) fun y231 =>
           Option.bind (g_impl_Num_neg ((-(1 : Int)), ((1 : Int), (0 : Int)))) fun y232 =>
           kx (y231, y232))
          (none)))))))))
  (cond (decide (a0 = ((0 : Nat) : Int)))
   (kx (((1 : Int), ((0 : Int), (0 : Int))), ((0 : Int), ((0 : Int), (0 : Int)))))
   (cond (decide (a0 = (((0 + 1) : Nat) : Int)))
    (kx (((1 : Int), ((0 : Int), (0 : Int))), ((-(1 : Int)), ((1 : Int), (0 : Int)))))
    (cond (decide (a0 = ((((0 + 1) + 1) : Nat) : Int)))
     (kx (((1 : Int), ((0 : Int), (0 : Int))), ((1 : Int), ((0 : Int), (0 : Int)))))
     (cond (decide (a0 = (((((0 + 1) + 1) + 1) : Nat) : Int)))
      (kx (((-(1 : Int)), ((1 : Int), (0 : Int))), ((1 : Int), ((0 : Int), (0 : Int)))))
      (cond (decide (a0 = ((((((0 + 1) + 1) + 1) + 1) : Nat) : Int)))
       (kx (((0 : Int), ((0 : Int), (0 : Int))), ((1 : Int), ((0 : Int), (0 : Int)))))
       (cond (decide (a0 = (((((((0 + 1) + 1) + 1) + 1) + 1) : Nat) : Int)))
        (kx (((1 : Int), ((-(1 : Int)), (0 : Int))), ((1 : Int), ((0 : Int), (0 : Int)))))
        (cond (decide (a0 = ((((((((0 + 1) + 1) + 1) + 1) + 1) + 1) : Nat) : Int)))
         (kx (((-(1 : Int)), ((0 : Int), (0 : Int))), ((1 : Int), ((0 : Int), (0 : Int)))))
         (cond (decide (a0 = (((((((((0 + 1) + 1) + 1) + 1) + 1) + 1) + 1) : Nat) : Int)))
          (kx (((-(1 : Int)), ((0 : Int), (0 : Int))), ((-(1 : Int)), ((1 : Int), (0 : Int)))))
          (none)))))))))
noncomputable def g_impl_vector (a0 : Int) : Option (((Int × (Int × Int)) × (Int × (Int × Int)))) := t_impl_vector some a0
theorem nat_impl_vector {R : Type} (kx : ((Int × (Int × Int)) × (Int × (Int × Int))) → Option R) (a0 : Int) : t_impl_vector kx a0 = (g_impl_vector a0).bind kx := by
  unfold g_impl_vector t_impl_vector
  exact nat_cond (nat_cond (nat_bind fun _ => nat_bind fun _ => rfl) (nat_cond (nat_bind fun _ => nat_bind fun _ => rfl) (nat_cond (nat_bind fun _ => nat_bind fun _ => rfl) (nat_cond (nat_bind fun _ => nat_bind fun _ => rfl) (nat_cond (nat_bind fun _ => nat_bind fun _ => rfl) (nat_cond (nat_bind fun _ => nat_bind fun _ => rfl) (nat_cond (nat_bind fun _ => nat_bind fun _ => rfl) (nat_cond (nat_bind fun _ => nat_bind fun _ => rfl) (rfl))))))))) (nat_cond (rfl) (nat_cond (rfl) (nat_cond (rfl) (nat_cond (rfl) (nat_cond (rfl) (nat_cond (rfl) (nat_cond (rfl) (nat_cond (rfl) (rfl)))))))))
abbrev as_impl_vector : List AX := [.val false (.int .i64)]
abbrev en_impl_vector : ((Int × (Int × Int)) × (Int × (Int × Int))) → AV × List CV := fun b => (.one ⟨true, [(.v (.int .i64 b.1.1)), (.v (.int .i64 b.1.2.1)), (.v (.int .i64 b.1.2.2)), (.v (.int .i64 b.2.1)), (.v (.int .i64 b.2.2.1)), (.v (.int .i64 b.2.2.2))]⟩, [])
noncomputable abbrev k_impl_vector : Contract := .fx as_impl_vector (((Int × (Int × Int)) × (Int × (Int × Int)))) (fun z => g_impl_vector z.1) en_impl_vector
theorem r_impl_vector (z : argsX as_impl_vector) : runF (tab C0 T_impl_vector) noHints 1 Tryd.f100 (lentOf as_impl_vector) (xBoxes as_impl_vector z) (xVals as_impl_vector 0 z) K2 = t_impl_vector (fun b => some (en_impl_vector b)) z.1 := by kernel_rfl
theorem so_impl_vector : Sound C0 100 k_impl_vector :=
  Sound.fx a_impl_vector mixed Tryd.func100 (by kernel_rfl) (by kernel_rfl) noHints 1 noHints_ok (fun z => (r_impl_vector z).trans (nat_impl_vector _ z.1))

/-! ### F101 (impl.Num).times -/
noncomputable def T_impl_Num_times : List (FuncId × Contract) := [(125, k_impl_Num_reduced)]
theorem a_impl_Num_times : AllSound C0 T_impl_Num_times := .cons so_impl_Num_reduced (.nil)
noncomputable def t_impl_Num_times {R : Type} (kx : (Int × (Int × Int)) → Option R) (a0 : (Int × (Int × Int))) (a1 : (Int × (Int × Int))) : Option R :=
  Option.bind (g_impl_Num_reduced ((IntKind.wrap IntKind.i64 ((IntKind.wrap IntKind.i64 (a0.1 * a1.1)) + (IntKind.wrap IntKind.i64 ((IntKind.wrap IntKind.i64 ((2 : Int) * a0.2.1)) * a1.2.1)))), ((IntKind.wrap IntKind.i64 ((IntKind.wrap IntKind.i64 (a0.1 * a1.2.1)) + (IntKind.wrap IntKind.i64 (a0.2.1 * a1.1)))), (IntKind.wrap IntKind.i64 (a0.2.2 + a1.2.2))))) fun y238 =>
  kx y238
noncomputable def g_impl_Num_times (a0 : (Int × (Int × Int))) (a1 : (Int × (Int × Int))) : Option ((Int × (Int × Int))) := t_impl_Num_times some a0 a1
theorem nat_impl_Num_times {R : Type} (kx : (Int × (Int × Int)) → Option R) (a0 : (Int × (Int × Int))) (a1 : (Int × (Int × Int))) : t_impl_Num_times kx a0 a1 = (g_impl_Num_times a0 a1).bind kx := by
  unfold g_impl_Num_times t_impl_Num_times
  exact nat_bind fun _ => rfl
abbrev as_impl_Num_times : List AX := [.val true (.pair (.int .i64) (.pair (.int .i64) (.int .i64))), .val true (.pair (.int .i64) (.pair (.int .i64) (.int .i64)))]
abbrev en_impl_Num_times : (Int × (Int × Int)) → AV × List CV := fun b => (.one ⟨true, [(.v (.int .i64 b.1)), (.v (.int .i64 b.2.1)), (.v (.int .i64 b.2.2))]⟩, [])
noncomputable abbrev k_impl_Num_times : Contract := .fx as_impl_Num_times ((Int × (Int × Int))) (fun z => g_impl_Num_times z.1 z.2.1) en_impl_Num_times
theorem r_impl_Num_times (z : argsX as_impl_Num_times) : runF (tab C0 T_impl_Num_times) noHints 1 Tryd.f101 (lentOf as_impl_Num_times) (xBoxes as_impl_Num_times z) (xVals as_impl_Num_times 0 z) K2 = t_impl_Num_times (fun b => some (en_impl_Num_times b)) z.1 z.2.1 := by kernel_rfl
theorem so_impl_Num_times : Sound C0 101 k_impl_Num_times :=
  Sound.fx a_impl_Num_times mixed Tryd.func101 (by kernel_rfl) (by kernel_rfl) noHints 1 noHints_ok (fun z => (r_impl_Num_times z).trans (nat_impl_Num_times _ z.1 z.2.1))

/-! ### F107 (impl.Point).cross -/
noncomputable def T_impl_Point_cross : List (FuncId × Contract) := [(101, k_impl_Num_times), (86, k_impl_Num_minus)]
theorem a_impl_Point_cross : AllSound C0 T_impl_Point_cross := .cons so_impl_Num_times (.cons so_impl_Num_minus (.nil))
noncomputable def t_impl_Point_cross {R : Type} (kx : (Int × (Int × Int)) → Option R) (a0 : ((Int × (Int × Int)) × (Int × (Int × Int)))) (a1 : ((Int × (Int × Int)) × (Int × (Int × Int)))) : Option R :=
  Option.bind (g_impl_Num_times a0.1 a1.2) fun y239 =>
  Option.bind (g_impl_Num_times a0.2 a1.1) fun y240 =>
  Option.bind (g_impl_Num_minus y239 y240) fun y241 =>
  kx y241
noncomputable def g_impl_Point_cross (a0 : ((Int × (Int × Int)) × (Int × (Int × Int)))) (a1 : ((Int × (Int × Int)) × (Int × (Int × Int)))) : Option ((Int × (Int × Int))) := t_impl_Point_cross some a0 a1
theorem nat_impl_Point_cross {R : Type} (kx : (Int × (Int × Int)) → Option R) (a0 : ((Int × (Int × Int)) × (Int × (Int × Int)))) (a1 : ((Int × (Int × Int)) × (Int × (Int × Int)))) : t_impl_Point_cross kx a0 a1 = (g_impl_Point_cross a0 a1).bind kx := by
  unfold g_impl_Point_cross t_impl_Point_cross
  exact nat_bind fun _ => nat_bind fun _ => nat_bind fun _ => rfl
abbrev as_impl_Point_cross : List AX := [.val true (.pair (.pair (.int .i64) (.pair (.int .i64) (.int .i64))) (.pair (.int .i64) (.pair (.int .i64) (.int .i64)))), .val true (.pair (.pair (.int .i64) (.pair (.int .i64) (.int .i64))) (.pair (.int .i64) (.pair (.int .i64) (.int .i64))))]
abbrev en_impl_Point_cross : (Int × (Int × Int)) → AV × List CV := fun b => (.one ⟨true, [(.v (.int .i64 b.1)), (.v (.int .i64 b.2.1)), (.v (.int .i64 b.2.2))]⟩, [])
noncomputable abbrev k_impl_Point_cross : Contract := .fx as_impl_Point_cross ((Int × (Int × Int))) (fun z => g_impl_Point_cross z.1 z.2.1) en_impl_Point_cross
theorem r_impl_Point_cross (z : argsX as_impl_Point_cross) : runF (tab C0 T_impl_Point_cross) noHints 1 Tryd.f107 (lentOf as_impl_Point_cross) (xBoxes as_impl_Point_cross z) (xVals as_impl_Point_cross 0 z) K2 = t_impl_Point_cross (fun b => some (en_impl_Point_cross b)) z.1 z.2.1 := by kernel_rfl
theorem so_impl_Point_cross : Sound C0 107 k_impl_Point_cross :=
  Sound.fx a_impl_Point_cross mixed Tryd.func107 (by kernel_rfl) (by kernel_rfl) noHints 1 noHints_ok (fun z => (r_impl_Point_cross z).trans (nat_impl_Point_cross _ z.1 z.2.1))

/-! ### F85 (impl.Point).dot -/
noncomputable def T_impl_Point_dot : List (FuncId × Contract) := [(101, k_impl_Num_times), (91, k_impl_Num_plus)]
theorem a_impl_Point_dot : AllSound C0 T_impl_Point_dot := .cons so_impl_Num_times (.cons so_impl_Num_plus (.nil))
noncomputable def t_impl_Point_dot {R : Type} (kx : (Int × (Int × Int)) → Option R) (a0 : ((Int × (Int × Int)) × (Int × (Int × Int)))) (a1 : ((Int × (Int × Int)) × (Int × (Int × Int)))) : Option R :=
  Option.bind (g_impl_Num_times a0.1 a1.1) fun y245 =>
  Option.bind (g_impl_Num_times a0.2 a1.2) fun y246 =>
  Option.bind (g_impl_Num_plus y245 y246) fun y247 =>
  kx y247
noncomputable def g_impl_Point_dot (a0 : ((Int × (Int × Int)) × (Int × (Int × Int)))) (a1 : ((Int × (Int × Int)) × (Int × (Int × Int)))) : Option ((Int × (Int × Int))) := t_impl_Point_dot some a0 a1
theorem nat_impl_Point_dot {R : Type} (kx : (Int × (Int × Int)) → Option R) (a0 : ((Int × (Int × Int)) × (Int × (Int × Int)))) (a1 : ((Int × (Int × Int)) × (Int × (Int × Int)))) : t_impl_Point_dot kx a0 a1 = (g_impl_Point_dot a0 a1).bind kx := by
  unfold g_impl_Point_dot t_impl_Point_dot
  exact nat_bind fun _ => nat_bind fun _ => nat_bind fun _ => rfl
abbrev as_impl_Point_dot : List AX := [.val true (.pair (.pair (.int .i64) (.pair (.int .i64) (.int .i64))) (.pair (.int .i64) (.pair (.int .i64) (.int .i64)))), .val true (.pair (.pair (.int .i64) (.pair (.int .i64) (.int .i64))) (.pair (.int .i64) (.pair (.int .i64) (.int .i64))))]
abbrev en_impl_Point_dot : (Int × (Int × Int)) → AV × List CV := fun b => (.one ⟨true, [(.v (.int .i64 b.1)), (.v (.int .i64 b.2.1)), (.v (.int .i64 b.2.2))]⟩, [])
noncomputable abbrev k_impl_Point_dot : Contract := .fx as_impl_Point_dot ((Int × (Int × Int))) (fun z => g_impl_Point_dot z.1 z.2.1) en_impl_Point_dot
theorem r_impl_Point_dot (z : argsX as_impl_Point_dot) : runF (tab C0 T_impl_Point_dot) noHints 1 Tryd.f85 (lentOf as_impl_Point_dot) (xBoxes as_impl_Point_dot z) (xVals as_impl_Point_dot 0 z) K2 = t_impl_Point_dot (fun b => some (en_impl_Point_dot b)) z.1 z.2.1 := by kernel_rfl
theorem so_impl_Point_dot : Sound C0 85 k_impl_Point_dot :=
  Sound.fx a_impl_Point_dot mixed Tryd.func85 (by kernel_rfl) (by kernel_rfl) noHints 1 noHints_ok (fun z => (r_impl_Point_dot z).trans (nat_impl_Point_dot _ z.1 z.2.1))

/-! ### F123 impl.signOf -/
noncomputable def T_impl_signOf : List (FuncId × Contract) := []
theorem a_impl_signOf : AllSound C0 T_impl_signOf := .nil
noncomputable def t_impl_signOf {R : Type} (kx : Int → Option R) (a0 : Int) : Option R :=
  kx (if (Bool.true = Bool.true) then (if ((if (Bool.false = Bool.true) then (if (a0 > (1 : Int)) then a0 else (1 : Int)) else (if (a0 < (1 : Int)) then a0 else (1 : Int))) > (-(1 : Int))) then (if (Bool.false = Bool.true) then (if (a0 > (1 : Int)) then a0 else (1 : Int)) else (if (a0 < (1 : Int)) then a0 else (1 : Int))) else (-(1 : Int))) else (if ((if (Bool.false = Bool.true) then (if (a0 > (1 : Int)) then a0 else (1 : Int)) else (if (a0 < (1 : Int)) then a0 else (1 : Int))) < (-(1 : Int))) then (if (Bool.false = Bool.true) then (if (a0 > (1 : Int)) then a0 else (1 : Int)) else (if (a0 < (1 : Int)) then a0 else (1 : Int))) else (-(1 : Int))))
noncomputable def g_impl_signOf (a0 : Int) : Option (Int) := t_impl_signOf some a0
theorem nat_impl_signOf {R : Type} (kx : Int → Option R) (a0 : Int) : t_impl_signOf kx a0 = (g_impl_signOf a0).bind kx := by
  unfold g_impl_signOf t_impl_signOf
  exact rfl
abbrev as_impl_signOf : List AX := [.val false (.int .i64)]
abbrev en_impl_signOf : Int → AV × List CV := fun b => (.one ⟨false, [(.v (.int .i64 b))]⟩, [])
noncomputable abbrev k_impl_signOf : Contract := .fx as_impl_signOf (Int) (fun z => g_impl_signOf z.1) en_impl_signOf
theorem r_impl_signOf (z : argsX as_impl_signOf) : runF (tab C0 T_impl_signOf) noHints 1 Tryd.f123 (lentOf as_impl_signOf) (xBoxes as_impl_signOf z) (xVals as_impl_signOf 0 z) K2 = t_impl_signOf (fun b => some (en_impl_signOf b)) z.1 := by kernel_rfl
theorem so_impl_signOf : Sound C0 123 k_impl_signOf :=
  Sound.fx a_impl_signOf mixed Tryd.func123 (by kernel_rfl) (by kernel_rfl) noHints 1 noHints_ok (fun z => (r_impl_signOf z).trans (nat_impl_signOf _ z.1))

/-! ### F138 impl.abs -/
noncomputable def T_impl_abs : List (FuncId × Contract) := []
theorem a_impl_abs : AllSound C0 T_impl_abs := .nil
noncomputable def t_impl_abs {R : Type} (kx : Int → Option R) (a0 : Int) : Option R :=
  kx (if (Bool.true = Bool.true) then (if ((IntKind.wrap IntKind.i64 ((0 : Int) - a0)) > a0) then (IntKind.wrap IntKind.i64 ((0 : Int) - a0)) else a0) else (if ((IntKind.wrap IntKind.i64 ((0 : Int) - a0)) < a0) then (IntKind.wrap IntKind.i64 ((0 : Int) - a0)) else a0))
noncomputable def g_impl_abs (a0 : Int) : Option (Int) := t_impl_abs some a0
theorem nat_impl_abs {R : Type} (kx : Int → Option R) (a0 : Int) : t_impl_abs kx a0 = (g_impl_abs a0).bind kx := by
  unfold g_impl_abs t_impl_abs
  exact rfl
abbrev as_impl_abs : List AX := [.val false (.int .i64)]
abbrev en_impl_abs : Int → AV × List CV := fun b => (.one ⟨false, [(.v (.int .i64 b))]⟩, [])
noncomputable abbrev k_impl_abs : Contract := .fx as_impl_abs (Int) (fun z => g_impl_abs z.1) en_impl_abs
theorem r_impl_abs (z : argsX as_impl_abs) : runF (tab C0 T_impl_abs) noHints 1 Tryd.f138 (lentOf as_impl_abs) (xBoxes as_impl_abs z) (xVals as_impl_abs 0 z) K2 = t_impl_abs (fun b => some (en_impl_abs b)) z.1 := by kernel_rfl
theorem so_impl_abs : Sound C0 138 k_impl_abs :=
  Sound.fx a_impl_abs mixed Tryd.func138 (by kernel_rfl) (by kernel_rfl) noHints 1 noHints_ok (fun z => (r_impl_abs z).trans (nat_impl_abs _ z.1))

/-! ### F137 math/bits.Mul64 -/
noncomputable def T_math_bits_Mul64 : List (FuncId × Contract) := []
theorem a_math_bits_Mul64 : AllSound C0 T_math_bits_Mul64 := .nil
noncomputable def t_math_bits_Mul64 {R : Type} (kx : Int × Int → Option R) (a0 : Int) (a1 : Int) : Option R :=
  kx ((IntKind.wrap IntKind.u64 ((IntKind.wrap IntKind.u64 ((IntKind.wrap IntKind.u64 ((Int.fdiv a0 ((2 : Int) ^ (Min.min (Int.toNat (32 : Int)) 64))) * (Int.fdiv a1 ((2 : Int) ^ (Min.min (Int.toNat (32 : Int)) 64))))) + (Int.fdiv (IntKind.wrap IntKind.u64 ((IntKind.wrap IntKind.u64 ((Int.fdiv a0 ((2 : Int) ^ (Min.min (Int.toNat (32 : Int)) 64))) * (IntKind.wrap IntKind.u64 (((BitVec.toNat ((BitVec.ofInt 64 a1) &&& (BitVec.ofInt 64 (4294967295 : Int)))) : Nat) : Int)))) + (Int.fdiv (IntKind.wrap IntKind.u64 ((IntKind.wrap IntKind.u64 (((BitVec.toNat ((BitVec.ofInt 64 a0) &&& (BitVec.ofInt 64 (4294967295 : Int)))) : Nat) : Int)) * (IntKind.wrap IntKind.u64 (((BitVec.toNat ((BitVec.ofInt 64 a1) &&& (BitVec.ofInt 64 (4294967295 : Int)))) : Nat) : Int)))) ((2 : Int) ^ (Min.min (Int.toNat (32 : Int)) 64))))) ((2 : Int) ^ (Min.min (Int.toNat (32 : Int)) 64))))) + (Int.fdiv (IntKind.wrap IntKind.u64 ((IntKind.wrap IntKind.u64 (((BitVec.toNat ((BitVec.ofInt 64 (IntKind.wrap IntKind.u64 ((IntKind.wrap IntKind.u64 ((Int.fdiv a0 ((2 : Int) ^ (Min.min (Int.toNat (32 : Int)) 64))) * (IntKind.wrap IntKind.u64 (((BitVec.toNat ((BitVec.ofInt 64 a1) &&& (BitVec.ofInt 64 (4294967295 : Int)))) : Nat) : Int)))) + (Int.fdiv (IntKind.wrap IntKind.u64 ((IntKind.wrap IntKind.u64 (((BitVec.toNat ((BitVec.ofInt 64 a0) &&& (BitVec.ofInt 64 (4294967295 : Int)))) : Nat) : Int)) * (IntKind.wrap IntKind.u64 (((BitVec.toNat ((BitVec.ofInt 64 a1) &&& (BitVec.ofInt 64 (4294967295 : Int)))) : Nat) : Int)))) ((2 : Int) ^ (Min.min (Int.toNat (32 : Int)) 64)))))) &&& (BitVec.ofInt 64 (4294967295 : Int)))) : Nat) : Int)) + (IntKind.wrap IntKind.u64 ((IntKind.wrap IntKind.u64 (((BitVec.toNat ((BitVec.ofInt 64 a0) &&& (BitVec.ofInt 64 (4294967295 : Int)))) : Nat) : Int)) * (Int.fdiv a1 ((2 : Int) ^ (Min.min (Int.toNat (32 : Int)) 64))))))) ((2 : Int) ^ (Min.min (Int.toNat (32 : Int)) 64))))), (IntKind.wrap IntKind.u64 (a0 * a1)))
noncomputable def g_math_bits_Mul64 (a0 : Int) (a1 : Int) : Option (Int × Int) := t_math_bits_Mul64 some a0 a1
theorem nat_math_bits_Mul64 {R : Type} (kx : Int × Int → Option R) (a0 : Int) (a1 : Int) : t_math_bits_Mul64 kx a0 a1 = (g_math_bits_Mul64 a0 a1).bind kx := by
  unfold g_math_bits_Mul64 t_math_bits_Mul64
  exact rfl
abbrev as_math_bits_Mul64 : List AX := [.val false (.int .u64), .val false (.int .u64)]
abbrev en_math_bits_Mul64 : Int × Int → AV × List CV := fun b => (.tup [⟨false, [(.v (.int .u64 b.1))]⟩, ⟨false, [(.v (.int .u64 b.2))]⟩], [])
noncomputable abbrev k_math_bits_Mul64 : Contract := .fx as_math_bits_Mul64 (Int × Int) (fun z => g_math_bits_Mul64 z.1 z.2.1) en_math_bits_Mul64
theorem r_math_bits_Mul64 (z : argsX as_math_bits_Mul64) : runF (tab C0 T_math_bits_Mul64) noHints 1 Tryd.f137 (lentOf as_math_bits_Mul64) (xBoxes as_math_bits_Mul64 z) (xVals as_math_bits_Mul64 0 z) K2 = t_math_bits_Mul64 (fun b => some (en_math_bits_Mul64 b)) z.1 z.2.1 := by kernel_rfl
theorem so_math_bits_Mul64 : Sound C0 137 k_math_bits_Mul64 :=
  Sound.fx a_math_bits_Mul64 mixed Tryd.func137 (by kernel_rfl) (by kernel_rfl) noHints 1 noHints_ok (fun z => (r_math_bits_Mul64 z).trans (nat_math_bits_Mul64 _ z.1 z.2.1))

/-! ### F124 impl.isGreater -/
noncomputable def T_impl_isGreater : List (FuncId × Contract) := [(138, k_impl_abs), (137, k_math_bits_Mul64)]
theorem a_impl_isGreater : AllSound C0 T_impl_isGreater := .cons so_impl_abs (.cons so_math_bits_Mul64 (.nil))
noncomputable def t_impl_isGreater {R : Type} (kx : Bool → Option R) (a0 : Int) (a1 : Int) : Option R :=
  Option.bind (g_impl_abs a0) fun y256 =>
  Option.bind (g_impl_abs a0) fun y257 =>
  Option.bind (g_math_bits_Mul64 (IntKind.wrap IntKind.u64 y256) (IntKind.wrap IntKind.u64 y257)) fun y260 =>
  Option.bind (g_impl_abs a1) fun y261 =>
  Option.bind (g_impl_abs a1) fun y262 =>
  Option.bind (g_math_bits_Mul64 (IntKind.wrap IntKind.u64 y261) (IntKind.wrap IntKind.u64 y262)) fun y263 =>
  cond (decide (y260.1 > (IntKind.wrap IntKind.u64 (((BitVec.toNat ((BitVec.ofInt 64 (IntKind.wrap IntKind.u64 (y263.1 * ((2 : Int) ^ (Min.min (Int.toNat (1 : Int)) 64))))) ||| (BitVec.ofInt 64 (Int.fdiv y263.2 ((2 : Int) ^ (Min.min (Int.toNat (63 : Int)) 64)))))) : Nat) : Int))))
  (kx Bool.true)
  (cond (y260.1 == (IntKind.wrap IntKind.u64 (((BitVec.toNat ((BitVec.ofInt 64 (IntKind.wrap IntKind.u64 (y263.1 * ((2 : Int) ^ (Min.min (Int.toNat (1 : Int)) 64))))) ||| (BitVec.ofInt 64 (Int.fdiv y263.2 ((2 : Int) ^ (Min.min (Int.toNat (63 : Int)) 64)))))) : Nat) : Int)))
   (kx (decide (y260.2 > (IntKind.wrap IntKind.u64 (y263.2 * ((2 : Int) ^ (Min.min (Int.toNat (1 : Int)) 64)))))))
   (kx Bool.false))
noncomputable def g_impl_isGreater (a0 : Int) (a1 : Int) : Option (Bool) := t_impl_isGreater some a0 a1
theorem nat_impl_isGreater {R : Type} (kx : Bool → Option R) (a0 : Int) (a1 : Int) : t_impl_isGreater kx a0 a1 = (g_impl_isGreater a0 a1).bind kx := by
  unfold g_impl_isGreater t_impl_isGreater
  exact nat_bind fun _ => nat_bind fun _ => nat_bind fun _ => nat_bind fun _ => nat_bind fun _ => nat_bind fun _ => nat_cond (rfl) (nat_cond (rfl) (rfl))
abbrev as_impl_isGreater : List AX := [.val false (.int .i64), .val false (.int .i64)]
abbrev en_impl_isGreater : Bool → AV × List CV := fun b => (.one ⟨false, [(.v (.bool b))]⟩, [])
noncomputable abbrev k_impl_isGreater : Contract := .fx as_impl_isGreater (Bool) (fun z => g_impl_isGreater z.1 z.2.1) en_impl_isGreater
theorem r_impl_isGreater (z : argsX as_impl_isGreater) : runF (tab C0 T_impl_isGreater) noHints 1 Tryd.f124 (lentOf as_impl_isGreater) (xBoxes as_impl_isGreater z) (xVals as_impl_isGreater 0 z) K2 = t_impl_isGreater (fun b => some (en_impl_isGreater b)) z.1 z.2.1 := by kernel_rfl
theorem so_impl_isGreater : Sound C0 124 k_impl_isGreater :=
  Sound.fx a_impl_isGreater mixed Tryd.func124 (by kernel_rfl) (by kernel_rfl) noHints 1 noHints_ok (fun z => (r_impl_isGreater z).trans (nat_impl_isGreater _ z.1 z.2.1))

/-! ### F87 (impl.Num).sign -/
noncomputable def T_impl_Num_sign : List (FuncId × Contract) := [(123, k_impl_signOf), (124, k_impl_isGreater)]
theorem a_impl_Num_sign : AllSound C0 T_impl_Num_sign := .cons so_impl_signOf (.cons so_impl_isGreater (.nil))
noncomputable def t_impl_Num_sign {R : Type} (kx : Int → Option R) (a0 : (Int × (Int × Int))) : Option R :=
  Option.bind (g_impl_signOf a0.1) fun y251 =>
  Option.bind (g_impl_signOf a0.2.1) fun y252 =>
  cond (y251 == y252)
  (kx y251)
  (cond (y252 == (0 : Int))
   (kx y251)
   (cond (y251 == (0 : Int))
    (kx y252)
    (Option.bind (g_impl_isGreater a0.1 a0.2.1) fun y264 =>
     cond (!y264)
     (kx y252)
     (kx y251))))
noncomputable def g_impl_Num_sign (a0 : (Int × (Int × Int))) : Option (Int) := t_impl_Num_sign some a0
theorem nat_impl_Num_sign {R : Type} (kx : Int → Option R) (a0 : (Int × (Int × Int))) : t_impl_Num_sign kx a0 = (g_impl_Num_sign a0).bind kx := by
  unfold g_impl_Num_sign t_impl_Num_sign
  exact nat_bind fun _ => nat_bind fun _ => nat_cond (rfl) (nat_cond (rfl) (nat_cond (rfl) (nat_bind fun _ => nat_cond (rfl) (rfl))))
abbrev as_impl_Num_sign : List AX := [.val true (.pair (.int .i64) (.pair (.int .i64) (.int .i64)))]
abbrev en_impl_Num_sign : Int → AV × List CV := fun b => (.one ⟨false, [(.v (.int .i64 b))]⟩, [])
noncomputable abbrev k_impl_Num_sign : Contract := .fx as_impl_Num_sign (Int) (fun z => g_impl_Num_sign z.1) en_impl_Num_sign
theorem r_impl_Num_sign (z : argsX as_impl_Num_sign) : runF (tab C0 T_impl_Num_sign) noHints 1 Tryd.f87 (lentOf as_impl_Num_sign) (xBoxes as_impl_Num_sign z) (xVals as_impl_Num_sign 0 z) K2 = t_impl_Num_sign (fun b => some (en_impl_Num_sign b)) z.1 := by kernel_rfl
theorem so_impl_Num_sign : Sound C0 87 k_impl_Num_sign :=
  Sound.fx a_impl_Num_sign mixed Tryd.func87 (by kernel_rfl) (by kernel_rfl) noHints 1 noHints_ok (fun z => (r_impl_Num_sign z).trans (nat_impl_Num_sign _ z.1))

/-! ### F57 impl.direction -/
noncomputable def T_impl_direction : List (FuncId × Contract) := [(106, k_impl_Point_minus), (100, k_impl_vector), (107, k_impl_Point_cross), (85, k_impl_Point_dot), (87, k_impl_Num_sign)]
theorem a_impl_direction : AllSound C0 T_impl_direction := .cons so_impl_Point_minus (.cons so_impl_vector (.cons so_impl_Point_cross (.cons so_impl_Point_dot (.cons so_impl_Num_sign (.nil)))))
abbrev s_impl_direction_4 : LS := ⟨[(false, [(.ptr 5 0)]), (false, [(.int .i64)])], [(false, [(.int .i64), (.int .i64), (.int .i64), (.int .i64), (.int .i64), (.int .i64)])], []⟩
abbrev e_impl_direction_4_0 : LS := ⟨[(false, [(.int .i64)])], [], []⟩
abbrev d_impl_direction_4_0 (v0 : Int) : e_impl_direction_4_0.T := (((v0, ()), ()), (), ())
abbrev e_impl_direction_4_1 : LS := ⟨[(false, [.undef])], [], []⟩
abbrev d_impl_direction_4_1 : e_impl_direction_4_1.T := ((((), ()), ()), (), ())
abbrev x_impl_direction_4 : List (Ex × LS) := [(.ret, e_impl_direction_4_0), (.exit 0, e_impl_direction_4_1)]
abbrev m_impl_direction_4 (x11 : Int) (b0_0 : Int) (b0_1 : Int) (b0_2 : Int) (b0_3 : Int) (b0_4 : Int) (b0_5 : Int) : s_impl_direction_4.T := ((((), ()), (x11, ()), ()), ((b0_0, b0_1, b0_2, b0_3, b0_4, b0_5, ()), ()), ())
noncomputable def u_impl_direction_4 {R : Type} (nx : s_impl_direction_4.T → Option R) (hx : exH R x_impl_direction_4) (x11 : Int) (b0_0 : Int) (b0_1 : Int) (b0_2 : Int) (b0_3 : Int) (b0_4 : Int) (b0_5 : Int) : Option R :=
  cond (decide (x11 < (16 : Int)))
  (Option.bind (g_impl_vector x11) fun y233 =>
   Option.bind (g_impl_Point_cross y233 ((b0_0, (b0_1, b0_2)), (b0_3, (b0_4, b0_5)))) fun y242 =>
   cond ((y242.1 == (0 : Int)) && ((y242.2.1 == (0 : Int)) && ((y242.2.2 == (0 : Int)) && Bool.true)))
   (Option.bind (g_impl_Point_dot y233 ((b0_0, (b0_1, b0_2)), (b0_3, (b0_4, b0_5)))) fun y248 =>
    Option.bind (g_impl_Num_sign y248) fun y265 =>
    cond (decide (y265 > (0 : Int)))
    (hx.1 (d_impl_direction_4_0 x11))
    (nx (m_impl_direction_4 (IntKind.wrap IntKind.i64 (x11 + (1 : Int))) b0_0 b0_1 b0_2 b0_3 b0_4 b0_5)))
   (nx (m_impl_direction_4 (IntKind.wrap IntKind.i64 (x11 + (1 : Int))) b0_0 b0_1 b0_2 b0_3 b0_4 b0_5)))
  (hx.2.1 (d_impl_direction_4_1))
noncomputable def t_impl_direction_4 {R : Type} (nx : s_impl_direction_4.T → Option R) (hx : exH R x_impl_direction_4) (z : s_impl_direction_4.T) : Option R := u_impl_direction_4 nx hx z.1.2.1.1 z.2.1.1.1 z.2.1.1.2.1 z.2.1.1.2.2.1 z.2.1.1.2.2.2.1 z.2.1.1.2.2.2.2.1 z.2.1.1.2.2.2.2.2.1
theorem nat_impl_direction_4 : Natural @t_impl_direction_4 := fun R nx hx z => by
  show u_impl_direction_4 nx hx z.1.2.1.1 z.2.1.1.1 z.2.1.1.2.1 z.2.1.1.2.2.1 z.2.1.1.2.2.2.1 z.2.1.1.2.2.2.2.1 z.2.1.1.2.2.2.2.2.1 = (u_impl_direction_4 (fun y => some (.inl y)) (hIn x_impl_direction_4 fun x => some (.inr x)) z.1.2.1.1 z.2.1.1.1 z.2.1.1.2.1 z.2.1.1.2.2.1 z.2.1.1.2.2.2.1 z.2.1.1.2.2.2.2.1 z.2.1.1.2.2.2.2.2.1).bind (goOn nx hx)
  unfold u_impl_direction_4
  exact nat_cond (nat_bind fun _ => nat_bind fun _ => nat_cond (nat_bind fun _ => nat_bind fun _ => nat_cond (rfl) (rfl)) (rfl)) (rfl)
noncomputable def w_impl_direction_4 : s_impl_direction_4.T → Option (exT x_impl_direction_4) := wOf @t_impl_direction_4
theorem wq_impl_direction_4 (x11 : Int) (b0_0 : Int) (b0_1 : Int) (b0_2 : Int) (b0_3 : Int) (b0_4 : Int) (b0_5 : Int) : w_impl_direction_4 (m_impl_direction_4 x11 b0_0 b0_1 b0_2 b0_3 b0_4 b0_5) = u_impl_direction_4 w_impl_direction_4 (hIn x_impl_direction_4 some) x11 b0_0 b0_1 b0_2 b0_3 b0_4 b0_5 := wOf_eq nat_impl_direction_4 _
def lh_impl_direction_4 : LoopHint := ⟨[5, 11], [5], [4], []⟩
noncomputable def h_impl_direction : Hints Rv := ⟨fun k => match k with | 4 => lh_impl_direction_4 | _ => ⟨[], [], [], []⟩, fun k => match k with | 4 => some (loopX s_impl_direction_4 x_impl_direction_4 w_impl_direction_4) | _ => none⟩
theorem st_impl_direction_4 (n : Nat) (z : s_impl_direction_4.T) (k : Ex → Live → Option Rv) : loopN ⟨30, 30⟩ lh_impl_direction_4 (den (tab C0 T_impl_direction) ⟨30, 30⟩ h_impl_direction 1 (loopOf Tryd.f57 3)) (n + 1) (s_impl_direction_4.enc z) k =
    t_impl_direction_4 (fun y => loopN ⟨30, 30⟩ lh_impl_direction_4 (den (tab C0 T_impl_direction) ⟨30, 30⟩ h_impl_direction 1 (loopOf Tryd.f57 3)) n (s_impl_direction_4.enc y) k) (hK k x_impl_direction_4) z := by kernel_rfl
theorem hs_impl_direction : HintsOk (tab C0 T_impl_direction) ⟨30, 30⟩ h_impl_direction 1 (loops (codeOf Tryd.f57)) := by
  have hl : loops (codeOf Tryd.f57) = [loopOf Tryd.f57 3] := by kernel_rfl
  rw [hl]
  exact HintsOk.cons (n := 4) (lh := lh_impl_direction_4) (S := loopX s_impl_direction_4 x_impl_direction_4 w_impl_direction_4) (by kernel_rfl) rfl rfl (loopX_ok nat_impl_direction_4 st_impl_direction_4)
    (HintsOk.nil)
noncomputable def t_impl_direction {R : Type} (kx : Int → Option R) (a0 : ((Int × (Int × Int)) × (Int × (Int × Int)))) (a1 : ((Int × (Int × Int)) × (Int × (Int × Int)))) : Option R :=
  Option.bind (g_impl_Point_minus a1 a0) fun y208 =>
  Option.bind (w_impl_direction_4 (m_impl_direction_4 (0 : Int) y208.1.1 y208.1.2.1 y208.1.2.2 y208.2.1 y208.2.2.1 y208.2.2.2)) (exC x_impl_direction_4
  (fun e266 =>
   kx (e266.1.1.1 : Int), fun _ =>
   kx (-(1 : Int)), ()))
noncomputable def g_impl_direction (a0 : ((Int × (Int × Int)) × (Int × (Int × Int)))) (a1 : ((Int × (Int × Int)) × (Int × (Int × Int)))) : Option (Int) := t_impl_direction some a0 a1
theorem nat_impl_direction {R : Type} (kx : Int → Option R) (a0 : ((Int × (Int × Int)) × (Int × (Int × Int)))) (a1 : ((Int × (Int × Int)) × (Int × (Int × Int)))) : t_impl_direction kx a0 a1 = (g_impl_direction a0 a1).bind kx := by
  unfold g_impl_direction t_impl_direction
  exact nat_bind fun _ => nat_exC ⟨fun _ => rfl, fun _ => rfl, trivial⟩
abbrev as_impl_direction : List AX := [.val true (.pair (.pair (.int .i64) (.pair (.int .i64) (.int .i64))) (.pair (.int .i64) (.pair (.int .i64) (.int .i64)))), .val true (.pair (.pair (.int .i64) (.pair (.int .i64) (.int .i64))) (.pair (.int .i64) (.pair (.int .i64) (.int .i64))))]
abbrev en_impl_direction : Int → AV × List CV := fun b => (.one ⟨false, [(.v (.int .i64 b))]⟩, [])
noncomputable abbrev k_impl_direction : Contract := .fx as_impl_direction (Int) (fun z => g_impl_direction z.1 z.2.1) en_impl_direction
theorem r_impl_direction (z : argsX as_impl_direction) : runF (tab C0 T_impl_direction) h_impl_direction 1 Tryd.f57 (lentOf as_impl_direction) (xBoxes as_impl_direction z) (xVals as_impl_direction 0 z) K2 = t_impl_direction (fun b => some (en_impl_direction b)) z.1 z.2.1 := by kernel_rfl
theorem so_impl_direction : Sound C0 57 k_impl_direction :=
  Sound.fx a_impl_direction mixed Tryd.func57 (by kernel_rfl) (by kernel_rfl) h_impl_direction 1 hs_impl_direction (fun z => (r_impl_direction z).trans (nat_impl_direction _ z.1 z.2.1))

/-! ### F89 (impl.Point).plus -/
noncomputable def T_impl_Point_plus : List (FuncId × Contract) := [(91, k_impl_Num_plus)]
theorem a_impl_Point_plus : AllSound C0 T_impl_Point_plus := .cons so_impl_Num_plus (.nil)
noncomputable def t_impl_Point_plus {R : Type} (kx : ((Int × (Int × Int)) × (Int × (Int × Int))) → Option R) (a0 : ((Int × (Int × Int)) × (Int × (Int × Int)))) (a1 : ((Int × (Int × Int)) × (Int × (Int × Int)))) : Option R :=
  Option.bind (g_impl_Num_plus a0.1 a1.1) fun y274 =>
  Option.bind (g_impl_Num_plus a0.2 a1.2) fun y275 =>
  kx (y274, y275)
noncomputable def g_impl_Point_plus (a0 : ((Int × (Int × Int)) × (Int × (Int × Int)))) (a1 : ((Int × (Int × Int)) × (Int × (Int × Int)))) : Option (((Int × (Int × Int)) × (Int × (Int × Int)))) := t_impl_Point_plus some a0 a1
theorem nat_impl_Point_plus {R : Type} (kx : ((Int × (Int × Int)) × (Int × (Int × Int))) → Option R) (a0 : ((Int × (Int × Int)) × (Int × (Int × Int)))) (a1 : ((Int × (Int × Int)) × (Int × (Int × Int)))) : t_impl_Point_plus kx a0 a1 = (g_impl_Point_plus a0 a1).bind kx := by
  unfold g_impl_Point_plus t_impl_Point_plus
  exact nat_bind fun _ => nat_bind fun _ => rfl
abbrev as_impl_Point_plus : List AX := [.val true (.pair (.pair (.int .i64) (.pair (.int .i64) (.int .i64))) (.pair (.int .i64) (.pair (.int .i64) (.int .i64)))), .val true (.pair (.pair (.int .i64) (.pair (.int .i64) (.int .i64))) (.pair (.int .i64) (.pair (.int .i64) (.int .i64))))]
abbrev en_impl_Point_plus : ((Int × (Int × Int)) × (Int × (Int × Int))) → AV × List CV := fun b => (.one ⟨true, [(.v (.int .i64 b.1.1)), (.v (.int .i64 b.1.2.1)), (.v (.int .i64 b.1.2.2)), (.v (.int .i64 b.2.1)), (.v (.int .i64 b.2.2.1)), (.v (.int .i64 b.2.2.2))]⟩, [])
noncomputable abbrev k_impl_Point_plus : Contract := .fx as_impl_Point_plus (((Int × (Int × Int)) × (Int × (Int × Int)))) (fun z => g_impl_Point_plus z.1 z.2.1) en_impl_Point_plus
theorem r_impl_Point_plus (z : argsX as_impl_Point_plus) : runF (tab C0 T_impl_Point_plus) noHints 1 Tryd.f89 (lentOf as_impl_Point_plus) (xBoxes as_impl_Point_plus z) (xVals as_impl_Point_plus 0 z) K2 = t_impl_Point_plus (fun b => some (en_impl_Point_plus b)) z.1 z.2.1 := by kernel_rfl
theorem so_impl_Point_plus : Sound C0 89 k_impl_Point_plus :=
  Sound.fx a_impl_Point_plus mixed Tryd.func89 (by kernel_rfl) (by kernel_rfl) noHints 1 noHints_ok (fun z => (r_impl_Point_plus z).trans (nat_impl_Point_plus _ z.1 z.2.1))

/-! ### F108 (impl.Num).half -/
noncomputable def T_impl_Num_half : List (FuncId × Contract) := [(125, k_impl_Num_reduced)]
theorem a_impl_Num_half : AllSound C0 T_impl_Num_half := .cons so_impl_Num_reduced (.nil)
noncomputable def t_impl_Num_half {R : Type} (kx : (Int × (Int × Int)) → Option R) (a0 : (Int × (Int × Int))) : Option R :=
  Option.bind (g_impl_Num_reduced (a0.1, (a0.2.1, (IntKind.wrap IntKind.i64 (a0.2.2 + (1 : Int)))))) fun y278 =>
  kx y278
noncomputable def g_impl_Num_half (a0 : (Int × (Int × Int))) : Option ((Int × (Int × Int))) := t_impl_Num_half some a0
theorem nat_impl_Num_half {R : Type} (kx : (Int × (Int × Int)) → Option R) (a0 : (Int × (Int × Int))) : t_impl_Num_half kx a0 = (g_impl_Num_half a0).bind kx := by
  unfold g_impl_Num_half t_impl_Num_half
  exact nat_bind fun _ => rfl
abbrev as_impl_Num_half : List AX := [.val true (.pair (.int .i64) (.pair (.int .i64) (.int .i64)))]
abbrev en_impl_Num_half : (Int × (Int × Int)) → AV × List CV := fun b => (.one ⟨true, [(.v (.int .i64 b.1)), (.v (.int .i64 b.2.1)), (.v (.int .i64 b.2.2))]⟩, [])
noncomputable abbrev k_impl_Num_half : Contract := .fx as_impl_Num_half ((Int × (Int × Int))) (fun z => g_impl_Num_half z.1) en_impl_Num_half
theorem r_impl_Num_half (z : argsX as_impl_Num_half) : runF (tab C0 T_impl_Num_half) noHints 1 Tryd.f108 (lentOf as_impl_Num_half) (xBoxes as_impl_Num_half z) (xVals as_impl_Num_half 0 z) K2 = t_impl_Num_half (fun b => some (en_impl_Num_half b)) z.1 := by kernel_rfl
theorem so_impl_Num_half : Sound C0 108 k_impl_Num_half :=
  Sound.fx a_impl_Num_half mixed Tryd.func108 (by kernel_rfl) (by kernel_rfl) noHints 1 noHints_ok (fun z => (r_impl_Num_half z).trans (nat_impl_Num_half _ z.1))

/-! ### F59 impl.middle -/
noncomputable def T_impl_middle : List (FuncId × Contract) := [(89, k_impl_Point_plus), (108, k_impl_Num_half)]
theorem a_impl_middle : AllSound C0 T_impl_middle := .cons so_impl_Point_plus (.cons so_impl_Num_half (.nil))
noncomputable def t_impl_middle {R : Type} (kx : ((Int × (Int × Int)) × (Int × (Int × Int))) → Option R) (a0 : ((Int × (Int × Int)) × (Int × (Int × Int)))) (a1 : ((Int × (Int × Int)) × (Int × (Int × Int)))) : Option R :=
  Option.bind (g_impl_Point_plus a0 a1) fun y276 =>
  Option.bind (g_impl_Num_half y276.1) fun y279 =>
  Option.bind (g_impl_Num_half y276.2) fun y280 =>
  kx (y279, y280)
noncomputable def g_impl_middle (a0 : ((Int × (Int × Int)) × (Int × (Int × Int)))) (a1 : ((Int × (Int × Int)) × (Int × (Int × Int)))) : Option (((Int × (Int × Int)) × (Int × (Int × Int)))) := t_impl_middle some a0 a1
theorem nat_impl_middle {R : Type} (kx : ((Int × (Int × Int)) × (Int × (Int × Int))) → Option R) (a0 : ((Int × (Int × Int)) × (Int × (Int × Int)))) (a1 : ((Int × (Int × Int)) × (Int × (Int × Int)))) : t_impl_middle kx a0 a1 = (g_impl_middle a0 a1).bind kx := by
  unfold g_impl_middle t_impl_middle
  exact nat_bind fun _ => nat_bind fun _ => nat_bind fun _ => rfl
abbrev as_impl_middle : List AX := [.val true (.pair (.pair (.int .i64) (.pair (.int .i64) (.int .i64))) (.pair (.int .i64) (.pair (.int .i64) (.int .i64)))), .val true (.pair (.pair (.int .i64) (.pair (.int .i64) (.int .i64))) (.pair (.int .i64) (.pair (.int .i64) (.int .i64))))]
abbrev en_impl_middle : ((Int × (Int × Int)) × (Int × (Int × Int))) → AV × List CV := fun b => (.one ⟨true, [(.v (.int .i64 b.1.1)), (.v (.int .i64 b.1.2.1)), (.v (.int .i64 b.1.2.2)), (.v (.int .i64 b.2.1)), (.v (.int .i64 b.2.2.1)), (.v (.int .i64 b.2.2.2))]⟩, [])
noncomputable abbrev k_impl_middle : Contract := .fx as_impl_middle (((Int × (Int × Int)) × (Int × (Int × Int)))) (fun z => g_impl_middle z.1 z.2.1) en_impl_middle
theorem r_impl_middle (z : argsX as_impl_middle) : runF (tab C0 T_impl_middle) noHints 1 Tryd.f59 (lentOf as_impl_middle) (xBoxes as_impl_middle z) (xVals as_impl_middle 0 z) K2 = t_impl_middle (fun b => some (en_impl_middle b)) z.1 z.2.1 := by kernel_rfl
theorem so_impl_middle : Sound C0 59 k_impl_middle :=
  Sound.fx a_impl_middle mixed Tryd.func59 (by kernel_rfl) (by kernel_rfl) noHints 1 noHints_ok (fun z => (r_impl_middle z).trans (nat_impl_middle _ z.1 z.2.1))

/-! ### F84 (impl.Line).normal -/
noncomputable def T_impl_Line_normal : List (FuncId × Contract) := [(100, k_impl_vector)]
theorem a_impl_Line_normal : AllSound C0 T_impl_Line_normal := .cons so_impl_vector (.nil)
noncomputable def t_impl_Line_normal {R : Type} (kx : ((Int × (Int × Int)) × (Int × (Int × Int))) → Option R) (a0 : (Int × (Int × (Int × Int)))) : Option R :=
  Option.bind (g_impl_vector (IntKind.wrap IntKind.i64 (a0.1 + (4 : Int)))) fun y285 =>
  kx y285
noncomputable def g_impl_Line_normal (a0 : (Int × (Int × (Int × Int)))) : Option (((Int × (Int × Int)) × (Int × (Int × Int)))) := t_impl_Line_normal some a0
theorem nat_impl_Line_normal {R : Type} (kx : ((Int × (Int × Int)) × (Int × (Int × Int))) → Option R) (a0 : (Int × (Int × (Int × Int)))) : t_impl_Line_normal kx a0 = (g_impl_Line_normal a0).bind kx := by
  unfold g_impl_Line_normal t_impl_Line_normal
  exact nat_bind fun _ => rfl
abbrev as_impl_Line_normal : List AX := [.val true (.pair (.int .i64) (.pair (.int .i64) (.pair (.int .i64) (.int .i64))))]
abbrev en_impl_Line_normal : ((Int × (Int × Int)) × (Int × (Int × Int))) → AV × List CV := fun b => (.one ⟨true, [(.v (.int .i64 b.1.1)), (.v (.int .i64 b.1.2.1)), (.v (.int .i64 b.1.2.2)), (.v (.int .i64 b.2.1)), (.v (.int .i64 b.2.2.1)), (.v (.int .i64 b.2.2.2))]⟩, [])
noncomputable abbrev k_impl_Line_normal : Contract := .fx as_impl_Line_normal (((Int × (Int × Int)) × (Int × (Int × Int)))) (fun z => g_impl_Line_normal z.1) en_impl_Line_normal
theorem r_impl_Line_normal (z : argsX as_impl_Line_normal) : runF (tab C0 T_impl_Line_normal) noHints 1 Tryd.f84 (lentOf as_impl_Line_normal) (xBoxes as_impl_Line_normal z) (xVals as_impl_Line_normal 0 z) K2 = t_impl_Line_normal (fun b => some (en_impl_Line_normal b)) z.1 := by kernel_rfl
theorem so_impl_Line_normal : Sound C0 84 k_impl_Line_normal :=
  Sound.fx a_impl_Line_normal mixed Tryd.func84 (by kernel_rfl) (by kernel_rfl) noHints 1 noHints_ok (fun z => (r_impl_Line_normal z).trans (nat_impl_Line_normal _ z.1))

/-! ### F58 impl.lineAt -/
noncomputable def T_impl_lineAt : List (FuncId × Contract) := [(84, k_impl_Line_normal), (85, k_impl_Point_dot)]
theorem a_impl_lineAt : AllSound C0 T_impl_lineAt := .cons so_impl_Line_normal (.cons so_impl_Point_dot (.nil))
noncomputable def t_impl_lineAt {R : Type} (kx : (Int × (Int × (Int × Int))) → Option R) (a0 : ((Int × (Int × Int)) × (Int × (Int × Int)))) (a1 : Int) : Option R :=
  Option.bind (g_impl_Line_normal (a1, ((0 : Int), ((0 : Int), (0 : Int))))) fun y286 =>
  Option.bind (g_impl_Point_dot y286 a0) fun y287 =>
  kx (a1, y287)
noncomputable def g_impl_lineAt (a0 : ((Int × (Int × Int)) × (Int × (Int × Int)))) (a1 : Int) : Option ((Int × (Int × (Int × Int)))) := t_impl_lineAt some a0 a1
theorem nat_impl_lineAt {R : Type} (kx : (Int × (Int × (Int × Int))) → Option R) (a0 : ((Int × (Int × Int)) × (Int × (Int × Int)))) (a1 : Int) : t_impl_lineAt kx a0 a1 = (g_impl_lineAt a0 a1).bind kx := by
  unfold g_impl_lineAt t_impl_lineAt
  exact nat_bind fun _ => nat_bind fun _ => rfl
abbrev as_impl_lineAt : List AX := [.val true (.pair (.pair (.int .i64) (.pair (.int .i64) (.int .i64))) (.pair (.int .i64) (.pair (.int .i64) (.int .i64)))), .val false (.int .i64)]
abbrev en_impl_lineAt : (Int × (Int × (Int × Int))) → AV × List CV := fun b => (.one ⟨true, [(.v (.int .i64 b.1)), (.v (.int .i64 b.2.1)), (.v (.int .i64 b.2.2.1)), (.v (.int .i64 b.2.2.2))]⟩, [])
noncomputable abbrev k_impl_lineAt : Contract := .fx as_impl_lineAt ((Int × (Int × (Int × Int)))) (fun z => g_impl_lineAt z.1 z.2.1) en_impl_lineAt
theorem r_impl_lineAt (z : argsX as_impl_lineAt) : runF (tab C0 T_impl_lineAt) noHints 1 Tryd.f58 (lentOf as_impl_lineAt) (xBoxes as_impl_lineAt z) (xVals as_impl_lineAt 0 z) K2 = t_impl_lineAt (fun b => some (en_impl_lineAt b)) z.1 z.2.1 := by kernel_rfl
theorem so_impl_lineAt : Sound C0 58 k_impl_lineAt :=
  Sound.fx a_impl_lineAt mixed Tryd.func58 (by kernel_rfl) (by kernel_rfl) noHints 1 noHints_ok (fun z => (r_impl_lineAt z).trans (nat_impl_lineAt _ z.1 z.2.1))

/-! ### F41 impl.ValidLine -/
noncomputable def T_impl_ValidLine : List (FuncId × Contract) := [(82, k_impl_within), (83, k_impl_ValidNum)]
theorem a_impl_ValidLine : AllSound C0 T_impl_ValidLine := .cons so_impl_within (.cons so_impl_ValidNum (.nil))
noncomputable def t_impl_ValidLine {R : Type} (kx : Bool → Option R) (a0 : (Int × (Int × (Int × Int)))) : Option R :=
  Option.bind (g_impl_within a0.1 (0 : Int) (7 : Int)) fun y292 =>
  cond y292
  (Option.bind (g_impl_ValidNum a0.2) fun y293 =>
   kx y293)
  (kx Bool.false)
noncomputable def g_impl_ValidLine (a0 : (Int × (Int × (Int × Int)))) : Option (Bool) := t_impl_ValidLine some a0
theorem nat_impl_ValidLine {R : Type} (kx : Bool → Option R) (a0 : (Int × (Int × (Int × Int)))) : t_impl_ValidLine kx a0 = (g_impl_ValidLine a0).bind kx := by
  unfold g_impl_ValidLine t_impl_ValidLine
  exact nat_bind fun _ => nat_cond (nat_bind fun _ => rfl) (rfl)
abbrev as_impl_ValidLine : List AX := [.val true (.pair (.int .i64) (.pair (.int .i64) (.pair (.int .i64) (.int .i64))))]
abbrev en_impl_ValidLine : Bool → AV × List CV := fun b => (.one ⟨false, [(.v (.bool b))]⟩, [])
noncomputable abbrev k_impl_ValidLine : Contract := .fx as_impl_ValidLine (Bool) (fun z => g_impl_ValidLine z.1) en_impl_ValidLine
theorem r_impl_ValidLine (z : argsX as_impl_ValidLine) : runF (tab C0 T_impl_ValidLine) noHints 1 Tryd.f41 (lentOf as_impl_ValidLine) (xBoxes as_impl_ValidLine z) (xVals as_impl_ValidLine 0 z) K2 = t_impl_ValidLine (fun b => some (en_impl_ValidLine b)) z.1 := by kernel_rfl
theorem so_impl_ValidLine : Sound C0 41 k_impl_ValidLine :=
  Sound.fx a_impl_ValidLine mixed Tryd.func41 (by kernel_rfl) (by kernel_rfl) noHints 1 noHints_ok (fun z => (r_impl_ValidLine z).trans (nat_impl_ValidLine _ z.1))

/-! ### F48 impl.lineResult -/
noncomputable def T_impl_lineResult : List (FuncId × Contract) := [(41, k_impl_ValidLine)]
theorem a_impl_lineResult : AllSound C0 T_impl_lineResult := .cons so_impl_ValidLine (.nil)
noncomputable def t_impl_lineResult {R : Type} (kx : (Int × (Int × (Int × Int))) × Int → Option R) (a0 : (Int × (Int × (Int × Int)))) (a1 : Bool) : Option R :=
  cond (!a1)
  (kx (((0 : Int), ((0 : Int), ((0 : Int), (0 : Int)))), (2 : Int)))
  (Option.bind (g_impl_ValidLine a0) fun y294 =>
   cond (!y294)
   (kx (((0 : Int), ((0 : Int), ((0 : Int), (0 : Int)))), (2 : Int)))
   (kx (a0, (0 : Int))))
noncomputable def g_impl_lineResult (a0 : (Int × (Int × (Int × Int)))) (a1 : Bool) : Option ((Int × (Int × (Int × Int))) × Int) := t_impl_lineResult some a0 a1
theorem nat_impl_lineResult {R : Type} (kx : (Int × (Int × (Int × Int))) × Int → Option R) (a0 : (Int × (Int × (Int × Int)))) (a1 : Bool) : t_impl_lineResult kx a0 a1 = (g_impl_lineResult a0 a1).bind kx := by
  unfold g_impl_lineResult t_impl_lineResult
  exact nat_cond (rfl) (nat_bind fun _ => nat_cond (rfl) (rfl))
abbrev as_impl_lineResult : List AX := [.val true (.pair (.int .i64) (.pair (.int .i64) (.pair (.int .i64) (.int .i64)))), .val false .bool]
abbrev en_impl_lineResult : (Int × (Int × (Int × Int))) × Int → AV × List CV := fun b => (.tup [⟨true, [(.v (.int .i64 b.1.1)), (.v (.int .i64 b.1.2.1)), (.v (.int .i64 b.1.2.2.1)), (.v (.int .i64 b.1.2.2.2))]⟩, ⟨false, [(.v (.int .i64 b.2))]⟩], [])
noncomputable abbrev k_impl_lineResult : Contract := .fx as_impl_lineResult ((Int × (Int × (Int × Int))) × Int) (fun z => g_impl_lineResult z.1 z.2.1) en_impl_lineResult
theorem r_impl_lineResult (z : argsX as_impl_lineResult) : runF (tab C0 T_impl_lineResult) noHints 1 Tryd.f48 (lentOf as_impl_lineResult) (xBoxes as_impl_lineResult z) (xVals as_impl_lineResult 0 z) K2 = t_impl_lineResult (fun b => some (en_impl_lineResult b)) z.1 z.2.1 := by kernel_rfl
theorem so_impl_lineResult : Sound C0 48 k_impl_lineResult :=
  Sound.fx a_impl_lineResult mixed Tryd.func48 (by kernel_rfl) (by kernel_rfl) noHints 1 noHints_ok (fun z => (r_impl_lineResult z).trans (nat_impl_lineResult _ z.1 z.2.1))

/-! ### F20 impl.FoldOnto -/
noncomputable def T_impl_FoldOnto : List (FuncId × Contract) := [(42, k_impl_ValidPoint), (57, k_impl_direction), (59, k_impl_middle), (58, k_impl_lineAt), (48, k_impl_lineResult)]
theorem a_impl_FoldOnto : AllSound C0 T_impl_FoldOnto := .cons so_impl_ValidPoint (.cons so_impl_direction (.cons so_impl_middle (.cons so_impl_lineAt (.cons so_impl_lineResult (.nil)))))
noncomputable def t_impl_FoldOnto {R : Type} (kx : (Int × (Int × (Int × Int))) × Int → Option R) (a0 : ((Int × (Int × Int)) × (Int × (Int × Int)))) (a1 : ((Int × (Int × Int)) × (Int × (Int × Int)))) : Option R :=
  Option.bind (g_impl_ValidPoint a0) fun y178 =>
  cond (!y178)
  (kx (((0 : Int), ((0 : Int), ((0 : Int), (0 : Int)))), (1 : Int)))
  (Option.bind (g_impl_ValidPoint a1) fun y179 =>
   cond (!y179)
   (kx (((0 : Int), ((0 : Int), ((0 : Int), (0 : Int)))), (1 : Int)))
   (Option.bind (g_impl_direction a0 a1) fun y269 =>
    cond (decide (y269 < (0 : Int)))
    (kx (((0 : Int), ((0 : Int), ((0 : Int), (0 : Int)))), (7 : Int)))
    (Option.bind (g_impl_middle a0 a1) fun y281 =>
     Option.bind (g_impl_lineAt y281 (Int.tmod (IntKind.wrap IntKind.i64 (y269 + (4 : Int))) (8 : Int))) fun y288 =>
     Option.bind (g_impl_lineResult y288 Bool.true) fun y295 =>
     kx y295)))
noncomputable def g_impl_FoldOnto (a0 : ((Int × (Int × Int)) × (Int × (Int × Int)))) (a1 : ((Int × (Int × Int)) × (Int × (Int × Int)))) : Option ((Int × (Int × (Int × Int))) × Int) := t_impl_FoldOnto some a0 a1
theorem nat_impl_FoldOnto {R : Type} (kx : (Int × (Int × (Int × Int))) × Int → Option R) (a0 : ((Int × (Int × Int)) × (Int × (Int × Int)))) (a1 : ((Int × (Int × Int)) × (Int × (Int × Int)))) : t_impl_FoldOnto kx a0 a1 = (g_impl_FoldOnto a0 a1).bind kx := by
  unfold g_impl_FoldOnto t_impl_FoldOnto
  exact nat_bind fun _ => nat_cond (rfl) (nat_bind fun _ => nat_cond (rfl) (nat_bind fun _ => nat_cond (rfl) (nat_bind fun _ => nat_bind fun _ => nat_bind fun _ => rfl)))
abbrev as_impl_FoldOnto : List AX := [.val true (.pair (.pair (.int .i64) (.pair (.int .i64) (.int .i64))) (.pair (.int .i64) (.pair (.int .i64) (.int .i64)))), .val true (.pair (.pair (.int .i64) (.pair (.int .i64) (.int .i64))) (.pair (.int .i64) (.pair (.int .i64) (.int .i64))))]
abbrev en_impl_FoldOnto : (Int × (Int × (Int × Int))) × Int → AV × List CV := fun b => (.tup [⟨true, [(.v (.int .i64 b.1.1)), (.v (.int .i64 b.1.2.1)), (.v (.int .i64 b.1.2.2.1)), (.v (.int .i64 b.1.2.2.2))]⟩, ⟨false, [(.v (.int .i64 b.2))]⟩], [])
noncomputable abbrev k_impl_FoldOnto : Contract := .fx as_impl_FoldOnto ((Int × (Int × (Int × Int))) × Int) (fun z => g_impl_FoldOnto z.1 z.2.1) en_impl_FoldOnto
theorem r_impl_FoldOnto (z : argsX as_impl_FoldOnto) : runF (tab C0 T_impl_FoldOnto) noHints 1 Tryd.f20 (lentOf as_impl_FoldOnto) (xBoxes as_impl_FoldOnto z) (xVals as_impl_FoldOnto 0 z) K2 = t_impl_FoldOnto (fun b => some (en_impl_FoldOnto b)) z.1 z.2.1 := by kernel_rfl
theorem so_impl_FoldOnto : Sound C0 20 k_impl_FoldOnto :=
  Sound.fx a_impl_FoldOnto mixed Tryd.func20 (by kernel_rfl) (by kernel_rfl) noHints 1 noHints_ok (fun z => (r_impl_FoldOnto z).trans (nat_impl_FoldOnto _ z.1 z.2.1))

/-! ### F49 laws.eqNum -/
noncomputable def T_laws_eqNum : List (FuncId × Contract) := []
theorem a_laws_eqNum : AllSound C0 T_laws_eqNum := .nil
noncomputable def t_laws_eqNum {R : Type} (kx : Bool → Option R) (a0 : (Int × (Int × Int))) (a1 : (Int × (Int × Int))) : Option R :=
  cond (a0.1 != a1.1)
  (kx Bool.false)
  (cond (a0.2.1 != a1.2.1)
   (kx Bool.false)
   (cond (a0.2.2 != a1.2.2)
    (kx Bool.false)
    (kx Bool.true)))
noncomputable def g_laws_eqNum (a0 : (Int × (Int × Int))) (a1 : (Int × (Int × Int))) : Option (Bool) := t_laws_eqNum some a0 a1
theorem nat_laws_eqNum {R : Type} (kx : Bool → Option R) (a0 : (Int × (Int × Int))) (a1 : (Int × (Int × Int))) : t_laws_eqNum kx a0 a1 = (g_laws_eqNum a0 a1).bind kx := by
  unfold g_laws_eqNum t_laws_eqNum
  exact nat_cond (rfl) (nat_cond (rfl) (nat_cond (rfl) (rfl)))
abbrev as_laws_eqNum : List AX := [.val true (.pair (.int .i64) (.pair (.int .i64) (.int .i64))), .val true (.pair (.int .i64) (.pair (.int .i64) (.int .i64)))]
abbrev en_laws_eqNum : Bool → AV × List CV := fun b => (.one ⟨false, [(.v (.bool b))]⟩, [])
noncomputable abbrev k_laws_eqNum : Contract := .fx as_laws_eqNum (Bool) (fun z => g_laws_eqNum z.1 z.2.1) en_laws_eqNum
theorem r_laws_eqNum (z : argsX as_laws_eqNum) : runF (tab C0 T_laws_eqNum) noHints 1 Tryd.f49 (lentOf as_laws_eqNum) (xBoxes as_laws_eqNum z) (xVals as_laws_eqNum 0 z) K2 = t_laws_eqNum (fun b => some (en_laws_eqNum b)) z.1 z.2.1 := by kernel_rfl
theorem so_laws_eqNum : Sound C0 49 k_laws_eqNum :=
  Sound.fx a_laws_eqNum mixed Tryd.func49 (by kernel_rfl) (by kernel_rfl) noHints 1 noHints_ok (fun z => (r_laws_eqNum z).trans (nat_laws_eqNum _ z.1 z.2.1))

/-! ### F16 laws.eqLine -/
noncomputable def T_laws_eqLine : List (FuncId × Contract) := [(49, k_laws_eqNum)]
theorem a_laws_eqLine : AllSound C0 T_laws_eqLine := .cons so_laws_eqNum (.nil)
noncomputable def t_laws_eqLine {R : Type} (kx : Bool → Option R) (a0 : (Int × (Int × (Int × Int)))) (a1 : (Int × (Int × (Int × Int)))) : Option R :=
  cond (a0.1 != a1.1)
  (kx Bool.false)
  (Option.bind (g_laws_eqNum a0.2 a1.2) fun y301 =>
   cond (!y301)
   (kx Bool.false)
   (kx Bool.true))
noncomputable def g_laws_eqLine (a0 : (Int × (Int × (Int × Int)))) (a1 : (Int × (Int × (Int × Int)))) : Option (Bool) := t_laws_eqLine some a0 a1
theorem nat_laws_eqLine {R : Type} (kx : Bool → Option R) (a0 : (Int × (Int × (Int × Int)))) (a1 : (Int × (Int × (Int × Int)))) : t_laws_eqLine kx a0 a1 = (g_laws_eqLine a0 a1).bind kx := by
  unfold g_laws_eqLine t_laws_eqLine
  exact nat_cond (rfl) (nat_bind fun _ => nat_cond (rfl) (rfl))
abbrev as_laws_eqLine : List AX := [.val true (.pair (.int .i64) (.pair (.int .i64) (.pair (.int .i64) (.int .i64)))), .val true (.pair (.int .i64) (.pair (.int .i64) (.pair (.int .i64) (.int .i64))))]
abbrev en_laws_eqLine : Bool → AV × List CV := fun b => (.one ⟨false, [(.v (.bool b))]⟩, [])
noncomputable abbrev k_laws_eqLine : Contract := .fx as_laws_eqLine (Bool) (fun z => g_laws_eqLine z.1 z.2.1) en_laws_eqLine
theorem r_laws_eqLine (z : argsX as_laws_eqLine) : runF (tab C0 T_laws_eqLine) noHints 1 Tryd.f16 (lentOf as_laws_eqLine) (xBoxes as_laws_eqLine z) (xVals as_laws_eqLine 0 z) K2 = t_laws_eqLine (fun b => some (en_laws_eqLine b)) z.1 z.2.1 := by kernel_rfl
theorem so_laws_eqLine : Sound C0 16 k_laws_eqLine :=
  Sound.fx a_laws_eqLine mixed Tryd.func16 (by kernel_rfl) (by kernel_rfl) noHints 1 noHints_ok (fun z => (r_laws_eqLine z).trans (nat_laws_eqLine _ z.1 z.2.1))

/-! ### F6 laws.FnExactFoldOnto -/
noncomputable def T_laws_FnExactFoldOnto : List (FuncId × Contract) := [(12, k_laws_toPoint), (19, k_spec_FoldOnto), (20, k_impl_FoldOnto), (16, k_laws_eqLine)]
theorem a_laws_FnExactFoldOnto : AllSound C0 T_laws_FnExactFoldOnto := .cons so_laws_toPoint (.cons so_spec_FoldOnto (.cons so_impl_FoldOnto (.cons so_laws_eqLine (.nil))))
noncomputable def t_laws_FnExactFoldOnto {R : Type} (kx : Bool → Option R) (a0 : ((Int × (Int × Int)) × (Int × (Int × Int)))) (a1 : ((Int × (Int × Int)) × (Int × (Int × Int)))) : Option R :=
  Option.bind (g_laws_toPoint a0) fun y6 =>
  Option.bind (g_laws_toPoint a1) fun y7 =>
  Option.bind (g_spec_FoldOnto y6 y7) fun y163 =>
  Option.bind (g_laws_toPoint a0) fun y164 =>
  Option.bind (g_laws_toPoint a1) fun y165 =>
  Option.bind (g_impl_FoldOnto y164 y165) fun y296 =>
  Option.bind (g_laws_eqLine y296.1 y163.1) fun y302 =>
  cond (!y302)
  (kx Bool.false)
  (cond (y296.2 != y163.2)
   (kx Bool.false)
   (kx Bool.true))
noncomputable def g_laws_FnExactFoldOnto (a0 : ((Int × (Int × Int)) × (Int × (Int × Int)))) (a1 : ((Int × (Int × Int)) × (Int × (Int × Int)))) : Option (Bool) := t_laws_FnExactFoldOnto some a0 a1
theorem nat_laws_FnExactFoldOnto {R : Type} (kx : Bool → Option R) (a0 : ((Int × (Int × Int)) × (Int × (Int × Int)))) (a1 : ((Int × (Int × Int)) × (Int × (Int × Int)))) : t_laws_FnExactFoldOnto kx a0 a1 = (g_laws_FnExactFoldOnto a0 a1).bind kx := by
  unfold g_laws_FnExactFoldOnto t_laws_FnExactFoldOnto
  exact nat_bind fun _ => nat_bind fun _ => nat_bind fun _ => nat_bind fun _ => nat_bind fun _ => nat_bind fun _ => nat_bind fun _ => nat_cond (rfl) (nat_cond (rfl) (rfl))
abbrev as_laws_FnExactFoldOnto : List AX := [.val true (.pair (.pair (.int .i64) (.pair (.int .i64) (.int .i64))) (.pair (.int .i64) (.pair (.int .i64) (.int .i64)))), .val true (.pair (.pair (.int .i64) (.pair (.int .i64) (.int .i64))) (.pair (.int .i64) (.pair (.int .i64) (.int .i64))))]
abbrev en_laws_FnExactFoldOnto : Bool → AV × List CV := fun b => (.one ⟨false, [(.v (.bool b))]⟩, [])
noncomputable abbrev k_laws_FnExactFoldOnto : Contract := .fx as_laws_FnExactFoldOnto (Bool) (fun z => g_laws_FnExactFoldOnto z.1 z.2.1) en_laws_FnExactFoldOnto
theorem r_laws_FnExactFoldOnto (z : argsX as_laws_FnExactFoldOnto) : runF (tab C0 T_laws_FnExactFoldOnto) noHints 1 Tryd.f6 (lentOf as_laws_FnExactFoldOnto) (xBoxes as_laws_FnExactFoldOnto z) (xVals as_laws_FnExactFoldOnto 0 z) K2 = t_laws_FnExactFoldOnto (fun b => some (en_laws_FnExactFoldOnto b)) z.1 z.2.1 := by kernel_rfl
theorem so_laws_FnExactFoldOnto : Sound C0 6 k_laws_FnExactFoldOnto :=
  Sound.fx a_laws_FnExactFoldOnto mixed Tryd.func6 (by kernel_rfl) (by kernel_rfl) noHints 1 noHints_ok (fun z => (r_laws_FnExactFoldOnto z).trans (nat_laws_FnExactFoldOnto _ z.1 z.2.1))

end Go.Proofs.YtocobkbckingoaaDoor
