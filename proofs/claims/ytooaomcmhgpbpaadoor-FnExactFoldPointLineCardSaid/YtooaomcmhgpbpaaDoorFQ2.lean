/- What the functions that FoldPointLine reaches compute, printed. No conditions. -/
import Derived.Test.YtooaomcmhgpbpaaDoorW1F
namespace Go.Proofs.YtooaomcmhgpbpaaDoor
open Go.Vai
set_option maxRecDepth 100000

/-! ### F49 laws.toNum -/
noncomputable def T_laws_toNum : List (FuncId × Contract) := []
theorem a_laws_toNum : AllSound C0 T_laws_toNum := .nil
noncomputable def t_laws_toNum {R : Type} (kx : (Int × (Int × Int)) → Option R) (a0 : (Int × (Int × Int))) : Option R :=
  kx a0
noncomputable def g_laws_toNum (a0 : (Int × (Int × Int))) : Option ((Int × (Int × Int))) := t_laws_toNum some a0
theorem nat_laws_toNum {R : Type} (kx : (Int × (Int × Int)) → Option R) (a0 : (Int × (Int × Int))) : t_laws_toNum kx a0 = (g_laws_toNum a0).bind kx := by
  unfold g_laws_toNum t_laws_toNum
  exact rfl
abbrev as_laws_toNum : List AX := [.val true (.pair (.int .i64) (.pair (.int .i64) (.int .i64)))]
abbrev en_laws_toNum : (Int × (Int × Int)) → AV × List CV := fun b => (.one ⟨true, [(.v (.int .i64 b.1)), (.v (.int .i64 b.2.1)), (.v (.int .i64 b.2.2))]⟩, [])
noncomputable abbrev k_laws_toNum : Contract := .fx as_laws_toNum ((Int × (Int × Int))) (fun z => g_laws_toNum z.1) en_laws_toNum
theorem r_laws_toNum (z : argsX as_laws_toNum) : runF (tab C0 T_laws_toNum) noHints 1 Tryd.f49 (lentOf as_laws_toNum) (xBoxes as_laws_toNum z) (xVals as_laws_toNum 0 z) K2 = t_laws_toNum (fun b => some (en_laws_toNum b)) z.1 := by kernel_rfl
theorem so_laws_toNum : Sound C0 49 k_laws_toNum :=
  Sound.fx a_laws_toNum mixed Tryd.func49 (by kernel_rfl) (by kernel_rfl) noHints 1 noHints_ok (fun z => (r_laws_toNum z).trans (nat_laws_toNum _ z.1))

/-! ### F14 laws.toPoint -/
noncomputable def T_laws_toPoint : List (FuncId × Contract) := [(49, k_laws_toNum)]
theorem a_laws_toPoint : AllSound C0 T_laws_toPoint := .cons so_laws_toNum (.nil)
noncomputable def t_laws_toPoint {R : Type} (kx : ((Int × (Int × Int)) × (Int × (Int × Int))) → Option R) (a0 : ((Int × (Int × Int)) × (Int × (Int × Int)))) : Option R :=
  Option.bind (g_laws_toNum a0.1) fun y5 =>
  Option.bind (g_laws_toNum a0.2) fun y6 =>
  kx (y5, y6)
noncomputable def g_laws_toPoint (a0 : ((Int × (Int × Int)) × (Int × (Int × Int)))) : Option (((Int × (Int × Int)) × (Int × (Int × Int)))) := t_laws_toPoint some a0
theorem nat_laws_toPoint {R : Type} (kx : ((Int × (Int × Int)) × (Int × (Int × Int))) → Option R) (a0 : ((Int × (Int × Int)) × (Int × (Int × Int)))) : t_laws_toPoint kx a0 = (g_laws_toPoint a0).bind kx := by
  unfold g_laws_toPoint t_laws_toPoint
  exact nat_bind fun _ => nat_bind fun _ => rfl
abbrev as_laws_toPoint : List AX := [.val true (.pair (.pair (.int .i64) (.pair (.int .i64) (.int .i64))) (.pair (.int .i64) (.pair (.int .i64) (.int .i64))))]
abbrev en_laws_toPoint : ((Int × (Int × Int)) × (Int × (Int × Int))) → AV × List CV := fun b => (.one ⟨true, [(.v (.int .i64 b.1.1)), (.v (.int .i64 b.1.2.1)), (.v (.int .i64 b.1.2.2)), (.v (.int .i64 b.2.1)), (.v (.int .i64 b.2.2.1)), (.v (.int .i64 b.2.2.2))]⟩, [])
noncomputable abbrev k_laws_toPoint : Contract := .fx as_laws_toPoint (((Int × (Int × Int)) × (Int × (Int × Int)))) (fun z => g_laws_toPoint z.1) en_laws_toPoint
theorem r_laws_toPoint (z : argsX as_laws_toPoint) : runF (tab C0 T_laws_toPoint) noHints 1 Tryd.f14 (lentOf as_laws_toPoint) (xBoxes as_laws_toPoint z) (xVals as_laws_toPoint 0 z) K2 = t_laws_toPoint (fun b => some (en_laws_toPoint b)) z.1 := by kernel_rfl
theorem so_laws_toPoint : Sound C0 14 k_laws_toPoint :=
  Sound.fx a_laws_toPoint mixed Tryd.func14 (by kernel_rfl) (by kernel_rfl) noHints 1 noHints_ok (fun z => (r_laws_toPoint z).trans (nat_laws_toPoint _ z.1))

/-! ### F15 laws.toLine -/
noncomputable def T_laws_toLine : List (FuncId × Contract) := [(49, k_laws_toNum)]
theorem a_laws_toLine : AllSound C0 T_laws_toLine := .cons so_laws_toNum (.nil)
noncomputable def t_laws_toLine {R : Type} (kx : (Int × (Int × (Int × Int))) → Option R) (a0 : (Int × (Int × (Int × Int)))) : Option R :=
  Option.bind (g_laws_toNum a0.2) fun y9 =>
  kx (a0.1, y9)
noncomputable def g_laws_toLine (a0 : (Int × (Int × (Int × Int)))) : Option ((Int × (Int × (Int × Int)))) := t_laws_toLine some a0
theorem nat_laws_toLine {R : Type} (kx : (Int × (Int × (Int × Int))) → Option R) (a0 : (Int × (Int × (Int × Int)))) : t_laws_toLine kx a0 = (g_laws_toLine a0).bind kx := by
  unfold g_laws_toLine t_laws_toLine
  exact nat_bind fun _ => rfl
abbrev as_laws_toLine : List AX := [.val true (.pair (.int .i64) (.pair (.int .i64) (.pair (.int .i64) (.int .i64))))]
abbrev en_laws_toLine : (Int × (Int × (Int × Int))) → AV × List CV := fun b => (.one ⟨true, [(.v (.int .i64 b.1)), (.v (.int .i64 b.2.1)), (.v (.int .i64 b.2.2.1)), (.v (.int .i64 b.2.2.2))]⟩, [])
noncomputable abbrev k_laws_toLine : Contract := .fx as_laws_toLine ((Int × (Int × (Int × Int)))) (fun z => g_laws_toLine z.1) en_laws_toLine
theorem r_laws_toLine (z : argsX as_laws_toLine) : runF (tab C0 T_laws_toLine) noHints 1 Tryd.f15 (lentOf as_laws_toLine) (xBoxes as_laws_toLine z) (xVals as_laws_toLine 0 z) K2 = t_laws_toLine (fun b => some (en_laws_toLine b)) z.1 := by kernel_rfl
theorem so_laws_toLine : Sound C0 15 k_laws_toLine :=
  Sound.fx a_laws_toLine mixed Tryd.func15 (by kernel_rfl) (by kernel_rfl) noHints 1 noHints_ok (fun z => (r_laws_toLine z).trans (nat_laws_toLine _ z.1))

/-! ### F35 spec.l00In -/
noncomputable def T_spec_l00In : List (FuncId × Contract) := []
theorem a_spec_l00In : AllSound C0 T_spec_l00In := .nil
noncomputable def t_spec_l00In {R : Type} (kx : Bool → Option R) (a0 : Int) (a1 : Int) (a2 : Int) : Option R :=
  cond (decide (a0 ≥ a1))
  (kx (decide (a0 ≤ a2)))
  (kx Bool.false)
noncomputable def g_spec_l00In (a0 : Int) (a1 : Int) (a2 : Int) : Option (Bool) := t_spec_l00In some a0 a1 a2
theorem nat_spec_l00In {R : Type} (kx : Bool → Option R) (a0 : Int) (a1 : Int) (a2 : Int) : t_spec_l00In kx a0 a1 a2 = (g_spec_l00In a0 a1 a2).bind kx := by
  unfold g_spec_l00In t_spec_l00In
  exact nat_cond (rfl) (rfl)
abbrev as_spec_l00In : List AX := [.val false (.int .i64), .val false (.int .i64), .val false (.int .i64)]
abbrev en_spec_l00In : Bool → AV × List CV := fun b => (.one ⟨false, [(.v (.bool b))]⟩, [])
noncomputable abbrev k_spec_l00In : Contract := .fx as_spec_l00In (Bool) (fun z => g_spec_l00In z.1 z.2.1 z.2.2.1) en_spec_l00In
theorem r_spec_l00In (z : argsX as_spec_l00In) : runF (tab C0 T_spec_l00In) noHints 1 Tryd.f35 (lentOf as_spec_l00In) (xBoxes as_spec_l00In z) (xVals as_spec_l00In 0 z) K2 = t_spec_l00In (fun b => some (en_spec_l00In b)) z.1 z.2.1 z.2.2.1 := by kernel_rfl
theorem so_spec_l00In : Sound C0 35 k_spec_l00In :=
  Sound.fx a_spec_l00In mixed Tryd.func35 (by kernel_rfl) (by kernel_rfl) noHints 1 noHints_ok (fun z => (r_spec_l00In z).trans (nat_spec_l00In _ z.1 z.2.1 z.2.2.1))

/-! ### F84 spec.l01Ok -/
noncomputable def T_spec_l01Ok : List (FuncId × Contract) := [(35, k_spec_l00In)]
theorem a_spec_l01Ok : AllSound C0 T_spec_l01Ok := .cons so_spec_l00In (.nil)
noncomputable def t_spec_l01Ok {R : Type} (kx : Bool → Option R) (a0 : (Int × (Int × Int))) : Option R :=
  Option.bind (g_spec_l00In a0.1 (-(131072 : Int)) (131072 : Int)) fun y20 =>
  cond (!y20)
  (kx Bool.false)
  (Option.bind (g_spec_l00In a0.2.1 (-(131072 : Int)) (131072 : Int)) fun y21 =>
   cond (!y21)
   (kx Bool.false)
   (Option.bind (g_spec_l00In a0.2.2 (0 : Int) (10 : Int)) fun y22 =>
    cond (!y22)
    (kx Bool.false)
    (cond (a0.2.2 == (0 : Int))
     (kx Bool.true)
     (cond ((Int.tmod a0.1 (2 : Int)) != (0 : Int))
      (kx Bool.true)
      (kx ((Int.tmod a0.2.1 (2 : Int)) != (0 : Int)))))))
noncomputable def g_spec_l01Ok (a0 : (Int × (Int × Int))) : Option (Bool) := t_spec_l01Ok some a0
theorem nat_spec_l01Ok {R : Type} (kx : Bool → Option R) (a0 : (Int × (Int × Int))) : t_spec_l01Ok kx a0 = (g_spec_l01Ok a0).bind kx := by
  unfold g_spec_l01Ok t_spec_l01Ok
  exact nat_bind fun _ => nat_cond (rfl) (nat_bind fun _ => nat_cond (rfl) (nat_bind fun _ => nat_cond (rfl) (nat_cond (rfl) (nat_cond (rfl) (rfl)))))
abbrev as_spec_l01Ok : List AX := [.val true (.pair (.int .i64) (.pair (.int .i64) (.int .i64)))]
abbrev en_spec_l01Ok : Bool → AV × List CV := fun b => (.one ⟨false, [(.v (.bool b))]⟩, [])
noncomputable abbrev k_spec_l01Ok : Contract := .fx as_spec_l01Ok (Bool) (fun z => g_spec_l01Ok z.1) en_spec_l01Ok
theorem r_spec_l01Ok (z : argsX as_spec_l01Ok) : runF (tab C0 T_spec_l01Ok) noHints 1 Tryd.f84 (lentOf as_spec_l01Ok) (xBoxes as_spec_l01Ok z) (xVals as_spec_l01Ok 0 z) K2 = t_spec_l01Ok (fun b => some (en_spec_l01Ok b)) z.1 := by kernel_rfl
theorem so_spec_l01Ok : Sound C0 84 k_spec_l01Ok :=
  Sound.fx a_spec_l01Ok mixed Tryd.func84 (by kernel_rfl) (by kernel_rfl) noHints 1 noHints_ok (fun z => (r_spec_l01Ok z).trans (nat_spec_l01Ok _ z.1))

/-! ### F41 spec.l02Point -/
noncomputable def T_spec_l02Point : List (FuncId × Contract) := [(84, k_spec_l01Ok)]
theorem a_spec_l02Point : AllSound C0 T_spec_l02Point := .cons so_spec_l01Ok (.nil)
noncomputable def t_spec_l02Point {R : Type} (kx : Bool → Option R) (a0 : ((Int × (Int × Int)) × (Int × (Int × Int)))) : Option R :=
  Option.bind (g_spec_l01Ok a0.1) fun y23 =>
  cond y23
  (Option.bind (g_spec_l01Ok a0.2) fun y24 =>
   kx y24)
  (kx Bool.false)
noncomputable def g_spec_l02Point (a0 : ((Int × (Int × Int)) × (Int × (Int × Int)))) : Option (Bool) := t_spec_l02Point some a0
theorem nat_spec_l02Point {R : Type} (kx : Bool → Option R) (a0 : ((Int × (Int × Int)) × (Int × (Int × Int)))) : t_spec_l02Point kx a0 = (g_spec_l02Point a0).bind kx := by
  unfold g_spec_l02Point t_spec_l02Point
  exact nat_bind fun _ => nat_cond (nat_bind fun _ => rfl) (rfl)
abbrev as_spec_l02Point : List AX := [.val true (.pair (.pair (.int .i64) (.pair (.int .i64) (.int .i64))) (.pair (.int .i64) (.pair (.int .i64) (.int .i64))))]
abbrev en_spec_l02Point : Bool → AV × List CV := fun b => (.one ⟨false, [(.v (.bool b))]⟩, [])
noncomputable abbrev k_spec_l02Point : Contract := .fx as_spec_l02Point (Bool) (fun z => g_spec_l02Point z.1) en_spec_l02Point
theorem r_spec_l02Point (z : argsX as_spec_l02Point) : runF (tab C0 T_spec_l02Point) noHints 1 Tryd.f41 (lentOf as_spec_l02Point) (xBoxes as_spec_l02Point z) (xVals as_spec_l02Point 0 z) K2 = t_spec_l02Point (fun b => some (en_spec_l02Point b)) z.1 := by kernel_rfl
theorem so_spec_l02Point : Sound C0 41 k_spec_l02Point :=
  Sound.fx a_spec_l02Point mixed Tryd.func41 (by kernel_rfl) (by kernel_rfl) noHints 1 noHints_ok (fun z => (r_spec_l02Point z).trans (nat_spec_l02Point _ z.1))

/-! ### F42 spec.l02Line -/
noncomputable def T_spec_l02Line : List (FuncId × Contract) := [(35, k_spec_l00In), (84, k_spec_l01Ok)]
theorem a_spec_l02Line : AllSound C0 T_spec_l02Line := .cons so_spec_l00In (.cons so_spec_l01Ok (.nil))
noncomputable def t_spec_l02Line {R : Type} (kx : Bool → Option R) (a0 : (Int × (Int × (Int × Int)))) : Option R :=
  Option.bind (g_spec_l00In a0.1 (0 : Int) (7 : Int)) fun y27 =>
  cond y27
  (Option.bind (g_spec_l01Ok a0.2) fun y28 =>
   kx y28)
  (kx Bool.false)
noncomputable def g_spec_l02Line (a0 : (Int × (Int × (Int × Int)))) : Option (Bool) := t_spec_l02Line some a0
theorem nat_spec_l02Line {R : Type} (kx : Bool → Option R) (a0 : (Int × (Int × (Int × Int)))) : t_spec_l02Line kx a0 = (g_spec_l02Line a0).bind kx := by
  unfold g_spec_l02Line t_spec_l02Line
  exact nat_bind fun _ => nat_cond (nat_bind fun _ => rfl) (rfl)
abbrev as_spec_l02Line : List AX := [.val true (.pair (.int .i64) (.pair (.int .i64) (.pair (.int .i64) (.int .i64))))]
abbrev en_spec_l02Line : Bool → AV × List CV := fun b => (.one ⟨false, [(.v (.bool b))]⟩, [])
noncomputable abbrev k_spec_l02Line : Contract := .fx as_spec_l02Line (Bool) (fun z => g_spec_l02Line z.1) en_spec_l02Line
theorem r_spec_l02Line (z : argsX as_spec_l02Line) : runF (tab C0 T_spec_l02Line) noHints 1 Tryd.f42 (lentOf as_spec_l02Line) (xBoxes as_spec_l02Line z) (xVals as_spec_l02Line 0 z) K2 = t_spec_l02Line (fun b => some (en_spec_l02Line b)) z.1 := by kernel_rfl
theorem so_spec_l02Line : Sound C0 42 k_spec_l02Line :=
  Sound.fx a_spec_l02Line mixed Tryd.func42 (by kernel_rfl) (by kernel_rfl) noHints 1 noHints_ok (fun z => (r_spec_l02Line z).trans (nat_spec_l02Line _ z.1))

/-! ### F90 spec.l01Of -/
noncomputable def T_spec_l01Of : List (FuncId × Contract) := []
theorem a_spec_l01Of : AllSound C0 T_spec_l01Of := .nil
noncomputable def t_spec_l01Of {R : Type} (kx : (Int × (Int × Int)) → Option R) (a0 : (Int × (Int × Int))) : Option R :=
  kx a0
noncomputable def g_spec_l01Of (a0 : (Int × (Int × Int))) : Option ((Int × (Int × Int))) := t_spec_l01Of some a0
theorem nat_spec_l01Of {R : Type} (kx : (Int × (Int × Int)) → Option R) (a0 : (Int × (Int × Int))) : t_spec_l01Of kx a0 = (g_spec_l01Of a0).bind kx := by
  unfold g_spec_l01Of t_spec_l01Of
  exact rfl
abbrev as_spec_l01Of : List AX := [.val true (.pair (.int .i64) (.pair (.int .i64) (.int .i64)))]
abbrev en_spec_l01Of : (Int × (Int × Int)) → AV × List CV := fun b => (.one ⟨true, [(.v (.int .i64 b.1)), (.v (.int .i64 b.2.1)), (.v (.int .i64 b.2.2))]⟩, [])
noncomputable abbrev k_spec_l01Of : Contract := .fx as_spec_l01Of ((Int × (Int × Int))) (fun z => g_spec_l01Of z.1) en_spec_l01Of
theorem r_spec_l01Of (z : argsX as_spec_l01Of) : runF (tab C0 T_spec_l01Of) noHints 1 Tryd.f90 (lentOf as_spec_l01Of) (xBoxes as_spec_l01Of z) (xVals as_spec_l01Of 0 z) K2 = t_spec_l01Of (fun b => some (en_spec_l01Of b)) z.1 := by kernel_rfl
theorem so_spec_l01Of : Sound C0 90 k_spec_l01Of :=
  Sound.fx a_spec_l01Of mixed Tryd.func90 (by kernel_rfl) (by kernel_rfl) noHints 1 noHints_ok (fun z => (r_spec_l01Of z).trans (nat_spec_l01Of _ z.1))

/-! ### F44 spec.l02Of -/
noncomputable def T_spec_l02Of : List (FuncId × Contract) := [(90, k_spec_l01Of)]
theorem a_spec_l02Of : AllSound C0 T_spec_l02Of := .cons so_spec_l01Of (.nil)
noncomputable def t_spec_l02Of {R : Type} (kx : ((Int × (Int × Int)) × (Int × (Int × Int))) → Option R) (a0 : ((Int × (Int × Int)) × (Int × (Int × Int)))) : Option R :=
  Option.bind (g_spec_l01Of a0.1) fun y51 =>
  Option.bind (g_spec_l01Of a0.2) fun y52 =>
  kx (y51, y52)
noncomputable def g_spec_l02Of (a0 : ((Int × (Int × Int)) × (Int × (Int × Int)))) : Option (((Int × (Int × Int)) × (Int × (Int × Int)))) := t_spec_l02Of some a0
theorem nat_spec_l02Of {R : Type} (kx : ((Int × (Int × Int)) × (Int × (Int × Int))) → Option R) (a0 : ((Int × (Int × Int)) × (Int × (Int × Int)))) : t_spec_l02Of kx a0 = (g_spec_l02Of a0).bind kx := by
  unfold g_spec_l02Of t_spec_l02Of
  exact nat_bind fun _ => nat_bind fun _ => rfl
abbrev as_spec_l02Of : List AX := [.val true (.pair (.pair (.int .i64) (.pair (.int .i64) (.int .i64))) (.pair (.int .i64) (.pair (.int .i64) (.int .i64))))]
abbrev en_spec_l02Of : ((Int × (Int × Int)) × (Int × (Int × Int))) → AV × List CV := fun b => (.one ⟨true, [(.v (.int .i64 b.1.1)), (.v (.int .i64 b.1.2.1)), (.v (.int .i64 b.1.2.2)), (.v (.int .i64 b.2.1)), (.v (.int .i64 b.2.2.1)), (.v (.int .i64 b.2.2.2))]⟩, [])
noncomputable abbrev k_spec_l02Of : Contract := .fx as_spec_l02Of (((Int × (Int × Int)) × (Int × (Int × Int)))) (fun z => g_spec_l02Of z.1) en_spec_l02Of
theorem r_spec_l02Of (z : argsX as_spec_l02Of) : runF (tab C0 T_spec_l02Of) noHints 1 Tryd.f44 (lentOf as_spec_l02Of) (xBoxes as_spec_l02Of z) (xVals as_spec_l02Of 0 z) K2 = t_spec_l02Of (fun b => some (en_spec_l02Of b)) z.1 := by kernel_rfl
theorem so_spec_l02Of : Sound C0 44 k_spec_l02Of :=
  Sound.fx a_spec_l02Of mixed Tryd.func44 (by kernel_rfl) (by kernel_rfl) noHints 1 noHints_ok (fun z => (r_spec_l02Of z).trans (nat_spec_l02Of _ z.1))

/-! ### F108 spec.l02Mod -/
noncomputable def T_spec_l02Mod : List (FuncId × Contract) := []
theorem a_spec_l02Mod : AllSound C0 T_spec_l02Mod := .nil
noncomputable def t_spec_l02Mod {R : Type} (kx : Int → Option R) (a0 : Int) : Option R :=
  kx (Int.tmod (IntKind.wrap IntKind.i64 ((Int.tmod a0 (16 : Int)) + (16 : Int))) (16 : Int))
noncomputable def g_spec_l02Mod (a0 : Int) : Option (Int) := t_spec_l02Mod some a0
theorem nat_spec_l02Mod {R : Type} (kx : Int → Option R) (a0 : Int) : t_spec_l02Mod kx a0 = (g_spec_l02Mod a0).bind kx := by
  unfold g_spec_l02Mod t_spec_l02Mod
  exact rfl
abbrev as_spec_l02Mod : List AX := [.val false (.int .i64)]
abbrev en_spec_l02Mod : Int → AV × List CV := fun b => (.one ⟨false, [(.v (.int .i64 b))]⟩, [])
noncomputable abbrev k_spec_l02Mod : Contract := .fx as_spec_l02Mod (Int) (fun z => g_spec_l02Mod z.1) en_spec_l02Mod
theorem r_spec_l02Mod (z : argsX as_spec_l02Mod) : runF (tab C0 T_spec_l02Mod) noHints 1 Tryd.f108 (lentOf as_spec_l02Mod) (xBoxes as_spec_l02Mod z) (xVals as_spec_l02Mod 0 z) K2 = t_spec_l02Mod (fun b => some (en_spec_l02Mod b)) z.1 := by kernel_rfl
theorem so_spec_l02Mod : Sound C0 108 k_spec_l02Mod :=
  Sound.fx a_spec_l02Mod mixed Tryd.func108 (by kernel_rfl) (by kernel_rfl) noHints 1 noHints_ok (fun z => (r_spec_l02Mod z).trans (nat_spec_l02Mod _ z.1))

/-! ### F85 spec.l02Vec -/
noncomputable def T_spec_l02Vec : List (FuncId × Contract) := [(108, k_spec_l02Mod)]
theorem a_spec_l02Vec : AllSound C0 T_spec_l02Vec := .cons so_spec_l02Mod (.nil)
noncomputable def t_spec_l02Vec {R : Type} (kx : ((Int × (Int × Int)) × (Int × (Int × Int))) → Option R) (a0 : Int) : Option R :=
  Option.bind (g_spec_l02Mod a0) fun y61 =>
  Option.bind (idx [(((1 : Int), ((0 : Int), (0 : Int))), ((0 : Int), ((0 : Int), (0 : Int)))), (((1 : Int), ((0 : Int), (0 : Int))), ((-(1 : Int)), ((1 : Int), (0 : Int)))), (((1 : Int), ((0 : Int), (0 : Int))), ((1 : Int), ((0 : Int), (0 : Int)))), (((-(1 : Int)), ((1 : Int), (0 : Int))), ((1 : Int), ((0 : Int), (0 : Int)))), (((0 : Int), ((0 : Int), (0 : Int))), ((1 : Int), ((0 : Int), (0 : Int)))), (((1 : Int), ((-(1 : Int)), (0 : Int))), ((1 : Int), ((0 : Int), (0 : Int)))), (((-(1 : Int)), ((0 : Int), (0 : Int))), ((1 : Int), ((0 : Int), (0 : Int)))), (((-(1 : Int)), ((0 : Int), (0 : Int))), ((-(1 : Int)), ((1 : Int), (0 : Int))))] (Int.tmod y61 (8 : Int))) fun y62 =>
  cond (decide (y61 ≥ (8 : Int)))
  (kx (((IntKind.wrap IntKind.i64 ((0 : Int) - y62.1.1)), ((IntKind.wrap IntKind.i64 ((0 : Int) - y62.1.2.1)), (0 : Int))), ((IntKind.wrap IntKind.i64 ((0 : Int) - y62.2.1)), ((IntKind.wrap IntKind.i64 ((0 : Int) - y62.2.2.1)), (0 : Int)))))
  (kx y62)
noncomputable def g_spec_l02Vec (a0 : Int) : Option (((Int × (Int × Int)) × (Int × (Int × Int)))) := t_spec_l02Vec some a0
theorem nat_spec_l02Vec {R : Type} (kx : ((Int × (Int × Int)) × (Int × (Int × Int))) → Option R) (a0 : Int) : t_spec_l02Vec kx a0 = (g_spec_l02Vec a0).bind kx := by
  unfold g_spec_l02Vec t_spec_l02Vec
  exact nat_bind fun _ => nat_bind fun _ => nat_cond (rfl) (rfl)
abbrev as_spec_l02Vec : List AX := [.val false (.int .i64)]
abbrev en_spec_l02Vec : ((Int × (Int × Int)) × (Int × (Int × Int))) → AV × List CV := fun b => (.one ⟨true, [(.v (.int .i64 b.1.1)), (.v (.int .i64 b.1.2.1)), (.v (.int .i64 b.1.2.2)), (.v (.int .i64 b.2.1)), (.v (.int .i64 b.2.2.1)), (.v (.int .i64 b.2.2.2))]⟩, [])
noncomputable abbrev k_spec_l02Vec : Contract := .fx as_spec_l02Vec (((Int × (Int × Int)) × (Int × (Int × Int)))) (fun z => g_spec_l02Vec z.1) en_spec_l02Vec
theorem r_spec_l02Vec (z : argsX as_spec_l02Vec) : runF (tab C0 T_spec_l02Vec) noHints 1 Tryd.f85 (lentOf as_spec_l02Vec) (xBoxes as_spec_l02Vec z) (xVals as_spec_l02Vec 0 z) K2 = t_spec_l02Vec (fun b => some (en_spec_l02Vec b)) z.1 := by kernel_rfl
theorem so_spec_l02Vec : Sound C0 85 k_spec_l02Vec :=
  Sound.fx a_spec_l02Vec mixed Tryd.func85 (by kernel_rfl) (by kernel_rfl) noHints 1 noHints_ok (fun z => (r_spec_l02Vec z).trans (nat_spec_l02Vec _ z.1))

/-! ### F114 spec.l01Low -/
noncomputable def T_spec_l01Low : List (FuncId × Contract) := []
theorem a_spec_l01Low : AllSound C0 T_spec_l01Low := .nil
abbrev s_spec_l01Low_4 : LS := ⟨[(false, [(.ptr 1 0)]), (false, [(.ptr 2 0)])], [(false, [(.int .i64), (.int .i64), (.int .i64)]), (false, [(.int .i64), (.int .i64), (.int .i64)])], []⟩
abbrev e_spec_l01Low_4_0 : LS := ⟨[(false, [(.ptr 1 0)]), (false, [(.ptr 2 0)])], [(false, [(.int .i64), (.int .i64), (.int .i64)]), (false, [(.int .i64), (.int .i64), (.int .i64)])], []⟩
abbrev d_spec_l01Low_4_0 (v0 : Int) (v1 : Int) (v2 : Int) (v3 : Int) (v4 : Int) (v5 : Int) : e_spec_l01Low_4_0.T := ((((), ()), ((), ()), ()), ((v0, v1, v2, ()), (v3, v4, v5, ()), ()), ())
abbrev x_spec_l01Low_4 : List (Ex × LS) := [(.exit 0, e_spec_l01Low_4_0)]
abbrev m_spec_l01Low_4 (b0_0 : Int) (b0_1 : Int) (b0_2 : Int) (b1_0 : Int) (b1_1 : Int) (b1_2 : Int) : s_spec_l01Low_4.T := ((((), ()), ((), ()), ()), ((b0_0, b0_1, b0_2, ()), (b1_0, b1_1, b1_2, ()), ()), ())
noncomputable def u_spec_l01Low_4 {R : Type} (nx : s_spec_l01Low_4.T → Option R) (hx : exH R x_spec_l01Low_4) (b0_0 : Int) (b0_1 : Int) (b0_2 : Int) (b1_0 : Int) (b1_1 : Int) (b1_2 : Int) : Option R :=
  cond (decide (b0_2 > (0 : Int)))
  (cond ((Int.tmod b0_0 (2 : Int)) == (0 : Int))
   (cond ((Int.tmod b0_1 (2 : Int)) == (0 : Int))
    (nx (m_spec_l01Low_4 (IntKind.wrap IntKind.i64 (Int.tdiv b0_0 (2 : Int))) (IntKind.wrap IntKind.i64 (Int.tdiv b0_1 (2 : Int))) (IntKind.wrap IntKind.i64 (b0_2 - (1 : Int))) b1_0 b1_1 b1_2))
    (hx.1 (d_spec_l01Low_4_0 b0_0 b0_1 b0_2 b1_0 b1_1 b1_2)))
   (hx.1 (d_spec_l01Low_4_0 b0_0 b0_1 b0_2 b1_0 b1_1 b1_2)))
  (hx.1 (d_spec_l01Low_4_0 b0_0 b0_1 b0_2 b1_0 b1_1 b1_2))
noncomputable def t_spec_l01Low_4 {R : Type} (nx : s_spec_l01Low_4.T → Option R) (hx : exH R x_spec_l01Low_4) (z : s_spec_l01Low_4.T) : Option R := u_spec_l01Low_4 nx hx z.2.1.1.1 z.2.1.1.2.1 z.2.1.1.2.2.1 z.2.1.2.1.1 z.2.1.2.1.2.1 z.2.1.2.1.2.2.1
theorem nat_spec_l01Low_4 : Natural @t_spec_l01Low_4 := fun R nx hx z => by
  show u_spec_l01Low_4 nx hx z.2.1.1.1 z.2.1.1.2.1 z.2.1.1.2.2.1 z.2.1.2.1.1 z.2.1.2.1.2.1 z.2.1.2.1.2.2.1 = (u_spec_l01Low_4 (fun y => some (.inl y)) (hIn x_spec_l01Low_4 fun x => some (.inr x)) z.2.1.1.1 z.2.1.1.2.1 z.2.1.1.2.2.1 z.2.1.2.1.1 z.2.1.2.1.2.1 z.2.1.2.1.2.2.1).bind (goOn nx hx)
  unfold u_spec_l01Low_4
  exact nat_cond (nat_cond (nat_cond (rfl) (rfl)) (rfl)) (rfl)
noncomputable def w_spec_l01Low_4 : s_spec_l01Low_4.T → Option (exT x_spec_l01Low_4) := wOf @t_spec_l01Low_4
theorem wq_spec_l01Low_4 (b0_0 : Int) (b0_1 : Int) (b0_2 : Int) (b1_0 : Int) (b1_1 : Int) (b1_2 : Int) : w_spec_l01Low_4 (m_spec_l01Low_4 b0_0 b0_1 b0_2 b1_0 b1_1 b1_2) = u_spec_l01Low_4 w_spec_l01Low_4 (hIn x_spec_l01Low_4 some) b0_0 b0_1 b0_2 b1_0 b1_1 b1_2 := wOf_eq nat_spec_l01Low_4 _
def lh_spec_l01Low_4 : LoopHint := ⟨[1, 2], [1, 2], [1, 2], [1, 2]⟩
noncomputable def h_spec_l01Low : Hints Rv := ⟨fun k => match k with | 4 => lh_spec_l01Low_4 | _ => ⟨[], [], [], []⟩, fun k => match k with | 4 => some (loopX s_spec_l01Low_4 x_spec_l01Low_4 w_spec_l01Low_4) | _ => none⟩
theorem st_spec_l01Low_4 (n : Nat) (z : s_spec_l01Low_4.T) (k : Ex → Live → Option Rv) : loopN ⟨40, 40⟩ lh_spec_l01Low_4 (den (tab C0 T_spec_l01Low) ⟨40, 40⟩ h_spec_l01Low 1 (loopOf Tryd.f114 3)) (n + 1) (s_spec_l01Low_4.enc z) k =
    t_spec_l01Low_4 (fun y => loopN ⟨40, 40⟩ lh_spec_l01Low_4 (den (tab C0 T_spec_l01Low) ⟨40, 40⟩ h_spec_l01Low 1 (loopOf Tryd.f114 3)) n (s_spec_l01Low_4.enc y) k) (hK k x_spec_l01Low_4) z := by kernel_rfl
theorem hs_spec_l01Low : HintsOk (tab C0 T_spec_l01Low) ⟨40, 40⟩ h_spec_l01Low 1 (loops (codeOf Tryd.f114)) := by
  have hl : loops (codeOf Tryd.f114) = [loopOf Tryd.f114 3] := by kernel_rfl
  rw [hl]
  exact HintsOk.cons (n := 4) (lh := lh_spec_l01Low_4) (S := loopX s_spec_l01Low_4 x_spec_l01Low_4 w_spec_l01Low_4) (by kernel_rfl) rfl rfl (loopX_ok nat_spec_l01Low_4 st_spec_l01Low_4)
    (HintsOk.nil)
noncomputable def t_spec_l01Low {R : Type} (kx : (Int × (Int × Int)) → Option R) (a0 : (Int × (Int × Int))) : Option R :=
  cond (a0.1 == (0 : Int))
  (cond (a0.2.1 == (0 : Int))
   (kx ((0 : Int), ((0 : Int), (0 : Int))))
   (Option.bind (w_spec_l01Low_4 (m_spec_l01Low_4 a0.1 a0.2.1 a0.2.2 (0 : Int) (0 : Int) (0 : Int))) (exC x_spec_l01Low_4
    (fun e74 =>
     kx ((e74.2.1.1.1 : Int), ((e74.2.1.1.2.1 : Int), (e74.2.1.1.2.2.1 : Int))), ()))))
  (Option.bind (w_spec_l01Low_4 (m_spec_l01Low_4 a0.1 a0.2.1 a0.2.2 (0 : Int) (0 : Int) (0 : Int))) (exC x_spec_l01Low_4
   (fun e81 =>
    kx ((e81.2.1.1.1 : Int), ((e81.2.1.1.2.1 : Int), (e81.2.1.1.2.2.1 : Int))), ())))
noncomputable def g_spec_l01Low (a0 : (Int × (Int × Int))) : Option ((Int × (Int × Int))) := t_spec_l01Low some a0
theorem nat_spec_l01Low {R : Type} (kx : (Int × (Int × Int)) → Option R) (a0 : (Int × (Int × Int))) : t_spec_l01Low kx a0 = (g_spec_l01Low a0).bind kx := by
  unfold g_spec_l01Low t_spec_l01Low
  exact nat_cond (nat_cond (rfl) (nat_exC ⟨fun _ => rfl, trivial⟩)) (nat_exC ⟨fun _ => rfl, trivial⟩)
abbrev as_spec_l01Low : List AX := [.val true (.pair (.int .i64) (.pair (.int .i64) (.int .i64)))]
abbrev en_spec_l01Low : (Int × (Int × Int)) → AV × List CV := fun b => (.one ⟨true, [(.v (.int .i64 b.1)), (.v (.int .i64 b.2.1)), (.v (.int .i64 b.2.2))]⟩, [])
noncomputable abbrev k_spec_l01Low : Contract := .fx as_spec_l01Low ((Int × (Int × Int))) (fun z => g_spec_l01Low z.1) en_spec_l01Low
theorem r_spec_l01Low (z : argsX as_spec_l01Low) : runF (tab C0 T_spec_l01Low) h_spec_l01Low 1 Tryd.f114 (lentOf as_spec_l01Low) (xBoxes as_spec_l01Low z) (xVals as_spec_l01Low 0 z) K2 = t_spec_l01Low (fun b => some (en_spec_l01Low b)) z.1 := by kernel_rfl
theorem so_spec_l01Low : Sound C0 114 k_spec_l01Low :=
  Sound.fx a_spec_l01Low mixed Tryd.func114 (by kernel_rfl) (by kernel_rfl) h_spec_l01Low 1 hs_spec_l01Low (fun z => (r_spec_l01Low z).trans (nat_spec_l01Low _ z.1))

/-! ### F88 spec.l01Mul -/
noncomputable def T_spec_l01Mul : List (FuncId × Contract) := [(114, k_spec_l01Low)]
theorem a_spec_l01Mul : AllSound C0 T_spec_l01Mul := .cons so_spec_l01Low (.nil)
noncomputable def t_spec_l01Mul {R : Type} (kx : (Int × (Int × Int)) → Option R) (a0 : (Int × (Int × Int))) (a1 : (Int × (Int × Int))) : Option R :=
  Option.bind (g_spec_l01Low ((IntKind.wrap IntKind.i64 ((IntKind.wrap IntKind.i64 (a0.1 * a1.1)) + (IntKind.wrap IntKind.i64 ((IntKind.wrap IntKind.i64 ((2 : Int) * a0.2.1)) * a1.2.1)))), ((IntKind.wrap IntKind.i64 ((IntKind.wrap IntKind.i64 (a0.1 * a1.2.1)) + (IntKind.wrap IntKind.i64 (a0.2.1 * a1.1)))), (IntKind.wrap IntKind.i64 (a0.2.2 + a1.2.2))))) fun y88 =>
  kx y88
noncomputable def g_spec_l01Mul (a0 : (Int × (Int × Int))) (a1 : (Int × (Int × Int))) : Option ((Int × (Int × Int))) := t_spec_l01Mul some a0 a1
theorem nat_spec_l01Mul {R : Type} (kx : (Int × (Int × Int)) → Option R) (a0 : (Int × (Int × Int))) (a1 : (Int × (Int × Int))) : t_spec_l01Mul kx a0 a1 = (g_spec_l01Mul a0 a1).bind kx := by
  unfold g_spec_l01Mul t_spec_l01Mul
  exact nat_bind fun _ => rfl
abbrev as_spec_l01Mul : List AX := [.val true (.pair (.int .i64) (.pair (.int .i64) (.int .i64))), .val true (.pair (.int .i64) (.pair (.int .i64) (.int .i64)))]
abbrev en_spec_l01Mul : (Int × (Int × Int)) → AV × List CV := fun b => (.one ⟨true, [(.v (.int .i64 b.1)), (.v (.int .i64 b.2.1)), (.v (.int .i64 b.2.2))]⟩, [])
noncomputable abbrev k_spec_l01Mul : Contract := .fx as_spec_l01Mul ((Int × (Int × Int))) (fun z => g_spec_l01Mul z.1 z.2.1) en_spec_l01Mul
theorem r_spec_l01Mul (z : argsX as_spec_l01Mul) : runF (tab C0 T_spec_l01Mul) noHints 1 Tryd.f88 (lentOf as_spec_l01Mul) (xBoxes as_spec_l01Mul z) (xVals as_spec_l01Mul 0 z) K2 = t_spec_l01Mul (fun b => some (en_spec_l01Mul b)) z.1 z.2.1 := by kernel_rfl
theorem so_spec_l01Mul : Sound C0 88 k_spec_l01Mul :=
  Sound.fx a_spec_l01Mul mixed Tryd.func88 (by kernel_rfl) (by kernel_rfl) noHints 1 noHints_ok (fun z => (r_spec_l01Mul z).trans (nat_spec_l01Mul _ z.1 z.2.1))

/-! ### F61 spec.l01Add -/
noncomputable def T_spec_l01Add : List (FuncId × Contract) := [(114, k_spec_l01Low)]
theorem a_spec_l01Add : AllSound C0 T_spec_l01Add := .cons so_spec_l01Low (.nil)
abbrev s_spec_l01Add_2 : LS := ⟨[(false, [(.ptr 2 0)]), (false, [(.ptr 3 0)]), (false, [(.ptr 4 0)])], [(false, [(.int .i64), (.int .i64), (.int .i64)]), (false, [(.int .i64), (.int .i64), (.int .i64)]), (false, [(.int .i64), (.int .i64), (.int .i64)])], []⟩
abbrev e_spec_l01Add_2_0 : LS := ⟨[(false, [(.ptr 2 0)]), (false, [(.ptr 3 0)]), (false, [(.ptr 4 0)])], [(false, [(.int .i64), (.int .i64), (.int .i64)]), (false, [(.int .i64), (.int .i64), (.int .i64)]), (false, [(.int .i64), (.int .i64), (.int .i64)])], []⟩
abbrev d_spec_l01Add_2_0 (v0 : Int) (v1 : Int) (v2 : Int) (v3 : Int) (v4 : Int) (v5 : Int) (v6 : Int) (v7 : Int) (v8 : Int) : e_spec_l01Add_2_0.T := ((((), ()), ((), ()), ((), ()), ()), ((v0, v1, v2, ()), (v3, v4, v5, ()), (v6, v7, v8, ()), ()), ())
abbrev x_spec_l01Add_2 : List (Ex × LS) := [(.exit 0, e_spec_l01Add_2_0)]
abbrev m_spec_l01Add_2 (b0_0 : Int) (b0_1 : Int) (b0_2 : Int) (b1_0 : Int) (b1_1 : Int) (b1_2 : Int) (b2_0 : Int) (b2_1 : Int) (b2_2 : Int) : s_spec_l01Add_2.T := ((((), ()), ((), ()), ((), ()), ()), ((b0_0, b0_1, b0_2, ()), (b1_0, b1_1, b1_2, ()), (b2_0, b2_1, b2_2, ()), ()), ())
noncomputable def u_spec_l01Add_2 {R : Type} (nx : s_spec_l01Add_2.T → Option R) (hx : exH R x_spec_l01Add_2) (b0_0 : Int) (b0_1 : Int) (b0_2 : Int) (b1_0 : Int) (b1_1 : Int) (b1_2 : Int) (b2_0 : Int) (b2_1 : Int) (b2_2 : Int) : Option R :=
  cond (decide (b0_2 < b1_2))
  (nx (m_spec_l01Add_2 (IntKind.wrap IntKind.i64 (b0_0 * (2 : Int))) (IntKind.wrap IntKind.i64 (b0_1 * (2 : Int))) (IntKind.wrap IntKind.i64 (b0_2 + (1 : Int))) b1_0 b1_1 b1_2 b2_0 b2_1 b2_2))
  (hx.1 (d_spec_l01Add_2_0 b0_0 b0_1 b0_2 b1_0 b1_1 b1_2 b2_0 b2_1 b2_2))
noncomputable def t_spec_l01Add_2 {R : Type} (nx : s_spec_l01Add_2.T → Option R) (hx : exH R x_spec_l01Add_2) (z : s_spec_l01Add_2.T) : Option R := u_spec_l01Add_2 nx hx z.2.1.1.1 z.2.1.1.2.1 z.2.1.1.2.2.1 z.2.1.2.1.1 z.2.1.2.1.2.1 z.2.1.2.1.2.2.1 z.2.1.2.2.1.1 z.2.1.2.2.1.2.1 z.2.1.2.2.1.2.2.1
theorem nat_spec_l01Add_2 : Natural @t_spec_l01Add_2 := fun R nx hx z => by
  show u_spec_l01Add_2 nx hx z.2.1.1.1 z.2.1.1.2.1 z.2.1.1.2.2.1 z.2.1.2.1.1 z.2.1.2.1.2.1 z.2.1.2.1.2.2.1 z.2.1.2.2.1.1 z.2.1.2.2.1.2.1 z.2.1.2.2.1.2.2.1 = (u_spec_l01Add_2 (fun y => some (.inl y)) (hIn x_spec_l01Add_2 fun x => some (.inr x)) z.2.1.1.1 z.2.1.1.2.1 z.2.1.1.2.2.1 z.2.1.2.1.1 z.2.1.2.1.2.1 z.2.1.2.1.2.2.1 z.2.1.2.2.1.1 z.2.1.2.2.1.2.1 z.2.1.2.2.1.2.2.1).bind (goOn nx hx)
  unfold u_spec_l01Add_2
  exact nat_cond (rfl) (rfl)
noncomputable def w_spec_l01Add_2 : s_spec_l01Add_2.T → Option (exT x_spec_l01Add_2) := wOf @t_spec_l01Add_2
theorem wq_spec_l01Add_2 (b0_0 : Int) (b0_1 : Int) (b0_2 : Int) (b1_0 : Int) (b1_1 : Int) (b1_2 : Int) (b2_0 : Int) (b2_1 : Int) (b2_2 : Int) : w_spec_l01Add_2 (m_spec_l01Add_2 b0_0 b0_1 b0_2 b1_0 b1_1 b1_2 b2_0 b2_1 b2_2) = u_spec_l01Add_2 w_spec_l01Add_2 (hIn x_spec_l01Add_2 some) b0_0 b0_1 b0_2 b1_0 b1_1 b1_2 b2_0 b2_1 b2_2 := wOf_eq nat_spec_l01Add_2 _
def lh_spec_l01Add_2 : LoopHint := ⟨[2, 3, 4], [2, 3, 4], [2, 3, 4], [2, 3, 4]⟩
abbrev s_spec_l01Add_6 : LS := ⟨[(false, [(.ptr 2 0)]), (false, [(.ptr 3 0)]), (false, [(.ptr 4 0)])], [(false, [(.int .i64), (.int .i64), (.int .i64)]), (false, [(.int .i64), (.int .i64), (.int .i64)]), (false, [(.int .i64), (.int .i64), (.int .i64)])], []⟩
abbrev e_spec_l01Add_6_0 : LS := ⟨[(false, [(.ptr 2 0)]), (false, [(.ptr 3 0)]), (false, [(.ptr 4 0)])], [(false, [(.int .i64), (.int .i64), (.int .i64)]), (false, [(.int .i64), (.int .i64), (.int .i64)]), (false, [(.int .i64), (.int .i64), (.int .i64)])], []⟩
abbrev d_spec_l01Add_6_0 (v0 : Int) (v1 : Int) (v2 : Int) (v3 : Int) (v4 : Int) (v5 : Int) (v6 : Int) (v7 : Int) (v8 : Int) : e_spec_l01Add_6_0.T := ((((), ()), ((), ()), ((), ()), ()), ((v0, v1, v2, ()), (v3, v4, v5, ()), (v6, v7, v8, ()), ()), ())
abbrev x_spec_l01Add_6 : List (Ex × LS) := [(.exit 2, e_spec_l01Add_6_0)]
abbrev m_spec_l01Add_6 (b0_0 : Int) (b0_1 : Int) (b0_2 : Int) (b1_0 : Int) (b1_1 : Int) (b1_2 : Int) (b2_0 : Int) (b2_1 : Int) (b2_2 : Int) : s_spec_l01Add_6.T := ((((), ()), ((), ()), ((), ()), ()), ((b0_0, b0_1, b0_2, ()), (b1_0, b1_1, b1_2, ()), (b2_0, b2_1, b2_2, ()), ()), ())
noncomputable def u_spec_l01Add_6 {R : Type} (nx : s_spec_l01Add_6.T → Option R) (hx : exH R x_spec_l01Add_6) (b0_0 : Int) (b0_1 : Int) (b0_2 : Int) (b1_0 : Int) (b1_1 : Int) (b1_2 : Int) (b2_0 : Int) (b2_1 : Int) (b2_2 : Int) : Option R :=
  cond (decide (b1_2 < b0_2))
  (nx (m_spec_l01Add_6 b0_0 b0_1 b0_2 (IntKind.wrap IntKind.i64 (b1_0 * (2 : Int))) (IntKind.wrap IntKind.i64 (b1_1 * (2 : Int))) (IntKind.wrap IntKind.i64 (b1_2 + (1 : Int))) b2_0 b2_1 b2_2))
  (hx.1 (d_spec_l01Add_6_0 b0_0 b0_1 b0_2 b1_0 b1_1 b1_2 b2_0 b2_1 b2_2))
noncomputable def t_spec_l01Add_6 {R : Type} (nx : s_spec_l01Add_6.T → Option R) (hx : exH R x_spec_l01Add_6) (z : s_spec_l01Add_6.T) : Option R := u_spec_l01Add_6 nx hx z.2.1.1.1 z.2.1.1.2.1 z.2.1.1.2.2.1 z.2.1.2.1.1 z.2.1.2.1.2.1 z.2.1.2.1.2.2.1 z.2.1.2.2.1.1 z.2.1.2.2.1.2.1 z.2.1.2.2.1.2.2.1
theorem nat_spec_l01Add_6 : Natural @t_spec_l01Add_6 := fun R nx hx z => by
  show u_spec_l01Add_6 nx hx z.2.1.1.1 z.2.1.1.2.1 z.2.1.1.2.2.1 z.2.1.2.1.1 z.2.1.2.1.2.1 z.2.1.2.1.2.2.1 z.2.1.2.2.1.1 z.2.1.2.2.1.2.1 z.2.1.2.2.1.2.2.1 = (u_spec_l01Add_6 (fun y => some (.inl y)) (hIn x_spec_l01Add_6 fun x => some (.inr x)) z.2.1.1.1 z.2.1.1.2.1 z.2.1.1.2.2.1 z.2.1.2.1.1 z.2.1.2.1.2.1 z.2.1.2.1.2.2.1 z.2.1.2.2.1.1 z.2.1.2.2.1.2.1 z.2.1.2.2.1.2.2.1).bind (goOn nx hx)
  unfold u_spec_l01Add_6
  exact nat_cond (rfl) (rfl)
noncomputable def w_spec_l01Add_6 : s_spec_l01Add_6.T → Option (exT x_spec_l01Add_6) := wOf @t_spec_l01Add_6
theorem wq_spec_l01Add_6 (b0_0 : Int) (b0_1 : Int) (b0_2 : Int) (b1_0 : Int) (b1_1 : Int) (b1_2 : Int) (b2_0 : Int) (b2_1 : Int) (b2_2 : Int) : w_spec_l01Add_6 (m_spec_l01Add_6 b0_0 b0_1 b0_2 b1_0 b1_1 b1_2 b2_0 b2_1 b2_2) = u_spec_l01Add_6 w_spec_l01Add_6 (hIn x_spec_l01Add_6 some) b0_0 b0_1 b0_2 b1_0 b1_1 b1_2 b2_0 b2_1 b2_2 := wOf_eq nat_spec_l01Add_6 _
def lh_spec_l01Add_6 : LoopHint := ⟨[2, 3, 4], [2, 3, 4], [2, 3, 4], [2, 3, 4]⟩
noncomputable def h_spec_l01Add : Hints Rv := ⟨fun k => match k with | 2 => lh_spec_l01Add_2 | 6 => lh_spec_l01Add_6 | _ => ⟨[], [], [], []⟩, fun k => match k with | 2 => some (loopX s_spec_l01Add_2 x_spec_l01Add_2 w_spec_l01Add_2) | 6 => some (loopX s_spec_l01Add_6 x_spec_l01Add_6 w_spec_l01Add_6) | _ => none⟩
theorem st_spec_l01Add_2 (n : Nat) (z : s_spec_l01Add_2.T) (k : Ex → Live → Option Rv) : loopN ⟨53, 53⟩ lh_spec_l01Add_2 (den (tab C0 T_spec_l01Add) ⟨53, 53⟩ h_spec_l01Add 1 (loopOf Tryd.f61 1)) (n + 1) (s_spec_l01Add_2.enc z) k =
    t_spec_l01Add_2 (fun y => loopN ⟨53, 53⟩ lh_spec_l01Add_2 (den (tab C0 T_spec_l01Add) ⟨53, 53⟩ h_spec_l01Add 1 (loopOf Tryd.f61 1)) n (s_spec_l01Add_2.enc y) k) (hK k x_spec_l01Add_2) z := by kernel_rfl
theorem st_spec_l01Add_6 (n : Nat) (z : s_spec_l01Add_6.T) (k : Ex → Live → Option Rv) : loopN ⟨53, 53⟩ lh_spec_l01Add_6 (den (tab C0 T_spec_l01Add) ⟨53, 53⟩ h_spec_l01Add 1 (loopOf Tryd.f61 5)) (n + 1) (s_spec_l01Add_6.enc z) k =
    t_spec_l01Add_6 (fun y => loopN ⟨53, 53⟩ lh_spec_l01Add_6 (den (tab C0 T_spec_l01Add) ⟨53, 53⟩ h_spec_l01Add 1 (loopOf Tryd.f61 5)) n (s_spec_l01Add_6.enc y) k) (hK k x_spec_l01Add_6) z := by kernel_rfl
theorem hs_spec_l01Add : HintsOk (tab C0 T_spec_l01Add) ⟨53, 53⟩ h_spec_l01Add 1 (loops (codeOf Tryd.f61)) := by
  have hl : loops (codeOf Tryd.f61) = [loopOf Tryd.f61 1, loopOf Tryd.f61 5] := by kernel_rfl
  rw [hl]
  exact HintsOk.cons (n := 2) (lh := lh_spec_l01Add_2) (S := loopX s_spec_l01Add_2 x_spec_l01Add_2 w_spec_l01Add_2) (by kernel_rfl) rfl rfl (loopX_ok nat_spec_l01Add_2 st_spec_l01Add_2)
    (HintsOk.cons (n := 6) (lh := lh_spec_l01Add_6) (S := loopX s_spec_l01Add_6 x_spec_l01Add_6 w_spec_l01Add_6) (by kernel_rfl) rfl rfl (loopX_ok nat_spec_l01Add_6 st_spec_l01Add_6)
    (HintsOk.nil))
noncomputable def t_spec_l01Add {R : Type} (kx : (Int × (Int × Int)) → Option R) (a0 : (Int × (Int × Int))) (a1 : (Int × (Int × Int))) : Option R :=
  Option.bind (w_spec_l01Add_2 (m_spec_l01Add_2 a0.1 a0.2.1 a0.2.2 a1.1 a1.2.1 a1.2.2 (0 : Int) (0 : Int) (0 : Int))) (exC x_spec_l01Add_2
  (fun e102 =>
   Option.bind (w_spec_l01Add_6 (m_spec_l01Add_6 (e102.2.1.1.1 : Int) (e102.2.1.1.2.1 : Int) (e102.2.1.1.2.2.1 : Int) (e102.2.1.2.1.1 : Int) (e102.2.1.2.1.2.1 : Int) (e102.2.1.2.1.2.2.1 : Int) (e102.2.1.2.2.1.1 : Int) (e102.2.1.2.2.1.2.1 : Int) (e102.2.1.2.2.1.2.2.1 : Int))) (exC x_spec_l01Add_6
   (fun e121 =>
    Option.bind (g_spec_l01Low ((IntKind.wrap IntKind.i64 ((e121.2.1.1.1 : Int) + (e121.2.1.2.1.1 : Int))), ((IntKind.wrap IntKind.i64 ((e121.2.1.1.2.1 : Int) + (e121.2.1.2.1.2.1 : Int))), (e121.2.1.1.2.2.1 : Int)))) fun y131 =>
    kx y131, ())), ()))
noncomputable def g_spec_l01Add (a0 : (Int × (Int × Int))) (a1 : (Int × (Int × Int))) : Option ((Int × (Int × Int))) := t_spec_l01Add some a0 a1
theorem nat_spec_l01Add {R : Type} (kx : (Int × (Int × Int)) → Option R) (a0 : (Int × (Int × Int))) (a1 : (Int × (Int × Int))) : t_spec_l01Add kx a0 a1 = (g_spec_l01Add a0 a1).bind kx := by
  unfold g_spec_l01Add t_spec_l01Add
  exact nat_exC ⟨fun _ => nat_exC ⟨fun _ => nat_bind fun _ => rfl, trivial⟩, trivial⟩
abbrev as_spec_l01Add : List AX := [.val true (.pair (.int .i64) (.pair (.int .i64) (.int .i64))), .val true (.pair (.int .i64) (.pair (.int .i64) (.int .i64)))]
abbrev en_spec_l01Add : (Int × (Int × Int)) → AV × List CV := fun b => (.one ⟨true, [(.v (.int .i64 b.1)), (.v (.int .i64 b.2.1)), (.v (.int .i64 b.2.2))]⟩, [])
noncomputable abbrev k_spec_l01Add : Contract := .fx as_spec_l01Add ((Int × (Int × Int))) (fun z => g_spec_l01Add z.1 z.2.1) en_spec_l01Add
theorem r_spec_l01Add (z : argsX as_spec_l01Add) : runF (tab C0 T_spec_l01Add) h_spec_l01Add 1 Tryd.f61 (lentOf as_spec_l01Add) (xBoxes as_spec_l01Add z) (xVals as_spec_l01Add 0 z) K2 = t_spec_l01Add (fun b => some (en_spec_l01Add b)) z.1 z.2.1 := by kernel_rfl
theorem so_spec_l01Add : Sound C0 61 k_spec_l01Add :=
  Sound.fx a_spec_l01Add mixed Tryd.func61 (by kernel_rfl) (by kernel_rfl) h_spec_l01Add 1 hs_spec_l01Add (fun z => (r_spec_l01Add z).trans (nat_spec_l01Add _ z.1 z.2.1))

/-! ### F86 spec.l02Dot -/
noncomputable def T_spec_l02Dot : List (FuncId × Contract) := [(85, k_spec_l02Vec), (44, k_spec_l02Of), (88, k_spec_l01Mul), (61, k_spec_l01Add)]
theorem a_spec_l02Dot : AllSound C0 T_spec_l02Dot := .cons so_spec_l02Vec (.cons so_spec_l02Of (.cons so_spec_l01Mul (.cons so_spec_l01Add (.nil))))
noncomputable def t_spec_l02Dot {R : Type} (kx : (Int × (Int × Int)) → Option R) (a0 : Int) (a1 : ((Int × (Int × Int)) × (Int × (Int × Int)))) : Option R :=
  Option.bind (g_spec_l02Vec a0) fun y63 =>
  Option.bind (g_spec_l02Of y63) fun y64 =>
  Option.bind (g_spec_l01Mul y64.1 a1.1) fun y89 =>
  Option.bind (g_spec_l01Mul y64.2 a1.2) fun y90 =>
  Option.bind (g_spec_l01Add y89 y90) fun y132 =>
  kx y132
noncomputable def g_spec_l02Dot (a0 : Int) (a1 : ((Int × (Int × Int)) × (Int × (Int × Int)))) : Option ((Int × (Int × Int))) := t_spec_l02Dot some a0 a1
theorem nat_spec_l02Dot {R : Type} (kx : (Int × (Int × Int)) → Option R) (a0 : Int) (a1 : ((Int × (Int × Int)) × (Int × (Int × Int)))) : t_spec_l02Dot kx a0 a1 = (g_spec_l02Dot a0 a1).bind kx := by
  unfold g_spec_l02Dot t_spec_l02Dot
  exact nat_bind fun _ => nat_bind fun _ => nat_bind fun _ => nat_bind fun _ => nat_bind fun _ => rfl
abbrev as_spec_l02Dot : List AX := [.val false (.int .i64), .val true (.pair (.pair (.int .i64) (.pair (.int .i64) (.int .i64))) (.pair (.int .i64) (.pair (.int .i64) (.int .i64))))]
abbrev en_spec_l02Dot : (Int × (Int × Int)) → AV × List CV := fun b => (.one ⟨true, [(.v (.int .i64 b.1)), (.v (.int .i64 b.2.1)), (.v (.int .i64 b.2.2))]⟩, [])
noncomputable abbrev k_spec_l02Dot : Contract := .fx as_spec_l02Dot ((Int × (Int × Int))) (fun z => g_spec_l02Dot z.1 z.2.1) en_spec_l02Dot
theorem r_spec_l02Dot (z : argsX as_spec_l02Dot) : runF (tab C0 T_spec_l02Dot) noHints 1 Tryd.f86 (lentOf as_spec_l02Dot) (xBoxes as_spec_l02Dot z) (xVals as_spec_l02Dot 0 z) K2 = t_spec_l02Dot (fun b => some (en_spec_l02Dot b)) z.1 z.2.1 := by kernel_rfl
theorem so_spec_l02Dot : Sound C0 86 k_spec_l02Dot :=
  Sound.fx a_spec_l02Dot mixed Tryd.func86 (by kernel_rfl) (by kernel_rfl) noHints 1 noHints_ok (fun z => (r_spec_l02Dot z).trans (nat_spec_l02Dot _ z.1 z.2.1))

/-! ### F55 spec.l02Through -/
noncomputable def T_spec_l02Through : List (FuncId × Contract) := [(108, k_spec_l02Mod), (86, k_spec_l02Dot)]
theorem a_spec_l02Through : AllSound C0 T_spec_l02Through := .cons so_spec_l02Mod (.cons so_spec_l02Dot (.nil))
noncomputable def t_spec_l02Through {R : Type} (kx : (Int × (Int × (Int × Int))) → Option R) (a0 : ((Int × (Int × Int)) × (Int × (Int × Int)))) (a1 : Int) : Option R :=
  Option.bind (g_spec_l02Mod a1) fun y57 =>
  Option.bind (g_spec_l02Dot (IntKind.wrap IntKind.i64 ((Int.tmod y57 (8 : Int)) + (4 : Int))) a0) fun y133 =>
  kx ((Int.tmod y57 (8 : Int)), y133)
noncomputable def g_spec_l02Through (a0 : ((Int × (Int × Int)) × (Int × (Int × Int)))) (a1 : Int) : Option ((Int × (Int × (Int × Int)))) := t_spec_l02Through some a0 a1
theorem nat_spec_l02Through {R : Type} (kx : (Int × (Int × (Int × Int))) → Option R) (a0 : ((Int × (Int × Int)) × (Int × (Int × Int)))) (a1 : Int) : t_spec_l02Through kx a0 a1 = (g_spec_l02Through a0 a1).bind kx := by
  unfold g_spec_l02Through t_spec_l02Through
  exact nat_bind fun _ => nat_bind fun _ => rfl
abbrev as_spec_l02Through : List AX := [.val true (.pair (.pair (.int .i64) (.pair (.int .i64) (.int .i64))) (.pair (.int .i64) (.pair (.int .i64) (.int .i64)))), .val false (.int .i64)]
abbrev en_spec_l02Through : (Int × (Int × (Int × Int))) → AV × List CV := fun b => (.one ⟨true, [(.v (.int .i64 b.1)), (.v (.int .i64 b.2.1)), (.v (.int .i64 b.2.2.1)), (.v (.int .i64 b.2.2.2))]⟩, [])
noncomputable abbrev k_spec_l02Through : Contract := .fx as_spec_l02Through ((Int × (Int × (Int × Int)))) (fun z => g_spec_l02Through z.1 z.2.1) en_spec_l02Through
theorem r_spec_l02Through (z : argsX as_spec_l02Through) : runF (tab C0 T_spec_l02Through) noHints 1 Tryd.f55 (lentOf as_spec_l02Through) (xBoxes as_spec_l02Through z) (xVals as_spec_l02Through 0 z) K2 = t_spec_l02Through (fun b => some (en_spec_l02Through b)) z.1 z.2.1 := by kernel_rfl
theorem so_spec_l02Through : Sound C0 55 k_spec_l02Through :=
  Sound.fx a_spec_l02Through mixed Tryd.func55 (by kernel_rfl) (by kernel_rfl) noHints 1 noHints_ok (fun z => (r_spec_l02Through z).trans (nat_spec_l02Through _ z.1 z.2.1))

/-! ### F45 spec.l02LineOf -/
noncomputable def T_spec_l02LineOf : List (FuncId × Contract) := [(90, k_spec_l01Of)]
theorem a_spec_l02LineOf : AllSound C0 T_spec_l02LineOf := .cons so_spec_l01Of (.nil)
noncomputable def t_spec_l02LineOf {R : Type} (kx : (Int × (Int × (Int × Int))) → Option R) (a0 : (Int × (Int × (Int × Int)))) : Option R :=
  Option.bind (g_spec_l01Of a0.2) fun y137 =>
  kx (a0.1, y137)
noncomputable def g_spec_l02LineOf (a0 : (Int × (Int × (Int × Int)))) : Option ((Int × (Int × (Int × Int)))) := t_spec_l02LineOf some a0
theorem nat_spec_l02LineOf {R : Type} (kx : (Int × (Int × (Int × Int))) → Option R) (a0 : (Int × (Int × (Int × Int)))) : t_spec_l02LineOf kx a0 = (g_spec_l02LineOf a0).bind kx := by
  unfold g_spec_l02LineOf t_spec_l02LineOf
  exact nat_bind fun _ => rfl
abbrev as_spec_l02LineOf : List AX := [.val true (.pair (.int .i64) (.pair (.int .i64) (.pair (.int .i64) (.int .i64))))]
abbrev en_spec_l02LineOf : (Int × (Int × (Int × Int))) → AV × List CV := fun b => (.one ⟨true, [(.v (.int .i64 b.1)), (.v (.int .i64 b.2.1)), (.v (.int .i64 b.2.2.1)), (.v (.int .i64 b.2.2.2))]⟩, [])
noncomputable abbrev k_spec_l02LineOf : Contract := .fx as_spec_l02LineOf ((Int × (Int × (Int × Int)))) (fun z => g_spec_l02LineOf z.1) en_spec_l02LineOf
theorem r_spec_l02LineOf (z : argsX as_spec_l02LineOf) : runF (tab C0 T_spec_l02LineOf) noHints 1 Tryd.f45 (lentOf as_spec_l02LineOf) (xBoxes as_spec_l02LineOf z) (xVals as_spec_l02LineOf 0 z) K2 = t_spec_l02LineOf (fun b => some (en_spec_l02LineOf b)) z.1 := by kernel_rfl
theorem so_spec_l02LineOf : Sound C0 45 k_spec_l02LineOf :=
  Sound.fx a_spec_l02LineOf mixed Tryd.func45 (by kernel_rfl) (by kernel_rfl) noHints 1 noHints_ok (fun z => (r_spec_l02LineOf z).trans (nat_spec_l02LineOf _ z.1))

/-! ### F91 spec.l01Neg -/
noncomputable def T_spec_l01Neg : List (FuncId × Contract) := []
theorem a_spec_l01Neg : AllSound C0 T_spec_l01Neg := .nil
noncomputable def t_spec_l01Neg {R : Type} (kx : (Int × (Int × Int)) → Option R) (a0 : (Int × (Int × Int))) : Option R :=
  kx ((IntKind.wrap IntKind.i64 ((0 : Int) - a0.1)), ((IntKind.wrap IntKind.i64 ((0 : Int) - a0.2.1)), a0.2.2))
noncomputable def g_spec_l01Neg (a0 : (Int × (Int × Int))) : Option ((Int × (Int × Int))) := t_spec_l01Neg some a0
theorem nat_spec_l01Neg {R : Type} (kx : (Int × (Int × Int)) → Option R) (a0 : (Int × (Int × Int))) : t_spec_l01Neg kx a0 = (g_spec_l01Neg a0).bind kx := by
  unfold g_spec_l01Neg t_spec_l01Neg
  exact rfl
abbrev as_spec_l01Neg : List AX := [.val true (.pair (.int .i64) (.pair (.int .i64) (.int .i64)))]
abbrev en_spec_l01Neg : (Int × (Int × Int)) → AV × List CV := fun b => (.one ⟨true, [(.v (.int .i64 b.1)), (.v (.int .i64 b.2.1)), (.v (.int .i64 b.2.2))]⟩, [])
noncomputable abbrev k_spec_l01Neg : Contract := .fx as_spec_l01Neg ((Int × (Int × Int))) (fun z => g_spec_l01Neg z.1) en_spec_l01Neg
theorem r_spec_l01Neg (z : argsX as_spec_l01Neg) : runF (tab C0 T_spec_l01Neg) noHints 1 Tryd.f91 (lentOf as_spec_l01Neg) (xBoxes as_spec_l01Neg z) (xVals as_spec_l01Neg 0 z) K2 = t_spec_l01Neg (fun b => some (en_spec_l01Neg b)) z.1 := by kernel_rfl
theorem so_spec_l01Neg : Sound C0 91 k_spec_l01Neg :=
  Sound.fx a_spec_l01Neg mixed Tryd.func91 (by kernel_rfl) (by kernel_rfl) noHints 1 noHints_ok (fun z => (r_spec_l01Neg z).trans (nat_spec_l01Neg _ z.1))

/-! ### F47 spec.l01Sub -/
noncomputable def T_spec_l01Sub : List (FuncId × Contract) := [(91, k_spec_l01Neg), (61, k_spec_l01Add)]
theorem a_spec_l01Sub : AllSound C0 T_spec_l01Sub := .cons so_spec_l01Neg (.cons so_spec_l01Add (.nil))
noncomputable def t_spec_l01Sub {R : Type} (kx : (Int × (Int × Int)) → Option R) (a0 : (Int × (Int × Int))) (a1 : (Int × (Int × Int))) : Option R :=
  Option.bind (g_spec_l01Neg a1) fun y150 =>
  Option.bind (g_spec_l01Add a0 y150) fun y151 =>
  kx y151
noncomputable def g_spec_l01Sub (a0 : (Int × (Int × Int))) (a1 : (Int × (Int × Int))) : Option ((Int × (Int × Int))) := t_spec_l01Sub some a0 a1
theorem nat_spec_l01Sub {R : Type} (kx : (Int × (Int × Int)) → Option R) (a0 : (Int × (Int × Int))) (a1 : (Int × (Int × Int))) : t_spec_l01Sub kx a0 a1 = (g_spec_l01Sub a0 a1).bind kx := by
  unfold g_spec_l01Sub t_spec_l01Sub
  exact nat_bind fun _ => nat_bind fun _ => rfl
abbrev as_spec_l01Sub : List AX := [.val true (.pair (.int .i64) (.pair (.int .i64) (.int .i64))), .val true (.pair (.int .i64) (.pair (.int .i64) (.int .i64)))]
abbrev en_spec_l01Sub : (Int × (Int × Int)) → AV × List CV := fun b => (.one ⟨true, [(.v (.int .i64 b.1)), (.v (.int .i64 b.2.1)), (.v (.int .i64 b.2.2))]⟩, [])
noncomputable abbrev k_spec_l01Sub : Contract := .fx as_spec_l01Sub ((Int × (Int × Int))) (fun z => g_spec_l01Sub z.1 z.2.1) en_spec_l01Sub
theorem r_spec_l01Sub (z : argsX as_spec_l01Sub) : runF (tab C0 T_spec_l01Sub) noHints 1 Tryd.f47 (lentOf as_spec_l01Sub) (xBoxes as_spec_l01Sub z) (xVals as_spec_l01Sub 0 z) K2 = t_spec_l01Sub (fun b => some (en_spec_l01Sub b)) z.1 z.2.1 := by kernel_rfl
theorem so_spec_l01Sub : Sound C0 47 k_spec_l01Sub :=
  Sound.fx a_spec_l01Sub mixed Tryd.func47 (by kernel_rfl) (by kernel_rfl) noHints 1 noHints_ok (fun z => (r_spec_l01Sub z).trans (nat_spec_l01Sub _ z.1 z.2.1))

/-! ### F89 spec.l02Square -/
noncomputable def T_spec_l02Square : List (FuncId × Contract) := [(85, k_spec_l02Vec), (44, k_spec_l02Of), (88, k_spec_l01Mul), (61, k_spec_l01Add)]
theorem a_spec_l02Square : AllSound C0 T_spec_l02Square := .cons so_spec_l02Vec (.cons so_spec_l02Of (.cons so_spec_l01Mul (.cons so_spec_l01Add (.nil))))
noncomputable def t_spec_l02Square {R : Type} (kx : (Int × (Int × Int)) → Option R) (a0 : Int) : Option R :=
  Option.bind (g_spec_l02Vec a0) fun y154 =>
  Option.bind (g_spec_l02Of y154) fun y155 =>
  Option.bind (g_spec_l01Mul y155.1 y155.1) fun y156 =>
  Option.bind (g_spec_l01Mul y155.2 y155.2) fun y157 =>
  Option.bind (g_spec_l01Add y156 y157) fun y158 =>
  kx y158
noncomputable def g_spec_l02Square (a0 : Int) : Option ((Int × (Int × Int))) := t_spec_l02Square some a0
theorem nat_spec_l02Square {R : Type} (kx : (Int × (Int × Int)) → Option R) (a0 : Int) : t_spec_l02Square kx a0 = (g_spec_l02Square a0).bind kx := by
  unfold g_spec_l02Square t_spec_l02Square
  exact nat_bind fun _ => nat_bind fun _ => nat_bind fun _ => nat_bind fun _ => nat_bind fun _ => rfl
abbrev as_spec_l02Square : List AX := [.val false (.int .i64)]
abbrev en_spec_l02Square : (Int × (Int × Int)) → AV × List CV := fun b => (.one ⟨true, [(.v (.int .i64 b.1)), (.v (.int .i64 b.2.1)), (.v (.int .i64 b.2.2))]⟩, [])
noncomputable abbrev k_spec_l02Square : Contract := .fx as_spec_l02Square ((Int × (Int × Int))) (fun z => g_spec_l02Square z.1) en_spec_l02Square
theorem r_spec_l02Square (z : argsX as_spec_l02Square) : runF (tab C0 T_spec_l02Square) noHints 1 Tryd.f89 (lentOf as_spec_l02Square) (xBoxes as_spec_l02Square z) (xVals as_spec_l02Square 0 z) K2 = t_spec_l02Square (fun b => some (en_spec_l02Square b)) z.1 := by kernel_rfl
theorem so_spec_l02Square : Sound C0 89 k_spec_l02Square :=
  Sound.fx a_spec_l02Square mixed Tryd.func89 (by kernel_rfl) (by kernel_rfl) noHints 1 noHints_ok (fun z => (r_spec_l02Square z).trans (nat_spec_l02Square _ z.1))

/-! ### F87 spec.l01Div -/
noncomputable def T_spec_l01Div : List (FuncId × Contract) := [(114, k_spec_l01Low)]
theorem a_spec_l01Div : AllSound C0 T_spec_l01Div := .cons so_spec_l01Low (.nil)
abbrev s_spec_l01Div_6 : LS := ⟨[(false, [(.ptr 3 0)]), (false, [(.ptr 4 0)]), (false, [(.int .i64)]), (false, [(.ptr 7 0)])], [(false, [(.int .i64), (.int .i64), (.int .i64)]), (false, [(.int .i64), (.int .i64), (.int .i64)]), (false, [(.int .i64), (.int .i64), (.int .i64)])], []⟩
abbrev e_spec_l01Div_6_0 : LS := ⟨[(false, [(.ptr 3 0)]), (false, [(.ptr 4 0)]), (false, [(.int .i64)]), (false, [(.ptr 7 0)])], [(false, [(.int .i64), (.int .i64), (.int .i64)]), (false, [(.int .i64), (.int .i64), (.int .i64)]), (false, [(.int .i64), (.int .i64), (.int .i64)])], []⟩
abbrev d_spec_l01Div_6_0 (v0 : Int) (v1 : Int) (v2 : Int) (v3 : Int) (v4 : Int) (v5 : Int) (v6 : Int) (v7 : Int) (v8 : Int) (v9 : Int) : e_spec_l01Div_6_0.T := ((((), ()), ((), ()), (v0, ()), ((), ()), ()), ((v1, v2, v3, ()), (v4, v5, v6, ()), (v7, v8, v9, ()), ()), ())
abbrev x_spec_l01Div_6 : List (Ex × LS) := [(.exit 0, e_spec_l01Div_6_0)]
abbrev m_spec_l01Div_6 (x6 : Int) (b0_0 : Int) (b0_1 : Int) (b0_2 : Int) (b1_0 : Int) (b1_1 : Int) (b1_2 : Int) (b2_0 : Int) (b2_1 : Int) (b2_2 : Int) : s_spec_l01Div_6.T := ((((), ()), ((), ()), (x6, ()), ((), ()), ()), ((b0_0, b0_1, b0_2, ()), (b1_0, b1_1, b1_2, ()), (b2_0, b2_1, b2_2, ()), ()), ())
noncomputable def u_spec_l01Div_6 {R : Type} (nx : s_spec_l01Div_6.T → Option R) (hx : exH R x_spec_l01Div_6) (x6 : Int) (b0_0 : Int) (b0_1 : Int) (b0_2 : Int) (b1_0 : Int) (b1_1 : Int) (b1_2 : Int) (b2_0 : Int) (b2_1 : Int) (b2_2 : Int) : Option R :=
  cond ((Int.tmod x6 (2 : Int)) == (0 : Int))
  (nx (m_spec_l01Div_6 (IntKind.wrap IntKind.i64 (Int.tdiv x6 (2 : Int))) b0_0 b0_1 b0_2 b1_0 b1_1 b1_2 b2_0 b2_1 (IntKind.wrap IntKind.i64 (b2_2 + (1 : Int)))))
  (hx.1 (d_spec_l01Div_6_0 x6 b0_0 b0_1 b0_2 b1_0 b1_1 b1_2 b2_0 b2_1 b2_2))
noncomputable def t_spec_l01Div_6 {R : Type} (nx : s_spec_l01Div_6.T → Option R) (hx : exH R x_spec_l01Div_6) (z : s_spec_l01Div_6.T) : Option R := u_spec_l01Div_6 nx hx z.1.2.2.1.1 z.2.1.1.1 z.2.1.1.2.1 z.2.1.1.2.2.1 z.2.1.2.1.1 z.2.1.2.1.2.1 z.2.1.2.1.2.2.1 z.2.1.2.2.1.1 z.2.1.2.2.1.2.1 z.2.1.2.2.1.2.2.1
theorem nat_spec_l01Div_6 : Natural @t_spec_l01Div_6 := fun R nx hx z => by
  show u_spec_l01Div_6 nx hx z.1.2.2.1.1 z.2.1.1.1 z.2.1.1.2.1 z.2.1.1.2.2.1 z.2.1.2.1.1 z.2.1.2.1.2.1 z.2.1.2.1.2.2.1 z.2.1.2.2.1.1 z.2.1.2.2.1.2.1 z.2.1.2.2.1.2.2.1 = (u_spec_l01Div_6 (fun y => some (.inl y)) (hIn x_spec_l01Div_6 fun x => some (.inr x)) z.1.2.2.1.1 z.2.1.1.1 z.2.1.1.2.1 z.2.1.1.2.2.1 z.2.1.2.1.1 z.2.1.2.1.2.1 z.2.1.2.1.2.2.1 z.2.1.2.2.1.1 z.2.1.2.2.1.2.1 z.2.1.2.2.1.2.2.1).bind (goOn nx hx)
  unfold u_spec_l01Div_6
  exact nat_cond (rfl) (rfl)
noncomputable def w_spec_l01Div_6 : s_spec_l01Div_6.T → Option (exT x_spec_l01Div_6) := wOf @t_spec_l01Div_6
theorem wq_spec_l01Div_6 (x6 : Int) (b0_0 : Int) (b0_1 : Int) (b0_2 : Int) (b1_0 : Int) (b1_1 : Int) (b1_2 : Int) (b2_0 : Int) (b2_1 : Int) (b2_2 : Int) : w_spec_l01Div_6 (m_spec_l01Div_6 x6 b0_0 b0_1 b0_2 b1_0 b1_1 b1_2 b2_0 b2_1 b2_2) = u_spec_l01Div_6 w_spec_l01Div_6 (hIn x_spec_l01Div_6 some) x6 b0_0 b0_1 b0_2 b1_0 b1_1 b1_2 b2_0 b2_1 b2_2 := wOf_eq nat_spec_l01Div_6 _
def lh_spec_l01Div_6 : LoopHint := ⟨[3, 4, 6, 7], [3, 4, 7], [3, 4, 6, 7], [3, 4, 7]⟩
abbrev s_spec_l01Div_14 : LS := ⟨[(false, [(.ptr 4 0)]), (false, [(.ptr 7 0)]), (false, [(.int .i64)])], [(false, [(.int .i64), (.int .i64), (.int .i64)]), (false, [(.int .i64), (.int .i64), (.int .i64)])], []⟩
abbrev e_spec_l01Div_14_0 : LS := ⟨[(false, [(.ptr 4 0)]), (false, [(.ptr 7 0)])], [(false, [(.int .i64), (.int .i64), (.int .i64)]), (false, [(.int .i64), (.int .i64), (.int .i64)])], []⟩
abbrev d_spec_l01Div_14_0 (v0 : Int) (v1 : Int) (v2 : Int) (v3 : Int) (v4 : Int) (v5 : Int) : e_spec_l01Div_14_0.T := ((((), ()), ((), ()), ()), ((v0, v1, v2, ()), (v3, v4, v5, ()), ()), ())
abbrev x_spec_l01Div_14 : List (Ex × LS) := [(.exit 2, e_spec_l01Div_14_0)]
abbrev m_spec_l01Div_14 (x8 : Int) (b0_0 : Int) (b0_1 : Int) (b0_2 : Int) (b1_0 : Int) (b1_1 : Int) (b1_2 : Int) : s_spec_l01Div_14.T := ((((), ()), ((), ()), (x8, ()), ()), ((b0_0, b0_1, b0_2, ()), (b1_0, b1_1, b1_2, ()), ()), ())
noncomputable def u_spec_l01Div_14 {R : Type} (nx : s_spec_l01Div_14.T → Option R) (hx : exH R x_spec_l01Div_14) (x8 : Int) (b0_0 : Int) (b0_1 : Int) (b0_2 : Int) (b1_0 : Int) (b1_1 : Int) (b1_2 : Int) : Option R :=
  cond (decide (x8 > (0 : Int)))
  (cond (decide (b1_2 > (0 : Int)))
   (nx (m_spec_l01Div_14 (IntKind.wrap IntKind.i64 (x8 - (1 : Int))) b0_0 b0_1 b0_2 b1_0 b1_1 (IntKind.wrap IntKind.i64 (b1_2 - (1 : Int)))))
   (nx (m_spec_l01Div_14 (IntKind.wrap IntKind.i64 (x8 - (1 : Int))) b0_0 b0_1 b0_2 (IntKind.wrap IntKind.i64 (b1_0 * (2 : Int))) (IntKind.wrap IntKind.i64 (b1_1 * (2 : Int))) b1_2)))
  (hx.1 (d_spec_l01Div_14_0 b0_0 b0_1 b0_2 b1_0 b1_1 b1_2))
noncomputable def t_spec_l01Div_14 {R : Type} (nx : s_spec_l01Div_14.T → Option R) (hx : exH R x_spec_l01Div_14) (z : s_spec_l01Div_14.T) : Option R := u_spec_l01Div_14 nx hx z.1.2.2.1.1 z.2.1.1.1 z.2.1.1.2.1 z.2.1.1.2.2.1 z.2.1.2.1.1 z.2.1.2.1.2.1 z.2.1.2.1.2.2.1
theorem nat_spec_l01Div_14 : Natural @t_spec_l01Div_14 := fun R nx hx z => by
  show u_spec_l01Div_14 nx hx z.1.2.2.1.1 z.2.1.1.1 z.2.1.1.2.1 z.2.1.1.2.2.1 z.2.1.2.1.1 z.2.1.2.1.2.1 z.2.1.2.1.2.2.1 = (u_spec_l01Div_14 (fun y => some (.inl y)) (hIn x_spec_l01Div_14 fun x => some (.inr x)) z.1.2.2.1.1 z.2.1.1.1 z.2.1.1.2.1 z.2.1.1.2.2.1 z.2.1.2.1.1 z.2.1.2.1.2.1 z.2.1.2.1.2.2.1).bind (goOn nx hx)
  unfold u_spec_l01Div_14
  exact nat_cond (nat_cond (rfl) (rfl)) (rfl)
noncomputable def w_spec_l01Div_14 : s_spec_l01Div_14.T → Option (exT x_spec_l01Div_14) := wOf @t_spec_l01Div_14
theorem wq_spec_l01Div_14 (x8 : Int) (b0_0 : Int) (b0_1 : Int) (b0_2 : Int) (b1_0 : Int) (b1_1 : Int) (b1_2 : Int) : w_spec_l01Div_14 (m_spec_l01Div_14 x8 b0_0 b0_1 b0_2 b1_0 b1_1 b1_2) = u_spec_l01Div_14 w_spec_l01Div_14 (hIn x_spec_l01Div_14 some) x8 b0_0 b0_1 b0_2 b1_0 b1_1 b1_2 := wOf_eq nat_spec_l01Div_14 _
def lh_spec_l01Div_14 : LoopHint := ⟨[4, 7, 8], [4, 7], [4, 7], [4, 7]⟩
noncomputable def h_spec_l01Div : Hints Rv := ⟨fun k => match k with | 6 => lh_spec_l01Div_6 | 14 => lh_spec_l01Div_14 | _ => ⟨[], [], [], []⟩, fun k => match k with | 6 => some (loopX s_spec_l01Div_6 x_spec_l01Div_6 w_spec_l01Div_6) | 14 => some (loopX s_spec_l01Div_14 x_spec_l01Div_14 w_spec_l01Div_14) | _ => none⟩
theorem st_spec_l01Div_6 (n : Nat) (z : s_spec_l01Div_6.T) (k : Ex → Live → Option Rv) : loopN ⟨105, 105⟩ lh_spec_l01Div_6 (den (tab C0 T_spec_l01Div) ⟨105, 105⟩ h_spec_l01Div 1 (loopOf Tryd.f87 5)) (n + 1) (s_spec_l01Div_6.enc z) k =
    t_spec_l01Div_6 (fun y => loopN ⟨105, 105⟩ lh_spec_l01Div_6 (den (tab C0 T_spec_l01Div) ⟨105, 105⟩ h_spec_l01Div 1 (loopOf Tryd.f87 5)) n (s_spec_l01Div_6.enc y) k) (hK k x_spec_l01Div_6) z := by kernel_rfl
theorem st_spec_l01Div_14 (n : Nat) (z : s_spec_l01Div_14.T) (k : Ex → Live → Option Rv) : loopN ⟨105, 105⟩ lh_spec_l01Div_14 (den (tab C0 T_spec_l01Div) ⟨105, 105⟩ h_spec_l01Div 1 (loopOf Tryd.f87 13)) (n + 1) (s_spec_l01Div_14.enc z) k =
    t_spec_l01Div_14 (fun y => loopN ⟨105, 105⟩ lh_spec_l01Div_14 (den (tab C0 T_spec_l01Div) ⟨105, 105⟩ h_spec_l01Div 1 (loopOf Tryd.f87 13)) n (s_spec_l01Div_14.enc y) k) (hK k x_spec_l01Div_14) z := by kernel_rfl
theorem hs_spec_l01Div : HintsOk (tab C0 T_spec_l01Div) ⟨105, 105⟩ h_spec_l01Div 1 (loops (codeOf Tryd.f87)) := by
  have hl : loops (codeOf Tryd.f87) = [loopOf Tryd.f87 5, loopOf Tryd.f87 13] := by kernel_rfl
  rw [hl]
  exact HintsOk.cons (n := 6) (lh := lh_spec_l01Div_6) (S := loopX s_spec_l01Div_6 x_spec_l01Div_6 w_spec_l01Div_6) (by kernel_rfl) rfl rfl (loopX_ok nat_spec_l01Div_6 st_spec_l01Div_6)
    (HintsOk.cons (n := 14) (lh := lh_spec_l01Div_14) (S := loopX s_spec_l01Div_14 x_spec_l01Div_14 w_spec_l01Div_14) (by kernel_rfl) rfl rfl (loopX_ok nat_spec_l01Div_14 st_spec_l01Div_14)
    (HintsOk.nil))
noncomputable def t_spec_l01Div {R : Type} (kx : (Int × (Int × Int)) × Bool → Option R) (a0 : (Int × (Int × Int))) (a1 : (Int × (Int × Int))) : Option R :=
  cond ((IntKind.wrap IntKind.i64 ((IntKind.wrap IntKind.i64 (a1.1 * a1.1)) - (IntKind.wrap IntKind.i64 ((IntKind.wrap IntKind.i64 ((2 : Int) * a1.2.1)) * a1.2.1)))) == (0 : Int))
  (kx (((0 : Int), ((0 : Int), (0 : Int))), Bool.false))
  (Option.bind (w_spec_l01Div_6 (m_spec_l01Div_6 (IntKind.wrap IntKind.i64 ((IntKind.wrap IntKind.i64 (a1.1 * a1.1)) - (IntKind.wrap IntKind.i64 ((IntKind.wrap IntKind.i64 ((2 : Int) * a1.2.1)) * a1.2.1)))) a1.1 a1.2.1 a1.2.2 (0 : Int) (0 : Int) (0 : Int) (IntKind.wrap IntKind.i64 ((IntKind.wrap IntKind.i64 (a0.1 * a1.1)) - (IntKind.wrap IntKind.i64 ((IntKind.wrap IntKind.i64 ((2 : Int) * a0.2.1)) * a1.2.1)))) (IntKind.wrap IntKind.i64 ((IntKind.wrap IntKind.i64 (a0.2.1 * a1.1)) - (IntKind.wrap IntKind.i64 (a0.1 * a1.2.1)))) a0.2.2)) (exC x_spec_l01Div_6
   (fun e172 =>
    cond (decide ((e172.1.2.2.1.1 : Int) = (0 : Int)))
    (none)
    (cond ((Int.tmod (e172.2.1.2.2.1.1 : Int) (e172.1.2.2.1.1 : Int)) != (0 : Int))
     (kx (((0 : Int), ((0 : Int), (0 : Int))), Bool.false))
     (cond (decide ((e172.1.2.2.1.1 : Int) = (0 : Int)))
      (none)
      (cond ((Int.tmod (e172.2.1.2.2.1.2.1 : Int) (e172.1.2.2.1.1 : Int)) != (0 : Int))
       (kx (((0 : Int), ((0 : Int), (0 : Int))), Bool.false))
       (cond (decide ((e172.1.2.2.1.1 : Int) = (0 : Int)))
        (none)
        (cond (decide ((e172.1.2.2.1.1 : Int) = (0 : Int)))
         (none)
         (Option.bind (w_spec_l01Div_14 (m_spec_l01Div_14 (e172.2.1.1.2.2.1 : Int) (e172.2.1.2.1.1 : Int) (e172.2.1.2.1.2.1 : Int) (e172.2.1.2.1.2.2.1 : Int) (IntKind.wrap IntKind.i64 (Int.tdiv (e172.2.1.2.2.1.1 : Int) (e172.1.2.2.1.1 : Int))) (IntKind.wrap IntKind.i64 (Int.tdiv (e172.2.1.2.2.1.2.1 : Int) (e172.1.2.2.1.1 : Int))) (e172.2.1.2.2.1.2.2.1 : Int))) (exC x_spec_l01Div_14
          (fun e190 =>
           Option.bind (g_spec_l01Low ((e190.2.1.2.1.1 : Int), ((e190.2.1.2.1.2.1 : Int), (e190.2.1.2.1.2.2.1 : Int)))) fun y197 =>
           kx (y197, Bool.true), ())))))))), ())))
noncomputable def g_spec_l01Div (a0 : (Int × (Int × Int))) (a1 : (Int × (Int × Int))) : Option ((Int × (Int × Int)) × Bool) := t_spec_l01Div some a0 a1
theorem nat_spec_l01Div {R : Type} (kx : (Int × (Int × Int)) × Bool → Option R) (a0 : (Int × (Int × Int))) (a1 : (Int × (Int × Int))) : t_spec_l01Div kx a0 a1 = (g_spec_l01Div a0 a1).bind kx := by
  unfold g_spec_l01Div t_spec_l01Div
  exact nat_cond (rfl) (nat_exC ⟨fun _ => nat_cond (rfl) (nat_cond (rfl) (nat_cond (rfl) (nat_cond (rfl) (nat_cond (rfl) (nat_cond (rfl) (nat_exC ⟨fun _ => nat_bind fun _ => rfl, trivial⟩)))))), trivial⟩)
abbrev as_spec_l01Div : List AX := [.val true (.pair (.int .i64) (.pair (.int .i64) (.int .i64))), .val true (.pair (.int .i64) (.pair (.int .i64) (.int .i64)))]
abbrev en_spec_l01Div : (Int × (Int × Int)) × Bool → AV × List CV := fun b => (.tup [⟨true, [(.v (.int .i64 b.1.1)), (.v (.int .i64 b.1.2.1)), (.v (.int .i64 b.1.2.2))]⟩, ⟨false, [(.v (.bool b.2))]⟩], [])
noncomputable abbrev k_spec_l01Div : Contract := .fx as_spec_l01Div ((Int × (Int × Int)) × Bool) (fun z => g_spec_l01Div z.1 z.2.1) en_spec_l01Div
theorem r_spec_l01Div (z : argsX as_spec_l01Div) : runF (tab C0 T_spec_l01Div) h_spec_l01Div 1 Tryd.f87 (lentOf as_spec_l01Div) (xBoxes as_spec_l01Div z) (xVals as_spec_l01Div 0 z) K2 = t_spec_l01Div (fun b => some (en_spec_l01Div b)) z.1 z.2.1 := by kernel_rfl
theorem so_spec_l01Div : Sound C0 87 k_spec_l01Div :=
  Sound.fx a_spec_l01Div mixed Tryd.func87 (by kernel_rfl) (by kernel_rfl) h_spec_l01Div 1 hs_spec_l01Div (fun z => (r_spec_l01Div z).trans (nat_spec_l01Div _ z.1 z.2.1))

/-! ### F124 spec.l02Minus -/
noncomputable def T_spec_l02Minus : List (FuncId × Contract) := [(47, k_spec_l01Sub)]
theorem a_spec_l02Minus : AllSound C0 T_spec_l02Minus := .cons so_spec_l01Sub (.nil)
noncomputable def t_spec_l02Minus {R : Type} (kx : ((Int × (Int × Int)) × (Int × (Int × Int))) → Option R) (a0 : ((Int × (Int × Int)) × (Int × (Int × Int)))) (a1 : ((Int × (Int × Int)) × (Int × (Int × Int)))) : Option R :=
  Option.bind (g_spec_l01Sub a0.1 a1.1) fun y204 =>
  Option.bind (g_spec_l01Sub a0.2 a1.2) fun y205 =>
  kx (y204, y205)
noncomputable def g_spec_l02Minus (a0 : ((Int × (Int × Int)) × (Int × (Int × Int)))) (a1 : ((Int × (Int × Int)) × (Int × (Int × Int)))) : Option (((Int × (Int × Int)) × (Int × (Int × Int)))) := t_spec_l02Minus some a0 a1
theorem nat_spec_l02Minus {R : Type} (kx : ((Int × (Int × Int)) × (Int × (Int × Int))) → Option R) (a0 : ((Int × (Int × Int)) × (Int × (Int × Int)))) (a1 : ((Int × (Int × Int)) × (Int × (Int × Int)))) : t_spec_l02Minus kx a0 a1 = (g_spec_l02Minus a0 a1).bind kx := by
  unfold g_spec_l02Minus t_spec_l02Minus
  exact nat_bind fun _ => nat_bind fun _ => rfl
abbrev as_spec_l02Minus : List AX := [.val true (.pair (.pair (.int .i64) (.pair (.int .i64) (.int .i64))) (.pair (.int .i64) (.pair (.int .i64) (.int .i64)))), .val true (.pair (.pair (.int .i64) (.pair (.int .i64) (.int .i64))) (.pair (.int .i64) (.pair (.int .i64) (.int .i64))))]
abbrev en_spec_l02Minus : ((Int × (Int × Int)) × (Int × (Int × Int))) → AV × List CV := fun b => (.one ⟨true, [(.v (.int .i64 b.1.1)), (.v (.int .i64 b.1.2.1)), (.v (.int .i64 b.1.2.2)), (.v (.int .i64 b.2.1)), (.v (.int .i64 b.2.2.1)), (.v (.int .i64 b.2.2.2))]⟩, [])
noncomputable abbrev k_spec_l02Minus : Contract := .fx as_spec_l02Minus (((Int × (Int × Int)) × (Int × (Int × Int)))) (fun z => g_spec_l02Minus z.1 z.2.1) en_spec_l02Minus
theorem r_spec_l02Minus (z : argsX as_spec_l02Minus) : runF (tab C0 T_spec_l02Minus) noHints 1 Tryd.f124 (lentOf as_spec_l02Minus) (xBoxes as_spec_l02Minus z) (xVals as_spec_l02Minus 0 z) K2 = t_spec_l02Minus (fun b => some (en_spec_l02Minus b)) z.1 z.2.1 := by kernel_rfl
theorem so_spec_l02Minus : Sound C0 124 k_spec_l02Minus :=
  Sound.fx a_spec_l02Minus mixed Tryd.func124 (by kernel_rfl) (by kernel_rfl) noHints 1 noHints_ok (fun z => (r_spec_l02Minus z).trans (nat_spec_l02Minus _ z.1 z.2.1))

/-! ### F110 spec.l02Reflect -/
noncomputable def T_spec_l02Reflect : List (FuncId × Contract) := [(85, k_spec_l02Vec), (44, k_spec_l02Of), (86, k_spec_l02Dot), (47, k_spec_l01Sub), (89, k_spec_l02Square), (87, k_spec_l01Div), (61, k_spec_l01Add), (88, k_spec_l01Mul), (124, k_spec_l02Minus)]
theorem a_spec_l02Reflect : AllSound C0 T_spec_l02Reflect := .cons so_spec_l02Vec (.cons so_spec_l02Of (.cons so_spec_l02Dot (.cons so_spec_l01Sub (.cons so_spec_l02Square (.cons so_spec_l01Div (.cons so_spec_l01Add (.cons so_spec_l01Mul (.cons so_spec_l02Minus (.nil)))))))))
noncomputable def t_spec_l02Reflect {R : Type} (kx : ((Int × (Int × Int)) × (Int × (Int × Int))) → Option R) (a0 : (Int × (Int × (Int × Int)))) (a1 : ((Int × (Int × Int)) × (Int × (Int × Int)))) : Option R :=
  Option.bind (g_spec_l02Vec (IntKind.wrap IntKind.i64 (a0.1 + (4 : Int)))) fun y144 =>
  Option.bind (g_spec_l02Of y144) fun y145 =>
  Option.bind (g_spec_l02Dot (IntKind.wrap IntKind.i64 (a0.1 + (4 : Int))) a1) fun y146 =>
  Option.bind (g_spec_l01Sub y146 a0.2) fun y152 =>
  Option.bind (g_spec_l02Square (IntKind.wrap IntKind.i64 (a0.1 + (4 : Int)))) fun y159 =>
  Option.bind (g_spec_l01Div y152 y159) fun y198 =>
  Option.bind (g_spec_l01Add y198.1 y198.1) fun y199 =>
  Option.bind (g_spec_l01Mul y199 y145.1) fun y200 =>
  Option.bind (g_spec_l01Mul y199 y145.2) fun y201 =>
  Option.bind (g_spec_l02Minus a1 (y200, y201)) fun y206 =>
  kx y206
noncomputable def g_spec_l02Reflect (a0 : (Int × (Int × (Int × Int)))) (a1 : ((Int × (Int × Int)) × (Int × (Int × Int)))) : Option (((Int × (Int × Int)) × (Int × (Int × Int)))) := t_spec_l02Reflect some a0 a1
theorem nat_spec_l02Reflect {R : Type} (kx : ((Int × (Int × Int)) × (Int × (Int × Int))) → Option R) (a0 : (Int × (Int × (Int × Int)))) (a1 : ((Int × (Int × Int)) × (Int × (Int × Int)))) : t_spec_l02Reflect kx a0 a1 = (g_spec_l02Reflect a0 a1).bind kx := by
  unfold g_spec_l02Reflect t_spec_l02Reflect
  exact nat_bind fun _ => nat_bind fun _ => nat_bind fun _ => nat_bind fun _ => nat_bind fun _ => nat_bind fun _ => nat_bind fun _ => nat_bind fun _ => nat_bind fun _ => nat_bind fun _ => rfl
abbrev as_spec_l02Reflect : List AX := [.val true (.pair (.int .i64) (.pair (.int .i64) (.pair (.int .i64) (.int .i64)))), .val true (.pair (.pair (.int .i64) (.pair (.int .i64) (.int .i64))) (.pair (.int .i64) (.pair (.int .i64) (.int .i64))))]
abbrev en_spec_l02Reflect : ((Int × (Int × Int)) × (Int × (Int × Int))) → AV × List CV := fun b => (.one ⟨true, [(.v (.int .i64 b.1.1)), (.v (.int .i64 b.1.2.1)), (.v (.int .i64 b.1.2.2)), (.v (.int .i64 b.2.1)), (.v (.int .i64 b.2.2.1)), (.v (.int .i64 b.2.2.2))]⟩, [])
noncomputable abbrev k_spec_l02Reflect : Contract := .fx as_spec_l02Reflect (((Int × (Int × Int)) × (Int × (Int × Int)))) (fun z => g_spec_l02Reflect z.1 z.2.1) en_spec_l02Reflect
theorem r_spec_l02Reflect (z : argsX as_spec_l02Reflect) : runF (tab C0 T_spec_l02Reflect) noHints 1 Tryd.f110 (lentOf as_spec_l02Reflect) (xBoxes as_spec_l02Reflect z) (xVals as_spec_l02Reflect 0 z) K2 = t_spec_l02Reflect (fun b => some (en_spec_l02Reflect b)) z.1 z.2.1 := by kernel_rfl
theorem so_spec_l02Reflect : Sound C0 110 k_spec_l02Reflect :=
  Sound.fx a_spec_l02Reflect mixed Tryd.func110 (by kernel_rfl) (by kernel_rfl) noHints 1 noHints_ok (fun z => (r_spec_l02Reflect z).trans (nat_spec_l02Reflect _ z.1 z.2.1))

/-! ### F149 spec.l01Square -/
noncomputable def T_spec_l01Square : List (FuncId × Contract) := []
theorem a_spec_l01Square : AllSound C0 T_spec_l01Square := .nil
noncomputable def t_spec_l01Square {R : Type} (kx : Int × Int → Option R) (a0 : Int) : Option R :=
  cond (decide (a0 < (0 : Int)))
  (cond (decide ((IntKind.wrap IntKind.u64 ((IntKind.wrap IntKind.u64 ((IntKind.wrap IntKind.u64 (((BitVec.toNat ((BitVec.ofInt 64 (IntKind.wrap IntKind.u64 (IntKind.wrap IntKind.i64 ((0 : Int) - a0)))) &&& (BitVec.ofInt 64 (4294967295 : Int)))) : Nat) : Int)) * (IntKind.wrap IntKind.u64 (((BitVec.toNat ((BitVec.ofInt 64 (IntKind.wrap IntKind.u64 (IntKind.wrap IntKind.i64 ((0 : Int) - a0)))) &&& (BitVec.ofInt 64 (4294967295 : Int)))) : Nat) : Int)))) + (IntKind.wrap IntKind.u64 ((IntKind.wrap IntKind.u64 ((IntKind.wrap IntKind.u64 ((2 : Int) * (IntKind.wrap IntKind.u64 (((BitVec.toNat ((BitVec.ofInt 64 (IntKind.wrap IntKind.u64 (IntKind.wrap IntKind.i64 ((0 : Int) - a0)))) &&& (BitVec.ofInt 64 (4294967295 : Int)))) : Nat) : Int)))) * (Int.fdiv (IntKind.wrap IntKind.u64 (IntKind.wrap IntKind.i64 ((0 : Int) - a0))) ((2 : Int) ^ (Min.min (Int.toNat (32 : Int)) 64))))) * ((2 : Int) ^ (Min.min (Int.toNat (32 : Int)) 64)))))) < (IntKind.wrap IntKind.u64 ((IntKind.wrap IntKind.u64 (((BitVec.toNat ((BitVec.ofInt 64 (IntKind.wrap IntKind.u64 (IntKind.wrap IntKind.i64 ((0 : Int) - a0)))) &&& (BitVec.ofInt 64 (4294967295 : Int)))) : Nat) : Int)) * (IntKind.wrap IntKind.u64 (((BitVec.toNat ((BitVec.ofInt 64 (IntKind.wrap IntKind.u64 (IntKind.wrap IntKind.i64 ((0 : Int) - a0)))) &&& (BitVec.ofInt 64 (4294967295 : Int)))) : Nat) : Int))))))
   (kx ((IntKind.wrap IntKind.u64 ((IntKind.wrap IntKind.u64 ((Int.fdiv (IntKind.wrap IntKind.u64 (IntKind.wrap IntKind.i64 ((0 : Int) - a0))) ((2 : Int) ^ (Min.min (Int.toNat (32 : Int)) 64))) * (Int.fdiv (IntKind.wrap IntKind.u64 (IntKind.wrap IntKind.i64 ((0 : Int) - a0))) ((2 : Int) ^ (Min.min (Int.toNat (32 : Int)) 64))))) + (IntKind.wrap IntKind.u64 ((Int.fdiv (IntKind.wrap IntKind.u64 ((IntKind.wrap IntKind.u64 ((2 : Int) * (IntKind.wrap IntKind.u64 (((BitVec.toNat ((BitVec.ofInt 64 (IntKind.wrap IntKind.u64 (IntKind.wrap IntKind.i64 ((0 : Int) - a0)))) &&& (BitVec.ofInt 64 (4294967295 : Int)))) : Nat) : Int)))) * (Int.fdiv (IntKind.wrap IntKind.u64 (IntKind.wrap IntKind.i64 ((0 : Int) - a0))) ((2 : Int) ^ (Min.min (Int.toNat (32 : Int)) 64))))) ((2 : Int) ^ (Min.min (Int.toNat (32 : Int)) 64))) + (1 : Int))))), (IntKind.wrap IntKind.u64 ((IntKind.wrap IntKind.u64 ((IntKind.wrap IntKind.u64 (((BitVec.toNat ((BitVec.ofInt 64 (IntKind.wrap IntKind.u64 (IntKind.wrap IntKind.i64 ((0 : Int) - a0)))) &&& (BitVec.ofInt 64 (4294967295 : Int)))) : Nat) : Int)) * (IntKind.wrap IntKind.u64 (((BitVec.toNat ((BitVec.ofInt 64 (IntKind.wrap IntKind.u64 (IntKind.wrap IntKind.i64 ((0 : Int) - a0)))) &&& (BitVec.ofInt 64 (4294967295 : Int)))) : Nat) : Int)))) + (IntKind.wrap IntKind.u64 ((IntKind.wrap IntKind.u64 ((IntKind.wrap IntKind.u64 ((2 : Int) * (IntKind.wrap IntKind.u64 (((BitVec.toNat ((BitVec.ofInt 64 (IntKind.wrap IntKind.u64 (IntKind.wrap IntKind.i64 ((0 : Int) - a0)))) &&& (BitVec.ofInt 64 (4294967295 : Int)))) : Nat) : Int)))) * (Int.fdiv (IntKind.wrap IntKind.u64 (IntKind.wrap IntKind.i64 ((0 : Int) - a0))) ((2 : Int) ^ (Min.min (Int.toNat (32 : Int)) 64))))) * ((2 : Int) ^ (Min.min (Int.toNat (32 : Int)) 64))))))))
   (kx ((IntKind.wrap IntKind.u64 ((IntKind.wrap IntKind.u64 ((Int.fdiv (IntKind.wrap IntKind.u64 (IntKind.wrap IntKind.i64 ((0 : Int) - a0))) ((2 : Int) ^ (Min.min (Int.toNat (32 : Int)) 64))) * (Int.fdiv (IntKind.wrap IntKind.u64 (IntKind.wrap IntKind.i64 ((0 : Int) - a0))) ((2 : Int) ^ (Min.min (Int.toNat (32 : Int)) 64))))) + (Int.fdiv (IntKind.wrap IntKind.u64 ((IntKind.wrap IntKind.u64 ((2 : Int) * (IntKind.wrap IntKind.u64 (((BitVec.toNat ((BitVec.ofInt 64 (IntKind.wrap IntKind.u64 (IntKind.wrap IntKind.i64 ((0 : Int) - a0)))) &&& (BitVec.ofInt 64 (4294967295 : Int)))) : Nat) : Int)))) * (Int.fdiv (IntKind.wrap IntKind.u64 (IntKind.wrap IntKind.i64 ((0 : Int) - a0))) ((2 : Int) ^ (Min.min (Int.toNat (32 : Int)) 64))))) ((2 : Int) ^ (Min.min (Int.toNat (32 : Int)) 64))))), (IntKind.wrap IntKind.u64 ((IntKind.wrap IntKind.u64 ((IntKind.wrap IntKind.u64 (((BitVec.toNat ((BitVec.ofInt 64 (IntKind.wrap IntKind.u64 (IntKind.wrap IntKind.i64 ((0 : Int) - a0)))) &&& (BitVec.ofInt 64 (4294967295 : Int)))) : Nat) : Int)) * (IntKind.wrap IntKind.u64 (((BitVec.toNat ((BitVec.ofInt 64 (IntKind.wrap IntKind.u64 (IntKind.wrap IntKind.i64 ((0 : Int) - a0)))) &&& (BitVec.ofInt 64 (4294967295 : Int)))) : Nat) : Int)))) + (IntKind.wrap IntKind.u64 ((IntKind.wrap IntKind.u64 ((IntKind.wrap IntKind.u64 ((2 : Int) * (IntKind.wrap IntKind.u64 (((BitVec.toNat ((BitVec.ofInt 64 (IntKind.wrap IntKind.u64 (IntKind.wrap IntKind.i64 ((0 : Int) - a0)))) &&& (BitVec.ofInt 64 (4294967295 : Int)))) : Nat) : Int)))) * (Int.fdiv (IntKind.wrap IntKind.u64 (IntKind.wrap IntKind.i64 ((0 : Int) - a0))) ((2 : Int) ^ (Min.min (Int.toNat (32 : Int)) 64))))) * ((2 : Int) ^ (Min.min (Int.toNat (32 : Int)) 64)))))))))
  (cond (decide ((IntKind.wrap IntKind.u64 ((IntKind.wrap IntKind.u64 ((IntKind.wrap IntKind.u64 (((BitVec.toNat ((BitVec.ofInt 64 (IntKind.wrap IntKind.u64 a0)) &&& (BitVec.ofInt 64 (4294967295 : Int)))) : Nat) : Int)) * (IntKind.wrap IntKind.u64 (((BitVec.toNat ((BitVec.ofInt 64 (IntKind.wrap IntKind.u64 a0)) &&& (BitVec.ofInt 64 (4294967295 : Int)))) : Nat) : Int)))) + (IntKind.wrap IntKind.u64 ((IntKind.wrap IntKind.u64 ((IntKind.wrap IntKind.u64 ((2 : Int) * (IntKind.wrap IntKind.u64 (((BitVec.toNat ((BitVec.ofInt 64 (IntKind.wrap IntKind.u64 a0)) &&& (BitVec.ofInt 64 (4294967295 : Int)))) : Nat) : Int)))) * (Int.fdiv (IntKind.wrap IntKind.u64 a0) ((2 : Int) ^ (Min.min (Int.toNat (32 : Int)) 64))))) * ((2 : Int) ^ (Min.min (Int.toNat (32 : Int)) 64)))))) < (IntKind.wrap IntKind.u64 ((IntKind.wrap IntKind.u64 (((BitVec.toNat ((BitVec.ofInt 64 (IntKind.wrap IntKind.u64 a0)) &&& (BitVec.ofInt 64 (4294967295 : Int)))) : Nat) : Int)) * (IntKind.wrap IntKind.u64 (((BitVec.toNat ((BitVec.ofInt 64 (IntKind.wrap IntKind.u64 a0)) &&& (BitVec.ofInt 64 (4294967295 : Int)))) : Nat) : Int))))))
   (kx ((IntKind.wrap IntKind.u64 ((IntKind.wrap IntKind.u64 ((Int.fdiv (IntKind.wrap IntKind.u64 a0) ((2 : Int) ^ (Min.min (Int.toNat (32 : Int)) 64))) * (Int.fdiv (IntKind.wrap IntKind.u64 a0) ((2 : Int) ^ (Min.min (Int.toNat (32 : Int)) 64))))) + (IntKind.wrap IntKind.u64 ((Int.fdiv (IntKind.wrap IntKind.u64 ((IntKind.wrap IntKind.u64 ((2 : Int) * (IntKind.wrap IntKind.u64 (((BitVec.toNat ((BitVec.ofInt 64 (IntKind.wrap IntKind.u64 a0)) &&& (BitVec.ofInt 64 (4294967295 : Int)))) : Nat) : Int)))) * (Int.fdiv (IntKind.wrap IntKind.u64 a0) ((2 : Int) ^ (Min.min (Int.toNat (32 : Int)) 64))))) ((2 : Int) ^ (Min.min (Int.toNat (32 : Int)) 64))) + (1 : Int))))), (IntKind.wrap IntKind.u64 ((IntKind.wrap IntKind.u64 ((IntKind.wrap IntKind.u64 (((BitVec.toNat ((BitVec.ofInt 64 (IntKind.wrap IntKind.u64 a0)) &&& (BitVec.ofInt 64 (4294967295 : Int)))) : Nat) : Int)) * (IntKind.wrap IntKind.u64 (((BitVec.toNat ((BitVec.ofInt 64 (IntKind.wrap IntKind.u64 a0)) &&& (BitVec.ofInt 64 (4294967295 : Int)))) : Nat) : Int)))) + (IntKind.wrap IntKind.u64 ((IntKind.wrap IntKind.u64 ((IntKind.wrap IntKind.u64 ((2 : Int) * (IntKind.wrap IntKind.u64 (((BitVec.toNat ((BitVec.ofInt 64 (IntKind.wrap IntKind.u64 a0)) &&& (BitVec.ofInt 64 (4294967295 : Int)))) : Nat) : Int)))) * (Int.fdiv (IntKind.wrap IntKind.u64 a0) ((2 : Int) ^ (Min.min (Int.toNat (32 : Int)) 64))))) * ((2 : Int) ^ (Min.min (Int.toNat (32 : Int)) 64))))))))
   (kx ((IntKind.wrap IntKind.u64 ((IntKind.wrap IntKind.u64 ((Int.fdiv (IntKind.wrap IntKind.u64 a0) ((2 : Int) ^ (Min.min (Int.toNat (32 : Int)) 64))) * (Int.fdiv (IntKind.wrap IntKind.u64 a0) ((2 : Int) ^ (Min.min (Int.toNat (32 : Int)) 64))))) + (Int.fdiv (IntKind.wrap IntKind.u64 ((IntKind.wrap IntKind.u64 ((2 : Int) * (IntKind.wrap IntKind.u64 (((BitVec.toNat ((BitVec.ofInt 64 (IntKind.wrap IntKind.u64 a0)) &&& (BitVec.ofInt 64 (4294967295 : Int)))) : Nat) : Int)))) * (Int.fdiv (IntKind.wrap IntKind.u64 a0) ((2 : Int) ^ (Min.min (Int.toNat (32 : Int)) 64))))) ((2 : Int) ^ (Min.min (Int.toNat (32 : Int)) 64))))), (IntKind.wrap IntKind.u64 ((IntKind.wrap IntKind.u64 ((IntKind.wrap IntKind.u64 (((BitVec.toNat ((BitVec.ofInt 64 (IntKind.wrap IntKind.u64 a0)) &&& (BitVec.ofInt 64 (4294967295 : Int)))) : Nat) : Int)) * (IntKind.wrap IntKind.u64 (((BitVec.toNat ((BitVec.ofInt 64 (IntKind.wrap IntKind.u64 a0)) &&& (BitVec.ofInt 64 (4294967295 : Int)))) : Nat) : Int)))) + (IntKind.wrap IntKind.u64 ((IntKind.wrap IntKind.u64 ((IntKind.wrap IntKind.u64 ((2 : Int) * (IntKind.wrap IntKind.u64 (((BitVec.toNat ((BitVec.ofInt 64 (IntKind.wrap IntKind.u64 a0)) &&& (BitVec.ofInt 64 (4294967295 : Int)))) : Nat) : Int)))) * (Int.fdiv (IntKind.wrap IntKind.u64 a0) ((2 : Int) ^ (Min.min (Int.toNat (32 : Int)) 64))))) * ((2 : Int) ^ (Min.min (Int.toNat (32 : Int)) 64)))))))))
noncomputable def g_spec_l01Square (a0 : Int) : Option (Int × Int) := t_spec_l01Square some a0
theorem nat_spec_l01Square {R : Type} (kx : Int × Int → Option R) (a0 : Int) : t_spec_l01Square kx a0 = (g_spec_l01Square a0).bind kx := by
  unfold g_spec_l01Square t_spec_l01Square
  exact nat_cond (nat_cond (rfl) (rfl)) (nat_cond (rfl) (rfl))
abbrev as_spec_l01Square : List AX := [.val false (.int .i64)]
abbrev en_spec_l01Square : Int × Int → AV × List CV := fun b => (.tup [⟨false, [(.v (.int .u64 b.1))]⟩, ⟨false, [(.v (.int .u64 b.2))]⟩], [])
noncomputable abbrev k_spec_l01Square : Contract := .fx as_spec_l01Square (Int × Int) (fun z => g_spec_l01Square z.1) en_spec_l01Square
theorem r_spec_l01Square (z : argsX as_spec_l01Square) : runF (tab C0 T_spec_l01Square) noHints 1 Tryd.f149 (lentOf as_spec_l01Square) (xBoxes as_spec_l01Square z) (xVals as_spec_l01Square 0 z) K2 = t_spec_l01Square (fun b => some (en_spec_l01Square b)) z.1 := by kernel_rfl
theorem so_spec_l01Square : Sound C0 149 k_spec_l01Square :=
  Sound.fx a_spec_l01Square mixed Tryd.func149 (by kernel_rfl) (by kernel_rfl) noHints 1 noHints_ok (fun z => (r_spec_l01Square z).trans (nat_spec_l01Square _ z.1))

/-! ### F134 spec.l01Less -/
noncomputable def T_spec_l01Less : List (FuncId × Contract) := [(149, k_spec_l01Square)]
theorem a_spec_l01Less : AllSound C0 T_spec_l01Less := .cons so_spec_l01Square (.nil)
noncomputable def t_spec_l01Less {R : Type} (kx : Bool → Option R) (a0 : Int) (a1 : Int) : Option R :=
  Option.bind (g_spec_l01Square a0) fun y216 =>
  Option.bind (g_spec_l01Square a1) fun y217 =>
  cond (decide (y216.1 < (IntKind.wrap IntKind.u64 ((IntKind.wrap IntKind.u64 (y217.1 * (2 : Int))) + (Int.fdiv y217.2 ((2 : Int) ^ (Min.min (Int.toNat (63 : Int)) 64)))))))
  (kx Bool.true)
  (cond (y216.1 == (IntKind.wrap IntKind.u64 ((IntKind.wrap IntKind.u64 (y217.1 * (2 : Int))) + (Int.fdiv y217.2 ((2 : Int) ^ (Min.min (Int.toNat (63 : Int)) 64))))))
   (kx (decide (y216.2 < (IntKind.wrap IntKind.u64 (y217.2 * (2 : Int))))))
   (kx Bool.false))
noncomputable def g_spec_l01Less (a0 : Int) (a1 : Int) : Option (Bool) := t_spec_l01Less some a0 a1
theorem nat_spec_l01Less {R : Type} (kx : Bool → Option R) (a0 : Int) (a1 : Int) : t_spec_l01Less kx a0 a1 = (g_spec_l01Less a0 a1).bind kx := by
  unfold g_spec_l01Less t_spec_l01Less
  exact nat_bind fun _ => nat_bind fun _ => nat_cond (rfl) (nat_cond (rfl) (rfl))
abbrev as_spec_l01Less : List AX := [.val false (.int .i64), .val false (.int .i64)]
abbrev en_spec_l01Less : Bool → AV × List CV := fun b => (.one ⟨false, [(.v (.bool b))]⟩, [])
noncomputable abbrev k_spec_l01Less : Contract := .fx as_spec_l01Less (Bool) (fun z => g_spec_l01Less z.1 z.2.1) en_spec_l01Less
theorem r_spec_l01Less (z : argsX as_spec_l01Less) : runF (tab C0 T_spec_l01Less) noHints 1 Tryd.f134 (lentOf as_spec_l01Less) (xBoxes as_spec_l01Less z) (xVals as_spec_l01Less 0 z) K2 = t_spec_l01Less (fun b => some (en_spec_l01Less b)) z.1 z.2.1 := by kernel_rfl
theorem so_spec_l01Less : Sound C0 134 k_spec_l01Less :=
  Sound.fx a_spec_l01Less mixed Tryd.func134 (by kernel_rfl) (by kernel_rfl) noHints 1 noHints_ok (fun z => (r_spec_l01Less z).trans (nat_spec_l01Less _ z.1 z.2.1))

/-! ### F115 spec.l01Sign -/
noncomputable def T_spec_l01Sign : List (FuncId × Contract) := [(134, k_spec_l01Less)]
theorem a_spec_l01Sign : AllSound C0 T_spec_l01Sign := .cons so_spec_l01Less (.nil)
noncomputable def t_spec_l01Sign {R : Type} (kx : Int → Option R) (a0 : (Int × (Int × Int))) : Option R :=
  cond (a0.1 == (0 : Int))
  (cond (a0.2.1 == (0 : Int))
   (kx (0 : Int))
   (cond (decide (a0.1 ≥ (0 : Int)))
    (cond (decide (a0.2.1 ≥ (0 : Int)))
     (kx (1 : Int))
     (cond (decide (a0.1 ≤ (0 : Int)))
      (cond (decide (a0.2.1 ≤ (0 : Int)))
       (kx (-(1 : Int)))
       (Option.bind (g_spec_l01Less a0.1 a0.2.1) fun y218 =>
        cond (y218 == (decide (a0.2.1 > (0 : Int))))
        (kx (1 : Int))
        (kx (-(1 : Int)))))
      (Option.bind (g_spec_l01Less a0.1 a0.2.1) fun y219 =>
       cond (y219 == (decide (a0.2.1 > (0 : Int))))
       (kx (1 : Int))
       (kx (-(1 : Int))))))
    (cond (decide (a0.1 ≤ (0 : Int)))
     (cond (decide (a0.2.1 ≤ (0 : Int)))
      (kx (-(1 : Int)))
      (Option.bind (g_spec_l01Less a0.1 a0.2.1) fun y220 =>
       cond (y220 == (decide (a0.2.1 > (0 : Int))))
       (kx (1 : Int))
       (kx (-(1 : Int)))))
     (Option.bind (g_spec_l01Less a0.1 a0.2.1) fun y221 =>
      cond (y221 == (decide (a0.2.1 > (0 : Int))))
      (kx (1 : Int))
      (kx (-(1 : Int)))))))
  (cond (decide (a0.1 ≥ (0 : Int)))
   (cond (decide (a0.2.1 ≥ (0 : Int)))
    (kx (1 : Int))
    (cond (decide (a0.1 ≤ (0 : Int)))
     (cond (decide (a0.2.1 ≤ (0 : Int)))
      (kx (-(1 : Int)))
      (Option.bind (g_spec_l01Less a0.1 a0.2.1) fun y222 =>
       cond (y222 == (decide (a0.2.1 > (0 : Int))))
       (kx (1 : Int))
       (kx (-(1 : Int)))))
     (Option.bind (g_spec_l01Less a0.1 a0.2.1) fun y223 =>
      cond (y223 == (decide (a0.2.1 > (0 : Int))))
      (kx (1 : Int))
      (kx (-(1 : Int))))))
   (cond (decide (a0.1 ≤ (0 : Int)))
    (cond (decide (a0.2.1 ≤ (0 : Int)))
     (kx (-(1 : Int)))
     (Option.bind (g_spec_l01Less a0.1 a0.2.1) fun y224 =>
      cond (y224 == (decide (a0.2.1 > (0 : Int))))
      (kx (1 : Int))
      (kx (-(1 : Int)))))
    (Option.bind (g_spec_l01Less a0.1 a0.2.1) fun y225 =>
     cond (y225 == (decide (a0.2.1 > (0 : Int))))
     (kx (1 : Int))
     (kx (-(1 : Int))))))
noncomputable def g_spec_l01Sign (a0 : (Int × (Int × Int))) : Option (Int) := t_spec_l01Sign some a0
theorem nat_spec_l01Sign {R : Type} (kx : Int → Option R) (a0 : (Int × (Int × Int))) : t_spec_l01Sign kx a0 = (g_spec_l01Sign a0).bind kx := by
  unfold g_spec_l01Sign t_spec_l01Sign
  exact nat_cond (nat_cond (rfl) (nat_cond (nat_cond (rfl) (nat_cond (nat_cond (rfl) (nat_bind fun _ => nat_cond (rfl) (rfl))) (nat_bind fun _ => nat_cond (rfl) (rfl)))) (nat_cond (nat_cond (rfl) (nat_bind fun _ => nat_cond (rfl) (rfl))) (nat_bind fun _ => nat_cond (rfl) (rfl))))) (nat_cond (nat_cond (rfl) (nat_cond (nat_cond (rfl) (nat_bind fun _ => nat_cond (rfl) (rfl))) (nat_bind fun _ => nat_cond (rfl) (rfl)))) (nat_cond (nat_cond (rfl) (nat_bind fun _ => nat_cond (rfl) (rfl))) (nat_bind fun _ => nat_cond (rfl) (rfl))))
abbrev as_spec_l01Sign : List AX := [.val true (.pair (.int .i64) (.pair (.int .i64) (.int .i64)))]
abbrev en_spec_l01Sign : Int → AV × List CV := fun b => (.one ⟨false, [(.v (.int .i64 b))]⟩, [])
noncomputable abbrev k_spec_l01Sign : Contract := .fx as_spec_l01Sign (Int) (fun z => g_spec_l01Sign z.1) en_spec_l01Sign
theorem r_spec_l01Sign (z : argsX as_spec_l01Sign) : runF (tab C0 T_spec_l01Sign) noHints 1 Tryd.f115 (lentOf as_spec_l01Sign) (xBoxes as_spec_l01Sign z) (xVals as_spec_l01Sign 0 z) K2 = t_spec_l01Sign (fun b => some (en_spec_l01Sign b)) z.1 := by kernel_rfl
theorem so_spec_l01Sign : Sound C0 115 k_spec_l01Sign :=
  Sound.fx a_spec_l01Sign mixed Tryd.func115 (by kernel_rfl) (by kernel_rfl) noHints 1 noHints_ok (fun z => (r_spec_l01Sign z).trans (nat_spec_l01Sign _ z.1))

/-! ### F109 spec.l02Side -/
noncomputable def T_spec_l02Side : List (FuncId × Contract) := [(86, k_spec_l02Dot), (47, k_spec_l01Sub), (115, k_spec_l01Sign)]
theorem a_spec_l02Side : AllSound C0 T_spec_l02Side := .cons so_spec_l02Dot (.cons so_spec_l01Sub (.cons so_spec_l01Sign (.nil)))
noncomputable def t_spec_l02Side {R : Type} (kx : Int → Option R) (a0 : (Int × (Int × (Int × Int)))) (a1 : ((Int × (Int × Int)) × (Int × (Int × Int)))) : Option R :=
  Option.bind (g_spec_l02Dot (IntKind.wrap IntKind.i64 (a0.1 + (4 : Int))) a1) fun y210 =>
  Option.bind (g_spec_l01Sub y210 a0.2) fun y211 =>
  Option.bind (g_spec_l01Sign y211) fun y226 =>
  kx y226
noncomputable def g_spec_l02Side (a0 : (Int × (Int × (Int × Int)))) (a1 : ((Int × (Int × Int)) × (Int × (Int × Int)))) : Option (Int) := t_spec_l02Side some a0 a1
theorem nat_spec_l02Side {R : Type} (kx : Int → Option R) (a0 : (Int × (Int × (Int × Int)))) (a1 : ((Int × (Int × Int)) × (Int × (Int × Int)))) : t_spec_l02Side kx a0 a1 = (g_spec_l02Side a0 a1).bind kx := by
  unfold g_spec_l02Side t_spec_l02Side
  exact nat_bind fun _ => nat_bind fun _ => nat_bind fun _ => rfl
abbrev as_spec_l02Side : List AX := [.val true (.pair (.int .i64) (.pair (.int .i64) (.pair (.int .i64) (.int .i64)))), .val true (.pair (.pair (.int .i64) (.pair (.int .i64) (.int .i64))) (.pair (.int .i64) (.pair (.int .i64) (.int .i64))))]
abbrev en_spec_l02Side : Int → AV × List CV := fun b => (.one ⟨false, [(.v (.int .i64 b))]⟩, [])
noncomputable abbrev k_spec_l02Side : Contract := .fx as_spec_l02Side (Int) (fun z => g_spec_l02Side z.1 z.2.1) en_spec_l02Side
theorem r_spec_l02Side (z : argsX as_spec_l02Side) : runF (tab C0 T_spec_l02Side) noHints 1 Tryd.f109 (lentOf as_spec_l02Side) (xBoxes as_spec_l02Side z) (xVals as_spec_l02Side 0 z) K2 = t_spec_l02Side (fun b => some (en_spec_l02Side b)) z.1 z.2.1 := by kernel_rfl
theorem so_spec_l02Side : Sound C0 109 k_spec_l02Side :=
  Sound.fx a_spec_l02Side mixed Tryd.func109 (by kernel_rfl) (by kernel_rfl) noHints 1 noHints_ok (fun z => (r_spec_l02Side z).trans (nat_spec_l02Side _ z.1 z.2.1))

/-! ### F56 spec.l23Aligned -/
noncomputable def T_spec_l23Aligned : List (FuncId × Contract) := [(110, k_spec_l02Reflect), (109, k_spec_l02Side)]
theorem a_spec_l23Aligned : AllSound C0 T_spec_l23Aligned := .cons so_spec_l02Reflect (.cons so_spec_l02Side (.nil))
noncomputable def t_spec_l23Aligned {R : Type} (kx : Bool → Option R) (a0 : (Int × (Int × (Int × Int)))) (a1 : ((Int × (Int × Int)) × (Int × (Int × Int)))) (a2 : (Int × (Int × (Int × Int)))) : Option R :=
  Option.bind (g_spec_l02Reflect a0 a1) fun y207 =>
  Option.bind (g_spec_l02Side a2 y207) fun y227 =>
  kx (y227 == (0 : Int))
noncomputable def g_spec_l23Aligned (a0 : (Int × (Int × (Int × Int)))) (a1 : ((Int × (Int × Int)) × (Int × (Int × Int)))) (a2 : (Int × (Int × (Int × Int)))) : Option (Bool) := t_spec_l23Aligned some a0 a1 a2
theorem nat_spec_l23Aligned {R : Type} (kx : Bool → Option R) (a0 : (Int × (Int × (Int × Int)))) (a1 : ((Int × (Int × Int)) × (Int × (Int × Int)))) (a2 : (Int × (Int × (Int × Int)))) : t_spec_l23Aligned kx a0 a1 a2 = (g_spec_l23Aligned a0 a1 a2).bind kx := by
  unfold g_spec_l23Aligned t_spec_l23Aligned
  exact nat_bind fun _ => nat_bind fun _ => rfl
abbrev as_spec_l23Aligned : List AX := [.val true (.pair (.int .i64) (.pair (.int .i64) (.pair (.int .i64) (.int .i64)))), .val true (.pair (.pair (.int .i64) (.pair (.int .i64) (.int .i64))) (.pair (.int .i64) (.pair (.int .i64) (.int .i64)))), .val true (.pair (.int .i64) (.pair (.int .i64) (.pair (.int .i64) (.int .i64))))]
abbrev en_spec_l23Aligned : Bool → AV × List CV := fun b => (.one ⟨false, [(.v (.bool b))]⟩, [])
noncomputable abbrev k_spec_l23Aligned : Contract := .fx as_spec_l23Aligned (Bool) (fun z => g_spec_l23Aligned z.1 z.2.1 z.2.2.1) en_spec_l23Aligned
theorem r_spec_l23Aligned (z : argsX as_spec_l23Aligned) : runF (tab C0 T_spec_l23Aligned) noHints 1 Tryd.f56 (lentOf as_spec_l23Aligned) (xBoxes as_spec_l23Aligned z) (xVals as_spec_l23Aligned 0 z) K2 = t_spec_l23Aligned (fun b => some (en_spec_l23Aligned b)) z.1 z.2.1 z.2.2.1 := by kernel_rfl
theorem so_spec_l23Aligned : Sound C0 56 k_spec_l23Aligned :=
  Sound.fx a_spec_l23Aligned mixed Tryd.func56 (by kernel_rfl) (by kernel_rfl) noHints 1 noHints_ok (fun z => (r_spec_l23Aligned z).trans (nat_spec_l23Aligned _ z.1 z.2.1 z.2.2.1))

/-! ### F126 spec.l01Num -/
noncomputable def T_spec_l01Num : List (FuncId × Contract) := [(114, k_spec_l01Low), (84, k_spec_l01Ok)]
theorem a_spec_l01Num : AllSound C0 T_spec_l01Num := .cons so_spec_l01Low (.cons so_spec_l01Ok (.nil))
noncomputable def t_spec_l01Num {R : Type} (kx : (Int × (Int × Int)) × Bool → Option R) (a0 : (Int × (Int × Int))) : Option R :=
  Option.bind (g_spec_l01Low a0) fun y238 =>
  Option.bind (g_spec_l01Ok y238) fun y239 =>
  cond (!y239)
  (kx (((0 : Int), ((0 : Int), (0 : Int))), Bool.false))
  (kx (y238, Bool.true))
noncomputable def g_spec_l01Num (a0 : (Int × (Int × Int))) : Option ((Int × (Int × Int)) × Bool) := t_spec_l01Num some a0
theorem nat_spec_l01Num {R : Type} (kx : (Int × (Int × Int)) × Bool → Option R) (a0 : (Int × (Int × Int))) : t_spec_l01Num kx a0 = (g_spec_l01Num a0).bind kx := by
  unfold g_spec_l01Num t_spec_l01Num
  exact nat_bind fun _ => nat_bind fun _ => nat_cond (rfl) (rfl)
abbrev as_spec_l01Num : List AX := [.val true (.pair (.int .i64) (.pair (.int .i64) (.int .i64)))]
abbrev en_spec_l01Num : (Int × (Int × Int)) × Bool → AV × List CV := fun b => (.tup [⟨true, [(.v (.int .i64 b.1.1)), (.v (.int .i64 b.1.2.1)), (.v (.int .i64 b.1.2.2))]⟩, ⟨false, [(.v (.bool b.2))]⟩], [])
noncomputable abbrev k_spec_l01Num : Contract := .fx as_spec_l01Num ((Int × (Int × Int)) × Bool) (fun z => g_spec_l01Num z.1) en_spec_l01Num
theorem r_spec_l01Num (z : argsX as_spec_l01Num) : runF (tab C0 T_spec_l01Num) noHints 1 Tryd.f126 (lentOf as_spec_l01Num) (xBoxes as_spec_l01Num z) (xVals as_spec_l01Num 0 z) K2 = t_spec_l01Num (fun b => some (en_spec_l01Num b)) z.1 := by kernel_rfl
theorem so_spec_l01Num : Sound C0 126 k_spec_l01Num :=
  Sound.fx a_spec_l01Num mixed Tryd.func126 (by kernel_rfl) (by kernel_rfl) noHints 1 noHints_ok (fun z => (r_spec_l01Num z).trans (nat_spec_l01Num _ z.1))

/-! ### F92 spec.l23Line -/
noncomputable def T_spec_l23Line : List (FuncId × Contract) := [(126, k_spec_l01Num)]
theorem a_spec_l23Line : AllSound C0 T_spec_l23Line := .cons so_spec_l01Num (.nil)
noncomputable def t_spec_l23Line {R : Type} (kx : (Int × (Int × (Int × Int))) × Bool → Option R) (a0 : (Int × (Int × (Int × Int)))) : Option R :=
  Option.bind (g_spec_l01Num a0.2) fun y240 =>
  cond (!y240.2)
  (kx (((0 : Int), ((0 : Int), ((0 : Int), (0 : Int)))), Bool.false))
  (kx ((a0.1, y240.1), Bool.true))
noncomputable def g_spec_l23Line (a0 : (Int × (Int × (Int × Int)))) : Option ((Int × (Int × (Int × Int))) × Bool) := t_spec_l23Line some a0
theorem nat_spec_l23Line {R : Type} (kx : (Int × (Int × (Int × Int))) × Bool → Option R) (a0 : (Int × (Int × (Int × Int)))) : t_spec_l23Line kx a0 = (g_spec_l23Line a0).bind kx := by
  unfold g_spec_l23Line t_spec_l23Line
  exact nat_bind fun _ => nat_cond (rfl) (rfl)
abbrev as_spec_l23Line : List AX := [.val true (.pair (.int .i64) (.pair (.int .i64) (.pair (.int .i64) (.int .i64))))]
abbrev en_spec_l23Line : (Int × (Int × (Int × Int))) × Bool → AV × List CV := fun b => (.tup [⟨true, [(.v (.int .i64 b.1.1)), (.v (.int .i64 b.1.2.1)), (.v (.int .i64 b.1.2.2.1)), (.v (.int .i64 b.1.2.2.2))]⟩, ⟨false, [(.v (.bool b.2))]⟩], [])
noncomputable abbrev k_spec_l23Line : Contract := .fx as_spec_l23Line ((Int × (Int × (Int × Int))) × Bool) (fun z => g_spec_l23Line z.1) en_spec_l23Line
theorem r_spec_l23Line (z : argsX as_spec_l23Line) : runF (tab C0 T_spec_l23Line) noHints 1 Tryd.f92 (lentOf as_spec_l23Line) (xBoxes as_spec_l23Line z) (xVals as_spec_l23Line 0 z) K2 = t_spec_l23Line (fun b => some (en_spec_l23Line b)) z.1 := by kernel_rfl
theorem so_spec_l23Line : Sound C0 92 k_spec_l23Line :=
  Sound.fx a_spec_l23Line mixed Tryd.func92 (by kernel_rfl) (by kernel_rfl) noHints 1 noHints_ok (fun z => (r_spec_l23Line z).trans (nat_spec_l23Line _ z.1))

/-! ### F48 spec.l23All -/
noncomputable def T_spec_l23All : List (FuncId × Contract) := [(92, k_spec_l23Line)]
theorem a_spec_l23All : AllSound C0 T_spec_l23All := .cons so_spec_l23Line (.nil)
abbrev s_spec_l23All_4 : LS := ⟨[(false, [(.sl (.pair (.int .i64) (.pair (.int .i64) (.pair (.int .i64) (.int .i64)))))]), (false, [(.own (.pair (.int .i64) (.pair (.int .i64) (.pair (.int .i64) (.int .i64)))))]), (false, [(.int .i64)])], [], []⟩
abbrev e_spec_l23All_4_0 : LS := ⟨[(false, [(.own (.pair (.int .i64) (.pair (.int .i64) (.pair (.int .i64) (.int .i64)))))]), (false, [(.int .i64)]), (false, [(.own (.pair (.int .i64) (.pair (.int .i64) (.pair (.int .i64) (.int .i64)))))])], [], []⟩
abbrev d_spec_l23All_4_0 (v0 : List (Int × (Int × (Int × Int)))) (v1 : Int) (v2 : List (Int × (Int × (Int × Int)))) : e_spec_l23All_4_0.T := (((v0, ()), (v1, ()), (v2, ()), ()), (), ())
abbrev e_spec_l23All_4_1 : LS := ⟨[(false, [.undef]), (false, [.undef]), (false, [(.own (.pair (.int .i64) (.pair (.int .i64) (.pair (.int .i64) (.int .i64)))))])], [], []⟩
abbrev d_spec_l23All_4_1 (v0 : List (Int × (Int × (Int × Int)))) : e_spec_l23All_4_1.T := ((((), ()), ((), ()), (v0, ()), ()), (), ())
abbrev x_spec_l23All_4 : List (Ex × LS) := [(.ret, e_spec_l23All_4_0), (.exit 0, e_spec_l23All_4_1)]
abbrev m_spec_l23All_4 (x0 : List (Int × (Int × (Int × Int)))) (x4 : List (Int × (Int × (Int × Int)))) (x5 : Int) : s_spec_l23All_4.T := (((x0, ()), (x4, ()), (x5, ()), ()), (), ())
noncomputable def u_spec_l23All_4 {R : Type} (nx : s_spec_l23All_4.T → Option R) (hx : exH R x_spec_l23All_4) (x0 : List (Int × (Int × (Int × Int)))) (x4 : List (Int × (Int × (Int × Int)))) (x5 : Int) : Option R :=
  cond (decide (x5 < (((List.length x0) : Nat) : Int)))
  (Option.bind (idx x0 x5) fun y235 =>
   Option.bind (g_spec_l23Line y235) fun y241 =>
   cond (!y241.2)
   (hx.1 (d_spec_l23All_4_0 [] (2 : Int) x4))
   (cond (decide ((((List.length x4) + (List.length [y241.1])) * 32) ≤ 70368744177664))
    (cond (decide (((List.length x4) + (List.length [y241.1])) ≤ 70368744177664))
     (nx (m_spec_l23All_4 x0 (x4 ++ [y241.1]) (IntKind.wrap IntKind.i64 (x5 + (1 : Int)))))
     (none))
    (none)))
  (hx.2.1 (d_spec_l23All_4_1 x4))
noncomputable def t_spec_l23All_4 {R : Type} (nx : s_spec_l23All_4.T → Option R) (hx : exH R x_spec_l23All_4) (z : s_spec_l23All_4.T) : Option R := u_spec_l23All_4 nx hx z.1.1.1 z.1.2.1.1 z.1.2.2.1.1
theorem nat_spec_l23All_4 : Natural @t_spec_l23All_4 := fun R nx hx z => by
  show u_spec_l23All_4 nx hx z.1.1.1 z.1.2.1.1 z.1.2.2.1.1 = (u_spec_l23All_4 (fun y => some (.inl y)) (hIn x_spec_l23All_4 fun x => some (.inr x)) z.1.1.1 z.1.2.1.1 z.1.2.2.1.1).bind (goOn nx hx)
  unfold u_spec_l23All_4
  exact nat_cond (nat_bind fun _ => nat_bind fun _ => nat_cond (rfl) (nat_cond (nat_cond (rfl) (rfl)) (rfl))) (rfl)
noncomputable def w_spec_l23All_4 : s_spec_l23All_4.T → Option (exT x_spec_l23All_4) := wOf @t_spec_l23All_4
theorem wq_spec_l23All_4 (x0 : List (Int × (Int × (Int × Int)))) (x4 : List (Int × (Int × (Int × Int)))) (x5 : Int) : w_spec_l23All_4 (m_spec_l23All_4 x0 x4 x5) = u_spec_l23All_4 w_spec_l23All_4 (hIn x_spec_l23All_4 some) x0 x4 x5 := wOf_eq nat_spec_l23All_4 _
def lh_spec_l23All_4 : LoopHint := ⟨[0, 4, 5], [], [2, 3, 4], []⟩
noncomputable def h_spec_l23All : Hints Rv := ⟨fun k => match k with | 4 => lh_spec_l23All_4 | _ => ⟨[], [], [], []⟩, fun k => match k with | 4 => some (loopX s_spec_l23All_4 x_spec_l23All_4 w_spec_l23All_4) | _ => none⟩
theorem st_spec_l23All_4 (n : Nat) (z : s_spec_l23All_4.T) (k : Ex → Live → Option Rv) : loopN ⟨30, 30⟩ lh_spec_l23All_4 (den (tab C0 T_spec_l23All) ⟨30, 30⟩ h_spec_l23All 1 (loopOf Tryd.f48 3)) (n + 1) (s_spec_l23All_4.enc z) k =
    t_spec_l23All_4 (fun y => loopN ⟨30, 30⟩ lh_spec_l23All_4 (den (tab C0 T_spec_l23All) ⟨30, 30⟩ h_spec_l23All 1 (loopOf Tryd.f48 3)) n (s_spec_l23All_4.enc y) k) (hK k x_spec_l23All_4) z := by kernel_rfl
theorem hs_spec_l23All : HintsOk (tab C0 T_spec_l23All) ⟨30, 30⟩ h_spec_l23All 1 (loops (codeOf Tryd.f48)) := by
  have hl : loops (codeOf Tryd.f48) = [loopOf Tryd.f48 3] := by kernel_rfl
  rw [hl]
  exact HintsOk.cons (n := 4) (lh := lh_spec_l23All_4) (S := loopX s_spec_l23All_4 x_spec_l23All_4 w_spec_l23All_4) (by kernel_rfl) rfl rfl (loopX_ok nat_spec_l23All_4 st_spec_l23All_4)
    (HintsOk.nil)
noncomputable def t_spec_l23All {R : Type} (kx : (List (Int × (Int × (Int × Int)))) × Int → Option R) (a0 : (List (Int × (Int × (Int × Int))))) : Option R :=
  Option.bind (w_spec_l23All_4 (m_spec_l23All_4 a0 [] (0 : Int))) (exC x_spec_l23All_4
  (fun e242 =>
   kx ((e242.1.1.1 : List (Int × (Int × (Int × Int)))), (e242.1.2.1.1 : Int)), fun e246 =>
   kx ((e246.1.2.2.1.1 : List (Int × (Int × (Int × Int)))), (0 : Int)), ()))
noncomputable def g_spec_l23All (a0 : (List (Int × (Int × (Int × Int))))) : Option ((List (Int × (Int × (Int × Int)))) × Int) := t_spec_l23All some a0
theorem nat_spec_l23All {R : Type} (kx : (List (Int × (Int × (Int × Int)))) × Int → Option R) (a0 : (List (Int × (Int × (Int × Int))))) : t_spec_l23All kx a0 = (g_spec_l23All a0).bind kx := by
  unfold g_spec_l23All t_spec_l23All
  exact nat_exC ⟨fun _ => rfl, fun _ => rfl, trivial⟩
abbrev as_spec_l23All : List AX := [.val false (.slice (.pair (.int .i64) (.pair (.int .i64) (.pair (.int .i64) (.int .i64)))))]
abbrev en_spec_l23All : (List (Int × (Int × (Int × Int)))) × Int → AV × List CV := fun b => (.tup [⟨false, [(.own (.pair (.int .i64) (.pair (.int .i64) (.pair (.int .i64) (.int .i64)))) b.1)]⟩, ⟨false, [(.v (.int .i64 b.2))]⟩], [])
noncomputable abbrev k_spec_l23All : Contract := .fx as_spec_l23All ((List (Int × (Int × (Int × Int)))) × Int) (fun z => g_spec_l23All z.1) en_spec_l23All
theorem r_spec_l23All (z : argsX as_spec_l23All) : runF (tab C0 T_spec_l23All) h_spec_l23All 1 Tryd.f48 (lentOf as_spec_l23All) (xBoxes as_spec_l23All z) (xVals as_spec_l23All 0 z) K2 = t_spec_l23All (fun b => some (en_spec_l23All b)) z.1 := by kernel_rfl
theorem so_spec_l23All : Sound C0 48 k_spec_l23All :=
  Sound.fx a_spec_l23All mixed Tryd.func48 (by kernel_rfl) (by kernel_rfl) h_spec_l23All 1 hs_spec_l23All (fun z => (r_spec_l23All z).trans (nat_spec_l23All _ z.1))

/-! ### F20 spec.FoldPointLine -/
noncomputable def T_spec_FoldPointLine : List (FuncId × Contract) := [(41, k_spec_l02Point), (42, k_spec_l02Line), (44, k_spec_l02Of), (55, k_spec_l02Through), (45, k_spec_l02LineOf), (56, k_spec_l23Aligned), (48, k_spec_l23All)]
theorem a_spec_FoldPointLine : AllSound C0 T_spec_FoldPointLine := .cons so_spec_l02Point (.cons so_spec_l02Line (.cons so_spec_l02Of (.cons so_spec_l02Through (.cons so_spec_l02LineOf (.cons so_spec_l23Aligned (.cons so_spec_l23All (.nil)))))))
abbrev s_spec_FoldPointLine_6 : LS := ⟨[(false, [(.ptr 3 0)]), (false, [(.ptr 4 0)]), (false, [(.ptr 5 0)]), (false, [(.own (.pair (.int .i64) (.pair (.int .i64) (.pair (.int .i64) (.int .i64)))))]), (false, [(.int .i64)])], [(false, [(.int .i64), (.int .i64), (.int .i64), (.int .i64), (.int .i64), (.int .i64)]), (false, [(.int .i64), (.int .i64), (.int .i64), (.int .i64)]), (false, [(.int .i64), (.int .i64), (.int .i64), (.int .i64), (.int .i64), (.int .i64)])], []⟩
abbrev e_spec_FoldPointLine_6_0 : LS := ⟨[(false, [(.own (.pair (.int .i64) (.pair (.int .i64) (.pair (.int .i64) (.int .i64)))))])], [], []⟩
abbrev d_spec_FoldPointLine_6_0 (v0 : List (Int × (Int × (Int × Int)))) : e_spec_FoldPointLine_6_0.T := (((v0, ()), ()), (), ())
abbrev x_spec_FoldPointLine_6 : List (Ex × LS) := [(.exit 0, e_spec_FoldPointLine_6_0)]
abbrev m_spec_FoldPointLine_6 (x8 : List (Int × (Int × (Int × Int)))) (x9 : Int) (b0_0 : Int) (b0_1 : Int) (b0_2 : Int) (b0_3 : Int) (b0_4 : Int) (b0_5 : Int) (b1_0 : Int) (b1_1 : Int) (b1_2 : Int) (b1_3 : Int) (b2_0 : Int) (b2_1 : Int) (b2_2 : Int) (b2_3 : Int) (b2_4 : Int) (b2_5 : Int) : s_spec_FoldPointLine_6.T := ((((), ()), ((), ()), ((), ()), (x8, ()), (x9, ()), ()), ((b0_0, b0_1, b0_2, b0_3, b0_4, b0_5, ()), (b1_0, b1_1, b1_2, b1_3, ()), (b2_0, b2_1, b2_2, b2_3, b2_4, b2_5, ()), ()), ())
noncomputable def u_spec_FoldPointLine_6 {R : Type} (nx : s_spec_FoldPointLine_6.T → Option R) (hx : exH R x_spec_FoldPointLine_6) (x8 : List (Int × (Int × (Int × Int)))) (x9 : Int) (b0_0 : Int) (b0_1 : Int) (b0_2 : Int) (b0_3 : Int) (b0_4 : Int) (b0_5 : Int) (b1_0 : Int) (b1_1 : Int) (b1_2 : Int) (b1_3 : Int) (b2_0 : Int) (b2_1 : Int) (b2_2 : Int) (b2_3 : Int) (b2_4 : Int) (b2_5 : Int) : Option R :=
  cond (decide (x9 < (8 : Int)))
  (Option.bind (g_spec_l02Of ((b2_0, (b2_1, b2_2)), (b2_3, (b2_4, b2_5)))) fun y53 =>
   Option.bind (g_spec_l02Through y53 x9) fun y134 =>
   Option.bind (g_spec_l02Of ((b0_0, (b0_1, b0_2)), (b0_3, (b0_4, b0_5)))) fun y135 =>
   Option.bind (g_spec_l02LineOf (b1_0, (b1_1, (b1_2, b1_3)))) fun y138 =>
   Option.bind (g_spec_l23Aligned y134 y135 y138) fun y228 =>
   cond y228
   (cond (decide ((((List.length x8) + (List.length [y134])) * 32) ≤ 70368744177664))
    (cond (decide (((List.length x8) + (List.length [y134])) ≤ 70368744177664))
     (nx (m_spec_FoldPointLine_6 (x8 ++ [y134]) (IntKind.wrap IntKind.i64 (x9 + (1 : Int))) b0_0 b0_1 b0_2 b0_3 b0_4 b0_5 b1_0 b1_1 b1_2 b1_3 b2_0 b2_1 b2_2 b2_3 b2_4 b2_5))
     (none))
    (none))
   (nx (m_spec_FoldPointLine_6 x8 (IntKind.wrap IntKind.i64 (x9 + (1 : Int))) b0_0 b0_1 b0_2 b0_3 b0_4 b0_5 b1_0 b1_1 b1_2 b1_3 b2_0 b2_1 b2_2 b2_3 b2_4 b2_5)))
  (hx.1 (d_spec_FoldPointLine_6_0 x8))
noncomputable def t_spec_FoldPointLine_6 {R : Type} (nx : s_spec_FoldPointLine_6.T → Option R) (hx : exH R x_spec_FoldPointLine_6) (z : s_spec_FoldPointLine_6.T) : Option R := u_spec_FoldPointLine_6 nx hx z.1.2.2.2.1.1 z.1.2.2.2.2.1.1 z.2.1.1.1 z.2.1.1.2.1 z.2.1.1.2.2.1 z.2.1.1.2.2.2.1 z.2.1.1.2.2.2.2.1 z.2.1.1.2.2.2.2.2.1 z.2.1.2.1.1 z.2.1.2.1.2.1 z.2.1.2.1.2.2.1 z.2.1.2.1.2.2.2.1 z.2.1.2.2.1.1 z.2.1.2.2.1.2.1 z.2.1.2.2.1.2.2.1 z.2.1.2.2.1.2.2.2.1 z.2.1.2.2.1.2.2.2.2.1 z.2.1.2.2.1.2.2.2.2.2.1
theorem nat_spec_FoldPointLine_6 : Natural @t_spec_FoldPointLine_6 := fun R nx hx z => by
  show u_spec_FoldPointLine_6 nx hx z.1.2.2.2.1.1 z.1.2.2.2.2.1.1 z.2.1.1.1 z.2.1.1.2.1 z.2.1.1.2.2.1 z.2.1.1.2.2.2.1 z.2.1.1.2.2.2.2.1 z.2.1.1.2.2.2.2.2.1 z.2.1.2.1.1 z.2.1.2.1.2.1 z.2.1.2.1.2.2.1 z.2.1.2.1.2.2.2.1 z.2.1.2.2.1.1 z.2.1.2.2.1.2.1 z.2.1.2.2.1.2.2.1 z.2.1.2.2.1.2.2.2.1 z.2.1.2.2.1.2.2.2.2.1 z.2.1.2.2.1.2.2.2.2.2.1 = (u_spec_FoldPointLine_6 (fun y => some (.inl y)) (hIn x_spec_FoldPointLine_6 fun x => some (.inr x)) z.1.2.2.2.1.1 z.1.2.2.2.2.1.1 z.2.1.1.1 z.2.1.1.2.1 z.2.1.1.2.2.1 z.2.1.1.2.2.2.1 z.2.1.1.2.2.2.2.1 z.2.1.1.2.2.2.2.2.1 z.2.1.2.1.1 z.2.1.2.1.2.1 z.2.1.2.1.2.2.1 z.2.1.2.1.2.2.2.1 z.2.1.2.2.1.1 z.2.1.2.2.1.2.1 z.2.1.2.2.1.2.2.1 z.2.1.2.2.1.2.2.2.1 z.2.1.2.2.1.2.2.2.2.1 z.2.1.2.2.1.2.2.2.2.2.1).bind (goOn nx hx)
  unfold u_spec_FoldPointLine_6
  exact nat_cond (nat_bind fun _ => nat_bind fun _ => nat_bind fun _ => nat_bind fun _ => nat_bind fun _ => nat_cond (nat_cond (nat_cond (rfl) (rfl)) (rfl)) (rfl)) (rfl)
noncomputable def w_spec_FoldPointLine_6 : s_spec_FoldPointLine_6.T → Option (exT x_spec_FoldPointLine_6) := wOf @t_spec_FoldPointLine_6
theorem wq_spec_FoldPointLine_6 (x8 : List (Int × (Int × (Int × Int)))) (x9 : Int) (b0_0 : Int) (b0_1 : Int) (b0_2 : Int) (b0_3 : Int) (b0_4 : Int) (b0_5 : Int) (b1_0 : Int) (b1_1 : Int) (b1_2 : Int) (b1_3 : Int) (b2_0 : Int) (b2_1 : Int) (b2_2 : Int) (b2_3 : Int) (b2_4 : Int) (b2_5 : Int) : w_spec_FoldPointLine_6 (m_spec_FoldPointLine_6 x8 x9 b0_0 b0_1 b0_2 b0_3 b0_4 b0_5 b1_0 b1_1 b1_2 b1_3 b2_0 b2_1 b2_2 b2_3 b2_4 b2_5) = u_spec_FoldPointLine_6 w_spec_FoldPointLine_6 (hIn x_spec_FoldPointLine_6 some) x8 x9 b0_0 b0_1 b0_2 b0_3 b0_4 b0_5 b1_0 b1_1 b1_2 b1_3 b2_0 b2_1 b2_2 b2_3 b2_4 b2_5 := wOf_eq nat_spec_FoldPointLine_6 _
def lh_spec_FoldPointLine_6 : LoopHint := ⟨[3, 4, 5, 8, 9], [3, 4, 5], [8], []⟩
noncomputable def h_spec_FoldPointLine : Hints Rv := ⟨fun k => match k with | 6 => lh_spec_FoldPointLine_6 | _ => ⟨[], [], [], []⟩, fun k => match k with | 6 => some (loopX s_spec_FoldPointLine_6 x_spec_FoldPointLine_6 w_spec_FoldPointLine_6) | _ => none⟩
theorem st_spec_FoldPointLine_6 (n : Nat) (z : s_spec_FoldPointLine_6.T) (k : Ex → Live → Option Rv) : loopN ⟨47, 47⟩ lh_spec_FoldPointLine_6 (den (tab C0 T_spec_FoldPointLine) ⟨47, 47⟩ h_spec_FoldPointLine 1 (loopOf Tryd.f20 5)) (n + 1) (s_spec_FoldPointLine_6.enc z) k =
    t_spec_FoldPointLine_6 (fun y => loopN ⟨47, 47⟩ lh_spec_FoldPointLine_6 (den (tab C0 T_spec_FoldPointLine) ⟨47, 47⟩ h_spec_FoldPointLine 1 (loopOf Tryd.f20 5)) n (s_spec_FoldPointLine_6.enc y) k) (hK k x_spec_FoldPointLine_6) z := by kernel_rfl
theorem hs_spec_FoldPointLine : HintsOk (tab C0 T_spec_FoldPointLine) ⟨47, 47⟩ h_spec_FoldPointLine 1 (loops (codeOf Tryd.f20)) := by
  have hl : loops (codeOf Tryd.f20) = [loopOf Tryd.f20 5] := by kernel_rfl
  rw [hl]
  exact HintsOk.cons (n := 6) (lh := lh_spec_FoldPointLine_6) (S := loopX s_spec_FoldPointLine_6 x_spec_FoldPointLine_6 w_spec_FoldPointLine_6) (by kernel_rfl) rfl rfl (loopX_ok nat_spec_FoldPointLine_6 st_spec_FoldPointLine_6)
    (HintsOk.nil)
noncomputable def t_spec_FoldPointLine {R : Type} (kx : (List (Int × (Int × (Int × Int)))) × Int → Option R) (a0 : ((Int × (Int × Int)) × (Int × (Int × Int)))) (a1 : (Int × (Int × (Int × Int)))) (a2 : ((Int × (Int × Int)) × (Int × (Int × Int)))) : Option R :=
  Option.bind (g_spec_l02Point a0) fun y25 =>
  cond (!y25)
  (kx ([], (1 : Int)))
  (Option.bind (g_spec_l02Line a1) fun y29 =>
   cond (!y29)
   (kx ([], (1 : Int)))
   (Option.bind (g_spec_l02Point a2) fun y30 =>
    cond (!y30)
    (kx ([], (1 : Int)))
    (Option.bind (w_spec_FoldPointLine_6 (m_spec_FoldPointLine_6 [] (0 : Int) a0.1.1 a0.1.2.1 a0.1.2.2 a0.2.1 a0.2.2.1 a0.2.2.2 a1.1 a1.2.1 a1.2.2.1 a1.2.2.2 a2.1.1 a2.1.2.1 a2.1.2.2 a2.2.1 a2.2.2.1 a2.2.2.2)) (exC x_spec_FoldPointLine_6
     (fun e229 =>
      Option.bind (g_spec_l23All (e229.1.1.1 : List (Int × (Int × (Int × Int))))) fun y248 =>
      kx y248, ())))))
noncomputable def g_spec_FoldPointLine (a0 : ((Int × (Int × Int)) × (Int × (Int × Int)))) (a1 : (Int × (Int × (Int × Int)))) (a2 : ((Int × (Int × Int)) × (Int × (Int × Int)))) : Option ((List (Int × (Int × (Int × Int)))) × Int) := t_spec_FoldPointLine some a0 a1 a2
theorem nat_spec_FoldPointLine {R : Type} (kx : (List (Int × (Int × (Int × Int)))) × Int → Option R) (a0 : ((Int × (Int × Int)) × (Int × (Int × Int)))) (a1 : (Int × (Int × (Int × Int)))) (a2 : ((Int × (Int × Int)) × (Int × (Int × Int)))) : t_spec_FoldPointLine kx a0 a1 a2 = (g_spec_FoldPointLine a0 a1 a2).bind kx := by
  unfold g_spec_FoldPointLine t_spec_FoldPointLine
  exact nat_bind fun _ => nat_cond (rfl) (nat_bind fun _ => nat_cond (rfl) (nat_bind fun _ => nat_cond (rfl) (nat_exC ⟨fun _ => nat_bind fun _ => rfl, trivial⟩)))
abbrev as_spec_FoldPointLine : List AX := [.val true (.pair (.pair (.int .i64) (.pair (.int .i64) (.int .i64))) (.pair (.int .i64) (.pair (.int .i64) (.int .i64)))), .val true (.pair (.int .i64) (.pair (.int .i64) (.pair (.int .i64) (.int .i64)))), .val true (.pair (.pair (.int .i64) (.pair (.int .i64) (.int .i64))) (.pair (.int .i64) (.pair (.int .i64) (.int .i64))))]
abbrev en_spec_FoldPointLine : (List (Int × (Int × (Int × Int)))) × Int → AV × List CV := fun b => (.tup [⟨false, [(.own (.pair (.int .i64) (.pair (.int .i64) (.pair (.int .i64) (.int .i64)))) b.1)]⟩, ⟨false, [(.v (.int .i64 b.2))]⟩], [])
noncomputable abbrev k_spec_FoldPointLine : Contract := .fx as_spec_FoldPointLine ((List (Int × (Int × (Int × Int)))) × Int) (fun z => g_spec_FoldPointLine z.1 z.2.1 z.2.2.1) en_spec_FoldPointLine
theorem r_spec_FoldPointLine (z : argsX as_spec_FoldPointLine) : runF (tab C0 T_spec_FoldPointLine) h_spec_FoldPointLine 1 Tryd.f20 (lentOf as_spec_FoldPointLine) (xBoxes as_spec_FoldPointLine z) (xVals as_spec_FoldPointLine 0 z) K2 = t_spec_FoldPointLine (fun b => some (en_spec_FoldPointLine b)) z.1 z.2.1 z.2.2.1 := by kernel_rfl
theorem so_spec_FoldPointLine : Sound C0 20 k_spec_FoldPointLine :=
  Sound.fx a_spec_FoldPointLine mixed Tryd.func20 (by kernel_rfl) (by kernel_rfl) h_spec_FoldPointLine 1 hs_spec_FoldPointLine (fun z => (r_spec_FoldPointLine z).trans (nat_spec_FoldPointLine _ z.1 z.2.1 z.2.2.1))

/-! ### F81 impl.within -/
noncomputable def T_impl_within : List (FuncId × Contract) := []
theorem a_impl_within : AllSound C0 T_impl_within := .nil
noncomputable def t_impl_within {R : Type} (kx : Bool → Option R) (a0 : Int) (a1 : Int) (a2 : Int) : Option R :=
  cond (decide (a0 ≥ a1))
  (kx (decide (a0 ≤ a2)))
  (kx Bool.false)
noncomputable def g_impl_within (a0 : Int) (a1 : Int) (a2 : Int) : Option (Bool) := t_impl_within some a0 a1 a2
theorem nat_impl_within {R : Type} (kx : Bool → Option R) (a0 : Int) (a1 : Int) (a2 : Int) : t_impl_within kx a0 a1 a2 = (g_impl_within a0 a1 a2).bind kx := by
  unfold g_impl_within t_impl_within
  exact nat_cond (rfl) (rfl)
abbrev as_impl_within : List AX := [.val false (.int .i64), .val false (.int .i64), .val false (.int .i64)]
abbrev en_impl_within : Bool → AV × List CV := fun b => (.one ⟨false, [(.v (.bool b))]⟩, [])
noncomputable abbrev k_impl_within : Contract := .fx as_impl_within (Bool) (fun z => g_impl_within z.1 z.2.1 z.2.2.1) en_impl_within
theorem r_impl_within (z : argsX as_impl_within) : runF (tab C0 T_impl_within) noHints 1 Tryd.f81 (lentOf as_impl_within) (xBoxes as_impl_within z) (xVals as_impl_within 0 z) K2 = t_impl_within (fun b => some (en_impl_within b)) z.1 z.2.1 z.2.2.1 := by kernel_rfl
theorem so_impl_within : Sound C0 81 k_impl_within :=
  Sound.fx a_impl_within mixed Tryd.func81 (by kernel_rfl) (by kernel_rfl) noHints 1 noHints_ok (fun z => (r_impl_within z).trans (nat_impl_within _ z.1 z.2.1 z.2.2.1))

/-! ### F93 impl.ValidNum -/
noncomputable def T_impl_ValidNum : List (FuncId × Contract) := [(81, k_impl_within)]
theorem a_impl_ValidNum : AllSound C0 T_impl_ValidNum := .cons so_impl_within (.nil)
noncomputable def t_impl_ValidNum {R : Type} (kx : Bool → Option R) (a0 : (Int × (Int × Int))) : Option R :=
  Option.bind (g_impl_within a0.1 (-(131072 : Int)) (131072 : Int)) fun y261 =>
  cond y261
  (Option.bind (g_impl_within a0.2.1 (-(131072 : Int)) (131072 : Int)) fun y262 =>
   cond y262
   (Option.bind (g_impl_within a0.2.2 (0 : Int) (10 : Int)) fun y263 =>
    cond y263
    (cond (a0.2.2 == (0 : Int))
     (kx Bool.true)
     (cond ((IntKind.wrap IntKind.i64 (((BitVec.toNat ((BitVec.ofInt 64 a0.1) &&& (BitVec.ofInt 64 (1 : Int)))) : Nat) : Int)) == (1 : Int))
      (kx Bool.true)
      (kx ((IntKind.wrap IntKind.i64 (((BitVec.toNat ((BitVec.ofInt 64 a0.2.1) &&& (BitVec.ofInt 64 (1 : Int)))) : Nat) : Int)) == (1 : Int)))))
    (kx Bool.false))
   (kx Bool.false))
  (kx Bool.false)
noncomputable def g_impl_ValidNum (a0 : (Int × (Int × Int))) : Option (Bool) := t_impl_ValidNum some a0
theorem nat_impl_ValidNum {R : Type} (kx : Bool → Option R) (a0 : (Int × (Int × Int))) : t_impl_ValidNum kx a0 = (g_impl_ValidNum a0).bind kx := by
  unfold g_impl_ValidNum t_impl_ValidNum
  exact nat_bind fun _ => nat_cond (nat_bind fun _ => nat_cond (nat_bind fun _ => nat_cond (nat_cond (rfl) (nat_cond (rfl) (rfl))) (rfl)) (rfl)) (rfl)
abbrev as_impl_ValidNum : List AX := [.val true (.pair (.int .i64) (.pair (.int .i64) (.int .i64)))]
abbrev en_impl_ValidNum : Bool → AV × List CV := fun b => (.one ⟨false, [(.v (.bool b))]⟩, [])
noncomputable abbrev k_impl_ValidNum : Contract := .fx as_impl_ValidNum (Bool) (fun z => g_impl_ValidNum z.1) en_impl_ValidNum
theorem r_impl_ValidNum (z : argsX as_impl_ValidNum) : runF (tab C0 T_impl_ValidNum) noHints 1 Tryd.f93 (lentOf as_impl_ValidNum) (xBoxes as_impl_ValidNum z) (xVals as_impl_ValidNum 0 z) K2 = t_impl_ValidNum (fun b => some (en_impl_ValidNum b)) z.1 := by kernel_rfl
theorem so_impl_ValidNum : Sound C0 93 k_impl_ValidNum :=
  Sound.fx a_impl_ValidNum mixed Tryd.func93 (by kernel_rfl) (by kernel_rfl) noHints 1 noHints_ok (fun z => (r_impl_ValidNum z).trans (nat_impl_ValidNum _ z.1))

/-! ### F50 impl.ValidPoint -/
noncomputable def T_impl_ValidPoint : List (FuncId × Contract) := [(93, k_impl_ValidNum)]
theorem a_impl_ValidPoint : AllSound C0 T_impl_ValidPoint := .cons so_impl_ValidNum (.nil)
noncomputable def t_impl_ValidPoint {R : Type} (kx : Bool → Option R) (a0 : ((Int × (Int × Int)) × (Int × (Int × Int)))) : Option R :=
  Option.bind (g_impl_ValidNum a0.1) fun y264 =>
  cond y264
  (Option.bind (g_impl_ValidNum a0.2) fun y265 =>
   kx y265)
  (kx Bool.false)
noncomputable def g_impl_ValidPoint (a0 : ((Int × (Int × Int)) × (Int × (Int × Int)))) : Option (Bool) := t_impl_ValidPoint some a0
theorem nat_impl_ValidPoint {R : Type} (kx : Bool → Option R) (a0 : ((Int × (Int × Int)) × (Int × (Int × Int)))) : t_impl_ValidPoint kx a0 = (g_impl_ValidPoint a0).bind kx := by
  unfold g_impl_ValidPoint t_impl_ValidPoint
  exact nat_bind fun _ => nat_cond (nat_bind fun _ => rfl) (rfl)
abbrev as_impl_ValidPoint : List AX := [.val true (.pair (.pair (.int .i64) (.pair (.int .i64) (.int .i64))) (.pair (.int .i64) (.pair (.int .i64) (.int .i64))))]
abbrev en_impl_ValidPoint : Bool → AV × List CV := fun b => (.one ⟨false, [(.v (.bool b))]⟩, [])
noncomputable abbrev k_impl_ValidPoint : Contract := .fx as_impl_ValidPoint (Bool) (fun z => g_impl_ValidPoint z.1) en_impl_ValidPoint
theorem r_impl_ValidPoint (z : argsX as_impl_ValidPoint) : runF (tab C0 T_impl_ValidPoint) noHints 1 Tryd.f50 (lentOf as_impl_ValidPoint) (xBoxes as_impl_ValidPoint z) (xVals as_impl_ValidPoint 0 z) K2 = t_impl_ValidPoint (fun b => some (en_impl_ValidPoint b)) z.1 := by kernel_rfl
theorem so_impl_ValidPoint : Sound C0 50 k_impl_ValidPoint :=
  Sound.fx a_impl_ValidPoint mixed Tryd.func50 (by kernel_rfl) (by kernel_rfl) noHints 1 noHints_ok (fun z => (r_impl_ValidPoint z).trans (nat_impl_ValidPoint _ z.1))

/-! ### F51 impl.ValidLine -/
noncomputable def T_impl_ValidLine : List (FuncId × Contract) := [(81, k_impl_within), (93, k_impl_ValidNum)]
theorem a_impl_ValidLine : AllSound C0 T_impl_ValidLine := .cons so_impl_within (.cons so_impl_ValidNum (.nil))
noncomputable def t_impl_ValidLine {R : Type} (kx : Bool → Option R) (a0 : (Int × (Int × (Int × Int)))) : Option R :=
  Option.bind (g_impl_within a0.1 (0 : Int) (7 : Int)) fun y268 =>
  cond y268
  (Option.bind (g_impl_ValidNum a0.2) fun y269 =>
   kx y269)
  (kx Bool.false)
noncomputable def g_impl_ValidLine (a0 : (Int × (Int × (Int × Int)))) : Option (Bool) := t_impl_ValidLine some a0
theorem nat_impl_ValidLine {R : Type} (kx : Bool → Option R) (a0 : (Int × (Int × (Int × Int)))) : t_impl_ValidLine kx a0 = (g_impl_ValidLine a0).bind kx := by
  unfold g_impl_ValidLine t_impl_ValidLine
  exact nat_bind fun _ => nat_cond (nat_bind fun _ => rfl) (rfl)
abbrev as_impl_ValidLine : List AX := [.val true (.pair (.int .i64) (.pair (.int .i64) (.pair (.int .i64) (.int .i64))))]
abbrev en_impl_ValidLine : Bool → AV × List CV := fun b => (.one ⟨false, [(.v (.bool b))]⟩, [])
noncomputable abbrev k_impl_ValidLine : Contract := .fx as_impl_ValidLine (Bool) (fun z => g_impl_ValidLine z.1) en_impl_ValidLine
theorem r_impl_ValidLine (z : argsX as_impl_ValidLine) : runF (tab C0 T_impl_ValidLine) noHints 1 Tryd.f51 (lentOf as_impl_ValidLine) (xBoxes as_impl_ValidLine z) (xVals as_impl_ValidLine 0 z) K2 = t_impl_ValidLine (fun b => some (en_impl_ValidLine b)) z.1 := by kernel_rfl
theorem so_impl_ValidLine : Sound C0 51 k_impl_ValidLine :=
  Sound.fx a_impl_ValidLine mixed Tryd.func51 (by kernel_rfl) (by kernel_rfl) noHints 1 noHints_ok (fun z => (r_impl_ValidLine z).trans (nat_impl_ValidLine _ z.1))

/-! ### F127 (impl.Num).neg -/
noncomputable def T_impl_Num_neg : List (FuncId × Contract) := []
theorem a_impl_Num_neg : AllSound C0 T_impl_Num_neg := .nil
noncomputable def t_impl_Num_neg {R : Type} (kx : (Int × (Int × Int)) → Option R) (a0 : (Int × (Int × Int))) : Option R :=
  kx ((IntKind.wrap IntKind.i64 ((0 : Int) - a0.1)), ((IntKind.wrap IntKind.i64 ((0 : Int) - a0.2.1)), a0.2.2))
noncomputable def g_impl_Num_neg (a0 : (Int × (Int × Int))) : Option ((Int × (Int × Int))) := t_impl_Num_neg some a0
theorem nat_impl_Num_neg {R : Type} (kx : (Int × (Int × Int)) → Option R) (a0 : (Int × (Int × Int))) : t_impl_Num_neg kx a0 = (g_impl_Num_neg a0).bind kx := by
  unfold g_impl_Num_neg t_impl_Num_neg
  exact rfl
abbrev as_impl_Num_neg : List AX := [.val true (.pair (.int .i64) (.pair (.int .i64) (.int .i64)))]
abbrev en_impl_Num_neg : (Int × (Int × Int)) → AV × List CV := fun b => (.one ⟨true, [(.v (.int .i64 b.1)), (.v (.int .i64 b.2.1)), (.v (.int .i64 b.2.2))]⟩, [])
noncomputable abbrev k_impl_Num_neg : Contract := .fx as_impl_Num_neg ((Int × (Int × Int))) (fun z => g_impl_Num_neg z.1) en_impl_Num_neg
theorem r_impl_Num_neg (z : argsX as_impl_Num_neg) : runF (tab C0 T_impl_Num_neg) noHints 1 Tryd.f127 (lentOf as_impl_Num_neg) (xBoxes as_impl_Num_neg z) (xVals as_impl_Num_neg 0 z) K2 = t_impl_Num_neg (fun b => some (en_impl_Num_neg b)) z.1 := by kernel_rfl
theorem so_impl_Num_neg : Sound C0 127 k_impl_Num_neg :=
  Sound.fx a_impl_Num_neg mixed Tryd.func127 (by kernel_rfl) (by kernel_rfl) noHints 1 noHints_ok (fun z => (r_impl_Num_neg z).trans (nat_impl_Num_neg _ z.1))

/-! ### F94 impl.vector -/
noncomputable def T_impl_vector : List (FuncId × Contract) := [(127, k_impl_Num_neg)]
theorem a_impl_vector : AllSound C0 T_impl_vector := .cons so_impl_Num_neg (.nil)
noncomputable def t_impl_vector {R : Type} (kx : ((Int × (Int × Int)) × (Int × (Int × Int))) → Option R) (a0 : Int) : Option R :=
  cond (decide (a0 ≥ (8 : Int)))
  (cond (decide ((IntKind.wrap IntKind.i64 (a0 - (8 : Int))) = ((0 : Nat) : Int)))
   (Option.bind (g_impl_Num_neg ((1 : Int), ((0 : Int), (0 : Int)))) fun y295 =>
    Option.bind (g_impl_Num_neg ((0 : Int), ((0 : Int), (0 : Int)))) fun y296 =>
    kx (y295, y296))
   (cond (decide ((IntKind.wrap IntKind.i64 (a0 - (8 : Int))) = (((0 + 1) : Nat) : Int)))
    (Option.bind (g_impl_Num_neg ((1 : Int), ((0 : Int), (0 : Int)))) fun y297 =>
     Option.bind (g_impl_Num_neg ((-(1 : Int)), ((1 : Int), (0 : Int)))) fun y298 =>
     kx (y297, y298))
    (cond (decide ((IntKind.wrap IntKind.i64 (a0 - (8 : Int))) = ((((0 + 1) + 1) : Nat) : Int)))
     (Option.bind (g_impl_Num_neg ((1 : Int), ((0 : Int), (0 : Int)))) fun y299 =>
      Option.bind (g_impl_Num_neg ((1 : Int), ((0 : Int), (0 : Int)))) fun y300 =>
      kx (y299, y300))
     (cond (decide ((IntKind.wrap IntKind.i64 (a0 - (8 : Int))) = (((((0 + 1) + 1) + 1) : Nat) : Int)))
      (Option.bind (g_impl_Num_neg ((-(1 : Int)), ((1 : Int), (0 : Int)))) fun y301 =>
       Option.bind (g_impl_Num_neg ((1 : Int), ((0 : Int), (0 : Int)))) fun y302 =>
       kx (y301, y302))
      (cond (decide ((IntKind.wrap IntKind.i64 (a0 - (8 : Int))) = ((((((0 + 1) + 1) + 1) + 1) : Nat) : Int)))
       (Option.bind (g_impl_Num_neg ((0 : Int), ((0 : Int), (0 : Int)))) fun y303 =>
        Option.bind (g_impl_Num_neg ((1 : Int), ((0 : Int), (0 : Int)))) fun y304 =>
        kx (y303, y304))
       (cond (decide ((IntKind.wrap IntKind.i64 (a0 - (8 : Int))) = (((((((0 + 1) + 1) + 1) + 1) + 1) : Nat) : Int)))
        (Option.bind (g_impl_Num_neg ((1 : Int), ((-(1 : Int)), (0 : Int)))) fun y305 =>
         Option.bind (g_impl_Num_neg ((1 : Int), ((0 : Int), (0 : Int)))) fun y306 =>
         kx (y305, y306))
        (cond (decide ((IntKind.wrap IntKind.i64 (a0 - (8 : Int))) = ((((((((0 + 1) + 1) + 1) + 1) + 1) + 1) : Nat) : Int)))
         (Option.bind (g_impl_Num_neg ((-(1 : Int)), ((0 : Int), (0 : Int)))) fun y307 =>
          Option.bind (g_impl_Num_neg ((1 : Int), ((0 : Int), (0 : Int)))) fun y308 =>
          kx (y307, y308))
         (cond (decide ((IntKind.wrap IntKind.i64 (a0 - (8 : Int))) = (((((((((0 + 1) + 1) + 1) + 1) + 1) + 1) + 1) : Nat) : Int)))
          (Option.bind (g_impl_Num_neg ((-(1 : Int)), ((0 : Int), (0 : Int)))) fun y309 =>
           Option.bind (g_impl_Num_neg ((-(1 : Int)), ((1 : Int), (0 : Int)))) fun y310 =>
           kx (y309, y310))
          (none)))))))))
  (cond (decide (a0 = ((0 : Nat) : Int)))
   (kx (((1 : Int), ((0 : Int), (0 : Int))), ((0 : Int), ((0 : Int), (0 : Int)))))
   (cond (decide (a0 = (((0 + 1) : Nat) : Int)))
    (kx (((1 : Int), ((0 : Int), (0 : Int))), ((-(1 : Int)), ((1 : Int), (0 : Int)))))
    (cond (decide (a0 = ((((0 + 1) + 1) : Nat) : Int)))
     (kx (((1 : Int), ((0 : Int), (0 : Int))), ((1 : Int), ((0 : Int), (0 : Int)))))
     (cond (decide (a0 = (((((0 + 1) + 1) + 1) : Nat) : Int)))
      (kx (((-(1 : Int)), ((1 : Int), (0 : Int))), ((1 : Int), ((0 : Int), (0 : Int)))))
      (cond (decide (a0 = ((((((0 + 1) + 1) + 1) + 1) : Nat) : Int)))
       (kx (((0 : Int), ((0 : Int), (0 : Int))), ((1 : Int), ((0 : Int), (0 : Int)))))
       (cond (decide (a0 = (((((((0 + 1) + 1) + 1) + 1) + 1) : Nat) : Int)))
        (kx (((1 : Int), ((-(1 : Int)), (0 : Int))), ((1 : Int), ((0 : Int), (0 : Int)))))
        (cond (decide (a0 = ((((((((0 + 1) + 1) + 1) + 1) + 1) + 1) : Nat) : Int)))
         (kx (((-(1 : Int)), ((0 : Int), (0 : Int))), ((1 : Int), ((0 : Int), (0 : Int)))))
         (cond (decide (a0 = (((((((((0 + 1) + 1) + 1) + 1) + 1) + 1) + 1) : Nat) : Int)))
          (kx (((-(1 : Int)), ((0 : Int), (0 : Int))), ((-(1 : Int)), ((1 : Int), (0 : Int)))))
          (none)))))))))
noncomputable def g_impl_vector (a0 : Int) : Option (((Int × (Int × Int)) × (Int × (Int × Int)))) := t_impl_vector some a0
theorem nat_impl_vector {R : Type} (kx : ((Int × (Int × Int)) × (Int × (Int × Int))) → Option R) (a0 : Int) : t_impl_vector kx a0 = (g_impl_vector a0).bind kx := by
  unfold g_impl_vector t_impl_vector
  exact nat_cond (nat_cond (nat_bind fun _ => nat_bind fun _ => rfl) (nat_cond (nat_bind fun _ => nat_bind fun _ => rfl) (nat_cond (nat_bind fun _ => nat_bind fun _ => rfl) (nat_cond (nat_bind fun _ => nat_bind fun _ => rfl) (nat_cond (nat_bind fun _ => nat_bind fun _ => rfl) (nat_cond (nat_bind fun _ => nat_bind fun _ => rfl) (nat_cond (nat_bind fun _ => nat_bind fun _ => rfl) (nat_cond (nat_bind fun _ => nat_bind fun _ => rfl) (rfl))))))))) (nat_cond (rfl) (nat_cond (rfl) (nat_cond (rfl) (nat_cond (rfl) (nat_cond (rfl) (nat_cond (rfl) (nat_cond (rfl) (nat_cond (rfl) (rfl)))))))))
abbrev as_impl_vector : List AX := [.val false (.int .i64)]
abbrev en_impl_vector : ((Int × (Int × Int)) × (Int × (Int × Int))) → AV × List CV := fun b => (.one ⟨true, [(.v (.int .i64 b.1.1)), (.v (.int .i64 b.1.2.1)), (.v (.int .i64 b.1.2.2)), (.v (.int .i64 b.2.1)), (.v (.int .i64 b.2.2.1)), (.v (.int .i64 b.2.2.2))]⟩, [])
noncomputable abbrev k_impl_vector : Contract := .fx as_impl_vector (((Int × (Int × Int)) × (Int × (Int × Int)))) (fun z => g_impl_vector z.1) en_impl_vector
theorem r_impl_vector (z : argsX as_impl_vector) : runF (tab C0 T_impl_vector) noHints 1 Tryd.f94 (lentOf as_impl_vector) (xBoxes as_impl_vector z) (xVals as_impl_vector 0 z) K2 = t_impl_vector (fun b => some (en_impl_vector b)) z.1 := by kernel_rfl
theorem so_impl_vector : Sound C0 94 k_impl_vector :=
  Sound.fx a_impl_vector mixed Tryd.func94 (by kernel_rfl) (by kernel_rfl) noHints 1 noHints_ok (fun z => (r_impl_vector z).trans (nat_impl_vector _ z.1))

/-! ### F95 (impl.Line).normal -/
noncomputable def T_impl_Line_normal : List (FuncId × Contract) := [(94, k_impl_vector)]
theorem a_impl_Line_normal : AllSound C0 T_impl_Line_normal := .cons so_impl_vector (.nil)
noncomputable def t_impl_Line_normal {R : Type} (kx : ((Int × (Int × Int)) × (Int × (Int × Int))) → Option R) (a0 : (Int × (Int × (Int × Int)))) : Option R :=
  Option.bind (g_impl_vector (IntKind.wrap IntKind.i64 (a0.1 + (4 : Int)))) fun y311 =>
  kx y311
noncomputable def g_impl_Line_normal (a0 : (Int × (Int × (Int × Int)))) : Option (((Int × (Int × Int)) × (Int × (Int × Int)))) := t_impl_Line_normal some a0
theorem nat_impl_Line_normal {R : Type} (kx : ((Int × (Int × Int)) × (Int × (Int × Int))) → Option R) (a0 : (Int × (Int × (Int × Int)))) : t_impl_Line_normal kx a0 = (g_impl_Line_normal a0).bind kx := by
  unfold g_impl_Line_normal t_impl_Line_normal
  exact nat_bind fun _ => rfl
abbrev as_impl_Line_normal : List AX := [.val true (.pair (.int .i64) (.pair (.int .i64) (.pair (.int .i64) (.int .i64))))]
abbrev en_impl_Line_normal : ((Int × (Int × Int)) × (Int × (Int × Int))) → AV × List CV := fun b => (.one ⟨true, [(.v (.int .i64 b.1.1)), (.v (.int .i64 b.1.2.1)), (.v (.int .i64 b.1.2.2)), (.v (.int .i64 b.2.1)), (.v (.int .i64 b.2.2.1)), (.v (.int .i64 b.2.2.2))]⟩, [])
noncomputable abbrev k_impl_Line_normal : Contract := .fx as_impl_Line_normal (((Int × (Int × Int)) × (Int × (Int × Int)))) (fun z => g_impl_Line_normal z.1) en_impl_Line_normal
theorem r_impl_Line_normal (z : argsX as_impl_Line_normal) : runF (tab C0 T_impl_Line_normal) noHints 1 Tryd.f95 (lentOf as_impl_Line_normal) (xBoxes as_impl_Line_normal z) (xVals as_impl_Line_normal 0 z) K2 = t_impl_Line_normal (fun b => some (en_impl_Line_normal b)) z.1 := by kernel_rfl
theorem so_impl_Line_normal : Sound C0 95 k_impl_Line_normal :=
  Sound.fx a_impl_Line_normal mixed Tryd.func95 (by kernel_rfl) (by kernel_rfl) noHints 1 noHints_ok (fun z => (r_impl_Line_normal z).trans (nat_impl_Line_normal _ z.1))

/-! ### F116 (impl.Num).reduced -/
noncomputable def T_impl_Num_reduced : List (FuncId × Contract) := []
theorem a_impl_Num_reduced : AllSound C0 T_impl_Num_reduced := .nil
abbrev s_impl_Num_reduced_2 : LS := ⟨[(false, [(.ptr 1 0)]), (false, [(.ptr 2 0)])], [(false, [(.int .i64), (.int .i64), (.int .i64)]), (false, [(.int .i64), (.int .i64), (.int .i64)])], []⟩
abbrev e_impl_Num_reduced_2_0 : LS := ⟨[(false, [(.ptr 1 0)]), (false, [(.ptr 2 0)])], [(false, [(.int .i64), (.int .i64), (.int .i64)]), (false, [(.int .i64), (.int .i64), (.int .i64)])], []⟩
abbrev d_impl_Num_reduced_2_0 (v0 : Int) (v1 : Int) (v2 : Int) (v3 : Int) (v4 : Int) (v5 : Int) : e_impl_Num_reduced_2_0.T := ((((), ()), ((), ()), ()), ((v0, v1, v2, ()), (v3, v4, v5, ()), ()), ())
abbrev x_impl_Num_reduced_2 : List (Ex × LS) := [(.exit 0, e_impl_Num_reduced_2_0)]
abbrev m_impl_Num_reduced_2 (b0_0 : Int) (b0_1 : Int) (b0_2 : Int) (b1_0 : Int) (b1_1 : Int) (b1_2 : Int) : s_impl_Num_reduced_2.T := ((((), ()), ((), ()), ()), ((b0_0, b0_1, b0_2, ()), (b1_0, b1_1, b1_2, ()), ()), ())
noncomputable def u_impl_Num_reduced_2 {R : Type} (nx : s_impl_Num_reduced_2.T → Option R) (hx : exH R x_impl_Num_reduced_2) (b0_0 : Int) (b0_1 : Int) (b0_2 : Int) (b1_0 : Int) (b1_1 : Int) (b1_2 : Int) : Option R :=
  cond (decide (b0_2 > (0 : Int)))
  (cond ((IntKind.wrap IntKind.i64 (((BitVec.toNat ((BitVec.ofInt 64 b0_0) &&& (BitVec.ofInt 64 (1 : Int)))) : Nat) : Int)) == (0 : Int))
   (cond ((IntKind.wrap IntKind.i64 (((BitVec.toNat ((BitVec.ofInt 64 b0_1) &&& (BitVec.ofInt 64 (1 : Int)))) : Nat) : Int)) == (0 : Int))
    (cond ((IntKind.wrap IntKind.i64 (Int.tdiv b0_0 (2 : Int))) == (0 : Int))
     (cond ((IntKind.wrap IntKind.i64 (Int.tdiv b0_1 (2 : Int))) == (0 : Int))
      (nx (m_impl_Num_reduced_2 (IntKind.wrap IntKind.i64 (Int.tdiv b0_0 (2 : Int))) (IntKind.wrap IntKind.i64 (Int.tdiv b0_1 (2 : Int))) (0 : Int) b1_0 b1_1 b1_2))
      (nx (m_impl_Num_reduced_2 (IntKind.wrap IntKind.i64 (Int.tdiv b0_0 (2 : Int))) (IntKind.wrap IntKind.i64 (Int.tdiv b0_1 (2 : Int))) (IntKind.wrap IntKind.i64 (b0_2 - (1 : Int))) b1_0 b1_1 b1_2)))
     (nx (m_impl_Num_reduced_2 (IntKind.wrap IntKind.i64 (Int.tdiv b0_0 (2 : Int))) (IntKind.wrap IntKind.i64 (Int.tdiv b0_1 (2 : Int))) (IntKind.wrap IntKind.i64 (b0_2 - (1 : Int))) b1_0 b1_1 b1_2)))
    (hx.1 (d_impl_Num_reduced_2_0 b0_0 b0_1 b0_2 b1_0 b1_1 b1_2)))
   (hx.1 (d_impl_Num_reduced_2_0 b0_0 b0_1 b0_2 b1_0 b1_1 b1_2)))
  (hx.1 (d_impl_Num_reduced_2_0 b0_0 b0_1 b0_2 b1_0 b1_1 b1_2))
noncomputable def t_impl_Num_reduced_2 {R : Type} (nx : s_impl_Num_reduced_2.T → Option R) (hx : exH R x_impl_Num_reduced_2) (z : s_impl_Num_reduced_2.T) : Option R := u_impl_Num_reduced_2 nx hx z.2.1.1.1 z.2.1.1.2.1 z.2.1.1.2.2.1 z.2.1.2.1.1 z.2.1.2.1.2.1 z.2.1.2.1.2.2.1
theorem nat_impl_Num_reduced_2 : Natural @t_impl_Num_reduced_2 := fun R nx hx z => by
  show u_impl_Num_reduced_2 nx hx z.2.1.1.1 z.2.1.1.2.1 z.2.1.1.2.2.1 z.2.1.2.1.1 z.2.1.2.1.2.1 z.2.1.2.1.2.2.1 = (u_impl_Num_reduced_2 (fun y => some (.inl y)) (hIn x_impl_Num_reduced_2 fun x => some (.inr x)) z.2.1.1.1 z.2.1.1.2.1 z.2.1.1.2.2.1 z.2.1.2.1.1 z.2.1.2.1.2.1 z.2.1.2.1.2.2.1).bind (goOn nx hx)
  unfold u_impl_Num_reduced_2
  exact nat_cond (nat_cond (nat_cond (nat_cond (nat_cond (rfl) (rfl)) (rfl)) (rfl)) (rfl)) (rfl)
noncomputable def w_impl_Num_reduced_2 : s_impl_Num_reduced_2.T → Option (exT x_impl_Num_reduced_2) := wOf @t_impl_Num_reduced_2
theorem wq_impl_Num_reduced_2 (b0_0 : Int) (b0_1 : Int) (b0_2 : Int) (b1_0 : Int) (b1_1 : Int) (b1_2 : Int) : w_impl_Num_reduced_2 (m_impl_Num_reduced_2 b0_0 b0_1 b0_2 b1_0 b1_1 b1_2) = u_impl_Num_reduced_2 w_impl_Num_reduced_2 (hIn x_impl_Num_reduced_2 some) b0_0 b0_1 b0_2 b1_0 b1_1 b1_2 := wOf_eq nat_impl_Num_reduced_2 _
def lh_impl_Num_reduced_2 : LoopHint := ⟨[1, 2], [1, 2], [1, 2], [1, 2]⟩
noncomputable def h_impl_Num_reduced : Hints Rv := ⟨fun k => match k with | 2 => lh_impl_Num_reduced_2 | _ => ⟨[], [], [], []⟩, fun k => match k with | 2 => some (loopX s_impl_Num_reduced_2 x_impl_Num_reduced_2 w_impl_Num_reduced_2) | _ => none⟩
theorem st_impl_Num_reduced_2 (n : Nat) (z : s_impl_Num_reduced_2.T) (k : Ex → Live → Option Rv) : loopN ⟨40, 40⟩ lh_impl_Num_reduced_2 (den (tab C0 T_impl_Num_reduced) ⟨40, 40⟩ h_impl_Num_reduced 1 (loopOf Tryd.f116 1)) (n + 1) (s_impl_Num_reduced_2.enc z) k =
    t_impl_Num_reduced_2 (fun y => loopN ⟨40, 40⟩ lh_impl_Num_reduced_2 (den (tab C0 T_impl_Num_reduced) ⟨40, 40⟩ h_impl_Num_reduced 1 (loopOf Tryd.f116 1)) n (s_impl_Num_reduced_2.enc y) k) (hK k x_impl_Num_reduced_2) z := by kernel_rfl
theorem hs_impl_Num_reduced : HintsOk (tab C0 T_impl_Num_reduced) ⟨40, 40⟩ h_impl_Num_reduced 1 (loops (codeOf Tryd.f116)) := by
  have hl : loops (codeOf Tryd.f116) = [loopOf Tryd.f116 1] := by kernel_rfl
  rw [hl]
  exact HintsOk.cons (n := 2) (lh := lh_impl_Num_reduced_2) (S := loopX s_impl_Num_reduced_2 x_impl_Num_reduced_2 w_impl_Num_reduced_2) (by kernel_rfl) rfl rfl (loopX_ok nat_impl_Num_reduced_2 st_impl_Num_reduced_2)
    (HintsOk.nil)
noncomputable def t_impl_Num_reduced {R : Type} (kx : (Int × (Int × Int)) → Option R) (a0 : (Int × (Int × Int))) : Option R :=
  Option.bind (w_impl_Num_reduced_2 (m_impl_Num_reduced_2 a0.1 a0.2.1 a0.2.2 (0 : Int) (0 : Int) (0 : Int))) (exC x_impl_Num_reduced_2
  (fun e324 =>
   kx ((e324.2.1.1.1 : Int), ((e324.2.1.1.2.1 : Int), (e324.2.1.1.2.2.1 : Int))), ()))
noncomputable def g_impl_Num_reduced (a0 : (Int × (Int × Int))) : Option ((Int × (Int × Int))) := t_impl_Num_reduced some a0
theorem nat_impl_Num_reduced {R : Type} (kx : (Int × (Int × Int)) → Option R) (a0 : (Int × (Int × Int))) : t_impl_Num_reduced kx a0 = (g_impl_Num_reduced a0).bind kx := by
  unfold g_impl_Num_reduced t_impl_Num_reduced
  exact nat_exC ⟨fun _ => rfl, trivial⟩
abbrev as_impl_Num_reduced : List AX := [.val true (.pair (.int .i64) (.pair (.int .i64) (.int .i64)))]
abbrev en_impl_Num_reduced : (Int × (Int × Int)) → AV × List CV := fun b => (.one ⟨true, [(.v (.int .i64 b.1)), (.v (.int .i64 b.2.1)), (.v (.int .i64 b.2.2))]⟩, [])
noncomputable abbrev k_impl_Num_reduced : Contract := .fx as_impl_Num_reduced ((Int × (Int × Int))) (fun z => g_impl_Num_reduced z.1) en_impl_Num_reduced
theorem r_impl_Num_reduced (z : argsX as_impl_Num_reduced) : runF (tab C0 T_impl_Num_reduced) h_impl_Num_reduced 1 Tryd.f116 (lentOf as_impl_Num_reduced) (xBoxes as_impl_Num_reduced z) (xVals as_impl_Num_reduced 0 z) K2 = t_impl_Num_reduced (fun b => some (en_impl_Num_reduced b)) z.1 := by kernel_rfl
theorem so_impl_Num_reduced : Sound C0 116 k_impl_Num_reduced :=
  Sound.fx a_impl_Num_reduced mixed Tryd.func116 (by kernel_rfl) (by kernel_rfl) h_impl_Num_reduced 1 hs_impl_Num_reduced (fun z => (r_impl_Num_reduced z).trans (nat_impl_Num_reduced _ z.1))

/-! ### F98 (impl.Num).times -/
noncomputable def T_impl_Num_times : List (FuncId × Contract) := [(116, k_impl_Num_reduced)]
theorem a_impl_Num_times : AllSound C0 T_impl_Num_times := .cons so_impl_Num_reduced (.nil)
noncomputable def t_impl_Num_times {R : Type} (kx : (Int × (Int × Int)) → Option R) (a0 : (Int × (Int × Int))) (a1 : (Int × (Int × Int))) : Option R :=
  Option.bind (g_impl_Num_reduced ((IntKind.wrap IntKind.i64 ((IntKind.wrap IntKind.i64 (a0.1 * a1.1)) + (IntKind.wrap IntKind.i64 ((IntKind.wrap IntKind.i64 ((2 : Int) * a0.2.1)) * a1.2.1)))), ((IntKind.wrap IntKind.i64 ((IntKind.wrap IntKind.i64 (a0.1 * a1.2.1)) + (IntKind.wrap IntKind.i64 (a0.2.1 * a1.1)))), (IntKind.wrap IntKind.i64 (a0.2.2 + a1.2.2))))) fun y331 =>
  kx y331
noncomputable def g_impl_Num_times (a0 : (Int × (Int × Int))) (a1 : (Int × (Int × Int))) : Option ((Int × (Int × Int))) := t_impl_Num_times some a0 a1
theorem nat_impl_Num_times {R : Type} (kx : (Int × (Int × Int)) → Option R) (a0 : (Int × (Int × Int))) (a1 : (Int × (Int × Int))) : t_impl_Num_times kx a0 a1 = (g_impl_Num_times a0 a1).bind kx := by
  unfold g_impl_Num_times t_impl_Num_times
  exact nat_bind fun _ => rfl
abbrev as_impl_Num_times : List AX := [.val true (.pair (.int .i64) (.pair (.int .i64) (.int .i64))), .val true (.pair (.int .i64) (.pair (.int .i64) (.int .i64)))]
abbrev en_impl_Num_times : (Int × (Int × Int)) → AV × List CV := fun b => (.one ⟨true, [(.v (.int .i64 b.1)), (.v (.int .i64 b.2.1)), (.v (.int .i64 b.2.2))]⟩, [])
noncomputable abbrev k_impl_Num_times : Contract := .fx as_impl_Num_times ((Int × (Int × Int))) (fun z => g_impl_Num_times z.1 z.2.1) en_impl_Num_times
theorem r_impl_Num_times (z : argsX as_impl_Num_times) : runF (tab C0 T_impl_Num_times) noHints 1 Tryd.f98 (lentOf as_impl_Num_times) (xBoxes as_impl_Num_times z) (xVals as_impl_Num_times 0 z) K2 = t_impl_Num_times (fun b => some (en_impl_Num_times b)) z.1 z.2.1 := by kernel_rfl
theorem so_impl_Num_times : Sound C0 98 k_impl_Num_times :=
  Sound.fx a_impl_Num_times mixed Tryd.func98 (by kernel_rfl) (by kernel_rfl) noHints 1 noHints_ok (fun z => (r_impl_Num_times z).trans (nat_impl_Num_times _ z.1 z.2.1))

/-! ### F64 (impl.Num).plus -/
noncomputable def T_impl_Num_plus : List (FuncId × Contract) := [(116, k_impl_Num_reduced)]
theorem a_impl_Num_plus : AllSound C0 T_impl_Num_plus := .cons so_impl_Num_reduced (.nil)
noncomputable def t_impl_Num_plus {R : Type} (kx : (Int × (Int × Int)) → Option R) (a0 : (Int × (Int × Int))) (a1 : (Int × (Int × Int))) : Option R :=
  cond (decide ((IntKind.wrap IntKind.i64 ((if (Bool.true = Bool.true) then (if (a1.2.2 > a0.2.2) then a1.2.2 else a0.2.2) else (if (a1.2.2 < a0.2.2) then a1.2.2 else a0.2.2)) - a0.2.2)) < (0 : Int)))
  (none)
  (cond (decide ((IntKind.wrap IntKind.i64 ((if (Bool.true = Bool.true) then (if (a1.2.2 > a0.2.2) then a1.2.2 else a0.2.2) else (if (a1.2.2 < a0.2.2) then a1.2.2 else a0.2.2)) - a1.2.2)) < (0 : Int)))
   (none)
   (cond (decide ((IntKind.wrap IntKind.i64 ((if (Bool.true = Bool.true) then (if (a1.2.2 > a0.2.2) then a1.2.2 else a0.2.2) else (if (a1.2.2 < a0.2.2) then a1.2.2 else a0.2.2)) - a0.2.2)) < (0 : Int)))
    (none)
    (cond (decide ((IntKind.wrap IntKind.i64 ((if (Bool.true = Bool.true) then (if (a1.2.2 > a0.2.2) then a1.2.2 else a0.2.2) else (if (a1.2.2 < a0.2.2) then a1.2.2 else a0.2.2)) - a1.2.2)) < (0 : Int)))
     (none)
     (Option.bind (g_impl_Num_reduced ((IntKind.wrap IntKind.i64 ((IntKind.wrap IntKind.i64 (a0.1 * ((2 : Int) ^ (Min.min (Int.toNat (IntKind.wrap IntKind.i64 ((if (Bool.true = Bool.true) then (if (a1.2.2 > a0.2.2) then a1.2.2 else a0.2.2) else (if (a1.2.2 < a0.2.2) then a1.2.2 else a0.2.2)) - a0.2.2))) 64)))) + (IntKind.wrap IntKind.i64 (a1.1 * ((2 : Int) ^ (Min.min (Int.toNat (IntKind.wrap IntKind.i64 ((if (Bool.true = Bool.true) then (if (a1.2.2 > a0.2.2) then a1.2.2 else a0.2.2) else (if (a1.2.2 < a0.2.2) then a1.2.2 else a0.2.2)) - a1.2.2))) 64)))))), ((IntKind.wrap IntKind.i64 ((IntKind.wrap IntKind.i64 (a0.2.1 * ((2 : Int) ^ (Min.min (Int.toNat (IntKind.wrap IntKind.i64 ((if (Bool.true = Bool.true) then (if (a1.2.2 > a0.2.2) then a1.2.2 else a0.2.2) else (if (a1.2.2 < a0.2.2) then a1.2.2 else a0.2.2)) - a0.2.2))) 64)))) + (IntKind.wrap IntKind.i64 (a1.2.1 * ((2 : Int) ^ (Min.min (Int.toNat (IntKind.wrap IntKind.i64 ((if (Bool.true = Bool.true) then (if (a1.2.2 > a0.2.2) then a1.2.2 else a0.2.2) else (if (a1.2.2 < a0.2.2) then a1.2.2 else a0.2.2)) - a1.2.2))) 64)))))), (if (Bool.true = Bool.true) then (if (a1.2.2 > a0.2.2) then a1.2.2 else a0.2.2) else (if (a1.2.2 < a0.2.2) then a1.2.2 else a0.2.2))))) fun y336 =>
      kx y336))))
noncomputable def g_impl_Num_plus (a0 : (Int × (Int × Int))) (a1 : (Int × (Int × Int))) : Option ((Int × (Int × Int))) := t_impl_Num_plus some a0 a1
theorem nat_impl_Num_plus {R : Type} (kx : (Int × (Int × Int)) → Option R) (a0 : (Int × (Int × Int))) (a1 : (Int × (Int × Int))) : t_impl_Num_plus kx a0 a1 = (g_impl_Num_plus a0 a1).bind kx := by
  unfold g_impl_Num_plus t_impl_Num_plus
  exact nat_cond (rfl) (nat_cond (rfl) (nat_cond (rfl) (nat_cond (rfl) (nat_bind fun _ => rfl))))
abbrev as_impl_Num_plus : List AX := [.val true (.pair (.int .i64) (.pair (.int .i64) (.int .i64))), .val true (.pair (.int .i64) (.pair (.int .i64) (.int .i64)))]
abbrev en_impl_Num_plus : (Int × (Int × Int)) → AV × List CV := fun b => (.one ⟨true, [(.v (.int .i64 b.1)), (.v (.int .i64 b.2.1)), (.v (.int .i64 b.2.2))]⟩, [])
noncomputable abbrev k_impl_Num_plus : Contract := .fx as_impl_Num_plus ((Int × (Int × Int))) (fun z => g_impl_Num_plus z.1 z.2.1) en_impl_Num_plus
theorem r_impl_Num_plus (z : argsX as_impl_Num_plus) : runF (tab C0 T_impl_Num_plus) noHints 1 Tryd.f64 (lentOf as_impl_Num_plus) (xBoxes as_impl_Num_plus z) (xVals as_impl_Num_plus 0 z) K2 = t_impl_Num_plus (fun b => some (en_impl_Num_plus b)) z.1 z.2.1 := by kernel_rfl
theorem so_impl_Num_plus : Sound C0 64 k_impl_Num_plus :=
  Sound.fx a_impl_Num_plus mixed Tryd.func64 (by kernel_rfl) (by kernel_rfl) noHints 1 noHints_ok (fun z => (r_impl_Num_plus z).trans (nat_impl_Num_plus _ z.1 z.2.1))

/-! ### F96 (impl.Point).dot -/
noncomputable def T_impl_Point_dot : List (FuncId × Contract) := [(98, k_impl_Num_times), (64, k_impl_Num_plus)]
theorem a_impl_Point_dot : AllSound C0 T_impl_Point_dot := .cons so_impl_Num_times (.cons so_impl_Num_plus (.nil))
noncomputable def t_impl_Point_dot {R : Type} (kx : (Int × (Int × Int)) → Option R) (a0 : ((Int × (Int × Int)) × (Int × (Int × Int)))) (a1 : ((Int × (Int × Int)) × (Int × (Int × Int)))) : Option R :=
  Option.bind (g_impl_Num_times a0.1 a1.1) fun y332 =>
  Option.bind (g_impl_Num_times a0.2 a1.2) fun y333 =>
  Option.bind (g_impl_Num_plus y332 y333) fun y337 =>
  kx y337
noncomputable def g_impl_Point_dot (a0 : ((Int × (Int × Int)) × (Int × (Int × Int)))) (a1 : ((Int × (Int × Int)) × (Int × (Int × Int)))) : Option ((Int × (Int × Int))) := t_impl_Point_dot some a0 a1
theorem nat_impl_Point_dot {R : Type} (kx : (Int × (Int × Int)) → Option R) (a0 : ((Int × (Int × Int)) × (Int × (Int × Int)))) (a1 : ((Int × (Int × Int)) × (Int × (Int × Int)))) : t_impl_Point_dot kx a0 a1 = (g_impl_Point_dot a0 a1).bind kx := by
  unfold g_impl_Point_dot t_impl_Point_dot
  exact nat_bind fun _ => nat_bind fun _ => nat_bind fun _ => rfl
abbrev as_impl_Point_dot : List AX := [.val true (.pair (.pair (.int .i64) (.pair (.int .i64) (.int .i64))) (.pair (.int .i64) (.pair (.int .i64) (.int .i64)))), .val true (.pair (.pair (.int .i64) (.pair (.int .i64) (.int .i64))) (.pair (.int .i64) (.pair (.int .i64) (.int .i64))))]
abbrev en_impl_Point_dot : (Int × (Int × Int)) → AV × List CV := fun b => (.one ⟨true, [(.v (.int .i64 b.1)), (.v (.int .i64 b.2.1)), (.v (.int .i64 b.2.2))]⟩, [])
noncomputable abbrev k_impl_Point_dot : Contract := .fx as_impl_Point_dot ((Int × (Int × Int))) (fun z => g_impl_Point_dot z.1 z.2.1) en_impl_Point_dot
theorem r_impl_Point_dot (z : argsX as_impl_Point_dot) : runF (tab C0 T_impl_Point_dot) noHints 1 Tryd.f96 (lentOf as_impl_Point_dot) (xBoxes as_impl_Point_dot z) (xVals as_impl_Point_dot 0 z) K2 = t_impl_Point_dot (fun b => some (en_impl_Point_dot b)) z.1 z.2.1 := by kernel_rfl
theorem so_impl_Point_dot : Sound C0 96 k_impl_Point_dot :=
  Sound.fx a_impl_Point_dot mixed Tryd.func96 (by kernel_rfl) (by kernel_rfl) noHints 1 noHints_ok (fun z => (r_impl_Point_dot z).trans (nat_impl_Point_dot _ z.1 z.2.1))

/-! ### F57 impl.lineAt -/
noncomputable def T_impl_lineAt : List (FuncId × Contract) := [(95, k_impl_Line_normal), (96, k_impl_Point_dot)]
theorem a_impl_lineAt : AllSound C0 T_impl_lineAt := .cons so_impl_Line_normal (.cons so_impl_Point_dot (.nil))
noncomputable def t_impl_lineAt {R : Type} (kx : (Int × (Int × (Int × Int))) → Option R) (a0 : ((Int × (Int × Int)) × (Int × (Int × Int)))) (a1 : Int) : Option R :=
  Option.bind (g_impl_Line_normal (a1, ((0 : Int), ((0 : Int), (0 : Int))))) fun y312 =>
  Option.bind (g_impl_Point_dot y312 a0) fun y338 =>
  kx (a1, y338)
noncomputable def g_impl_lineAt (a0 : ((Int × (Int × Int)) × (Int × (Int × Int)))) (a1 : Int) : Option ((Int × (Int × (Int × Int)))) := t_impl_lineAt some a0 a1
theorem nat_impl_lineAt {R : Type} (kx : (Int × (Int × (Int × Int))) → Option R) (a0 : ((Int × (Int × Int)) × (Int × (Int × Int)))) (a1 : Int) : t_impl_lineAt kx a0 a1 = (g_impl_lineAt a0 a1).bind kx := by
  unfold g_impl_lineAt t_impl_lineAt
  exact nat_bind fun _ => nat_bind fun _ => rfl
abbrev as_impl_lineAt : List AX := [.val true (.pair (.pair (.int .i64) (.pair (.int .i64) (.int .i64))) (.pair (.int .i64) (.pair (.int .i64) (.int .i64)))), .val false (.int .i64)]
abbrev en_impl_lineAt : (Int × (Int × (Int × Int))) → AV × List CV := fun b => (.one ⟨true, [(.v (.int .i64 b.1)), (.v (.int .i64 b.2.1)), (.v (.int .i64 b.2.2.1)), (.v (.int .i64 b.2.2.2))]⟩, [])
noncomputable abbrev k_impl_lineAt : Contract := .fx as_impl_lineAt ((Int × (Int × (Int × Int)))) (fun z => g_impl_lineAt z.1 z.2.1) en_impl_lineAt
theorem r_impl_lineAt (z : argsX as_impl_lineAt) : runF (tab C0 T_impl_lineAt) noHints 1 Tryd.f57 (lentOf as_impl_lineAt) (xBoxes as_impl_lineAt z) (xVals as_impl_lineAt 0 z) K2 = t_impl_lineAt (fun b => some (en_impl_lineAt b)) z.1 z.2.1 := by kernel_rfl
theorem so_impl_lineAt : Sound C0 57 k_impl_lineAt :=
  Sound.fx a_impl_lineAt mixed Tryd.func57 (by kernel_rfl) (by kernel_rfl) noHints 1 noHints_ok (fun z => (r_impl_lineAt z).trans (nat_impl_lineAt _ z.1 z.2.1))

/-! ### F97 (impl.Num).minus -/
noncomputable def T_impl_Num_minus : List (FuncId × Contract) := [(127, k_impl_Num_neg), (64, k_impl_Num_plus)]
theorem a_impl_Num_minus : AllSound C0 T_impl_Num_minus := .cons so_impl_Num_neg (.cons so_impl_Num_plus (.nil))
noncomputable def t_impl_Num_minus {R : Type} (kx : (Int × (Int × Int)) → Option R) (a0 : (Int × (Int × Int))) (a1 : (Int × (Int × Int))) : Option R :=
  Option.bind (g_impl_Num_neg a1) fun y346 =>
  Option.bind (g_impl_Num_plus a0 y346) fun y347 =>
  kx y347
noncomputable def g_impl_Num_minus (a0 : (Int × (Int × Int))) (a1 : (Int × (Int × Int))) : Option ((Int × (Int × Int))) := t_impl_Num_minus some a0 a1
theorem nat_impl_Num_minus {R : Type} (kx : (Int × (Int × Int)) → Option R) (a0 : (Int × (Int × Int))) (a1 : (Int × (Int × Int))) : t_impl_Num_minus kx a0 a1 = (g_impl_Num_minus a0 a1).bind kx := by
  unfold g_impl_Num_minus t_impl_Num_minus
  exact nat_bind fun _ => nat_bind fun _ => rfl
abbrev as_impl_Num_minus : List AX := [.val true (.pair (.int .i64) (.pair (.int .i64) (.int .i64))), .val true (.pair (.int .i64) (.pair (.int .i64) (.int .i64)))]
abbrev en_impl_Num_minus : (Int × (Int × Int)) → AV × List CV := fun b => (.one ⟨true, [(.v (.int .i64 b.1)), (.v (.int .i64 b.2.1)), (.v (.int .i64 b.2.2))]⟩, [])
noncomputable abbrev k_impl_Num_minus : Contract := .fx as_impl_Num_minus ((Int × (Int × Int))) (fun z => g_impl_Num_minus z.1 z.2.1) en_impl_Num_minus
theorem r_impl_Num_minus (z : argsX as_impl_Num_minus) : runF (tab C0 T_impl_Num_minus) noHints 1 Tryd.f97 (lentOf as_impl_Num_minus) (xBoxes as_impl_Num_minus z) (xVals as_impl_Num_minus 0 z) K2 = t_impl_Num_minus (fun b => some (en_impl_Num_minus b)) z.1 z.2.1 := by kernel_rfl
theorem so_impl_Num_minus : Sound C0 97 k_impl_Num_minus :=
  Sound.fx a_impl_Num_minus mixed Tryd.func97 (by kernel_rfl) (by kernel_rfl) noHints 1 noHints_ok (fun z => (r_impl_Num_minus z).trans (nat_impl_Num_minus _ z.1 z.2.1))

/-! ### F99 (impl.Num).over -/
noncomputable def T_impl_Num_over : List (FuncId × Contract) := [(98, k_impl_Num_times), (116, k_impl_Num_reduced)]
theorem a_impl_Num_over : AllSound C0 T_impl_Num_over := .cons so_impl_Num_times (.cons so_impl_Num_reduced (.nil))
abbrev s_impl_Num_over_7 : LS := ⟨[(false, [(.ptr 4 0)]), (false, [(.int .i64)]), (false, [(.ptr 7 0)])], [(false, [(.int .i64), (.int .i64), (.int .i64)]), (false, [(.int .i64), (.int .i64), (.int .i64)])], []⟩
abbrev e_impl_Num_over_7_0 : LS := ⟨[(false, [(.ptr 4 0)]), (false, [(.int .i64)]), (false, [(.ptr 7 0)])], [(false, [(.int .i64), (.int .i64), (.int .i64)]), (false, [(.int .i64), (.int .i64), (.int .i64)])], []⟩
abbrev d_impl_Num_over_7_0 (v0 : Int) (v1 : Int) (v2 : Int) (v3 : Int) (v4 : Int) (v5 : Int) (v6 : Int) : e_impl_Num_over_7_0.T := ((((), ()), (v0, ()), ((), ()), ()), ((v1, v2, v3, ()), (v4, v5, v6, ()), ()), ())
abbrev x_impl_Num_over_7 : List (Ex × LS) := [(.exit 0, e_impl_Num_over_7_0)]
abbrev m_impl_Num_over_7 (x6 : Int) (b0_0 : Int) (b0_1 : Int) (b0_2 : Int) (b1_0 : Int) (b1_1 : Int) (b1_2 : Int) : s_impl_Num_over_7.T := ((((), ()), (x6, ()), ((), ()), ()), ((b0_0, b0_1, b0_2, ()), (b1_0, b1_1, b1_2, ()), ()), ())
noncomputable def u_impl_Num_over_7 {R : Type} (nx : s_impl_Num_over_7.T → Option R) (hx : exH R x_impl_Num_over_7) (x6 : Int) (b0_0 : Int) (b0_1 : Int) (b0_2 : Int) (b1_0 : Int) (b1_1 : Int) (b1_2 : Int) : Option R :=
  cond ((IntKind.wrap IntKind.i64 (((BitVec.toNat ((BitVec.ofInt 64 x6) &&& (BitVec.ofInt 64 (1 : Int)))) : Nat) : Int)) == (0 : Int))
  (nx (m_impl_Num_over_7 (IntKind.wrap IntKind.i64 (Int.tdiv x6 (2 : Int))) b0_0 b0_1 b0_2 b1_0 b1_1 (IntKind.wrap IntKind.i64 (b1_2 + (1 : Int)))))
  (hx.1 (d_impl_Num_over_7_0 x6 b0_0 b0_1 b0_2 b1_0 b1_1 b1_2))
noncomputable def t_impl_Num_over_7 {R : Type} (nx : s_impl_Num_over_7.T → Option R) (hx : exH R x_impl_Num_over_7) (z : s_impl_Num_over_7.T) : Option R := u_impl_Num_over_7 nx hx z.1.2.1.1 z.2.1.1.1 z.2.1.1.2.1 z.2.1.1.2.2.1 z.2.1.2.1.1 z.2.1.2.1.2.1 z.2.1.2.1.2.2.1
theorem nat_impl_Num_over_7 : Natural @t_impl_Num_over_7 := fun R nx hx z => by
  show u_impl_Num_over_7 nx hx z.1.2.1.1 z.2.1.1.1 z.2.1.1.2.1 z.2.1.1.2.2.1 z.2.1.2.1.1 z.2.1.2.1.2.1 z.2.1.2.1.2.2.1 = (u_impl_Num_over_7 (fun y => some (.inl y)) (hIn x_impl_Num_over_7 fun x => some (.inr x)) z.1.2.1.1 z.2.1.1.1 z.2.1.1.2.1 z.2.1.1.2.2.1 z.2.1.2.1.1 z.2.1.2.1.2.1 z.2.1.2.1.2.2.1).bind (goOn nx hx)
  unfold u_impl_Num_over_7
  exact nat_cond (rfl) (rfl)
noncomputable def w_impl_Num_over_7 : s_impl_Num_over_7.T → Option (exT x_impl_Num_over_7) := wOf @t_impl_Num_over_7
theorem wq_impl_Num_over_7 (x6 : Int) (b0_0 : Int) (b0_1 : Int) (b0_2 : Int) (b1_0 : Int) (b1_1 : Int) (b1_2 : Int) : w_impl_Num_over_7 (m_impl_Num_over_7 x6 b0_0 b0_1 b0_2 b1_0 b1_1 b1_2) = u_impl_Num_over_7 w_impl_Num_over_7 (hIn x_impl_Num_over_7 some) x6 b0_0 b0_1 b0_2 b1_0 b1_1 b1_2 := wOf_eq nat_impl_Num_over_7 _
def lh_impl_Num_over_7 : LoopHint := ⟨[4, 6, 7], [4, 7], [4, 6, 7], [4, 7]⟩
noncomputable def h_impl_Num_over : Hints Rv := ⟨fun k => match k with | 7 => lh_impl_Num_over_7 | _ => ⟨[], [], [], []⟩, fun k => match k with | 7 => some (loopX s_impl_Num_over_7 x_impl_Num_over_7 w_impl_Num_over_7) | _ => none⟩
theorem st_impl_Num_over_7 (n : Nat) (z : s_impl_Num_over_7.T) (k : Ex → Live → Option Rv) : loopN ⟨89, 89⟩ lh_impl_Num_over_7 (den (tab C0 T_impl_Num_over) ⟨89, 89⟩ h_impl_Num_over 1 (loopOf Tryd.f99 6)) (n + 1) (s_impl_Num_over_7.enc z) k =
    t_impl_Num_over_7 (fun y => loopN ⟨89, 89⟩ lh_impl_Num_over_7 (den (tab C0 T_impl_Num_over) ⟨89, 89⟩ h_impl_Num_over 1 (loopOf Tryd.f99 6)) n (s_impl_Num_over_7.enc y) k) (hK k x_impl_Num_over_7) z := by kernel_rfl
theorem hs_impl_Num_over : HintsOk (tab C0 T_impl_Num_over) ⟨89, 89⟩ h_impl_Num_over 1 (loops (codeOf Tryd.f99)) := by
  have hl : loops (codeOf Tryd.f99) = [loopOf Tryd.f99 6] := by kernel_rfl
  rw [hl]
  exact HintsOk.cons (n := 7) (lh := lh_impl_Num_over_7) (S := loopX s_impl_Num_over_7 x_impl_Num_over_7 w_impl_Num_over_7) (by kernel_rfl) rfl rfl (loopX_ok nat_impl_Num_over_7 st_impl_Num_over_7)
    (HintsOk.nil)
noncomputable def t_impl_Num_over {R : Type} (kx : (Int × (Int × Int)) × Bool → Option R) (a0 : (Int × (Int × Int))) (a1 : (Int × (Int × Int))) : Option R :=
  cond ((IntKind.wrap IntKind.i64 ((IntKind.wrap IntKind.i64 (a1.1 * a1.1)) - (IntKind.wrap IntKind.i64 ((IntKind.wrap IntKind.i64 ((2 : Int) * a1.2.1)) * a1.2.1)))) == (0 : Int))
  (kx (((0 : Int), ((0 : Int), (0 : Int))), Bool.false))
  (Option.bind (g_impl_Num_times a0 (a1.1, ((IntKind.wrap IntKind.i64 ((0 : Int) - a1.2.1)), (0 : Int)))) fun y352 =>
   Option.bind (w_impl_Num_over_7 (m_impl_Num_over_7 (IntKind.wrap IntKind.i64 ((IntKind.wrap IntKind.i64 (a1.1 * a1.1)) - (IntKind.wrap IntKind.i64 ((IntKind.wrap IntKind.i64 ((2 : Int) * a1.2.1)) * a1.2.1)))) (0 : Int) (0 : Int) (0 : Int) y352.1 y352.2.1 (IntKind.wrap IntKind.i64 (y352.2.2 - a1.2.2)))) (exC x_impl_Num_over_7
   (fun e360 =>
    cond (decide ((e360.1.2.1.1 : Int) = (0 : Int)))
    (none)
    (cond ((Int.tmod (e360.2.1.2.1.1 : Int) (e360.1.2.1.1 : Int)) != (0 : Int))
     (kx (((0 : Int), ((0 : Int), (0 : Int))), Bool.false))
     (cond (decide ((e360.1.2.1.1 : Int) = (0 : Int)))
      (none)
      (cond ((Int.tmod (e360.2.1.2.1.2.1 : Int) (e360.1.2.1.1 : Int)) != (0 : Int))
       (kx (((0 : Int), ((0 : Int), (0 : Int))), Bool.false))
       (cond (decide ((e360.1.2.1.1 : Int) = (0 : Int)))
        (none)
        (cond (decide ((e360.1.2.1.1 : Int) = (0 : Int)))
         (none)
         (cond (decide ((e360.2.1.2.1.2.2.1 : Int) < (0 : Int)))
          (cond (decide ((IntKind.wrap IntKind.i64 ((0 : Int) - (e360.2.1.2.1.2.2.1 : Int))) < (0 : Int)))
           (none)
           (cond (decide ((IntKind.wrap IntKind.i64 ((0 : Int) - (e360.2.1.2.1.2.2.1 : Int))) < (0 : Int)))
            (none)
            (Option.bind (g_impl_Num_reduced ((IntKind.wrap IntKind.i64 ((IntKind.wrap IntKind.i64 (Int.tdiv (e360.2.1.2.1.1 : Int) (e360.1.2.1.1 : Int))) * ((2 : Int) ^ (Min.min (Int.toNat (IntKind.wrap IntKind.i64 ((0 : Int) - (e360.2.1.2.1.2.2.1 : Int)))) 64)))), ((IntKind.wrap IntKind.i64 ((IntKind.wrap IntKind.i64 (Int.tdiv (e360.2.1.2.1.2.1 : Int) (e360.1.2.1.1 : Int))) * ((2 : Int) ^ (Min.min (Int.toNat (IntKind.wrap IntKind.i64 ((0 : Int) - (e360.2.1.2.1.2.2.1 : Int)))) 64)))), (0 : Int)))) fun y368 =>
             kx (y368, Bool.true))))
          (Option.bind (g_impl_Num_reduced ((IntKind.wrap IntKind.i64 (Int.tdiv (e360.2.1.2.1.1 : Int) (e360.1.2.1.1 : Int))), ((IntKind.wrap IntKind.i64 (Int.tdiv (e360.2.1.2.1.2.1 : Int) (e360.1.2.1.1 : Int))), (e360.2.1.2.1.2.2.1 : Int)))) fun y369 =>
           kx (y369, Bool.true)))))))), ())))
noncomputable def g_impl_Num_over (a0 : (Int × (Int × Int))) (a1 : (Int × (Int × Int))) : Option ((Int × (Int × Int)) × Bool) := t_impl_Num_over some a0 a1
theorem nat_impl_Num_over {R : Type} (kx : (Int × (Int × Int)) × Bool → Option R) (a0 : (Int × (Int × Int))) (a1 : (Int × (Int × Int))) : t_impl_Num_over kx a0 a1 = (g_impl_Num_over a0 a1).bind kx := by
  unfold g_impl_Num_over t_impl_Num_over
  exact nat_cond (rfl) (nat_bind fun _ => nat_exC ⟨fun _ => nat_cond (rfl) (nat_cond (rfl) (nat_cond (rfl) (nat_cond (rfl) (nat_cond (rfl) (nat_cond (rfl) (nat_cond (nat_cond (rfl) (nat_cond (rfl) (nat_bind fun _ => rfl))) (nat_bind fun _ => rfl))))))), trivial⟩)
abbrev as_impl_Num_over : List AX := [.val true (.pair (.int .i64) (.pair (.int .i64) (.int .i64))), .val true (.pair (.int .i64) (.pair (.int .i64) (.int .i64)))]
abbrev en_impl_Num_over : (Int × (Int × Int)) × Bool → AV × List CV := fun b => (.tup [⟨true, [(.v (.int .i64 b.1.1)), (.v (.int .i64 b.1.2.1)), (.v (.int .i64 b.1.2.2))]⟩, ⟨false, [(.v (.bool b.2))]⟩], [])
noncomputable abbrev k_impl_Num_over : Contract := .fx as_impl_Num_over ((Int × (Int × Int)) × Bool) (fun z => g_impl_Num_over z.1 z.2.1) en_impl_Num_over
theorem r_impl_Num_over (z : argsX as_impl_Num_over) : runF (tab C0 T_impl_Num_over) h_impl_Num_over 1 Tryd.f99 (lentOf as_impl_Num_over) (xBoxes as_impl_Num_over z) (xVals as_impl_Num_over 0 z) K2 = t_impl_Num_over (fun b => some (en_impl_Num_over b)) z.1 z.2.1 := by kernel_rfl
theorem so_impl_Num_over : Sound C0 99 k_impl_Num_over :=
  Sound.fx a_impl_Num_over mixed Tryd.func99 (by kernel_rfl) (by kernel_rfl) h_impl_Num_over 1 hs_impl_Num_over (fun z => (r_impl_Num_over z).trans (nat_impl_Num_over _ z.1 z.2.1))

/-! ### F113 (impl.Point).times -/
noncomputable def T_impl_Point_times : List (FuncId × Contract) := [(98, k_impl_Num_times)]
theorem a_impl_Point_times : AllSound C0 T_impl_Point_times := .cons so_impl_Num_times (.nil)
noncomputable def t_impl_Point_times {R : Type} (kx : ((Int × (Int × Int)) × (Int × (Int × Int))) → Option R) (a0 : ((Int × (Int × Int)) × (Int × (Int × Int)))) (a1 : (Int × (Int × Int))) : Option R :=
  Option.bind (g_impl_Num_times a0.1 a1) fun y374 =>
  Option.bind (g_impl_Num_times a0.2 a1) fun y375 =>
  kx (y374, y375)
noncomputable def g_impl_Point_times (a0 : ((Int × (Int × Int)) × (Int × (Int × Int)))) (a1 : (Int × (Int × Int))) : Option (((Int × (Int × Int)) × (Int × (Int × Int)))) := t_impl_Point_times some a0 a1
theorem nat_impl_Point_times {R : Type} (kx : ((Int × (Int × Int)) × (Int × (Int × Int))) → Option R) (a0 : ((Int × (Int × Int)) × (Int × (Int × Int)))) (a1 : (Int × (Int × Int))) : t_impl_Point_times kx a0 a1 = (g_impl_Point_times a0 a1).bind kx := by
  unfold g_impl_Point_times t_impl_Point_times
  exact nat_bind fun _ => nat_bind fun _ => rfl
abbrev as_impl_Point_times : List AX := [.val true (.pair (.pair (.int .i64) (.pair (.int .i64) (.int .i64))) (.pair (.int .i64) (.pair (.int .i64) (.int .i64)))), .val true (.pair (.int .i64) (.pair (.int .i64) (.int .i64)))]
abbrev en_impl_Point_times : ((Int × (Int × Int)) × (Int × (Int × Int))) → AV × List CV := fun b => (.one ⟨true, [(.v (.int .i64 b.1.1)), (.v (.int .i64 b.1.2.1)), (.v (.int .i64 b.1.2.2)), (.v (.int .i64 b.2.1)), (.v (.int .i64 b.2.2.1)), (.v (.int .i64 b.2.2.2))]⟩, [])
noncomputable abbrev k_impl_Point_times : Contract := .fx as_impl_Point_times (((Int × (Int × Int)) × (Int × (Int × Int)))) (fun z => g_impl_Point_times z.1 z.2.1) en_impl_Point_times
theorem r_impl_Point_times (z : argsX as_impl_Point_times) : runF (tab C0 T_impl_Point_times) noHints 1 Tryd.f113 (lentOf as_impl_Point_times) (xBoxes as_impl_Point_times z) (xVals as_impl_Point_times 0 z) K2 = t_impl_Point_times (fun b => some (en_impl_Point_times b)) z.1 z.2.1 := by kernel_rfl
theorem so_impl_Point_times : Sound C0 113 k_impl_Point_times :=
  Sound.fx a_impl_Point_times mixed Tryd.func113 (by kernel_rfl) (by kernel_rfl) noHints 1 noHints_ok (fun z => (r_impl_Point_times z).trans (nat_impl_Point_times _ z.1 z.2.1))

/-! ### F112 (impl.Point).plus -/
noncomputable def T_impl_Point_plus : List (FuncId × Contract) := [(64, k_impl_Num_plus)]
theorem a_impl_Point_plus : AllSound C0 T_impl_Point_plus := .cons so_impl_Num_plus (.nil)
noncomputable def t_impl_Point_plus {R : Type} (kx : ((Int × (Int × Int)) × (Int × (Int × Int))) → Option R) (a0 : ((Int × (Int × Int)) × (Int × (Int × Int)))) (a1 : ((Int × (Int × Int)) × (Int × (Int × Int)))) : Option R :=
  Option.bind (g_impl_Num_plus a0.1 a1.1) fun y379 =>
  Option.bind (g_impl_Num_plus a0.2 a1.2) fun y380 =>
  kx (y379, y380)
noncomputable def g_impl_Point_plus (a0 : ((Int × (Int × Int)) × (Int × (Int × Int)))) (a1 : ((Int × (Int × Int)) × (Int × (Int × Int)))) : Option (((Int × (Int × Int)) × (Int × (Int × Int)))) := t_impl_Point_plus some a0 a1
theorem nat_impl_Point_plus {R : Type} (kx : ((Int × (Int × Int)) × (Int × (Int × Int))) → Option R) (a0 : ((Int × (Int × Int)) × (Int × (Int × Int)))) (a1 : ((Int × (Int × Int)) × (Int × (Int × Int)))) : t_impl_Point_plus kx a0 a1 = (g_impl_Point_plus a0 a1).bind kx := by
  unfold g_impl_Point_plus t_impl_Point_plus
  exact nat_bind fun _ => nat_bind fun _ => rfl
abbrev as_impl_Point_plus : List AX := [.val true (.pair (.pair (.int .i64) (.pair (.int .i64) (.int .i64))) (.pair (.int .i64) (.pair (.int .i64) (.int .i64)))), .val true (.pair (.pair (.int .i64) (.pair (.int .i64) (.int .i64))) (.pair (.int .i64) (.pair (.int .i64) (.int .i64))))]
abbrev en_impl_Point_plus : ((Int × (Int × Int)) × (Int × (Int × Int))) → AV × List CV := fun b => (.one ⟨true, [(.v (.int .i64 b.1.1)), (.v (.int .i64 b.1.2.1)), (.v (.int .i64 b.1.2.2)), (.v (.int .i64 b.2.1)), (.v (.int .i64 b.2.2.1)), (.v (.int .i64 b.2.2.2))]⟩, [])
noncomputable abbrev k_impl_Point_plus : Contract := .fx as_impl_Point_plus (((Int × (Int × Int)) × (Int × (Int × Int)))) (fun z => g_impl_Point_plus z.1 z.2.1) en_impl_Point_plus
theorem r_impl_Point_plus (z : argsX as_impl_Point_plus) : runF (tab C0 T_impl_Point_plus) noHints 1 Tryd.f112 (lentOf as_impl_Point_plus) (xBoxes as_impl_Point_plus z) (xVals as_impl_Point_plus 0 z) K2 = t_impl_Point_plus (fun b => some (en_impl_Point_plus b)) z.1 z.2.1 := by kernel_rfl
theorem so_impl_Point_plus : Sound C0 112 k_impl_Point_plus :=
  Sound.fx a_impl_Point_plus mixed Tryd.func112 (by kernel_rfl) (by kernel_rfl) noHints 1 noHints_ok (fun z => (r_impl_Point_plus z).trans (nat_impl_Point_plus _ z.1 z.2.1))

/-! ### F59 (impl.Line).reflect -/
noncomputable def T_impl_Line_reflect : List (FuncId × Contract) := [(95, k_impl_Line_normal), (96, k_impl_Point_dot), (97, k_impl_Num_minus), (99, k_impl_Num_over), (64, k_impl_Num_plus), (113, k_impl_Point_times), (112, k_impl_Point_plus)]
theorem a_impl_Line_reflect : AllSound C0 T_impl_Line_reflect := .cons so_impl_Line_normal (.cons so_impl_Point_dot (.cons so_impl_Num_minus (.cons so_impl_Num_over (.cons so_impl_Num_plus (.cons so_impl_Point_times (.cons so_impl_Point_plus (.nil)))))))
noncomputable def t_impl_Line_reflect {R : Type} (kx : ((Int × (Int × Int)) × (Int × (Int × Int))) → Option R) (a0 : (Int × (Int × (Int × Int)))) (a1 : ((Int × (Int × Int)) × (Int × (Int × Int)))) : Option R :=
  Option.bind (g_impl_Line_normal a0) fun y342 =>
  Option.bind (g_impl_Point_dot y342 a1) fun y343 =>
  Option.bind (g_impl_Num_minus a0.2 y343) fun y348 =>
  Option.bind (g_impl_Point_dot y342 y342) fun y349 =>
  Option.bind (g_impl_Num_over y348 y349) fun y370 =>
  Option.bind (g_impl_Num_plus y370.1 y370.1) fun y371 =>
  Option.bind (g_impl_Point_times y342 y371) fun y376 =>
  Option.bind (g_impl_Point_plus a1 y376) fun y381 =>
  kx y381
noncomputable def g_impl_Line_reflect (a0 : (Int × (Int × (Int × Int)))) (a1 : ((Int × (Int × Int)) × (Int × (Int × Int)))) : Option (((Int × (Int × Int)) × (Int × (Int × Int)))) := t_impl_Line_reflect some a0 a1
theorem nat_impl_Line_reflect {R : Type} (kx : ((Int × (Int × Int)) × (Int × (Int × Int))) → Option R) (a0 : (Int × (Int × (Int × Int)))) (a1 : ((Int × (Int × Int)) × (Int × (Int × Int)))) : t_impl_Line_reflect kx a0 a1 = (g_impl_Line_reflect a0 a1).bind kx := by
  unfold g_impl_Line_reflect t_impl_Line_reflect
  exact nat_bind fun _ => nat_bind fun _ => nat_bind fun _ => nat_bind fun _ => nat_bind fun _ => nat_bind fun _ => nat_bind fun _ => nat_bind fun _ => rfl
abbrev as_impl_Line_reflect : List AX := [.val true (.pair (.int .i64) (.pair (.int .i64) (.pair (.int .i64) (.int .i64)))), .val true (.pair (.pair (.int .i64) (.pair (.int .i64) (.int .i64))) (.pair (.int .i64) (.pair (.int .i64) (.int .i64))))]
abbrev en_impl_Line_reflect : ((Int × (Int × Int)) × (Int × (Int × Int))) → AV × List CV := fun b => (.one ⟨true, [(.v (.int .i64 b.1.1)), (.v (.int .i64 b.1.2.1)), (.v (.int .i64 b.1.2.2)), (.v (.int .i64 b.2.1)), (.v (.int .i64 b.2.2.1)), (.v (.int .i64 b.2.2.2))]⟩, [])
noncomputable abbrev k_impl_Line_reflect : Contract := .fx as_impl_Line_reflect (((Int × (Int × Int)) × (Int × (Int × Int)))) (fun z => g_impl_Line_reflect z.1 z.2.1) en_impl_Line_reflect
theorem r_impl_Line_reflect (z : argsX as_impl_Line_reflect) : runF (tab C0 T_impl_Line_reflect) noHints 1 Tryd.f59 (lentOf as_impl_Line_reflect) (xBoxes as_impl_Line_reflect z) (xVals as_impl_Line_reflect 0 z) K2 = t_impl_Line_reflect (fun b => some (en_impl_Line_reflect b)) z.1 z.2.1 := by kernel_rfl
theorem so_impl_Line_reflect : Sound C0 59 k_impl_Line_reflect :=
  Sound.fx a_impl_Line_reflect mixed Tryd.func59 (by kernel_rfl) (by kernel_rfl) noHints 1 noHints_ok (fun z => (r_impl_Line_reflect z).trans (nat_impl_Line_reflect _ z.1 z.2.1))

/-! ### F132 impl.signOf -/
noncomputable def T_impl_signOf : List (FuncId × Contract) := []
theorem a_impl_signOf : AllSound C0 T_impl_signOf := .nil
noncomputable def t_impl_signOf {R : Type} (kx : Int → Option R) (a0 : Int) : Option R :=
  kx (if (Bool.true = Bool.true) then (if ((if (Bool.false = Bool.true) then (if (a0 > (1 : Int)) then a0 else (1 : Int)) else (if (a0 < (1 : Int)) then a0 else (1 : Int))) > (-(1 : Int))) then (if (Bool.false = Bool.true) then (if (a0 > (1 : Int)) then a0 else (1 : Int)) else (if (a0 < (1 : Int)) then a0 else (1 : Int))) else (-(1 : Int))) else (if ((if (Bool.false = Bool.true) then (if (a0 > (1 : Int)) then a0 else (1 : Int)) else (if (a0 < (1 : Int)) then a0 else (1 : Int))) < (-(1 : Int))) then (if (Bool.false = Bool.true) then (if (a0 > (1 : Int)) then a0 else (1 : Int)) else (if (a0 < (1 : Int)) then a0 else (1 : Int))) else (-(1 : Int))))
noncomputable def g_impl_signOf (a0 : Int) : Option (Int) := t_impl_signOf some a0
theorem nat_impl_signOf {R : Type} (kx : Int → Option R) (a0 : Int) : t_impl_signOf kx a0 = (g_impl_signOf a0).bind kx := by
  unfold g_impl_signOf t_impl_signOf
  exact rfl
abbrev as_impl_signOf : List AX := [.val false (.int .i64)]
abbrev en_impl_signOf : Int → AV × List CV := fun b => (.one ⟨false, [(.v (.int .i64 b))]⟩, [])
noncomputable abbrev k_impl_signOf : Contract := .fx as_impl_signOf (Int) (fun z => g_impl_signOf z.1) en_impl_signOf
theorem r_impl_signOf (z : argsX as_impl_signOf) : runF (tab C0 T_impl_signOf) noHints 1 Tryd.f132 (lentOf as_impl_signOf) (xBoxes as_impl_signOf z) (xVals as_impl_signOf 0 z) K2 = t_impl_signOf (fun b => some (en_impl_signOf b)) z.1 := by kernel_rfl
theorem so_impl_signOf : Sound C0 132 k_impl_signOf :=
  Sound.fx a_impl_signOf mixed Tryd.func132 (by kernel_rfl) (by kernel_rfl) noHints 1 noHints_ok (fun z => (r_impl_signOf z).trans (nat_impl_signOf _ z.1))

/-! ### F148 impl.abs -/
noncomputable def T_impl_abs : List (FuncId × Contract) := []
theorem a_impl_abs : AllSound C0 T_impl_abs := .nil
noncomputable def t_impl_abs {R : Type} (kx : Int → Option R) (a0 : Int) : Option R :=
  kx (if (Bool.true = Bool.true) then (if ((IntKind.wrap IntKind.i64 ((0 : Int) - a0)) > a0) then (IntKind.wrap IntKind.i64 ((0 : Int) - a0)) else a0) else (if ((IntKind.wrap IntKind.i64 ((0 : Int) - a0)) < a0) then (IntKind.wrap IntKind.i64 ((0 : Int) - a0)) else a0))
noncomputable def g_impl_abs (a0 : Int) : Option (Int) := t_impl_abs some a0
theorem nat_impl_abs {R : Type} (kx : Int → Option R) (a0 : Int) : t_impl_abs kx a0 = (g_impl_abs a0).bind kx := by
  unfold g_impl_abs t_impl_abs
  exact rfl
abbrev as_impl_abs : List AX := [.val false (.int .i64)]
abbrev en_impl_abs : Int → AV × List CV := fun b => (.one ⟨false, [(.v (.int .i64 b))]⟩, [])
noncomputable abbrev k_impl_abs : Contract := .fx as_impl_abs (Int) (fun z => g_impl_abs z.1) en_impl_abs
theorem r_impl_abs (z : argsX as_impl_abs) : runF (tab C0 T_impl_abs) noHints 1 Tryd.f148 (lentOf as_impl_abs) (xBoxes as_impl_abs z) (xVals as_impl_abs 0 z) K2 = t_impl_abs (fun b => some (en_impl_abs b)) z.1 := by kernel_rfl
theorem so_impl_abs : Sound C0 148 k_impl_abs :=
  Sound.fx a_impl_abs mixed Tryd.func148 (by kernel_rfl) (by kernel_rfl) noHints 1 noHints_ok (fun z => (r_impl_abs z).trans (nat_impl_abs _ z.1))

/-! ### F147 math/bits.Mul64 -/
noncomputable def T_math_bits_Mul64 : List (FuncId × Contract) := []
theorem a_math_bits_Mul64 : AllSound C0 T_math_bits_Mul64 := .nil
noncomputable def t_math_bits_Mul64 {R : Type} (kx : Int × Int → Option R) (a0 : Int) (a1 : Int) : Option R :=
  kx ((IntKind.wrap IntKind.u64 ((IntKind.wrap IntKind.u64 ((IntKind.wrap IntKind.u64 ((Int.fdiv a0 ((2 : Int) ^ (Min.min (Int.toNat (32 : Int)) 64))) * (Int.fdiv a1 ((2 : Int) ^ (Min.min (Int.toNat (32 : Int)) 64))))) + (Int.fdiv (IntKind.wrap IntKind.u64 ((IntKind.wrap IntKind.u64 ((Int.fdiv a0 ((2 : Int) ^ (Min.min (Int.toNat (32 : Int)) 64))) * (IntKind.wrap IntKind.u64 (((BitVec.toNat ((BitVec.ofInt 64 a1) &&& (BitVec.ofInt 64 (4294967295 : Int)))) : Nat) : Int)))) + (Int.fdiv (IntKind.wrap IntKind.u64 ((IntKind.wrap IntKind.u64 (((BitVec.toNat ((BitVec.ofInt 64 a0) &&& (BitVec.ofInt 64 (4294967295 : Int)))) : Nat) : Int)) * (IntKind.wrap IntKind.u64 (((BitVec.toNat ((BitVec.ofInt 64 a1) &&& (BitVec.ofInt 64 (4294967295 : Int)))) : Nat) : Int)))) ((2 : Int) ^ (Min.min (Int.toNat (32 : Int)) 64))))) ((2 : Int) ^ (Min.min (Int.toNat (32 : Int)) 64))))) + (Int.fdiv (IntKind.wrap IntKind.u64 ((IntKind.wrap IntKind.u64 (((BitVec.toNat ((BitVec.ofInt 64 (IntKind.wrap IntKind.u64 ((IntKind.wrap IntKind.u64 ((Int.fdiv a0 ((2 : Int) ^ (Min.min (Int.toNat (32 : Int)) 64))) * (IntKind.wrap IntKind.u64 (((BitVec.toNat ((BitVec.ofInt 64 a1) &&& (BitVec.ofInt 64 (4294967295 : Int)))) : Nat) : Int)))) + (Int.fdiv (IntKind.wrap IntKind.u64 ((IntKind.wrap IntKind.u64 (((BitVec.toNat ((BitVec.ofInt 64 a0) &&& (BitVec.ofInt 64 (4294967295 : Int)))) : Nat) : Int)) * (IntKind.wrap IntKind.u64 (((BitVec.toNat ((BitVec.ofInt 64 a1) &&& (BitVec.ofInt 64 (4294967295 : Int)))) : Nat) : Int)))) ((2 : Int) ^ (Min.min (Int.toNat (32 : Int)) 64)))))) &&& (BitVec.ofInt 64 (4294967295 : Int)))) : Nat) : Int)) + (IntKind.wrap IntKind.u64 ((IntKind.wrap IntKind.u64 (((BitVec.toNat ((BitVec.ofInt 64 a0) &&& (BitVec.ofInt 64 (4294967295 : Int)))) : Nat) : Int)) * (Int.fdiv a1 ((2 : Int) ^ (Min.min (Int.toNat (32 : Int)) 64))))))) ((2 : Int) ^ (Min.min (Int.toNat (32 : Int)) 64))))), (IntKind.wrap IntKind.u64 (a0 * a1)))
noncomputable def g_math_bits_Mul64 (a0 : Int) (a1 : Int) : Option (Int × Int) := t_math_bits_Mul64 some a0 a1
theorem nat_math_bits_Mul64 {R : Type} (kx : Int × Int → Option R) (a0 : Int) (a1 : Int) : t_math_bits_Mul64 kx a0 a1 = (g_math_bits_Mul64 a0 a1).bind kx := by
  unfold g_math_bits_Mul64 t_math_bits_Mul64
  exact rfl
abbrev as_math_bits_Mul64 : List AX := [.val false (.int .u64), .val false (.int .u64)]
abbrev en_math_bits_Mul64 : Int × Int → AV × List CV := fun b => (.tup [⟨false, [(.v (.int .u64 b.1))]⟩, ⟨false, [(.v (.int .u64 b.2))]⟩], [])
noncomputable abbrev k_math_bits_Mul64 : Contract := .fx as_math_bits_Mul64 (Int × Int) (fun z => g_math_bits_Mul64 z.1 z.2.1) en_math_bits_Mul64
theorem r_math_bits_Mul64 (z : argsX as_math_bits_Mul64) : runF (tab C0 T_math_bits_Mul64) noHints 1 Tryd.f147 (lentOf as_math_bits_Mul64) (xBoxes as_math_bits_Mul64 z) (xVals as_math_bits_Mul64 0 z) K2 = t_math_bits_Mul64 (fun b => some (en_math_bits_Mul64 b)) z.1 z.2.1 := by kernel_rfl
theorem so_math_bits_Mul64 : Sound C0 147 k_math_bits_Mul64 :=
  Sound.fx a_math_bits_Mul64 mixed Tryd.func147 (by kernel_rfl) (by kernel_rfl) noHints 1 noHints_ok (fun z => (r_math_bits_Mul64 z).trans (nat_math_bits_Mul64 _ z.1 z.2.1))

/-! ### F133 impl.isGreater -/
noncomputable def T_impl_isGreater : List (FuncId × Contract) := [(148, k_impl_abs), (147, k_math_bits_Mul64)]
theorem a_impl_isGreater : AllSound C0 T_impl_isGreater := .cons so_impl_abs (.cons so_math_bits_Mul64 (.nil))
noncomputable def t_impl_isGreater {R : Type} (kx : Bool → Option R) (a0 : Int) (a1 : Int) : Option R :=
  Option.bind (g_impl_abs a0) fun y395 =>
  Option.bind (g_impl_abs a0) fun y396 =>
  Option.bind (g_math_bits_Mul64 (IntKind.wrap IntKind.u64 y395) (IntKind.wrap IntKind.u64 y396)) fun y399 =>
  Option.bind (g_impl_abs a1) fun y400 =>
  Option.bind (g_impl_abs a1) fun y401 =>
  Option.bind (g_math_bits_Mul64 (IntKind.wrap IntKind.u64 y400) (IntKind.wrap IntKind.u64 y401)) fun y402 =>
  cond (decide (y399.1 > (IntKind.wrap IntKind.u64 (((BitVec.toNat ((BitVec.ofInt 64 (IntKind.wrap IntKind.u64 (y402.1 * ((2 : Int) ^ (Min.min (Int.toNat (1 : Int)) 64))))) ||| (BitVec.ofInt 64 (Int.fdiv y402.2 ((2 : Int) ^ (Min.min (Int.toNat (63 : Int)) 64)))))) : Nat) : Int))))
  (kx Bool.true)
  (cond (y399.1 == (IntKind.wrap IntKind.u64 (((BitVec.toNat ((BitVec.ofInt 64 (IntKind.wrap IntKind.u64 (y402.1 * ((2 : Int) ^ (Min.min (Int.toNat (1 : Int)) 64))))) ||| (BitVec.ofInt 64 (Int.fdiv y402.2 ((2 : Int) ^ (Min.min (Int.toNat (63 : Int)) 64)))))) : Nat) : Int)))
   (kx (decide (y399.2 > (IntKind.wrap IntKind.u64 (y402.2 * ((2 : Int) ^ (Min.min (Int.toNat (1 : Int)) 64)))))))
   (kx Bool.false))
noncomputable def g_impl_isGreater (a0 : Int) (a1 : Int) : Option (Bool) := t_impl_isGreater some a0 a1
theorem nat_impl_isGreater {R : Type} (kx : Bool → Option R) (a0 : Int) (a1 : Int) : t_impl_isGreater kx a0 a1 = (g_impl_isGreater a0 a1).bind kx := by
  unfold g_impl_isGreater t_impl_isGreater
  exact nat_bind fun _ => nat_bind fun _ => nat_bind fun _ => nat_bind fun _ => nat_bind fun _ => nat_bind fun _ => nat_cond (rfl) (nat_cond (rfl) (rfl))
abbrev as_impl_isGreater : List AX := [.val false (.int .i64), .val false (.int .i64)]
abbrev en_impl_isGreater : Bool → AV × List CV := fun b => (.one ⟨false, [(.v (.bool b))]⟩, [])
noncomputable abbrev k_impl_isGreater : Contract := .fx as_impl_isGreater (Bool) (fun z => g_impl_isGreater z.1 z.2.1) en_impl_isGreater
theorem r_impl_isGreater (z : argsX as_impl_isGreater) : runF (tab C0 T_impl_isGreater) noHints 1 Tryd.f133 (lentOf as_impl_isGreater) (xBoxes as_impl_isGreater z) (xVals as_impl_isGreater 0 z) K2 = t_impl_isGreater (fun b => some (en_impl_isGreater b)) z.1 z.2.1 := by kernel_rfl
theorem so_impl_isGreater : Sound C0 133 k_impl_isGreater :=
  Sound.fx a_impl_isGreater mixed Tryd.func133 (by kernel_rfl) (by kernel_rfl) noHints 1 noHints_ok (fun z => (r_impl_isGreater z).trans (nat_impl_isGreater _ z.1 z.2.1))

/-! ### F111 (impl.Num).sign -/
noncomputable def T_impl_Num_sign : List (FuncId × Contract) := [(132, k_impl_signOf), (133, k_impl_isGreater)]
theorem a_impl_Num_sign : AllSound C0 T_impl_Num_sign := .cons so_impl_signOf (.cons so_impl_isGreater (.nil))
noncomputable def t_impl_Num_sign {R : Type} (kx : Int → Option R) (a0 : (Int × (Int × Int))) : Option R :=
  Option.bind (g_impl_signOf a0.1) fun y390 =>
  Option.bind (g_impl_signOf a0.2.1) fun y391 =>
  cond (y390 == y391)
  (kx y390)
  (cond (y391 == (0 : Int))
   (kx y390)
   (cond (y390 == (0 : Int))
    (kx y391)
    (Option.bind (g_impl_isGreater a0.1 a0.2.1) fun y403 =>
     cond (!y403)
     (kx y391)
     (kx y390))))
noncomputable def g_impl_Num_sign (a0 : (Int × (Int × Int))) : Option (Int) := t_impl_Num_sign some a0
theorem nat_impl_Num_sign {R : Type} (kx : Int → Option R) (a0 : (Int × (Int × Int))) : t_impl_Num_sign kx a0 = (g_impl_Num_sign a0).bind kx := by
  unfold g_impl_Num_sign t_impl_Num_sign
  exact nat_bind fun _ => nat_bind fun _ => nat_cond (rfl) (nat_cond (rfl) (nat_cond (rfl) (nat_bind fun _ => nat_cond (rfl) (rfl))))
abbrev as_impl_Num_sign : List AX := [.val true (.pair (.int .i64) (.pair (.int .i64) (.int .i64)))]
abbrev en_impl_Num_sign : Int → AV × List CV := fun b => (.one ⟨false, [(.v (.int .i64 b))]⟩, [])
noncomputable abbrev k_impl_Num_sign : Contract := .fx as_impl_Num_sign (Int) (fun z => g_impl_Num_sign z.1) en_impl_Num_sign
theorem r_impl_Num_sign (z : argsX as_impl_Num_sign) : runF (tab C0 T_impl_Num_sign) noHints 1 Tryd.f111 (lentOf as_impl_Num_sign) (xBoxes as_impl_Num_sign z) (xVals as_impl_Num_sign 0 z) K2 = t_impl_Num_sign (fun b => some (en_impl_Num_sign b)) z.1 := by kernel_rfl
theorem so_impl_Num_sign : Sound C0 111 k_impl_Num_sign :=
  Sound.fx a_impl_Num_sign mixed Tryd.func111 (by kernel_rfl) (by kernel_rfl) noHints 1 noHints_ok (fun z => (r_impl_Num_sign z).trans (nat_impl_Num_sign _ z.1))

/-! ### F58 (impl.Line).side -/
noncomputable def T_impl_Line_side : List (FuncId × Contract) := [(95, k_impl_Line_normal), (96, k_impl_Point_dot), (97, k_impl_Num_minus), (111, k_impl_Num_sign)]
theorem a_impl_Line_side : AllSound C0 T_impl_Line_side := .cons so_impl_Line_normal (.cons so_impl_Point_dot (.cons so_impl_Num_minus (.cons so_impl_Num_sign (.nil))))
noncomputable def t_impl_Line_side {R : Type} (kx : Int → Option R) (a0 : (Int × (Int × (Int × Int)))) (a1 : ((Int × (Int × Int)) × (Int × (Int × Int)))) : Option R :=
  Option.bind (g_impl_Line_normal a0) fun y385 =>
  Option.bind (g_impl_Point_dot y385 a1) fun y386 =>
  Option.bind (g_impl_Num_minus y386 a0.2) fun y387 =>
  Option.bind (g_impl_Num_sign y387) fun y404 =>
  kx y404
noncomputable def g_impl_Line_side (a0 : (Int × (Int × (Int × Int)))) (a1 : ((Int × (Int × Int)) × (Int × (Int × Int)))) : Option (Int) := t_impl_Line_side some a0 a1
theorem nat_impl_Line_side {R : Type} (kx : Int → Option R) (a0 : (Int × (Int × (Int × Int)))) (a1 : ((Int × (Int × Int)) × (Int × (Int × Int)))) : t_impl_Line_side kx a0 a1 = (g_impl_Line_side a0 a1).bind kx := by
  unfold g_impl_Line_side t_impl_Line_side
  exact nat_bind fun _ => nat_bind fun _ => nat_bind fun _ => nat_bind fun _ => rfl
abbrev as_impl_Line_side : List AX := [.val true (.pair (.int .i64) (.pair (.int .i64) (.pair (.int .i64) (.int .i64)))), .val true (.pair (.pair (.int .i64) (.pair (.int .i64) (.int .i64))) (.pair (.int .i64) (.pair (.int .i64) (.int .i64))))]
abbrev en_impl_Line_side : Int → AV × List CV := fun b => (.one ⟨false, [(.v (.int .i64 b))]⟩, [])
noncomputable abbrev k_impl_Line_side : Contract := .fx as_impl_Line_side (Int) (fun z => g_impl_Line_side z.1 z.2.1) en_impl_Line_side
theorem r_impl_Line_side (z : argsX as_impl_Line_side) : runF (tab C0 T_impl_Line_side) noHints 1 Tryd.f58 (lentOf as_impl_Line_side) (xBoxes as_impl_Line_side z) (xVals as_impl_Line_side 0 z) K2 = t_impl_Line_side (fun b => some (en_impl_Line_side b)) z.1 z.2.1 := by kernel_rfl
theorem so_impl_Line_side : Sound C0 58 k_impl_Line_side :=
  Sound.fx a_impl_Line_side mixed Tryd.func58 (by kernel_rfl) (by kernel_rfl) noHints 1 noHints_ok (fun z => (r_impl_Line_side z).trans (nat_impl_Line_side _ z.1 z.2.1))

/-! ### F101 impl.lineResults$1 -/
noncomputable def T_impl_lineResults_1 : List (FuncId × Contract) := [(51, k_impl_ValidLine)]
theorem a_impl_lineResults_1 : AllSound C0 T_impl_lineResults_1 := .cons so_impl_ValidLine (.nil)
noncomputable def t_impl_lineResults_1 {R : Type} (kx : Bool → Option R) (a0 : (Int × (Int × (Int × Int)))) : Option R :=
  Option.bind (g_impl_ValidLine a0) fun y416 =>
  kx (!y416)
noncomputable def g_impl_lineResults_1 (a0 : (Int × (Int × (Int × Int)))) : Option (Bool) := t_impl_lineResults_1 some a0
theorem nat_impl_lineResults_1 {R : Type} (kx : Bool → Option R) (a0 : (Int × (Int × (Int × Int)))) : t_impl_lineResults_1 kx a0 = (g_impl_lineResults_1 a0).bind kx := by
  unfold g_impl_lineResults_1 t_impl_lineResults_1
  exact nat_bind fun _ => rfl
abbrev as_impl_lineResults_1 : List AX := [.val true (.pair (.int .i64) (.pair (.int .i64) (.pair (.int .i64) (.int .i64))))]
abbrev en_impl_lineResults_1 : Bool → AV × List CV := fun b => (.one ⟨false, [(.v (.bool b))]⟩, [])
noncomputable abbrev k_impl_lineResults_1 : Contract := .fx as_impl_lineResults_1 (Bool) (fun z => g_impl_lineResults_1 z.1) en_impl_lineResults_1
theorem r_impl_lineResults_1 (z : argsX as_impl_lineResults_1) : runF (tab C0 T_impl_lineResults_1) noHints 1 Tryd.f101 (lentOf as_impl_lineResults_1) (xBoxes as_impl_lineResults_1 z) (xVals as_impl_lineResults_1 0 z) K2 = t_impl_lineResults_1 (fun b => some (en_impl_lineResults_1 b)) z.1 := by kernel_rfl
theorem so_impl_lineResults_1 : Sound C0 101 k_impl_lineResults_1 :=
  Sound.fx a_impl_lineResults_1 mixed Tryd.func101 (by kernel_rfl) (by kernel_rfl) noHints 1 noHints_ok (fun z => (r_impl_lineResults_1 z).trans (nat_impl_lineResults_1 _ z.1))

/-! ### F128 slices.IndexFunc[[]impl.Line,impl.Line] -/
noncomputable def T_slices_IndexFunc_Simpl_Line_impl_Line__impl_lineResults_1 : List (FuncId × Contract) := [(101, k_impl_lineResults_1)]
theorem a_slices_IndexFunc_Simpl_Line_impl_Line__impl_lineResults_1 : AllSound C0 T_slices_IndexFunc_Simpl_Line_impl_Line__impl_lineResults_1 := .cons so_impl_lineResults_1 (.nil)
abbrev s_slices_IndexFunc_Simpl_Line_impl_Line__impl_lineResults_1_3 : LS := ⟨[(false, [(.sl (.pair (.int .i64) (.pair (.int .i64) (.pair (.int .i64) (.int .i64)))))]), (false, [(.fn 101 [])]), (false, [(.int .i64)]), (false, [(.int .i64)])], [], []⟩
abbrev e_slices_IndexFunc_Simpl_Line_impl_Line__impl_lineResults_1_3_0 : LS := ⟨[(false, [(.int .i64)])], [], []⟩
abbrev d_slices_IndexFunc_Simpl_Line_impl_Line__impl_lineResults_1_3_0 (v0 : Int) : e_slices_IndexFunc_Simpl_Line_impl_Line__impl_lineResults_1_3_0.T := (((v0, ()), ()), (), ())
abbrev e_slices_IndexFunc_Simpl_Line_impl_Line__impl_lineResults_1_3_1 : LS := ⟨[(false, [.undef])], [], []⟩
abbrev d_slices_IndexFunc_Simpl_Line_impl_Line__impl_lineResults_1_3_1 : e_slices_IndexFunc_Simpl_Line_impl_Line__impl_lineResults_1_3_1.T := ((((), ()), ()), (), ())
abbrev x_slices_IndexFunc_Simpl_Line_impl_Line__impl_lineResults_1_3 : List (Ex × LS) := [(.ret, e_slices_IndexFunc_Simpl_Line_impl_Line__impl_lineResults_1_3_0), (.exit 0, e_slices_IndexFunc_Simpl_Line_impl_Line__impl_lineResults_1_3_1)]
abbrev m_slices_IndexFunc_Simpl_Line_impl_Line__impl_lineResults_1_3 (x0 : List (Int × (Int × (Int × Int)))) (x7 : Int) (x8 : Int) : s_slices_IndexFunc_Simpl_Line_impl_Line__impl_lineResults_1_3.T := (((x0, ()), ((), ()), (x7, ()), (x8, ()), ()), (), ())
noncomputable def u_slices_IndexFunc_Simpl_Line_impl_Line__impl_lineResults_1_3 {R : Type} (nx : s_slices_IndexFunc_Simpl_Line_impl_Line__impl_lineResults_1_3.T → Option R) (hx : exH R x_slices_IndexFunc_Simpl_Line_impl_Line__impl_lineResults_1_3) (x0 : List (Int × (Int × (Int × Int)))) (x7 : Int) (x8 : Int) : Option R :=
  cond (decide (x8 < x7))
  (Option.bind (idx x0 x8) fun y414 =>
   Option.bind (g_impl_lineResults_1 y414) fun y417 =>
   cond y417
   (hx.1 (d_slices_IndexFunc_Simpl_Line_impl_Line__impl_lineResults_1_3_0 x8))
   (nx (m_slices_IndexFunc_Simpl_Line_impl_Line__impl_lineResults_1_3 x0 x7 (IntKind.wrap IntKind.i64 (x8 + (1 : Int))))))
  (hx.2.1 (d_slices_IndexFunc_Simpl_Line_impl_Line__impl_lineResults_1_3_1))
noncomputable def t_slices_IndexFunc_Simpl_Line_impl_Line__impl_lineResults_1_3 {R : Type} (nx : s_slices_IndexFunc_Simpl_Line_impl_Line__impl_lineResults_1_3.T → Option R) (hx : exH R x_slices_IndexFunc_Simpl_Line_impl_Line__impl_lineResults_1_3) (z : s_slices_IndexFunc_Simpl_Line_impl_Line__impl_lineResults_1_3.T) : Option R := u_slices_IndexFunc_Simpl_Line_impl_Line__impl_lineResults_1_3 nx hx z.1.1.1 z.1.2.2.1.1 z.1.2.2.2.1.1
theorem nat_slices_IndexFunc_Simpl_Line_impl_Line__impl_lineResults_1_3 : Natural @t_slices_IndexFunc_Simpl_Line_impl_Line__impl_lineResults_1_3 := fun R nx hx z => by
  show u_slices_IndexFunc_Simpl_Line_impl_Line__impl_lineResults_1_3 nx hx z.1.1.1 z.1.2.2.1.1 z.1.2.2.2.1.1 = (u_slices_IndexFunc_Simpl_Line_impl_Line__impl_lineResults_1_3 (fun y => some (.inl y)) (hIn x_slices_IndexFunc_Simpl_Line_impl_Line__impl_lineResults_1_3 fun x => some (.inr x)) z.1.1.1 z.1.2.2.1.1 z.1.2.2.2.1.1).bind (goOn nx hx)
  unfold u_slices_IndexFunc_Simpl_Line_impl_Line__impl_lineResults_1_3
  exact nat_cond (nat_bind fun _ => nat_bind fun _ => nat_cond (rfl) (rfl)) (rfl)
noncomputable def w_slices_IndexFunc_Simpl_Line_impl_Line__impl_lineResults_1_3 : s_slices_IndexFunc_Simpl_Line_impl_Line__impl_lineResults_1_3.T → Option (exT x_slices_IndexFunc_Simpl_Line_impl_Line__impl_lineResults_1_3) := wOf @t_slices_IndexFunc_Simpl_Line_impl_Line__impl_lineResults_1_3
theorem wq_slices_IndexFunc_Simpl_Line_impl_Line__impl_lineResults_1_3 (x0 : List (Int × (Int × (Int × Int)))) (x7 : Int) (x8 : Int) : w_slices_IndexFunc_Simpl_Line_impl_Line__impl_lineResults_1_3 (m_slices_IndexFunc_Simpl_Line_impl_Line__impl_lineResults_1_3 x0 x7 x8) = u_slices_IndexFunc_Simpl_Line_impl_Line__impl_lineResults_1_3 w_slices_IndexFunc_Simpl_Line_impl_Line__impl_lineResults_1_3 (hIn x_slices_IndexFunc_Simpl_Line_impl_Line__impl_lineResults_1_3 some) x0 x7 x8 := wOf_eq nat_slices_IndexFunc_Simpl_Line_impl_Line__impl_lineResults_1_3 _
def lh_slices_IndexFunc_Simpl_Line_impl_Line__impl_lineResults_1_3 : LoopHint := ⟨[0, 1, 7, 8], [], [4], []⟩
noncomputable def h_slices_IndexFunc_Simpl_Line_impl_Line__impl_lineResults_1 : Hints Rv := ⟨fun k => match k with | 3 => lh_slices_IndexFunc_Simpl_Line_impl_Line__impl_lineResults_1_3 | _ => ⟨[], [], [], []⟩, fun k => match k with | 3 => some (loopX s_slices_IndexFunc_Simpl_Line_impl_Line__impl_lineResults_1_3 x_slices_IndexFunc_Simpl_Line_impl_Line__impl_lineResults_1_3 w_slices_IndexFunc_Simpl_Line_impl_Line__impl_lineResults_1_3) | _ => none⟩
theorem st_slices_IndexFunc_Simpl_Line_impl_Line__impl_lineResults_1_3 (n : Nat) (z : s_slices_IndexFunc_Simpl_Line_impl_Line__impl_lineResults_1_3.T) (k : Ex → Live → Option Rv) : loopN ⟨19, 19⟩ lh_slices_IndexFunc_Simpl_Line_impl_Line__impl_lineResults_1_3 (den (tab C0 T_slices_IndexFunc_Simpl_Line_impl_Line__impl_lineResults_1) ⟨19, 19⟩ h_slices_IndexFunc_Simpl_Line_impl_Line__impl_lineResults_1 1 (loopOf Tryd.f128 2)) (n + 1) (s_slices_IndexFunc_Simpl_Line_impl_Line__impl_lineResults_1_3.enc z) k =
    t_slices_IndexFunc_Simpl_Line_impl_Line__impl_lineResults_1_3 (fun y => loopN ⟨19, 19⟩ lh_slices_IndexFunc_Simpl_Line_impl_Line__impl_lineResults_1_3 (den (tab C0 T_slices_IndexFunc_Simpl_Line_impl_Line__impl_lineResults_1) ⟨19, 19⟩ h_slices_IndexFunc_Simpl_Line_impl_Line__impl_lineResults_1 1 (loopOf Tryd.f128 2)) n (s_slices_IndexFunc_Simpl_Line_impl_Line__impl_lineResults_1_3.enc y) k) (hK k x_slices_IndexFunc_Simpl_Line_impl_Line__impl_lineResults_1_3) z := by kernel_rfl
theorem hs_slices_IndexFunc_Simpl_Line_impl_Line__impl_lineResults_1 : HintsOk (tab C0 T_slices_IndexFunc_Simpl_Line_impl_Line__impl_lineResults_1) ⟨19, 19⟩ h_slices_IndexFunc_Simpl_Line_impl_Line__impl_lineResults_1 1 (loops (codeOf Tryd.f128)) := by
  have hl : loops (codeOf Tryd.f128) = [loopOf Tryd.f128 2] := by kernel_rfl
  rw [hl]
  exact HintsOk.cons (n := 3) (lh := lh_slices_IndexFunc_Simpl_Line_impl_Line__impl_lineResults_1_3) (S := loopX s_slices_IndexFunc_Simpl_Line_impl_Line__impl_lineResults_1_3 x_slices_IndexFunc_Simpl_Line_impl_Line__impl_lineResults_1_3 w_slices_IndexFunc_Simpl_Line_impl_Line__impl_lineResults_1_3) (by kernel_rfl) rfl rfl (loopX_ok nat_slices_IndexFunc_Simpl_Line_impl_Line__impl_lineResults_1_3 st_slices_IndexFunc_Simpl_Line_impl_Line__impl_lineResults_1_3)
    (HintsOk.nil)
noncomputable def t_slices_IndexFunc_Simpl_Line_impl_Line__impl_lineResults_1 {R : Type} (kx : Int → Option R) (a0 : (List (Int × (Int × (Int × Int))))) : Option R :=
  Option.bind (w_slices_IndexFunc_Simpl_Line_impl_Line__impl_lineResults_1_3 (m_slices_IndexFunc_Simpl_Line_impl_Line__impl_lineResults_1_3 a0 (((List.length a0) : Nat) : Int) (0 : Int))) (exC x_slices_IndexFunc_Simpl_Line_impl_Line__impl_lineResults_1_3
  (fun e418 =>
   kx (e418.1.1.1 : Int), fun _ =>
   kx (-(1 : Int)), ()))
noncomputable def g_slices_IndexFunc_Simpl_Line_impl_Line__impl_lineResults_1 (a0 : (List (Int × (Int × (Int × Int))))) : Option (Int) := t_slices_IndexFunc_Simpl_Line_impl_Line__impl_lineResults_1 some a0
theorem nat_slices_IndexFunc_Simpl_Line_impl_Line__impl_lineResults_1 {R : Type} (kx : Int → Option R) (a0 : (List (Int × (Int × (Int × Int))))) : t_slices_IndexFunc_Simpl_Line_impl_Line__impl_lineResults_1 kx a0 = (g_slices_IndexFunc_Simpl_Line_impl_Line__impl_lineResults_1 a0).bind kx := by
  unfold g_slices_IndexFunc_Simpl_Line_impl_Line__impl_lineResults_1 t_slices_IndexFunc_Simpl_Line_impl_Line__impl_lineResults_1
  exact nat_exC ⟨fun _ => rfl, fun _ => rfl, trivial⟩
abbrev as_slices_IndexFunc_Simpl_Line_impl_Line__impl_lineResults_1 : List AX := [.val false (.slice (.pair (.int .i64) (.pair (.int .i64) (.pair (.int .i64) (.int .i64))))), .clo 101 []]
abbrev en_slices_IndexFunc_Simpl_Line_impl_Line__impl_lineResults_1 : Int → AV × List CV := fun b => (.one ⟨false, [(.v (.int .i64 b))]⟩, [])
noncomputable abbrev k_slices_IndexFunc_Simpl_Line_impl_Line__impl_lineResults_1 : Contract := .fx as_slices_IndexFunc_Simpl_Line_impl_Line__impl_lineResults_1 (Int) (fun z => g_slices_IndexFunc_Simpl_Line_impl_Line__impl_lineResults_1 z.1) en_slices_IndexFunc_Simpl_Line_impl_Line__impl_lineResults_1
theorem r_slices_IndexFunc_Simpl_Line_impl_Line__impl_lineResults_1 (z : argsX as_slices_IndexFunc_Simpl_Line_impl_Line__impl_lineResults_1) : runF (tab C0 T_slices_IndexFunc_Simpl_Line_impl_Line__impl_lineResults_1) h_slices_IndexFunc_Simpl_Line_impl_Line__impl_lineResults_1 1 Tryd.f128 (lentOf as_slices_IndexFunc_Simpl_Line_impl_Line__impl_lineResults_1) (xBoxes as_slices_IndexFunc_Simpl_Line_impl_Line__impl_lineResults_1 z) (xVals as_slices_IndexFunc_Simpl_Line_impl_Line__impl_lineResults_1 0 z) K2 = t_slices_IndexFunc_Simpl_Line_impl_Line__impl_lineResults_1 (fun b => some (en_slices_IndexFunc_Simpl_Line_impl_Line__impl_lineResults_1 b)) z.1 := by kernel_rfl
theorem so_slices_IndexFunc_Simpl_Line_impl_Line__impl_lineResults_1 : Sound C0 128 k_slices_IndexFunc_Simpl_Line_impl_Line__impl_lineResults_1 :=
  Sound.fx a_slices_IndexFunc_Simpl_Line_impl_Line__impl_lineResults_1 mixed Tryd.func128 (by kernel_rfl) (by kernel_rfl) h_slices_IndexFunc_Simpl_Line_impl_Line__impl_lineResults_1 1 hs_slices_IndexFunc_Simpl_Line_impl_Line__impl_lineResults_1 (fun z => (r_slices_IndexFunc_Simpl_Line_impl_Line__impl_lineResults_1 z).trans (nat_slices_IndexFunc_Simpl_Line_impl_Line__impl_lineResults_1 _ z.1))

/-! ### F100 slices.ContainsFunc[[]impl.Line,impl.Line] -/
noncomputable def T_slices_ContainsFunc_Simpl_Line_impl_Line__impl_lineResults_1 : List (FuncId × Contract) := [(128, k_slices_IndexFunc_Simpl_Line_impl_Line__impl_lineResults_1)]
theorem a_slices_ContainsFunc_Simpl_Line_impl_Line__impl_lineResults_1 : AllSound C0 T_slices_ContainsFunc_Simpl_Line_impl_Line__impl_lineResults_1 := .cons so_slices_IndexFunc_Simpl_Line_impl_Line__impl_lineResults_1 (.nil)
noncomputable def t_slices_ContainsFunc_Simpl_Line_impl_Line__impl_lineResults_1 {R : Type} (kx : Bool → Option R) (a0 : (List (Int × (Int × (Int × Int))))) : Option R :=
  Option.bind (g_slices_IndexFunc_Simpl_Line_impl_Line__impl_lineResults_1 a0) fun y421 =>
  kx (decide (y421 ≥ (0 : Int)))
noncomputable def g_slices_ContainsFunc_Simpl_Line_impl_Line__impl_lineResults_1 (a0 : (List (Int × (Int × (Int × Int))))) : Option (Bool) := t_slices_ContainsFunc_Simpl_Line_impl_Line__impl_lineResults_1 some a0
theorem nat_slices_ContainsFunc_Simpl_Line_impl_Line__impl_lineResults_1 {R : Type} (kx : Bool → Option R) (a0 : (List (Int × (Int × (Int × Int))))) : t_slices_ContainsFunc_Simpl_Line_impl_Line__impl_lineResults_1 kx a0 = (g_slices_ContainsFunc_Simpl_Line_impl_Line__impl_lineResults_1 a0).bind kx := by
  unfold g_slices_ContainsFunc_Simpl_Line_impl_Line__impl_lineResults_1 t_slices_ContainsFunc_Simpl_Line_impl_Line__impl_lineResults_1
  exact nat_bind fun _ => rfl
abbrev as_slices_ContainsFunc_Simpl_Line_impl_Line__impl_lineResults_1 : List AX := [.val false (.slice (.pair (.int .i64) (.pair (.int .i64) (.pair (.int .i64) (.int .i64))))), .clo 101 []]
abbrev en_slices_ContainsFunc_Simpl_Line_impl_Line__impl_lineResults_1 : Bool → AV × List CV := fun b => (.one ⟨false, [(.v (.bool b))]⟩, [])
noncomputable abbrev k_slices_ContainsFunc_Simpl_Line_impl_Line__impl_lineResults_1 : Contract := .fx as_slices_ContainsFunc_Simpl_Line_impl_Line__impl_lineResults_1 (Bool) (fun z => g_slices_ContainsFunc_Simpl_Line_impl_Line__impl_lineResults_1 z.1) en_slices_ContainsFunc_Simpl_Line_impl_Line__impl_lineResults_1
theorem r_slices_ContainsFunc_Simpl_Line_impl_Line__impl_lineResults_1 (z : argsX as_slices_ContainsFunc_Simpl_Line_impl_Line__impl_lineResults_1) : runF (tab C0 T_slices_ContainsFunc_Simpl_Line_impl_Line__impl_lineResults_1) noHints 1 Tryd.f100 (lentOf as_slices_ContainsFunc_Simpl_Line_impl_Line__impl_lineResults_1) (xBoxes as_slices_ContainsFunc_Simpl_Line_impl_Line__impl_lineResults_1 z) (xVals as_slices_ContainsFunc_Simpl_Line_impl_Line__impl_lineResults_1 0 z) K2 = t_slices_ContainsFunc_Simpl_Line_impl_Line__impl_lineResults_1 (fun b => some (en_slices_ContainsFunc_Simpl_Line_impl_Line__impl_lineResults_1 b)) z.1 := by kernel_rfl
theorem so_slices_ContainsFunc_Simpl_Line_impl_Line__impl_lineResults_1 : Sound C0 100 k_slices_ContainsFunc_Simpl_Line_impl_Line__impl_lineResults_1 :=
  Sound.fx a_slices_ContainsFunc_Simpl_Line_impl_Line__impl_lineResults_1 mixed Tryd.func100 (by kernel_rfl) (by kernel_rfl) noHints 1 noHints_ok (fun z => (r_slices_ContainsFunc_Simpl_Line_impl_Line__impl_lineResults_1 z).trans (nat_slices_ContainsFunc_Simpl_Line_impl_Line__impl_lineResults_1 _ z.1))

/-! ### F146 math/bits.Len64 -/
noncomputable def T_math_bits_Len64 : List (FuncId × Contract) := []
theorem a_math_bits_Len64 : AllSound C0 T_math_bits_Len64 := .nil
noncomputable def t_math_bits_Len64 {R : Type} (kx : Int → Option R) (a0 : Int) : Option R :=
  cond (decide (a0 ≥ (4294967296 : Int)))
  (cond (decide ((Int.fdiv a0 ((2 : Int) ^ (Min.min (Int.toNat (32 : Int)) 64))) ≥ (65536 : Int)))
   (cond (decide ((Int.fdiv (Int.fdiv a0 ((2 : Int) ^ (Min.min (Int.toNat (32 : Int)) 64))) ((2 : Int) ^ (Min.min (Int.toNat (16 : Int)) 64))) ≥ (256 : Int)))
    (Option.bind (idxB (ByteArray.mk (Array.mk (List.append (List.append [0, 1, 2, 2, 3, 3, 3, 3, 4, 4, 4, 4, 4, 4, 4, 4, 5, 5, 5, 5, 5, 5, 5, 5, 5, 5, 5, 5, 5, 5, 5, 5, 6, 6, 6, 6, 6, 6, 6, 6, 6, 6, 6, 6, 6, 6, 6, 6, 6, 6, 6, 6, 6, 6, 6, 6, 6, 6, 6, 6, 6, 6, 6, 6] [7, 7, 7, 7, 7, 7, 7, 7, 7, 7, 7, 7, 7, 7, 7, 7, 7, 7, 7, 7, 7, 7, 7, 7, 7, 7, 7, 7, 7, 7, 7, 7, 7, 7, 7, 7, 7, 7, 7, 7, 7, 7, 7, 7, 7, 7, 7, 7, 7, 7, 7, 7, 7, 7, 7, 7, 7, 7, 7, 7, 7, 7, 7, 7]) (List.append [8, 8, 8, 8, 8, 8, 8, 8, 8, 8, 8, 8, 8, 8, 8, 8, 8, 8, 8, 8, 8, 8, 8, 8, 8, 8, 8, 8, 8, 8, 8, 8, 8, 8, 8, 8, 8, 8, 8, 8, 8, 8, 8, 8, 8, 8, 8, 8, 8, 8, 8, 8, 8, 8, 8, 8, 8, 8, 8, 8, 8, 8, 8, 8] [8, 8, 8, 8, 8, 8, 8, 8, 8, 8, 8, 8, 8, 8, 8, 8, 8, 8, 8, 8, 8, 8, 8, 8, 8, 8, 8, 8, 8, 8, 8, 8, 8, 8, 8, 8, 8, 8, 8, 8, 8, 8, 8, 8, 8, 8, 8, 8, 8, 8, 8, 8, 8, 8, 8, 8, 8, 8, 8, 8, 8, 8, 8, 8])))) (IntKind.wrap IntKind.u8 (Int.fdiv (Int.fdiv (Int.fdiv a0 ((2 : Int) ^ (Min.min (Int.toNat (32 : Int)) 64))) ((2 : Int) ^ (Min.min (Int.toNat (16 : Int)) 64))) ((2 : Int) ^ (Min.min (Int.toNat (8 : Int)) 64))))) fun y426 =>
     kx (IntKind.wrap IntKind.i64 ((IntKind.wrap IntKind.i64 ((IntKind.wrap IntKind.i64 ((32 : Int) + (16 : Int))) + (8 : Int))) + (IntKind.wrap IntKind.i64 (((UInt8.toNat y426) : Nat) : Int)))))
    (Option.bind (idxB (ByteArray.mk (Array.mk (List.append (List.append [0, 1, 2, 2, 3, 3, 3, 3, 4, 4, 4, 4, 4, 4, 4, 4, 5, 5, 5, 5, 5, 5, 5, 5, 5, 5, 5, 5, 5, 5, 5, 5, 6, 6, 6, 6, 6, 6, 6, 6, 6, 6, 6, 6, 6, 6, 6, 6, 6, 6, 6, 6, 6, 6, 6, 6, 6, 6, 6, 6, 6, 6, 6, 6] [7, 7, 7, 7, 7, 7, 7, 7, 7, 7, 7, 7, 7, 7, 7, 7, 7, 7, 7, 7, 7, 7, 7, 7, 7, 7, 7, 7, 7, 7, 7, 7, 7, 7, 7, 7, 7, 7, 7, 7, 7, 7, 7, 7, 7, 7, 7, 7, 7, 7, 7, 7, 7, 7, 7, 7, 7, 7, 7, 7, 7, 7, 7, 7]) (List.append [8, 8, 8, 8, 8, 8, 8, 8, 8, 8, 8, 8, 8, 8, 8, 8, 8, 8, 8, 8, 8, 8, 8, 8, 8, 8, 8, 8, 8, 8, 8, 8, 8, 8, 8, 8, 8, 8, 8, 8, 8, 8, 8, 8, 8, 8, 8, 8, 8, 8, 8, 8, 8, 8, 8, 8, 8, 8, 8, 8, 8, 8, 8, 8] [8, 8, 8, 8, 8, 8, 8, 8, 8, 8, 8, 8, 8, 8, 8, 8, 8, 8, 8, 8, 8, 8, 8, 8, 8, 8, 8, 8, 8, 8, 8, 8, 8, 8, 8, 8, 8, 8, 8, 8, 8, 8, 8, 8, 8, 8, 8, 8, 8, 8, 8, 8, 8, 8, 8, 8, 8, 8, 8, 8, 8, 8, 8, 8])))) (IntKind.wrap IntKind.u8 (Int.fdiv (Int.fdiv a0 ((2 : Int) ^ (Min.min (Int.toNat (32 : Int)) 64))) ((2 : Int) ^ (Min.min (Int.toNat (16 : Int)) 64))))) fun y427 =>
     kx (IntKind.wrap IntKind.i64 ((IntKind.wrap IntKind.i64 ((32 : Int) + (16 : Int))) + (IntKind.wrap IntKind.i64 (((UInt8.toNat y427) : Nat) : Int))))))
   (cond (decide ((Int.fdiv a0 ((2 : Int) ^ (Min.min (Int.toNat (32 : Int)) 64))) ≥ (256 : Int)))
    (Option.bind (idxB (ByteArray.mk (Array.mk (List.append (List.append [0, 1, 2, 2, 3, 3, 3, 3, 4, 4, 4, 4, 4, 4, 4, 4, 5, 5, 5, 5, 5, 5, 5, 5, 5, 5, 5, 5, 5, 5, 5, 5, 6, 6, 6, 6, 6, 6, 6, 6, 6, 6, 6, 6, 6, 6, 6, 6, 6, 6, 6, 6, 6, 6, 6, 6, 6, 6, 6, 6, 6, 6, 6, 6] [7, 7, 7, 7, 7, 7, 7, 7, 7, 7, 7, 7, 7, 7, 7, 7, 7, 7, 7, 7, 7, 7, 7, 7, 7, 7, 7, 7, 7, 7, 7, 7, 7, 7, 7, 7, 7, 7, 7, 7, 7, 7, 7, 7, 7, 7, 7, 7, 7, 7, 7, 7, 7, 7, 7, 7, 7, 7, 7, 7, 7, 7, 7, 7]) (List.append [8, 8, 8, 8, 8, 8, 8, 8, 8, 8, 8, 8, 8, 8, 8, 8, 8, 8, 8, 8, 8, 8, 8, 8, 8, 8, 8, 8, 8, 8, 8, 8, 8, 8, 8, 8, 8, 8, 8, 8, 8, 8, 8, 8, 8, 8, 8, 8, 8, 8, 8, 8, 8, 8, 8, 8, 8, 8, 8, 8, 8, 8, 8, 8] [8, 8, 8, 8, 8, 8, 8, 8, 8, 8, 8, 8, 8, 8, 8, 8, 8, 8, 8, 8, 8, 8, 8, 8, 8, 8, 8, 8, 8, 8, 8, 8, 8, 8, 8, 8, 8, 8, 8, 8, 8, 8, 8, 8, 8, 8, 8, 8, 8, 8, 8, 8, 8, 8, 8, 8, 8, 8, 8, 8, 8, 8, 8, 8])))) (IntKind.wrap IntKind.u8 (Int.fdiv (Int.fdiv a0 ((2 : Int) ^ (Min.min (Int.toNat (32 : Int)) 64))) ((2 : Int) ^ (Min.min (Int.toNat (8 : Int)) 64))))) fun y428 =>
     kx (IntKind.wrap IntKind.i64 ((IntKind.wrap IntKind.i64 ((32 : Int) + (8 : Int))) + (IntKind.wrap IntKind.i64 (((UInt8.toNat y428) : Nat) : Int)))))
    (Option.bind (idxB (ByteArray.mk (Array.mk (List.append (List.append [0, 1, 2, 2, 3, 3, 3, 3, 4, 4, 4, 4, 4, 4, 4, 4, 5, 5, 5, 5, 5, 5, 5, 5, 5, 5, 5, 5, 5, 5, 5, 5, 6, 6, 6, 6, 6, 6, 6, 6, 6, 6, 6, 6, 6, 6, 6, 6, 6, 6, 6, 6, 6, 6, 6, 6, 6, 6, 6, 6, 6, 6, 6, 6] [7, 7, 7, 7, 7, 7, 7, 7, 7, 7, 7, 7, 7, 7, 7, 7, 7, 7, 7, 7, 7, 7, 7, 7, 7, 7, 7, 7, 7, 7, 7, 7, 7, 7, 7, 7, 7, 7, 7, 7, 7, 7, 7, 7, 7, 7, 7, 7, 7, 7, 7, 7, 7, 7, 7, 7, 7, 7, 7, 7, 7, 7, 7, 7]) (List.append [8, 8, 8, 8, 8, 8, 8, 8, 8, 8, 8, 8, 8, 8, 8, 8, 8, 8, 8, 8, 8, 8, 8, 8, 8, 8, 8, 8, 8, 8, 8, 8, 8, 8, 8, 8, 8, 8, 8, 8, 8, 8, 8, 8, 8, 8, 8, 8, 8, 8, 8, 8, 8, 8, 8, 8, 8, 8, 8, 8, 8, 8, 8, 8] [8, 8, 8, 8, 8, 8, 8, 8, 8, 8, 8, 8, 8, 8, 8, 8, 8, 8, 8, 8, 8, 8, 8, 8, 8, 8, 8, 8, 8, 8, 8, 8, 8, 8, 8, 8, 8, 8, 8, 8, 8, 8, 8, 8, 8, 8, 8, 8, 8, 8, 8, 8, 8, 8, 8, 8, 8, 8, 8, 8, 8, 8, 8, 8])))) (IntKind.wrap IntKind.u8 (Int.fdiv a0 ((2 : Int) ^ (Min.min (Int.toNat (32 : Int)) 64))))) fun y429 =>
     kx (IntKind.wrap IntKind.i64 ((32 : Int) + (IntKind.wrap IntKind.i64 (((UInt8.toNat y429) : Nat) : Int)))))))
  (cond (decide (a0 ≥ (65536 : Int)))
   (cond (decide ((Int.fdiv a0 ((2 : Int) ^ (Min.min (Int.toNat (16 : Int)) 64))) ≥ (256 : Int)))
    (Option.bind (idxB (ByteArray.mk (Array.mk (List.append (List.append [0, 1, 2, 2, 3, 3, 3, 3, 4, 4, 4, 4, 4, 4, 4, 4, 5, 5, 5, 5, 5, 5, 5, 5, 5, 5, 5, 5, 5, 5, 5, 5, 6, 6, 6, 6, 6, 6, 6, 6, 6, 6, 6, 6, 6, 6, 6, 6, 6, 6, 6, 6, 6, 6, 6, 6, 6, 6, 6, 6, 6, 6, 6, 6] [7, 7, 7, 7, 7, 7, 7, 7, 7, 7, 7, 7, 7, 7, 7, 7, 7, 7, 7, 7, 7, 7, 7, 7, 7, 7, 7, 7, 7, 7, 7, 7, 7, 7, 7, 7, 7, 7, 7, 7, 7, 7, 7, 7, 7, 7, 7, 7, 7, 7, 7, 7, 7, 7, 7, 7, 7, 7, 7, 7, 7, 7, 7, 7]) (List.append [8, 8, 8, 8, 8, 8, 8, 8, 8, 8, 8, 8, 8, 8, 8, 8, 8, 8, 8, 8, 8, 8, 8, 8, 8, 8, 8, 8, 8, 8, 8, 8, 8, 8, 8, 8, 8, 8, 8, 8, 8, 8, 8, 8, 8, 8, 8, 8, 8, 8, 8, 8, 8, 8, 8, 8, 8, 8, 8, 8, 8, 8, 8, 8] [8, 8, 8, 8, 8, 8, 8, 8, 8, 8, 8, 8, 8, 8, 8, 8, 8, 8, 8, 8, 8, 8, 8, 8, 8, 8, 8, 8, 8, 8, 8, 8, 8, 8, 8, 8, 8, 8, 8, 8, 8, 8, 8, 8, 8, 8, 8, 8, 8, 8, 8, 8, 8, 8, 8, 8, 8, 8, 8, 8, 8, 8, 8, 8])))) (IntKind.wrap IntKind.u8 (Int.fdiv (Int.fdiv a0 ((2 : Int) ^ (Min.min (Int.toNat (16 : Int)) 64))) ((2 : Int) ^ (Min.min (Int.toNat (8 : Int)) 64))))) fun y430 =>
     kx (IntKind.wrap IntKind.i64 ((IntKind.wrap IntKind.i64 ((IntKind.wrap IntKind.i64 ((0 : Int) + (16 : Int))) + (8 : Int))) + (IntKind.wrap IntKind.i64 (((UInt8.toNat y430) : Nat) : Int)))))
    (Option.bind (idxB (ByteArray.mk (Array.mk (List.append (List.append [0, 1, 2, 2, 3, 3, 3, 3, 4, 4, 4, 4, 4, 4, 4, 4, 5, 5, 5, 5, 5, 5, 5, 5, 5, 5, 5, 5, 5, 5, 5, 5, 6, 6, 6, 6, 6, 6, 6, 6, 6, 6, 6, 6, 6, 6, 6, 6, 6, 6, 6, 6, 6, 6, 6, 6, 6, 6, 6, 6, 6, 6, 6, 6] [7, 7, 7, 7, 7, 7, 7, 7, 7, 7, 7, 7, 7, 7, 7, 7, 7, 7, 7, 7, 7, 7, 7, 7, 7, 7, 7, 7, 7, 7, 7, 7, 7, 7, 7, 7, 7, 7, 7, 7, 7, 7, 7, 7, 7, 7, 7, 7, 7, 7, 7, 7, 7, 7, 7, 7, 7, 7, 7, 7, 7, 7, 7, 7]) (List.append [8, 8, 8, 8, 8, 8, 8, 8, 8, 8, 8, 8, 8, 8, 8, 8, 8, 8, 8, 8, 8, 8, 8, 8, 8, 8, 8, 8, 8, 8, 8, 8, 8, 8, 8, 8, 8, 8, 8, 8, 8, 8, 8, 8, 8, 8, 8, 8, 8, 8, 8, 8, 8, 8, 8, 8, 8, 8, 8, 8, 8, 8, 8, 8] [8, 8, 8, 8, 8, 8, 8, 8, 8, 8, 8, 8, 8, 8, 8, 8, 8, 8, 8, 8, 8, 8, 8, 8, 8, 8, 8, 8, 8, 8, 8, 8, 8, 8, 8, 8, 8, 8, 8, 8, 8, 8, 8, 8, 8, 8, 8, 8, 8, 8, 8, 8, 8, 8, 8, 8, 8, 8, 8, 8, 8, 8, 8, 8])))) (IntKind.wrap IntKind.u8 (Int.fdiv a0 ((2 : Int) ^ (Min.min (Int.toNat (16 : Int)) 64))))) fun y431 =>
     kx (IntKind.wrap IntKind.i64 ((IntKind.wrap IntKind.i64 ((0 : Int) + (16 : Int))) + (IntKind.wrap IntKind.i64 (((UInt8.toNat y431) : Nat) : Int))))))
   (cond (decide (a0 ≥ (256 : Int)))
    (Option.bind (idxB (ByteArray.mk (Array.mk (List.append (List.append [0, 1, 2, 2, 3, 3, 3, 3, 4, 4, 4, 4, 4, 4, 4, 4, 5, 5, 5, 5, 5, 5, 5, 5, 5, 5, 5, 5, 5, 5, 5, 5, 6, 6, 6, 6, 6, 6, 6, 6, 6, 6, 6, 6, 6, 6, 6, 6, 6, 6, 6, 6, 6, 6, 6, 6, 6, 6, 6, 6, 6, 6, 6, 6] [7, 7, 7, 7, 7, 7, 7, 7, 7, 7, 7, 7, 7, 7, 7, 7, 7, 7, 7, 7, 7, 7, 7, 7, 7, 7, 7, 7, 7, 7, 7, 7, 7, 7, 7, 7, 7, 7, 7, 7, 7, 7, 7, 7, 7, 7, 7, 7, 7, 7, 7, 7, 7, 7, 7, 7, 7, 7, 7, 7, 7, 7, 7, 7]) (List.append [8, 8, 8, 8, 8, 8, 8, 8, 8, 8, 8, 8, 8, 8, 8, 8, 8, 8, 8, 8, 8, 8, 8, 8, 8, 8, 8, 8, 8, 8, 8, 8, 8, 8, 8, 8, 8, 8, 8, 8, 8, 8, 8, 8, 8, 8, 8, 8, 8, 8, 8, 8, 8, 8, 8, 8, 8, 8, 8, 8, 8, 8, 8, 8] [8, 8, 8, 8, 8, 8, 8, 8, 8, 8, 8, 8, 8, 8, 8, 8, 8, 8, 8, 8, 8, 8, 8, 8, 8, 8, 8, 8, 8, 8, 8, 8, 8, 8, 8, 8, 8, 8, 8, 8, 8, 8, 8, 8, 8, 8, 8, 8, 8, 8, 8, 8, 8, 8, 8, 8, 8, 8, 8, 8, 8, 8, 8, 8])))) (IntKind.wrap IntKind.u8 (Int.fdiv a0 ((2 : Int) ^ (Min.min (Int.toNat (8 : Int)) 64))))) fun y432 =>
     kx (IntKind.wrap IntKind.i64 ((IntKind.wrap IntKind.i64 ((0 : Int) + (8 : Int))) + (IntKind.wrap IntKind.i64 (((UInt8.toNat y432) : Nat) : Int)))))
    (Option.bind (idxB (ByteArray.mk (Array.mk (List.append (List.append [0, 1, 2, 2, 3, 3, 3, 3, 4, 4, 4, 4, 4, 4, 4, 4, 5, 5, 5, 5, 5, 5, 5, 5, 5, 5, 5, 5, 5, 5, 5, 5, 6, 6, 6, 6, 6, 6, 6, 6, 6, 6, 6, 6, 6, 6, 6, 6, 6, 6, 6, 6, 6, 6, 6, 6, 6, 6, 6, 6, 6, 6, 6, 6] [7, 7, 7, 7, 7, 7, 7, 7, 7, 7, 7, 7, 7, 7, 7, 7, 7, 7, 7, 7, 7, 7, 7, 7, 7, 7, 7, 7, 7, 7, 7, 7, 7, 7, 7, 7, 7, 7, 7, 7, 7, 7, 7, 7, 7, 7, 7, 7, 7, 7, 7, 7, 7, 7, 7, 7, 7, 7, 7, 7, 7, 7, 7, 7]) (List.append [8, 8, 8, 8, 8, 8, 8, 8, 8, 8, 8, 8, 8, 8, 8, 8, 8, 8, 8, 8, 8, 8, 8, 8, 8, 8, 8, 8, 8, 8, 8, 8, 8, 8, 8, 8, 8, 8, 8, 8, 8, 8, 8, 8, 8, 8, 8, 8, 8, 8, 8, 8, 8, 8, 8, 8, 8, 8, 8, 8, 8, 8, 8, 8] [8, 8, 8, 8, 8, 8, 8, 8, 8, 8, 8, 8, 8, 8, 8, 8, 8, 8, 8, 8, 8, 8, 8, 8, 8, 8, 8, 8, 8, 8, 8, 8, 8, 8, 8, 8, 8, 8, 8, 8, 8, 8, 8, 8, 8, 8, 8, 8, 8, 8, 8, 8, 8, 8, 8, 8, 8, 8, 8, 8, 8, 8, 8, 8])))) (IntKind.wrap IntKind.u8 a0)) fun y433 =>
     kx (IntKind.wrap IntKind.i64 ((0 : Int) + (IntKind.wrap IntKind.i64 (((UInt8.toNat y433) : Nat) : Int)))))))
noncomputable def g_math_bits_Len64 (a0 : Int) : Option (Int) := t_math_bits_Len64 some a0
theorem nat_math_bits_Len64 {R : Type} (kx : Int → Option R) (a0 : Int) : t_math_bits_Len64 kx a0 = (g_math_bits_Len64 a0).bind kx := by
  unfold g_math_bits_Len64 t_math_bits_Len64
  exact nat_cond (nat_cond (nat_cond (nat_bind fun _ => rfl) (nat_bind fun _ => rfl)) (nat_cond (nat_bind fun _ => rfl) (nat_bind fun _ => rfl))) (nat_cond (nat_cond (nat_bind fun _ => rfl) (nat_bind fun _ => rfl)) (nat_cond (nat_bind fun _ => rfl) (nat_bind fun _ => rfl)))
abbrev as_math_bits_Len64 : List AX := [.val false (.int .u64)]
abbrev en_math_bits_Len64 : Int → AV × List CV := fun b => (.one ⟨false, [(.v (.int .i64 b))]⟩, [])
noncomputable abbrev k_math_bits_Len64 : Contract := .fx as_math_bits_Len64 (Int) (fun z => g_math_bits_Len64 z.1) en_math_bits_Len64
theorem r_math_bits_Len64 (z : argsX as_math_bits_Len64) : runF (tab C0 T_math_bits_Len64) noHints 1 Tryd.f146 (lentOf as_math_bits_Len64) (xBoxes as_math_bits_Len64 z) (xVals as_math_bits_Len64 0 z) K2 = t_math_bits_Len64 (fun b => some (en_math_bits_Len64 b)) z.1 := by kernel_rfl
theorem so_math_bits_Len64 : Sound C0 146 k_math_bits_Len64 :=
  Sound.fx a_math_bits_Len64 mixed Tryd.func146 (by kernel_rfl) (by kernel_rfl) noHints 1 noHints_ok (fun z => (r_math_bits_Len64 z).trans (nat_math_bits_Len64 _ z.1))

/-! ### F130 math/bits.Len -/
noncomputable def T_math_bits_Len : List (FuncId × Contract) := [(146, k_math_bits_Len64)]
theorem a_math_bits_Len : AllSound C0 T_math_bits_Len := .cons so_math_bits_Len64 (.nil)
noncomputable def t_math_bits_Len {R : Type} (kx : Int → Option R) (a0 : Int) : Option R :=
  Option.bind (g_math_bits_Len64 a0) fun y434 =>
  kx y434
noncomputable def g_math_bits_Len (a0 : Int) : Option (Int) := t_math_bits_Len some a0
theorem nat_math_bits_Len {R : Type} (kx : Int → Option R) (a0 : Int) : t_math_bits_Len kx a0 = (g_math_bits_Len a0).bind kx := by
  unfold g_math_bits_Len t_math_bits_Len
  exact nat_bind fun _ => rfl
abbrev as_math_bits_Len : List AX := [.val false (.int .u64)]
abbrev en_math_bits_Len : Int → AV × List CV := fun b => (.one ⟨false, [(.v (.int .i64 b))]⟩, [])
noncomputable abbrev k_math_bits_Len : Contract := .fx as_math_bits_Len (Int) (fun z => g_math_bits_Len z.1) en_math_bits_Len
theorem r_math_bits_Len (z : argsX as_math_bits_Len) : runF (tab C0 T_math_bits_Len) noHints 1 Tryd.f130 (lentOf as_math_bits_Len) (xBoxes as_math_bits_Len z) (xVals as_math_bits_Len 0 z) K2 = t_math_bits_Len (fun b => some (en_math_bits_Len b)) z.1 := by kernel_rfl
theorem so_math_bits_Len : Sound C0 130 k_math_bits_Len :=
  Sound.fx a_math_bits_Len mixed Tryd.func130 (by kernel_rfl) (by kernel_rfl) noHints 1 noHints_ok (fun z => (r_math_bits_Len z).trans (nat_math_bits_Len _ z.1))

/-! ### F131 cmp.isNaN[int64] -/
noncomputable def T_cmp_isNaN_int64 : List (FuncId × Contract) := []
theorem a_cmp_isNaN_int64 : AllSound C0 T_cmp_isNaN_int64 := .nil
noncomputable def t_cmp_isNaN_int64 {R : Type} (kx : Bool → Option R) (a0 : Int) : Option R :=
  kx (a0 != a0)
noncomputable def g_cmp_isNaN_int64 (a0 : Int) : Option (Bool) := t_cmp_isNaN_int64 some a0
theorem nat_cmp_isNaN_int64 {R : Type} (kx : Bool → Option R) (a0 : Int) : t_cmp_isNaN_int64 kx a0 = (g_cmp_isNaN_int64 a0).bind kx := by
  unfold g_cmp_isNaN_int64 t_cmp_isNaN_int64
  exact rfl
abbrev as_cmp_isNaN_int64 : List AX := [.val false (.int .i64)]
abbrev en_cmp_isNaN_int64 : Bool → AV × List CV := fun b => (.one ⟨false, [(.v (.bool b))]⟩, [])
noncomputable abbrev k_cmp_isNaN_int64 : Contract := .fx as_cmp_isNaN_int64 (Bool) (fun z => g_cmp_isNaN_int64 z.1) en_cmp_isNaN_int64
theorem r_cmp_isNaN_int64 (z : argsX as_cmp_isNaN_int64) : runF (tab C0 T_cmp_isNaN_int64) noHints 1 Tryd.f131 (lentOf as_cmp_isNaN_int64) (xBoxes as_cmp_isNaN_int64 z) (xVals as_cmp_isNaN_int64 0 z) K2 = t_cmp_isNaN_int64 (fun b => some (en_cmp_isNaN_int64 b)) z.1 := by kernel_rfl
theorem so_cmp_isNaN_int64 : Sound C0 131 k_cmp_isNaN_int64 :=
  Sound.fx a_cmp_isNaN_int64 mixed Tryd.func131 (by kernel_rfl) (by kernel_rfl) noHints 1 noHints_ok (fun z => (r_cmp_isNaN_int64 z).trans (nat_cmp_isNaN_int64 _ z.1))

/-! ### F105 cmp.Compare[int64] -/
noncomputable def T_cmp_Compare_int64 : List (FuncId × Contract) := [(131, k_cmp_isNaN_int64)]
theorem a_cmp_Compare_int64 : AllSound C0 T_cmp_Compare_int64 := .cons so_cmp_isNaN_int64 (.nil)
noncomputable def t_cmp_Compare_int64 {R : Type} (kx : Int → Option R) (a0 : Int) (a1 : Int) : Option R :=
  Option.bind (g_cmp_isNaN_int64 a0) fun y468 =>
  Option.bind (g_cmp_isNaN_int64 a1) fun y469 =>
  cond y468
  (cond y469
   (kx (0 : Int))
   (kx (-(1 : Int))))
  (cond y469
   (kx (1 : Int))
   (cond (decide (a0 < a1))
    (kx (-(1 : Int)))
    (cond (decide (a0 > a1))
     (kx (1 : Int))
     (kx (0 : Int)))))
noncomputable def g_cmp_Compare_int64 (a0 : Int) (a1 : Int) : Option (Int) := t_cmp_Compare_int64 some a0 a1
theorem nat_cmp_Compare_int64 {R : Type} (kx : Int → Option R) (a0 : Int) (a1 : Int) : t_cmp_Compare_int64 kx a0 a1 = (g_cmp_Compare_int64 a0 a1).bind kx := by
  unfold g_cmp_Compare_int64 t_cmp_Compare_int64
  exact nat_bind fun _ => nat_bind fun _ => nat_cond (nat_cond (rfl) (rfl)) (nat_cond (rfl) (nat_cond (rfl) (nat_cond (rfl) (rfl))))
abbrev as_cmp_Compare_int64 : List AX := [.val false (.int .i64), .val false (.int .i64)]
abbrev en_cmp_Compare_int64 : Int → AV × List CV := fun b => (.one ⟨false, [(.v (.int .i64 b))]⟩, [])
noncomputable abbrev k_cmp_Compare_int64 : Contract := .fx as_cmp_Compare_int64 (Int) (fun z => g_cmp_Compare_int64 z.1 z.2.1) en_cmp_Compare_int64
theorem r_cmp_Compare_int64 (z : argsX as_cmp_Compare_int64) : runF (tab C0 T_cmp_Compare_int64) noHints 1 Tryd.f105 (lentOf as_cmp_Compare_int64) (xBoxes as_cmp_Compare_int64 z) (xVals as_cmp_Compare_int64 0 z) K2 = t_cmp_Compare_int64 (fun b => some (en_cmp_Compare_int64 b)) z.1 z.2.1 := by kernel_rfl
theorem so_cmp_Compare_int64 : Sound C0 105 k_cmp_Compare_int64 :=
  Sound.fx a_cmp_Compare_int64 mixed Tryd.func105 (by kernel_rfl) (by kernel_rfl) noHints 1 noHints_ok (fun z => (r_cmp_Compare_int64 z).trans (nat_cmp_Compare_int64 _ z.1 z.2.1))

/-! ### F106 (impl.Num).compare -/
noncomputable def T_impl_Num_compare : List (FuncId × Contract) := [(97, k_impl_Num_minus), (111, k_impl_Num_sign)]
theorem a_impl_Num_compare : AllSound C0 T_impl_Num_compare := .cons so_impl_Num_minus (.cons so_impl_Num_sign (.nil))
noncomputable def t_impl_Num_compare {R : Type} (kx : Int → Option R) (a0 : (Int × (Int × Int))) (a1 : (Int × (Int × Int))) : Option R :=
  Option.bind (g_impl_Num_minus a0 a1) fun y473 =>
  Option.bind (g_impl_Num_sign y473) fun y474 =>
  kx y474
noncomputable def g_impl_Num_compare (a0 : (Int × (Int × Int))) (a1 : (Int × (Int × Int))) : Option (Int) := t_impl_Num_compare some a0 a1
theorem nat_impl_Num_compare {R : Type} (kx : Int → Option R) (a0 : (Int × (Int × Int))) (a1 : (Int × (Int × Int))) : t_impl_Num_compare kx a0 a1 = (g_impl_Num_compare a0 a1).bind kx := by
  unfold g_impl_Num_compare t_impl_Num_compare
  exact nat_bind fun _ => nat_bind fun _ => rfl
abbrev as_impl_Num_compare : List AX := [.val true (.pair (.int .i64) (.pair (.int .i64) (.int .i64))), .val true (.pair (.int .i64) (.pair (.int .i64) (.int .i64)))]
abbrev en_impl_Num_compare : Int → AV × List CV := fun b => (.one ⟨false, [(.v (.int .i64 b))]⟩, [])
noncomputable abbrev k_impl_Num_compare : Contract := .fx as_impl_Num_compare (Int) (fun z => g_impl_Num_compare z.1 z.2.1) en_impl_Num_compare
theorem r_impl_Num_compare (z : argsX as_impl_Num_compare) : runF (tab C0 T_impl_Num_compare) noHints 1 Tryd.f106 (lentOf as_impl_Num_compare) (xBoxes as_impl_Num_compare z) (xVals as_impl_Num_compare 0 z) K2 = t_impl_Num_compare (fun b => some (en_impl_Num_compare b)) z.1 z.2.1 := by kernel_rfl
theorem so_impl_Num_compare : Sound C0 106 k_impl_Num_compare :=
  Sound.fx a_impl_Num_compare mixed Tryd.func106 (by kernel_rfl) (by kernel_rfl) noHints 1 noHints_ok (fun z => (r_impl_Num_compare z).trans (nat_impl_Num_compare _ z.1 z.2.1))

/-! ### F104 cmp.Or[int] -/
noncomputable def T_cmp_Or_int : List (FuncId × Contract) := []
theorem a_cmp_Or_int : AllSound C0 T_cmp_Or_int := .nil
abbrev s_cmp_Or_int_4 : LS := ⟨[(false, [(.int .i64)]), (false, [(.sl (.int .i64))]), (false, [(.int .i64)]), (false, [(.int .i64)])], [], []⟩
abbrev e_cmp_Or_int_4_0 : LS := ⟨[(false, [(.int .i64)]), (false, [(.int .i64)])], [], []⟩
abbrev d_cmp_Or_int_4_0 (v0 : Int) (v1 : Int) : e_cmp_Or_int_4_0.T := (((v0, ()), (v1, ()), ()), (), ())
abbrev e_cmp_Or_int_4_1 : LS := ⟨[(false, [.undef]), (false, [(.int .i64)])], [], []⟩
abbrev d_cmp_Or_int_4_1 (v0 : Int) : e_cmp_Or_int_4_1.T := ((((), ()), (v0, ()), ()), (), ())
abbrev x_cmp_Or_int_4 : List (Ex × LS) := [(.ret, e_cmp_Or_int_4_0), (.exit 0, e_cmp_Or_int_4_1)]
abbrev m_cmp_Or_int_4 (x3 : Int) (x6 : List Int) (x7 : Int) (x8 : Int) : s_cmp_Or_int_4.T := (((x3, ()), (x6, ()), (x7, ()), (x8, ()), ()), (), ())
noncomputable def u_cmp_Or_int_4 {R : Type} (nx : s_cmp_Or_int_4.T → Option R) (hx : exH R x_cmp_Or_int_4) (x3 : Int) (x6 : List Int) (x7 : Int) (x8 : Int) : Option R :=
  cond (decide (x8 < x7))
  (Option.bind (idx x6 x8) fun y481 =>
   cond (y481 != x3)
   (hx.1 (d_cmp_Or_int_4_0 y481 x3))
   (nx (m_cmp_Or_int_4 x3 x6 x7 (IntKind.wrap IntKind.i64 (x8 + (1 : Int))))))
  (hx.2.1 (d_cmp_Or_int_4_1 x3))
noncomputable def t_cmp_Or_int_4 {R : Type} (nx : s_cmp_Or_int_4.T → Option R) (hx : exH R x_cmp_Or_int_4) (z : s_cmp_Or_int_4.T) : Option R := u_cmp_Or_int_4 nx hx z.1.1.1 z.1.2.1.1 z.1.2.2.1.1 z.1.2.2.2.1.1
theorem nat_cmp_Or_int_4 : Natural @t_cmp_Or_int_4 := fun R nx hx z => by
  show u_cmp_Or_int_4 nx hx z.1.1.1 z.1.2.1.1 z.1.2.2.1.1 z.1.2.2.2.1.1 = (u_cmp_Or_int_4 (fun y => some (.inl y)) (hIn x_cmp_Or_int_4 fun x => some (.inr x)) z.1.1.1 z.1.2.1.1 z.1.2.2.1.1 z.1.2.2.2.1.1).bind (goOn nx hx)
  unfold u_cmp_Or_int_4
  exact nat_cond (nat_bind fun _ => nat_cond (rfl) (rfl)) (rfl)
noncomputable def w_cmp_Or_int_4 : s_cmp_Or_int_4.T → Option (exT x_cmp_Or_int_4) := wOf @t_cmp_Or_int_4
theorem wq_cmp_Or_int_4 (x3 : Int) (x6 : List Int) (x7 : Int) (x8 : Int) : w_cmp_Or_int_4 (m_cmp_Or_int_4 x3 x6 x7 x8) = u_cmp_Or_int_4 w_cmp_Or_int_4 (hIn x_cmp_Or_int_4 some) x3 x6 x7 x8 := wOf_eq nat_cmp_Or_int_4 _
def lh_cmp_Or_int_4 : LoopHint := ⟨[3, 6, 7, 8], [], [2, 3], []⟩
noncomputable def h_cmp_Or_int : Hints Rv := ⟨fun k => match k with | 4 => lh_cmp_Or_int_4 | _ => ⟨[], [], [], []⟩, fun k => match k with | 4 => some (loopX s_cmp_Or_int_4 x_cmp_Or_int_4 w_cmp_Or_int_4) | _ => none⟩
theorem st_cmp_Or_int_4 (n : Nat) (z : s_cmp_Or_int_4.T) (k : Ex → Live → Option Rv) : loopN ⟨18, 18⟩ lh_cmp_Or_int_4 (den (tab C0 T_cmp_Or_int) ⟨18, 18⟩ h_cmp_Or_int 1 (loopOf Tryd.f104 3)) (n + 1) (s_cmp_Or_int_4.enc z) k =
    t_cmp_Or_int_4 (fun y => loopN ⟨18, 18⟩ lh_cmp_Or_int_4 (den (tab C0 T_cmp_Or_int) ⟨18, 18⟩ h_cmp_Or_int 1 (loopOf Tryd.f104 3)) n (s_cmp_Or_int_4.enc y) k) (hK k x_cmp_Or_int_4) z := by kernel_rfl
theorem hs_cmp_Or_int : HintsOk (tab C0 T_cmp_Or_int) ⟨18, 18⟩ h_cmp_Or_int 1 (loops (codeOf Tryd.f104)) := by
  have hl : loops (codeOf Tryd.f104) = [loopOf Tryd.f104 3] := by kernel_rfl
  rw [hl]
  exact HintsOk.cons (n := 4) (lh := lh_cmp_Or_int_4) (S := loopX s_cmp_Or_int_4 x_cmp_Or_int_4 w_cmp_Or_int_4) (by kernel_rfl) rfl rfl (loopX_ok nat_cmp_Or_int_4 st_cmp_Or_int_4)
    (HintsOk.nil)
noncomputable def t_cmp_Or_int {R : Type} (kx : Int → Option R) (a0 : (List Int)) : Option R :=
  Option.bind (w_cmp_Or_int_4 (m_cmp_Or_int_4 (0 : Int) a0 (((List.length a0) : Nat) : Int) (0 : Int))) (exC x_cmp_Or_int_4
  (fun e482 =>
   kx (e482.1.1.1 : Int), fun e485 =>
   kx (e485.1.2.1.1 : Int), ()))
noncomputable def g_cmp_Or_int (a0 : (List Int)) : Option (Int) := t_cmp_Or_int some a0
theorem nat_cmp_Or_int {R : Type} (kx : Int → Option R) (a0 : (List Int)) : t_cmp_Or_int kx a0 = (g_cmp_Or_int a0).bind kx := by
  unfold g_cmp_Or_int t_cmp_Or_int
  exact nat_exC ⟨fun _ => rfl, fun _ => rfl, trivial⟩
abbrev as_cmp_Or_int : List AX := [.val false (.slice (.int .i64))]
abbrev en_cmp_Or_int : Int → AV × List CV := fun b => (.one ⟨false, [(.v (.int .i64 b))]⟩, [])
noncomputable abbrev k_cmp_Or_int : Contract := .fx as_cmp_Or_int (Int) (fun z => g_cmp_Or_int z.1) en_cmp_Or_int
theorem r_cmp_Or_int (z : argsX as_cmp_Or_int) : runF (tab C0 T_cmp_Or_int) h_cmp_Or_int 1 Tryd.f104 (lentOf as_cmp_Or_int) (xBoxes as_cmp_Or_int z) (xVals as_cmp_Or_int 0 z) K2 = t_cmp_Or_int (fun b => some (en_cmp_Or_int b)) z.1 := by kernel_rfl
theorem so_cmp_Or_int : Sound C0 104 k_cmp_Or_int :=
  Sound.fx a_cmp_Or_int mixed Tryd.func104 (by kernel_rfl) (by kernel_rfl) h_cmp_Or_int 1 hs_cmp_Or_int (fun z => (r_cmp_Or_int z).trans (nat_cmp_Or_int _ z.1))

/-! ### F103 impl.lineResults$2 -/
noncomputable def T_impl_lineResults_2 : List (FuncId × Contract) := [(105, k_cmp_Compare_int64), (106, k_impl_Num_compare), (104, k_cmp_Or_int)]
theorem a_impl_lineResults_2 : AllSound C0 T_impl_lineResults_2 := .cons so_cmp_Compare_int64 (.cons so_impl_Num_compare (.cons so_cmp_Or_int (.nil)))
noncomputable def t_impl_lineResults_2 {R : Type} (kx : Int → Option R) (a0 : (Int × (Int × (Int × Int)))) (a1 : (Int × (Int × (Int × Int)))) : Option R :=
  Option.bind (g_cmp_Compare_int64 a0.1 a1.1) fun y470 =>
  Option.bind (g_impl_Num_compare a0.2 a1.2) fun y475 =>
  Option.bind (g_cmp_Or_int [y470, y475]) fun y487 =>
  kx y487
noncomputable def g_impl_lineResults_2 (a0 : (Int × (Int × (Int × Int)))) (a1 : (Int × (Int × (Int × Int)))) : Option (Int) := t_impl_lineResults_2 some a0 a1
theorem nat_impl_lineResults_2 {R : Type} (kx : Int → Option R) (a0 : (Int × (Int × (Int × Int)))) (a1 : (Int × (Int × (Int × Int)))) : t_impl_lineResults_2 kx a0 a1 = (g_impl_lineResults_2 a0 a1).bind kx := by
  unfold g_impl_lineResults_2 t_impl_lineResults_2
  exact nat_bind fun _ => nat_bind fun _ => nat_bind fun _ => rfl
abbrev as_impl_lineResults_2 : List AX := [.val true (.pair (.int .i64) (.pair (.int .i64) (.pair (.int .i64) (.int .i64)))), .val true (.pair (.int .i64) (.pair (.int .i64) (.pair (.int .i64) (.int .i64))))]
abbrev en_impl_lineResults_2 : Int → AV × List CV := fun b => (.one ⟨false, [(.v (.int .i64 b))]⟩, [])
noncomputable abbrev k_impl_lineResults_2 : Contract := .fx as_impl_lineResults_2 (Int) (fun z => g_impl_lineResults_2 z.1 z.2.1) en_impl_lineResults_2
theorem r_impl_lineResults_2 (z : argsX as_impl_lineResults_2) : runF (tab C0 T_impl_lineResults_2) noHints 1 Tryd.f103 (lentOf as_impl_lineResults_2) (xBoxes as_impl_lineResults_2 z) (xVals as_impl_lineResults_2 0 z) K2 = t_impl_lineResults_2 (fun b => some (en_impl_lineResults_2 b)) z.1 z.2.1 := by kernel_rfl
theorem so_impl_lineResults_2 : Sound C0 103 k_impl_lineResults_2 :=
  Sound.fx a_impl_lineResults_2 mixed Tryd.func103 (by kernel_rfl) (by kernel_rfl) noHints 1 noHints_ok (fun z => (r_impl_lineResults_2 z).trans (nat_impl_lineResults_2 _ z.1 z.2.1))

/-! ### F137 slices.insertionSortCmpFunc[impl.Line] -/
noncomputable def T_slices_insertionSortCmpFunc_impl_Line__impl_lineResults_2 : List (FuncId × Contract) := [(103, k_impl_lineResults_2)]
theorem a_slices_insertionSortCmpFunc_impl_Line__impl_lineResults_2 : AllSound C0 T_slices_insertionSortCmpFunc_impl_Line__impl_lineResults_2 := .cons so_impl_lineResults_2 (.nil)
abbrev s_slices_insertionSortCmpFunc_impl_Line__impl_lineResults_2_5 : LS := ⟨[(false, [(.view (.arg 0) true 0 (.pair (.int .i64) (.pair (.int .i64) (.pair (.int .i64) (.int .i64)))))]), (false, [(.int .i64)]), (false, [(.int .i64)]), (false, [(.fn 103 [])]), (false, [(.int .i64)]), (false, [(.int .i64)])], [], [(.own (.pair (.int .i64) (.pair (.int .i64) (.pair (.int .i64) (.int .i64)))))]⟩
abbrev e_slices_insertionSortCmpFunc_impl_Line__impl_lineResults_2_5_0 : LS := ⟨[(false, [(.view (.arg 0) true 0 (.pair (.int .i64) (.pair (.int .i64) (.pair (.int .i64) (.int .i64)))))]), (false, [(.int .i64)]), (false, [(.int .i64)]), (false, [(.fn 103 [])]), (false, [(.int .i64)])], [], [(.own (.pair (.int .i64) (.pair (.int .i64) (.pair (.int .i64) (.int .i64)))))]⟩
abbrev d_slices_insertionSortCmpFunc_impl_Line__impl_lineResults_2_5_0 (v0 : List (Int × (Int × (Int × Int)))) (v1 : Int) (v2 : Int) (v3 : Int) (v4 : List (Int × (Int × (Int × Int)))) : e_slices_insertionSortCmpFunc_impl_Line__impl_lineResults_2_5_0.T := (((v0, ()), (v1, ()), (v2, ()), ((), ()), (v3, ()), ()), (), (v4, ()))
abbrev x_slices_insertionSortCmpFunc_impl_Line__impl_lineResults_2_5 : List (Ex × LS) := [(.exit 2, e_slices_insertionSortCmpFunc_impl_Line__impl_lineResults_2_5_0)]
abbrev m_slices_insertionSortCmpFunc_impl_Line__impl_lineResults_2_5 (x0 : List (Int × (Int × (Int × Int)))) (x1 : Int) (x2 : Int) (x8 : Int) (x9 : Int) (o : List (Int × (Int × (Int × Int)))) : s_slices_insertionSortCmpFunc_impl_Line__impl_lineResults_2_5.T := (((x0, ()), (x1, ()), (x2, ()), ((), ()), (x8, ()), (x9, ()), ()), (), (o, ()))
noncomputable def u_slices_insertionSortCmpFunc_impl_Line__impl_lineResults_2_5 {R : Type} (nx : s_slices_insertionSortCmpFunc_impl_Line__impl_lineResults_2_5.T → Option R) (hx : exH R x_slices_insertionSortCmpFunc_impl_Line__impl_lineResults_2_5) (x0 : List (Int × (Int × (Int × Int)))) (x1 : Int) (x2 : Int) (x8 : Int) (x9 : Int) (o : List (Int × (Int × (Int × Int)))) : Option R :=
  cond (decide (x9 > x1))
  (Option.bind (idx x0 x9) fun y461 =>
   Option.bind (idx x0 (IntKind.wrap IntKind.i64 (x9 - (1 : Int)))) fun y462 =>
   Option.bind (g_impl_lineResults_2 y461 y462) fun y488 =>
   cond (decide (y488 < (0 : Int)))
   (Option.bind (idx x0 (IntKind.wrap IntKind.i64 (x9 - (1 : Int)))) fun y489 =>
    Option.bind (idx x0 x9) fun y490 =>
    Option.bind (idx x0 x9) fun _ =>
    Option.bind (idx (List.set x0 (0 + (Int.toNat x9)) y489) (IntKind.wrap IntKind.i64 (x9 - (1 : Int)))) fun _ =>
    nx (m_slices_insertionSortCmpFunc_impl_Line__impl_lineResults_2_5 (List.set (List.set x0 (0 + (Int.toNat x9)) y489) (0 + (Int.toNat (IntKind.wrap IntKind.i64 (x9 - (1 : Int))))) y490) x1 x2 x8 (IntKind.wrap IntKind.i64 (x9 - (1 : Int))) (List.set (List.set o (0 + (Int.toNat x9)) y489) (0 + (Int.toNat (IntKind.wrap IntKind.i64 (x9 - (1 : Int))))) y490)))
   (hx.1 (d_slices_insertionSortCmpFunc_impl_Line__impl_lineResults_2_5_0 x0 x1 x2 x8 o)))
  (hx.1 (d_slices_insertionSortCmpFunc_impl_Line__impl_lineResults_2_5_0 x0 x1 x2 x8 o))
noncomputable def t_slices_insertionSortCmpFunc_impl_Line__impl_lineResults_2_5 {R : Type} (nx : s_slices_insertionSortCmpFunc_impl_Line__impl_lineResults_2_5.T → Option R) (hx : exH R x_slices_insertionSortCmpFunc_impl_Line__impl_lineResults_2_5) (z : s_slices_insertionSortCmpFunc_impl_Line__impl_lineResults_2_5.T) : Option R := u_slices_insertionSortCmpFunc_impl_Line__impl_lineResults_2_5 nx hx z.1.1.1 z.1.2.1.1 z.1.2.2.1.1 z.1.2.2.2.2.1.1 z.1.2.2.2.2.2.1.1 z.2.2.1
theorem nat_slices_insertionSortCmpFunc_impl_Line__impl_lineResults_2_5 : Natural @t_slices_insertionSortCmpFunc_impl_Line__impl_lineResults_2_5 := fun R nx hx z => by
  show u_slices_insertionSortCmpFunc_impl_Line__impl_lineResults_2_5 nx hx z.1.1.1 z.1.2.1.1 z.1.2.2.1.1 z.1.2.2.2.2.1.1 z.1.2.2.2.2.2.1.1 z.2.2.1 = (u_slices_insertionSortCmpFunc_impl_Line__impl_lineResults_2_5 (fun y => some (.inl y)) (hIn x_slices_insertionSortCmpFunc_impl_Line__impl_lineResults_2_5 fun x => some (.inr x)) z.1.1.1 z.1.2.1.1 z.1.2.2.1.1 z.1.2.2.2.2.1.1 z.1.2.2.2.2.2.1.1 z.2.2.1).bind (goOn nx hx)
  unfold u_slices_insertionSortCmpFunc_impl_Line__impl_lineResults_2_5
  exact nat_cond (nat_bind fun _ => nat_bind fun _ => nat_bind fun _ => nat_cond (nat_bind fun _ => nat_bind fun _ => nat_bind fun _ => nat_bind fun _ => rfl) (rfl)) (rfl)
noncomputable def w_slices_insertionSortCmpFunc_impl_Line__impl_lineResults_2_5 : s_slices_insertionSortCmpFunc_impl_Line__impl_lineResults_2_5.T → Option (exT x_slices_insertionSortCmpFunc_impl_Line__impl_lineResults_2_5) := wOf @t_slices_insertionSortCmpFunc_impl_Line__impl_lineResults_2_5
theorem wq_slices_insertionSortCmpFunc_impl_Line__impl_lineResults_2_5 (x0 : List (Int × (Int × (Int × Int)))) (x1 : Int) (x2 : Int) (x8 : Int) (x9 : Int) (o : List (Int × (Int × (Int × Int)))) : w_slices_insertionSortCmpFunc_impl_Line__impl_lineResults_2_5 (m_slices_insertionSortCmpFunc_impl_Line__impl_lineResults_2_5 x0 x1 x2 x8 x9 o) = u_slices_insertionSortCmpFunc_impl_Line__impl_lineResults_2_5 w_slices_insertionSortCmpFunc_impl_Line__impl_lineResults_2_5 (hIn x_slices_insertionSortCmpFunc_impl_Line__impl_lineResults_2_5 some) x0 x1 x2 x8 x9 o := wOf_eq nat_slices_insertionSortCmpFunc_impl_Line__impl_lineResults_2_5 _
def lh_slices_insertionSortCmpFunc_impl_Line__impl_lineResults_2_5 : LoopHint := ⟨[0, 1, 2, 3, 8, 9], [], [0, 1, 2, 3, 8], []⟩
abbrev s_slices_insertionSortCmpFunc_impl_Line__impl_lineResults_2_2 : LS := ⟨[(false, [(.view (.arg 0) true 0 (.pair (.int .i64) (.pair (.int .i64) (.pair (.int .i64) (.int .i64)))))]), (false, [(.int .i64)]), (false, [(.int .i64)]), (false, [(.fn 103 [])]), (false, [(.int .i64)])], [], [(.own (.pair (.int .i64) (.pair (.int .i64) (.pair (.int .i64) (.int .i64)))))]⟩
abbrev e_slices_insertionSortCmpFunc_impl_Line__impl_lineResults_2_2_0 : LS := ⟨[], [], [(.own (.pair (.int .i64) (.pair (.int .i64) (.pair (.int .i64) (.int .i64)))))]⟩
abbrev d_slices_insertionSortCmpFunc_impl_Line__impl_lineResults_2_2_0 (v0 : List (Int × (Int × (Int × Int)))) : e_slices_insertionSortCmpFunc_impl_Line__impl_lineResults_2_2_0.T := ((), (), (v0, ()))
abbrev x_slices_insertionSortCmpFunc_impl_Line__impl_lineResults_2_2 : List (Ex × LS) := [(.exit 0, e_slices_insertionSortCmpFunc_impl_Line__impl_lineResults_2_2_0)]
abbrev m_slices_insertionSortCmpFunc_impl_Line__impl_lineResults_2_2 (x0 : List (Int × (Int × (Int × Int)))) (x1 : Int) (x2 : Int) (x8 : Int) (o : List (Int × (Int × (Int × Int)))) : s_slices_insertionSortCmpFunc_impl_Line__impl_lineResults_2_2.T := (((x0, ()), (x1, ()), (x2, ()), ((), ()), (x8, ()), ()), (), (o, ()))
noncomputable def u_slices_insertionSortCmpFunc_impl_Line__impl_lineResults_2_2 {R : Type} (nx : s_slices_insertionSortCmpFunc_impl_Line__impl_lineResults_2_2.T → Option R) (hx : exH R x_slices_insertionSortCmpFunc_impl_Line__impl_lineResults_2_2) (x0 : List (Int × (Int × (Int × Int)))) (x1 : Int) (x2 : Int) (x8 : Int) (o : List (Int × (Int × (Int × Int)))) : Option R :=
  cond (decide (x8 < x2))
  (Option.bind (w_slices_insertionSortCmpFunc_impl_Line__impl_lineResults_2_5 (m_slices_insertionSortCmpFunc_impl_Line__impl_lineResults_2_5 x0 x1 x2 x8 x8 o)) (exC x_slices_insertionSortCmpFunc_impl_Line__impl_lineResults_2_5
   (fun e493 =>
    nx (m_slices_insertionSortCmpFunc_impl_Line__impl_lineResults_2_2 (e493.1.1.1 : List (Int × (Int × (Int × Int)))) (e493.1.2.1.1 : Int) (e493.1.2.2.1.1 : Int) (IntKind.wrap IntKind.i64 ((e493.1.2.2.2.2.1.1 : Int) + (1 : Int))) (e493.2.2.1 : List (Int × (Int × (Int × Int))))), ())))
  (hx.1 (d_slices_insertionSortCmpFunc_impl_Line__impl_lineResults_2_2_0 o))
noncomputable def t_slices_insertionSortCmpFunc_impl_Line__impl_lineResults_2_2 {R : Type} (nx : s_slices_insertionSortCmpFunc_impl_Line__impl_lineResults_2_2.T → Option R) (hx : exH R x_slices_insertionSortCmpFunc_impl_Line__impl_lineResults_2_2) (z : s_slices_insertionSortCmpFunc_impl_Line__impl_lineResults_2_2.T) : Option R := u_slices_insertionSortCmpFunc_impl_Line__impl_lineResults_2_2 nx hx z.1.1.1 z.1.2.1.1 z.1.2.2.1.1 z.1.2.2.2.2.1.1 z.2.2.1
theorem nat_slices_insertionSortCmpFunc_impl_Line__impl_lineResults_2_2 : Natural @t_slices_insertionSortCmpFunc_impl_Line__impl_lineResults_2_2 := fun R nx hx z => by
  show u_slices_insertionSortCmpFunc_impl_Line__impl_lineResults_2_2 nx hx z.1.1.1 z.1.2.1.1 z.1.2.2.1.1 z.1.2.2.2.2.1.1 z.2.2.1 = (u_slices_insertionSortCmpFunc_impl_Line__impl_lineResults_2_2 (fun y => some (.inl y)) (hIn x_slices_insertionSortCmpFunc_impl_Line__impl_lineResults_2_2 fun x => some (.inr x)) z.1.1.1 z.1.2.1.1 z.1.2.2.1.1 z.1.2.2.2.2.1.1 z.2.2.1).bind (goOn nx hx)
  unfold u_slices_insertionSortCmpFunc_impl_Line__impl_lineResults_2_2
  exact nat_cond (nat_exC ⟨fun _ => rfl, trivial⟩) (rfl)
noncomputable def w_slices_insertionSortCmpFunc_impl_Line__impl_lineResults_2_2 : s_slices_insertionSortCmpFunc_impl_Line__impl_lineResults_2_2.T → Option (exT x_slices_insertionSortCmpFunc_impl_Line__impl_lineResults_2_2) := wOf @t_slices_insertionSortCmpFunc_impl_Line__impl_lineResults_2_2
theorem wq_slices_insertionSortCmpFunc_impl_Line__impl_lineResults_2_2 (x0 : List (Int × (Int × (Int × Int)))) (x1 : Int) (x2 : Int) (x8 : Int) (o : List (Int × (Int × (Int × Int)))) : w_slices_insertionSortCmpFunc_impl_Line__impl_lineResults_2_2 (m_slices_insertionSortCmpFunc_impl_Line__impl_lineResults_2_2 x0 x1 x2 x8 o) = u_slices_insertionSortCmpFunc_impl_Line__impl_lineResults_2_2 w_slices_insertionSortCmpFunc_impl_Line__impl_lineResults_2_2 (hIn x_slices_insertionSortCmpFunc_impl_Line__impl_lineResults_2_2 some) x0 x1 x2 x8 o := wOf_eq nat_slices_insertionSortCmpFunc_impl_Line__impl_lineResults_2_2 _
def lh_slices_insertionSortCmpFunc_impl_Line__impl_lineResults_2_2 : LoopHint := ⟨[0, 1, 2, 3, 8], [], [], []⟩
noncomputable def h_slices_insertionSortCmpFunc_impl_Line__impl_lineResults_2 : Hints Rv := ⟨fun k => match k with | 5 => lh_slices_insertionSortCmpFunc_impl_Line__impl_lineResults_2_5 | 2 => lh_slices_insertionSortCmpFunc_impl_Line__impl_lineResults_2_2 | _ => ⟨[], [], [], []⟩, fun k => match k with | 5 => some (loopX s_slices_insertionSortCmpFunc_impl_Line__impl_lineResults_2_5 x_slices_insertionSortCmpFunc_impl_Line__impl_lineResults_2_5 w_slices_insertionSortCmpFunc_impl_Line__impl_lineResults_2_5) | 2 => some (loopX s_slices_insertionSortCmpFunc_impl_Line__impl_lineResults_2_2 x_slices_insertionSortCmpFunc_impl_Line__impl_lineResults_2_2 w_slices_insertionSortCmpFunc_impl_Line__impl_lineResults_2_2) | _ => none⟩
theorem st_slices_insertionSortCmpFunc_impl_Line__impl_lineResults_2_5 (n : Nat) (z : s_slices_insertionSortCmpFunc_impl_Line__impl_lineResults_2_5.T) (k : Ex → Live → Option Rv) : loopN ⟨53, 53⟩ lh_slices_insertionSortCmpFunc_impl_Line__impl_lineResults_2_5 (den (tab C0 T_slices_insertionSortCmpFunc_impl_Line__impl_lineResults_2) ⟨53, 53⟩ h_slices_insertionSortCmpFunc_impl_Line__impl_lineResults_2 1 (loopOf Tryd.f137 4)) (n + 1) (s_slices_insertionSortCmpFunc_impl_Line__impl_lineResults_2_5.enc z) k =
    t_slices_insertionSortCmpFunc_impl_Line__impl_lineResults_2_5 (fun y => loopN ⟨53, 53⟩ lh_slices_insertionSortCmpFunc_impl_Line__impl_lineResults_2_5 (den (tab C0 T_slices_insertionSortCmpFunc_impl_Line__impl_lineResults_2) ⟨53, 53⟩ h_slices_insertionSortCmpFunc_impl_Line__impl_lineResults_2 1 (loopOf Tryd.f137 4)) n (s_slices_insertionSortCmpFunc_impl_Line__impl_lineResults_2_5.enc y) k) (hK k x_slices_insertionSortCmpFunc_impl_Line__impl_lineResults_2_5) z := by kernel_rfl
theorem st_slices_insertionSortCmpFunc_impl_Line__impl_lineResults_2_2 (n : Nat) (z : s_slices_insertionSortCmpFunc_impl_Line__impl_lineResults_2_2.T) (k : Ex → Live → Option Rv) : loopN ⟨53, 53⟩ lh_slices_insertionSortCmpFunc_impl_Line__impl_lineResults_2_2 (den (tab C0 T_slices_insertionSortCmpFunc_impl_Line__impl_lineResults_2) ⟨53, 53⟩ h_slices_insertionSortCmpFunc_impl_Line__impl_lineResults_2 1 (loopOf Tryd.f137 1)) (n + 1) (s_slices_insertionSortCmpFunc_impl_Line__impl_lineResults_2_2.enc z) k =
    t_slices_insertionSortCmpFunc_impl_Line__impl_lineResults_2_2 (fun y => loopN ⟨53, 53⟩ lh_slices_insertionSortCmpFunc_impl_Line__impl_lineResults_2_2 (den (tab C0 T_slices_insertionSortCmpFunc_impl_Line__impl_lineResults_2) ⟨53, 53⟩ h_slices_insertionSortCmpFunc_impl_Line__impl_lineResults_2 1 (loopOf Tryd.f137 1)) n (s_slices_insertionSortCmpFunc_impl_Line__impl_lineResults_2_2.enc y) k) (hK k x_slices_insertionSortCmpFunc_impl_Line__impl_lineResults_2_2) z := by kernel_rfl
theorem hs_slices_insertionSortCmpFunc_impl_Line__impl_lineResults_2 : HintsOk (tab C0 T_slices_insertionSortCmpFunc_impl_Line__impl_lineResults_2) ⟨53, 53⟩ h_slices_insertionSortCmpFunc_impl_Line__impl_lineResults_2 1 (loops (codeOf Tryd.f137)) := by
  have hl : loops (codeOf Tryd.f137) = [loopOf Tryd.f137 1, loopOf Tryd.f137 4] := by kernel_rfl
  rw [hl]
  exact HintsOk.cons (n := 2) (lh := lh_slices_insertionSortCmpFunc_impl_Line__impl_lineResults_2_2) (S := loopX s_slices_insertionSortCmpFunc_impl_Line__impl_lineResults_2_2 x_slices_insertionSortCmpFunc_impl_Line__impl_lineResults_2_2 w_slices_insertionSortCmpFunc_impl_Line__impl_lineResults_2_2) (by kernel_rfl) rfl rfl (loopX_ok nat_slices_insertionSortCmpFunc_impl_Line__impl_lineResults_2_2 st_slices_insertionSortCmpFunc_impl_Line__impl_lineResults_2_2)
    (HintsOk.cons (n := 5) (lh := lh_slices_insertionSortCmpFunc_impl_Line__impl_lineResults_2_5) (S := loopX s_slices_insertionSortCmpFunc_impl_Line__impl_lineResults_2_5 x_slices_insertionSortCmpFunc_impl_Line__impl_lineResults_2_5 w_slices_insertionSortCmpFunc_impl_Line__impl_lineResults_2_5) (by kernel_rfl) rfl rfl (loopX_ok nat_slices_insertionSortCmpFunc_impl_Line__impl_lineResults_2_5 st_slices_insertionSortCmpFunc_impl_Line__impl_lineResults_2_5)
    (HintsOk.nil))
noncomputable def t_slices_insertionSortCmpFunc_impl_Line__impl_lineResults_2 {R : Type} (kx : (List (Int × (Int × (Int × Int)))) → Option R) (a0 : List (Int × (Int × (Int × Int)))) (a1 : Int) (a2 : Int) : Option R :=
  Option.bind (w_slices_insertionSortCmpFunc_impl_Line__impl_lineResults_2_2 (m_slices_insertionSortCmpFunc_impl_Line__impl_lineResults_2_2 a0 a1 a2 (IntKind.wrap IntKind.i64 (a1 + (1 : Int))) a0)) (exC x_slices_insertionSortCmpFunc_impl_Line__impl_lineResults_2_2
  (fun e499 =>
   kx (e499.2.2.1 : List (Int × (Int × (Int × Int)))), ()))
noncomputable def g_slices_insertionSortCmpFunc_impl_Line__impl_lineResults_2 (a0 : List (Int × (Int × (Int × Int)))) (a1 : Int) (a2 : Int) : Option ((List (Int × (Int × (Int × Int))))) := t_slices_insertionSortCmpFunc_impl_Line__impl_lineResults_2 some a0 a1 a2
theorem nat_slices_insertionSortCmpFunc_impl_Line__impl_lineResults_2 {R : Type} (kx : (List (Int × (Int × (Int × Int)))) → Option R) (a0 : List (Int × (Int × (Int × Int)))) (a1 : Int) (a2 : Int) : t_slices_insertionSortCmpFunc_impl_Line__impl_lineResults_2 kx a0 a1 a2 = (g_slices_insertionSortCmpFunc_impl_Line__impl_lineResults_2 a0 a1 a2).bind kx := by
  unfold g_slices_insertionSortCmpFunc_impl_Line__impl_lineResults_2 t_slices_insertionSortCmpFunc_impl_Line__impl_lineResults_2
  exact nat_exC ⟨fun _ => rfl, trivial⟩
abbrev as_slices_insertionSortCmpFunc_impl_Line__impl_lineResults_2 : List AX := [.io (.pair (.int .i64) (.pair (.int .i64) (.pair (.int .i64) (.int .i64)))), .val false (.int .i64), .val false (.int .i64), .clo 103 []]
abbrev en_slices_insertionSortCmpFunc_impl_Line__impl_lineResults_2 : (List (Int × (Int × (Int × Int)))) → AV × List CV := fun b => (.tup [], [(.own (.pair (.int .i64) (.pair (.int .i64) (.pair (.int .i64) (.int .i64)))) b)])
noncomputable abbrev k_slices_insertionSortCmpFunc_impl_Line__impl_lineResults_2 : Contract := .fx as_slices_insertionSortCmpFunc_impl_Line__impl_lineResults_2 ((List (Int × (Int × (Int × Int))))) (fun z => g_slices_insertionSortCmpFunc_impl_Line__impl_lineResults_2 z.1 z.2.1 z.2.2.1) en_slices_insertionSortCmpFunc_impl_Line__impl_lineResults_2
theorem r_slices_insertionSortCmpFunc_impl_Line__impl_lineResults_2 (z : argsX as_slices_insertionSortCmpFunc_impl_Line__impl_lineResults_2) : runF (tab C0 T_slices_insertionSortCmpFunc_impl_Line__impl_lineResults_2) h_slices_insertionSortCmpFunc_impl_Line__impl_lineResults_2 1 Tryd.f137 (lentOf as_slices_insertionSortCmpFunc_impl_Line__impl_lineResults_2) (xBoxes as_slices_insertionSortCmpFunc_impl_Line__impl_lineResults_2 z) (xVals as_slices_insertionSortCmpFunc_impl_Line__impl_lineResults_2 0 z) K2 = t_slices_insertionSortCmpFunc_impl_Line__impl_lineResults_2 (fun b => some (en_slices_insertionSortCmpFunc_impl_Line__impl_lineResults_2 b)) z.1 z.2.1 z.2.2.1 := by kernel_rfl
theorem so_slices_insertionSortCmpFunc_impl_Line__impl_lineResults_2 : Sound C0 137 k_slices_insertionSortCmpFunc_impl_Line__impl_lineResults_2 :=
  Sound.fx a_slices_insertionSortCmpFunc_impl_Line__impl_lineResults_2 mixed Tryd.func137 (by kernel_rfl) (by kernel_rfl) h_slices_insertionSortCmpFunc_impl_Line__impl_lineResults_2 1 hs_slices_insertionSortCmpFunc_impl_Line__impl_lineResults_2 (fun z => (r_slices_insertionSortCmpFunc_impl_Line__impl_lineResults_2 z).trans (nat_slices_insertionSortCmpFunc_impl_Line__impl_lineResults_2 _ z.1 z.2.1 z.2.2.1))

/-! ### F129 slices.pdqsortCmpFunc[impl.Line] -/
noncomputable def T_slices_pdqsortCmpFunc_impl_Line__impl_lineResults_2 : List (FuncId × Contract) := [(137, k_slices_insertionSortCmpFunc_impl_Line__impl_lineResults_2)]
theorem a_slices_pdqsortCmpFunc_impl_Line__impl_lineResults_2 : AllSound C0 T_slices_pdqsortCmpFunc_impl_Line__impl_lineResults_2 := .cons so_slices_insertionSortCmpFunc_impl_Line__impl_lineResults_2 (.nil)
abbrev s_slices_pdqsortCmpFunc_impl_Line__impl_lineResults_2_3 : LS := ⟨[(false, [(.view (.arg 0) true 0 (.pair (.int .i64) (.pair (.int .i64) (.pair (.int .i64) (.int .i64)))))]), (false, [(.int .i64)]), (false, [(.int .i64)]), (false, [(.int .i64)]), (false, [(.fn 103 [])]), (false, [.bool]), (false, [.bool])], [], [(.own (.pair (.int .i64) (.pair (.int .i64) (.pair (.int .i64) (.int .i64)))))]⟩
abbrev e_slices_pdqsortCmpFunc_impl_Line__impl_lineResults_2_3_0 : LS := ⟨[], [], [(.own (.pair (.int .i64) (.pair (.int .i64) (.pair (.int .i64) (.int .i64)))))]⟩
abbrev d_slices_pdqsortCmpFunc_impl_Line__impl_lineResults_2_3_0 (v0 : List (Int × (Int × (Int × Int)))) : e_slices_pdqsortCmpFunc_impl_Line__impl_lineResults_2_3_0.T := ((), (), (v0, ()))
abbrev x_slices_pdqsortCmpFunc_impl_Line__impl_lineResults_2_3 : List (Ex × LS) := [(.ret, e_slices_pdqsortCmpFunc_impl_Line__impl_lineResults_2_3_0)]
abbrev m_slices_pdqsortCmpFunc_impl_Line__impl_lineResults_2_3 (x0 : List (Int × (Int × (Int × Int)))) (x1 : Int) (x2 : Int) (x3 : Int) (x10 : Bool) (x11 : Bool) (o : List (Int × (Int × (Int × Int)))) : s_slices_pdqsortCmpFunc_impl_Line__impl_lineResults_2_3.T := (((x0, ()), (x1, ()), (x2, ()), (x3, ()), ((), ()), (x10, ()), (x11, ()), ()), (), (o, ()))
noncomputable def u_slices_pdqsortCmpFunc_impl_Line__impl_lineResults_2_3 {R : Type} (nx : s_slices_pdqsortCmpFunc_impl_Line__impl_lineResults_2_3.T → Option R) (hx : exH R x_slices_pdqsortCmpFunc_impl_Line__impl_lineResults_2_3) (x0 : List (Int × (Int × (Int × Int)))) (x1 : Int) (x2 : Int) (x3 : Int) (x10 : Bool) (x11 : Bool) (o : List (Int × (Int × (Int × Int)))) : Option R :=
  cond (decide ((IntKind.wrap IntKind.i64 (x2 - x1)) ≤ (12 : Int)))
  (cond (decide ((List.length o) = (List.length x0)))
   (Option.bind (g_slices_insertionSortCmpFunc_impl_Line__impl_lineResults_2 x0 x1 x2) fun y501 =>
    cond (decide ((List.length x0) = (List.length x0)))
    (cond (decide ((List.length x0) = (List.length x0)))
     (hx.1 (d_slices_pdqsortCmpFunc_impl_Line__impl_lineResults_2_3_0 y501))
     (none))
    (none))
   (none))
  (cond (x3 == (0 : Int))
   (none)
   (cond (!x10)
    (none)
    (none)))
noncomputable def t_slices_pdqsortCmpFunc_impl_Line__impl_lineResults_2_3 {R : Type} (nx : s_slices_pdqsortCmpFunc_impl_Line__impl_lineResults_2_3.T → Option R) (hx : exH R x_slices_pdqsortCmpFunc_impl_Line__impl_lineResults_2_3) (z : s_slices_pdqsortCmpFunc_impl_Line__impl_lineResults_2_3.T) : Option R := u_slices_pdqsortCmpFunc_impl_Line__impl_lineResults_2_3 nx hx z.1.1.1 z.1.2.1.1 z.1.2.2.1.1 z.1.2.2.2.1.1 z.1.2.2.2.2.2.1.1 z.1.2.2.2.2.2.2.1.1 z.2.2.1
theorem nat_slices_pdqsortCmpFunc_impl_Line__impl_lineResults_2_3 : Natural @t_slices_pdqsortCmpFunc_impl_Line__impl_lineResults_2_3 := fun R nx hx z => by
  show u_slices_pdqsortCmpFunc_impl_Line__impl_lineResults_2_3 nx hx z.1.1.1 z.1.2.1.1 z.1.2.2.1.1 z.1.2.2.2.1.1 z.1.2.2.2.2.2.1.1 z.1.2.2.2.2.2.2.1.1 z.2.2.1 = (u_slices_pdqsortCmpFunc_impl_Line__impl_lineResults_2_3 (fun y => some (.inl y)) (hIn x_slices_pdqsortCmpFunc_impl_Line__impl_lineResults_2_3 fun x => some (.inr x)) z.1.1.1 z.1.2.1.1 z.1.2.2.1.1 z.1.2.2.2.1.1 z.1.2.2.2.2.2.1.1 z.1.2.2.2.2.2.2.1.1 z.2.2.1).bind (goOn nx hx)
  unfold u_slices_pdqsortCmpFunc_impl_Line__impl_lineResults_2_3
  exact nat_cond (nat_cond (nat_bind fun _ => nat_cond (nat_cond (rfl) (rfl)) (rfl)) (rfl)) (nat_cond (rfl) (nat_cond (rfl) (rfl)))
noncomputable def w_slices_pdqsortCmpFunc_impl_Line__impl_lineResults_2_3 : s_slices_pdqsortCmpFunc_impl_Line__impl_lineResults_2_3.T → Option (exT x_slices_pdqsortCmpFunc_impl_Line__impl_lineResults_2_3) := wOf @t_slices_pdqsortCmpFunc_impl_Line__impl_lineResults_2_3
theorem wq_slices_pdqsortCmpFunc_impl_Line__impl_lineResults_2_3 (x0 : List (Int × (Int × (Int × Int)))) (x1 : Int) (x2 : Int) (x3 : Int) (x10 : Bool) (x11 : Bool) (o : List (Int × (Int × (Int × Int)))) : w_slices_pdqsortCmpFunc_impl_Line__impl_lineResults_2_3 (m_slices_pdqsortCmpFunc_impl_Line__impl_lineResults_2_3 x0 x1 x2 x3 x10 x11 o) = u_slices_pdqsortCmpFunc_impl_Line__impl_lineResults_2_3 w_slices_pdqsortCmpFunc_impl_Line__impl_lineResults_2_3 (hIn x_slices_pdqsortCmpFunc_impl_Line__impl_lineResults_2_3 some) x0 x1 x2 x3 x10 x11 o := wOf_eq nat_slices_pdqsortCmpFunc_impl_Line__impl_lineResults_2_3 _
def lh_slices_pdqsortCmpFunc_impl_Line__impl_lineResults_2_3 : LoopHint := ⟨[0, 1, 2, 3, 4, 10, 11], [], [], []⟩
noncomputable def h_slices_pdqsortCmpFunc_impl_Line__impl_lineResults_2 : Hints Rv := ⟨fun k => match k with | 3 => lh_slices_pdqsortCmpFunc_impl_Line__impl_lineResults_2_3 | _ => ⟨[], [], [], []⟩, fun k => match k with | 3 => some (loopX s_slices_pdqsortCmpFunc_impl_Line__impl_lineResults_2_3 x_slices_pdqsortCmpFunc_impl_Line__impl_lineResults_2_3 w_slices_pdqsortCmpFunc_impl_Line__impl_lineResults_2_3) | _ => none⟩
theorem st_slices_pdqsortCmpFunc_impl_Line__impl_lineResults_2_3 (n : Nat) (z : s_slices_pdqsortCmpFunc_impl_Line__impl_lineResults_2_3.T) (k : Ex → Live → Option Rv) : loopN ⟨148, 148⟩ lh_slices_pdqsortCmpFunc_impl_Line__impl_lineResults_2_3 (den (tab C0 T_slices_pdqsortCmpFunc_impl_Line__impl_lineResults_2) ⟨148, 148⟩ h_slices_pdqsortCmpFunc_impl_Line__impl_lineResults_2 1 (loopOf Tryd.f129 2)) (n + 1) (s_slices_pdqsortCmpFunc_impl_Line__impl_lineResults_2_3.enc z) k =
    t_slices_pdqsortCmpFunc_impl_Line__impl_lineResults_2_3 (fun y => loopN ⟨148, 148⟩ lh_slices_pdqsortCmpFunc_impl_Line__impl_lineResults_2_3 (den (tab C0 T_slices_pdqsortCmpFunc_impl_Line__impl_lineResults_2) ⟨148, 148⟩ h_slices_pdqsortCmpFunc_impl_Line__impl_lineResults_2 1 (loopOf Tryd.f129 2)) n (s_slices_pdqsortCmpFunc_impl_Line__impl_lineResults_2_3.enc y) k) (hK k x_slices_pdqsortCmpFunc_impl_Line__impl_lineResults_2_3) z := by kernel_rfl
theorem hs_slices_pdqsortCmpFunc_impl_Line__impl_lineResults_2 : HintsOk (tab C0 T_slices_pdqsortCmpFunc_impl_Line__impl_lineResults_2) ⟨148, 148⟩ h_slices_pdqsortCmpFunc_impl_Line__impl_lineResults_2 1 (loops (codeOf Tryd.f129)) := by
  have hl : loops (codeOf Tryd.f129) = [loopOf Tryd.f129 2] := by kernel_rfl
  rw [hl]
  exact HintsOk.cons (n := 3) (lh := lh_slices_pdqsortCmpFunc_impl_Line__impl_lineResults_2_3) (S := loopX s_slices_pdqsortCmpFunc_impl_Line__impl_lineResults_2_3 x_slices_pdqsortCmpFunc_impl_Line__impl_lineResults_2_3 w_slices_pdqsortCmpFunc_impl_Line__impl_lineResults_2_3) (by kernel_rfl) rfl rfl (loopX_ok nat_slices_pdqsortCmpFunc_impl_Line__impl_lineResults_2_3 st_slices_pdqsortCmpFunc_impl_Line__impl_lineResults_2_3)
    (HintsOk.nil)
noncomputable def t_slices_pdqsortCmpFunc_impl_Line__impl_lineResults_2 {R : Type} (kx : (List (Int × (Int × (Int × Int)))) → Option R) (a0 : List (Int × (Int × (Int × Int)))) (a1 : Int) (a2 : Int) (a3 : Int) : Option R :=
  Option.bind (w_slices_pdqsortCmpFunc_impl_Line__impl_lineResults_2_3 (m_slices_pdqsortCmpFunc_impl_Line__impl_lineResults_2_3 a0 a1 a2 a3 Bool.true Bool.true a0)) (exC x_slices_pdqsortCmpFunc_impl_Line__impl_lineResults_2_3
  (fun e502 =>
   kx (e502.2.2.1 : List (Int × (Int × (Int × Int)))), ()))
noncomputable def g_slices_pdqsortCmpFunc_impl_Line__impl_lineResults_2 (a0 : List (Int × (Int × (Int × Int)))) (a1 : Int) (a2 : Int) (a3 : Int) : Option ((List (Int × (Int × (Int × Int))))) := t_slices_pdqsortCmpFunc_impl_Line__impl_lineResults_2 some a0 a1 a2 a3
theorem nat_slices_pdqsortCmpFunc_impl_Line__impl_lineResults_2 {R : Type} (kx : (List (Int × (Int × (Int × Int)))) → Option R) (a0 : List (Int × (Int × (Int × Int)))) (a1 : Int) (a2 : Int) (a3 : Int) : t_slices_pdqsortCmpFunc_impl_Line__impl_lineResults_2 kx a0 a1 a2 a3 = (g_slices_pdqsortCmpFunc_impl_Line__impl_lineResults_2 a0 a1 a2 a3).bind kx := by
  unfold g_slices_pdqsortCmpFunc_impl_Line__impl_lineResults_2 t_slices_pdqsortCmpFunc_impl_Line__impl_lineResults_2
  exact nat_exC ⟨fun _ => rfl, trivial⟩
abbrev as_slices_pdqsortCmpFunc_impl_Line__impl_lineResults_2 : List AX := [.io (.pair (.int .i64) (.pair (.int .i64) (.pair (.int .i64) (.int .i64)))), .val false (.int .i64), .val false (.int .i64), .val false (.int .i64), .clo 103 []]
abbrev en_slices_pdqsortCmpFunc_impl_Line__impl_lineResults_2 : (List (Int × (Int × (Int × Int)))) → AV × List CV := fun b => (.tup [], [(.own (.pair (.int .i64) (.pair (.int .i64) (.pair (.int .i64) (.int .i64)))) b)])
noncomputable abbrev k_slices_pdqsortCmpFunc_impl_Line__impl_lineResults_2 : Contract := .fx as_slices_pdqsortCmpFunc_impl_Line__impl_lineResults_2 ((List (Int × (Int × (Int × Int))))) (fun z => g_slices_pdqsortCmpFunc_impl_Line__impl_lineResults_2 z.1 z.2.1 z.2.2.1 z.2.2.2.1) en_slices_pdqsortCmpFunc_impl_Line__impl_lineResults_2
theorem r_slices_pdqsortCmpFunc_impl_Line__impl_lineResults_2 (z : argsX as_slices_pdqsortCmpFunc_impl_Line__impl_lineResults_2) : runF (tab C0 T_slices_pdqsortCmpFunc_impl_Line__impl_lineResults_2) h_slices_pdqsortCmpFunc_impl_Line__impl_lineResults_2 1 Tryd.f129 (lentOf as_slices_pdqsortCmpFunc_impl_Line__impl_lineResults_2) (xBoxes as_slices_pdqsortCmpFunc_impl_Line__impl_lineResults_2 z) (xVals as_slices_pdqsortCmpFunc_impl_Line__impl_lineResults_2 0 z) K2 = t_slices_pdqsortCmpFunc_impl_Line__impl_lineResults_2 (fun b => some (en_slices_pdqsortCmpFunc_impl_Line__impl_lineResults_2 b)) z.1 z.2.1 z.2.2.1 z.2.2.2.1 := by kernel_rfl
theorem so_slices_pdqsortCmpFunc_impl_Line__impl_lineResults_2 : Sound C0 129 k_slices_pdqsortCmpFunc_impl_Line__impl_lineResults_2 :=
  Sound.fx a_slices_pdqsortCmpFunc_impl_Line__impl_lineResults_2 mixed Tryd.func129 (by kernel_rfl) (by kernel_rfl) h_slices_pdqsortCmpFunc_impl_Line__impl_lineResults_2 1 hs_slices_pdqsortCmpFunc_impl_Line__impl_lineResults_2 (fun z => (r_slices_pdqsortCmpFunc_impl_Line__impl_lineResults_2 z).trans (nat_slices_pdqsortCmpFunc_impl_Line__impl_lineResults_2 _ z.1 z.2.1 z.2.2.1 z.2.2.2.1))

/-! ### F102 slices.SortFunc[[]impl.Line,impl.Line] -/
noncomputable def T_slices_SortFunc_Simpl_Line_impl_Line__impl_lineResults_2 : List (FuncId × Contract) := [(130, k_math_bits_Len), (129, k_slices_pdqsortCmpFunc_impl_Line__impl_lineResults_2)]
theorem a_slices_SortFunc_Simpl_Line_impl_Line__impl_lineResults_2 : AllSound C0 T_slices_SortFunc_Simpl_Line_impl_Line__impl_lineResults_2 := .cons so_math_bits_Len (.cons so_slices_pdqsortCmpFunc_impl_Line__impl_lineResults_2 (.nil))
noncomputable def t_slices_SortFunc_Simpl_Line_impl_Line__impl_lineResults_2 {R : Type} (kx : (List (Int × (Int × (Int × Int)))) → Option R) (a0 : List (Int × (Int × (Int × Int)))) : Option R :=
  Option.bind (g_math_bits_Len (IntKind.wrap IntKind.u64 (((List.length a0) : Nat) : Int))) fun y435 =>
  cond (decide ((List.length a0) = (List.length a0)))
  (Option.bind (g_slices_pdqsortCmpFunc_impl_Line__impl_lineResults_2 a0 (0 : Int) (((List.length a0) : Nat) : Int) y435) fun y504 =>
   cond (decide ((List.length a0) = (List.length a0)))
   (cond (decide ((List.length a0) = (List.length a0)))
    (cond (decide ((List.length a0) = (List.length a0)))
     (kx y504)
     (none))
    (none))
   (none))
  (none)
noncomputable def g_slices_SortFunc_Simpl_Line_impl_Line__impl_lineResults_2 (a0 : List (Int × (Int × (Int × Int)))) : Option ((List (Int × (Int × (Int × Int))))) := t_slices_SortFunc_Simpl_Line_impl_Line__impl_lineResults_2 some a0
theorem nat_slices_SortFunc_Simpl_Line_impl_Line__impl_lineResults_2 {R : Type} (kx : (List (Int × (Int × (Int × Int)))) → Option R) (a0 : List (Int × (Int × (Int × Int)))) : t_slices_SortFunc_Simpl_Line_impl_Line__impl_lineResults_2 kx a0 = (g_slices_SortFunc_Simpl_Line_impl_Line__impl_lineResults_2 a0).bind kx := by
  unfold g_slices_SortFunc_Simpl_Line_impl_Line__impl_lineResults_2 t_slices_SortFunc_Simpl_Line_impl_Line__impl_lineResults_2
  exact nat_bind fun _ => nat_cond (nat_bind fun _ => nat_cond (nat_cond (nat_cond (rfl) (rfl)) (rfl)) (rfl)) (rfl)
abbrev as_slices_SortFunc_Simpl_Line_impl_Line__impl_lineResults_2 : List AX := [.io (.pair (.int .i64) (.pair (.int .i64) (.pair (.int .i64) (.int .i64)))), .clo 103 []]
abbrev en_slices_SortFunc_Simpl_Line_impl_Line__impl_lineResults_2 : (List (Int × (Int × (Int × Int)))) → AV × List CV := fun b => (.tup [], [(.own (.pair (.int .i64) (.pair (.int .i64) (.pair (.int .i64) (.int .i64)))) b)])
noncomputable abbrev k_slices_SortFunc_Simpl_Line_impl_Line__impl_lineResults_2 : Contract := .fx as_slices_SortFunc_Simpl_Line_impl_Line__impl_lineResults_2 ((List (Int × (Int × (Int × Int))))) (fun z => g_slices_SortFunc_Simpl_Line_impl_Line__impl_lineResults_2 z.1) en_slices_SortFunc_Simpl_Line_impl_Line__impl_lineResults_2
theorem r_slices_SortFunc_Simpl_Line_impl_Line__impl_lineResults_2 (z : argsX as_slices_SortFunc_Simpl_Line_impl_Line__impl_lineResults_2) : runF (tab C0 T_slices_SortFunc_Simpl_Line_impl_Line__impl_lineResults_2) noHints 1 Tryd.f102 (lentOf as_slices_SortFunc_Simpl_Line_impl_Line__impl_lineResults_2) (xBoxes as_slices_SortFunc_Simpl_Line_impl_Line__impl_lineResults_2 z) (xVals as_slices_SortFunc_Simpl_Line_impl_Line__impl_lineResults_2 0 z) K2 = t_slices_SortFunc_Simpl_Line_impl_Line__impl_lineResults_2 (fun b => some (en_slices_SortFunc_Simpl_Line_impl_Line__impl_lineResults_2 b)) z.1 := by kernel_rfl
theorem so_slices_SortFunc_Simpl_Line_impl_Line__impl_lineResults_2 : Sound C0 102 k_slices_SortFunc_Simpl_Line_impl_Line__impl_lineResults_2 :=
  Sound.fx a_slices_SortFunc_Simpl_Line_impl_Line__impl_lineResults_2 mixed Tryd.func102 (by kernel_rfl) (by kernel_rfl) noHints 1 noHints_ok (fun z => (r_slices_SortFunc_Simpl_Line_impl_Line__impl_lineResults_2 z).trans (nat_slices_SortFunc_Simpl_Line_impl_Line__impl_lineResults_2 _ z.1))

/-! ### F53 impl.lineResults -/
noncomputable def T_impl_lineResults : List (FuncId × Contract) := [(100, k_slices_ContainsFunc_Simpl_Line_impl_Line__impl_lineResults_1), (102, k_slices_SortFunc_Simpl_Line_impl_Line__impl_lineResults_2)]
theorem a_impl_lineResults : AllSound C0 T_impl_lineResults := .cons so_slices_ContainsFunc_Simpl_Line_impl_Line__impl_lineResults_1 (.cons so_slices_SortFunc_Simpl_Line_impl_Line__impl_lineResults_2 (.nil))
noncomputable def t_impl_lineResults {R : Type} (kx : (List (Int × (Int × (Int × Int)))) × Int → Option R) (a0 : List (Int × (Int × (Int × Int)))) : Option R :=
  Option.bind (g_slices_ContainsFunc_Simpl_Line_impl_Line__impl_lineResults_1 a0) fun y422 =>
  cond y422
  (kx ([], (2 : Int)))
  (cond (decide ((List.length a0) = (List.length a0)))
   (Option.bind (g_slices_SortFunc_Simpl_Line_impl_Line__impl_lineResults_2 a0) fun y505 =>
    cond (decide ((List.length a0) = (List.length a0)))
    (cond (decide ((List.length a0) = (List.length a0)))
     (cond (decide ((List.length a0) = (List.length a0)))
      (kx (y505, (0 : Int)))
      (none))
     (none))
    (none))
   (none))
noncomputable def g_impl_lineResults (a0 : List (Int × (Int × (Int × Int)))) : Option ((List (Int × (Int × (Int × Int)))) × Int) := t_impl_lineResults some a0
theorem nat_impl_lineResults {R : Type} (kx : (List (Int × (Int × (Int × Int)))) × Int → Option R) (a0 : List (Int × (Int × (Int × Int)))) : t_impl_lineResults kx a0 = (g_impl_lineResults a0).bind kx := by
  unfold g_impl_lineResults t_impl_lineResults
  exact nat_bind fun _ => nat_cond (rfl) (nat_cond (nat_bind fun _ => nat_cond (nat_cond (nat_cond (rfl) (rfl)) (rfl)) (rfl)) (rfl))
abbrev as_impl_lineResults : List AX := [.io (.pair (.int .i64) (.pair (.int .i64) (.pair (.int .i64) (.int .i64))))]
abbrev en_impl_lineResults : (List (Int × (Int × (Int × Int)))) × Int → AV × List CV := fun b => (.tup [⟨false, [(.own (.pair (.int .i64) (.pair (.int .i64) (.pair (.int .i64) (.int .i64)))) b.1)]⟩, ⟨false, [(.v (.int .i64 b.2))]⟩], [.undef])
noncomputable abbrev k_impl_lineResults : Contract := .fx as_impl_lineResults ((List (Int × (Int × (Int × Int)))) × Int) (fun z => g_impl_lineResults z.1) en_impl_lineResults
theorem r_impl_lineResults (z : argsX as_impl_lineResults) : runF (tab C0 T_impl_lineResults) noHints 1 Tryd.f53 (lentOf as_impl_lineResults) (xBoxes as_impl_lineResults z) (xVals as_impl_lineResults 0 z) K3 = t_impl_lineResults (fun b => some (en_impl_lineResults b)) z.1 := by kernel_rfl
theorem so_impl_lineResults : Sound C0 53 k_impl_lineResults :=
  Sound.fxTake a_impl_lineResults mixed Tryd.func53 (by kernel_rfl) (by kernel_rfl) noHints 1 noHints_ok (fun z => (r_impl_lineResults z).trans (nat_impl_lineResults _ z.1))

/-! ### F21 impl.FoldPointLine -/
noncomputable def T_impl_FoldPointLine : List (FuncId × Contract) := [(50, k_impl_ValidPoint), (51, k_impl_ValidLine), (57, k_impl_lineAt), (59, k_impl_Line_reflect), (58, k_impl_Line_side), (53, k_impl_lineResults)]
theorem a_impl_FoldPointLine : AllSound C0 T_impl_FoldPointLine := .cons so_impl_ValidPoint (.cons so_impl_ValidLine (.cons so_impl_lineAt (.cons so_impl_Line_reflect (.cons so_impl_Line_side (.cons so_impl_lineResults (.nil))))))
abbrev s_impl_FoldPointLine_6 : LS := ⟨[(false, [(.ptr 3 0)]), (false, [(.ptr 4 0)]), (false, [(.ptr 5 0)]), (false, [(.own (.pair (.int .i64) (.pair (.int .i64) (.pair (.int .i64) (.int .i64)))))]), (false, [(.int .i64)])], [(false, [(.int .i64), (.int .i64), (.int .i64), (.int .i64), (.int .i64), (.int .i64)]), (false, [(.int .i64), (.int .i64), (.int .i64), (.int .i64)]), (false, [(.int .i64), (.int .i64), (.int .i64), (.int .i64), (.int .i64), (.int .i64)])], []⟩
abbrev e_impl_FoldPointLine_6_0 : LS := ⟨[(false, [(.own (.pair (.int .i64) (.pair (.int .i64) (.pair (.int .i64) (.int .i64)))))])], [], []⟩
abbrev d_impl_FoldPointLine_6_0 (v0 : List (Int × (Int × (Int × Int)))) : e_impl_FoldPointLine_6_0.T := (((v0, ()), ()), (), ())
abbrev x_impl_FoldPointLine_6 : List (Ex × LS) := [(.exit 0, e_impl_FoldPointLine_6_0)]
abbrev m_impl_FoldPointLine_6 (x8 : List (Int × (Int × (Int × Int)))) (x24 : Int) (b0_0 : Int) (b0_1 : Int) (b0_2 : Int) (b0_3 : Int) (b0_4 : Int) (b0_5 : Int) (b1_0 : Int) (b1_1 : Int) (b1_2 : Int) (b1_3 : Int) (b2_0 : Int) (b2_1 : Int) (b2_2 : Int) (b2_3 : Int) (b2_4 : Int) (b2_5 : Int) : s_impl_FoldPointLine_6.T := ((((), ()), ((), ()), ((), ()), (x8, ()), (x24, ()), ()), ((b0_0, b0_1, b0_2, b0_3, b0_4, b0_5, ()), (b1_0, b1_1, b1_2, b1_3, ()), (b2_0, b2_1, b2_2, b2_3, b2_4, b2_5, ()), ()), ())
noncomputable def u_impl_FoldPointLine_6 {R : Type} (nx : s_impl_FoldPointLine_6.T → Option R) (hx : exH R x_impl_FoldPointLine_6) (x8 : List (Int × (Int × (Int × Int)))) (x24 : Int) (b0_0 : Int) (b0_1 : Int) (b0_2 : Int) (b0_3 : Int) (b0_4 : Int) (b0_5 : Int) (b1_0 : Int) (b1_1 : Int) (b1_2 : Int) (b1_3 : Int) (b2_0 : Int) (b2_1 : Int) (b2_2 : Int) (b2_3 : Int) (b2_4 : Int) (b2_5 : Int) : Option R :=
  cond (decide (x24 < (8 : Int)))
  (Option.bind (g_impl_lineAt ((b2_0, (b2_1, b2_2)), (b2_3, (b2_4, b2_5))) x24) fun y339 =>
   Option.bind (g_impl_Line_reflect y339 ((b0_0, (b0_1, b0_2)), (b0_3, (b0_4, b0_5)))) fun y382 =>
   Option.bind (g_impl_Line_side (b1_0, (b1_1, (b1_2, b1_3))) y382) fun y405 =>
   cond (y405 == (0 : Int))
   (cond (decide ((((List.length x8) + (List.length [y339])) * 32) ≤ 70368744177664))
    (cond (decide (((List.length x8) + (List.length [y339])) ≤ 70368744177664))
     (nx (m_impl_FoldPointLine_6 (x8 ++ [y339]) (IntKind.wrap IntKind.i64 (x24 + (1 : Int))) b0_0 b0_1 b0_2 b0_3 b0_4 b0_5 b1_0 b1_1 b1_2 b1_3 b2_0 b2_1 b2_2 b2_3 b2_4 b2_5))
     (none))
    (none))
   (nx (m_impl_FoldPointLine_6 x8 (IntKind.wrap IntKind.i64 (x24 + (1 : Int))) b0_0 b0_1 b0_2 b0_3 b0_4 b0_5 b1_0 b1_1 b1_2 b1_3 b2_0 b2_1 b2_2 b2_3 b2_4 b2_5)))
  (hx.1 (d_impl_FoldPointLine_6_0 x8))
noncomputable def t_impl_FoldPointLine_6 {R : Type} (nx : s_impl_FoldPointLine_6.T → Option R) (hx : exH R x_impl_FoldPointLine_6) (z : s_impl_FoldPointLine_6.T) : Option R := u_impl_FoldPointLine_6 nx hx z.1.2.2.2.1.1 z.1.2.2.2.2.1.1 z.2.1.1.1 z.2.1.1.2.1 z.2.1.1.2.2.1 z.2.1.1.2.2.2.1 z.2.1.1.2.2.2.2.1 z.2.1.1.2.2.2.2.2.1 z.2.1.2.1.1 z.2.1.2.1.2.1 z.2.1.2.1.2.2.1 z.2.1.2.1.2.2.2.1 z.2.1.2.2.1.1 z.2.1.2.2.1.2.1 z.2.1.2.2.1.2.2.1 z.2.1.2.2.1.2.2.2.1 z.2.1.2.2.1.2.2.2.2.1 z.2.1.2.2.1.2.2.2.2.2.1
theorem nat_impl_FoldPointLine_6 : Natural @t_impl_FoldPointLine_6 := fun R nx hx z => by
  show u_impl_FoldPointLine_6 nx hx z.1.2.2.2.1.1 z.1.2.2.2.2.1.1 z.2.1.1.1 z.2.1.1.2.1 z.2.1.1.2.2.1 z.2.1.1.2.2.2.1 z.2.1.1.2.2.2.2.1 z.2.1.1.2.2.2.2.2.1 z.2.1.2.1.1 z.2.1.2.1.2.1 z.2.1.2.1.2.2.1 z.2.1.2.1.2.2.2.1 z.2.1.2.2.1.1 z.2.1.2.2.1.2.1 z.2.1.2.2.1.2.2.1 z.2.1.2.2.1.2.2.2.1 z.2.1.2.2.1.2.2.2.2.1 z.2.1.2.2.1.2.2.2.2.2.1 = (u_impl_FoldPointLine_6 (fun y => some (.inl y)) (hIn x_impl_FoldPointLine_6 fun x => some (.inr x)) z.1.2.2.2.1.1 z.1.2.2.2.2.1.1 z.2.1.1.1 z.2.1.1.2.1 z.2.1.1.2.2.1 z.2.1.1.2.2.2.1 z.2.1.1.2.2.2.2.1 z.2.1.1.2.2.2.2.2.1 z.2.1.2.1.1 z.2.1.2.1.2.1 z.2.1.2.1.2.2.1 z.2.1.2.1.2.2.2.1 z.2.1.2.2.1.1 z.2.1.2.2.1.2.1 z.2.1.2.2.1.2.2.1 z.2.1.2.2.1.2.2.2.1 z.2.1.2.2.1.2.2.2.2.1 z.2.1.2.2.1.2.2.2.2.2.1).bind (goOn nx hx)
  unfold u_impl_FoldPointLine_6
  exact nat_cond (nat_bind fun _ => nat_bind fun _ => nat_bind fun _ => nat_cond (nat_cond (nat_cond (rfl) (rfl)) (rfl)) (rfl)) (rfl)
noncomputable def w_impl_FoldPointLine_6 : s_impl_FoldPointLine_6.T → Option (exT x_impl_FoldPointLine_6) := wOf @t_impl_FoldPointLine_6
theorem wq_impl_FoldPointLine_6 (x8 : List (Int × (Int × (Int × Int)))) (x24 : Int) (b0_0 : Int) (b0_1 : Int) (b0_2 : Int) (b0_3 : Int) (b0_4 : Int) (b0_5 : Int) (b1_0 : Int) (b1_1 : Int) (b1_2 : Int) (b1_3 : Int) (b2_0 : Int) (b2_1 : Int) (b2_2 : Int) (b2_3 : Int) (b2_4 : Int) (b2_5 : Int) : w_impl_FoldPointLine_6 (m_impl_FoldPointLine_6 x8 x24 b0_0 b0_1 b0_2 b0_3 b0_4 b0_5 b1_0 b1_1 b1_2 b1_3 b2_0 b2_1 b2_2 b2_3 b2_4 b2_5) = u_impl_FoldPointLine_6 w_impl_FoldPointLine_6 (hIn x_impl_FoldPointLine_6 some) x8 x24 b0_0 b0_1 b0_2 b0_3 b0_4 b0_5 b1_0 b1_1 b1_2 b1_3 b2_0 b2_1 b2_2 b2_3 b2_4 b2_5 := wOf_eq nat_impl_FoldPointLine_6 _
def lh_impl_FoldPointLine_6 : LoopHint := ⟨[3, 4, 5, 8, 24], [3, 4, 5], [8], []⟩
noncomputable def h_impl_FoldPointLine : Hints Rv := ⟨fun k => match k with | 6 => lh_impl_FoldPointLine_6 | _ => ⟨[], [], [], []⟩, fun k => match k with | 6 => some (loopX s_impl_FoldPointLine_6 x_impl_FoldPointLine_6 w_impl_FoldPointLine_6) | _ => none⟩
theorem st_impl_FoldPointLine_6 (n : Nat) (z : s_impl_FoldPointLine_6.T) (k : Ex → Live → Option Rv) : loopN ⟨45, 45⟩ lh_impl_FoldPointLine_6 (den (tab C0 T_impl_FoldPointLine) ⟨45, 45⟩ h_impl_FoldPointLine 1 (loopOf Tryd.f21 5)) (n + 1) (s_impl_FoldPointLine_6.enc z) k =
    t_impl_FoldPointLine_6 (fun y => loopN ⟨45, 45⟩ lh_impl_FoldPointLine_6 (den (tab C0 T_impl_FoldPointLine) ⟨45, 45⟩ h_impl_FoldPointLine 1 (loopOf Tryd.f21 5)) n (s_impl_FoldPointLine_6.enc y) k) (hK k x_impl_FoldPointLine_6) z := by kernel_rfl
theorem hs_impl_FoldPointLine : HintsOk (tab C0 T_impl_FoldPointLine) ⟨45, 45⟩ h_impl_FoldPointLine 1 (loops (codeOf Tryd.f21)) := by
  have hl : loops (codeOf Tryd.f21) = [loopOf Tryd.f21 5] := by kernel_rfl
  rw [hl]
  exact HintsOk.cons (n := 6) (lh := lh_impl_FoldPointLine_6) (S := loopX s_impl_FoldPointLine_6 x_impl_FoldPointLine_6 w_impl_FoldPointLine_6) (by kernel_rfl) rfl rfl (loopX_ok nat_impl_FoldPointLine_6 st_impl_FoldPointLine_6)
    (HintsOk.nil)
noncomputable def t_impl_FoldPointLine {R : Type} (kx : (List (Int × (Int × (Int × Int)))) × Int → Option R) (a0 : ((Int × (Int × Int)) × (Int × (Int × Int)))) (a1 : (Int × (Int × (Int × Int)))) (a2 : ((Int × (Int × Int)) × (Int × (Int × Int)))) : Option R :=
  Option.bind (g_impl_ValidPoint a0) fun y266 =>
  cond (!y266)
  (kx ([], (1 : Int)))
  (Option.bind (g_impl_ValidLine a1) fun y270 =>
   cond (!y270)
   (kx ([], (1 : Int)))
   (Option.bind (g_impl_ValidPoint a2) fun y271 =>
    cond (!y271)
    (kx ([], (1 : Int)))
    (Option.bind (w_impl_FoldPointLine_6 (m_impl_FoldPointLine_6 [] (0 : Int) a0.1.1 a0.1.2.1 a0.1.2.2 a0.2.1 a0.2.2.1 a0.2.2.2 a1.1 a1.2.1 a1.2.2.1 a1.2.2.2 a2.1.1 a2.1.2.1 a2.1.2.2 a2.2.1 a2.2.2.1 a2.2.2.2)) (exC x_impl_FoldPointLine_6
     (fun e406 =>
      cond (decide ((List.length (e406.1.1.1 : List (Int × (Int × (Int × Int))))) = (List.length (e406.1.1.1 : List (Int × (Int × (Int × Int)))))))
      (Option.bind (g_impl_lineResults (e406.1.1.1 : List (Int × (Int × (Int × Int))))) fun y506 =>
       kx y506)
      (none), ())))))
noncomputable def g_impl_FoldPointLine (a0 : ((Int × (Int × Int)) × (Int × (Int × Int)))) (a1 : (Int × (Int × (Int × Int)))) (a2 : ((Int × (Int × Int)) × (Int × (Int × Int)))) : Option ((List (Int × (Int × (Int × Int)))) × Int) := t_impl_FoldPointLine some a0 a1 a2
theorem nat_impl_FoldPointLine {R : Type} (kx : (List (Int × (Int × (Int × Int)))) × Int → Option R) (a0 : ((Int × (Int × Int)) × (Int × (Int × Int)))) (a1 : (Int × (Int × (Int × Int)))) (a2 : ((Int × (Int × Int)) × (Int × (Int × Int)))) : t_impl_FoldPointLine kx a0 a1 a2 = (g_impl_FoldPointLine a0 a1 a2).bind kx := by
  unfold g_impl_FoldPointLine t_impl_FoldPointLine
  exact nat_bind fun _ => nat_cond (rfl) (nat_bind fun _ => nat_cond (rfl) (nat_bind fun _ => nat_cond (rfl) (nat_exC ⟨fun _ => nat_cond (nat_bind fun _ => rfl) (rfl), trivial⟩)))
abbrev as_impl_FoldPointLine : List AX := [.val true (.pair (.pair (.int .i64) (.pair (.int .i64) (.int .i64))) (.pair (.int .i64) (.pair (.int .i64) (.int .i64)))), .val true (.pair (.int .i64) (.pair (.int .i64) (.pair (.int .i64) (.int .i64)))), .val true (.pair (.pair (.int .i64) (.pair (.int .i64) (.int .i64))) (.pair (.int .i64) (.pair (.int .i64) (.int .i64))))]
abbrev en_impl_FoldPointLine : (List (Int × (Int × (Int × Int)))) × Int → AV × List CV := fun b => (.tup [⟨false, [(.own (.pair (.int .i64) (.pair (.int .i64) (.pair (.int .i64) (.int .i64)))) b.1)]⟩, ⟨false, [(.v (.int .i64 b.2))]⟩], [])
noncomputable abbrev k_impl_FoldPointLine : Contract := .fx as_impl_FoldPointLine ((List (Int × (Int × (Int × Int)))) × Int) (fun z => g_impl_FoldPointLine z.1 z.2.1 z.2.2.1) en_impl_FoldPointLine
theorem r_impl_FoldPointLine (z : argsX as_impl_FoldPointLine) : runF (tab C0 T_impl_FoldPointLine) h_impl_FoldPointLine 1 Tryd.f21 (lentOf as_impl_FoldPointLine) (xBoxes as_impl_FoldPointLine z) (xVals as_impl_FoldPointLine 0 z) K2 = t_impl_FoldPointLine (fun b => some (en_impl_FoldPointLine b)) z.1 z.2.1 z.2.2.1 := by kernel_rfl
theorem so_impl_FoldPointLine : Sound C0 21 k_impl_FoldPointLine :=
  Sound.fx a_impl_FoldPointLine mixed Tryd.func21 (by kernel_rfl) (by kernel_rfl) h_impl_FoldPointLine 1 hs_impl_FoldPointLine (fun z => (r_impl_FoldPointLine z).trans (nat_impl_FoldPointLine _ z.1 z.2.1 z.2.2.1))

/-! ### F107 laws.eqNum -/
noncomputable def T_laws_eqNum : List (FuncId × Contract) := []
theorem a_laws_eqNum : AllSound C0 T_laws_eqNum := .nil
noncomputable def t_laws_eqNum {R : Type} (kx : Bool → Option R) (a0 : (Int × (Int × Int))) (a1 : (Int × (Int × Int))) : Option R :=
  cond (a0.1 != a1.1)
  (kx Bool.false)
  (cond (a0.2.1 != a1.2.1)
   (kx Bool.false)
   (cond (a0.2.2 != a1.2.2)
    (kx Bool.false)
    (kx Bool.true)))
noncomputable def g_laws_eqNum (a0 : (Int × (Int × Int))) (a1 : (Int × (Int × Int))) : Option (Bool) := t_laws_eqNum some a0 a1
theorem nat_laws_eqNum {R : Type} (kx : Bool → Option R) (a0 : (Int × (Int × Int))) (a1 : (Int × (Int × Int))) : t_laws_eqNum kx a0 a1 = (g_laws_eqNum a0 a1).bind kx := by
  unfold g_laws_eqNum t_laws_eqNum
  exact nat_cond (rfl) (nat_cond (rfl) (nat_cond (rfl) (rfl)))
abbrev as_laws_eqNum : List AX := [.val true (.pair (.int .i64) (.pair (.int .i64) (.int .i64))), .val true (.pair (.int .i64) (.pair (.int .i64) (.int .i64)))]
abbrev en_laws_eqNum : Bool → AV × List CV := fun b => (.one ⟨false, [(.v (.bool b))]⟩, [])
noncomputable abbrev k_laws_eqNum : Contract := .fx as_laws_eqNum (Bool) (fun z => g_laws_eqNum z.1 z.2.1) en_laws_eqNum
theorem r_laws_eqNum (z : argsX as_laws_eqNum) : runF (tab C0 T_laws_eqNum) noHints 1 Tryd.f107 (lentOf as_laws_eqNum) (xBoxes as_laws_eqNum z) (xVals as_laws_eqNum 0 z) K2 = t_laws_eqNum (fun b => some (en_laws_eqNum b)) z.1 z.2.1 := by kernel_rfl
theorem so_laws_eqNum : Sound C0 107 k_laws_eqNum :=
  Sound.fx a_laws_eqNum mixed Tryd.func107 (by kernel_rfl) (by kernel_rfl) noHints 1 noHints_ok (fun z => (r_laws_eqNum z).trans (nat_laws_eqNum _ z.1 z.2.1))

/-! ### F54 laws.eqLine -/
noncomputable def T_laws_eqLine : List (FuncId × Contract) := [(107, k_laws_eqNum)]
theorem a_laws_eqLine : AllSound C0 T_laws_eqLine := .cons so_laws_eqNum (.nil)
noncomputable def t_laws_eqLine {R : Type} (kx : Bool → Option R) (a0 : (Int × (Int × (Int × Int)))) (a1 : (Int × (Int × (Int × Int)))) : Option R :=
  cond (a0.1 != a1.1)
  (kx Bool.false)
  (Option.bind (g_laws_eqNum a0.2 a1.2) fun y519 =>
   cond (!y519)
   (kx Bool.false)
   (kx Bool.true))
noncomputable def g_laws_eqLine (a0 : (Int × (Int × (Int × Int)))) (a1 : (Int × (Int × (Int × Int)))) : Option (Bool) := t_laws_eqLine some a0 a1
theorem nat_laws_eqLine {R : Type} (kx : Bool → Option R) (a0 : (Int × (Int × (Int × Int)))) (a1 : (Int × (Int × (Int × Int)))) : t_laws_eqLine kx a0 a1 = (g_laws_eqLine a0 a1).bind kx := by
  unfold g_laws_eqLine t_laws_eqLine
  exact nat_cond (rfl) (nat_bind fun _ => nat_cond (rfl) (rfl))
abbrev as_laws_eqLine : List AX := [.val true (.pair (.int .i64) (.pair (.int .i64) (.pair (.int .i64) (.int .i64)))), .val true (.pair (.int .i64) (.pair (.int .i64) (.pair (.int .i64) (.int .i64))))]
abbrev en_laws_eqLine : Bool → AV × List CV := fun b => (.one ⟨false, [(.v (.bool b))]⟩, [])
noncomputable abbrev k_laws_eqLine : Contract := .fx as_laws_eqLine (Bool) (fun z => g_laws_eqLine z.1 z.2.1) en_laws_eqLine
theorem r_laws_eqLine (z : argsX as_laws_eqLine) : runF (tab C0 T_laws_eqLine) noHints 1 Tryd.f54 (lentOf as_laws_eqLine) (xBoxes as_laws_eqLine z) (xVals as_laws_eqLine 0 z) K2 = t_laws_eqLine (fun b => some (en_laws_eqLine b)) z.1 z.2.1 := by kernel_rfl
theorem so_laws_eqLine : Sound C0 54 k_laws_eqLine :=
  Sound.fx a_laws_eqLine mixed Tryd.func54 (by kernel_rfl) (by kernel_rfl) noHints 1 noHints_ok (fun z => (r_laws_eqLine z).trans (nat_laws_eqLine _ z.1 z.2.1))

/-! ### F17 laws.eqLineS -/
noncomputable def T_laws_eqLineS : List (FuncId × Contract) := [(54, k_laws_eqLine)]
theorem a_laws_eqLineS : AllSound C0 T_laws_eqLineS := .cons so_laws_eqLine (.nil)
abbrev s_laws_eqLineS_5 : LS := ⟨[(false, [(.sl (.pair (.int .i64) (.pair (.int .i64) (.pair (.int .i64) (.int .i64)))))]), (false, [(.sl (.pair (.int .i64) (.pair (.int .i64) (.pair (.int .i64) (.int .i64)))))]), (false, [(.int .i64)])], [], []⟩
abbrev e_laws_eqLineS_5_0 : LS := ⟨[(false, [.bool])], [], []⟩
abbrev d_laws_eqLineS_5_0 (v0 : Bool) : e_laws_eqLineS_5_0.T := (((v0, ()), ()), (), ())
abbrev e_laws_eqLineS_5_1 : LS := ⟨[(false, [.undef])], [], []⟩
abbrev d_laws_eqLineS_5_1 : e_laws_eqLineS_5_1.T := ((((), ()), ()), (), ())
abbrev x_laws_eqLineS_5 : List (Ex × LS) := [(.ret, e_laws_eqLineS_5_0), (.exit 0, e_laws_eqLineS_5_1)]
abbrev m_laws_eqLineS_5 (x0 : List (Int × (Int × (Int × Int)))) (x1 : List (Int × (Int × (Int × Int)))) (x5 : Int) : s_laws_eqLineS_5.T := (((x0, ()), (x1, ()), (x5, ()), ()), (), ())
noncomputable def u_laws_eqLineS_5 {R : Type} (nx : s_laws_eqLineS_5.T → Option R) (hx : exH R x_laws_eqLineS_5) (x0 : List (Int × (Int × (Int × Int)))) (x1 : List (Int × (Int × (Int × Int)))) (x5 : Int) : Option R :=
  cond (decide (x5 < (((List.length x0) : Nat) : Int)))
  (Option.bind (idx x0 x5) fun y513 =>
   Option.bind (idx x1 x5) fun y514 =>
   Option.bind (g_laws_eqLine y513 y514) fun y520 =>
   cond (!y520)
   (hx.1 (d_laws_eqLineS_5_0 Bool.false))
   (nx (m_laws_eqLineS_5 x0 x1 (IntKind.wrap IntKind.i64 (x5 + (1 : Int))))))
  (hx.2.1 (d_laws_eqLineS_5_1))
noncomputable def t_laws_eqLineS_5 {R : Type} (nx : s_laws_eqLineS_5.T → Option R) (hx : exH R x_laws_eqLineS_5) (z : s_laws_eqLineS_5.T) : Option R := u_laws_eqLineS_5 nx hx z.1.1.1 z.1.2.1.1 z.1.2.2.1.1
theorem nat_laws_eqLineS_5 : Natural @t_laws_eqLineS_5 := fun R nx hx z => by
  show u_laws_eqLineS_5 nx hx z.1.1.1 z.1.2.1.1 z.1.2.2.1.1 = (u_laws_eqLineS_5 (fun y => some (.inl y)) (hIn x_laws_eqLineS_5 fun x => some (.inr x)) z.1.1.1 z.1.2.1.1 z.1.2.2.1.1).bind (goOn nx hx)
  unfold u_laws_eqLineS_5
  exact nat_cond (nat_bind fun _ => nat_bind fun _ => nat_bind fun _ => nat_cond (rfl) (rfl)) (rfl)
noncomputable def w_laws_eqLineS_5 : s_laws_eqLineS_5.T → Option (exT x_laws_eqLineS_5) := wOf @t_laws_eqLineS_5
theorem wq_laws_eqLineS_5 (x0 : List (Int × (Int × (Int × Int)))) (x1 : List (Int × (Int × (Int × Int)))) (x5 : Int) : w_laws_eqLineS_5 (m_laws_eqLineS_5 x0 x1 x5) = u_laws_eqLineS_5 w_laws_eqLineS_5 (hIn x_laws_eqLineS_5 some) x0 x1 x5 := wOf_eq nat_laws_eqLineS_5 _
def lh_laws_eqLineS_5 : LoopHint := ⟨[0, 1, 5], [], [4], []⟩
noncomputable def h_laws_eqLineS : Hints Rv := ⟨fun k => match k with | 5 => lh_laws_eqLineS_5 | _ => ⟨[], [], [], []⟩, fun k => match k with | 5 => some (loopX s_laws_eqLineS_5 x_laws_eqLineS_5 w_laws_eqLineS_5) | _ => none⟩
theorem st_laws_eqLineS_5 (n : Nat) (z : s_laws_eqLineS_5.T) (k : Ex → Live → Option Rv) : loopN ⟨27, 27⟩ lh_laws_eqLineS_5 (den (tab C0 T_laws_eqLineS) ⟨27, 27⟩ h_laws_eqLineS 1 (loopOf Tryd.f17 4)) (n + 1) (s_laws_eqLineS_5.enc z) k =
    t_laws_eqLineS_5 (fun y => loopN ⟨27, 27⟩ lh_laws_eqLineS_5 (den (tab C0 T_laws_eqLineS) ⟨27, 27⟩ h_laws_eqLineS 1 (loopOf Tryd.f17 4)) n (s_laws_eqLineS_5.enc y) k) (hK k x_laws_eqLineS_5) z := by kernel_rfl
theorem hs_laws_eqLineS : HintsOk (tab C0 T_laws_eqLineS) ⟨27, 27⟩ h_laws_eqLineS 1 (loops (codeOf Tryd.f17)) := by
  have hl : loops (codeOf Tryd.f17) = [loopOf Tryd.f17 4] := by kernel_rfl
  rw [hl]
  exact HintsOk.cons (n := 5) (lh := lh_laws_eqLineS_5) (S := loopX s_laws_eqLineS_5 x_laws_eqLineS_5 w_laws_eqLineS_5) (by kernel_rfl) rfl rfl (loopX_ok nat_laws_eqLineS_5 st_laws_eqLineS_5)
    (HintsOk.nil)
noncomputable def t_laws_eqLineS {R : Type} (kx : Bool → Option R) (a0 : (List (Int × (Int × (Int × Int))))) (a1 : (List (Int × (Int × (Int × Int))))) : Option R :=
  cond ((((List.length a0) : Nat) : Int) != (((List.length a1) : Nat) : Int))
  (kx Bool.false)
  (Option.bind (w_laws_eqLineS_5 (m_laws_eqLineS_5 a0 a1 (0 : Int))) (exC x_laws_eqLineS_5
   (fun e521 =>
    kx (e521.1.1.1 : Bool), fun _ =>
    kx Bool.true, ())))
noncomputable def g_laws_eqLineS (a0 : (List (Int × (Int × (Int × Int))))) (a1 : (List (Int × (Int × (Int × Int))))) : Option (Bool) := t_laws_eqLineS some a0 a1
theorem nat_laws_eqLineS {R : Type} (kx : Bool → Option R) (a0 : (List (Int × (Int × (Int × Int))))) (a1 : (List (Int × (Int × (Int × Int))))) : t_laws_eqLineS kx a0 a1 = (g_laws_eqLineS a0 a1).bind kx := by
  unfold g_laws_eqLineS t_laws_eqLineS
  exact nat_cond (rfl) (nat_exC ⟨fun _ => rfl, fun _ => rfl, trivial⟩)
abbrev as_laws_eqLineS : List AX := [.val false (.slice (.pair (.int .i64) (.pair (.int .i64) (.pair (.int .i64) (.int .i64))))), .val false (.slice (.pair (.int .i64) (.pair (.int .i64) (.pair (.int .i64) (.int .i64)))))]
abbrev en_laws_eqLineS : Bool → AV × List CV := fun b => (.one ⟨false, [(.v (.bool b))]⟩, [])
noncomputable abbrev k_laws_eqLineS : Contract := .fx as_laws_eqLineS (Bool) (fun z => g_laws_eqLineS z.1 z.2.1) en_laws_eqLineS
theorem r_laws_eqLineS (z : argsX as_laws_eqLineS) : runF (tab C0 T_laws_eqLineS) h_laws_eqLineS 1 Tryd.f17 (lentOf as_laws_eqLineS) (xBoxes as_laws_eqLineS z) (xVals as_laws_eqLineS 0 z) K2 = t_laws_eqLineS (fun b => some (en_laws_eqLineS b)) z.1 z.2.1 := by kernel_rfl
theorem so_laws_eqLineS : Sound C0 17 k_laws_eqLineS :=
  Sound.fx a_laws_eqLineS mixed Tryd.func17 (by kernel_rfl) (by kernel_rfl) h_laws_eqLineS 1 hs_laws_eqLineS (fun z => (r_laws_eqLineS z).trans (nat_laws_eqLineS _ z.1 z.2.1))

/-! ### F18 laws.markLineS -/
noncomputable def T_laws_markLineS : List (FuncId × Contract) := []
theorem a_laws_markLineS : AllSound C0 T_laws_markLineS := .nil
abbrev s_laws_markLineS_3 : LS := ⟨[(false, [(.view (.arg 0) true 0 (.pair (.int .i64) (.pair (.int .i64) (.pair (.int .i64) (.int .i64)))))]), (false, [(.int .i64)]), (false, [(.int .i64)])], [], [(.own (.pair (.int .i64) (.pair (.int .i64) (.pair (.int .i64) (.int .i64)))))]⟩
abbrev e_laws_markLineS_3_0 : LS := ⟨[(false, [(.int .i64)])], [], [(.own (.pair (.int .i64) (.pair (.int .i64) (.pair (.int .i64) (.int .i64)))))]⟩
abbrev d_laws_markLineS_3_0 (v0 : Int) (v1 : List (Int × (Int × (Int × Int)))) : e_laws_markLineS_3_0.T := (((v0, ()), ()), (), (v1, ()))
abbrev x_laws_markLineS_3 : List (Ex × LS) := [(.exit 0, e_laws_markLineS_3_0)]
abbrev m_laws_markLineS_3 (x0 : List (Int × (Int × (Int × Int)))) (x1 : Int) (x5 : Int) (o : List (Int × (Int × (Int × Int)))) : s_laws_markLineS_3.T := (((x0, ()), (x1, ()), (x5, ()), ()), (), (o, ()))
noncomputable def u_laws_markLineS_3 {R : Type} (nx : s_laws_markLineS_3.T → Option R) (hx : exH R x_laws_markLineS_3) (x0 : List (Int × (Int × (Int × Int)))) (x1 : Int) (x5 : Int) (o : List (Int × (Int × (Int × Int)))) : Option R :=
  cond (decide (x5 < (((List.length x0) : Nat) : Int)))
  (Option.bind (idx x0 x5) fun y531 =>
   Option.bind (idx (List.set x0 (0 + (Int.toNat x5)) (x1, y531.2)) x5) fun y532 =>
   Option.bind (idx (List.set (List.set x0 (0 + (Int.toNat x5)) (x1, y531.2)) (0 + (Int.toNat x5)) (y532.1, ((IntKind.wrap IntKind.i64 (x1 + (1 : Int))), y532.2.2))) x5) fun y533 =>
   Option.bind (idx (List.set (List.set (List.set x0 (0 + (Int.toNat x5)) (x1, y531.2)) (0 + (Int.toNat x5)) (y532.1, ((IntKind.wrap IntKind.i64 (x1 + (1 : Int))), y532.2.2))) (0 + (Int.toNat x5)) (y533.1, (y533.2.1, ((IntKind.wrap IntKind.i64 ((IntKind.wrap IntKind.i64 (x1 + (1 : Int))) + (1 : Int))), y533.2.2.2)))) x5) fun y534 =>
   nx (m_laws_markLineS_3 (List.set (List.set (List.set (List.set x0 (0 + (Int.toNat x5)) (x1, y531.2)) (0 + (Int.toNat x5)) (y532.1, ((IntKind.wrap IntKind.i64 (x1 + (1 : Int))), y532.2.2))) (0 + (Int.toNat x5)) (y533.1, (y533.2.1, ((IntKind.wrap IntKind.i64 ((IntKind.wrap IntKind.i64 (x1 + (1 : Int))) + (1 : Int))), y533.2.2.2)))) (0 + (Int.toNat x5)) (y534.1, (y534.2.1, (y534.2.2.1, (IntKind.wrap IntKind.i64 ((IntKind.wrap IntKind.i64 ((IntKind.wrap IntKind.i64 (x1 + (1 : Int))) + (1 : Int))) + (1 : Int))))))) (IntKind.wrap IntKind.i64 ((IntKind.wrap IntKind.i64 ((IntKind.wrap IntKind.i64 ((IntKind.wrap IntKind.i64 (x1 + (1 : Int))) + (1 : Int))) + (1 : Int))) + (1 : Int))) (IntKind.wrap IntKind.i64 (x5 + (1 : Int))) (List.set (List.set (List.set (List.set o (0 + (Int.toNat x5)) (x1, y531.2)) (0 + (Int.toNat x5)) (y532.1, ((IntKind.wrap IntKind.i64 (x1 + (1 : Int))), y532.2.2))) (0 + (Int.toNat x5)) (y533.1, (y533.2.1, ((IntKind.wrap IntKind.i64 ((IntKind.wrap IntKind.i64 (x1 + (1 : Int))) + (1 : Int))), y533.2.2.2)))) (0 + (Int.toNat x5)) (y534.1, (y534.2.1, (y534.2.2.1, (IntKind.wrap IntKind.i64 ((IntKind.wrap IntKind.i64 ((IntKind.wrap IntKind.i64 (x1 + (1 : Int))) + (1 : Int))) + (1 : Int)))))))))
  (hx.1 (d_laws_markLineS_3_0 x1 o))
noncomputable def t_laws_markLineS_3 {R : Type} (nx : s_laws_markLineS_3.T → Option R) (hx : exH R x_laws_markLineS_3) (z : s_laws_markLineS_3.T) : Option R := u_laws_markLineS_3 nx hx z.1.1.1 z.1.2.1.1 z.1.2.2.1.1 z.2.2.1
theorem nat_laws_markLineS_3 : Natural @t_laws_markLineS_3 := fun R nx hx z => by
  show u_laws_markLineS_3 nx hx z.1.1.1 z.1.2.1.1 z.1.2.2.1.1 z.2.2.1 = (u_laws_markLineS_3 (fun y => some (.inl y)) (hIn x_laws_markLineS_3 fun x => some (.inr x)) z.1.1.1 z.1.2.1.1 z.1.2.2.1.1 z.2.2.1).bind (goOn nx hx)
  unfold u_laws_markLineS_3
  exact nat_cond (nat_bind fun _ => nat_bind fun _ => nat_bind fun _ => nat_bind fun _ => rfl) (rfl)
noncomputable def w_laws_markLineS_3 : s_laws_markLineS_3.T → Option (exT x_laws_markLineS_3) := wOf @t_laws_markLineS_3
theorem wq_laws_markLineS_3 (x0 : List (Int × (Int × (Int × Int)))) (x1 : Int) (x5 : Int) (o : List (Int × (Int × (Int × Int)))) : w_laws_markLineS_3 (m_laws_markLineS_3 x0 x1 x5 o) = u_laws_markLineS_3 w_laws_markLineS_3 (hIn x_laws_markLineS_3 some) x0 x1 x5 o := wOf_eq nat_laws_markLineS_3 _
def lh_laws_markLineS_3 : LoopHint := ⟨[0, 1, 5], [], [1], []⟩
noncomputable def h_laws_markLineS : Hints Rv := ⟨fun k => match k with | 3 => lh_laws_markLineS_3 | _ => ⟨[], [], [], []⟩, fun k => match k with | 3 => some (loopX s_laws_markLineS_3 x_laws_markLineS_3 w_laws_markLineS_3) | _ => none⟩
theorem st_laws_markLineS_3 (n : Nat) (z : s_laws_markLineS_3.T) (k : Ex → Live → Option Rv) : loopN ⟨44, 44⟩ lh_laws_markLineS_3 (den (tab C0 T_laws_markLineS) ⟨44, 44⟩ h_laws_markLineS 1 (loopOf Tryd.f18 2)) (n + 1) (s_laws_markLineS_3.enc z) k =
    t_laws_markLineS_3 (fun y => loopN ⟨44, 44⟩ lh_laws_markLineS_3 (den (tab C0 T_laws_markLineS) ⟨44, 44⟩ h_laws_markLineS 1 (loopOf Tryd.f18 2)) n (s_laws_markLineS_3.enc y) k) (hK k x_laws_markLineS_3) z := by kernel_rfl
theorem hs_laws_markLineS : HintsOk (tab C0 T_laws_markLineS) ⟨44, 44⟩ h_laws_markLineS 1 (loops (codeOf Tryd.f18)) := by
  have hl : loops (codeOf Tryd.f18) = [loopOf Tryd.f18 2] := by kernel_rfl
  rw [hl]
  exact HintsOk.cons (n := 3) (lh := lh_laws_markLineS_3) (S := loopX s_laws_markLineS_3 x_laws_markLineS_3 w_laws_markLineS_3) (by kernel_rfl) rfl rfl (loopX_ok nat_laws_markLineS_3 st_laws_markLineS_3)
    (HintsOk.nil)
noncomputable def t_laws_markLineS {R : Type} (kx : Int × (List (Int × (Int × (Int × Int)))) → Option R) (a0 : List (Int × (Int × (Int × Int)))) (a1 : Int) : Option R :=
  Option.bind (w_laws_markLineS_3 (m_laws_markLineS_3 a0 a1 (0 : Int) a0)) (exC x_laws_markLineS_3
  (fun e535 =>
   kx ((e535.1.1.1 : Int), (e535.2.2.1 : List (Int × (Int × (Int × Int))))), ()))
noncomputable def g_laws_markLineS (a0 : List (Int × (Int × (Int × Int)))) (a1 : Int) : Option (Int × (List (Int × (Int × (Int × Int))))) := t_laws_markLineS some a0 a1
theorem nat_laws_markLineS {R : Type} (kx : Int × (List (Int × (Int × (Int × Int)))) → Option R) (a0 : List (Int × (Int × (Int × Int)))) (a1 : Int) : t_laws_markLineS kx a0 a1 = (g_laws_markLineS a0 a1).bind kx := by
  unfold g_laws_markLineS t_laws_markLineS
  exact nat_exC ⟨fun _ => rfl, trivial⟩
abbrev as_laws_markLineS : List AX := [.io (.pair (.int .i64) (.pair (.int .i64) (.pair (.int .i64) (.int .i64)))), .val false (.int .i64)]
abbrev en_laws_markLineS : Int × (List (Int × (Int × (Int × Int)))) → AV × List CV := fun b => (.one ⟨false, [(.v (.int .i64 b.1))]⟩, [(.own (.pair (.int .i64) (.pair (.int .i64) (.pair (.int .i64) (.int .i64)))) b.2)])
noncomputable abbrev k_laws_markLineS : Contract := .fx as_laws_markLineS (Int × (List (Int × (Int × (Int × Int))))) (fun z => g_laws_markLineS z.1 z.2.1) en_laws_markLineS
theorem r_laws_markLineS (z : argsX as_laws_markLineS) : runF (tab C0 T_laws_markLineS) h_laws_markLineS 1 Tryd.f18 (lentOf as_laws_markLineS) (xBoxes as_laws_markLineS z) (xVals as_laws_markLineS 0 z) K2 = t_laws_markLineS (fun b => some (en_laws_markLineS b)) z.1 z.2.1 := by kernel_rfl
theorem so_laws_markLineS : Sound C0 18 k_laws_markLineS :=
  Sound.fx a_laws_markLineS mixed Tryd.func18 (by kernel_rfl) (by kernel_rfl) h_laws_markLineS 1 hs_laws_markLineS (fun z => (r_laws_markLineS z).trans (nat_laws_markLineS _ z.1 z.2.1))

/-! ### F19 laws.heldLineS -/
noncomputable def T_laws_heldLineS : List (FuncId × Contract) := []
theorem a_laws_heldLineS : AllSound C0 T_laws_heldLineS := .nil
abbrev s_laws_heldLineS_3 : LS := ⟨[(false, [(.sl (.pair (.int .i64) (.pair (.int .i64) (.pair (.int .i64) (.int .i64)))))]), (false, [(.int .i64)]), (false, [(.int .i64)])], [], []⟩
abbrev e_laws_heldLineS_3_0 : LS := ⟨[(false, [(.int .i64)]), (false, [(.int .i64)])], [], []⟩
abbrev d_laws_heldLineS_3_0 (v0 : Int) (v1 : Int) : e_laws_heldLineS_3_0.T := (((v0, ()), (v1, ()), ()), (), ())
abbrev e_laws_heldLineS_3_1 : LS := ⟨[(false, [(.int .i64)]), (false, [.undef])], [], []⟩
abbrev d_laws_heldLineS_3_1 (v0 : Int) : e_laws_heldLineS_3_1.T := (((v0, ()), ((), ()), ()), (), ())
abbrev x_laws_heldLineS_3 : List (Ex × LS) := [(.ret, e_laws_heldLineS_3_0), (.exit 0, e_laws_heldLineS_3_1)]
abbrev m_laws_heldLineS_3 (x0 : List (Int × (Int × (Int × Int)))) (x1 : Int) (x5 : Int) : s_laws_heldLineS_3.T := (((x0, ()), (x1, ()), (x5, ()), ()), (), ())
noncomputable def u_laws_heldLineS_3 {R : Type} (nx : s_laws_heldLineS_3.T → Option R) (hx : exH R x_laws_heldLineS_3) (x0 : List (Int × (Int × (Int × Int)))) (x1 : Int) (x5 : Int) : Option R :=
  cond (decide (x5 < (((List.length x0) : Nat) : Int)))
  (Option.bind (idx x0 x5) fun y544 =>
   cond (y544.1 != x1)
   (hx.1 (d_laws_heldLineS_3_0 x1 (-(1 : Int))))
   (Option.bind (idx x0 x5) fun y545 =>
    cond (y545.2.1 != (IntKind.wrap IntKind.i64 (x1 + (1 : Int))))
    (hx.1 (d_laws_heldLineS_3_0 (IntKind.wrap IntKind.i64 (x1 + (1 : Int))) (-(1 : Int))))
    (Option.bind (idx x0 x5) fun y546 =>
     cond (y546.2.2.1 != (IntKind.wrap IntKind.i64 ((IntKind.wrap IntKind.i64 (x1 + (1 : Int))) + (1 : Int))))
     (hx.1 (d_laws_heldLineS_3_0 (IntKind.wrap IntKind.i64 ((IntKind.wrap IntKind.i64 (x1 + (1 : Int))) + (1 : Int))) (-(1 : Int))))
     (Option.bind (idx x0 x5) fun y547 =>
      cond (y547.2.2.2 != (IntKind.wrap IntKind.i64 ((IntKind.wrap IntKind.i64 ((IntKind.wrap IntKind.i64 (x1 + (1 : Int))) + (1 : Int))) + (1 : Int))))
      (hx.1 (d_laws_heldLineS_3_0 (IntKind.wrap IntKind.i64 ((IntKind.wrap IntKind.i64 ((IntKind.wrap IntKind.i64 (x1 + (1 : Int))) + (1 : Int))) + (1 : Int))) (-(1 : Int))))
      (nx (m_laws_heldLineS_3 x0 (IntKind.wrap IntKind.i64 ((IntKind.wrap IntKind.i64 ((IntKind.wrap IntKind.i64 ((IntKind.wrap IntKind.i64 (x1 + (1 : Int))) + (1 : Int))) + (1 : Int))) + (1 : Int))) (IntKind.wrap IntKind.i64 (x5 + (1 : Int)))))))))
  (hx.2.1 (d_laws_heldLineS_3_1 x1))
noncomputable def t_laws_heldLineS_3 {R : Type} (nx : s_laws_heldLineS_3.T → Option R) (hx : exH R x_laws_heldLineS_3) (z : s_laws_heldLineS_3.T) : Option R := u_laws_heldLineS_3 nx hx z.1.1.1 z.1.2.1.1 z.1.2.2.1.1
theorem nat_laws_heldLineS_3 : Natural @t_laws_heldLineS_3 := fun R nx hx z => by
  show u_laws_heldLineS_3 nx hx z.1.1.1 z.1.2.1.1 z.1.2.2.1.1 = (u_laws_heldLineS_3 (fun y => some (.inl y)) (hIn x_laws_heldLineS_3 fun x => some (.inr x)) z.1.1.1 z.1.2.1.1 z.1.2.2.1.1).bind (goOn nx hx)
  unfold u_laws_heldLineS_3
  exact nat_cond (nat_bind fun _ => nat_cond (rfl) (nat_bind fun _ => nat_cond (rfl) (nat_bind fun _ => nat_cond (rfl) (nat_bind fun _ => nat_cond (rfl) (rfl))))) (rfl)
noncomputable def w_laws_heldLineS_3 : s_laws_heldLineS_3.T → Option (exT x_laws_heldLineS_3) := wOf @t_laws_heldLineS_3
theorem wq_laws_heldLineS_3 (x0 : List (Int × (Int × (Int × Int)))) (x1 : Int) (x5 : Int) : w_laws_heldLineS_3 (m_laws_heldLineS_3 x0 x1 x5) = u_laws_heldLineS_3 w_laws_heldLineS_3 (hIn x_laws_heldLineS_3 some) x0 x1 x5 := wOf_eq nat_laws_heldLineS_3 _
def lh_laws_heldLineS_3 : LoopHint := ⟨[0, 1, 5], [], [1, 4], []⟩
noncomputable def h_laws_heldLineS : Hints Rv := ⟨fun k => match k with | 3 => lh_laws_heldLineS_3 | _ => ⟨[], [], [], []⟩, fun k => match k with | 3 => some (loopX s_laws_heldLineS_3 x_laws_heldLineS_3 w_laws_heldLineS_3) | _ => none⟩
theorem st_laws_heldLineS_3 (n : Nat) (z : s_laws_heldLineS_3.T) (k : Ex → Live → Option Rv) : loopN ⟨52, 52⟩ lh_laws_heldLineS_3 (den (tab C0 T_laws_heldLineS) ⟨52, 52⟩ h_laws_heldLineS 1 (loopOf Tryd.f19 2)) (n + 1) (s_laws_heldLineS_3.enc z) k =
    t_laws_heldLineS_3 (fun y => loopN ⟨52, 52⟩ lh_laws_heldLineS_3 (den (tab C0 T_laws_heldLineS) ⟨52, 52⟩ h_laws_heldLineS 1 (loopOf Tryd.f19 2)) n (s_laws_heldLineS_3.enc y) k) (hK k x_laws_heldLineS_3) z := by kernel_rfl
theorem hs_laws_heldLineS : HintsOk (tab C0 T_laws_heldLineS) ⟨52, 52⟩ h_laws_heldLineS 1 (loops (codeOf Tryd.f19)) := by
  have hl : loops (codeOf Tryd.f19) = [loopOf Tryd.f19 2] := by kernel_rfl
  rw [hl]
  exact HintsOk.cons (n := 3) (lh := lh_laws_heldLineS_3) (S := loopX s_laws_heldLineS_3 x_laws_heldLineS_3 w_laws_heldLineS_3) (by kernel_rfl) rfl rfl (loopX_ok nat_laws_heldLineS_3 st_laws_heldLineS_3)
    (HintsOk.nil)
noncomputable def t_laws_heldLineS {R : Type} (kx : Int → Option R) (a0 : (List (Int × (Int × (Int × Int))))) (a1 : Int) : Option R :=
  Option.bind (w_laws_heldLineS_3 (m_laws_heldLineS_3 a0 a1 (0 : Int))) (exC x_laws_heldLineS_3
  (fun e548 =>
   kx (e548.1.2.1.1 : Int), fun e551 =>
   kx (e551.1.1.1 : Int), ()))
noncomputable def g_laws_heldLineS (a0 : (List (Int × (Int × (Int × Int))))) (a1 : Int) : Option (Int) := t_laws_heldLineS some a0 a1
theorem nat_laws_heldLineS {R : Type} (kx : Int → Option R) (a0 : (List (Int × (Int × (Int × Int))))) (a1 : Int) : t_laws_heldLineS kx a0 a1 = (g_laws_heldLineS a0 a1).bind kx := by
  unfold g_laws_heldLineS t_laws_heldLineS
  exact nat_exC ⟨fun _ => rfl, fun _ => rfl, trivial⟩
abbrev as_laws_heldLineS : List AX := [.val false (.slice (.pair (.int .i64) (.pair (.int .i64) (.pair (.int .i64) (.int .i64))))), .val false (.int .i64)]
abbrev en_laws_heldLineS : Int → AV × List CV := fun b => (.one ⟨false, [(.v (.int .i64 b))]⟩, [])
noncomputable abbrev k_laws_heldLineS : Contract := .fx as_laws_heldLineS (Int) (fun z => g_laws_heldLineS z.1 z.2.1) en_laws_heldLineS
theorem r_laws_heldLineS (z : argsX as_laws_heldLineS) : runF (tab C0 T_laws_heldLineS) h_laws_heldLineS 1 Tryd.f19 (lentOf as_laws_heldLineS) (xBoxes as_laws_heldLineS z) (xVals as_laws_heldLineS 0 z) K2 = t_laws_heldLineS (fun b => some (en_laws_heldLineS b)) z.1 z.2.1 := by kernel_rfl
theorem so_laws_heldLineS : Sound C0 19 k_laws_heldLineS :=
  Sound.fx a_laws_heldLineS mixed Tryd.func19 (by kernel_rfl) (by kernel_rfl) h_laws_heldLineS 1 hs_laws_heldLineS (fun z => (r_laws_heldLineS z).trans (nat_laws_heldLineS _ z.1 z.2.1))

/-! ### F5 laws.FnExactFoldPointLine -/
noncomputable def T_laws_FnExactFoldPointLine : List (FuncId × Contract) := [(14, k_laws_toPoint), (15, k_laws_toLine), (20, k_spec_FoldPointLine), (21, k_impl_FoldPointLine), (17, k_laws_eqLineS), (18, k_laws_markLineS), (19, k_laws_heldLineS)]
theorem a_laws_FnExactFoldPointLine : AllSound C0 T_laws_FnExactFoldPointLine := .cons so_laws_toPoint (.cons so_laws_toLine (.cons so_spec_FoldPointLine (.cons so_impl_FoldPointLine (.cons so_laws_eqLineS (.cons so_laws_markLineS (.cons so_laws_heldLineS (.nil)))))))
noncomputable def t_laws_FnExactFoldPointLine {R : Type} (kx : Bool → Option R) (a0 : ((Int × (Int × Int)) × (Int × (Int × Int)))) (a1 : (Int × (Int × (Int × Int)))) (a2 : ((Int × (Int × Int)) × (Int × (Int × Int)))) : Option R :=
  Option.bind (g_laws_toPoint a0) fun y7 =>
  Option.bind (g_laws_toLine a1) fun y10 =>
  Option.bind (g_laws_toPoint a2) fun y11 =>
  Option.bind (g_spec_FoldPointLine y7 y10 y11) fun y249 =>
  Option.bind (g_laws_toPoint a0) fun y250 =>
  Option.bind (g_laws_toLine a1) fun y251 =>
  Option.bind (g_laws_toPoint a2) fun y252 =>
  Option.bind (g_impl_FoldPointLine y250 y251 y252) fun y507 =>
  Option.bind (g_laws_eqLineS y507.1 y249.1) fun y524 =>
  cond (!y524)
  (kx Bool.false)
  (cond (y507.2 != y249.2)
   (kx Bool.false)
   (cond (decide ((List.length y507.1) = (List.length y507.1)))
    (Option.bind (g_laws_markLineS y507.1 (1 : Int)) fun y538 =>
     Option.bind (g_laws_heldLineS y538.2 (1 : Int)) fun y553 =>
     cond (decide (y553 < (0 : Int)))
     (kx Bool.false)
     (cond (y553 != y538.1)
      (kx Bool.false)
      (Option.bind (g_laws_toPoint a0) fun y554 =>
       Option.bind (g_laws_toLine a1) fun y555 =>
       Option.bind (g_laws_toPoint a2) fun y556 =>
       Option.bind (g_impl_FoldPointLine y554 y555 y556) fun y557 =>
       Option.bind (g_laws_eqLineS y557.1 y249.1) fun y558 =>
       cond (!y558)
       (kx Bool.false)
       (cond (y557.2 != y249.2)
        (kx Bool.false)
        (Option.bind (g_laws_heldLineS y538.2 (1 : Int)) fun y559 =>
         cond (decide (y559 < (0 : Int)))
         (kx Bool.false)
         (cond (y559 != y538.1)
          (kx Bool.false)
          (kx Bool.true)))))))
    (none)))
noncomputable def g_laws_FnExactFoldPointLine (a0 : ((Int × (Int × Int)) × (Int × (Int × Int)))) (a1 : (Int × (Int × (Int × Int)))) (a2 : ((Int × (Int × Int)) × (Int × (Int × Int)))) : Option (Bool) := t_laws_FnExactFoldPointLine some a0 a1 a2
theorem nat_laws_FnExactFoldPointLine {R : Type} (kx : Bool → Option R) (a0 : ((Int × (Int × Int)) × (Int × (Int × Int)))) (a1 : (Int × (Int × (Int × Int)))) (a2 : ((Int × (Int × Int)) × (Int × (Int × Int)))) : t_laws_FnExactFoldPointLine kx a0 a1 a2 = (g_laws_FnExactFoldPointLine a0 a1 a2).bind kx := by
  unfold g_laws_FnExactFoldPointLine t_laws_FnExactFoldPointLine
  exact nat_bind fun _ => nat_bind fun _ => nat_bind fun _ => nat_bind fun _ => nat_bind fun _ => nat_bind fun _ => nat_bind fun _ => nat_bind fun _ => nat_bind fun _ => nat_cond (rfl) (nat_cond (rfl) (nat_cond (nat_bind fun _ => nat_bind fun _ => nat_cond (rfl) (nat_cond (rfl) (nat_bind fun _ => nat_bind fun _ => nat_bind fun _ => nat_bind fun _ => nat_bind fun _ => nat_cond (rfl) (nat_cond (rfl) (nat_bind fun _ => nat_cond (rfl) (nat_cond (rfl) (rfl))))))) (rfl)))
abbrev as_laws_FnExactFoldPointLine : List AX := [.val true (.pair (.pair (.int .i64) (.pair (.int .i64) (.int .i64))) (.pair (.int .i64) (.pair (.int .i64) (.int .i64)))), .val true (.pair (.int .i64) (.pair (.int .i64) (.pair (.int .i64) (.int .i64)))), .val true (.pair (.pair (.int .i64) (.pair (.int .i64) (.int .i64))) (.pair (.int .i64) (.pair (.int .i64) (.int .i64))))]
abbrev en_laws_FnExactFoldPointLine : Bool → AV × List CV := fun b => (.one ⟨false, [(.v (.bool b))]⟩, [])
noncomputable abbrev k_laws_FnExactFoldPointLine : Contract := .fx as_laws_FnExactFoldPointLine (Bool) (fun z => g_laws_FnExactFoldPointLine z.1 z.2.1 z.2.2.1) en_laws_FnExactFoldPointLine
theorem r_laws_FnExactFoldPointLine (z : argsX as_laws_FnExactFoldPointLine) : runF (tab C0 T_laws_FnExactFoldPointLine) noHints 1 Tryd.f5 (lentOf as_laws_FnExactFoldPointLine) (xBoxes as_laws_FnExactFoldPointLine z) (xVals as_laws_FnExactFoldPointLine 0 z) K2 = t_laws_FnExactFoldPointLine (fun b => some (en_laws_FnExactFoldPointLine b)) z.1 z.2.1 z.2.2.1 := by kernel_rfl
theorem so_laws_FnExactFoldPointLine : Sound C0 5 k_laws_FnExactFoldPointLine :=
  Sound.fx a_laws_FnExactFoldPointLine mixed Tryd.func5 (by kernel_rfl) (by kernel_rfl) noHints 1 noHints_ok (fun z => (r_laws_FnExactFoldPointLine z).trans (nat_laws_FnExactFoldPointLine _ z.1 z.2.1 z.2.2.1))

end Go.Proofs.YtooaomcmhgpbpaaDoor
