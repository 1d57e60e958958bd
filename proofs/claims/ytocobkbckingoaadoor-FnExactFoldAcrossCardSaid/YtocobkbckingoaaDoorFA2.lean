/- What the functions that FoldAcross reaches compute, printed. No conditions. -/
import Derived.Test.YtocobkbckingoaaDoorW1E
namespace Go.Proofs.YtocobkbckingoaaDoor
open Go.Vai
set_option maxRecDepth 100000

/-! ### F40 laws.toNum -/
noncomputable def T_laws_toNum : List (FuncId × Contract) := []
theorem a_laws_toNum : AllSound C0 T_laws_toNum := .nil
noncomputable def t_laws_toNum {R : Type} (kx : (Int × (Int × Int)) → Option R) (a0 : (Int × (Int × Int))) : Option R :=
  kx a0
noncomputable def g_laws_toNum (a0 : (Int × (Int × Int))) : Option ((Int × (Int × Int))) := t_laws_toNum some a0
theorem nat_laws_toNum {R : Type} (kx : (Int × (Int × Int)) → Option R) (a0 : (Int × (Int × Int))) : t_laws_toNum kx a0 = (g_laws_toNum a0).bind kx := by
  unfold g_laws_toNum t_laws_toNum
  exact rfl
abbrev as_laws_toNum : List AX := [.val true (.pair (.int .i64) (.pair (.int .i64) (.int .i64)))]
abbrev en_laws_toNum : (Int × (Int × Int)) → AV × List CV := fun b => (.one ⟨true, [(.v (.int .i64 b.1)), (.v (.int .i64 b.2.1)), (.v (.int .i64 b.2.2))]⟩, [])
noncomputable abbrev k_laws_toNum : Contract := .fx as_laws_toNum ((Int × (Int × Int))) (fun z => g_laws_toNum z.1) en_laws_toNum
theorem r_laws_toNum (z : argsX as_laws_toNum) : runF (tab C0 T_laws_toNum) noHints 1 Tryd.f40 (lentOf as_laws_toNum) (xBoxes as_laws_toNum z) (xVals as_laws_toNum 0 z) K2 = t_laws_toNum (fun b => some (en_laws_toNum b)) z.1 := by kernel_rfl
theorem so_laws_toNum : Sound C0 40 k_laws_toNum :=
  Sound.fx a_laws_toNum mixed Tryd.func40 (by kernel_rfl) (by kernel_rfl) noHints 1 noHints_ok (fun z => (r_laws_toNum z).trans (nat_laws_toNum _ z.1))

/-! ### F12 laws.toPoint -/
noncomputable def T_laws_toPoint : List (FuncId × Contract) := [(40, k_laws_toNum)]
theorem a_laws_toPoint : AllSound C0 T_laws_toPoint := .cons so_laws_toNum (.nil)
noncomputable def t_laws_toPoint {R : Type} (kx : ((Int × (Int × Int)) × (Int × (Int × Int))) → Option R) (a0 : ((Int × (Int × Int)) × (Int × (Int × Int)))) : Option R :=
  Option.bind (g_laws_toNum a0.1) fun y5 =>
  Option.bind (g_laws_toNum a0.2) fun y6 =>
  kx (y5, y6)
noncomputable def g_laws_toPoint (a0 : ((Int × (Int × Int)) × (Int × (Int × Int)))) : Option (((Int × (Int × Int)) × (Int × (Int × Int)))) := t_laws_toPoint some a0
theorem nat_laws_toPoint {R : Type} (kx : ((Int × (Int × Int)) × (Int × (Int × Int))) → Option R) (a0 : ((Int × (Int × Int)) × (Int × (Int × Int)))) : t_laws_toPoint kx a0 = (g_laws_toPoint a0).bind kx := by
  unfold g_laws_toPoint t_laws_toPoint
  exact nat_bind fun _ => nat_bind fun _ => rfl
abbrev as_laws_toPoint : List AX := [.val true (.pair (.pair (.int .i64) (.pair (.int .i64) (.int .i64))) (.pair (.int .i64) (.pair (.int .i64) (.int .i64))))]
abbrev en_laws_toPoint : ((Int × (Int × Int)) × (Int × (Int × Int))) → AV × List CV := fun b => (.one ⟨true, [(.v (.int .i64 b.1.1)), (.v (.int .i64 b.1.2.1)), (.v (.int .i64 b.1.2.2)), (.v (.int .i64 b.2.1)), (.v (.int .i64 b.2.2.1)), (.v (.int .i64 b.2.2.2))]⟩, [])
noncomputable abbrev k_laws_toPoint : Contract := .fx as_laws_toPoint (((Int × (Int × Int)) × (Int × (Int × Int)))) (fun z => g_laws_toPoint z.1) en_laws_toPoint
theorem r_laws_toPoint (z : argsX as_laws_toPoint) : runF (tab C0 T_laws_toPoint) noHints 1 Tryd.f12 (lentOf as_laws_toPoint) (xBoxes as_laws_toPoint z) (xVals as_laws_toPoint 0 z) K2 = t_laws_toPoint (fun b => some (en_laws_toPoint b)) z.1 := by kernel_rfl
theorem so_laws_toPoint : Sound C0 12 k_laws_toPoint :=
  Sound.fx a_laws_toPoint mixed Tryd.func12 (by kernel_rfl) (by kernel_rfl) noHints 1 noHints_ok (fun z => (r_laws_toPoint z).trans (nat_laws_toPoint _ z.1))

/-! ### F11 laws.toLine -/
noncomputable def T_laws_toLine : List (FuncId × Contract) := [(40, k_laws_toNum)]
theorem a_laws_toLine : AllSound C0 T_laws_toLine := .cons so_laws_toNum (.nil)
noncomputable def t_laws_toLine {R : Type} (kx : (Int × (Int × (Int × Int))) → Option R) (a0 : (Int × (Int × (Int × Int)))) : Option R :=
  Option.bind (g_laws_toNum a0.2) fun y9 =>
  kx (a0.1, y9)
noncomputable def g_laws_toLine (a0 : (Int × (Int × (Int × Int)))) : Option ((Int × (Int × (Int × Int)))) := t_laws_toLine some a0
theorem nat_laws_toLine {R : Type} (kx : (Int × (Int × (Int × Int))) → Option R) (a0 : (Int × (Int × (Int × Int)))) : t_laws_toLine kx a0 = (g_laws_toLine a0).bind kx := by
  unfold g_laws_toLine t_laws_toLine
  exact nat_bind fun _ => rfl
abbrev as_laws_toLine : List AX := [.val true (.pair (.int .i64) (.pair (.int .i64) (.pair (.int .i64) (.int .i64))))]
abbrev en_laws_toLine : (Int × (Int × (Int × Int))) → AV × List CV := fun b => (.one ⟨true, [(.v (.int .i64 b.1)), (.v (.int .i64 b.2.1)), (.v (.int .i64 b.2.2.1)), (.v (.int .i64 b.2.2.2))]⟩, [])
noncomputable abbrev k_laws_toLine : Contract := .fx as_laws_toLine ((Int × (Int × (Int × Int)))) (fun z => g_laws_toLine z.1) en_laws_toLine
theorem r_laws_toLine (z : argsX as_laws_toLine) : runF (tab C0 T_laws_toLine) noHints 1 Tryd.f11 (lentOf as_laws_toLine) (xBoxes as_laws_toLine z) (xVals as_laws_toLine 0 z) K2 = t_laws_toLine (fun b => some (en_laws_toLine b)) z.1 := by kernel_rfl
theorem so_laws_toLine : Sound C0 11 k_laws_toLine :=
  Sound.fx a_laws_toLine mixed Tryd.func11 (by kernel_rfl) (by kernel_rfl) noHints 1 noHints_ok (fun z => (r_laws_toLine z).trans (nat_laws_toLine _ z.1))

/-! ### F67 spec.l00In -/
noncomputable def T_spec_l00In : List (FuncId × Contract) := []
theorem a_spec_l00In : AllSound C0 T_spec_l00In := .nil
noncomputable def t_spec_l00In {R : Type} (kx : Bool → Option R) (a0 : Int) (a1 : Int) (a2 : Int) : Option R :=
  cond (decide (a0 ≥ a1))
  (kx (decide (a0 ≤ a2)))
  (kx Bool.false)
noncomputable def g_spec_l00In (a0 : Int) (a1 : Int) (a2 : Int) : Option (Bool) := t_spec_l00In some a0 a1 a2
theorem nat_spec_l00In {R : Type} (kx : Bool → Option R) (a0 : Int) (a1 : Int) (a2 : Int) : t_spec_l00In kx a0 a1 a2 = (g_spec_l00In a0 a1 a2).bind kx := by
  unfold g_spec_l00In t_spec_l00In
  exact nat_cond (rfl) (rfl)
abbrev as_spec_l00In : List AX := [.val false (.int .i64), .val false (.int .i64), .val false (.int .i64)]
abbrev en_spec_l00In : Bool → AV × List CV := fun b => (.one ⟨false, [(.v (.bool b))]⟩, [])
noncomputable abbrev k_spec_l00In : Contract := .fx as_spec_l00In (Bool) (fun z => g_spec_l00In z.1 z.2.1 z.2.2.1) en_spec_l00In
theorem r_spec_l00In (z : argsX as_spec_l00In) : runF (tab C0 T_spec_l00In) noHints 1 Tryd.f67 (lentOf as_spec_l00In) (xBoxes as_spec_l00In z) (xVals as_spec_l00In 0 z) K2 = t_spec_l00In (fun b => some (en_spec_l00In b)) z.1 z.2.1 z.2.2.1 := by kernel_rfl
theorem so_spec_l00In : Sound C0 67 k_spec_l00In :=
  Sound.fx a_spec_l00In mixed Tryd.func67 (by kernel_rfl) (by kernel_rfl) noHints 1 noHints_ok (fun z => (r_spec_l00In z).trans (nat_spec_l00In _ z.1 z.2.1 z.2.2.1))

/-! ### F78 spec.l01Ok -/
noncomputable def T_spec_l01Ok : List (FuncId × Contract) := [(67, k_spec_l00In)]
theorem a_spec_l01Ok : AllSound C0 T_spec_l01Ok := .cons so_spec_l00In (.nil)
noncomputable def t_spec_l01Ok {R : Type} (kx : Bool → Option R) (a0 : (Int × (Int × Int))) : Option R :=
  Option.bind (g_spec_l00In a0.1 (-(131072 : Int)) (131072 : Int)) fun y20 =>
  cond (!y20)
  (kx Bool.false)
  (Option.bind (g_spec_l00In a0.2.1 (-(131072 : Int)) (131072 : Int)) fun y21 =>
   cond (!y21)
   (kx Bool.false)
   (Option.bind (g_spec_l00In a0.2.2 (0 : Int) (10 : Int)) fun y22 =>
    cond (!y22)
    (kx Bool.false)
    (cond (a0.2.2 == (0 : Int))
     (kx Bool.true)
     (cond ((Int.tmod a0.1 (2 : Int)) != (0 : Int))
      (kx Bool.true)
      (kx ((Int.tmod a0.2.1 (2 : Int)) != (0 : Int)))))))
noncomputable def g_spec_l01Ok (a0 : (Int × (Int × Int))) : Option (Bool) := t_spec_l01Ok some a0
theorem nat_spec_l01Ok {R : Type} (kx : Bool → Option R) (a0 : (Int × (Int × Int))) : t_spec_l01Ok kx a0 = (g_spec_l01Ok a0).bind kx := by
  unfold g_spec_l01Ok t_spec_l01Ok
  exact nat_bind fun _ => nat_cond (rfl) (nat_bind fun _ => nat_cond (rfl) (nat_bind fun _ => nat_cond (rfl) (nat_cond (rfl) (nat_cond (rfl) (rfl)))))
abbrev as_spec_l01Ok : List AX := [.val true (.pair (.int .i64) (.pair (.int .i64) (.int .i64)))]
abbrev en_spec_l01Ok : Bool → AV × List CV := fun b => (.one ⟨false, [(.v (.bool b))]⟩, [])
noncomputable abbrev k_spec_l01Ok : Contract := .fx as_spec_l01Ok (Bool) (fun z => g_spec_l01Ok z.1) en_spec_l01Ok
theorem r_spec_l01Ok (z : argsX as_spec_l01Ok) : runF (tab C0 T_spec_l01Ok) noHints 1 Tryd.f78 (lentOf as_spec_l01Ok) (xBoxes as_spec_l01Ok z) (xVals as_spec_l01Ok 0 z) K2 = t_spec_l01Ok (fun b => some (en_spec_l01Ok b)) z.1 := by kernel_rfl
theorem so_spec_l01Ok : Sound C0 78 k_spec_l01Ok :=
  Sound.fx a_spec_l01Ok mixed Tryd.func78 (by kernel_rfl) (by kernel_rfl) noHints 1 noHints_ok (fun z => (r_spec_l01Ok z).trans (nat_spec_l01Ok _ z.1))

/-! ### F36 spec.l02Point -/
noncomputable def T_spec_l02Point : List (FuncId × Contract) := [(78, k_spec_l01Ok)]
theorem a_spec_l02Point : AllSound C0 T_spec_l02Point := .cons so_spec_l01Ok (.nil)
noncomputable def t_spec_l02Point {R : Type} (kx : Bool → Option R) (a0 : ((Int × (Int × Int)) × (Int × (Int × Int)))) : Option R :=
  Option.bind (g_spec_l01Ok a0.1) fun y23 =>
  cond y23
  (Option.bind (g_spec_l01Ok a0.2) fun y24 =>
   kx y24)
  (kx Bool.false)
noncomputable def g_spec_l02Point (a0 : ((Int × (Int × Int)) × (Int × (Int × Int)))) : Option (Bool) := t_spec_l02Point some a0
theorem nat_spec_l02Point {R : Type} (kx : Bool → Option R) (a0 : ((Int × (Int × Int)) × (Int × (Int × Int)))) : t_spec_l02Point kx a0 = (g_spec_l02Point a0).bind kx := by
  unfold g_spec_l02Point t_spec_l02Point
  exact nat_bind fun _ => nat_cond (nat_bind fun _ => rfl) (rfl)
abbrev as_spec_l02Point : List AX := [.val true (.pair (.pair (.int .i64) (.pair (.int .i64) (.int .i64))) (.pair (.int .i64) (.pair (.int .i64) (.int .i64))))]
abbrev en_spec_l02Point : Bool → AV × List CV := fun b => (.one ⟨false, [(.v (.bool b))]⟩, [])
noncomputable abbrev k_spec_l02Point : Contract := .fx as_spec_l02Point (Bool) (fun z => g_spec_l02Point z.1) en_spec_l02Point
theorem r_spec_l02Point (z : argsX as_spec_l02Point) : runF (tab C0 T_spec_l02Point) noHints 1 Tryd.f36 (lentOf as_spec_l02Point) (xBoxes as_spec_l02Point z) (xVals as_spec_l02Point 0 z) K2 = t_spec_l02Point (fun b => some (en_spec_l02Point b)) z.1 := by kernel_rfl
theorem so_spec_l02Point : Sound C0 36 k_spec_l02Point :=
  Sound.fx a_spec_l02Point mixed Tryd.func36 (by kernel_rfl) (by kernel_rfl) noHints 1 noHints_ok (fun z => (r_spec_l02Point z).trans (nat_spec_l02Point _ z.1))

/-! ### F35 spec.l02Line -/
noncomputable def T_spec_l02Line : List (FuncId × Contract) := [(67, k_spec_l00In), (78, k_spec_l01Ok)]
theorem a_spec_l02Line : AllSound C0 T_spec_l02Line := .cons so_spec_l00In (.cons so_spec_l01Ok (.nil))
noncomputable def t_spec_l02Line {R : Type} (kx : Bool → Option R) (a0 : (Int × (Int × (Int × Int)))) : Option R :=
  Option.bind (g_spec_l00In a0.1 (0 : Int) (7 : Int)) fun y27 =>
  cond y27
  (Option.bind (g_spec_l01Ok a0.2) fun y28 =>
   kx y28)
  (kx Bool.false)
noncomputable def g_spec_l02Line (a0 : (Int × (Int × (Int × Int)))) : Option (Bool) := t_spec_l02Line some a0
theorem nat_spec_l02Line {R : Type} (kx : Bool → Option R) (a0 : (Int × (Int × (Int × Int)))) : t_spec_l02Line kx a0 = (g_spec_l02Line a0).bind kx := by
  unfold g_spec_l02Line t_spec_l02Line
  exact nat_bind fun _ => nat_cond (nat_bind fun _ => rfl) (rfl)
abbrev as_spec_l02Line : List AX := [.val true (.pair (.int .i64) (.pair (.int .i64) (.pair (.int .i64) (.int .i64))))]
abbrev en_spec_l02Line : Bool → AV × List CV := fun b => (.one ⟨false, [(.v (.bool b))]⟩, [])
noncomputable abbrev k_spec_l02Line : Contract := .fx as_spec_l02Line (Bool) (fun z => g_spec_l02Line z.1) en_spec_l02Line
theorem r_spec_l02Line (z : argsX as_spec_l02Line) : runF (tab C0 T_spec_l02Line) noHints 1 Tryd.f35 (lentOf as_spec_l02Line) (xBoxes as_spec_l02Line z) (xVals as_spec_l02Line 0 z) K2 = t_spec_l02Line (fun b => some (en_spec_l02Line b)) z.1 := by kernel_rfl
theorem so_spec_l02Line : Sound C0 35 k_spec_l02Line :=
  Sound.fx a_spec_l02Line mixed Tryd.func35 (by kernel_rfl) (by kernel_rfl) noHints 1 noHints_ok (fun z => (r_spec_l02Line z).trans (nat_spec_l02Line _ z.1))

/-! ### F81 spec.l01Of -/
noncomputable def T_spec_l01Of : List (FuncId × Contract) := []
theorem a_spec_l01Of : AllSound C0 T_spec_l01Of := .nil
noncomputable def t_spec_l01Of {R : Type} (kx : (Int × (Int × Int)) → Option R) (a0 : (Int × (Int × Int))) : Option R :=
  kx a0
noncomputable def g_spec_l01Of (a0 : (Int × (Int × Int))) : Option ((Int × (Int × Int))) := t_spec_l01Of some a0
theorem nat_spec_l01Of {R : Type} (kx : (Int × (Int × Int)) → Option R) (a0 : (Int × (Int × Int))) : t_spec_l01Of kx a0 = (g_spec_l01Of a0).bind kx := by
  unfold g_spec_l01Of t_spec_l01Of
  exact rfl
abbrev as_spec_l01Of : List AX := [.val true (.pair (.int .i64) (.pair (.int .i64) (.int .i64)))]
abbrev en_spec_l01Of : (Int × (Int × Int)) → AV × List CV := fun b => (.one ⟨true, [(.v (.int .i64 b.1)), (.v (.int .i64 b.2.1)), (.v (.int .i64 b.2.2))]⟩, [])
noncomputable abbrev k_spec_l01Of : Contract := .fx as_spec_l01Of ((Int × (Int × Int))) (fun z => g_spec_l01Of z.1) en_spec_l01Of
theorem r_spec_l01Of (z : argsX as_spec_l01Of) : runF (tab C0 T_spec_l01Of) noHints 1 Tryd.f81 (lentOf as_spec_l01Of) (xBoxes as_spec_l01Of z) (xVals as_spec_l01Of 0 z) K2 = t_spec_l01Of (fun b => some (en_spec_l01Of b)) z.1 := by kernel_rfl
theorem so_spec_l01Of : Sound C0 81 k_spec_l01Of :=
  Sound.fx a_spec_l01Of mixed Tryd.func81 (by kernel_rfl) (by kernel_rfl) noHints 1 noHints_ok (fun z => (r_spec_l01Of z).trans (nat_spec_l01Of _ z.1))

/-! ### F39 spec.l02Of -/
noncomputable def T_spec_l02Of : List (FuncId × Contract) := [(81, k_spec_l01Of)]
theorem a_spec_l02Of : AllSound C0 T_spec_l02Of := .cons so_spec_l01Of (.nil)
noncomputable def t_spec_l02Of {R : Type} (kx : ((Int × (Int × Int)) × (Int × (Int × Int))) → Option R) (a0 : ((Int × (Int × Int)) × (Int × (Int × Int)))) : Option R :=
  Option.bind (g_spec_l01Of a0.1) fun y33 =>
  Option.bind (g_spec_l01Of a0.2) fun y34 =>
  kx (y33, y34)
noncomputable def g_spec_l02Of (a0 : ((Int × (Int × Int)) × (Int × (Int × Int)))) : Option (((Int × (Int × Int)) × (Int × (Int × Int)))) := t_spec_l02Of some a0
theorem nat_spec_l02Of {R : Type} (kx : ((Int × (Int × Int)) × (Int × (Int × Int))) → Option R) (a0 : ((Int × (Int × Int)) × (Int × (Int × Int)))) : t_spec_l02Of kx a0 = (g_spec_l02Of a0).bind kx := by
  unfold g_spec_l02Of t_spec_l02Of
  exact nat_bind fun _ => nat_bind fun _ => rfl
abbrev as_spec_l02Of : List AX := [.val true (.pair (.pair (.int .i64) (.pair (.int .i64) (.int .i64))) (.pair (.int .i64) (.pair (.int .i64) (.int .i64))))]
abbrev en_spec_l02Of : ((Int × (Int × Int)) × (Int × (Int × Int))) → AV × List CV := fun b => (.one ⟨true, [(.v (.int .i64 b.1.1)), (.v (.int .i64 b.1.2.1)), (.v (.int .i64 b.1.2.2)), (.v (.int .i64 b.2.1)), (.v (.int .i64 b.2.2.1)), (.v (.int .i64 b.2.2.2))]⟩, [])
noncomputable abbrev k_spec_l02Of : Contract := .fx as_spec_l02Of (((Int × (Int × Int)) × (Int × (Int × Int)))) (fun z => g_spec_l02Of z.1) en_spec_l02Of
theorem r_spec_l02Of (z : argsX as_spec_l02Of) : runF (tab C0 T_spec_l02Of) noHints 1 Tryd.f39 (lentOf as_spec_l02Of) (xBoxes as_spec_l02Of z) (xVals as_spec_l02Of 0 z) K2 = t_spec_l02Of (fun b => some (en_spec_l02Of b)) z.1 := by kernel_rfl
theorem so_spec_l02Of : Sound C0 39 k_spec_l02Of :=
  Sound.fx a_spec_l02Of mixed Tryd.func39 (by kernel_rfl) (by kernel_rfl) noHints 1 noHints_ok (fun z => (r_spec_l02Of z).trans (nat_spec_l02Of _ z.1))

/-! ### F38 spec.l02LineOf -/
noncomputable def T_spec_l02LineOf : List (FuncId × Contract) := [(81, k_spec_l01Of)]
theorem a_spec_l02LineOf : AllSound C0 T_spec_l02LineOf := .cons so_spec_l01Of (.nil)
noncomputable def t_spec_l02LineOf {R : Type} (kx : (Int × (Int × (Int × Int))) → Option R) (a0 : (Int × (Int × (Int × Int)))) : Option R :=
  Option.bind (g_spec_l01Of a0.2) fun y37 =>
  kx (a0.1, y37)
noncomputable def g_spec_l02LineOf (a0 : (Int × (Int × (Int × Int)))) : Option ((Int × (Int × (Int × Int)))) := t_spec_l02LineOf some a0
theorem nat_spec_l02LineOf {R : Type} (kx : (Int × (Int × (Int × Int))) → Option R) (a0 : (Int × (Int × (Int × Int)))) : t_spec_l02LineOf kx a0 = (g_spec_l02LineOf a0).bind kx := by
  unfold g_spec_l02LineOf t_spec_l02LineOf
  exact nat_bind fun _ => rfl
abbrev as_spec_l02LineOf : List AX := [.val true (.pair (.int .i64) (.pair (.int .i64) (.pair (.int .i64) (.int .i64))))]
abbrev en_spec_l02LineOf : (Int × (Int × (Int × Int))) → AV × List CV := fun b => (.one ⟨true, [(.v (.int .i64 b.1)), (.v (.int .i64 b.2.1)), (.v (.int .i64 b.2.2.1)), (.v (.int .i64 b.2.2.2))]⟩, [])
noncomputable abbrev k_spec_l02LineOf : Contract := .fx as_spec_l02LineOf ((Int × (Int × (Int × Int)))) (fun z => g_spec_l02LineOf z.1) en_spec_l02LineOf
theorem r_spec_l02LineOf (z : argsX as_spec_l02LineOf) : runF (tab C0 T_spec_l02LineOf) noHints 1 Tryd.f38 (lentOf as_spec_l02LineOf) (xBoxes as_spec_l02LineOf z) (xVals as_spec_l02LineOf 0 z) K2 = t_spec_l02LineOf (fun b => some (en_spec_l02LineOf b)) z.1 := by kernel_rfl
theorem so_spec_l02LineOf : Sound C0 38 k_spec_l02LineOf :=
  Sound.fx a_spec_l02LineOf mixed Tryd.func38 (by kernel_rfl) (by kernel_rfl) noHints 1 noHints_ok (fun z => (r_spec_l02LineOf z).trans (nat_spec_l02LineOf _ z.1))

/-! ### F105 spec.l02Mod -/
noncomputable def T_spec_l02Mod : List (FuncId × Contract) := []
theorem a_spec_l02Mod : AllSound C0 T_spec_l02Mod := .nil
noncomputable def t_spec_l02Mod {R : Type} (kx : Int → Option R) (a0 : Int) : Option R :=
  kx (Int.tmod (IntKind.wrap IntKind.i64 ((Int.tmod a0 (16 : Int)) + (16 : Int))) (16 : Int))
noncomputable def g_spec_l02Mod (a0 : Int) : Option (Int) := t_spec_l02Mod some a0
theorem nat_spec_l02Mod {R : Type} (kx : Int → Option R) (a0 : Int) : t_spec_l02Mod kx a0 = (g_spec_l02Mod a0).bind kx := by
  unfold g_spec_l02Mod t_spec_l02Mod
  exact rfl
abbrev as_spec_l02Mod : List AX := [.val false (.int .i64)]
abbrev en_spec_l02Mod : Int → AV × List CV := fun b => (.one ⟨false, [(.v (.int .i64 b))]⟩, [])
noncomputable abbrev k_spec_l02Mod : Contract := .fx as_spec_l02Mod (Int) (fun z => g_spec_l02Mod z.1) en_spec_l02Mod
theorem r_spec_l02Mod (z : argsX as_spec_l02Mod) : runF (tab C0 T_spec_l02Mod) noHints 1 Tryd.f105 (lentOf as_spec_l02Mod) (xBoxes as_spec_l02Mod z) (xVals as_spec_l02Mod 0 z) K2 = t_spec_l02Mod (fun b => some (en_spec_l02Mod b)) z.1 := by kernel_rfl
theorem so_spec_l02Mod : Sound C0 105 k_spec_l02Mod :=
  Sound.fx a_spec_l02Mod mixed Tryd.func105 (by kernel_rfl) (by kernel_rfl) noHints 1 noHints_ok (fun z => (r_spec_l02Mod z).trans (nat_spec_l02Mod _ z.1))

/-! ### F92 spec.l02Vec -/
noncomputable def T_spec_l02Vec : List (FuncId × Contract) := [(105, k_spec_l02Mod)]
theorem a_spec_l02Vec : AllSound C0 T_spec_l02Vec := .cons so_spec_l02Mod (.nil)
noncomputable def t_spec_l02Vec {R : Type} (kx : ((Int × (Int × Int)) × (Int × (Int × Int))) → Option R) (a0 : Int) : Option R :=
  Option.bind (g_spec_l02Mod a0) fun y44 =>
  Option.bind (idx [(((1 : Int), ((0 : Int), (0 : Int))), ((0 : Int), ((0 : Int), (0 : Int)))), (((1 : Int), ((0 : Int), (0 : Int))), ((-(1 : Int)), ((1 : Int), (0 : Int)))), (((1 : Int), ((0 : Int), (0 : Int))), ((1 : Int), ((0 : Int), (0 : Int)))), (((-(1 : Int)), ((1 : Int), (0 : Int))), ((1 : Int), ((0 : Int), (0 : Int)))), (((0 : Int), ((0 : Int), (0 : Int))), ((1 : Int), ((0 : Int), (0 : Int)))), (((1 : Int), ((-(1 : Int)), (0 : Int))), ((1 : Int), ((0 : Int), (0 : Int)))), (((-(1 : Int)), ((0 : Int), (0 : Int))), ((1 : Int), ((0 : Int), (0 : Int)))), (((-(1 : Int)), ((0 : Int), (0 : Int))), ((-(1 : Int)), ((1 : Int), (0 : Int))))] (Int.tmod y44 (8 : Int))) fun y45 =>
  cond (decide (y44 ≥ (8 : Int)))
  (kx (((IntKind.wrap IntKind.i64 ((0 : Int) - y45.1.1)), ((IntKind.wrap IntKind.i64 ((0 : Int) - y45.1.2.1)), (0 : Int))), ((IntKind.wrap IntKind.i64 ((0 : Int) - y45.2.1)), ((IntKind.wrap IntKind.i64 ((0 : Int) - y45.2.2.1)), (0 : Int)))))
  (kx y45)
noncomputable def g_spec_l02Vec (a0 : Int) : Option (((Int × (Int × Int)) × (Int × (Int × Int)))) := t_spec_l02Vec some a0
theorem nat_spec_l02Vec {R : Type} (kx : ((Int × (Int × Int)) × (Int × (Int × Int))) → Option R) (a0 : Int) : t_spec_l02Vec kx a0 = (g_spec_l02Vec a0).bind kx := by
  unfold g_spec_l02Vec t_spec_l02Vec
  exact nat_bind fun _ => nat_bind fun _ => nat_cond (rfl) (rfl)
abbrev as_spec_l02Vec : List AX := [.val false (.int .i64)]
abbrev en_spec_l02Vec : ((Int × (Int × Int)) × (Int × (Int × Int))) → AV × List CV := fun b => (.one ⟨true, [(.v (.int .i64 b.1.1)), (.v (.int .i64 b.1.2.1)), (.v (.int .i64 b.1.2.2)), (.v (.int .i64 b.2.1)), (.v (.int .i64 b.2.2.1)), (.v (.int .i64 b.2.2.2))]⟩, [])
noncomputable abbrev k_spec_l02Vec : Contract := .fx as_spec_l02Vec (((Int × (Int × Int)) × (Int × (Int × Int)))) (fun z => g_spec_l02Vec z.1) en_spec_l02Vec
theorem r_spec_l02Vec (z : argsX as_spec_l02Vec) : runF (tab C0 T_spec_l02Vec) noHints 1 Tryd.f92 (lentOf as_spec_l02Vec) (xBoxes as_spec_l02Vec z) (xVals as_spec_l02Vec 0 z) K2 = t_spec_l02Vec (fun b => some (en_spec_l02Vec b)) z.1 := by kernel_rfl
theorem so_spec_l02Vec : Sound C0 92 k_spec_l02Vec :=
  Sound.fx a_spec_l02Vec mixed Tryd.func92 (by kernel_rfl) (by kernel_rfl) noHints 1 noHints_ok (fun z => (r_spec_l02Vec z).trans (nat_spec_l02Vec _ z.1))

/-! ### F104 spec.l01Low -/
noncomputable def T_spec_l01Low : List (FuncId × Contract) := []
theorem a_spec_l01Low : AllSound C0 T_spec_l01Low := .nil
abbrev s_spec_l01Low_4 : LS := ⟨[(false, [(.ptr 1 0)]), (false, [(.ptr 2 0)])], [(false, [(.int .i64), (.int .i64), (.int .i64)]), (false, [(.int .i64), (.int .i64), (.int .i64)])], []⟩
abbrev e_spec_l01Low_4_0 : LS := ⟨[(false, [(.ptr 1 0)]), (false, [(.ptr 2 0)])], [(false, [(.int .i64), (.int .i64), (.int .i64)]), (false, [(.int .i64), (.int .i64), (.int .i64)])], []⟩
abbrev d_spec_l01Low_4_0 (v0 : Int) (v1 : Int) (v2 : Int) (v3 : Int) (v4 : Int) (v5 : Int) : e_spec_l01Low_4_0.T := ((((), ()), ((), ()), ()), ((v0, v1, v2, ()), (v3, v4, v5, ()), ()), ())
abbrev x_spec_l01Low_4 : List (Ex × LS) := [(.exit 0, e_spec_l01Low_4_0)]
abbrev m_spec_l01Low_4 (b0_0 : Int) (b0_1 : Int) (b0_2 : Int) (b1_0 : Int) (b1_1 : Int) (b1_2 : Int) : s_spec_l01Low_4.T := ((((), ()), ((), ()), ()), ((b0_0, b0_1, b0_2, ()), (b1_0, b1_1, b1_2, ()), ()), ())
noncomputable def u_spec_l01Low_4 {R : Type} (nx : s_spec_l01Low_4.T → Option R) (hx : exH R x_spec_l01Low_4) (b0_0 : Int) (b0_1 : Int) (b0_2 : Int) (b1_0 : Int) (b1_1 : Int) (b1_2 : Int) : Option R :=
  cond (decide (b0_2 > (0 : Int)))
  (cond ((Int.tmod b0_0 (2 : Int)) == (0 : Int))
   (cond ((Int.tmod b0_1 (2 : Int)) == (0 : Int))
    (nx (m_spec_l01Low_4 (IntKind.wrap IntKind.i64 (Int.tdiv b0_0 (2 : Int))) (IntKind.wrap IntKind.i64 (Int.tdiv b0_1 (2 : Int))) (IntKind.wrap IntKind.i64 (b0_2 - (1 : Int))) b1_0 b1_1 b1_2))
    (hx.1 (d_spec_l01Low_4_0 b0_0 b0_1 b0_2 b1_0 b1_1 b1_2)))
   (hx.1 (d_spec_l01Low_4_0 b0_0 b0_1 b0_2 b1_0 b1_1 b1_2)))
  (hx.1 (d_spec_l01Low_4_0 b0_0 b0_1 b0_2 b1_0 b1_1 b1_2))
noncomputable def t_spec_l01Low_4 {R : Type} (nx : s_spec_l01Low_4.T → Option R) (hx : exH R x_spec_l01Low_4) (z : s_spec_l01Low_4.T) : Option R := u_spec_l01Low_4 nx hx z.2.1.1.1 z.2.1.1.2.1 z.2.1.1.2.2.1 z.2.1.2.1.1 z.2.1.2.1.2.1 z.2.1.2.1.2.2.1
theorem nat_spec_l01Low_4 : Natural @t_spec_l01Low_4 := fun R nx hx z => by
  show u_spec_l01Low_4 nx hx z.2.1.1.1 z.2.1.1.2.1 z.2.1.1.2.2.1 z.2.1.2.1.1 z.2.1.2.1.2.1 z.2.1.2.1.2.2.1 = (u_spec_l01Low_4 (fun y => some (.inl y)) (hIn x_spec_l01Low_4 fun x => some (.inr x)) z.2.1.1.1 z.2.1.1.2.1 z.2.1.1.2.2.1 z.2.1.2.1.1 z.2.1.2.1.2.1 z.2.1.2.1.2.2.1).bind (goOn nx hx)
  unfold u_spec_l01Low_4
  exact nat_cond (nat_cond (nat_cond (rfl) (rfl)) (rfl)) (rfl)
noncomputable def w_spec_l01Low_4 : s_spec_l01Low_4.T → Option (exT x_spec_l01Low_4) := wOf @t_spec_l01Low_4
theorem wq_spec_l01Low_4 (b0_0 : Int) (b0_1 : Int) (b0_2 : Int) (b1_0 : Int) (b1_1 : Int) (b1_2 : Int) : w_spec_l01Low_4 (m_spec_l01Low_4 b0_0 b0_1 b0_2 b1_0 b1_1 b1_2) = u_spec_l01Low_4 w_spec_l01Low_4 (hIn x_spec_l01Low_4 some) b0_0 b0_1 b0_2 b1_0 b1_1 b1_2 := wOf_eq nat_spec_l01Low_4 _
def lh_spec_l01Low_4 : LoopHint := ⟨[1, 2], [1, 2], [1, 2], [1, 2]⟩
noncomputable def h_spec_l01Low : Hints Rv := ⟨fun k => match k with | 4 => lh_spec_l01Low_4 | _ => ⟨[], [], [], []⟩, fun k => match k with | 4 => some (loopX s_spec_l01Low_4 x_spec_l01Low_4 w_spec_l01Low_4) | _ => none⟩
theorem st_spec_l01Low_4 (n : Nat) (z : s_spec_l01Low_4.T) (k : Ex → Live → Option Rv) : loopN ⟨40, 40⟩ lh_spec_l01Low_4 (den (tab C0 T_spec_l01Low) ⟨40, 40⟩ h_spec_l01Low 1 (loopOf Tryd.f104 3)) (n + 1) (s_spec_l01Low_4.enc z) k =
    t_spec_l01Low_4 (fun y => loopN ⟨40, 40⟩ lh_spec_l01Low_4 (den (tab C0 T_spec_l01Low) ⟨40, 40⟩ h_spec_l01Low 1 (loopOf Tryd.f104 3)) n (s_spec_l01Low_4.enc y) k) (hK k x_spec_l01Low_4) z := by kernel_rfl
theorem hs_spec_l01Low : HintsOk (tab C0 T_spec_l01Low) ⟨40, 40⟩ h_spec_l01Low 1 (loops (codeOf Tryd.f104)) := by
  have hl : loops (codeOf Tryd.f104) = [loopOf Tryd.f104 3] := by kernel_rfl
  rw [hl]
  exact HintsOk.cons (n := 4) (lh := lh_spec_l01Low_4) (S := loopX s_spec_l01Low_4 x_spec_l01Low_4 w_spec_l01Low_4) (by kernel_rfl) rfl rfl (loopX_ok nat_spec_l01Low_4 st_spec_l01Low_4)
    (HintsOk.nil)
noncomputable def t_spec_l01Low {R : Type} (kx : (Int × (Int × Int)) → Option R) (a0 : (Int × (Int × Int))) : Option R :=
  cond (a0.1 == (0 : Int))
  (cond (a0.2.1 == (0 : Int))
   (kx ((0 : Int), ((0 : Int), (0 : Int))))
   (Option.bind (w_spec_l01Low_4 (m_spec_l01Low_4 a0.1 a0.2.1 a0.2.2 (0 : Int) (0 : Int) (0 : Int))) (exC x_spec_l01Low_4
    (fun e61 =>
     kx ((e61.2.1.1.1 : Int), ((e61.2.1.1.2.1 : Int), (e61.2.1.1.2.2.1 : Int))), ()))))
  (Option.bind (w_spec_l01Low_4 (m_spec_l01Low_4 a0.1 a0.2.1 a0.2.2 (0 : Int) (0 : Int) (0 : Int))) (exC x_spec_l01Low_4
   (fun e68 =>
    kx ((e68.2.1.1.1 : Int), ((e68.2.1.1.2.1 : Int), (e68.2.1.1.2.2.1 : Int))), ())))
noncomputable def g_spec_l01Low (a0 : (Int × (Int × Int))) : Option ((Int × (Int × Int))) := t_spec_l01Low some a0
theorem nat_spec_l01Low {R : Type} (kx : (Int × (Int × Int)) → Option R) (a0 : (Int × (Int × Int))) : t_spec_l01Low kx a0 = (g_spec_l01Low a0).bind kx := by
  unfold g_spec_l01Low t_spec_l01Low
  exact nat_cond (nat_cond (rfl) (nat_exC ⟨fun _ => rfl, trivial⟩)) (nat_exC ⟨fun _ => rfl, trivial⟩)
abbrev as_spec_l01Low : List AX := [.val true (.pair (.int .i64) (.pair (.int .i64) (.int .i64)))]
abbrev en_spec_l01Low : (Int × (Int × Int)) → AV × List CV := fun b => (.one ⟨true, [(.v (.int .i64 b.1)), (.v (.int .i64 b.2.1)), (.v (.int .i64 b.2.2))]⟩, [])
noncomputable abbrev k_spec_l01Low : Contract := .fx as_spec_l01Low ((Int × (Int × Int))) (fun z => g_spec_l01Low z.1) en_spec_l01Low
theorem r_spec_l01Low (z : argsX as_spec_l01Low) : runF (tab C0 T_spec_l01Low) h_spec_l01Low 1 Tryd.f104 (lentOf as_spec_l01Low) (xBoxes as_spec_l01Low z) (xVals as_spec_l01Low 0 z) K2 = t_spec_l01Low (fun b => some (en_spec_l01Low b)) z.1 := by kernel_rfl
theorem so_spec_l01Low : Sound C0 104 k_spec_l01Low :=
  Sound.fx a_spec_l01Low mixed Tryd.func104 (by kernel_rfl) (by kernel_rfl) h_spec_l01Low 1 hs_spec_l01Low (fun z => (r_spec_l01Low z).trans (nat_spec_l01Low _ z.1))

/-! ### F97 spec.l01Mul -/
noncomputable def T_spec_l01Mul : List (FuncId × Contract) := [(104, k_spec_l01Low)]
theorem a_spec_l01Mul : AllSound C0 T_spec_l01Mul := .cons so_spec_l01Low (.nil)
noncomputable def t_spec_l01Mul {R : Type} (kx : (Int × (Int × Int)) → Option R) (a0 : (Int × (Int × Int))) (a1 : (Int × (Int × Int))) : Option R :=
  Option.bind (g_spec_l01Low ((IntKind.wrap IntKind.i64 ((IntKind.wrap IntKind.i64 (a0.1 * a1.1)) + (IntKind.wrap IntKind.i64 ((IntKind.wrap IntKind.i64 ((2 : Int) * a0.2.1)) * a1.2.1)))), ((IntKind.wrap IntKind.i64 ((IntKind.wrap IntKind.i64 (a0.1 * a1.2.1)) + (IntKind.wrap IntKind.i64 (a0.2.1 * a1.1)))), (IntKind.wrap IntKind.i64 (a0.2.2 + a1.2.2))))) fun y75 =>
  kx y75
noncomputable def g_spec_l01Mul (a0 : (Int × (Int × Int))) (a1 : (Int × (Int × Int))) : Option ((Int × (Int × Int))) := t_spec_l01Mul some a0 a1
theorem nat_spec_l01Mul {R : Type} (kx : (Int × (Int × Int)) → Option R) (a0 : (Int × (Int × Int))) (a1 : (Int × (Int × Int))) : t_spec_l01Mul kx a0 a1 = (g_spec_l01Mul a0 a1).bind kx := by
  unfold g_spec_l01Mul t_spec_l01Mul
  exact nat_bind fun _ => rfl
abbrev as_spec_l01Mul : List AX := [.val true (.pair (.int .i64) (.pair (.int .i64) (.int .i64))), .val true (.pair (.int .i64) (.pair (.int .i64) (.int .i64)))]
abbrev en_spec_l01Mul : (Int × (Int × Int)) → AV × List CV := fun b => (.one ⟨true, [(.v (.int .i64 b.1)), (.v (.int .i64 b.2.1)), (.v (.int .i64 b.2.2))]⟩, [])
noncomputable abbrev k_spec_l01Mul : Contract := .fx as_spec_l01Mul ((Int × (Int × Int))) (fun z => g_spec_l01Mul z.1 z.2.1) en_spec_l01Mul
theorem r_spec_l01Mul (z : argsX as_spec_l01Mul) : runF (tab C0 T_spec_l01Mul) noHints 1 Tryd.f97 (lentOf as_spec_l01Mul) (xBoxes as_spec_l01Mul z) (xVals as_spec_l01Mul 0 z) K2 = t_spec_l01Mul (fun b => some (en_spec_l01Mul b)) z.1 z.2.1 := by kernel_rfl
theorem so_spec_l01Mul : Sound C0 97 k_spec_l01Mul :=
  Sound.fx a_spec_l01Mul mixed Tryd.func97 (by kernel_rfl) (by kernel_rfl) noHints 1 noHints_ok (fun z => (r_spec_l01Mul z).trans (nat_spec_l01Mul _ z.1 z.2.1))

/-! ### F55 spec.l01Add -/
noncomputable def T_spec_l01Add : List (FuncId × Contract) := [(104, k_spec_l01Low)]
theorem a_spec_l01Add : AllSound C0 T_spec_l01Add := .cons so_spec_l01Low (.nil)
abbrev s_spec_l01Add_2 : LS := ⟨[(false, [(.ptr 2 0)]), (false, [(.ptr 3 0)]), (false, [(.ptr 4 0)])], [(false, [(.int .i64), (.int .i64), (.int .i64)]), (false, [(.int .i64), (.int .i64), (.int .i64)]), (false, [(.int .i64), (.int .i64), (.int .i64)])], []⟩
abbrev e_spec_l01Add_2_0 : LS := ⟨[(false, [(.ptr 2 0)]), (false, [(.ptr 3 0)]), (false, [(.ptr 4 0)])], [(false, [(.int .i64), (.int .i64), (.int .i64)]), (false, [(.int .i64), (.int .i64), (.int .i64)]), (false, [(.int .i64), (.int .i64), (.int .i64)])], []⟩
abbrev d_spec_l01Add_2_0 (v0 : Int) (v1 : Int) (v2 : Int) (v3 : Int) (v4 : Int) (v5 : Int) (v6 : Int) (v7 : Int) (v8 : Int) : e_spec_l01Add_2_0.T := ((((), ()), ((), ()), ((), ()), ()), ((v0, v1, v2, ()), (v3, v4, v5, ()), (v6, v7, v8, ()), ()), ())
abbrev x_spec_l01Add_2 : List (Ex × LS) := [(.exit 0, e_spec_l01Add_2_0)]
abbrev m_spec_l01Add_2 (b0_0 : Int) (b0_1 : Int) (b0_2 : Int) (b1_0 : Int) (b1_1 : Int) (b1_2 : Int) (b2_0 : Int) (b2_1 : Int) (b2_2 : Int) : s_spec_l01Add_2.T := ((((), ()), ((), ()), ((), ()), ()), ((b0_0, b0_1, b0_2, ()), (b1_0, b1_1, b1_2, ()), (b2_0, b2_1, b2_2, ()), ()), ())
noncomputable def u_spec_l01Add_2 {R : Type} (nx : s_spec_l01Add_2.T → Option R) (hx : exH R x_spec_l01Add_2) (b0_0 : Int) (b0_1 : Int) (b0_2 : Int) (b1_0 : Int) (b1_1 : Int) (b1_2 : Int) (b2_0 : Int) (b2_1 : Int) (b2_2 : Int) : Option R :=
  cond (decide (b0_2 < b1_2))
  (nx (m_spec_l01Add_2 (IntKind.wrap IntKind.i64 (b0_0 * (2 : Int))) (IntKind.wrap IntKind.i64 (b0_1 * (2 : Int))) (IntKind.wrap IntKind.i64 (b0_2 + (1 : Int))) b1_0 b1_1 b1_2 b2_0 b2_1 b2_2))
  (hx.1 (d_spec_l01Add_2_0 b0_0 b0_1 b0_2 b1_0 b1_1 b1_2 b2_0 b2_1 b2_2))
noncomputable def t_spec_l01Add_2 {R : Type} (nx : s_spec_l01Add_2.T → Option R) (hx : exH R x_spec_l01Add_2) (z : s_spec_l01Add_2.T) : Option R := u_spec_l01Add_2 nx hx z.2.1.1.1 z.2.1.1.2.1 z.2.1.1.2.2.1 z.2.1.2.1.1 z.2.1.2.1.2.1 z.2.1.2.1.2.2.1 z.2.1.2.2.1.1 z.2.1.2.2.1.2.1 z.2.1.2.2.1.2.2.1
theorem nat_spec_l01Add_2 : Natural @t_spec_l01Add_2 := fun R nx hx z => by
  show u_spec_l01Add_2 nx hx z.2.1.1.1 z.2.1.1.2.1 z.2.1.1.2.2.1 z.2.1.2.1.1 z.2.1.2.1.2.1 z.2.1.2.1.2.2.1 z.2.1.2.2.1.1 z.2.1.2.2.1.2.1 z.2.1.2.2.1.2.2.1 = (u_spec_l01Add_2 (fun y => some (.inl y)) (hIn x_spec_l01Add_2 fun x => some (.inr x)) z.2.1.1.1 z.2.1.1.2.1 z.2.1.1.2.2.1 z.2.1.2.1.1 z.2.1.2.1.2.1 z.2.1.2.1.2.2.1 z.2.1.2.2.1.1 z.2.1.2.2.1.2.1 z.2.1.2.2.1.2.2.1).bind (goOn nx hx)
  unfold u_spec_l01Add_2
  exact nat_cond (rfl) (rfl)
noncomputable def w_spec_l01Add_2 : s_spec_l01Add_2.T → Option (exT x_spec_l01Add_2) := wOf @t_spec_l01Add_2
theorem wq_spec_l01Add_2 (b0_0 : Int) (b0_1 : Int) (b0_2 : Int) (b1_0 : Int) (b1_1 : Int) (b1_2 : Int) (b2_0 : Int) (b2_1 : Int) (b2_2 : Int) : w_spec_l01Add_2 (m_spec_l01Add_2 b0_0 b0_1 b0_2 b1_0 b1_1 b1_2 b2_0 b2_1 b2_2) = u_spec_l01Add_2 w_spec_l01Add_2 (hIn x_spec_l01Add_2 some) b0_0 b0_1 b0_2 b1_0 b1_1 b1_2 b2_0 b2_1 b2_2 := wOf_eq nat_spec_l01Add_2 _
def lh_spec_l01Add_2 : LoopHint := ⟨[2, 3, 4], [2, 3, 4], [2, 3, 4], [2, 3, 4]⟩
abbrev s_spec_l01Add_6 : LS := ⟨[(false, [(.ptr 2 0)]), (false, [(.ptr 3 0)]), (false, [(.ptr 4 0)])], [(false, [(.int .i64), (.int .i64), (.int .i64)]), (false, [(.int .i64), (.int .i64), (.int .i64)]), (false, [(.int .i64), (.int .i64), (.int .i64)])], []⟩
abbrev e_spec_l01Add_6_0 : LS := ⟨[(false, [(.ptr 2 0)]), (false, [(.ptr 3 0)]), (false, [(.ptr 4 0)])], [(false, [(.int .i64), (.int .i64), (.int .i64)]), (false, [(.int .i64), (.int .i64), (.int .i64)]), (false, [(.int .i64), (.int .i64), (.int .i64)])], []⟩
abbrev d_spec_l01Add_6_0 (v0 : Int) (v1 : Int) (v2 : Int) (v3 : Int) (v4 : Int) (v5 : Int) (v6 : Int) (v7 : Int) (v8 : Int) : e_spec_l01Add_6_0.T := ((((), ()), ((), ()), ((), ()), ()), ((v0, v1, v2, ()), (v3, v4, v5, ()), (v6, v7, v8, ()), ()), ())
abbrev x_spec_l01Add_6 : List (Ex × LS) := [(.exit 2, e_spec_l01Add_6_0)]
abbrev m_spec_l01Add_6 (b0_0 : Int) (b0_1 : Int) (b0_2 : Int) (b1_0 : Int) (b1_1 : Int) (b1_2 : Int) (b2_0 : Int) (b2_1 : Int) (b2_2 : Int) : s_spec_l01Add_6.T := ((((), ()), ((), ()), ((), ()), ()), ((b0_0, b0_1, b0_2, ()), (b1_0, b1_1, b1_2, ()), (b2_0, b2_1, b2_2, ()), ()), ())
noncomputable def u_spec_l01Add_6 {R : Type} (nx : s_spec_l01Add_6.T → Option R) (hx : exH R x_spec_l01Add_6) (b0_0 : Int) (b0_1 : Int) (b0_2 : Int) (b1_0 : Int) (b1_1 : Int) (b1_2 : Int) (b2_0 : Int) (b2_1 : Int) (b2_2 : Int) : Option R :=
  cond (decide (b1_2 < b0_2))
  (nx (m_spec_l01Add_6 b0_0 b0_1 b0_2 (IntKind.wrap IntKind.i64 (b1_0 * (2 : Int))) (IntKind.wrap IntKind.i64 (b1_1 * (2 : Int))) (IntKind.wrap IntKind.i64 (b1_2 + (1 : Int))) b2_0 b2_1 b2_2))
  (hx.1 (d_spec_l01Add_6_0 b0_0 b0_1 b0_2 b1_0 b1_1 b1_2 b2_0 b2_1 b2_2))
noncomputable def t_spec_l01Add_6 {R : Type} (nx : s_spec_l01Add_6.T → Option R) (hx : exH R x_spec_l01Add_6) (z : s_spec_l01Add_6.T) : Option R := u_spec_l01Add_6 nx hx z.2.1.1.1 z.2.1.1.2.1 z.2.1.1.2.2.1 z.2.1.2.1.1 z.2.1.2.1.2.1 z.2.1.2.1.2.2.1 z.2.1.2.2.1.1 z.2.1.2.2.1.2.1 z.2.1.2.2.1.2.2.1
theorem nat_spec_l01Add_6 : Natural @t_spec_l01Add_6 := fun R nx hx z => by
  show u_spec_l01Add_6 nx hx z.2.1.1.1 z.2.1.1.2.1 z.2.1.1.2.2.1 z.2.1.2.1.1 z.2.1.2.1.2.1 z.2.1.2.1.2.2.1 z.2.1.2.2.1.1 z.2.1.2.2.1.2.1 z.2.1.2.2.1.2.2.1 = (u_spec_l01Add_6 (fun y => some (.inl y)) (hIn x_spec_l01Add_6 fun x => some (.inr x)) z.2.1.1.1 z.2.1.1.2.1 z.2.1.1.2.2.1 z.2.1.2.1.1 z.2.1.2.1.2.1 z.2.1.2.1.2.2.1 z.2.1.2.2.1.1 z.2.1.2.2.1.2.1 z.2.1.2.2.1.2.2.1).bind (goOn nx hx)
  unfold u_spec_l01Add_6
  exact nat_cond (rfl) (rfl)
noncomputable def w_spec_l01Add_6 : s_spec_l01Add_6.T → Option (exT x_spec_l01Add_6) := wOf @t_spec_l01Add_6
theorem wq_spec_l01Add_6 (b0_0 : Int) (b0_1 : Int) (b0_2 : Int) (b1_0 : Int) (b1_1 : Int) (b1_2 : Int) (b2_0 : Int) (b2_1 : Int) (b2_2 : Int) : w_spec_l01Add_6 (m_spec_l01Add_6 b0_0 b0_1 b0_2 b1_0 b1_1 b1_2 b2_0 b2_1 b2_2) = u_spec_l01Add_6 w_spec_l01Add_6 (hIn x_spec_l01Add_6 some) b0_0 b0_1 b0_2 b1_0 b1_1 b1_2 b2_0 b2_1 b2_2 := wOf_eq nat_spec_l01Add_6 _
def lh_spec_l01Add_6 : LoopHint := ⟨[2, 3, 4], [2, 3, 4], [2, 3, 4], [2, 3, 4]⟩
noncomputable def h_spec_l01Add : Hints Rv := ⟨fun k => match k with | 2 => lh_spec_l01Add_2 | 6 => lh_spec_l01Add_6 | _ => ⟨[], [], [], []⟩, fun k => match k with | 2 => some (loopX s_spec_l01Add_2 x_spec_l01Add_2 w_spec_l01Add_2) | 6 => some (loopX s_spec_l01Add_6 x_spec_l01Add_6 w_spec_l01Add_6) | _ => none⟩
theorem st_spec_l01Add_2 (n : Nat) (z : s_spec_l01Add_2.T) (k : Ex → Live → Option Rv) : loopN ⟨53, 53⟩ lh_spec_l01Add_2 (den (tab C0 T_spec_l01Add) ⟨53, 53⟩ h_spec_l01Add 1 (loopOf Tryd.f55 1)) (n + 1) (s_spec_l01Add_2.enc z) k =
    t_spec_l01Add_2 (fun y => loopN ⟨53, 53⟩ lh_spec_l01Add_2 (den (tab C0 T_spec_l01Add) ⟨53, 53⟩ h_spec_l01Add 1 (loopOf Tryd.f55 1)) n (s_spec_l01Add_2.enc y) k) (hK k x_spec_l01Add_2) z := by kernel_rfl
theorem st_spec_l01Add_6 (n : Nat) (z : s_spec_l01Add_6.T) (k : Ex → Live → Option Rv) : loopN ⟨53, 53⟩ lh_spec_l01Add_6 (den (tab C0 T_spec_l01Add) ⟨53, 53⟩ h_spec_l01Add 1 (loopOf Tryd.f55 5)) (n + 1) (s_spec_l01Add_6.enc z) k =
    t_spec_l01Add_6 (fun y => loopN ⟨53, 53⟩ lh_spec_l01Add_6 (den (tab C0 T_spec_l01Add) ⟨53, 53⟩ h_spec_l01Add 1 (loopOf Tryd.f55 5)) n (s_spec_l01Add_6.enc y) k) (hK k x_spec_l01Add_6) z := by kernel_rfl
theorem hs_spec_l01Add : HintsOk (tab C0 T_spec_l01Add) ⟨53, 53⟩ h_spec_l01Add 1 (loops (codeOf Tryd.f55)) := by
  have hl : loops (codeOf Tryd.f55) = [loopOf Tryd.f55 1, loopOf Tryd.f55 5] := by kernel_rfl
  rw [hl]
  exact HintsOk.cons (n := 2) (lh := lh_spec_l01Add_2) (S := loopX s_spec_l01Add_2 x_spec_l01Add_2 w_spec_l01Add_2) (by kernel_rfl) rfl rfl (loopX_ok nat_spec_l01Add_2 st_spec_l01Add_2)
    (HintsOk.cons (n := 6) (lh := lh_spec_l01Add_6) (S := loopX s_spec_l01Add_6 x_spec_l01Add_6 w_spec_l01Add_6) (by kernel_rfl) rfl rfl (loopX_ok nat_spec_l01Add_6 st_spec_l01Add_6)
    (HintsOk.nil))
noncomputable def t_spec_l01Add {R : Type} (kx : (Int × (Int × Int)) → Option R) (a0 : (Int × (Int × Int))) (a1 : (Int × (Int × Int))) : Option R :=
  Option.bind (w_spec_l01Add_2 (m_spec_l01Add_2 a0.1 a0.2.1 a0.2.2 a1.1 a1.2.1 a1.2.2 (0 : Int) (0 : Int) (0 : Int))) (exC x_spec_l01Add_2
  (fun e89 =>
   Option.bind (w_spec_l01Add_6 (m_spec_l01Add_6 (e89.2.1.1.1 : Int) (e89.2.1.1.2.1 : Int) (e89.2.1.1.2.2.1 : Int) (e89.2.1.2.1.1 : Int) (e89.2.1.2.1.2.1 : Int) (e89.2.1.2.1.2.2.1 : Int) (e89.2.1.2.2.1.1 : Int) (e89.2.1.2.2.1.2.1 : Int) (e89.2.1.2.2.1.2.2.1 : Int))) (exC x_spec_l01Add_6
   (fun e108 =>
    Option.bind (g_spec_l01Low ((IntKind.wrap IntKind.i64 ((e108.2.1.1.1 : Int) + (e108.2.1.2.1.1 : Int))), ((IntKind.wrap IntKind.i64 ((e108.2.1.1.2.1 : Int) + (e108.2.1.2.1.2.1 : Int))), (e108.2.1.1.2.2.1 : Int)))) fun y118 =>
    kx y118, ())), ()))
noncomputable def g_spec_l01Add (a0 : (Int × (Int × Int))) (a1 : (Int × (Int × Int))) : Option ((Int × (Int × Int))) := t_spec_l01Add some a0 a1
theorem nat_spec_l01Add {R : Type} (kx : (Int × (Int × Int)) → Option R) (a0 : (Int × (Int × Int))) (a1 : (Int × (Int × Int))) : t_spec_l01Add kx a0 a1 = (g_spec_l01Add a0 a1).bind kx := by
  unfold g_spec_l01Add t_spec_l01Add
  exact nat_exC ⟨fun _ => nat_exC ⟨fun _ => nat_bind fun _ => rfl, trivial⟩, trivial⟩
abbrev as_spec_l01Add : List AX := [.val true (.pair (.int .i64) (.pair (.int .i64) (.int .i64))), .val true (.pair (.int .i64) (.pair (.int .i64) (.int .i64)))]
abbrev en_spec_l01Add : (Int × (Int × Int)) → AV × List CV := fun b => (.one ⟨true, [(.v (.int .i64 b.1)), (.v (.int .i64 b.2.1)), (.v (.int .i64 b.2.2))]⟩, [])
noncomputable abbrev k_spec_l01Add : Contract := .fx as_spec_l01Add ((Int × (Int × Int))) (fun z => g_spec_l01Add z.1 z.2.1) en_spec_l01Add
theorem r_spec_l01Add (z : argsX as_spec_l01Add) : runF (tab C0 T_spec_l01Add) h_spec_l01Add 1 Tryd.f55 (lentOf as_spec_l01Add) (xBoxes as_spec_l01Add z) (xVals as_spec_l01Add 0 z) K2 = t_spec_l01Add (fun b => some (en_spec_l01Add b)) z.1 z.2.1 := by kernel_rfl
theorem so_spec_l01Add : Sound C0 55 k_spec_l01Add :=
  Sound.fx a_spec_l01Add mixed Tryd.func55 (by kernel_rfl) (by kernel_rfl) h_spec_l01Add 1 hs_spec_l01Add (fun z => (r_spec_l01Add z).trans (nat_spec_l01Add _ z.1 z.2.1))

/-! ### F93 spec.l02Dot -/
noncomputable def T_spec_l02Dot : List (FuncId × Contract) := [(92, k_spec_l02Vec), (39, k_spec_l02Of), (97, k_spec_l01Mul), (55, k_spec_l01Add)]
theorem a_spec_l02Dot : AllSound C0 T_spec_l02Dot := .cons so_spec_l02Vec (.cons so_spec_l02Of (.cons so_spec_l01Mul (.cons so_spec_l01Add (.nil))))
noncomputable def t_spec_l02Dot {R : Type} (kx : (Int × (Int × Int)) → Option R) (a0 : Int) (a1 : ((Int × (Int × Int)) × (Int × (Int × Int)))) : Option R :=
  Option.bind (g_spec_l02Vec a0) fun y50 =>
  Option.bind (g_spec_l02Of y50) fun y51 =>
  Option.bind (g_spec_l01Mul y51.1 a1.1) fun y76 =>
  Option.bind (g_spec_l01Mul y51.2 a1.2) fun y77 =>
  Option.bind (g_spec_l01Add y76 y77) fun y119 =>
  kx y119
noncomputable def g_spec_l02Dot (a0 : Int) (a1 : ((Int × (Int × Int)) × (Int × (Int × Int)))) : Option ((Int × (Int × Int))) := t_spec_l02Dot some a0 a1
theorem nat_spec_l02Dot {R : Type} (kx : (Int × (Int × Int)) → Option R) (a0 : Int) (a1 : ((Int × (Int × Int)) × (Int × (Int × Int)))) : t_spec_l02Dot kx a0 a1 = (g_spec_l02Dot a0 a1).bind kx := by
  unfold g_spec_l02Dot t_spec_l02Dot
  exact nat_bind fun _ => nat_bind fun _ => nat_bind fun _ => nat_bind fun _ => nat_bind fun _ => rfl
abbrev as_spec_l02Dot : List AX := [.val false (.int .i64), .val true (.pair (.pair (.int .i64) (.pair (.int .i64) (.int .i64))) (.pair (.int .i64) (.pair (.int .i64) (.int .i64))))]
abbrev en_spec_l02Dot : (Int × (Int × Int)) → AV × List CV := fun b => (.one ⟨true, [(.v (.int .i64 b.1)), (.v (.int .i64 b.2.1)), (.v (.int .i64 b.2.2))]⟩, [])
noncomputable abbrev k_spec_l02Dot : Contract := .fx as_spec_l02Dot ((Int × (Int × Int))) (fun z => g_spec_l02Dot z.1 z.2.1) en_spec_l02Dot
theorem r_spec_l02Dot (z : argsX as_spec_l02Dot) : runF (tab C0 T_spec_l02Dot) noHints 1 Tryd.f93 (lentOf as_spec_l02Dot) (xBoxes as_spec_l02Dot z) (xVals as_spec_l02Dot 0 z) K2 = t_spec_l02Dot (fun b => some (en_spec_l02Dot b)) z.1 z.2.1 := by kernel_rfl
theorem so_spec_l02Dot : Sound C0 93 k_spec_l02Dot :=
  Sound.fx a_spec_l02Dot mixed Tryd.func93 (by kernel_rfl) (by kernel_rfl) noHints 1 noHints_ok (fun z => (r_spec_l02Dot z).trans (nat_spec_l02Dot _ z.1 z.2.1))

/-! ### F126 spec.l01Neg -/
noncomputable def T_spec_l01Neg : List (FuncId × Contract) := []
theorem a_spec_l01Neg : AllSound C0 T_spec_l01Neg := .nil
noncomputable def t_spec_l01Neg {R : Type} (kx : (Int × (Int × Int)) → Option R) (a0 : (Int × (Int × Int))) : Option R :=
  kx ((IntKind.wrap IntKind.i64 ((0 : Int) - a0.1)), ((IntKind.wrap IntKind.i64 ((0 : Int) - a0.2.1)), a0.2.2))
noncomputable def g_spec_l01Neg (a0 : (Int × (Int × Int))) : Option ((Int × (Int × Int))) := t_spec_l01Neg some a0
theorem nat_spec_l01Neg {R : Type} (kx : (Int × (Int × Int)) → Option R) (a0 : (Int × (Int × Int))) : t_spec_l01Neg kx a0 = (g_spec_l01Neg a0).bind kx := by
  unfold g_spec_l01Neg t_spec_l01Neg
  exact rfl
abbrev as_spec_l01Neg : List AX := [.val true (.pair (.int .i64) (.pair (.int .i64) (.int .i64)))]
abbrev en_spec_l01Neg : (Int × (Int × Int)) → AV × List CV := fun b => (.one ⟨true, [(.v (.int .i64 b.1)), (.v (.int .i64 b.2.1)), (.v (.int .i64 b.2.2))]⟩, [])
noncomputable abbrev k_spec_l01Neg : Contract := .fx as_spec_l01Neg ((Int × (Int × Int))) (fun z => g_spec_l01Neg z.1) en_spec_l01Neg
theorem r_spec_l01Neg (z : argsX as_spec_l01Neg) : runF (tab C0 T_spec_l01Neg) noHints 1 Tryd.f126 (lentOf as_spec_l01Neg) (xBoxes as_spec_l01Neg z) (xVals as_spec_l01Neg 0 z) K2 = t_spec_l01Neg (fun b => some (en_spec_l01Neg b)) z.1 := by kernel_rfl
theorem so_spec_l01Neg : Sound C0 126 k_spec_l01Neg :=
  Sound.fx a_spec_l01Neg mixed Tryd.func126 (by kernel_rfl) (by kernel_rfl) noHints 1 noHints_ok (fun z => (r_spec_l01Neg z).trans (nat_spec_l01Neg _ z.1))

/-! ### F94 spec.l01Sub -/
noncomputable def T_spec_l01Sub : List (FuncId × Contract) := [(126, k_spec_l01Neg), (55, k_spec_l01Add)]
theorem a_spec_l01Sub : AllSound C0 T_spec_l01Sub := .cons so_spec_l01Neg (.cons so_spec_l01Add (.nil))
noncomputable def t_spec_l01Sub {R : Type} (kx : (Int × (Int × Int)) → Option R) (a0 : (Int × (Int × Int))) (a1 : (Int × (Int × Int))) : Option R :=
  Option.bind (g_spec_l01Neg a1) fun y125 =>
  Option.bind (g_spec_l01Add a0 y125) fun y126 =>
  kx y126
noncomputable def g_spec_l01Sub (a0 : (Int × (Int × Int))) (a1 : (Int × (Int × Int))) : Option ((Int × (Int × Int))) := t_spec_l01Sub some a0 a1
theorem nat_spec_l01Sub {R : Type} (kx : (Int × (Int × Int)) → Option R) (a0 : (Int × (Int × Int))) (a1 : (Int × (Int × Int))) : t_spec_l01Sub kx a0 a1 = (g_spec_l01Sub a0 a1).bind kx := by
  unfold g_spec_l01Sub t_spec_l01Sub
  exact nat_bind fun _ => nat_bind fun _ => rfl
abbrev as_spec_l01Sub : List AX := [.val true (.pair (.int .i64) (.pair (.int .i64) (.int .i64))), .val true (.pair (.int .i64) (.pair (.int .i64) (.int .i64)))]
abbrev en_spec_l01Sub : (Int × (Int × Int)) → AV × List CV := fun b => (.one ⟨true, [(.v (.int .i64 b.1)), (.v (.int .i64 b.2.1)), (.v (.int .i64 b.2.2))]⟩, [])
noncomputable abbrev k_spec_l01Sub : Contract := .fx as_spec_l01Sub ((Int × (Int × Int))) (fun z => g_spec_l01Sub z.1 z.2.1) en_spec_l01Sub
theorem r_spec_l01Sub (z : argsX as_spec_l01Sub) : runF (tab C0 T_spec_l01Sub) noHints 1 Tryd.f94 (lentOf as_spec_l01Sub) (xBoxes as_spec_l01Sub z) (xVals as_spec_l01Sub 0 z) K2 = t_spec_l01Sub (fun b => some (en_spec_l01Sub b)) z.1 z.2.1 := by kernel_rfl
theorem so_spec_l01Sub : Sound C0 94 k_spec_l01Sub :=
  Sound.fx a_spec_l01Sub mixed Tryd.func94 (by kernel_rfl) (by kernel_rfl) noHints 1 noHints_ok (fun z => (r_spec_l01Sub z).trans (nat_spec_l01Sub _ z.1 z.2.1))

/-! ### F95 spec.l02Zero -/
noncomputable def T_spec_l02Zero : List (FuncId × Contract) := []
theorem a_spec_l02Zero : AllSound C0 T_spec_l02Zero := .nil
noncomputable def t_spec_l02Zero {R : Type} (kx : Bool → Option R) (a0 : (Int × (Int × Int))) : Option R :=
  cond (a0.1 == (0 : Int))
  (kx (a0.2.1 == (0 : Int)))
  (kx Bool.false)
noncomputable def g_spec_l02Zero (a0 : (Int × (Int × Int))) : Option (Bool) := t_spec_l02Zero some a0
theorem nat_spec_l02Zero {R : Type} (kx : Bool → Option R) (a0 : (Int × (Int × Int))) : t_spec_l02Zero kx a0 = (g_spec_l02Zero a0).bind kx := by
  unfold g_spec_l02Zero t_spec_l02Zero
  exact nat_cond (rfl) (rfl)
abbrev as_spec_l02Zero : List AX := [.val true (.pair (.int .i64) (.pair (.int .i64) (.int .i64)))]
abbrev en_spec_l02Zero : Bool → AV × List CV := fun b => (.one ⟨false, [(.v (.bool b))]⟩, [])
noncomputable abbrev k_spec_l02Zero : Contract := .fx as_spec_l02Zero (Bool) (fun z => g_spec_l02Zero z.1) en_spec_l02Zero
theorem r_spec_l02Zero (z : argsX as_spec_l02Zero) : runF (tab C0 T_spec_l02Zero) noHints 1 Tryd.f95 (lentOf as_spec_l02Zero) (xBoxes as_spec_l02Zero z) (xVals as_spec_l02Zero 0 z) K2 = t_spec_l02Zero (fun b => some (en_spec_l02Zero b)) z.1 := by kernel_rfl
theorem so_spec_l02Zero : Sound C0 95 k_spec_l02Zero :=
  Sound.fx a_spec_l02Zero mixed Tryd.func95 (by kernel_rfl) (by kernel_rfl) noHints 1 noHints_ok (fun z => (r_spec_l02Zero z).trans (nat_spec_l02Zero _ z.1))

/-! ### F98 spec.l02Square -/
noncomputable def T_spec_l02Square : List (FuncId × Contract) := [(92, k_spec_l02Vec), (39, k_spec_l02Of), (97, k_spec_l01Mul), (55, k_spec_l01Add)]
theorem a_spec_l02Square : AllSound C0 T_spec_l02Square := .cons so_spec_l02Vec (.cons so_spec_l02Of (.cons so_spec_l01Mul (.cons so_spec_l01Add (.nil))))
noncomputable def t_spec_l02Square {R : Type} (kx : (Int × (Int × Int)) → Option R) (a0 : Int) : Option R :=
  Option.bind (g_spec_l02Vec a0) fun y132 =>
  Option.bind (g_spec_l02Of y132) fun y133 =>
  Option.bind (g_spec_l01Mul y133.1 y133.1) fun y134 =>
  Option.bind (g_spec_l01Mul y133.2 y133.2) fun y135 =>
  Option.bind (g_spec_l01Add y134 y135) fun y136 =>
  kx y136
noncomputable def g_spec_l02Square (a0 : Int) : Option ((Int × (Int × Int))) := t_spec_l02Square some a0
theorem nat_spec_l02Square {R : Type} (kx : (Int × (Int × Int)) → Option R) (a0 : Int) : t_spec_l02Square kx a0 = (g_spec_l02Square a0).bind kx := by
  unfold g_spec_l02Square t_spec_l02Square
  exact nat_bind fun _ => nat_bind fun _ => nat_bind fun _ => nat_bind fun _ => nat_bind fun _ => rfl
abbrev as_spec_l02Square : List AX := [.val false (.int .i64)]
abbrev en_spec_l02Square : (Int × (Int × Int)) → AV × List CV := fun b => (.one ⟨true, [(.v (.int .i64 b.1)), (.v (.int .i64 b.2.1)), (.v (.int .i64 b.2.2))]⟩, [])
noncomputable abbrev k_spec_l02Square : Contract := .fx as_spec_l02Square ((Int × (Int × Int))) (fun z => g_spec_l02Square z.1) en_spec_l02Square
theorem r_spec_l02Square (z : argsX as_spec_l02Square) : runF (tab C0 T_spec_l02Square) noHints 1 Tryd.f98 (lentOf as_spec_l02Square) (xBoxes as_spec_l02Square z) (xVals as_spec_l02Square 0 z) K2 = t_spec_l02Square (fun b => some (en_spec_l02Square b)) z.1 := by kernel_rfl
theorem so_spec_l02Square : Sound C0 98 k_spec_l02Square :=
  Sound.fx a_spec_l02Square mixed Tryd.func98 (by kernel_rfl) (by kernel_rfl) noHints 1 noHints_ok (fun z => (r_spec_l02Square z).trans (nat_spec_l02Square _ z.1))

/-! ### F96 spec.l01Div -/
noncomputable def T_spec_l01Div : List (FuncId × Contract) := [(104, k_spec_l01Low)]
theorem a_spec_l01Div : AllSound C0 T_spec_l01Div := .cons so_spec_l01Low (.nil)
abbrev s_spec_l01Div_6 : LS := ⟨[(false, [(.ptr 3 0)]), (false, [(.ptr 4 0)]), (false, [(.int .i64)]), (false, [(.ptr 7 0)])], [(false, [(.int .i64), (.int .i64), (.int .i64)]), (false, [(.int .i64), (.int .i64), (.int .i64)]), (false, [(.int .i64), (.int .i64), (.int .i64)])], []⟩
abbrev e_spec_l01Div_6_0 : LS := ⟨[(false, [(.ptr 3 0)]), (false, [(.ptr 4 0)]), (false, [(.int .i64)]), (false, [(.ptr 7 0)])], [(false, [(.int .i64), (.int .i64), (.int .i64)]), (false, [(.int .i64), (.int .i64), (.int .i64)]), (false, [(.int .i64), (.int .i64), (.int .i64)])], []⟩
abbrev d_spec_l01Div_6_0 (v0 : Int) (v1 : Int) (v2 : Int) (v3 : Int) (v4 : Int) (v5 : Int) (v6 : Int) (v7 : Int) (v8 : Int) (v9 : Int) : e_spec_l01Div_6_0.T := ((((), ()), ((), ()), (v0, ()), ((), ()), ()), ((v1, v2, v3, ()), (v4, v5, v6, ()), (v7, v8, v9, ()), ()), ())
abbrev x_spec_l01Div_6 : List (Ex × LS) := [(.exit 0, e_spec_l01Div_6_0)]
abbrev m_spec_l01Div_6 (x6 : Int) (b0_0 : Int) (b0_1 : Int) (b0_2 : Int) (b1_0 : Int) (b1_1 : Int) (b1_2 : Int) (b2_0 : Int) (b2_1 : Int) (b2_2 : Int) : s_spec_l01Div_6.T := ((((), ()), ((), ()), (x6, ()), ((), ()), ()), ((b0_0, b0_1, b0_2, ()), (b1_0, b1_1, b1_2, ()), (b2_0, b2_1, b2_2, ()), ()), ())
noncomputable def u_spec_l01Div_6 {R : Type} (nx : s_spec_l01Div_6.T → Option R) (hx : exH R x_spec_l01Div_6) (x6 : Int) (b0_0 : Int) (b0_1 : Int) (b0_2 : Int) (b1_0 : Int) (b1_1 : Int) (b1_2 : Int) (b2_0 : Int) (b2_1 : Int) (b2_2 : Int) : Option R :=
  cond ((Int.tmod x6 (2 : Int)) == (0 : Int))
  (nx (m_spec_l01Div_6 (IntKind.wrap IntKind.i64 (Int.tdiv x6 (2 : Int))) b0_0 b0_1 b0_2 b1_0 b1_1 b1_2 b2_0 b2_1 (IntKind.wrap IntKind.i64 (b2_2 + (1 : Int)))))
  (hx.1 (d_spec_l01Div_6_0 x6 b0_0 b0_1 b0_2 b1_0 b1_1 b1_2 b2_0 b2_1 b2_2))
noncomputable def t_spec_l01Div_6 {R : Type} (nx : s_spec_l01Div_6.T → Option R) (hx : exH R x_spec_l01Div_6) (z : s_spec_l01Div_6.T) : Option R := u_spec_l01Div_6 nx hx z.1.2.2.1.1 z.2.1.1.1 z.2.1.1.2.1 z.2.1.1.2.2.1 z.2.1.2.1.1 z.2.1.2.1.2.1 z.2.1.2.1.2.2.1 z.2.1.2.2.1.1 z.2.1.2.2.1.2.1 z.2.1.2.2.1.2.2.1
theorem nat_spec_l01Div_6 : Natural @t_spec_l01Div_6 := fun R nx hx z => by
  show u_spec_l01Div_6 nx hx z.1.2.2.1.1 z.2.1.1.1 z.2.1.1.2.1 z.2.1.1.2.2.1 z.2.1.2.1.1 z.2.1.2.1.2.1 z.2.1.2.1.2.2.1 z.2.1.2.2.1.1 z.2.1.2.2.1.2.1 z.2.1.2.2.1.2.2.1 = (u_spec_l01Div_6 (fun y => some (.inl y)) (hIn x_spec_l01Div_6 fun x => some (.inr x)) z.1.2.2.1.1 z.2.1.1.1 z.2.1.1.2.1 z.2.1.1.2.2.1 z.2.1.2.1.1 z.2.1.2.1.2.1 z.2.1.2.1.2.2.1 z.2.1.2.2.1.1 z.2.1.2.2.1.2.1 z.2.1.2.2.1.2.2.1).bind (goOn nx hx)
  unfold u_spec_l01Div_6
  exact nat_cond (rfl) (rfl)
noncomputable def w_spec_l01Div_6 : s_spec_l01Div_6.T → Option (exT x_spec_l01Div_6) := wOf @t_spec_l01Div_6
theorem wq_spec_l01Div_6 (x6 : Int) (b0_0 : Int) (b0_1 : Int) (b0_2 : Int) (b1_0 : Int) (b1_1 : Int) (b1_2 : Int) (b2_0 : Int) (b2_1 : Int) (b2_2 : Int) : w_spec_l01Div_6 (m_spec_l01Div_6 x6 b0_0 b0_1 b0_2 b1_0 b1_1 b1_2 b2_0 b2_1 b2_2) = u_spec_l01Div_6 w_spec_l01Div_6 (hIn x_spec_l01Div_6 some) x6 b0_0 b0_1 b0_2 b1_0 b1_1 b1_2 b2_0 b2_1 b2_2 := wOf_eq nat_spec_l01Div_6 _
def lh_spec_l01Div_6 : LoopHint := ⟨[3, 4, 6, 7], [3, 4, 7], [3, 4, 6, 7], [3, 4, 7]⟩
abbrev s_spec_l01Div_14 : LS := ⟨[(false, [(.ptr 4 0)]), (false, [(.ptr 7 0)]), (false, [(.int .i64)])], [(false, [(.int .i64), (.int .i64), (.int .i64)]), (false, [(.int .i64), (.int .i64), (.int .i64)])], []⟩
abbrev e_spec_l01Div_14_0 : LS := ⟨[(false, [(.ptr 4 0)]), (false, [(.ptr 7 0)])], [(false, [(.int .i64), (.int .i64), (.int .i64)]), (false, [(.int .i64), (.int .i64), (.int .i64)])], []⟩
abbrev d_spec_l01Div_14_0 (v0 : Int) (v1 : Int) (v2 : Int) (v3 : Int) (v4 : Int) (v5 : Int) : e_spec_l01Div_14_0.T := ((((), ()), ((), ()), ()), ((v0, v1, v2, ()), (v3, v4, v5, ()), ()), ())
abbrev x_spec_l01Div_14 : List (Ex × LS) := [(.exit 2, e_spec_l01Div_14_0)]
abbrev m_spec_l01Div_14 (x8 : Int) (b0_0 : Int) (b0_1 : Int) (b0_2 : Int) (b1_0 : Int) (b1_1 : Int) (b1_2 : Int) : s_spec_l01Div_14.T := ((((), ()), ((), ()), (x8, ()), ()), ((b0_0, b0_1, b0_2, ()), (b1_0, b1_1, b1_2, ()), ()), ())
noncomputable def u_spec_l01Div_14 {R : Type} (nx : s_spec_l01Div_14.T → Option R) (hx : exH R x_spec_l01Div_14) (x8 : Int) (b0_0 : Int) (b0_1 : Int) (b0_2 : Int) (b1_0 : Int) (b1_1 : Int) (b1_2 : Int) : Option R :=
  cond (decide (x8 > (0 : Int)))
  (cond (decide (b1_2 > (0 : Int)))
   (nx (m_spec_l01Div_14 (IntKind.wrap IntKind.i64 (x8 - (1 : Int))) b0_0 b0_1 b0_2 b1_0 b1_1 (IntKind.wrap IntKind.i64 (b1_2 - (1 : Int)))))
   (nx (m_spec_l01Div_14 (IntKind.wrap IntKind.i64 (x8 - (1 : Int))) b0_0 b0_1 b0_2 (IntKind.wrap IntKind.i64 (b1_0 * (2 : Int))) (IntKind.wrap IntKind.i64 (b1_1 * (2 : Int))) b1_2)))
  (hx.1 (d_spec_l01Div_14_0 b0_0 b0_1 b0_2 b1_0 b1_1 b1_2))
noncomputable def t_spec_l01Div_14 {R : Type} (nx : s_spec_l01Div_14.T → Option R) (hx : exH R x_spec_l01Div_14) (z : s_spec_l01Div_14.T) : Option R := u_spec_l01Div_14 nx hx z.1.2.2.1.1 z.2.1.1.1 z.2.1.1.2.1 z.2.1.1.2.2.1 z.2.1.2.1.1 z.2.1.2.1.2.1 z.2.1.2.1.2.2.1
theorem nat_spec_l01Div_14 : Natural @t_spec_l01Div_14 := fun R nx hx z => by
  show u_spec_l01Div_14 nx hx z.1.2.2.1.1 z.2.1.1.1 z.2.1.1.2.1 z.2.1.1.2.2.1 z.2.1.2.1.1 z.2.1.2.1.2.1 z.2.1.2.1.2.2.1 = (u_spec_l01Div_14 (fun y => some (.inl y)) (hIn x_spec_l01Div_14 fun x => some (.inr x)) z.1.2.2.1.1 z.2.1.1.1 z.2.1.1.2.1 z.2.1.1.2.2.1 z.2.1.2.1.1 z.2.1.2.1.2.1 z.2.1.2.1.2.2.1).bind (goOn nx hx)
  unfold u_spec_l01Div_14
  exact nat_cond (nat_cond (rfl) (rfl)) (rfl)
noncomputable def w_spec_l01Div_14 : s_spec_l01Div_14.T → Option (exT x_spec_l01Div_14) := wOf @t_spec_l01Div_14
theorem wq_spec_l01Div_14 (x8 : Int) (b0_0 : Int) (b0_1 : Int) (b0_2 : Int) (b1_0 : Int) (b1_1 : Int) (b1_2 : Int) : w_spec_l01Div_14 (m_spec_l01Div_14 x8 b0_0 b0_1 b0_2 b1_0 b1_1 b1_2) = u_spec_l01Div_14 w_spec_l01Div_14 (hIn x_spec_l01Div_14 some) x8 b0_0 b0_1 b0_2 b1_0 b1_1 b1_2 := wOf_eq nat_spec_l01Div_14 _
def lh_spec_l01Div_14 : LoopHint := ⟨[4, 7, 8], [4, 7], [4, 7], [4, 7]⟩
noncomputable def h_spec_l01Div : Hints Rv := ⟨fun k => match k with | 6 => lh_spec_l01Div_6 | 14 => lh_spec_l01Div_14 | _ => ⟨[], [], [], []⟩, fun k => match k with | 6 => some (loopX s_spec_l01Div_6 x_spec_l01Div_6 w_spec_l01Div_6) | 14 => some (loopX s_spec_l01Div_14 x_spec_l01Div_14 w_spec_l01Div_14) | _ => none⟩
theorem st_spec_l01Div_6 (n : Nat) (z : s_spec_l01Div_6.T) (k : Ex → Live → Option Rv) : loopN ⟨105, 105⟩ lh_spec_l01Div_6 (den (tab C0 T_spec_l01Div) ⟨105, 105⟩ h_spec_l01Div 1 (loopOf Tryd.f96 5)) (n + 1) (s_spec_l01Div_6.enc z) k =
    t_spec_l01Div_6 (fun y => loopN ⟨105, 105⟩ lh_spec_l01Div_6 (den (tab C0 T_spec_l01Div) ⟨105, 105⟩ h_spec_l01Div 1 (loopOf Tryd.f96 5)) n (s_spec_l01Div_6.enc y) k) (hK k x_spec_l01Div_6) z := by kernel_rfl
theorem st_spec_l01Div_14 (n : Nat) (z : s_spec_l01Div_14.T) (k : Ex → Live → Option Rv) : loopN ⟨105, 105⟩ lh_spec_l01Div_14 (den (tab C0 T_spec_l01Div) ⟨105, 105⟩ h_spec_l01Div 1 (loopOf Tryd.f96 13)) (n + 1) (s_spec_l01Div_14.enc z) k =
    t_spec_l01Div_14 (fun y => loopN ⟨105, 105⟩ lh_spec_l01Div_14 (den (tab C0 T_spec_l01Div) ⟨105, 105⟩ h_spec_l01Div 1 (loopOf Tryd.f96 13)) n (s_spec_l01Div_14.enc y) k) (hK k x_spec_l01Div_14) z := by kernel_rfl
theorem hs_spec_l01Div : HintsOk (tab C0 T_spec_l01Div) ⟨105, 105⟩ h_spec_l01Div 1 (loops (codeOf Tryd.f96)) := by
  have hl : loops (codeOf Tryd.f96) = [loopOf Tryd.f96 5, loopOf Tryd.f96 13] := by kernel_rfl
  rw [hl]
  exact HintsOk.cons (n := 6) (lh := lh_spec_l01Div_6) (S := loopX s_spec_l01Div_6 x_spec_l01Div_6 w_spec_l01Div_6) (by kernel_rfl) rfl rfl (loopX_ok nat_spec_l01Div_6 st_spec_l01Div_6)
    (HintsOk.cons (n := 14) (lh := lh_spec_l01Div_14) (S := loopX s_spec_l01Div_14 x_spec_l01Div_14 w_spec_l01Div_14) (by kernel_rfl) rfl rfl (loopX_ok nat_spec_l01Div_14 st_spec_l01Div_14)
    (HintsOk.nil))
noncomputable def t_spec_l01Div {R : Type} (kx : (Int × (Int × Int)) × Bool → Option R) (a0 : (Int × (Int × Int))) (a1 : (Int × (Int × Int))) : Option R :=
  cond ((IntKind.wrap IntKind.i64 ((IntKind.wrap IntKind.i64 (a1.1 * a1.1)) - (IntKind.wrap IntKind.i64 ((IntKind.wrap IntKind.i64 ((2 : Int) * a1.2.1)) * a1.2.1)))) == (0 : Int))
  (kx (((0 : Int), ((0 : Int), (0 : Int))), Bool.false))
  (Option.bind (w_spec_l01Div_6 (m_spec_l01Div_6 (IntKind.wrap IntKind.i64 ((IntKind.wrap IntKind.i64 (a1.1 * a1.1)) - (IntKind.wrap IntKind.i64 ((IntKind.wrap IntKind.i64 ((2 : Int) * a1.2.1)) * a1.2.1)))) a1.1 a1.2.1 a1.2.2 (0 : Int) (0 : Int) (0 : Int) (IntKind.wrap IntKind.i64 ((IntKind.wrap IntKind.i64 (a0.1 * a1.1)) - (IntKind.wrap IntKind.i64 ((IntKind.wrap IntKind.i64 ((2 : Int) * a0.2.1)) * a1.2.1)))) (IntKind.wrap IntKind.i64 ((IntKind.wrap IntKind.i64 (a0.2.1 * a1.1)) - (IntKind.wrap IntKind.i64 (a0.1 * a1.2.1)))) a0.2.2)) (exC x_spec_l01Div_6
   (fun e151 =>
    cond (decide ((e151.1.2.2.1.1 : Int) = (0 : Int)))
    (none)
    (cond ((Int.tmod (e151.2.1.2.2.1.1 : Int) (e151.1.2.2.1.1 : Int)) != (0 : Int))
     (kx (((0 : Int), ((0 : Int), (0 : Int))), Bool.false))
     (cond (decide ((e151.1.2.2.1.1 : Int) = (0 : Int)))
      (none)
      (cond ((Int.tmod (e151.2.1.2.2.1.2.1 : Int) (e151.1.2.2.1.1 : Int)) != (0 : Int))
       (kx (((0 : Int), ((0 : Int), (0 : Int))), Bool.false))
       (cond (decide ((e151.1.2.2.1.1 : Int) = (0 : Int)))
        (none)
        (cond (decide ((e151.1.2.2.1.1 : Int) = (0 : Int)))
         (none)
         (Option.bind (w_spec_l01Div_14 (m_spec_l01Div_14 (e151.2.1.1.2.2.1 : Int) (e151.2.1.2.1.1 : Int) (e151.2.1.2.1.2.1 : Int) (e151.2.1.2.1.2.2.1 : Int) (IntKind.wrap IntKind.i64 (Int.tdiv (e151.2.1.2.2.1.1 : Int) (e151.1.2.2.1.1 : Int))) (IntKind.wrap IntKind.i64 (Int.tdiv (e151.2.1.2.2.1.2.1 : Int) (e151.1.2.2.1.1 : Int))) (e151.2.1.2.2.1.2.2.1 : Int))) (exC x_spec_l01Div_14
          (fun e169 =>
           Option.bind (g_spec_l01Low ((e169.2.1.2.1.1 : Int), ((e169.2.1.2.1.2.1 : Int), (e169.2.1.2.1.2.2.1 : Int)))) fun y176 =>
           kx (y176, Bool.true), ())))))))), ())))
noncomputable def g_spec_l01Div (a0 : (Int × (Int × Int))) (a1 : (Int × (Int × Int))) : Option ((Int × (Int × Int)) × Bool) := t_spec_l01Div some a0 a1
theorem nat_spec_l01Div {R : Type} (kx : (Int × (Int × Int)) × Bool → Option R) (a0 : (Int × (Int × Int))) (a1 : (Int × (Int × Int))) : t_spec_l01Div kx a0 a1 = (g_spec_l01Div a0 a1).bind kx := by
  unfold g_spec_l01Div t_spec_l01Div
  exact nat_cond (rfl) (nat_exC ⟨fun _ => nat_cond (rfl) (nat_cond (rfl) (nat_cond (rfl) (nat_cond (rfl) (nat_cond (rfl) (nat_cond (rfl) (nat_exC ⟨fun _ => nat_bind fun _ => rfl, trivial⟩)))))), trivial⟩)
abbrev as_spec_l01Div : List AX := [.val true (.pair (.int .i64) (.pair (.int .i64) (.int .i64))), .val true (.pair (.int .i64) (.pair (.int .i64) (.int .i64)))]
abbrev en_spec_l01Div : (Int × (Int × Int)) × Bool → AV × List CV := fun b => (.tup [⟨true, [(.v (.int .i64 b.1.1)), (.v (.int .i64 b.1.2.1)), (.v (.int .i64 b.1.2.2))]⟩, ⟨false, [(.v (.bool b.2))]⟩], [])
noncomputable abbrev k_spec_l01Div : Contract := .fx as_spec_l01Div ((Int × (Int × Int)) × Bool) (fun z => g_spec_l01Div z.1 z.2.1) en_spec_l01Div
theorem r_spec_l01Div (z : argsX as_spec_l01Div) : runF (tab C0 T_spec_l01Div) h_spec_l01Div 1 Tryd.f96 (lentOf as_spec_l01Div) (xBoxes as_spec_l01Div z) (xVals as_spec_l01Div 0 z) K2 = t_spec_l01Div (fun b => some (en_spec_l01Div b)) z.1 z.2.1 := by kernel_rfl
theorem so_spec_l01Div : Sound C0 96 k_spec_l01Div :=
  Sound.fx a_spec_l01Div mixed Tryd.func96 (by kernel_rfl) (by kernel_rfl) h_spec_l01Div 1 hs_spec_l01Div (fun z => (r_spec_l01Div z).trans (nat_spec_l01Div _ z.1 z.2.1))

/-! ### F54 spec.l23Half -/
noncomputable def T_spec_l23Half : List (FuncId × Contract) := []
theorem a_spec_l23Half : AllSound C0 T_spec_l23Half := .nil
noncomputable def t_spec_l23Half {R : Type} (kx : (Int × (Int × Int)) → Option R) (a0 : (Int × (Int × Int))) : Option R :=
  kx (a0.1, (a0.2.1, (IntKind.wrap IntKind.i64 (a0.2.2 + (1 : Int)))))
noncomputable def g_spec_l23Half (a0 : (Int × (Int × Int))) : Option ((Int × (Int × Int))) := t_spec_l23Half some a0
theorem nat_spec_l23Half {R : Type} (kx : (Int × (Int × Int)) → Option R) (a0 : (Int × (Int × Int))) : t_spec_l23Half kx a0 = (g_spec_l23Half a0).bind kx := by
  unfold g_spec_l23Half t_spec_l23Half
  exact rfl
abbrev as_spec_l23Half : List AX := [.val true (.pair (.int .i64) (.pair (.int .i64) (.int .i64)))]
abbrev en_spec_l23Half : (Int × (Int × Int)) → AV × List CV := fun b => (.one ⟨true, [(.v (.int .i64 b.1)), (.v (.int .i64 b.2.1)), (.v (.int .i64 b.2.2))]⟩, [])
noncomputable abbrev k_spec_l23Half : Contract := .fx as_spec_l23Half ((Int × (Int × Int))) (fun z => g_spec_l23Half z.1) en_spec_l23Half
theorem r_spec_l23Half (z : argsX as_spec_l23Half) : runF (tab C0 T_spec_l23Half) noHints 1 Tryd.f54 (lentOf as_spec_l23Half) (xBoxes as_spec_l23Half z) (xVals as_spec_l23Half 0 z) K2 = t_spec_l23Half (fun b => some (en_spec_l23Half b)) z.1 := by kernel_rfl
theorem so_spec_l23Half : Sound C0 54 k_spec_l23Half :=
  Sound.fx a_spec_l23Half mixed Tryd.func54 (by kernel_rfl) (by kernel_rfl) noHints 1 noHints_ok (fun z => (r_spec_l23Half z).trans (nat_spec_l23Half _ z.1))

/-! ### F45 spec.l23Move -/
noncomputable def T_spec_l23Move : List (FuncId × Contract) := [(92, k_spec_l02Vec), (39, k_spec_l02Of), (93, k_spec_l02Dot), (94, k_spec_l01Sub), (95, k_spec_l02Zero), (98, k_spec_l02Square), (97, k_spec_l01Mul), (96, k_spec_l01Div), (54, k_spec_l23Half), (55, k_spec_l01Add)]
theorem a_spec_l23Move : AllSound C0 T_spec_l23Move := .cons so_spec_l02Vec (.cons so_spec_l02Of (.cons so_spec_l02Dot (.cons so_spec_l01Sub (.cons so_spec_l02Zero (.cons so_spec_l02Square (.cons so_spec_l01Mul (.cons so_spec_l01Div (.cons so_spec_l23Half (.cons so_spec_l01Add (.nil))))))))))
noncomputable def t_spec_l23Move {R : Type} (kx : (Int × (Int × (Int × Int))) × Int → Option R) (a0 : Int) (a1 : ((Int × (Int × Int)) × (Int × (Int × Int)))) (a2 : (Int × (Int × (Int × Int)))) : Option R :=
  Option.bind (g_spec_l02Vec (IntKind.wrap IntKind.i64 (a0 + (4 : Int)))) fun y46 =>
  Option.bind (g_spec_l02Of y46) fun y47 =>
  Option.bind (g_spec_l02Dot (IntKind.wrap IntKind.i64 (a2.1 + (4 : Int))) y47) fun y120 =>
  Option.bind (g_spec_l02Dot (IntKind.wrap IntKind.i64 (a2.1 + (4 : Int))) a1) fun y121 =>
  Option.bind (g_spec_l01Sub a2.2 y121) fun y127 =>
  Option.bind (g_spec_l02Zero y120) fun y129 =>
  cond y129
  (Option.bind (g_spec_l02Zero y127) fun y130 =>
   cond y130
   (kx (((0 : Int), ((0 : Int), ((0 : Int), (0 : Int)))), (2 : Int)))
   (kx (((0 : Int), ((0 : Int), ((0 : Int), (0 : Int)))), (0 : Int))))
  (Option.bind (g_spec_l02Square (IntKind.wrap IntKind.i64 (a0 + (4 : Int)))) fun y137 =>
   Option.bind (g_spec_l01Mul y127 y137) fun y138 =>
   Option.bind (g_spec_l01Div y138 y120) fun y177 =>
   Option.bind (g_spec_l02Dot (IntKind.wrap IntKind.i64 (a0 + (4 : Int))) a1) fun y178 =>
   Option.bind (g_spec_l23Half y177.1) fun y180 =>
   Option.bind (g_spec_l01Add y178 y180) fun y181 =>
   kx ((a0, y181), (1 : Int)))
noncomputable def g_spec_l23Move (a0 : Int) (a1 : ((Int × (Int × Int)) × (Int × (Int × Int)))) (a2 : (Int × (Int × (Int × Int)))) : Option ((Int × (Int × (Int × Int))) × Int) := t_spec_l23Move some a0 a1 a2
theorem nat_spec_l23Move {R : Type} (kx : (Int × (Int × (Int × Int))) × Int → Option R) (a0 : Int) (a1 : ((Int × (Int × Int)) × (Int × (Int × Int)))) (a2 : (Int × (Int × (Int × Int)))) : t_spec_l23Move kx a0 a1 a2 = (g_spec_l23Move a0 a1 a2).bind kx := by
  unfold g_spec_l23Move t_spec_l23Move
  exact nat_bind fun _ => nat_bind fun _ => nat_bind fun _ => nat_bind fun _ => nat_bind fun _ => nat_bind fun _ => nat_cond (nat_bind fun _ => nat_cond (rfl) (rfl)) (nat_bind fun _ => nat_bind fun _ => nat_bind fun _ => nat_bind fun _ => nat_bind fun _ => nat_bind fun _ => rfl)
abbrev as_spec_l23Move : List AX := [.val false (.int .i64), .val true (.pair (.pair (.int .i64) (.pair (.int .i64) (.int .i64))) (.pair (.int .i64) (.pair (.int .i64) (.int .i64)))), .val true (.pair (.int .i64) (.pair (.int .i64) (.pair (.int .i64) (.int .i64))))]
abbrev en_spec_l23Move : (Int × (Int × (Int × Int))) × Int → AV × List CV := fun b => (.tup [⟨true, [(.v (.int .i64 b.1.1)), (.v (.int .i64 b.1.2.1)), (.v (.int .i64 b.1.2.2.1)), (.v (.int .i64 b.1.2.2.2))]⟩, ⟨false, [(.v (.int .i64 b.2))]⟩], [])
noncomputable abbrev k_spec_l23Move : Contract := .fx as_spec_l23Move ((Int × (Int × (Int × Int))) × Int) (fun z => g_spec_l23Move z.1 z.2.1 z.2.2.1) en_spec_l23Move
theorem r_spec_l23Move (z : argsX as_spec_l23Move) : runF (tab C0 T_spec_l23Move) noHints 1 Tryd.f45 (lentOf as_spec_l23Move) (xBoxes as_spec_l23Move z) (xVals as_spec_l23Move 0 z) K2 = t_spec_l23Move (fun b => some (en_spec_l23Move b)) z.1 z.2.1 z.2.2.1 := by kernel_rfl
theorem so_spec_l23Move : Sound C0 45 k_spec_l23Move :=
  Sound.fx a_spec_l23Move mixed Tryd.func45 (by kernel_rfl) (by kernel_rfl) noHints 1 noHints_ok (fun z => (r_spec_l23Move z).trans (nat_spec_l23Move _ z.1 z.2.1 z.2.2.1))

/-! ### F127 spec.l01Num -/
noncomputable def T_spec_l01Num : List (FuncId × Contract) := [(104, k_spec_l01Low), (78, k_spec_l01Ok)]
theorem a_spec_l01Num : AllSound C0 T_spec_l01Num := .cons so_spec_l01Low (.cons so_spec_l01Ok (.nil))
noncomputable def t_spec_l01Num {R : Type} (kx : (Int × (Int × Int)) × Bool → Option R) (a0 : (Int × (Int × Int))) : Option R :=
  Option.bind (g_spec_l01Low a0) fun y186 =>
  Option.bind (g_spec_l01Ok y186) fun y187 =>
  cond (!y187)
  (kx (((0 : Int), ((0 : Int), (0 : Int))), Bool.false))
  (kx (y186, Bool.true))
noncomputable def g_spec_l01Num (a0 : (Int × (Int × Int))) : Option ((Int × (Int × Int)) × Bool) := t_spec_l01Num some a0
theorem nat_spec_l01Num {R : Type} (kx : (Int × (Int × Int)) × Bool → Option R) (a0 : (Int × (Int × Int))) : t_spec_l01Num kx a0 = (g_spec_l01Num a0).bind kx := by
  unfold g_spec_l01Num t_spec_l01Num
  exact nat_bind fun _ => nat_bind fun _ => nat_cond (rfl) (rfl)
abbrev as_spec_l01Num : List AX := [.val true (.pair (.int .i64) (.pair (.int .i64) (.int .i64)))]
abbrev en_spec_l01Num : (Int × (Int × Int)) × Bool → AV × List CV := fun b => (.tup [⟨true, [(.v (.int .i64 b.1.1)), (.v (.int .i64 b.1.2.1)), (.v (.int .i64 b.1.2.2))]⟩, ⟨false, [(.v (.bool b.2))]⟩], [])
noncomputable abbrev k_spec_l01Num : Contract := .fx as_spec_l01Num ((Int × (Int × Int)) × Bool) (fun z => g_spec_l01Num z.1) en_spec_l01Num
theorem r_spec_l01Num (z : argsX as_spec_l01Num) : runF (tab C0 T_spec_l01Num) noHints 1 Tryd.f127 (lentOf as_spec_l01Num) (xBoxes as_spec_l01Num z) (xVals as_spec_l01Num 0 z) K2 = t_spec_l01Num (fun b => some (en_spec_l01Num b)) z.1 := by kernel_rfl
theorem so_spec_l01Num : Sound C0 127 k_spec_l01Num :=
  Sound.fx a_spec_l01Num mixed Tryd.func127 (by kernel_rfl) (by kernel_rfl) noHints 1 noHints_ok (fun z => (r_spec_l01Num z).trans (nat_spec_l01Num _ z.1))

/-! ### F99 spec.l23Line -/
noncomputable def T_spec_l23Line : List (FuncId × Contract) := [(127, k_spec_l01Num)]
theorem a_spec_l23Line : AllSound C0 T_spec_l23Line := .cons so_spec_l01Num (.nil)
noncomputable def t_spec_l23Line {R : Type} (kx : (Int × (Int × (Int × Int))) × Bool → Option R) (a0 : (Int × (Int × (Int × Int)))) : Option R :=
  Option.bind (g_spec_l01Num a0.2) fun y188 =>
  cond (!y188.2)
  (kx (((0 : Int), ((0 : Int), ((0 : Int), (0 : Int)))), Bool.false))
  (kx ((a0.1, y188.1), Bool.true))
noncomputable def g_spec_l23Line (a0 : (Int × (Int × (Int × Int)))) : Option ((Int × (Int × (Int × Int))) × Bool) := t_spec_l23Line some a0
theorem nat_spec_l23Line {R : Type} (kx : (Int × (Int × (Int × Int))) × Bool → Option R) (a0 : (Int × (Int × (Int × Int)))) : t_spec_l23Line kx a0 = (g_spec_l23Line a0).bind kx := by
  unfold g_spec_l23Line t_spec_l23Line
  exact nat_bind fun _ => nat_cond (rfl) (rfl)
abbrev as_spec_l23Line : List AX := [.val true (.pair (.int .i64) (.pair (.int .i64) (.pair (.int .i64) (.int .i64))))]
abbrev en_spec_l23Line : (Int × (Int × (Int × Int))) × Bool → AV × List CV := fun b => (.tup [⟨true, [(.v (.int .i64 b.1.1)), (.v (.int .i64 b.1.2.1)), (.v (.int .i64 b.1.2.2.1)), (.v (.int .i64 b.1.2.2.2))]⟩, ⟨false, [(.v (.bool b.2))]⟩], [])
noncomputable abbrev k_spec_l23Line : Contract := .fx as_spec_l23Line ((Int × (Int × (Int × Int))) × Bool) (fun z => g_spec_l23Line z.1) en_spec_l23Line
theorem r_spec_l23Line (z : argsX as_spec_l23Line) : runF (tab C0 T_spec_l23Line) noHints 1 Tryd.f99 (lentOf as_spec_l23Line) (xBoxes as_spec_l23Line z) (xVals as_spec_l23Line 0 z) K2 = t_spec_l23Line (fun b => some (en_spec_l23Line b)) z.1 := by kernel_rfl
theorem so_spec_l23Line : Sound C0 99 k_spec_l23Line :=
  Sound.fx a_spec_l23Line mixed Tryd.func99 (by kernel_rfl) (by kernel_rfl) noHints 1 noHints_ok (fun z => (r_spec_l23Line z).trans (nat_spec_l23Line _ z.1))

/-! ### F46 spec.l23One -/
noncomputable def T_spec_l23One : List (FuncId × Contract) := [(99, k_spec_l23Line)]
theorem a_spec_l23One : AllSound C0 T_spec_l23One := .cons so_spec_l23Line (.nil)
noncomputable def t_spec_l23One {R : Type} (kx : (Int × (Int × (Int × Int))) × Int → Option R) (a0 : (Int × (Int × (Int × Int)))) : Option R :=
  Option.bind (g_spec_l23Line a0) fun y189 =>
  cond (!y189.2)
  (kx (((0 : Int), ((0 : Int), ((0 : Int), (0 : Int)))), (2 : Int)))
  (kx (y189.1, (0 : Int)))
noncomputable def g_spec_l23One (a0 : (Int × (Int × (Int × Int)))) : Option ((Int × (Int × (Int × Int))) × Int) := t_spec_l23One some a0
theorem nat_spec_l23One {R : Type} (kx : (Int × (Int × (Int × Int))) × Int → Option R) (a0 : (Int × (Int × (Int × Int)))) : t_spec_l23One kx a0 = (g_spec_l23One a0).bind kx := by
  unfold g_spec_l23One t_spec_l23One
  exact nat_bind fun _ => nat_cond (rfl) (rfl)
abbrev as_spec_l23One : List AX := [.val true (.pair (.int .i64) (.pair (.int .i64) (.pair (.int .i64) (.int .i64))))]
abbrev en_spec_l23One : (Int × (Int × (Int × Int))) × Int → AV × List CV := fun b => (.tup [⟨true, [(.v (.int .i64 b.1.1)), (.v (.int .i64 b.1.2.1)), (.v (.int .i64 b.1.2.2.1)), (.v (.int .i64 b.1.2.2.2))]⟩, ⟨false, [(.v (.int .i64 b.2))]⟩], [])
noncomputable abbrev k_spec_l23One : Contract := .fx as_spec_l23One ((Int × (Int × (Int × Int))) × Int) (fun z => g_spec_l23One z.1) en_spec_l23One
theorem r_spec_l23One (z : argsX as_spec_l23One) : runF (tab C0 T_spec_l23One) noHints 1 Tryd.f46 (lentOf as_spec_l23One) (xBoxes as_spec_l23One z) (xVals as_spec_l23One 0 z) K2 = t_spec_l23One (fun b => some (en_spec_l23One b)) z.1 := by kernel_rfl
theorem so_spec_l23One : Sound C0 46 k_spec_l23One :=
  Sound.fx a_spec_l23One mixed Tryd.func46 (by kernel_rfl) (by kernel_rfl) noHints 1 noHints_ok (fun z => (r_spec_l23One z).trans (nat_spec_l23One _ z.1))

/-! ### F14 spec.FoldAcross -/
noncomputable def T_spec_FoldAcross : List (FuncId × Contract) := [(36, k_spec_l02Point), (35, k_spec_l02Line), (39, k_spec_l02Of), (38, k_spec_l02LineOf), (45, k_spec_l23Move), (46, k_spec_l23One)]
theorem a_spec_FoldAcross : AllSound C0 T_spec_FoldAcross := .cons so_spec_l02Point (.cons so_spec_l02Line (.cons so_spec_l02Of (.cons so_spec_l02LineOf (.cons so_spec_l23Move (.cons so_spec_l23One (.nil))))))
noncomputable def t_spec_FoldAcross {R : Type} (kx : (Int × (Int × (Int × Int))) × Int → Option R) (a0 : ((Int × (Int × Int)) × (Int × (Int × Int)))) (a1 : (Int × (Int × (Int × Int)))) (a2 : (Int × (Int × (Int × Int)))) : Option R :=
  Option.bind (g_spec_l02Point a0) fun y25 =>
  cond (!y25)
  (kx (((0 : Int), ((0 : Int), ((0 : Int), (0 : Int)))), (1 : Int)))
  (Option.bind (g_spec_l02Line a1) fun y29 =>
   cond (!y29)
   (kx (((0 : Int), ((0 : Int), ((0 : Int), (0 : Int)))), (1 : Int)))
   (Option.bind (g_spec_l02Line a2) fun y30 =>
    cond (!y30)
    (kx (((0 : Int), ((0 : Int), ((0 : Int), (0 : Int)))), (1 : Int)))
    (cond (a1.1 == a2.1)
     (kx (((0 : Int), ((0 : Int), ((0 : Int), (0 : Int)))), (7 : Int)))
     (Option.bind (g_spec_l02Of a0) fun y35 =>
      Option.bind (g_spec_l02LineOf a1) fun y38 =>
      Option.bind (g_spec_l23Move (Int.tmod (IntKind.wrap IntKind.i64 (a2.1 + (4 : Int))) (8 : Int)) y35 y38) fun y182 =>
      Option.bind (g_spec_l23One y182.1) fun y190 =>
      kx y190))))
noncomputable def g_spec_FoldAcross (a0 : ((Int × (Int × Int)) × (Int × (Int × Int)))) (a1 : (Int × (Int × (Int × Int)))) (a2 : (Int × (Int × (Int × Int)))) : Option ((Int × (Int × (Int × Int))) × Int) := t_spec_FoldAcross some a0 a1 a2
theorem nat_spec_FoldAcross {R : Type} (kx : (Int × (Int × (Int × Int))) × Int → Option R) (a0 : ((Int × (Int × Int)) × (Int × (Int × Int)))) (a1 : (Int × (Int × (Int × Int)))) (a2 : (Int × (Int × (Int × Int)))) : t_spec_FoldAcross kx a0 a1 a2 = (g_spec_FoldAcross a0 a1 a2).bind kx := by
  unfold g_spec_FoldAcross t_spec_FoldAcross
  exact nat_bind fun _ => nat_cond (rfl) (nat_bind fun _ => nat_cond (rfl) (nat_bind fun _ => nat_cond (rfl) (nat_cond (rfl) (nat_bind fun _ => nat_bind fun _ => nat_bind fun _ => nat_bind fun _ => rfl))))
abbrev as_spec_FoldAcross : List AX := [.val true (.pair (.pair (.int .i64) (.pair (.int .i64) (.int .i64))) (.pair (.int .i64) (.pair (.int .i64) (.int .i64)))), .val true (.pair (.int .i64) (.pair (.int .i64) (.pair (.int .i64) (.int .i64)))), .val true (.pair (.int .i64) (.pair (.int .i64) (.pair (.int .i64) (.int .i64))))]
abbrev en_spec_FoldAcross : (Int × (Int × (Int × Int))) × Int → AV × List CV := fun b => (.tup [⟨true, [(.v (.int .i64 b.1.1)), (.v (.int .i64 b.1.2.1)), (.v (.int .i64 b.1.2.2.1)), (.v (.int .i64 b.1.2.2.2))]⟩, ⟨false, [(.v (.int .i64 b.2))]⟩], [])
noncomputable abbrev k_spec_FoldAcross : Contract := .fx as_spec_FoldAcross ((Int × (Int × (Int × Int))) × Int) (fun z => g_spec_FoldAcross z.1 z.2.1 z.2.2.1) en_spec_FoldAcross
theorem r_spec_FoldAcross (z : argsX as_spec_FoldAcross) : runF (tab C0 T_spec_FoldAcross) noHints 1 Tryd.f14 (lentOf as_spec_FoldAcross) (xBoxes as_spec_FoldAcross z) (xVals as_spec_FoldAcross 0 z) K2 = t_spec_FoldAcross (fun b => some (en_spec_FoldAcross b)) z.1 z.2.1 z.2.2.1 := by kernel_rfl
theorem so_spec_FoldAcross : Sound C0 14 k_spec_FoldAcross :=
  Sound.fx a_spec_FoldAcross mixed Tryd.func14 (by kernel_rfl) (by kernel_rfl) noHints 1 noHints_ok (fun z => (r_spec_FoldAcross z).trans (nat_spec_FoldAcross _ z.1 z.2.1 z.2.2.1))

/-! ### F82 impl.within -/
noncomputable def T_impl_within : List (FuncId × Contract) := []
theorem a_impl_within : AllSound C0 T_impl_within := .nil
noncomputable def t_impl_within {R : Type} (kx : Bool → Option R) (a0 : Int) (a1 : Int) (a2 : Int) : Option R :=
  cond (decide (a0 ≥ a1))
  (kx (decide (a0 ≤ a2)))
  (kx Bool.false)
noncomputable def g_impl_within (a0 : Int) (a1 : Int) (a2 : Int) : Option (Bool) := t_impl_within some a0 a1 a2
theorem nat_impl_within {R : Type} (kx : Bool → Option R) (a0 : Int) (a1 : Int) (a2 : Int) : t_impl_within kx a0 a1 a2 = (g_impl_within a0 a1 a2).bind kx := by
  unfold g_impl_within t_impl_within
  exact nat_cond (rfl) (rfl)
abbrev as_impl_within : List AX := [.val false (.int .i64), .val false (.int .i64), .val false (.int .i64)]
abbrev en_impl_within : Bool → AV × List CV := fun b => (.one ⟨false, [(.v (.bool b))]⟩, [])
noncomputable abbrev k_impl_within : Contract := .fx as_impl_within (Bool) (fun z => g_impl_within z.1 z.2.1 z.2.2.1) en_impl_within
theorem r_impl_within (z : argsX as_impl_within) : runF (tab C0 T_impl_within) noHints 1 Tryd.f82 (lentOf as_impl_within) (xBoxes as_impl_within z) (xVals as_impl_within 0 z) K2 = t_impl_within (fun b => some (en_impl_within b)) z.1 z.2.1 z.2.2.1 := by kernel_rfl
theorem so_impl_within : Sound C0 82 k_impl_within :=
  Sound.fx a_impl_within mixed Tryd.func82 (by kernel_rfl) (by kernel_rfl) noHints 1 noHints_ok (fun z => (r_impl_within z).trans (nat_impl_within _ z.1 z.2.1 z.2.2.1))

/-! ### F83 impl.ValidNum -/
noncomputable def T_impl_ValidNum : List (FuncId × Contract) := [(82, k_impl_within)]
theorem a_impl_ValidNum : AllSound C0 T_impl_ValidNum := .cons so_impl_within (.nil)
noncomputable def t_impl_ValidNum {R : Type} (kx : Bool → Option R) (a0 : (Int × (Int × Int))) : Option R :=
  Option.bind (g_impl_within a0.1 (-(131072 : Int)) (131072 : Int)) fun y203 =>
  cond y203
  (Option.bind (g_impl_within a0.2.1 (-(131072 : Int)) (131072 : Int)) fun y204 =>
   cond y204
   (Option.bind (g_impl_within a0.2.2 (0 : Int) (10 : Int)) fun y205 =>
    cond y205
    (cond (a0.2.2 == (0 : Int))
     (kx Bool.true)
     (cond ((IntKind.wrap IntKind.i64 (((BitVec.toNat ((BitVec.ofInt 64 a0.1) &&& (BitVec.ofInt 64 (1 : Int)))) : Nat) : Int)) == (1 : Int))
      (kx Bool.true)
      (kx ((IntKind.wrap IntKind.i64 (((BitVec.toNat ((BitVec.ofInt 64 a0.2.1) &&& (BitVec.ofInt 64 (1 : Int)))) : Nat) : Int)) == (1 : Int)))))
    (kx Bool.false))
   (kx Bool.false))
  (kx Bool.false)
noncomputable def g_impl_ValidNum (a0 : (Int × (Int × Int))) : Option (Bool) := t_impl_ValidNum some a0
theorem nat_impl_ValidNum {R : Type} (kx : Bool → Option R) (a0 : (Int × (Int × Int))) : t_impl_ValidNum kx a0 = (g_impl_ValidNum a0).bind kx := by
  unfold g_impl_ValidNum t_impl_ValidNum
  exact nat_bind fun _ => nat_cond (nat_bind fun _ => nat_cond (nat_bind fun _ => nat_cond (nat_cond (rfl) (nat_cond (rfl) (rfl))) (rfl)) (rfl)) (rfl)
abbrev as_impl_ValidNum : List AX := [.val true (.pair (.int .i64) (.pair (.int .i64) (.int .i64)))]
abbrev en_impl_ValidNum : Bool → AV × List CV := fun b => (.one ⟨false, [(.v (.bool b))]⟩, [])
noncomputable abbrev k_impl_ValidNum : Contract := .fx as_impl_ValidNum (Bool) (fun z => g_impl_ValidNum z.1) en_impl_ValidNum
theorem r_impl_ValidNum (z : argsX as_impl_ValidNum) : runF (tab C0 T_impl_ValidNum) noHints 1 Tryd.f83 (lentOf as_impl_ValidNum) (xBoxes as_impl_ValidNum z) (xVals as_impl_ValidNum 0 z) K2 = t_impl_ValidNum (fun b => some (en_impl_ValidNum b)) z.1 := by kernel_rfl
theorem so_impl_ValidNum : Sound C0 83 k_impl_ValidNum :=
  Sound.fx a_impl_ValidNum mixed Tryd.func83 (by kernel_rfl) (by kernel_rfl) noHints 1 noHints_ok (fun z => (r_impl_ValidNum z).trans (nat_impl_ValidNum _ z.1))

/-! ### F42 impl.ValidPoint -/
noncomputable def T_impl_ValidPoint : List (FuncId × Contract) := [(83, k_impl_ValidNum)]
theorem a_impl_ValidPoint : AllSound C0 T_impl_ValidPoint := .cons so_impl_ValidNum (.nil)
noncomputable def t_impl_ValidPoint {R : Type} (kx : Bool → Option R) (a0 : ((Int × (Int × Int)) × (Int × (Int × Int)))) : Option R :=
  Option.bind (g_impl_ValidNum a0.1) fun y206 =>
  cond y206
  (Option.bind (g_impl_ValidNum a0.2) fun y207 =>
   kx y207)
  (kx Bool.false)
noncomputable def g_impl_ValidPoint (a0 : ((Int × (Int × Int)) × (Int × (Int × Int)))) : Option (Bool) := t_impl_ValidPoint some a0
theorem nat_impl_ValidPoint {R : Type} (kx : Bool → Option R) (a0 : ((Int × (Int × Int)) × (Int × (Int × Int)))) : t_impl_ValidPoint kx a0 = (g_impl_ValidPoint a0).bind kx := by
  unfold g_impl_ValidPoint t_impl_ValidPoint
  exact nat_bind fun _ => nat_cond (nat_bind fun _ => rfl) (rfl)
abbrev as_impl_ValidPoint : List AX := [.val true (.pair (.pair (.int .i64) (.pair (.int .i64) (.int .i64))) (.pair (.int .i64) (.pair (.int .i64) (.int .i64))))]
abbrev en_impl_ValidPoint : Bool → AV × List CV := fun b => (.one ⟨false, [(.v (.bool b))]⟩, [])
noncomputable abbrev k_impl_ValidPoint : Contract := .fx as_impl_ValidPoint (Bool) (fun z => g_impl_ValidPoint z.1) en_impl_ValidPoint
theorem r_impl_ValidPoint (z : argsX as_impl_ValidPoint) : runF (tab C0 T_impl_ValidPoint) noHints 1 Tryd.f42 (lentOf as_impl_ValidPoint) (xBoxes as_impl_ValidPoint z) (xVals as_impl_ValidPoint 0 z) K2 = t_impl_ValidPoint (fun b => some (en_impl_ValidPoint b)) z.1 := by kernel_rfl
theorem so_impl_ValidPoint : Sound C0 42 k_impl_ValidPoint :=
  Sound.fx a_impl_ValidPoint mixed Tryd.func42 (by kernel_rfl) (by kernel_rfl) noHints 1 noHints_ok (fun z => (r_impl_ValidPoint z).trans (nat_impl_ValidPoint _ z.1))

/-! ### F41 impl.ValidLine -/
noncomputable def T_impl_ValidLine : List (FuncId × Contract) := [(82, k_impl_within), (83, k_impl_ValidNum)]
theorem a_impl_ValidLine : AllSound C0 T_impl_ValidLine := .cons so_impl_within (.cons so_impl_ValidNum (.nil))
noncomputable def t_impl_ValidLine {R : Type} (kx : Bool → Option R) (a0 : (Int × (Int × (Int × Int)))) : Option R :=
  Option.bind (g_impl_within a0.1 (0 : Int) (7 : Int)) fun y210 =>
  cond y210
  (Option.bind (g_impl_ValidNum a0.2) fun y211 =>
   kx y211)
  (kx Bool.false)
noncomputable def g_impl_ValidLine (a0 : (Int × (Int × (Int × Int)))) : Option (Bool) := t_impl_ValidLine some a0
theorem nat_impl_ValidLine {R : Type} (kx : Bool → Option R) (a0 : (Int × (Int × (Int × Int)))) : t_impl_ValidLine kx a0 = (g_impl_ValidLine a0).bind kx := by
  unfold g_impl_ValidLine t_impl_ValidLine
  exact nat_bind fun _ => nat_cond (nat_bind fun _ => rfl) (rfl)
abbrev as_impl_ValidLine : List AX := [.val true (.pair (.int .i64) (.pair (.int .i64) (.pair (.int .i64) (.int .i64))))]
abbrev en_impl_ValidLine : Bool → AV × List CV := fun b => (.one ⟨false, [(.v (.bool b))]⟩, [])
noncomputable abbrev k_impl_ValidLine : Contract := .fx as_impl_ValidLine (Bool) (fun z => g_impl_ValidLine z.1) en_impl_ValidLine
theorem r_impl_ValidLine (z : argsX as_impl_ValidLine) : runF (tab C0 T_impl_ValidLine) noHints 1 Tryd.f41 (lentOf as_impl_ValidLine) (xBoxes as_impl_ValidLine z) (xVals as_impl_ValidLine 0 z) K2 = t_impl_ValidLine (fun b => some (en_impl_ValidLine b)) z.1 := by kernel_rfl
theorem so_impl_ValidLine : Sound C0 41 k_impl_ValidLine :=
  Sound.fx a_impl_ValidLine mixed Tryd.func41 (by kernel_rfl) (by kernel_rfl) noHints 1 noHints_ok (fun z => (r_impl_ValidLine z).trans (nat_impl_ValidLine _ z.1))

/-! ### F122 (impl.Num).neg -/
noncomputable def T_impl_Num_neg : List (FuncId × Contract) := []
theorem a_impl_Num_neg : AllSound C0 T_impl_Num_neg := .nil
noncomputable def t_impl_Num_neg {R : Type} (kx : (Int × (Int × Int)) → Option R) (a0 : (Int × (Int × Int))) : Option R :=
  kx ((IntKind.wrap IntKind.i64 ((0 : Int) - a0.1)), ((IntKind.wrap IntKind.i64 ((0 : Int) - a0.2.1)), a0.2.2))
noncomputable def g_impl_Num_neg (a0 : (Int × (Int × Int))) : Option ((Int × (Int × Int))) := t_impl_Num_neg some a0
theorem nat_impl_Num_neg {R : Type} (kx : (Int × (Int × Int)) → Option R) (a0 : (Int × (Int × Int))) : t_impl_Num_neg kx a0 = (g_impl_Num_neg a0).bind kx := by
  unfold g_impl_Num_neg t_impl_Num_neg
  exact rfl
abbrev as_impl_Num_neg : List AX := [.val true (.pair (.int .i64) (.pair (.int .i64) (.int .i64)))]
abbrev en_impl_Num_neg : (Int × (Int × Int)) → AV × List CV := fun b => (.one ⟨true, [(.v (.int .i64 b.1)), (.v (.int .i64 b.2.1)), (.v (.int .i64 b.2.2))]⟩, [])
noncomputable abbrev k_impl_Num_neg : Contract := .fx as_impl_Num_neg ((Int × (Int × Int))) (fun z => g_impl_Num_neg z.1) en_impl_Num_neg
theorem r_impl_Num_neg (z : argsX as_impl_Num_neg) : runF (tab C0 T_impl_Num_neg) noHints 1 Tryd.f122 (lentOf as_impl_Num_neg) (xBoxes as_impl_Num_neg z) (xVals as_impl_Num_neg 0 z) K2 = t_impl_Num_neg (fun b => some (en_impl_Num_neg b)) z.1 := by kernel_rfl
theorem so_impl_Num_neg : Sound C0 122 k_impl_Num_neg :=
  Sound.fx a_impl_Num_neg mixed Tryd.func122 (by kernel_rfl) (by kernel_rfl) noHints 1 noHints_ok (fun z => (r_impl_Num_neg z).trans (nat_impl_Num_neg _ z.1))

/-! ### F100 impl.vector -/
noncomputable def T_impl_vector : List (FuncId × Contract) := [(122, k_impl_Num_neg)]
theorem a_impl_vector : AllSound C0 T_impl_vector := .cons so_impl_Num_neg (.nil)
noncomputable def t_impl_vector {R : Type} (kx : ((Int × (Int × Int)) × (Int × (Int × Int))) → Option R) (a0 : Int) : Option R :=
  cond (decide (a0 ≥ (8 : Int)))
  (cond (decide ((IntKind.wrap IntKind.i64 (a0 - (8 : Int))) = ((0 : Nat) : Int)))
   (Option.bind (g_impl_Num_neg ((1 : Int), ((0 : Int), (0 : Int)))) fun y219 =>
    Option.bind (g_impl_Num_neg ((0 : Int), ((0 : Int), (0 : Int)))) fun y220 =>
    kx (y219, y220))
   (cond (decide ((IntKind.wrap IntKind.i64 (a0 - (8 : Int))) = (((0 + 1) : Nat) : Int)))
    (Option.bind (g_impl_Num_neg ((1 : Int), ((0 : Int), (0 : Int)))) fun y221 =>
     Option.bind (g_impl_Num_neg ((-(1 : Int)), ((1 : Int), (0 : Int)))) fun y222 =>
     kx (y221, y222))
    (cond (decide ((IntKind.wrap IntKind.i64 (a0 - (8 : Int))) = ((((0 + 1) + 1) : Nat) : Int)))
     (Option.bind (g_impl_Num_neg ((1 : Int), ((0 : Int), (0 : Int)))) fun y223 =>
      Option.bind (g_impl_Num_neg ((1 : Int), ((0 : Int), (0 : Int)))) fun y224 =>
      kx (y223, y224))
     (cond (decide ((IntKind.wrap IntKind.i64 (a0 - (8 : Int))) = (((((0 + 1) + 1) + 1) : Nat) : Int)))
      (Option.bind (g_impl_Num_neg ((-(1 : Int)), ((1 : Int), (0 : Int)))) fun y225 =>
       Option.bind (g_impl_Num_neg ((1 : Int), ((0 : Int), (0 : Int)))) fun y226 =>
       kx (y225, y226))
      (cond (decide ((IntKind.wrap IntKind.i64 (a0 - (8 : Int))) = ((((((0 + 1) + 1) + 1) + 1) : Nat) : Int)))
       (Option.bind (g_impl_Num_neg ((0 : Int), ((0 : Int), (0 : Int)))) fun y227 =>
        Option.bind (g_impl_Num_neg ((1 : Int), ((0 : Int), (0 : Int)))) fun y228 =>
        kx (y227, y228))
       (cond (decide ((IntKind.wrap IntKind.i64 (a0 - (8 : Int))) = (((((((0 + 1) + 1) + 1) + 1) + 1) : Nat) : Int)))
        (Option.bind (g_impl_Num_neg ((1 : Int), ((-(1 : Int)), (0 : Int)))) fun y229 =>
         Option.bind (g_impl_Num_neg ((1 : Int), ((0 : Int), (0 : Int)))) fun y230 =>
         kx (y229, y230))
        (cond (decide ((IntKind.wrap IntKind.i64 (a0 - (8 : Int))) = ((((((((0 + 1) + 1) + 1) + 1) + 1) + 1) : Nat) : Int)))
         (Option.bind (g_impl_Num_neg ((-(1 : Int)), ((0 : Int), (0 : Int)))) fun y231 =>
          Option.bind (g_impl_Num_neg ((1 : Int), ((0 : Int), (0 : Int)))) fun y232 =>
          kx (y231, y232))
         (cond (decide ((IntKind.wrap IntKind.i64 (a0 - (8 : Int))) = (((((((((0 + 1) + 1) + 1) + 1) + 1) + 1) + 1) : Nat) : Int)))
          (Option.bind (g_impl_Num_neg ((-(1 : Int)), ((0 : Int), (0 : Int)))) fun y233 =>
           Option.bind (g_impl_Num_neg ((-(1 : Int)), ((1 : Int), (0 : Int)))) fun y234 =>
           kx (y233, y234))
          (none)))))))))
  (cond (decide (a0 = ((0 : Nat) : Int)))
   (kx (((1 : Int), ((0 : Int), (0 : Int))), ((0 : Int), ((0 : Int), (0 : Int)))))
   (cond (decide (a0 = (((0 + 1) : Nat) : Int)))
    (kx (((1 : Int), ((0 : Int), (0 : Int))), ((-(1 : Int)), ((1 : Int), (0 : Int)))))
    (cond (decide (a0 = ((((0 + 1) + 1) : Nat) : Int)))
     (kx (((1 : Int), ((0 : Int), (0 : Int))), ((1 : Int), ((0 : Int), (0 : Int)))))
     (cond (decide (a0 = (((((0 + 1) + 1) + 1) : Nat) : Int)))
      (kx (((-(1 : Int)), ((1 : Int), (0 : Int))), ((1 : Int), ((0 : Int), (0 : Int)))))
      (cond (decide (a0 = ((((((0 + 1) + 1) + 1) + 1) : Nat) : Int)))
       (kx (((0 : Int), ((0 : Int), (0 : Int))), ((1 : Int), ((0 : Int), (0 : Int)))))
       (cond (decide (a0 = (((((((0 + 1) + 1) + 1) + 1) + 1) : Nat) : Int)))
        (kx (((1 : Int), ((-(1 : Int)), (0 : Int))), ((1 : Int), ((0 : Int), (0 : Int)))))
        (cond (decide (a0 = ((((((((0 + 1) + 1) + 1) + 1) + 1) + 1) : Nat) : Int)))
         (kx (((-(1 : Int)), ((0 : Int), (0 : Int))), ((1 : Int), ((0 : Int), (0 : Int)))))
         (cond (decide (a0 = (((((((((0 + 1) + 1) + 1) + 1) + 1) + 1) + 1) : Nat) : Int)))
          (kx (((-(1 : Int)), ((0 : Int), (0 : Int))), ((-(1 : Int)), ((1 : Int), (0 : Int)))))
          (none)))))))))
noncomputable def g_impl_vector (a0 : Int) : Option (((Int × (Int × Int)) × (Int × (Int × Int)))) := t_impl_vector some a0
theorem nat_impl_vector {R : Type} (kx : ((Int × (Int × Int)) × (Int × (Int × Int))) → Option R) (a0 : Int) : t_impl_vector kx a0 = (g_impl_vector a0).bind kx := by
  unfold g_impl_vector t_impl_vector
  exact nat_cond (nat_cond (nat_bind fun _ => nat_bind fun _ => rfl) (nat_cond (nat_bind fun _ => nat_bind fun _ => rfl) (nat_cond (nat_bind fun _ => nat_bind fun _ => rfl) (nat_cond (nat_bind fun _ => nat_bind fun _ => rfl) (nat_cond (nat_bind fun _ => nat_bind fun _ => rfl) (nat_cond (nat_bind fun _ => nat_bind fun _ => rfl) (nat_cond (nat_bind fun _ => nat_bind fun _ => rfl) (nat_cond (nat_bind fun _ => nat_bind fun _ => rfl) (rfl))))))))) (nat_cond (rfl) (nat_cond (rfl) (nat_cond (rfl) (nat_cond (rfl) (nat_cond (rfl) (nat_cond (rfl) (nat_cond (rfl) (nat_cond (rfl) (rfl)))))))))
abbrev as_impl_vector : List AX := [.val false (.int .i64)]
abbrev en_impl_vector : ((Int × (Int × Int)) × (Int × (Int × Int))) → AV × List CV := fun b => (.one ⟨true, [(.v (.int .i64 b.1.1)), (.v (.int .i64 b.1.2.1)), (.v (.int .i64 b.1.2.2)), (.v (.int .i64 b.2.1)), (.v (.int .i64 b.2.2.1)), (.v (.int .i64 b.2.2.2))]⟩, [])
noncomputable abbrev k_impl_vector : Contract := .fx as_impl_vector (((Int × (Int × Int)) × (Int × (Int × Int)))) (fun z => g_impl_vector z.1) en_impl_vector
theorem r_impl_vector (z : argsX as_impl_vector) : runF (tab C0 T_impl_vector) noHints 1 Tryd.f100 (lentOf as_impl_vector) (xBoxes as_impl_vector z) (xVals as_impl_vector 0 z) K2 = t_impl_vector (fun b => some (en_impl_vector b)) z.1 := by kernel_rfl
theorem so_impl_vector : Sound C0 100 k_impl_vector :=
  Sound.fx a_impl_vector mixed Tryd.func100 (by kernel_rfl) (by kernel_rfl) noHints 1 noHints_ok (fun z => (r_impl_vector z).trans (nat_impl_vector _ z.1))

/-! ### F84 (impl.Line).normal -/
noncomputable def T_impl_Line_normal : List (FuncId × Contract) := [(100, k_impl_vector)]
theorem a_impl_Line_normal : AllSound C0 T_impl_Line_normal := .cons so_impl_vector (.nil)
noncomputable def t_impl_Line_normal {R : Type} (kx : ((Int × (Int × Int)) × (Int × (Int × Int))) → Option R) (a0 : (Int × (Int × (Int × Int)))) : Option R :=
  Option.bind (g_impl_vector (IntKind.wrap IntKind.i64 (a0.1 + (4 : Int)))) fun y237 =>
  kx y237
noncomputable def g_impl_Line_normal (a0 : (Int × (Int × (Int × Int)))) : Option (((Int × (Int × Int)) × (Int × (Int × Int)))) := t_impl_Line_normal some a0
theorem nat_impl_Line_normal {R : Type} (kx : ((Int × (Int × Int)) × (Int × (Int × Int))) → Option R) (a0 : (Int × (Int × (Int × Int)))) : t_impl_Line_normal kx a0 = (g_impl_Line_normal a0).bind kx := by
  unfold g_impl_Line_normal t_impl_Line_normal
  exact nat_bind fun _ => rfl
abbrev as_impl_Line_normal : List AX := [.val true (.pair (.int .i64) (.pair (.int .i64) (.pair (.int .i64) (.int .i64))))]
abbrev en_impl_Line_normal : ((Int × (Int × Int)) × (Int × (Int × Int))) → AV × List CV := fun b => (.one ⟨true, [(.v (.int .i64 b.1.1)), (.v (.int .i64 b.1.2.1)), (.v (.int .i64 b.1.2.2)), (.v (.int .i64 b.2.1)), (.v (.int .i64 b.2.2.1)), (.v (.int .i64 b.2.2.2))]⟩, [])
noncomputable abbrev k_impl_Line_normal : Contract := .fx as_impl_Line_normal (((Int × (Int × Int)) × (Int × (Int × Int)))) (fun z => g_impl_Line_normal z.1) en_impl_Line_normal
theorem r_impl_Line_normal (z : argsX as_impl_Line_normal) : runF (tab C0 T_impl_Line_normal) noHints 1 Tryd.f84 (lentOf as_impl_Line_normal) (xBoxes as_impl_Line_normal z) (xVals as_impl_Line_normal 0 z) K2 = t_impl_Line_normal (fun b => some (en_impl_Line_normal b)) z.1 := by kernel_rfl
theorem so_impl_Line_normal : Sound C0 84 k_impl_Line_normal :=
  Sound.fx a_impl_Line_normal mixed Tryd.func84 (by kernel_rfl) (by kernel_rfl) noHints 1 noHints_ok (fun z => (r_impl_Line_normal z).trans (nat_impl_Line_normal _ z.1))

/-! ### F125 (impl.Num).reduced -/
noncomputable def T_impl_Num_reduced : List (FuncId × Contract) := []
theorem a_impl_Num_reduced : AllSound C0 T_impl_Num_reduced := .nil
abbrev s_impl_Num_reduced_2 : LS := ⟨[(false, [(.ptr 1 0)]), (false, [(.ptr 2 0)])], [(false, [(.int .i64), (.int .i64), (.int .i64)]), (false, [(.int .i64), (.int .i64), (.int .i64)])], []⟩
abbrev e_impl_Num_reduced_2_0 : LS := ⟨[(false, [(.ptr 1 0)]), (false, [(.ptr 2 0)])], [(false, [(.int .i64), (.int .i64), (.int .i64)]), (false, [(.int .i64), (.int .i64), (.int .i64)])], []⟩
abbrev d_impl_Num_reduced_2_0 (v0 : Int) (v1 : Int) (v2 : Int) (v3 : Int) (v4 : Int) (v5 : Int) : e_impl_Num_reduced_2_0.T := ((((), ()), ((), ()), ()), ((v0, v1, v2, ()), (v3, v4, v5, ()), ()), ())
abbrev x_impl_Num_reduced_2 : List (Ex × LS) := [(.exit 0, e_impl_Num_reduced_2_0)]
abbrev m_impl_Num_reduced_2 (b0_0 : Int) (b0_1 : Int) (b0_2 : Int) (b1_0 : Int) (b1_1 : Int) (b1_2 : Int) : s_impl_Num_reduced_2.T := ((((), ()), ((), ()), ()), ((b0_0, b0_1, b0_2, ()), (b1_0, b1_1, b1_2, ()), ()), ())
noncomputable def u_impl_Num_reduced_2 {R : Type} (nx : s_impl_Num_reduced_2.T → Option R) (hx : exH R x_impl_Num_reduced_2) (b0_0 : Int) (b0_1 : Int) (b0_2 : Int) (b1_0 : Int) (b1_1 : Int) (b1_2 : Int) : Option R :=
  cond (decide (b0_2 > (0 : Int)))
  (cond ((IntKind.wrap IntKind.i64 (((BitVec.toNat ((BitVec.ofInt 64 b0_0) &&& (BitVec.ofInt 64 (1 : Int)))) : Nat) : Int)) == (0 : Int))
   (cond ((IntKind.wrap IntKind.i64 (((BitVec.toNat ((BitVec.ofInt 64 b0_1) &&& (BitVec.ofInt 64 (1 : Int)))) : Nat) : Int)) == (0 : Int))
    (cond ((IntKind.wrap IntKind.i64 (Int.tdiv b0_0 (2 : Int))) == (0 : Int))
     (cond ((IntKind.wrap IntKind.i64 (Int.tdiv b0_1 (2 : Int))) == (0 : Int))
      (nx (m_impl_Num_reduced_2 (IntKind.wrap IntKind.i64 (Int.tdiv b0_0 (2 : Int))) (IntKind.wrap IntKind.i64 (Int.tdiv b0_1 (2 : Int))) (0 : Int) b1_0 b1_1 b1_2))
      (nx (m_impl_Num_reduced_2 (IntKind.wrap IntKind.i64 (Int.tdiv b0_0 (2 : Int))) (IntKind.wrap IntKind.i64 (Int.tdiv b0_1 (2 : Int))) (IntKind.wrap IntKind.i64 (b0_2 - (1 : Int))) b1_0 b1_1 b1_2)))
     (nx (m_impl_Num_reduced_2 (IntKind.wrap IntKind.i64 (Int.tdiv b0_0 (2 : Int))) (IntKind.wrap IntKind.i64 (Int.tdiv b0_1 (2 : Int))) (IntKind.wrap IntKind.i64 (b0_2 - (1 : Int))) b1_0 b1_1 b1_2)))
    (hx.1 (d_impl_Num_reduced_2_0 b0_0 b0_1 b0_2 b1_0 b1_1 b1_2)))
   (hx.1 (d_impl_Num_reduced_2_0 b0_0 b0_1 b0_2 b1_0 b1_1 b1_2)))
  (hx.1 (d_impl_Num_reduced_2_0 b0_0 b0_1 b0_2 b1_0 b1_1 b1_2))
noncomputable def t_impl_Num_reduced_2 {R : Type} (nx : s_impl_Num_reduced_2.T → Option R) (hx : exH R x_impl_Num_reduced_2) (z : s_impl_Num_reduced_2.T) : Option R := u_impl_Num_reduced_2 nx hx z.2.1.1.1 z.2.1.1.2.1 z.2.1.1.2.2.1 z.2.1.2.1.1 z.2.1.2.1.2.1 z.2.1.2.1.2.2.1
theorem nat_impl_Num_reduced_2 : Natural @t_impl_Num_reduced_2 := fun R nx hx z => by
  show u_impl_Num_reduced_2 nx hx z.2.1.1.1 z.2.1.1.2.1 z.2.1.1.2.2.1 z.2.1.2.1.1 z.2.1.2.1.2.1 z.2.1.2.1.2.2.1 = (u_impl_Num_reduced_2 (fun y => some (.inl y)) (hIn x_impl_Num_reduced_2 fun x => some (.inr x)) z.2.1.1.1 z.2.1.1.2.1 z.2.1.1.2.2.1 z.2.1.2.1.1 z.2.1.2.1.2.1 z.2.1.2.1.2.2.1).bind (goOn nx hx)
  unfold u_impl_Num_reduced_2
  exact nat_cond (nat_cond (nat_cond (nat_cond (nat_cond (rfl) (rfl)) (rfl)) (rfl)) (rfl)) (rfl)
noncomputable def w_impl_Num_reduced_2 : s_impl_Num_reduced_2.T → Option (exT x_impl_Num_reduced_2) := wOf @t_impl_Num_reduced_2
theorem wq_impl_Num_reduced_2 (b0_0 : Int) (b0_1 : Int) (b0_2 : Int) (b1_0 : Int) (b1_1 : Int) (b1_2 : Int) : w_impl_Num_reduced_2 (m_impl_Num_reduced_2 b0_0 b0_1 b0_2 b1_0 b1_1 b1_2) = u_impl_Num_reduced_2 w_impl_Num_reduced_2 (hIn x_impl_Num_reduced_2 some) b0_0 b0_1 b0_2 b1_0 b1_1 b1_2 := wOf_eq nat_impl_Num_reduced_2 _
def lh_impl_Num_reduced_2 : LoopHint := ⟨[1, 2], [1, 2], [1, 2], [1, 2]⟩
noncomputable def h_impl_Num_reduced : Hints Rv := ⟨fun k => match k with | 2 => lh_impl_Num_reduced_2 | _ => ⟨[], [], [], []⟩, fun k => match k with | 2 => some (loopX s_impl_Num_reduced_2 x_impl_Num_reduced_2 w_impl_Num_reduced_2) | _ => none⟩
theorem st_impl_Num_reduced_2 (n : Nat) (z : s_impl_Num_reduced_2.T) (k : Ex → Live → Option Rv) : loopN ⟨40, 40⟩ lh_impl_Num_reduced_2 (den (tab C0 T_impl_Num_reduced) ⟨40, 40⟩ h_impl_Num_reduced 1 (loopOf Tryd.f125 1)) (n + 1) (s_impl_Num_reduced_2.enc z) k =
    t_impl_Num_reduced_2 (fun y => loopN ⟨40, 40⟩ lh_impl_Num_reduced_2 (den (tab C0 T_impl_Num_reduced) ⟨40, 40⟩ h_impl_Num_reduced 1 (loopOf Tryd.f125 1)) n (s_impl_Num_reduced_2.enc y) k) (hK k x_impl_Num_reduced_2) z := by kernel_rfl
theorem hs_impl_Num_reduced : HintsOk (tab C0 T_impl_Num_reduced) ⟨40, 40⟩ h_impl_Num_reduced 1 (loops (codeOf Tryd.f125)) := by
  have hl : loops (codeOf Tryd.f125) = [loopOf Tryd.f125 1] := by kernel_rfl
  rw [hl]
  exact HintsOk.cons (n := 2) (lh := lh_impl_Num_reduced_2) (S := loopX s_impl_Num_reduced_2 x_impl_Num_reduced_2 w_impl_Num_reduced_2) (by kernel_rfl) rfl rfl (loopX_ok nat_impl_Num_reduced_2 st_impl_Num_reduced_2)
    (HintsOk.nil)
noncomputable def t_impl_Num_reduced {R : Type} (kx : (Int × (Int × Int)) → Option R) (a0 : (Int × (Int × Int))) : Option R :=
  Option.bind (w_impl_Num_reduced_2 (m_impl_Num_reduced_2 a0.1 a0.2.1 a0.2.2 (0 : Int) (0 : Int) (0 : Int))) (exC x_impl_Num_reduced_2
  (fun e250 =>
   kx ((e250.2.1.1.1 : Int), ((e250.2.1.1.2.1 : Int), (e250.2.1.1.2.2.1 : Int))), ()))
noncomputable def g_impl_Num_reduced (a0 : (Int × (Int × Int))) : Option ((Int × (Int × Int))) := t_impl_Num_reduced some a0
theorem nat_impl_Num_reduced {R : Type} (kx : (Int × (Int × Int)) → Option R) (a0 : (Int × (Int × Int))) : t_impl_Num_reduced kx a0 = (g_impl_Num_reduced a0).bind kx := by
  unfold g_impl_Num_reduced t_impl_Num_reduced
  exact nat_exC ⟨fun _ => rfl, trivial⟩
abbrev as_impl_Num_reduced : List AX := [.val true (.pair (.int .i64) (.pair (.int .i64) (.int .i64)))]
abbrev en_impl_Num_reduced : (Int × (Int × Int)) → AV × List CV := fun b => (.one ⟨true, [(.v (.int .i64 b.1)), (.v (.int .i64 b.2.1)), (.v (.int .i64 b.2.2))]⟩, [])
noncomputable abbrev k_impl_Num_reduced : Contract := .fx as_impl_Num_reduced ((Int × (Int × Int))) (fun z => g_impl_Num_reduced z.1) en_impl_Num_reduced
theorem r_impl_Num_reduced (z : argsX as_impl_Num_reduced) : runF (tab C0 T_impl_Num_reduced) h_impl_Num_reduced 1 Tryd.f125 (lentOf as_impl_Num_reduced) (xBoxes as_impl_Num_reduced z) (xVals as_impl_Num_reduced 0 z) K2 = t_impl_Num_reduced (fun b => some (en_impl_Num_reduced b)) z.1 := by kernel_rfl
theorem so_impl_Num_reduced : Sound C0 125 k_impl_Num_reduced :=
  Sound.fx a_impl_Num_reduced mixed Tryd.func125 (by kernel_rfl) (by kernel_rfl) h_impl_Num_reduced 1 hs_impl_Num_reduced (fun z => (r_impl_Num_reduced z).trans (nat_impl_Num_reduced _ z.1))

/-! ### F101 (impl.Num).times -/
noncomputable def T_impl_Num_times : List (FuncId × Contract) := [(125, k_impl_Num_reduced)]
theorem a_impl_Num_times : AllSound C0 T_impl_Num_times := .cons so_impl_Num_reduced (.nil)
noncomputable def t_impl_Num_times {R : Type} (kx : (Int × (Int × Int)) → Option R) (a0 : (Int × (Int × Int))) (a1 : (Int × (Int × Int))) : Option R :=
  Option.bind (g_impl_Num_reduced ((IntKind.wrap IntKind.i64 ((IntKind.wrap IntKind.i64 (a0.1 * a1.1)) + (IntKind.wrap IntKind.i64 ((IntKind.wrap IntKind.i64 ((2 : Int) * a0.2.1)) * a1.2.1)))), ((IntKind.wrap IntKind.i64 ((IntKind.wrap IntKind.i64 (a0.1 * a1.2.1)) + (IntKind.wrap IntKind.i64 (a0.2.1 * a1.1)))), (IntKind.wrap IntKind.i64 (a0.2.2 + a1.2.2))))) fun y257 =>
  kx y257
noncomputable def g_impl_Num_times (a0 : (Int × (Int × Int))) (a1 : (Int × (Int × Int))) : Option ((Int × (Int × Int))) := t_impl_Num_times some a0 a1
theorem nat_impl_Num_times {R : Type} (kx : (Int × (Int × Int)) → Option R) (a0 : (Int × (Int × Int))) (a1 : (Int × (Int × Int))) : t_impl_Num_times kx a0 a1 = (g_impl_Num_times a0 a1).bind kx := by
  unfold g_impl_Num_times t_impl_Num_times
  exact nat_bind fun _ => rfl
abbrev as_impl_Num_times : List AX := [.val true (.pair (.int .i64) (.pair (.int .i64) (.int .i64))), .val true (.pair (.int .i64) (.pair (.int .i64) (.int .i64)))]
abbrev en_impl_Num_times : (Int × (Int × Int)) → AV × List CV := fun b => (.one ⟨true, [(.v (.int .i64 b.1)), (.v (.int .i64 b.2.1)), (.v (.int .i64 b.2.2))]⟩, [])
noncomputable abbrev k_impl_Num_times : Contract := .fx as_impl_Num_times ((Int × (Int × Int))) (fun z => g_impl_Num_times z.1 z.2.1) en_impl_Num_times
theorem r_impl_Num_times (z : argsX as_impl_Num_times) : runF (tab C0 T_impl_Num_times) noHints 1 Tryd.f101 (lentOf as_impl_Num_times) (xBoxes as_impl_Num_times z) (xVals as_impl_Num_times 0 z) K2 = t_impl_Num_times (fun b => some (en_impl_Num_times b)) z.1 z.2.1 := by kernel_rfl
theorem so_impl_Num_times : Sound C0 101 k_impl_Num_times :=
  Sound.fx a_impl_Num_times mixed Tryd.func101 (by kernel_rfl) (by kernel_rfl) noHints 1 noHints_ok (fun z => (r_impl_Num_times z).trans (nat_impl_Num_times _ z.1 z.2.1))

/-! ### F91 (impl.Num).plus -/
noncomputable def T_impl_Num_plus : List (FuncId × Contract) := [(125, k_impl_Num_reduced)]
theorem a_impl_Num_plus : AllSound C0 T_impl_Num_plus := .cons so_impl_Num_reduced (.nil)
noncomputable def t_impl_Num_plus {R : Type} (kx : (Int × (Int × Int)) → Option R) (a0 : (Int × (Int × Int))) (a1 : (Int × (Int × Int))) : Option R :=
  cond (decide ((IntKind.wrap IntKind.i64 ((if (Bool.true = Bool.true) then (if (a1.2.2 > a0.2.2) then a1.2.2 else a0.2.2) else (if (a1.2.2 < a0.2.2) then a1.2.2 else a0.2.2)) - a0.2.2)) < (0 : Int)))
  (none)
  (cond (decide ((IntKind.wrap IntKind.i64 ((if (Bool.true = Bool.true) then (if (a1.2.2 > a0.2.2) then a1.2.2 else a0.2.2) else (if (a1.2.2 < a0.2.2) then a1.2.2 else a0.2.2)) - a1.2.2)) < (0 : Int)))
   (none)
   (cond (decide ((IntKind.wrap IntKind.i64 ((if (Bool.true = Bool.true) then (if (a1.2.2 > a0.2.2) then a1.2.2 else a0.2.2) else (if (a1.2.2 < a0.2.2) then a1.2.2 else a0.2.2)) - a0.2.2)) < (0 : Int)))
    (none)
    (cond (decide ((IntKind.wrap IntKind.i64 ((if (Bool.true = Bool.true) then (if (a1.2.2 > a0.2.2) then a1.2.2 else a0.2.2) else (if (a1.2.2 < a0.2.2) then a1.2.2 else a0.2.2)) - a1.2.2)) < (0 : Int)))
     (none)
     (Option.bind (g_impl_Num_reduced ((IntKind.wrap IntKind.i64 ((IntKind.wrap IntKind.i64 (a0.1 * ((2 : Int) ^ (Min.min (Int.toNat (IntKind.wrap IntKind.i64 ((if (Bool.true = Bool.true) then (if (a1.2.2 > a0.2.2) then a1.2.2 else a0.2.2) else (if (a1.2.2 < a0.2.2) then a1.2.2 else a0.2.2)) - a0.2.2))) 64)))) + (IntKind.wrap IntKind.i64 (a1.1 * ((2 : Int) ^ (Min.min (Int.toNat (IntKind.wrap IntKind.i64 ((if (Bool.true = Bool.true) then (if (a1.2.2 > a0.2.2) then a1.2.2 else a0.2.2) else (if (a1.2.2 < a0.2.2) then a1.2.2 else a0.2.2)) - a1.2.2))) 64)))))), ((IntKind.wrap IntKind.i64 ((IntKind.wrap IntKind.i64 (a0.2.1 * ((2 : Int) ^ (Min.min (Int.toNat (IntKind.wrap IntKind.i64 ((if (Bool.true = Bool.true) then (if (a1.2.2 > a0.2.2) then a1.2.2 else a0.2.2) else (if (a1.2.2 < a0.2.2) then a1.2.2 else a0.2.2)) - a0.2.2))) 64)))) + (IntKind.wrap IntKind.i64 (a1.2.1 * ((2 : Int) ^ (Min.min (Int.toNat (IntKind.wrap IntKind.i64 ((if (Bool.true = Bool.true) then (if (a1.2.2 > a0.2.2) then a1.2.2 else a0.2.2) else (if (a1.2.2 < a0.2.2) then a1.2.2 else a0.2.2)) - a1.2.2))) 64)))))), (if (Bool.true = Bool.true) then (if (a1.2.2 > a0.2.2) then a1.2.2 else a0.2.2) else (if (a1.2.2 < a0.2.2) then a1.2.2 else a0.2.2))))) fun y262 =>
      kx y262))))
noncomputable def g_impl_Num_plus (a0 : (Int × (Int × Int))) (a1 : (Int × (Int × Int))) : Option ((Int × (Int × Int))) := t_impl_Num_plus some a0 a1
theorem nat_impl_Num_plus {R : Type} (kx : (Int × (Int × Int)) → Option R) (a0 : (Int × (Int × Int))) (a1 : (Int × (Int × Int))) : t_impl_Num_plus kx a0 a1 = (g_impl_Num_plus a0 a1).bind kx := by
  unfold g_impl_Num_plus t_impl_Num_plus
  exact nat_cond (rfl) (nat_cond (rfl) (nat_cond (rfl) (nat_cond (rfl) (nat_bind fun _ => rfl))))
abbrev as_impl_Num_plus : List AX := [.val true (.pair (.int .i64) (.pair (.int .i64) (.int .i64))), .val true (.pair (.int .i64) (.pair (.int .i64) (.int .i64)))]
abbrev en_impl_Num_plus : (Int × (Int × Int)) → AV × List CV := fun b => (.one ⟨true, [(.v (.int .i64 b.1)), (.v (.int .i64 b.2.1)), (.v (.int .i64 b.2.2))]⟩, [])
noncomputable abbrev k_impl_Num_plus : Contract := .fx as_impl_Num_plus ((Int × (Int × Int))) (fun z => g_impl_Num_plus z.1 z.2.1) en_impl_Num_plus
theorem r_impl_Num_plus (z : argsX as_impl_Num_plus) : runF (tab C0 T_impl_Num_plus) noHints 1 Tryd.f91 (lentOf as_impl_Num_plus) (xBoxes as_impl_Num_plus z) (xVals as_impl_Num_plus 0 z) K2 = t_impl_Num_plus (fun b => some (en_impl_Num_plus b)) z.1 z.2.1 := by kernel_rfl
theorem so_impl_Num_plus : Sound C0 91 k_impl_Num_plus :=
  Sound.fx a_impl_Num_plus mixed Tryd.func91 (by kernel_rfl) (by kernel_rfl) noHints 1 noHints_ok (fun z => (r_impl_Num_plus z).trans (nat_impl_Num_plus _ z.1 z.2.1))

/-! ### F85 (impl.Point).dot -/
noncomputable def T_impl_Point_dot : List (FuncId × Contract) := [(101, k_impl_Num_times), (91, k_impl_Num_plus)]
theorem a_impl_Point_dot : AllSound C0 T_impl_Point_dot := .cons so_impl_Num_times (.cons so_impl_Num_plus (.nil))
noncomputable def t_impl_Point_dot {R : Type} (kx : (Int × (Int × Int)) → Option R) (a0 : ((Int × (Int × Int)) × (Int × (Int × Int)))) (a1 : ((Int × (Int × Int)) × (Int × (Int × Int)))) : Option R :=
  Option.bind (g_impl_Num_times a0.1 a1.1) fun y258 =>
  Option.bind (g_impl_Num_times a0.2 a1.2) fun y259 =>
  Option.bind (g_impl_Num_plus y258 y259) fun y263 =>
  kx y263
noncomputable def g_impl_Point_dot (a0 : ((Int × (Int × Int)) × (Int × (Int × Int)))) (a1 : ((Int × (Int × Int)) × (Int × (Int × Int)))) : Option ((Int × (Int × Int))) := t_impl_Point_dot some a0 a1
theorem nat_impl_Point_dot {R : Type} (kx : (Int × (Int × Int)) → Option R) (a0 : ((Int × (Int × Int)) × (Int × (Int × Int)))) (a1 : ((Int × (Int × Int)) × (Int × (Int × Int)))) : t_impl_Point_dot kx a0 a1 = (g_impl_Point_dot a0 a1).bind kx := by
  unfold g_impl_Point_dot t_impl_Point_dot
  exact nat_bind fun _ => nat_bind fun _ => nat_bind fun _ => rfl
abbrev as_impl_Point_dot : List AX := [.val true (.pair (.pair (.int .i64) (.pair (.int .i64) (.int .i64))) (.pair (.int .i64) (.pair (.int .i64) (.int .i64)))), .val true (.pair (.pair (.int .i64) (.pair (.int .i64) (.int .i64))) (.pair (.int .i64) (.pair (.int .i64) (.int .i64))))]
abbrev en_impl_Point_dot : (Int × (Int × Int)) → AV × List CV := fun b => (.one ⟨true, [(.v (.int .i64 b.1)), (.v (.int .i64 b.2.1)), (.v (.int .i64 b.2.2))]⟩, [])
noncomputable abbrev k_impl_Point_dot : Contract := .fx as_impl_Point_dot ((Int × (Int × Int))) (fun z => g_impl_Point_dot z.1 z.2.1) en_impl_Point_dot
theorem r_impl_Point_dot (z : argsX as_impl_Point_dot) : runF (tab C0 T_impl_Point_dot) noHints 1 Tryd.f85 (lentOf as_impl_Point_dot) (xBoxes as_impl_Point_dot z) (xVals as_impl_Point_dot 0 z) K2 = t_impl_Point_dot (fun b => some (en_impl_Point_dot b)) z.1 z.2.1 := by kernel_rfl
theorem so_impl_Point_dot : Sound C0 85 k_impl_Point_dot :=
  Sound.fx a_impl_Point_dot mixed Tryd.func85 (by kernel_rfl) (by kernel_rfl) noHints 1 noHints_ok (fun z => (r_impl_Point_dot z).trans (nat_impl_Point_dot _ z.1 z.2.1))

/-! ### F86 (impl.Num).minus -/
noncomputable def T_impl_Num_minus : List (FuncId × Contract) := [(122, k_impl_Num_neg), (91, k_impl_Num_plus)]
theorem a_impl_Num_minus : AllSound C0 T_impl_Num_minus := .cons so_impl_Num_neg (.cons so_impl_Num_plus (.nil))
noncomputable def t_impl_Num_minus {R : Type} (kx : (Int × (Int × Int)) → Option R) (a0 : (Int × (Int × Int))) (a1 : (Int × (Int × Int))) : Option R :=
  Option.bind (g_impl_Num_neg a1) fun y268 =>
  Option.bind (g_impl_Num_plus a0 y268) fun y269 =>
  kx y269
noncomputable def g_impl_Num_minus (a0 : (Int × (Int × Int))) (a1 : (Int × (Int × Int))) : Option ((Int × (Int × Int))) := t_impl_Num_minus some a0 a1
theorem nat_impl_Num_minus {R : Type} (kx : (Int × (Int × Int)) → Option R) (a0 : (Int × (Int × Int))) (a1 : (Int × (Int × Int))) : t_impl_Num_minus kx a0 a1 = (g_impl_Num_minus a0 a1).bind kx := by
  unfold g_impl_Num_minus t_impl_Num_minus
  exact nat_bind fun _ => nat_bind fun _ => rfl
abbrev as_impl_Num_minus : List AX := [.val true (.pair (.int .i64) (.pair (.int .i64) (.int .i64))), .val true (.pair (.int .i64) (.pair (.int .i64) (.int .i64)))]
abbrev en_impl_Num_minus : (Int × (Int × Int)) → AV × List CV := fun b => (.one ⟨true, [(.v (.int .i64 b.1)), (.v (.int .i64 b.2.1)), (.v (.int .i64 b.2.2))]⟩, [])
noncomputable abbrev k_impl_Num_minus : Contract := .fx as_impl_Num_minus ((Int × (Int × Int))) (fun z => g_impl_Num_minus z.1 z.2.1) en_impl_Num_minus
theorem r_impl_Num_minus (z : argsX as_impl_Num_minus) : runF (tab C0 T_impl_Num_minus) noHints 1 Tryd.f86 (lentOf as_impl_Num_minus) (xBoxes as_impl_Num_minus z) (xVals as_impl_Num_minus 0 z) K2 = t_impl_Num_minus (fun b => some (en_impl_Num_minus b)) z.1 z.2.1 := by kernel_rfl
theorem so_impl_Num_minus : Sound C0 86 k_impl_Num_minus :=
  Sound.fx a_impl_Num_minus mixed Tryd.func86 (by kernel_rfl) (by kernel_rfl) noHints 1 noHints_ok (fun z => (r_impl_Num_minus z).trans (nat_impl_Num_minus _ z.1 z.2.1))

/-! ### F88 (impl.Num).over -/
noncomputable def T_impl_Num_over : List (FuncId × Contract) := [(101, k_impl_Num_times), (125, k_impl_Num_reduced)]
theorem a_impl_Num_over : AllSound C0 T_impl_Num_over := .cons so_impl_Num_times (.cons so_impl_Num_reduced (.nil))
abbrev s_impl_Num_over_7 : LS := ⟨[(false, [(.ptr 4 0)]), (false, [(.int .i64)]), (false, [(.ptr 7 0)])], [(false, [(.int .i64), (.int .i64), (.int .i64)]), (false, [(.int .i64), (.int .i64), (.int .i64)])], []⟩
abbrev e_impl_Num_over_7_0 : LS := ⟨[(false, [(.ptr 4 0)]), (false, [(.int .i64)]), (false, [(.ptr 7 0)])], [(false, [(.int .i64), (.int .i64), (.int .i64)]), (false, [(.int .i64), (.int .i64), (.int .i64)])], []⟩
abbrev d_impl_Num_over_7_0 (v0 : Int) (v1 : Int) (v2 : Int) (v3 : Int) (v4 : Int) (v5 : Int) (v6 : Int) : e_impl_Num_over_7_0.T := ((((), ()), (v0, ()), ((), ()), ()), ((v1, v2, v3, ()), (v4, v5, v6, ()), ()), ())
abbrev x_impl_Num_over_7 : List (Ex × LS) := [(.exit 0, e_impl_Num_over_7_0)]
abbrev m_impl_Num_over_7 (x6 : Int) (b0_0 : Int) (b0_1 : Int) (b0_2 : Int) (b1_0 : Int) (b1_1 : Int) (b1_2 : Int) : s_impl_Num_over_7.T := ((((), ()), (x6, ()), ((), ()), ()), ((b0_0, b0_1, b0_2, ()), (b1_0, b1_1, b1_2, ()), ()), ())
noncomputable def u_impl_Num_over_7 {R : Type} (nx : s_impl_Num_over_7.T → Option R) (hx : exH R x_impl_Num_over_7) (x6 : Int) (b0_0 : Int) (b0_1 : Int) (b0_2 : Int) (b1_0 : Int) (b1_1 : Int) (b1_2 : Int) : Option R :=
  cond ((IntKind.wrap IntKind.i64 (((BitVec.toNat ((BitVec.ofInt 64 x6) &&& (BitVec.ofInt 64 (1 : Int)))) : Nat) : Int)) == (0 : Int))
  (nx (m_impl_Num_over_7 (IntKind.wrap IntKind.i64 (Int.tdiv x6 (2 : Int))) b0_0 b0_1 b0_2 b1_0 b1_1 (IntKind.wrap IntKind.i64 (b1_2 + (1 : Int)))))
  (hx.1 (d_impl_Num_over_7_0 x6 b0_0 b0_1 b0_2 b1_0 b1_1 b1_2))
noncomputable def t_impl_Num_over_7 {R : Type} (nx : s_impl_Num_over_7.T → Option R) (hx : exH R x_impl_Num_over_7) (z : s_impl_Num_over_7.T) : Option R := u_impl_Num_over_7 nx hx z.1.2.1.1 z.2.1.1.1 z.2.1.1.2.1 z.2.1.1.2.2.1 z.2.1.2.1.1 z.2.1.2.1.2.1 z.2.1.2.1.2.2.1
theorem nat_impl_Num_over_7 : Natural @t_impl_Num_over_7 := fun R nx hx z => by
  show u_impl_Num_over_7 nx hx z.1.2.1.1 z.2.1.1.1 z.2.1.1.2.1 z.2.1.1.2.2.1 z.2.1.2.1.1 z.2.1.2.1.2.1 z.2.1.2.1.2.2.1 = (u_impl_Num_over_7 (fun y => some (.inl y)) (hIn x_impl_Num_over_7 fun x => some (.inr x)) z.1.2.1.1 z.2.1.1.1 z.2.1.1.2.1 z.2.1.1.2.2.1 z.2.1.2.1.1 z.2.1.2.1.2.1 z.2.1.2.1.2.2.1).bind (goOn nx hx)
  unfold u_impl_Num_over_7
  exact nat_cond (rfl) (rfl)
noncomputable def w_impl_Num_over_7 : s_impl_Num_over_7.T → Option (exT x_impl_Num_over_7) := wOf @t_impl_Num_over_7
theorem wq_impl_Num_over_7 (x6 : Int) (b0_0 : Int) (b0_1 : Int) (b0_2 : Int) (b1_0 : Int) (b1_1 : Int) (b1_2 : Int) : w_impl_Num_over_7 (m_impl_Num_over_7 x6 b0_0 b0_1 b0_2 b1_0 b1_1 b1_2) = u_impl_Num_over_7 w_impl_Num_over_7 (hIn x_impl_Num_over_7 some) x6 b0_0 b0_1 b0_2 b1_0 b1_1 b1_2 := wOf_eq nat_impl_Num_over_7 _
def lh_impl_Num_over_7 : LoopHint := ⟨[4, 6, 7], [4, 7], [4, 6, 7], [4, 7]⟩
noncomputable def h_impl_Num_over : Hints Rv := ⟨fun k => match k with | 7 => lh_impl_Num_over_7 | _ => ⟨[], [], [], []⟩, fun k => match k with | 7 => some (loopX s_impl_Num_over_7 x_impl_Num_over_7 w_impl_Num_over_7) | _ => none⟩
theorem st_impl_Num_over_7 (n : Nat) (z : s_impl_Num_over_7.T) (k : Ex → Live → Option Rv) : loopN ⟨89, 89⟩ lh_impl_Num_over_7 (den (tab C0 T_impl_Num_over) ⟨89, 89⟩ h_impl_Num_over 1 (loopOf Tryd.f88 6)) (n + 1) (s_impl_Num_over_7.enc z) k =
    t_impl_Num_over_7 (fun y => loopN ⟨89, 89⟩ lh_impl_Num_over_7 (den (tab C0 T_impl_Num_over) ⟨89, 89⟩ h_impl_Num_over 1 (loopOf Tryd.f88 6)) n (s_impl_Num_over_7.enc y) k) (hK k x_impl_Num_over_7) z := by kernel_rfl
theorem hs_impl_Num_over : HintsOk (tab C0 T_impl_Num_over) ⟨89, 89⟩ h_impl_Num_over 1 (loops (codeOf Tryd.f88)) := by
  have hl : loops (codeOf Tryd.f88) = [loopOf Tryd.f88 6] := by kernel_rfl
  rw [hl]
  exact HintsOk.cons (n := 7) (lh := lh_impl_Num_over_7) (S := loopX s_impl_Num_over_7 x_impl_Num_over_7 w_impl_Num_over_7) (by kernel_rfl) rfl rfl (loopX_ok nat_impl_Num_over_7 st_impl_Num_over_7)
    (HintsOk.nil)
noncomputable def t_impl_Num_over {R : Type} (kx : (Int × (Int × Int)) × Bool → Option R) (a0 : (Int × (Int × Int))) (a1 : (Int × (Int × Int))) : Option R :=
  cond ((IntKind.wrap IntKind.i64 ((IntKind.wrap IntKind.i64 (a1.1 * a1.1)) - (IntKind.wrap IntKind.i64 ((IntKind.wrap IntKind.i64 ((2 : Int) * a1.2.1)) * a1.2.1)))) == (0 : Int))
  (kx (((0 : Int), ((0 : Int), (0 : Int))), Bool.false))
  (Option.bind (g_impl_Num_times a0 (a1.1, ((IntKind.wrap IntKind.i64 ((0 : Int) - a1.2.1)), (0 : Int)))) fun y276 =>
   Option.bind (w_impl_Num_over_7 (m_impl_Num_over_7 (IntKind.wrap IntKind.i64 ((IntKind.wrap IntKind.i64 (a1.1 * a1.1)) - (IntKind.wrap IntKind.i64 ((IntKind.wrap IntKind.i64 ((2 : Int) * a1.2.1)) * a1.2.1)))) (0 : Int) (0 : Int) (0 : Int) y276.1 y276.2.1 (IntKind.wrap IntKind.i64 (y276.2.2 - a1.2.2)))) (exC x_impl_Num_over_7
   (fun e284 =>
    cond (decide ((e284.1.2.1.1 : Int) = (0 : Int)))
    (none)
    (cond ((Int.tmod (e284.2.1.2.1.1 : Int) (e284.1.2.1.1 : Int)) != (0 : Int))
     (kx (((0 : Int), ((0 : Int), (0 : Int))), Bool.false))
     (cond (decide ((e284.1.2.1.1 : Int) = (0 : Int)))
      (none)
      (cond ((Int.tmod (e284.2.1.2.1.2.1 : Int) (e284.1.2.1.1 : Int)) != (0 : Int))
       (kx (((0 : Int), ((0 : Int), (0 : Int))), Bool.false))
       (cond (decide ((e284.1.2.1.1 : Int) = (0 : Int)))
        (none)
        (cond (decide ((e284.1.2.1.1 : Int) = (0 : Int)))
         (none)
         (cond (decide ((e284.2.1.2.1.2.2.1 : Int) < (0 : Int)))
          (cond (decide ((IntKind.wrap IntKind.i64 ((0 : Int) - (e284.2.1.2.1.2.2.1 : Int))) < (0 : Int)))
           (none)
           (cond (decide ((IntKind.wrap IntKind.i64 ((0 : Int) - (e284.2.1.2.1.2.2.1 : Int))) < (0 : Int)))
            (none)
            (Option.bind (g_impl_Num_reduced ((IntKind.wrap IntKind.i64 ((IntKind.wrap IntKind.i64 (Int.tdiv (e284.2.1.2.1.1 : Int) (e284.1.2.1.1 : Int))) * ((2 : Int) ^ (Min.min (Int.toNat (IntKind.wrap IntKind.i64 ((0 : Int) - (e284.2.1.2.1.2.2.1 : Int)))) 64)))), ((IntKind.wrap IntKind.i64 ((IntKind.wrap IntKind.i64 (Int.tdiv (e284.2.1.2.1.2.1 : Int) (e284.1.2.1.1 : Int))) * ((2 : Int) ^ (Min.min (Int.toNat (IntKind.wrap IntKind.i64 ((0 : Int) - (e284.2.1.2.1.2.2.1 : Int)))) 64)))), (0 : Int)))) fun y292 =>
             kx (y292, Bool.true))))
          (Option.bind (g_impl_Num_reduced ((IntKind.wrap IntKind.i64 (Int.tdiv (e284.2.1.2.1.1 : Int) (e284.1.2.1.1 : Int))), ((IntKind.wrap IntKind.i64 (Int.tdiv (e284.2.1.2.1.2.1 : Int) (e284.1.2.1.1 : Int))), (e284.2.1.2.1.2.2.1 : Int)))) fun y293 =>
           kx (y293, Bool.true)))))))), ())))
noncomputable def g_impl_Num_over (a0 : (Int × (Int × Int))) (a1 : (Int × (Int × Int))) : Option ((Int × (Int × Int)) × Bool) := t_impl_Num_over some a0 a1
theorem nat_impl_Num_over {R : Type} (kx : (Int × (Int × Int)) × Bool → Option R) (a0 : (Int × (Int × Int))) (a1 : (Int × (Int × Int))) : t_impl_Num_over kx a0 a1 = (g_impl_Num_over a0 a1).bind kx := by
  unfold g_impl_Num_over t_impl_Num_over
  exact nat_cond (rfl) (nat_bind fun _ => nat_exC ⟨fun _ => nat_cond (rfl) (nat_cond (rfl) (nat_cond (rfl) (nat_cond (rfl) (nat_cond (rfl) (nat_cond (rfl) (nat_cond (nat_cond (rfl) (nat_cond (rfl) (nat_bind fun _ => rfl))) (nat_bind fun _ => rfl))))))), trivial⟩)
abbrev as_impl_Num_over : List AX := [.val true (.pair (.int .i64) (.pair (.int .i64) (.int .i64))), .val true (.pair (.int .i64) (.pair (.int .i64) (.int .i64)))]
abbrev en_impl_Num_over : (Int × (Int × Int)) × Bool → AV × List CV := fun b => (.tup [⟨true, [(.v (.int .i64 b.1.1)), (.v (.int .i64 b.1.2.1)), (.v (.int .i64 b.1.2.2))]⟩, ⟨false, [(.v (.bool b.2))]⟩], [])
noncomputable abbrev k_impl_Num_over : Contract := .fx as_impl_Num_over ((Int × (Int × Int)) × Bool) (fun z => g_impl_Num_over z.1 z.2.1) en_impl_Num_over
theorem r_impl_Num_over (z : argsX as_impl_Num_over) : runF (tab C0 T_impl_Num_over) h_impl_Num_over 1 Tryd.f88 (lentOf as_impl_Num_over) (xBoxes as_impl_Num_over z) (xVals as_impl_Num_over 0 z) K2 = t_impl_Num_over (fun b => some (en_impl_Num_over b)) z.1 z.2.1 := by kernel_rfl
theorem so_impl_Num_over : Sound C0 88 k_impl_Num_over :=
  Sound.fx a_impl_Num_over mixed Tryd.func88 (by kernel_rfl) (by kernel_rfl) h_impl_Num_over 1 hs_impl_Num_over (fun z => (r_impl_Num_over z).trans (nat_impl_Num_over _ z.1 z.2.1))

/-! ### F47 impl.aligning -/
noncomputable def T_impl_aligning : List (FuncId × Contract) := [(100, k_impl_vector), (84, k_impl_Line_normal), (85, k_impl_Point_dot), (86, k_impl_Num_minus), (101, k_impl_Num_times), (91, k_impl_Num_plus), (88, k_impl_Num_over)]
theorem a_impl_aligning : AllSound C0 T_impl_aligning := .cons so_impl_vector (.cons so_impl_Line_normal (.cons so_impl_Point_dot (.cons so_impl_Num_minus (.cons so_impl_Num_times (.cons so_impl_Num_plus (.cons so_impl_Num_over (.nil)))))))
noncomputable def t_impl_aligning {R : Type} (kx : (Int × (Int × (Int × Int))) × Int → Option R) (a0 : Int) (a1 : ((Int × (Int × Int)) × (Int × (Int × Int)))) (a2 : (Int × (Int × (Int × Int)))) : Option R :=
  Option.bind (g_impl_vector (IntKind.wrap IntKind.i64 (a0 + (4 : Int)))) fun y235 =>
  Option.bind (g_impl_Line_normal a2) fun y238 =>
  Option.bind (g_impl_Point_dot y238 y235) fun y264 =>
  Option.bind (g_impl_Point_dot y238 a1) fun y265 =>
  Option.bind (g_impl_Num_minus a2.2 y265) fun y270 =>
  cond ((y264.1 == (0 : Int)) && ((y264.2.1 == (0 : Int)) && ((y264.2.2 == (0 : Int)) && Bool.true)))
  (cond ((y270.1 == (0 : Int)) && ((y270.2.1 == (0 : Int)) && ((y270.2.2 == (0 : Int)) && Bool.true)))
   (kx (((0 : Int), ((0 : Int), ((0 : Int), (0 : Int)))), (2 : Int)))
   (kx (((0 : Int), ((0 : Int), ((0 : Int), (0 : Int)))), (0 : Int))))
  (Option.bind (g_impl_Point_dot y235 y235) fun y271 =>
   Option.bind (g_impl_Num_times y270 y271) fun y272 =>
   Option.bind (g_impl_Num_plus y264 y264) fun y273 =>
   Option.bind (g_impl_Num_over y272 y273) fun y294 =>
   cond (!y294.2)
   (kx (((0 : Int), ((0 : Int), ((0 : Int), (0 : Int)))), (3 : Int)))
   (Option.bind (g_impl_Point_dot y235 a1) fun y295 =>
    Option.bind (g_impl_Num_plus y295 y294.1) fun y296 =>
    kx ((a0, y296), (1 : Int))))
noncomputable def g_impl_aligning (a0 : Int) (a1 : ((Int × (Int × Int)) × (Int × (Int × Int)))) (a2 : (Int × (Int × (Int × Int)))) : Option ((Int × (Int × (Int × Int))) × Int) := t_impl_aligning some a0 a1 a2
theorem nat_impl_aligning {R : Type} (kx : (Int × (Int × (Int × Int))) × Int → Option R) (a0 : Int) (a1 : ((Int × (Int × Int)) × (Int × (Int × Int)))) (a2 : (Int × (Int × (Int × Int)))) : t_impl_aligning kx a0 a1 a2 = (g_impl_aligning a0 a1 a2).bind kx := by
  unfold g_impl_aligning t_impl_aligning
  exact nat_bind fun _ => nat_bind fun _ => nat_bind fun _ => nat_bind fun _ => nat_bind fun _ => nat_cond (nat_cond (rfl) (rfl)) (nat_bind fun _ => nat_bind fun _ => nat_bind fun _ => nat_bind fun _ => nat_cond (rfl) (nat_bind fun _ => nat_bind fun _ => rfl))
abbrev as_impl_aligning : List AX := [.val false (.int .i64), .val true (.pair (.pair (.int .i64) (.pair (.int .i64) (.int .i64))) (.pair (.int .i64) (.pair (.int .i64) (.int .i64)))), .val true (.pair (.int .i64) (.pair (.int .i64) (.pair (.int .i64) (.int .i64))))]
abbrev en_impl_aligning : (Int × (Int × (Int × Int))) × Int → AV × List CV := fun b => (.tup [⟨true, [(.v (.int .i64 b.1.1)), (.v (.int .i64 b.1.2.1)), (.v (.int .i64 b.1.2.2.1)), (.v (.int .i64 b.1.2.2.2))]⟩, ⟨false, [(.v (.int .i64 b.2))]⟩], [])
noncomputable abbrev k_impl_aligning : Contract := .fx as_impl_aligning ((Int × (Int × (Int × Int))) × Int) (fun z => g_impl_aligning z.1 z.2.1 z.2.2.1) en_impl_aligning
theorem r_impl_aligning (z : argsX as_impl_aligning) : runF (tab C0 T_impl_aligning) noHints 1 Tryd.f47 (lentOf as_impl_aligning) (xBoxes as_impl_aligning z) (xVals as_impl_aligning 0 z) K2 = t_impl_aligning (fun b => some (en_impl_aligning b)) z.1 z.2.1 z.2.2.1 := by kernel_rfl
theorem so_impl_aligning : Sound C0 47 k_impl_aligning :=
  Sound.fx a_impl_aligning mixed Tryd.func47 (by kernel_rfl) (by kernel_rfl) noHints 1 noHints_ok (fun z => (r_impl_aligning z).trans (nat_impl_aligning _ z.1 z.2.1 z.2.2.1))

/-! ### F48 impl.lineResult -/
noncomputable def T_impl_lineResult : List (FuncId × Contract) := [(41, k_impl_ValidLine)]
theorem a_impl_lineResult : AllSound C0 T_impl_lineResult := .cons so_impl_ValidLine (.nil)
noncomputable def t_impl_lineResult {R : Type} (kx : (Int × (Int × (Int × Int))) × Int → Option R) (a0 : (Int × (Int × (Int × Int)))) (a1 : Bool) : Option R :=
  cond (!a1)
  (kx (((0 : Int), ((0 : Int), ((0 : Int), (0 : Int)))), (2 : Int)))
  (Option.bind (g_impl_ValidLine a0) fun y300 =>
   cond (!y300)
   (kx (((0 : Int), ((0 : Int), ((0 : Int), (0 : Int)))), (2 : Int)))
   (kx (a0, (0 : Int))))
noncomputable def g_impl_lineResult (a0 : (Int × (Int × (Int × Int)))) (a1 : Bool) : Option ((Int × (Int × (Int × Int))) × Int) := t_impl_lineResult some a0 a1
theorem nat_impl_lineResult {R : Type} (kx : (Int × (Int × (Int × Int))) × Int → Option R) (a0 : (Int × (Int × (Int × Int)))) (a1 : Bool) : t_impl_lineResult kx a0 a1 = (g_impl_lineResult a0 a1).bind kx := by
  unfold g_impl_lineResult t_impl_lineResult
  exact nat_cond (rfl) (nat_bind fun _ => nat_cond (rfl) (rfl))
abbrev as_impl_lineResult : List AX := [.val true (.pair (.int .i64) (.pair (.int .i64) (.pair (.int .i64) (.int .i64)))), .val false .bool]
abbrev en_impl_lineResult : (Int × (Int × (Int × Int))) × Int → AV × List CV := fun b => (.tup [⟨true, [(.v (.int .i64 b.1.1)), (.v (.int .i64 b.1.2.1)), (.v (.int .i64 b.1.2.2.1)), (.v (.int .i64 b.1.2.2.2))]⟩, ⟨false, [(.v (.int .i64 b.2))]⟩], [])
noncomputable abbrev k_impl_lineResult : Contract := .fx as_impl_lineResult ((Int × (Int × (Int × Int))) × Int) (fun z => g_impl_lineResult z.1 z.2.1) en_impl_lineResult
theorem r_impl_lineResult (z : argsX as_impl_lineResult) : runF (tab C0 T_impl_lineResult) noHints 1 Tryd.f48 (lentOf as_impl_lineResult) (xBoxes as_impl_lineResult z) (xVals as_impl_lineResult 0 z) K2 = t_impl_lineResult (fun b => some (en_impl_lineResult b)) z.1 z.2.1 := by kernel_rfl
theorem so_impl_lineResult : Sound C0 48 k_impl_lineResult :=
  Sound.fx a_impl_lineResult mixed Tryd.func48 (by kernel_rfl) (by kernel_rfl) noHints 1 noHints_ok (fun z => (r_impl_lineResult z).trans (nat_impl_lineResult _ z.1 z.2.1))

/-! ### F15 impl.FoldAcross -/
noncomputable def T_impl_FoldAcross : List (FuncId × Contract) := [(42, k_impl_ValidPoint), (41, k_impl_ValidLine), (47, k_impl_aligning), (48, k_impl_lineResult)]
theorem a_impl_FoldAcross : AllSound C0 T_impl_FoldAcross := .cons so_impl_ValidPoint (.cons so_impl_ValidLine (.cons so_impl_aligning (.cons so_impl_lineResult (.nil))))
noncomputable def t_impl_FoldAcross {R : Type} (kx : (Int × (Int × (Int × Int))) × Int → Option R) (a0 : ((Int × (Int × Int)) × (Int × (Int × Int)))) (a1 : (Int × (Int × (Int × Int)))) (a2 : (Int × (Int × (Int × Int)))) : Option R :=
  Option.bind (g_impl_ValidPoint a0) fun y208 =>
  cond (!y208)
  (kx (((0 : Int), ((0 : Int), ((0 : Int), (0 : Int)))), (1 : Int)))
  (Option.bind (g_impl_ValidLine a1) fun y212 =>
   cond (!y212)
   (kx (((0 : Int), ((0 : Int), ((0 : Int), (0 : Int)))), (1 : Int)))
   (Option.bind (g_impl_ValidLine a2) fun y213 =>
    cond (!y213)
    (kx (((0 : Int), ((0 : Int), ((0 : Int), (0 : Int)))), (1 : Int)))
    (cond (a1.1 == a2.1)
     (kx (((0 : Int), ((0 : Int), ((0 : Int), (0 : Int)))), (7 : Int)))
     (Option.bind (g_impl_aligning (Int.tmod (IntKind.wrap IntKind.i64 (a2.1 + (4 : Int))) (8 : Int)) a0 a1) fun y297 =>
      Option.bind (g_impl_lineResult y297.1 (y297.2 == (1 : Int))) fun y301 =>
      kx y301))))
noncomputable def g_impl_FoldAcross (a0 : ((Int × (Int × Int)) × (Int × (Int × Int)))) (a1 : (Int × (Int × (Int × Int)))) (a2 : (Int × (Int × (Int × Int)))) : Option ((Int × (Int × (Int × Int))) × Int) := t_impl_FoldAcross some a0 a1 a2
theorem nat_impl_FoldAcross {R : Type} (kx : (Int × (Int × (Int × Int))) × Int → Option R) (a0 : ((Int × (Int × Int)) × (Int × (Int × Int)))) (a1 : (Int × (Int × (Int × Int)))) (a2 : (Int × (Int × (Int × Int)))) : t_impl_FoldAcross kx a0 a1 a2 = (g_impl_FoldAcross a0 a1 a2).bind kx := by
  unfold g_impl_FoldAcross t_impl_FoldAcross
  exact nat_bind fun _ => nat_cond (rfl) (nat_bind fun _ => nat_cond (rfl) (nat_bind fun _ => nat_cond (rfl) (nat_cond (rfl) (nat_bind fun _ => nat_bind fun _ => rfl))))
abbrev as_impl_FoldAcross : List AX := [.val true (.pair (.pair (.int .i64) (.pair (.int .i64) (.int .i64))) (.pair (.int .i64) (.pair (.int .i64) (.int .i64)))), .val true (.pair (.int .i64) (.pair (.int .i64) (.pair (.int .i64) (.int .i64)))), .val true (.pair (.int .i64) (.pair (.int .i64) (.pair (.int .i64) (.int .i64))))]
abbrev en_impl_FoldAcross : (Int × (Int × (Int × Int))) × Int → AV × List CV := fun b => (.tup [⟨true, [(.v (.int .i64 b.1.1)), (.v (.int .i64 b.1.2.1)), (.v (.int .i64 b.1.2.2.1)), (.v (.int .i64 b.1.2.2.2))]⟩, ⟨false, [(.v (.int .i64 b.2))]⟩], [])
noncomputable abbrev k_impl_FoldAcross : Contract := .fx as_impl_FoldAcross ((Int × (Int × (Int × Int))) × Int) (fun z => g_impl_FoldAcross z.1 z.2.1 z.2.2.1) en_impl_FoldAcross
theorem r_impl_FoldAcross (z : argsX as_impl_FoldAcross) : runF (tab C0 T_impl_FoldAcross) noHints 1 Tryd.f15 (lentOf as_impl_FoldAcross) (xBoxes as_impl_FoldAcross z) (xVals as_impl_FoldAcross 0 z) K2 = t_impl_FoldAcross (fun b => some (en_impl_FoldAcross b)) z.1 z.2.1 z.2.2.1 := by kernel_rfl
theorem so_impl_FoldAcross : Sound C0 15 k_impl_FoldAcross :=
  Sound.fx a_impl_FoldAcross mixed Tryd.func15 (by kernel_rfl) (by kernel_rfl) noHints 1 noHints_ok (fun z => (r_impl_FoldAcross z).trans (nat_impl_FoldAcross _ z.1 z.2.1 z.2.2.1))

/-! ### F49 laws.eqNum -/
noncomputable def T_laws_eqNum : List (FuncId × Contract) := []
theorem a_laws_eqNum : AllSound C0 T_laws_eqNum := .nil
noncomputable def t_laws_eqNum {R : Type} (kx : Bool → Option R) (a0 : (Int × (Int × Int))) (a1 : (Int × (Int × Int))) : Option R :=
  cond (a0.1 != a1.1)
  (kx Bool.false)
  (cond (a0.2.1 != a1.2.1)
   (kx Bool.false)
   (cond (a0.2.2 != a1.2.2)
    (kx Bool.false)
    (kx Bool.true)))
noncomputable def g_laws_eqNum (a0 : (Int × (Int × Int))) (a1 : (Int × (Int × Int))) : Option (Bool) := t_laws_eqNum some a0 a1
theorem nat_laws_eqNum {R : Type} (kx : Bool → Option R) (a0 : (Int × (Int × Int))) (a1 : (Int × (Int × Int))) : t_laws_eqNum kx a0 a1 = (g_laws_eqNum a0 a1).bind kx := by
  unfold g_laws_eqNum t_laws_eqNum
  exact nat_cond (rfl) (nat_cond (rfl) (nat_cond (rfl) (rfl)))
abbrev as_laws_eqNum : List AX := [.val true (.pair (.int .i64) (.pair (.int .i64) (.int .i64))), .val true (.pair (.int .i64) (.pair (.int .i64) (.int .i64)))]
abbrev en_laws_eqNum : Bool → AV × List CV := fun b => (.one ⟨false, [(.v (.bool b))]⟩, [])
noncomputable abbrev k_laws_eqNum : Contract := .fx as_laws_eqNum (Bool) (fun z => g_laws_eqNum z.1 z.2.1) en_laws_eqNum
theorem r_laws_eqNum (z : argsX as_laws_eqNum) : runF (tab C0 T_laws_eqNum) noHints 1 Tryd.f49 (lentOf as_laws_eqNum) (xBoxes as_laws_eqNum z) (xVals as_laws_eqNum 0 z) K2 = t_laws_eqNum (fun b => some (en_laws_eqNum b)) z.1 z.2.1 := by kernel_rfl
theorem so_laws_eqNum : Sound C0 49 k_laws_eqNum :=
  Sound.fx a_laws_eqNum mixed Tryd.func49 (by kernel_rfl) (by kernel_rfl) noHints 1 noHints_ok (fun z => (r_laws_eqNum z).trans (nat_laws_eqNum _ z.1 z.2.1))

/-! ### F16 laws.eqLine -/
noncomputable def T_laws_eqLine : List (FuncId × Contract) := [(49, k_laws_eqNum)]
theorem a_laws_eqLine : AllSound C0 T_laws_eqLine := .cons so_laws_eqNum (.nil)
noncomputable def t_laws_eqLine {R : Type} (kx : Bool → Option R) (a0 : (Int × (Int × (Int × Int)))) (a1 : (Int × (Int × (Int × Int)))) : Option R :=
  cond (a0.1 != a1.1)
  (kx Bool.false)
  (Option.bind (g_laws_eqNum a0.2 a1.2) fun y307 =>
   cond (!y307)
   (kx Bool.false)
   (kx Bool.true))
noncomputable def g_laws_eqLine (a0 : (Int × (Int × (Int × Int)))) (a1 : (Int × (Int × (Int × Int)))) : Option (Bool) := t_laws_eqLine some a0 a1
theorem nat_laws_eqLine {R : Type} (kx : Bool → Option R) (a0 : (Int × (Int × (Int × Int)))) (a1 : (Int × (Int × (Int × Int)))) : t_laws_eqLine kx a0 a1 = (g_laws_eqLine a0 a1).bind kx := by
  unfold g_laws_eqLine t_laws_eqLine
  exact nat_cond (rfl) (nat_bind fun _ => nat_cond (rfl) (rfl))
abbrev as_laws_eqLine : List AX := [.val true (.pair (.int .i64) (.pair (.int .i64) (.pair (.int .i64) (.int .i64)))), .val true (.pair (.int .i64) (.pair (.int .i64) (.pair (.int .i64) (.int .i64))))]
abbrev en_laws_eqLine : Bool → AV × List CV := fun b => (.one ⟨false, [(.v (.bool b))]⟩, [])
noncomputable abbrev k_laws_eqLine : Contract := .fx as_laws_eqLine (Bool) (fun z => g_laws_eqLine z.1 z.2.1) en_laws_eqLine
theorem r_laws_eqLine (z : argsX as_laws_eqLine) : runF (tab C0 T_laws_eqLine) noHints 1 Tryd.f16 (lentOf as_laws_eqLine) (xBoxes as_laws_eqLine z) (xVals as_laws_eqLine 0 z) K2 = t_laws_eqLine (fun b => some (en_laws_eqLine b)) z.1 z.2.1 := by kernel_rfl
theorem so_laws_eqLine : Sound C0 16 k_laws_eqLine :=
  Sound.fx a_laws_eqLine mixed Tryd.func16 (by kernel_rfl) (by kernel_rfl) noHints 1 noHints_ok (fun z => (r_laws_eqLine z).trans (nat_laws_eqLine _ z.1 z.2.1))

/-! ### F4 laws.FnExactFoldAcross -/
noncomputable def T_laws_FnExactFoldAcross : List (FuncId × Contract) := [(12, k_laws_toPoint), (11, k_laws_toLine), (14, k_spec_FoldAcross), (15, k_impl_FoldAcross), (16, k_laws_eqLine)]
theorem a_laws_FnExactFoldAcross : AllSound C0 T_laws_FnExactFoldAcross := .cons so_laws_toPoint (.cons so_laws_toLine (.cons so_spec_FoldAcross (.cons so_impl_FoldAcross (.cons so_laws_eqLine (.nil)))))
noncomputable def t_laws_FnExactFoldAcross {R : Type} (kx : Bool → Option R) (a0 : ((Int × (Int × Int)) × (Int × (Int × Int)))) (a1 : (Int × (Int × (Int × Int)))) (a2 : (Int × (Int × (Int × Int)))) : Option R :=
  Option.bind (g_laws_toPoint a0) fun y7 =>
  Option.bind (g_laws_toLine a1) fun y10 =>
  Option.bind (g_laws_toLine a2) fun y11 =>
  Option.bind (g_spec_FoldAcross y7 y10 y11) fun y191 =>
  Option.bind (g_laws_toPoint a0) fun y192 =>
  Option.bind (g_laws_toLine a1) fun y193 =>
  Option.bind (g_laws_toLine a2) fun y194 =>
  Option.bind (g_impl_FoldAcross y192 y193 y194) fun y302 =>
  Option.bind (g_laws_eqLine y302.1 y191.1) fun y308 =>
  cond (!y308)
  (kx Bool.false)
  (cond (y302.2 != y191.2)
   (kx Bool.false)
   (kx Bool.true))
noncomputable def g_laws_FnExactFoldAcross (a0 : ((Int × (Int × Int)) × (Int × (Int × Int)))) (a1 : (Int × (Int × (Int × Int)))) (a2 : (Int × (Int × (Int × Int)))) : Option (Bool) := t_laws_FnExactFoldAcross some a0 a1 a2
theorem nat_laws_FnExactFoldAcross {R : Type} (kx : Bool → Option R) (a0 : ((Int × (Int × Int)) × (Int × (Int × Int)))) (a1 : (Int × (Int × (Int × Int)))) (a2 : (Int × (Int × (Int × Int)))) : t_laws_FnExactFoldAcross kx a0 a1 a2 = (g_laws_FnExactFoldAcross a0 a1 a2).bind kx := by
  unfold g_laws_FnExactFoldAcross t_laws_FnExactFoldAcross
  exact nat_bind fun _ => nat_bind fun _ => nat_bind fun _ => nat_bind fun _ => nat_bind fun _ => nat_bind fun _ => nat_bind fun _ => nat_bind fun _ => nat_bind fun _ => nat_cond (rfl) (nat_cond (rfl) (rfl))
abbrev as_laws_FnExactFoldAcross : List AX := [.val true (.pair (.pair (.int .i64) (.pair (.int .i64) (.int .i64))) (.pair (.int .i64) (.pair (.int .i64) (.int .i64)))), .val true (.pair (.int .i64) (.pair (.int .i64) (.pair (.int .i64) (.int .i64)))), .val true (.pair (.int .i64) (.pair (.int .i64) (.pair (.int .i64) (.int .i64))))]
abbrev en_laws_FnExactFoldAcross : Bool → AV × List CV := fun b => (.one ⟨false, [(.v (.bool b))]⟩, [])
noncomputable abbrev k_laws_FnExactFoldAcross : Contract := .fx as_laws_FnExactFoldAcross (Bool) (fun z => g_laws_FnExactFoldAcross z.1 z.2.1 z.2.2.1) en_laws_FnExactFoldAcross
theorem r_laws_FnExactFoldAcross (z : argsX as_laws_FnExactFoldAcross) : runF (tab C0 T_laws_FnExactFoldAcross) noHints 1 Tryd.f4 (lentOf as_laws_FnExactFoldAcross) (xBoxes as_laws_FnExactFoldAcross z) (xVals as_laws_FnExactFoldAcross 0 z) K2 = t_laws_FnExactFoldAcross (fun b => some (en_laws_FnExactFoldAcross b)) z.1 z.2.1 z.2.2.1 := by kernel_rfl
theorem so_laws_FnExactFoldAcross : Sound C0 4 k_laws_FnExactFoldAcross :=
  Sound.fx a_laws_FnExactFoldAcross mixed Tryd.func4 (by kernel_rfl) (by kernel_rfl) noHints 1 noHints_ok (fun z => (r_laws_FnExactFoldAcross z).trans (nat_laws_FnExactFoldAcross _ z.1 z.2.1 z.2.2.1))

end Go.Proofs.YtocobkbckingoaaDoor
