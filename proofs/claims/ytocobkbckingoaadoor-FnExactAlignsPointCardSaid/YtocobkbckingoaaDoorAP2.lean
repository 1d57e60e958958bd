/- What the functions that AlignsPoint reaches compute, printed. No conditions. -/
import Derived.Test.YtocobkbckingoaaDoorW1E
namespace Go.Proofs.YtocobkbckingoaaDoor
open Go.Vai
set_option maxRecDepth 100000

/-! ### F40 laws.toNum -/
noncomputable def T_laws_toNum : List (FuncId × Contract) := []
theorem a_laws_toNum : AllSound C0 T_laws_toNum := .nil
noncomputable def t_laws_toNum {R : Type} (kx : (Int × (Int × Int)) → Option R) (a0 : (Int × (Int × Int))) : Option R :=
  kx a0
noncomputable def g_laws_toNum (a0 : (Int × (Int × Int))) : Option ((Int × (Int × Int))) := t_laws_toNum some a0
theorem nat_laws_toNum {R : Type} (kx : (Int × (Int × Int)) → Option R) (a0 : (Int × (Int × Int))) : t_laws_toNum kx a0 = (g_laws_toNum a0).bind kx := by
  unfold g_laws_toNum t_laws_toNum
  exact rfl
abbrev as_laws_toNum : List AX := [.val true (.pair (.int .i64) (.pair (.int .i64) (.int .i64)))]
abbrev en_laws_toNum : (Int × (Int × Int)) → AV × List CV := fun b => (.one ⟨true, [(.v (.int .i64 b.1)), (.v (.int .i64 b.2.1)), (.v (.int .i64 b.2.2))]⟩, [])
noncomputable abbrev k_laws_toNum : Contract := .fx as_laws_toNum ((Int × (Int × Int))) (fun z => g_laws_toNum z.1) en_laws_toNum
theorem r_laws_toNum (z : argsX as_laws_toNum) : runF (tab C0 T_laws_toNum) noHints 1 Tryd.f40 (lentOf as_laws_toNum) (xBoxes as_laws_toNum z) (xVals as_laws_toNum 0 z) K2 = t_laws_toNum (fun b => some (en_laws_toNum b)) z.1 := by kernel_rfl
theorem so_laws_toNum : Sound C0 40 k_laws_toNum :=
  Sound.fx a_laws_toNum mixed Tryd.func40 (by kernel_rfl) (by kernel_rfl) noHints 1 noHints_ok (fun z => (r_laws_toNum z).trans (nat_laws_toNum _ z.1))

/-! ### F11 laws.toLine -/
noncomputable def T_laws_toLine : List (FuncId × Contract) := [(40, k_laws_toNum)]
theorem a_laws_toLine : AllSound C0 T_laws_toLine := .cons so_laws_toNum (.nil)
noncomputable def t_laws_toLine {R : Type} (kx : (Int × (Int × (Int × Int))) → Option R) (a0 : (Int × (Int × (Int × Int)))) : Option R :=
  Option.bind (g_laws_toNum a0.2) fun y5 =>
  kx (a0.1, y5)
noncomputable def g_laws_toLine (a0 : (Int × (Int × (Int × Int)))) : Option ((Int × (Int × (Int × Int)))) := t_laws_toLine some a0
theorem nat_laws_toLine {R : Type} (kx : (Int × (Int × (Int × Int))) → Option R) (a0 : (Int × (Int × (Int × Int)))) : t_laws_toLine kx a0 = (g_laws_toLine a0).bind kx := by
  unfold g_laws_toLine t_laws_toLine
  exact nat_bind fun _ => rfl
abbrev as_laws_toLine : List AX := [.val true (.pair (.int .i64) (.pair (.int .i64) (.pair (.int .i64) (.int .i64))))]
abbrev en_laws_toLine : (Int × (Int × (Int × Int))) → AV × List CV := fun b => (.one ⟨true, [(.v (.int .i64 b.1)), (.v (.int .i64 b.2.1)), (.v (.int .i64 b.2.2.1)), (.v (.int .i64 b.2.2.2))]⟩, [])
noncomputable abbrev k_laws_toLine : Contract := .fx as_laws_toLine ((Int × (Int × (Int × Int)))) (fun z => g_laws_toLine z.1) en_laws_toLine
theorem r_laws_toLine (z : argsX as_laws_toLine) : runF (tab C0 T_laws_toLine) noHints 1 Tryd.f11 (lentOf as_laws_toLine) (xBoxes as_laws_toLine z) (xVals as_laws_toLine 0 z) K2 = t_laws_toLine (fun b => some (en_laws_toLine b)) z.1 := by kernel_rfl
theorem so_laws_toLine : Sound C0 11 k_laws_toLine :=
  Sound.fx a_laws_toLine mixed Tryd.func11 (by kernel_rfl) (by kernel_rfl) noHints 1 noHints_ok (fun z => (r_laws_toLine z).trans (nat_laws_toLine _ z.1))

/-! ### F12 laws.toPoint -/
noncomputable def T_laws_toPoint : List (FuncId × Contract) := [(40, k_laws_toNum)]
theorem a_laws_toPoint : AllSound C0 T_laws_toPoint := .cons so_laws_toNum (.nil)
noncomputable def t_laws_toPoint {R : Type} (kx : ((Int × (Int × Int)) × (Int × (Int × Int))) → Option R) (a0 : ((Int × (Int × Int)) × (Int × (Int × Int)))) : Option R :=
  Option.bind (g_laws_toNum a0.1) fun y8 =>
  Option.bind (g_laws_toNum a0.2) fun y9 =>
  kx (y8, y9)
noncomputable def g_laws_toPoint (a0 : ((Int × (Int × Int)) × (Int × (Int × Int)))) : Option (((Int × (Int × Int)) × (Int × (Int × Int)))) := t_laws_toPoint some a0
theorem nat_laws_toPoint {R : Type} (kx : ((Int × (Int × Int)) × (Int × (Int × Int))) → Option R) (a0 : ((Int × (Int × Int)) × (Int × (Int × Int)))) : t_laws_toPoint kx a0 = (g_laws_toPoint a0).bind kx := by
  unfold g_laws_toPoint t_laws_toPoint
  exact nat_bind fun _ => nat_bind fun _ => rfl
abbrev as_laws_toPoint : List AX := [.val true (.pair (.pair (.int .i64) (.pair (.int .i64) (.int .i64))) (.pair (.int .i64) (.pair (.int .i64) (.int .i64))))]
abbrev en_laws_toPoint : ((Int × (Int × Int)) × (Int × (Int × Int))) → AV × List CV := fun b => (.one ⟨true, [(.v (.int .i64 b.1.1)), (.v (.int .i64 b.1.2.1)), (.v (.int .i64 b.1.2.2)), (.v (.int .i64 b.2.1)), (.v (.int .i64 b.2.2.1)), (.v (.int .i64 b.2.2.2))]⟩, [])
noncomputable abbrev k_laws_toPoint : Contract := .fx as_laws_toPoint (((Int × (Int × Int)) × (Int × (Int × Int)))) (fun z => g_laws_toPoint z.1) en_laws_toPoint
theorem r_laws_toPoint (z : argsX as_laws_toPoint) : runF (tab C0 T_laws_toPoint) noHints 1 Tryd.f12 (lentOf as_laws_toPoint) (xBoxes as_laws_toPoint z) (xVals as_laws_toPoint 0 z) K2 = t_laws_toPoint (fun b => some (en_laws_toPoint b)) z.1 := by kernel_rfl
theorem so_laws_toPoint : Sound C0 12 k_laws_toPoint :=
  Sound.fx a_laws_toPoint mixed Tryd.func12 (by kernel_rfl) (by kernel_rfl) noHints 1 noHints_ok (fun z => (r_laws_toPoint z).trans (nat_laws_toPoint _ z.1))

/-! ### F67 spec.l00In -/
noncomputable def T_spec_l00In : List (FuncId × Contract) := []
theorem a_spec_l00In : AllSound C0 T_spec_l00In := .nil
noncomputable def t_spec_l00In {R : Type} (kx : Bool → Option R) (a0 : Int) (a1 : Int) (a2 : Int) : Option R :=
  cond (decide (a0 ≥ a1))
  (kx (decide (a0 ≤ a2)))
  (kx Bool.false)
noncomputable def g_spec_l00In (a0 : Int) (a1 : Int) (a2 : Int) : Option (Bool) := t_spec_l00In some a0 a1 a2
theorem nat_spec_l00In {R : Type} (kx : Bool → Option R) (a0 : Int) (a1 : Int) (a2 : Int) : t_spec_l00In kx a0 a1 a2 = (g_spec_l00In a0 a1 a2).bind kx := by
  unfold g_spec_l00In t_spec_l00In
  exact nat_cond (rfl) (rfl)
abbrev as_spec_l00In : List AX := [.val false (.int .i64), .val false (.int .i64), .val false (.int .i64)]
abbrev en_spec_l00In : Bool → AV × List CV := fun b => (.one ⟨false, [(.v (.bool b))]⟩, [])
noncomputable abbrev k_spec_l00In : Contract := .fx as_spec_l00In (Bool) (fun z => g_spec_l00In z.1 z.2.1 z.2.2.1) en_spec_l00In
theorem r_spec_l00In (z : argsX as_spec_l00In) : runF (tab C0 T_spec_l00In) noHints 1 Tryd.f67 (lentOf as_spec_l00In) (xBoxes as_spec_l00In z) (xVals as_spec_l00In 0 z) K2 = t_spec_l00In (fun b => some (en_spec_l00In b)) z.1 z.2.1 z.2.2.1 := by kernel_rfl
theorem so_spec_l00In : Sound C0 67 k_spec_l00In :=
  Sound.fx a_spec_l00In mixed Tryd.func67 (by kernel_rfl) (by kernel_rfl) noHints 1 noHints_ok (fun z => (r_spec_l00In z).trans (nat_spec_l00In _ z.1 z.2.1 z.2.2.1))

/-! ### F78 spec.l01Ok -/
noncomputable def T_spec_l01Ok : List (FuncId × Contract) := [(67, k_spec_l00In)]
theorem a_spec_l01Ok : AllSound C0 T_spec_l01Ok := .cons so_spec_l00In (.nil)
noncomputable def t_spec_l01Ok {R : Type} (kx : Bool → Option R) (a0 : (Int × (Int × Int))) : Option R :=
  Option.bind (g_spec_l00In a0.1 (-(131072 : Int)) (131072 : Int)) fun y21 =>
  cond (!y21)
  (kx Bool.false)
  (Option.bind (g_spec_l00In a0.2.1 (-(131072 : Int)) (131072 : Int)) fun y22 =>
   cond (!y22)
   (kx Bool.false)
   (Option.bind (g_spec_l00In a0.2.2 (0 : Int) (10 : Int)) fun y23 =>
    cond (!y23)
    (kx Bool.false)
    (cond (a0.2.2 == (0 : Int))
     (kx Bool.true)
     (cond ((Int.tmod a0.1 (2 : Int)) != (0 : Int))
      (kx Bool.true)
      (kx ((Int.tmod a0.2.1 (2 : Int)) != (0 : Int)))))))
noncomputable def g_spec_l01Ok (a0 : (Int × (Int × Int))) : Option (Bool) := t_spec_l01Ok some a0
theorem nat_spec_l01Ok {R : Type} (kx : Bool → Option R) (a0 : (Int × (Int × Int))) : t_spec_l01Ok kx a0 = (g_spec_l01Ok a0).bind kx := by
  unfold g_spec_l01Ok t_spec_l01Ok
  exact nat_bind fun _ => nat_cond (rfl) (nat_bind fun _ => nat_cond (rfl) (nat_bind fun _ => nat_cond (rfl) (nat_cond (rfl) (nat_cond (rfl) (rfl)))))
abbrev as_spec_l01Ok : List AX := [.val true (.pair (.int .i64) (.pair (.int .i64) (.int .i64)))]
abbrev en_spec_l01Ok : Bool → AV × List CV := fun b => (.one ⟨false, [(.v (.bool b))]⟩, [])
noncomputable abbrev k_spec_l01Ok : Contract := .fx as_spec_l01Ok (Bool) (fun z => g_spec_l01Ok z.1) en_spec_l01Ok
theorem r_spec_l01Ok (z : argsX as_spec_l01Ok) : runF (tab C0 T_spec_l01Ok) noHints 1 Tryd.f78 (lentOf as_spec_l01Ok) (xBoxes as_spec_l01Ok z) (xVals as_spec_l01Ok 0 z) K2 = t_spec_l01Ok (fun b => some (en_spec_l01Ok b)) z.1 := by kernel_rfl
theorem so_spec_l01Ok : Sound C0 78 k_spec_l01Ok :=
  Sound.fx a_spec_l01Ok mixed Tryd.func78 (by kernel_rfl) (by kernel_rfl) noHints 1 noHints_ok (fun z => (r_spec_l01Ok z).trans (nat_spec_l01Ok _ z.1))

/-! ### F35 spec.l02Line -/
noncomputable def T_spec_l02Line : List (FuncId × Contract) := [(67, k_spec_l00In), (78, k_spec_l01Ok)]
theorem a_spec_l02Line : AllSound C0 T_spec_l02Line := .cons so_spec_l00In (.cons so_spec_l01Ok (.nil))
noncomputable def t_spec_l02Line {R : Type} (kx : Bool → Option R) (a0 : (Int × (Int × (Int × Int)))) : Option R :=
  Option.bind (g_spec_l00In a0.1 (0 : Int) (7 : Int)) fun y19 =>
  cond y19
  (Option.bind (g_spec_l01Ok a0.2) fun y24 =>
   kx y24)
  (kx Bool.false)
noncomputable def g_spec_l02Line (a0 : (Int × (Int × (Int × Int)))) : Option (Bool) := t_spec_l02Line some a0
theorem nat_spec_l02Line {R : Type} (kx : Bool → Option R) (a0 : (Int × (Int × (Int × Int)))) : t_spec_l02Line kx a0 = (g_spec_l02Line a0).bind kx := by
  unfold g_spec_l02Line t_spec_l02Line
  exact nat_bind fun _ => nat_cond (nat_bind fun _ => rfl) (rfl)
abbrev as_spec_l02Line : List AX := [.val true (.pair (.int .i64) (.pair (.int .i64) (.pair (.int .i64) (.int .i64))))]
abbrev en_spec_l02Line : Bool → AV × List CV := fun b => (.one ⟨false, [(.v (.bool b))]⟩, [])
noncomputable abbrev k_spec_l02Line : Contract := .fx as_spec_l02Line (Bool) (fun z => g_spec_l02Line z.1) en_spec_l02Line
theorem r_spec_l02Line (z : argsX as_spec_l02Line) : runF (tab C0 T_spec_l02Line) noHints 1 Tryd.f35 (lentOf as_spec_l02Line) (xBoxes as_spec_l02Line z) (xVals as_spec_l02Line 0 z) K2 = t_spec_l02Line (fun b => some (en_spec_l02Line b)) z.1 := by kernel_rfl
theorem so_spec_l02Line : Sound C0 35 k_spec_l02Line :=
  Sound.fx a_spec_l02Line mixed Tryd.func35 (by kernel_rfl) (by kernel_rfl) noHints 1 noHints_ok (fun z => (r_spec_l02Line z).trans (nat_spec_l02Line _ z.1))

/-! ### F36 spec.l02Point -/
noncomputable def T_spec_l02Point : List (FuncId × Contract) := [(78, k_spec_l01Ok)]
theorem a_spec_l02Point : AllSound C0 T_spec_l02Point := .cons so_spec_l01Ok (.nil)
noncomputable def t_spec_l02Point {R : Type} (kx : Bool → Option R) (a0 : ((Int × (Int × Int)) × (Int × (Int × Int)))) : Option R :=
  Option.bind (g_spec_l01Ok a0.1) fun y27 =>
  cond y27
  (Option.bind (g_spec_l01Ok a0.2) fun y28 =>
   kx y28)
  (kx Bool.false)
noncomputable def g_spec_l02Point (a0 : ((Int × (Int × Int)) × (Int × (Int × Int)))) : Option (Bool) := t_spec_l02Point some a0
theorem nat_spec_l02Point {R : Type} (kx : Bool → Option R) (a0 : ((Int × (Int × Int)) × (Int × (Int × Int)))) : t_spec_l02Point kx a0 = (g_spec_l02Point a0).bind kx := by
  unfold g_spec_l02Point t_spec_l02Point
  exact nat_bind fun _ => nat_cond (nat_bind fun _ => rfl) (rfl)
abbrev as_spec_l02Point : List AX := [.val true (.pair (.pair (.int .i64) (.pair (.int .i64) (.int .i64))) (.pair (.int .i64) (.pair (.int .i64) (.int .i64))))]
abbrev en_spec_l02Point : Bool → AV × List CV := fun b => (.one ⟨false, [(.v (.bool b))]⟩, [])
noncomputable abbrev k_spec_l02Point : Contract := .fx as_spec_l02Point (Bool) (fun z => g_spec_l02Point z.1) en_spec_l02Point
theorem r_spec_l02Point (z : argsX as_spec_l02Point) : runF (tab C0 T_spec_l02Point) noHints 1 Tryd.f36 (lentOf as_spec_l02Point) (xBoxes as_spec_l02Point z) (xVals as_spec_l02Point 0 z) K2 = t_spec_l02Point (fun b => some (en_spec_l02Point b)) z.1 := by kernel_rfl
theorem so_spec_l02Point : Sound C0 36 k_spec_l02Point :=
  Sound.fx a_spec_l02Point mixed Tryd.func36 (by kernel_rfl) (by kernel_rfl) noHints 1 noHints_ok (fun z => (r_spec_l02Point z).trans (nat_spec_l02Point _ z.1))

/-! ### F81 spec.l01Of -/
noncomputable def T_spec_l01Of : List (FuncId × Contract) := []
theorem a_spec_l01Of : AllSound C0 T_spec_l01Of := .nil
noncomputable def t_spec_l01Of {R : Type} (kx : (Int × (Int × Int)) → Option R) (a0 : (Int × (Int × Int))) : Option R :=
  kx a0
noncomputable def g_spec_l01Of (a0 : (Int × (Int × Int))) : Option ((Int × (Int × Int))) := t_spec_l01Of some a0
theorem nat_spec_l01Of {R : Type} (kx : (Int × (Int × Int)) → Option R) (a0 : (Int × (Int × Int))) : t_spec_l01Of kx a0 = (g_spec_l01Of a0).bind kx := by
  unfold g_spec_l01Of t_spec_l01Of
  exact rfl
abbrev as_spec_l01Of : List AX := [.val true (.pair (.int .i64) (.pair (.int .i64) (.int .i64)))]
abbrev en_spec_l01Of : (Int × (Int × Int)) → AV × List CV := fun b => (.one ⟨true, [(.v (.int .i64 b.1)), (.v (.int .i64 b.2.1)), (.v (.int .i64 b.2.2))]⟩, [])
noncomputable abbrev k_spec_l01Of : Contract := .fx as_spec_l01Of ((Int × (Int × Int))) (fun z => g_spec_l01Of z.1) en_spec_l01Of
theorem r_spec_l01Of (z : argsX as_spec_l01Of) : runF (tab C0 T_spec_l01Of) noHints 1 Tryd.f81 (lentOf as_spec_l01Of) (xBoxes as_spec_l01Of z) (xVals as_spec_l01Of 0 z) K2 = t_spec_l01Of (fun b => some (en_spec_l01Of b)) z.1 := by kernel_rfl
theorem so_spec_l01Of : Sound C0 81 k_spec_l01Of :=
  Sound.fx a_spec_l01Of mixed Tryd.func81 (by kernel_rfl) (by kernel_rfl) noHints 1 noHints_ok (fun z => (r_spec_l01Of z).trans (nat_spec_l01Of _ z.1))

/-! ### F38 spec.l02LineOf -/
noncomputable def T_spec_l02LineOf : List (FuncId × Contract) := [(81, k_spec_l01Of)]
theorem a_spec_l02LineOf : AllSound C0 T_spec_l02LineOf := .cons so_spec_l01Of (.nil)
noncomputable def t_spec_l02LineOf {R : Type} (kx : (Int × (Int × (Int × Int))) → Option R) (a0 : (Int × (Int × (Int × Int)))) : Option R :=
  Option.bind (g_spec_l01Of a0.2) fun y33 =>
  kx (a0.1, y33)
noncomputable def g_spec_l02LineOf (a0 : (Int × (Int × (Int × Int)))) : Option ((Int × (Int × (Int × Int)))) := t_spec_l02LineOf some a0
theorem nat_spec_l02LineOf {R : Type} (kx : (Int × (Int × (Int × Int))) → Option R) (a0 : (Int × (Int × (Int × Int)))) : t_spec_l02LineOf kx a0 = (g_spec_l02LineOf a0).bind kx := by
  unfold g_spec_l02LineOf t_spec_l02LineOf
  exact nat_bind fun _ => rfl
abbrev as_spec_l02LineOf : List AX := [.val true (.pair (.int .i64) (.pair (.int .i64) (.pair (.int .i64) (.int .i64))))]
abbrev en_spec_l02LineOf : (Int × (Int × (Int × Int))) → AV × List CV := fun b => (.one ⟨true, [(.v (.int .i64 b.1)), (.v (.int .i64 b.2.1)), (.v (.int .i64 b.2.2.1)), (.v (.int .i64 b.2.2.2))]⟩, [])
noncomputable abbrev k_spec_l02LineOf : Contract := .fx as_spec_l02LineOf ((Int × (Int × (Int × Int)))) (fun z => g_spec_l02LineOf z.1) en_spec_l02LineOf
theorem r_spec_l02LineOf (z : argsX as_spec_l02LineOf) : runF (tab C0 T_spec_l02LineOf) noHints 1 Tryd.f38 (lentOf as_spec_l02LineOf) (xBoxes as_spec_l02LineOf z) (xVals as_spec_l02LineOf 0 z) K2 = t_spec_l02LineOf (fun b => some (en_spec_l02LineOf b)) z.1 := by kernel_rfl
theorem so_spec_l02LineOf : Sound C0 38 k_spec_l02LineOf :=
  Sound.fx a_spec_l02LineOf mixed Tryd.func38 (by kernel_rfl) (by kernel_rfl) noHints 1 noHints_ok (fun z => (r_spec_l02LineOf z).trans (nat_spec_l02LineOf _ z.1))

/-! ### F39 spec.l02Of -/
noncomputable def T_spec_l02Of : List (FuncId × Contract) := [(81, k_spec_l01Of)]
theorem a_spec_l02Of : AllSound C0 T_spec_l02Of := .cons so_spec_l01Of (.nil)
noncomputable def t_spec_l02Of {R : Type} (kx : ((Int × (Int × Int)) × (Int × (Int × Int))) → Option R) (a0 : ((Int × (Int × Int)) × (Int × (Int × Int)))) : Option R :=
  Option.bind (g_spec_l01Of a0.1) fun y36 =>
  Option.bind (g_spec_l01Of a0.2) fun y37 =>
  kx (y36, y37)
noncomputable def g_spec_l02Of (a0 : ((Int × (Int × Int)) × (Int × (Int × Int)))) : Option (((Int × (Int × Int)) × (Int × (Int × Int)))) := t_spec_l02Of some a0
theorem nat_spec_l02Of {R : Type} (kx : ((Int × (Int × Int)) × (Int × (Int × Int))) → Option R) (a0 : ((Int × (Int × Int)) × (Int × (Int × Int)))) : t_spec_l02Of kx a0 = (g_spec_l02Of a0).bind kx := by
  unfold g_spec_l02Of t_spec_l02Of
  exact nat_bind fun _ => nat_bind fun _ => rfl
abbrev as_spec_l02Of : List AX := [.val true (.pair (.pair (.int .i64) (.pair (.int .i64) (.int .i64))) (.pair (.int .i64) (.pair (.int .i64) (.int .i64))))]
abbrev en_spec_l02Of : ((Int × (Int × Int)) × (Int × (Int × Int))) → AV × List CV := fun b => (.one ⟨true, [(.v (.int .i64 b.1.1)), (.v (.int .i64 b.1.2.1)), (.v (.int .i64 b.1.2.2)), (.v (.int .i64 b.2.1)), (.v (.int .i64 b.2.2.1)), (.v (.int .i64 b.2.2.2))]⟩, [])
noncomputable abbrev k_spec_l02Of : Contract := .fx as_spec_l02Of (((Int × (Int × Int)) × (Int × (Int × Int)))) (fun z => g_spec_l02Of z.1) en_spec_l02Of
theorem r_spec_l02Of (z : argsX as_spec_l02Of) : runF (tab C0 T_spec_l02Of) noHints 1 Tryd.f39 (lentOf as_spec_l02Of) (xBoxes as_spec_l02Of z) (xVals as_spec_l02Of 0 z) K2 = t_spec_l02Of (fun b => some (en_spec_l02Of b)) z.1 := by kernel_rfl
theorem so_spec_l02Of : Sound C0 39 k_spec_l02Of :=
  Sound.fx a_spec_l02Of mixed Tryd.func39 (by kernel_rfl) (by kernel_rfl) noHints 1 noHints_ok (fun z => (r_spec_l02Of z).trans (nat_spec_l02Of _ z.1))

/-! ### F105 spec.l02Mod -/
noncomputable def T_spec_l02Mod : List (FuncId × Contract) := []
theorem a_spec_l02Mod : AllSound C0 T_spec_l02Mod := .nil
noncomputable def t_spec_l02Mod {R : Type} (kx : Int → Option R) (a0 : Int) : Option R :=
  kx (Int.tmod (IntKind.wrap IntKind.i64 ((Int.tmod a0 (16 : Int)) + (16 : Int))) (16 : Int))
noncomputable def g_spec_l02Mod (a0 : Int) : Option (Int) := t_spec_l02Mod some a0
theorem nat_spec_l02Mod {R : Type} (kx : Int → Option R) (a0 : Int) : t_spec_l02Mod kx a0 = (g_spec_l02Mod a0).bind kx := by
  unfold g_spec_l02Mod t_spec_l02Mod
  exact rfl
abbrev as_spec_l02Mod : List AX := [.val false (.int .i64)]
abbrev en_spec_l02Mod : Int → AV × List CV := fun b => (.one ⟨false, [(.v (.int .i64 b))]⟩, [])
noncomputable abbrev k_spec_l02Mod : Contract := .fx as_spec_l02Mod (Int) (fun z => g_spec_l02Mod z.1) en_spec_l02Mod
theorem r_spec_l02Mod (z : argsX as_spec_l02Mod) : runF (tab C0 T_spec_l02Mod) noHints 1 Tryd.f105 (lentOf as_spec_l02Mod) (xBoxes as_spec_l02Mod z) (xVals as_spec_l02Mod 0 z) K2 = t_spec_l02Mod (fun b => some (en_spec_l02Mod b)) z.1 := by kernel_rfl
theorem so_spec_l02Mod : Sound C0 105 k_spec_l02Mod :=
  Sound.fx a_spec_l02Mod mixed Tryd.func105 (by kernel_rfl) (by kernel_rfl) noHints 1 noHints_ok (fun z => (r_spec_l02Mod z).trans (nat_spec_l02Mod _ z.1))

/-! ### F92 spec.l02Vec -/
noncomputable def T_spec_l02Vec : List (FuncId × Contract) := [(105, k_spec_l02Mod)]
theorem a_spec_l02Vec : AllSound C0 T_spec_l02Vec := .cons so_spec_l02Mod (.nil)
noncomputable def t_spec_l02Vec {R : Type} (kx : ((Int × (Int × Int)) × (Int × (Int × Int))) → Option R) (a0 : Int) : Option R :=
  Option.bind (g_spec_l02Mod a0) fun y47 =>
  Option.bind (idx [(((1 : Int), ((0 : Int), (0 : Int))), ((0 : Int), ((0 : Int), (0 : Int)))), (((1 : Int), ((0 : Int), (0 : Int))), ((-(1 : Int)), ((1 : Int), (0 : Int)))), (((1 : Int), ((0 : Int), (0 : Int))), ((1 : Int), ((0 : Int), (0 : Int)))), (((-(1 : Int)), ((1 : Int), (0 : Int))), ((1 : Int), ((0 : Int), (0 : Int)))), (((0 : Int), ((0 : Int), (0 : Int))), ((1 : Int), ((0 : Int), (0 : Int)))), (((1 : Int), ((-(1 : Int)), (0 : Int))), ((1 : Int), ((0 : Int), (0 : Int)))), (((-(1 : Int)), ((0 : Int), (0 : Int))), ((1 : Int), ((0 : Int), (0 : Int)))), (((-(1 : Int)), ((0 : Int), (0 : Int))), ((-(1 : Int)), ((1 : Int), (0 : Int))))] (Int.tmod y47 (8 : Int))) fun y48 =>
  cond (decide (y47 ≥ (8 : Int)))
  (kx (((IntKind.wrap IntKind.i64 ((0 : Int) - y48.1.1)), ((IntKind.wrap IntKind.i64 ((0 : Int) - y48.1.2.1)), (0 : Int))), ((IntKind.wrap IntKind.i64 ((0 : Int) - y48.2.1)), ((IntKind.wrap IntKind.i64 ((0 : Int) - y48.2.2.1)), (0 : Int)))))
  (kx y48)
noncomputable def g_spec_l02Vec (a0 : Int) : Option (((Int × (Int × Int)) × (Int × (Int × Int)))) := t_spec_l02Vec some a0
theorem nat_spec_l02Vec {R : Type} (kx : ((Int × (Int × Int)) × (Int × (Int × Int))) → Option R) (a0 : Int) : t_spec_l02Vec kx a0 = (g_spec_l02Vec a0).bind kx := by
  unfold g_spec_l02Vec t_spec_l02Vec
  exact nat_bind fun _ => nat_bind fun _ => nat_cond (rfl) (rfl)
abbrev as_spec_l02Vec : List AX := [.val false (.int .i64)]
abbrev en_spec_l02Vec : ((Int × (Int × Int)) × (Int × (Int × Int))) → AV × List CV := fun b => (.one ⟨true, [(.v (.int .i64 b.1.1)), (.v (.int .i64 b.1.2.1)), (.v (.int .i64 b.1.2.2)), (.v (.int .i64 b.2.1)), (.v (.int .i64 b.2.2.1)), (.v (.int .i64 b.2.2.2))]⟩, [])
noncomputable abbrev k_spec_l02Vec : Contract := .fx as_spec_l02Vec (((Int × (Int × Int)) × (Int × (Int × Int)))) (fun z => g_spec_l02Vec z.1) en_spec_l02Vec
theorem r_spec_l02Vec (z : argsX as_spec_l02Vec) : runF (tab C0 T_spec_l02Vec) noHints 1 Tryd.f92 (lentOf as_spec_l02Vec) (xBoxes as_spec_l02Vec z) (xVals as_spec_l02Vec 0 z) K2 = t_spec_l02Vec (fun b => some (en_spec_l02Vec b)) z.1 := by kernel_rfl
theorem so_spec_l02Vec : Sound C0 92 k_spec_l02Vec :=
  Sound.fx a_spec_l02Vec mixed Tryd.func92 (by kernel_rfl) (by kernel_rfl) noHints 1 noHints_ok (fun z => (r_spec_l02Vec z).trans (nat_spec_l02Vec _ z.1))

/-! ### F104 spec.l01Low -/
noncomputable def T_spec_l01Low : List (FuncId × Contract) := []
theorem a_spec_l01Low : AllSound C0 T_spec_l01Low := .nil
abbrev s_spec_l01Low_4 : LS := ⟨[(false, [(.ptr 1 0)]), (false, [(.ptr 2 0)])], [(false, [(.int .i64), (.int .i64), (.int .i64)]), (false, [(.int .i64), (.int .i64), (.int .i64)])], []⟩
abbrev e_spec_l01Low_4_0 : LS := ⟨[(false, [(.ptr 1 0)]), (false, [(.ptr 2 0)])], [(false, [(.int .i64), (.int .i64), (.int .i64)]), (false, [(.int .i64), (.int .i64), (.int .i64)])], []⟩
abbrev d_spec_l01Low_4_0 (v0 : Int) (v1 : Int) (v2 : Int) (v3 : Int) (v4 : Int) (v5 : Int) : e_spec_l01Low_4_0.T := ((((), ()), ((), ()), ()), ((v0, v1, v2, ()), (v3, v4, v5, ()), ()), ())
abbrev x_spec_l01Low_4 : List (Ex × LS) := [(.exit 0, e_spec_l01Low_4_0)]
abbrev m_spec_l01Low_4 (b0_0 : Int) (b0_1 : Int) (b0_2 : Int) (b1_0 : Int) (b1_1 : Int) (b1_2 : Int) : s_spec_l01Low_4.T := ((((), ()), ((), ()), ()), ((b0_0, b0_1, b0_2, ()), (b1_0, b1_1, b1_2, ()), ()), ())
noncomputable def u_spec_l01Low_4 {R : Type} (nx : s_spec_l01Low_4.T → Option R) (hx : exH R x_spec_l01Low_4) (b0_0 : Int) (b0_1 : Int) (b0_2 : Int) (b1_0 : Int) (b1_1 : Int) (b1_2 : Int) : Option R :=
  cond (decide (b0_2 > (0 : Int)))
  (cond ((Int.tmod b0_0 (2 : Int)) == (0 : Int))
   (cond ((Int.tmod b0_1 (2 : Int)) == (0 : Int))
    (nx (m_spec_l01Low_4 (IntKind.wrap IntKind.i64 (Int.tdiv b0_0 (2 : Int))) (IntKind.wrap IntKind.i64 (Int.tdiv b0_1 (2 : Int))) (IntKind.wrap IntKind.i64 (b0_2 - (1 : Int))) b1_0 b1_1 b1_2))
    (hx.1 (d_spec_l01Low_4_0 b0_0 b0_1 b0_2 b1_0 b1_1 b1_2)))
   (hx.1 (d_spec_l01Low_4_0 b0_0 b0_1 b0_2 b1_0 b1_1 b1_2)))
  (hx.1 (d_spec_l01Low_4_0 b0_0 b0_1 b0_2 b1_0 b1_1 b1_2))
noncomputable def t_spec_l01Low_4 {R : Type} (nx : s_spec_l01Low_4.T → Option R) (hx : exH R x_spec_l01Low_4) (z : s_spec_l01Low_4.T) : Option R := u_spec_l01Low_4 nx hx z.2.1.1.1 z.2.1.1.2.1 z.2.1.1.2.2.1 z.2.1.2.1.1 z.2.1.2.1.2.1 z.2.1.2.1.2.2.1
theorem nat_spec_l01Low_4 : Natural @t_spec_l01Low_4 := fun R nx hx z => by
  show u_spec_l01Low_4 nx hx z.2.1.1.1 z.2.1.1.2.1 z.2.1.1.2.2.1 z.2.1.2.1.1 z.2.1.2.1.2.1 z.2.1.2.1.2.2.1 = (u_spec_l01Low_4 (fun y => some (.inl y)) (hIn x_spec_l01Low_4 fun x => some (.inr x)) z.2.1.1.1 z.2.1.1.2.1 z.2.1.1.2.2.1 z.2.1.2.1.1 z.2.1.2.1.2.1 z.2.1.2.1.2.2.1).bind (goOn nx hx)
  unfold u_spec_l01Low_4
  exact nat_cond (nat_cond (nat_cond (rfl) (rfl)) (rfl)) (rfl)
noncomputable def w_spec_l01Low_4 : s_spec_l01Low_4.T → Option (exT x_spec_l01Low_4) := wOf @t_spec_l01Low_4
theorem wq_spec_l01Low_4 (b0_0 : Int) (b0_1 : Int) (b0_2 : Int) (b1_0 : Int) (b1_1 : Int) (b1_2 : Int) : w_spec_l01Low_4 (m_spec_l01Low_4 b0_0 b0_1 b0_2 b1_0 b1_1 b1_2) = u_spec_l01Low_4 w_spec_l01Low_4 (hIn x_spec_l01Low_4 some) b0_0 b0_1 b0_2 b1_0 b1_1 b1_2 := wOf_eq nat_spec_l01Low_4 _
def lh_spec_l01Low_4 : LoopHint := ⟨[1, 2], [1, 2], [1, 2], [1, 2]⟩
noncomputable def h_spec_l01Low : Hints Rv := ⟨fun k => match k with | 4 => lh_spec_l01Low_4 | _ => ⟨[], [], [], []⟩, fun k => match k with | 4 => some (loopX s_spec_l01Low_4 x_spec_l01Low_4 w_spec_l01Low_4) | _ => none⟩
theorem st_spec_l01Low_4 (n : Nat) (z : s_spec_l01Low_4.T) (k : Ex → Live → Option Rv) : loopN ⟨40, 40⟩ lh_spec_l01Low_4 (den (tab C0 T_spec_l01Low) ⟨40, 40⟩ h_spec_l01Low 1 (loopOf Tryd.f104 3)) (n + 1) (s_spec_l01Low_4.enc z) k =
    t_spec_l01Low_4 (fun y => loopN ⟨40, 40⟩ lh_spec_l01Low_4 (den (tab C0 T_spec_l01Low) ⟨40, 40⟩ h_spec_l01Low 1 (loopOf Tryd.f104 3)) n (s_spec_l01Low_4.enc y) k) (hK k x_spec_l01Low_4) z := by kernel_rfl
theorem hs_spec_l01Low : HintsOk (tab C0 T_spec_l01Low) ⟨40, 40⟩ h_spec_l01Low 1 (loops (codeOf Tryd.f104)) := by
  have hl : loops (codeOf Tryd.f104) = [loopOf Tryd.f104 3] := by kernel_rfl
  rw [hl]
  exact HintsOk.cons (n := 4) (lh := lh_spec_l01Low_4) (S := loopX s_spec_l01Low_4 x_spec_l01Low_4 w_spec_l01Low_4) (by kernel_rfl) rfl rfl (loopX_ok nat_spec_l01Low_4 st_spec_l01Low_4)
    (HintsOk.nil)
noncomputable def t_spec_l01Low {R : Type} (kx : (Int × (Int × Int)) → Option R) (a0 : (Int × (Int × Int))) : Option R :=
  cond (a0.1 == (0 : Int))
  (cond (a0.2.1 == (0 : Int))
   (kx ((0 : Int), ((0 : Int), (0 : Int))))
   (Option.bind (w_spec_l01Low_4 (m_spec_l01Low_4 a0.1 a0.2.1 a0.2.2 (0 : Int) (0 : Int) (0 : Int))) (exC x_spec_l01Low_4
    (fun e64 =>
     kx ((e64.2.1.1.1 : Int), ((e64.2.1.1.2.1 : Int), (e64.2.1.1.2.2.1 : Int))), ()))))
  (Option.bind (w_spec_l01Low_4 (m_spec_l01Low_4 a0.1 a0.2.1 a0.2.2 (0 : Int) (0 : Int) (0 : Int))) (exC x_spec_l01Low_4
   (fun e71 =>
    kx ((e71.2.1.1.1 : Int), ((e71.2.1.1.2.1 : Int), (e71.2.1.1.2.2.1 : Int))), ())))
noncomputable def g_spec_l01Low (a0 : (Int × (Int × Int))) : Option ((Int × (Int × Int))) := t_spec_l01Low some a0
theorem nat_spec_l01Low {R : Type} (kx : (Int × (Int × Int)) → Option R) (a0 : (Int × (Int × Int))) : t_spec_l01Low kx a0 = (g_spec_l01Low a0).bind kx := by
  unfold g_spec_l01Low t_spec_l01Low
  exact nat_cond (nat_cond (rfl) (nat_exC ⟨fun _ => rfl, trivial⟩)) (nat_exC ⟨fun _ => rfl, trivial⟩)
abbrev as_spec_l01Low : List AX := [.val true (.pair (.int .i64) (.pair (.int .i64) (.int .i64)))]
abbrev en_spec_l01Low : (Int × (Int × Int)) → AV × List CV := fun b => (.one ⟨true, [(.v (.int .i64 b.1)), (.v (.int .i64 b.2.1)), (.v (.int .i64 b.2.2))]⟩, [])
noncomputable abbrev k_spec_l01Low : Contract := .fx as_spec_l01Low ((Int × (Int × Int))) (fun z => g_spec_l01Low z.1) en_spec_l01Low
theorem r_spec_l01Low (z : argsX as_spec_l01Low) : runF (tab C0 T_spec_l01Low) h_spec_l01Low 1 Tryd.f104 (lentOf as_spec_l01Low) (xBoxes as_spec_l01Low z) (xVals as_spec_l01Low 0 z) K2 = t_spec_l01Low (fun b => some (en_spec_l01Low b)) z.1 := by kernel_rfl
theorem so_spec_l01Low : Sound C0 104 k_spec_l01Low :=
  Sound.fx a_spec_l01Low mixed Tryd.func104 (by kernel_rfl) (by kernel_rfl) h_spec_l01Low 1 hs_spec_l01Low (fun z => (r_spec_l01Low z).trans (nat_spec_l01Low _ z.1))

/-! ### F97 spec.l01Mul -/
noncomputable def T_spec_l01Mul : List (FuncId × Contract) := [(104, k_spec_l01Low)]
theorem a_spec_l01Mul : AllSound C0 T_spec_l01Mul := .cons so_spec_l01Low (.nil)
noncomputable def t_spec_l01Mul {R : Type} (kx : (Int × (Int × Int)) → Option R) (a0 : (Int × (Int × Int))) (a1 : (Int × (Int × Int))) : Option R :=
  Option.bind (g_spec_l01Low ((IntKind.wrap IntKind.i64 ((IntKind.wrap IntKind.i64 (a0.1 * a1.1)) + (IntKind.wrap IntKind.i64 ((IntKind.wrap IntKind.i64 ((2 : Int) * a0.2.1)) * a1.2.1)))), ((IntKind.wrap IntKind.i64 ((IntKind.wrap IntKind.i64 (a0.1 * a1.2.1)) + (IntKind.wrap IntKind.i64 (a0.2.1 * a1.1)))), (IntKind.wrap IntKind.i64 (a0.2.2 + a1.2.2))))) fun y78 =>
  kx y78
noncomputable def g_spec_l01Mul (a0 : (Int × (Int × Int))) (a1 : (Int × (Int × Int))) : Option ((Int × (Int × Int))) := t_spec_l01Mul some a0 a1
theorem nat_spec_l01Mul {R : Type} (kx : (Int × (Int × Int)) → Option R) (a0 : (Int × (Int × Int))) (a1 : (Int × (Int × Int))) : t_spec_l01Mul kx a0 a1 = (g_spec_l01Mul a0 a1).bind kx := by
  unfold g_spec_l01Mul t_spec_l01Mul
  exact nat_bind fun _ => rfl
abbrev as_spec_l01Mul : List AX := [.val true (.pair (.int .i64) (.pair (.int .i64) (.int .i64))), .val true (.pair (.int .i64) (.pair (.int .i64) (.int .i64)))]
abbrev en_spec_l01Mul : (Int × (Int × Int)) → AV × List CV := fun b => (.one ⟨true, [(.v (.int .i64 b.1)), (.v (.int .i64 b.2.1)), (.v (.int .i64 b.2.2))]⟩, [])
noncomputable abbrev k_spec_l01Mul : Contract := .fx as_spec_l01Mul ((Int × (Int × Int))) (fun z => g_spec_l01Mul z.1 z.2.1) en_spec_l01Mul
theorem r_spec_l01Mul (z : argsX as_spec_l01Mul) : runF (tab C0 T_spec_l01Mul) noHints 1 Tryd.f97 (lentOf as_spec_l01Mul) (xBoxes as_spec_l01Mul z) (xVals as_spec_l01Mul 0 z) K2 = t_spec_l01Mul (fun b => some (en_spec_l01Mul b)) z.1 z.2.1 := by kernel_rfl
theorem so_spec_l01Mul : Sound C0 97 k_spec_l01Mul :=
  Sound.fx a_spec_l01Mul mixed Tryd.func97 (by kernel_rfl) (by kernel_rfl) noHints 1 noHints_ok (fun z => (r_spec_l01Mul z).trans (nat_spec_l01Mul _ z.1 z.2.1))

/-! ### F55 spec.l01Add -/
noncomputable def T_spec_l01Add : List (FuncId × Contract) := [(104, k_spec_l01Low)]
theorem a_spec_l01Add : AllSound C0 T_spec_l01Add := .cons so_spec_l01Low (.nil)
abbrev s_spec_l01Add_2 : LS := ⟨[(false, [(.ptr 2 0)]), (false, [(.ptr 3 0)]), (false, [(.ptr 4 0)])], [(false, [(.int .i64), (.int .i64), (.int .i64)]), (false, [(.int .i64), (.int .i64), (.int .i64)]), (false, [(.int .i64), (.int .i64), (.int .i64)])], []⟩
abbrev e_spec_l01Add_2_0 : LS := ⟨[(false, [(.ptr 2 0)]), (false, [(.ptr 3 0)]), (false, [(.ptr 4 0)])], [(false, [(.int .i64), (.int .i64), (.int .i64)]), (false, [(.int .i64), (.int .i64), (.int .i64)]), (false, [(.int .i64), (.int .i64), (.int .i64)])], []⟩
abbrev d_spec_l01Add_2_0 (v0 : Int) (v1 : Int) (v2 : Int) (v3 : Int) (v4 : Int) (v5 : Int) (v6 : Int) (v7 : Int) (v8 : Int) : e_spec_l01Add_2_0.T := ((((), ()), ((), ()), ((), ()), ()), ((v0, v1, v2, ()), (v3, v4, v5, ()), (v6, v7, v8, ()), ()), ())
abbrev x_spec_l01Add_2 : List (Ex × LS) := [(.exit 0, e_spec_l01Add_2_0)]
abbrev m_spec_l01Add_2 (b0_0 : Int) (b0_1 : Int) (b0_2 : Int) (b1_0 : Int) (b1_1 : Int) (b1_2 : Int) (b2_0 : Int) (b2_1 : Int) (b2_2 : Int) : s_spec_l01Add_2.T := ((((), ()), ((), ()), ((), ()), ()), ((b0_0, b0_1, b0_2, ()), (b1_0, b1_1, b1_2, ()), (b2_0, b2_1, b2_2, ()), ()), ())
noncomputable def u_spec_l01Add_2 {R : Type} (nx : s_spec_l01Add_2.T → Option R) (hx : exH R x_spec_l01Add_2) (b0_0 : Int) (b0_1 : Int) (b0_2 : Int) (b1_0 : Int) (b1_1 : Int) (b1_2 : Int) (b2_0 : Int) (b2_1 : Int) (b2_2 : Int) : Option R :=
  cond (decide (b0_2 < b1_2))
  (nx (m_spec_l01Add_2 (IntKind.wrap IntKind.i64 (b0_0 * (2 : Int))) (IntKind.wrap IntKind.i64 (b0_1 * (2 : Int))) (IntKind.wrap IntKind.i64 (b0_2 + (1 : Int))) b1_0 b1_1 b1_2 b2_0 b2_1 b2_2))
  (hx.1 (d_spec_l01Add_2_0 b0_0 b0_1 b0_2 b1_0 b1_1 b1_2 b2_0 b2_1 b2_2))
noncomputable def t_spec_l01Add_2 {R : Type} (nx : s_spec_l01Add_2.T → Option R) (hx : exH R x_spec_l01Add_2) (z : s_spec_l01Add_2.T) : Option R := u_spec_l01Add_2 nx hx z.2.1.1.1 z.2.1.1.2.1 z.2.1.1.2.2.1 z.2.1.2.1.1 z.2.1.2.1.2.1 z.2.1.2.1.2.2.1 z.2.1.2.2.1.1 z.2.1.2.2.1.2.1 z.2.1.2.2.1.2.2.1
theorem nat_spec_l01Add_2 : Natural @t_spec_l01Add_2 := fun R nx hx z => by
  show u_spec_l01Add_2 nx hx z.2.1.1.1 z.2.1.1.2.1 z.2.1.1.2.2.1 z.2.1.2.1.1 z.2.1.2.1.2.1 z.2.1.2.1.2.2.1 z.2.1.2.2.1.1 z.2.1.2.2.1.2.1 z.2.1.2.2.1.2.2.1 = (u_spec_l01Add_2 (fun y => some (.inl y)) (hIn x_spec_l01Add_2 fun x => some (.inr x)) z.2.1.1.1 z.2.1.1.2.1 z.2.1.1.2.2.1 z.2.1.2.1.1 z.2.1.2.1.2.1 z.2.1.2.1.2.2.1 z.2.1.2.2.1.1 z.2.1.2.2.1.2.1 z.2.1.2.2.1.2.2.1).bind (goOn nx hx)
  unfold u_spec_l01Add_2
  exact nat_cond (rfl) (rfl)
noncomputable def w_spec_l01Add_2 : s_spec_l01Add_2.T → Option (exT x_spec_l01Add_2) := wOf @t_spec_l01Add_2
theorem wq_spec_l01Add_2 (b0_0 : Int) (b0_1 : Int) (b0_2 : Int) (b1_0 : Int) (b1_1 : Int) (b1_2 : Int) (b2_0 : Int) (b2_1 : Int) (b2_2 : Int) : w_spec_l01Add_2 (m_spec_l01Add_2 b0_0 b0_1 b0_2 b1_0 b1_1 b1_2 b2_0 b2_1 b2_2) = u_spec_l01Add_2 w_spec_l01Add_2 (hIn x_spec_l01Add_2 some) b0_0 b0_1 b0_2 b1_0 b1_1 b1_2 b2_0 b2_1 b2_2 := wOf_eq nat_spec_l01Add_2 _
def lh_spec_l01Add_2 : LoopHint := ⟨[2, 3, 4], [2, 3, 4], [2, 3, 4], [2, 3, 4]⟩
abbrev s_spec_l01Add_6 : LS := ⟨[(false, [(.ptr 2 0)]), (false, [(.ptr 3 0)]), (false, [(.ptr 4 0)])], [(false, [(.int .i64), (.int .i64), (.int .i64)]), (false, [(.int .i64), (.int .i64), (.int .i64)]), (false, [(.int .i64), (.int .i64), (.int .i64)])], []⟩
abbrev e_spec_l01Add_6_0 : LS := ⟨[(false, [(.ptr 2 0)]), (false, [(.ptr 3 0)]), (false, [(.ptr 4 0)])], [(false, [(.int .i64), (.int .i64), (.int .i64)]), (false, [(.int .i64), (.int .i64), (.int .i64)]), (false, [(.int .i64), (.int .i64), (.int .i64)])], []⟩
abbrev d_spec_l01Add_6_0 (v0 : Int) (v1 : Int) (v2 : Int) (v3 : Int) (v4 : Int) (v5 : Int) (v6 : Int) (v7 : Int) (v8 : Int) : e_spec_l01Add_6_0.T := ((((), ()), ((), ()), ((), ()), ()), ((v0, v1, v2, ()), (v3, v4, v5, ()), (v6, v7, v8, ()), ()), ())
abbrev x_spec_l01Add_6 : List (Ex × LS) := [(.exit 2, e_spec_l01Add_6_0)]
abbrev m_spec_l01Add_6 (b0_0 : Int) (b0_1 : Int) (b0_2 : Int) (b1_0 : Int) (b1_1 : Int) (b1_2 : Int) (b2_0 : Int) (b2_1 : Int) (b2_2 : Int) : s_spec_l01Add_6.T := ((((), ()), ((), ()), ((), ()), ()), ((b0_0, b0_1, b0_2, ()), (b1_0, b1_1, b1_2, ()), (b2_0, b2_1, b2_2, ()), ()), ())
noncomputable def u_spec_l01Add_6 {R : Type} (nx : s_spec_l01Add_6.T → Option R) (hx : exH R x_spec_l01Add_6) (b0_0 : Int) (b0_1 : Int) (b0_2 : Int) (b1_0 : Int) (b1_1 : Int) (b1_2 : Int) (b2_0 : Int) (b2_1 : Int) (b2_2 : Int) : Option R :=
  cond (decide (b1_2 < b0_2))
  (nx (m_spec_l01Add_6 b0_0 b0_1 b0_2 (IntKind.wrap IntKind.i64 (b1_0 * (2 : Int))) (IntKind.wrap IntKind.i64 (b1_1 * (2 : Int))) (IntKind.wrap IntKind.i64 (b1_2 + (1 : Int))) b2_0 b2_1 b2_2))
  (hx.1 (d_spec_l01Add_6_0 b0_0 b0_1 b0_2 b1_0 b1_1 b1_2 b2_0 b2_1 b2_2))
noncomputable def t_spec_l01Add_6 {R : Type} (nx : s_spec_l01Add_6.T → Option R) (hx : exH R x_spec_l01Add_6) (z : s_spec_l01Add_6.T) : Option R := u_spec_l01Add_6 nx hx z.2.1.1.1 z.2.1.1.2.1 z.2.1.1.2.2.1 z.2.1.2.1.1 z.2.1.2.1.2.1 z.2.1.2.1.2.2.1 z.2.1.2.2.1.1 z.2.1.2.2.1.2.1 z.2.1.2.2.1.2.2.1
theorem nat_spec_l01Add_6 : Natural @t_spec_l01Add_6 := fun R nx hx z => by
  show u_spec_l01Add_6 nx hx z.2.1.1.1 z.2.1.1.2.1 z.2.1.1.2.2.1 z.2.1.2.1.1 z.2.1.2.1.2.1 z.2.1.2.1.2.2.1 z.2.1.2.2.1.1 z.2.1.2.2.1.2.1 z.2.1.2.2.1.2.2.1 = (u_spec_l01Add_6 (fun y => some (.inl y)) (hIn x_spec_l01Add_6 fun x => some (.inr x)) z.2.1.1.1 z.2.1.1.2.1 z.2.1.1.2.2.1 z.2.1.2.1.1 z.2.1.2.1.2.1 z.2.1.2.1.2.2.1 z.2.1.2.2.1.1 z.2.1.2.2.1.2.1 z.2.1.2.2.1.2.2.1).bind (goOn nx hx)
  unfold u_spec_l01Add_6
  exact nat_cond (rfl) (rfl)
noncomputable def w_spec_l01Add_6 : s_spec_l01Add_6.T → Option (exT x_spec_l01Add_6) := wOf @t_spec_l01Add_6
theorem wq_spec_l01Add_6 (b0_0 : Int) (b0_1 : Int) (b0_2 : Int) (b1_0 : Int) (b1_1 : Int) (b1_2 : Int) (b2_0 : Int) (b2_1 : Int) (b2_2 : Int) : w_spec_l01Add_6 (m_spec_l01Add_6 b0_0 b0_1 b0_2 b1_0 b1_1 b1_2 b2_0 b2_1 b2_2) = u_spec_l01Add_6 w_spec_l01Add_6 (hIn x_spec_l01Add_6 some) b0_0 b0_1 b0_2 b1_0 b1_1 b1_2 b2_0 b2_1 b2_2 := wOf_eq nat_spec_l01Add_6 _
def lh_spec_l01Add_6 : LoopHint := ⟨[2, 3, 4], [2, 3, 4], [2, 3, 4], [2, 3, 4]⟩
noncomputable def h_spec_l01Add : Hints Rv := ⟨fun k => match k with | 2 => lh_spec_l01Add_2 | 6 => lh_spec_l01Add_6 | _ => ⟨[], [], [], []⟩, fun k => match k with | 2 => some (loopX s_spec_l01Add_2 x_spec_l01Add_2 w_spec_l01Add_2) | 6 => some (loopX s_spec_l01Add_6 x_spec_l01Add_6 w_spec_l01Add_6) | _ => none⟩
theorem st_spec_l01Add_2 (n : Nat) (z : s_spec_l01Add_2.T) (k : Ex → Live → Option Rv) : loopN ⟨53, 53⟩ lh_spec_l01Add_2 (den (tab C0 T_spec_l01Add) ⟨53, 53⟩ h_spec_l01Add 1 (loopOf Tryd.f55 1)) (n + 1) (s_spec_l01Add_2.enc z) k =
    t_spec_l01Add_2 (fun y => loopN ⟨53, 53⟩ lh_spec_l01Add_2 (den (tab C0 T_spec_l01Add) ⟨53, 53⟩ h_spec_l01Add 1 (loopOf Tryd.f55 1)) n (s_spec_l01Add_2.enc y) k) (hK k x_spec_l01Add_2) z := by kernel_rfl
theorem st_spec_l01Add_6 (n : Nat) (z : s_spec_l01Add_6.T) (k : Ex → Live → Option Rv) : loopN ⟨53, 53⟩ lh_spec_l01Add_6 (den (tab C0 T_spec_l01Add) ⟨53, 53⟩ h_spec_l01Add 1 (loopOf Tryd.f55 5)) (n + 1) (s_spec_l01Add_6.enc z) k =
    t_spec_l01Add_6 (fun y => loopN ⟨53, 53⟩ lh_spec_l01Add_6 (den (tab C0 T_spec_l01Add) ⟨53, 53⟩ h_spec_l01Add 1 (loopOf Tryd.f55 5)) n (s_spec_l01Add_6.enc y) k) (hK k x_spec_l01Add_6) z := by kernel_rfl
theorem hs_spec_l01Add : HintsOk (tab C0 T_spec_l01Add) ⟨53, 53⟩ h_spec_l01Add 1 (loops (codeOf Tryd.f55)) := by
  have hl : loops (codeOf Tryd.f55) = [loopOf Tryd.f55 1, loopOf Tryd.f55 5] := by kernel_rfl
  rw [hl]
  exact HintsOk.cons (n := 2) (lh := lh_spec_l01Add_2) (S := loopX s_spec_l01Add_2 x_spec_l01Add_2 w_spec_l01Add_2) (by kernel_rfl) rfl rfl (loopX_ok nat_spec_l01Add_2 st_spec_l01Add_2)
    (HintsOk.cons (n := 6) (lh := lh_spec_l01Add_6) (S := loopX s_spec_l01Add_6 x_spec_l01Add_6 w_spec_l01Add_6) (by kernel_rfl) rfl rfl (loopX_ok nat_spec_l01Add_6 st_spec_l01Add_6)
    (HintsOk.nil))
noncomputable def t_spec_l01Add {R : Type} (kx : (Int × (Int × Int)) → Option R) (a0 : (Int × (Int × Int))) (a1 : (Int × (Int × Int))) : Option R :=
  Option.bind (w_spec_l01Add_2 (m_spec_l01Add_2 a0.1 a0.2.1 a0.2.2 a1.1 a1.2.1 a1.2.2 (0 : Int) (0 : Int) (0 : Int))) (exC x_spec_l01Add_2
  (fun e92 =>
   Option.bind (w_spec_l01Add_6 (m_spec_l01Add_6 (e92.2.1.1.1 : Int) (e92.2.1.1.2.1 : Int) (e92.2.1.1.2.2.1 : Int) (e92.2.1.2.1.1 : Int) (e92.2.1.2.1.2.1 : Int) (e92.2.1.2.1.2.2.1 : Int) (e92.2.1.2.2.1.1 : Int) (e92.2.1.2.2.1.2.1 : Int) (e92.2.1.2.2.1.2.2.1 : Int))) (exC x_spec_l01Add_6
   (fun e111 =>
    Option.bind (g_spec_l01Low ((IntKind.wrap IntKind.i64 ((e111.2.1.1.1 : Int) + (e111.2.1.2.1.1 : Int))), ((IntKind.wrap IntKind.i64 ((e111.2.1.1.2.1 : Int) + (e111.2.1.2.1.2.1 : Int))), (e111.2.1.1.2.2.1 : Int)))) fun y121 =>
    kx y121, ())), ()))
noncomputable def g_spec_l01Add (a0 : (Int × (Int × Int))) (a1 : (Int × (Int × Int))) : Option ((Int × (Int × Int))) := t_spec_l01Add some a0 a1
theorem nat_spec_l01Add {R : Type} (kx : (Int × (Int × Int)) → Option R) (a0 : (Int × (Int × Int))) (a1 : (Int × (Int × Int))) : t_spec_l01Add kx a0 a1 = (g_spec_l01Add a0 a1).bind kx := by
  unfold g_spec_l01Add t_spec_l01Add
  exact nat_exC ⟨fun _ => nat_exC ⟨fun _ => nat_bind fun _ => rfl, trivial⟩, trivial⟩
abbrev as_spec_l01Add : List AX := [.val true (.pair (.int .i64) (.pair (.int .i64) (.int .i64))), .val true (.pair (.int .i64) (.pair (.int .i64) (.int .i64)))]
abbrev en_spec_l01Add : (Int × (Int × Int)) → AV × List CV := fun b => (.one ⟨true, [(.v (.int .i64 b.1)), (.v (.int .i64 b.2.1)), (.v (.int .i64 b.2.2))]⟩, [])
noncomputable abbrev k_spec_l01Add : Contract := .fx as_spec_l01Add ((Int × (Int × Int))) (fun z => g_spec_l01Add z.1 z.2.1) en_spec_l01Add
theorem r_spec_l01Add (z : argsX as_spec_l01Add) : runF (tab C0 T_spec_l01Add) h_spec_l01Add 1 Tryd.f55 (lentOf as_spec_l01Add) (xBoxes as_spec_l01Add z) (xVals as_spec_l01Add 0 z) K2 = t_spec_l01Add (fun b => some (en_spec_l01Add b)) z.1 z.2.1 := by kernel_rfl
theorem so_spec_l01Add : Sound C0 55 k_spec_l01Add :=
  Sound.fx a_spec_l01Add mixed Tryd.func55 (by kernel_rfl) (by kernel_rfl) h_spec_l01Add 1 hs_spec_l01Add (fun z => (r_spec_l01Add z).trans (nat_spec_l01Add _ z.1 z.2.1))

/-! ### F93 spec.l02Dot -/
noncomputable def T_spec_l02Dot : List (FuncId × Contract) := [(92, k_spec_l02Vec), (39, k_spec_l02Of), (97, k_spec_l01Mul), (55, k_spec_l01Add)]
theorem a_spec_l02Dot : AllSound C0 T_spec_l02Dot := .cons so_spec_l02Vec (.cons so_spec_l02Of (.cons so_spec_l01Mul (.cons so_spec_l01Add (.nil))))
noncomputable def t_spec_l02Dot {R : Type} (kx : (Int × (Int × Int)) → Option R) (a0 : Int) (a1 : ((Int × (Int × Int)) × (Int × (Int × Int)))) : Option R :=
  Option.bind (g_spec_l02Vec a0) fun y53 =>
  Option.bind (g_spec_l02Of y53) fun y54 =>
  Option.bind (g_spec_l01Mul y54.1 a1.1) fun y79 =>
  Option.bind (g_spec_l01Mul y54.2 a1.2) fun y80 =>
  Option.bind (g_spec_l01Add y79 y80) fun y122 =>
  kx y122
noncomputable def g_spec_l02Dot (a0 : Int) (a1 : ((Int × (Int × Int)) × (Int × (Int × Int)))) : Option ((Int × (Int × Int))) := t_spec_l02Dot some a0 a1
theorem nat_spec_l02Dot {R : Type} (kx : (Int × (Int × Int)) → Option R) (a0 : Int) (a1 : ((Int × (Int × Int)) × (Int × (Int × Int)))) : t_spec_l02Dot kx a0 a1 = (g_spec_l02Dot a0 a1).bind kx := by
  unfold g_spec_l02Dot t_spec_l02Dot
  exact nat_bind fun _ => nat_bind fun _ => nat_bind fun _ => nat_bind fun _ => nat_bind fun _ => rfl
abbrev as_spec_l02Dot : List AX := [.val false (.int .i64), .val true (.pair (.pair (.int .i64) (.pair (.int .i64) (.int .i64))) (.pair (.int .i64) (.pair (.int .i64) (.int .i64))))]
abbrev en_spec_l02Dot : (Int × (Int × Int)) → AV × List CV := fun b => (.one ⟨true, [(.v (.int .i64 b.1)), (.v (.int .i64 b.2.1)), (.v (.int .i64 b.2.2))]⟩, [])
noncomputable abbrev k_spec_l02Dot : Contract := .fx as_spec_l02Dot ((Int × (Int × Int))) (fun z => g_spec_l02Dot z.1 z.2.1) en_spec_l02Dot
theorem r_spec_l02Dot (z : argsX as_spec_l02Dot) : runF (tab C0 T_spec_l02Dot) noHints 1 Tryd.f93 (lentOf as_spec_l02Dot) (xBoxes as_spec_l02Dot z) (xVals as_spec_l02Dot 0 z) K2 = t_spec_l02Dot (fun b => some (en_spec_l02Dot b)) z.1 z.2.1 := by kernel_rfl
theorem so_spec_l02Dot : Sound C0 93 k_spec_l02Dot :=
  Sound.fx a_spec_l02Dot mixed Tryd.func93 (by kernel_rfl) (by kernel_rfl) noHints 1 noHints_ok (fun z => (r_spec_l02Dot z).trans (nat_spec_l02Dot _ z.1 z.2.1))

/-! ### F126 spec.l01Neg -/
noncomputable def T_spec_l01Neg : List (FuncId × Contract) := []
theorem a_spec_l01Neg : AllSound C0 T_spec_l01Neg := .nil
noncomputable def t_spec_l01Neg {R : Type} (kx : (Int × (Int × Int)) → Option R) (a0 : (Int × (Int × Int))) : Option R :=
  kx ((IntKind.wrap IntKind.i64 ((0 : Int) - a0.1)), ((IntKind.wrap IntKind.i64 ((0 : Int) - a0.2.1)), a0.2.2))
noncomputable def g_spec_l01Neg (a0 : (Int × (Int × Int))) : Option ((Int × (Int × Int))) := t_spec_l01Neg some a0
theorem nat_spec_l01Neg {R : Type} (kx : (Int × (Int × Int)) → Option R) (a0 : (Int × (Int × Int))) : t_spec_l01Neg kx a0 = (g_spec_l01Neg a0).bind kx := by
  unfold g_spec_l01Neg t_spec_l01Neg
  exact rfl
abbrev as_spec_l01Neg : List AX := [.val true (.pair (.int .i64) (.pair (.int .i64) (.int .i64)))]
abbrev en_spec_l01Neg : (Int × (Int × Int)) → AV × List CV := fun b => (.one ⟨true, [(.v (.int .i64 b.1)), (.v (.int .i64 b.2.1)), (.v (.int .i64 b.2.2))]⟩, [])
noncomputable abbrev k_spec_l01Neg : Contract := .fx as_spec_l01Neg ((Int × (Int × Int))) (fun z => g_spec_l01Neg z.1) en_spec_l01Neg
theorem r_spec_l01Neg (z : argsX as_spec_l01Neg) : runF (tab C0 T_spec_l01Neg) noHints 1 Tryd.f126 (lentOf as_spec_l01Neg) (xBoxes as_spec_l01Neg z) (xVals as_spec_l01Neg 0 z) K2 = t_spec_l01Neg (fun b => some (en_spec_l01Neg b)) z.1 := by kernel_rfl
theorem so_spec_l01Neg : Sound C0 126 k_spec_l01Neg :=
  Sound.fx a_spec_l01Neg mixed Tryd.func126 (by kernel_rfl) (by kernel_rfl) noHints 1 noHints_ok (fun z => (r_spec_l01Neg z).trans (nat_spec_l01Neg _ z.1))

/-! ### F94 spec.l01Sub -/
noncomputable def T_spec_l01Sub : List (FuncId × Contract) := [(126, k_spec_l01Neg), (55, k_spec_l01Add)]
theorem a_spec_l01Sub : AllSound C0 T_spec_l01Sub := .cons so_spec_l01Neg (.cons so_spec_l01Add (.nil))
noncomputable def t_spec_l01Sub {R : Type} (kx : (Int × (Int × Int)) → Option R) (a0 : (Int × (Int × Int))) (a1 : (Int × (Int × Int))) : Option R :=
  Option.bind (g_spec_l01Neg a1) fun y127 =>
  Option.bind (g_spec_l01Add a0 y127) fun y128 =>
  kx y128
noncomputable def g_spec_l01Sub (a0 : (Int × (Int × Int))) (a1 : (Int × (Int × Int))) : Option ((Int × (Int × Int))) := t_spec_l01Sub some a0 a1
theorem nat_spec_l01Sub {R : Type} (kx : (Int × (Int × Int)) → Option R) (a0 : (Int × (Int × Int))) (a1 : (Int × (Int × Int))) : t_spec_l01Sub kx a0 a1 = (g_spec_l01Sub a0 a1).bind kx := by
  unfold g_spec_l01Sub t_spec_l01Sub
  exact nat_bind fun _ => nat_bind fun _ => rfl
abbrev as_spec_l01Sub : List AX := [.val true (.pair (.int .i64) (.pair (.int .i64) (.int .i64))), .val true (.pair (.int .i64) (.pair (.int .i64) (.int .i64)))]
abbrev en_spec_l01Sub : (Int × (Int × Int)) → AV × List CV := fun b => (.one ⟨true, [(.v (.int .i64 b.1)), (.v (.int .i64 b.2.1)), (.v (.int .i64 b.2.2))]⟩, [])
noncomputable abbrev k_spec_l01Sub : Contract := .fx as_spec_l01Sub ((Int × (Int × Int))) (fun z => g_spec_l01Sub z.1 z.2.1) en_spec_l01Sub
theorem r_spec_l01Sub (z : argsX as_spec_l01Sub) : runF (tab C0 T_spec_l01Sub) noHints 1 Tryd.f94 (lentOf as_spec_l01Sub) (xBoxes as_spec_l01Sub z) (xVals as_spec_l01Sub 0 z) K2 = t_spec_l01Sub (fun b => some (en_spec_l01Sub b)) z.1 z.2.1 := by kernel_rfl
theorem so_spec_l01Sub : Sound C0 94 k_spec_l01Sub :=
  Sound.fx a_spec_l01Sub mixed Tryd.func94 (by kernel_rfl) (by kernel_rfl) noHints 1 noHints_ok (fun z => (r_spec_l01Sub z).trans (nat_spec_l01Sub _ z.1 z.2.1))

/-! ### F98 spec.l02Square -/
noncomputable def T_spec_l02Square : List (FuncId × Contract) := [(92, k_spec_l02Vec), (39, k_spec_l02Of), (97, k_spec_l01Mul), (55, k_spec_l01Add)]
theorem a_spec_l02Square : AllSound C0 T_spec_l02Square := .cons so_spec_l02Vec (.cons so_spec_l02Of (.cons so_spec_l01Mul (.cons so_spec_l01Add (.nil))))
noncomputable def t_spec_l02Square {R : Type} (kx : (Int × (Int × Int)) → Option R) (a0 : Int) : Option R :=
  Option.bind (g_spec_l02Vec a0) fun y131 =>
  Option.bind (g_spec_l02Of y131) fun y132 =>
  Option.bind (g_spec_l01Mul y132.1 y132.1) fun y133 =>
  Option.bind (g_spec_l01Mul y132.2 y132.2) fun y134 =>
  Option.bind (g_spec_l01Add y133 y134) fun y135 =>
  kx y135
noncomputable def g_spec_l02Square (a0 : Int) : Option ((Int × (Int × Int))) := t_spec_l02Square some a0
theorem nat_spec_l02Square {R : Type} (kx : (Int × (Int × Int)) → Option R) (a0 : Int) : t_spec_l02Square kx a0 = (g_spec_l02Square a0).bind kx := by
  unfold g_spec_l02Square t_spec_l02Square
  exact nat_bind fun _ => nat_bind fun _ => nat_bind fun _ => nat_bind fun _ => nat_bind fun _ => rfl
abbrev as_spec_l02Square : List AX := [.val false (.int .i64)]
abbrev en_spec_l02Square : (Int × (Int × Int)) → AV × List CV := fun b => (.one ⟨true, [(.v (.int .i64 b.1)), (.v (.int .i64 b.2.1)), (.v (.int .i64 b.2.2))]⟩, [])
noncomputable abbrev k_spec_l02Square : Contract := .fx as_spec_l02Square ((Int × (Int × Int))) (fun z => g_spec_l02Square z.1) en_spec_l02Square
theorem r_spec_l02Square (z : argsX as_spec_l02Square) : runF (tab C0 T_spec_l02Square) noHints 1 Tryd.f98 (lentOf as_spec_l02Square) (xBoxes as_spec_l02Square z) (xVals as_spec_l02Square 0 z) K2 = t_spec_l02Square (fun b => some (en_spec_l02Square b)) z.1 := by kernel_rfl
theorem so_spec_l02Square : Sound C0 98 k_spec_l02Square :=
  Sound.fx a_spec_l02Square mixed Tryd.func98 (by kernel_rfl) (by kernel_rfl) noHints 1 noHints_ok (fun z => (r_spec_l02Square z).trans (nat_spec_l02Square _ z.1))

/-! ### F96 spec.l01Div -/
noncomputable def T_spec_l01Div : List (FuncId × Contract) := [(104, k_spec_l01Low)]
theorem a_spec_l01Div : AllSound C0 T_spec_l01Div := .cons so_spec_l01Low (.nil)
abbrev s_spec_l01Div_6 : LS := ⟨[(false, [(.ptr 3 0)]), (false, [(.ptr 4 0)]), (false, [(.int .i64)]), (false, [(.ptr 7 0)])], [(false, [(.int .i64), (.int .i64), (.int .i64)]), (false, [(.int .i64), (.int .i64), (.int .i64)]), (false, [(.int .i64), (.int .i64), (.int .i64)])], []⟩
abbrev e_spec_l01Div_6_0 : LS := ⟨[(false, [(.ptr 3 0)]), (false, [(.ptr 4 0)]), (false, [(.int .i64)]), (false, [(.ptr 7 0)])], [(false, [(.int .i64), (.int .i64), (.int .i64)]), (false, [(.int .i64), (.int .i64), (.int .i64)]), (false, [(.int .i64), (.int .i64), (.int .i64)])], []⟩
abbrev d_spec_l01Div_6_0 (v0 : Int) (v1 : Int) (v2 : Int) (v3 : Int) (v4 : Int) (v5 : Int) (v6 : Int) (v7 : Int) (v8 : Int) (v9 : Int) : e_spec_l01Div_6_0.T := ((((), ()), ((), ()), (v0, ()), ((), ()), ()), ((v1, v2, v3, ()), (v4, v5, v6, ()), (v7, v8, v9, ()), ()), ())
abbrev x_spec_l01Div_6 : List (Ex × LS) := [(.exit 0, e_spec_l01Div_6_0)]
abbrev m_spec_l01Div_6 (x6 : Int) (b0_0 : Int) (b0_1 : Int) (b0_2 : Int) (b1_0 : Int) (b1_1 : Int) (b1_2 : Int) (b2_0 : Int) (b2_1 : Int) (b2_2 : Int) : s_spec_l01Div_6.T := ((((), ()), ((), ()), (x6, ()), ((), ()), ()), ((b0_0, b0_1, b0_2, ()), (b1_0, b1_1, b1_2, ()), (b2_0, b2_1, b2_2, ()), ()), ())
noncomputable def u_spec_l01Div_6 {R : Type} (nx : s_spec_l01Div_6.T → Option R) (hx : exH R x_spec_l01Div_6) (x6 : Int) (b0_0 : Int) (b0_1 : Int) (b0_2 : Int) (b1_0 : Int) (b1_1 : Int) (b1_2 : Int) (b2_0 : Int) (b2_1 : Int) (b2_2 : Int) : Option R :=
  cond ((Int.tmod x6 (2 : Int)) == (0 : Int))
  (nx (m_spec_l01Div_6 (IntKind.wrap IntKind.i64 (Int.tdiv x6 (2 : Int))) b0_0 b0_1 b0_2 b1_0 b1_1 b1_2 b2_0 b2_1 (IntKind.wrap IntKind.i64 (b2_2 + (1 : Int)))))
  (hx.1 (d_spec_l01Div_6_0 x6 b0_0 b0_1 b0_2 b1_0 b1_1 b1_2 b2_0 b2_1 b2_2))
noncomputable def t_spec_l01Div_6 {R : Type} (nx : s_spec_l01Div_6.T → Option R) (hx : exH R x_spec_l01Div_6) (z : s_spec_l01Div_6.T) : Option R := u_spec_l01Div_6 nx hx z.1.2.2.1.1 z.2.1.1.1 z.2.1.1.2.1 z.2.1.1.2.2.1 z.2.1.2.1.1 z.2.1.2.1.2.1 z.2.1.2.1.2.2.1 z.2.1.2.2.1.1 z.2.1.2.2.1.2.1 z.2.1.2.2.1.2.2.1
theorem nat_spec_l01Div_6 : Natural @t_spec_l01Div_6 := fun R nx hx z => by
  show u_spec_l01Div_6 nx hx z.1.2.2.1.1 z.2.1.1.1 z.2.1.1.2.1 z.2.1.1.2.2.1 z.2.1.2.1.1 z.2.1.2.1.2.1 z.2.1.2.1.2.2.1 z.2.1.2.2.1.1 z.2.1.2.2.1.2.1 z.2.1.2.2.1.2.2.1 = (u_spec_l01Div_6 (fun y => some (.inl y)) (hIn x_spec_l01Div_6 fun x => some (.inr x)) z.1.2.2.1.1 z.2.1.1.1 z.2.1.1.2.1 z.2.1.1.2.2.1 z.2.1.2.1.1 z.2.1.2.1.2.1 z.2.1.2.1.2.2.1 z.2.1.2.2.1.1 z.2.1.2.2.1.2.1 z.2.1.2.2.1.2.2.1).bind (goOn nx hx)
  unfold u_spec_l01Div_6
  exact nat_cond (rfl) (rfl)
noncomputable def w_spec_l01Div_6 : s_spec_l01Div_6.T → Option (exT x_spec_l01Div_6) := wOf @t_spec_l01Div_6
theorem wq_spec_l01Div_6 (x6 : Int) (b0_0 : Int) (b0_1 : Int) (b0_2 : Int) (b1_0 : Int) (b1_1 : Int) (b1_2 : Int) (b2_0 : Int) (b2_1 : Int) (b2_2 : Int) : w_spec_l01Div_6 (m_spec_l01Div_6 x6 b0_0 b0_1 b0_2 b1_0 b1_1 b1_2 b2_0 b2_1 b2_2) = u_spec_l01Div_6 w_spec_l01Div_6 (hIn x_spec_l01Div_6 some) x6 b0_0 b0_1 b0_2 b1_0 b1_1 b1_2 b2_0 b2_1 b2_2 := wOf_eq nat_spec_l01Div_6 _
def lh_spec_l01Div_6 : LoopHint := ⟨[3, 4, 6, 7], [3, 4, 7], [3, 4, 6, 7], [3, 4, 7]⟩
abbrev s_spec_l01Div_14 : LS := ⟨[(false, [(.ptr 4 0)]), (false, [(.ptr 7 0)]), (false, [(.int .i64)])], [(false, [(.int .i64), (.int .i64), (.int .i64)]), (false, [(.int .i64), (.int .i64), (.int .i64)])], []⟩
abbrev e_spec_l01Div_14_0 : LS := ⟨[(false, [(.ptr 4 0)]), (false, [(.ptr 7 0)])], [(false, [(.int .i64), (.int .i64), (.int .i64)]), (false, [(.int .i64), (.int .i64), (.int .i64)])], []⟩
abbrev d_spec_l01Div_14_0 (v0 : Int) (v1 : Int) (v2 : Int) (v3 : Int) (v4 : Int) (v5 : Int) : e_spec_l01Div_14_0.T := ((((), ()), ((), ()), ()), ((v0, v1, v2, ()), (v3, v4, v5, ()), ()), ())
abbrev x_spec_l01Div_14 : List (Ex × LS) := [(.exit 2, e_spec_l01Div_14_0)]
abbrev m_spec_l01Div_14 (x8 : Int) (b0_0 : Int) (b0_1 : Int) (b0_2 : Int) (b1_0 : Int) (b1_1 : Int) (b1_2 : Int) : s_spec_l01Div_14.T := ((((), ()), ((), ()), (x8, ()), ()), ((b0_0, b0_1, b0_2, ()), (b1_0, b1_1, b1_2, ()), ()), ())
noncomputable def u_spec_l01Div_14 {R : Type} (nx : s_spec_l01Div_14.T → Option R) (hx : exH R x_spec_l01Div_14) (x8 : Int) (b0_0 : Int) (b0_1 : Int) (b0_2 : Int) (b1_0 : Int) (b1_1 : Int) (b1_2 : Int) : Option R :=
  cond (decide (x8 > (0 : Int)))
  (cond (decide (b1_2 > (0 : Int)))
   (nx (m_spec_l01Div_14 (IntKind.wrap IntKind.i64 (x8 - (1 : Int))) b0_0 b0_1 b0_2 b1_0 b1_1 (IntKind.wrap IntKind.i64 (b1_2 - (1 : Int)))))
   (nx (m_spec_l01Div_14 (IntKind.wrap IntKind.i64 (x8 - (1 : Int))) b0_0 b0_1 b0_2 (IntKind.wrap IntKind.i64 (b1_0 * (2 : Int))) (IntKind.wrap IntKind.i64 (b1_1 * (2 : Int))) b1_2)))
  (hx.1 (d_spec_l01Div_14_0 b0_0 b0_1 b0_2 b1_0 b1_1 b1_2))
noncomputable def t_spec_l01Div_14 {R : Type} (nx : s_spec_l01Div_14.T → Option R) (hx : exH R x_spec_l01Div_14) (z : s_spec_l01Div_14.T) : Option R := u_spec_l01Div_14 nx hx z.1.2.2.1.1 z.2.1.1.1 z.2.1.1.2.1 z.2.1.1.2.2.1 z.2.1.2.1.1 z.2.1.2.1.2.1 z.2.1.2.1.2.2.1
theorem nat_spec_l01Div_14 : Natural @t_spec_l01Div_14 := fun R nx hx z => by
  show u_spec_l01Div_14 nx hx z.1.2.2.1.1 z.2.1.1.1 z.2.1.1.2.1 z.2.1.1.2.2.1 z.2.1.2.1.1 z.2.1.2.1.2.1 z.2.1.2.1.2.2.1 = (u_spec_l01Div_14 (fun y => some (.inl y)) (hIn x_spec_l01Div_14 fun x => some (.inr x)) z.1.2.2.1.1 z.2.1.1.1 z.2.1.1.2.1 z.2.1.1.2.2.1 z.2.1.2.1.1 z.2.1.2.1.2.1 z.2.1.2.1.2.2.1).bind (goOn nx hx)
  unfold u_spec_l01Div_14
  exact nat_cond (nat_cond (rfl) (rfl)) (rfl)
noncomputable def w_spec_l01Div_14 : s_spec_l01Div_14.T → Option (exT x_spec_l01Div_14) := wOf @t_spec_l01Div_14
theorem wq_spec_l01Div_14 (x8 : Int) (b0_0 : Int) (b0_1 : Int) (b0_2 : Int) (b1_0 : Int) (b1_1 : Int) (b1_2 : Int) : w_spec_l01Div_14 (m_spec_l01Div_14 x8 b0_0 b0_1 b0_2 b1_0 b1_1 b1_2) = u_spec_l01Div_14 w_spec_l01Div_14 (hIn x_spec_l01Div_14 some) x8 b0_0 b0_1 b0_2 b1_0 b1_1 b1_2 := wOf_eq nat_spec_l01Div_14 _
def lh_spec_l01Div_14 : LoopHint := ⟨[4, 7, 8], [4, 7], [4, 7], [4, 7]⟩
noncomputable def h_spec_l01Div : Hints Rv := ⟨fun k => match k with | 6 => lh_spec_l01Div_6 | 14 => lh_spec_l01Div_14 | _ => ⟨[], [], [], []⟩, fun k => match k with | 6 => some (loopX s_spec_l01Div_6 x_spec_l01Div_6 w_spec_l01Div_6) | 14 => some (loopX s_spec_l01Div_14 x_spec_l01Div_14 w_spec_l01Div_14) | _ => none⟩
theorem st_spec_l01Div_6 (n : Nat) (z : s_spec_l01Div_6.T) (k : Ex → Live → Option Rv) : loopN ⟨105, 105⟩ lh_spec_l01Div_6 (den (tab C0 T_spec_l01Div) ⟨105, 105⟩ h_spec_l01Div 1 (loopOf Tryd.f96 5)) (n + 1) (s_spec_l01Div_6.enc z) k =
    t_spec_l01Div_6 (fun y => loopN ⟨105, 105⟩ lh_spec_l01Div_6 (den (tab C0 T_spec_l01Div) ⟨105, 105⟩ h_spec_l01Div 1 (loopOf Tryd.f96 5)) n (s_spec_l01Div_6.enc y) k) (hK k x_spec_l01Div_6) z := by kernel_rfl
theorem st_spec_l01Div_14 (n : Nat) (z : s_spec_l01Div_14.T) (k : Ex → Live → Option Rv) : loopN ⟨105, 105⟩ lh_spec_l01Div_14 (den (tab C0 T_spec_l01Div) ⟨105, 105⟩ h_spec_l01Div 1 (loopOf Tryd.f96 13)) (n + 1) (s_spec_l01Div_14.enc z) k =
    t_spec_l01Div_14 (fun y => loopN ⟨105, 105⟩ lh_spec_l01Div_14 (den (tab C0 T_spec_l01Div) ⟨105, 105⟩ h_spec_l01Div 1 (loopOf Tryd.f96 13)) n (s_spec_l01Div_14.enc y) k) (hK k x_spec_l01Div_14) z := by kernel_rfl
theorem hs_spec_l01Div : HintsOk (tab C0 T_spec_l01Div) ⟨105, 105⟩ h_spec_l01Div 1 (loops (codeOf Tryd.f96)) := by
  have hl : loops (codeOf Tryd.f96) = [loopOf Tryd.f96 5, loopOf Tryd.f96 13] := by kernel_rfl
  rw [hl]
  exact HintsOk.cons (n := 6) (lh := lh_spec_l01Div_6) (S := loopX s_spec_l01Div_6 x_spec_l01Div_6 w_spec_l01Div_6) (by kernel_rfl) rfl rfl (loopX_ok nat_spec_l01Div_6 st_spec_l01Div_6)
    (HintsOk.cons (n := 14) (lh := lh_spec_l01Div_14) (S := loopX s_spec_l01Div_14 x_spec_l01Div_14 w_spec_l01Div_14) (by kernel_rfl) rfl rfl (loopX_ok nat_spec_l01Div_14 st_spec_l01Div_14)
    (HintsOk.nil))
noncomputable def t_spec_l01Div {R : Type} (kx : (Int × (Int × Int)) × Bool → Option R) (a0 : (Int × (Int × Int))) (a1 : (Int × (Int × Int))) : Option R :=
  cond ((IntKind.wrap IntKind.i64 ((IntKind.wrap IntKind.i64 (a1.1 * a1.1)) - (IntKind.wrap IntKind.i64 ((IntKind.wrap IntKind.i64 ((2 : Int) * a1.2.1)) * a1.2.1)))) == (0 : Int))
  (kx (((0 : Int), ((0 : Int), (0 : Int))), Bool.false))
  (Option.bind (w_spec_l01Div_6 (m_spec_l01Div_6 (IntKind.wrap IntKind.i64 ((IntKind.wrap IntKind.i64 (a1.1 * a1.1)) - (IntKind.wrap IntKind.i64 ((IntKind.wrap IntKind.i64 ((2 : Int) * a1.2.1)) * a1.2.1)))) a1.1 a1.2.1 a1.2.2 (0 : Int) (0 : Int) (0 : Int) (IntKind.wrap IntKind.i64 ((IntKind.wrap IntKind.i64 (a0.1 * a1.1)) - (IntKind.wrap IntKind.i64 ((IntKind.wrap IntKind.i64 ((2 : Int) * a0.2.1)) * a1.2.1)))) (IntKind.wrap IntKind.i64 ((IntKind.wrap IntKind.i64 (a0.2.1 * a1.1)) - (IntKind.wrap IntKind.i64 (a0.1 * a1.2.1)))) a0.2.2)) (exC x_spec_l01Div_6
   (fun e149 =>
    cond (decide ((e149.1.2.2.1.1 : Int) = (0 : Int)))
    (none)
    (cond ((Int.tmod (e149.2.1.2.2.1.1 : Int) (e149.1.2.2.1.1 : Int)) != (0 : Int))
     (kx (((0 : Int), ((0 : Int), (0 : Int))), Bool.false))
     (cond (decide ((e149.1.2.2.1.1 : Int) = (0 : Int)))
      (none)
      (cond ((Int.tmod (e149.2.1.2.2.1.2.1 : Int) (e149.1.2.2.1.1 : Int)) != (0 : Int))
       (kx (((0 : Int), ((0 : Int), (0 : Int))), Bool.false))
       (cond (decide ((e149.1.2.2.1.1 : Int) = (0 : Int)))
        (none)
        (cond (decide ((e149.1.2.2.1.1 : Int) = (0 : Int)))
         (none)
         (Option.bind (w_spec_l01Div_14 (m_spec_l01Div_14 (e149.2.1.1.2.2.1 : Int) (e149.2.1.2.1.1 : Int) (e149.2.1.2.1.2.1 : Int) (e149.2.1.2.1.2.2.1 : Int) (IntKind.wrap IntKind.i64 (Int.tdiv (e149.2.1.2.2.1.1 : Int) (e149.1.2.2.1.1 : Int))) (IntKind.wrap IntKind.i64 (Int.tdiv (e149.2.1.2.2.1.2.1 : Int) (e149.1.2.2.1.1 : Int))) (e149.2.1.2.2.1.2.2.1 : Int))) (exC x_spec_l01Div_14
          (fun e167 =>
           Option.bind (g_spec_l01Low ((e167.2.1.2.1.1 : Int), ((e167.2.1.2.1.2.1 : Int), (e167.2.1.2.1.2.2.1 : Int)))) fun y174 =>
           kx (y174, Bool.true), ())))))))), ())))
noncomputable def g_spec_l01Div (a0 : (Int × (Int × Int))) (a1 : (Int × (Int × Int))) : Option ((Int × (Int × Int)) × Bool) := t_spec_l01Div some a0 a1
theorem nat_spec_l01Div {R : Type} (kx : (Int × (Int × Int)) × Bool → Option R) (a0 : (Int × (Int × Int))) (a1 : (Int × (Int × Int))) : t_spec_l01Div kx a0 a1 = (g_spec_l01Div a0 a1).bind kx := by
  unfold g_spec_l01Div t_spec_l01Div
  exact nat_cond (rfl) (nat_exC ⟨fun _ => nat_cond (rfl) (nat_cond (rfl) (nat_cond (rfl) (nat_cond (rfl) (nat_cond (rfl) (nat_cond (rfl) (nat_exC ⟨fun _ => nat_bind fun _ => rfl, trivial⟩)))))), trivial⟩)
abbrev as_spec_l01Div : List AX := [.val true (.pair (.int .i64) (.pair (.int .i64) (.int .i64))), .val true (.pair (.int .i64) (.pair (.int .i64) (.int .i64)))]
abbrev en_spec_l01Div : (Int × (Int × Int)) × Bool → AV × List CV := fun b => (.tup [⟨true, [(.v (.int .i64 b.1.1)), (.v (.int .i64 b.1.2.1)), (.v (.int .i64 b.1.2.2))]⟩, ⟨false, [(.v (.bool b.2))]⟩], [])
noncomputable abbrev k_spec_l01Div : Contract := .fx as_spec_l01Div ((Int × (Int × Int)) × Bool) (fun z => g_spec_l01Div z.1 z.2.1) en_spec_l01Div
theorem r_spec_l01Div (z : argsX as_spec_l01Div) : runF (tab C0 T_spec_l01Div) h_spec_l01Div 1 Tryd.f96 (lentOf as_spec_l01Div) (xBoxes as_spec_l01Div z) (xVals as_spec_l01Div 0 z) K2 = t_spec_l01Div (fun b => some (en_spec_l01Div b)) z.1 z.2.1 := by kernel_rfl
theorem so_spec_l01Div : Sound C0 96 k_spec_l01Div :=
  Sound.fx a_spec_l01Div mixed Tryd.func96 (by kernel_rfl) (by kernel_rfl) h_spec_l01Div 1 hs_spec_l01Div (fun z => (r_spec_l01Div z).trans (nat_spec_l01Div _ z.1 z.2.1))

/-! ### F53 spec.l02Minus -/
noncomputable def T_spec_l02Minus : List (FuncId × Contract) := [(94, k_spec_l01Sub)]
theorem a_spec_l02Minus : AllSound C0 T_spec_l02Minus := .cons so_spec_l01Sub (.nil)
noncomputable def t_spec_l02Minus {R : Type} (kx : ((Int × (Int × Int)) × (Int × (Int × Int))) → Option R) (a0 : ((Int × (Int × Int)) × (Int × (Int × Int)))) (a1 : ((Int × (Int × Int)) × (Int × (Int × Int)))) : Option R :=
  Option.bind (g_spec_l01Sub a0.1 a1.1) fun y181 =>
  Option.bind (g_spec_l01Sub a0.2 a1.2) fun y182 =>
  kx (y181, y182)
noncomputable def g_spec_l02Minus (a0 : ((Int × (Int × Int)) × (Int × (Int × Int)))) (a1 : ((Int × (Int × Int)) × (Int × (Int × Int)))) : Option (((Int × (Int × Int)) × (Int × (Int × Int)))) := t_spec_l02Minus some a0 a1
theorem nat_spec_l02Minus {R : Type} (kx : ((Int × (Int × Int)) × (Int × (Int × Int))) → Option R) (a0 : ((Int × (Int × Int)) × (Int × (Int × Int)))) (a1 : ((Int × (Int × Int)) × (Int × (Int × Int)))) : t_spec_l02Minus kx a0 a1 = (g_spec_l02Minus a0 a1).bind kx := by
  unfold g_spec_l02Minus t_spec_l02Minus
  exact nat_bind fun _ => nat_bind fun _ => rfl
abbrev as_spec_l02Minus : List AX := [.val true (.pair (.pair (.int .i64) (.pair (.int .i64) (.int .i64))) (.pair (.int .i64) (.pair (.int .i64) (.int .i64)))), .val true (.pair (.pair (.int .i64) (.pair (.int .i64) (.int .i64))) (.pair (.int .i64) (.pair (.int .i64) (.int .i64))))]
abbrev en_spec_l02Minus : ((Int × (Int × Int)) × (Int × (Int × Int))) → AV × List CV := fun b => (.one ⟨true, [(.v (.int .i64 b.1.1)), (.v (.int .i64 b.1.2.1)), (.v (.int .i64 b.1.2.2)), (.v (.int .i64 b.2.1)), (.v (.int .i64 b.2.2.1)), (.v (.int .i64 b.2.2.2))]⟩, [])
noncomputable abbrev k_spec_l02Minus : Contract := .fx as_spec_l02Minus (((Int × (Int × Int)) × (Int × (Int × Int)))) (fun z => g_spec_l02Minus z.1 z.2.1) en_spec_l02Minus
theorem r_spec_l02Minus (z : argsX as_spec_l02Minus) : runF (tab C0 T_spec_l02Minus) noHints 1 Tryd.f53 (lentOf as_spec_l02Minus) (xBoxes as_spec_l02Minus z) (xVals as_spec_l02Minus 0 z) K2 = t_spec_l02Minus (fun b => some (en_spec_l02Minus b)) z.1 z.2.1 := by kernel_rfl
theorem so_spec_l02Minus : Sound C0 53 k_spec_l02Minus :=
  Sound.fx a_spec_l02Minus mixed Tryd.func53 (by kernel_rfl) (by kernel_rfl) noHints 1 noHints_ok (fun z => (r_spec_l02Minus z).trans (nat_spec_l02Minus _ z.1 z.2.1))

/-! ### F80 spec.l02Reflect -/
noncomputable def T_spec_l02Reflect : List (FuncId × Contract) := [(92, k_spec_l02Vec), (39, k_spec_l02Of), (93, k_spec_l02Dot), (94, k_spec_l01Sub), (98, k_spec_l02Square), (96, k_spec_l01Div), (55, k_spec_l01Add), (97, k_spec_l01Mul), (53, k_spec_l02Minus)]
theorem a_spec_l02Reflect : AllSound C0 T_spec_l02Reflect := .cons so_spec_l02Vec (.cons so_spec_l02Of (.cons so_spec_l02Dot (.cons so_spec_l01Sub (.cons so_spec_l02Square (.cons so_spec_l01Div (.cons so_spec_l01Add (.cons so_spec_l01Mul (.cons so_spec_l02Minus (.nil)))))))))
noncomputable def t_spec_l02Reflect {R : Type} (kx : ((Int × (Int × Int)) × (Int × (Int × Int))) → Option R) (a0 : (Int × (Int × (Int × Int)))) (a1 : ((Int × (Int × Int)) × (Int × (Int × Int)))) : Option R :=
  Option.bind (g_spec_l02Vec (IntKind.wrap IntKind.i64 (a0.1 + (4 : Int)))) fun y49 =>
  Option.bind (g_spec_l02Of y49) fun y50 =>
  Option.bind (g_spec_l02Dot (IntKind.wrap IntKind.i64 (a0.1 + (4 : Int))) a1) fun y123 =>
  Option.bind (g_spec_l01Sub y123 a0.2) fun y129 =>
  Option.bind (g_spec_l02Square (IntKind.wrap IntKind.i64 (a0.1 + (4 : Int)))) fun y136 =>
  Option.bind (g_spec_l01Div y129 y136) fun y175 =>
  Option.bind (g_spec_l01Add y175.1 y175.1) fun y176 =>
  Option.bind (g_spec_l01Mul y176 y50.1) fun y177 =>
  Option.bind (g_spec_l01Mul y176 y50.2) fun y178 =>
  Option.bind (g_spec_l02Minus a1 (y177, y178)) fun y183 =>
  kx y183
noncomputable def g_spec_l02Reflect (a0 : (Int × (Int × (Int × Int)))) (a1 : ((Int × (Int × Int)) × (Int × (Int × Int)))) : Option (((Int × (Int × Int)) × (Int × (Int × Int)))) := t_spec_l02Reflect some a0 a1
theorem nat_spec_l02Reflect {R : Type} (kx : ((Int × (Int × Int)) × (Int × (Int × Int))) → Option R) (a0 : (Int × (Int × (Int × Int)))) (a1 : ((Int × (Int × Int)) × (Int × (Int × Int)))) : t_spec_l02Reflect kx a0 a1 = (g_spec_l02Reflect a0 a1).bind kx := by
  unfold g_spec_l02Reflect t_spec_l02Reflect
  exact nat_bind fun _ => nat_bind fun _ => nat_bind fun _ => nat_bind fun _ => nat_bind fun _ => nat_bind fun _ => nat_bind fun _ => nat_bind fun _ => nat_bind fun _ => nat_bind fun _ => rfl
abbrev as_spec_l02Reflect : List AX := [.val true (.pair (.int .i64) (.pair (.int .i64) (.pair (.int .i64) (.int .i64)))), .val true (.pair (.pair (.int .i64) (.pair (.int .i64) (.int .i64))) (.pair (.int .i64) (.pair (.int .i64) (.int .i64))))]
abbrev en_spec_l02Reflect : ((Int × (Int × Int)) × (Int × (Int × Int))) → AV × List CV := fun b => (.one ⟨true, [(.v (.int .i64 b.1.1)), (.v (.int .i64 b.1.2.1)), (.v (.int .i64 b.1.2.2)), (.v (.int .i64 b.2.1)), (.v (.int .i64 b.2.2.1)), (.v (.int .i64 b.2.2.2))]⟩, [])
noncomputable abbrev k_spec_l02Reflect : Contract := .fx as_spec_l02Reflect (((Int × (Int × Int)) × (Int × (Int × Int)))) (fun z => g_spec_l02Reflect z.1 z.2.1) en_spec_l02Reflect
theorem r_spec_l02Reflect (z : argsX as_spec_l02Reflect) : runF (tab C0 T_spec_l02Reflect) noHints 1 Tryd.f80 (lentOf as_spec_l02Reflect) (xBoxes as_spec_l02Reflect z) (xVals as_spec_l02Reflect 0 z) K2 = t_spec_l02Reflect (fun b => some (en_spec_l02Reflect b)) z.1 z.2.1 := by kernel_rfl
theorem so_spec_l02Reflect : Sound C0 80 k_spec_l02Reflect :=
  Sound.fx a_spec_l02Reflect mixed Tryd.func80 (by kernel_rfl) (by kernel_rfl) noHints 1 noHints_ok (fun z => (r_spec_l02Reflect z).trans (nat_spec_l02Reflect _ z.1 z.2.1))

/-! ### F139 spec.l01Square -/
noncomputable def T_spec_l01Square : List (FuncId × Contract) := []
theorem a_spec_l01Square : AllSound C0 T_spec_l01Square := .nil
noncomputable def t_spec_l01Square {R : Type} (kx : Int × Int → Option R) (a0 : Int) : Option R :=
  cond (decide (a0 < (0 : Int)))
  (cond (decide ((IntKind.wrap IntKind.u64 ((IntKind.wrap IntKind.u64 ((IntKind.wrap IntKind.u64 (((BitVec.toNat ((BitVec.ofInt 64 (IntKind.wrap IntKind.u64 (IntKind.wrap IntKind.i64 ((0 : Int) - a0)))) &&& (BitVec.ofInt 64 (4294967295 : Int)))) : Nat) : Int)) * (IntKind.wrap IntKind.u64 (((BitVec.toNat ((BitVec.ofInt 64 (IntKind.wrap IntKind.u64 (IntKind.wrap IntKind.i64 ((0 : Int) - a0)))) &&& (BitVec.ofInt 64 (4294967295 : Int)))) : Nat) : Int)))) + (IntKind.wrap IntKind.u64 ((IntKind.wrap IntKind.u64 ((IntKind.wrap IntKind.u64 ((2 : Int) * (IntKind.wrap IntKind.u64 (((BitVec.toNat ((BitVec.ofInt 64 (IntKind.wrap IntKind.u64 (IntKind.wrap IntKind.i64 ((0 : Int) - a0)))) &&& (BitVec.ofInt 64 (4294967295 : Int)))) : Nat) : Int)))) * (Int.fdiv (IntKind.wrap IntKind.u64 (IntKind.wrap IntKind.i64 ((0 : Int) - a0))) ((2 : Int) ^ (Min.min (Int.toNat (32 : Int)) 64))))) * ((2 : Int) ^ (Min.min (Int.toNat (32 : Int)) 64)))))) < (IntKind.wrap IntKind.u64 ((IntKind.wrap IntKind.u64 (((BitVec.toNat ((BitVec.ofInt 64 (IntKind.wrap IntKind.u64 (IntKind.wrap IntKind.i64 ((0 : Int) - a0)))) &&& (BitVec.ofInt 64 (4294967295 : Int)))) : Nat) : Int)) * (IntKind.wrap IntKind.u64 (((BitVec.toNat ((BitVec.ofInt 64 (IntKind.wrap IntKind.u64 (IntKind.wrap IntKind.i64 ((0 : Int) - a0)))) &&& (BitVec.ofInt 64 (4294967295 : Int)))) : Nat) : Int))))))
   (kx ((IntKind.wrap IntKind.u64 ((IntKind.wrap IntKind.u64 ((Int.fdiv (IntKind.wrap IntKind.u64 (IntKind.wrap IntKind.i64 ((0 : Int) - a0))) ((2 : Int) ^ (Min.min (Int.toNat (32 : Int)) 64))) * (Int.fdiv (IntKind.wrap IntKind.u64 (IntKind.wrap IntKind.i64 ((0 : Int) - a0))) ((2 : Int) ^ (Min.min (Int.toNat (32 : Int)) 64))))) + (IntKind.wrap IntKind.u64 ((Int.fdiv (IntKind.wrap IntKind.u64 ((IntKind.wrap IntKind.u64 ((2 : Int) * (IntKind.wrap IntKind.u64 (((BitVec.toNat ((BitVec.ofInt 64 (IntKind.wrap IntKind.u64 (IntKind.wrap IntKind.i64 ((0 : Int) - a0)))) &&& (BitVec.ofInt 64 (4294967295 : Int)))) : Nat) : Int)))) * (Int.fdiv (IntKind.wrap IntKind.u64 (IntKind.wrap IntKind.i64 ((0 : Int) - a0))) ((2 : Int) ^ (Min.min (Int.toNat (32 : Int)) 64))))) ((2 : Int) ^ (Min.min (Int.toNat (32 : Int)) 64))) + (1 : Int))))), (IntKind.wrap IntKind.u64 ((IntKind.wrap IntKind.u64 ((IntKind.wrap IntKind.u64 (((BitVec.toNat ((BitVec.ofInt 64 (IntKind.wrap IntKind.u64 (IntKind.wrap IntKind.i64 ((0 : Int) - a0)))) &&& (BitVec.ofInt 64 (4294967295 : Int)))) : Nat) : Int)) * (IntKind.wrap IntKind.u64 (((BitVec.toNat ((BitVec.ofInt 64 (IntKind.wrap IntKind.u64 (IntKind.wrap IntKind.i64 ((0 : Int) - a0)))) &&& (BitVec.ofInt 64 (4294967295 : Int)))) : Nat) : Int)))) + (IntKind.wrap IntKind.u64 ((IntKind.wrap IntKind.u64 ((IntKind.wrap IntKind.u64 ((2 : Int) * (IntKind.wrap IntKind.u64 (((BitVec.toNat ((BitVec.ofInt 64 (IntKind.wrap IntKind.u64 (IntKind.wrap IntKind.i64 ((0 : Int) - a0)))) &&& (BitVec.ofInt 64 (4294967295 : Int)))) : Nat) : Int)))) * (Int.fdiv (IntKind.wrap IntKind.u64 (IntKind.wrap IntKind.i64 ((0 : Int) - a0))) ((2 : Int) ^ (Min.min (Int.toNat (32 : Int)) 64))))) * ((2 : Int) ^ (Min.min (Int.toNat (32 : Int)) 64))))))))
   (kx ((IntKind.wrap IntKind.u64 ((IntKind.wrap IntKind.u64 ((Int.fdiv (IntKind.wrap IntKind.u64 (IntKind.wrap IntKind.i64 ((0 : Int) - a0))) ((2 : Int) ^ (Min.min (Int.toNat (32 : Int)) 64))) * (Int.fdiv (IntKind.wrap IntKind.u64 (IntKind.wrap IntKind.i64 ((0 : Int) - a0))) ((2 : Int) ^ (Min.min (Int.toNat (32 : Int)) 64))))) + (Int.fdiv (IntKind.wrap IntKind.u64 ((IntKind.wrap IntKind.u64 ((2 : Int) * (IntKind.wrap IntKind.u64 (((BitVec.toNat ((BitVec.ofInt 64 (IntKind.wrap IntKind.u64 (IntKind.wrap IntKind.i64 ((0 : Int) - a0)))) &&& (BitVec.ofInt 64 (4294967295 : Int)))) : Nat) : Int)))) * (Int.fdiv (IntKind.wrap IntKind.u64 (IntKind.wrap IntKind.i64 ((0 : Int) - a0))) ((2 : Int) ^ (Min.min (Int.toNat (32 : Int)) 64))))) ((2 : Int) ^ (Min.min (Int.toNat (32 : Int)) 64))))), (IntKind.wrap IntKind.u64 ((IntKind.wrap IntKind.u64 ((IntKind.wrap IntKind.u64 (((BitVec.toNat ((BitVec.ofInt 64 (IntKind.wrap IntKind.u64 (IntKind.wrap IntKind.i64 ((0 : Int) - a0)))) &&& (BitVec.ofInt 64 (4294967295 : Int)))) : Nat) : Int)) * (IntKind.wrap IntKind.u64 (((BitVec.toNat ((BitVec.ofInt 64 (IntKind.wrap IntKind.u64 (IntKind.wrap IntKind.i64 ((0 : Int) - a0)))) &&& (BitVec.ofInt 64 (4294967295 : Int)))) : Nat) : Int)))) + (IntKind.wrap IntKind.u64 ((IntKind.wrap IntKind.u64 ((IntKind.wrap IntKind.u64 ((2 : Int) * (IntKind.wrap IntKind.u64 (((BitVec.toNat ((BitVec.ofInt 64 (IntKind.wrap IntKind.u64 (IntKind.wrap IntKind.i64 ((0 : Int) - a0)))) &&& (BitVec.ofInt 64 (4294967295 : Int)))) : Nat) : Int)))) * (Int.fdiv (IntKind.wrap IntKind.u64 (IntKind.wrap IntKind.i64 ((0 : Int) - a0))) ((2 : Int) ^ (Min.min (Int.toNat (32 : Int)) 64))))) * ((2 : Int) ^ (Min.min (Int.toNat (32 : Int)) 64)))))))))
  (cond (decide ((IntKind.wrap IntKind.u64 ((IntKind.wrap IntKind.u64 ((IntKind.wrap IntKind.u64 (((BitVec.toNat ((BitVec.ofInt 64 (IntKind.wrap IntKind.u64 a0)) &&& (BitVec.ofInt 64 (4294967295 : Int)))) : Nat) : Int)) * (IntKind.wrap IntKind.u64 (((BitVec.toNat ((BitVec.ofInt 64 (IntKind.wrap IntKind.u64 a0)) &&& (BitVec.ofInt 64 (4294967295 : Int)))) : Nat) : Int)))) + (IntKind.wrap IntKind.u64 ((IntKind.wrap IntKind.u64 ((IntKind.wrap IntKind.u64 ((2 : Int) * (IntKind.wrap IntKind.u64 (((BitVec.toNat ((BitVec.ofInt 64 (IntKind.wrap IntKind.u64 a0)) &&& (BitVec.ofInt 64 (4294967295 : Int)))) : Nat) : Int)))) * (Int.fdiv (IntKind.wrap IntKind.u64 a0) ((2 : Int) ^ (Min.min (Int.toNat (32 : Int)) 64))))) * ((2 : Int) ^ (Min.min (Int.toNat (32 : Int)) 64)))))) < (IntKind.wrap IntKind.u64 ((IntKind.wrap IntKind.u64 (((BitVec.toNat ((BitVec.ofInt 64 (IntKind.wrap IntKind.u64 a0)) &&& (BitVec.ofInt 64 (4294967295 : Int)))) : Nat) : Int)) * (IntKind.wrap IntKind.u64 (((BitVec.toNat ((BitVec.ofInt 64 (IntKind.wrap IntKind.u64 a0)) &&& (BitVec.ofInt 64 (4294967295 : Int)))) : Nat) : Int))))))
   (kx ((IntKind.wrap IntKind.u64 ((IntKind.wrap IntKind.u64 ((Int.fdiv (IntKind.wrap IntKind.u64 a0) ((2 : Int) ^ (Min.min (Int.toNat (32 : Int)) 64))) * (Int.fdiv (IntKind.wrap IntKind.u64 a0) ((2 : Int) ^ (Min.min (Int.toNat (32 : Int)) 64))))) + (IntKind.wrap IntKind.u64 ((Int.fdiv (IntKind.wrap IntKind.u64 ((IntKind.wrap IntKind.u64 ((2 : Int) * (IntKind.wrap IntKind.u64 (((BitVec.toNat ((BitVec.ofInt 64 (IntKind.wrap IntKind.u64 a0)) &&& (BitVec.ofInt 64 (4294967295 : Int)))) : Nat) : Int)))) * (Int.fdiv (IntKind.wrap IntKind.u64 a0) ((2 : Int) ^ (Min.min (Int.toNat (32 : Int)) 64))))) ((2 : Int) ^ (Min.min (Int.toNat (32 : Int)) 64))) + (1 : Int))))), (IntKind.wrap IntKind.u64 ((IntKind.wrap IntKind.u64 ((IntKind.wrap IntKind.u64 (((BitVec.toNat ((BitVec.ofInt 64 (IntKind.wrap IntKind.u64 a0)) &&& (BitVec.ofInt 64 (4294967295 : Int)))) : Nat) : Int)) * (IntKind.wrap IntKind.u64 (((BitVec.toNat ((BitVec.ofInt 64 (IntKind.wrap IntKind.u64 a0)) &&& (BitVec.ofInt 64 (4294967295 : Int)))) : Nat) : Int)))) + (IntKind.wrap IntKind.u64 ((IntKind.wrap IntKind.u64 ((IntKind.wrap IntKind.u64 ((2 : Int) * (IntKind.wrap IntKind.u64 (((BitVec.toNat ((BitVec.ofInt 64 (IntKind.wrap IntKind.u64 a0)) &&& (BitVec.ofInt 64 (4294967295 : Int)))) : Nat) : Int)))) * (Int.fdiv (IntKind.wrap IntKind.u64 a0) ((2 : Int) ^ (Min.min (Int.toNat (32 : Int)) 64))))) * ((2 : Int) ^ (Min.min (Int.toNat (32 : Int)) 64))))))))
   (kx ((IntKind.wrap IntKind.u64 ((IntKind.wrap IntKind.u64 ((Int.fdiv (IntKind.wrap IntKind.u64 a0) ((2 : Int) ^ (Min.min (Int.toNat (32 : Int)) 64))) * (Int.fdiv (IntKind.wrap IntKind.u64 a0) ((2 : Int) ^ (Min.min (Int.toNat (32 : Int)) 64))))) + (Int.fdiv (IntKind.wrap IntKind.u64 ((IntKind.wrap IntKind.u64 ((2 : Int) * (IntKind.wrap IntKind.u64 (((BitVec.toNat ((BitVec.ofInt 64 (IntKind.wrap IntKind.u64 a0)) &&& (BitVec.ofInt 64 (4294967295 : Int)))) : Nat) : Int)))) * (Int.fdiv (IntKind.wrap IntKind.u64 a0) ((2 : Int) ^ (Min.min (Int.toNat (32 : Int)) 64))))) ((2 : Int) ^ (Min.min (Int.toNat (32 : Int)) 64))))), (IntKind.wrap IntKind.u64 ((IntKind.wrap IntKind.u64 ((IntKind.wrap IntKind.u64 (((BitVec.toNat ((BitVec.ofInt 64 (IntKind.wrap IntKind.u64 a0)) &&& (BitVec.ofInt 64 (4294967295 : Int)))) : Nat) : Int)) * (IntKind.wrap IntKind.u64 (((BitVec.toNat ((BitVec.ofInt 64 (IntKind.wrap IntKind.u64 a0)) &&& (BitVec.ofInt 64 (4294967295 : Int)))) : Nat) : Int)))) + (IntKind.wrap IntKind.u64 ((IntKind.wrap IntKind.u64 ((IntKind.wrap IntKind.u64 ((2 : Int) * (IntKind.wrap IntKind.u64 (((BitVec.toNat ((BitVec.ofInt 64 (IntKind.wrap IntKind.u64 a0)) &&& (BitVec.ofInt 64 (4294967295 : Int)))) : Nat) : Int)))) * (Int.fdiv (IntKind.wrap IntKind.u64 a0) ((2 : Int) ^ (Min.min (Int.toNat (32 : Int)) 64))))) * ((2 : Int) ^ (Min.min (Int.toNat (32 : Int)) 64)))))))))
noncomputable def g_spec_l01Square (a0 : Int) : Option (Int × Int) := t_spec_l01Square some a0
theorem nat_spec_l01Square {R : Type} (kx : Int × Int → Option R) (a0 : Int) : t_spec_l01Square kx a0 = (g_spec_l01Square a0).bind kx := by
  unfold g_spec_l01Square t_spec_l01Square
  exact nat_cond (nat_cond (rfl) (rfl)) (nat_cond (rfl) (rfl))
abbrev as_spec_l01Square : List AX := [.val false (.int .i64)]
abbrev en_spec_l01Square : Int × Int → AV × List CV := fun b => (.tup [⟨false, [(.v (.int .u64 b.1))]⟩, ⟨false, [(.v (.int .u64 b.2))]⟩], [])
noncomputable abbrev k_spec_l01Square : Contract := .fx as_spec_l01Square (Int × Int) (fun z => g_spec_l01Square z.1) en_spec_l01Square
theorem r_spec_l01Square (z : argsX as_spec_l01Square) : runF (tab C0 T_spec_l01Square) noHints 1 Tryd.f139 (lentOf as_spec_l01Square) (xBoxes as_spec_l01Square z) (xVals as_spec_l01Square 0 z) K2 = t_spec_l01Square (fun b => some (en_spec_l01Square b)) z.1 := by kernel_rfl
theorem so_spec_l01Square : Sound C0 139 k_spec_l01Square :=
  Sound.fx a_spec_l01Square mixed Tryd.func139 (by kernel_rfl) (by kernel_rfl) noHints 1 noHints_ok (fun z => (r_spec_l01Square z).trans (nat_spec_l01Square _ z.1))

/-! ### F128 spec.l01Less -/
noncomputable def T_spec_l01Less : List (FuncId × Contract) := [(139, k_spec_l01Square)]
theorem a_spec_l01Less : AllSound C0 T_spec_l01Less := .cons so_spec_l01Square (.nil)
noncomputable def t_spec_l01Less {R : Type} (kx : Bool → Option R) (a0 : Int) (a1 : Int) : Option R :=
  Option.bind (g_spec_l01Square a0) fun y193 =>
  Option.bind (g_spec_l01Square a1) fun y194 =>
  cond (decide (y193.1 < (IntKind.wrap IntKind.u64 ((IntKind.wrap IntKind.u64 (y194.1 * (2 : Int))) + (Int.fdiv y194.2 ((2 : Int) ^ (Min.min (Int.toNat (63 : Int)) 64)))))))
  (kx Bool.true)
  (cond (y193.1 == (IntKind.wrap IntKind.u64 ((IntKind.wrap IntKind.u64 (y194.1 * (2 : Int))) + (Int.fdiv y194.2 ((2 : Int) ^ (Min.min (Int.toNat (63 : Int)) 64))))))
   (kx (decide (y193.2 < (IntKind.wrap IntKind.u64 (y194.2 * (2 : Int))))))
   (kx Bool.false))
noncomputable def g_spec_l01Less (a0 : Int) (a1 : Int) : Option (Bool) := t_spec_l01Less some a0 a1
theorem nat_spec_l01Less {R : Type} (kx : Bool → Option R) (a0 : Int) (a1 : Int) : t_spec_l01Less kx a0 a1 = (g_spec_l01Less a0 a1).bind kx := by
  unfold g_spec_l01Less t_spec_l01Less
  exact nat_bind fun _ => nat_bind fun _ => nat_cond (rfl) (nat_cond (rfl) (rfl))
abbrev as_spec_l01Less : List AX := [.val false (.int .i64), .val false (.int .i64)]
abbrev en_spec_l01Less : Bool → AV × List CV := fun b => (.one ⟨false, [(.v (.bool b))]⟩, [])
noncomputable abbrev k_spec_l01Less : Contract := .fx as_spec_l01Less (Bool) (fun z => g_spec_l01Less z.1 z.2.1) en_spec_l01Less
theorem r_spec_l01Less (z : argsX as_spec_l01Less) : runF (tab C0 T_spec_l01Less) noHints 1 Tryd.f128 (lentOf as_spec_l01Less) (xBoxes as_spec_l01Less z) (xVals as_spec_l01Less 0 z) K2 = t_spec_l01Less (fun b => some (en_spec_l01Less b)) z.1 z.2.1 := by kernel_rfl
theorem so_spec_l01Less : Sound C0 128 k_spec_l01Less :=
  Sound.fx a_spec_l01Less mixed Tryd.func128 (by kernel_rfl) (by kernel_rfl) noHints 1 noHints_ok (fun z => (r_spec_l01Less z).trans (nat_spec_l01Less _ z.1 z.2.1))

/-! ### F103 spec.l01Sign -/
noncomputable def T_spec_l01Sign : List (FuncId × Contract) := [(128, k_spec_l01Less)]
theorem a_spec_l01Sign : AllSound C0 T_spec_l01Sign := .cons so_spec_l01Less (.nil)
noncomputable def t_spec_l01Sign {R : Type} (kx : Int → Option R) (a0 : (Int × (Int × Int))) : Option R :=
  cond (a0.1 == (0 : Int))
  (cond (a0.2.1 == (0 : Int))
   (kx (0 : Int))
   (cond (decide (a0.1 ≥ (0 : Int)))
    (cond (decide (a0.2.1 ≥ (0 : Int)))
     (kx (1 : Int))
     (cond (decide (a0.1 ≤ (0 : Int)))
      (cond (decide (a0.2.1 ≤ (0 : Int)))
       (kx (-(1 : Int)))
       (Option.bind (g_spec_l01Less a0.1 a0.2.1) fun y195 =>
        cond (y195 == (decide (a0.2.1 > (0 : Int))))
        (kx (1 : Int))
        (kx (-(1 : Int)))))
      (Option.bind (g_spec_l01Less a0.1 a0.2.1) fun y196 =>
       cond (y196 == (decide (a0.2.1 > (0 : Int))))
       (kx (1 : Int))
       (kx (-(1 : Int))))))
    (cond (decide (a0.1 ≤ (0 : Int)))
     (cond (decide (a0.2.1 ≤ (0 : Int)))
      (kx (-(1 : Int)))
      (Option.bind (g_spec_l01Less a0.1 a0.2.1) fun y197 =>
       cond (y197 == (decide (a0.2.1 > (0 : Int))))
       (kx (1 : Int))
       (kx (-(1 : Int)))))
     (Option.bind (g_spec_l01Less a0.1 a0.2.1) fun y198 =>
      cond (y198 == (decide (a0.2.1 > (0 : Int))))
      (kx (1 : Int))
      (kx (-(1 : Int)))))))
  (cond (decide (a0.1 ≥ (0 : Int)))
   (cond (decide (a0.2.1 ≥ (0 : Int)))
    (kx (1 : Int))
    (cond (decide (a0.1 ≤ (0 : Int)))
     (cond (decide (a0.2.1 ≤ (0 : Int)))
      (kx (-(1 : Int)))
      (Option.bind (g_spec_l01Less a0.1 a0.2.1) fun y199 =>
       cond (y199 == (decide (a0.2.1 > (0 : Int))))
       (kx (1 : Int))
       (kx (-(1 : Int)))))
     (Option.bind (g_spec_l01Less a0.1 a0.2.1) fun y200 =>
      cond (y200 == (decide (a0.2.1 > (0 : Int))))
      (kx (1 : Int))
      (kx (-(1 : Int))))))
   (cond (decide (a0.1 ≤ (0 : Int)))
    (cond (decide (a0.2.1 ≤ (0 : Int)))
     (kx (-(1 : Int)))
     (Option.bind (g_spec_l01Less a0.1 a0.2.1) fun y201 =>
      cond (y201 == (decide (a0.2.1 > (0 : Int))))
      (kx (1 : Int))
      (kx (-(1 : Int)))))
    (Option.bind (g_spec_l01Less a0.1 a0.2.1) fun y202 =>
     cond (y202 == (decide (a0.2.1 > (0 : Int))))
     (kx (1 : Int))
     (kx (-(1 : Int))))))
noncomputable def g_spec_l01Sign (a0 : (Int × (Int × Int))) : Option (Int) := t_spec_l01Sign some a0
theorem nat_spec_l01Sign {R : Type} (kx : Int → Option R) (a0 : (Int × (Int × Int))) : t_spec_l01Sign kx a0 = (g_spec_l01Sign a0).bind kx := by
  unfold g_spec_l01Sign t_spec_l01Sign
  exact nat_cond (nat_cond (rfl) (nat_cond (nat_cond (rfl) (nat_cond (nat_cond (rfl) (nat_bind fun _ => nat_cond (rfl) (rfl))) (nat_bind fun _ => nat_cond (rfl) (rfl)))) (nat_cond (nat_cond (rfl) (nat_bind fun _ => nat_cond (rfl) (rfl))) (nat_bind fun _ => nat_cond (rfl) (rfl))))) (nat_cond (nat_cond (rfl) (nat_cond (nat_cond (rfl) (nat_bind fun _ => nat_cond (rfl) (rfl))) (nat_bind fun _ => nat_cond (rfl) (rfl)))) (nat_cond (nat_cond (rfl) (nat_bind fun _ => nat_cond (rfl) (rfl))) (nat_bind fun _ => nat_cond (rfl) (rfl))))
abbrev as_spec_l01Sign : List AX := [.val true (.pair (.int .i64) (.pair (.int .i64) (.int .i64)))]
abbrev en_spec_l01Sign : Int → AV × List CV := fun b => (.one ⟨false, [(.v (.int .i64 b))]⟩, [])
noncomputable abbrev k_spec_l01Sign : Contract := .fx as_spec_l01Sign (Int) (fun z => g_spec_l01Sign z.1) en_spec_l01Sign
theorem r_spec_l01Sign (z : argsX as_spec_l01Sign) : runF (tab C0 T_spec_l01Sign) noHints 1 Tryd.f103 (lentOf as_spec_l01Sign) (xBoxes as_spec_l01Sign z) (xVals as_spec_l01Sign 0 z) K2 = t_spec_l01Sign (fun b => some (en_spec_l01Sign b)) z.1 := by kernel_rfl
theorem so_spec_l01Sign : Sound C0 103 k_spec_l01Sign :=
  Sound.fx a_spec_l01Sign mixed Tryd.func103 (by kernel_rfl) (by kernel_rfl) noHints 1 noHints_ok (fun z => (r_spec_l01Sign z).trans (nat_spec_l01Sign _ z.1))

/-! ### F79 spec.l02Side -/
noncomputable def T_spec_l02Side : List (FuncId × Contract) := [(93, k_spec_l02Dot), (94, k_spec_l01Sub), (103, k_spec_l01Sign)]
theorem a_spec_l02Side : AllSound C0 T_spec_l02Side := .cons so_spec_l02Dot (.cons so_spec_l01Sub (.cons so_spec_l01Sign (.nil)))
noncomputable def t_spec_l02Side {R : Type} (kx : Int → Option R) (a0 : (Int × (Int × (Int × Int)))) (a1 : ((Int × (Int × Int)) × (Int × (Int × Int)))) : Option R :=
  Option.bind (g_spec_l02Dot (IntKind.wrap IntKind.i64 (a0.1 + (4 : Int))) a1) fun y187 =>
  Option.bind (g_spec_l01Sub y187 a0.2) fun y188 =>
  Option.bind (g_spec_l01Sign y188) fun y203 =>
  kx y203
noncomputable def g_spec_l02Side (a0 : (Int × (Int × (Int × Int)))) (a1 : ((Int × (Int × Int)) × (Int × (Int × Int)))) : Option (Int) := t_spec_l02Side some a0 a1
theorem nat_spec_l02Side {R : Type} (kx : Int → Option R) (a0 : (Int × (Int × (Int × Int)))) (a1 : ((Int × (Int × Int)) × (Int × (Int × Int)))) : t_spec_l02Side kx a0 a1 = (g_spec_l02Side a0 a1).bind kx := by
  unfold g_spec_l02Side t_spec_l02Side
  exact nat_bind fun _ => nat_bind fun _ => nat_bind fun _ => rfl
abbrev as_spec_l02Side : List AX := [.val true (.pair (.int .i64) (.pair (.int .i64) (.pair (.int .i64) (.int .i64)))), .val true (.pair (.pair (.int .i64) (.pair (.int .i64) (.int .i64))) (.pair (.int .i64) (.pair (.int .i64) (.int .i64))))]
abbrev en_spec_l02Side : Int → AV × List CV := fun b => (.one ⟨false, [(.v (.int .i64 b))]⟩, [])
noncomputable abbrev k_spec_l02Side : Contract := .fx as_spec_l02Side (Int) (fun z => g_spec_l02Side z.1 z.2.1) en_spec_l02Side
theorem r_spec_l02Side (z : argsX as_spec_l02Side) : runF (tab C0 T_spec_l02Side) noHints 1 Tryd.f79 (lentOf as_spec_l02Side) (xBoxes as_spec_l02Side z) (xVals as_spec_l02Side 0 z) K2 = t_spec_l02Side (fun b => some (en_spec_l02Side b)) z.1 z.2.1 := by kernel_rfl
theorem so_spec_l02Side : Sound C0 79 k_spec_l02Side :=
  Sound.fx a_spec_l02Side mixed Tryd.func79 (by kernel_rfl) (by kernel_rfl) noHints 1 noHints_ok (fun z => (r_spec_l02Side z).trans (nat_spec_l02Side _ z.1 z.2.1))

/-! ### F37 spec.l23Aligned -/
noncomputable def T_spec_l23Aligned : List (FuncId × Contract) := [(80, k_spec_l02Reflect), (79, k_spec_l02Side)]
theorem a_spec_l23Aligned : AllSound C0 T_spec_l23Aligned := .cons so_spec_l02Reflect (.cons so_spec_l02Side (.nil))
noncomputable def t_spec_l23Aligned {R : Type} (kx : Bool → Option R) (a0 : (Int × (Int × (Int × Int)))) (a1 : ((Int × (Int × Int)) × (Int × (Int × Int)))) (a2 : (Int × (Int × (Int × Int)))) : Option R :=
  Option.bind (g_spec_l02Reflect a0 a1) fun y184 =>
  Option.bind (g_spec_l02Side a2 y184) fun y204 =>
  kx (y204 == (0 : Int))
noncomputable def g_spec_l23Aligned (a0 : (Int × (Int × (Int × Int)))) (a1 : ((Int × (Int × Int)) × (Int × (Int × Int)))) (a2 : (Int × (Int × (Int × Int)))) : Option (Bool) := t_spec_l23Aligned some a0 a1 a2
theorem nat_spec_l23Aligned {R : Type} (kx : Bool → Option R) (a0 : (Int × (Int × (Int × Int)))) (a1 : ((Int × (Int × Int)) × (Int × (Int × Int)))) (a2 : (Int × (Int × (Int × Int)))) : t_spec_l23Aligned kx a0 a1 a2 = (g_spec_l23Aligned a0 a1 a2).bind kx := by
  unfold g_spec_l23Aligned t_spec_l23Aligned
  exact nat_bind fun _ => nat_bind fun _ => rfl
abbrev as_spec_l23Aligned : List AX := [.val true (.pair (.int .i64) (.pair (.int .i64) (.pair (.int .i64) (.int .i64)))), .val true (.pair (.pair (.int .i64) (.pair (.int .i64) (.int .i64))) (.pair (.int .i64) (.pair (.int .i64) (.int .i64)))), .val true (.pair (.int .i64) (.pair (.int .i64) (.pair (.int .i64) (.int .i64))))]
abbrev en_spec_l23Aligned : Bool → AV × List CV := fun b => (.one ⟨false, [(.v (.bool b))]⟩, [])
noncomputable abbrev k_spec_l23Aligned : Contract := .fx as_spec_l23Aligned (Bool) (fun z => g_spec_l23Aligned z.1 z.2.1 z.2.2.1) en_spec_l23Aligned
theorem r_spec_l23Aligned (z : argsX as_spec_l23Aligned) : runF (tab C0 T_spec_l23Aligned) noHints 1 Tryd.f37 (lentOf as_spec_l23Aligned) (xBoxes as_spec_l23Aligned z) (xVals as_spec_l23Aligned 0 z) K2 = t_spec_l23Aligned (fun b => some (en_spec_l23Aligned b)) z.1 z.2.1 z.2.2.1 := by kernel_rfl
theorem so_spec_l23Aligned : Sound C0 37 k_spec_l23Aligned :=
  Sound.fx a_spec_l23Aligned mixed Tryd.func37 (by kernel_rfl) (by kernel_rfl) noHints 1 noHints_ok (fun z => (r_spec_l23Aligned z).trans (nat_spec_l23Aligned _ z.1 z.2.1 z.2.2.1))

/-! ### F10 spec.AlignsPoint -/
noncomputable def T_spec_AlignsPoint : List (FuncId × Contract) := [(35, k_spec_l02Line), (36, k_spec_l02Point), (38, k_spec_l02LineOf), (39, k_spec_l02Of), (37, k_spec_l23Aligned)]
theorem a_spec_AlignsPoint : AllSound C0 T_spec_AlignsPoint := .cons so_spec_l02Line (.cons so_spec_l02Point (.cons so_spec_l02LineOf (.cons so_spec_l02Of (.cons so_spec_l23Aligned (.nil)))))
noncomputable def t_spec_AlignsPoint {R : Type} (kx : Bool → Option R) (a0 : (Int × (Int × (Int × Int)))) (a1 : ((Int × (Int × Int)) × (Int × (Int × Int)))) (a2 : (Int × (Int × (Int × Int)))) : Option R :=
  Option.bind (g_spec_l02Line a0) fun y25 =>
  cond y25
  (Option.bind (g_spec_l02Point a1) fun y29 =>
   cond y29
   (Option.bind (g_spec_l02Line a2) fun y30 =>
    cond y30
    (Option.bind (g_spec_l02LineOf a0) fun y34 =>
     Option.bind (g_spec_l02Of a1) fun y38 =>
     Option.bind (g_spec_l02LineOf a2) fun y39 =>
     Option.bind (g_spec_l23Aligned y34 y38 y39) fun y205 =>
     kx y205)
    (kx Bool.false))
   (kx Bool.false))
  (kx Bool.false)
noncomputable def g_spec_AlignsPoint (a0 : (Int × (Int × (Int × Int)))) (a1 : ((Int × (Int × Int)) × (Int × (Int × Int)))) (a2 : (Int × (Int × (Int × Int)))) : Option (Bool) := t_spec_AlignsPoint some a0 a1 a2
theorem nat_spec_AlignsPoint {R : Type} (kx : Bool → Option R) (a0 : (Int × (Int × (Int × Int)))) (a1 : ((Int × (Int × Int)) × (Int × (Int × Int)))) (a2 : (Int × (Int × (Int × Int)))) : t_spec_AlignsPoint kx a0 a1 a2 = (g_spec_AlignsPoint a0 a1 a2).bind kx := by
  unfold g_spec_AlignsPoint t_spec_AlignsPoint
  exact nat_bind fun _ => nat_cond (nat_bind fun _ => nat_cond (nat_bind fun _ => nat_cond (nat_bind fun _ => nat_bind fun _ => nat_bind fun _ => nat_bind fun _ => rfl) (rfl)) (rfl)) (rfl)
abbrev as_spec_AlignsPoint : List AX := [.val true (.pair (.int .i64) (.pair (.int .i64) (.pair (.int .i64) (.int .i64)))), .val true (.pair (.pair (.int .i64) (.pair (.int .i64) (.int .i64))) (.pair (.int .i64) (.pair (.int .i64) (.int .i64)))), .val true (.pair (.int .i64) (.pair (.int .i64) (.pair (.int .i64) (.int .i64))))]
abbrev en_spec_AlignsPoint : Bool → AV × List CV := fun b => (.one ⟨false, [(.v (.bool b))]⟩, [])
noncomputable abbrev k_spec_AlignsPoint : Contract := .fx as_spec_AlignsPoint (Bool) (fun z => g_spec_AlignsPoint z.1 z.2.1 z.2.2.1) en_spec_AlignsPoint
theorem r_spec_AlignsPoint (z : argsX as_spec_AlignsPoint) : runF (tab C0 T_spec_AlignsPoint) noHints 1 Tryd.f10 (lentOf as_spec_AlignsPoint) (xBoxes as_spec_AlignsPoint z) (xVals as_spec_AlignsPoint 0 z) K2 = t_spec_AlignsPoint (fun b => some (en_spec_AlignsPoint b)) z.1 z.2.1 z.2.2.1 := by kernel_rfl
theorem so_spec_AlignsPoint : Sound C0 10 k_spec_AlignsPoint :=
  Sound.fx a_spec_AlignsPoint mixed Tryd.func10 (by kernel_rfl) (by kernel_rfl) noHints 1 noHints_ok (fun z => (r_spec_AlignsPoint z).trans (nat_spec_AlignsPoint _ z.1 z.2.1 z.2.2.1))

/-! ### F82 impl.within -/
noncomputable def T_impl_within : List (FuncId × Contract) := []
theorem a_impl_within : AllSound C0 T_impl_within := .nil
noncomputable def t_impl_within {R : Type} (kx : Bool → Option R) (a0 : Int) (a1 : Int) (a2 : Int) : Option R :=
  cond (decide (a0 ≥ a1))
  (kx (decide (a0 ≤ a2)))
  (kx Bool.false)
noncomputable def g_impl_within (a0 : Int) (a1 : Int) (a2 : Int) : Option (Bool) := t_impl_within some a0 a1 a2
theorem nat_impl_within {R : Type} (kx : Bool → Option R) (a0 : Int) (a1 : Int) (a2 : Int) : t_impl_within kx a0 a1 a2 = (g_impl_within a0 a1 a2).bind kx := by
  unfold g_impl_within t_impl_within
  exact nat_cond (rfl) (rfl)
abbrev as_impl_within : List AX := [.val false (.int .i64), .val false (.int .i64), .val false (.int .i64)]
abbrev en_impl_within : Bool → AV × List CV := fun b => (.one ⟨false, [(.v (.bool b))]⟩, [])
noncomputable abbrev k_impl_within : Contract := .fx as_impl_within (Bool) (fun z => g_impl_within z.1 z.2.1 z.2.2.1) en_impl_within
theorem r_impl_within (z : argsX as_impl_within) : runF (tab C0 T_impl_within) noHints 1 Tryd.f82 (lentOf as_impl_within) (xBoxes as_impl_within z) (xVals as_impl_within 0 z) K2 = t_impl_within (fun b => some (en_impl_within b)) z.1 z.2.1 z.2.2.1 := by kernel_rfl
theorem so_impl_within : Sound C0 82 k_impl_within :=
  Sound.fx a_impl_within mixed Tryd.func82 (by kernel_rfl) (by kernel_rfl) noHints 1 noHints_ok (fun z => (r_impl_within z).trans (nat_impl_within _ z.1 z.2.1 z.2.2.1))

/-! ### F83 impl.ValidNum -/
noncomputable def T_impl_ValidNum : List (FuncId × Contract) := [(82, k_impl_within)]
theorem a_impl_ValidNum : AllSound C0 T_impl_ValidNum := .cons so_impl_within (.nil)
noncomputable def t_impl_ValidNum {R : Type} (kx : Bool → Option R) (a0 : (Int × (Int × Int))) : Option R :=
  Option.bind (g_impl_within a0.1 (-(131072 : Int)) (131072 : Int)) fun y219 =>
  cond y219
  (Option.bind (g_impl_within a0.2.1 (-(131072 : Int)) (131072 : Int)) fun y220 =>
   cond y220
   (Option.bind (g_impl_within a0.2.2 (0 : Int) (10 : Int)) fun y221 =>
    cond y221
    (cond (a0.2.2 == (0 : Int))
     (kx Bool.true)
     (cond ((IntKind.wrap IntKind.i64 (((BitVec.toNat ((BitVec.ofInt 64 a0.1) &&& (BitVec.ofInt 64 (1 : Int)))) : Nat) : Int)) == (1 : Int))
      (kx Bool.true)
      (kx ((IntKind.wrap IntKind.i64 (((BitVec.toNat ((BitVec.ofInt 64 a0.2.1) &&& (BitVec.ofInt 64 (1 : Int)))) : Nat) : Int)) == (1 : Int)))))
    (kx Bool.false))
   (kx Bool.false))
  (kx Bool.false)
noncomputable def g_impl_ValidNum (a0 : (Int × (Int × Int))) : Option (Bool) := t_impl_ValidNum some a0
theorem nat_impl_ValidNum {R : Type} (kx : Bool → Option R) (a0 : (Int × (Int × Int))) : t_impl_ValidNum kx a0 = (g_impl_ValidNum a0).bind kx := by
  unfold g_impl_ValidNum t_impl_ValidNum
  exact nat_bind fun _ => nat_cond (nat_bind fun _ => nat_cond (nat_bind fun _ => nat_cond (nat_cond (rfl) (nat_cond (rfl) (rfl))) (rfl)) (rfl)) (rfl)
abbrev as_impl_ValidNum : List AX := [.val true (.pair (.int .i64) (.pair (.int .i64) (.int .i64)))]
abbrev en_impl_ValidNum : Bool → AV × List CV := fun b => (.one ⟨false, [(.v (.bool b))]⟩, [])
noncomputable abbrev k_impl_ValidNum : Contract := .fx as_impl_ValidNum (Bool) (fun z => g_impl_ValidNum z.1) en_impl_ValidNum
theorem r_impl_ValidNum (z : argsX as_impl_ValidNum) : runF (tab C0 T_impl_ValidNum) noHints 1 Tryd.f83 (lentOf as_impl_ValidNum) (xBoxes as_impl_ValidNum z) (xVals as_impl_ValidNum 0 z) K2 = t_impl_ValidNum (fun b => some (en_impl_ValidNum b)) z.1 := by kernel_rfl
theorem so_impl_ValidNum : Sound C0 83 k_impl_ValidNum :=
  Sound.fx a_impl_ValidNum mixed Tryd.func83 (by kernel_rfl) (by kernel_rfl) noHints 1 noHints_ok (fun z => (r_impl_ValidNum z).trans (nat_impl_ValidNum _ z.1))

/-! ### F41 impl.ValidLine -/
noncomputable def T_impl_ValidLine : List (FuncId × Contract) := [(82, k_impl_within), (83, k_impl_ValidNum)]
theorem a_impl_ValidLine : AllSound C0 T_impl_ValidLine := .cons so_impl_within (.cons so_impl_ValidNum (.nil))
noncomputable def t_impl_ValidLine {R : Type} (kx : Bool → Option R) (a0 : (Int × (Int × (Int × Int)))) : Option R :=
  Option.bind (g_impl_within a0.1 (0 : Int) (7 : Int)) fun y217 =>
  cond y217
  (Option.bind (g_impl_ValidNum a0.2) fun y222 =>
   kx y222)
  (kx Bool.false)
noncomputable def g_impl_ValidLine (a0 : (Int × (Int × (Int × Int)))) : Option (Bool) := t_impl_ValidLine some a0
theorem nat_impl_ValidLine {R : Type} (kx : Bool → Option R) (a0 : (Int × (Int × (Int × Int)))) : t_impl_ValidLine kx a0 = (g_impl_ValidLine a0).bind kx := by
  unfold g_impl_ValidLine t_impl_ValidLine
  exact nat_bind fun _ => nat_cond (nat_bind fun _ => rfl) (rfl)
abbrev as_impl_ValidLine : List AX := [.val true (.pair (.int .i64) (.pair (.int .i64) (.pair (.int .i64) (.int .i64))))]
abbrev en_impl_ValidLine : Bool → AV × List CV := fun b => (.one ⟨false, [(.v (.bool b))]⟩, [])
noncomputable abbrev k_impl_ValidLine : Contract := .fx as_impl_ValidLine (Bool) (fun z => g_impl_ValidLine z.1) en_impl_ValidLine
theorem r_impl_ValidLine (z : argsX as_impl_ValidLine) : runF (tab C0 T_impl_ValidLine) noHints 1 Tryd.f41 (lentOf as_impl_ValidLine) (xBoxes as_impl_ValidLine z) (xVals as_impl_ValidLine 0 z) K2 = t_impl_ValidLine (fun b => some (en_impl_ValidLine b)) z.1 := by kernel_rfl
theorem so_impl_ValidLine : Sound C0 41 k_impl_ValidLine :=
  Sound.fx a_impl_ValidLine mixed Tryd.func41 (by kernel_rfl) (by kernel_rfl) noHints 1 noHints_ok (fun z => (r_impl_ValidLine z).trans (nat_impl_ValidLine _ z.1))

/-! ### F42 impl.ValidPoint -/
noncomputable def T_impl_ValidPoint : List (FuncId × Contract) := [(83, k_impl_ValidNum)]
theorem a_impl_ValidPoint : AllSound C0 T_impl_ValidPoint := .cons so_impl_ValidNum (.nil)
noncomputable def t_impl_ValidPoint {R : Type} (kx : Bool → Option R) (a0 : ((Int × (Int × Int)) × (Int × (Int × Int)))) : Option R :=
  Option.bind (g_impl_ValidNum a0.1) fun y225 =>
  cond y225
  (Option.bind (g_impl_ValidNum a0.2) fun y226 =>
   kx y226)
  (kx Bool.false)
noncomputable def g_impl_ValidPoint (a0 : ((Int × (Int × Int)) × (Int × (Int × Int)))) : Option (Bool) := t_impl_ValidPoint some a0
theorem nat_impl_ValidPoint {R : Type} (kx : Bool → Option R) (a0 : ((Int × (Int × Int)) × (Int × (Int × Int)))) : t_impl_ValidPoint kx a0 = (g_impl_ValidPoint a0).bind kx := by
  unfold g_impl_ValidPoint t_impl_ValidPoint
  exact nat_bind fun _ => nat_cond (nat_bind fun _ => rfl) (rfl)
abbrev as_impl_ValidPoint : List AX := [.val true (.pair (.pair (.int .i64) (.pair (.int .i64) (.int .i64))) (.pair (.int .i64) (.pair (.int .i64) (.int .i64))))]
abbrev en_impl_ValidPoint : Bool → AV × List CV := fun b => (.one ⟨false, [(.v (.bool b))]⟩, [])
noncomputable abbrev k_impl_ValidPoint : Contract := .fx as_impl_ValidPoint (Bool) (fun z => g_impl_ValidPoint z.1) en_impl_ValidPoint
theorem r_impl_ValidPoint (z : argsX as_impl_ValidPoint) : runF (tab C0 T_impl_ValidPoint) noHints 1 Tryd.f42 (lentOf as_impl_ValidPoint) (xBoxes as_impl_ValidPoint z) (xVals as_impl_ValidPoint 0 z) K2 = t_impl_ValidPoint (fun b => some (en_impl_ValidPoint b)) z.1 := by kernel_rfl
theorem so_impl_ValidPoint : Sound C0 42 k_impl_ValidPoint :=
  Sound.fx a_impl_ValidPoint mixed Tryd.func42 (by kernel_rfl) (by kernel_rfl) noHints 1 noHints_ok (fun z => (r_impl_ValidPoint z).trans (nat_impl_ValidPoint _ z.1))

/-! ### F122 (impl.Num).neg -/
noncomputable def T_impl_Num_neg : List (FuncId × Contract) := []
theorem a_impl_Num_neg : AllSound C0 T_impl_Num_neg := .nil
noncomputable def t_impl_Num_neg {R : Type} (kx : (Int × (Int × Int)) → Option R) (a0 : (Int × (Int × Int))) : Option R :=
  kx ((IntKind.wrap IntKind.i64 ((0 : Int) - a0.1)), ((IntKind.wrap IntKind.i64 ((0 : Int) - a0.2.1)), a0.2.2))
noncomputable def g_impl_Num_neg (a0 : (Int × (Int × Int))) : Option ((Int × (Int × Int))) := t_impl_Num_neg some a0
theorem nat_impl_Num_neg {R : Type} (kx : (Int × (Int × Int)) → Option R) (a0 : (Int × (Int × Int))) : t_impl_Num_neg kx a0 = (g_impl_Num_neg a0).bind kx := by
  unfold g_impl_Num_neg t_impl_Num_neg
  exact rfl
abbrev as_impl_Num_neg : List AX := [.val true (.pair (.int .i64) (.pair (.int .i64) (.int .i64)))]
abbrev en_impl_Num_neg : (Int × (Int × Int)) → AV × List CV := fun b => (.one ⟨true, [(.v (.int .i64 b.1)), (.v (.int .i64 b.2.1)), (.v (.int .i64 b.2.2))]⟩, [])
noncomputable abbrev k_impl_Num_neg : Contract := .fx as_impl_Num_neg ((Int × (Int × Int))) (fun z => g_impl_Num_neg z.1) en_impl_Num_neg
theorem r_impl_Num_neg (z : argsX as_impl_Num_neg) : runF (tab C0 T_impl_Num_neg) noHints 1 Tryd.f122 (lentOf as_impl_Num_neg) (xBoxes as_impl_Num_neg z) (xVals as_impl_Num_neg 0 z) K2 = t_impl_Num_neg (fun b => some (en_impl_Num_neg b)) z.1 := by kernel_rfl
theorem so_impl_Num_neg : Sound C0 122 k_impl_Num_neg :=
  Sound.fx a_impl_Num_neg mixed Tryd.func122 (by kernel_rfl) (by kernel_rfl) noHints 1 noHints_ok (fun z => (r_impl_Num_neg z).trans (nat_impl_Num_neg _ z.1))

/-! ### F100 impl.vector -/
noncomputable def T_impl_vector : List (FuncId × Contract) := [(122, k_impl_Num_neg)]
theorem a_impl_vector : AllSound C0 T_impl_vector := .cons so_impl_Num_neg (.nil)
noncomputable def t_impl_vector {R : Type} (kx : ((Int × (Int × Int)) × (Int × (Int × Int))) → Option R) (a0 : Int) : Option R :=
  cond (decide (a0 ≥ (8 : Int)))
  (cond (decide ((IntKind.wrap IntKind.i64 (a0 - (8 : Int))) = ((0 : Nat) : Int)))
   (Option.bind (g_impl_Num_neg ((1 : Int), ((0 : Int), (0 : Int)))) fun y234 =>
    Option.bind (g_impl_Num_neg ((0 : Int), ((0 : Int), (0 : Int)))) fun y235 =>
    kx (y234, y235))
   (cond (decide ((IntKind.wrap IntKind.i64 (a0 - (8 : Int))) = (((0 + 1) : Nat) : Int)))
    (Option.bind (g_impl_Num_neg ((1 : Int), ((0 : Int), (0 : Int)))) fun y236 =>
     Option.bind (g_impl_Num_neg ((-(1 : Int)), ((1 : Int), (0 : Int)))) fun y237 =>
     kx (y236, y237))
    (cond (decide ((IntKind.wrap IntKind.i64 (a0 - (8 : Int))) = ((((0 + 1) + 1) : Nat) : Int)))
     (Option.bind (g_impl_Num_neg ((1 : Int), ((0 : Int), (0 : Int)))) fun y238 =>
      Option.bind (g_impl_Num_neg ((1 : Int), ((0 : Int), (0 : Int)))) fun y239 =>
      kx (y238, y239))
     (cond (decide ((IntKind.wrap IntKind.i64 (a0 - (8 : Int))) = (((((0 + 1) + 1) + 1) : Nat) : Int)))
      (Option.bind (g_impl_Num_neg ((-(1 : Int)), ((1 : Int), (0 : Int)))) fun y240 =>
       Option.bind (g_impl_Num_neg ((1 : Int), ((0 : Int), (0 : Int)))) fun y241 =>
       kx (y240, y241))
      (cond (decide ((IntKind.wrap IntKind.i64 (a0 - (8 : Int))) = ((((((0 + 1) + 1) + 1) + 1) : Nat) : Int)))
       (Option.bind (g_impl_Num_neg ((0 : Int), ((0 : Int), (0 : Int)))) fun y242 =>
        Option.bind (g_impl_Num_neg ((1 : Int), ((0 : Int), (0 : Int)))) fun y243 =>
        kx (y242, y243))
       (cond (decide ((IntKind.wrap IntKind.i64 (a0 - (8 : Int))) = (((((((0 + 1) + 1) + 1) + 1) + 1) : Nat) : Int)))
        (Option.bind (g_impl_Num_neg ((1 : Int), ((-(1 : Int)), (0 : Int)))) fun y244 =>
         Option.bind (g_impl_Num_neg ((1 : Int), ((0 : Int), (0 : Int)))) fun y245 =>
         kx (y244, y245))
        (cond (decide ((IntKind.wrap IntKind.i64 (a0 - (8 : Int))) = ((((((((0 + 1) + 1) + 1) + 1) + 1) + 1) : Nat) : Int)))
         (Option.bind (g_impl_Num_neg ((-(1 : Int)), ((0 : Int), (0 : Int)))) fun y246 =>
          Option.bind (g_impl_Num_neg ((1 : Int), ((0 : Int), (0 : Int)))) fun y247 =>
          kx (y246, y247))
         (cond (decide ((IntKind.wrap IntKind.i64 (a0 - (8 : Int))) = (((((((((0 + 1) + 1) + 1) + 1) + 1) + 1) + 1) : Nat) : Int)))
          (Option.bind (g_impl_Num_neg ((-(1 : Int)), ((0 : Int), (0 : Int)))) fun y248 =>
           Option.bind (g_impl_Num_neg ((-(1 : Int)), ((1 : Int), (0 : Int)))) fun y249 =>
           kx (y248, y249))
          (none)))))))))
  (cond (decide (a0 = ((0 : Nat) : Int)))
   (kx (((1 : Int), ((0 : Int), (0 : Int))), ((0 : Int), ((0 : Int), (0 : Int)))))
   (cond (decide (a0 = (((0 + 1) : Nat) : Int)))
    (kx (((1 : Int), ((0 : Int), (0 : Int))), ((-(1 : Int)), ((1 : Int), (0 : Int)))))
    (cond (decide (a0 = ((((0 + 1) + 1) : Nat) : Int)))
     (kx (((1 : Int), ((0 : Int), (0 : Int))), ((1 : Int), ((0 : Int), (0 : Int)))))
     (cond (decide (a0 = (((((0 + 1) + 1) + 1) : Nat) : Int)))
      (kx (((-(1 : Int)), ((1 : Int), (0 : Int))), ((1 : Int), ((0 : Int), (0 : Int)))))
      (cond (decide (a0 = ((((((0 + 1) + 1) + 1) + 1) : Nat) : Int)))
       (kx (((0 : Int), ((0 : Int), (0 : Int))), ((1 : Int), ((0 : Int), (0 : Int)))))
       (cond (decide (a0 = (((((((0 + 1) + 1) + 1) + 1) + 1) : Nat) : Int)))
        (kx (((1 : Int), ((-(1 : Int)), (0 : Int))), ((1 : Int), ((0 : Int), (0 : Int)))))
        (cond (decide (a0 = ((((((((0 + 1) + 1) + 1) + 1) + 1) + 1) : Nat) : Int)))
         (kx (((-(1 : Int)), ((0 : Int), (0 : Int))), ((1 : Int), ((0 : Int), (0 : Int)))))
         (cond (decide (a0 = (((((((((0 + 1) + 1) + 1) + 1) + 1) + 1) + 1) : Nat) : Int)))
          (kx (((-(1 : Int)), ((0 : Int), (0 : Int))), ((-(1 : Int)), ((1 : Int), (0 : Int)))))
          (none)))))))))
noncomputable def g_impl_vector (a0 : Int) : Option (((Int × (Int × Int)) × (Int × (Int × Int)))) := t_impl_vector some a0
theorem nat_impl_vector {R : Type} (kx : ((Int × (Int × Int)) × (Int × (Int × Int))) → Option R) (a0 : Int) : t_impl_vector kx a0 = (g_impl_vector a0).bind kx := by
  unfold g_impl_vector t_impl_vector
  exact nat_cond (nat_cond (nat_bind fun _ => nat_bind fun _ => rfl) (nat_cond (nat_bind fun _ => nat_bind fun _ => rfl) (nat_cond (nat_bind fun _ => nat_bind fun _ => rfl) (nat_cond (nat_bind fun _ => nat_bind fun _ => rfl) (nat_cond (nat_bind fun _ => nat_bind fun _ => rfl) (nat_cond (nat_bind fun _ => nat_bind fun _ => rfl) (nat_cond (nat_bind fun _ => nat_bind fun _ => rfl) (nat_cond (nat_bind fun _ => nat_bind fun _ => rfl) (rfl))))))))) (nat_cond (rfl) (nat_cond (rfl) (nat_cond (rfl) (nat_cond (rfl) (nat_cond (rfl) (nat_cond (rfl) (nat_cond (rfl) (nat_cond (rfl) (rfl)))))))))
abbrev as_impl_vector : List AX := [.val false (.int .i64)]
abbrev en_impl_vector : ((Int × (Int × Int)) × (Int × (Int × Int))) → AV × List CV := fun b => (.one ⟨true, [(.v (.int .i64 b.1.1)), (.v (.int .i64 b.1.2.1)), (.v (.int .i64 b.1.2.2)), (.v (.int .i64 b.2.1)), (.v (.int .i64 b.2.2.1)), (.v (.int .i64 b.2.2.2))]⟩, [])
noncomputable abbrev k_impl_vector : Contract := .fx as_impl_vector (((Int × (Int × Int)) × (Int × (Int × Int)))) (fun z => g_impl_vector z.1) en_impl_vector
theorem r_impl_vector (z : argsX as_impl_vector) : runF (tab C0 T_impl_vector) noHints 1 Tryd.f100 (lentOf as_impl_vector) (xBoxes as_impl_vector z) (xVals as_impl_vector 0 z) K2 = t_impl_vector (fun b => some (en_impl_vector b)) z.1 := by kernel_rfl
theorem so_impl_vector : Sound C0 100 k_impl_vector :=
  Sound.fx a_impl_vector mixed Tryd.func100 (by kernel_rfl) (by kernel_rfl) noHints 1 noHints_ok (fun z => (r_impl_vector z).trans (nat_impl_vector _ z.1))

/-! ### F84 (impl.Line).normal -/
noncomputable def T_impl_Line_normal : List (FuncId × Contract) := [(100, k_impl_vector)]
theorem a_impl_Line_normal : AllSound C0 T_impl_Line_normal := .cons so_impl_vector (.nil)
noncomputable def t_impl_Line_normal {R : Type} (kx : ((Int × (Int × Int)) × (Int × (Int × Int))) → Option R) (a0 : (Int × (Int × (Int × Int)))) : Option R :=
  Option.bind (g_impl_vector (IntKind.wrap IntKind.i64 (a0.1 + (4 : Int)))) fun y250 =>
  kx y250
noncomputable def g_impl_Line_normal (a0 : (Int × (Int × (Int × Int)))) : Option (((Int × (Int × Int)) × (Int × (Int × Int)))) := t_impl_Line_normal some a0
theorem nat_impl_Line_normal {R : Type} (kx : ((Int × (Int × Int)) × (Int × (Int × Int))) → Option R) (a0 : (Int × (Int × (Int × Int)))) : t_impl_Line_normal kx a0 = (g_impl_Line_normal a0).bind kx := by
  unfold g_impl_Line_normal t_impl_Line_normal
  exact nat_bind fun _ => rfl
abbrev as_impl_Line_normal : List AX := [.val true (.pair (.int .i64) (.pair (.int .i64) (.pair (.int .i64) (.int .i64))))]
abbrev en_impl_Line_normal : ((Int × (Int × Int)) × (Int × (Int × Int))) → AV × List CV := fun b => (.one ⟨true, [(.v (.int .i64 b.1.1)), (.v (.int .i64 b.1.2.1)), (.v (.int .i64 b.1.2.2)), (.v (.int .i64 b.2.1)), (.v (.int .i64 b.2.2.1)), (.v (.int .i64 b.2.2.2))]⟩, [])
noncomputable abbrev k_impl_Line_normal : Contract := .fx as_impl_Line_normal (((Int × (Int × Int)) × (Int × (Int × Int)))) (fun z => g_impl_Line_normal z.1) en_impl_Line_normal
theorem r_impl_Line_normal (z : argsX as_impl_Line_normal) : runF (tab C0 T_impl_Line_normal) noHints 1 Tryd.f84 (lentOf as_impl_Line_normal) (xBoxes as_impl_Line_normal z) (xVals as_impl_Line_normal 0 z) K2 = t_impl_Line_normal (fun b => some (en_impl_Line_normal b)) z.1 := by kernel_rfl
theorem so_impl_Line_normal : Sound C0 84 k_impl_Line_normal :=
  Sound.fx a_impl_Line_normal mixed Tryd.func84 (by kernel_rfl) (by kernel_rfl) noHints 1 noHints_ok (fun z => (r_impl_Line_normal z).trans (nat_impl_Line_normal _ z.1))

/-! ### F125 (impl.Num).reduced -/
noncomputable def T_impl_Num_reduced : List (FuncId × Contract) := []
theorem a_impl_Num_reduced : AllSound C0 T_impl_Num_reduced := .nil
abbrev s_impl_Num_reduced_2 : LS := ⟨[(false, [(.ptr 1 0)]), (false, [(.ptr 2 0)])], [(false, [(.int .i64), (.int .i64), (.int .i64)]), (false, [(.int .i64), (.int .i64), (.int .i64)])], []⟩
abbrev e_impl_Num_reduced_2_0 : LS := ⟨[(false, [(.ptr 1 0)]), (false, [(.ptr 2 0)])], [(false, [(.int .i64), (.int .i64), (.int .i64)]), (false, [(.int .i64), (.int .i64), (.int .i64)])], []⟩
abbrev d_impl_Num_reduced_2_0 (v0 : Int) (v1 : Int) (v2 : Int) (v3 : Int) (v4 : Int) (v5 : Int) : e_impl_Num_reduced_2_0.T := ((((), ()), ((), ()), ()), ((v0, v1, v2, ()), (v3, v4, v5, ()), ()), ())
abbrev x_impl_Num_reduced_2 : List (Ex × LS) := [(.exit 0, e_impl_Num_reduced_2_0)]
abbrev m_impl_Num_reduced_2 (b0_0 : Int) (b0_1 : Int) (b0_2 : Int) (b1_0 : Int) (b1_1 : Int) (b1_2 : Int) : s_impl_Num_reduced_2.T := ((((), ()), ((), ()), ()), ((b0_0, b0_1, b0_2, ()), (b1_0, b1_1, b1_2, ()), ()), ())
noncomputable def u_impl_Num_reduced_2 {R : Type} (nx : s_impl_Num_reduced_2.T → Option R) (hx : exH R x_impl_Num_reduced_2) (b0_0 : Int) (b0_1 : Int) (b0_2 : Int) (b1_0 : Int) (b1_1 : Int) (b1_2 : Int) : Option R :=
  cond (decide (b0_2 > (0 : Int)))
  (cond ((IntKind.wrap IntKind.i64 (((BitVec.toNat ((BitVec.ofInt 64 b0_0) &&& (BitVec.ofInt 64 (1 : Int)))) : Nat) : Int)) == (0 : Int))
   (cond ((IntKind.wrap IntKind.i64 (((BitVec.toNat ((BitVec.ofInt 64 b0_1) &&& (BitVec.ofInt 64 (1 : Int)))) : Nat) : Int)) == (0 : Int))
    (cond ((IntKind.wrap IntKind.i64 (Int.tdiv b0_0 (2 : Int))) == (0 : Int))
     (cond ((IntKind.wrap IntKind.i64 (Int.tdiv b0_1 (2 : Int))) == (0 : Int))
      (nx (m_impl_Num_reduced_2 (IntKind.wrap IntKind.i64 (Int.tdiv b0_0 (2 : Int))) (IntKind.wrap IntKind.i64 (Int.tdiv b0_1 (2 : Int))) (0 : Int) b1_0 b1_1 b1_2))
      (nx (m_impl_Num_reduced_2 (IntKind.wrap IntKind.i64 (Int.tdiv b0_0 (2 : Int))) (IntKind.wrap IntKind.i64 (Int.tdiv b0_1 (2 : Int))) (IntKind.wrap IntKind.i64 (b0_2 - (1 : Int))) b1_0 b1_1 b1_2)))
     (nx (m_impl_Num_reduced_2 (IntKind.wrap IntKind.i64 (Int.tdiv b0_0 (2 : Int))) (IntKind.wrap IntKind.i64 (Int.tdiv b0_1 (2 : Int))) (IntKind.wrap IntKind.i64 (b0_2 - (1 : Int))) b1_0 b1_1 b1_2)))
    (hx.1 (d_impl_Num_reduced_2_0 b0_0 b0_1 b0_2 b1_0 b1_1 b1_2)))
   (hx.1 (d_impl_Num_reduced_2_0 b0_0 b0_1 b0_2 b1_0 b1_1 b1_2)))
  (hx.1 (d_impl_Num_reduced_2_0 b0_0 b0_1 b0_2 b1_0 b1_1 b1_2))
noncomputable def t_impl_Num_reduced_2 {R : Type} (nx : s_impl_Num_reduced_2.T → Option R) (hx : exH R x_impl_Num_reduced_2) (z : s_impl_Num_reduced_2.T) : Option R := u_impl_Num_reduced_2 nx hx z.2.1.1.1 z.2.1.1.2.1 z.2.1.1.2.2.1 z.2.1.2.1.1 z.2.1.2.1.2.1 z.2.1.2.1.2.2.1
theorem nat_impl_Num_reduced_2 : Natural @t_impl_Num_reduced_2 := fun R nx hx z => by
  show u_impl_Num_reduced_2 nx hx z.2.1.1.1 z.2.1.1.2.1 z.2.1.1.2.2.1 z.2.1.2.1.1 z.2.1.2.1.2.1 z.2.1.2.1.2.2.1 = (u_impl_Num_reduced_2 (fun y => some (.inl y)) (hIn x_impl_Num_reduced_2 fun x => some (.inr x)) z.2.1.1.1 z.2.1.1.2.1 z.2.1.1.2.2.1 z.2.1.2.1.1 z.2.1.2.1.2.1 z.2.1.2.1.2.2.1).bind (goOn nx hx)
  unfold u_impl_Num_reduced_2
  exact nat_cond (nat_cond (nat_cond (nat_cond (nat_cond (rfl) (rfl)) (rfl)) (rfl)) (rfl)) (rfl)
noncomputable def w_impl_Num_reduced_2 : s_impl_Num_reduced_2.T → Option (exT x_impl_Num_reduced_2) := wOf @t_impl_Num_reduced_2
theorem wq_impl_Num_reduced_2 (b0_0 : Int) (b0_1 : Int) (b0_2 : Int) (b1_0 : Int) (b1_1 : Int) (b1_2 : Int) : w_impl_Num_reduced_2 (m_impl_Num_reduced_2 b0_0 b0_1 b0_2 b1_0 b1_1 b1_2) = u_impl_Num_reduced_2 w_impl_Num_reduced_2 (hIn x_impl_Num_reduced_2 some) b0_0 b0_1 b0_2 b1_0 b1_1 b1_2 := wOf_eq nat_impl_Num_reduced_2 _
def lh_impl_Num_reduced_2 : LoopHint := ⟨[1, 2], [1, 2], [1, 2], [1, 2]⟩
noncomputable def h_impl_Num_reduced : Hints Rv := ⟨fun k => match k with | 2 => lh_impl_Num_reduced_2 | _ => ⟨[], [], [], []⟩, fun k => match k with | 2 => some (loopX s_impl_Num_reduced_2 x_impl_Num_reduced_2 w_impl_Num_reduced_2) | _ => none⟩
theorem st_impl_Num_reduced_2 (n : Nat) (z : s_impl_Num_reduced_2.T) (k : Ex → Live → Option Rv) : loopN ⟨40, 40⟩ lh_impl_Num_reduced_2 (den (tab C0 T_impl_Num_reduced) ⟨40, 40⟩ h_impl_Num_reduced 1 (loopOf Tryd.f125 1)) (n + 1) (s_impl_Num_reduced_2.enc z) k =
    t_impl_Num_reduced_2 (fun y => loopN ⟨40, 40⟩ lh_impl_Num_reduced_2 (den (tab C0 T_impl_Num_reduced) ⟨40, 40⟩ h_impl_Num_reduced 1 (loopOf Tryd.f125 1)) n (s_impl_Num_reduced_2.enc y) k) (hK k x_impl_Num_reduced_2) z := by kernel_rfl
theorem hs_impl_Num_reduced : HintsOk (tab C0 T_impl_Num_reduced) ⟨40, 40⟩ h_impl_Num_reduced 1 (loops (codeOf Tryd.f125)) := by
  have hl : loops (codeOf Tryd.f125) = [loopOf Tryd.f125 1] := by kernel_rfl
  rw [hl]
  exact HintsOk.cons (n := 2) (lh := lh_impl_Num_reduced_2) (S := loopX s_impl_Num_reduced_2 x_impl_Num_reduced_2 w_impl_Num_reduced_2) (by kernel_rfl) rfl rfl (loopX_ok nat_impl_Num_reduced_2 st_impl_Num_reduced_2)
    (HintsOk.nil)
noncomputable def t_impl_Num_reduced {R : Type} (kx : (Int × (Int × Int)) → Option R) (a0 : (Int × (Int × Int))) : Option R :=
  Option.bind (w_impl_Num_reduced_2 (m_impl_Num_reduced_2 a0.1 a0.2.1 a0.2.2 (0 : Int) (0 : Int) (0 : Int))) (exC x_impl_Num_reduced_2
  (fun e263 =>
   kx ((e263.2.1.1.1 : Int), ((e263.2.1.1.2.1 : Int), (e263.2.1.1.2.2.1 : Int))), ()))
noncomputable def g_impl_Num_reduced (a0 : (Int × (Int × Int))) : Option ((Int × (Int × Int))) := t_impl_Num_reduced some a0
theorem nat_impl_Num_reduced {R : Type} (kx : (Int × (Int × Int)) → Option R) (a0 : (Int × (Int × Int))) : t_impl_Num_reduced kx a0 = (g_impl_Num_reduced a0).bind kx := by
  unfold g_impl_Num_reduced t_impl_Num_reduced
  exact nat_exC ⟨fun _ => rfl, trivial⟩
abbrev as_impl_Num_reduced : List AX := [.val true (.pair (.int .i64) (.pair (.int .i64) (.int .i64)))]
abbrev en_impl_Num_reduced : (Int × (Int × Int)) → AV × List CV := fun b => (.one ⟨true, [(.v (.int .i64 b.1)), (.v (.int .i64 b.2.1)), (.v (.int .i64 b.2.2))]⟩, [])
noncomputable abbrev k_impl_Num_reduced : Contract := .fx as_impl_Num_reduced ((Int × (Int × Int))) (fun z => g_impl_Num_reduced z.1) en_impl_Num_reduced
theorem r_impl_Num_reduced (z : argsX as_impl_Num_reduced) : runF (tab C0 T_impl_Num_reduced) h_impl_Num_reduced 1 Tryd.f125 (lentOf as_impl_Num_reduced) (xBoxes as_impl_Num_reduced z) (xVals as_impl_Num_reduced 0 z) K2 = t_impl_Num_reduced (fun b => some (en_impl_Num_reduced b)) z.1 := by kernel_rfl
theorem so_impl_Num_reduced : Sound C0 125 k_impl_Num_reduced :=
  Sound.fx a_impl_Num_reduced mixed Tryd.func125 (by kernel_rfl) (by kernel_rfl) h_impl_Num_reduced 1 hs_impl_Num_reduced (fun z => (r_impl_Num_reduced z).trans (nat_impl_Num_reduced _ z.1))

/-! ### F101 (impl.Num).times -/
noncomputable def T_impl_Num_times : List (FuncId × Contract) := [(125, k_impl_Num_reduced)]
theorem a_impl_Num_times : AllSound C0 T_impl_Num_times := .cons so_impl_Num_reduced (.nil)
noncomputable def t_impl_Num_times {R : Type} (kx : (Int × (Int × Int)) → Option R) (a0 : (Int × (Int × Int))) (a1 : (Int × (Int × Int))) : Option R :=
  Option.bind (g_impl_Num_reduced ((IntKind.wrap IntKind.i64 ((IntKind.wrap IntKind.i64 (a0.1 * a1.1)) + (IntKind.wrap IntKind.i64 ((IntKind.wrap IntKind.i64 ((2 : Int) * a0.2.1)) * a1.2.1)))), ((IntKind.wrap IntKind.i64 ((IntKind.wrap IntKind.i64 (a0.1 * a1.2.1)) + (IntKind.wrap IntKind.i64 (a0.2.1 * a1.1)))), (IntKind.wrap IntKind.i64 (a0.2.2 + a1.2.2))))) fun y270 =>
  kx y270
noncomputable def g_impl_Num_times (a0 : (Int × (Int × Int))) (a1 : (Int × (Int × Int))) : Option ((Int × (Int × Int))) := t_impl_Num_times some a0 a1
theorem nat_impl_Num_times {R : Type} (kx : (Int × (Int × Int)) → Option R) (a0 : (Int × (Int × Int))) (a1 : (Int × (Int × Int))) : t_impl_Num_times kx a0 a1 = (g_impl_Num_times a0 a1).bind kx := by
  unfold g_impl_Num_times t_impl_Num_times
  exact nat_bind fun _ => rfl
abbrev as_impl_Num_times : List AX := [.val true (.pair (.int .i64) (.pair (.int .i64) (.int .i64))), .val true (.pair (.int .i64) (.pair (.int .i64) (.int .i64)))]
abbrev en_impl_Num_times : (Int × (Int × Int)) → AV × List CV := fun b => (.one ⟨true, [(.v (.int .i64 b.1)), (.v (.int .i64 b.2.1)), (.v (.int .i64 b.2.2))]⟩, [])
noncomputable abbrev k_impl_Num_times : Contract := .fx as_impl_Num_times ((Int × (Int × Int))) (fun z => g_impl_Num_times z.1 z.2.1) en_impl_Num_times
theorem r_impl_Num_times (z : argsX as_impl_Num_times) : runF (tab C0 T_impl_Num_times) noHints 1 Tryd.f101 (lentOf as_impl_Num_times) (xBoxes as_impl_Num_times z) (xVals as_impl_Num_times 0 z) K2 = t_impl_Num_times (fun b => some (en_impl_Num_times b)) z.1 z.2.1 := by kernel_rfl
theorem so_impl_Num_times : Sound C0 101 k_impl_Num_times :=
  Sound.fx a_impl_Num_times mixed Tryd.func101 (by kernel_rfl) (by kernel_rfl) noHints 1 noHints_ok (fun z => (r_impl_Num_times z).trans (nat_impl_Num_times _ z.1 z.2.1))

/-! ### F91 (impl.Num).plus -/
noncomputable def T_impl_Num_plus : List (FuncId × Contract) := [(125, k_impl_Num_reduced)]
theorem a_impl_Num_plus : AllSound C0 T_impl_Num_plus := .cons so_impl_Num_reduced (.nil)
noncomputable def t_impl_Num_plus {R : Type} (kx : (Int × (Int × Int)) → Option R) (a0 : (Int × (Int × Int))) (a1 : (Int × (Int × Int))) : Option R :=
  cond (decide ((IntKind.wrap IntKind.i64 ((if (Bool.true = Bool.true) then (if (a1.2.2 > a0.2.2) then a1.2.2 else a0.2.2) else (if (a1.2.2 < a0.2.2) then a1.2.2 else a0.2.2)) - a0.2.2)) < (0 : Int)))
  (none)
  (cond (decide ((IntKind.wrap IntKind.i64 ((if (Bool.true = Bool.true) then (if (a1.2.2 > a0.2.2) then a1.2.2 else a0.2.2) else (if (a1.2.2 < a0.2.2) then a1.2.2 else a0.2.2)) - a1.2.2)) < (0 : Int)))
   (none)
   (cond (decide ((IntKind.wrap IntKind.i64 ((if (Bool.true = Bool.true) then (if (a1.2.2 > a0.2.2) then a1.2.2 else a0.2.2) else (if (a1.2.2 < a0.2.2) then a1.2.2 else a0.2.2)) - a0.2.2)) < (0 : Int)))
    (none)
    (cond (decide ((IntKind.wrap IntKind.i64 ((if (Bool.true = Bool.true) then (if (a1.2.2 > a0.2.2) then a1.2.2 else a0.2.2) else (if (a1.2.2 < a0.2.2) then a1.2.2 else a0.2.2)) - a1.2.2)) < (0 : Int)))
     (none)
     (Option.bind (g_impl_Num_reduced ((IntKind.wrap IntKind.i64 ((IntKind.wrap IntKind.i64 (a0.1 * ((2 : Int) ^ (Min.min (Int.toNat (IntKind.wrap IntKind.i64 ((if (Bool.true = Bool.true) then (if (a1.2.2 > a0.2.2) then a1.2.2 else a0.2.2) else (if (a1.2.2 < a0.2.2) then a1.2.2 else a0.2.2)) - a0.2.2))) 64)))) + (IntKind.wrap IntKind.i64 (a1.1 * ((2 : Int) ^ (Min.min (Int.toNat (IntKind.wrap IntKind.i64 ((if (Bool.true = Bool.true) then (if (a1.2.2 > a0.2.2) then a1.2.2 else a0.2.2) else (if (a1.2.2 < a0.2.2) then a1.2.2 else a0.2.2)) - a1.2.2))) 64)))))), ((IntKind.wrap IntKind.i64 ((IntKind.wrap IntKind.i64 (a0.2.1 * ((2 : Int) ^ (Min.min (Int.toNat (IntKind.wrap IntKind.i64 ((if (Bool.true = Bool.true) then (if (a1.2.2 > a0.2.2) then a1.2.2 else a0.2.2) else (if (a1.2.2 < a0.2.2) then a1.2.2 else a0.2.2)) - a0.2.2))) 64)))) + (IntKind.wrap IntKind.i64 (a1.2.1 * ((2 : Int) ^ (Min.min (Int.toNat (IntKind.wrap IntKind.i64 ((if (Bool.true = Bool.true) then (if (a1.2.2 > a0.2.2) then a1.2.2 else a0.2.2) else (if (a1.2.2 < a0.2.2) then a1.2.2 else a0.2.2)) - a1.2.2))) 64)))))), (if (Bool.true = Bool.true) then (if (a1.2.2 > a0.2.2) then a1.2.2 else a0.2.2) else (if (a1.2.2 < a0.2.2) then a1.2.2 else a0.2.2))))) fun y275 =>
      kx y275))))
noncomputable def g_impl_Num_plus (a0 : (Int × (Int × Int))) (a1 : (Int × (Int × Int))) : Option ((Int × (Int × Int))) := t_impl_Num_plus some a0 a1
theorem nat_impl_Num_plus {R : Type} (kx : (Int × (Int × Int)) → Option R) (a0 : (Int × (Int × Int))) (a1 : (Int × (Int × Int))) : t_impl_Num_plus kx a0 a1 = (g_impl_Num_plus a0 a1).bind kx := by
  unfold g_impl_Num_plus t_impl_Num_plus
  exact nat_cond (rfl) (nat_cond (rfl) (nat_cond (rfl) (nat_cond (rfl) (nat_bind fun _ => rfl))))
abbrev as_impl_Num_plus : List AX := [.val true (.pair (.int .i64) (.pair (.int .i64) (.int .i64))), .val true (.pair (.int .i64) (.pair (.int .i64) (.int .i64)))]
abbrev en_impl_Num_plus : (Int × (Int × Int)) → AV × List CV := fun b => (.one ⟨true, [(.v (.int .i64 b.1)), (.v (.int .i64 b.2.1)), (.v (.int .i64 b.2.2))]⟩, [])
noncomputable abbrev k_impl_Num_plus : Contract := .fx as_impl_Num_plus ((Int × (Int × Int))) (fun z => g_impl_Num_plus z.1 z.2.1) en_impl_Num_plus
theorem r_impl_Num_plus (z : argsX as_impl_Num_plus) : runF (tab C0 T_impl_Num_plus) noHints 1 Tryd.f91 (lentOf as_impl_Num_plus) (xBoxes as_impl_Num_plus z) (xVals as_impl_Num_plus 0 z) K2 = t_impl_Num_plus (fun b => some (en_impl_Num_plus b)) z.1 z.2.1 := by kernel_rfl
theorem so_impl_Num_plus : Sound C0 91 k_impl_Num_plus :=
  Sound.fx a_impl_Num_plus mixed Tryd.func91 (by kernel_rfl) (by kernel_rfl) noHints 1 noHints_ok (fun z => (r_impl_Num_plus z).trans (nat_impl_Num_plus _ z.1 z.2.1))

/-! ### F85 (impl.Point).dot -/
noncomputable def T_impl_Point_dot : List (FuncId × Contract) := [(101, k_impl_Num_times), (91, k_impl_Num_plus)]
theorem a_impl_Point_dot : AllSound C0 T_impl_Point_dot := .cons so_impl_Num_times (.cons so_impl_Num_plus (.nil))
noncomputable def t_impl_Point_dot {R : Type} (kx : (Int × (Int × Int)) → Option R) (a0 : ((Int × (Int × Int)) × (Int × (Int × Int)))) (a1 : ((Int × (Int × Int)) × (Int × (Int × Int)))) : Option R :=
  Option.bind (g_impl_Num_times a0.1 a1.1) fun y271 =>
  Option.bind (g_impl_Num_times a0.2 a1.2) fun y272 =>
  Option.bind (g_impl_Num_plus y271 y272) fun y276 =>
  kx y276
noncomputable def g_impl_Point_dot (a0 : ((Int × (Int × Int)) × (Int × (Int × Int)))) (a1 : ((Int × (Int × Int)) × (Int × (Int × Int)))) : Option ((Int × (Int × Int))) := t_impl_Point_dot some a0 a1
theorem nat_impl_Point_dot {R : Type} (kx : (Int × (Int × Int)) → Option R) (a0 : ((Int × (Int × Int)) × (Int × (Int × Int)))) (a1 : ((Int × (Int × Int)) × (Int × (Int × Int)))) : t_impl_Point_dot kx a0 a1 = (g_impl_Point_dot a0 a1).bind kx := by
  unfold g_impl_Point_dot t_impl_Point_dot
  exact nat_bind fun _ => nat_bind fun _ => nat_bind fun _ => rfl
abbrev as_impl_Point_dot : List AX := [.val true (.pair (.pair (.int .i64) (.pair (.int .i64) (.int .i64))) (.pair (.int .i64) (.pair (.int .i64) (.int .i64)))), .val true (.pair (.pair (.int .i64) (.pair (.int .i64) (.int .i64))) (.pair (.int .i64) (.pair (.int .i64) (.int .i64))))]
abbrev en_impl_Point_dot : (Int × (Int × Int)) → AV × List CV := fun b => (.one ⟨true, [(.v (.int .i64 b.1)), (.v (.int .i64 b.2.1)), (.v (.int .i64 b.2.2))]⟩, [])
noncomputable abbrev k_impl_Point_dot : Contract := .fx as_impl_Point_dot ((Int × (Int × Int))) (fun z => g_impl_Point_dot z.1 z.2.1) en_impl_Point_dot
theorem r_impl_Point_dot (z : argsX as_impl_Point_dot) : runF (tab C0 T_impl_Point_dot) noHints 1 Tryd.f85 (lentOf as_impl_Point_dot) (xBoxes as_impl_Point_dot z) (xVals as_impl_Point_dot 0 z) K2 = t_impl_Point_dot (fun b => some (en_impl_Point_dot b)) z.1 z.2.1 := by kernel_rfl
theorem so_impl_Point_dot : Sound C0 85 k_impl_Point_dot :=
  Sound.fx a_impl_Point_dot mixed Tryd.func85 (by kernel_rfl) (by kernel_rfl) noHints 1 noHints_ok (fun z => (r_impl_Point_dot z).trans (nat_impl_Point_dot _ z.1 z.2.1))

/-! ### F86 (impl.Num).minus -/
noncomputable def T_impl_Num_minus : List (FuncId × Contract) := [(122, k_impl_Num_neg), (91, k_impl_Num_plus)]
theorem a_impl_Num_minus : AllSound C0 T_impl_Num_minus := .cons so_impl_Num_neg (.cons so_impl_Num_plus (.nil))
noncomputable def t_impl_Num_minus {R : Type} (kx : (Int × (Int × Int)) → Option R) (a0 : (Int × (Int × Int))) (a1 : (Int × (Int × Int))) : Option R :=
  Option.bind (g_impl_Num_neg a1) fun y280 =>
  Option.bind (g_impl_Num_plus a0 y280) fun y281 =>
  kx y281
noncomputable def g_impl_Num_minus (a0 : (Int × (Int × Int))) (a1 : (Int × (Int × Int))) : Option ((Int × (Int × Int))) := t_impl_Num_minus some a0 a1
theorem nat_impl_Num_minus {R : Type} (kx : (Int × (Int × Int)) → Option R) (a0 : (Int × (Int × Int))) (a1 : (Int × (Int × Int))) : t_impl_Num_minus kx a0 a1 = (g_impl_Num_minus a0 a1).bind kx := by
  unfold g_impl_Num_minus t_impl_Num_minus
  exact nat_bind fun _ => nat_bind fun _ => rfl
abbrev as_impl_Num_minus : List AX := [.val true (.pair (.int .i64) (.pair (.int .i64) (.int .i64))), .val true (.pair (.int .i64) (.pair (.int .i64) (.int .i64)))]
abbrev en_impl_Num_minus : (Int × (Int × Int)) → AV × List CV := fun b => (.one ⟨true, [(.v (.int .i64 b.1)), (.v (.int .i64 b.2.1)), (.v (.int .i64 b.2.2))]⟩, [])
noncomputable abbrev k_impl_Num_minus : Contract := .fx as_impl_Num_minus ((Int × (Int × Int))) (fun z => g_impl_Num_minus z.1 z.2.1) en_impl_Num_minus
theorem r_impl_Num_minus (z : argsX as_impl_Num_minus) : runF (tab C0 T_impl_Num_minus) noHints 1 Tryd.f86 (lentOf as_impl_Num_minus) (xBoxes as_impl_Num_minus z) (xVals as_impl_Num_minus 0 z) K2 = t_impl_Num_minus (fun b => some (en_impl_Num_minus b)) z.1 z.2.1 := by kernel_rfl
theorem so_impl_Num_minus : Sound C0 86 k_impl_Num_minus :=
  Sound.fx a_impl_Num_minus mixed Tryd.func86 (by kernel_rfl) (by kernel_rfl) noHints 1 noHints_ok (fun z => (r_impl_Num_minus z).trans (nat_impl_Num_minus _ z.1 z.2.1))

/-! ### F88 (impl.Num).over -/
noncomputable def T_impl_Num_over : List (FuncId × Contract) := [(101, k_impl_Num_times), (125, k_impl_Num_reduced)]
theorem a_impl_Num_over : AllSound C0 T_impl_Num_over := .cons so_impl_Num_times (.cons so_impl_Num_reduced (.nil))
abbrev s_impl_Num_over_7 : LS := ⟨[(false, [(.ptr 4 0)]), (false, [(.int .i64)]), (false, [(.ptr 7 0)])], [(false, [(.int .i64), (.int .i64), (.int .i64)]), (false, [(.int .i64), (.int .i64), (.int .i64)])], []⟩
abbrev e_impl_Num_over_7_0 : LS := ⟨[(false, [(.ptr 4 0)]), (false, [(.int .i64)]), (false, [(.ptr 7 0)])], [(false, [(.int .i64), (.int .i64), (.int .i64)]), (false, [(.int .i64), (.int .i64), (.int .i64)])], []⟩
abbrev d_impl_Num_over_7_0 (v0 : Int) (v1 : Int) (v2 : Int) (v3 : Int) (v4 : Int) (v5 : Int) (v6 : Int) : e_impl_Num_over_7_0.T := ((((), ()), (v0, ()), ((), ()), ()), ((v1, v2, v3, ()), (v4, v5, v6, ()), ()), ())
abbrev x_impl_Num_over_7 : List (Ex × LS) := [(.exit 0, e_impl_Num_over_7_0)]
abbrev m_impl_Num_over_7 (x6 : Int) (b0_0 : Int) (b0_1 : Int) (b0_2 : Int) (b1_0 : Int) (b1_1 : Int) (b1_2 : Int) : s_impl_Num_over_7.T := ((((), ()), (x6, ()), ((), ()), ()), ((b0_0, b0_1, b0_2, ()), (b1_0, b1_1, b1_2, ()), ()), ())
noncomputable def u_impl_Num_over_7 {R : Type} (nx : s_impl_Num_over_7.T → Option R) (hx : exH R x_impl_Num_over_7) (x6 : Int) (b0_0 : Int) (b0_1 : Int) (b0_2 : Int) (b1_0 : Int) (b1_1 : Int) (b1_2 : Int) : Option R :=
  cond ((IntKind.wrap IntKind.i64 (((BitVec.toNat ((BitVec.ofInt 64 x6) &&& (BitVec.ofInt 64 (1 : Int)))) : Nat) : Int)) == (0 : Int))
  (nx (m_impl_Num_over_7 (IntKind.wrap IntKind.i64 (Int.tdiv x6 (2 : Int))) b0_0 b0_1 b0_2 b1_0 b1_1 (IntKind.wrap IntKind.i64 (b1_2 + (1 : Int)))))
  (hx.1 (d_impl_Num_over_7_0 x6 b0_0 b0_1 b0_2 b1_0 b1_1 b1_2))
noncomputable def t_impl_Num_over_7 {R : Type} (nx : s_impl_Num_over_7.T → Option R) (hx : exH R x_impl_Num_over_7) (z : s_impl_Num_over_7.T) : Option R := u_impl_Num_over_7 nx hx z.1.2.1.1 z.2.1.1.1 z.2.1.1.2.1 z.2.1.1.2.2.1 z.2.1.2.1.1 z.2.1.2.1.2.1 z.2.1.2.1.2.2.1
theorem nat_impl_Num_over_7 : Natural @t_impl_Num_over_7 := fun R nx hx z => by
  show u_impl_Num_over_7 nx hx z.1.2.1.1 z.2.1.1.1 z.2.1.1.2.1 z.2.1.1.2.2.1 z.2.1.2.1.1 z.2.1.2.1.2.1 z.2.1.2.1.2.2.1 = (u_impl_Num_over_7 (fun y => some (.inl y)) (hIn x_impl_Num_over_7 fun x => some (.inr x)) z.1.2.1.1 z.2.1.1.1 z.2.1.1.2.1 z.2.1.1.2.2.1 z.2.1.2.1.1 z.2.1.2.1.2.1 z.2.1.2.1.2.2.1).bind (goOn nx hx)
  unfold u_impl_Num_over_7
  exact nat_cond (rfl) (rfl)
noncomputable def w_impl_Num_over_7 : s_impl_Num_over_7.T → Option (exT x_impl_Num_over_7) := wOf @t_impl_Num_over_7
theorem wq_impl_Num_over_7 (x6 : Int) (b0_0 : Int) (b0_1 : Int) (b0_2 : Int) (b1_0 : Int) (b1_1 : Int) (b1_2 : Int) : w_impl_Num_over_7 (m_impl_Num_over_7 x6 b0_0 b0_1 b0_2 b1_0 b1_1 b1_2) = u_impl_Num_over_7 w_impl_Num_over_7 (hIn x_impl_Num_over_7 some) x6 b0_0 b0_1 b0_2 b1_0 b1_1 b1_2 := wOf_eq nat_impl_Num_over_7 _
def lh_impl_Num_over_7 : LoopHint := ⟨[4, 6, 7], [4, 7], [4, 6, 7], [4, 7]⟩
noncomputable def h_impl_Num_over : Hints Rv := ⟨fun k => match k with | 7 => lh_impl_Num_over_7 | _ => ⟨[], [], [], []⟩, fun k => match k with | 7 => some (loopX s_impl_Num_over_7 x_impl_Num_over_7 w_impl_Num_over_7) | _ => none⟩
theorem st_impl_Num_over_7 (n : Nat) (z : s_impl_Num_over_7.T) (k : Ex → Live → Option Rv) : loopN ⟨89, 89⟩ lh_impl_Num_over_7 (den (tab C0 T_impl_Num_over) ⟨89, 89⟩ h_impl_Num_over 1 (loopOf Tryd.f88 6)) (n + 1) (s_impl_Num_over_7.enc z) k =
    t_impl_Num_over_7 (fun y => loopN ⟨89, 89⟩ lh_impl_Num_over_7 (den (tab C0 T_impl_Num_over) ⟨89, 89⟩ h_impl_Num_over 1 (loopOf Tryd.f88 6)) n (s_impl_Num_over_7.enc y) k) (hK k x_impl_Num_over_7) z := by kernel_rfl
theorem hs_impl_Num_over : HintsOk (tab C0 T_impl_Num_over) ⟨89, 89⟩ h_impl_Num_over 1 (loops (codeOf Tryd.f88)) := by
  have hl : loops (codeOf Tryd.f88) = [loopOf Tryd.f88 6] := by kernel_rfl
  rw [hl]
  exact HintsOk.cons (n := 7) (lh := lh_impl_Num_over_7) (S := loopX s_impl_Num_over_7 x_impl_Num_over_7 w_impl_Num_over_7) (by kernel_rfl) rfl rfl (loopX_ok nat_impl_Num_over_7 st_impl_Num_over_7)
    (HintsOk.nil)
noncomputable def t_impl_Num_over {R : Type} (kx : (Int × (Int × Int)) × Bool → Option R) (a0 : (Int × (Int × Int))) (a1 : (Int × (Int × Int))) : Option R :=
  cond ((IntKind.wrap IntKind.i64 ((IntKind.wrap IntKind.i64 (a1.1 * a1.1)) - (IntKind.wrap IntKind.i64 ((IntKind.wrap IntKind.i64 ((2 : Int) * a1.2.1)) * a1.2.1)))) == (0 : Int))
  (kx (((0 : Int), ((0 : Int), (0 : Int))), Bool.false))
  (Option.bind (g_impl_Num_times a0 (a1.1, ((IntKind.wrap IntKind.i64 ((0 : Int) - a1.2.1)), (0 : Int)))) fun y286 =>
   Option.bind (w_impl_Num_over_7 (m_impl_Num_over_7 (IntKind.wrap IntKind.i64 ((IntKind.wrap IntKind.i64 (a1.1 * a1.1)) - (IntKind.wrap IntKind.i64 ((IntKind.wrap IntKind.i64 ((2 : Int) * a1.2.1)) * a1.2.1)))) (0 : Int) (0 : Int) (0 : Int) y286.1 y286.2.1 (IntKind.wrap IntKind.i64 (y286.2.2 - a1.2.2)))) (exC x_impl_Num_over_7
   (fun e294 =>
    cond (decide ((e294.1.2.1.1 : Int) = (0 : Int)))
    (none)
    (cond ((Int.tmod (e294.2.1.2.1.1 : Int) (e294.1.2.1.1 : Int)) != (0 : Int))
     (kx (((0 : Int), ((0 : Int), (0 : Int))), Bool.false))
     (cond (decide ((e294.1.2.1.1 : Int) = (0 : Int)))
      (none)
      (cond ((Int.tmod (e294.2.1.2.1.2.1 : Int) (e294.1.2.1.1 : Int)) != (0 : Int))
       (kx (((0 : Int), ((0 : Int), (0 : Int))), Bool.false))
       (cond (decide ((e294.1.2.1.1 : Int) = (0 : Int)))
        (none)
        (cond (decide ((e294.1.2.1.1 : Int) = (0 : Int)))
         (none)
         (cond (decide ((e294.2.1.2.1.2.2.1 : Int) < (0 : Int)))
          (cond (decide ((IntKind.wrap IntKind.i64 ((0 : Int) - (e294.2.1.2.1.2.2.1 : Int))) < (0 : Int)))
           (none)
           (cond (decide ((IntKind.wrap IntKind.i64 ((0 : Int) - (e294.2.1.2.1.2.2.1 : Int))) < (0 : Int)))
            (none)
            (Option.bind (g_impl_Num_reduced ((IntKind.wrap IntKind.i64 ((IntKind.wrap IntKind.i64 (Int.tdiv (e294.2.1.2.1.1 : Int) (e294.1.2.1.1 : Int))) * ((2 : Int) ^ (Min.min (Int.toNat (IntKind.wrap IntKind.i64 ((0 : Int) - (e294.2.1.2.1.2.2.1 : Int)))) 64)))), ((IntKind.wrap IntKind.i64 ((IntKind.wrap IntKind.i64 (Int.tdiv (e294.2.1.2.1.2.1 : Int) (e294.1.2.1.1 : Int))) * ((2 : Int) ^ (Min.min (Int.toNat (IntKind.wrap IntKind.i64 ((0 : Int) - (e294.2.1.2.1.2.2.1 : Int)))) 64)))), (0 : Int)))) fun y302 =>
             kx (y302, Bool.true))))
          (Option.bind (g_impl_Num_reduced ((IntKind.wrap IntKind.i64 (Int.tdiv (e294.2.1.2.1.1 : Int) (e294.1.2.1.1 : Int))), ((IntKind.wrap IntKind.i64 (Int.tdiv (e294.2.1.2.1.2.1 : Int) (e294.1.2.1.1 : Int))), (e294.2.1.2.1.2.2.1 : Int)))) fun y303 =>
           kx (y303, Bool.true)))))))), ())))
noncomputable def g_impl_Num_over (a0 : (Int × (Int × Int))) (a1 : (Int × (Int × Int))) : Option ((Int × (Int × Int)) × Bool) := t_impl_Num_over some a0 a1
theorem nat_impl_Num_over {R : Type} (kx : (Int × (Int × Int)) × Bool → Option R) (a0 : (Int × (Int × Int))) (a1 : (Int × (Int × Int))) : t_impl_Num_over kx a0 a1 = (g_impl_Num_over a0 a1).bind kx := by
  unfold g_impl_Num_over t_impl_Num_over
  exact nat_cond (rfl) (nat_bind fun _ => nat_exC ⟨fun _ => nat_cond (rfl) (nat_cond (rfl) (nat_cond (rfl) (nat_cond (rfl) (nat_cond (rfl) (nat_cond (rfl) (nat_cond (nat_cond (rfl) (nat_cond (rfl) (nat_bind fun _ => rfl))) (nat_bind fun _ => rfl))))))), trivial⟩)
abbrev as_impl_Num_over : List AX := [.val true (.pair (.int .i64) (.pair (.int .i64) (.int .i64))), .val true (.pair (.int .i64) (.pair (.int .i64) (.int .i64)))]
abbrev en_impl_Num_over : (Int × (Int × Int)) × Bool → AV × List CV := fun b => (.tup [⟨true, [(.v (.int .i64 b.1.1)), (.v (.int .i64 b.1.2.1)), (.v (.int .i64 b.1.2.2))]⟩, ⟨false, [(.v (.bool b.2))]⟩], [])
noncomputable abbrev k_impl_Num_over : Contract := .fx as_impl_Num_over ((Int × (Int × Int)) × Bool) (fun z => g_impl_Num_over z.1 z.2.1) en_impl_Num_over
theorem r_impl_Num_over (z : argsX as_impl_Num_over) : runF (tab C0 T_impl_Num_over) h_impl_Num_over 1 Tryd.f88 (lentOf as_impl_Num_over) (xBoxes as_impl_Num_over z) (xVals as_impl_Num_over 0 z) K2 = t_impl_Num_over (fun b => some (en_impl_Num_over b)) z.1 z.2.1 := by kernel_rfl
theorem so_impl_Num_over : Sound C0 88 k_impl_Num_over :=
  Sound.fx a_impl_Num_over mixed Tryd.func88 (by kernel_rfl) (by kernel_rfl) h_impl_Num_over 1 hs_impl_Num_over (fun z => (r_impl_Num_over z).trans (nat_impl_Num_over _ z.1 z.2.1))

/-! ### F90 (impl.Point).times -/
noncomputable def T_impl_Point_times : List (FuncId × Contract) := [(101, k_impl_Num_times)]
theorem a_impl_Point_times : AllSound C0 T_impl_Point_times := .cons so_impl_Num_times (.nil)
noncomputable def t_impl_Point_times {R : Type} (kx : ((Int × (Int × Int)) × (Int × (Int × Int))) → Option R) (a0 : ((Int × (Int × Int)) × (Int × (Int × Int)))) (a1 : (Int × (Int × Int))) : Option R :=
  Option.bind (g_impl_Num_times a0.1 a1) fun y308 =>
  Option.bind (g_impl_Num_times a0.2 a1) fun y309 =>
  kx (y308, y309)
noncomputable def g_impl_Point_times (a0 : ((Int × (Int × Int)) × (Int × (Int × Int)))) (a1 : (Int × (Int × Int))) : Option (((Int × (Int × Int)) × (Int × (Int × Int)))) := t_impl_Point_times some a0 a1
theorem nat_impl_Point_times {R : Type} (kx : ((Int × (Int × Int)) × (Int × (Int × Int))) → Option R) (a0 : ((Int × (Int × Int)) × (Int × (Int × Int)))) (a1 : (Int × (Int × Int))) : t_impl_Point_times kx a0 a1 = (g_impl_Point_times a0 a1).bind kx := by
  unfold g_impl_Point_times t_impl_Point_times
  exact nat_bind fun _ => nat_bind fun _ => rfl
abbrev as_impl_Point_times : List AX := [.val true (.pair (.pair (.int .i64) (.pair (.int .i64) (.int .i64))) (.pair (.int .i64) (.pair (.int .i64) (.int .i64)))), .val true (.pair (.int .i64) (.pair (.int .i64) (.int .i64)))]
abbrev en_impl_Point_times : ((Int × (Int × Int)) × (Int × (Int × Int))) → AV × List CV := fun b => (.one ⟨true, [(.v (.int .i64 b.1.1)), (.v (.int .i64 b.1.2.1)), (.v (.int .i64 b.1.2.2)), (.v (.int .i64 b.2.1)), (.v (.int .i64 b.2.2.1)), (.v (.int .i64 b.2.2.2))]⟩, [])
noncomputable abbrev k_impl_Point_times : Contract := .fx as_impl_Point_times (((Int × (Int × Int)) × (Int × (Int × Int)))) (fun z => g_impl_Point_times z.1 z.2.1) en_impl_Point_times
theorem r_impl_Point_times (z : argsX as_impl_Point_times) : runF (tab C0 T_impl_Point_times) noHints 1 Tryd.f90 (lentOf as_impl_Point_times) (xBoxes as_impl_Point_times z) (xVals as_impl_Point_times 0 z) K2 = t_impl_Point_times (fun b => some (en_impl_Point_times b)) z.1 z.2.1 := by kernel_rfl
theorem so_impl_Point_times : Sound C0 90 k_impl_Point_times :=
  Sound.fx a_impl_Point_times mixed Tryd.func90 (by kernel_rfl) (by kernel_rfl) noHints 1 noHints_ok (fun z => (r_impl_Point_times z).trans (nat_impl_Point_times _ z.1 z.2.1))

/-! ### F89 (impl.Point).plus -/
noncomputable def T_impl_Point_plus : List (FuncId × Contract) := [(91, k_impl_Num_plus)]
theorem a_impl_Point_plus : AllSound C0 T_impl_Point_plus := .cons so_impl_Num_plus (.nil)
noncomputable def t_impl_Point_plus {R : Type} (kx : ((Int × (Int × Int)) × (Int × (Int × Int))) → Option R) (a0 : ((Int × (Int × Int)) × (Int × (Int × Int)))) (a1 : ((Int × (Int × Int)) × (Int × (Int × Int)))) : Option R :=
  Option.bind (g_impl_Num_plus a0.1 a1.1) fun y313 =>
  Option.bind (g_impl_Num_plus a0.2 a1.2) fun y314 =>
  kx (y313, y314)
noncomputable def g_impl_Point_plus (a0 : ((Int × (Int × Int)) × (Int × (Int × Int)))) (a1 : ((Int × (Int × Int)) × (Int × (Int × Int)))) : Option (((Int × (Int × Int)) × (Int × (Int × Int)))) := t_impl_Point_plus some a0 a1
theorem nat_impl_Point_plus {R : Type} (kx : ((Int × (Int × Int)) × (Int × (Int × Int))) → Option R) (a0 : ((Int × (Int × Int)) × (Int × (Int × Int)))) (a1 : ((Int × (Int × Int)) × (Int × (Int × Int)))) : t_impl_Point_plus kx a0 a1 = (g_impl_Point_plus a0 a1).bind kx := by
  unfold g_impl_Point_plus t_impl_Point_plus
  exact nat_bind fun _ => nat_bind fun _ => rfl
abbrev as_impl_Point_plus : List AX := [.val true (.pair (.pair (.int .i64) (.pair (.int .i64) (.int .i64))) (.pair (.int .i64) (.pair (.int .i64) (.int .i64)))), .val true (.pair (.pair (.int .i64) (.pair (.int .i64) (.int .i64))) (.pair (.int .i64) (.pair (.int .i64) (.int .i64))))]
abbrev en_impl_Point_plus : ((Int × (Int × Int)) × (Int × (Int × Int))) → AV × List CV := fun b => (.one ⟨true, [(.v (.int .i64 b.1.1)), (.v (.int .i64 b.1.2.1)), (.v (.int .i64 b.1.2.2)), (.v (.int .i64 b.2.1)), (.v (.int .i64 b.2.2.1)), (.v (.int .i64 b.2.2.2))]⟩, [])
noncomputable abbrev k_impl_Point_plus : Contract := .fx as_impl_Point_plus (((Int × (Int × Int)) × (Int × (Int × Int)))) (fun z => g_impl_Point_plus z.1 z.2.1) en_impl_Point_plus
theorem r_impl_Point_plus (z : argsX as_impl_Point_plus) : runF (tab C0 T_impl_Point_plus) noHints 1 Tryd.f89 (lentOf as_impl_Point_plus) (xBoxes as_impl_Point_plus z) (xVals as_impl_Point_plus 0 z) K2 = t_impl_Point_plus (fun b => some (en_impl_Point_plus b)) z.1 z.2.1 := by kernel_rfl
theorem so_impl_Point_plus : Sound C0 89 k_impl_Point_plus :=
  Sound.fx a_impl_Point_plus mixed Tryd.func89 (by kernel_rfl) (by kernel_rfl) noHints 1 noHints_ok (fun z => (r_impl_Point_plus z).trans (nat_impl_Point_plus _ z.1 z.2.1))

/-! ### F44 (impl.Line).reflect -/
noncomputable def T_impl_Line_reflect : List (FuncId × Contract) := [(84, k_impl_Line_normal), (85, k_impl_Point_dot), (86, k_impl_Num_minus), (88, k_impl_Num_over), (91, k_impl_Num_plus), (90, k_impl_Point_times), (89, k_impl_Point_plus)]
theorem a_impl_Line_reflect : AllSound C0 T_impl_Line_reflect := .cons so_impl_Line_normal (.cons so_impl_Point_dot (.cons so_impl_Num_minus (.cons so_impl_Num_over (.cons so_impl_Num_plus (.cons so_impl_Point_times (.cons so_impl_Point_plus (.nil)))))))
noncomputable def t_impl_Line_reflect {R : Type} (kx : ((Int × (Int × Int)) × (Int × (Int × Int))) → Option R) (a0 : (Int × (Int × (Int × Int)))) (a1 : ((Int × (Int × Int)) × (Int × (Int × Int)))) : Option R :=
  Option.bind (g_impl_Line_normal a0) fun y251 =>
  Option.bind (g_impl_Point_dot y251 a1) fun y277 =>
  Option.bind (g_impl_Num_minus a0.2 y277) fun y282 =>
  Option.bind (g_impl_Point_dot y251 y251) fun y283 =>
  Option.bind (g_impl_Num_over y282 y283) fun y304 =>
  Option.bind (g_impl_Num_plus y304.1 y304.1) fun y305 =>
  Option.bind (g_impl_Point_times y251 y305) fun y310 =>
  Option.bind (g_impl_Point_plus a1 y310) fun y315 =>
  kx y315
noncomputable def g_impl_Line_reflect (a0 : (Int × (Int × (Int × Int)))) (a1 : ((Int × (Int × Int)) × (Int × (Int × Int)))) : Option (((Int × (Int × Int)) × (Int × (Int × Int)))) := t_impl_Line_reflect some a0 a1
theorem nat_impl_Line_reflect {R : Type} (kx : ((Int × (Int × Int)) × (Int × (Int × Int))) → Option R) (a0 : (Int × (Int × (Int × Int)))) (a1 : ((Int × (Int × Int)) × (Int × (Int × Int)))) : t_impl_Line_reflect kx a0 a1 = (g_impl_Line_reflect a0 a1).bind kx := by
  unfold g_impl_Line_reflect t_impl_Line_reflect
  exact nat_bind fun _ => nat_bind fun _ => nat_bind fun _ => nat_bind fun _ => nat_bind fun _ => nat_bind fun _ => nat_bind fun _ => nat_bind fun _ => rfl
abbrev as_impl_Line_reflect : List AX := [.val true (.pair (.int .i64) (.pair (.int .i64) (.pair (.int .i64) (.int .i64)))), .val true (.pair (.pair (.int .i64) (.pair (.int .i64) (.int .i64))) (.pair (.int .i64) (.pair (.int .i64) (.int .i64))))]
abbrev en_impl_Line_reflect : ((Int × (Int × Int)) × (Int × (Int × Int))) → AV × List CV := fun b => (.one ⟨true, [(.v (.int .i64 b.1.1)), (.v (.int .i64 b.1.2.1)), (.v (.int .i64 b.1.2.2)), (.v (.int .i64 b.2.1)), (.v (.int .i64 b.2.2.1)), (.v (.int .i64 b.2.2.2))]⟩, [])
noncomputable abbrev k_impl_Line_reflect : Contract := .fx as_impl_Line_reflect (((Int × (Int × Int)) × (Int × (Int × Int)))) (fun z => g_impl_Line_reflect z.1 z.2.1) en_impl_Line_reflect
theorem r_impl_Line_reflect (z : argsX as_impl_Line_reflect) : runF (tab C0 T_impl_Line_reflect) noHints 1 Tryd.f44 (lentOf as_impl_Line_reflect) (xBoxes as_impl_Line_reflect z) (xVals as_impl_Line_reflect 0 z) K2 = t_impl_Line_reflect (fun b => some (en_impl_Line_reflect b)) z.1 z.2.1 := by kernel_rfl
theorem so_impl_Line_reflect : Sound C0 44 k_impl_Line_reflect :=
  Sound.fx a_impl_Line_reflect mixed Tryd.func44 (by kernel_rfl) (by kernel_rfl) noHints 1 noHints_ok (fun z => (r_impl_Line_reflect z).trans (nat_impl_Line_reflect _ z.1 z.2.1))

/-! ### F123 impl.signOf -/
noncomputable def T_impl_signOf : List (FuncId × Contract) := []
theorem a_impl_signOf : AllSound C0 T_impl_signOf := .nil
noncomputable def t_impl_signOf {R : Type} (kx : Int → Option R) (a0 : Int) : Option R :=
  kx (if (Bool.true = Bool.true) then (if ((if (Bool.false = Bool.true) then (if (a0 > (1 : Int)) then a0 else (1 : Int)) else (if (a0 < (1 : Int)) then a0 else (1 : Int))) > (-(1 : Int))) then (if (Bool.false = Bool.true) then (if (a0 > (1 : Int)) then a0 else (1 : Int)) else (if (a0 < (1 : Int)) then a0 else (1 : Int))) else (-(1 : Int))) else (if ((if (Bool.false = Bool.true) then (if (a0 > (1 : Int)) then a0 else (1 : Int)) else (if (a0 < (1 : Int)) then a0 else (1 : Int))) < (-(1 : Int))) then (if (Bool.false = Bool.true) then (if (a0 > (1 : Int)) then a0 else (1 : Int)) else (if (a0 < (1 : Int)) then a0 else (1 : Int))) else (-(1 : Int))))
noncomputable def g_impl_signOf (a0 : Int) : Option (Int) := t_impl_signOf some a0
theorem nat_impl_signOf {R : Type} (kx : Int → Option R) (a0 : Int) : t_impl_signOf kx a0 = (g_impl_signOf a0).bind kx := by
  unfold g_impl_signOf t_impl_signOf
  exact rfl
abbrev as_impl_signOf : List AX := [.val false (.int .i64)]
abbrev en_impl_signOf : Int → AV × List CV := fun b => (.one ⟨false, [(.v (.int .i64 b))]⟩, [])
noncomputable abbrev k_impl_signOf : Contract := .fx as_impl_signOf (Int) (fun z => g_impl_signOf z.1) en_impl_signOf
theorem r_impl_signOf (z : argsX as_impl_signOf) : runF (tab C0 T_impl_signOf) noHints 1 Tryd.f123 (lentOf as_impl_signOf) (xBoxes as_impl_signOf z) (xVals as_impl_signOf 0 z) K2 = t_impl_signOf (fun b => some (en_impl_signOf b)) z.1 := by kernel_rfl
theorem so_impl_signOf : Sound C0 123 k_impl_signOf :=
  Sound.fx a_impl_signOf mixed Tryd.func123 (by kernel_rfl) (by kernel_rfl) noHints 1 noHints_ok (fun z => (r_impl_signOf z).trans (nat_impl_signOf _ z.1))

/-! ### F138 impl.abs -/
noncomputable def T_impl_abs : List (FuncId × Contract) := []
theorem a_impl_abs : AllSound C0 T_impl_abs := .nil
noncomputable def t_impl_abs {R : Type} (kx : Int → Option R) (a0 : Int) : Option R :=
  kx (if (Bool.true = Bool.true) then (if ((IntKind.wrap IntKind.i64 ((0 : Int) - a0)) > a0) then (IntKind.wrap IntKind.i64 ((0 : Int) - a0)) else a0) else (if ((IntKind.wrap IntKind.i64 ((0 : Int) - a0)) < a0) then (IntKind.wrap IntKind.i64 ((0 : Int) - a0)) else a0))
noncomputable def g_impl_abs (a0 : Int) : Option (Int) := t_impl_abs some a0
theorem nat_impl_abs {R : Type} (kx : Int → Option R) (a0 : Int) : t_impl_abs kx a0 = (g_impl_abs a0).bind kx := by
  unfold g_impl_abs t_impl_abs
  exact rfl
abbrev as_impl_abs : List AX := [.val false (.int .i64)]
abbrev en_impl_abs : Int → AV × List CV := fun b => (.one ⟨false, [(.v (.int .i64 b))]⟩, [])
noncomputable abbrev k_impl_abs : Contract := .fx as_impl_abs (Int) (fun z => g_impl_abs z.1) en_impl_abs
theorem r_impl_abs (z : argsX as_impl_abs) : runF (tab C0 T_impl_abs) noHints 1 Tryd.f138 (lentOf as_impl_abs) (xBoxes as_impl_abs z) (xVals as_impl_abs 0 z) K2 = t_impl_abs (fun b => some (en_impl_abs b)) z.1 := by kernel_rfl
theorem so_impl_abs : Sound C0 138 k_impl_abs :=
  Sound.fx a_impl_abs mixed Tryd.func138 (by kernel_rfl) (by kernel_rfl) noHints 1 noHints_ok (fun z => (r_impl_abs z).trans (nat_impl_abs _ z.1))

/-! ### F137 math/bits.Mul64 -/
noncomputable def T_math_bits_Mul64 : List (FuncId × Contract) := []
theorem a_math_bits_Mul64 : AllSound C0 T_math_bits_Mul64 := .nil
noncomputable def t_math_bits_Mul64 {R : Type} (kx : Int × Int → Option R) (a0 : Int) (a1 : Int) : Option R :=
  kx ((IntKind.wrap IntKind.u64 ((IntKind.wrap IntKind.u64 ((IntKind.wrap IntKind.u64 ((Int.fdiv a0 ((2 : Int) ^ (Min.min (Int.toNat (32 : Int)) 64))) * (Int.fdiv a1 ((2 : Int) ^ (Min.min (Int.toNat (32 : Int)) 64))))) + (Int.fdiv (IntKind.wrap IntKind.u64 ((IntKind.wrap IntKind.u64 ((Int.fdiv a0 ((2 : Int) ^ (Min.min (Int.toNat (32 : Int)) 64))) * (IntKind.wrap IntKind.u64 (((BitVec.toNat ((BitVec.ofInt 64 a1) &&& (BitVec.ofInt 64 (4294967295 : Int)))) : Nat) : Int)))) + (Int.fdiv (IntKind.wrap IntKind.u64 ((IntKind.wrap IntKind.u64 (((BitVec.toNat ((BitVec.ofInt 64 a0) &&& (BitVec.ofInt 64 (4294967295 : Int)))) : Nat) : Int)) * (IntKind.wrap IntKind.u64 (((BitVec.toNat ((BitVec.ofInt 64 a1) &&& (BitVec.ofInt 64 (4294967295 : Int)))) : Nat) : Int)))) ((2 : Int) ^ (Min.min (Int.toNat (32 : Int)) 64))))) ((2 : Int) ^ (Min.min (Int.toNat (32 : Int)) 64))))) + (Int.fdiv (IntKind.wrap IntKind.u64 ((IntKind.wrap IntKind.u64 (((BitVec.toNat ((BitVec.ofInt 64 (IntKind.wrap IntKind.u64 ((IntKind.wrap IntKind.u64 ((Int.fdiv a0 ((2 : Int) ^ (Min.min (Int.toNat (32 : Int)) 64))) * (IntKind.wrap IntKind.u64 (((BitVec.toNat ((BitVec.ofInt 64 a1) &&& (BitVec.ofInt 64 (4294967295 : Int)))) : Nat) : Int)))) + (Int.fdiv (IntKind.wrap IntKind.u64 ((IntKind.wrap IntKind.u64 (((BitVec.toNat ((BitVec.ofInt 64 a0) &&& (BitVec.ofInt 64 (4294967295 : Int)))) : Nat) : Int)) * (IntKind.wrap IntKind.u64 (((BitVec.toNat ((BitVec.ofInt 64 a1) &&& (BitVec.ofInt 64 (4294967295 : Int)))) : Nat) : Int)))) ((2 : Int) ^ (Min.min (Int.toNat (32 : Int)) 64)))))) &&& (BitVec.ofInt 64 (4294967295 : Int)))) : Nat) : Int)) + (IntKind.wrap IntKind.u64 ((IntKind.wrap IntKind.u64 (((BitVec.toNat ((BitVec.ofInt 64 a0) &&& (BitVec.ofInt 64 (4294967295 : Int)))) : Nat) : Int)) * (Int.fdiv a1 ((2 : Int) ^ (Min.min (Int.toNat (32 : Int)) 64))))))) ((2 : Int) ^ (Min.min (Int.toNat (32 : Int)) 64))))), (IntKind.wrap IntKind.u64 (a0 * a1)))
noncomputable def g_math_bits_Mul64 (a0 : Int) (a1 : Int) : Option (Int × Int) := t_math_bits_Mul64 some a0 a1
theorem nat_math_bits_Mul64 {R : Type} (kx : Int × Int → Option R) (a0 : Int) (a1 : Int) : t_math_bits_Mul64 kx a0 a1 = (g_math_bits_Mul64 a0 a1).bind kx := by
  unfold g_math_bits_Mul64 t_math_bits_Mul64
  exact rfl
abbrev as_math_bits_Mul64 : List AX := [.val false (.int .u64), .val false (.int .u64)]
abbrev en_math_bits_Mul64 : Int × Int → AV × List CV := fun b => (.tup [⟨false, [(.v (.int .u64 b.1))]⟩, ⟨false, [(.v (.int .u64 b.2))]⟩], [])
noncomputable abbrev k_math_bits_Mul64 : Contract := .fx as_math_bits_Mul64 (Int × Int) (fun z => g_math_bits_Mul64 z.1 z.2.1) en_math_bits_Mul64
theorem r_math_bits_Mul64 (z : argsX as_math_bits_Mul64) : runF (tab C0 T_math_bits_Mul64) noHints 1 Tryd.f137 (lentOf as_math_bits_Mul64) (xBoxes as_math_bits_Mul64 z) (xVals as_math_bits_Mul64 0 z) K2 = t_math_bits_Mul64 (fun b => some (en_math_bits_Mul64 b)) z.1 z.2.1 := by kernel_rfl
theorem so_math_bits_Mul64 : Sound C0 137 k_math_bits_Mul64 :=
  Sound.fx a_math_bits_Mul64 mixed Tryd.func137 (by kernel_rfl) (by kernel_rfl) noHints 1 noHints_ok (fun z => (r_math_bits_Mul64 z).trans (nat_math_bits_Mul64 _ z.1 z.2.1))

/-! ### F124 impl.isGreater -/
noncomputable def T_impl_isGreater : List (FuncId × Contract) := [(138, k_impl_abs), (137, k_math_bits_Mul64)]
theorem a_impl_isGreater : AllSound C0 T_impl_isGreater := .cons so_impl_abs (.cons so_math_bits_Mul64 (.nil))
noncomputable def t_impl_isGreater {R : Type} (kx : Bool → Option R) (a0 : Int) (a1 : Int) : Option R :=
  Option.bind (g_impl_abs a0) fun y329 =>
  Option.bind (g_impl_abs a0) fun y330 =>
  Option.bind (g_math_bits_Mul64 (IntKind.wrap IntKind.u64 y329) (IntKind.wrap IntKind.u64 y330)) fun y333 =>
  Option.bind (g_impl_abs a1) fun y334 =>
  Option.bind (g_impl_abs a1) fun y335 =>
  Option.bind (g_math_bits_Mul64 (IntKind.wrap IntKind.u64 y334) (IntKind.wrap IntKind.u64 y335)) fun y336 =>
  cond (decide (y333.1 > (IntKind.wrap IntKind.u64 (((BitVec.toNat ((BitVec.ofInt 64 (IntKind.wrap IntKind.u64 (y336.1 * ((2 : Int) ^ (Min.min (Int.toNat (1 : Int)) 64))))) ||| (BitVec.ofInt 64 (Int.fdiv y336.2 ((2 : Int) ^ (Min.min (Int.toNat (63 : Int)) 64)))))) : Nat) : Int))))
  (kx Bool.true)
  (cond (y333.1 == (IntKind.wrap IntKind.u64 (((BitVec.toNat ((BitVec.ofInt 64 (IntKind.wrap IntKind.u64 (y336.1 * ((2 : Int) ^ (Min.min (Int.toNat (1 : Int)) 64))))) ||| (BitVec.ofInt 64 (Int.fdiv y336.2 ((2 : Int) ^ (Min.min (Int.toNat (63 : Int)) 64)))))) : Nat) : Int)))
   (kx (decide (y333.2 > (IntKind.wrap IntKind.u64 (y336.2 * ((2 : Int) ^ (Min.min (Int.toNat (1 : Int)) 64)))))))
   (kx Bool.false))
noncomputable def g_impl_isGreater (a0 : Int) (a1 : Int) : Option (Bool) := t_impl_isGreater some a0 a1
theorem nat_impl_isGreater {R : Type} (kx : Bool → Option R) (a0 : Int) (a1 : Int) : t_impl_isGreater kx a0 a1 = (g_impl_isGreater a0 a1).bind kx := by
  unfold g_impl_isGreater t_impl_isGreater
  exact nat_bind fun _ => nat_bind fun _ => nat_bind fun _ => nat_bind fun _ => nat_bind fun _ => nat_bind fun _ => nat_cond (rfl) (nat_cond (rfl) (rfl))
abbrev as_impl_isGreater : List AX := [.val false (.int .i64), .val false (.int .i64)]
abbrev en_impl_isGreater : Bool → AV × List CV := fun b => (.one ⟨false, [(.v (.bool b))]⟩, [])
noncomputable abbrev k_impl_isGreater : Contract := .fx as_impl_isGreater (Bool) (fun z => g_impl_isGreater z.1 z.2.1) en_impl_isGreater
theorem r_impl_isGreater (z : argsX as_impl_isGreater) : runF (tab C0 T_impl_isGreater) noHints 1 Tryd.f124 (lentOf as_impl_isGreater) (xBoxes as_impl_isGreater z) (xVals as_impl_isGreater 0 z) K2 = t_impl_isGreater (fun b => some (en_impl_isGreater b)) z.1 z.2.1 := by kernel_rfl
theorem so_impl_isGreater : Sound C0 124 k_impl_isGreater :=
  Sound.fx a_impl_isGreater mixed Tryd.func124 (by kernel_rfl) (by kernel_rfl) noHints 1 noHints_ok (fun z => (r_impl_isGreater z).trans (nat_impl_isGreater _ z.1 z.2.1))

/-! ### F87 (impl.Num).sign -/
noncomputable def T_impl_Num_sign : List (FuncId × Contract) := [(123, k_impl_signOf), (124, k_impl_isGreater)]
theorem a_impl_Num_sign : AllSound C0 T_impl_Num_sign := .cons so_impl_signOf (.cons so_impl_isGreater (.nil))
noncomputable def t_impl_Num_sign {R : Type} (kx : Int → Option R) (a0 : (Int × (Int × Int))) : Option R :=
  Option.bind (g_impl_signOf a0.1) fun y324 =>
  Option.bind (g_impl_signOf a0.2.1) fun y325 =>
  cond (y324 == y325)
  (kx y324)
  (cond (y325 == (0 : Int))
   (kx y324)
   (cond (y324 == (0 : Int))
    (kx y325)
    (Option.bind (g_impl_isGreater a0.1 a0.2.1) fun y337 =>
     cond (!y337)
     (kx y325)
     (kx y324))))
noncomputable def g_impl_Num_sign (a0 : (Int × (Int × Int))) : Option (Int) := t_impl_Num_sign some a0
theorem nat_impl_Num_sign {R : Type} (kx : Int → Option R) (a0 : (Int × (Int × Int))) : t_impl_Num_sign kx a0 = (g_impl_Num_sign a0).bind kx := by
  unfold g_impl_Num_sign t_impl_Num_sign
  exact nat_bind fun _ => nat_bind fun _ => nat_cond (rfl) (nat_cond (rfl) (nat_cond (rfl) (nat_bind fun _ => nat_cond (rfl) (rfl))))
abbrev as_impl_Num_sign : List AX := [.val true (.pair (.int .i64) (.pair (.int .i64) (.int .i64)))]
abbrev en_impl_Num_sign : Int → AV × List CV := fun b => (.one ⟨false, [(.v (.int .i64 b))]⟩, [])
noncomputable abbrev k_impl_Num_sign : Contract := .fx as_impl_Num_sign (Int) (fun z => g_impl_Num_sign z.1) en_impl_Num_sign
theorem r_impl_Num_sign (z : argsX as_impl_Num_sign) : runF (tab C0 T_impl_Num_sign) noHints 1 Tryd.f87 (lentOf as_impl_Num_sign) (xBoxes as_impl_Num_sign z) (xVals as_impl_Num_sign 0 z) K2 = t_impl_Num_sign (fun b => some (en_impl_Num_sign b)) z.1 := by kernel_rfl
theorem so_impl_Num_sign : Sound C0 87 k_impl_Num_sign :=
  Sound.fx a_impl_Num_sign mixed Tryd.func87 (by kernel_rfl) (by kernel_rfl) noHints 1 noHints_ok (fun z => (r_impl_Num_sign z).trans (nat_impl_Num_sign _ z.1))

/-! ### F43 (impl.Line).side -/
noncomputable def T_impl_Line_side : List (FuncId × Contract) := [(84, k_impl_Line_normal), (85, k_impl_Point_dot), (86, k_impl_Num_minus), (87, k_impl_Num_sign)]
theorem a_impl_Line_side : AllSound C0 T_impl_Line_side := .cons so_impl_Line_normal (.cons so_impl_Point_dot (.cons so_impl_Num_minus (.cons so_impl_Num_sign (.nil))))
noncomputable def t_impl_Line_side {R : Type} (kx : Int → Option R) (a0 : (Int × (Int × (Int × Int)))) (a1 : ((Int × (Int × Int)) × (Int × (Int × Int)))) : Option R :=
  Option.bind (g_impl_Line_normal a0) fun y319 =>
  Option.bind (g_impl_Point_dot y319 a1) fun y320 =>
  Option.bind (g_impl_Num_minus y320 a0.2) fun y321 =>
  Option.bind (g_impl_Num_sign y321) fun y338 =>
  kx y338
noncomputable def g_impl_Line_side (a0 : (Int × (Int × (Int × Int)))) (a1 : ((Int × (Int × Int)) × (Int × (Int × Int)))) : Option (Int) := t_impl_Line_side some a0 a1
theorem nat_impl_Line_side {R : Type} (kx : Int → Option R) (a0 : (Int × (Int × (Int × Int)))) (a1 : ((Int × (Int × Int)) × (Int × (Int × Int)))) : t_impl_Line_side kx a0 a1 = (g_impl_Line_side a0 a1).bind kx := by
  unfold g_impl_Line_side t_impl_Line_side
  exact nat_bind fun _ => nat_bind fun _ => nat_bind fun _ => nat_bind fun _ => rfl
abbrev as_impl_Line_side : List AX := [.val true (.pair (.int .i64) (.pair (.int .i64) (.pair (.int .i64) (.int .i64)))), .val true (.pair (.pair (.int .i64) (.pair (.int .i64) (.int .i64))) (.pair (.int .i64) (.pair (.int .i64) (.int .i64))))]
abbrev en_impl_Line_side : Int → AV × List CV := fun b => (.one ⟨false, [(.v (.int .i64 b))]⟩, [])
noncomputable abbrev k_impl_Line_side : Contract := .fx as_impl_Line_side (Int) (fun z => g_impl_Line_side z.1 z.2.1) en_impl_Line_side
theorem r_impl_Line_side (z : argsX as_impl_Line_side) : runF (tab C0 T_impl_Line_side) noHints 1 Tryd.f43 (lentOf as_impl_Line_side) (xBoxes as_impl_Line_side z) (xVals as_impl_Line_side 0 z) K2 = t_impl_Line_side (fun b => some (en_impl_Line_side b)) z.1 z.2.1 := by kernel_rfl
theorem so_impl_Line_side : Sound C0 43 k_impl_Line_side :=
  Sound.fx a_impl_Line_side mixed Tryd.func43 (by kernel_rfl) (by kernel_rfl) noHints 1 noHints_ok (fun z => (r_impl_Line_side z).trans (nat_impl_Line_side _ z.1 z.2.1))

/-! ### F13 impl.AlignsPoint -/
noncomputable def T_impl_AlignsPoint : List (FuncId × Contract) := [(41, k_impl_ValidLine), (42, k_impl_ValidPoint), (44, k_impl_Line_reflect), (43, k_impl_Line_side)]
theorem a_impl_AlignsPoint : AllSound C0 T_impl_AlignsPoint := .cons so_impl_ValidLine (.cons so_impl_ValidPoint (.cons so_impl_Line_reflect (.cons so_impl_Line_side (.nil))))
noncomputable def t_impl_AlignsPoint {R : Type} (kx : Bool → Option R) (a0 : (Int × (Int × (Int × Int)))) (a1 : ((Int × (Int × Int)) × (Int × (Int × Int)))) (a2 : (Int × (Int × (Int × Int)))) : Option R :=
  Option.bind (g_impl_ValidLine a0) fun y223 =>
  cond y223
  (Option.bind (g_impl_ValidPoint a1) fun y227 =>
   cond y227
   (Option.bind (g_impl_ValidLine a2) fun y228 =>
    cond y228
    (Option.bind (g_impl_Line_reflect a0 a1) fun y316 =>
     Option.bind (g_impl_Line_side a2 y316) fun y339 =>
     kx (y339 == (0 : Int)))
    (kx Bool.false))
   (kx Bool.false))
  (kx Bool.false)
noncomputable def g_impl_AlignsPoint (a0 : (Int × (Int × (Int × Int)))) (a1 : ((Int × (Int × Int)) × (Int × (Int × Int)))) (a2 : (Int × (Int × (Int × Int)))) : Option (Bool) := t_impl_AlignsPoint some a0 a1 a2
theorem nat_impl_AlignsPoint {R : Type} (kx : Bool → Option R) (a0 : (Int × (Int × (Int × Int)))) (a1 : ((Int × (Int × Int)) × (Int × (Int × Int)))) (a2 : (Int × (Int × (Int × Int)))) : t_impl_AlignsPoint kx a0 a1 a2 = (g_impl_AlignsPoint a0 a1 a2).bind kx := by
  unfold g_impl_AlignsPoint t_impl_AlignsPoint
  exact nat_bind fun _ => nat_cond (nat_bind fun _ => nat_cond (nat_bind fun _ => nat_cond (nat_bind fun _ => nat_bind fun _ => rfl) (rfl)) (rfl)) (rfl)
abbrev as_impl_AlignsPoint : List AX := [.val true (.pair (.int .i64) (.pair (.int .i64) (.pair (.int .i64) (.int .i64)))), .val true (.pair (.pair (.int .i64) (.pair (.int .i64) (.int .i64))) (.pair (.int .i64) (.pair (.int .i64) (.int .i64)))), .val true (.pair (.int .i64) (.pair (.int .i64) (.pair (.int .i64) (.int .i64))))]
abbrev en_impl_AlignsPoint : Bool → AV × List CV := fun b => (.one ⟨false, [(.v (.bool b))]⟩, [])
noncomputable abbrev k_impl_AlignsPoint : Contract := .fx as_impl_AlignsPoint (Bool) (fun z => g_impl_AlignsPoint z.1 z.2.1 z.2.2.1) en_impl_AlignsPoint
theorem r_impl_AlignsPoint (z : argsX as_impl_AlignsPoint) : runF (tab C0 T_impl_AlignsPoint) noHints 1 Tryd.f13 (lentOf as_impl_AlignsPoint) (xBoxes as_impl_AlignsPoint z) (xVals as_impl_AlignsPoint 0 z) K2 = t_impl_AlignsPoint (fun b => some (en_impl_AlignsPoint b)) z.1 z.2.1 z.2.2.1 := by kernel_rfl
theorem so_impl_AlignsPoint : Sound C0 13 k_impl_AlignsPoint :=
  Sound.fx a_impl_AlignsPoint mixed Tryd.func13 (by kernel_rfl) (by kernel_rfl) noHints 1 noHints_ok (fun z => (r_impl_AlignsPoint z).trans (nat_impl_AlignsPoint _ z.1 z.2.1 z.2.2.1))

/-! ### F3 laws.FnExactAlignsPoint -/
noncomputable def T_laws_FnExactAlignsPoint : List (FuncId × Contract) := [(11, k_laws_toLine), (12, k_laws_toPoint), (10, k_spec_AlignsPoint), (13, k_impl_AlignsPoint)]
theorem a_laws_FnExactAlignsPoint : AllSound C0 T_laws_FnExactAlignsPoint := .cons so_laws_toLine (.cons so_laws_toPoint (.cons so_spec_AlignsPoint (.cons so_impl_AlignsPoint (.nil))))
noncomputable def t_laws_FnExactAlignsPoint {R : Type} (kx : Bool → Option R) (a0 : (Int × (Int × (Int × Int)))) (a1 : ((Int × (Int × Int)) × (Int × (Int × Int)))) (a2 : (Int × (Int × (Int × Int)))) : Option R :=
  Option.bind (g_laws_toLine a0) fun y6 =>
  Option.bind (g_laws_toPoint a1) fun y10 =>
  Option.bind (g_laws_toLine a2) fun y11 =>
  Option.bind (g_spec_AlignsPoint y6 y10 y11) fun y206 =>
  Option.bind (g_laws_toLine a0) fun y207 =>
  Option.bind (g_laws_toPoint a1) fun y208 =>
  Option.bind (g_laws_toLine a2) fun y209 =>
  Option.bind (g_impl_AlignsPoint y207 y208 y209) fun y340 =>
  cond (!(y340 == y206))
  (kx Bool.false)
  (kx Bool.true)
noncomputable def g_laws_FnExactAlignsPoint (a0 : (Int × (Int × (Int × Int)))) (a1 : ((Int × (Int × Int)) × (Int × (Int × Int)))) (a2 : (Int × (Int × (Int × Int)))) : Option (Bool) := t_laws_FnExactAlignsPoint some a0 a1 a2
theorem nat_laws_FnExactAlignsPoint {R : Type} (kx : Bool → Option R) (a0 : (Int × (Int × (Int × Int)))) (a1 : ((Int × (Int × Int)) × (Int × (Int × Int)))) (a2 : (Int × (Int × (Int × Int)))) : t_laws_FnExactAlignsPoint kx a0 a1 a2 = (g_laws_FnExactAlignsPoint a0 a1 a2).bind kx := by
  unfold g_laws_FnExactAlignsPoint t_laws_FnExactAlignsPoint
  exact nat_bind fun _ => nat_bind fun _ => nat_bind fun _ => nat_bind fun _ => nat_bind fun _ => nat_bind fun _ => nat_bind fun _ => nat_bind fun _ => nat_cond (rfl) (rfl)
abbrev as_laws_FnExactAlignsPoint : List AX := [.val true (.pair (.int .i64) (.pair (.int .i64) (.pair (.int .i64) (.int .i64)))), .val true (.pair (.pair (.int .i64) (.pair (.int .i64) (.int .i64))) (.pair (.int .i64) (.pair (.int .i64) (.int .i64)))), .val true (.pair (.int .i64) (.pair (.int .i64) (.pair (.int .i64) (.int .i64))))]
abbrev en_laws_FnExactAlignsPoint : Bool → AV × List CV := fun b => (.one ⟨false, [(.v (.bool b))]⟩, [])
noncomputable abbrev k_laws_FnExactAlignsPoint : Contract := .fx as_laws_FnExactAlignsPoint (Bool) (fun z => g_laws_FnExactAlignsPoint z.1 z.2.1 z.2.2.1) en_laws_FnExactAlignsPoint
theorem r_laws_FnExactAlignsPoint (z : argsX as_laws_FnExactAlignsPoint) : runF (tab C0 T_laws_FnExactAlignsPoint) noHints 1 Tryd.f3 (lentOf as_laws_FnExactAlignsPoint) (xBoxes as_laws_FnExactAlignsPoint z) (xVals as_laws_FnExactAlignsPoint 0 z) K2 = t_laws_FnExactAlignsPoint (fun b => some (en_laws_FnExactAlignsPoint b)) z.1 z.2.1 z.2.2.1 := by kernel_rfl
theorem so_laws_FnExactAlignsPoint : Sound C0 3 k_laws_FnExactAlignsPoint :=
  Sound.fx a_laws_FnExactAlignsPoint mixed Tryd.func3 (by kernel_rfl) (by kernel_rfl) noHints 1 noHints_ok (fun z => (r_laws_FnExactAlignsPoint z).trans (nat_laws_FnExactAlignsPoint _ z.1 z.2.1 z.2.2.1))

end Go.Proofs.YtocobkbckingoaaDoor
