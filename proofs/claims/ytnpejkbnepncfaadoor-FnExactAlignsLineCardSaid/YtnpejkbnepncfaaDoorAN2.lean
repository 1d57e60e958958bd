/- What the functions that AlignsLine reaches compute, printed. No conditions. -/
import Derived.Test.YtnpejkbnepncfaaDoorW1D
namespace Go.Proofs.YtnpejkbnepncfaaDoor
open Go.Vai
set_option maxRecDepth 100000

/-! ### F17 laws.toNum -/
noncomputable def T_laws_toNum : List (FuncId × Contract) := []
theorem a_laws_toNum : AllSound C0 T_laws_toNum := .nil
noncomputable def t_laws_toNum {R : Type} (kx : (Int × (Int × Int)) → Option R) (a0 : (Int × (Int × Int))) : Option R :=
  kx a0
noncomputable def g_laws_toNum (a0 : (Int × (Int × Int))) : Option ((Int × (Int × Int))) := t_laws_toNum some a0
theorem nat_laws_toNum {R : Type} (kx : (Int × (Int × Int)) → Option R) (a0 : (Int × (Int × Int))) : t_laws_toNum kx a0 = (g_laws_toNum a0).bind kx := by
  unfold g_laws_toNum t_laws_toNum
  exact rfl
abbrev as_laws_toNum : List AX := [.val true (.pair (.int .i64) (.pair (.int .i64) (.int .i64)))]
abbrev en_laws_toNum : (Int × (Int × Int)) → AV × List CV := fun b => (.one ⟨true, [(.v (.int .i64 b.1)), (.v (.int .i64 b.2.1)), (.v (.int .i64 b.2.2))]⟩, [])
noncomputable abbrev k_laws_toNum : Contract := .fx as_laws_toNum ((Int × (Int × Int))) (fun z => g_laws_toNum z.1) en_laws_toNum
theorem r_laws_toNum (z : argsX as_laws_toNum) : runF (tab C0 T_laws_toNum) noHints 1 Tryd.f17 (lentOf as_laws_toNum) (xBoxes as_laws_toNum z) (xVals as_laws_toNum 0 z) K2 = t_laws_toNum (fun b => some (en_laws_toNum b)) z.1 := by kernel_rfl
theorem so_laws_toNum : Sound C0 17 k_laws_toNum :=
  Sound.fx a_laws_toNum mixed Tryd.func17 (by kernel_rfl) (by kernel_rfl) noHints 1 noHints_ok (fun z => (r_laws_toNum z).trans (nat_laws_toNum _ z.1))

/-! ### F6 laws.toLine -/
noncomputable def T_laws_toLine : List (FuncId × Contract) := [(17, k_laws_toNum)]
theorem a_laws_toLine : AllSound C0 T_laws_toLine := .cons so_laws_toNum (.nil)
noncomputable def t_laws_toLine {R : Type} (kx : (Int × (Int × (Int × Int))) → Option R) (a0 : (Int × (Int × (Int × Int)))) : Option R :=
  Option.bind (g_laws_toNum a0.2) fun y5 =>
  kx (a0.1, y5)
noncomputable def g_laws_toLine (a0 : (Int × (Int × (Int × Int)))) : Option ((Int × (Int × (Int × Int)))) := t_laws_toLine some a0
theorem nat_laws_toLine {R : Type} (kx : (Int × (Int × (Int × Int))) → Option R) (a0 : (Int × (Int × (Int × Int)))) : t_laws_toLine kx a0 = (g_laws_toLine a0).bind kx := by
  unfold g_laws_toLine t_laws_toLine
  exact nat_bind fun _ => rfl
abbrev as_laws_toLine : List AX := [.val true (.pair (.int .i64) (.pair (.int .i64) (.pair (.int .i64) (.int .i64))))]
abbrev en_laws_toLine : (Int × (Int × (Int × Int))) → AV × List CV := fun b => (.one ⟨true, [(.v (.int .i64 b.1)), (.v (.int .i64 b.2.1)), (.v (.int .i64 b.2.2.1)), (.v (.int .i64 b.2.2.2))]⟩, [])
noncomputable abbrev k_laws_toLine : Contract := .fx as_laws_toLine ((Int × (Int × (Int × Int)))) (fun z => g_laws_toLine z.1) en_laws_toLine
theorem r_laws_toLine (z : argsX as_laws_toLine) : runF (tab C0 T_laws_toLine) noHints 1 Tryd.f6 (lentOf as_laws_toLine) (xBoxes as_laws_toLine z) (xVals as_laws_toLine 0 z) K2 = t_laws_toLine (fun b => some (en_laws_toLine b)) z.1 := by kernel_rfl
theorem so_laws_toLine : Sound C0 6 k_laws_toLine :=
  Sound.fx a_laws_toLine mixed Tryd.func6 (by kernel_rfl) (by kernel_rfl) noHints 1 noHints_ok (fun z => (r_laws_toLine z).trans (nat_laws_toLine _ z.1))

/-! ### F31 spec.l00In -/
noncomputable def T_spec_l00In : List (FuncId × Contract) := []
theorem a_spec_l00In : AllSound C0 T_spec_l00In := .nil
noncomputable def t_spec_l00In {R : Type} (kx : Bool → Option R) (a0 : Int) (a1 : Int) (a2 : Int) : Option R :=
  cond (decide (a0 ≥ a1))
  (kx (decide (a0 ≤ a2)))
  (kx Bool.false)
noncomputable def g_spec_l00In (a0 : Int) (a1 : Int) (a2 : Int) : Option (Bool) := t_spec_l00In some a0 a1 a2
theorem nat_spec_l00In {R : Type} (kx : Bool → Option R) (a0 : Int) (a1 : Int) (a2 : Int) : t_spec_l00In kx a0 a1 a2 = (g_spec_l00In a0 a1 a2).bind kx := by
  unfold g_spec_l00In t_spec_l00In
  exact nat_cond (rfl) (rfl)
abbrev as_spec_l00In : List AX := [.val false (.int .i64), .val false (.int .i64), .val false (.int .i64)]
abbrev en_spec_l00In : Bool → AV × List CV := fun b => (.one ⟨false, [(.v (.bool b))]⟩, [])
noncomputable abbrev k_spec_l00In : Contract := .fx as_spec_l00In (Bool) (fun z => g_spec_l00In z.1 z.2.1 z.2.2.1) en_spec_l00In
theorem r_spec_l00In (z : argsX as_spec_l00In) : runF (tab C0 T_spec_l00In) noHints 1 Tryd.f31 (lentOf as_spec_l00In) (xBoxes as_spec_l00In z) (xVals as_spec_l00In 0 z) K2 = t_spec_l00In (fun b => some (en_spec_l00In b)) z.1 z.2.1 z.2.2.1 := by kernel_rfl
theorem so_spec_l00In : Sound C0 31 k_spec_l00In :=
  Sound.fx a_spec_l00In mixed Tryd.func31 (by kernel_rfl) (by kernel_rfl) noHints 1 noHints_ok (fun z => (r_spec_l00In z).trans (nat_spec_l00In _ z.1 z.2.1 z.2.2.1))

/-! ### F32 spec.l01Ok -/
noncomputable def T_spec_l01Ok : List (FuncId × Contract) := [(31, k_spec_l00In)]
theorem a_spec_l01Ok : AllSound C0 T_spec_l01Ok := .cons so_spec_l00In (.nil)
noncomputable def t_spec_l01Ok {R : Type} (kx : Bool → Option R) (a0 : (Int × (Int × Int))) : Option R :=
  Option.bind (g_spec_l00In a0.1 (-(131072 : Int)) (131072 : Int)) fun y18 =>
  cond (!y18)
  (kx Bool.false)
  (Option.bind (g_spec_l00In a0.2.1 (-(131072 : Int)) (131072 : Int)) fun y19 =>
   cond (!y19)
   (kx Bool.false)
   (Option.bind (g_spec_l00In a0.2.2 (0 : Int) (10 : Int)) fun y20 =>
    cond (!y20)
    (kx Bool.false)
    (cond (a0.2.2 == (0 : Int))
     (kx Bool.true)
     (cond ((Int.tmod a0.1 (2 : Int)) != (0 : Int))
      (kx Bool.true)
      (kx ((Int.tmod a0.2.1 (2 : Int)) != (0 : Int)))))))
noncomputable def g_spec_l01Ok (a0 : (Int × (Int × Int))) : Option (Bool) := t_spec_l01Ok some a0
theorem nat_spec_l01Ok {R : Type} (kx : Bool → Option R) (a0 : (Int × (Int × Int))) : t_spec_l01Ok kx a0 = (g_spec_l01Ok a0).bind kx := by
  unfold g_spec_l01Ok t_spec_l01Ok
  exact nat_bind fun _ => nat_cond (rfl) (nat_bind fun _ => nat_cond (rfl) (nat_bind fun _ => nat_cond (rfl) (nat_cond (rfl) (nat_cond (rfl) (rfl)))))
abbrev as_spec_l01Ok : List AX := [.val true (.pair (.int .i64) (.pair (.int .i64) (.int .i64)))]
abbrev en_spec_l01Ok : Bool → AV × List CV := fun b => (.one ⟨false, [(.v (.bool b))]⟩, [])
noncomputable abbrev k_spec_l01Ok : Contract := .fx as_spec_l01Ok (Bool) (fun z => g_spec_l01Ok z.1) en_spec_l01Ok
theorem r_spec_l01Ok (z : argsX as_spec_l01Ok) : runF (tab C0 T_spec_l01Ok) noHints 1 Tryd.f32 (lentOf as_spec_l01Ok) (xBoxes as_spec_l01Ok z) (xVals as_spec_l01Ok 0 z) K2 = t_spec_l01Ok (fun b => some (en_spec_l01Ok b)) z.1 := by kernel_rfl
theorem so_spec_l01Ok : Sound C0 32 k_spec_l01Ok :=
  Sound.fx a_spec_l01Ok mixed Tryd.func32 (by kernel_rfl) (by kernel_rfl) noHints 1 noHints_ok (fun z => (r_spec_l01Ok z).trans (nat_spec_l01Ok _ z.1))

/-! ### F12 spec.l02Line -/
noncomputable def T_spec_l02Line : List (FuncId × Contract) := [(31, k_spec_l00In), (32, k_spec_l01Ok)]
theorem a_spec_l02Line : AllSound C0 T_spec_l02Line := .cons so_spec_l00In (.cons so_spec_l01Ok (.nil))
noncomputable def t_spec_l02Line {R : Type} (kx : Bool → Option R) (a0 : (Int × (Int × (Int × Int)))) : Option R :=
  Option.bind (g_spec_l00In a0.1 (0 : Int) (7 : Int)) fun y16 =>
  cond y16
  (Option.bind (g_spec_l01Ok a0.2) fun y21 =>
   kx y21)
  (kx Bool.false)
noncomputable def g_spec_l02Line (a0 : (Int × (Int × (Int × Int)))) : Option (Bool) := t_spec_l02Line some a0
theorem nat_spec_l02Line {R : Type} (kx : Bool → Option R) (a0 : (Int × (Int × (Int × Int)))) : t_spec_l02Line kx a0 = (g_spec_l02Line a0).bind kx := by
  unfold g_spec_l02Line t_spec_l02Line
  exact nat_bind fun _ => nat_cond (nat_bind fun _ => rfl) (rfl)
abbrev as_spec_l02Line : List AX := [.val true (.pair (.int .i64) (.pair (.int .i64) (.pair (.int .i64) (.int .i64))))]
abbrev en_spec_l02Line : Bool → AV × List CV := fun b => (.one ⟨false, [(.v (.bool b))]⟩, [])
noncomputable abbrev k_spec_l02Line : Contract := .fx as_spec_l02Line (Bool) (fun z => g_spec_l02Line z.1) en_spec_l02Line
theorem r_spec_l02Line (z : argsX as_spec_l02Line) : runF (tab C0 T_spec_l02Line) noHints 1 Tryd.f12 (lentOf as_spec_l02Line) (xBoxes as_spec_l02Line z) (xVals as_spec_l02Line 0 z) K2 = t_spec_l02Line (fun b => some (en_spec_l02Line b)) z.1 := by kernel_rfl
theorem so_spec_l02Line : Sound C0 12 k_spec_l02Line :=
  Sound.fx a_spec_l02Line mixed Tryd.func12 (by kernel_rfl) (by kernel_rfl) noHints 1 noHints_ok (fun z => (r_spec_l02Line z).trans (nat_spec_l02Line _ z.1))

/-! ### F28 spec.l01Of -/
noncomputable def T_spec_l01Of : List (FuncId × Contract) := []
theorem a_spec_l01Of : AllSound C0 T_spec_l01Of := .nil
noncomputable def t_spec_l01Of {R : Type} (kx : (Int × (Int × Int)) → Option R) (a0 : (Int × (Int × Int))) : Option R :=
  kx a0
noncomputable def g_spec_l01Of (a0 : (Int × (Int × Int))) : Option ((Int × (Int × Int))) := t_spec_l01Of some a0
theorem nat_spec_l01Of {R : Type} (kx : (Int × (Int × Int)) → Option R) (a0 : (Int × (Int × Int))) : t_spec_l01Of kx a0 = (g_spec_l01Of a0).bind kx := by
  unfold g_spec_l01Of t_spec_l01Of
  exact rfl
abbrev as_spec_l01Of : List AX := [.val true (.pair (.int .i64) (.pair (.int .i64) (.int .i64)))]
abbrev en_spec_l01Of : (Int × (Int × Int)) → AV × List CV := fun b => (.one ⟨true, [(.v (.int .i64 b.1)), (.v (.int .i64 b.2.1)), (.v (.int .i64 b.2.2))]⟩, [])
noncomputable abbrev k_spec_l01Of : Contract := .fx as_spec_l01Of ((Int × (Int × Int))) (fun z => g_spec_l01Of z.1) en_spec_l01Of
theorem r_spec_l01Of (z : argsX as_spec_l01Of) : runF (tab C0 T_spec_l01Of) noHints 1 Tryd.f28 (lentOf as_spec_l01Of) (xBoxes as_spec_l01Of z) (xVals as_spec_l01Of 0 z) K2 = t_spec_l01Of (fun b => some (en_spec_l01Of b)) z.1 := by kernel_rfl
theorem so_spec_l01Of : Sound C0 28 k_spec_l01Of :=
  Sound.fx a_spec_l01Of mixed Tryd.func28 (by kernel_rfl) (by kernel_rfl) noHints 1 noHints_ok (fun z => (r_spec_l01Of z).trans (nat_spec_l01Of _ z.1))

/-! ### F24 spec.l02LineOf -/
noncomputable def T_spec_l02LineOf : List (FuncId × Contract) := [(28, k_spec_l01Of)]
theorem a_spec_l02LineOf : AllSound C0 T_spec_l02LineOf := .cons so_spec_l01Of (.nil)
noncomputable def t_spec_l02LineOf {R : Type} (kx : (Int × (Int × (Int × Int))) → Option R) (a0 : (Int × (Int × (Int × Int)))) : Option R :=
  Option.bind (g_spec_l01Of a0.2) fun y27 =>
  kx (a0.1, y27)
noncomputable def g_spec_l02LineOf (a0 : (Int × (Int × (Int × Int)))) : Option ((Int × (Int × (Int × Int)))) := t_spec_l02LineOf some a0
theorem nat_spec_l02LineOf {R : Type} (kx : (Int × (Int × (Int × Int))) → Option R) (a0 : (Int × (Int × (Int × Int)))) : t_spec_l02LineOf kx a0 = (g_spec_l02LineOf a0).bind kx := by
  unfold g_spec_l02LineOf t_spec_l02LineOf
  exact nat_bind fun _ => rfl
abbrev as_spec_l02LineOf : List AX := [.val true (.pair (.int .i64) (.pair (.int .i64) (.pair (.int .i64) (.int .i64))))]
abbrev en_spec_l02LineOf : (Int × (Int × (Int × Int))) → AV × List CV := fun b => (.one ⟨true, [(.v (.int .i64 b.1)), (.v (.int .i64 b.2.1)), (.v (.int .i64 b.2.2.1)), (.v (.int .i64 b.2.2.2))]⟩, [])
noncomputable abbrev k_spec_l02LineOf : Contract := .fx as_spec_l02LineOf ((Int × (Int × (Int × Int)))) (fun z => g_spec_l02LineOf z.1) en_spec_l02LineOf
theorem r_spec_l02LineOf (z : argsX as_spec_l02LineOf) : runF (tab C0 T_spec_l02LineOf) noHints 1 Tryd.f24 (lentOf as_spec_l02LineOf) (xBoxes as_spec_l02LineOf z) (xVals as_spec_l02LineOf 0 z) K2 = t_spec_l02LineOf (fun b => some (en_spec_l02LineOf b)) z.1 := by kernel_rfl
theorem so_spec_l02LineOf : Sound C0 24 k_spec_l02LineOf :=
  Sound.fx a_spec_l02LineOf mixed Tryd.func24 (by kernel_rfl) (by kernel_rfl) noHints 1 noHints_ok (fun z => (r_spec_l02LineOf z).trans (nat_spec_l02LineOf _ z.1))

/-! ### F34 spec.l02Mod -/
noncomputable def T_spec_l02Mod : List (FuncId × Contract) := []
theorem a_spec_l02Mod : AllSound C0 T_spec_l02Mod := .nil
noncomputable def t_spec_l02Mod {R : Type} (kx : Int → Option R) (a0 : Int) : Option R :=
  kx (Int.tmod (IntKind.wrap IntKind.i64 ((Int.tmod a0 (16 : Int)) + (16 : Int))) (16 : Int))
noncomputable def g_spec_l02Mod (a0 : Int) : Option (Int) := t_spec_l02Mod some a0
theorem nat_spec_l02Mod {R : Type} (kx : Int → Option R) (a0 : Int) : t_spec_l02Mod kx a0 = (g_spec_l02Mod a0).bind kx := by
  unfold g_spec_l02Mod t_spec_l02Mod
  exact rfl
abbrev as_spec_l02Mod : List AX := [.val false (.int .i64)]
abbrev en_spec_l02Mod : Int → AV × List CV := fun b => (.one ⟨false, [(.v (.int .i64 b))]⟩, [])
noncomputable abbrev k_spec_l02Mod : Contract := .fx as_spec_l02Mod (Int) (fun z => g_spec_l02Mod z.1) en_spec_l02Mod
theorem r_spec_l02Mod (z : argsX as_spec_l02Mod) : runF (tab C0 T_spec_l02Mod) noHints 1 Tryd.f34 (lentOf as_spec_l02Mod) (xBoxes as_spec_l02Mod z) (xVals as_spec_l02Mod 0 z) K2 = t_spec_l02Mod (fun b => some (en_spec_l02Mod b)) z.1 := by kernel_rfl
theorem so_spec_l02Mod : Sound C0 34 k_spec_l02Mod :=
  Sound.fx a_spec_l02Mod mixed Tryd.func34 (by kernel_rfl) (by kernel_rfl) noHints 1 noHints_ok (fun z => (r_spec_l02Mod z).trans (nat_spec_l02Mod _ z.1))

/-! ### F40 spec.l02Vec -/
noncomputable def T_spec_l02Vec : List (FuncId × Contract) := [(34, k_spec_l02Mod)]
theorem a_spec_l02Vec : AllSound C0 T_spec_l02Vec := .cons so_spec_l02Mod (.nil)
noncomputable def t_spec_l02Vec {R : Type} (kx : ((Int × (Int × Int)) × (Int × (Int × Int))) → Option R) (a0 : Int) : Option R :=
  Option.bind (g_spec_l02Mod a0) fun y33 =>
  Option.bind (idx [(((1 : Int), ((0 : Int), (0 : Int))), ((0 : Int), ((0 : Int), (0 : Int)))), (((1 : Int), ((0 : Int), (0 : Int))), ((-(1 : Int)), ((1 : Int), (0 : Int)))), (((1 : Int), ((0 : Int), (0 : Int))), ((1 : Int), ((0 : Int), (0 : Int)))), (((-(1 : Int)), ((1 : Int), (0 : Int))), ((1 : Int), ((0 : Int), (0 : Int)))), (((0 : Int), ((0 : Int), (0 : Int))), ((1 : Int), ((0 : Int), (0 : Int)))), (((1 : Int), ((-(1 : Int)), (0 : Int))), ((1 : Int), ((0 : Int), (0 : Int)))), (((-(1 : Int)), ((0 : Int), (0 : Int))), ((1 : Int), ((0 : Int), (0 : Int)))), (((-(1 : Int)), ((0 : Int), (0 : Int))), ((-(1 : Int)), ((1 : Int), (0 : Int))))] (Int.tmod y33 (8 : Int))) fun y34 =>
  cond (decide (y33 ≥ (8 : Int)))
  (kx (((IntKind.wrap IntKind.i64 ((0 : Int) - y34.1.1)), ((IntKind.wrap IntKind.i64 ((0 : Int) - y34.1.2.1)), (0 : Int))), ((IntKind.wrap IntKind.i64 ((0 : Int) - y34.2.1)), ((IntKind.wrap IntKind.i64 ((0 : Int) - y34.2.2.1)), (0 : Int)))))
  (kx y34)
noncomputable def g_spec_l02Vec (a0 : Int) : Option (((Int × (Int × Int)) × (Int × (Int × Int)))) := t_spec_l02Vec some a0
theorem nat_spec_l02Vec {R : Type} (kx : ((Int × (Int × Int)) × (Int × (Int × Int))) → Option R) (a0 : Int) : t_spec_l02Vec kx a0 = (g_spec_l02Vec a0).bind kx := by
  unfold g_spec_l02Vec t_spec_l02Vec
  exact nat_bind fun _ => nat_bind fun _ => nat_cond (rfl) (rfl)
abbrev as_spec_l02Vec : List AX := [.val false (.int .i64)]
abbrev en_spec_l02Vec : ((Int × (Int × Int)) × (Int × (Int × Int))) → AV × List CV := fun b => (.one ⟨true, [(.v (.int .i64 b.1.1)), (.v (.int .i64 b.1.2.1)), (.v (.int .i64 b.1.2.2)), (.v (.int .i64 b.2.1)), (.v (.int .i64 b.2.2.1)), (.v (.int .i64 b.2.2.2))]⟩, [])
noncomputable abbrev k_spec_l02Vec : Contract := .fx as_spec_l02Vec (((Int × (Int × Int)) × (Int × (Int × Int)))) (fun z => g_spec_l02Vec z.1) en_spec_l02Vec
theorem r_spec_l02Vec (z : argsX as_spec_l02Vec) : runF (tab C0 T_spec_l02Vec) noHints 1 Tryd.f40 (lentOf as_spec_l02Vec) (xBoxes as_spec_l02Vec z) (xVals as_spec_l02Vec 0 z) K2 = t_spec_l02Vec (fun b => some (en_spec_l02Vec b)) z.1 := by kernel_rfl
theorem so_spec_l02Vec : Sound C0 40 k_spec_l02Vec :=
  Sound.fx a_spec_l02Vec mixed Tryd.func40 (by kernel_rfl) (by kernel_rfl) noHints 1 noHints_ok (fun z => (r_spec_l02Vec z).trans (nat_spec_l02Vec _ z.1))

/-! ### F16 spec.l02Of -/
noncomputable def T_spec_l02Of : List (FuncId × Contract) := [(28, k_spec_l01Of)]
theorem a_spec_l02Of : AllSound C0 T_spec_l02Of := .cons so_spec_l01Of (.nil)
noncomputable def t_spec_l02Of {R : Type} (kx : ((Int × (Int × Int)) × (Int × (Int × Int))) → Option R) (a0 : ((Int × (Int × Int)) × (Int × (Int × Int)))) : Option R :=
  Option.bind (g_spec_l01Of a0.1) fun y37 =>
  Option.bind (g_spec_l01Of a0.2) fun y38 =>
  kx (y37, y38)
noncomputable def g_spec_l02Of (a0 : ((Int × (Int × Int)) × (Int × (Int × Int)))) : Option (((Int × (Int × Int)) × (Int × (Int × Int)))) := t_spec_l02Of some a0
theorem nat_spec_l02Of {R : Type} (kx : ((Int × (Int × Int)) × (Int × (Int × Int))) → Option R) (a0 : ((Int × (Int × Int)) × (Int × (Int × Int)))) : t_spec_l02Of kx a0 = (g_spec_l02Of a0).bind kx := by
  unfold g_spec_l02Of t_spec_l02Of
  exact nat_bind fun _ => nat_bind fun _ => rfl
abbrev as_spec_l02Of : List AX := [.val true (.pair (.pair (.int .i64) (.pair (.int .i64) (.int .i64))) (.pair (.int .i64) (.pair (.int .i64) (.int .i64))))]
abbrev en_spec_l02Of : ((Int × (Int × Int)) × (Int × (Int × Int))) → AV × List CV := fun b => (.one ⟨true, [(.v (.int .i64 b.1.1)), (.v (.int .i64 b.1.2.1)), (.v (.int .i64 b.1.2.2)), (.v (.int .i64 b.2.1)), (.v (.int .i64 b.2.2.1)), (.v (.int .i64 b.2.2.2))]⟩, [])
noncomputable abbrev k_spec_l02Of : Contract := .fx as_spec_l02Of (((Int × (Int × Int)) × (Int × (Int × Int)))) (fun z => g_spec_l02Of z.1) en_spec_l02Of
theorem r_spec_l02Of (z : argsX as_spec_l02Of) : runF (tab C0 T_spec_l02Of) noHints 1 Tryd.f16 (lentOf as_spec_l02Of) (xBoxes as_spec_l02Of z) (xVals as_spec_l02Of 0 z) K2 = t_spec_l02Of (fun b => some (en_spec_l02Of b)) z.1 := by kernel_rfl
theorem so_spec_l02Of : Sound C0 16 k_spec_l02Of :=
  Sound.fx a_spec_l02Of mixed Tryd.func16 (by kernel_rfl) (by kernel_rfl) noHints 1 noHints_ok (fun z => (r_spec_l02Of z).trans (nat_spec_l02Of _ z.1))

/-! ### F55 spec.l01Low -/
noncomputable def T_spec_l01Low : List (FuncId × Contract) := []
theorem a_spec_l01Low : AllSound C0 T_spec_l01Low := .nil
abbrev s_spec_l01Low_4 : LS := ⟨[(false, [(.ptr 1 0)]), (false, [(.ptr 2 0)])], [(false, [(.int .i64), (.int .i64), (.int .i64)]), (false, [(.int .i64), (.int .i64), (.int .i64)])], []⟩
abbrev e_spec_l01Low_4_0 : LS := ⟨[(false, [(.ptr 1 0)]), (false, [(.ptr 2 0)])], [(false, [(.int .i64), (.int .i64), (.int .i64)]), (false, [(.int .i64), (.int .i64), (.int .i64)])], []⟩
abbrev d_spec_l01Low_4_0 (v0 : Int) (v1 : Int) (v2 : Int) (v3 : Int) (v4 : Int) (v5 : Int) : e_spec_l01Low_4_0.T := ((((), ()), ((), ()), ()), ((v0, v1, v2, ()), (v3, v4, v5, ()), ()), ())
abbrev x_spec_l01Low_4 : List (Ex × LS) := [(.exit 0, e_spec_l01Low_4_0)]
abbrev m_spec_l01Low_4 (b0_0 : Int) (b0_1 : Int) (b0_2 : Int) (b1_0 : Int) (b1_1 : Int) (b1_2 : Int) : s_spec_l01Low_4.T := ((((), ()), ((), ()), ()), ((b0_0, b0_1, b0_2, ()), (b1_0, b1_1, b1_2, ()), ()), ())
noncomputable def u_spec_l01Low_4 {R : Type} (nx : s_spec_l01Low_4.T → Option R) (hx : exH R x_spec_l01Low_4) (b0_0 : Int) (b0_1 : Int) (b0_2 : Int) (b1_0 : Int) (b1_1 : Int) (b1_2 : Int) : Option R :=
  cond (decide (b0_2 > (0 : Int)))
  (cond ((Int.tmod b0_0 (2 : Int)) == (0 : Int))
   (cond ((Int.tmod b0_1 (2 : Int)) == (0 : Int))
    (nx (m_spec_l01Low_4 (IntKind.wrap IntKind.i64 (Int.tdiv b0_0 (2 : Int))) (IntKind.wrap IntKind.i64 (Int.tdiv b0_1 (2 : Int))) (IntKind.wrap IntKind.i64 (b0_2 - (1 : Int))) b1_0 b1_1 b1_2))
    (hx.1 (d_spec_l01Low_4_0 b0_0 b0_1 b0_2 b1_0 b1_1 b1_2)))
   (hx.1 (d_spec_l01Low_4_0 b0_0 b0_1 b0_2 b1_0 b1_1 b1_2)))
  (hx.1 (d_spec_l01Low_4_0 b0_0 b0_1 b0_2 b1_0 b1_1 b1_2))
noncomputable def t_spec_l01Low_4 {R : Type} (nx : s_spec_l01Low_4.T → Option R) (hx : exH R x_spec_l01Low_4) (z : s_spec_l01Low_4.T) : Option R := u_spec_l01Low_4 nx hx z.2.1.1.1 z.2.1.1.2.1 z.2.1.1.2.2.1 z.2.1.2.1.1 z.2.1.2.1.2.1 z.2.1.2.1.2.2.1
theorem nat_spec_l01Low_4 : Natural @t_spec_l01Low_4 := fun R nx hx z => by
  show u_spec_l01Low_4 nx hx z.2.1.1.1 z.2.1.1.2.1 z.2.1.1.2.2.1 z.2.1.2.1.1 z.2.1.2.1.2.1 z.2.1.2.1.2.2.1 = (u_spec_l01Low_4 (fun y => some (.inl y)) (hIn x_spec_l01Low_4 fun x => some (.inr x)) z.2.1.1.1 z.2.1.1.2.1 z.2.1.1.2.2.1 z.2.1.2.1.1 z.2.1.2.1.2.1 z.2.1.2.1.2.2.1).bind (goOn nx hx)
  unfold u_spec_l01Low_4
  exact nat_cond (nat_cond (nat_cond (rfl) (rfl)) (rfl)) (rfl)
noncomputable def w_spec_l01Low_4 : s_spec_l01Low_4.T → Option (exT x_spec_l01Low_4) := wOf @t_spec_l01Low_4
theorem wq_spec_l01Low_4 (b0_0 : Int) (b0_1 : Int) (b0_2 : Int) (b1_0 : Int) (b1_1 : Int) (b1_2 : Int) : w_spec_l01Low_4 (m_spec_l01Low_4 b0_0 b0_1 b0_2 b1_0 b1_1 b1_2) = u_spec_l01Low_4 w_spec_l01Low_4 (hIn x_spec_l01Low_4 some) b0_0 b0_1 b0_2 b1_0 b1_1 b1_2 := wOf_eq nat_spec_l01Low_4 _
def lh_spec_l01Low_4 : LoopHint := ⟨[1, 2], [1, 2], [1, 2], [1, 2]⟩
noncomputable def h_spec_l01Low : Hints Rv := ⟨fun k => match k with | 4 => lh_spec_l01Low_4 | _ => ⟨[], [], [], []⟩, fun k => match k with | 4 => some (loopX s_spec_l01Low_4 x_spec_l01Low_4 w_spec_l01Low_4) | _ => none⟩
theorem st_spec_l01Low_4 (n : Nat) (z : s_spec_l01Low_4.T) (k : Ex → Live → Option Rv) : loopN ⟨40, 40⟩ lh_spec_l01Low_4 (den (tab C0 T_spec_l01Low) ⟨40, 40⟩ h_spec_l01Low 1 (loopOf Tryd.f55 3)) (n + 1) (s_spec_l01Low_4.enc z) k =
    t_spec_l01Low_4 (fun y => loopN ⟨40, 40⟩ lh_spec_l01Low_4 (den (tab C0 T_spec_l01Low) ⟨40, 40⟩ h_spec_l01Low 1 (loopOf Tryd.f55 3)) n (s_spec_l01Low_4.enc y) k) (hK k x_spec_l01Low_4) z := by kernel_rfl
theorem hs_spec_l01Low : HintsOk (tab C0 T_spec_l01Low) ⟨40, 40⟩ h_spec_l01Low 1 (loops (codeOf Tryd.f55)) := by
  have hl : loops (codeOf Tryd.f55) = [loopOf Tryd.f55 3] := by kernel_rfl
  rw [hl]
  exact HintsOk.cons (n := 4) (lh := lh_spec_l01Low_4) (S := loopX s_spec_l01Low_4 x_spec_l01Low_4 w_spec_l01Low_4) (by kernel_rfl) rfl rfl (loopX_ok nat_spec_l01Low_4 st_spec_l01Low_4)
    (HintsOk.nil)
noncomputable def t_spec_l01Low {R : Type} (kx : (Int × (Int × Int)) → Option R) (a0 : (Int × (Int × Int))) : Option R :=
  cond (a0.1 == (0 : Int))
  (cond (a0.2.1 == (0 : Int))
   (kx ((0 : Int), ((0 : Int), (0 : Int))))
   (Option.bind (w_spec_l01Low_4 (m_spec_l01Low_4 a0.1 a0.2.1 a0.2.2 (0 : Int) (0 : Int) (0 : Int))) (exC x_spec_l01Low_4
    (fun e52 =>
     kx ((e52.2.1.1.1 : Int), ((e52.2.1.1.2.1 : Int), (e52.2.1.1.2.2.1 : Int))), ()))))
  (Option.bind (w_spec_l01Low_4 (m_spec_l01Low_4 a0.1 a0.2.1 a0.2.2 (0 : Int) (0 : Int) (0 : Int))) (exC x_spec_l01Low_4
   (fun e59 =>
    kx ((e59.2.1.1.1 : Int), ((e59.2.1.1.2.1 : Int), (e59.2.1.1.2.2.1 : Int))), ())))
noncomputable def g_spec_l01Low (a0 : (Int × (Int × Int))) : Option ((Int × (Int × Int))) := t_spec_l01Low some a0
theorem nat_spec_l01Low {R : Type} (kx : (Int × (Int × Int)) → Option R) (a0 : (Int × (Int × Int))) : t_spec_l01Low kx a0 = (g_spec_l01Low a0).bind kx := by
  unfold g_spec_l01Low t_spec_l01Low
  exact nat_cond (nat_cond (rfl) (nat_exC ⟨fun _ => rfl, trivial⟩)) (nat_exC ⟨fun _ => rfl, trivial⟩)
abbrev as_spec_l01Low : List AX := [.val true (.pair (.int .i64) (.pair (.int .i64) (.int .i64)))]
abbrev en_spec_l01Low : (Int × (Int × Int)) → AV × List CV := fun b => (.one ⟨true, [(.v (.int .i64 b.1)), (.v (.int .i64 b.2.1)), (.v (.int .i64 b.2.2))]⟩, [])
noncomputable abbrev k_spec_l01Low : Contract := .fx as_spec_l01Low ((Int × (Int × Int))) (fun z => g_spec_l01Low z.1) en_spec_l01Low
theorem r_spec_l01Low (z : argsX as_spec_l01Low) : runF (tab C0 T_spec_l01Low) h_spec_l01Low 1 Tryd.f55 (lentOf as_spec_l01Low) (xBoxes as_spec_l01Low z) (xVals as_spec_l01Low 0 z) K2 = t_spec_l01Low (fun b => some (en_spec_l01Low b)) z.1 := by kernel_rfl
theorem so_spec_l01Low : Sound C0 55 k_spec_l01Low :=
  Sound.fx a_spec_l01Low mixed Tryd.func55 (by kernel_rfl) (by kernel_rfl) h_spec_l01Low 1 hs_spec_l01Low (fun z => (r_spec_l01Low z).trans (nat_spec_l01Low _ z.1))

/-! ### F45 spec.l01Mul -/
noncomputable def T_spec_l01Mul : List (FuncId × Contract) := [(55, k_spec_l01Low)]
theorem a_spec_l01Mul : AllSound C0 T_spec_l01Mul := .cons so_spec_l01Low (.nil)
noncomputable def t_spec_l01Mul {R : Type} (kx : (Int × (Int × Int)) → Option R) (a0 : (Int × (Int × Int))) (a1 : (Int × (Int × Int))) : Option R :=
  Option.bind (g_spec_l01Low ((IntKind.wrap IntKind.i64 ((IntKind.wrap IntKind.i64 (a0.1 * a1.1)) + (IntKind.wrap IntKind.i64 ((IntKind.wrap IntKind.i64 ((2 : Int) * a0.2.1)) * a1.2.1)))), ((IntKind.wrap IntKind.i64 ((IntKind.wrap IntKind.i64 (a0.1 * a1.2.1)) + (IntKind.wrap IntKind.i64 (a0.2.1 * a1.1)))), (IntKind.wrap IntKind.i64 (a0.2.2 + a1.2.2))))) fun y66 =>
  kx y66
noncomputable def g_spec_l01Mul (a0 : (Int × (Int × Int))) (a1 : (Int × (Int × Int))) : Option ((Int × (Int × Int))) := t_spec_l01Mul some a0 a1
theorem nat_spec_l01Mul {R : Type} (kx : (Int × (Int × Int)) → Option R) (a0 : (Int × (Int × Int))) (a1 : (Int × (Int × Int))) : t_spec_l01Mul kx a0 a1 = (g_spec_l01Mul a0 a1).bind kx := by
  unfold g_spec_l01Mul t_spec_l01Mul
  exact nat_bind fun _ => rfl
abbrev as_spec_l01Mul : List AX := [.val true (.pair (.int .i64) (.pair (.int .i64) (.int .i64))), .val true (.pair (.int .i64) (.pair (.int .i64) (.int .i64)))]
abbrev en_spec_l01Mul : (Int × (Int × Int)) → AV × List CV := fun b => (.one ⟨true, [(.v (.int .i64 b.1)), (.v (.int .i64 b.2.1)), (.v (.int .i64 b.2.2))]⟩, [])
noncomputable abbrev k_spec_l01Mul : Contract := .fx as_spec_l01Mul ((Int × (Int × Int))) (fun z => g_spec_l01Mul z.1 z.2.1) en_spec_l01Mul
theorem r_spec_l01Mul (z : argsX as_spec_l01Mul) : runF (tab C0 T_spec_l01Mul) noHints 1 Tryd.f45 (lentOf as_spec_l01Mul) (xBoxes as_spec_l01Mul z) (xVals as_spec_l01Mul 0 z) K2 = t_spec_l01Mul (fun b => some (en_spec_l01Mul b)) z.1 z.2.1 := by kernel_rfl
theorem so_spec_l01Mul : Sound C0 45 k_spec_l01Mul :=
  Sound.fx a_spec_l01Mul mixed Tryd.func45 (by kernel_rfl) (by kernel_rfl) noHints 1 noHints_ok (fun z => (r_spec_l01Mul z).trans (nat_spec_l01Mul _ z.1 z.2.1))

/-! ### F43 spec.l01Add -/
noncomputable def T_spec_l01Add : List (FuncId × Contract) := [(55, k_spec_l01Low)]
theorem a_spec_l01Add : AllSound C0 T_spec_l01Add := .cons so_spec_l01Low (.nil)
abbrev s_spec_l01Add_2 : LS := ⟨[(false, [(.ptr 2 0)]), (false, [(.ptr 3 0)]), (false, [(.ptr 4 0)])], [(false, [(.int .i64), (.int .i64), (.int .i64)]), (false, [(.int .i64), (.int .i64), (.int .i64)]), (false, [(.int .i64), (.int .i64), (.int .i64)])], []⟩
abbrev e_spec_l01Add_2_0 : LS := ⟨[(false, [(.ptr 2 0)]), (false, [(.ptr 3 0)]), (false, [(.ptr 4 0)])], [(false, [(.int .i64), (.int .i64), (.int .i64)]), (false, [(.int .i64), (.int .i64), (.int .i64)]), (false, [(.int .i64), (.int .i64), (.int .i64)])], []⟩
abbrev d_spec_l01Add_2_0 (v0 : Int) (v1 : Int) (v2 : Int) (v3 : Int) (v4 : Int) (v5 : Int) (v6 : Int) (v7 : Int) (v8 : Int) : e_spec_l01Add_2_0.T := ((((), ()), ((), ()), ((), ()), ()), ((v0, v1, v2, ()), (v3, v4, v5, ()), (v6, v7, v8, ()), ()), ())
abbrev x_spec_l01Add_2 : List (Ex × LS) := [(.exit 0, e_spec_l01Add_2_0)]
abbrev m_spec_l01Add_2 (b0_0 : Int) (b0_1 : Int) (b0_2 : Int) (b1_0 : Int) (b1_1 : Int) (b1_2 : Int) (b2_0 : Int) (b2_1 : Int) (b2_2 : Int) : s_spec_l01Add_2.T := ((((), ()), ((), ()), ((), ()), ()), ((b0_0, b0_1, b0_2, ()), (b1_0, b1_1, b1_2, ()), (b2_0, b2_1, b2_2, ()), ()), ())
noncomputable def u_spec_l01Add_2 {R : Type} (nx : s_spec_l01Add_2.T → Option R) (hx : exH R x_spec_l01Add_2) (b0_0 : Int) (b0_1 : Int) (b0_2 : Int) (b1_0 : Int) (b1_1 : Int) (b1_2 : Int) (b2_0 : Int) (b2_1 : Int) (b2_2 : Int) : Option R :=
  cond (decide (b0_2 < b1_2))
  (nx (m_spec_l01Add_2 (IntKind.wrap IntKind.i64 (b0_0 * (2 : Int))) (IntKind.wrap IntKind.i64 (b0_1 * (2 : Int))) (IntKind.wrap IntKind.i64 (b0_2 + (1 : Int))) b1_0 b1_1 b1_2 b2_0 b2_1 b2_2))
  (hx.1 (d_spec_l01Add_2_0 b0_0 b0_1 b0_2 b1_0 b1_1 b1_2 b2_0 b2_1 b2_2))
noncomputable def t_spec_l01Add_2 {R : Type} (nx : s_spec_l01Add_2.T → Option R) (hx : exH R x_spec_l01Add_2) (z : s_spec_l01Add_2.T) : Option R := u_spec_l01Add_2 nx hx z.2.1.1.1 z.2.1.1.2.1 z.2.1.1.2.2.1 z.2.1.2.1.1 z.2.1.2.1.2.1 z.2.1.2.1.2.2.1 z.2.1.2.2.1.1 z.2.1.2.2.1.2.1 z.2.1.2.2.1.2.2.1
theorem nat_spec_l01Add_2 : Natural @t_spec_l01Add_2 := fun R nx hx z => by
  show u_spec_l01Add_2 nx hx z.2.1.1.1 z.2.1.1.2.1 z.2.1.1.2.2.1 z.2.1.2.1.1 z.2.1.2.1.2.1 z.2.1.2.1.2.2.1 z.2.1.2.2.1.1 z.2.1.2.2.1.2.1 z.2.1.2.2.1.2.2.1 = (u_spec_l01Add_2 (fun y => some (.inl y)) (hIn x_spec_l01Add_2 fun x => some (.inr x)) z.2.1.1.1 z.2.1.1.2.1 z.2.1.1.2.2.1 z.2.1.2.1.1 z.2.1.2.1.2.1 z.2.1.2.1.2.2.1 z.2.1.2.2.1.1 z.2.1.2.2.1.2.1 z.2.1.2.2.1.2.2.1).bind (goOn nx hx)
  unfold u_spec_l01Add_2
  exact nat_cond (rfl) (rfl)
noncomputable def w_spec_l01Add_2 : s_spec_l01Add_2.T → Option (exT x_spec_l01Add_2) := wOf @t_spec_l01Add_2
theorem wq_spec_l01Add_2 (b0_0 : Int) (b0_1 : Int) (b0_2 : Int) (b1_0 : Int) (b1_1 : Int) (b1_2 : Int) (b2_0 : Int) (b2_1 : Int) (b2_2 : Int) : w_spec_l01Add_2 (m_spec_l01Add_2 b0_0 b0_1 b0_2 b1_0 b1_1 b1_2 b2_0 b2_1 b2_2) = u_spec_l01Add_2 w_spec_l01Add_2 (hIn x_spec_l01Add_2 some) b0_0 b0_1 b0_2 b1_0 b1_1 b1_2 b2_0 b2_1 b2_2 := wOf_eq nat_spec_l01Add_2 _
def lh_spec_l01Add_2 : LoopHint := ⟨[2, 3, 4], [2, 3, 4], [2, 3, 4], [2, 3, 4]⟩
abbrev s_spec_l01Add_6 : LS := ⟨[(false, [(.ptr 2 0)]), (false, [(.ptr 3 0)]), (false, [(.ptr 4 0)])], [(false, [(.int .i64), (.int .i64), (.int .i64)]), (false, [(.int .i64), (.int .i64), (.int .i64)]), (false, [(.int .i64), (.int .i64), (.int .i64)])], []⟩
abbrev e_spec_l01Add_6_0 : LS := ⟨[(false, [(.ptr 2 0)]), (false, [(.ptr 3 0)]), (false, [(.ptr 4 0)])], [(false, [(.int .i64), (.int .i64), (.int .i64)]), (false, [(.int .i64), (.int .i64), (.int .i64)]), (false, [(.int .i64), (.int .i64), (.int .i64)])], []⟩
abbrev d_spec_l01Add_6_0 (v0 : Int) (v1 : Int) (v2 : Int) (v3 : Int) (v4 : Int) (v5 : Int) (v6 : Int) (v7 : Int) (v8 : Int) : e_spec_l01Add_6_0.T := ((((), ()), ((), ()), ((), ()), ()), ((v0, v1, v2, ()), (v3, v4, v5, ()), (v6, v7, v8, ()), ()), ())
abbrev x_spec_l01Add_6 : List (Ex × LS) := [(.exit 2, e_spec_l01Add_6_0)]
abbrev m_spec_l01Add_6 (b0_0 : Int) (b0_1 : Int) (b0_2 : Int) (b1_0 : Int) (b1_1 : Int) (b1_2 : Int) (b2_0 : Int) (b2_1 : Int) (b2_2 : Int) : s_spec_l01Add_6.T := ((((), ()), ((), ()), ((), ()), ()), ((b0_0, b0_1, b0_2, ()), (b1_0, b1_1, b1_2, ()), (b2_0, b2_1, b2_2, ()), ()), ())
noncomputable def u_spec_l01Add_6 {R : Type} (nx : s_spec_l01Add_6.T → Option R) (hx : exH R x_spec_l01Add_6) (b0_0 : Int) (b0_1 : Int) (b0_2 : Int) (b1_0 : Int) (b1_1 : Int) (b1_2 : Int) (b2_0 : Int) (b2_1 : Int) (b2_2 : Int) : Option R :=
  cond (decide (b1_2 < b0_2))
  (nx (m_spec_l01Add_6 b0_0 b0_1 b0_2 (IntKind.wrap IntKind.i64 (b1_0 * (2 : Int))) (IntKind.wrap IntKind.i64 (b1_1 * (2 : Int))) (IntKind.wrap IntKind.i64 (b1_2 + (1 : Int))) b2_0 b2_1 b2_2))
  (hx.1 (d_spec_l01Add_6_0 b0_0 b0_1 b0_2 b1_0 b1_1 b1_2 b2_0 b2_1 b2_2))
noncomputable def t_spec_l01Add_6 {R : Type} (nx : s_spec_l01Add_6.T → Option R) (hx : exH R x_spec_l01Add_6) (z : s_spec_l01Add_6.T) : Option R := u_spec_l01Add_6 nx hx z.2.1.1.1 z.2.1.1.2.1 z.2.1.1.2.2.1 z.2.1.2.1.1 z.2.1.2.1.2.1 z.2.1.2.1.2.2.1 z.2.1.2.2.1.1 z.2.1.2.2.1.2.1 z.2.1.2.2.1.2.2.1
theorem nat_spec_l01Add_6 : Natural @t_spec_l01Add_6 := fun R nx hx z => by
  show u_spec_l01Add_6 nx hx z.2.1.1.1 z.2.1.1.2.1 z.2.1.1.2.2.1 z.2.1.2.1.1 z.2.1.2.1.2.1 z.2.1.2.1.2.2.1 z.2.1.2.2.1.1 z.2.1.2.2.1.2.1 z.2.1.2.2.1.2.2.1 = (u_spec_l01Add_6 (fun y => some (.inl y)) (hIn x_spec_l01Add_6 fun x => some (.inr x)) z.2.1.1.1 z.2.1.1.2.1 z.2.1.1.2.2.1 z.2.1.2.1.1 z.2.1.2.1.2.1 z.2.1.2.1.2.2.1 z.2.1.2.2.1.1 z.2.1.2.2.1.2.1 z.2.1.2.2.1.2.2.1).bind (goOn nx hx)
  unfold u_spec_l01Add_6
  exact nat_cond (rfl) (rfl)
noncomputable def w_spec_l01Add_6 : s_spec_l01Add_6.T → Option (exT x_spec_l01Add_6) := wOf @t_spec_l01Add_6
theorem wq_spec_l01Add_6 (b0_0 : Int) (b0_1 : Int) (b0_2 : Int) (b1_0 : Int) (b1_1 : Int) (b1_2 : Int) (b2_0 : Int) (b2_1 : Int) (b2_2 : Int) : w_spec_l01Add_6 (m_spec_l01Add_6 b0_0 b0_1 b0_2 b1_0 b1_1 b1_2 b2_0 b2_1 b2_2) = u_spec_l01Add_6 w_spec_l01Add_6 (hIn x_spec_l01Add_6 some) b0_0 b0_1 b0_2 b1_0 b1_1 b1_2 b2_0 b2_1 b2_2 := wOf_eq nat_spec_l01Add_6 _
def lh_spec_l01Add_6 : LoopHint := ⟨[2, 3, 4], [2, 3, 4], [2, 3, 4], [2, 3, 4]⟩
noncomputable def h_spec_l01Add : Hints Rv := ⟨fun k => match k with | 2 => lh_spec_l01Add_2 | 6 => lh_spec_l01Add_6 | _ => ⟨[], [], [], []⟩, fun k => match k with | 2 => some (loopX s_spec_l01Add_2 x_spec_l01Add_2 w_spec_l01Add_2) | 6 => some (loopX s_spec_l01Add_6 x_spec_l01Add_6 w_spec_l01Add_6) | _ => none⟩
theorem st_spec_l01Add_2 (n : Nat) (z : s_spec_l01Add_2.T) (k : Ex → Live → Option Rv) : loopN ⟨53, 53⟩ lh_spec_l01Add_2 (den (tab C0 T_spec_l01Add) ⟨53, 53⟩ h_spec_l01Add 1 (loopOf Tryd.f43 1)) (n + 1) (s_spec_l01Add_2.enc z) k =
    t_spec_l01Add_2 (fun y => loopN ⟨53, 53⟩ lh_spec_l01Add_2 (den (tab C0 T_spec_l01Add) ⟨53, 53⟩ h_spec_l01Add 1 (loopOf Tryd.f43 1)) n (s_spec_l01Add_2.enc y) k) (hK k x_spec_l01Add_2) z := by kernel_rfl
theorem st_spec_l01Add_6 (n : Nat) (z : s_spec_l01Add_6.T) (k : Ex → Live → Option Rv) : loopN ⟨53, 53⟩ lh_spec_l01Add_6 (den (tab C0 T_spec_l01Add) ⟨53, 53⟩ h_spec_l01Add 1 (loopOf Tryd.f43 5)) (n + 1) (s_spec_l01Add_6.enc z) k =
    t_spec_l01Add_6 (fun y => loopN ⟨53, 53⟩ lh_spec_l01Add_6 (den (tab C0 T_spec_l01Add) ⟨53, 53⟩ h_spec_l01Add 1 (loopOf Tryd.f43 5)) n (s_spec_l01Add_6.enc y) k) (hK k x_spec_l01Add_6) z := by kernel_rfl
theorem hs_spec_l01Add : HintsOk (tab C0 T_spec_l01Add) ⟨53, 53⟩ h_spec_l01Add 1 (loops (codeOf Tryd.f43)) := by
  have hl : loops (codeOf Tryd.f43) = [loopOf Tryd.f43 1, loopOf Tryd.f43 5] := by kernel_rfl
  rw [hl]
  exact HintsOk.cons (n := 2) (lh := lh_spec_l01Add_2) (S := loopX s_spec_l01Add_2 x_spec_l01Add_2 w_spec_l01Add_2) (by kernel_rfl) rfl rfl (loopX_ok nat_spec_l01Add_2 st_spec_l01Add_2)
    (HintsOk.cons (n := 6) (lh := lh_spec_l01Add_6) (S := loopX s_spec_l01Add_6 x_spec_l01Add_6 w_spec_l01Add_6) (by kernel_rfl) rfl rfl (loopX_ok nat_spec_l01Add_6 st_spec_l01Add_6)
    (HintsOk.nil))
noncomputable def t_spec_l01Add {R : Type} (kx : (Int × (Int × Int)) → Option R) (a0 : (Int × (Int × Int))) (a1 : (Int × (Int × Int))) : Option R :=
  Option.bind (w_spec_l01Add_2 (m_spec_l01Add_2 a0.1 a0.2.1 a0.2.2 a1.1 a1.2.1 a1.2.2 (0 : Int) (0 : Int) (0 : Int))) (exC x_spec_l01Add_2
  (fun e80 =>
   Option.bind (w_spec_l01Add_6 (m_spec_l01Add_6 (e80.2.1.1.1 : Int) (e80.2.1.1.2.1 : Int) (e80.2.1.1.2.2.1 : Int) (e80.2.1.2.1.1 : Int) (e80.2.1.2.1.2.1 : Int) (e80.2.1.2.1.2.2.1 : Int) (e80.2.1.2.2.1.1 : Int) (e80.2.1.2.2.1.2.1 : Int) (e80.2.1.2.2.1.2.2.1 : Int))) (exC x_spec_l01Add_6
   (fun e99 =>
    Option.bind (g_spec_l01Low ((IntKind.wrap IntKind.i64 ((e99.2.1.1.1 : Int) + (e99.2.1.2.1.1 : Int))), ((IntKind.wrap IntKind.i64 ((e99.2.1.1.2.1 : Int) + (e99.2.1.2.1.2.1 : Int))), (e99.2.1.1.2.2.1 : Int)))) fun y109 =>
    kx y109, ())), ()))
noncomputable def g_spec_l01Add (a0 : (Int × (Int × Int))) (a1 : (Int × (Int × Int))) : Option ((Int × (Int × Int))) := t_spec_l01Add some a0 a1
theorem nat_spec_l01Add {R : Type} (kx : (Int × (Int × Int)) → Option R) (a0 : (Int × (Int × Int))) (a1 : (Int × (Int × Int))) : t_spec_l01Add kx a0 a1 = (g_spec_l01Add a0 a1).bind kx := by
  unfold g_spec_l01Add t_spec_l01Add
  exact nat_exC ⟨fun _ => nat_exC ⟨fun _ => nat_bind fun _ => rfl, trivial⟩, trivial⟩
abbrev as_spec_l01Add : List AX := [.val true (.pair (.int .i64) (.pair (.int .i64) (.int .i64))), .val true (.pair (.int .i64) (.pair (.int .i64) (.int .i64)))]
abbrev en_spec_l01Add : (Int × (Int × Int)) → AV × List CV := fun b => (.one ⟨true, [(.v (.int .i64 b.1)), (.v (.int .i64 b.2.1)), (.v (.int .i64 b.2.2))]⟩, [])
noncomputable abbrev k_spec_l01Add : Contract := .fx as_spec_l01Add ((Int × (Int × Int))) (fun z => g_spec_l01Add z.1 z.2.1) en_spec_l01Add
theorem r_spec_l01Add (z : argsX as_spec_l01Add) : runF (tab C0 T_spec_l01Add) h_spec_l01Add 1 Tryd.f43 (lentOf as_spec_l01Add) (xBoxes as_spec_l01Add z) (xVals as_spec_l01Add 0 z) K2 = t_spec_l01Add (fun b => some (en_spec_l01Add b)) z.1 z.2.1 := by kernel_rfl
theorem so_spec_l01Add : Sound C0 43 k_spec_l01Add :=
  Sound.fx a_spec_l01Add mixed Tryd.func43 (by kernel_rfl) (by kernel_rfl) h_spec_l01Add 1 hs_spec_l01Add (fun z => (r_spec_l01Add z).trans (nat_spec_l01Add _ z.1 z.2.1))

/-! ### F42 spec.l02Square -/
noncomputable def T_spec_l02Square : List (FuncId × Contract) := [(40, k_spec_l02Vec), (16, k_spec_l02Of), (45, k_spec_l01Mul), (43, k_spec_l01Add)]
theorem a_spec_l02Square : AllSound C0 T_spec_l02Square := .cons so_spec_l02Vec (.cons so_spec_l02Of (.cons so_spec_l01Mul (.cons so_spec_l01Add (.nil))))
noncomputable def t_spec_l02Square {R : Type} (kx : (Int × (Int × Int)) → Option R) (a0 : Int) : Option R :=
  Option.bind (g_spec_l02Vec a0) fun y41 =>
  Option.bind (g_spec_l02Of y41) fun y42 =>
  Option.bind (g_spec_l01Mul y42.1 y42.1) fun y67 =>
  Option.bind (g_spec_l01Mul y42.2 y42.2) fun y68 =>
  Option.bind (g_spec_l01Add y67 y68) fun y110 =>
  kx y110
noncomputable def g_spec_l02Square (a0 : Int) : Option ((Int × (Int × Int))) := t_spec_l02Square some a0
theorem nat_spec_l02Square {R : Type} (kx : (Int × (Int × Int)) → Option R) (a0 : Int) : t_spec_l02Square kx a0 = (g_spec_l02Square a0).bind kx := by
  unfold g_spec_l02Square t_spec_l02Square
  exact nat_bind fun _ => nat_bind fun _ => nat_bind fun _ => nat_bind fun _ => nat_bind fun _ => rfl
abbrev as_spec_l02Square : List AX := [.val false (.int .i64)]
abbrev en_spec_l02Square : (Int × (Int × Int)) → AV × List CV := fun b => (.one ⟨true, [(.v (.int .i64 b.1)), (.v (.int .i64 b.2.1)), (.v (.int .i64 b.2.2))]⟩, [])
noncomputable abbrev k_spec_l02Square : Contract := .fx as_spec_l02Square ((Int × (Int × Int))) (fun z => g_spec_l02Square z.1) en_spec_l02Square
theorem r_spec_l02Square (z : argsX as_spec_l02Square) : runF (tab C0 T_spec_l02Square) noHints 1 Tryd.f42 (lentOf as_spec_l02Square) (xBoxes as_spec_l02Square z) (xVals as_spec_l02Square 0 z) K2 = t_spec_l02Square (fun b => some (en_spec_l02Square b)) z.1 := by kernel_rfl
theorem so_spec_l02Square : Sound C0 42 k_spec_l02Square :=
  Sound.fx a_spec_l02Square mixed Tryd.func42 (by kernel_rfl) (by kernel_rfl) noHints 1 noHints_ok (fun z => (r_spec_l02Square z).trans (nat_spec_l02Square _ z.1))

/-! ### F41 spec.l01Div -/
noncomputable def T_spec_l01Div : List (FuncId × Contract) := [(55, k_spec_l01Low)]
theorem a_spec_l01Div : AllSound C0 T_spec_l01Div := .cons so_spec_l01Low (.nil)
abbrev s_spec_l01Div_6 : LS := ⟨[(false, [(.ptr 3 0)]), (false, [(.ptr 4 0)]), (false, [(.int .i64)]), (false, [(.ptr 7 0)])], [(false, [(.int .i64), (.int .i64), (.int .i64)]), (false, [(.int .i64), (.int .i64), (.int .i64)]), (false, [(.int .i64), (.int .i64), (.int .i64)])], []⟩
abbrev e_spec_l01Div_6_0 : LS := ⟨[(false, [(.ptr 3 0)]), (false, [(.ptr 4 0)]), (false, [(.int .i64)]), (false, [(.ptr 7 0)])], [(false, [(.int .i64), (.int .i64), (.int .i64)]), (false, [(.int .i64), (.int .i64), (.int .i64)]), (false, [(.int .i64), (.int .i64), (.int .i64)])], []⟩
abbrev d_spec_l01Div_6_0 (v0 : Int) (v1 : Int) (v2 : Int) (v3 : Int) (v4 : Int) (v5 : Int) (v6 : Int) (v7 : Int) (v8 : Int) (v9 : Int) : e_spec_l01Div_6_0.T := ((((), ()), ((), ()), (v0, ()), ((), ()), ()), ((v1, v2, v3, ()), (v4, v5, v6, ()), (v7, v8, v9, ()), ()), ())
abbrev x_spec_l01Div_6 : List (Ex × LS) := [(.exit 0, e_spec_l01Div_6_0)]
abbrev m_spec_l01Div_6 (x6 : Int) (b0_0 : Int) (b0_1 : Int) (b0_2 : Int) (b1_0 : Int) (b1_1 : Int) (b1_2 : Int) (b2_0 : Int) (b2_1 : Int) (b2_2 : Int) : s_spec_l01Div_6.T := ((((), ()), ((), ()), (x6, ()), ((), ()), ()), ((b0_0, b0_1, b0_2, ()), (b1_0, b1_1, b1_2, ()), (b2_0, b2_1, b2_2, ()), ()), ())
noncomputable def u_spec_l01Div_6 {R : Type} (nx : s_spec_l01Div_6.T → Option R) (hx : exH R x_spec_l01Div_6) (x6 : Int) (b0_0 : Int) (b0_1 : Int) (b0_2 : Int) (b1_0 : Int) (b1_1 : Int) (b1_2 : Int) (b2_0 : Int) (b2_1 : Int) (b2_2 : Int) : Option R :=
  cond ((Int.tmod x6 (2 : Int)) == (0 : Int))
  (nx (m_spec_l01Div_6 (IntKind.wrap IntKind.i64 (Int.tdiv x6 (2 : Int))) b0_0 b0_1 b0_2 b1_0 b1_1 b1_2 b2_0 b2_1 (IntKind.wrap IntKind.i64 (b2_2 + (1 : Int)))))
  (hx.1 (d_spec_l01Div_6_0 x6 b0_0 b0_1 b0_2 b1_0 b1_1 b1_2 b2_0 b2_1 b2_2))
noncomputable def t_spec_l01Div_6 {R : Type} (nx : s_spec_l01Div_6.T → Option R) (hx : exH R x_spec_l01Div_6) (z : s_spec_l01Div_6.T) : Option R := u_spec_l01Div_6 nx hx z.1.2.2.1.1 z.2.1.1.1 z.2.1.1.2.1 z.2.1.1.2.2.1 z.2.1.2.1.1 z.2.1.2.1.2.1 z.2.1.2.1.2.2.1 z.2.1.2.2.1.1 z.2.1.2.2.1.2.1 z.2.1.2.2.1.2.2.1
theorem nat_spec_l01Div_6 : Natural @t_spec_l01Div_6 := fun R nx hx z => by
  show u_spec_l01Div_6 nx hx z.1.2.2.1.1 z.2.1.1.1 z.2.1.1.2.1 z.2.1.1.2.2.1 z.2.1.2.1.1 z.2.1.2.1.2.1 z.2.1.2.1.2.2.1 z.2.1.2.2.1.1 z.2.1.2.2.1.2.1 z.2.1.2.2.1.2.2.1 = (u_spec_l01Div_6 (fun y => some (.inl y)) (hIn x_spec_l01Div_6 fun x => some (.inr x)) z.1.2.2.1.1 z.2.1.1.1 z.2.1.1.2.1 z.2.1.1.2.2.1 z.2.1.2.1.1 z.2.1.2.1.2.1 z.2.1.2.1.2.2.1 z.2.1.2.2.1.1 z.2.1.2.2.1.2.1 z.2.1.2.2.1.2.2.1).bind (goOn nx hx)
  unfold u_spec_l01Div_6
  exact nat_cond (rfl) (rfl)
noncomputable def w_spec_l01Div_6 : s_spec_l01Div_6.T → Option (exT x_spec_l01Div_6) := wOf @t_spec_l01Div_6
theorem wq_spec_l01Div_6 (x6 : Int) (b0_0 : Int) (b0_1 : Int) (b0_2 : Int) (b1_0 : Int) (b1_1 : Int) (b1_2 : Int) (b2_0 : Int) (b2_1 : Int) (b2_2 : Int) : w_spec_l01Div_6 (m_spec_l01Div_6 x6 b0_0 b0_1 b0_2 b1_0 b1_1 b1_2 b2_0 b2_1 b2_2) = u_spec_l01Div_6 w_spec_l01Div_6 (hIn x_spec_l01Div_6 some) x6 b0_0 b0_1 b0_2 b1_0 b1_1 b1_2 b2_0 b2_1 b2_2 := wOf_eq nat_spec_l01Div_6 _
def lh_spec_l01Div_6 : LoopHint := ⟨[3, 4, 6, 7], [3, 4, 7], [3, 4, 6, 7], [3, 4, 7]⟩
abbrev s_spec_l01Div_14 : LS := ⟨[(false, [(.ptr 4 0)]), (false, [(.ptr 7 0)]), (false, [(.int .i64)])], [(false, [(.int .i64), (.int .i64), (.int .i64)]), (false, [(.int .i64), (.int .i64), (.int .i64)])], []⟩
abbrev e_spec_l01Div_14_0 : LS := ⟨[(false, [(.ptr 4 0)]), (false, [(.ptr 7 0)])], [(false, [(.int .i64), (.int .i64), (.int .i64)]), (false, [(.int .i64), (.int .i64), (.int .i64)])], []⟩
abbrev d_spec_l01Div_14_0 (v0 : Int) (v1 : Int) (v2 : Int) (v3 : Int) (v4 : Int) (v5 : Int) : e_spec_l01Div_14_0.T := ((((), ()), ((), ()), ()), ((v0, v1, v2, ()), (v3, v4, v5, ()), ()), ())
abbrev x_spec_l01Div_14 : List (Ex × LS) := [(.exit 2, e_spec_l01Div_14_0)]
abbrev m_spec_l01Div_14 (x8 : Int) (b0_0 : Int) (b0_1 : Int) (b0_2 : Int) (b1_0 : Int) (b1_1 : Int) (b1_2 : Int) : s_spec_l01Div_14.T := ((((), ()), ((), ()), (x8, ()), ()), ((b0_0, b0_1, b0_2, ()), (b1_0, b1_1, b1_2, ()), ()), ())
noncomputable def u_spec_l01Div_14 {R : Type} (nx : s_spec_l01Div_14.T → Option R) (hx : exH R x_spec_l01Div_14) (x8 : Int) (b0_0 : Int) (b0_1 : Int) (b0_2 : Int) (b1_0 : Int) (b1_1 : Int) (b1_2 : Int) : Option R :=
  cond (decide (x8 > (0 : Int)))
  (cond (decide (b1_2 > (0 : Int)))
   (nx (m_spec_l01Div_14 (IntKind.wrap IntKind.i64 (x8 - (1 : Int))) b0_0 b0_1 b0_2 b1_0 b1_1 (IntKind.wrap IntKind.i64 (b1_2 - (1 : Int)))))
   (nx (m_spec_l01Div_14 (IntKind.wrap IntKind.i64 (x8 - (1 : Int))) b0_0 b0_1 b0_2 (IntKind.wrap IntKind.i64 (b1_0 * (2 : Int))) (IntKind.wrap IntKind.i64 (b1_1 * (2 : Int))) b1_2)))
  (hx.1 (d_spec_l01Div_14_0 b0_0 b0_1 b0_2 b1_0 b1_1 b1_2))
noncomputable def t_spec_l01Div_14 {R : Type} (nx : s_spec_l01Div_14.T → Option R) (hx : exH R x_spec_l01Div_14) (z : s_spec_l01Div_14.T) : Option R := u_spec_l01Div_14 nx hx z.1.2.2.1.1 z.2.1.1.1 z.2.1.1.2.1 z.2.1.1.2.2.1 z.2.1.2.1.1 z.2.1.2.1.2.1 z.2.1.2.1.2.2.1
theorem nat_spec_l01Div_14 : Natural @t_spec_l01Div_14 := fun R nx hx z => by
  show u_spec_l01Div_14 nx hx z.1.2.2.1.1 z.2.1.1.1 z.2.1.1.2.1 z.2.1.1.2.2.1 z.2.1.2.1.1 z.2.1.2.1.2.1 z.2.1.2.1.2.2.1 = (u_spec_l01Div_14 (fun y => some (.inl y)) (hIn x_spec_l01Div_14 fun x => some (.inr x)) z.1.2.2.1.1 z.2.1.1.1 z.2.1.1.2.1 z.2.1.1.2.2.1 z.2.1.2.1.1 z.2.1.2.1.2.1 z.2.1.2.1.2.2.1).bind (goOn nx hx)
  unfold u_spec_l01Div_14
  exact nat_cond (nat_cond (rfl) (rfl)) (rfl)
noncomputable def w_spec_l01Div_14 : s_spec_l01Div_14.T → Option (exT x_spec_l01Div_14) := wOf @t_spec_l01Div_14
theorem wq_spec_l01Div_14 (x8 : Int) (b0_0 : Int) (b0_1 : Int) (b0_2 : Int) (b1_0 : Int) (b1_1 : Int) (b1_2 : Int) : w_spec_l01Div_14 (m_spec_l01Div_14 x8 b0_0 b0_1 b0_2 b1_0 b1_1 b1_2) = u_spec_l01Div_14 w_spec_l01Div_14 (hIn x_spec_l01Div_14 some) x8 b0_0 b0_1 b0_2 b1_0 b1_1 b1_2 := wOf_eq nat_spec_l01Div_14 _
def lh_spec_l01Div_14 : LoopHint := ⟨[4, 7, 8], [4, 7], [4, 7], [4, 7]⟩
noncomputable def h_spec_l01Div : Hints Rv := ⟨fun k => match k with | 6 => lh_spec_l01Div_6 | 14 => lh_spec_l01Div_14 | _ => ⟨[], [], [], []⟩, fun k => match k with | 6 => some (loopX s_spec_l01Div_6 x_spec_l01Div_6 w_spec_l01Div_6) | 14 => some (loopX s_spec_l01Div_14 x_spec_l01Div_14 w_spec_l01Div_14) | _ => none⟩
theorem st_spec_l01Div_6 (n : Nat) (z : s_spec_l01Div_6.T) (k : Ex → Live → Option Rv) : loopN ⟨105, 105⟩ lh_spec_l01Div_6 (den (tab C0 T_spec_l01Div) ⟨105, 105⟩ h_spec_l01Div 1 (loopOf Tryd.f41 5)) (n + 1) (s_spec_l01Div_6.enc z) k =
    t_spec_l01Div_6 (fun y => loopN ⟨105, 105⟩ lh_spec_l01Div_6 (den (tab C0 T_spec_l01Div) ⟨105, 105⟩ h_spec_l01Div 1 (loopOf Tryd.f41 5)) n (s_spec_l01Div_6.enc y) k) (hK k x_spec_l01Div_6) z := by kernel_rfl
theorem st_spec_l01Div_14 (n : Nat) (z : s_spec_l01Div_14.T) (k : Ex → Live → Option Rv) : loopN ⟨105, 105⟩ lh_spec_l01Div_14 (den (tab C0 T_spec_l01Div) ⟨105, 105⟩ h_spec_l01Div 1 (loopOf Tryd.f41 13)) (n + 1) (s_spec_l01Div_14.enc z) k =
    t_spec_l01Div_14 (fun y => loopN ⟨105, 105⟩ lh_spec_l01Div_14 (den (tab C0 T_spec_l01Div) ⟨105, 105⟩ h_spec_l01Div 1 (loopOf Tryd.f41 13)) n (s_spec_l01Div_14.enc y) k) (hK k x_spec_l01Div_14) z := by kernel_rfl
theorem hs_spec_l01Div : HintsOk (tab C0 T_spec_l01Div) ⟨105, 105⟩ h_spec_l01Div 1 (loops (codeOf Tryd.f41)) := by
  have hl : loops (codeOf Tryd.f41) = [loopOf Tryd.f41 5, loopOf Tryd.f41 13] := by kernel_rfl
  rw [hl]
  exact HintsOk.cons (n := 6) (lh := lh_spec_l01Div_6) (S := loopX s_spec_l01Div_6 x_spec_l01Div_6 w_spec_l01Div_6) (by kernel_rfl) rfl rfl (loopX_ok nat_spec_l01Div_6 st_spec_l01Div_6)
    (HintsOk.cons (n := 14) (lh := lh_spec_l01Div_14) (S := loopX s_spec_l01Div_14 x_spec_l01Div_14 w_spec_l01Div_14) (by kernel_rfl) rfl rfl (loopX_ok nat_spec_l01Div_14 st_spec_l01Div_14)
    (HintsOk.nil))
noncomputable def t_spec_l01Div {R : Type} (kx : (Int × (Int × Int)) × Bool → Option R) (a0 : (Int × (Int × Int))) (a1 : (Int × (Int × Int))) : Option R :=
  cond ((IntKind.wrap IntKind.i64 ((IntKind.wrap IntKind.i64 (a1.1 * a1.1)) - (IntKind.wrap IntKind.i64 ((IntKind.wrap IntKind.i64 ((2 : Int) * a1.2.1)) * a1.2.1)))) == (0 : Int))
  (kx (((0 : Int), ((0 : Int), (0 : Int))), Bool.false))
  (Option.bind (w_spec_l01Div_6 (m_spec_l01Div_6 (IntKind.wrap IntKind.i64 ((IntKind.wrap IntKind.i64 (a1.1 * a1.1)) - (IntKind.wrap IntKind.i64 ((IntKind.wrap IntKind.i64 ((2 : Int) * a1.2.1)) * a1.2.1)))) a1.1 a1.2.1 a1.2.2 (0 : Int) (0 : Int) (0 : Int) (IntKind.wrap IntKind.i64 ((IntKind.wrap IntKind.i64 (a0.1 * a1.1)) - (IntKind.wrap IntKind.i64 ((IntKind.wrap IntKind.i64 ((2 : Int) * a0.2.1)) * a1.2.1)))) (IntKind.wrap IntKind.i64 ((IntKind.wrap IntKind.i64 (a0.2.1 * a1.1)) - (IntKind.wrap IntKind.i64 (a0.1 * a1.2.1)))) a0.2.2)) (exC x_spec_l01Div_6
   (fun e124 =>
    cond (decide ((e124.1.2.2.1.1 : Int) = (0 : Int)))
    (none)
    (cond ((Int.tmod (e124.2.1.2.2.1.1 : Int) (e124.1.2.2.1.1 : Int)) != (0 : Int))
     (kx (((0 : Int), ((0 : Int), (0 : Int))), Bool.false))
     (cond (decide ((e124.1.2.2.1.1 : Int) = (0 : Int)))
      (none)
      (cond ((Int.tmod (e124.2.1.2.2.1.2.1 : Int) (e124.1.2.2.1.1 : Int)) != (0 : Int))
       (kx (((0 : Int), ((0 : Int), (0 : Int))), Bool.false))
       (cond (decide ((e124.1.2.2.1.1 : Int) = (0 : Int)))
        (none)
        (cond (decide ((e124.1.2.2.1.1 : Int) = (0 : Int)))
         (none)
         (Option.bind (w_spec_l01Div_14 (m_spec_l01Div_14 (e124.2.1.1.2.2.1 : Int) (e124.2.1.2.1.1 : Int) (e124.2.1.2.1.2.1 : Int) (e124.2.1.2.1.2.2.1 : Int) (IntKind.wrap IntKind.i64 (Int.tdiv (e124.2.1.2.2.1.1 : Int) (e124.1.2.2.1.1 : Int))) (IntKind.wrap IntKind.i64 (Int.tdiv (e124.2.1.2.2.1.2.1 : Int) (e124.1.2.2.1.1 : Int))) (e124.2.1.2.2.1.2.2.1 : Int))) (exC x_spec_l01Div_14
          (fun e142 =>
           Option.bind (g_spec_l01Low ((e142.2.1.2.1.1 : Int), ((e142.2.1.2.1.2.1 : Int), (e142.2.1.2.1.2.2.1 : Int)))) fun y149 =>
           kx (y149, Bool.true), ())))))))), ())))
noncomputable def g_spec_l01Div (a0 : (Int × (Int × Int))) (a1 : (Int × (Int × Int))) : Option ((Int × (Int × Int)) × Bool) := t_spec_l01Div some a0 a1
theorem nat_spec_l01Div {R : Type} (kx : (Int × (Int × Int)) × Bool → Option R) (a0 : (Int × (Int × Int))) (a1 : (Int × (Int × Int))) : t_spec_l01Div kx a0 a1 = (g_spec_l01Div a0 a1).bind kx := by
  unfold g_spec_l01Div t_spec_l01Div
  exact nat_cond (rfl) (nat_exC ⟨fun _ => nat_cond (rfl) (nat_cond (rfl) (nat_cond (rfl) (nat_cond (rfl) (nat_cond (rfl) (nat_cond (rfl) (nat_exC ⟨fun _ => nat_bind fun _ => rfl, trivial⟩)))))), trivial⟩)
abbrev as_spec_l01Div : List AX := [.val true (.pair (.int .i64) (.pair (.int .i64) (.int .i64))), .val true (.pair (.int .i64) (.pair (.int .i64) (.int .i64)))]
abbrev en_spec_l01Div : (Int × (Int × Int)) × Bool → AV × List CV := fun b => (.tup [⟨true, [(.v (.int .i64 b.1.1)), (.v (.int .i64 b.1.2.1)), (.v (.int .i64 b.1.2.2))]⟩, ⟨false, [(.v (.bool b.2))]⟩], [])
noncomputable abbrev k_spec_l01Div : Contract := .fx as_spec_l01Div ((Int × (Int × Int)) × Bool) (fun z => g_spec_l01Div z.1 z.2.1) en_spec_l01Div
theorem r_spec_l01Div (z : argsX as_spec_l01Div) : runF (tab C0 T_spec_l01Div) h_spec_l01Div 1 Tryd.f41 (lentOf as_spec_l01Div) (xBoxes as_spec_l01Div z) (xVals as_spec_l01Div 0 z) K2 = t_spec_l01Div (fun b => some (en_spec_l01Div b)) z.1 z.2.1 := by kernel_rfl
theorem so_spec_l01Div : Sound C0 41 k_spec_l01Div :=
  Sound.fx a_spec_l01Div mixed Tryd.func41 (by kernel_rfl) (by kernel_rfl) h_spec_l01Div 1 hs_spec_l01Div (fun z => (r_spec_l01Div z).trans (nat_spec_l01Div _ z.1 z.2.1))

/-! ### F25 spec.l02Foot -/
noncomputable def T_spec_l02Foot : List (FuncId × Contract) := [(40, k_spec_l02Vec), (16, k_spec_l02Of), (42, k_spec_l02Square), (41, k_spec_l01Div), (45, k_spec_l01Mul)]
theorem a_spec_l02Foot : AllSound C0 T_spec_l02Foot := .cons so_spec_l02Vec (.cons so_spec_l02Of (.cons so_spec_l02Square (.cons so_spec_l01Div (.cons so_spec_l01Mul (.nil)))))
noncomputable def t_spec_l02Foot {R : Type} (kx : ((Int × (Int × Int)) × (Int × (Int × Int))) → Option R) (a0 : (Int × (Int × (Int × Int)))) : Option R :=
  Option.bind (g_spec_l02Vec (IntKind.wrap IntKind.i64 (a0.1 + (4 : Int)))) fun y35 =>
  Option.bind (g_spec_l02Of y35) fun y39 =>
  Option.bind (g_spec_l02Square (IntKind.wrap IntKind.i64 (a0.1 + (4 : Int)))) fun y111 =>
  Option.bind (g_spec_l01Div a0.2 y111) fun y150 =>
  Option.bind (g_spec_l01Mul y150.1 y39.1) fun y151 =>
  Option.bind (g_spec_l01Mul y150.1 y39.2) fun y152 =>
  kx (y151, y152)
noncomputable def g_spec_l02Foot (a0 : (Int × (Int × (Int × Int)))) : Option (((Int × (Int × Int)) × (Int × (Int × Int)))) := t_spec_l02Foot some a0
theorem nat_spec_l02Foot {R : Type} (kx : ((Int × (Int × Int)) × (Int × (Int × Int))) → Option R) (a0 : (Int × (Int × (Int × Int)))) : t_spec_l02Foot kx a0 = (g_spec_l02Foot a0).bind kx := by
  unfold g_spec_l02Foot t_spec_l02Foot
  exact nat_bind fun _ => nat_bind fun _ => nat_bind fun _ => nat_bind fun _ => nat_bind fun _ => nat_bind fun _ => rfl
abbrev as_spec_l02Foot : List AX := [.val true (.pair (.int .i64) (.pair (.int .i64) (.pair (.int .i64) (.int .i64))))]
abbrev en_spec_l02Foot : ((Int × (Int × Int)) × (Int × (Int × Int))) → AV × List CV := fun b => (.one ⟨true, [(.v (.int .i64 b.1.1)), (.v (.int .i64 b.1.2.1)), (.v (.int .i64 b.1.2.2)), (.v (.int .i64 b.2.1)), (.v (.int .i64 b.2.2.1)), (.v (.int .i64 b.2.2.2))]⟩, [])
noncomputable abbrev k_spec_l02Foot : Contract := .fx as_spec_l02Foot (((Int × (Int × Int)) × (Int × (Int × Int)))) (fun z => g_spec_l02Foot z.1) en_spec_l02Foot
theorem r_spec_l02Foot (z : argsX as_spec_l02Foot) : runF (tab C0 T_spec_l02Foot) noHints 1 Tryd.f25 (lentOf as_spec_l02Foot) (xBoxes as_spec_l02Foot z) (xVals as_spec_l02Foot 0 z) K2 = t_spec_l02Foot (fun b => some (en_spec_l02Foot b)) z.1 := by kernel_rfl
theorem so_spec_l02Foot : Sound C0 25 k_spec_l02Foot :=
  Sound.fx a_spec_l02Foot mixed Tryd.func25 (by kernel_rfl) (by kernel_rfl) noHints 1 noHints_ok (fun z => (r_spec_l02Foot z).trans (nat_spec_l02Foot _ z.1))

/-! ### F35 spec.l02Dot -/
noncomputable def T_spec_l02Dot : List (FuncId × Contract) := [(40, k_spec_l02Vec), (16, k_spec_l02Of), (45, k_spec_l01Mul), (43, k_spec_l01Add)]
theorem a_spec_l02Dot : AllSound C0 T_spec_l02Dot := .cons so_spec_l02Vec (.cons so_spec_l02Of (.cons so_spec_l01Mul (.cons so_spec_l01Add (.nil))))
noncomputable def t_spec_l02Dot {R : Type} (kx : (Int × (Int × Int)) → Option R) (a0 : Int) (a1 : ((Int × (Int × Int)) × (Int × (Int × Int)))) : Option R :=
  Option.bind (g_spec_l02Vec a0) fun y160 =>
  Option.bind (g_spec_l02Of y160) fun y161 =>
  Option.bind (g_spec_l01Mul y161.1 a1.1) fun y162 =>
  Option.bind (g_spec_l01Mul y161.2 a1.2) fun y163 =>
  Option.bind (g_spec_l01Add y162 y163) fun y164 =>
  kx y164
noncomputable def g_spec_l02Dot (a0 : Int) (a1 : ((Int × (Int × Int)) × (Int × (Int × Int)))) : Option ((Int × (Int × Int))) := t_spec_l02Dot some a0 a1
theorem nat_spec_l02Dot {R : Type} (kx : (Int × (Int × Int)) → Option R) (a0 : Int) (a1 : ((Int × (Int × Int)) × (Int × (Int × Int)))) : t_spec_l02Dot kx a0 a1 = (g_spec_l02Dot a0 a1).bind kx := by
  unfold g_spec_l02Dot t_spec_l02Dot
  exact nat_bind fun _ => nat_bind fun _ => nat_bind fun _ => nat_bind fun _ => nat_bind fun _ => rfl
abbrev as_spec_l02Dot : List AX := [.val false (.int .i64), .val true (.pair (.pair (.int .i64) (.pair (.int .i64) (.int .i64))) (.pair (.int .i64) (.pair (.int .i64) (.int .i64))))]
abbrev en_spec_l02Dot : (Int × (Int × Int)) → AV × List CV := fun b => (.one ⟨true, [(.v (.int .i64 b.1)), (.v (.int .i64 b.2.1)), (.v (.int .i64 b.2.2))]⟩, [])
noncomputable abbrev k_spec_l02Dot : Contract := .fx as_spec_l02Dot ((Int × (Int × Int))) (fun z => g_spec_l02Dot z.1 z.2.1) en_spec_l02Dot
theorem r_spec_l02Dot (z : argsX as_spec_l02Dot) : runF (tab C0 T_spec_l02Dot) noHints 1 Tryd.f35 (lentOf as_spec_l02Dot) (xBoxes as_spec_l02Dot z) (xVals as_spec_l02Dot 0 z) K2 = t_spec_l02Dot (fun b => some (en_spec_l02Dot b)) z.1 z.2.1 := by kernel_rfl
theorem so_spec_l02Dot : Sound C0 35 k_spec_l02Dot :=
  Sound.fx a_spec_l02Dot mixed Tryd.func35 (by kernel_rfl) (by kernel_rfl) noHints 1 noHints_ok (fun z => (r_spec_l02Dot z).trans (nat_spec_l02Dot _ z.1 z.2.1))

/-! ### F46 spec.l01Neg -/
noncomputable def T_spec_l01Neg : List (FuncId × Contract) := []
theorem a_spec_l01Neg : AllSound C0 T_spec_l01Neg := .nil
noncomputable def t_spec_l01Neg {R : Type} (kx : (Int × (Int × Int)) → Option R) (a0 : (Int × (Int × Int))) : Option R :=
  kx ((IntKind.wrap IntKind.i64 ((0 : Int) - a0.1)), ((IntKind.wrap IntKind.i64 ((0 : Int) - a0.2.1)), a0.2.2))
noncomputable def g_spec_l01Neg (a0 : (Int × (Int × Int))) : Option ((Int × (Int × Int))) := t_spec_l01Neg some a0
theorem nat_spec_l01Neg {R : Type} (kx : (Int × (Int × Int)) → Option R) (a0 : (Int × (Int × Int))) : t_spec_l01Neg kx a0 = (g_spec_l01Neg a0).bind kx := by
  unfold g_spec_l01Neg t_spec_l01Neg
  exact rfl
abbrev as_spec_l01Neg : List AX := [.val true (.pair (.int .i64) (.pair (.int .i64) (.int .i64)))]
abbrev en_spec_l01Neg : (Int × (Int × Int)) → AV × List CV := fun b => (.one ⟨true, [(.v (.int .i64 b.1)), (.v (.int .i64 b.2.1)), (.v (.int .i64 b.2.2))]⟩, [])
noncomputable abbrev k_spec_l01Neg : Contract := .fx as_spec_l01Neg ((Int × (Int × Int))) (fun z => g_spec_l01Neg z.1) en_spec_l01Neg
theorem r_spec_l01Neg (z : argsX as_spec_l01Neg) : runF (tab C0 T_spec_l01Neg) noHints 1 Tryd.f46 (lentOf as_spec_l01Neg) (xBoxes as_spec_l01Neg z) (xVals as_spec_l01Neg 0 z) K2 = t_spec_l01Neg (fun b => some (en_spec_l01Neg b)) z.1 := by kernel_rfl
theorem so_spec_l01Neg : Sound C0 46 k_spec_l01Neg :=
  Sound.fx a_spec_l01Neg mixed Tryd.func46 (by kernel_rfl) (by kernel_rfl) noHints 1 noHints_ok (fun z => (r_spec_l01Neg z).trans (nat_spec_l01Neg _ z.1))

/-! ### F27 spec.l01Sub -/
noncomputable def T_spec_l01Sub : List (FuncId × Contract) := [(46, k_spec_l01Neg), (43, k_spec_l01Add)]
theorem a_spec_l01Sub : AllSound C0 T_spec_l01Sub := .cons so_spec_l01Neg (.cons so_spec_l01Add (.nil))
noncomputable def t_spec_l01Sub {R : Type} (kx : (Int × (Int × Int)) → Option R) (a0 : (Int × (Int × Int))) (a1 : (Int × (Int × Int))) : Option R :=
  Option.bind (g_spec_l01Neg a1) fun y169 =>
  Option.bind (g_spec_l01Add a0 y169) fun y170 =>
  kx y170
noncomputable def g_spec_l01Sub (a0 : (Int × (Int × Int))) (a1 : (Int × (Int × Int))) : Option ((Int × (Int × Int))) := t_spec_l01Sub some a0 a1
theorem nat_spec_l01Sub {R : Type} (kx : (Int × (Int × Int)) → Option R) (a0 : (Int × (Int × Int))) (a1 : (Int × (Int × Int))) : t_spec_l01Sub kx a0 a1 = (g_spec_l01Sub a0 a1).bind kx := by
  unfold g_spec_l01Sub t_spec_l01Sub
  exact nat_bind fun _ => nat_bind fun _ => rfl
abbrev as_spec_l01Sub : List AX := [.val true (.pair (.int .i64) (.pair (.int .i64) (.int .i64))), .val true (.pair (.int .i64) (.pair (.int .i64) (.int .i64)))]
abbrev en_spec_l01Sub : (Int × (Int × Int)) → AV × List CV := fun b => (.one ⟨true, [(.v (.int .i64 b.1)), (.v (.int .i64 b.2.1)), (.v (.int .i64 b.2.2))]⟩, [])
noncomputable abbrev k_spec_l01Sub : Contract := .fx as_spec_l01Sub ((Int × (Int × Int))) (fun z => g_spec_l01Sub z.1 z.2.1) en_spec_l01Sub
theorem r_spec_l01Sub (z : argsX as_spec_l01Sub) : runF (tab C0 T_spec_l01Sub) noHints 1 Tryd.f27 (lentOf as_spec_l01Sub) (xBoxes as_spec_l01Sub z) (xVals as_spec_l01Sub 0 z) K2 = t_spec_l01Sub (fun b => some (en_spec_l01Sub b)) z.1 z.2.1 := by kernel_rfl
theorem so_spec_l01Sub : Sound C0 27 k_spec_l01Sub :=
  Sound.fx a_spec_l01Sub mixed Tryd.func27 (by kernel_rfl) (by kernel_rfl) noHints 1 noHints_ok (fun z => (r_spec_l01Sub z).trans (nat_spec_l01Sub _ z.1 z.2.1))

/-! ### F44 spec.l02Minus -/
noncomputable def T_spec_l02Minus : List (FuncId × Contract) := [(27, k_spec_l01Sub)]
theorem a_spec_l02Minus : AllSound C0 T_spec_l02Minus := .cons so_spec_l01Sub (.nil)
noncomputable def t_spec_l02Minus {R : Type} (kx : ((Int × (Int × Int)) × (Int × (Int × Int))) → Option R) (a0 : ((Int × (Int × Int)) × (Int × (Int × Int)))) (a1 : ((Int × (Int × Int)) × (Int × (Int × Int)))) : Option R :=
  Option.bind (g_spec_l01Sub a0.1 a1.1) fun y179 =>
  Option.bind (g_spec_l01Sub a0.2 a1.2) fun y180 =>
  kx (y179, y180)
noncomputable def g_spec_l02Minus (a0 : ((Int × (Int × Int)) × (Int × (Int × Int)))) (a1 : ((Int × (Int × Int)) × (Int × (Int × Int)))) : Option (((Int × (Int × Int)) × (Int × (Int × Int)))) := t_spec_l02Minus some a0 a1
theorem nat_spec_l02Minus {R : Type} (kx : ((Int × (Int × Int)) × (Int × (Int × Int))) → Option R) (a0 : ((Int × (Int × Int)) × (Int × (Int × Int)))) (a1 : ((Int × (Int × Int)) × (Int × (Int × Int)))) : t_spec_l02Minus kx a0 a1 = (g_spec_l02Minus a0 a1).bind kx := by
  unfold g_spec_l02Minus t_spec_l02Minus
  exact nat_bind fun _ => nat_bind fun _ => rfl
abbrev as_spec_l02Minus : List AX := [.val true (.pair (.pair (.int .i64) (.pair (.int .i64) (.int .i64))) (.pair (.int .i64) (.pair (.int .i64) (.int .i64)))), .val true (.pair (.pair (.int .i64) (.pair (.int .i64) (.int .i64))) (.pair (.int .i64) (.pair (.int .i64) (.int .i64))))]
abbrev en_spec_l02Minus : ((Int × (Int × Int)) × (Int × (Int × Int))) → AV × List CV := fun b => (.one ⟨true, [(.v (.int .i64 b.1.1)), (.v (.int .i64 b.1.2.1)), (.v (.int .i64 b.1.2.2)), (.v (.int .i64 b.2.1)), (.v (.int .i64 b.2.2.1)), (.v (.int .i64 b.2.2.2))]⟩, [])
noncomputable abbrev k_spec_l02Minus : Contract := .fx as_spec_l02Minus (((Int × (Int × Int)) × (Int × (Int × Int)))) (fun z => g_spec_l02Minus z.1 z.2.1) en_spec_l02Minus
theorem r_spec_l02Minus (z : argsX as_spec_l02Minus) : runF (tab C0 T_spec_l02Minus) noHints 1 Tryd.f44 (lentOf as_spec_l02Minus) (xBoxes as_spec_l02Minus z) (xVals as_spec_l02Minus 0 z) K2 = t_spec_l02Minus (fun b => some (en_spec_l02Minus b)) z.1 z.2.1 := by kernel_rfl
theorem so_spec_l02Minus : Sound C0 44 k_spec_l02Minus :=
  Sound.fx a_spec_l02Minus mixed Tryd.func44 (by kernel_rfl) (by kernel_rfl) noHints 1 noHints_ok (fun z => (r_spec_l02Minus z).trans (nat_spec_l02Minus _ z.1 z.2.1))

/-! ### F23 spec.l02Reflect -/
noncomputable def T_spec_l02Reflect : List (FuncId × Contract) := [(40, k_spec_l02Vec), (16, k_spec_l02Of), (35, k_spec_l02Dot), (27, k_spec_l01Sub), (42, k_spec_l02Square), (41, k_spec_l01Div), (43, k_spec_l01Add), (45, k_spec_l01Mul), (44, k_spec_l02Minus)]
theorem a_spec_l02Reflect : AllSound C0 T_spec_l02Reflect := .cons so_spec_l02Vec (.cons so_spec_l02Of (.cons so_spec_l02Dot (.cons so_spec_l01Sub (.cons so_spec_l02Square (.cons so_spec_l01Div (.cons so_spec_l01Add (.cons so_spec_l01Mul (.cons so_spec_l02Minus (.nil)))))))))
noncomputable def t_spec_l02Reflect {R : Type} (kx : ((Int × (Int × Int)) × (Int × (Int × Int))) → Option R) (a0 : (Int × (Int × (Int × Int)))) (a1 : ((Int × (Int × Int)) × (Int × (Int × Int)))) : Option R :=
  Option.bind (g_spec_l02Vec (IntKind.wrap IntKind.i64 (a0.1 + (4 : Int)))) fun y156 =>
  Option.bind (g_spec_l02Of y156) fun y157 =>
  Option.bind (g_spec_l02Dot (IntKind.wrap IntKind.i64 (a0.1 + (4 : Int))) a1) fun y165 =>
  Option.bind (g_spec_l01Sub y165 a0.2) fun y171 =>
  Option.bind (g_spec_l02Square (IntKind.wrap IntKind.i64 (a0.1 + (4 : Int)))) fun y172 =>
  Option.bind (g_spec_l01Div y171 y172) fun y173 =>
  Option.bind (g_spec_l01Add y173.1 y173.1) fun y174 =>
  Option.bind (g_spec_l01Mul y174 y157.1) fun y175 =>
  Option.bind (g_spec_l01Mul y174 y157.2) fun y176 =>
  Option.bind (g_spec_l02Minus a1 (y175, y176)) fun y181 =>
  kx y181
noncomputable def g_spec_l02Reflect (a0 : (Int × (Int × (Int × Int)))) (a1 : ((Int × (Int × Int)) × (Int × (Int × Int)))) : Option (((Int × (Int × Int)) × (Int × (Int × Int)))) := t_spec_l02Reflect some a0 a1
theorem nat_spec_l02Reflect {R : Type} (kx : ((Int × (Int × Int)) × (Int × (Int × Int))) → Option R) (a0 : (Int × (Int × (Int × Int)))) (a1 : ((Int × (Int × Int)) × (Int × (Int × Int)))) : t_spec_l02Reflect kx a0 a1 = (g_spec_l02Reflect a0 a1).bind kx := by
  unfold g_spec_l02Reflect t_spec_l02Reflect
  exact nat_bind fun _ => nat_bind fun _ => nat_bind fun _ => nat_bind fun _ => nat_bind fun _ => nat_bind fun _ => nat_bind fun _ => nat_bind fun _ => nat_bind fun _ => nat_bind fun _ => rfl
abbrev as_spec_l02Reflect : List AX := [.val true (.pair (.int .i64) (.pair (.int .i64) (.pair (.int .i64) (.int .i64)))), .val true (.pair (.pair (.int .i64) (.pair (.int .i64) (.int .i64))) (.pair (.int .i64) (.pair (.int .i64) (.int .i64))))]
abbrev en_spec_l02Reflect : ((Int × (Int × Int)) × (Int × (Int × Int))) → AV × List CV := fun b => (.one ⟨true, [(.v (.int .i64 b.1.1)), (.v (.int .i64 b.1.2.1)), (.v (.int .i64 b.1.2.2)), (.v (.int .i64 b.2.1)), (.v (.int .i64 b.2.2.1)), (.v (.int .i64 b.2.2.2))]⟩, [])
noncomputable abbrev k_spec_l02Reflect : Contract := .fx as_spec_l02Reflect (((Int × (Int × Int)) × (Int × (Int × Int)))) (fun z => g_spec_l02Reflect z.1 z.2.1) en_spec_l02Reflect
theorem r_spec_l02Reflect (z : argsX as_spec_l02Reflect) : runF (tab C0 T_spec_l02Reflect) noHints 1 Tryd.f23 (lentOf as_spec_l02Reflect) (xBoxes as_spec_l02Reflect z) (xVals as_spec_l02Reflect 0 z) K2 = t_spec_l02Reflect (fun b => some (en_spec_l02Reflect b)) z.1 z.2.1 := by kernel_rfl
theorem so_spec_l02Reflect : Sound C0 23 k_spec_l02Reflect :=
  Sound.fx a_spec_l02Reflect mixed Tryd.func23 (by kernel_rfl) (by kernel_rfl) noHints 1 noHints_ok (fun z => (r_spec_l02Reflect z).trans (nat_spec_l02Reflect _ z.1 z.2.1))

/-! ### F15 spec.l02Through -/
noncomputable def T_spec_l02Through : List (FuncId × Contract) := [(34, k_spec_l02Mod), (35, k_spec_l02Dot)]
theorem a_spec_l02Through : AllSound C0 T_spec_l02Through := .cons so_spec_l02Mod (.cons so_spec_l02Dot (.nil))
noncomputable def t_spec_l02Through {R : Type} (kx : (Int × (Int × (Int × Int))) → Option R) (a0 : ((Int × (Int × Int)) × (Int × (Int × Int)))) (a1 : Int) : Option R :=
  Option.bind (g_spec_l02Mod a1) fun y185 =>
  Option.bind (g_spec_l02Dot (IntKind.wrap IntKind.i64 ((Int.tmod y185 (8 : Int)) + (4 : Int))) a0) fun y186 =>
  kx ((Int.tmod y185 (8 : Int)), y186)
noncomputable def g_spec_l02Through (a0 : ((Int × (Int × Int)) × (Int × (Int × Int)))) (a1 : Int) : Option ((Int × (Int × (Int × Int)))) := t_spec_l02Through some a0 a1
theorem nat_spec_l02Through {R : Type} (kx : (Int × (Int × (Int × Int))) → Option R) (a0 : ((Int × (Int × Int)) × (Int × (Int × Int)))) (a1 : Int) : t_spec_l02Through kx a0 a1 = (g_spec_l02Through a0 a1).bind kx := by
  unfold g_spec_l02Through t_spec_l02Through
  exact nat_bind fun _ => nat_bind fun _ => rfl
abbrev as_spec_l02Through : List AX := [.val true (.pair (.pair (.int .i64) (.pair (.int .i64) (.int .i64))) (.pair (.int .i64) (.pair (.int .i64) (.int .i64)))), .val false (.int .i64)]
abbrev en_spec_l02Through : (Int × (Int × (Int × Int))) → AV × List CV := fun b => (.one ⟨true, [(.v (.int .i64 b.1)), (.v (.int .i64 b.2.1)), (.v (.int .i64 b.2.2.1)), (.v (.int .i64 b.2.2.2))]⟩, [])
noncomputable abbrev k_spec_l02Through : Contract := .fx as_spec_l02Through ((Int × (Int × (Int × Int)))) (fun z => g_spec_l02Through z.1 z.2.1) en_spec_l02Through
theorem r_spec_l02Through (z : argsX as_spec_l02Through) : runF (tab C0 T_spec_l02Through) noHints 1 Tryd.f15 (lentOf as_spec_l02Through) (xBoxes as_spec_l02Through z) (xVals as_spec_l02Through 0 z) K2 = t_spec_l02Through (fun b => some (en_spec_l02Through b)) z.1 z.2.1 := by kernel_rfl
theorem so_spec_l02Through : Sound C0 15 k_spec_l02Through :=
  Sound.fx a_spec_l02Through mixed Tryd.func15 (by kernel_rfl) (by kernel_rfl) noHints 1 noHints_ok (fun z => (r_spec_l02Through z).trans (nat_spec_l02Through _ z.1 z.2.1))

/-! ### F26 spec.l02Zero -/
noncomputable def T_spec_l02Zero : List (FuncId × Contract) := []
theorem a_spec_l02Zero : AllSound C0 T_spec_l02Zero := .nil
noncomputable def t_spec_l02Zero {R : Type} (kx : Bool → Option R) (a0 : (Int × (Int × Int))) : Option R :=
  cond (a0.1 == (0 : Int))
  (kx (a0.2.1 == (0 : Int)))
  (kx Bool.false)
noncomputable def g_spec_l02Zero (a0 : (Int × (Int × Int))) : Option (Bool) := t_spec_l02Zero some a0
theorem nat_spec_l02Zero {R : Type} (kx : Bool → Option R) (a0 : (Int × (Int × Int))) : t_spec_l02Zero kx a0 = (g_spec_l02Zero a0).bind kx := by
  unfold g_spec_l02Zero t_spec_l02Zero
  exact nat_cond (rfl) (rfl)
abbrev as_spec_l02Zero : List AX := [.val true (.pair (.int .i64) (.pair (.int .i64) (.int .i64)))]
abbrev en_spec_l02Zero : Bool → AV × List CV := fun b => (.one ⟨false, [(.v (.bool b))]⟩, [])
noncomputable abbrev k_spec_l02Zero : Contract := .fx as_spec_l02Zero (Bool) (fun z => g_spec_l02Zero z.1) en_spec_l02Zero
theorem r_spec_l02Zero (z : argsX as_spec_l02Zero) : runF (tab C0 T_spec_l02Zero) noHints 1 Tryd.f26 (lentOf as_spec_l02Zero) (xBoxes as_spec_l02Zero z) (xVals as_spec_l02Zero 0 z) K2 = t_spec_l02Zero (fun b => some (en_spec_l02Zero b)) z.1 := by kernel_rfl
theorem so_spec_l02Zero : Sound C0 26 k_spec_l02Zero :=
  Sound.fx a_spec_l02Zero mixed Tryd.func26 (by kernel_rfl) (by kernel_rfl) noHints 1 noHints_ok (fun z => (r_spec_l02Zero z).trans (nat_spec_l02Zero _ z.1))

/-! ### F10 spec.AlignsLine -/
noncomputable def T_spec_AlignsLine : List (FuncId × Contract) := [(12, k_spec_l02Line), (24, k_spec_l02LineOf), (25, k_spec_l02Foot), (23, k_spec_l02Reflect), (15, k_spec_l02Through), (28, k_spec_l01Of), (27, k_spec_l01Sub), (26, k_spec_l02Zero)]
theorem a_spec_AlignsLine : AllSound C0 T_spec_AlignsLine := .cons so_spec_l02Line (.cons so_spec_l02LineOf (.cons so_spec_l02Foot (.cons so_spec_l02Reflect (.cons so_spec_l02Through (.cons so_spec_l01Of (.cons so_spec_l01Sub (.cons so_spec_l02Zero (.nil))))))))
noncomputable def t_spec_AlignsLine {R : Type} (kx : Bool → Option R) (a0 : (Int × (Int × (Int × Int)))) (a1 : (Int × (Int × (Int × Int)))) (a2 : (Int × (Int × (Int × Int)))) : Option R :=
  Option.bind (g_spec_l02Line a0) fun y22 =>
  cond (!y22)
  (kx Bool.false)
  (Option.bind (g_spec_l02Line a1) fun y23 =>
   cond (!y23)
   (kx Bool.false)
   (Option.bind (g_spec_l02Line a2) fun y24 =>
    cond (!y24)
    (kx Bool.false)
    (Option.bind (g_spec_l02LineOf a0) fun y28 =>
     Option.bind (g_spec_l02LineOf a1) fun y29 =>
     Option.bind (g_spec_l02Foot y29) fun y153 =>
     Option.bind (g_spec_l02Reflect y28 y153) fun y182 =>
     Option.bind (g_spec_l02Through y182 (IntKind.wrap IntKind.i64 ((IntKind.wrap IntKind.i64 ((2 : Int) * a0.1)) - a1.1))) fun y187 =>
     cond (y187.1 == a2.1)
     (Option.bind (g_spec_l01Of a2.2) fun y188 =>
      Option.bind (g_spec_l01Sub y187.2 y188) fun y189 =>
      Option.bind (g_spec_l02Zero y189) fun y191 =>
      kx y191)
     (kx Bool.false))))
noncomputable def g_spec_AlignsLine (a0 : (Int × (Int × (Int × Int)))) (a1 : (Int × (Int × (Int × Int)))) (a2 : (Int × (Int × (Int × Int)))) : Option (Bool) := t_spec_AlignsLine some a0 a1 a2
theorem nat_spec_AlignsLine {R : Type} (kx : Bool → Option R) (a0 : (Int × (Int × (Int × Int)))) (a1 : (Int × (Int × (Int × Int)))) (a2 : (Int × (Int × (Int × Int)))) : t_spec_AlignsLine kx a0 a1 a2 = (g_spec_AlignsLine a0 a1 a2).bind kx := by
  unfold g_spec_AlignsLine t_spec_AlignsLine
  exact nat_bind fun _ => nat_cond (rfl) (nat_bind fun _ => nat_cond (rfl) (nat_bind fun _ => nat_cond (rfl) (nat_bind fun _ => nat_bind fun _ => nat_bind fun _ => nat_bind fun _ => nat_bind fun _ => nat_cond (nat_bind fun _ => nat_bind fun _ => nat_bind fun _ => rfl) (rfl))))
abbrev as_spec_AlignsLine : List AX := [.val true (.pair (.int .i64) (.pair (.int .i64) (.pair (.int .i64) (.int .i64)))), .val true (.pair (.int .i64) (.pair (.int .i64) (.pair (.int .i64) (.int .i64)))), .val true (.pair (.int .i64) (.pair (.int .i64) (.pair (.int .i64) (.int .i64))))]
abbrev en_spec_AlignsLine : Bool → AV × List CV := fun b => (.one ⟨false, [(.v (.bool b))]⟩, [])
noncomputable abbrev k_spec_AlignsLine : Contract := .fx as_spec_AlignsLine (Bool) (fun z => g_spec_AlignsLine z.1 z.2.1 z.2.2.1) en_spec_AlignsLine
theorem r_spec_AlignsLine (z : argsX as_spec_AlignsLine) : runF (tab C0 T_spec_AlignsLine) noHints 1 Tryd.f10 (lentOf as_spec_AlignsLine) (xBoxes as_spec_AlignsLine z) (xVals as_spec_AlignsLine 0 z) K2 = t_spec_AlignsLine (fun b => some (en_spec_AlignsLine b)) z.1 z.2.1 z.2.2.1 := by kernel_rfl
theorem so_spec_AlignsLine : Sound C0 10 k_spec_AlignsLine :=
  Sound.fx a_spec_AlignsLine mixed Tryd.func10 (by kernel_rfl) (by kernel_rfl) noHints 1 noHints_ok (fun z => (r_spec_AlignsLine z).trans (nat_spec_AlignsLine _ z.1 z.2.1 z.2.2.1))

/-! ### F36 impl.within -/
noncomputable def T_impl_within : List (FuncId × Contract) := []
theorem a_impl_within : AllSound C0 T_impl_within := .nil
noncomputable def t_impl_within {R : Type} (kx : Bool → Option R) (a0 : Int) (a1 : Int) (a2 : Int) : Option R :=
  cond (decide (a0 ≥ a1))
  (kx (decide (a0 ≤ a2)))
  (kx Bool.false)
noncomputable def g_impl_within (a0 : Int) (a1 : Int) (a2 : Int) : Option (Bool) := t_impl_within some a0 a1 a2
theorem nat_impl_within {R : Type} (kx : Bool → Option R) (a0 : Int) (a1 : Int) (a2 : Int) : t_impl_within kx a0 a1 a2 = (g_impl_within a0 a1 a2).bind kx := by
  unfold g_impl_within t_impl_within
  exact nat_cond (rfl) (rfl)
abbrev as_impl_within : List AX := [.val false (.int .i64), .val false (.int .i64), .val false (.int .i64)]
abbrev en_impl_within : Bool → AV × List CV := fun b => (.one ⟨false, [(.v (.bool b))]⟩, [])
noncomputable abbrev k_impl_within : Contract := .fx as_impl_within (Bool) (fun z => g_impl_within z.1 z.2.1 z.2.2.1) en_impl_within
theorem r_impl_within (z : argsX as_impl_within) : runF (tab C0 T_impl_within) noHints 1 Tryd.f36 (lentOf as_impl_within) (xBoxes as_impl_within z) (xVals as_impl_within 0 z) K2 = t_impl_within (fun b => some (en_impl_within b)) z.1 z.2.1 z.2.2.1 := by kernel_rfl
theorem so_impl_within : Sound C0 36 k_impl_within :=
  Sound.fx a_impl_within mixed Tryd.func36 (by kernel_rfl) (by kernel_rfl) noHints 1 noHints_ok (fun z => (r_impl_within z).trans (nat_impl_within _ z.1 z.2.1 z.2.2.1))

/-! ### F37 impl.ValidNum -/
noncomputable def T_impl_ValidNum : List (FuncId × Contract) := [(36, k_impl_within)]
theorem a_impl_ValidNum : AllSound C0 T_impl_ValidNum := .cons so_impl_within (.nil)
noncomputable def t_impl_ValidNum {R : Type} (kx : Bool → Option R) (a0 : (Int × (Int × Int))) : Option R :=
  Option.bind (g_impl_within a0.1 (-(131072 : Int)) (131072 : Int)) fun y205 =>
  cond y205
  (Option.bind (g_impl_within a0.2.1 (-(131072 : Int)) (131072 : Int)) fun y206 =>
   cond y206
   (Option.bind (g_impl_within a0.2.2 (0 : Int) (10 : Int)) fun y207 =>
    cond y207
    (cond (a0.2.2 == (0 : Int))
     (kx Bool.true)
     (cond ((IntKind.wrap IntKind.i64 (((BitVec.toNat ((BitVec.ofInt 64 a0.1) &&& (BitVec.ofInt 64 (1 : Int)))) : Nat) : Int)) == (1 : Int))
      (kx Bool.true)
      (kx ((IntKind.wrap IntKind.i64 (((BitVec.toNat ((BitVec.ofInt 64 a0.2.1) &&& (BitVec.ofInt 64 (1 : Int)))) : Nat) : Int)) == (1 : Int)))))
    (kx Bool.false))
   (kx Bool.false))
  (kx Bool.false)
noncomputable def g_impl_ValidNum (a0 : (Int × (Int × Int))) : Option (Bool) := t_impl_ValidNum some a0
theorem nat_impl_ValidNum {R : Type} (kx : Bool → Option R) (a0 : (Int × (Int × Int))) : t_impl_ValidNum kx a0 = (g_impl_ValidNum a0).bind kx := by
  unfold g_impl_ValidNum t_impl_ValidNum
  exact nat_bind fun _ => nat_cond (nat_bind fun _ => nat_cond (nat_bind fun _ => nat_cond (nat_cond (rfl) (nat_cond (rfl) (rfl))) (rfl)) (rfl)) (rfl)
abbrev as_impl_ValidNum : List AX := [.val true (.pair (.int .i64) (.pair (.int .i64) (.int .i64)))]
abbrev en_impl_ValidNum : Bool → AV × List CV := fun b => (.one ⟨false, [(.v (.bool b))]⟩, [])
noncomputable abbrev k_impl_ValidNum : Contract := .fx as_impl_ValidNum (Bool) (fun z => g_impl_ValidNum z.1) en_impl_ValidNum
theorem r_impl_ValidNum (z : argsX as_impl_ValidNum) : runF (tab C0 T_impl_ValidNum) noHints 1 Tryd.f37 (lentOf as_impl_ValidNum) (xBoxes as_impl_ValidNum z) (xVals as_impl_ValidNum 0 z) K2 = t_impl_ValidNum (fun b => some (en_impl_ValidNum b)) z.1 := by kernel_rfl
theorem so_impl_ValidNum : Sound C0 37 k_impl_ValidNum :=
  Sound.fx a_impl_ValidNum mixed Tryd.func37 (by kernel_rfl) (by kernel_rfl) noHints 1 noHints_ok (fun z => (r_impl_ValidNum z).trans (nat_impl_ValidNum _ z.1))

/-! ### F18 impl.ValidLine -/
noncomputable def T_impl_ValidLine : List (FuncId × Contract) := [(36, k_impl_within), (37, k_impl_ValidNum)]
theorem a_impl_ValidLine : AllSound C0 T_impl_ValidLine := .cons so_impl_within (.cons so_impl_ValidNum (.nil))
noncomputable def t_impl_ValidLine {R : Type} (kx : Bool → Option R) (a0 : (Int × (Int × (Int × Int)))) : Option R :=
  Option.bind (g_impl_within a0.1 (0 : Int) (7 : Int)) fun y203 =>
  cond y203
  (Option.bind (g_impl_ValidNum a0.2) fun y208 =>
   kx y208)
  (kx Bool.false)
noncomputable def g_impl_ValidLine (a0 : (Int × (Int × (Int × Int)))) : Option (Bool) := t_impl_ValidLine some a0
theorem nat_impl_ValidLine {R : Type} (kx : Bool → Option R) (a0 : (Int × (Int × (Int × Int)))) : t_impl_ValidLine kx a0 = (g_impl_ValidLine a0).bind kx := by
  unfold g_impl_ValidLine t_impl_ValidLine
  exact nat_bind fun _ => nat_cond (nat_bind fun _ => rfl) (rfl)
abbrev as_impl_ValidLine : List AX := [.val true (.pair (.int .i64) (.pair (.int .i64) (.pair (.int .i64) (.int .i64))))]
abbrev en_impl_ValidLine : Bool → AV × List CV := fun b => (.one ⟨false, [(.v (.bool b))]⟩, [])
noncomputable abbrev k_impl_ValidLine : Contract := .fx as_impl_ValidLine (Bool) (fun z => g_impl_ValidLine z.1) en_impl_ValidLine
theorem r_impl_ValidLine (z : argsX as_impl_ValidLine) : runF (tab C0 T_impl_ValidLine) noHints 1 Tryd.f18 (lentOf as_impl_ValidLine) (xBoxes as_impl_ValidLine z) (xVals as_impl_ValidLine 0 z) K2 = t_impl_ValidLine (fun b => some (en_impl_ValidLine b)) z.1 := by kernel_rfl
theorem so_impl_ValidLine : Sound C0 18 k_impl_ValidLine :=
  Sound.fx a_impl_ValidLine mixed Tryd.func18 (by kernel_rfl) (by kernel_rfl) noHints 1 noHints_ok (fun z => (r_impl_ValidLine z).trans (nat_impl_ValidLine _ z.1))

/-! ### F56 (impl.Num).neg -/
noncomputable def T_impl_Num_neg : List (FuncId × Contract) := []
theorem a_impl_Num_neg : AllSound C0 T_impl_Num_neg := .nil
noncomputable def t_impl_Num_neg {R : Type} (kx : (Int × (Int × Int)) → Option R) (a0 : (Int × (Int × Int))) : Option R :=
  kx ((IntKind.wrap IntKind.i64 ((0 : Int) - a0.1)), ((IntKind.wrap IntKind.i64 ((0 : Int) - a0.2.1)), a0.2.2))
noncomputable def g_impl_Num_neg (a0 : (Int × (Int × Int))) : Option ((Int × (Int × Int))) := t_impl_Num_neg some a0
theorem nat_impl_Num_neg {R : Type} (kx : (Int × (Int × Int)) → Option R) (a0 : (Int × (Int × Int))) : t_impl_Num_neg kx a0 = (g_impl_Num_neg a0).bind kx := by
  unfold g_impl_Num_neg t_impl_Num_neg
  exact rfl
abbrev as_impl_Num_neg : List AX := [.val true (.pair (.int .i64) (.pair (.int .i64) (.int .i64)))]
abbrev en_impl_Num_neg : (Int × (Int × Int)) → AV × List CV := fun b => (.one ⟨true, [(.v (.int .i64 b.1)), (.v (.int .i64 b.2.1)), (.v (.int .i64 b.2.2))]⟩, [])
noncomputable abbrev k_impl_Num_neg : Contract := .fx as_impl_Num_neg ((Int × (Int × Int))) (fun z => g_impl_Num_neg z.1) en_impl_Num_neg
theorem r_impl_Num_neg (z : argsX as_impl_Num_neg) : runF (tab C0 T_impl_Num_neg) noHints 1 Tryd.f56 (lentOf as_impl_Num_neg) (xBoxes as_impl_Num_neg z) (xVals as_impl_Num_neg 0 z) K2 = t_impl_Num_neg (fun b => some (en_impl_Num_neg b)) z.1 := by kernel_rfl
theorem so_impl_Num_neg : Sound C0 56 k_impl_Num_neg :=
  Sound.fx a_impl_Num_neg mixed Tryd.func56 (by kernel_rfl) (by kernel_rfl) noHints 1 noHints_ok (fun z => (r_impl_Num_neg z).trans (nat_impl_Num_neg _ z.1))

/-! ### F53 impl.vector -/
noncomputable def T_impl_vector : List (FuncId × Contract) := [(56, k_impl_Num_neg)]
theorem a_impl_vector : AllSound C0 T_impl_vector := .cons so_impl_Num_neg (.nil)
noncomputable def t_impl_vector {R : Type} (kx : ((Int × (Int × Int)) × (Int × (Int × Int))) → Option R) (a0 : Int) : Option R :=
  cond (decide (a0 ≥ (8 : Int)))
  (cond (decide ((IntKind.wrap IntKind.i64 (a0 - (8 : Int))) = ((0 : Nat) : Int)))
   (Option.bind (g_impl_Num_neg ((1 : Int), ((0 : Int), (0 : Int)))) fun y216 =>
    Option.bind (g_impl_Num_neg ((0 : Int), ((0 : Int), (0 : Int)))) fun y217 =>
    kx (y216, y217))
   (cond (decide ((IntKind.wrap IntKind.i64 (a0 - (8 : Int))) = (((0 + 1) : Nat) : Int)))
    (Option.bind (g_impl_Num_neg ((1 : Int), ((0 : Int), (0 : Int)))) fun y218 =>
     Option.bind (g_impl_Num_neg ((-(1 : Int)), ((1 : Int), (0 : Int)))) fun y219 =>
     kx (y218, y219))
    (cond (decide ((IntKind.wrap IntKind.i64 (a0 - (8 : Int))) = ((((0 + 1) + 1) : Nat) : Int)))
     (Option.bind (g_impl_Num_neg ((1 : Int), ((0 : Int), (0 : Int)))) fun y220 =>
      Option.bind (g_impl_Num_neg ((1 : Int), ((0 : Int), (0 : Int)))) fun y221 =>
      kx (y220, y221))
     (cond (decide ((IntKind.wrap IntKind.i64 (a0 - (8 : Int))) = (((((0 + 1) + 1) + 1) : Nat) : Int)))
      (Option.bind (g_impl_Num_neg ((-(1 : Int)), ((1 : Int), (0 : Int)))) fun y222 =>
       Option.bind (g_impl_Num_neg ((1 : Int), ((0 : Int), (0 : Int)))) fun y223 =>
       kx (y222, y223))
      (cond (decide ((IntKind.wrap IntKind.i64 (a0 - (8 : Int))) = ((((((0 + 1) + 1) + 1) + 1) : Nat) : Int)))
       (Option.bind (g_impl_Num_neg ((0 : Int), ((0 : Int), (0 : Int)))) fun y224 =>
        Option.bind (g_impl_Num_neg ((1 : Int), ((0 : Int), (0 : Int)))) fun y225 =>
        kx (y224, y225))
       (cond (decide ((IntKind.wrap IntKind.i64 (a0 - (8 : Int))) = (((((((0 + 1) + 1) + 1) + 1) + 1) : Nat) : Int)))
        (Option.bind (g_impl_Num_neg ((1 : Int), ((-(1 : Int)), (0 : Int)))) fun y226 =>
         Option.bind (g_impl_Num_neg ((1 : Int), ((0 : Int), (0 : Int)))) fun y227 =>
         kx (y226, y227))
        (cond (decide ((IntKind.wrap IntKind.i64 (a0 - (8 : Int))) = ((((((((0 + 1) + 1) + 1) + 1) + 1) + 1) : Nat) : Int)))
         (Option.bind (g_impl_Num_neg ((-(1 : Int)), ((0 : Int), (0 : Int)))) fun y228 =>
          Option.bind (g_impl_Num_neg ((1 : Int), ((0 : Int), (0 : Int)))) fun y229 =>
          kx (y228, y229))
         (cond (decide ((IntKind.wrap IntKind.i64 (a0 - (8 : Int))) = (((((((((0 + 1) + 1) + 1) + 1) + 1) + 1) + 1) : Nat) : Int)))
          (Option.bind (g_impl_Num_neg ((-(1 : Int)), ((0 : Int), (0 : Int)))) fun y230 =>
           Option.bind (g_impl_Num_neg ((-(1 : Int)), ((1 : Int), (0 : Int)))) fun y231 =>
           kx (y230, y231))
          (none)))))))))
  (cond (decide (a0 = ((0 : Nat) : Int)))
   (kx (((1 : Int), ((0 : Int), (0 : Int))), ((0 : Int), ((0 : Int), (0 : Int)))))
   (cond (decide (a0 = (((0 + 1) : Nat) : Int)))
    (kx (((1 : Int), ((0 : Int), (0 : Int))), ((-(1 : Int)), ((1 : Int), (0 : Int)))))
    (cond (decide (a0 = ((((0 + 1) + 1) : Nat) : Int)))
     (kx (((1 : Int), ((0 : Int), (0 : Int))), ((1 : Int), ((0 : Int), (0 : Int)))))
     (cond (decide (a0 = (((((0 + 1) + 1) + 1) : Nat) : Int)))
      (kx (((-(1 : Int)), ((1 : Int), (0 : Int))), ((1 : Int), ((0 : Int), (0 : Int)))))
      (cond (decide (a0 = ((((((0 + 1) + 1) + 1) + 1) : Nat) : Int)))
       (kx (((0 : Int), ((0 : Int), (0 : Int))), ((1 : Int), ((0 : Int), (0 : Int)))))
       (cond (decide (a0 = (((((((0 + 1) + 1) + 1) + 1) + 1) : Nat) : Int)))
        (kx (((1 : Int), ((-(1 : Int)), (0 : Int))), ((1 : Int), ((0 : Int), (0 : Int)))))
        (cond (decide (a0 = ((((((((0 + 1) + 1) + 1) + 1) + 1) + 1) : Nat) : Int)))
         (kx (((-(1 : Int)), ((0 : Int), (0 : Int))), ((1 : Int), ((0 : Int), (0 : Int)))))
         (cond (decide (a0 = (((((((((0 + 1) + 1) + 1) + 1) + 1) + 1) + 1) : Nat) : Int)))
          (kx (((-(1 : Int)), ((0 : Int), (0 : Int))), ((-(1 : Int)), ((1 : Int), (0 : Int)))))
          (none)))))))))
noncomputable def g_impl_vector (a0 : Int) : Option (((Int × (Int × Int)) × (Int × (Int × Int)))) := t_impl_vector some a0
theorem nat_impl_vector {R : Type} (kx : ((Int × (Int × Int)) × (Int × (Int × Int))) → Option R) (a0 : Int) : t_impl_vector kx a0 = (g_impl_vector a0).bind kx := by
  unfold g_impl_vector t_impl_vector
  exact nat_cond (nat_cond (nat_bind fun _ => nat_bind fun _ => rfl) (nat_cond (nat_bind fun _ => nat_bind fun _ => rfl) (nat_cond (nat_bind fun _ => nat_bind fun _ => rfl) (nat_cond (nat_bind fun _ => nat_bind fun _ => rfl) (nat_cond (nat_bind fun _ => nat_bind fun _ => rfl) (nat_cond (nat_bind fun _ => nat_bind fun _ => rfl) (nat_cond (nat_bind fun _ => nat_bind fun _ => rfl) (nat_cond (nat_bind fun _ => nat_bind fun _ => rfl) (rfl))))))))) (nat_cond (rfl) (nat_cond (rfl) (nat_cond (rfl) (nat_cond (rfl) (nat_cond (rfl) (nat_cond (rfl) (nat_cond (rfl) (nat_cond (rfl) (rfl)))))))))
abbrev as_impl_vector : List AX := [.val false (.int .i64)]
abbrev en_impl_vector : ((Int × (Int × Int)) × (Int × (Int × Int))) → AV × List CV := fun b => (.one ⟨true, [(.v (.int .i64 b.1.1)), (.v (.int .i64 b.1.2.1)), (.v (.int .i64 b.1.2.2)), (.v (.int .i64 b.2.1)), (.v (.int .i64 b.2.2.1)), (.v (.int .i64 b.2.2.2))]⟩, [])
noncomputable abbrev k_impl_vector : Contract := .fx as_impl_vector (((Int × (Int × Int)) × (Int × (Int × Int)))) (fun z => g_impl_vector z.1) en_impl_vector
theorem r_impl_vector (z : argsX as_impl_vector) : runF (tab C0 T_impl_vector) noHints 1 Tryd.f53 (lentOf as_impl_vector) (xBoxes as_impl_vector z) (xVals as_impl_vector 0 z) K2 = t_impl_vector (fun b => some (en_impl_vector b)) z.1 := by kernel_rfl
theorem so_impl_vector : Sound C0 53 k_impl_vector :=
  Sound.fx a_impl_vector mixed Tryd.func53 (by kernel_rfl) (by kernel_rfl) noHints 1 noHints_ok (fun z => (r_impl_vector z).trans (nat_impl_vector _ z.1))

/-! ### F38 (impl.Line).normal -/
noncomputable def T_impl_Line_normal : List (FuncId × Contract) := [(53, k_impl_vector)]
theorem a_impl_Line_normal : AllSound C0 T_impl_Line_normal := .cons so_impl_vector (.nil)
noncomputable def t_impl_Line_normal {R : Type} (kx : ((Int × (Int × Int)) × (Int × (Int × Int))) → Option R) (a0 : (Int × (Int × (Int × Int)))) : Option R :=
  Option.bind (g_impl_vector (IntKind.wrap IntKind.i64 (a0.1 + (4 : Int)))) fun y232 =>
  kx y232
noncomputable def g_impl_Line_normal (a0 : (Int × (Int × (Int × Int)))) : Option (((Int × (Int × Int)) × (Int × (Int × Int)))) := t_impl_Line_normal some a0
theorem nat_impl_Line_normal {R : Type} (kx : ((Int × (Int × Int)) × (Int × (Int × Int))) → Option R) (a0 : (Int × (Int × (Int × Int)))) : t_impl_Line_normal kx a0 = (g_impl_Line_normal a0).bind kx := by
  unfold g_impl_Line_normal t_impl_Line_normal
  exact nat_bind fun _ => rfl
abbrev as_impl_Line_normal : List AX := [.val true (.pair (.int .i64) (.pair (.int .i64) (.pair (.int .i64) (.int .i64))))]
abbrev en_impl_Line_normal : ((Int × (Int × Int)) × (Int × (Int × Int))) → AV × List CV := fun b => (.one ⟨true, [(.v (.int .i64 b.1.1)), (.v (.int .i64 b.1.2.1)), (.v (.int .i64 b.1.2.2)), (.v (.int .i64 b.2.1)), (.v (.int .i64 b.2.2.1)), (.v (.int .i64 b.2.2.2))]⟩, [])
noncomputable abbrev k_impl_Line_normal : Contract := .fx as_impl_Line_normal (((Int × (Int × Int)) × (Int × (Int × Int)))) (fun z => g_impl_Line_normal z.1) en_impl_Line_normal
theorem r_impl_Line_normal (z : argsX as_impl_Line_normal) : runF (tab C0 T_impl_Line_normal) noHints 1 Tryd.f38 (lentOf as_impl_Line_normal) (xBoxes as_impl_Line_normal z) (xVals as_impl_Line_normal 0 z) K2 = t_impl_Line_normal (fun b => some (en_impl_Line_normal b)) z.1 := by kernel_rfl
theorem so_impl_Line_normal : Sound C0 38 k_impl_Line_normal :=
  Sound.fx a_impl_Line_normal mixed Tryd.func38 (by kernel_rfl) (by kernel_rfl) noHints 1 noHints_ok (fun z => (r_impl_Line_normal z).trans (nat_impl_Line_normal _ z.1))

/-! ### F57 (impl.Num).reduced -/
noncomputable def T_impl_Num_reduced : List (FuncId × Contract) := []
theorem a_impl_Num_reduced : AllSound C0 T_impl_Num_reduced := .nil
abbrev s_impl_Num_reduced_2 : LS := ⟨[(false, [(.ptr 1 0)]), (false, [(.ptr 2 0)])], [(false, [(.int .i64), (.int .i64), (.int .i64)]), (false, [(.int .i64), (.int .i64), (.int .i64)])], []⟩
abbrev e_impl_Num_reduced_2_0 : LS := ⟨[(false, [(.ptr 1 0)]), (false, [(.ptr 2 0)])], [(false, [(.int .i64), (.int .i64), (.int .i64)]), (false, [(.int .i64), (.int .i64), (.int .i64)])], []⟩
abbrev d_impl_Num_reduced_2_0 (v0 : Int) (v1 : Int) (v2 : Int) (v3 : Int) (v4 : Int) (v5 : Int) : e_impl_Num_reduced_2_0.T := ((((), ()), ((), ()), ()), ((v0, v1, v2, ()), (v3, v4, v5, ()), ()), ())
abbrev x_impl_Num_reduced_2 : List (Ex × LS) := [(.exit 0, e_impl_Num_reduced_2_0)]
abbrev m_impl_Num_reduced_2 (b0_0 : Int) (b0_1 : Int) (b0_2 : Int) (b1_0 : Int) (b1_1 : Int) (b1_2 : Int) : s_impl_Num_reduced_2.T := ((((), ()), ((), ()), ()), ((b0_0, b0_1, b0_2, ()), (b1_0, b1_1, b1_2, ()), ()), ())
noncomputable def u_impl_Num_reduced_2 {R : Type} (nx : s_impl_Num_reduced_2.T → Option R) (hx : exH R x_impl_Num_reduced_2) (b0_0 : Int) (b0_1 : Int) (b0_2 : Int) (b1_0 : Int) (b1_1 : Int) (b1_2 : Int) : Option R :=
  cond (decide (b0_2 > (0 : Int)))
  (cond ((IntKind.wrap IntKind.i64 (((BitVec.toNat ((BitVec.ofInt 64 b0_0) &&& (BitVec.ofInt 64 (1 : Int)))) : Nat) : Int)) == (0 : Int))
   (cond ((IntKind.wrap IntKind.i64 (((BitVec.toNat ((BitVec.ofInt 64 b0_1) &&& (BitVec.ofInt 64 (1 : Int)))) : Nat) : Int)) == (0 : Int))
    (cond ((IntKind.wrap IntKind.i64 (Int.tdiv b0_0 (2 : Int))) == (0 : Int))
     (cond ((IntKind.wrap IntKind.i64 (Int.tdiv b0_1 (2 : Int))) == (0 : Int))
      (nx (m_impl_Num_reduced_2 (IntKind.wrap IntKind.i64 (Int.tdiv b0_0 (2 : Int))) (IntKind.wrap IntKind.i64 (Int.tdiv b0_1 (2 : Int))) (0 : Int) b1_0 b1_1 b1_2))
      (nx (m_impl_Num_reduced_2 (IntKind.wrap IntKind.i64 (Int.tdiv b0_0 (2 : Int))) (IntKind.wrap IntKind.i64 (Int.tdiv b0_1 (2 : Int))) (IntKind.wrap IntKind.i64 (b0_2 - (1 : Int))) b1_0 b1_1 b1_2)))
     (nx (m_impl_Num_reduced_2 (IntKind.wrap IntKind.i64 (Int.tdiv b0_0 (2 : Int))) (IntKind.wrap IntKind.i64 (Int.tdiv b0_1 (2 : Int))) (IntKind.wrap IntKind.i64 (b0_2 - (1 : Int))) b1_0 b1_1 b1_2)))
    (hx.1 (d_impl_Num_reduced_2_0 b0_0 b0_1 b0_2 b1_0 b1_1 b1_2)))
   (hx.1 (d_impl_Num_reduced_2_0 b0_0 b0_1 b0_2 b1_0 b1_1 b1_2)))
  (hx.1 (d_impl_Num_reduced_2_0 b0_0 b0_1 b0_2 b1_0 b1_1 b1_2))
noncomputable def t_impl_Num_reduced_2 {R : Type} (nx : s_impl_Num_reduced_2.T → Option R) (hx : exH R x_impl_Num_reduced_2) (z : s_impl_Num_reduced_2.T) : Option R := u_impl_Num_reduced_2 nx hx z.2.1.1.1 z.2.1.1.2.1 z.2.1.1.2.2.1 z.2.1.2.1.1 z.2.1.2.1.2.1 z.2.1.2.1.2.2.1
theorem nat_impl_Num_reduced_2 : Natural @t_impl_Num_reduced_2 := fun R nx hx z => by
  show u_impl_Num_reduced_2 nx hx z.2.1.1.1 z.2.1.1.2.1 z.2.1.1.2.2.1 z.2.1.2.1.1 z.2.1.2.1.2.1 z.2.1.2.1.2.2.1 = (u_impl_Num_reduced_2 (fun y => some (.inl y)) (hIn x_impl_Num_reduced_2 fun x => some (.inr x)) z.2.1.1.1 z.2.1.1.2.1 z.2.1.1.2.2.1 z.2.1.2.1.1 z.2.1.2.1.2.1 z.2.1.2.1.2.2.1).bind (goOn nx hx)
  unfold u_impl_Num_reduced_2
  exact nat_cond (nat_cond (nat_cond (nat_cond (nat_cond (rfl) (rfl)) (rfl)) (rfl)) (rfl)) (rfl)
noncomputable def w_impl_Num_reduced_2 : s_impl_Num_reduced_2.T → Option (exT x_impl_Num_reduced_2) := wOf @t_impl_Num_reduced_2
theorem wq_impl_Num_reduced_2 (b0_0 : Int) (b0_1 : Int) (b0_2 : Int) (b1_0 : Int) (b1_1 : Int) (b1_2 : Int) : w_impl_Num_reduced_2 (m_impl_Num_reduced_2 b0_0 b0_1 b0_2 b1_0 b1_1 b1_2) = u_impl_Num_reduced_2 w_impl_Num_reduced_2 (hIn x_impl_Num_reduced_2 some) b0_0 b0_1 b0_2 b1_0 b1_1 b1_2 := wOf_eq nat_impl_Num_reduced_2 _
def lh_impl_Num_reduced_2 : LoopHint := ⟨[1, 2], [1, 2], [1, 2], [1, 2]⟩
noncomputable def h_impl_Num_reduced : Hints Rv := ⟨fun k => match k with | 2 => lh_impl_Num_reduced_2 | _ => ⟨[], [], [], []⟩, fun k => match k with | 2 => some (loopX s_impl_Num_reduced_2 x_impl_Num_reduced_2 w_impl_Num_reduced_2) | _ => none⟩
theorem st_impl_Num_reduced_2 (n : Nat) (z : s_impl_Num_reduced_2.T) (k : Ex → Live → Option Rv) : loopN ⟨40, 40⟩ lh_impl_Num_reduced_2 (den (tab C0 T_impl_Num_reduced) ⟨40, 40⟩ h_impl_Num_reduced 1 (loopOf Tryd.f57 1)) (n + 1) (s_impl_Num_reduced_2.enc z) k =
    t_impl_Num_reduced_2 (fun y => loopN ⟨40, 40⟩ lh_impl_Num_reduced_2 (den (tab C0 T_impl_Num_reduced) ⟨40, 40⟩ h_impl_Num_reduced 1 (loopOf Tryd.f57 1)) n (s_impl_Num_reduced_2.enc y) k) (hK k x_impl_Num_reduced_2) z := by kernel_rfl
theorem hs_impl_Num_reduced : HintsOk (tab C0 T_impl_Num_reduced) ⟨40, 40⟩ h_impl_Num_reduced 1 (loops (codeOf Tryd.f57)) := by
  have hl : loops (codeOf Tryd.f57) = [loopOf Tryd.f57 1] := by kernel_rfl
  rw [hl]
  exact HintsOk.cons (n := 2) (lh := lh_impl_Num_reduced_2) (S := loopX s_impl_Num_reduced_2 x_impl_Num_reduced_2 w_impl_Num_reduced_2) (by kernel_rfl) rfl rfl (loopX_ok nat_impl_Num_reduced_2 st_impl_Num_reduced_2)
    (HintsOk.nil)
noncomputable def t_impl_Num_reduced {R : Type} (kx : (Int × (Int × Int)) → Option R) (a0 : (Int × (Int × Int))) : Option R :=
  Option.bind (w_impl_Num_reduced_2 (m_impl_Num_reduced_2 a0.1 a0.2.1 a0.2.2 (0 : Int) (0 : Int) (0 : Int))) (exC x_impl_Num_reduced_2
  (fun e245 =>
   kx ((e245.2.1.1.1 : Int), ((e245.2.1.1.2.1 : Int), (e245.2.1.1.2.2.1 : Int))), ()))
noncomputable def g_impl_Num_reduced (a0 : (Int × (Int × Int))) : Option ((Int × (Int × Int))) := t_impl_Num_reduced some a0
theorem nat_impl_Num_reduced {R : Type} (kx : (Int × (Int × Int)) → Option R) (a0 : (Int × (Int × Int))) : t_impl_Num_reduced kx a0 = (g_impl_Num_reduced a0).bind kx := by
  unfold g_impl_Num_reduced t_impl_Num_reduced
  exact nat_exC ⟨fun _ => rfl, trivial⟩
abbrev as_impl_Num_reduced : List AX := [.val true (.pair (.int .i64) (.pair (.int .i64) (.int .i64)))]
abbrev en_impl_Num_reduced : (Int × (Int × Int)) → AV × List CV := fun b => (.one ⟨true, [(.v (.int .i64 b.1)), (.v (.int .i64 b.2.1)), (.v (.int .i64 b.2.2))]⟩, [])
noncomputable abbrev k_impl_Num_reduced : Contract := .fx as_impl_Num_reduced ((Int × (Int × Int))) (fun z => g_impl_Num_reduced z.1) en_impl_Num_reduced
theorem r_impl_Num_reduced (z : argsX as_impl_Num_reduced) : runF (tab C0 T_impl_Num_reduced) h_impl_Num_reduced 1 Tryd.f57 (lentOf as_impl_Num_reduced) (xBoxes as_impl_Num_reduced z) (xVals as_impl_Num_reduced 0 z) K2 = t_impl_Num_reduced (fun b => some (en_impl_Num_reduced b)) z.1 := by kernel_rfl
theorem so_impl_Num_reduced : Sound C0 57 k_impl_Num_reduced :=
  Sound.fx a_impl_Num_reduced mixed Tryd.func57 (by kernel_rfl) (by kernel_rfl) h_impl_Num_reduced 1 hs_impl_Num_reduced (fun z => (r_impl_Num_reduced z).trans (nat_impl_Num_reduced _ z.1))

/-! ### F54 (impl.Num).times -/
noncomputable def T_impl_Num_times : List (FuncId × Contract) := [(57, k_impl_Num_reduced)]
theorem a_impl_Num_times : AllSound C0 T_impl_Num_times := .cons so_impl_Num_reduced (.nil)
noncomputable def t_impl_Num_times {R : Type} (kx : (Int × (Int × Int)) → Option R) (a0 : (Int × (Int × Int))) (a1 : (Int × (Int × Int))) : Option R :=
  Option.bind (g_impl_Num_reduced ((IntKind.wrap IntKind.i64 ((IntKind.wrap IntKind.i64 (a0.1 * a1.1)) + (IntKind.wrap IntKind.i64 ((IntKind.wrap IntKind.i64 ((2 : Int) * a0.2.1)) * a1.2.1)))), ((IntKind.wrap IntKind.i64 ((IntKind.wrap IntKind.i64 (a0.1 * a1.2.1)) + (IntKind.wrap IntKind.i64 (a0.2.1 * a1.1)))), (IntKind.wrap IntKind.i64 (a0.2.2 + a1.2.2))))) fun y252 =>
  kx y252
noncomputable def g_impl_Num_times (a0 : (Int × (Int × Int))) (a1 : (Int × (Int × Int))) : Option ((Int × (Int × Int))) := t_impl_Num_times some a0 a1
theorem nat_impl_Num_times {R : Type} (kx : (Int × (Int × Int)) → Option R) (a0 : (Int × (Int × Int))) (a1 : (Int × (Int × Int))) : t_impl_Num_times kx a0 a1 = (g_impl_Num_times a0 a1).bind kx := by
  unfold g_impl_Num_times t_impl_Num_times
  exact nat_bind fun _ => rfl
abbrev as_impl_Num_times : List AX := [.val true (.pair (.int .i64) (.pair (.int .i64) (.int .i64))), .val true (.pair (.int .i64) (.pair (.int .i64) (.int .i64)))]
abbrev en_impl_Num_times : (Int × (Int × Int)) → AV × List CV := fun b => (.one ⟨true, [(.v (.int .i64 b.1)), (.v (.int .i64 b.2.1)), (.v (.int .i64 b.2.2))]⟩, [])
noncomputable abbrev k_impl_Num_times : Contract := .fx as_impl_Num_times ((Int × (Int × Int))) (fun z => g_impl_Num_times z.1 z.2.1) en_impl_Num_times
theorem r_impl_Num_times (z : argsX as_impl_Num_times) : runF (tab C0 T_impl_Num_times) noHints 1 Tryd.f54 (lentOf as_impl_Num_times) (xBoxes as_impl_Num_times z) (xVals as_impl_Num_times 0 z) K2 = t_impl_Num_times (fun b => some (en_impl_Num_times b)) z.1 z.2.1 := by kernel_rfl
theorem so_impl_Num_times : Sound C0 54 k_impl_Num_times :=
  Sound.fx a_impl_Num_times mixed Tryd.func54 (by kernel_rfl) (by kernel_rfl) noHints 1 noHints_ok (fun z => (r_impl_Num_times z).trans (nat_impl_Num_times _ z.1 z.2.1))

/-! ### F51 (impl.Num).plus -/
noncomputable def T_impl_Num_plus : List (FuncId × Contract) := [(57, k_impl_Num_reduced)]
theorem a_impl_Num_plus : AllSound C0 T_impl_Num_plus := .cons so_impl_Num_reduced (.nil)
noncomputable def t_impl_Num_plus {R : Type} (kx : (Int × (Int × Int)) → Option R) (a0 : (Int × (Int × Int))) (a1 : (Int × (Int × Int))) : Option R :=
  cond (decide ((IntKind.wrap IntKind.i64 ((if (Bool.true = Bool.true) then (if (a1.2.2 > a0.2.2) then a1.2.2 else a0.2.2) else (if (a1.2.2 < a0.2.2) then a1.2.2 else a0.2.2)) - a0.2.2)) < (0 : Int)))
  (none)
  (cond (decide ((IntKind.wrap IntKind.i64 ((if (Bool.true = Bool.true) then (if (a1.2.2 > a0.2.2) then a1.2.2 else a0.2.2) else (if (a1.2.2 < a0.2.2) then a1.2.2 else a0.2.2)) - a1.2.2)) < (0 : Int)))
   (none)
   (cond (decide ((IntKind.wrap IntKind.i64 ((if (Bool.true = Bool.true) then (if (a1.2.2 > a0.2.2) then a1.2.2 else a0.2.2) else (if (a1.2.2 < a0.2.2) then a1.2.2 else a0.2.2)) - a0.2.2)) < (0 : Int)))
    (none)
    (cond (decide ((IntKind.wrap IntKind.i64 ((if (Bool.true = Bool.true) then (if (a1.2.2 > a0.2.2) then a1.2.2 else a0.2.2) else (if (a1.2.2 < a0.2.2) then a1.2.2 else a0.2.2)) - a1.2.2)) < (0 : Int)))
     (none)
     (Option.bind (g_impl_Num_reduced ((IntKind.wrap IntKind.i64 ((IntKind.wrap IntKind.i64 (a0.1 * ((2 : Int) ^ (Min.min (Int.toNat (IntKind.wrap IntKind.i64 ((if (Bool.true = Bool.true) then (if (a1.2.2 > a0.2.2) then a1.2.2 else a0.2.2) else (if (a1.2.2 < a0.2.2) then a1.2.2 else a0.2.2)) - a0.2.2))) 64)))) + (IntKind.wrap IntKind.i64 (a1.1 * ((2 : Int) ^ (Min.min (Int.toNat (IntKind.wrap IntKind.i64 ((if (Bool.true = Bool.true) then (if (a1.2.2 > a0.2.2) then a1.2.2 else a0.2.2) else (if (a1.2.2 < a0.2.2) then a1.2.2 else a0.2.2)) - a1.2.2))) 64)))))), ((IntKind.wrap IntKind.i64 ((IntKind.wrap IntKind.i64 (a0.2.1 * ((2 : Int) ^ (Min.min (Int.toNat (IntKind.wrap IntKind.i64 ((if (Bool.true = Bool.true) then (if (a1.2.2 > a0.2.2) then a1.2.2 else a0.2.2) else (if (a1.2.2 < a0.2.2) then a1.2.2 else a0.2.2)) - a0.2.2))) 64)))) + (IntKind.wrap IntKind.i64 (a1.2.1 * ((2 : Int) ^ (Min.min (Int.toNat (IntKind.wrap IntKind.i64 ((if (Bool.true = Bool.true) then (if (a1.2.2 > a0.2.2) then a1.2.2 else a0.2.2) else (if (a1.2.2 < a0.2.2) then a1.2.2 else a0.2.2)) - a1.2.2))) 64)))))), (if (Bool.true = Bool.true) then (if (a1.2.2 > a0.2.2) then a1.2.2 else a0.2.2) else (if (a1.2.2 < a0.2.2) then a1.2.2 else a0.2.2))))) fun y257 =>
      kx y257))))
noncomputable def g_impl_Num_plus (a0 : (Int × (Int × Int))) (a1 : (Int × (Int × Int))) : Option ((Int × (Int × Int))) := t_impl_Num_plus some a0 a1
theorem nat_impl_Num_plus {R : Type} (kx : (Int × (Int × Int)) → Option R) (a0 : (Int × (Int × Int))) (a1 : (Int × (Int × Int))) : t_impl_Num_plus kx a0 a1 = (g_impl_Num_plus a0 a1).bind kx := by
  unfold g_impl_Num_plus t_impl_Num_plus
  exact nat_cond (rfl) (nat_cond (rfl) (nat_cond (rfl) (nat_cond (rfl) (nat_bind fun _ => rfl))))
abbrev as_impl_Num_plus : List AX := [.val true (.pair (.int .i64) (.pair (.int .i64) (.int .i64))), .val true (.pair (.int .i64) (.pair (.int .i64) (.int .i64)))]
abbrev en_impl_Num_plus : (Int × (Int × Int)) → AV × List CV := fun b => (.one ⟨true, [(.v (.int .i64 b.1)), (.v (.int .i64 b.2.1)), (.v (.int .i64 b.2.2))]⟩, [])
noncomputable abbrev k_impl_Num_plus : Contract := .fx as_impl_Num_plus ((Int × (Int × Int))) (fun z => g_impl_Num_plus z.1 z.2.1) en_impl_Num_plus
theorem r_impl_Num_plus (z : argsX as_impl_Num_plus) : runF (tab C0 T_impl_Num_plus) noHints 1 Tryd.f51 (lentOf as_impl_Num_plus) (xBoxes as_impl_Num_plus z) (xVals as_impl_Num_plus 0 z) K2 = t_impl_Num_plus (fun b => some (en_impl_Num_plus b)) z.1 z.2.1 := by kernel_rfl
theorem so_impl_Num_plus : Sound C0 51 k_impl_Num_plus :=
  Sound.fx a_impl_Num_plus mixed Tryd.func51 (by kernel_rfl) (by kernel_rfl) noHints 1 noHints_ok (fun z => (r_impl_Num_plus z).trans (nat_impl_Num_plus _ z.1 z.2.1))

/-! ### F39 (impl.Point).dot -/
noncomputable def T_impl_Point_dot : List (FuncId × Contract) := [(54, k_impl_Num_times), (51, k_impl_Num_plus)]
theorem a_impl_Point_dot : AllSound C0 T_impl_Point_dot := .cons so_impl_Num_times (.cons so_impl_Num_plus (.nil))
noncomputable def t_impl_Point_dot {R : Type} (kx : (Int × (Int × Int)) → Option R) (a0 : ((Int × (Int × Int)) × (Int × (Int × Int)))) (a1 : ((Int × (Int × Int)) × (Int × (Int × Int)))) : Option R :=
  Option.bind (g_impl_Num_times a0.1 a1.1) fun y253 =>
  Option.bind (g_impl_Num_times a0.2 a1.2) fun y254 =>
  Option.bind (g_impl_Num_plus y253 y254) fun y258 =>
  kx y258
noncomputable def g_impl_Point_dot (a0 : ((Int × (Int × Int)) × (Int × (Int × Int)))) (a1 : ((Int × (Int × Int)) × (Int × (Int × Int)))) : Option ((Int × (Int × Int))) := t_impl_Point_dot some a0 a1
theorem nat_impl_Point_dot {R : Type} (kx : (Int × (Int × Int)) → Option R) (a0 : ((Int × (Int × Int)) × (Int × (Int × Int)))) (a1 : ((Int × (Int × Int)) × (Int × (Int × Int)))) : t_impl_Point_dot kx a0 a1 = (g_impl_Point_dot a0 a1).bind kx := by
  unfold g_impl_Point_dot t_impl_Point_dot
  exact nat_bind fun _ => nat_bind fun _ => nat_bind fun _ => rfl
abbrev as_impl_Point_dot : List AX := [.val true (.pair (.pair (.int .i64) (.pair (.int .i64) (.int .i64))) (.pair (.int .i64) (.pair (.int .i64) (.int .i64)))), .val true (.pair (.pair (.int .i64) (.pair (.int .i64) (.int .i64))) (.pair (.int .i64) (.pair (.int .i64) (.int .i64))))]
abbrev en_impl_Point_dot : (Int × (Int × Int)) → AV × List CV := fun b => (.one ⟨true, [(.v (.int .i64 b.1)), (.v (.int .i64 b.2.1)), (.v (.int .i64 b.2.2))]⟩, [])
noncomputable abbrev k_impl_Point_dot : Contract := .fx as_impl_Point_dot ((Int × (Int × Int))) (fun z => g_impl_Point_dot z.1 z.2.1) en_impl_Point_dot
theorem r_impl_Point_dot (z : argsX as_impl_Point_dot) : runF (tab C0 T_impl_Point_dot) noHints 1 Tryd.f39 (lentOf as_impl_Point_dot) (xBoxes as_impl_Point_dot z) (xVals as_impl_Point_dot 0 z) K2 = t_impl_Point_dot (fun b => some (en_impl_Point_dot b)) z.1 z.2.1 := by kernel_rfl
theorem so_impl_Point_dot : Sound C0 39 k_impl_Point_dot :=
  Sound.fx a_impl_Point_dot mixed Tryd.func39 (by kernel_rfl) (by kernel_rfl) noHints 1 noHints_ok (fun z => (r_impl_Point_dot z).trans (nat_impl_Point_dot _ z.1 z.2.1))

/-! ### F48 (impl.Num).over -/
noncomputable def T_impl_Num_over : List (FuncId × Contract) := [(54, k_impl_Num_times), (57, k_impl_Num_reduced)]
theorem a_impl_Num_over : AllSound C0 T_impl_Num_over := .cons so_impl_Num_times (.cons so_impl_Num_reduced (.nil))
abbrev s_impl_Num_over_7 : LS := ⟨[(false, [(.ptr 4 0)]), (false, [(.int .i64)]), (false, [(.ptr 7 0)])], [(false, [(.int .i64), (.int .i64), (.int .i64)]), (false, [(.int .i64), (.int .i64), (.int .i64)])], []⟩
abbrev e_impl_Num_over_7_0 : LS := ⟨[(false, [(.ptr 4 0)]), (false, [(.int .i64)]), (false, [(.ptr 7 0)])], [(false, [(.int .i64), (.int .i64), (.int .i64)]), (false, [(.int .i64), (.int .i64), (.int .i64)])], []⟩
abbrev d_impl_Num_over_7_0 (v0 : Int) (v1 : Int) (v2 : Int) (v3 : Int) (v4 : Int) (v5 : Int) (v6 : Int) : e_impl_Num_over_7_0.T := ((((), ()), (v0, ()), ((), ()), ()), ((v1, v2, v3, ()), (v4, v5, v6, ()), ()), ())
abbrev x_impl_Num_over_7 : List (Ex × LS) := [(.exit 0, e_impl_Num_over_7_0)]
abbrev m_impl_Num_over_7 (x6 : Int) (b0_0 : Int) (b0_1 : Int) (b0_2 : Int) (b1_0 : Int) (b1_1 : Int) (b1_2 : Int) : s_impl_Num_over_7.T := ((((), ()), (x6, ()), ((), ()), ()), ((b0_0, b0_1, b0_2, ()), (b1_0, b1_1, b1_2, ()), ()), ())
noncomputable def u_impl_Num_over_7 {R : Type} (nx : s_impl_Num_over_7.T → Option R) (hx : exH R x_impl_Num_over_7) (x6 : Int) (b0_0 : Int) (b0_1 : Int) (b0_2 : Int) (b1_0 : Int) (b1_1 : Int) (b1_2 : Int) : Option R :=
  cond ((IntKind.wrap IntKind.i64 (((BitVec.toNat ((BitVec.ofInt 64 x6) &&& (BitVec.ofInt 64 (1 : Int)))) : Nat) : Int)) == (0 : Int))
  (nx (m_impl_Num_over_7 (IntKind.wrap IntKind.i64 (Int.tdiv x6 (2 : Int))) b0_0 b0_1 b0_2 b1_0 b1_1 (IntKind.wrap IntKind.i64 (b1_2 + (1 : Int)))))
  (hx.1 (d_impl_Num_over_7_0 x6 b0_0 b0_1 b0_2 b1_0 b1_1 b1_2))
noncomputable def t_impl_Num_over_7 {R : Type} (nx : s_impl_Num_over_7.T → Option R) (hx : exH R x_impl_Num_over_7) (z : s_impl_Num_over_7.T) : Option R := u_impl_Num_over_7 nx hx z.1.2.1.1 z.2.1.1.1 z.2.1.1.2.1 z.2.1.1.2.2.1 z.2.1.2.1.1 z.2.1.2.1.2.1 z.2.1.2.1.2.2.1
theorem nat_impl_Num_over_7 : Natural @t_impl_Num_over_7 := fun R nx hx z => by
  show u_impl_Num_over_7 nx hx z.1.2.1.1 z.2.1.1.1 z.2.1.1.2.1 z.2.1.1.2.2.1 z.2.1.2.1.1 z.2.1.2.1.2.1 z.2.1.2.1.2.2.1 = (u_impl_Num_over_7 (fun y => some (.inl y)) (hIn x_impl_Num_over_7 fun x => some (.inr x)) z.1.2.1.1 z.2.1.1.1 z.2.1.1.2.1 z.2.1.1.2.2.1 z.2.1.2.1.1 z.2.1.2.1.2.1 z.2.1.2.1.2.2.1).bind (goOn nx hx)
  unfold u_impl_Num_over_7
  exact nat_cond (rfl) (rfl)
noncomputable def w_impl_Num_over_7 : s_impl_Num_over_7.T → Option (exT x_impl_Num_over_7) := wOf @t_impl_Num_over_7
theorem wq_impl_Num_over_7 (x6 : Int) (b0_0 : Int) (b0_1 : Int) (b0_2 : Int) (b1_0 : Int) (b1_1 : Int) (b1_2 : Int) : w_impl_Num_over_7 (m_impl_Num_over_7 x6 b0_0 b0_1 b0_2 b1_0 b1_1 b1_2) = u_impl_Num_over_7 w_impl_Num_over_7 (hIn x_impl_Num_over_7 some) x6 b0_0 b0_1 b0_2 b1_0 b1_1 b1_2 := wOf_eq nat_impl_Num_over_7 _
def lh_impl_Num_over_7 : LoopHint := ⟨[4, 6, 7], [4, 7], [4, 6, 7], [4, 7]⟩
noncomputable def h_impl_Num_over : Hints Rv := ⟨fun k => match k with | 7 => lh_impl_Num_over_7 | _ => ⟨[], [], [], []⟩, fun k => match k with | 7 => some (loopX s_impl_Num_over_7 x_impl_Num_over_7 w_impl_Num_over_7) | _ => none⟩
theorem st_impl_Num_over_7 (n : Nat) (z : s_impl_Num_over_7.T) (k : Ex → Live → Option Rv) : loopN ⟨89, 89⟩ lh_impl_Num_over_7 (den (tab C0 T_impl_Num_over) ⟨89, 89⟩ h_impl_Num_over 1 (loopOf Tryd.f48 6)) (n + 1) (s_impl_Num_over_7.enc z) k =
    t_impl_Num_over_7 (fun y => loopN ⟨89, 89⟩ lh_impl_Num_over_7 (den (tab C0 T_impl_Num_over) ⟨89, 89⟩ h_impl_Num_over 1 (loopOf Tryd.f48 6)) n (s_impl_Num_over_7.enc y) k) (hK k x_impl_Num_over_7) z := by kernel_rfl
theorem hs_impl_Num_over : HintsOk (tab C0 T_impl_Num_over) ⟨89, 89⟩ h_impl_Num_over 1 (loops (codeOf Tryd.f48)) := by
  have hl : loops (codeOf Tryd.f48) = [loopOf Tryd.f48 6] := by kernel_rfl
  rw [hl]
  exact HintsOk.cons (n := 7) (lh := lh_impl_Num_over_7) (S := loopX s_impl_Num_over_7 x_impl_Num_over_7 w_impl_Num_over_7) (by kernel_rfl) rfl rfl (loopX_ok nat_impl_Num_over_7 st_impl_Num_over_7)
    (HintsOk.nil)
noncomputable def t_impl_Num_over {R : Type} (kx : (Int × (Int × Int)) × Bool → Option R) (a0 : (Int × (Int × Int))) (a1 : (Int × (Int × Int))) : Option R :=
  cond ((IntKind.wrap IntKind.i64 ((IntKind.wrap IntKind.i64 (a1.1 * a1.1)) - (IntKind.wrap IntKind.i64 ((IntKind.wrap IntKind.i64 ((2 : Int) * a1.2.1)) * a1.2.1)))) == (0 : Int))
  (kx (((0 : Int), ((0 : Int), (0 : Int))), Bool.false))
  (Option.bind (g_impl_Num_times a0 (a1.1, ((IntKind.wrap IntKind.i64 ((0 : Int) - a1.2.1)), (0 : Int)))) fun y262 =>
   Option.bind (w_impl_Num_over_7 (m_impl_Num_over_7 (IntKind.wrap IntKind.i64 ((IntKind.wrap IntKind.i64 (a1.1 * a1.1)) - (IntKind.wrap IntKind.i64 ((IntKind.wrap IntKind.i64 ((2 : Int) * a1.2.1)) * a1.2.1)))) (0 : Int) (0 : Int) (0 : Int) y262.1 y262.2.1 (IntKind.wrap IntKind.i64 (y262.2.2 - a1.2.2)))) (exC x_impl_Num_over_7
   (fun e270 =>
    cond (decide ((e270.1.2.1.1 : Int) = (0 : Int)))
    (none)
    (cond ((Int.tmod (e270.2.1.2.1.1 : Int) (e270.1.2.1.1 : Int)) != (0 : Int))
     (kx (((0 : Int), ((0 : Int), (0 : Int))), Bool.false))
     (cond (decide ((e270.1.2.1.1 : Int) = (0 : Int)))
      (none)
      (cond ((Int.tmod (e270.2.1.2.1.2.1 : Int) (e270.1.2.1.1 : Int)) != (0 : Int))
       (kx (((0 : Int), ((0 : Int), (0 : Int))), Bool.false))
       (cond (decide ((e270.1.2.1.1 : Int) = (0 : Int)))
        (none)
        (cond (decide ((e270.1.2.1.1 : Int) = (0 : Int)))
         (none)
         (cond (decide ((e270.2.1.2.1.2.2.1 : Int) < (0 : Int)))
          (cond (decide ((IntKind.wrap IntKind.i64 ((0 : Int) - (e270.2.1.2.1.2.2.1 : Int))) < (0 : Int)))
           (none)
           (cond (decide ((IntKind.wrap IntKind.i64 ((0 : Int) - (e270.2.1.2.1.2.2.1 : Int))) < (0 : Int)))
            (none)
            (Option.bind (g_impl_Num_reduced ((IntKind.wrap IntKind.i64 ((IntKind.wrap IntKind.i64 (Int.tdiv (e270.2.1.2.1.1 : Int) (e270.1.2.1.1 : Int))) * ((2 : Int) ^ (Min.min (Int.toNat (IntKind.wrap IntKind.i64 ((0 : Int) - (e270.2.1.2.1.2.2.1 : Int)))) 64)))), ((IntKind.wrap IntKind.i64 ((IntKind.wrap IntKind.i64 (Int.tdiv (e270.2.1.2.1.2.1 : Int) (e270.1.2.1.1 : Int))) * ((2 : Int) ^ (Min.min (Int.toNat (IntKind.wrap IntKind.i64 ((0 : Int) - (e270.2.1.2.1.2.2.1 : Int)))) 64)))), (0 : Int)))) fun y278 =>
             kx (y278, Bool.true))))
          (Option.bind (g_impl_Num_reduced ((IntKind.wrap IntKind.i64 (Int.tdiv (e270.2.1.2.1.1 : Int) (e270.1.2.1.1 : Int))), ((IntKind.wrap IntKind.i64 (Int.tdiv (e270.2.1.2.1.2.1 : Int) (e270.1.2.1.1 : Int))), (e270.2.1.2.1.2.2.1 : Int)))) fun y279 =>
           kx (y279, Bool.true)))))))), ())))
noncomputable def g_impl_Num_over (a0 : (Int × (Int × Int))) (a1 : (Int × (Int × Int))) : Option ((Int × (Int × Int)) × Bool) := t_impl_Num_over some a0 a1
theorem nat_impl_Num_over {R : Type} (kx : (Int × (Int × Int)) × Bool → Option R) (a0 : (Int × (Int × Int))) (a1 : (Int × (Int × Int))) : t_impl_Num_over kx a0 a1 = (g_impl_Num_over a0 a1).bind kx := by
  unfold g_impl_Num_over t_impl_Num_over
  exact nat_cond (rfl) (nat_bind fun _ => nat_exC ⟨fun _ => nat_cond (rfl) (nat_cond (rfl) (nat_cond (rfl) (nat_cond (rfl) (nat_cond (rfl) (nat_cond (rfl) (nat_cond (nat_cond (rfl) (nat_cond (rfl) (nat_bind fun _ => rfl))) (nat_bind fun _ => rfl))))))), trivial⟩)
abbrev as_impl_Num_over : List AX := [.val true (.pair (.int .i64) (.pair (.int .i64) (.int .i64))), .val true (.pair (.int .i64) (.pair (.int .i64) (.int .i64)))]
abbrev en_impl_Num_over : (Int × (Int × Int)) × Bool → AV × List CV := fun b => (.tup [⟨true, [(.v (.int .i64 b.1.1)), (.v (.int .i64 b.1.2.1)), (.v (.int .i64 b.1.2.2))]⟩, ⟨false, [(.v (.bool b.2))]⟩], [])
noncomputable abbrev k_impl_Num_over : Contract := .fx as_impl_Num_over ((Int × (Int × Int)) × Bool) (fun z => g_impl_Num_over z.1 z.2.1) en_impl_Num_over
theorem r_impl_Num_over (z : argsX as_impl_Num_over) : runF (tab C0 T_impl_Num_over) h_impl_Num_over 1 Tryd.f48 (lentOf as_impl_Num_over) (xBoxes as_impl_Num_over z) (xVals as_impl_Num_over 0 z) K2 = t_impl_Num_over (fun b => some (en_impl_Num_over b)) z.1 z.2.1 := by kernel_rfl
theorem so_impl_Num_over : Sound C0 48 k_impl_Num_over :=
  Sound.fx a_impl_Num_over mixed Tryd.func48 (by kernel_rfl) (by kernel_rfl) h_impl_Num_over 1 hs_impl_Num_over (fun z => (r_impl_Num_over z).trans (nat_impl_Num_over _ z.1 z.2.1))

/-! ### F50 (impl.Point).times -/
noncomputable def T_impl_Point_times : List (FuncId × Contract) := [(54, k_impl_Num_times)]
theorem a_impl_Point_times : AllSound C0 T_impl_Point_times := .cons so_impl_Num_times (.nil)
noncomputable def t_impl_Point_times {R : Type} (kx : ((Int × (Int × Int)) × (Int × (Int × Int))) → Option R) (a0 : ((Int × (Int × Int)) × (Int × (Int × Int)))) (a1 : (Int × (Int × Int))) : Option R :=
  Option.bind (g_impl_Num_times a0.1 a1) fun y283 =>
  Option.bind (g_impl_Num_times a0.2 a1) fun y284 =>
  kx (y283, y284)
noncomputable def g_impl_Point_times (a0 : ((Int × (Int × Int)) × (Int × (Int × Int)))) (a1 : (Int × (Int × Int))) : Option (((Int × (Int × Int)) × (Int × (Int × Int)))) := t_impl_Point_times some a0 a1
theorem nat_impl_Point_times {R : Type} (kx : ((Int × (Int × Int)) × (Int × (Int × Int))) → Option R) (a0 : ((Int × (Int × Int)) × (Int × (Int × Int)))) (a1 : (Int × (Int × Int))) : t_impl_Point_times kx a0 a1 = (g_impl_Point_times a0 a1).bind kx := by
  unfold g_impl_Point_times t_impl_Point_times
  exact nat_bind fun _ => nat_bind fun _ => rfl
abbrev as_impl_Point_times : List AX := [.val true (.pair (.pair (.int .i64) (.pair (.int .i64) (.int .i64))) (.pair (.int .i64) (.pair (.int .i64) (.int .i64)))), .val true (.pair (.int .i64) (.pair (.int .i64) (.int .i64)))]
abbrev en_impl_Point_times : ((Int × (Int × Int)) × (Int × (Int × Int))) → AV × List CV := fun b => (.one ⟨true, [(.v (.int .i64 b.1.1)), (.v (.int .i64 b.1.2.1)), (.v (.int .i64 b.1.2.2)), (.v (.int .i64 b.2.1)), (.v (.int .i64 b.2.2.1)), (.v (.int .i64 b.2.2.2))]⟩, [])
noncomputable abbrev k_impl_Point_times : Contract := .fx as_impl_Point_times (((Int × (Int × Int)) × (Int × (Int × Int)))) (fun z => g_impl_Point_times z.1 z.2.1) en_impl_Point_times
theorem r_impl_Point_times (z : argsX as_impl_Point_times) : runF (tab C0 T_impl_Point_times) noHints 1 Tryd.f50 (lentOf as_impl_Point_times) (xBoxes as_impl_Point_times z) (xVals as_impl_Point_times 0 z) K2 = t_impl_Point_times (fun b => some (en_impl_Point_times b)) z.1 z.2.1 := by kernel_rfl
theorem so_impl_Point_times : Sound C0 50 k_impl_Point_times :=
  Sound.fx a_impl_Point_times mixed Tryd.func50 (by kernel_rfl) (by kernel_rfl) noHints 1 noHints_ok (fun z => (r_impl_Point_times z).trans (nat_impl_Point_times _ z.1 z.2.1))

/-! ### F30 (impl.Line).foot -/
noncomputable def T_impl_Line_foot : List (FuncId × Contract) := [(38, k_impl_Line_normal), (39, k_impl_Point_dot), (48, k_impl_Num_over), (50, k_impl_Point_times)]
theorem a_impl_Line_foot : AllSound C0 T_impl_Line_foot := .cons so_impl_Line_normal (.cons so_impl_Point_dot (.cons so_impl_Num_over (.cons so_impl_Point_times (.nil))))
noncomputable def t_impl_Line_foot {R : Type} (kx : ((Int × (Int × Int)) × (Int × (Int × Int))) → Option R) (a0 : (Int × (Int × (Int × Int)))) : Option R :=
  Option.bind (g_impl_Line_normal a0) fun y233 =>
  Option.bind (g_impl_Point_dot y233 y233) fun y259 =>
  Option.bind (g_impl_Num_over a0.2 y259) fun y280 =>
  Option.bind (g_impl_Point_times y233 y280.1) fun y285 =>
  kx y285
noncomputable def g_impl_Line_foot (a0 : (Int × (Int × (Int × Int)))) : Option (((Int × (Int × Int)) × (Int × (Int × Int)))) := t_impl_Line_foot some a0
theorem nat_impl_Line_foot {R : Type} (kx : ((Int × (Int × Int)) × (Int × (Int × Int))) → Option R) (a0 : (Int × (Int × (Int × Int)))) : t_impl_Line_foot kx a0 = (g_impl_Line_foot a0).bind kx := by
  unfold g_impl_Line_foot t_impl_Line_foot
  exact nat_bind fun _ => nat_bind fun _ => nat_bind fun _ => nat_bind fun _ => rfl
abbrev as_impl_Line_foot : List AX := [.val true (.pair (.int .i64) (.pair (.int .i64) (.pair (.int .i64) (.int .i64))))]
abbrev en_impl_Line_foot : ((Int × (Int × Int)) × (Int × (Int × Int))) → AV × List CV := fun b => (.one ⟨true, [(.v (.int .i64 b.1.1)), (.v (.int .i64 b.1.2.1)), (.v (.int .i64 b.1.2.2)), (.v (.int .i64 b.2.1)), (.v (.int .i64 b.2.2.1)), (.v (.int .i64 b.2.2.2))]⟩, [])
noncomputable abbrev k_impl_Line_foot : Contract := .fx as_impl_Line_foot (((Int × (Int × Int)) × (Int × (Int × Int)))) (fun z => g_impl_Line_foot z.1) en_impl_Line_foot
theorem r_impl_Line_foot (z : argsX as_impl_Line_foot) : runF (tab C0 T_impl_Line_foot) noHints 1 Tryd.f30 (lentOf as_impl_Line_foot) (xBoxes as_impl_Line_foot z) (xVals as_impl_Line_foot 0 z) K2 = t_impl_Line_foot (fun b => some (en_impl_Line_foot b)) z.1 := by kernel_rfl
theorem so_impl_Line_foot : Sound C0 30 k_impl_Line_foot :=
  Sound.fx a_impl_Line_foot mixed Tryd.func30 (by kernel_rfl) (by kernel_rfl) noHints 1 noHints_ok (fun z => (r_impl_Line_foot z).trans (nat_impl_Line_foot _ z.1))

/-! ### F47 (impl.Num).minus -/
noncomputable def T_impl_Num_minus : List (FuncId × Contract) := [(56, k_impl_Num_neg), (51, k_impl_Num_plus)]
theorem a_impl_Num_minus : AllSound C0 T_impl_Num_minus := .cons so_impl_Num_neg (.cons so_impl_Num_plus (.nil))
noncomputable def t_impl_Num_minus {R : Type} (kx : (Int × (Int × Int)) → Option R) (a0 : (Int × (Int × Int))) (a1 : (Int × (Int × Int))) : Option R :=
  Option.bind (g_impl_Num_neg a1) fun y293 =>
  Option.bind (g_impl_Num_plus a0 y293) fun y294 =>
  kx y294
noncomputable def g_impl_Num_minus (a0 : (Int × (Int × Int))) (a1 : (Int × (Int × Int))) : Option ((Int × (Int × Int))) := t_impl_Num_minus some a0 a1
theorem nat_impl_Num_minus {R : Type} (kx : (Int × (Int × Int)) → Option R) (a0 : (Int × (Int × Int))) (a1 : (Int × (Int × Int))) : t_impl_Num_minus kx a0 a1 = (g_impl_Num_minus a0 a1).bind kx := by
  unfold g_impl_Num_minus t_impl_Num_minus
  exact nat_bind fun _ => nat_bind fun _ => rfl
abbrev as_impl_Num_minus : List AX := [.val true (.pair (.int .i64) (.pair (.int .i64) (.int .i64))), .val true (.pair (.int .i64) (.pair (.int .i64) (.int .i64)))]
abbrev en_impl_Num_minus : (Int × (Int × Int)) → AV × List CV := fun b => (.one ⟨true, [(.v (.int .i64 b.1)), (.v (.int .i64 b.2.1)), (.v (.int .i64 b.2.2))]⟩, [])
noncomputable abbrev k_impl_Num_minus : Contract := .fx as_impl_Num_minus ((Int × (Int × Int))) (fun z => g_impl_Num_minus z.1 z.2.1) en_impl_Num_minus
theorem r_impl_Num_minus (z : argsX as_impl_Num_minus) : runF (tab C0 T_impl_Num_minus) noHints 1 Tryd.f47 (lentOf as_impl_Num_minus) (xBoxes as_impl_Num_minus z) (xVals as_impl_Num_minus 0 z) K2 = t_impl_Num_minus (fun b => some (en_impl_Num_minus b)) z.1 z.2.1 := by kernel_rfl
theorem so_impl_Num_minus : Sound C0 47 k_impl_Num_minus :=
  Sound.fx a_impl_Num_minus mixed Tryd.func47 (by kernel_rfl) (by kernel_rfl) noHints 1 noHints_ok (fun z => (r_impl_Num_minus z).trans (nat_impl_Num_minus _ z.1 z.2.1))

/-! ### F49 (impl.Point).plus -/
noncomputable def T_impl_Point_plus : List (FuncId × Contract) := [(51, k_impl_Num_plus)]
theorem a_impl_Point_plus : AllSound C0 T_impl_Point_plus := .cons so_impl_Num_plus (.nil)
noncomputable def t_impl_Point_plus {R : Type} (kx : ((Int × (Int × Int)) × (Int × (Int × Int))) → Option R) (a0 : ((Int × (Int × Int)) × (Int × (Int × Int)))) (a1 : ((Int × (Int × Int)) × (Int × (Int × Int)))) : Option R :=
  Option.bind (g_impl_Num_plus a0.1 a1.1) fun y302 =>
  Option.bind (g_impl_Num_plus a0.2 a1.2) fun y303 =>
  kx (y302, y303)
noncomputable def g_impl_Point_plus (a0 : ((Int × (Int × Int)) × (Int × (Int × Int)))) (a1 : ((Int × (Int × Int)) × (Int × (Int × Int)))) : Option (((Int × (Int × Int)) × (Int × (Int × Int)))) := t_impl_Point_plus some a0 a1
theorem nat_impl_Point_plus {R : Type} (kx : ((Int × (Int × Int)) × (Int × (Int × Int))) → Option R) (a0 : ((Int × (Int × Int)) × (Int × (Int × Int)))) (a1 : ((Int × (Int × Int)) × (Int × (Int × Int)))) : t_impl_Point_plus kx a0 a1 = (g_impl_Point_plus a0 a1).bind kx := by
  unfold g_impl_Point_plus t_impl_Point_plus
  exact nat_bind fun _ => nat_bind fun _ => rfl
abbrev as_impl_Point_plus : List AX := [.val true (.pair (.pair (.int .i64) (.pair (.int .i64) (.int .i64))) (.pair (.int .i64) (.pair (.int .i64) (.int .i64)))), .val true (.pair (.pair (.int .i64) (.pair (.int .i64) (.int .i64))) (.pair (.int .i64) (.pair (.int .i64) (.int .i64))))]
abbrev en_impl_Point_plus : ((Int × (Int × Int)) × (Int × (Int × Int))) → AV × List CV := fun b => (.one ⟨true, [(.v (.int .i64 b.1.1)), (.v (.int .i64 b.1.2.1)), (.v (.int .i64 b.1.2.2)), (.v (.int .i64 b.2.1)), (.v (.int .i64 b.2.2.1)), (.v (.int .i64 b.2.2.2))]⟩, [])
noncomputable abbrev k_impl_Point_plus : Contract := .fx as_impl_Point_plus (((Int × (Int × Int)) × (Int × (Int × Int)))) (fun z => g_impl_Point_plus z.1 z.2.1) en_impl_Point_plus
theorem r_impl_Point_plus (z : argsX as_impl_Point_plus) : runF (tab C0 T_impl_Point_plus) noHints 1 Tryd.f49 (lentOf as_impl_Point_plus) (xBoxes as_impl_Point_plus z) (xVals as_impl_Point_plus 0 z) K2 = t_impl_Point_plus (fun b => some (en_impl_Point_plus b)) z.1 z.2.1 := by kernel_rfl
theorem so_impl_Point_plus : Sound C0 49 k_impl_Point_plus :=
  Sound.fx a_impl_Point_plus mixed Tryd.func49 (by kernel_rfl) (by kernel_rfl) noHints 1 noHints_ok (fun z => (r_impl_Point_plus z).trans (nat_impl_Point_plus _ z.1 z.2.1))

/-! ### F29 (impl.Line).reflect -/
noncomputable def T_impl_Line_reflect : List (FuncId × Contract) := [(38, k_impl_Line_normal), (39, k_impl_Point_dot), (47, k_impl_Num_minus), (48, k_impl_Num_over), (51, k_impl_Num_plus), (50, k_impl_Point_times), (49, k_impl_Point_plus)]
theorem a_impl_Line_reflect : AllSound C0 T_impl_Line_reflect := .cons so_impl_Line_normal (.cons so_impl_Point_dot (.cons so_impl_Num_minus (.cons so_impl_Num_over (.cons so_impl_Num_plus (.cons so_impl_Point_times (.cons so_impl_Point_plus (.nil)))))))
noncomputable def t_impl_Line_reflect {R : Type} (kx : ((Int × (Int × Int)) × (Int × (Int × Int))) → Option R) (a0 : (Int × (Int × (Int × Int)))) (a1 : ((Int × (Int × Int)) × (Int × (Int × Int)))) : Option R :=
  Option.bind (g_impl_Line_normal a0) fun y289 =>
  Option.bind (g_impl_Point_dot y289 a1) fun y290 =>
  Option.bind (g_impl_Num_minus a0.2 y290) fun y295 =>
  Option.bind (g_impl_Point_dot y289 y289) fun y296 =>
  Option.bind (g_impl_Num_over y295 y296) fun y297 =>
  Option.bind (g_impl_Num_plus y297.1 y297.1) fun y298 =>
  Option.bind (g_impl_Point_times y289 y298) fun y299 =>
  Option.bind (g_impl_Point_plus a1 y299) fun y304 =>
  kx y304
noncomputable def g_impl_Line_reflect (a0 : (Int × (Int × (Int × Int)))) (a1 : ((Int × (Int × Int)) × (Int × (Int × Int)))) : Option (((Int × (Int × Int)) × (Int × (Int × Int)))) := t_impl_Line_reflect some a0 a1
theorem nat_impl_Line_reflect {R : Type} (kx : ((Int × (Int × Int)) × (Int × (Int × Int))) → Option R) (a0 : (Int × (Int × (Int × Int)))) (a1 : ((Int × (Int × Int)) × (Int × (Int × Int)))) : t_impl_Line_reflect kx a0 a1 = (g_impl_Line_reflect a0 a1).bind kx := by
  unfold g_impl_Line_reflect t_impl_Line_reflect
  exact nat_bind fun _ => nat_bind fun _ => nat_bind fun _ => nat_bind fun _ => nat_bind fun _ => nat_bind fun _ => nat_bind fun _ => nat_bind fun _ => rfl
abbrev as_impl_Line_reflect : List AX := [.val true (.pair (.int .i64) (.pair (.int .i64) (.pair (.int .i64) (.int .i64)))), .val true (.pair (.pair (.int .i64) (.pair (.int .i64) (.int .i64))) (.pair (.int .i64) (.pair (.int .i64) (.int .i64))))]
abbrev en_impl_Line_reflect : ((Int × (Int × Int)) × (Int × (Int × Int))) → AV × List CV := fun b => (.one ⟨true, [(.v (.int .i64 b.1.1)), (.v (.int .i64 b.1.2.1)), (.v (.int .i64 b.1.2.2)), (.v (.int .i64 b.2.1)), (.v (.int .i64 b.2.2.1)), (.v (.int .i64 b.2.2.2))]⟩, [])
noncomputable abbrev k_impl_Line_reflect : Contract := .fx as_impl_Line_reflect (((Int × (Int × Int)) × (Int × (Int × Int)))) (fun z => g_impl_Line_reflect z.1 z.2.1) en_impl_Line_reflect
theorem r_impl_Line_reflect (z : argsX as_impl_Line_reflect) : runF (tab C0 T_impl_Line_reflect) noHints 1 Tryd.f29 (lentOf as_impl_Line_reflect) (xBoxes as_impl_Line_reflect z) (xVals as_impl_Line_reflect 0 z) K2 = t_impl_Line_reflect (fun b => some (en_impl_Line_reflect b)) z.1 z.2.1 := by kernel_rfl
theorem so_impl_Line_reflect : Sound C0 29 k_impl_Line_reflect :=
  Sound.fx a_impl_Line_reflect mixed Tryd.func29 (by kernel_rfl) (by kernel_rfl) noHints 1 noHints_ok (fun z => (r_impl_Line_reflect z).trans (nat_impl_Line_reflect _ z.1 z.2.1))

/-! ### F21 impl.lineAt -/
noncomputable def T_impl_lineAt : List (FuncId × Contract) := [(38, k_impl_Line_normal), (39, k_impl_Point_dot)]
theorem a_impl_lineAt : AllSound C0 T_impl_lineAt := .cons so_impl_Line_normal (.cons so_impl_Point_dot (.nil))
noncomputable def t_impl_lineAt {R : Type} (kx : (Int × (Int × (Int × Int))) → Option R) (a0 : ((Int × (Int × Int)) × (Int × (Int × Int)))) (a1 : Int) : Option R :=
  Option.bind (g_impl_Line_normal (a1, ((0 : Int), ((0 : Int), (0 : Int))))) fun y308 =>
  Option.bind (g_impl_Point_dot y308 a0) fun y309 =>
  kx (a1, y309)
noncomputable def g_impl_lineAt (a0 : ((Int × (Int × Int)) × (Int × (Int × Int)))) (a1 : Int) : Option ((Int × (Int × (Int × Int)))) := t_impl_lineAt some a0 a1
theorem nat_impl_lineAt {R : Type} (kx : (Int × (Int × (Int × Int))) → Option R) (a0 : ((Int × (Int × Int)) × (Int × (Int × Int)))) (a1 : Int) : t_impl_lineAt kx a0 a1 = (g_impl_lineAt a0 a1).bind kx := by
  unfold g_impl_lineAt t_impl_lineAt
  exact nat_bind fun _ => nat_bind fun _ => rfl
abbrev as_impl_lineAt : List AX := [.val true (.pair (.pair (.int .i64) (.pair (.int .i64) (.int .i64))) (.pair (.int .i64) (.pair (.int .i64) (.int .i64)))), .val false (.int .i64)]
abbrev en_impl_lineAt : (Int × (Int × (Int × Int))) → AV × List CV := fun b => (.one ⟨true, [(.v (.int .i64 b.1)), (.v (.int .i64 b.2.1)), (.v (.int .i64 b.2.2.1)), (.v (.int .i64 b.2.2.2))]⟩, [])
noncomputable abbrev k_impl_lineAt : Contract := .fx as_impl_lineAt ((Int × (Int × (Int × Int)))) (fun z => g_impl_lineAt z.1 z.2.1) en_impl_lineAt
theorem r_impl_lineAt (z : argsX as_impl_lineAt) : runF (tab C0 T_impl_lineAt) noHints 1 Tryd.f21 (lentOf as_impl_lineAt) (xBoxes as_impl_lineAt z) (xVals as_impl_lineAt 0 z) K2 = t_impl_lineAt (fun b => some (en_impl_lineAt b)) z.1 z.2.1 := by kernel_rfl
theorem so_impl_lineAt : Sound C0 21 k_impl_lineAt :=
  Sound.fx a_impl_lineAt mixed Tryd.func21 (by kernel_rfl) (by kernel_rfl) noHints 1 noHints_ok (fun z => (r_impl_lineAt z).trans (nat_impl_lineAt _ z.1 z.2.1))

/-! ### F11 impl.AlignsLine -/
noncomputable def T_impl_AlignsLine : List (FuncId × Contract) := [(18, k_impl_ValidLine), (30, k_impl_Line_foot), (29, k_impl_Line_reflect), (21, k_impl_lineAt)]
theorem a_impl_AlignsLine : AllSound C0 T_impl_AlignsLine := .cons so_impl_ValidLine (.cons so_impl_Line_foot (.cons so_impl_Line_reflect (.cons so_impl_lineAt (.nil))))
noncomputable def t_impl_AlignsLine {R : Type} (kx : Bool → Option R) (a0 : (Int × (Int × (Int × Int)))) (a1 : (Int × (Int × (Int × Int)))) (a2 : (Int × (Int × (Int × Int)))) : Option R :=
  Option.bind (g_impl_ValidLine a0) fun y209 =>
  cond (!y209)
  (kx Bool.false)
  (Option.bind (g_impl_ValidLine a1) fun y210 =>
   cond (!y210)
   (kx Bool.false)
   (Option.bind (g_impl_ValidLine a2) fun y211 =>
    cond (!y211)
    (kx Bool.false)
    (Option.bind (g_impl_Line_foot a1) fun y286 =>
     Option.bind (g_impl_Line_reflect a0 y286) fun y305 =>
     Option.bind (g_impl_lineAt y305 (IntKind.wrap IntKind.i64 (((BitVec.toNat ((BitVec.ofInt 64 (IntKind.wrap IntKind.i64 ((IntKind.wrap IntKind.i64 ((2 : Int) * a0.1)) - a1.1))) &&& (BitVec.ofInt 64 (7 : Int)))) : Nat) : Int))) fun y310 =>
     kx ((y310.1 == a2.1) && (((y310.2.1 == a2.2.1) && ((y310.2.2.1 == a2.2.2.1) && ((y310.2.2.2 == a2.2.2.2) && Bool.true))) && Bool.true)))))
noncomputable def g_impl_AlignsLine (a0 : (Int × (Int × (Int × Int)))) (a1 : (Int × (Int × (Int × Int)))) (a2 : (Int × (Int × (Int × Int)))) : Option (Bool) := t_impl_AlignsLine some a0 a1 a2
theorem nat_impl_AlignsLine {R : Type} (kx : Bool → Option R) (a0 : (Int × (Int × (Int × Int)))) (a1 : (Int × (Int × (Int × Int)))) (a2 : (Int × (Int × (Int × Int)))) : t_impl_AlignsLine kx a0 a1 a2 = (g_impl_AlignsLine a0 a1 a2).bind kx := by
  unfold g_impl_AlignsLine t_impl_AlignsLine
  exact nat_bind fun _ => nat_cond (rfl) (nat_bind fun _ => nat_cond (rfl) (nat_bind fun _ => nat_cond (rfl) (nat_bind fun _ => nat_bind fun _ => nat_bind fun _ => rfl)))
abbrev as_impl_AlignsLine : List AX := [.val true (.pair (.int .i64) (.pair (.int .i64) (.pair (.int .i64) (.int .i64)))), .val true (.pair (.int .i64) (.pair (.int .i64) (.pair (.int .i64) (.int .i64)))), .val true (.pair (.int .i64) (.pair (.int .i64) (.pair (.int .i64) (.int .i64))))]
abbrev en_impl_AlignsLine : Bool → AV × List CV := fun b => (.one ⟨false, [(.v (.bool b))]⟩, [])
noncomputable abbrev k_impl_AlignsLine : Contract := .fx as_impl_AlignsLine (Bool) (fun z => g_impl_AlignsLine z.1 z.2.1 z.2.2.1) en_impl_AlignsLine
theorem r_impl_AlignsLine (z : argsX as_impl_AlignsLine) : runF (tab C0 T_impl_AlignsLine) noHints 1 Tryd.f11 (lentOf as_impl_AlignsLine) (xBoxes as_impl_AlignsLine z) (xVals as_impl_AlignsLine 0 z) K2 = t_impl_AlignsLine (fun b => some (en_impl_AlignsLine b)) z.1 z.2.1 z.2.2.1 := by kernel_rfl
theorem so_impl_AlignsLine : Sound C0 11 k_impl_AlignsLine :=
  Sound.fx a_impl_AlignsLine mixed Tryd.func11 (by kernel_rfl) (by kernel_rfl) noHints 1 noHints_ok (fun z => (r_impl_AlignsLine z).trans (nat_impl_AlignsLine _ z.1 z.2.1 z.2.2.1))

/-! ### F4 laws.FnExactAlignsLine -/
noncomputable def T_laws_FnExactAlignsLine : List (FuncId × Contract) := [(6, k_laws_toLine), (10, k_spec_AlignsLine), (11, k_impl_AlignsLine)]
theorem a_laws_FnExactAlignsLine : AllSound C0 T_laws_FnExactAlignsLine := .cons so_laws_toLine (.cons so_spec_AlignsLine (.cons so_impl_AlignsLine (.nil)))
noncomputable def t_laws_FnExactAlignsLine {R : Type} (kx : Bool → Option R) (a0 : (Int × (Int × (Int × Int)))) (a1 : (Int × (Int × (Int × Int)))) (a2 : (Int × (Int × (Int × Int)))) : Option R :=
  Option.bind (g_laws_toLine a0) fun y6 =>
  Option.bind (g_laws_toLine a1) fun y7 =>
  Option.bind (g_laws_toLine a2) fun y8 =>
  Option.bind (g_spec_AlignsLine y6 y7 y8) fun y192 =>
  Option.bind (g_laws_toLine a0) fun y193 =>
  Option.bind (g_laws_toLine a1) fun y194 =>
  Option.bind (g_laws_toLine a2) fun y195 =>
  Option.bind (g_impl_AlignsLine y193 y194 y195) fun y311 =>
  cond (!(y311 == y192))
  (kx Bool.false)
  (kx Bool.true)
noncomputable def g_laws_FnExactAlignsLine (a0 : (Int × (Int × (Int × Int)))) (a1 : (Int × (Int × (Int × Int)))) (a2 : (Int × (Int × (Int × Int)))) : Option (Bool) := t_laws_FnExactAlignsLine some a0 a1 a2
theorem nat_laws_FnExactAlignsLine {R : Type} (kx : Bool → Option R) (a0 : (Int × (Int × (Int × Int)))) (a1 : (Int × (Int × (Int × Int)))) (a2 : (Int × (Int × (Int × Int)))) : t_laws_FnExactAlignsLine kx a0 a1 a2 = (g_laws_FnExactAlignsLine a0 a1 a2).bind kx := by
  unfold g_laws_FnExactAlignsLine t_laws_FnExactAlignsLine
  exact nat_bind fun _ => nat_bind fun _ => nat_bind fun _ => nat_bind fun _ => nat_bind fun _ => nat_bind fun _ => nat_bind fun _ => nat_bind fun _ => nat_cond (rfl) (rfl)
abbrev as_laws_FnExactAlignsLine : List AX := [.val true (.pair (.int .i64) (.pair (.int .i64) (.pair (.int .i64) (.int .i64)))), .val true (.pair (.int .i64) (.pair (.int .i64) (.pair (.int .i64) (.int .i64)))), .val true (.pair (.int .i64) (.pair (.int .i64) (.pair (.int .i64) (.int .i64))))]
abbrev en_laws_FnExactAlignsLine : Bool → AV × List CV := fun b => (.one ⟨false, [(.v (.bool b))]⟩, [])
noncomputable abbrev k_laws_FnExactAlignsLine : Contract := .fx as_laws_FnExactAlignsLine (Bool) (fun z => g_laws_FnExactAlignsLine z.1 z.2.1 z.2.2.1) en_laws_FnExactAlignsLine
theorem r_laws_FnExactAlignsLine (z : argsX as_laws_FnExactAlignsLine) : runF (tab C0 T_laws_FnExactAlignsLine) noHints 1 Tryd.f4 (lentOf as_laws_FnExactAlignsLine) (xBoxes as_laws_FnExactAlignsLine z) (xVals as_laws_FnExactAlignsLine 0 z) K2 = t_laws_FnExactAlignsLine (fun b => some (en_laws_FnExactAlignsLine b)) z.1 z.2.1 z.2.2.1 := by kernel_rfl
theorem so_laws_FnExactAlignsLine : Sound C0 4 k_laws_FnExactAlignsLine :=
  Sound.fx a_laws_FnExactAlignsLine mixed Tryd.func4 (by kernel_rfl) (by kernel_rfl) noHints 1 noHints_ok (fun z => (r_laws_FnExactAlignsLine z).trans (nat_laws_FnExactAlignsLine _ z.1 z.2.1 z.2.2.1))

end Go.Proofs.YtnpejkbnepncfaaDoor
