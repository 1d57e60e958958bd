/- What the functions that CountFlat reaches compute, printed. No conditions. -/
import Derived.Test.YtpabholjoblkbaaW1P
namespace Go.Proofs.Ytpabholjoblkbaa
open Go.Vai
set_option maxRecDepth 100000

/-! ### F24 laws.toInt64S -/
noncomputable def T_laws_toInt64S : List (FuncId × Contract) := []
theorem a_laws_toInt64S : AllSound C0 T_laws_toInt64S := .nil
abbrev s_laws_toInt64S_4 : LS := ⟨[(false, [(.sl (.int .i64))]), (false, [(.own (.int .i64))]), (false, [(.int .i64)])], [], []⟩
abbrev e_laws_toInt64S_4_0 : LS := ⟨[(false, [(.own (.int .i64))])], [], []⟩
abbrev d_laws_toInt64S_4_0 (v0 : List Int) : e_laws_toInt64S_4_0.T := (((v0, ()), ()), (), ())
abbrev x_laws_toInt64S_4 : List (Ex × LS) := [(.exit 0, e_laws_toInt64S_4_0)]
abbrev m_laws_toInt64S_4 (x0 : List Int) (x3 : List Int) (x4 : Int) : s_laws_toInt64S_4.T := (((x0, ()), (x3, ()), (x4, ()), ()), (), ())
noncomputable def u_laws_toInt64S_4 {R : Type} (nx : s_laws_toInt64S_4.T → Option R) (hx : exH R x_laws_toInt64S_4) (x0 : List Int) (x3 : List Int) (x4 : Int) : Option R :=
  cond (decide (x4 < (((List.length x0) : Nat) : Int)))
  (Option.bind (idx x0 x4) fun y5 =>
   Option.bind (idx x3 x4) fun _ =>
   nx (m_laws_toInt64S_4 x0 (List.set x3 (0 + (Int.toNat x4)) y5) (IntKind.wrap IntKind.i64 (x4 + (1 : Int)))))
  (hx.1 (d_laws_toInt64S_4_0 x3))
noncomputable def t_laws_toInt64S_4 {R : Type} (nx : s_laws_toInt64S_4.T → Option R) (hx : exH R x_laws_toInt64S_4) (z : s_laws_toInt64S_4.T) : Option R := u_laws_toInt64S_4 nx hx z.1.1.1 z.1.2.1.1 z.1.2.2.1.1
theorem nat_laws_toInt64S_4 : Natural @t_laws_toInt64S_4 := fun R nx hx z => by
  show u_laws_toInt64S_4 nx hx z.1.1.1 z.1.2.1.1 z.1.2.2.1.1 = (u_laws_toInt64S_4 (fun y => some (.inl y)) (hIn x_laws_toInt64S_4 fun x => some (.inr x)) z.1.1.1 z.1.2.1.1 z.1.2.2.1.1).bind (goOn nx hx)
  unfold u_laws_toInt64S_4
  exact nat_cond (nat_bind fun _ => nat_bind fun _ => rfl) (rfl)
noncomputable def w_laws_toInt64S_4 : s_laws_toInt64S_4.T → Option (exT x_laws_toInt64S_4) := wOf @t_laws_toInt64S_4
theorem wq_laws_toInt64S_4 (x0 : List Int) (x3 : List Int) (x4 : Int) : w_laws_toInt64S_4 (m_laws_toInt64S_4 x0 x3 x4) = u_laws_toInt64S_4 w_laws_toInt64S_4 (hIn x_laws_toInt64S_4 some) x0 x3 x4 := wOf_eq nat_laws_toInt64S_4 _
def lh_laws_toInt64S_4 : LoopHint := ⟨[0, 3, 4], [], [3], []⟩
noncomputable def h_laws_toInt64S : Hints Rv := ⟨fun k => match k with | 4 => lh_laws_toInt64S_4 | _ => ⟨[], [], [], []⟩, fun k => match k with | 4 => some (loopX s_laws_toInt64S_4 x_laws_toInt64S_4 w_laws_toInt64S_4) | _ => none⟩
theorem st_laws_toInt64S_4 (n : Nat) (z : s_laws_toInt64S_4.T) (k : Ex → Live → Option Rv) : loopN ⟨22, 22⟩ lh_laws_toInt64S_4 (den (tab C0 T_laws_toInt64S) ⟨22, 22⟩ h_laws_toInt64S 1 (loopOf Try.f24 3)) (n + 1) (s_laws_toInt64S_4.enc z) k =
    t_laws_toInt64S_4 (fun y => loopN ⟨22, 22⟩ lh_laws_toInt64S_4 (den (tab C0 T_laws_toInt64S) ⟨22, 22⟩ h_laws_toInt64S 1 (loopOf Try.f24 3)) n (s_laws_toInt64S_4.enc y) k) (hK k x_laws_toInt64S_4) z := by kernel_rfl
theorem hs_laws_toInt64S : HintsOk (tab C0 T_laws_toInt64S) ⟨22, 22⟩ h_laws_toInt64S 1 (loops (codeOf Try.f24)) := by
  have hl : loops (codeOf Try.f24) = [loopOf Try.f24 3] := by kernel_rfl
  rw [hl]
  exact HintsOk.cons (n := 4) (lh := lh_laws_toInt64S_4) (S := loopX s_laws_toInt64S_4 x_laws_toInt64S_4 w_laws_toInt64S_4) (by kernel_rfl) rfl rfl (loopX_ok nat_laws_toInt64S_4 st_laws_toInt64S_4)
    (HintsOk.nil)
noncomputable def t_laws_toInt64S {R : Type} (kx : (List Int) → Option R) (a0 : (List Int)) : Option R :=
  cond (decide ((((List.length a0) : Nat) : Int) ≤ (((List.length a0) : Nat) : Int)))
  (cond (decide (((((List.length a0) : Nat) : Int) * ((8 : Nat) : Int)) ≤ (70368744177664 : Int)))
   (cond (decide ((((List.length a0) : Nat) : Int) ≤ (70368744177664 : Int)))
    (Option.bind (w_laws_toInt64S_4 (m_laws_toInt64S_4 a0 (List.replicate (Int.toNat (((List.length a0) : Nat) : Int)) (0 : Int)) (0 : Int))) (exC x_laws_toInt64S_4
     (fun e7 =>
      kx (e7.1.1.1 : List Int), ())))
    (none))
   (none))
  (none)
noncomputable def g_laws_toInt64S (a0 : (List Int)) : Option ((List Int)) := t_laws_toInt64S some a0
theorem nat_laws_toInt64S {R : Type} (kx : (List Int) → Option R) (a0 : (List Int)) : t_laws_toInt64S kx a0 = (g_laws_toInt64S a0).bind kx := by
  unfold g_laws_toInt64S t_laws_toInt64S
  exact nat_cond (nat_cond (nat_cond (nat_exC ⟨fun _ => rfl, trivial⟩) (rfl)) (rfl)) (rfl)
abbrev as_laws_toInt64S : List AX := [.val false (.slice (.int .i64))]
abbrev en_laws_toInt64S : (List Int) → AV × List CV := fun b => (.one ⟨false, [(.own (.int .i64) b)]⟩, [])
noncomputable abbrev k_laws_toInt64S : Contract := .fx as_laws_toInt64S ((List Int)) (fun z => g_laws_toInt64S z.1) en_laws_toInt64S
theorem r_laws_toInt64S (z : argsX as_laws_toInt64S) : runF (tab C0 T_laws_toInt64S) h_laws_toInt64S 1 Try.f24 (lentOf as_laws_toInt64S) (xBoxes as_laws_toInt64S z) (xVals as_laws_toInt64S 0 z) K2 = t_laws_toInt64S (fun b => some (en_laws_toInt64S b)) z.1 := by kernel_rfl
theorem so_laws_toInt64S : Sound C0 24 k_laws_toInt64S :=
  Sound.fx a_laws_toInt64S mixed Try.func24 (by kernel_rfl) (by kernel_rfl) h_laws_toInt64S 1 hs_laws_toInt64S (fun z => (r_laws_toInt64S z).trans (nat_laws_toInt64S _ z.1))

/-! ### F56 spec.l00In -/
noncomputable def T_spec_l00In : List (FuncId × Contract) := []
theorem a_spec_l00In : AllSound C0 T_spec_l00In := .nil
noncomputable def t_spec_l00In {R : Type} (kx : Bool → Option R) (a0 : Int) (a1 : Int) (a2 : Int) : Option R :=
  cond (decide (a0 ≥ a1))
  (kx (decide (a0 ≤ a2)))
  (kx Bool.false)
noncomputable def g_spec_l00In (a0 : Int) (a1 : Int) (a2 : Int) : Option (Bool) := t_spec_l00In some a0 a1 a2
theorem nat_spec_l00In {R : Type} (kx : Bool → Option R) (a0 : Int) (a1 : Int) (a2 : Int) : t_spec_l00In kx a0 a1 a2 = (g_spec_l00In a0 a1 a2).bind kx := by
  unfold g_spec_l00In t_spec_l00In
  exact nat_cond (rfl) (rfl)
abbrev as_spec_l00In : List AX := [.val false (.int .i64), .val false (.int .i64), .val false (.int .i64)]
abbrev en_spec_l00In : Bool → AV × List CV := fun b => (.one ⟨false, [(.v (.bool b))]⟩, [])
noncomputable abbrev k_spec_l00In : Contract := .fx as_spec_l00In (Bool) (fun z => g_spec_l00In z.1 z.2.1 z.2.2.1) en_spec_l00In
theorem r_spec_l00In (z : argsX as_spec_l00In) : runF (tab C0 T_spec_l00In) noHints 1 Try.f56 (lentOf as_spec_l00In) (xBoxes as_spec_l00In z) (xVals as_spec_l00In 0 z) K2 = t_spec_l00In (fun b => some (en_spec_l00In b)) z.1 z.2.1 z.2.2.1 := by kernel_rfl
theorem so_spec_l00In : Sound C0 56 k_spec_l00In :=
  Sound.fx a_spec_l00In mixed Try.func56 (by kernel_rfl) (by kernel_rfl) noHints 1 noHints_ok (fun z => (r_spec_l00In z).trans (nat_spec_l00In _ z.1 z.2.1 z.2.2.1))

/-! ### F49 spec.l25Sizes -/
noncomputable def T_spec_l25Sizes : List (FuncId × Contract) := [(56, k_spec_l00In)]
theorem a_spec_l25Sizes : AllSound C0 T_spec_l25Sizes := .cons so_spec_l00In (.nil)
abbrev s_spec_l25Sizes_6 : LS := ⟨[(false, [(.sl (.int .i64))]), (false, [(.int .i64)]), (false, [(.int .i64)])], [], []⟩
abbrev e_spec_l25Sizes_6_0 : LS := ⟨[(false, [.bool]), (false, [(.int .i64)])], [], []⟩
abbrev d_spec_l25Sizes_6_0 (v0 : Bool) (v1 : Int) : e_spec_l25Sizes_6_0.T := (((v0, ()), (v1, ()), ()), (), ())
abbrev e_spec_l25Sizes_6_1 : LS := ⟨[(false, [.undef]), (false, [(.int .i64)])], [], []⟩
abbrev d_spec_l25Sizes_6_1 (v0 : Int) : e_spec_l25Sizes_6_1.T := ((((), ()), (v0, ()), ()), (), ())
abbrev x_spec_l25Sizes_6 : List (Ex × LS) := [(.ret, e_spec_l25Sizes_6_0), (.exit 0, e_spec_l25Sizes_6_1)]
abbrev m_spec_l25Sizes_6 (x0 : List Int) (x3 : Int) (x4 : Int) : s_spec_l25Sizes_6.T := (((x0, ()), (x3, ()), (x4, ()), ()), (), ())
noncomputable def u_spec_l25Sizes_6 {R : Type} (nx : s_spec_l25Sizes_6.T → Option R) (hx : exH R x_spec_l25Sizes_6) (x0 : List Int) (x3 : Int) (x4 : Int) : Option R :=
  cond (decide (x4 < (((List.length x0) : Nat) : Int)))
  (Option.bind (idx x0 x4) fun y19 =>
   Option.bind (g_spec_l00In y19 (1 : Int) (1000 : Int)) fun y20 =>
   cond (!y20)
   (hx.1 (d_spec_l25Sizes_6_0 Bool.false x3))
   (Option.bind (idx x0 x4) fun y21 =>
    nx (m_spec_l25Sizes_6 x0 (IntKind.wrap IntKind.i64 (x3 + y21)) (IntKind.wrap IntKind.i64 (x4 + (1 : Int))))))
  (hx.2.1 (d_spec_l25Sizes_6_1 x3))
noncomputable def t_spec_l25Sizes_6 {R : Type} (nx : s_spec_l25Sizes_6.T → Option R) (hx : exH R x_spec_l25Sizes_6) (z : s_spec_l25Sizes_6.T) : Option R := u_spec_l25Sizes_6 nx hx z.1.1.1 z.1.2.1.1 z.1.2.2.1.1
theorem nat_spec_l25Sizes_6 : Natural @t_spec_l25Sizes_6 := fun R nx hx z => by
  show u_spec_l25Sizes_6 nx hx z.1.1.1 z.1.2.1.1 z.1.2.2.1.1 = (u_spec_l25Sizes_6 (fun y => some (.inl y)) (hIn x_spec_l25Sizes_6 fun x => some (.inr x)) z.1.1.1 z.1.2.1.1 z.1.2.2.1.1).bind (goOn nx hx)
  unfold u_spec_l25Sizes_6
  exact nat_cond (nat_bind fun _ => nat_bind fun _ => nat_cond (rfl) (nat_bind fun _ => rfl)) (rfl)
noncomputable def w_spec_l25Sizes_6 : s_spec_l25Sizes_6.T → Option (exT x_spec_l25Sizes_6) := wOf @t_spec_l25Sizes_6
theorem wq_spec_l25Sizes_6 (x0 : List Int) (x3 : Int) (x4 : Int) : w_spec_l25Sizes_6 (m_spec_l25Sizes_6 x0 x3 x4) = u_spec_l25Sizes_6 w_spec_l25Sizes_6 (hIn x_spec_l25Sizes_6 some) x0 x3 x4 := wOf_eq nat_spec_l25Sizes_6 _
def lh_spec_l25Sizes_6 : LoopHint := ⟨[0, 3, 4], [], [2, 3], []⟩
noncomputable def h_spec_l25Sizes : Hints Rv := ⟨fun k => match k with | 6 => lh_spec_l25Sizes_6 | _ => ⟨[], [], [], []⟩, fun k => match k with | 6 => some (loopX s_spec_l25Sizes_6 x_spec_l25Sizes_6 w_spec_l25Sizes_6) | _ => none⟩
theorem st_spec_l25Sizes_6 (n : Nat) (z : s_spec_l25Sizes_6.T) (k : Ex → Live → Option Rv) : loopN ⟨29, 29⟩ lh_spec_l25Sizes_6 (den (tab C0 T_spec_l25Sizes) ⟨29, 29⟩ h_spec_l25Sizes 1 (loopOf Try.f49 5)) (n + 1) (s_spec_l25Sizes_6.enc z) k =
    t_spec_l25Sizes_6 (fun y => loopN ⟨29, 29⟩ lh_spec_l25Sizes_6 (den (tab C0 T_spec_l25Sizes) ⟨29, 29⟩ h_spec_l25Sizes 1 (loopOf Try.f49 5)) n (s_spec_l25Sizes_6.enc y) k) (hK k x_spec_l25Sizes_6) z := by kernel_rfl
theorem hs_spec_l25Sizes : HintsOk (tab C0 T_spec_l25Sizes) ⟨29, 29⟩ h_spec_l25Sizes 1 (loops (codeOf Try.f49)) := by
  have hl : loops (codeOf Try.f49) = [loopOf Try.f49 5] := by kernel_rfl
  rw [hl]
  exact HintsOk.cons (n := 6) (lh := lh_spec_l25Sizes_6) (S := loopX s_spec_l25Sizes_6 x_spec_l25Sizes_6 w_spec_l25Sizes_6) (by kernel_rfl) rfl rfl (loopX_ok nat_spec_l25Sizes_6 st_spec_l25Sizes_6)
    (HintsOk.nil)
noncomputable def t_spec_l25Sizes {R : Type} (kx : Bool → Option R) (a0 : (List Int)) : Option R :=
  Option.bind (g_spec_l00In (((List.length a0) : Nat) : Int) (1 : Int) (14 : Int)) fun y15 =>
  cond (!y15)
  (kx Bool.false)
  (Option.bind (w_spec_l25Sizes_6 (m_spec_l25Sizes_6 a0 (0 : Int) (0 : Int))) (exC x_spec_l25Sizes_6
   (fun e22 =>
    kx (e22.1.1.1 : Bool), fun e25 =>
    kx (decide ((e25.1.2.1.1 : Int) ≤ (1000 : Int))), ())))
noncomputable def g_spec_l25Sizes (a0 : (List Int)) : Option (Bool) := t_spec_l25Sizes some a0
theorem nat_spec_l25Sizes {R : Type} (kx : Bool → Option R) (a0 : (List Int)) : t_spec_l25Sizes kx a0 = (g_spec_l25Sizes a0).bind kx := by
  unfold g_spec_l25Sizes t_spec_l25Sizes
  exact nat_bind fun _ => nat_cond (rfl) (nat_exC ⟨fun _ => rfl, fun _ => rfl, trivial⟩)
abbrev as_spec_l25Sizes : List AX := [.val false (.slice (.int .i64))]
abbrev en_spec_l25Sizes : Bool → AV × List CV := fun b => (.one ⟨false, [(.v (.bool b))]⟩, [])
noncomputable abbrev k_spec_l25Sizes : Contract := .fx as_spec_l25Sizes (Bool) (fun z => g_spec_l25Sizes z.1) en_spec_l25Sizes
theorem r_spec_l25Sizes (z : argsX as_spec_l25Sizes) : runF (tab C0 T_spec_l25Sizes) h_spec_l25Sizes 1 Try.f49 (lentOf as_spec_l25Sizes) (xBoxes as_spec_l25Sizes z) (xVals as_spec_l25Sizes 0 z) K2 = t_spec_l25Sizes (fun b => some (en_spec_l25Sizes b)) z.1 := by kernel_rfl
theorem so_spec_l25Sizes : Sound C0 49 k_spec_l25Sizes :=
  Sound.fx a_spec_l25Sizes mixed Try.func49 (by kernel_rfl) (by kernel_rfl) h_spec_l25Sizes 1 hs_spec_l25Sizes (fun z => (r_spec_l25Sizes z).trans (nat_spec_l25Sizes _ z.1))

/-! ### F71 spec.l00Own -/
noncomputable def T_spec_l00Own : List (FuncId × Contract) := []
theorem a_spec_l00Own : AllSound C0 T_spec_l00Own := .nil
noncomputable def t_spec_l00Own {R : Type} (kx : (List Int) → Option R) (a0 : (List Int)) : Option R :=
  cond (decide ((((List.length ([] : List Int)) + (List.length a0)) * 8) ≤ 70368744177664))
  (cond (decide (((List.length ([] : List Int)) + (List.length a0)) ≤ 70368744177664))
   (kx ([] ++ a0))
   (none))
  (none)
noncomputable def g_spec_l00Own (a0 : (List Int)) : Option ((List Int)) := t_spec_l00Own some a0
theorem nat_spec_l00Own {R : Type} (kx : (List Int) → Option R) (a0 : (List Int)) : t_spec_l00Own kx a0 = (g_spec_l00Own a0).bind kx := by
  unfold g_spec_l00Own t_spec_l00Own
  exact nat_cond (nat_cond (rfl) (rfl)) (rfl)
abbrev as_spec_l00Own : List AX := [.val false (.slice (.int .i64))]
abbrev en_spec_l00Own : (List Int) → AV × List CV := fun b => (.one ⟨false, [(.own (.int .i64) b)]⟩, [])
noncomputable abbrev k_spec_l00Own : Contract := .fx as_spec_l00Own ((List Int)) (fun z => g_spec_l00Own z.1) en_spec_l00Own
theorem r_spec_l00Own (z : argsX as_spec_l00Own) : runF (tab C0 T_spec_l00Own) noHints 1 Try.f71 (lentOf as_spec_l00Own) (xBoxes as_spec_l00Own z) (xVals as_spec_l00Own 0 z) K2 = t_spec_l00Own (fun b => some (en_spec_l00Own b)) z.1 := by kernel_rfl
theorem so_spec_l00Own : Sound C0 71 k_spec_l00Own :=
  Sound.fx a_spec_l00Own mixed Try.func71 (by kernel_rfl) (by kernel_rfl) noHints 1 noHints_ok (fun z => (r_spec_l00Own z).trans (nat_spec_l00Own _ z.1))

/-! ### F53 spec.l25Own -/
noncomputable def T_spec_l25Own : List (FuncId × Contract) := [(71, k_spec_l00Own)]
theorem a_spec_l25Own : AllSound C0 T_spec_l25Own := .cons so_spec_l00Own (.nil)
noncomputable def t_spec_l25Own {R : Type} (kx : ((List Int) × (List Int)) → Option R) (a0 : ((List Int) × (List Int))) : Option R :=
  Option.bind (g_spec_l00Own a0.1) fun y50 =>
  Option.bind (g_spec_l00Own a0.2) fun y51 =>
  kx (y50, y51)
noncomputable def g_spec_l25Own (a0 : ((List Int) × (List Int))) : Option (((List Int) × (List Int))) := t_spec_l25Own some a0
theorem nat_spec_l25Own {R : Type} (kx : ((List Int) × (List Int)) → Option R) (a0 : ((List Int) × (List Int))) : t_spec_l25Own kx a0 = (g_spec_l25Own a0).bind kx := by
  unfold g_spec_l25Own t_spec_l25Own
  exact nat_bind fun _ => nat_bind fun _ => rfl
abbrev as_spec_l25Own : List AX := [.ptr (.pair (.slice (.int .i64)) (.slice (.int .i64)))]
abbrev en_spec_l25Own : ((List Int) × (List Int)) → AV × List CV := fun b => (.one ⟨true, [(.own (.int .i64) b.1), (.own (.int .i64) b.2)]⟩, [])
noncomputable abbrev k_spec_l25Own : Contract := .fx as_spec_l25Own (((List Int) × (List Int))) (fun z => g_spec_l25Own z.1) en_spec_l25Own
theorem r_spec_l25Own (z : argsX as_spec_l25Own) : runF (tab C0 T_spec_l25Own) noHints 1 Try.f53 (lentOf as_spec_l25Own) (xBoxes as_spec_l25Own z) (xVals as_spec_l25Own 0 z) K2 = t_spec_l25Own (fun b => some (en_spec_l25Own b)) z.1 := by kernel_rfl
theorem so_spec_l25Own : Sound C0 53 k_spec_l25Own :=
  Sound.fx a_spec_l25Own mixed Try.func53 (by kernel_rfl) (by kernel_rfl) noHints 1 noHints_ok (fun z => (r_spec_l25Own z).trans (nat_spec_l25Own _ z.1))

/-! ### F44 spec.l25Can -/
noncomputable def T_spec_l25Can : List (FuncId × Contract) := [(56, k_spec_l00In)]
theorem a_spec_l25Can : AllSound C0 T_spec_l25Can := .cons so_spec_l00In (.nil)
noncomputable def t_spec_l25Can {R : Type} (kx : Bool → Option R) (a0 : ((List Int) × (List Int))) (a1 : (Int × Int)) : Option R :=
  cond (decide ((((List.length a0.1) : Nat) : Int) < (2 : Int)))
  (kx Bool.false)
  (cond (a1.1 == (2 : Int))
   (cond (a1.2 == (0 : Int))
    (Option.bind (idx a0.1 (0 : Int)) fun y74 =>
     Option.bind (idx a0.1 (1 : Int)) fun y75 =>
     kx (decide (y74 ≤ y75)))
    (kx Bool.false))
   (cond (a1.1 == (3 : Int))
    (cond (a1.2 == (IntKind.wrap IntKind.i64 ((((List.length a0.1) : Nat) : Int) - (1 : Int))))
     (Option.bind (idx a0.1 (IntKind.wrap IntKind.i64 ((((List.length a0.1) : Nat) : Int) - (1 : Int)))) fun y76 =>
      Option.bind (idx a0.1 (IntKind.wrap IntKind.i64 ((((List.length a0.1) : Nat) : Int) - (2 : Int)))) fun y77 =>
      kx (decide (y76 ≤ y77)))
     (kx Bool.false))
    (cond (a1.1 == (1 : Int))
     (Option.bind (g_spec_l00In a1.2 (1 : Int) (IntKind.wrap IntKind.i64 ((((List.length a0.1) : Nat) : Int) - (2 : Int)))) fun y78 =>
      cond y78
      (Option.bind (idx a0.1 a1.2) fun y79 =>
       Option.bind (idx a0.1 (IntKind.wrap IntKind.i64 (a1.2 - (1 : Int)))) fun y80 =>
       cond (decide (y79 ≤ y80))
       (Option.bind (idx a0.1 a1.2) fun y81 =>
        Option.bind (idx a0.1 (IntKind.wrap IntKind.i64 (a1.2 + (1 : Int)))) fun y82 =>
        cond (decide (y81 ≤ y82))
        (Option.bind (idx a0.2 (IntKind.wrap IntKind.i64 (a1.2 - (1 : Int)))) fun y83 =>
         Option.bind (idx a0.2 a1.2) fun y84 =>
         kx (y83 != y84))
        (kx Bool.false))
       (kx Bool.false))
      (kx Bool.false))
     (kx Bool.false))))
noncomputable def g_spec_l25Can (a0 : ((List Int) × (List Int))) (a1 : (Int × Int)) : Option (Bool) := t_spec_l25Can some a0 a1
theorem nat_spec_l25Can {R : Type} (kx : Bool → Option R) (a0 : ((List Int) × (List Int))) (a1 : (Int × Int)) : t_spec_l25Can kx a0 a1 = (g_spec_l25Can a0 a1).bind kx := by
  unfold g_spec_l25Can t_spec_l25Can
  exact nat_cond (rfl) (nat_cond (nat_cond (nat_bind fun _ => nat_bind fun _ => rfl) (rfl)) (nat_cond (nat_cond (nat_bind fun _ => nat_bind fun _ => rfl) (rfl)) (nat_cond (nat_bind fun _ => nat_cond (nat_bind fun _ => nat_bind fun _ => nat_cond (nat_bind fun _ => nat_bind fun _ => nat_cond (nat_bind fun _ => nat_bind fun _ => rfl) (rfl)) (rfl)) (rfl)) (rfl))))
abbrev as_spec_l25Can : List AX := [.ptr (.pair (.slice (.int .i64)) (.slice (.int .i64))), .val true (.pair (.int .i64) (.int .i64))]
abbrev en_spec_l25Can : Bool → AV × List CV := fun b => (.one ⟨false, [(.v (.bool b))]⟩, [])
noncomputable abbrev k_spec_l25Can : Contract := .fx as_spec_l25Can (Bool) (fun z => g_spec_l25Can z.1 z.2.1) en_spec_l25Can
theorem r_spec_l25Can (z : argsX as_spec_l25Can) : runF (tab C0 T_spec_l25Can) noHints 1 Try.f44 (lentOf as_spec_l25Can) (xBoxes as_spec_l25Can z) (xVals as_spec_l25Can 0 z) K2 = t_spec_l25Can (fun b => some (en_spec_l25Can b)) z.1 z.2.1 := by kernel_rfl
theorem so_spec_l25Can : Sound C0 44 k_spec_l25Can :=
  Sound.fx a_spec_l25Can mixed Try.func44 (by kernel_rfl) (by kernel_rfl) noHints 1 noHints_ok (fun z => (r_spec_l25Can z).trans (nat_spec_l25Can _ z.1 z.2.1))

/-! ### F39 spec.l25Steps -/
noncomputable def T_spec_l25Steps : List (FuncId × Contract) := [(44, k_spec_l25Can)]
theorem a_spec_l25Steps : AllSound C0 T_spec_l25Steps := .cons so_spec_l25Can (.nil)
abbrev s_spec_l25Steps_6 : LS := ⟨[(false, [(.ptr 53 0)]), (false, [(.own (.pair (.int .i64) (.int .i64)))]), (false, [(.int .i64)]), (false, [(.own (.pair (.int .i64) (.int .i64)))]), (false, [(.int .i64)])], [(true, [(.sl (.int .i64)), (.sl (.int .i64))])], []⟩
abbrev e_spec_l25Steps_6_0 : LS := ⟨[(false, [(.ptr 53 0)]), (false, [(.own (.pair (.int .i64) (.int .i64)))]), (false, [(.int .i64)]), (false, [(.own (.pair (.int .i64) (.int .i64)))])], [(true, [(.sl (.int .i64)), (.sl (.int .i64))])], []⟩
abbrev d_spec_l25Steps_6_0 (v0 : List (Int × Int)) (v1 : Int) (v2 : List (Int × Int)) (v3 : List Int) (v4 : List Int) : e_spec_l25Steps_6_0.T := ((((), ()), (v0, ()), (v1, ()), (v2, ()), ()), ((v3, v4, ()), ()), ())
abbrev x_spec_l25Steps_6 : List (Ex × LS) := [(.exit 0, e_spec_l25Steps_6_0)]
abbrev m_spec_l25Steps_6 (x3 : List (Int × Int)) (x4 : Int) (x5 : List (Int × Int)) (x6 : Int) (b0_0 : List Int) (b0_1 : List Int) : s_spec_l25Steps_6.T := ((((), ()), (x3, ()), (x4, ()), (x5, ()), (x6, ()), ()), ((b0_0, b0_1, ()), ()), ())
noncomputable def u_spec_l25Steps_6 {R : Type} (nx : s_spec_l25Steps_6.T → Option R) (hx : exH R x_spec_l25Steps_6) (x3 : List (Int × Int)) (x4 : Int) (x5 : List (Int × Int)) (x6 : Int) (b0_0 : List Int) (b0_1 : List Int) : Option R :=
  cond (decide (x6 < (IntKind.wrap IntKind.i64 (x4 - (1 : Int)))))
  (cond (decide ((((List.length x5) + (List.length [((1 : Int), x6)])) * 16) ≤ 70368744177664))
   (cond (decide (((List.length x5) + (List.length [((1 : Int), x6)])) ≤ 70368744177664))
    (nx (m_spec_l25Steps_6 x3 x4 (x5 ++ [((1 : Int), x6)]) (IntKind.wrap IntKind.i64 (x6 + (1 : Int))) b0_0 b0_1))
    (none))
   (none))
  (hx.1 (d_spec_l25Steps_6_0 x3 x4 x5 b0_0 b0_1))
noncomputable def t_spec_l25Steps_6 {R : Type} (nx : s_spec_l25Steps_6.T → Option R) (hx : exH R x_spec_l25Steps_6) (z : s_spec_l25Steps_6.T) : Option R := u_spec_l25Steps_6 nx hx z.1.2.1.1 z.1.2.2.1.1 z.1.2.2.2.1.1 z.1.2.2.2.2.1.1 z.2.1.1.1 z.2.1.1.2.1
theorem nat_spec_l25Steps_6 : Natural @t_spec_l25Steps_6 := fun R nx hx z => by
  show u_spec_l25Steps_6 nx hx z.1.2.1.1 z.1.2.2.1.1 z.1.2.2.2.1.1 z.1.2.2.2.2.1.1 z.2.1.1.1 z.2.1.1.2.1 = (u_spec_l25Steps_6 (fun y => some (.inl y)) (hIn x_spec_l25Steps_6 fun x => some (.inr x)) z.1.2.1.1 z.1.2.2.1.1 z.1.2.2.2.1.1 z.1.2.2.2.2.1.1 z.2.1.1.1 z.2.1.1.2.1).bind (goOn nx hx)
  unfold u_spec_l25Steps_6
  exact nat_cond (nat_cond (nat_cond (rfl) (rfl)) (rfl)) (rfl)
noncomputable def w_spec_l25Steps_6 : s_spec_l25Steps_6.T → Option (exT x_spec_l25Steps_6) := wOf @t_spec_l25Steps_6
theorem wq_spec_l25Steps_6 (x3 : List (Int × Int)) (x4 : Int) (x5 : List (Int × Int)) (x6 : Int) (b0_0 : List Int) (b0_1 : List Int) : w_spec_l25Steps_6 (m_spec_l25Steps_6 x3 x4 x5 x6 b0_0 b0_1) = u_spec_l25Steps_6 w_spec_l25Steps_6 (hIn x_spec_l25Steps_6 some) x3 x4 x5 x6 b0_0 b0_1 := wOf_eq nat_spec_l25Steps_6 _
def lh_spec_l25Steps_6 : LoopHint := ⟨[0, 3, 4, 5, 6], [53], [0, 3, 4, 5], [53]⟩
abbrev s_spec_l25Steps_11 : LS := ⟨[(false, [(.ptr 53 0)]), (false, [(.own (.pair (.int .i64) (.int .i64)))]), (false, [(.own (.pair (.int .i64) (.int .i64)))]), (false, [(.int .i64)])], [(true, [(.sl (.int .i64)), (.sl (.int .i64))])], []⟩
abbrev e_spec_l25Steps_11_0 : LS := ⟨[(false, [(.own (.pair (.int .i64) (.int .i64)))])], [], []⟩
abbrev d_spec_l25Steps_11_0 (v0 : List (Int × Int)) : e_spec_l25Steps_11_0.T := (((v0, ()), ()), (), ())
abbrev x_spec_l25Steps_11 : List (Ex × LS) := [(.exit 2, e_spec_l25Steps_11_0)]
abbrev m_spec_l25Steps_11 (x3 : List (Int × Int)) (x5 : List (Int × Int)) (x7 : Int) (b0_0 : List Int) (b0_1 : List Int) : s_spec_l25Steps_11.T := ((((), ()), (x3, ()), (x5, ()), (x7, ()), ()), ((b0_0, b0_1, ()), ()), ())
noncomputable def u_spec_l25Steps_11 {R : Type} (nx : s_spec_l25Steps_11.T → Option R) (hx : exH R x_spec_l25Steps_11) (x3 : List (Int × Int)) (x5 : List (Int × Int)) (x7 : Int) (b0_0 : List Int) (b0_1 : List Int) : Option R :=
  cond (decide (x7 < (((List.length x5) : Nat) : Int)))
  (Option.bind (idx x5 x7) fun y71 =>
   Option.bind (g_spec_l25Can (b0_0, b0_1) y71) fun y85 =>
   cond y85
   (Option.bind (idx x5 x7) fun y86 =>
    cond (decide ((((List.length x3) + (List.length [y86])) * 16) ≤ 70368744177664))
    (cond (decide (((List.length x3) + (List.length [y86])) ≤ 70368744177664))
     (nx (m_spec_l25Steps_11 (x3 ++ [y86]) x5 (IntKind.wrap IntKind.i64 (x7 + (1 : Int))) b0_0 b0_1))
     (none))
    (none))
   (nx (m_spec_l25Steps_11 x3 x5 (IntKind.wrap IntKind.i64 (x7 + (1 : Int))) b0_0 b0_1)))
  (hx.1 (d_spec_l25Steps_11_0 x3))
noncomputable def t_spec_l25Steps_11 {R : Type} (nx : s_spec_l25Steps_11.T → Option R) (hx : exH R x_spec_l25Steps_11) (z : s_spec_l25Steps_11.T) : Option R := u_spec_l25Steps_11 nx hx z.1.2.1.1 z.1.2.2.1.1 z.1.2.2.2.1.1 z.2.1.1.1 z.2.1.1.2.1
theorem nat_spec_l25Steps_11 : Natural @t_spec_l25Steps_11 := fun R nx hx z => by
  show u_spec_l25Steps_11 nx hx z.1.2.1.1 z.1.2.2.1.1 z.1.2.2.2.1.1 z.2.1.1.1 z.2.1.1.2.1 = (u_spec_l25Steps_11 (fun y => some (.inl y)) (hIn x_spec_l25Steps_11 fun x => some (.inr x)) z.1.2.1.1 z.1.2.2.1.1 z.1.2.2.2.1.1 z.2.1.1.1 z.2.1.1.2.1).bind (goOn nx hx)
  unfold u_spec_l25Steps_11
  exact nat_cond (nat_bind fun _ => nat_bind fun _ => nat_cond (nat_bind fun _ => nat_cond (nat_cond (rfl) (rfl)) (rfl)) (rfl)) (rfl)
noncomputable def w_spec_l25Steps_11 : s_spec_l25Steps_11.T → Option (exT x_spec_l25Steps_11) := wOf @t_spec_l25Steps_11
theorem wq_spec_l25Steps_11 (x3 : List (Int × Int)) (x5 : List (Int × Int)) (x7 : Int) (b0_0 : List Int) (b0_1 : List Int) : w_spec_l25Steps_11 (m_spec_l25Steps_11 x3 x5 x7 b0_0 b0_1) = u_spec_l25Steps_11 w_spec_l25Steps_11 (hIn x_spec_l25Steps_11 some) x3 x5 x7 b0_0 b0_1 := wOf_eq nat_spec_l25Steps_11 _
def lh_spec_l25Steps_11 : LoopHint := ⟨[0, 3, 5, 7], [53], [3], []⟩
noncomputable def h_spec_l25Steps : Hints Rv := ⟨fun k => match k with | 6 => lh_spec_l25Steps_6 | 11 => lh_spec_l25Steps_11 | _ => ⟨[], [], [], []⟩, fun k => match k with | 6 => some (loopX s_spec_l25Steps_6 x_spec_l25Steps_6 w_spec_l25Steps_6) | 11 => some (loopX s_spec_l25Steps_11 x_spec_l25Steps_11 w_spec_l25Steps_11) | _ => none⟩
theorem st_spec_l25Steps_6 (n : Nat) (z : s_spec_l25Steps_6.T) (k : Ex → Live → Option Rv) : loopN ⟨53, 54⟩ lh_spec_l25Steps_6 (den (tab C0 T_spec_l25Steps) ⟨53, 54⟩ h_spec_l25Steps 1 (loopOf Try.f39 5)) (n + 1) (s_spec_l25Steps_6.enc z) k =
    t_spec_l25Steps_6 (fun y => loopN ⟨53, 54⟩ lh_spec_l25Steps_6 (den (tab C0 T_spec_l25Steps) ⟨53, 54⟩ h_spec_l25Steps 1 (loopOf Try.f39 5)) n (s_spec_l25Steps_6.enc y) k) (hK k x_spec_l25Steps_6) z := by kernel_rfl
theorem st_spec_l25Steps_11 (n : Nat) (z : s_spec_l25Steps_11.T) (k : Ex → Live → Option Rv) : loopN ⟨53, 54⟩ lh_spec_l25Steps_11 (den (tab C0 T_spec_l25Steps) ⟨53, 54⟩ h_spec_l25Steps 1 (loopOf Try.f39 10)) (n + 1) (s_spec_l25Steps_11.enc z) k =
    t_spec_l25Steps_11 (fun y => loopN ⟨53, 54⟩ lh_spec_l25Steps_11 (den (tab C0 T_spec_l25Steps) ⟨53, 54⟩ h_spec_l25Steps 1 (loopOf Try.f39 10)) n (s_spec_l25Steps_11.enc y) k) (hK k x_spec_l25Steps_11) z := by kernel_rfl
theorem hs_spec_l25Steps : HintsOk (tab C0 T_spec_l25Steps) ⟨53, 54⟩ h_spec_l25Steps 1 (loops (codeOf Try.f39)) := by
  have hl : loops (codeOf Try.f39) = [loopOf Try.f39 5, loopOf Try.f39 10] := by kernel_rfl
  rw [hl]
  exact HintsOk.cons (n := 6) (lh := lh_spec_l25Steps_6) (S := loopX s_spec_l25Steps_6 x_spec_l25Steps_6 w_spec_l25Steps_6) (by kernel_rfl) rfl rfl (loopX_ok nat_spec_l25Steps_6 st_spec_l25Steps_6)
    (HintsOk.cons (n := 11) (lh := lh_spec_l25Steps_11) (S := loopX s_spec_l25Steps_11 x_spec_l25Steps_11 w_spec_l25Steps_11) (by kernel_rfl) rfl rfl (loopX_ok nat_spec_l25Steps_11 st_spec_l25Steps_11)
    (HintsOk.nil))
noncomputable def t_spec_l25Steps {R : Type} (kx : (List (Int × Int)) → Option R) (a0 : ((List Int) × (List Int))) : Option R :=
  Option.bind (w_spec_l25Steps_6 (m_spec_l25Steps_6 [] (((List.length a0.1) : Nat) : Int) [((2 : Int), (0 : Int))] (1 : Int) a0.1 a0.2)) (exC x_spec_l25Steps_6
  (fun e60 =>
   cond (decide ((((List.length (e60.1.2.2.2.1.1 : List (Int × Int))) + (List.length [((3 : Int), (IntKind.wrap IntKind.i64 ((e60.1.2.2.1.1 : Int) - (1 : Int))))])) * 16) ≤ 70368744177664))
   (cond (decide (((List.length (e60.1.2.2.2.1.1 : List (Int × Int))) + (List.length [((3 : Int), (IntKind.wrap IntKind.i64 ((e60.1.2.2.1.1 : Int) - (1 : Int))))])) ≤ 70368744177664))
    (Option.bind (w_spec_l25Steps_11 (m_spec_l25Steps_11 (e60.1.2.1.1 : List (Int × Int)) ((e60.1.2.2.2.1.1 : List (Int × Int)) ++ [((3 : Int), (IntKind.wrap IntKind.i64 ((e60.1.2.2.1.1 : Int) - (1 : Int))))]) (0 : Int) (e60.2.1.1.1 : List Int) (e60.2.1.1.2.1 : List Int))) (exC x_spec_l25Steps_11
     (fun e87 =>
      kx (e87.1.1.1 : List (Int × Int)), ())))
    (none))
   (none), ()))
noncomputable def g_spec_l25Steps (a0 : ((List Int) × (List Int))) : Option ((List (Int × Int))) := t_spec_l25Steps some a0
theorem nat_spec_l25Steps {R : Type} (kx : (List (Int × Int)) → Option R) (a0 : ((List Int) × (List Int))) : t_spec_l25Steps kx a0 = (g_spec_l25Steps a0).bind kx := by
  unfold g_spec_l25Steps t_spec_l25Steps
  exact nat_exC ⟨fun _ => nat_cond (nat_cond (nat_exC ⟨fun _ => rfl, trivial⟩) (rfl)) (rfl), trivial⟩
abbrev as_spec_l25Steps : List AX := [.ptr (.pair (.slice (.int .i64)) (.slice (.int .i64)))]
abbrev en_spec_l25Steps : (List (Int × Int)) → AV × List CV := fun b => (.one ⟨false, [(.own (.pair (.int .i64) (.int .i64)) b)]⟩, [])
noncomputable abbrev k_spec_l25Steps : Contract := .fx as_spec_l25Steps ((List (Int × Int))) (fun z => g_spec_l25Steps z.1) en_spec_l25Steps
theorem r_spec_l25Steps (z : argsX as_spec_l25Steps) : runF (tab C0 T_spec_l25Steps) h_spec_l25Steps 1 Try.f39 (lentOf as_spec_l25Steps) (xBoxes as_spec_l25Steps z) (xVals as_spec_l25Steps 0 z) K2 = t_spec_l25Steps (fun b => some (en_spec_l25Steps b)) z.1 := by kernel_rfl
theorem so_spec_l25Steps : Sound C0 39 k_spec_l25Steps :=
  Sound.fx a_spec_l25Steps mixed Try.func39 (by kernel_rfl) (by kernel_rfl) h_spec_l25Steps 1 hs_spec_l25Steps (fun z => (r_spec_l25Steps z).trans (nat_spec_l25Steps _ z.1))

/-! ### F45 spec.l25Apply -/
noncomputable def T_spec_l25Apply : List (FuncId × Contract) := []
theorem a_spec_l25Apply : AllSound C0 T_spec_l25Apply := .nil
noncomputable def t_spec_l25Apply {R : Type} (kx : ((List Int) × (List Int)) → Option R) (a0 : ((List Int) × (List Int))) (a1 : (Int × Int)) : Option R :=
  cond (a1.1 == (2 : Int))
  (cond (decide ((1 : Int) ≤ (((List.length a0.1) : Nat) : Int)))
   (cond (decide ((((List.length ([] : List Int)) + (List.length (List.drop (Int.toNat (1 : Int)) (List.take (List.length a0.1) a0.1)))) * 8) ≤ 70368744177664))
    (cond (decide (((List.length ([] : List Int)) + (List.length (List.drop (Int.toNat (1 : Int)) (List.take (List.length a0.1) a0.1)))) ≤ 70368744177664))
     (cond (decide ((1 : Int) ≤ (((List.length a0.2) : Nat) : Int)))
      (cond (decide ((((List.length ([] : List Int)) + (List.length (List.drop (Int.toNat (1 : Int)) (List.take (List.length a0.2) a0.2)))) * 8) ≤ 70368744177664))
       (cond (decide (((List.length ([] : List Int)) + (List.length (List.drop (Int.toNat (1 : Int)) (List.take (List.length a0.2) a0.2)))) ≤ 70368744177664))
        (kx (([] ++ (List.drop (Int.toNat (1 : Int)) (List.take (List.length a0.1) a0.1))), ([] ++ (List.drop (Int.toNat (1 : Int)) (List.take (List.length a0.2) a0.2)))))
        (none))
       (none))
      (none))
     (none))
    (none))
   (none))
  (cond (a1.1 == (3 : Int))
   (cond (decide ((0 : Int) ≤ (IntKind.wrap IntKind.i64 ((((List.length a0.1) : Nat) : Int) - (1 : Int)))))
    (cond (decide ((IntKind.wrap IntKind.i64 ((((List.length a0.1) : Nat) : Int) - (1 : Int))) ≤ (((List.length a0.1) : Nat) : Int)))
     (cond (decide ((((List.length ([] : List Int)) + (List.length (List.drop 0 (List.take (Int.toNat (IntKind.wrap IntKind.i64 ((((List.length a0.1) : Nat) : Int) - (1 : Int)))) a0.1)))) * 8) ≤ 70368744177664))
      (cond (decide (((List.length ([] : List Int)) + (List.length (List.drop 0 (List.take (Int.toNat (IntKind.wrap IntKind.i64 ((((List.length a0.1) : Nat) : Int) - (1 : Int)))) a0.1)))) ≤ 70368744177664))
       (cond (decide ((0 : Int) ≤ (IntKind.wrap IntKind.i64 ((((List.length a0.1) : Nat) : Int) - (2 : Int)))))
        (cond (decide ((IntKind.wrap IntKind.i64 ((((List.length a0.1) : Nat) : Int) - (2 : Int))) ≤ (((List.length a0.2) : Nat) : Int)))
         (cond (decide ((((List.length ([] : List Int)) + (List.length (List.drop 0 (List.take (Int.toNat (IntKind.wrap IntKind.i64 ((((List.length a0.1) : Nat) : Int) - (2 : Int)))) a0.2)))) * 8) ≤ 70368744177664))
          (cond (decide (((List.length ([] : List Int)) + (List.length (List.drop 0 (List.take (Int.toNat (IntKind.wrap IntKind.i64 ((((List.length a0.1) : Nat) : Int) - (2 : Int)))) a0.2)))) ≤ 70368744177664))
           (kx (([] ++ (List.drop 0 (List.take (Int.toNat (IntKind.wrap IntKind.i64 ((((List.length a0.1) : Nat) : Int) - (1 : Int)))) a0.1))), ([] ++ (List.drop 0 (List.take (Int.toNat (IntKind.wrap IntKind.i64 ((((List.length a0.1) : Nat) : Int) - (2 : Int)))) a0.2)))))
           (none))
          (none))
         (none))
        (none))
       (none))
      (none))
     (none))
    (none))
   (cond (decide ((0 : Int) ≤ (IntKind.wrap IntKind.i64 (a1.2 - (1 : Int)))))
    (cond (decide ((IntKind.wrap IntKind.i64 (a1.2 - (1 : Int))) ≤ (((List.length a0.1) : Nat) : Int)))
     (cond (decide ((((List.length ([] : List Int)) + (List.length (List.drop 0 (List.take (Int.toNat (IntKind.wrap IntKind.i64 (a1.2 - (1 : Int)))) a0.1)))) * 8) ≤ 70368744177664))
      (cond (decide (((List.length ([] : List Int)) + (List.length (List.drop 0 (List.take (Int.toNat (IntKind.wrap IntKind.i64 (a1.2 - (1 : Int)))) a0.1)))) ≤ 70368744177664))
       (Option.bind (idx a0.1 (IntKind.wrap IntKind.i64 (a1.2 - (1 : Int)))) fun y100 =>
        Option.bind (idx a0.1 a1.2) fun y101 =>
        Option.bind (idx a0.1 (IntKind.wrap IntKind.i64 (a1.2 + (1 : Int)))) fun y102 =>
        cond (decide ((((List.length ([] ++ (List.drop 0 (List.take (Int.toNat (IntKind.wrap IntKind.i64 (a1.2 - (1 : Int)))) a0.1)))) + (List.length [(IntKind.wrap IntKind.i64 ((IntKind.wrap IntKind.i64 (y100 - y101)) + y102))])) * 8) ≤ 70368744177664))
        (cond (decide (((List.length ([] ++ (List.drop 0 (List.take (Int.toNat (IntKind.wrap IntKind.i64 (a1.2 - (1 : Int)))) a0.1)))) + (List.length [(IntKind.wrap IntKind.i64 ((IntKind.wrap IntKind.i64 (y100 - y101)) + y102))])) ≤ 70368744177664))
         (cond (decide ((0 : Int) ≤ (IntKind.wrap IntKind.i64 (a1.2 + (2 : Int)))))
          (cond (decide ((IntKind.wrap IntKind.i64 (a1.2 + (2 : Int))) ≤ (((List.length a0.1) : Nat) : Int)))
           (cond (decide ((((List.length (([] ++ (List.drop 0 (List.take (Int.toNat (IntKind.wrap IntKind.i64 (a1.2 - (1 : Int)))) a0.1))) ++ [(IntKind.wrap IntKind.i64 ((IntKind.wrap IntKind.i64 (y100 - y101)) + y102))])) + (List.length (List.drop (Int.toNat (IntKind.wrap IntKind.i64 (a1.2 + (2 : Int)))) (List.take (List.length a0.1) a0.1)))) * 8) ≤ 70368744177664))
            (cond (decide (((List.length (([] ++ (List.drop 0 (List.take (Int.toNat (IntKind.wrap IntKind.i64 (a1.2 - (1 : Int)))) a0.1))) ++ [(IntKind.wrap IntKind.i64 ((IntKind.wrap IntKind.i64 (y100 - y101)) + y102))])) + (List.length (List.drop (Int.toNat (IntKind.wrap IntKind.i64 (a1.2 + (2 : Int)))) (List.take (List.length a0.1) a0.1)))) ≤ 70368744177664))
             (cond (decide ((0 : Int) ≤ (IntKind.wrap IntKind.i64 (a1.2 - (1 : Int)))))
              (cond (decide ((IntKind.wrap IntKind.i64 (a1.2 - (1 : Int))) ≤ (((List.length a0.2) : Nat) : Int)))
               (cond (decide ((((List.length ([] : List Int)) + (List.length (List.drop 0 (List.take (Int.toNat (IntKind.wrap IntKind.i64 (a1.2 - (1 : Int)))) a0.2)))) * 8) ≤ 70368744177664))
                (cond (decide (((List.length ([] : List Int)) + (List.length (List.drop 0 (List.take (Int.toNat (IntKind.wrap IntKind.i64 (a1.2 - (1 : Int)))) a0.2)))) ≤ 70368744177664))
                 (cond (decide ((0 : Int) ≤ (IntKind.wrap IntKind.i64 (a1.2 + (1 : Int)))))
                  (cond (decide ((IntKind.wrap IntKind.i64 (a1.2 + (1 : Int))) ≤ (((List.length a0.2) : Nat) : Int)))
                   (cond (decide ((((List.length ([] ++ (List.drop 0 (List.take (Int.toNat (IntKind.wrap IntKind.i64 (a1.2 - (1 : Int)))) a0.2)))) + (List.length (List.drop (Int.toNat (IntKind.wrap IntKind.i64 (a1.2 + (1 : Int)))) (List.take (List.length a0.2) a0.2)))) * 8) ≤ 70368744177664))
                    (cond (decide (((List.length ([] ++ (List.drop 0 (List.take (Int.toNat (IntKind.wrap IntKind.i64 (a1.2 - (1 : Int)))) a0.2)))) + (List.length (List.drop (Int.toNat (IntKind.wrap IntKind.i64 (a1.2 + (1 : Int)))) (List.take (List.length a0.2) a0.2)))) ≤ 70368744177664))
                     (kx (((([] ++ (List.drop 0 (List.take (Int.toNat (IntKind.wrap IntKind.i64 (a1.2 - (1 : Int)))) a0.1))) ++ [(IntKind.wrap IntKind.i64 ((IntKind.wrap IntKind.i64 (y100 - y101)) + y102))]) ++ (List.drop (Int.toNat (IntKind.wrap IntKind.i64 (a1.2 + (2 : Int)))) (List.take (List.length a0.1) a0.1))), (([] ++ (List.drop 0 (List.take (Int.toNat (IntKind.wrap IntKind.i64 (a1.2 - (1 : Int)))) a0.2))) ++ (List.drop (Int.toNat (IntKind.wrap IntKind.i64 (a1.2 + (1 : Int)))) (List.take (List.length a0.2) a0.2)))))
                     (none))
                    (none))
                   (none))
                  (none))
                 (none))
                (none))
               (none))
              (none))
             (none))
            (none))
           (none))
          (none))
         (none))
        (none))
       (none))
      (none))
     (none))
    (none)))
noncomputable def g_spec_l25Apply (a0 : ((List Int) × (List Int))) (a1 : (Int × Int)) : Option (((List Int) × (List Int))) := t_spec_l25Apply some a0 a1
theorem nat_spec_l25Apply {R : Type} (kx : ((List Int) × (List Int)) → Option R) (a0 : ((List Int) × (List Int))) (a1 : (Int × Int)) : t_spec_l25Apply kx a0 a1 = (g_spec_l25Apply a0 a1).bind kx := by
  unfold g_spec_l25Apply t_spec_l25Apply
  exact nat_cond (nat_cond (nat_cond (nat_cond (nat_cond (nat_cond (nat_cond (rfl) (rfl)) (rfl)) (rfl)) (rfl)) (rfl)) (rfl)) (nat_cond (nat_cond (nat_cond (nat_cond (nat_cond (nat_cond (nat_cond (nat_cond (nat_cond (rfl) (rfl)) (rfl)) (rfl)) (rfl)) (rfl)) (rfl)) (rfl)) (rfl)) (nat_cond (nat_cond (nat_cond (nat_cond (nat_bind fun _ => nat_bind fun _ => nat_bind fun _ => nat_cond (nat_cond (nat_cond (nat_cond (nat_cond (nat_cond (nat_cond (nat_cond (nat_cond (nat_cond (nat_cond (nat_cond (nat_cond (nat_cond (rfl) (rfl)) (rfl)) (rfl)) (rfl)) (rfl)) (rfl)) (rfl)) (rfl)) (rfl)) (rfl)) (rfl)) (rfl)) (rfl)) (rfl)) (rfl)) (rfl)) (rfl)) (rfl)))
abbrev as_spec_l25Apply : List AX := [.ptr (.pair (.slice (.int .i64)) (.slice (.int .i64))), .val true (.pair (.int .i64) (.int .i64))]
abbrev en_spec_l25Apply : ((List Int) × (List Int)) → AV × List CV := fun b => (.one ⟨true, [(.own (.int .i64) b.1), (.own (.int .i64) b.2)]⟩, [])
noncomputable abbrev k_spec_l25Apply : Contract := .fx as_spec_l25Apply (((List Int) × (List Int))) (fun z => g_spec_l25Apply z.1 z.2.1) en_spec_l25Apply
theorem r_spec_l25Apply (z : argsX as_spec_l25Apply) : runF (tab C0 T_spec_l25Apply) noHints 1 Try.f45 (lentOf as_spec_l25Apply) (xBoxes as_spec_l25Apply z) (xVals as_spec_l25Apply 0 z) K2 = t_spec_l25Apply (fun b => some (en_spec_l25Apply b)) z.1 z.2.1 := by kernel_rfl
theorem so_spec_l25Apply : Sound C0 45 k_spec_l25Apply :=
  Sound.fx a_spec_l25Apply mixed Try.func45 (by kernel_rfl) (by kernel_rfl) noHints 1 noHints_ok (fun z => (r_spec_l25Apply z).trans (nat_spec_l25Apply _ z.1 z.2.1))

/-! ### F54 spec.l25Reduce -/
noncomputable def T_spec_l25Reduce : List (FuncId × Contract) := [(53, k_spec_l25Own), (39, k_spec_l25Steps), (45, k_spec_l25Apply)]
theorem a_spec_l25Reduce : AllSound C0 T_spec_l25Reduce := .cons so_spec_l25Own (.cons so_spec_l25Steps (.cons so_spec_l25Apply (.nil)))
abbrev s_spec_l25Reduce_5 : LS := ⟨[(false, [(.ptr 3 0)]), (false, [(.own (.pair (.int .i64) (.int .i64)))]), (false, [(.ptr 5 0)]), (false, [(.own (.pair (.int .i64) (.int .i64)))])], [(false, [(.own (.int .i64)), (.own (.int .i64))]), (false, [(.own (.int .i64)), (.own (.int .i64))])], []⟩
abbrev e_spec_l25Reduce_5_0 : LS := ⟨[(false, [(.ptr 3 0)]), (false, [(.own (.pair (.int .i64) (.int .i64)))]), (false, [(.ptr 5 0)])], [(false, [(.own (.int .i64)), (.own (.int .i64))]), (false, [(.own (.int .i64)), (.own (.int .i64))])], []⟩
abbrev d_spec_l25Reduce_5_0 (v0 : List (Int × Int)) (v1 : List Int) (v2 : List Int) (v3 : List Int) (v4 : List Int) : e_spec_l25Reduce_5_0.T := ((((), ()), (v0, ()), ((), ()), ()), ((v1, v2, ()), (v3, v4, ()), ()), ())
abbrev x_spec_l25Reduce_5 : List (Ex × LS) := [(.exit 0, e_spec_l25Reduce_5_0)]
abbrev m_spec_l25Reduce_5 (x4 : List (Int × Int)) (x6 : List (Int × Int)) (b0_0 : List Int) (b0_1 : List Int) (b1_0 : List Int) (b1_1 : List Int) : s_spec_l25Reduce_5.T := ((((), ()), (x4, ()), ((), ()), (x6, ()), ()), ((b0_0, b0_1, ()), (b1_0, b1_1, ()), ()), ())
noncomputable def u_spec_l25Reduce_5 {R : Type} (nx : s_spec_l25Reduce_5.T → Option R) (hx : exH R x_spec_l25Reduce_5) (x4 : List (Int × Int)) (x6 : List (Int × Int)) (b0_0 : List Int) (b0_1 : List Int) (b1_0 : List Int) (b1_1 : List Int) : Option R :=
  cond (decide ((((List.length x6) : Nat) : Int) > (0 : Int)))
  (Option.bind (idx x6 (0 : Int)) fun y96 =>
   cond (decide ((((List.length x4) + (List.length [y96])) * 16) ≤ 70368744177664))
   (cond (decide (((List.length x4) + (List.length [y96])) ≤ 70368744177664))
    (Option.bind (idx x6 (0 : Int)) fun y97 =>
     Option.bind (g_spec_l25Apply (b1_0, b1_1) y97) fun y103 =>
     Option.bind (g_spec_l25Steps y103) fun y104 =>
     nx (m_spec_l25Reduce_5 (x4 ++ [y96]) y104 b0_0 b0_1 y103.1 y103.2))
    (none))
   (none))
  (hx.1 (d_spec_l25Reduce_5_0 x4 b0_0 b0_1 b1_0 b1_1))
noncomputable def t_spec_l25Reduce_5 {R : Type} (nx : s_spec_l25Reduce_5.T → Option R) (hx : exH R x_spec_l25Reduce_5) (z : s_spec_l25Reduce_5.T) : Option R := u_spec_l25Reduce_5 nx hx z.1.2.1.1 z.1.2.2.2.1.1 z.2.1.1.1 z.2.1.1.2.1 z.2.1.2.1.1 z.2.1.2.1.2.1
theorem nat_spec_l25Reduce_5 : Natural @t_spec_l25Reduce_5 := fun R nx hx z => by
  show u_spec_l25Reduce_5 nx hx z.1.2.1.1 z.1.2.2.2.1.1 z.2.1.1.1 z.2.1.1.2.1 z.2.1.2.1.1 z.2.1.2.1.2.1 = (u_spec_l25Reduce_5 (fun y => some (.inl y)) (hIn x_spec_l25Reduce_5 fun x => some (.inr x)) z.1.2.1.1 z.1.2.2.2.1.1 z.2.1.1.1 z.2.1.1.2.1 z.2.1.2.1.1 z.2.1.2.1.2.1).bind (goOn nx hx)
  unfold u_spec_l25Reduce_5
  exact nat_cond (nat_bind fun _ => nat_cond (nat_cond (nat_bind fun _ => nat_bind fun _ => nat_bind fun _ => rfl) (rfl)) (rfl)) (rfl)
noncomputable def w_spec_l25Reduce_5 : s_spec_l25Reduce_5.T → Option (exT x_spec_l25Reduce_5) := wOf @t_spec_l25Reduce_5
theorem wq_spec_l25Reduce_5 (x4 : List (Int × Int)) (x6 : List (Int × Int)) (b0_0 : List Int) (b0_1 : List Int) (b1_0 : List Int) (b1_1 : List Int) : w_spec_l25Reduce_5 (m_spec_l25Reduce_5 x4 x6 b0_0 b0_1 b1_0 b1_1) = u_spec_l25Reduce_5 w_spec_l25Reduce_5 (hIn x_spec_l25Reduce_5 some) x4 x6 b0_0 b0_1 b1_0 b1_1 := wOf_eq nat_spec_l25Reduce_5 _
def lh_spec_l25Reduce_5 : LoopHint := ⟨[3, 4, 5, 6], [3, 5], [3, 4, 5], [3, 5]⟩
noncomputable def h_spec_l25Reduce : Hints Rv := ⟨fun k => match k with | 5 => lh_spec_l25Reduce_5 | _ => ⟨[], [], [], []⟩, fun k => match k with | 5 => some (loopX s_spec_l25Reduce_5 x_spec_l25Reduce_5 w_spec_l25Reduce_5) | _ => none⟩
theorem st_spec_l25Reduce_5 (n : Nat) (z : s_spec_l25Reduce_5.T) (k : Ex → Live → Option Rv) : loopN ⟨27, 28⟩ lh_spec_l25Reduce_5 (den (tab C0 T_spec_l25Reduce) ⟨27, 28⟩ h_spec_l25Reduce 1 (loopOf Try.f54 4)) (n + 1) (s_spec_l25Reduce_5.enc z) k =
    t_spec_l25Reduce_5 (fun y => loopN ⟨27, 28⟩ lh_spec_l25Reduce_5 (den (tab C0 T_spec_l25Reduce) ⟨27, 28⟩ h_spec_l25Reduce 1 (loopOf Try.f54 4)) n (s_spec_l25Reduce_5.enc y) k) (hK k x_spec_l25Reduce_5) z := by kernel_rfl
theorem hs_spec_l25Reduce : HintsOk (tab C0 T_spec_l25Reduce) ⟨27, 28⟩ h_spec_l25Reduce 1 (loops (codeOf Try.f54)) := by
  have hl : loops (codeOf Try.f54) = [loopOf Try.f54 4] := by kernel_rfl
  rw [hl]
  exact HintsOk.cons (n := 5) (lh := lh_spec_l25Reduce_5) (S := loopX s_spec_l25Reduce_5 x_spec_l25Reduce_5 w_spec_l25Reduce_5) (by kernel_rfl) rfl rfl (loopX_ok nat_spec_l25Reduce_5 st_spec_l25Reduce_5)
    (HintsOk.nil)
noncomputable def t_spec_l25Reduce {R : Type} (kx : (List (Int × Int)) × ((List Int) × (List Int)) → Option R) (a0 : ((List Int) × (List Int))) : Option R :=
  Option.bind (g_spec_l25Own a0) fun y52 =>
  Option.bind (g_spec_l25Steps y52) fun y89 =>
  Option.bind (w_spec_l25Reduce_5 (m_spec_l25Reduce_5 [] y89 [] [] y52.1 y52.2)) (exC x_spec_l25Reduce_5
  (fun e105 =>
   kx ((e105.1.2.1.1 : List (Int × Int)), ((e105.2.1.2.1.1 : List Int), (e105.2.1.2.1.2.1 : List Int))), ()))
noncomputable def g_spec_l25Reduce (a0 : ((List Int) × (List Int))) : Option ((List (Int × Int)) × ((List Int) × (List Int))) := t_spec_l25Reduce some a0
theorem nat_spec_l25Reduce {R : Type} (kx : (List (Int × Int)) × ((List Int) × (List Int)) → Option R) (a0 : ((List Int) × (List Int))) : t_spec_l25Reduce kx a0 = (g_spec_l25Reduce a0).bind kx := by
  unfold g_spec_l25Reduce t_spec_l25Reduce
  exact nat_bind fun _ => nat_bind fun _ => nat_exC ⟨fun _ => rfl, trivial⟩
abbrev as_spec_l25Reduce : List AX := [.ptr (.pair (.slice (.int .i64)) (.slice (.int .i64)))]
abbrev en_spec_l25Reduce : (List (Int × Int)) × ((List Int) × (List Int)) → AV × List CV := fun b => (.tup [⟨false, [(.own (.pair (.int .i64) (.int .i64)) b.1)]⟩, ⟨true, [(.own (.int .i64) b.2.1), (.own (.int .i64) b.2.2)]⟩], [])
noncomputable abbrev k_spec_l25Reduce : Contract := .fx as_spec_l25Reduce ((List (Int × Int)) × ((List Int) × (List Int))) (fun z => g_spec_l25Reduce z.1) en_spec_l25Reduce
theorem r_spec_l25Reduce (z : argsX as_spec_l25Reduce) : runF (tab C0 T_spec_l25Reduce) h_spec_l25Reduce 1 Try.f54 (lentOf as_spec_l25Reduce) (xBoxes as_spec_l25Reduce z) (xVals as_spec_l25Reduce 0 z) K2 = t_spec_l25Reduce (fun b => some (en_spec_l25Reduce b)) z.1 := by kernel_rfl
theorem so_spec_l25Reduce : Sound C0 54 k_spec_l25Reduce :=
  Sound.fx a_spec_l25Reduce mixed Try.func54 (by kernel_rfl) (by kernel_rfl) h_spec_l25Reduce 1 hs_spec_l25Reduce (fun z => (r_spec_l25Reduce z).trans (nat_spec_l25Reduce _ z.1))

/-! ### F50 spec.l25Flat -/
noncomputable def T_spec_l25Flat : List (FuncId × Contract) := [(54, k_spec_l25Reduce)]
theorem a_spec_l25Flat : AllSound C0 T_spec_l25Flat := .cons so_spec_l25Reduce (.nil)
noncomputable def t_spec_l25Flat {R : Type} (kx : Bool → Option R) (a0 : ((List Int) × (List Int))) : Option R :=
  Option.bind (g_spec_l25Reduce a0) fun y111 =>
  kx ((((List.length y111.2.1) : Nat) : Int) == (1 : Int))
noncomputable def g_spec_l25Flat (a0 : ((List Int) × (List Int))) : Option (Bool) := t_spec_l25Flat some a0
theorem nat_spec_l25Flat {R : Type} (kx : Bool → Option R) (a0 : ((List Int) × (List Int))) : t_spec_l25Flat kx a0 = (g_spec_l25Flat a0).bind kx := by
  unfold g_spec_l25Flat t_spec_l25Flat
  exact nat_bind fun _ => rfl
abbrev as_spec_l25Flat : List AX := [.ptr (.pair (.slice (.int .i64)) (.slice (.int .i64)))]
abbrev en_spec_l25Flat : Bool → AV × List CV := fun b => (.one ⟨false, [(.v (.bool b))]⟩, [])
noncomputable abbrev k_spec_l25Flat : Contract := .fx as_spec_l25Flat (Bool) (fun z => g_spec_l25Flat z.1) en_spec_l25Flat
theorem r_spec_l25Flat (z : argsX as_spec_l25Flat) : runF (tab C0 T_spec_l25Flat) noHints 1 Try.f50 (lentOf as_spec_l25Flat) (xBoxes as_spec_l25Flat z) (xVals as_spec_l25Flat 0 z) K2 = t_spec_l25Flat (fun b => some (en_spec_l25Flat b)) z.1 := by kernel_rfl
theorem so_spec_l25Flat : Sound C0 50 k_spec_l25Flat :=
  Sound.fx a_spec_l25Flat mixed Try.func50 (by kernel_rfl) (by kernel_rfl) noHints 1 noHints_ok (fun z => (r_spec_l25Flat z).trans (nat_spec_l25Flat _ z.1))

/-! ### F23 spec.CountFlat -/
noncomputable def T_spec_CountFlat : List (FuncId × Contract) := [(49, k_spec_l25Sizes), (50, k_spec_l25Flat)]
theorem a_spec_CountFlat : AllSound C0 T_spec_CountFlat := .cons so_spec_l25Sizes (.cons so_spec_l25Flat (.nil))
abbrev s_spec_CountFlat_11 : LS := ⟨[(false, [(.sl (.int .i64))]), (false, [(.int .i64)]), (false, [(.int .i64)]), (false, [(.int .i64)]), (false, [(.ptr 7 0)]), (false, [(.int .i64)])], [(false, [(.sl (.int .i64)), (.own (.int .i64))])], []⟩
abbrev e_spec_CountFlat_11_0 : LS := ⟨[(false, [(.sl (.int .i64))]), (false, [(.int .i64)]), (false, [(.int .i64)]), (false, [(.int .i64)]), (false, [(.ptr 7 0)])], [(false, [(.sl (.int .i64)), (.own (.int .i64))])], []⟩
abbrev d_spec_CountFlat_11_0 (v0 : List Int) (v1 : Int) (v2 : Int) (v3 : Int) (v4 : List Int) (v5 : List Int) : e_spec_CountFlat_11_0.T := (((v0, ()), (v1, ()), (v2, ()), (v3, ()), ((), ()), ()), ((v4, v5, ()), ()), ())
abbrev x_spec_CountFlat_11 : List (Ex × LS) := [(.exit 2, e_spec_CountFlat_11_0)]
abbrev m_spec_CountFlat_11 (x0 : List Int) (x4 : Int) (x5 : Int) (x6 : Int) (x8 : Int) (b0_0 : List Int) (b0_1 : List Int) : s_spec_CountFlat_11.T := (((x0, ()), (x4, ()), (x5, ()), (x6, ()), ((), ()), (x8, ()), ()), ((b0_0, b0_1, ()), ()), ())
noncomputable def u_spec_CountFlat_11 {R : Type} (nx : s_spec_CountFlat_11.T → Option R) (hx : exH R x_spec_CountFlat_11) (x0 : List Int) (x4 : Int) (x5 : Int) (x6 : Int) (x8 : Int) (b0_0 : List Int) (b0_1 : List Int) : Option R :=
  cond (decide (x8 < (IntKind.wrap IntKind.i64 (x4 - (1 : Int)))))
  (cond (decide ((IntKind.wrap IntKind.u64 x8) < (0 : Int)))
   (none)
   (cond (decide ((((List.length b0_1) + (List.length [(IntKind.wrap IntKind.i64 ((2 : Int) + (IntKind.wrap IntKind.i64 (((BitVec.toNat ((BitVec.ofInt 64 (Int.fdiv x6 ((2 : Int) ^ (Min.min (Int.toNat (IntKind.wrap IntKind.u64 x8)) 64)))) &&& (BitVec.ofInt 64 (1 : Int)))) : Nat) : Int))))])) * 8) ≤ 70368744177664))
    (cond (decide (((List.length b0_1) + (List.length [(IntKind.wrap IntKind.i64 ((2 : Int) + (IntKind.wrap IntKind.i64 (((BitVec.toNat ((BitVec.ofInt 64 (Int.fdiv x6 ((2 : Int) ^ (Min.min (Int.toNat (IntKind.wrap IntKind.u64 x8)) 64)))) &&& (BitVec.ofInt 64 (1 : Int)))) : Nat) : Int))))])) ≤ 70368744177664))
     (nx (m_spec_CountFlat_11 x0 x4 x5 x6 (IntKind.wrap IntKind.i64 (x8 + (1 : Int))) b0_0 (b0_1 ++ [(IntKind.wrap IntKind.i64 ((2 : Int) + (IntKind.wrap IntKind.i64 (((BitVec.toNat ((BitVec.ofInt 64 (Int.fdiv x6 ((2 : Int) ^ (Min.min (Int.toNat (IntKind.wrap IntKind.u64 x8)) 64)))) &&& (BitVec.ofInt 64 (1 : Int)))) : Nat) : Int))))])))
     (none))
    (none)))
  (hx.1 (d_spec_CountFlat_11_0 x0 x4 x5 x6 b0_0 b0_1))
noncomputable def t_spec_CountFlat_11 {R : Type} (nx : s_spec_CountFlat_11.T → Option R) (hx : exH R x_spec_CountFlat_11) (z : s_spec_CountFlat_11.T) : Option R := u_spec_CountFlat_11 nx hx z.1.1.1 z.1.2.1.1 z.1.2.2.1.1 z.1.2.2.2.1.1 z.1.2.2.2.2.2.1.1 z.2.1.1.1 z.2.1.1.2.1
theorem nat_spec_CountFlat_11 : Natural @t_spec_CountFlat_11 := fun R nx hx z => by
  show u_spec_CountFlat_11 nx hx z.1.1.1 z.1.2.1.1 z.1.2.2.1.1 z.1.2.2.2.1.1 z.1.2.2.2.2.2.1.1 z.2.1.1.1 z.2.1.1.2.1 = (u_spec_CountFlat_11 (fun y => some (.inl y)) (hIn x_spec_CountFlat_11 fun x => some (.inr x)) z.1.1.1 z.1.2.1.1 z.1.2.2.1.1 z.1.2.2.2.1.1 z.1.2.2.2.2.2.1.1 z.2.1.1.1 z.2.1.1.2.1).bind (goOn nx hx)
  unfold u_spec_CountFlat_11
  exact nat_cond (nat_cond (rfl) (nat_cond (nat_cond (rfl) (rfl)) (rfl))) (rfl)
noncomputable def w_spec_CountFlat_11 : s_spec_CountFlat_11.T → Option (exT x_spec_CountFlat_11) := wOf @t_spec_CountFlat_11
theorem wq_spec_CountFlat_11 (x0 : List Int) (x4 : Int) (x5 : Int) (x6 : Int) (x8 : Int) (b0_0 : List Int) (b0_1 : List Int) : w_spec_CountFlat_11 (m_spec_CountFlat_11 x0 x4 x5 x6 x8 b0_0 b0_1) = u_spec_CountFlat_11 w_spec_CountFlat_11 (hIn x_spec_CountFlat_11 some) x0 x4 x5 x6 x8 b0_0 b0_1 := wOf_eq nat_spec_CountFlat_11 _
def lh_spec_CountFlat_11 : LoopHint := ⟨[0, 4, 5, 6, 7, 8], [7], [0, 4, 5, 6, 7], [7]⟩
abbrev s_spec_CountFlat_7 : LS := ⟨[(false, [(.sl (.int .i64))]), (false, [(.int .i64)]), (false, [(.int .i64)]), (false, [(.int .i64)])], [], []⟩
abbrev e_spec_CountFlat_7_0 : LS := ⟨[(false, [(.int .i64)])], [], []⟩
abbrev d_spec_CountFlat_7_0 (v0 : Int) : e_spec_CountFlat_7_0.T := (((v0, ()), ()), (), ())
abbrev x_spec_CountFlat_7 : List (Ex × LS) := [(.exit 0, e_spec_CountFlat_7_0)]
abbrev m_spec_CountFlat_7 (x0 : List Int) (x4 : Int) (x5 : Int) (x6 : Int) : s_spec_CountFlat_7.T := (((x0, ()), (x4, ()), (x5, ()), (x6, ()), ()), (), ())
noncomputable def u_spec_CountFlat_7 {R : Type} (nx : s_spec_CountFlat_7.T → Option R) (hx : exH R x_spec_CountFlat_7) (x0 : List Int) (x4 : Int) (x5 : Int) (x6 : Int) : Option R :=
  cond (decide ((IntKind.wrap IntKind.u64 (IntKind.wrap IntKind.i64 (x4 - (1 : Int)))) < (0 : Int)))
  (none)
  (cond (decide (x6 < (IntKind.wrap IntKind.i64 ((1 : Int) * ((2 : Int) ^ (Min.min (Int.toNat (IntKind.wrap IntKind.u64 (IntKind.wrap IntKind.i64 (x4 - (1 : Int))))) 64))))))
   (Option.bind (w_spec_CountFlat_11 (m_spec_CountFlat_11 x0 x4 x5 x6 (0 : Int) x0 [])) (exC x_spec_CountFlat_11
    (fun e39 =>
     Option.bind (g_spec_l25Flat ((e39.2.1.1.1 : List Int), (e39.2.1.1.2.1 : List Int))) fun y112 =>
     cond y112
     (nx (m_spec_CountFlat_7 (e39.1.1.1 : List Int) (e39.1.2.1.1 : Int) (IntKind.wrap IntKind.i64 ((e39.1.2.2.1.1 : Int) + (1 : Int))) (IntKind.wrap IntKind.i64 ((e39.1.2.2.2.1.1 : Int) + (1 : Int)))))
     (nx (m_spec_CountFlat_7 (e39.1.1.1 : List Int) (e39.1.2.1.1 : Int) (e39.1.2.2.1.1 : Int) (IntKind.wrap IntKind.i64 ((e39.1.2.2.2.1.1 : Int) + (1 : Int))))), ())))
   (hx.1 (d_spec_CountFlat_7_0 x5)))
noncomputable def t_spec_CountFlat_7 {R : Type} (nx : s_spec_CountFlat_7.T → Option R) (hx : exH R x_spec_CountFlat_7) (z : s_spec_CountFlat_7.T) : Option R := u_spec_CountFlat_7 nx hx z.1.1.1 z.1.2.1.1 z.1.2.2.1.1 z.1.2.2.2.1.1
theorem nat_spec_CountFlat_7 : Natural @t_spec_CountFlat_7 := fun R nx hx z => by
  show u_spec_CountFlat_7 nx hx z.1.1.1 z.1.2.1.1 z.1.2.2.1.1 z.1.2.2.2.1.1 = (u_spec_CountFlat_7 (fun y => some (.inl y)) (hIn x_spec_CountFlat_7 fun x => some (.inr x)) z.1.1.1 z.1.2.1.1 z.1.2.2.1.1 z.1.2.2.2.1.1).bind (goOn nx hx)
  unfold u_spec_CountFlat_7
  exact nat_cond (rfl) (nat_cond (nat_exC ⟨fun _ => nat_bind fun _ => nat_cond (rfl) (rfl), trivial⟩) (rfl))
noncomputable def w_spec_CountFlat_7 : s_spec_CountFlat_7.T → Option (exT x_spec_CountFlat_7) := wOf @t_spec_CountFlat_7
theorem wq_spec_CountFlat_7 (x0 : List Int) (x4 : Int) (x5 : Int) (x6 : Int) : w_spec_CountFlat_7 (m_spec_CountFlat_7 x0 x4 x5 x6) = u_spec_CountFlat_7 w_spec_CountFlat_7 (hIn x_spec_CountFlat_7 some) x0 x4 x5 x6 := wOf_eq nat_spec_CountFlat_7 _
def lh_spec_CountFlat_7 : LoopHint := ⟨[0, 4, 5, 6], [], [5], []⟩
noncomputable def h_spec_CountFlat : Hints Rv := ⟨fun k => match k with | 11 => lh_spec_CountFlat_11 | 7 => lh_spec_CountFlat_7 | _ => ⟨[], [], [], []⟩, fun k => match k with | 11 => some (loopX s_spec_CountFlat_11 x_spec_CountFlat_11 w_spec_CountFlat_11) | 7 => some (loopX s_spec_CountFlat_7 x_spec_CountFlat_7 w_spec_CountFlat_7) | _ => none⟩
theorem st_spec_CountFlat_11 (n : Nat) (z : s_spec_CountFlat_11.T) (k : Ex → Live → Option Rv) : loopN ⟨45, 45⟩ lh_spec_CountFlat_11 (den (tab C0 T_spec_CountFlat) ⟨45, 45⟩ h_spec_CountFlat 1 (loopOf Try.f23 10)) (n + 1) (s_spec_CountFlat_11.enc z) k =
    t_spec_CountFlat_11 (fun y => loopN ⟨45, 45⟩ lh_spec_CountFlat_11 (den (tab C0 T_spec_CountFlat) ⟨45, 45⟩ h_spec_CountFlat 1 (loopOf Try.f23 10)) n (s_spec_CountFlat_11.enc y) k) (hK k x_spec_CountFlat_11) z := by kernel_rfl
theorem st_spec_CountFlat_7 (n : Nat) (z : s_spec_CountFlat_7.T) (k : Ex → Live → Option Rv) : loopN ⟨45, 45⟩ lh_spec_CountFlat_7 (den (tab C0 T_spec_CountFlat) ⟨45, 45⟩ h_spec_CountFlat 1 (loopOf Try.f23 6)) (n + 1) (s_spec_CountFlat_7.enc z) k =
    t_spec_CountFlat_7 (fun y => loopN ⟨45, 45⟩ lh_spec_CountFlat_7 (den (tab C0 T_spec_CountFlat) ⟨45, 45⟩ h_spec_CountFlat 1 (loopOf Try.f23 6)) n (s_spec_CountFlat_7.enc y) k) (hK k x_spec_CountFlat_7) z := by kernel_rfl
theorem hs_spec_CountFlat : HintsOk (tab C0 T_spec_CountFlat) ⟨45, 45⟩ h_spec_CountFlat 1 (loops (codeOf Try.f23)) := by
  have hl : loops (codeOf Try.f23) = [loopOf Try.f23 6, loopOf Try.f23 10] := by kernel_rfl
  rw [hl]
  exact HintsOk.cons (n := 7) (lh := lh_spec_CountFlat_7) (S := loopX s_spec_CountFlat_7 x_spec_CountFlat_7 w_spec_CountFlat_7) (by kernel_rfl) rfl rfl (loopX_ok nat_spec_CountFlat_7 st_spec_CountFlat_7)
    (HintsOk.cons (n := 11) (lh := lh_spec_CountFlat_11) (S := loopX s_spec_CountFlat_11 x_spec_CountFlat_11 w_spec_CountFlat_11) (by kernel_rfl) rfl rfl (loopX_ok nat_spec_CountFlat_11 st_spec_CountFlat_11)
    (HintsOk.nil))
noncomputable def t_spec_CountFlat {R : Type} (kx : Int × Int → Option R) (a0 : (List Int)) : Option R :=
  Option.bind (g_spec_l25Sizes a0) fun y27 =>
  cond (!y27)
  (kx ((0 : Int), (1 : Int)))
  (Option.bind (w_spec_CountFlat_7 (m_spec_CountFlat_7 a0 (((List.length a0) : Nat) : Int) (0 : Int) (0 : Int))) (exC x_spec_CountFlat_7
   (fun e113 =>
    kx ((e113.1.1.1 : Int), (0 : Int)), ())))
noncomputable def g_spec_CountFlat (a0 : (List Int)) : Option (Int × Int) := t_spec_CountFlat some a0
theorem nat_spec_CountFlat {R : Type} (kx : Int × Int → Option R) (a0 : (List Int)) : t_spec_CountFlat kx a0 = (g_spec_CountFlat a0).bind kx := by
  unfold g_spec_CountFlat t_spec_CountFlat
  exact nat_bind fun _ => nat_cond (rfl) (nat_exC ⟨fun _ => rfl, trivial⟩)
abbrev as_spec_CountFlat : List AX := [.val false (.slice (.int .i64))]
abbrev en_spec_CountFlat : Int × Int → AV × List CV := fun b => (.tup [⟨false, [(.v (.int .i64 b.1))]⟩, ⟨false, [(.v (.int .i64 b.2))]⟩], [])
noncomputable abbrev k_spec_CountFlat : Contract := .fx as_spec_CountFlat (Int × Int) (fun z => g_spec_CountFlat z.1) en_spec_CountFlat
theorem r_spec_CountFlat (z : argsX as_spec_CountFlat) : runF (tab C0 T_spec_CountFlat) h_spec_CountFlat 1 Try.f23 (lentOf as_spec_CountFlat) (xBoxes as_spec_CountFlat z) (xVals as_spec_CountFlat 0 z) K2 = t_spec_CountFlat (fun b => some (en_spec_CountFlat b)) z.1 := by kernel_rfl
theorem so_spec_CountFlat : Sound C0 23 k_spec_CountFlat :=
  Sound.fx a_spec_CountFlat mixed Try.func23 (by kernel_rfl) (by kernel_rfl) h_spec_CountFlat 1 hs_spec_CountFlat (fun z => (r_spec_CountFlat z).trans (nat_spec_CountFlat _ z.1))

/-! ### F63 impl.length[int64] -/
noncomputable def T_impl_length_int64 : List (FuncId × Contract) := []
theorem a_impl_length_int64 : AllSound C0 T_impl_length_int64 := .nil
noncomputable def t_impl_length_int64 {R : Type} (kx : Int → Option R) (a0 : (List Int)) : Option R :=
  kx (((List.length a0) : Nat) : Int)
noncomputable def g_impl_length_int64 (a0 : (List Int)) : Option (Int) := t_impl_length_int64 some a0
theorem nat_impl_length_int64 {R : Type} (kx : Int → Option R) (a0 : (List Int)) : t_impl_length_int64 kx a0 = (g_impl_length_int64 a0).bind kx := by
  unfold g_impl_length_int64 t_impl_length_int64
  exact rfl
abbrev as_impl_length_int64 : List AX := [.val false (.slice (.int .i64))]
abbrev en_impl_length_int64 : Int → AV × List CV := fun b => (.one ⟨false, [(.v (.int .i64 b))]⟩, [])
noncomputable abbrev k_impl_length_int64 : Contract := .fx as_impl_length_int64 (Int) (fun z => g_impl_length_int64 z.1) en_impl_length_int64
theorem r_impl_length_int64 (z : argsX as_impl_length_int64) : runF (tab C0 T_impl_length_int64) noHints 1 Try.f63 (lentOf as_impl_length_int64) (xBoxes as_impl_length_int64 z) (xVals as_impl_length_int64 0 z) K2 = t_impl_length_int64 (fun b => some (en_impl_length_int64 b)) z.1 := by kernel_rfl
theorem so_impl_length_int64 : Sound C0 63 k_impl_length_int64 :=
  Sound.fx a_impl_length_int64 mixed Try.func63 (by kernel_rfl) (by kernel_rfl) noHints 1 noHints_ok (fun z => (r_impl_length_int64 z).trans (nat_impl_length_int64 _ z.1))

/-! ### F62 impl.within -/
noncomputable def T_impl_within : List (FuncId × Contract) := []
theorem a_impl_within : AllSound C0 T_impl_within := .nil
noncomputable def t_impl_within {R : Type} (kx : Bool → Option R) (a0 : Int) (a1 : Int) (a2 : Int) : Option R :=
  cond (decide (a0 ≥ a1))
  (kx (decide (a0 ≤ a2)))
  (kx Bool.false)
noncomputable def g_impl_within (a0 : Int) (a1 : Int) (a2 : Int) : Option (Bool) := t_impl_within some a0 a1 a2
theorem nat_impl_within {R : Type} (kx : Bool → Option R) (a0 : Int) (a1 : Int) (a2 : Int) : t_impl_within kx a0 a1 a2 = (g_impl_within a0 a1 a2).bind kx := by
  unfold g_impl_within t_impl_within
  exact nat_cond (rfl) (rfl)
abbrev as_impl_within : List AX := [.val false (.int .i64), .val false (.int .i64), .val false (.int .i64)]
abbrev en_impl_within : Bool → AV × List CV := fun b => (.one ⟨false, [(.v (.bool b))]⟩, [])
noncomputable abbrev k_impl_within : Contract := .fx as_impl_within (Bool) (fun z => g_impl_within z.1 z.2.1 z.2.2.1) en_impl_within
theorem r_impl_within (z : argsX as_impl_within) : runF (tab C0 T_impl_within) noHints 1 Try.f62 (lentOf as_impl_within) (xBoxes as_impl_within z) (xVals as_impl_within 0 z) K2 = t_impl_within (fun b => some (en_impl_within b)) z.1 z.2.1 z.2.2.1 := by kernel_rfl
theorem so_impl_within : Sound C0 62 k_impl_within :=
  Sound.fx a_impl_within mixed Try.func62 (by kernel_rfl) (by kernel_rfl) noHints 1 noHints_ok (fun z => (r_impl_within z).trans (nat_impl_within _ z.1 z.2.1 z.2.2.1))

/-! ### F69 impl.areLengths$1 -/
noncomputable def T_impl_areLengths_1 : List (FuncId × Contract) := [(62, k_impl_within)]
theorem a_impl_areLengths_1 : AllSound C0 T_impl_areLengths_1 := .cons so_impl_within (.nil)
noncomputable def t_impl_areLengths_1 {R : Type} (kx : Bool → Option R) (a0 : Int) : Option R :=
  Option.bind (g_impl_within a0 (1 : Int) (1000 : Int)) fun y132 =>
  kx (!y132)
noncomputable def g_impl_areLengths_1 (a0 : Int) : Option (Bool) := t_impl_areLengths_1 some a0
theorem nat_impl_areLengths_1 {R : Type} (kx : Bool → Option R) (a0 : Int) : t_impl_areLengths_1 kx a0 = (g_impl_areLengths_1 a0).bind kx := by
  unfold g_impl_areLengths_1 t_impl_areLengths_1
  exact nat_bind fun _ => rfl
abbrev as_impl_areLengths_1 : List AX := [.val false (.int .i64)]
abbrev en_impl_areLengths_1 : Bool → AV × List CV := fun b => (.one ⟨false, [(.v (.bool b))]⟩, [])
noncomputable abbrev k_impl_areLengths_1 : Contract := .fx as_impl_areLengths_1 (Bool) (fun z => g_impl_areLengths_1 z.1) en_impl_areLengths_1
theorem r_impl_areLengths_1 (z : argsX as_impl_areLengths_1) : runF (tab C0 T_impl_areLengths_1) noHints 1 Try.f69 (lentOf as_impl_areLengths_1) (xBoxes as_impl_areLengths_1 z) (xVals as_impl_areLengths_1 0 z) K2 = t_impl_areLengths_1 (fun b => some (en_impl_areLengths_1 b)) z.1 := by kernel_rfl
theorem so_impl_areLengths_1 : Sound C0 69 k_impl_areLengths_1 :=
  Sound.fx a_impl_areLengths_1 mixed Try.func69 (by kernel_rfl) (by kernel_rfl) noHints 1 noHints_ok (fun z => (r_impl_areLengths_1 z).trans (nat_impl_areLengths_1 _ z.1))

/-! ### F78 slices.IndexFunc[[]int64,int64] -/
noncomputable def T_slices_IndexFunc_Sint64_int64__impl_areLengths_1 : List (FuncId × Contract) := [(69, k_impl_areLengths_1)]
theorem a_slices_IndexFunc_Sint64_int64__impl_areLengths_1 : AllSound C0 T_slices_IndexFunc_Sint64_int64__impl_areLengths_1 := .cons so_impl_areLengths_1 (.nil)
abbrev s_slices_IndexFunc_Sint64_int64__impl_areLengths_1_3 : LS := ⟨[(false, [(.sl (.int .i64))]), (false, [(.fn 69 [])]), (false, [(.int .i64)]), (false, [(.int .i64)])], [], []⟩
abbrev e_slices_IndexFunc_Sint64_int64__impl_areLengths_1_3_0 : LS := ⟨[(false, [(.int .i64)])], [], []⟩
abbrev d_slices_IndexFunc_Sint64_int64__impl_areLengths_1_3_0 (v0 : Int) : e_slices_IndexFunc_Sint64_int64__impl_areLengths_1_3_0.T := (((v0, ()), ()), (), ())
abbrev e_slices_IndexFunc_Sint64_int64__impl_areLengths_1_3_1 : LS := ⟨[(false, [.undef])], [], []⟩
abbrev d_slices_IndexFunc_Sint64_int64__impl_areLengths_1_3_1 : e_slices_IndexFunc_Sint64_int64__impl_areLengths_1_3_1.T := ((((), ()), ()), (), ())
abbrev x_slices_IndexFunc_Sint64_int64__impl_areLengths_1_3 : List (Ex × LS) := [(.ret, e_slices_IndexFunc_Sint64_int64__impl_areLengths_1_3_0), (.exit 0, e_slices_IndexFunc_Sint64_int64__impl_areLengths_1_3_1)]
abbrev m_slices_IndexFunc_Sint64_int64__impl_areLengths_1_3 (x0 : List Int) (x7 : Int) (x8 : Int) : s_slices_IndexFunc_Sint64_int64__impl_areLengths_1_3.T := (((x0, ()), ((), ()), (x7, ()), (x8, ()), ()), (), ())
noncomputable def u_slices_IndexFunc_Sint64_int64__impl_areLengths_1_3 {R : Type} (nx : s_slices_IndexFunc_Sint64_int64__impl_areLengths_1_3.T → Option R) (hx : exH R x_slices_IndexFunc_Sint64_int64__impl_areLengths_1_3) (x0 : List Int) (x7 : Int) (x8 : Int) : Option R :=
  cond (decide (x8 < x7))
  (Option.bind (idx x0 x8) fun y130 =>
   Option.bind (g_impl_areLengths_1 y130) fun y133 =>
   cond y133
   (hx.1 (d_slices_IndexFunc_Sint64_int64__impl_areLengths_1_3_0 x8))
   (nx (m_slices_IndexFunc_Sint64_int64__impl_areLengths_1_3 x0 x7 (IntKind.wrap IntKind.i64 (x8 + (1 : Int))))))
  (hx.2.1 (d_slices_IndexFunc_Sint64_int64__impl_areLengths_1_3_1))
noncomputable def t_slices_IndexFunc_Sint64_int64__impl_areLengths_1_3 {R : Type} (nx : s_slices_IndexFunc_Sint64_int64__impl_areLengths_1_3.T → Option R) (hx : exH R x_slices_IndexFunc_Sint64_int64__impl_areLengths_1_3) (z : s_slices_IndexFunc_Sint64_int64__impl_areLengths_1_3.T) : Option R := u_slices_IndexFunc_Sint64_int64__impl_areLengths_1_3 nx hx z.1.1.1 z.1.2.2.1.1 z.1.2.2.2.1.1
theorem nat_slices_IndexFunc_Sint64_int64__impl_areLengths_1_3 : Natural @t_slices_IndexFunc_Sint64_int64__impl_areLengths_1_3 := fun R nx hx z => by
  show u_slices_IndexFunc_Sint64_int64__impl_areLengths_1_3 nx hx z.1.1.1 z.1.2.2.1.1 z.1.2.2.2.1.1 = (u_slices_IndexFunc_Sint64_int64__impl_areLengths_1_3 (fun y => some (.inl y)) (hIn x_slices_IndexFunc_Sint64_int64__impl_areLengths_1_3 fun x => some (.inr x)) z.1.1.1 z.1.2.2.1.1 z.1.2.2.2.1.1).bind (goOn nx hx)
  unfold u_slices_IndexFunc_Sint64_int64__impl_areLengths_1_3
  exact nat_cond (nat_bind fun _ => nat_bind fun _ => nat_cond (rfl) (rfl)) (rfl)
noncomputable def w_slices_IndexFunc_Sint64_int64__impl_areLengths_1_3 : s_slices_IndexFunc_Sint64_int64__impl_areLengths_1_3.T → Option (exT x_slices_IndexFunc_Sint64_int64__impl_areLengths_1_3) := wOf @t_slices_IndexFunc_Sint64_int64__impl_areLengths_1_3
theorem wq_slices_IndexFunc_Sint64_int64__impl_areLengths_1_3 (x0 : List Int) (x7 : Int) (x8 : Int) : w_slices_IndexFunc_Sint64_int64__impl_areLengths_1_3 (m_slices_IndexFunc_Sint64_int64__impl_areLengths_1_3 x0 x7 x8) = u_slices_IndexFunc_Sint64_int64__impl_areLengths_1_3 w_slices_IndexFunc_Sint64_int64__impl_areLengths_1_3 (hIn x_slices_IndexFunc_Sint64_int64__impl_areLengths_1_3 some) x0 x7 x8 := wOf_eq nat_slices_IndexFunc_Sint64_int64__impl_areLengths_1_3 _
def lh_slices_IndexFunc_Sint64_int64__impl_areLengths_1_3 : LoopHint := ⟨[0, 1, 7, 8], [], [4], []⟩
noncomputable def h_slices_IndexFunc_Sint64_int64__impl_areLengths_1 : Hints Rv := ⟨fun k => match k with | 3 => lh_slices_IndexFunc_Sint64_int64__impl_areLengths_1_3 | _ => ⟨[], [], [], []⟩, fun k => match k with | 3 => some (loopX s_slices_IndexFunc_Sint64_int64__impl_areLengths_1_3 x_slices_IndexFunc_Sint64_int64__impl_areLengths_1_3 w_slices_IndexFunc_Sint64_int64__impl_areLengths_1_3) | _ => none⟩
theorem st_slices_IndexFunc_Sint64_int64__impl_areLengths_1_3 (n : Nat) (z : s_slices_IndexFunc_Sint64_int64__impl_areLengths_1_3.T) (k : Ex → Live → Option Rv) : loopN ⟨19, 19⟩ lh_slices_IndexFunc_Sint64_int64__impl_areLengths_1_3 (den (tab C0 T_slices_IndexFunc_Sint64_int64__impl_areLengths_1) ⟨19, 19⟩ h_slices_IndexFunc_Sint64_int64__impl_areLengths_1 1 (loopOf Try.f78 2)) (n + 1) (s_slices_IndexFunc_Sint64_int64__impl_areLengths_1_3.enc z) k =
    t_slices_IndexFunc_Sint64_int64__impl_areLengths_1_3 (fun y => loopN ⟨19, 19⟩ lh_slices_IndexFunc_Sint64_int64__impl_areLengths_1_3 (den (tab C0 T_slices_IndexFunc_Sint64_int64__impl_areLengths_1) ⟨19, 19⟩ h_slices_IndexFunc_Sint64_int64__impl_areLengths_1 1 (loopOf Try.f78 2)) n (s_slices_IndexFunc_Sint64_int64__impl_areLengths_1_3.enc y) k) (hK k x_slices_IndexFunc_Sint64_int64__impl_areLengths_1_3) z := by kernel_rfl
theorem hs_slices_IndexFunc_Sint64_int64__impl_areLengths_1 : HintsOk (tab C0 T_slices_IndexFunc_Sint64_int64__impl_areLengths_1) ⟨19, 19⟩ h_slices_IndexFunc_Sint64_int64__impl_areLengths_1 1 (loops (codeOf Try.f78)) := by
  have hl : loops (codeOf Try.f78) = [loopOf Try.f78 2] := by kernel_rfl
  rw [hl]
  exact HintsOk.cons (n := 3) (lh := lh_slices_IndexFunc_Sint64_int64__impl_areLengths_1_3) (S := loopX s_slices_IndexFunc_Sint64_int64__impl_areLengths_1_3 x_slices_IndexFunc_Sint64_int64__impl_areLengths_1_3 w_slices_IndexFunc_Sint64_int64__impl_areLengths_1_3) (by kernel_rfl) rfl rfl (loopX_ok nat_slices_IndexFunc_Sint64_int64__impl_areLengths_1_3 st_slices_IndexFunc_Sint64_int64__impl_areLengths_1_3)
    (HintsOk.nil)
noncomputable def t_slices_IndexFunc_Sint64_int64__impl_areLengths_1 {R : Type} (kx : Int → Option R) (a0 : (List Int)) : Option R :=
  Option.bind (w_slices_IndexFunc_Sint64_int64__impl_areLengths_1_3 (m_slices_IndexFunc_Sint64_int64__impl_areLengths_1_3 a0 (((List.length a0) : Nat) : Int) (0 : Int))) (exC x_slices_IndexFunc_Sint64_int64__impl_areLengths_1_3
  (fun e134 =>
   kx (e134.1.1.1 : Int), fun _ =>
   kx (-(1 : Int)), ()))
noncomputable def g_slices_IndexFunc_Sint64_int64__impl_areLengths_1 (a0 : (List Int)) : Option (Int) := t_slices_IndexFunc_Sint64_int64__impl_areLengths_1 some a0
theorem nat_slices_IndexFunc_Sint64_int64__impl_areLengths_1 {R : Type} (kx : Int → Option R) (a0 : (List Int)) : t_slices_IndexFunc_Sint64_int64__impl_areLengths_1 kx a0 = (g_slices_IndexFunc_Sint64_int64__impl_areLengths_1 a0).bind kx := by
  unfold g_slices_IndexFunc_Sint64_int64__impl_areLengths_1 t_slices_IndexFunc_Sint64_int64__impl_areLengths_1
  exact nat_exC ⟨fun _ => rfl, fun _ => rfl, trivial⟩
abbrev as_slices_IndexFunc_Sint64_int64__impl_areLengths_1 : List AX := [.val false (.slice (.int .i64)), .clo 69 []]
abbrev en_slices_IndexFunc_Sint64_int64__impl_areLengths_1 : Int → AV × List CV := fun b => (.one ⟨false, [(.v (.int .i64 b))]⟩, [])
noncomputable abbrev k_slices_IndexFunc_Sint64_int64__impl_areLengths_1 : Contract := .fx as_slices_IndexFunc_Sint64_int64__impl_areLengths_1 (Int) (fun z => g_slices_IndexFunc_Sint64_int64__impl_areLengths_1 z.1) en_slices_IndexFunc_Sint64_int64__impl_areLengths_1
theorem r_slices_IndexFunc_Sint64_int64__impl_areLengths_1 (z : argsX as_slices_IndexFunc_Sint64_int64__impl_areLengths_1) : runF (tab C0 T_slices_IndexFunc_Sint64_int64__impl_areLengths_1) h_slices_IndexFunc_Sint64_int64__impl_areLengths_1 1 Try.f78 (lentOf as_slices_IndexFunc_Sint64_int64__impl_areLengths_1) (xBoxes as_slices_IndexFunc_Sint64_int64__impl_areLengths_1 z) (xVals as_slices_IndexFunc_Sint64_int64__impl_areLengths_1 0 z) K2 = t_slices_IndexFunc_Sint64_int64__impl_areLengths_1 (fun b => some (en_slices_IndexFunc_Sint64_int64__impl_areLengths_1 b)) z.1 := by kernel_rfl
theorem so_slices_IndexFunc_Sint64_int64__impl_areLengths_1 : Sound C0 78 k_slices_IndexFunc_Sint64_int64__impl_areLengths_1 :=
  Sound.fx a_slices_IndexFunc_Sint64_int64__impl_areLengths_1 mixed Try.func78 (by kernel_rfl) (by kernel_rfl) h_slices_IndexFunc_Sint64_int64__impl_areLengths_1 1 hs_slices_IndexFunc_Sint64_int64__impl_areLengths_1 (fun z => (r_slices_IndexFunc_Sint64_int64__impl_areLengths_1 z).trans (nat_slices_IndexFunc_Sint64_int64__impl_areLengths_1 _ z.1))

/-! ### F60 slices.ContainsFunc[[]int64,int64] -/
noncomputable def T_slices_ContainsFunc_Sint64_int64__impl_areLengths_1 : List (FuncId × Contract) := [(78, k_slices_IndexFunc_Sint64_int64__impl_areLengths_1)]
theorem a_slices_ContainsFunc_Sint64_int64__impl_areLengths_1 : AllSound C0 T_slices_ContainsFunc_Sint64_int64__impl_areLengths_1 := .cons so_slices_IndexFunc_Sint64_int64__impl_areLengths_1 (.nil)
noncomputable def t_slices_ContainsFunc_Sint64_int64__impl_areLengths_1 {R : Type} (kx : Bool → Option R) (a0 : (List Int)) : Option R :=
  Option.bind (g_slices_IndexFunc_Sint64_int64__impl_areLengths_1 a0) fun y137 =>
  kx (decide (y137 ≥ (0 : Int)))
noncomputable def g_slices_ContainsFunc_Sint64_int64__impl_areLengths_1 (a0 : (List Int)) : Option (Bool) := t_slices_ContainsFunc_Sint64_int64__impl_areLengths_1 some a0
theorem nat_slices_ContainsFunc_Sint64_int64__impl_areLengths_1 {R : Type} (kx : Bool → Option R) (a0 : (List Int)) : t_slices_ContainsFunc_Sint64_int64__impl_areLengths_1 kx a0 = (g_slices_ContainsFunc_Sint64_int64__impl_areLengths_1 a0).bind kx := by
  unfold g_slices_ContainsFunc_Sint64_int64__impl_areLengths_1 t_slices_ContainsFunc_Sint64_int64__impl_areLengths_1
  exact nat_bind fun _ => rfl
abbrev as_slices_ContainsFunc_Sint64_int64__impl_areLengths_1 : List AX := [.val false (.slice (.int .i64)), .clo 69 []]
abbrev en_slices_ContainsFunc_Sint64_int64__impl_areLengths_1 : Bool → AV × List CV := fun b => (.one ⟨false, [(.v (.bool b))]⟩, [])
noncomputable abbrev k_slices_ContainsFunc_Sint64_int64__impl_areLengths_1 : Contract := .fx as_slices_ContainsFunc_Sint64_int64__impl_areLengths_1 (Bool) (fun z => g_slices_ContainsFunc_Sint64_int64__impl_areLengths_1 z.1) en_slices_ContainsFunc_Sint64_int64__impl_areLengths_1
theorem r_slices_ContainsFunc_Sint64_int64__impl_areLengths_1 (z : argsX as_slices_ContainsFunc_Sint64_int64__impl_areLengths_1) : runF (tab C0 T_slices_ContainsFunc_Sint64_int64__impl_areLengths_1) noHints 1 Try.f60 (lentOf as_slices_ContainsFunc_Sint64_int64__impl_areLengths_1) (xBoxes as_slices_ContainsFunc_Sint64_int64__impl_areLengths_1 z) (xVals as_slices_ContainsFunc_Sint64_int64__impl_areLengths_1 0 z) K2 = t_slices_ContainsFunc_Sint64_int64__impl_areLengths_1 (fun b => some (en_slices_ContainsFunc_Sint64_int64__impl_areLengths_1 b)) z.1 := by kernel_rfl
theorem so_slices_ContainsFunc_Sint64_int64__impl_areLengths_1 : Sound C0 60 k_slices_ContainsFunc_Sint64_int64__impl_areLengths_1 :=
  Sound.fx a_slices_ContainsFunc_Sint64_int64__impl_areLengths_1 mixed Try.func60 (by kernel_rfl) (by kernel_rfl) noHints 1 noHints_ok (fun z => (r_slices_ContainsFunc_Sint64_int64__impl_areLengths_1 z).trans (nat_slices_ContainsFunc_Sint64_int64__impl_areLengths_1 _ z.1))

/-! ### F70 impl.sumOf -/
noncomputable def T_impl_sumOf : List (FuncId × Contract) := []
theorem a_impl_sumOf : AllSound C0 T_impl_sumOf := .nil
abbrev s_impl_sumOf_4 : LS := ⟨[(false, [(.int .i64)]), (false, [(.sl (.int .i64))]), (false, [(.int .i64)]), (false, [(.int .i64)])], [], []⟩
abbrev e_impl_sumOf_4_0 : LS := ⟨[(false, [(.int .i64)])], [], []⟩
abbrev d_impl_sumOf_4_0 (v0 : Int) : e_impl_sumOf_4_0.T := (((v0, ()), ()), (), ())
abbrev x_impl_sumOf_4 : List (Ex × LS) := [(.exit 0, e_impl_sumOf_4_0)]
abbrev m_impl_sumOf_4 (x3 : Int) (x6 : List Int) (x7 : Int) (x8 : Int) : s_impl_sumOf_4.T := (((x3, ()), (x6, ()), (x7, ()), (x8, ()), ()), (), ())
noncomputable def u_impl_sumOf_4 {R : Type} (nx : s_impl_sumOf_4.T → Option R) (hx : exH R x_impl_sumOf_4) (x3 : Int) (x6 : List Int) (x7 : Int) (x8 : Int) : Option R :=
  cond (decide (x8 < x7))
  (Option.bind (idx x6 x8) fun y144 =>
   nx (m_impl_sumOf_4 (IntKind.wrap IntKind.i64 (x3 + y144)) x6 x7 (IntKind.wrap IntKind.i64 (x8 + (1 : Int)))))
  (hx.1 (d_impl_sumOf_4_0 x3))
noncomputable def t_impl_sumOf_4 {R : Type} (nx : s_impl_sumOf_4.T → Option R) (hx : exH R x_impl_sumOf_4) (z : s_impl_sumOf_4.T) : Option R := u_impl_sumOf_4 nx hx z.1.1.1 z.1.2.1.1 z.1.2.2.1.1 z.1.2.2.2.1.1
theorem nat_impl_sumOf_4 : Natural @t_impl_sumOf_4 := fun R nx hx z => by
  show u_impl_sumOf_4 nx hx z.1.1.1 z.1.2.1.1 z.1.2.2.1.1 z.1.2.2.2.1.1 = (u_impl_sumOf_4 (fun y => some (.inl y)) (hIn x_impl_sumOf_4 fun x => some (.inr x)) z.1.1.1 z.1.2.1.1 z.1.2.2.1.1 z.1.2.2.2.1.1).bind (goOn nx hx)
  unfold u_impl_sumOf_4
  exact nat_cond (nat_bind fun _ => rfl) (rfl)
noncomputable def w_impl_sumOf_4 : s_impl_sumOf_4.T → Option (exT x_impl_sumOf_4) := wOf @t_impl_sumOf_4
theorem wq_impl_sumOf_4 (x3 : Int) (x6 : List Int) (x7 : Int) (x8 : Int) : w_impl_sumOf_4 (m_impl_sumOf_4 x3 x6 x7 x8) = u_impl_sumOf_4 w_impl_sumOf_4 (hIn x_impl_sumOf_4 some) x3 x6 x7 x8 := wOf_eq nat_impl_sumOf_4 _
def lh_impl_sumOf_4 : LoopHint := ⟨[3, 6, 7, 8], [], [3], []⟩
noncomputable def h_impl_sumOf : Hints Rv := ⟨fun k => match k with | 4 => lh_impl_sumOf_4 | _ => ⟨[], [], [], []⟩, fun k => match k with | 4 => some (loopX s_impl_sumOf_4 x_impl_sumOf_4 w_impl_sumOf_4) | _ => none⟩
theorem st_impl_sumOf_4 (n : Nat) (z : s_impl_sumOf_4.T) (k : Ex → Live → Option Rv) : loopN ⟨17, 17⟩ lh_impl_sumOf_4 (den (tab C0 T_impl_sumOf) ⟨17, 17⟩ h_impl_sumOf 1 (loopOf Try.f70 3)) (n + 1) (s_impl_sumOf_4.enc z) k =
    t_impl_sumOf_4 (fun y => loopN ⟨17, 17⟩ lh_impl_sumOf_4 (den (tab C0 T_impl_sumOf) ⟨17, 17⟩ h_impl_sumOf 1 (loopOf Try.f70 3)) n (s_impl_sumOf_4.enc y) k) (hK k x_impl_sumOf_4) z := by kernel_rfl
theorem hs_impl_sumOf : HintsOk (tab C0 T_impl_sumOf) ⟨17, 17⟩ h_impl_sumOf 1 (loops (codeOf Try.f70)) := by
  have hl : loops (codeOf Try.f70) = [loopOf Try.f70 3] := by kernel_rfl
  rw [hl]
  exact HintsOk.cons (n := 4) (lh := lh_impl_sumOf_4) (S := loopX s_impl_sumOf_4 x_impl_sumOf_4 w_impl_sumOf_4) (by kernel_rfl) rfl rfl (loopX_ok nat_impl_sumOf_4 st_impl_sumOf_4)
    (HintsOk.nil)
noncomputable def t_impl_sumOf {R : Type} (kx : Int → Option R) (a0 : (List Int)) : Option R :=
  Option.bind (w_impl_sumOf_4 (m_impl_sumOf_4 (0 : Int) a0 (((List.length a0) : Nat) : Int) (0 : Int))) (exC x_impl_sumOf_4
  (fun e145 =>
   kx (e145.1.1.1 : Int), ()))
noncomputable def g_impl_sumOf (a0 : (List Int)) : Option (Int) := t_impl_sumOf some a0
theorem nat_impl_sumOf {R : Type} (kx : Int → Option R) (a0 : (List Int)) : t_impl_sumOf kx a0 = (g_impl_sumOf a0).bind kx := by
  unfold g_impl_sumOf t_impl_sumOf
  exact nat_exC ⟨fun _ => rfl, trivial⟩
abbrev as_impl_sumOf : List AX := [.val false (.slice (.int .i64))]
abbrev en_impl_sumOf : Int → AV × List CV := fun b => (.one ⟨false, [(.v (.int .i64 b))]⟩, [])
noncomputable abbrev k_impl_sumOf : Contract := .fx as_impl_sumOf (Int) (fun z => g_impl_sumOf z.1) en_impl_sumOf
theorem r_impl_sumOf (z : argsX as_impl_sumOf) : runF (tab C0 T_impl_sumOf) h_impl_sumOf 1 Try.f70 (lentOf as_impl_sumOf) (xBoxes as_impl_sumOf z) (xVals as_impl_sumOf 0 z) K2 = t_impl_sumOf (fun b => some (en_impl_sumOf b)) z.1 := by kernel_rfl
theorem so_impl_sumOf : Sound C0 70 k_impl_sumOf :=
  Sound.fx a_impl_sumOf mixed Try.func70 (by kernel_rfl) (by kernel_rfl) h_impl_sumOf 1 hs_impl_sumOf (fun z => (r_impl_sumOf z).trans (nat_impl_sumOf _ z.1))

/-! ### F51 impl.areLengths -/
noncomputable def T_impl_areLengths : List (FuncId × Contract) := [(63, k_impl_length_int64), (62, k_impl_within), (60, k_slices_ContainsFunc_Sint64_int64__impl_areLengths_1), (70, k_impl_sumOf)]
theorem a_impl_areLengths : AllSound C0 T_impl_areLengths := .cons so_impl_length_int64 (.cons so_impl_within (.cons so_slices_ContainsFunc_Sint64_int64__impl_areLengths_1 (.cons so_impl_sumOf (.nil))))
noncomputable def t_impl_areLengths {R : Type} (kx : Bool → Option R) (a0 : (List Int)) : Option R :=
  Option.bind (g_impl_length_int64 a0) fun y120 =>
  Option.bind (g_impl_within y120 (1 : Int) (14 : Int)) fun y124 =>
  cond y124
  (Option.bind (g_slices_ContainsFunc_Sint64_int64__impl_areLengths_1 a0) fun y138 =>
   cond (!y138)
   (Option.bind (g_impl_sumOf a0) fun y147 =>
    kx (decide (y147 ≤ (1000 : Int))))
   (kx Bool.false))
  (kx Bool.false)
noncomputable def g_impl_areLengths (a0 : (List Int)) : Option (Bool) := t_impl_areLengths some a0
theorem nat_impl_areLengths {R : Type} (kx : Bool → Option R) (a0 : (List Int)) : t_impl_areLengths kx a0 = (g_impl_areLengths a0).bind kx := by
  unfold g_impl_areLengths t_impl_areLengths
  exact nat_bind fun _ => nat_bind fun _ => nat_cond (nat_bind fun _ => nat_cond (nat_bind fun _ => rfl) (rfl)) (rfl)
abbrev as_impl_areLengths : List AX := [.val false (.slice (.int .i64))]
abbrev en_impl_areLengths : Bool → AV × List CV := fun b => (.one ⟨false, [(.v (.bool b))]⟩, [])
noncomputable abbrev k_impl_areLengths : Contract := .fx as_impl_areLengths (Bool) (fun z => g_impl_areLengths z.1) en_impl_areLengths
theorem r_impl_areLengths (z : argsX as_impl_areLengths) : runF (tab C0 T_impl_areLengths) noHints 1 Try.f51 (lentOf as_impl_areLengths) (xBoxes as_impl_areLengths z) (xVals as_impl_areLengths 0 z) K2 = t_impl_areLengths (fun b => some (en_impl_areLengths b)) z.1 := by kernel_rfl
theorem so_impl_areLengths : Sound C0 51 k_impl_areLengths :=
  Sound.fx a_impl_areLengths mixed Try.func51 (by kernel_rfl) (by kernel_rfl) noHints 1 noHints_ok (fun z => (r_impl_areLengths z).trans (nat_impl_areLengths _ z.1))

/-! ### F66 slices.Clone[[]int64,int64] -/
noncomputable def T_slices_Clone_Sint64_int64_n : List (FuncId × Contract) := []
theorem a_slices_Clone_Sint64_int64_n : AllSound C0 T_slices_Clone_Sint64_int64_n := .nil
noncomputable def t_slices_Clone_Sint64_int64_n {R : Type} (kx : (List Int) → Option R) (a0 : (List Int)) : Option R :=
  cond (decide (0 < (List.length a0)))
  (cond (decide ((((List.length ([] : List Int)) + (List.length a0)) * 8) ≤ 70368744177664))
   (cond (decide (((List.length ([] : List Int)) + (List.length a0)) ≤ 70368744177664))
    (kx ([] ++ a0))
    (none))
   (none))
  (none)
noncomputable def g_slices_Clone_Sint64_int64_n (a0 : (List Int)) : Option ((List Int)) := t_slices_Clone_Sint64_int64_n some a0
theorem nat_slices_Clone_Sint64_int64_n {R : Type} (kx : (List Int) → Option R) (a0 : (List Int)) : t_slices_Clone_Sint64_int64_n kx a0 = (g_slices_Clone_Sint64_int64_n a0).bind kx := by
  unfold g_slices_Clone_Sint64_int64_n t_slices_Clone_Sint64_int64_n
  exact nat_cond (nat_cond (nat_cond (rfl) (rfl)) (rfl)) (rfl)
abbrev as_slices_Clone_Sint64_int64_n : List AX := [.val false (.slice (.int .i64))]
abbrev en_slices_Clone_Sint64_int64_n : (List Int) → AV × List CV := fun b => (.one ⟨false, [(.own (.int .i64) b)]⟩, [])
noncomputable abbrev k_slices_Clone_Sint64_int64_n : Contract := .fx as_slices_Clone_Sint64_int64_n ((List Int)) (fun z => g_slices_Clone_Sint64_int64_n z.1) en_slices_Clone_Sint64_int64_n
theorem r_slices_Clone_Sint64_int64_n (z : argsX as_slices_Clone_Sint64_int64_n) : runF (tab C0 T_slices_Clone_Sint64_int64_n) noHints 1 Try.f66 (lentOf as_slices_Clone_Sint64_int64_n) (xBoxes as_slices_Clone_Sint64_int64_n z) (xVals as_slices_Clone_Sint64_int64_n 0 z) K2 = t_slices_Clone_Sint64_int64_n (fun b => some (en_slices_Clone_Sint64_int64_n b)) z.1 := by kernel_rfl
theorem so_slices_Clone_Sint64_int64_n : Sound C0 66 k_slices_Clone_Sint64_int64_n :=
  Sound.fx a_slices_Clone_Sint64_int64_n mixed Try.func66 (by kernel_rfl) (by kernel_rfl) noHints 1 noHints_ok (fun z => (r_slices_Clone_Sint64_int64_n z).trans (nat_slices_Clone_Sint64_int64_n _ z.1))
theorem e_slices_Clone_Sint64_int64 : Sound C0 66 (Contract.emptyS (.int .i64)) :=
  Sound.emptyRun mixed Try.func66 (by kernel_rfl) (by kernel_rfl) (fun _ => rfl) (fun A c => by cases A <;> kernel_rfl)
noncomputable def g_slices_Clone_Sint64_int64 (a0 : (List Int)) : Option ((List Int)) := cond (decide (List.length a0 ≤ 1000000)) (some a0) none
abbrev as_slices_Clone_Sint64_int64 : List AX := [.val false (.slice (.int .i64))]
abbrev en_slices_Clone_Sint64_int64 : (List Int) → AV × List CV := fun b => (.one ⟨false, [(.own (.int .i64) b)]⟩, [])
noncomputable abbrev k_slices_Clone_Sint64_int64 : Contract := .fx as_slices_Clone_Sint64_int64 ((List Int)) (fun z => g_slices_Clone_Sint64_int64 z.1) en_slices_Clone_Sint64_int64
theorem so_slices_Clone_Sint64_int64 : Sound C0 66 k_slices_Clone_Sint64_int64 := by
  refine Sound.orEmpty so_slices_Clone_Sint64_int64_n (g' := g_slices_Clone_Sint64_int64) (fun l y h hne => ?_) (fun y h => ?_) e_slices_Clone_Sint64_int64
  · show g_slices_Clone_Sint64_int64_n l = some y
    unfold g_slices_Clone_Sint64_int64 at h
    cases hd : decide (List.length l ≤ 1000000) with
    | false => rw [hd] at h; cases h
    | true =>
      rw [hd] at h; cases h
      have h1 := of_decide_eq_true hd
      have h2 : 0 < List.length l := List.length_pos_iff.2 hne
      unfold g_slices_Clone_Sint64_int64_n t_slices_Clone_Sint64_int64_n
      simp only [List.length_nil, Nat.zero_add, List.nil_append]
      rw [decide_eq_true h2, decide_eq_true (by omega), decide_eq_true (by omega)]; rfl
  · cases h; rfl

/-! ### F46 (impl.Strip).isPossible -/
noncomputable def T_impl_Strip_isPossible : List (FuncId × Contract) := [(63, k_impl_length_int64), (62, k_impl_within)]
theorem a_impl_Strip_isPossible : AllSound C0 T_impl_Strip_isPossible := .cons so_impl_length_int64 (.cons so_impl_within (.nil))
noncomputable def t_impl_Strip_isPossible {R : Type} (kx : Bool → Option R) (a0 : ((List Int) × (List Int))) (a1 : (Int × Int)) : Option R :=
  Option.bind (g_impl_length_int64 a0.1) fun y207 =>
  cond (decide (y207 < (2 : Int)))
  (kx Bool.false)
  (cond (a1.1 == (2 : Int))
   (cond (a1.2 == (0 : Int))
    (Option.bind (idx a0.1 (0 : Int)) fun y208 =>
     Option.bind (idx a0.1 (1 : Int)) fun y209 =>
     kx (decide (y208 ≤ y209)))
    (kx Bool.false))
   (cond (a1.1 == (3 : Int))
    (cond (a1.2 == (IntKind.wrap IntKind.i64 (y207 - (1 : Int))))
     (Option.bind (idx a0.1 (IntKind.wrap IntKind.i64 (y207 - (1 : Int)))) fun y210 =>
      Option.bind (idx a0.1 (IntKind.wrap IntKind.i64 (y207 - (2 : Int)))) fun y211 =>
      kx (decide (y210 ≤ y211)))
     (kx Bool.false))
    (cond (a1.1 == (1 : Int))
     (Option.bind (g_impl_within a1.2 (1 : Int) (IntKind.wrap IntKind.i64 (y207 - (2 : Int)))) fun y212 =>
      cond y212
      (Option.bind (idx a0.1 a1.2) fun y213 =>
       Option.bind (idx a0.1 (IntKind.wrap IntKind.i64 (a1.2 - (1 : Int)))) fun y214 =>
       cond (decide (y213 ≤ y214))
       (Option.bind (idx a0.1 a1.2) fun y215 =>
        Option.bind (idx a0.1 (IntKind.wrap IntKind.i64 (a1.2 + (1 : Int)))) fun y216 =>
        cond (decide (y215 ≤ y216))
        (Option.bind (idx a0.2 (IntKind.wrap IntKind.i64 (a1.2 - (1 : Int)))) fun y217 =>
         Option.bind (idx a0.2 a1.2) fun y218 =>
         kx (y217 != y218))
        (kx Bool.false))
       (kx Bool.false))
      (kx Bool.false))
     (kx Bool.false))))
noncomputable def g_impl_Strip_isPossible (a0 : ((List Int) × (List Int))) (a1 : (Int × Int)) : Option (Bool) := t_impl_Strip_isPossible some a0 a1
theorem nat_impl_Strip_isPossible {R : Type} (kx : Bool → Option R) (a0 : ((List Int) × (List Int))) (a1 : (Int × Int)) : t_impl_Strip_isPossible kx a0 a1 = (g_impl_Strip_isPossible a0 a1).bind kx := by
  unfold g_impl_Strip_isPossible t_impl_Strip_isPossible
  exact nat_bind fun _ => nat_cond (rfl) (nat_cond (nat_cond (nat_bind fun _ => nat_bind fun _ => rfl) (rfl)) (nat_cond (nat_cond (nat_bind fun _ => nat_bind fun _ => rfl) (rfl)) (nat_cond (nat_bind fun _ => nat_cond (nat_bind fun _ => nat_bind fun _ => nat_cond (nat_bind fun _ => nat_bind fun _ => nat_cond (nat_bind fun _ => nat_bind fun _ => rfl) (rfl)) (rfl)) (rfl)) (rfl))))
abbrev as_impl_Strip_isPossible : List AX := [.val true (.pair (.slice (.int .i64)) (.slice (.int .i64))), .val true (.pair (.int .i64) (.int .i64))]
abbrev en_impl_Strip_isPossible : Bool → AV × List CV := fun b => (.one ⟨false, [(.v (.bool b))]⟩, [])
noncomputable abbrev k_impl_Strip_isPossible : Contract := .fx as_impl_Strip_isPossible (Bool) (fun z => g_impl_Strip_isPossible z.1 z.2.1) en_impl_Strip_isPossible
theorem r_impl_Strip_isPossible (z : argsX as_impl_Strip_isPossible) : runF (tab C0 T_impl_Strip_isPossible) noHints 1 Try.f46 (lentOf as_impl_Strip_isPossible) (xBoxes as_impl_Strip_isPossible z) (xVals as_impl_Strip_isPossible 0 z) K2 = t_impl_Strip_isPossible (fun b => some (en_impl_Strip_isPossible b)) z.1 z.2.1 := by kernel_rfl
theorem so_impl_Strip_isPossible : Sound C0 46 k_impl_Strip_isPossible :=
  Sound.fx a_impl_Strip_isPossible mixed Try.func46 (by kernel_rfl) (by kernel_rfl) noHints 1 noHints_ok (fun z => (r_impl_Strip_isPossible z).trans (nat_impl_Strip_isPossible _ z.1 z.2.1))

/-! ### F65 (impl.Strip).steps$1 -/
noncomputable def T_impl_Strip_steps_1 : List (FuncId × Contract) := [(46, k_impl_Strip_isPossible)]
theorem a_impl_Strip_steps_1 : AllSound C0 T_impl_Strip_steps_1 := .cons so_impl_Strip_isPossible (.nil)
noncomputable def t_impl_Strip_steps_1 {R : Type} (kx : Bool → Option R) (a0 : (Int × Int)) (a1 : ((List Int) × (List Int))) : Option R :=
  Option.bind (g_impl_Strip_isPossible a1 a0) fun y219 =>
  kx (!y219)
noncomputable def g_impl_Strip_steps_1 (a0 : (Int × Int)) (a1 : ((List Int) × (List Int))) : Option (Bool) := t_impl_Strip_steps_1 some a0 a1
theorem nat_impl_Strip_steps_1 {R : Type} (kx : Bool → Option R) (a0 : (Int × Int)) (a1 : ((List Int) × (List Int))) : t_impl_Strip_steps_1 kx a0 a1 = (g_impl_Strip_steps_1 a0 a1).bind kx := by
  unfold g_impl_Strip_steps_1 t_impl_Strip_steps_1
  exact nat_bind fun _ => rfl
abbrev as_impl_Strip_steps_1 : List AX := [.val true (.pair (.int .i64) (.int .i64)), .ptr (.pair (.slice (.int .i64)) (.slice (.int .i64)))]
abbrev en_impl_Strip_steps_1 : Bool → AV × List CV := fun b => (.one ⟨false, [(.v (.bool b))]⟩, [])
noncomputable abbrev k_impl_Strip_steps_1 : Contract := .fx as_impl_Strip_steps_1 (Bool) (fun z => g_impl_Strip_steps_1 z.1 z.2.1) en_impl_Strip_steps_1
theorem r_impl_Strip_steps_1 (z : argsX as_impl_Strip_steps_1) : runF (tab C0 T_impl_Strip_steps_1) noHints 1 Try.f65 (lentOf as_impl_Strip_steps_1) (xBoxes as_impl_Strip_steps_1 z) (xVals as_impl_Strip_steps_1 0 z) K2 = t_impl_Strip_steps_1 (fun b => some (en_impl_Strip_steps_1 b)) z.1 z.2.1 := by kernel_rfl
theorem so_impl_Strip_steps_1 : Sound C0 65 k_impl_Strip_steps_1 :=
  Sound.fx a_impl_Strip_steps_1 mixed Try.func65 (by kernel_rfl) (by kernel_rfl) noHints 1 noHints_ok (fun z => (r_impl_Strip_steps_1 z).trans (nat_impl_Strip_steps_1 _ z.1 z.2.1))

/-! ### F79 slices.IndexFunc[[]impl.StripStep,impl.StripStep] -/
noncomputable def T_slices_IndexFunc_Simpl_StripStep_impl_StripStep__impl_Strip_steps_1 : List (FuncId × Contract) := [(65, k_impl_Strip_steps_1)]
theorem a_slices_IndexFunc_Simpl_StripStep_impl_StripStep__impl_Strip_steps_1 : AllSound C0 T_slices_IndexFunc_Simpl_StripStep_impl_StripStep__impl_Strip_steps_1 := .cons so_impl_Strip_steps_1 (.nil)
abbrev s_slices_IndexFunc_Simpl_StripStep_impl_StripStep__impl_Strip_steps_1_3 : LS := ⟨[(false, [(.sl (.pair (.int .i64) (.int .i64)))]), (false, [(.fn 65 [(19, 0)])]), (false, [(.int .i64)]), (false, [(.int .i64)])], [(true, [(.sl (.int .i64)), (.sl (.int .i64))])], []⟩
abbrev e_slices_IndexFunc_Simpl_StripStep_impl_StripStep__impl_Strip_steps_1_3_0 : LS := ⟨[(false, [(.int .i64)])], [], []⟩
abbrev d_slices_IndexFunc_Simpl_StripStep_impl_StripStep__impl_Strip_steps_1_3_0 (v0 : Int) : e_slices_IndexFunc_Simpl_StripStep_impl_StripStep__impl_Strip_steps_1_3_0.T := (((v0, ()), ()), (), ())
abbrev e_slices_IndexFunc_Simpl_StripStep_impl_StripStep__impl_Strip_steps_1_3_1 : LS := ⟨[(false, [.undef])], [], []⟩
abbrev d_slices_IndexFunc_Simpl_StripStep_impl_StripStep__impl_Strip_steps_1_3_1 : e_slices_IndexFunc_Simpl_StripStep_impl_StripStep__impl_Strip_steps_1_3_1.T := ((((), ()), ()), (), ())
abbrev x_slices_IndexFunc_Simpl_StripStep_impl_StripStep__impl_Strip_steps_1_3 : List (Ex × LS) := [(.ret, e_slices_IndexFunc_Simpl_StripStep_impl_StripStep__impl_Strip_steps_1_3_0), (.exit 0, e_slices_IndexFunc_Simpl_StripStep_impl_StripStep__impl_Strip_steps_1_3_1)]
abbrev m_slices_IndexFunc_Simpl_StripStep_impl_StripStep__impl_Strip_steps_1_3 (x0 : List (Int × Int)) (x7 : Int) (x8 : Int) (b0_0 : List Int) (b0_1 : List Int) : s_slices_IndexFunc_Simpl_StripStep_impl_StripStep__impl_Strip_steps_1_3.T := (((x0, ()), ((), ()), (x7, ()), (x8, ()), ()), ((b0_0, b0_1, ()), ()), ())
noncomputable def u_slices_IndexFunc_Simpl_StripStep_impl_StripStep__impl_Strip_steps_1_3 {R : Type} (nx : s_slices_IndexFunc_Simpl_StripStep_impl_StripStep__impl_Strip_steps_1_3.T → Option R) (hx : exH R x_slices_IndexFunc_Simpl_StripStep_impl_StripStep__impl_Strip_steps_1_3) (x0 : List (Int × Int)) (x7 : Int) (x8 : Int) (b0_0 : List Int) (b0_1 : List Int) : Option R :=
  cond (decide (x8 < x7))
  (Option.bind (idx x0 x8) fun y202 =>
   Option.bind (g_impl_Strip_steps_1 y202 (b0_0, b0_1)) fun y220 =>
   cond y220
   (hx.1 (d_slices_IndexFunc_Simpl_StripStep_impl_StripStep__impl_Strip_steps_1_3_0 x8))
   (nx (m_slices_IndexFunc_Simpl_StripStep_impl_StripStep__impl_Strip_steps_1_3 x0 x7 (IntKind.wrap IntKind.i64 (x8 + (1 : Int))) b0_0 b0_1)))
  (hx.2.1 (d_slices_IndexFunc_Simpl_StripStep_impl_StripStep__impl_Strip_steps_1_3_1))
noncomputable def t_slices_IndexFunc_Simpl_StripStep_impl_StripStep__impl_Strip_steps_1_3 {R : Type} (nx : s_slices_IndexFunc_Simpl_StripStep_impl_StripStep__impl_Strip_steps_1_3.T → Option R) (hx : exH R x_slices_IndexFunc_Simpl_StripStep_impl_StripStep__impl_Strip_steps_1_3) (z : s_slices_IndexFunc_Simpl_StripStep_impl_StripStep__impl_Strip_steps_1_3.T) : Option R := u_slices_IndexFunc_Simpl_StripStep_impl_StripStep__impl_Strip_steps_1_3 nx hx z.1.1.1 z.1.2.2.1.1 z.1.2.2.2.1.1 z.2.1.1.1 z.2.1.1.2.1
theorem nat_slices_IndexFunc_Simpl_StripStep_impl_StripStep__impl_Strip_steps_1_3 : Natural @t_slices_IndexFunc_Simpl_StripStep_impl_StripStep__impl_Strip_steps_1_3 := fun R nx hx z => by
  show u_slices_IndexFunc_Simpl_StripStep_impl_StripStep__impl_Strip_steps_1_3 nx hx z.1.1.1 z.1.2.2.1.1 z.1.2.2.2.1.1 z.2.1.1.1 z.2.1.1.2.1 = (u_slices_IndexFunc_Simpl_StripStep_impl_StripStep__impl_Strip_steps_1_3 (fun y => some (.inl y)) (hIn x_slices_IndexFunc_Simpl_StripStep_impl_StripStep__impl_Strip_steps_1_3 fun x => some (.inr x)) z.1.1.1 z.1.2.2.1.1 z.1.2.2.2.1.1 z.2.1.1.1 z.2.1.1.2.1).bind (goOn nx hx)
  unfold u_slices_IndexFunc_Simpl_StripStep_impl_StripStep__impl_Strip_steps_1_3
  exact nat_cond (nat_bind fun _ => nat_bind fun _ => nat_cond (rfl) (rfl)) (rfl)
noncomputable def w_slices_IndexFunc_Simpl_StripStep_impl_StripStep__impl_Strip_steps_1_3 : s_slices_IndexFunc_Simpl_StripStep_impl_StripStep__impl_Strip_steps_1_3.T → Option (exT x_slices_IndexFunc_Simpl_StripStep_impl_StripStep__impl_Strip_steps_1_3) := wOf @t_slices_IndexFunc_Simpl_StripStep_impl_StripStep__impl_Strip_steps_1_3
theorem wq_slices_IndexFunc_Simpl_StripStep_impl_StripStep__impl_Strip_steps_1_3 (x0 : List (Int × Int)) (x7 : Int) (x8 : Int) (b0_0 : List Int) (b0_1 : List Int) : w_slices_IndexFunc_Simpl_StripStep_impl_StripStep__impl_Strip_steps_1_3 (m_slices_IndexFunc_Simpl_StripStep_impl_StripStep__impl_Strip_steps_1_3 x0 x7 x8 b0_0 b0_1) = u_slices_IndexFunc_Simpl_StripStep_impl_StripStep__impl_Strip_steps_1_3 w_slices_IndexFunc_Simpl_StripStep_impl_StripStep__impl_Strip_steps_1_3 (hIn x_slices_IndexFunc_Simpl_StripStep_impl_StripStep__impl_Strip_steps_1_3 some) x0 x7 x8 b0_0 b0_1 := wOf_eq nat_slices_IndexFunc_Simpl_StripStep_impl_StripStep__impl_Strip_steps_1_3 _
def lh_slices_IndexFunc_Simpl_StripStep_impl_StripStep__impl_Strip_steps_1_3 : LoopHint := ⟨[0, 1, 7, 8], [19], [4], []⟩
noncomputable def h_slices_IndexFunc_Simpl_StripStep_impl_StripStep__impl_Strip_steps_1 : Hints Rv := ⟨fun k => match k with | 3 => lh_slices_IndexFunc_Simpl_StripStep_impl_StripStep__impl_Strip_steps_1_3 | _ => ⟨[], [], [], []⟩, fun k => match k with | 3 => some (loopX s_slices_IndexFunc_Simpl_StripStep_impl_StripStep__impl_Strip_steps_1_3 x_slices_IndexFunc_Simpl_StripStep_impl_StripStep__impl_Strip_steps_1_3 w_slices_IndexFunc_Simpl_StripStep_impl_StripStep__impl_Strip_steps_1_3) | _ => none⟩
theorem st_slices_IndexFunc_Simpl_StripStep_impl_StripStep__impl_Strip_steps_1_3 (n : Nat) (z : s_slices_IndexFunc_Simpl_StripStep_impl_StripStep__impl_Strip_steps_1_3.T) (k : Ex → Live → Option Rv) : loopN ⟨19, 20⟩ lh_slices_IndexFunc_Simpl_StripStep_impl_StripStep__impl_Strip_steps_1_3 (den (tab C0 T_slices_IndexFunc_Simpl_StripStep_impl_StripStep__impl_Strip_steps_1) ⟨19, 20⟩ h_slices_IndexFunc_Simpl_StripStep_impl_StripStep__impl_Strip_steps_1 1 (loopOf Try.f79 2)) (n + 1) (s_slices_IndexFunc_Simpl_StripStep_impl_StripStep__impl_Strip_steps_1_3.enc z) k =
    t_slices_IndexFunc_Simpl_StripStep_impl_StripStep__impl_Strip_steps_1_3 (fun y => loopN ⟨19, 20⟩ lh_slices_IndexFunc_Simpl_StripStep_impl_StripStep__impl_Strip_steps_1_3 (den (tab C0 T_slices_IndexFunc_Simpl_StripStep_impl_StripStep__impl_Strip_steps_1) ⟨19, 20⟩ h_slices_IndexFunc_Simpl_StripStep_impl_StripStep__impl_Strip_steps_1 1 (loopOf Try.f79 2)) n (s_slices_IndexFunc_Simpl_StripStep_impl_StripStep__impl_Strip_steps_1_3.enc y) k) (hK k x_slices_IndexFunc_Simpl_StripStep_impl_StripStep__impl_Strip_steps_1_3) z := by kernel_rfl
theorem hs_slices_IndexFunc_Simpl_StripStep_impl_StripStep__impl_Strip_steps_1 : HintsOk (tab C0 T_slices_IndexFunc_Simpl_StripStep_impl_StripStep__impl_Strip_steps_1) ⟨19, 20⟩ h_slices_IndexFunc_Simpl_StripStep_impl_StripStep__impl_Strip_steps_1 1 (loops (codeOf Try.f79)) := by
  have hl : loops (codeOf Try.f79) = [loopOf Try.f79 2] := by kernel_rfl
  rw [hl]
  exact HintsOk.cons (n := 3) (lh := lh_slices_IndexFunc_Simpl_StripStep_impl_StripStep__impl_Strip_steps_1_3) (S := loopX s_slices_IndexFunc_Simpl_StripStep_impl_StripStep__impl_Strip_steps_1_3 x_slices_IndexFunc_Simpl_StripStep_impl_StripStep__impl_Strip_steps_1_3 w_slices_IndexFunc_Simpl_StripStep_impl_StripStep__impl_Strip_steps_1_3) (by kernel_rfl) rfl rfl (loopX_ok nat_slices_IndexFunc_Simpl_StripStep_impl_StripStep__impl_Strip_steps_1_3 st_slices_IndexFunc_Simpl_StripStep_impl_StripStep__impl_Strip_steps_1_3)
    (HintsOk.nil)
noncomputable def t_slices_IndexFunc_Simpl_StripStep_impl_StripStep__impl_Strip_steps_1 {R : Type} (kx : Int → Option R) (a0 : (List (Int × Int))) (a1_0 : ((List Int) × (List Int))) : Option R :=
  Option.bind (w_slices_IndexFunc_Simpl_StripStep_impl_StripStep__impl_Strip_steps_1_3 (m_slices_IndexFunc_Simpl_StripStep_impl_StripStep__impl_Strip_steps_1_3 a0 (((List.length a0) : Nat) : Int) (0 : Int) a1_0.1 a1_0.2)) (exC x_slices_IndexFunc_Simpl_StripStep_impl_StripStep__impl_Strip_steps_1_3
  (fun e221 =>
   kx (e221.1.1.1 : Int), fun _ =>
   kx (-(1 : Int)), ()))
noncomputable def g_slices_IndexFunc_Simpl_StripStep_impl_StripStep__impl_Strip_steps_1 (a0 : (List (Int × Int))) (a1_0 : ((List Int) × (List Int))) : Option (Int) := t_slices_IndexFunc_Simpl_StripStep_impl_StripStep__impl_Strip_steps_1 some a0 a1_0
theorem nat_slices_IndexFunc_Simpl_StripStep_impl_StripStep__impl_Strip_steps_1 {R : Type} (kx : Int → Option R) (a0 : (List (Int × Int))) (a1_0 : ((List Int) × (List Int))) : t_slices_IndexFunc_Simpl_StripStep_impl_StripStep__impl_Strip_steps_1 kx a0 a1_0 = (g_slices_IndexFunc_Simpl_StripStep_impl_StripStep__impl_Strip_steps_1 a0 a1_0).bind kx := by
  unfold g_slices_IndexFunc_Simpl_StripStep_impl_StripStep__impl_Strip_steps_1 t_slices_IndexFunc_Simpl_StripStep_impl_StripStep__impl_Strip_steps_1
  exact nat_exC ⟨fun _ => rfl, fun _ => rfl, trivial⟩
abbrev as_slices_IndexFunc_Simpl_StripStep_impl_StripStep__impl_Strip_steps_1 : List AX := [.val false (.slice (.pair (.int .i64) (.int .i64))), .clo 65 [(.pair (.slice (.int .i64)) (.slice (.int .i64)))]]
abbrev en_slices_IndexFunc_Simpl_StripStep_impl_StripStep__impl_Strip_steps_1 : Int → AV × List CV := fun b => (.one ⟨false, [(.v (.int .i64 b))]⟩, [])
noncomputable abbrev k_slices_IndexFunc_Simpl_StripStep_impl_StripStep__impl_Strip_steps_1 : Contract := .fx as_slices_IndexFunc_Simpl_StripStep_impl_StripStep__impl_Strip_steps_1 (Int) (fun z => g_slices_IndexFunc_Simpl_StripStep_impl_StripStep__impl_Strip_steps_1 z.1 z.2.1.1) en_slices_IndexFunc_Simpl_StripStep_impl_StripStep__impl_Strip_steps_1
theorem r_slices_IndexFunc_Simpl_StripStep_impl_StripStep__impl_Strip_steps_1 (z : argsX as_slices_IndexFunc_Simpl_StripStep_impl_StripStep__impl_Strip_steps_1) : runF (tab C0 T_slices_IndexFunc_Simpl_StripStep_impl_StripStep__impl_Strip_steps_1) h_slices_IndexFunc_Simpl_StripStep_impl_StripStep__impl_Strip_steps_1 1 Try.f79 (lentOf as_slices_IndexFunc_Simpl_StripStep_impl_StripStep__impl_Strip_steps_1) (xBoxes as_slices_IndexFunc_Simpl_StripStep_impl_StripStep__impl_Strip_steps_1 z) (xVals as_slices_IndexFunc_Simpl_StripStep_impl_StripStep__impl_Strip_steps_1 0 z) K2 = t_slices_IndexFunc_Simpl_StripStep_impl_StripStep__impl_Strip_steps_1 (fun b => some (en_slices_IndexFunc_Simpl_StripStep_impl_StripStep__impl_Strip_steps_1 b)) z.1 z.2.1.1 := by kernel_rfl
theorem so_slices_IndexFunc_Simpl_StripStep_impl_StripStep__impl_Strip_steps_1 : Sound C0 79 k_slices_IndexFunc_Simpl_StripStep_impl_StripStep__impl_Strip_steps_1 :=
  Sound.fx a_slices_IndexFunc_Simpl_StripStep_impl_StripStep__impl_Strip_steps_1 mixed Try.func79 (by kernel_rfl) (by kernel_rfl) h_slices_IndexFunc_Simpl_StripStep_impl_StripStep__impl_Strip_steps_1 1 hs_slices_IndexFunc_Simpl_StripStep_impl_StripStep__impl_Strip_steps_1 (fun z => (r_slices_IndexFunc_Simpl_StripStep_impl_StripStep__impl_Strip_steps_1 z).trans (nat_slices_IndexFunc_Simpl_StripStep_impl_StripStep__impl_Strip_steps_1 _ z.1 z.2.1.1))

/-! ### F64 slices.DeleteFunc[[]impl.StripStep,impl.StripStep] -/
noncomputable def T_slices_DeleteFunc_Simpl_StripStep_impl_StripStep__impl_Strip_steps_1 : List (FuncId × Contract) := [(79, k_slices_IndexFunc_Simpl_StripStep_impl_StripStep__impl_Strip_steps_1), (65, k_impl_Strip_steps_1)]
theorem a_slices_DeleteFunc_Simpl_StripStep_impl_StripStep__impl_Strip_steps_1 : AllSound C0 T_slices_DeleteFunc_Simpl_StripStep_impl_StripStep__impl_Strip_steps_1 := .cons so_slices_IndexFunc_Simpl_StripStep_impl_StripStep__impl_Strip_steps_1 (.cons so_impl_Strip_steps_1 (.nil))
abbrev s_slices_DeleteFunc_Simpl_StripStep_impl_StripStep__impl_Strip_steps_1_6 : LS := ⟨[(false, [(.view (.arg 0) true 0 (.pair (.int .i64) (.int .i64)))]), (false, [(.fn 65 [(42, 0)])]), (false, [(.int .i64)]), (false, [(.int .i64)])], [(true, [(.sl (.int .i64)), (.sl (.int .i64))])], [(.own (.pair (.int .i64) (.int .i64)))]⟩
abbrev e_slices_DeleteFunc_Simpl_StripStep_impl_StripStep__impl_Strip_steps_1_6_0 : LS := ⟨[(false, [(.view (.arg 0) true 0 (.pair (.int .i64) (.int .i64)))]), (false, [(.int .i64)])], [], [(.own (.pair (.int .i64) (.int .i64)))]⟩
abbrev d_slices_DeleteFunc_Simpl_StripStep_impl_StripStep__impl_Strip_steps_1_6_0 (v0 : List (Int × Int)) (v1 : Int) (v2 : List (Int × Int)) : e_slices_DeleteFunc_Simpl_StripStep_impl_StripStep__impl_Strip_steps_1_6_0.T := (((v0, ()), (v1, ()), ()), (), (v2, ()))
abbrev x_slices_DeleteFunc_Simpl_StripStep_impl_StripStep__impl_Strip_steps_1_6 : List (Ex × LS) := [(.exit 0, e_slices_DeleteFunc_Simpl_StripStep_impl_StripStep__impl_Strip_steps_1_6_0)]
abbrev m_slices_DeleteFunc_Simpl_StripStep_impl_StripStep__impl_Strip_steps_1_6 (x0 : List (Int × Int)) (x5 : Int) (x6 : Int) (b0_0 : List Int) (b0_1 : List Int) (o : List (Int × Int)) : s_slices_DeleteFunc_Simpl_StripStep_impl_StripStep__impl_Strip_steps_1_6.T := (((x0, ()), ((), ()), (x5, ()), (x6, ()), ()), ((b0_0, b0_1, ()), ()), (o, ()))
noncomputable def u_slices_DeleteFunc_Simpl_StripStep_impl_StripStep__impl_Strip_steps_1_6 {R : Type} (nx : s_slices_DeleteFunc_Simpl_StripStep_impl_StripStep__impl_Strip_steps_1_6.T → Option R) (hx : exH R x_slices_DeleteFunc_Simpl_StripStep_impl_StripStep__impl_Strip_steps_1_6) (x0 : List (Int × Int)) (x5 : Int) (x6 : Int) (b0_0 : List Int) (b0_1 : List Int) (o : List (Int × Int)) : Option R :=
  cond (decide (x6 < (((List.length x0) : Nat) : Int)))
  (Option.bind (idx x0 x6) fun y231 =>
   Option.bind (g_impl_Strip_steps_1 y231 (b0_0, b0_1)) fun y232 =>
   cond (!y232)
   (Option.bind (idx x0 x5) fun _ =>
    nx (m_slices_DeleteFunc_Simpl_StripStep_impl_StripStep__impl_Strip_steps_1_6 (List.set x0 (0 + (Int.toNat x5)) y231) (IntKind.wrap IntKind.i64 (x5 + (1 : Int))) (IntKind.wrap IntKind.i64 (x6 + (1 : Int))) b0_0 b0_1 (List.set o (0 + (Int.toNat x5)) y231)))
   (nx (m_slices_DeleteFunc_Simpl_StripStep_impl_StripStep__impl_Strip_steps_1_6 x0 x5 (IntKind.wrap IntKind.i64 (x6 + (1 : Int))) b0_0 b0_1 o)))
  (hx.1 (d_slices_DeleteFunc_Simpl_StripStep_impl_StripStep__impl_Strip_steps_1_6_0 x0 x5 o))
noncomputable def t_slices_DeleteFunc_Simpl_StripStep_impl_StripStep__impl_Strip_steps_1_6 {R : Type} (nx : s_slices_DeleteFunc_Simpl_StripStep_impl_StripStep__impl_Strip_steps_1_6.T → Option R) (hx : exH R x_slices_DeleteFunc_Simpl_StripStep_impl_StripStep__impl_Strip_steps_1_6) (z : s_slices_DeleteFunc_Simpl_StripStep_impl_StripStep__impl_Strip_steps_1_6.T) : Option R := u_slices_DeleteFunc_Simpl_StripStep_impl_StripStep__impl_Strip_steps_1_6 nx hx z.1.1.1 z.1.2.2.1.1 z.1.2.2.2.1.1 z.2.1.1.1 z.2.1.1.2.1 z.2.2.1
theorem nat_slices_DeleteFunc_Simpl_StripStep_impl_StripStep__impl_Strip_steps_1_6 : Natural @t_slices_DeleteFunc_Simpl_StripStep_impl_StripStep__impl_Strip_steps_1_6 := fun R nx hx z => by
  show u_slices_DeleteFunc_Simpl_StripStep_impl_StripStep__impl_Strip_steps_1_6 nx hx z.1.1.1 z.1.2.2.1.1 z.1.2.2.2.1.1 z.2.1.1.1 z.2.1.1.2.1 z.2.2.1 = (u_slices_DeleteFunc_Simpl_StripStep_impl_StripStep__impl_Strip_steps_1_6 (fun y => some (.inl y)) (hIn x_slices_DeleteFunc_Simpl_StripStep_impl_StripStep__impl_Strip_steps_1_6 fun x => some (.inr x)) z.1.1.1 z.1.2.2.1.1 z.1.2.2.2.1.1 z.2.1.1.1 z.2.1.1.2.1 z.2.2.1).bind (goOn nx hx)
  unfold u_slices_DeleteFunc_Simpl_StripStep_impl_StripStep__impl_Strip_steps_1_6
  exact nat_cond (nat_bind fun _ => nat_bind fun _ => nat_cond (nat_bind fun _ => rfl) (rfl)) (rfl)
noncomputable def w_slices_DeleteFunc_Simpl_StripStep_impl_StripStep__impl_Strip_steps_1_6 : s_slices_DeleteFunc_Simpl_StripStep_impl_StripStep__impl_Strip_steps_1_6.T → Option (exT x_slices_DeleteFunc_Simpl_StripStep_impl_StripStep__impl_Strip_steps_1_6) := wOf @t_slices_DeleteFunc_Simpl_StripStep_impl_StripStep__impl_Strip_steps_1_6
theorem wq_slices_DeleteFunc_Simpl_StripStep_impl_StripStep__impl_Strip_steps_1_6 (x0 : List (Int × Int)) (x5 : Int) (x6 : Int) (b0_0 : List Int) (b0_1 : List Int) (o : List (Int × Int)) : w_slices_DeleteFunc_Simpl_StripStep_impl_StripStep__impl_Strip_steps_1_6 (m_slices_DeleteFunc_Simpl_StripStep_impl_StripStep__impl_Strip_steps_1_6 x0 x5 x6 b0_0 b0_1 o) = u_slices_DeleteFunc_Simpl_StripStep_impl_StripStep__impl_Strip_steps_1_6 w_slices_DeleteFunc_Simpl_StripStep_impl_StripStep__impl_Strip_steps_1_6 (hIn x_slices_DeleteFunc_Simpl_StripStep_impl_StripStep__impl_Strip_steps_1_6 some) x0 x5 x6 b0_0 b0_1 o := wOf_eq nat_slices_DeleteFunc_Simpl_StripStep_impl_StripStep__impl_Strip_steps_1_6 _
def lh_slices_DeleteFunc_Simpl_StripStep_impl_StripStep__impl_Strip_steps_1_6 : LoopHint := ⟨[0, 1, 5, 6], [42], [0, 5], []⟩
noncomputable def h_slices_DeleteFunc_Simpl_StripStep_impl_StripStep__impl_Strip_steps_1 : Hints Rv := ⟨fun k => match k with | 6 => lh_slices_DeleteFunc_Simpl_StripStep_impl_StripStep__impl_Strip_steps_1_6 | _ => ⟨[], [], [], []⟩, fun k => match k with | 6 => some (loopX s_slices_DeleteFunc_Simpl_StripStep_impl_StripStep__impl_Strip_steps_1_6 x_slices_DeleteFunc_Simpl_StripStep_impl_StripStep__impl_Strip_steps_1_6 w_slices_DeleteFunc_Simpl_StripStep_impl_StripStep__impl_Strip_steps_1_6) | _ => none⟩
theorem st_slices_DeleteFunc_Simpl_StripStep_impl_StripStep__impl_Strip_steps_1_6 (n : Nat) (z : s_slices_DeleteFunc_Simpl_StripStep_impl_StripStep__impl_Strip_steps_1_6.T) (k : Ex → Live → Option Rv) : loopN ⟨42, 43⟩ lh_slices_DeleteFunc_Simpl_StripStep_impl_StripStep__impl_Strip_steps_1_6 (den (tab C0 T_slices_DeleteFunc_Simpl_StripStep_impl_StripStep__impl_Strip_steps_1) ⟨42, 43⟩ h_slices_DeleteFunc_Simpl_StripStep_impl_StripStep__impl_Strip_steps_1 1 (loopOf Try.f64 5)) (n + 1) (s_slices_DeleteFunc_Simpl_StripStep_impl_StripStep__impl_Strip_steps_1_6.enc z) k =
    t_slices_DeleteFunc_Simpl_StripStep_impl_StripStep__impl_Strip_steps_1_6 (fun y => loopN ⟨42, 43⟩ lh_slices_DeleteFunc_Simpl_StripStep_impl_StripStep__impl_Strip_steps_1_6 (den (tab C0 T_slices_DeleteFunc_Simpl_StripStep_impl_StripStep__impl_Strip_steps_1) ⟨42, 43⟩ h_slices_DeleteFunc_Simpl_StripStep_impl_StripStep__impl_Strip_steps_1 1 (loopOf Try.f64 5)) n (s_slices_DeleteFunc_Simpl_StripStep_impl_StripStep__impl_Strip_steps_1_6.enc y) k) (hK k x_slices_DeleteFunc_Simpl_StripStep_impl_StripStep__impl_Strip_steps_1_6) z := by kernel_rfl
theorem hs_slices_DeleteFunc_Simpl_StripStep_impl_StripStep__impl_Strip_steps_1 : HintsOk (tab C0 T_slices_DeleteFunc_Simpl_StripStep_impl_StripStep__impl_Strip_steps_1) ⟨42, 43⟩ h_slices_DeleteFunc_Simpl_StripStep_impl_StripStep__impl_Strip_steps_1 1 (loops (codeOf Try.f64)) := by
  have hl : loops (codeOf Try.f64) = [loopOf Try.f64 5] := by kernel_rfl
  rw [hl]
  exact HintsOk.cons (n := 6) (lh := lh_slices_DeleteFunc_Simpl_StripStep_impl_StripStep__impl_Strip_steps_1_6) (S := loopX s_slices_DeleteFunc_Simpl_StripStep_impl_StripStep__impl_Strip_steps_1_6 x_slices_DeleteFunc_Simpl_StripStep_impl_StripStep__impl_Strip_steps_1_6 w_slices_DeleteFunc_Simpl_StripStep_impl_StripStep__impl_Strip_steps_1_6) (by kernel_rfl) rfl rfl (loopX_ok nat_slices_DeleteFunc_Simpl_StripStep_impl_StripStep__impl_Strip_steps_1_6 st_slices_DeleteFunc_Simpl_StripStep_impl_StripStep__impl_Strip_steps_1_6)
    (HintsOk.nil)
noncomputable def t_slices_DeleteFunc_Simpl_StripStep_impl_StripStep__impl_Strip_steps_1 {R : Type} (kx : (List (Int × Int)) → Option R) (a0 : List (Int × Int)) (a1_0 : ((List Int) × (List Int))) : Option R :=
  Option.bind (g_slices_IndexFunc_Simpl_StripStep_impl_StripStep__impl_Strip_steps_1 a0 a1_0) fun y224 =>
  cond (y224 == (-(1 : Int)))
  (kx a0)
  (Option.bind (w_slices_DeleteFunc_Simpl_StripStep_impl_StripStep__impl_Strip_steps_1_6 (m_slices_DeleteFunc_Simpl_StripStep_impl_StripStep__impl_Strip_steps_1_6 a0 y224 (IntKind.wrap IntKind.i64 (y224 + (1 : Int))) a1_0.1 a1_0.2 a0)) (exC x_slices_DeleteFunc_Simpl_StripStep_impl_StripStep__impl_Strip_steps_1_6
   (fun e234 =>
    cond (decide (0 < (List.length (e234.1.1.1 : List (Int × Int)))))
    (cond (decide ((0 : Int) ≤ (e234.1.2.1.1 : Int)))
     (cond (decide ((e234.1.2.1.1 : Int) ≤ (((List.length (e234.1.1.1 : List (Int × Int))) : Nat) : Int)))
      (cond (decide (0 < (List.length (overL 0 (0 + (Int.toNat (e234.1.2.1.1 : Int))) (List.replicate (List.length (List.drop (Int.toNat (e234.1.2.1.1 : Int)) (List.take (List.length (e234.1.1.1 : List (Int × Int))) (e234.1.1.1 : List (Int × Int))))) ((0 : Int), (0 : Int))) (e234.1.1.1 : List (Int × Int))))))
       (cond (decide ((0 : Int) ≤ (e234.1.2.1.1 : Int)))
        (cond (decide ((e234.1.2.1.1 : Int) ≤ (((List.length (overL 0 (0 + (Int.toNat (e234.1.2.1.1 : Int))) (List.replicate (List.length (List.drop (Int.toNat (e234.1.2.1.1 : Int)) (List.take (List.length (e234.1.1.1 : List (Int × Int))) (e234.1.1.1 : List (Int × Int))))) ((0 : Int), (0 : Int))) (e234.1.1.1 : List (Int × Int)))) : Nat) : Int)))
         (kx (List.drop 0 (List.take (Int.toNat (e234.1.2.1.1 : Int)) (overL 0 (0 + (Int.toNat (e234.1.2.1.1 : Int))) (List.replicate (List.length (List.drop (Int.toNat (e234.1.2.1.1 : Int)) (List.take (List.length (e234.1.1.1 : List (Int × Int))) (e234.1.1.1 : List (Int × Int))))) ((0 : Int), (0 : Int))) (e234.1.1.1 : List (Int × Int))))))
         (none))
        (none))
       (none))
      (none))
     (none))
    (none), ())))
noncomputable def g_slices_DeleteFunc_Simpl_StripStep_impl_StripStep__impl_Strip_steps_1 (a0 : List (Int × Int)) (a1_0 : ((List Int) × (List Int))) : Option ((List (Int × Int))) := t_slices_DeleteFunc_Simpl_StripStep_impl_StripStep__impl_Strip_steps_1 some a0 a1_0
theorem nat_slices_DeleteFunc_Simpl_StripStep_impl_StripStep__impl_Strip_steps_1 {R : Type} (kx : (List (Int × Int)) → Option R) (a0 : List (Int × Int)) (a1_0 : ((List Int) × (List Int))) : t_slices_DeleteFunc_Simpl_StripStep_impl_StripStep__impl_Strip_steps_1 kx a0 a1_0 = (g_slices_DeleteFunc_Simpl_StripStep_impl_StripStep__impl_Strip_steps_1 a0 a1_0).bind kx := by
  unfold g_slices_DeleteFunc_Simpl_StripStep_impl_StripStep__impl_Strip_steps_1 t_slices_DeleteFunc_Simpl_StripStep_impl_StripStep__impl_Strip_steps_1
  exact nat_bind fun _ => nat_cond (rfl) (nat_exC ⟨fun _ => nat_cond (nat_cond (nat_cond (nat_cond (nat_cond (nat_cond (rfl) (rfl)) (rfl)) (rfl)) (rfl)) (rfl)) (rfl), trivial⟩)
abbrev as_slices_DeleteFunc_Simpl_StripStep_impl_StripStep__impl_Strip_steps_1 : List AX := [.io (.pair (.int .i64) (.int .i64)), .clo 65 [(.pair (.slice (.int .i64)) (.slice (.int .i64)))]]
abbrev en_slices_DeleteFunc_Simpl_StripStep_impl_StripStep__impl_Strip_steps_1 : (List (Int × Int)) → AV × List CV := fun b => (.one ⟨false, [(.own (.pair (.int .i64) (.int .i64)) b)]⟩, [.undef])
noncomputable abbrev k_slices_DeleteFunc_Simpl_StripStep_impl_StripStep__impl_Strip_steps_1 : Contract := .fx as_slices_DeleteFunc_Simpl_StripStep_impl_StripStep__impl_Strip_steps_1 ((List (Int × Int))) (fun z => g_slices_DeleteFunc_Simpl_StripStep_impl_StripStep__impl_Strip_steps_1 z.1 z.2.1.1) en_slices_DeleteFunc_Simpl_StripStep_impl_StripStep__impl_Strip_steps_1
theorem r_slices_DeleteFunc_Simpl_StripStep_impl_StripStep__impl_Strip_steps_1 (z : argsX as_slices_DeleteFunc_Simpl_StripStep_impl_StripStep__impl_Strip_steps_1) : runF (tab C0 T_slices_DeleteFunc_Simpl_StripStep_impl_StripStep__impl_Strip_steps_1) h_slices_DeleteFunc_Simpl_StripStep_impl_StripStep__impl_Strip_steps_1 1 Try.f64 (lentOf as_slices_DeleteFunc_Simpl_StripStep_impl_StripStep__impl_Strip_steps_1) (xBoxes as_slices_DeleteFunc_Simpl_StripStep_impl_StripStep__impl_Strip_steps_1 z) (xVals as_slices_DeleteFunc_Simpl_StripStep_impl_StripStep__impl_Strip_steps_1 0 z) K3 = t_slices_DeleteFunc_Simpl_StripStep_impl_StripStep__impl_Strip_steps_1 (fun b => some (en_slices_DeleteFunc_Simpl_StripStep_impl_StripStep__impl_Strip_steps_1 b)) z.1 z.2.1.1 := by kernel_rfl
theorem so_slices_DeleteFunc_Simpl_StripStep_impl_StripStep__impl_Strip_steps_1 : Sound C0 64 k_slices_DeleteFunc_Simpl_StripStep_impl_StripStep__impl_Strip_steps_1 :=
  Sound.fxTake a_slices_DeleteFunc_Simpl_StripStep_impl_StripStep__impl_Strip_steps_1 mixed Try.func64 (by kernel_rfl) (by kernel_rfl) h_slices_DeleteFunc_Simpl_StripStep_impl_StripStep__impl_Strip_steps_1 1 hs_slices_DeleteFunc_Simpl_StripStep_impl_StripStep__impl_Strip_steps_1 (fun z => (r_slices_DeleteFunc_Simpl_StripStep_impl_StripStep__impl_Strip_steps_1 z).trans (nat_slices_DeleteFunc_Simpl_StripStep_impl_StripStep__impl_Strip_steps_1 _ z.1 z.2.1.1))

/-! ### F41 (impl.Strip).steps -/
noncomputable def T_impl_Strip_steps : List (FuncId × Contract) := [(63, k_impl_length_int64), (64, k_slices_DeleteFunc_Simpl_StripStep_impl_StripStep__impl_Strip_steps_1)]
theorem a_impl_Strip_steps : AllSound C0 T_impl_Strip_steps := .cons so_impl_length_int64 (.cons so_slices_DeleteFunc_Simpl_StripStep_impl_StripStep__impl_Strip_steps_1 (.nil))
abbrev s_impl_Strip_steps_5 : LS := ⟨[(false, [(.ptr 1 0)]), (false, [(.int .i64)]), (false, [(.own (.pair (.int .i64) (.int .i64)))]), (false, [(.int .i64)])], [(false, [(.sl (.int .i64)), (.sl (.int .i64))])], []⟩
abbrev e_impl_Strip_steps_5_0 : LS := ⟨[(false, [(.ptr 1 0)]), (false, [(.int .i64)]), (false, [(.own (.pair (.int .i64) (.int .i64)))])], [(false, [(.sl (.int .i64)), (.sl (.int .i64))])], []⟩
abbrev d_impl_Strip_steps_5_0 (v0 : Int) (v1 : List (Int × Int)) (v2 : List Int) (v3 : List Int) : e_impl_Strip_steps_5_0.T := ((((), ()), (v0, ()), (v1, ()), ()), ((v2, v3, ()), ()), ())
abbrev x_impl_Strip_steps_5 : List (Ex × LS) := [(.exit 0, e_impl_Strip_steps_5_0)]
abbrev m_impl_Strip_steps_5 (x3 : Int) (x4 : List (Int × Int)) (x5 : Int) (b0_0 : List Int) (b0_1 : List Int) : s_impl_Strip_steps_5.T := ((((), ()), (x3, ()), (x4, ()), (x5, ()), ()), ((b0_0, b0_1, ()), ()), ())
noncomputable def u_impl_Strip_steps_5 {R : Type} (nx : s_impl_Strip_steps_5.T → Option R) (hx : exH R x_impl_Strip_steps_5) (x3 : Int) (x4 : List (Int × Int)) (x5 : Int) (b0_0 : List Int) (b0_1 : List Int) : Option R :=
  cond (decide (x5 ≤ (IntKind.wrap IntKind.i64 (x3 - (2 : Int)))))
  (cond (decide ((((List.length x4) + (List.length [((1 : Int), x5)])) * 16) ≤ 70368744177664))
   (cond (decide (((List.length x4) + (List.length [((1 : Int), x5)])) ≤ 70368744177664))
    (nx (m_impl_Strip_steps_5 x3 (x4 ++ [((1 : Int), x5)]) (IntKind.wrap IntKind.i64 (x5 + (1 : Int))) b0_0 b0_1))
    (none))
   (none))
  (hx.1 (d_impl_Strip_steps_5_0 x3 x4 b0_0 b0_1))
noncomputable def t_impl_Strip_steps_5 {R : Type} (nx : s_impl_Strip_steps_5.T → Option R) (hx : exH R x_impl_Strip_steps_5) (z : s_impl_Strip_steps_5.T) : Option R := u_impl_Strip_steps_5 nx hx z.1.2.1.1 z.1.2.2.1.1 z.1.2.2.2.1.1 z.2.1.1.1 z.2.1.1.2.1
theorem nat_impl_Strip_steps_5 : Natural @t_impl_Strip_steps_5 := fun R nx hx z => by
  show u_impl_Strip_steps_5 nx hx z.1.2.1.1 z.1.2.2.1.1 z.1.2.2.2.1.1 z.2.1.1.1 z.2.1.1.2.1 = (u_impl_Strip_steps_5 (fun y => some (.inl y)) (hIn x_impl_Strip_steps_5 fun x => some (.inr x)) z.1.2.1.1 z.1.2.2.1.1 z.1.2.2.2.1.1 z.2.1.1.1 z.2.1.1.2.1).bind (goOn nx hx)
  unfold u_impl_Strip_steps_5
  exact nat_cond (nat_cond (nat_cond (rfl) (rfl)) (rfl)) (rfl)
noncomputable def w_impl_Strip_steps_5 : s_impl_Strip_steps_5.T → Option (exT x_impl_Strip_steps_5) := wOf @t_impl_Strip_steps_5
theorem wq_impl_Strip_steps_5 (x3 : Int) (x4 : List (Int × Int)) (x5 : Int) (b0_0 : List Int) (b0_1 : List Int) : w_impl_Strip_steps_5 (m_impl_Strip_steps_5 x3 x4 x5 b0_0 b0_1) = u_impl_Strip_steps_5 w_impl_Strip_steps_5 (hIn x_impl_Strip_steps_5 some) x3 x4 x5 b0_0 b0_1 := wOf_eq nat_impl_Strip_steps_5 _
def lh_impl_Strip_steps_5 : LoopHint := ⟨[1, 3, 4, 5], [1], [1, 3, 4], [1]⟩
noncomputable def h_impl_Strip_steps : Hints Rv := ⟨fun k => match k with | 5 => lh_impl_Strip_steps_5 | _ => ⟨[], [], [], []⟩, fun k => match k with | 5 => some (loopX s_impl_Strip_steps_5 x_impl_Strip_steps_5 w_impl_Strip_steps_5) | _ => none⟩
theorem st_impl_Strip_steps_5 (n : Nat) (z : s_impl_Strip_steps_5.T) (k : Ex → Live → Option Rv) : loopN ⟨31, 31⟩ lh_impl_Strip_steps_5 (den (tab C0 T_impl_Strip_steps) ⟨31, 31⟩ h_impl_Strip_steps 1 (loopOf Try.f41 4)) (n + 1) (s_impl_Strip_steps_5.enc z) k =
    t_impl_Strip_steps_5 (fun y => loopN ⟨31, 31⟩ lh_impl_Strip_steps_5 (den (tab C0 T_impl_Strip_steps) ⟨31, 31⟩ h_impl_Strip_steps 1 (loopOf Try.f41 4)) n (s_impl_Strip_steps_5.enc y) k) (hK k x_impl_Strip_steps_5) z := by kernel_rfl
theorem hs_impl_Strip_steps : HintsOk (tab C0 T_impl_Strip_steps) ⟨31, 31⟩ h_impl_Strip_steps 1 (loops (codeOf Try.f41)) := by
  have hl : loops (codeOf Try.f41) = [loopOf Try.f41 4] := by kernel_rfl
  rw [hl]
  exact HintsOk.cons (n := 5) (lh := lh_impl_Strip_steps_5) (S := loopX s_impl_Strip_steps_5 x_impl_Strip_steps_5 w_impl_Strip_steps_5) (by kernel_rfl) rfl rfl (loopX_ok nat_impl_Strip_steps_5 st_impl_Strip_steps_5)
    (HintsOk.nil)
noncomputable def t_impl_Strip_steps {R : Type} (kx : (List (Int × Int)) → Option R) (a0 : ((List Int) × (List Int))) : Option R :=
  Option.bind (g_impl_length_int64 a0.1) fun y182 =>
  Option.bind (w_impl_Strip_steps_5 (m_impl_Strip_steps_5 y182 [((2 : Int), (0 : Int))] (1 : Int) a0.1 a0.2)) (exC x_impl_Strip_steps_5
  (fun e188 =>
   cond (decide ((((List.length (e188.1.2.2.1.1 : List (Int × Int))) + (List.length [((3 : Int), (IntKind.wrap IntKind.i64 ((e188.1.2.1.1 : Int) - (1 : Int))))])) * 16) ≤ 70368744177664))
   (cond (decide (((List.length (e188.1.2.2.1.1 : List (Int × Int))) + (List.length [((3 : Int), (IntKind.wrap IntKind.i64 ((e188.1.2.1.1 : Int) - (1 : Int))))])) ≤ 70368744177664))
    (cond (decide ((List.length ((e188.1.2.2.1.1 : List (Int × Int)) ++ [((3 : Int), (IntKind.wrap IntKind.i64 ((e188.1.2.1.1 : Int) - (1 : Int))))])) = (List.length ((e188.1.2.2.1.1 : List (Int × Int)) ++ [((3 : Int), (IntKind.wrap IntKind.i64 ((e188.1.2.1.1 : Int) - (1 : Int))))]))))
     (Option.bind (g_slices_DeleteFunc_Simpl_StripStep_impl_StripStep__impl_Strip_steps_1 ((e188.1.2.2.1.1 : List (Int × Int)) ++ [((3 : Int), (IntKind.wrap IntKind.i64 ((e188.1.2.1.1 : Int) - (1 : Int))))]) ((e188.2.1.1.1 : List Int), (e188.2.1.1.2.1 : List Int))) fun y238 =>
      kx y238)
     (none))
    (none))
   (none), ()))
noncomputable def g_impl_Strip_steps (a0 : ((List Int) × (List Int))) : Option ((List (Int × Int))) := t_impl_Strip_steps some a0
theorem nat_impl_Strip_steps {R : Type} (kx : (List (Int × Int)) → Option R) (a0 : ((List Int) × (List Int))) : t_impl_Strip_steps kx a0 = (g_impl_Strip_steps a0).bind kx := by
  unfold g_impl_Strip_steps t_impl_Strip_steps
  exact nat_bind fun _ => nat_exC ⟨fun _ => nat_cond (nat_cond (nat_cond (nat_bind fun _ => rfl) (rfl)) (rfl)) (rfl), trivial⟩
abbrev as_impl_Strip_steps : List AX := [.val true (.pair (.slice (.int .i64)) (.slice (.int .i64)))]
abbrev en_impl_Strip_steps : (List (Int × Int)) → AV × List CV := fun b => (.one ⟨false, [(.own (.pair (.int .i64) (.int .i64)) b)]⟩, [])
noncomputable abbrev k_impl_Strip_steps : Contract := .fx as_impl_Strip_steps ((List (Int × Int))) (fun z => g_impl_Strip_steps z.1) en_impl_Strip_steps
theorem r_impl_Strip_steps (z : argsX as_impl_Strip_steps) : runF (tab C0 T_impl_Strip_steps) h_impl_Strip_steps 1 Try.f41 (lentOf as_impl_Strip_steps) (xBoxes as_impl_Strip_steps z) (xVals as_impl_Strip_steps 0 z) K2 = t_impl_Strip_steps (fun b => some (en_impl_Strip_steps b)) z.1 := by kernel_rfl
theorem so_impl_Strip_steps : Sound C0 41 k_impl_Strip_steps :=
  Sound.fx a_impl_Strip_steps mixed Try.func41 (by kernel_rfl) (by kernel_rfl) h_impl_Strip_steps 1 hs_impl_Strip_steps (fun z => (r_impl_Strip_steps z).trans (nat_impl_Strip_steps _ z.1))

/-! ### F80 slices.Insert[[]int64,int64] -/
noncomputable def T_slices_Insert_Sint64_int64 : List (FuncId × Contract) := []
theorem a_slices_Insert_Sint64_int64 : AllSound C0 T_slices_Insert_Sint64_int64 := .nil
noncomputable def t_slices_Insert_Sint64_int64 {R : Type} (kx : (List Int) → Option R) (a0 : (List Int)) (a1 : Int) (a2 : (List Int)) : Option R :=
  cond (decide ((0 : Int) ≤ a1))
  (cond (decide (a1 ≤ (((List.length a0) : Nat) : Int)))
   (cond ((((List.length a2) : Nat) : Int) == (0 : Int))
    (kx a0)
    (cond (a1 == (((List.length a0) : Nat) : Int))
     (none)
     (none)))
   (none))
  (none)
noncomputable def g_slices_Insert_Sint64_int64 (a0 : (List Int)) (a1 : Int) (a2 : (List Int)) : Option ((List Int)) := t_slices_Insert_Sint64_int64 some a0 a1 a2
theorem nat_slices_Insert_Sint64_int64 {R : Type} (kx : (List Int) → Option R) (a0 : (List Int)) (a1 : Int) (a2 : (List Int)) : t_slices_Insert_Sint64_int64 kx a0 a1 a2 = (g_slices_Insert_Sint64_int64 a0 a1 a2).bind kx := by
  unfold g_slices_Insert_Sint64_int64 t_slices_Insert_Sint64_int64
  exact nat_cond (nat_cond (nat_cond (rfl) (nat_cond (rfl) (rfl))) (rfl)) (rfl)
abbrev as_slices_Insert_Sint64_int64 : List AX := [.val false (.slice (.int .i64)), .val false (.int .i64), .val false (.slice (.int .i64))]
abbrev en_slices_Insert_Sint64_int64 : (List Int) → AV × List CV := fun b => (.one ⟨false, [(.sl (.int .i64) b)]⟩, [])
noncomputable abbrev k_slices_Insert_Sint64_int64 : Contract := .fx as_slices_Insert_Sint64_int64 ((List Int)) (fun z => g_slices_Insert_Sint64_int64 z.1 z.2.1 z.2.2.1) en_slices_Insert_Sint64_int64
theorem r_slices_Insert_Sint64_int64 (z : argsX as_slices_Insert_Sint64_int64) : runF (tab C0 T_slices_Insert_Sint64_int64) noHints 1 Try.f80 (lentOf as_slices_Insert_Sint64_int64) (xBoxes as_slices_Insert_Sint64_int64 z) (xVals as_slices_Insert_Sint64_int64 0 z) K2 = t_slices_Insert_Sint64_int64 (fun b => some (en_slices_Insert_Sint64_int64 b)) z.1 z.2.1 z.2.2.1 := by kernel_rfl
theorem so_slices_Insert_Sint64_int64 : Sound C0 80 k_slices_Insert_Sint64_int64 :=
  Sound.fx a_slices_Insert_Sint64_int64 mixed Try.func80 (by kernel_rfl) (by kernel_rfl) noHints 1 noHints_ok (fun z => (r_slices_Insert_Sint64_int64 z).trans (nat_slices_Insert_Sint64_int64 _ z.1 z.2.1 z.2.2.1))

/-! ### F67 slices.Replace[[]int64,int64] -/
noncomputable def T_slices_Replace_Sint64_int64 : List (FuncId × Contract) := [(80, k_slices_Insert_Sint64_int64)]
theorem a_slices_Replace_Sint64_int64 : AllSound C0 T_slices_Replace_Sint64_int64 := .cons so_slices_Insert_Sint64_int64 (.nil)
noncomputable def t_slices_Replace_Sint64_int64 {R : Type} (kx : (List Int) → Option R) (a0 : List Int) (a1 : Int) (a2 : Int) (a3 : (List Int)) : Option R :=
  cond (decide (0 < (List.length a0)))
  (cond (decide ((0 : Int) ≤ a1))
   (cond (decide (a1 ≤ a2))
    (cond (decide (a2 ≤ (((List.length a0) : Nat) : Int)))
     (cond (a1 == a2)
      (Option.bind (g_slices_Insert_Sint64_int64 a0 a1 a3) fun _ =>
       none)
      (cond (a2 == (((List.length a0) : Nat) : Int))
       (cond (decide (0 < (List.length a0)))
        (cond (decide ((0 : Int) ≤ a1))
         (cond (decide (a1 ≤ (((List.length a0) : Nat) : Int)))
          (cond (decide ((((0 + 0) + (List.length (List.drop 0 (List.take (Int.toNat a1) a0)))) + (List.length a3)) ≤ (List.length a0)))
           (cond (decide ((((List.length ((List.drop 0 (List.take (Int.toNat a1) a0)) ++ a3)) : Nat) : Int) < (((List.length (overL 0 ((0 + 0) + (List.length (List.drop 0 (List.take (Int.toNat a1) a0)))) a3 a0)) : Nat) : Int)))
            (cond (decide (0 < (List.length (overL 0 ((0 + 0) + (List.length (List.drop 0 (List.take (Int.toNat a1) a0)))) a3 a0))))
             (cond (decide ((((List.length ((List.drop 0 (List.take (Int.toNat a1) a0)) ++ a3)) : Nat) : Int) ≤ (((List.length (overL 0 ((0 + 0) + (List.length (List.drop 0 (List.take (Int.toNat a1) a0)))) a3 a0)) : Nat) : Int)))
              (kx (overL (0 + 0) (0 + (Int.toNat (((List.length ((List.drop 0 (List.take (Int.toNat a1) a0)) ++ a3)) : Nat) : Int))) (List.replicate (List.length (List.drop (Int.toNat (((List.length ((List.drop 0 (List.take (Int.toNat a1) a0)) ++ a3)) : Nat) : Int)) (List.take (List.length (overL 0 ((0 + 0) + (List.length (List.drop 0 (List.take (Int.toNat a1) a0)))) a3 a0)) (overL 0 ((0 + 0) + (List.length (List.drop 0 (List.take (Int.toNat a1) a0)))) a3 a0)))) (0 : Int)) ((List.drop 0 (List.take (Int.toNat a1) a0)) ++ a3)))
              (none))
             (none))
            (kx ((List.drop 0 (List.take (Int.toNat a1) a0)) ++ a3)))
           (cond (decide ((((List.length (List.drop 0 (List.take (Int.toNat a1) a0))) + (List.length a3)) * 8) ≤ 70368744177664))
            (cond (decide (((List.length (List.drop 0 (List.take (Int.toNat a1) a0))) + (List.length a3)) ≤ 70368744177664))
             (none)
             (none))
            (none)))
          (none))
         (none))
        (none))
       (cond (decide (0 < (List.length a0)))
        (cond (decide ((0 : Int) ≤ a1))
         (cond (decide (a1 ≤ (((List.length a0) : Nat) : Int)))
          (cond (decide (0 < (List.length a0)))
           (cond (decide ((0 : Int) ≤ a2))
            (cond (decide (a2 ≤ (((List.length a0) : Nat) : Int)))
             (cond (decide ((IntKind.wrap IntKind.i64 ((IntKind.wrap IntKind.i64 ((((List.length (List.drop 0 (List.take (Int.toNat a1) a0))) : Nat) : Int) + (((List.length a3) : Nat) : Int))) + (((List.length (List.drop (Int.toNat a2) (List.take (List.length a0) a0))) : Nat) : Int))) ≤ (((List.length a0) : Nat) : Int)))
              (cond (decide (0 < (List.length a0)))
               (cond (decide ((0 : Int) ≤ (IntKind.wrap IntKind.i64 ((IntKind.wrap IntKind.i64 ((((List.length (List.drop 0 (List.take (Int.toNat a1) a0))) : Nat) : Int) + (((List.length a3) : Nat) : Int))) + (((List.length (List.drop (Int.toNat a2) (List.take (List.length a0) a0))) : Nat) : Int)))))
                (cond (decide ((IntKind.wrap IntKind.i64 ((IntKind.wrap IntKind.i64 ((((List.length (List.drop 0 (List.take (Int.toNat a1) a0))) : Nat) : Int) + (((List.length a3) : Nat) : Int))) + (((List.length (List.drop (Int.toNat a2) (List.take (List.length a0) a0))) : Nat) : Int))) ≤ (((List.length a0) : Nat) : Int)))
                 (cond (decide ((IntKind.wrap IntKind.i64 (a1 + (((List.length a3) : Nat) : Int))) ≤ a2))
                  (cond (decide ((0 : Int) ≤ a1))
                   (cond (decide (a1 ≤ (((List.length (List.drop 0 (List.take (Int.toNat (IntKind.wrap IntKind.i64 ((IntKind.wrap IntKind.i64 ((((List.length (List.drop 0 (List.take (Int.toNat a1) a0))) : Nat) : Int) + (((List.length a3) : Nat) : Int))) + (((List.length (List.drop (Int.toNat a2) (List.take (List.length a0) a0))) : Nat) : Int)))) a0))) : Nat) : Int)))
                    (cond (decide ((List.length a3) ≤ (List.length (List.drop (Int.toNat a1) (List.take (List.length (List.drop 0 (List.take (Int.toNat (IntKind.wrap IntKind.i64 ((IntKind.wrap IntKind.i64 ((((List.length (List.drop 0 (List.take (Int.toNat a1) a0))) : Nat) : Int) + (((List.length a3) : Nat) : Int))) + (((List.length (List.drop (Int.toNat a2) (List.take (List.length a0) a0))) : Nat) : Int)))) a0))) (List.drop 0 (List.take (Int.toNat (IntKind.wrap IntKind.i64 ((IntKind.wrap IntKind.i64 ((((List.length (List.drop 0 (List.take (Int.toNat a1) a0))) : Nat) : Int) + (((List.length a3) : Nat) : Int))) + (((List.length (List.drop (Int.toNat a2) (List.take (List.length a0) a0))) : Nat) : Int)))) a0)))))))
                     (cond (decide ((0 : Int) ≤ (IntKind.wrap IntKind.i64 (a1 + (((List.length a3) : Nat) : Int)))))
                      (cond (decide ((IntKind.wrap IntKind.i64 (a1 + (((List.length a3) : Nat) : Int))) ≤ (((List.length (overL (0 + 0) ((0 + 0) + (Int.toNat a1)) a3 (List.drop 0 (List.take (Int.toNat (IntKind.wrap IntKind.i64 ((IntKind.wrap IntKind.i64 ((((List.length (List.drop 0 (List.take (Int.toNat a1) a0))) : Nat) : Int) + (((List.length a3) : Nat) : Int))) + (((List.length (List.drop (Int.toNat a2) (List.take (List.length a0) a0))) : Nat) : Int)))) a0)))) : Nat) : Int)))
                       (cond (decide (0 < (List.length (overL 0 ((0 + 0) + (Int.toNat a1)) a3 a0))))
                        (cond (decide ((0 : Int) ≤ a2))
                         (cond (decide (a2 ≤ (((List.length (overL 0 ((0 + 0) + (Int.toNat a1)) a3 a0)) : Nat) : Int)))
                          (cond (decide ((List.length (List.drop (Int.toNat a2) (List.take (List.length (overL 0 ((0 + 0) + (Int.toNat a1)) a3 a0)) (overL 0 ((0 + 0) + (Int.toNat a1)) a3 a0)))) ≤ (List.length (List.drop (Int.toNat (IntKind.wrap IntKind.i64 (a1 + (((List.length a3) : Nat) : Int)))) (List.take (List.length (overL (0 + 0) ((0 + 0) + (Int.toNat a1)) a3 (List.drop 0 (List.take (Int.toNat (IntKind.wrap IntKind.i64 ((IntKind.wrap IntKind.i64 ((((List.length (List.drop 0 (List.take (Int.toNat a1) a0))) : Nat) : Int) + (((List.length a3) : Nat) : Int))) + (((List.length (List.drop (Int.toNat a2) (List.take (List.length a0) a0))) : Nat) : Int)))) a0)))) (overL (0 + 0) ((0 + 0) + (Int.toNat a1)) a3 (List.drop 0 (List.take (Int.toNat (IntKind.wrap IntKind.i64 ((IntKind.wrap IntKind.i64 ((((List.length (List.drop 0 (List.take (Int.toNat a1) a0))) : Nat) : Int) + (((List.length a3) : Nat) : Int))) + (((List.length (List.drop (Int.toNat a2) (List.take (List.length a0) a0))) : Nat) : Int)))) a0))))))))
                           (cond (decide (0 < (List.length (overL 0 ((0 + 0) + (Int.toNat (IntKind.wrap IntKind.i64 (a1 + (((List.length a3) : Nat) : Int))))) (List.drop (Int.toNat a2) (List.take (List.length (overL 0 ((0 + 0) + (Int.toNat a1)) a3 a0)) (overL 0 ((0 + 0) + (Int.toNat a1)) a3 a0))) (overL 0 ((0 + 0) + (Int.toNat a1)) a3 a0)))))
                            (cond (decide ((0 : Int) ≤ (IntKind.wrap IntKind.i64 ((IntKind.wrap IntKind.i64 ((((List.length (List.drop 0 (List.take (Int.toNat a1) a0))) : Nat) : Int) + (((List.length a3) : Nat) : Int))) + (((List.length (List.drop (Int.toNat a2) (List.take (List.length a0) a0))) : Nat) : Int)))))
                             (cond (decide ((IntKind.wrap IntKind.i64 ((IntKind.wrap IntKind.i64 ((((List.length (List.drop 0 (List.take (Int.toNat a1) a0))) : Nat) : Int) + (((List.length a3) : Nat) : Int))) + (((List.length (List.drop (Int.toNat a2) (List.take (List.length a0) a0))) : Nat) : Int))) ≤ (((List.length (overL 0 ((0 + 0) + (Int.toNat (IntKind.wrap IntKind.i64 (a1 + (((List.length a3) : Nat) : Int))))) (List.drop (Int.toNat a2) (List.take (List.length (overL 0 ((0 + 0) + (Int.toNat a1)) a3 a0)) (overL 0 ((0 + 0) + (Int.toNat a1)) a3 a0))) (overL 0 ((0 + 0) + (Int.toNat a1)) a3 a0))) : Nat) : Int)))
                              (kx (overL (0 + 0) (0 + (Int.toNat (IntKind.wrap IntKind.i64 ((IntKind.wrap IntKind.i64 ((((List.length (List.drop 0 (List.take (Int.toNat a1) a0))) : Nat) : Int) + (((List.length a3) : Nat) : Int))) + (((List.length (List.drop (Int.toNat a2) (List.take (List.length a0) a0))) : Nat) : Int))))) (List.replicate (List.length (List.drop (Int.toNat (IntKind.wrap IntKind.i64 ((IntKind.wrap IntKind.i64 ((((List.length (List.drop 0 (List.take (Int.toNat a1) a0))) : Nat) : Int) + (((List.length a3) : Nat) : Int))) + (((List.length (List.drop (Int.toNat a2) (List.take (List.length a0) a0))) : Nat) : Int)))) (List.take (List.length (overL 0 ((0 + 0) + (Int.toNat (IntKind.wrap IntKind.i64 (a1 + (((List.length a3) : Nat) : Int))))) (List.drop (Int.toNat a2) (List.take (List.length (overL 0 ((0 + 0) + (Int.toNat a1)) a3 a0)) (overL 0 ((0 + 0) + (Int.toNat a1)) a3 a0))) (overL 0 ((0 + 0) + (Int.toNat a1)) a3 a0))) (overL 0 ((0 + 0) + (Int.toNat (IntKind.wrap IntKind.i64 (a1 + (((List.length a3) : Nat) : Int))))) (List.drop (Int.toNat a2) (List.take (List.length (overL 0 ((0 + 0) + (Int.toNat a1)) a3 a0)) (overL 0 ((0 + 0) + (Int.toNat a1)) a3 a0))) (overL 0 ((0 + 0) + (Int.toNat a1)) a3 a0))))) (0 : Int)) (overL (0 + 0) ((0 + 0) + (Int.toNat (IntKind.wrap IntKind.i64 (a1 + (((List.length a3) : Nat) : Int))))) (List.drop (Int.toNat a2) (List.take (List.length (overL 0 ((0 + 0) + (Int.toNat a1)) a3 a0)) (overL 0 ((0 + 0) + (Int.toNat a1)) a3 a0))) (overL (0 + 0) ((0 + 0) + (Int.toNat a1)) a3 (List.drop 0 (List.take (Int.toNat (IntKind.wrap IntKind.i64 ((IntKind.wrap IntKind.i64 ((((List.length (List.drop 0 (List.take (Int.toNat a1) a0))) : Nat) : Int) + (((List.length a3) : Nat) : Int))) + (((List.length (List.drop (Int.toNat a2) (List.take (List.length a0) a0))) : Nat) : Int)))) a0))))))
                              (none))
                             (none))
                            (none))
                           (none))
                          (none))
                         (none))
                        (none))
                       (none))
                      (none))
                     (none))
                    (none))
                   (none))
                  (cond (decide ((0 : Int) ≤ (IntKind.wrap IntKind.i64 (a1 + (((List.length a3) : Nat) : Int)))))
                   (cond (decide ((IntKind.wrap IntKind.i64 (a1 + (((List.length a3) : Nat) : Int))) ≤ (((List.length (List.drop 0 (List.take (Int.toNat (IntKind.wrap IntKind.i64 ((IntKind.wrap IntKind.i64 ((((List.length (List.drop 0 (List.take (Int.toNat a1) a0))) : Nat) : Int) + (((List.length a3) : Nat) : Int))) + (((List.length (List.drop (Int.toNat a2) (List.take (List.length a0) a0))) : Nat) : Int)))) a0))) : Nat) : Int)))
                    (none)
                    (none))
                   (none)))
                 (none))
                (none))
               (none))
              (none))
             (none))
            (none))
           (none))
          (none))
         (none))
        (none))))
     (none))
    (none))
   (none))
  (none)
noncomputable def g_slices_Replace_Sint64_int64 (a0 : List Int) (a1 : Int) (a2 : Int) (a3 : (List Int)) : Option ((List Int)) := t_slices_Replace_Sint64_int64 some a0 a1 a2 a3
theorem nat_slices_Replace_Sint64_int64 {R : Type} (kx : (List Int) → Option R) (a0 : List Int) (a1 : Int) (a2 : Int) (a3 : (List Int)) : t_slices_Replace_Sint64_int64 kx a0 a1 a2 a3 = (g_slices_Replace_Sint64_int64 a0 a1 a2 a3).bind kx := by
  unfold g_slices_Replace_Sint64_int64 t_slices_Replace_Sint64_int64
  exact nat_cond (nat_cond (nat_cond (nat_cond (nat_cond (nat_bind fun _ => rfl) (nat_cond (nat_cond (nat_cond (nat_cond (nat_cond (nat_cond (nat_cond (nat_cond (rfl) (rfl)) (rfl)) (rfl)) (nat_cond (nat_cond (rfl) (rfl)) (rfl))) (rfl)) (rfl)) (rfl)) (nat_cond (nat_cond (nat_cond (nat_cond (nat_cond (nat_cond (nat_cond (nat_cond (nat_cond (nat_cond (nat_cond (nat_cond (nat_cond (nat_cond (nat_cond (nat_cond (nat_cond (nat_cond (nat_cond (nat_cond (nat_cond (nat_cond (nat_cond (rfl) (rfl)) (rfl)) (rfl)) (rfl)) (rfl)) (rfl)) (rfl)) (rfl)) (rfl)) (rfl)) (rfl)) (rfl)) (nat_cond (nat_cond (rfl) (rfl)) (rfl))) (rfl)) (rfl)) (rfl)) (rfl)) (rfl)) (rfl)) (rfl)) (rfl)) (rfl)) (rfl)))) (rfl)) (rfl)) (rfl)) (rfl)
abbrev as_slices_Replace_Sint64_int64 : List AX := [.io (.int .i64), .val false (.int .i64), .val false (.int .i64), .val false (.slice (.int .i64))]
abbrev en_slices_Replace_Sint64_int64 : (List Int) → AV × List CV := fun b => (.one ⟨false, [(.own (.int .i64) b)]⟩, [.undef])
noncomputable abbrev k_slices_Replace_Sint64_int64 : Contract := .fx as_slices_Replace_Sint64_int64 ((List Int)) (fun z => g_slices_Replace_Sint64_int64 z.1 z.2.1 z.2.2.1 z.2.2.2.1) en_slices_Replace_Sint64_int64
theorem r_slices_Replace_Sint64_int64 (z : argsX as_slices_Replace_Sint64_int64) : runF (tab C0 T_slices_Replace_Sint64_int64) noHints 1 Try.f67 (lentOf as_slices_Replace_Sint64_int64) (xBoxes as_slices_Replace_Sint64_int64 z) (xVals as_slices_Replace_Sint64_int64 0 z) K3 = t_slices_Replace_Sint64_int64 (fun b => some (en_slices_Replace_Sint64_int64 b)) z.1 z.2.1 z.2.2.1 z.2.2.2.1 := by kernel_rfl
theorem so_slices_Replace_Sint64_int64 : Sound C0 67 k_slices_Replace_Sint64_int64 :=
  Sound.fxTake a_slices_Replace_Sint64_int64 mixed Try.func67 (by kernel_rfl) (by kernel_rfl) noHints 1 noHints_ok (fun z => (r_slices_Replace_Sint64_int64 z).trans (nat_slices_Replace_Sint64_int64 _ z.1 z.2.1 z.2.2.1 z.2.2.2.1))

/-! ### F68 slices.Delete[[]int64,int64] -/
noncomputable def T_slices_Delete_Sint64_int64 : List (FuncId × Contract) := []
theorem a_slices_Delete_Sint64_int64 : AllSound C0 T_slices_Delete_Sint64_int64 := .nil
noncomputable def t_slices_Delete_Sint64_int64 {R : Type} (kx : (List Int) → Option R) (a0 : List Int) (a1 : Int) (a2 : Int) : Option R :=
  cond (decide ((0 : Int) ≤ a1))
  (cond (decide (a1 ≤ a2))
   (cond (decide (a2 ≤ (((List.length a0) : Nat) : Int)))
    (cond (decide ((((List.length a0) : Nat) : Int) ≤ (((List.length a0) : Nat) : Int)))
     (cond (a1 == a2)
      (kx a0)
      (cond (decide (0 < (List.length a0)))
       (cond (decide ((0 : Int) ≤ a1))
        (cond (decide (a1 ≤ (((List.length a0) : Nat) : Int)))
         (cond (decide (0 < (List.length a0)))
          (cond (decide ((0 : Int) ≤ a2))
           (cond (decide (a2 ≤ (((List.length a0) : Nat) : Int)))
            (cond (decide ((((0 + 0) + (List.length (List.drop 0 (List.take (Int.toNat a1) a0)))) + (List.length (List.drop (Int.toNat a2) (List.take (List.length a0) a0)))) ≤ (List.length a0)))
             (cond (decide ((((List.length ((List.drop 0 (List.take (Int.toNat a1) a0)) ++ (List.drop (Int.toNat a2) (List.take (List.length a0) a0)))) : Nat) : Int) ≤ (((List.length a0) : Nat) : Int)))
              (cond (decide ((((List.length a0) : Nat) : Int) ≤ ((((List.length (overL 0 ((0 + 0) + (List.length (List.drop 0 (List.take (Int.toNat a1) a0)))) (List.drop (Int.toNat a2) (List.take (List.length a0) a0)) a0)) - (0 + 0)) : Nat) : Int)))
               (kx (overL (0 + 0) ((0 + 0) + (Int.toNat (((List.length ((List.drop 0 (List.take (Int.toNat a1) a0)) ++ (List.drop (Int.toNat a2) (List.take (List.length a0) a0)))) : Nat) : Int))) (List.replicate (List.length (List.drop (Int.toNat (((List.length ((List.drop 0 (List.take (Int.toNat a1) a0)) ++ (List.drop (Int.toNat a2) (List.take (List.length a0) a0)))) : Nat) : Int)) (List.take (Int.toNat (((List.length a0) : Nat) : Int)) (List.drop (0 + 0) (overL 0 ((0 + 0) + (List.length (List.drop 0 (List.take (Int.toNat a1) a0)))) (List.drop (Int.toNat a2) (List.take (List.length a0) a0)) a0))))) (0 : Int)) ((List.drop 0 (List.take (Int.toNat a1) a0)) ++ (List.drop (Int.toNat a2) (List.take (List.length a0) a0)))))
               (none))
              (none))
             (cond (decide ((((List.length (List.drop 0 (List.take (Int.toNat a1) a0))) + (List.length (List.drop (Int.toNat a2) (List.take (List.length a0) a0)))) * 8) ≤ 70368744177664))
              (cond (decide (((List.length (List.drop 0 (List.take (Int.toNat a1) a0))) + (List.length (List.drop (Int.toNat a2) (List.take (List.length a0) a0)))) ≤ 70368744177664))
               (cond (decide (0 < (List.length ((List.drop 0 (List.take (Int.toNat a1) a0)) ++ (List.drop (Int.toNat a2) (List.take (List.length a0) a0))))))
                (cond (decide ((((List.length ((List.drop 0 (List.take (Int.toNat a1) a0)) ++ (List.drop (Int.toNat a2) (List.take (List.length a0) a0)))) : Nat) : Int) ≤ (((List.length a0) : Nat) : Int)))
                 (cond (decide ((((List.length a0) : Nat) : Int) ≤ (((List.length ((List.drop 0 (List.take (Int.toNat a1) a0)) ++ (List.drop (Int.toNat a2) (List.take (List.length a0) a0)))) : Nat) : Int)))
                  (kx (overL 0 (0 + (Int.toNat (((List.length ((List.drop 0 (List.take (Int.toNat a1) a0)) ++ (List.drop (Int.toNat a2) (List.take (List.length a0) a0)))) : Nat) : Int))) (List.replicate (List.length (List.drop (Int.toNat (((List.length ((List.drop 0 (List.take (Int.toNat a1) a0)) ++ (List.drop (Int.toNat a2) (List.take (List.length a0) a0)))) : Nat) : Int)) (List.take (Int.toNat (((List.length a0) : Nat) : Int)) ((List.drop 0 (List.take (Int.toNat a1) a0)) ++ (List.drop (Int.toNat a2) (List.take (List.length a0) a0)))))) (0 : Int)) ((List.drop 0 (List.take (Int.toNat a1) a0)) ++ (List.drop (Int.toNat a2) (List.take (List.length a0) a0)))))
                  (none))
                 (none))
                (none))
               (none))
              (none)))
            (none))
           (none))
          (none))
         (none))
        (none))
       (none)))
     (none))
    (none))
   (none))
  (none)
noncomputable def g_slices_Delete_Sint64_int64 (a0 : List Int) (a1 : Int) (a2 : Int) : Option ((List Int)) := t_slices_Delete_Sint64_int64 some a0 a1 a2
theorem nat_slices_Delete_Sint64_int64 {R : Type} (kx : (List Int) → Option R) (a0 : List Int) (a1 : Int) (a2 : Int) : t_slices_Delete_Sint64_int64 kx a0 a1 a2 = (g_slices_Delete_Sint64_int64 a0 a1 a2).bind kx := by
  unfold g_slices_Delete_Sint64_int64 t_slices_Delete_Sint64_int64
  exact nat_cond (nat_cond (nat_cond (nat_cond (nat_cond (rfl) (nat_cond (nat_cond (nat_cond (nat_cond (nat_cond (nat_cond (nat_cond (nat_cond (nat_cond (rfl) (rfl)) (rfl)) (nat_cond (nat_cond (nat_cond (nat_cond (nat_cond (rfl) (rfl)) (rfl)) (rfl)) (rfl)) (rfl))) (rfl)) (rfl)) (rfl)) (rfl)) (rfl)) (rfl))) (rfl)) (rfl)) (rfl)) (rfl)
abbrev as_slices_Delete_Sint64_int64 : List AX := [.io (.int .i64), .val false (.int .i64), .val false (.int .i64)]
abbrev en_slices_Delete_Sint64_int64 : (List Int) → AV × List CV := fun b => (.one ⟨false, [(.own (.int .i64) b)]⟩, [.undef])
noncomputable abbrev k_slices_Delete_Sint64_int64 : Contract := .fx as_slices_Delete_Sint64_int64 ((List Int)) (fun z => g_slices_Delete_Sint64_int64 z.1 z.2.1 z.2.2.1) en_slices_Delete_Sint64_int64
theorem r_slices_Delete_Sint64_int64 (z : argsX as_slices_Delete_Sint64_int64) : runF (tab C0 T_slices_Delete_Sint64_int64) noHints 1 Try.f68 (lentOf as_slices_Delete_Sint64_int64) (xBoxes as_slices_Delete_Sint64_int64 z) (xVals as_slices_Delete_Sint64_int64 0 z) K3 = t_slices_Delete_Sint64_int64 (fun b => some (en_slices_Delete_Sint64_int64 b)) z.1 z.2.1 z.2.2.1 := by kernel_rfl
theorem so_slices_Delete_Sint64_int64 : Sound C0 68 k_slices_Delete_Sint64_int64 :=
  Sound.fxTake a_slices_Delete_Sint64_int64 mixed Try.func68 (by kernel_rfl) (by kernel_rfl) noHints 1 noHints_ok (fun z => (r_slices_Delete_Sint64_int64 z).trans (nat_slices_Delete_Sint64_int64 _ z.1 z.2.1 z.2.2.1))

/-! ### F47 (impl.Strip).apply -/
noncomputable def T_impl_Strip_apply : List (FuncId × Contract) := [(66, k_slices_Clone_Sint64_int64), (67, k_slices_Replace_Sint64_int64), (68, k_slices_Delete_Sint64_int64)]
theorem a_impl_Strip_apply : AllSound C0 T_impl_Strip_apply := .cons so_slices_Clone_Sint64_int64 (.cons so_slices_Replace_Sint64_int64 (.cons so_slices_Delete_Sint64_int64 (.nil)))
noncomputable def t_impl_Strip_apply {R : Type} (kx : ((List Int) × (List Int)) → Option R) (a0 : ((List Int) × (List Int))) (a1 : (Int × Int)) : Option R :=
  Option.bind (g_slices_Clone_Sint64_int64 a0.1) fun y244 =>
  Option.bind (g_slices_Clone_Sint64_int64 a0.2) fun y245 =>
  cond (a1.1 == (2 : Int))
  (cond (decide (0 < (List.length y244)))
   (cond (decide ((1 : Int) ≤ (((List.length y244) : Nat) : Int)))
    (cond (decide (0 < (List.length y245)))
     (cond (decide ((1 : Int) ≤ (((List.length y245) : Nat) : Int)))
      (kx ((List.drop (Int.toNat (1 : Int)) (List.take (List.length y244) y244)), (List.drop (Int.toNat (1 : Int)) (List.take (List.length y245) y245))))
      (none))
     (none))
    (none))
   (none))
  (cond (a1.1 == (3 : Int))
   (cond (decide (0 < (List.length y244)))
    (cond (decide ((0 : Int) ≤ a1.2))
     (cond (decide (a1.2 ≤ (((List.length y244) : Nat) : Int)))
      (cond (decide (0 < (List.length y245)))
       (cond (decide ((0 : Int) ≤ (IntKind.wrap IntKind.i64 (a1.2 - (1 : Int)))))
        (cond (decide ((IntKind.wrap IntKind.i64 (a1.2 - (1 : Int))) ≤ (((List.length y245) : Nat) : Int)))
         (kx ((List.drop 0 (List.take (Int.toNat a1.2) y244)), (List.drop 0 (List.take (Int.toNat (IntKind.wrap IntKind.i64 (a1.2 - (1 : Int)))) y245))))
         (none))
        (none))
       (none))
      (none))
     (none))
    (none))
   (Option.bind (idx y244 (IntKind.wrap IntKind.i64 (a1.2 - (1 : Int)))) fun y246 =>
    Option.bind (idx y244 a1.2) fun y247 =>
    Option.bind (idx y244 (IntKind.wrap IntKind.i64 (a1.2 + (1 : Int)))) fun y248 =>
    cond (decide ((List.length y244) = (List.length y244)))
    (Option.bind (g_slices_Replace_Sint64_int64 y244 (IntKind.wrap IntKind.i64 (a1.2 - (1 : Int))) (IntKind.wrap IntKind.i64 (a1.2 + (2 : Int))) [(IntKind.wrap IntKind.i64 ((IntKind.wrap IntKind.i64 (y246 - y247)) + y248))]) fun y257 =>
     cond (decide ((List.length y245) = (List.length y245)))
     (Option.bind (g_slices_Delete_Sint64_int64 y245 (IntKind.wrap IntKind.i64 (a1.2 - (1 : Int))) (IntKind.wrap IntKind.i64 (a1.2 + (1 : Int)))) fun y261 =>
      kx (y257, y261))
     (none))
    (none)))
noncomputable def g_impl_Strip_apply (a0 : ((List Int) × (List Int))) (a1 : (Int × Int)) : Option (((List Int) × (List Int))) := t_impl_Strip_apply some a0 a1
theorem nat_impl_Strip_apply {R : Type} (kx : ((List Int) × (List Int)) → Option R) (a0 : ((List Int) × (List Int))) (a1 : (Int × Int)) : t_impl_Strip_apply kx a0 a1 = (g_impl_Strip_apply a0 a1).bind kx := by
  unfold g_impl_Strip_apply t_impl_Strip_apply
  exact nat_bind fun _ => nat_bind fun _ => nat_cond (nat_cond (nat_cond (nat_cond (nat_cond (rfl) (rfl)) (rfl)) (rfl)) (rfl)) (nat_cond (nat_cond (nat_cond (nat_cond (nat_cond (nat_cond (nat_cond (rfl) (rfl)) (rfl)) (rfl)) (rfl)) (rfl)) (rfl)) (nat_bind fun _ => nat_bind fun _ => nat_bind fun _ => nat_cond (nat_bind fun _ => nat_cond (nat_bind fun _ => rfl) (rfl)) (rfl)))
abbrev as_impl_Strip_apply : List AX := [.val true (.pair (.slice (.int .i64)) (.slice (.int .i64))), .val true (.pair (.int .i64) (.int .i64))]
abbrev en_impl_Strip_apply : ((List Int) × (List Int)) → AV × List CV := fun b => (.one ⟨true, [(.own (.int .i64) b.1), (.own (.int .i64) b.2)]⟩, [])
noncomputable abbrev k_impl_Strip_apply : Contract := .fx as_impl_Strip_apply (((List Int) × (List Int))) (fun z => g_impl_Strip_apply z.1 z.2.1) en_impl_Strip_apply
theorem r_impl_Strip_apply (z : argsX as_impl_Strip_apply) : runF (tab C0 T_impl_Strip_apply) noHints 1 Try.f47 (lentOf as_impl_Strip_apply) (xBoxes as_impl_Strip_apply z) (xVals as_impl_Strip_apply 0 z) K2 = t_impl_Strip_apply (fun b => some (en_impl_Strip_apply b)) z.1 z.2.1 := by kernel_rfl
theorem so_impl_Strip_apply : Sound C0 47 k_impl_Strip_apply :=
  Sound.fx a_impl_Strip_apply mixed Try.func47 (by kernel_rfl) (by kernel_rfl) noHints 1 noHints_ok (fun z => (r_impl_Strip_apply z).trans (nat_impl_Strip_apply _ z.1 z.2.1))

/-! ### F55 (impl.Strip).reduce -/
noncomputable def T_impl_Strip_reduce : List (FuncId × Contract) := [(66, k_slices_Clone_Sint64_int64), (41, k_impl_Strip_steps), (47, k_impl_Strip_apply)]
theorem a_impl_Strip_reduce : AllSound C0 T_impl_Strip_reduce := .cons so_slices_Clone_Sint64_int64 (.cons so_impl_Strip_steps (.cons so_impl_Strip_apply (.nil)))
abbrev s_impl_Strip_reduce_4 : LS := ⟨[(false, [(.ptr 3 0)]), (false, [(.ptr 4 0)]), (false, [(.own (.pair (.int .i64) (.int .i64)))])], [(false, [(.own (.int .i64)), (.own (.int .i64))]), (false, [(.own (.int .i64)), (.own (.int .i64))])], []⟩
abbrev e_impl_Strip_reduce_4_0 : LS := ⟨[(false, [(.own (.pair (.int .i64) (.int .i64)))]), (false, [(.ptr 3 0)])], [(false, [(.own (.int .i64)), (.own (.int .i64))])], []⟩
abbrev d_impl_Strip_reduce_4_0 (v0 : List (Int × Int)) (v1 : List Int) (v2 : List Int) : e_impl_Strip_reduce_4_0.T := (((v0, ()), ((), ()), ()), ((v1, v2, ()), ()), ())
abbrev x_impl_Strip_reduce_4 : List (Ex × LS) := [(.ret, e_impl_Strip_reduce_4_0)]
abbrev m_impl_Strip_reduce_4 (x5 : List (Int × Int)) (b0_0 : List Int) (b0_1 : List Int) (b1_0 : List Int) (b1_1 : List Int) : s_impl_Strip_reduce_4.T := ((((), ()), ((), ()), (x5, ()), ()), ((b0_0, b0_1, ()), (b1_0, b1_1, ()), ()), ())
noncomputable def u_impl_Strip_reduce_4 {R : Type} (nx : s_impl_Strip_reduce_4.T → Option R) (hx : exH R x_impl_Strip_reduce_4) (x5 : List (Int × Int)) (b0_0 : List Int) (b0_1 : List Int) (b1_0 : List Int) (b1_1 : List Int) : Option R :=
  Option.bind (g_impl_Strip_steps (b1_0, b1_1)) fun y239 =>
  cond ((((List.length y239) : Nat) : Int) == (0 : Int))
  (hx.1 (d_impl_Strip_reduce_4_0 x5 b1_0 b1_1))
  (Option.bind (idx y239 (0 : Int)) fun y240 =>
   cond (decide ((((List.length x5) + (List.length [y240])) * 16) ≤ 70368744177664))
   (cond (decide (((List.length x5) + (List.length [y240])) ≤ 70368744177664))
    (Option.bind (idx y239 (0 : Int)) fun y241 =>
     Option.bind (g_impl_Strip_apply (b1_0, b1_1) y241) fun y262 =>
     nx (m_impl_Strip_reduce_4 (x5 ++ [y240]) b0_0 b0_1 y262.1 y262.2))
    (none))
   (none))
noncomputable def t_impl_Strip_reduce_4 {R : Type} (nx : s_impl_Strip_reduce_4.T → Option R) (hx : exH R x_impl_Strip_reduce_4) (z : s_impl_Strip_reduce_4.T) : Option R := u_impl_Strip_reduce_4 nx hx z.1.2.2.1.1 z.2.1.1.1 z.2.1.1.2.1 z.2.1.2.1.1 z.2.1.2.1.2.1
theorem nat_impl_Strip_reduce_4 : Natural @t_impl_Strip_reduce_4 := fun R nx hx z => by
  show u_impl_Strip_reduce_4 nx hx z.1.2.2.1.1 z.2.1.1.1 z.2.1.1.2.1 z.2.1.2.1.1 z.2.1.2.1.2.1 = (u_impl_Strip_reduce_4 (fun y => some (.inl y)) (hIn x_impl_Strip_reduce_4 fun x => some (.inr x)) z.1.2.2.1.1 z.2.1.1.1 z.2.1.1.2.1 z.2.1.2.1.1 z.2.1.2.1.2.1).bind (goOn nx hx)
  unfold u_impl_Strip_reduce_4
  exact nat_bind fun _ => nat_cond (rfl) (nat_bind fun _ => nat_cond (nat_cond (nat_bind fun _ => nat_bind fun _ => rfl) (rfl)) (rfl))
noncomputable def w_impl_Strip_reduce_4 : s_impl_Strip_reduce_4.T → Option (exT x_impl_Strip_reduce_4) := wOf @t_impl_Strip_reduce_4
theorem wq_impl_Strip_reduce_4 (x5 : List (Int × Int)) (b0_0 : List Int) (b0_1 : List Int) (b1_0 : List Int) (b1_1 : List Int) : w_impl_Strip_reduce_4 (m_impl_Strip_reduce_4 x5 b0_0 b0_1 b1_0 b1_1) = u_impl_Strip_reduce_4 w_impl_Strip_reduce_4 (hIn x_impl_Strip_reduce_4 some) x5 b0_0 b0_1 b1_0 b1_1 := wOf_eq nat_impl_Strip_reduce_4 _
def lh_impl_Strip_reduce_4 : LoopHint := ⟨[3, 4, 5], [3, 4], [2, 3], [3]⟩
noncomputable def h_impl_Strip_reduce : Hints Rv := ⟨fun k => match k with | 4 => lh_impl_Strip_reduce_4 | _ => ⟨[], [], [], []⟩, fun k => match k with | 4 => some (loopX s_impl_Strip_reduce_4 x_impl_Strip_reduce_4 w_impl_Strip_reduce_4) | _ => none⟩
theorem st_impl_Strip_reduce_4 (n : Nat) (z : s_impl_Strip_reduce_4.T) (k : Ex → Live → Option Rv) : loopN ⟨32, 32⟩ lh_impl_Strip_reduce_4 (den (tab C0 T_impl_Strip_reduce) ⟨32, 32⟩ h_impl_Strip_reduce 1 (loopOf Try.f55 3)) (n + 1) (s_impl_Strip_reduce_4.enc z) k =
    t_impl_Strip_reduce_4 (fun y => loopN ⟨32, 32⟩ lh_impl_Strip_reduce_4 (den (tab C0 T_impl_Strip_reduce) ⟨32, 32⟩ h_impl_Strip_reduce 1 (loopOf Try.f55 3)) n (s_impl_Strip_reduce_4.enc y) k) (hK k x_impl_Strip_reduce_4) z := by kernel_rfl
theorem hs_impl_Strip_reduce : HintsOk (tab C0 T_impl_Strip_reduce) ⟨32, 32⟩ h_impl_Strip_reduce 1 (loops (codeOf Try.f55)) := by
  have hl : loops (codeOf Try.f55) = [loopOf Try.f55 3] := by kernel_rfl
  rw [hl]
  exact HintsOk.cons (n := 4) (lh := lh_impl_Strip_reduce_4) (S := loopX s_impl_Strip_reduce_4 x_impl_Strip_reduce_4 w_impl_Strip_reduce_4) (by kernel_rfl) rfl rfl (loopX_ok nat_impl_Strip_reduce_4 st_impl_Strip_reduce_4)
    (HintsOk.nil)
noncomputable def t_impl_Strip_reduce {R : Type} (kx : (List (Int × Int)) × ((List Int) × (List Int)) → Option R) (a0 : ((List Int) × (List Int))) : Option R :=
  Option.bind (g_slices_Clone_Sint64_int64 a0.1) fun y174 =>
  Option.bind (g_slices_Clone_Sint64_int64 a0.2) fun y175 =>
  Option.bind (w_impl_Strip_reduce_4 (m_impl_Strip_reduce_4 [] [] [] y174 y175)) (exC x_impl_Strip_reduce_4
  (fun e263 =>
   kx ((e263.1.1.1 : List (Int × Int)), ((e263.2.1.1.1 : List Int), (e263.2.1.1.2.1 : List Int))), ()))
noncomputable def g_impl_Strip_reduce (a0 : ((List Int) × (List Int))) : Option ((List (Int × Int)) × ((List Int) × (List Int))) := t_impl_Strip_reduce some a0
theorem nat_impl_Strip_reduce {R : Type} (kx : (List (Int × Int)) × ((List Int) × (List Int)) → Option R) (a0 : ((List Int) × (List Int))) : t_impl_Strip_reduce kx a0 = (g_impl_Strip_reduce a0).bind kx := by
  unfold g_impl_Strip_reduce t_impl_Strip_reduce
  exact nat_bind fun _ => nat_bind fun _ => nat_exC ⟨fun _ => rfl, trivial⟩
abbrev as_impl_Strip_reduce : List AX := [.val true (.pair (.slice (.int .i64)) (.slice (.int .i64)))]
abbrev en_impl_Strip_reduce : (List (Int × Int)) × ((List Int) × (List Int)) → AV × List CV := fun b => (.tup [⟨false, [(.own (.pair (.int .i64) (.int .i64)) b.1)]⟩, ⟨true, [(.own (.int .i64) b.2.1), (.own (.int .i64) b.2.2)]⟩], [])
noncomputable abbrev k_impl_Strip_reduce : Contract := .fx as_impl_Strip_reduce ((List (Int × Int)) × ((List Int) × (List Int))) (fun z => g_impl_Strip_reduce z.1) en_impl_Strip_reduce
theorem r_impl_Strip_reduce (z : argsX as_impl_Strip_reduce) : runF (tab C0 T_impl_Strip_reduce) h_impl_Strip_reduce 1 Try.f55 (lentOf as_impl_Strip_reduce) (xBoxes as_impl_Strip_reduce z) (xVals as_impl_Strip_reduce 0 z) K2 = t_impl_Strip_reduce (fun b => some (en_impl_Strip_reduce b)) z.1 := by kernel_rfl
theorem so_impl_Strip_reduce : Sound C0 55 k_impl_Strip_reduce :=
  Sound.fx a_impl_Strip_reduce mixed Try.func55 (by kernel_rfl) (by kernel_rfl) h_impl_Strip_reduce 1 hs_impl_Strip_reduce (fun z => (r_impl_Strip_reduce z).trans (nat_impl_Strip_reduce _ z.1))

/-! ### F52 (impl.Strip).isFlat -/
noncomputable def T_impl_Strip_isFlat : List (FuncId × Contract) := [(55, k_impl_Strip_reduce)]
theorem a_impl_Strip_isFlat : AllSound C0 T_impl_Strip_isFlat := .cons so_impl_Strip_reduce (.nil)
noncomputable def t_impl_Strip_isFlat {R : Type} (kx : Bool → Option R) (a0 : ((List Int) × (List Int))) : Option R :=
  Option.bind (g_impl_Strip_reduce a0) fun y267 =>
  kx ((((List.length y267.2.1) : Nat) : Int) == (1 : Int))
noncomputable def g_impl_Strip_isFlat (a0 : ((List Int) × (List Int))) : Option (Bool) := t_impl_Strip_isFlat some a0
theorem nat_impl_Strip_isFlat {R : Type} (kx : Bool → Option R) (a0 : ((List Int) × (List Int))) : t_impl_Strip_isFlat kx a0 = (g_impl_Strip_isFlat a0).bind kx := by
  unfold g_impl_Strip_isFlat t_impl_Strip_isFlat
  exact nat_bind fun _ => rfl
abbrev as_impl_Strip_isFlat : List AX := [.val true (.pair (.slice (.int .i64)) (.slice (.int .i64)))]
abbrev en_impl_Strip_isFlat : Bool → AV × List CV := fun b => (.one ⟨false, [(.v (.bool b))]⟩, [])
noncomputable abbrev k_impl_Strip_isFlat : Contract := .fx as_impl_Strip_isFlat (Bool) (fun z => g_impl_Strip_isFlat z.1) en_impl_Strip_isFlat
theorem r_impl_Strip_isFlat (z : argsX as_impl_Strip_isFlat) : runF (tab C0 T_impl_Strip_isFlat) noHints 1 Try.f52 (lentOf as_impl_Strip_isFlat) (xBoxes as_impl_Strip_isFlat z) (xVals as_impl_Strip_isFlat 0 z) K2 = t_impl_Strip_isFlat (fun b => some (en_impl_Strip_isFlat b)) z.1 := by kernel_rfl
theorem so_impl_Strip_isFlat : Sound C0 52 k_impl_Strip_isFlat :=
  Sound.fx a_impl_Strip_isFlat mixed Try.func52 (by kernel_rfl) (by kernel_rfl) noHints 1 noHints_ok (fun z => (r_impl_Strip_isFlat z).trans (nat_impl_Strip_isFlat _ z.1))

/-! ### F25 impl.CountFlat -/
noncomputable def T_impl_CountFlat : List (FuncId × Contract) := [(51, k_impl_areLengths), (52, k_impl_Strip_isFlat)]
theorem a_impl_CountFlat : AllSound C0 T_impl_CountFlat := .cons so_impl_areLengths (.cons so_impl_Strip_isFlat (.nil))
abbrev s_impl_CountFlat_11 : LS := ⟨[(false, [(.sl (.int .i64))]), (false, [(.int .i64)]), (false, [(.int .i64)]), (false, [(.int .i64)]), (false, [(.own (.int .i64))]), (false, [(.int .i64)]), (false, [(.int .i64)]), (false, [(.int .i64)]), (false, [(.int .i64)])], [], []⟩
abbrev e_impl_CountFlat_11_0 : LS := ⟨[(false, [(.sl (.int .i64))]), (false, [(.int .i64)]), (false, [(.int .i64)]), (false, [(.own (.int .i64))]), (false, [(.int .i64)]), (false, [(.int .i64)])], [], []⟩
abbrev d_impl_CountFlat_11_0 (v0 : List Int) (v1 : Int) (v2 : Int) (v3 : List Int) (v4 : Int) (v5 : Int) : e_impl_CountFlat_11_0.T := (((v0, ()), (v1, ()), (v2, ()), (v3, ()), (v4, ()), (v5, ()), ()), (), ())
abbrev x_impl_CountFlat_11 : List (Ex × LS) := [(.exit 2, e_impl_CountFlat_11_0)]
abbrev m_impl_CountFlat_11 (x0 : List Int) (x4 : Int) (x5 : Int) (x6 : Int) (x7 : List Int) (x16 : Int) (x17 : Int) (x23 : Int) (x24 : Int) : s_impl_CountFlat_11.T := (((x0, ()), (x4, ()), (x5, ()), (x6, ()), (x7, ()), (x16, ()), (x17, ()), (x23, ()), (x24, ()), ()), (), ())
noncomputable def u_impl_CountFlat_11 {R : Type} (nx : s_impl_CountFlat_11.T → Option R) (hx : exH R x_impl_CountFlat_11) (x0 : List Int) (x4 : Int) (x5 : Int) (x6 : Int) (x7 : List Int) (x16 : Int) (x17 : Int) (x23 : Int) (x24 : Int) : Option R :=
  cond (decide (x24 < x23))
  (cond (decide (x24 < (0 : Int)))
   (none)
   (Option.bind (idx x7 x24) fun _ =>
    nx (m_impl_CountFlat_11 x0 x4 x5 x6 (List.set x7 (0 + (Int.toNat x24)) (IntKind.wrap IntKind.i64 ((2 : Int) + (IntKind.wrap IntKind.i64 (((BitVec.toNat ((BitVec.ofInt 64 (Int.fdiv x6 ((2 : Int) ^ (Min.min (Int.toNat x24) 64)))) &&& (BitVec.ofInt 64 (1 : Int)))) : Nat) : Int))))) x16 x17 x23 (IntKind.wrap IntKind.i64 (x24 + (1 : Int))))))
  (hx.1 (d_impl_CountFlat_11_0 x0 x4 x5 x7 x16 x17))
noncomputable def t_impl_CountFlat_11 {R : Type} (nx : s_impl_CountFlat_11.T → Option R) (hx : exH R x_impl_CountFlat_11) (z : s_impl_CountFlat_11.T) : Option R := u_impl_CountFlat_11 nx hx z.1.1.1 z.1.2.1.1 z.1.2.2.1.1 z.1.2.2.2.1.1 z.1.2.2.2.2.1.1 z.1.2.2.2.2.2.1.1 z.1.2.2.2.2.2.2.1.1 z.1.2.2.2.2.2.2.2.1.1 z.1.2.2.2.2.2.2.2.2.1.1
theorem nat_impl_CountFlat_11 : Natural @t_impl_CountFlat_11 := fun R nx hx z => by
  show u_impl_CountFlat_11 nx hx z.1.1.1 z.1.2.1.1 z.1.2.2.1.1 z.1.2.2.2.1.1 z.1.2.2.2.2.1.1 z.1.2.2.2.2.2.1.1 z.1.2.2.2.2.2.2.1.1 z.1.2.2.2.2.2.2.2.1.1 z.1.2.2.2.2.2.2.2.2.1.1 = (u_impl_CountFlat_11 (fun y => some (.inl y)) (hIn x_impl_CountFlat_11 fun x => some (.inr x)) z.1.1.1 z.1.2.1.1 z.1.2.2.1.1 z.1.2.2.2.1.1 z.1.2.2.2.2.1.1 z.1.2.2.2.2.2.1.1 z.1.2.2.2.2.2.2.1.1 z.1.2.2.2.2.2.2.2.1.1 z.1.2.2.2.2.2.2.2.2.1.1).bind (goOn nx hx)
  unfold u_impl_CountFlat_11
  exact nat_cond (nat_cond (rfl) (nat_bind fun _ => rfl)) (rfl)
noncomputable def w_impl_CountFlat_11 : s_impl_CountFlat_11.T → Option (exT x_impl_CountFlat_11) := wOf @t_impl_CountFlat_11
theorem wq_impl_CountFlat_11 (x0 : List Int) (x4 : Int) (x5 : Int) (x6 : Int) (x7 : List Int) (x16 : Int) (x17 : Int) (x23 : Int) (x24 : Int) : w_impl_CountFlat_11 (m_impl_CountFlat_11 x0 x4 x5 x6 x7 x16 x17 x23 x24) = u_impl_CountFlat_11 w_impl_CountFlat_11 (hIn x_impl_CountFlat_11 some) x0 x4 x5 x6 x7 x16 x17 x23 x24 := wOf_eq nat_impl_CountFlat_11 _
def lh_impl_CountFlat_11 : LoopHint := ⟨[0, 4, 5, 6, 7, 16, 17, 23, 24], [], [0, 4, 5, 7, 16, 17], []⟩
abbrev s_impl_CountFlat_7 : LS := ⟨[(false, [(.sl (.int .i64))]), (false, [(.int .i64)]), (false, [(.int .i64)]), (false, [(.int .i64)]), (false, [(.int .i64)])], [], []⟩
abbrev e_impl_CountFlat_7_0 : LS := ⟨[(false, [(.int .i64)])], [], []⟩
abbrev d_impl_CountFlat_7_0 (v0 : Int) : e_impl_CountFlat_7_0.T := (((v0, ()), ()), (), ())
abbrev x_impl_CountFlat_7 : List (Ex × LS) := [(.exit 0, e_impl_CountFlat_7_0)]
abbrev m_impl_CountFlat_7 (x0 : List Int) (x4 : Int) (x5 : Int) (x16 : Int) (x17 : Int) : s_impl_CountFlat_7.T := (((x0, ()), (x4, ()), (x5, ()), (x16, ()), (x17, ()), ()), (), ())
noncomputable def u_impl_CountFlat_7 {R : Type} (nx : s_impl_CountFlat_7.T → Option R) (hx : exH R x_impl_CountFlat_7) (x0 : List Int) (x4 : Int) (x5 : Int) (x16 : Int) (x17 : Int) : Option R :=
  cond (decide (x17 < x16))
  (cond (decide ((0 : Int) ≤ x4))
   (cond (decide (x4 ≤ x4))
    (cond (decide ((x4 * ((8 : Nat) : Int)) ≤ (70368744177664 : Int)))
     (cond (decide (x4 ≤ (70368744177664 : Int)))
      (Option.bind (w_impl_CountFlat_11 (m_impl_CountFlat_11 x0 x4 x5 x17 (List.replicate (Int.toNat x4) (0 : Int)) x16 x17 (((List.length (List.replicate (Int.toNat x4) (0 : Int))) : Nat) : Int) (0 : Int))) (exC x_impl_CountFlat_11
       (fun e164 =>
        Option.bind (g_impl_Strip_isFlat ((e164.1.1.1 : List Int), (e164.1.2.2.2.1.1 : List Int))) fun y268 =>
        cond y268
        (nx (m_impl_CountFlat_7 (e164.1.1.1 : List Int) (e164.1.2.1.1 : Int) (IntKind.wrap IntKind.i64 ((e164.1.2.2.1.1 : Int) + (1 : Int))) (e164.1.2.2.2.2.1.1 : Int) (IntKind.wrap IntKind.i64 ((e164.1.2.2.2.2.2.1.1 : Int) + (1 : Int)))))
        (nx (m_impl_CountFlat_7 (e164.1.1.1 : List Int) (e164.1.2.1.1 : Int) (e164.1.2.2.1.1 : Int) (e164.1.2.2.2.2.1.1 : Int) (IntKind.wrap IntKind.i64 ((e164.1.2.2.2.2.2.1.1 : Int) + (1 : Int))))), ())))
      (none))
     (none))
    (none))
   (none))
  (hx.1 (d_impl_CountFlat_7_0 x5))
noncomputable def t_impl_CountFlat_7 {R : Type} (nx : s_impl_CountFlat_7.T → Option R) (hx : exH R x_impl_CountFlat_7) (z : s_impl_CountFlat_7.T) : Option R := u_impl_CountFlat_7 nx hx z.1.1.1 z.1.2.1.1 z.1.2.2.1.1 z.1.2.2.2.1.1 z.1.2.2.2.2.1.1
theorem nat_impl_CountFlat_7 : Natural @t_impl_CountFlat_7 := fun R nx hx z => by
  show u_impl_CountFlat_7 nx hx z.1.1.1 z.1.2.1.1 z.1.2.2.1.1 z.1.2.2.2.1.1 z.1.2.2.2.2.1.1 = (u_impl_CountFlat_7 (fun y => some (.inl y)) (hIn x_impl_CountFlat_7 fun x => some (.inr x)) z.1.1.1 z.1.2.1.1 z.1.2.2.1.1 z.1.2.2.2.1.1 z.1.2.2.2.2.1.1).bind (goOn nx hx)
  unfold u_impl_CountFlat_7
  exact nat_cond (nat_cond (nat_cond (nat_cond (nat_cond (nat_exC ⟨fun _ => nat_bind fun _ => nat_cond (rfl) (rfl), trivial⟩) (rfl)) (rfl)) (rfl)) (rfl)) (rfl)
noncomputable def w_impl_CountFlat_7 : s_impl_CountFlat_7.T → Option (exT x_impl_CountFlat_7) := wOf @t_impl_CountFlat_7
theorem wq_impl_CountFlat_7 (x0 : List Int) (x4 : Int) (x5 : Int) (x16 : Int) (x17 : Int) : w_impl_CountFlat_7 (m_impl_CountFlat_7 x0 x4 x5 x16 x17) = u_impl_CountFlat_7 w_impl_CountFlat_7 (hIn x_impl_CountFlat_7 some) x0 x4 x5 x16 x17 := wOf_eq nat_impl_CountFlat_7 _
def lh_impl_CountFlat_7 : LoopHint := ⟨[0, 4, 5, 16, 17], [], [5], []⟩
noncomputable def h_impl_CountFlat : Hints Rv := ⟨fun k => match k with | 11 => lh_impl_CountFlat_11 | 7 => lh_impl_CountFlat_7 | _ => ⟨[], [], [], []⟩, fun k => match k with | 11 => some (loopX s_impl_CountFlat_11 x_impl_CountFlat_11 w_impl_CountFlat_11) | 7 => some (loopX s_impl_CountFlat_7 x_impl_CountFlat_7 w_impl_CountFlat_7) | _ => none⟩
theorem st_impl_CountFlat_11 (n : Nat) (z : s_impl_CountFlat_11.T) (k : Ex → Live → Option Rv) : loopN ⟨44, 44⟩ lh_impl_CountFlat_11 (den (tab C0 T_impl_CountFlat) ⟨44, 44⟩ h_impl_CountFlat 1 (loopOf Try.f25 10)) (n + 1) (s_impl_CountFlat_11.enc z) k =
    t_impl_CountFlat_11 (fun y => loopN ⟨44, 44⟩ lh_impl_CountFlat_11 (den (tab C0 T_impl_CountFlat) ⟨44, 44⟩ h_impl_CountFlat 1 (loopOf Try.f25 10)) n (s_impl_CountFlat_11.enc y) k) (hK k x_impl_CountFlat_11) z := by kernel_rfl
theorem st_impl_CountFlat_7 (n : Nat) (z : s_impl_CountFlat_7.T) (k : Ex → Live → Option Rv) : loopN ⟨44, 44⟩ lh_impl_CountFlat_7 (den (tab C0 T_impl_CountFlat) ⟨44, 44⟩ h_impl_CountFlat 1 (loopOf Try.f25 6)) (n + 1) (s_impl_CountFlat_7.enc z) k =
    t_impl_CountFlat_7 (fun y => loopN ⟨44, 44⟩ lh_impl_CountFlat_7 (den (tab C0 T_impl_CountFlat) ⟨44, 44⟩ h_impl_CountFlat 1 (loopOf Try.f25 6)) n (s_impl_CountFlat_7.enc y) k) (hK k x_impl_CountFlat_7) z := by kernel_rfl
theorem hs_impl_CountFlat : HintsOk (tab C0 T_impl_CountFlat) ⟨44, 44⟩ h_impl_CountFlat 1 (loops (codeOf Try.f25)) := by
  have hl : loops (codeOf Try.f25) = [loopOf Try.f25 6, loopOf Try.f25 10] := by kernel_rfl
  rw [hl]
  exact HintsOk.cons (n := 7) (lh := lh_impl_CountFlat_7) (S := loopX s_impl_CountFlat_7 x_impl_CountFlat_7 w_impl_CountFlat_7) (by kernel_rfl) rfl rfl (loopX_ok nat_impl_CountFlat_7 st_impl_CountFlat_7)
    (HintsOk.cons (n := 11) (lh := lh_impl_CountFlat_11) (S := loopX s_impl_CountFlat_11 x_impl_CountFlat_11 w_impl_CountFlat_11) (by kernel_rfl) rfl rfl (loopX_ok nat_impl_CountFlat_11 st_impl_CountFlat_11)
    (HintsOk.nil))
noncomputable def t_impl_CountFlat {R : Type} (kx : Int × Int → Option R) (a0 : (List Int)) : Option R :=
  Option.bind (g_impl_areLengths a0) fun y148 =>
  cond (!y148)
  (kx ((0 : Int), (1 : Int)))
  (cond (decide ((IntKind.wrap IntKind.i64 ((((List.length a0) : Nat) : Int) - (1 : Int))) < (0 : Int)))
   (none)
   (Option.bind (w_impl_CountFlat_7 (m_impl_CountFlat_7 a0 (IntKind.wrap IntKind.i64 ((((List.length a0) : Nat) : Int) - (1 : Int))) (0 : Int) (IntKind.wrap IntKind.i64 ((1 : Int) * ((2 : Int) ^ (Min.min (Int.toNat (IntKind.wrap IntKind.i64 ((((List.length a0) : Nat) : Int) - (1 : Int)))) 64)))) (0 : Int))) (exC x_impl_CountFlat_7
    (fun e269 =>
     kx ((e269.1.1.1 : Int), (0 : Int)), ()))))
noncomputable def g_impl_CountFlat (a0 : (List Int)) : Option (Int × Int) := t_impl_CountFlat some a0
theorem nat_impl_CountFlat {R : Type} (kx : Int × Int → Option R) (a0 : (List Int)) : t_impl_CountFlat kx a0 = (g_impl_CountFlat a0).bind kx := by
  unfold g_impl_CountFlat t_impl_CountFlat
  exact nat_bind fun _ => nat_cond (rfl) (nat_cond (rfl) (nat_exC ⟨fun _ => rfl, trivial⟩))
abbrev as_impl_CountFlat : List AX := [.val false (.slice (.int .i64))]
abbrev en_impl_CountFlat : Int × Int → AV × List CV := fun b => (.tup [⟨false, [(.v (.int .i64 b.1))]⟩, ⟨false, [(.v (.int .i64 b.2))]⟩], [])
noncomputable abbrev k_impl_CountFlat : Contract := .fx as_impl_CountFlat (Int × Int) (fun z => g_impl_CountFlat z.1) en_impl_CountFlat
theorem r_impl_CountFlat (z : argsX as_impl_CountFlat) : runF (tab C0 T_impl_CountFlat) h_impl_CountFlat 1 Try.f25 (lentOf as_impl_CountFlat) (xBoxes as_impl_CountFlat z) (xVals as_impl_CountFlat 0 z) K2 = t_impl_CountFlat (fun b => some (en_impl_CountFlat b)) z.1 := by kernel_rfl
theorem so_impl_CountFlat : Sound C0 25 k_impl_CountFlat :=
  Sound.fx a_impl_CountFlat mixed Try.func25 (by kernel_rfl) (by kernel_rfl) h_impl_CountFlat 1 hs_impl_CountFlat (fun z => (r_impl_CountFlat z).trans (nat_impl_CountFlat _ z.1))

/-! ### F26 laws.eqInt64S -/
noncomputable def T_laws_eqInt64S : List (FuncId × Contract) := []
theorem a_laws_eqInt64S : AllSound C0 T_laws_eqInt64S := .nil
abbrev s_laws_eqInt64S_5 : LS := ⟨[(false, [(.sl (.int .i64))]), (false, [(.sl (.int .i64))]), (false, [(.int .i64)])], [], []⟩
abbrev e_laws_eqInt64S_5_0 : LS := ⟨[(false, [.bool])], [], []⟩
abbrev d_laws_eqInt64S_5_0 (v0 : Bool) : e_laws_eqInt64S_5_0.T := (((v0, ()), ()), (), ())
abbrev e_laws_eqInt64S_5_1 : LS := ⟨[(false, [.undef])], [], []⟩
abbrev d_laws_eqInt64S_5_1 : e_laws_eqInt64S_5_1.T := ((((), ()), ()), (), ())
abbrev x_laws_eqInt64S_5 : List (Ex × LS) := [(.ret, e_laws_eqInt64S_5_0), (.exit 0, e_laws_eqInt64S_5_1)]
abbrev m_laws_eqInt64S_5 (x0 : List Int) (x1 : List Int) (x5 : Int) : s_laws_eqInt64S_5.T := (((x0, ()), (x1, ()), (x5, ()), ()), (), ())
noncomputable def u_laws_eqInt64S_5 {R : Type} (nx : s_laws_eqInt64S_5.T → Option R) (hx : exH R x_laws_eqInt64S_5) (x0 : List Int) (x1 : List Int) (x5 : Int) : Option R :=
  cond (decide (x5 < (((List.length x0) : Nat) : Int)))
  (Option.bind (idx x0 x5) fun y278 =>
   Option.bind (idx x1 x5) fun y279 =>
   cond (y278 != y279)
   (hx.1 (d_laws_eqInt64S_5_0 Bool.false))
   (nx (m_laws_eqInt64S_5 x0 x1 (IntKind.wrap IntKind.i64 (x5 + (1 : Int))))))
  (hx.2.1 (d_laws_eqInt64S_5_1))
noncomputable def t_laws_eqInt64S_5 {R : Type} (nx : s_laws_eqInt64S_5.T → Option R) (hx : exH R x_laws_eqInt64S_5) (z : s_laws_eqInt64S_5.T) : Option R := u_laws_eqInt64S_5 nx hx z.1.1.1 z.1.2.1.1 z.1.2.2.1.1
theorem nat_laws_eqInt64S_5 : Natural @t_laws_eqInt64S_5 := fun R nx hx z => by
  show u_laws_eqInt64S_5 nx hx z.1.1.1 z.1.2.1.1 z.1.2.2.1.1 = (u_laws_eqInt64S_5 (fun y => some (.inl y)) (hIn x_laws_eqInt64S_5 fun x => some (.inr x)) z.1.1.1 z.1.2.1.1 z.1.2.2.1.1).bind (goOn nx hx)
  unfold u_laws_eqInt64S_5
  exact nat_cond (nat_bind fun _ => nat_bind fun _ => nat_cond (rfl) (rfl)) (rfl)
noncomputable def w_laws_eqInt64S_5 : s_laws_eqInt64S_5.T → Option (exT x_laws_eqInt64S_5) := wOf @t_laws_eqInt64S_5
theorem wq_laws_eqInt64S_5 (x0 : List Int) (x1 : List Int) (x5 : Int) : w_laws_eqInt64S_5 (m_laws_eqInt64S_5 x0 x1 x5) = u_laws_eqInt64S_5 w_laws_eqInt64S_5 (hIn x_laws_eqInt64S_5 some) x0 x1 x5 := wOf_eq nat_laws_eqInt64S_5 _
def lh_laws_eqInt64S_5 : LoopHint := ⟨[0, 1, 5], [], [4], []⟩
noncomputable def h_laws_eqInt64S : Hints Rv := ⟨fun k => match k with | 5 => lh_laws_eqInt64S_5 | _ => ⟨[], [], [], []⟩, fun k => match k with | 5 => some (loopX s_laws_eqInt64S_5 x_laws_eqInt64S_5 w_laws_eqInt64S_5) | _ => none⟩
theorem st_laws_eqInt64S_5 (n : Nat) (z : s_laws_eqInt64S_5.T) (k : Ex → Live → Option Rv) : loopN ⟨26, 26⟩ lh_laws_eqInt64S_5 (den (tab C0 T_laws_eqInt64S) ⟨26, 26⟩ h_laws_eqInt64S 1 (loopOf Try.f26 4)) (n + 1) (s_laws_eqInt64S_5.enc z) k =
    t_laws_eqInt64S_5 (fun y => loopN ⟨26, 26⟩ lh_laws_eqInt64S_5 (den (tab C0 T_laws_eqInt64S) ⟨26, 26⟩ h_laws_eqInt64S 1 (loopOf Try.f26 4)) n (s_laws_eqInt64S_5.enc y) k) (hK k x_laws_eqInt64S_5) z := by kernel_rfl
theorem hs_laws_eqInt64S : HintsOk (tab C0 T_laws_eqInt64S) ⟨26, 26⟩ h_laws_eqInt64S 1 (loops (codeOf Try.f26)) := by
  have hl : loops (codeOf Try.f26) = [loopOf Try.f26 4] := by kernel_rfl
  rw [hl]
  exact HintsOk.cons (n := 5) (lh := lh_laws_eqInt64S_5) (S := loopX s_laws_eqInt64S_5 x_laws_eqInt64S_5 w_laws_eqInt64S_5) (by kernel_rfl) rfl rfl (loopX_ok nat_laws_eqInt64S_5 st_laws_eqInt64S_5)
    (HintsOk.nil)
noncomputable def t_laws_eqInt64S {R : Type} (kx : Bool → Option R) (a0 : (List Int)) (a1 : (List Int)) : Option R :=
  cond ((((List.length a0) : Nat) : Int) != (((List.length a1) : Nat) : Int))
  (kx Bool.false)
  (Option.bind (w_laws_eqInt64S_5 (m_laws_eqInt64S_5 a0 a1 (0 : Int))) (exC x_laws_eqInt64S_5
   (fun e280 =>
    kx (e280.1.1.1 : Bool), fun _ =>
    kx Bool.true, ())))
noncomputable def g_laws_eqInt64S (a0 : (List Int)) (a1 : (List Int)) : Option (Bool) := t_laws_eqInt64S some a0 a1
theorem nat_laws_eqInt64S {R : Type} (kx : Bool → Option R) (a0 : (List Int)) (a1 : (List Int)) : t_laws_eqInt64S kx a0 a1 = (g_laws_eqInt64S a0 a1).bind kx := by
  unfold g_laws_eqInt64S t_laws_eqInt64S
  exact nat_cond (rfl) (nat_exC ⟨fun _ => rfl, fun _ => rfl, trivial⟩)
abbrev as_laws_eqInt64S : List AX := [.val false (.slice (.int .i64)), .val false (.slice (.int .i64))]
abbrev en_laws_eqInt64S : Bool → AV × List CV := fun b => (.one ⟨false, [(.v (.bool b))]⟩, [])
noncomputable abbrev k_laws_eqInt64S : Contract := .fx as_laws_eqInt64S (Bool) (fun z => g_laws_eqInt64S z.1 z.2.1) en_laws_eqInt64S
theorem r_laws_eqInt64S (z : argsX as_laws_eqInt64S) : runF (tab C0 T_laws_eqInt64S) h_laws_eqInt64S 1 Try.f26 (lentOf as_laws_eqInt64S) (xBoxes as_laws_eqInt64S z) (xVals as_laws_eqInt64S 0 z) K2 = t_laws_eqInt64S (fun b => some (en_laws_eqInt64S b)) z.1 z.2.1 := by kernel_rfl
theorem so_laws_eqInt64S : Sound C0 26 k_laws_eqInt64S :=
  Sound.fx a_laws_eqInt64S mixed Try.func26 (by kernel_rfl) (by kernel_rfl) h_laws_eqInt64S 1 hs_laws_eqInt64S (fun z => (r_laws_eqInt64S z).trans (nat_laws_eqInt64S _ z.1 z.2.1))

/-! ### F5 laws.FnExactCountFlat -/
noncomputable def T_laws_FnExactCountFlat : List (FuncId × Contract) := [(24, k_laws_toInt64S), (23, k_spec_CountFlat), (25, k_impl_CountFlat), (26, k_laws_eqInt64S)]
theorem a_laws_FnExactCountFlat : AllSound C0 T_laws_FnExactCountFlat := .cons so_laws_toInt64S (.cons so_spec_CountFlat (.cons so_impl_CountFlat (.cons so_laws_eqInt64S (.nil))))
noncomputable def t_laws_FnExactCountFlat {R : Type} (kx : Bool → Option R) (a0 : (List Int)) : Option R :=
  cond (decide ((((List.length a0) : Nat) : Int) > (1048576 : Int)))
  (kx Bool.true)
  (Option.bind (g_laws_toInt64S a0) fun y9 =>
   Option.bind (g_spec_CountFlat y9) fun y115 =>
   Option.bind (g_laws_toInt64S a0) fun y116 =>
   Option.bind (g_impl_CountFlat y116) fun y271 =>
   cond (y271.1 != y115.1)
   (kx Bool.false)
   (cond (y271.2 != y115.2)
    (kx Bool.false)
    (Option.bind (g_laws_toInt64S a0) fun y272 =>
     Option.bind (g_laws_eqInt64S y116 y272) fun y283 =>
     cond (!y283)
     (kx Bool.false)
     (kx Bool.true))))
noncomputable def g_laws_FnExactCountFlat (a0 : (List Int)) : Option (Bool) := t_laws_FnExactCountFlat some a0
theorem nat_laws_FnExactCountFlat {R : Type} (kx : Bool → Option R) (a0 : (List Int)) : t_laws_FnExactCountFlat kx a0 = (g_laws_FnExactCountFlat a0).bind kx := by
  unfold g_laws_FnExactCountFlat t_laws_FnExactCountFlat
  exact nat_cond (rfl) (nat_bind fun _ => nat_bind fun _ => nat_bind fun _ => nat_bind fun _ => nat_cond (rfl) (nat_cond (rfl) (nat_bind fun _ => nat_bind fun _ => nat_cond (rfl) (rfl))))
abbrev as_laws_FnExactCountFlat : List AX := [.val false (.slice (.int .i64))]
abbrev en_laws_FnExactCountFlat : Bool → AV × List CV := fun b => (.one ⟨false, [(.v (.bool b))]⟩, [])
noncomputable abbrev k_laws_FnExactCountFlat : Contract := .fx as_laws_FnExactCountFlat (Bool) (fun z => g_laws_FnExactCountFlat z.1) en_laws_FnExactCountFlat
theorem r_laws_FnExactCountFlat (z : argsX as_laws_FnExactCountFlat) : runF (tab C0 T_laws_FnExactCountFlat) noHints 1 Try.f5 (lentOf as_laws_FnExactCountFlat) (xBoxes as_laws_FnExactCountFlat z) (xVals as_laws_FnExactCountFlat 0 z) K2 = t_laws_FnExactCountFlat (fun b => some (en_laws_FnExactCountFlat b)) z.1 := by kernel_rfl
theorem so_laws_FnExactCountFlat : Sound C0 5 k_laws_FnExactCountFlat :=
  Sound.fx a_laws_FnExactCountFlat mixed Try.func5 (by kernel_rfl) (by kernel_rfl) noHints 1 noHints_ok (fun z => (r_laws_FnExactCountFlat z).trans (nat_laws_FnExactCountFlat _ z.1))

end Go.Proofs.Ytpabholjoblkbaa
