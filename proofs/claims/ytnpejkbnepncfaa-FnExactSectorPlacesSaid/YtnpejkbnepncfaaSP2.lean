/- What the functions that SectorPlaces reaches compute, printed. No conditions. -/
import Derived.Test.YtnpejkbnepncfaaW1
namespace Go.Proofs.Ytnpejkbnepncfaa
open Go.Vai
set_option maxRecDepth 100000

/-! ### F14 laws.toInt64S -/
noncomputable def T_laws_toInt64S : List (FuncId × Contract) := []
theorem a_laws_toInt64S : AllSound C0 T_laws_toInt64S := .nil
abbrev s_laws_toInt64S_4 : LS := ⟨[(false, [(.sl (.int .i64))]), (false, [(.own (.int .i64))]), (false, [(.int .i64)])], [], []⟩
abbrev e_laws_toInt64S_4_0 : LS := ⟨[(false, [(.own (.int .i64))])], [], []⟩
abbrev d_laws_toInt64S_4_0 (v0 : List Int) : e_laws_toInt64S_4_0.T := (((v0, ()), ()), (), ())
abbrev x_laws_toInt64S_4 : List (Ex × LS) := [(.exit 0, e_laws_toInt64S_4_0)]
abbrev m_laws_toInt64S_4 (x0 : List Int) (x3 : List Int) (x4 : Int) : s_laws_toInt64S_4.T := (((x0, ()), (x3, ()), (x4, ()), ()), (), ())
noncomputable def u_laws_toInt64S_4 {R : Type} (nx : s_laws_toInt64S_4.T → Option R) (hx : exH R x_laws_toInt64S_4) (x0 : List Int) (x3 : List Int) (x4 : Int) : Option R :=
  cond (decide (x4 < (((List.length x0) : Nat) : Int)))
  (Option.bind (idx x0 x4) fun y5 =>
   Option.bind (idx x3 x4) fun _ =>
   nx (m_laws_toInt64S_4 x0 (List.set x3 (0 + (Int.toNat x4)) y5) (IntKind.wrap IntKind.i64 (x4 + (1 : Int)))))
  (hx.1 (d_laws_toInt64S_4_0 x3))
noncomputable def t_laws_toInt64S_4 {R : Type} (nx : s_laws_toInt64S_4.T → Option R) (hx : exH R x_laws_toInt64S_4) (z : s_laws_toInt64S_4.T) : Option R := u_laws_toInt64S_4 nx hx z.1.1.1 z.1.2.1.1 z.1.2.2.1.1
theorem nat_laws_toInt64S_4 : Natural @t_laws_toInt64S_4 := fun R nx hx z => by
  show u_laws_toInt64S_4 nx hx z.1.1.1 z.1.2.1.1 z.1.2.2.1.1 = (u_laws_toInt64S_4 (fun y => some (.inl y)) (hIn x_laws_toInt64S_4 fun x => some (.inr x)) z.1.1.1 z.1.2.1.1 z.1.2.2.1.1).bind (goOn nx hx)
  unfold u_laws_toInt64S_4
  exact nat_cond (nat_bind fun _ => nat_bind fun _ => rfl) (rfl)
noncomputable def w_laws_toInt64S_4 : s_laws_toInt64S_4.T → Option (exT x_laws_toInt64S_4) := wOf @t_laws_toInt64S_4
theorem wq_laws_toInt64S_4 (x0 : List Int) (x3 : List Int) (x4 : Int) : w_laws_toInt64S_4 (m_laws_toInt64S_4 x0 x3 x4) = u_laws_toInt64S_4 w_laws_toInt64S_4 (hIn x_laws_toInt64S_4 some) x0 x3 x4 := wOf_eq nat_laws_toInt64S_4 _
def lh_laws_toInt64S_4 : LoopHint := ⟨[0, 3, 4], [], [3], []⟩
noncomputable def h_laws_toInt64S : Hints Rv := ⟨fun k => match k with | 4 => lh_laws_toInt64S_4 | _ => ⟨[], [], [], []⟩, fun k => match k with | 4 => some (loopX s_laws_toInt64S_4 x_laws_toInt64S_4 w_laws_toInt64S_4) | _ => none⟩
theorem st_laws_toInt64S_4 (n : Nat) (z : s_laws_toInt64S_4.T) (k : Ex → Live → Option Rv) : loopN ⟨22, 22⟩ lh_laws_toInt64S_4 (den (tab C0 T_laws_toInt64S) ⟨22, 22⟩ h_laws_toInt64S 1 (loopOf Try.f14 3)) (n + 1) (s_laws_toInt64S_4.enc z) k =
    t_laws_toInt64S_4 (fun y => loopN ⟨22, 22⟩ lh_laws_toInt64S_4 (den (tab C0 T_laws_toInt64S) ⟨22, 22⟩ h_laws_toInt64S 1 (loopOf Try.f14 3)) n (s_laws_toInt64S_4.enc y) k) (hK k x_laws_toInt64S_4) z := by kernel_rfl
theorem hs_laws_toInt64S : HintsOk (tab C0 T_laws_toInt64S) ⟨22, 22⟩ h_laws_toInt64S 1 (loops (codeOf Try.f14)) := by
  have hl : loops (codeOf Try.f14) = [loopOf Try.f14 3] := by kernel_rfl
  rw [hl]
  exact HintsOk.cons (n := 4) (lh := lh_laws_toInt64S_4) (S := loopX s_laws_toInt64S_4 x_laws_toInt64S_4 w_laws_toInt64S_4) (by kernel_rfl) rfl rfl (loopX_ok nat_laws_toInt64S_4 st_laws_toInt64S_4)
    (HintsOk.nil)
noncomputable def t_laws_toInt64S {R : Type} (kx : (List Int) → Option R) (a0 : (List Int)) : Option R :=
  cond (decide ((((List.length a0) : Nat) : Int) ≤ (((List.length a0) : Nat) : Int)))
  (cond (decide (((((List.length a0) : Nat) : Int) * ((8 : Nat) : Int)) ≤ (70368744177664 : Int)))
   (cond (decide ((((List.length a0) : Nat) : Int) ≤ (70368744177664 : Int)))
    (Option.bind (w_laws_toInt64S_4 (m_laws_toInt64S_4 a0 (List.replicate (Int.toNat (((List.length a0) : Nat) : Int)) (0 : Int)) (0 : Int))) (exC x_laws_toInt64S_4
     (fun e7 =>
      kx (e7.1.1.1 : List Int), ())))
    (none))
   (none))
  (none)
noncomputable def g_laws_toInt64S (a0 : (List Int)) : Option ((List Int)) := t_laws_toInt64S some a0
theorem nat_laws_toInt64S {R : Type} (kx : (List Int) → Option R) (a0 : (List Int)) : t_laws_toInt64S kx a0 = (g_laws_toInt64S a0).bind kx := by
  unfold g_laws_toInt64S t_laws_toInt64S
  exact nat_cond (nat_cond (nat_cond (nat_exC ⟨fun _ => rfl, trivial⟩) (rfl)) (rfl)) (rfl)
abbrev as_laws_toInt64S : List AX := [.val false (.slice (.int .i64))]
abbrev en_laws_toInt64S : (List Int) → AV × List CV := fun b => (.one ⟨false, [(.own (.int .i64) b)]⟩, [])
noncomputable abbrev k_laws_toInt64S : Contract := .fx as_laws_toInt64S ((List Int)) (fun z => g_laws_toInt64S z.1) en_laws_toInt64S
theorem r_laws_toInt64S (z : argsX as_laws_toInt64S) : runF (tab C0 T_laws_toInt64S) h_laws_toInt64S 1 Try.f14 (lentOf as_laws_toInt64S) (xBoxes as_laws_toInt64S z) (xVals as_laws_toInt64S 0 z) K2 = t_laws_toInt64S (fun b => some (en_laws_toInt64S b)) z.1 := by kernel_rfl
theorem so_laws_toInt64S : Sound C0 14 k_laws_toInt64S :=
  Sound.fx a_laws_toInt64S mixed Try.func14 (by kernel_rfl) (by kernel_rfl) h_laws_toInt64S 1 hs_laws_toInt64S (fun z => (r_laws_toInt64S z).trans (nat_laws_toInt64S _ z.1))

/-! ### F56 spec.l00In -/
noncomputable def T_spec_l00In : List (FuncId × Contract) := []
theorem a_spec_l00In : AllSound C0 T_spec_l00In := .nil
noncomputable def t_spec_l00In {R : Type} (kx : Bool → Option R) (a0 : Int) (a1 : Int) (a2 : Int) : Option R :=
  cond (decide (a0 ≥ a1))
  (kx (cond Bool.true (decide (a0 ≤ a2)) Bool.false))
  (kx Bool.false)
noncomputable def g_spec_l00In (a0 : Int) (a1 : Int) (a2 : Int) : Option (Bool) := t_spec_l00In some a0 a1 a2
theorem nat_spec_l00In {R : Type} (kx : Bool → Option R) (a0 : Int) (a1 : Int) (a2 : Int) : t_spec_l00In kx a0 a1 a2 = (g_spec_l00In a0 a1 a2).bind kx := by
  unfold g_spec_l00In t_spec_l00In
  exact nat_cond (rfl) (rfl)
abbrev as_spec_l00In : List AX := [.val false (.int .i64), .val false (.int .i64), .val false (.int .i64)]
abbrev en_spec_l00In : Bool → AV × List CV := fun b => (.one ⟨false, [(.v (.bool b))]⟩, [])
noncomputable abbrev k_spec_l00In : Contract := .fx as_spec_l00In (Bool) (fun z => g_spec_l00In z.1 z.2.1 z.2.2.1) en_spec_l00In
theorem r_spec_l00In (z : argsX as_spec_l00In) : runF (tab C0 T_spec_l00In) noHints 1 Try.f56 (lentOf as_spec_l00In) (xBoxes as_spec_l00In z) (xVals as_spec_l00In 0 z) K2 = t_spec_l00In (fun b => some (en_spec_l00In b)) z.1 z.2.1 z.2.2.1 := by kernel_rfl
theorem so_spec_l00In : Sound C0 56 k_spec_l00In :=
  Sound.fx a_spec_l00In mixed Try.func56 (by kernel_rfl) (by kernel_rfl) noHints 1 noHints_ok (fun z => (r_spec_l00In z).trans (nat_spec_l00In _ z.1 z.2.1 z.2.2.1))

/-! ### F38 spec.l11Ok -/
noncomputable def T_spec_l11Ok : List (FuncId × Contract) := [(56, k_spec_l00In)]
theorem a_spec_l11Ok : AllSound C0 T_spec_l11Ok := .cons so_spec_l00In (.nil)
abbrev s_spec_l11Ok_7 : LS := ⟨[(false, [(.sl (.int .i64))]), (false, [(.int .i64)]), (false, [(.int .i64)]), (false, [(.int .i64)])], [], []⟩
abbrev e_spec_l11Ok_7_0 : LS := ⟨[(false, [.bool]), (false, [(.int .i64)]), (false, [(.int .i64)])], [], []⟩
abbrev d_spec_l11Ok_7_0 (v0 : Bool) (v1 : Int) (v2 : Int) : e_spec_l11Ok_7_0.T := (((v0, ()), (v1, ()), (v2, ()), ()), (), ())
abbrev e_spec_l11Ok_7_1 : LS := ⟨[(false, [.undef]), (false, [(.int .i64)]), (false, [(.int .i64)])], [], []⟩
abbrev d_spec_l11Ok_7_1 (v0 : Int) (v1 : Int) : e_spec_l11Ok_7_1.T := ((((), ()), (v0, ()), (v1, ()), ()), (), ())
abbrev x_spec_l11Ok_7 : List (Ex × LS) := [(.ret, e_spec_l11Ok_7_0), (.exit 0, e_spec_l11Ok_7_1)]
abbrev m_spec_l11Ok_7 (x0 : List Int) (x3 : Int) (x4 : Int) (x5 : Int) : s_spec_l11Ok_7.T := (((x0, ()), (x3, ()), (x4, ()), (x5, ()), ()), (), ())
noncomputable def u_spec_l11Ok_7 {R : Type} (nx : s_spec_l11Ok_7.T → Option R) (hx : exH R x_spec_l11Ok_7) (x0 : List Int) (x3 : Int) (x4 : Int) (x5 : Int) : Option R :=
  cond (decide (x5 < (((List.length x0) : Nat) : Int)))
  (Option.bind (idx x0 x5) fun y16 =>
   Option.bind (g_spec_l00In y16 (1 : Int) (16 : Int)) fun y20 =>
   cond (!y20)
   (hx.1 (d_spec_l11Ok_7_0 Bool.false x3 x4))
   (Option.bind (idx x0 x5) fun y21 =>
    cond ((Int.tmod x5 (2 : Int)) == (0 : Int))
    (Option.bind (idx x0 x5) fun y22 =>
     nx (m_spec_l11Ok_7 x0 (IntKind.wrap IntKind.i64 (x3 + y21)) (IntKind.wrap IntKind.i64 (x4 + y22)) (IntKind.wrap IntKind.i64 (x5 + (1 : Int)))))
    (nx (m_spec_l11Ok_7 x0 (IntKind.wrap IntKind.i64 (x3 + y21)) x4 (IntKind.wrap IntKind.i64 (x5 + (1 : Int)))))))
  (hx.2.1 (d_spec_l11Ok_7_1 x3 x4))
noncomputable def t_spec_l11Ok_7 {R : Type} (nx : s_spec_l11Ok_7.T → Option R) (hx : exH R x_spec_l11Ok_7) (z : s_spec_l11Ok_7.T) : Option R := u_spec_l11Ok_7 nx hx z.1.1.1 z.1.2.1.1 z.1.2.2.1.1 z.1.2.2.2.1.1
theorem nat_spec_l11Ok_7 : Natural @t_spec_l11Ok_7 := fun R nx hx z => by
  show u_spec_l11Ok_7 nx hx z.1.1.1 z.1.2.1.1 z.1.2.2.1.1 z.1.2.2.2.1.1 = (u_spec_l11Ok_7 (fun y => some (.inl y)) (hIn x_spec_l11Ok_7 fun x => some (.inr x)) z.1.1.1 z.1.2.1.1 z.1.2.2.1.1 z.1.2.2.2.1.1).bind (goOn nx hx)
  unfold u_spec_l11Ok_7
  exact nat_cond (nat_bind fun _ => nat_bind fun _ => nat_cond (rfl) (nat_bind fun _ => nat_cond (nat_bind fun _ => rfl) (rfl))) (rfl)
noncomputable def w_spec_l11Ok_7 : s_spec_l11Ok_7.T → Option (exT x_spec_l11Ok_7) := wOf @t_spec_l11Ok_7
theorem wq_spec_l11Ok_7 (x0 : List Int) (x3 : Int) (x4 : Int) (x5 : Int) : w_spec_l11Ok_7 (m_spec_l11Ok_7 x0 x3 x4 x5) = u_spec_l11Ok_7 w_spec_l11Ok_7 (hIn x_spec_l11Ok_7 some) x0 x3 x4 x5 := wOf_eq nat_spec_l11Ok_7 _
def lh_spec_l11Ok_7 : LoopHint := ⟨[0, 3, 4, 5], [], [2, 3, 4], []⟩
noncomputable def h_spec_l11Ok : Hints Rv := ⟨fun k => match k with | 7 => lh_spec_l11Ok_7 | _ => ⟨[], [], [], []⟩, fun k => match k with | 7 => some (loopX s_spec_l11Ok_7 x_spec_l11Ok_7 w_spec_l11Ok_7) | _ => none⟩
theorem st_spec_l11Ok_7 (n : Nat) (z : s_spec_l11Ok_7.T) (k : Ex → Live → Option Rv) : loopN ⟨55, 55⟩ lh_spec_l11Ok_7 (den (tab C0 T_spec_l11Ok) ⟨55, 55⟩ h_spec_l11Ok 1 (loopOf Try.f38 6)) (n + 1) (s_spec_l11Ok_7.enc z) k =
    t_spec_l11Ok_7 (fun y => loopN ⟨55, 55⟩ lh_spec_l11Ok_7 (den (tab C0 T_spec_l11Ok) ⟨55, 55⟩ h_spec_l11Ok 1 (loopOf Try.f38 6)) n (s_spec_l11Ok_7.enc y) k) (hK k x_spec_l11Ok_7) z := by kernel_rfl
theorem hs_spec_l11Ok : HintsOk (tab C0 T_spec_l11Ok) ⟨55, 55⟩ h_spec_l11Ok 1 (loops (codeOf Try.f38)) := by
  have hl : loops (codeOf Try.f38) = [loopOf Try.f38 6] := by kernel_rfl
  rw [hl]
  exact HintsOk.cons (n := 7) (lh := lh_spec_l11Ok_7) (S := loopX s_spec_l11Ok_7 x_spec_l11Ok_7 w_spec_l11Ok_7) (by kernel_rfl) rfl rfl (loopX_ok nat_spec_l11Ok_7 st_spec_l11Ok_7)
    (HintsOk.nil)
noncomputable def t_spec_l11Ok {R : Type} (kx : Bool → Option R) (a0 : (List Int)) : Option R :=
  cond (decide ((((List.length a0) : Nat) : Int) < (2 : Int)))
  (kx Bool.false)
  (cond (cond Bool.false Bool.true (decide ((((List.length a0) : Nat) : Int) > (16 : Int))))
   (kx Bool.false)
   (cond (cond Bool.false Bool.true ((Int.tmod (((List.length a0) : Nat) : Int) (2 : Int)) != (0 : Int)))
    (kx Bool.false)
    (Option.bind (w_spec_l11Ok_7 (m_spec_l11Ok_7 a0 (0 : Int) (0 : Int) (0 : Int))) (exC x_spec_l11Ok_7
     (fun e23 =>
      kx (e23.1.1.1 : Bool), fun e27 =>
      cond (decide ((e27.1.2.1.1 : Int) ≤ (16 : Int)))
      (kx (cond Bool.true ((IntKind.wrap IntKind.i64 ((2 : Int) * (e27.1.2.2.1.1 : Int))) == (e27.1.2.1.1 : Int)) Bool.false))
      (kx Bool.false), ())))))
noncomputable def g_spec_l11Ok (a0 : (List Int)) : Option (Bool) := t_spec_l11Ok some a0
theorem nat_spec_l11Ok {R : Type} (kx : Bool → Option R) (a0 : (List Int)) : t_spec_l11Ok kx a0 = (g_spec_l11Ok a0).bind kx := by
  unfold g_spec_l11Ok t_spec_l11Ok
  exact nat_cond (rfl) (nat_cond (rfl) (nat_cond (rfl) (nat_exC ⟨fun _ => rfl, fun _ => nat_cond (rfl) (rfl), trivial⟩)))
abbrev as_spec_l11Ok : List AX := [.val false (.slice (.int .i64))]
abbrev en_spec_l11Ok : Bool → AV × List CV := fun b => (.one ⟨false, [(.v (.bool b))]⟩, [])
noncomputable abbrev k_spec_l11Ok : Contract := .fx as_spec_l11Ok (Bool) (fun z => g_spec_l11Ok z.1) en_spec_l11Ok
theorem r_spec_l11Ok (z : argsX as_spec_l11Ok) : runF (tab C0 T_spec_l11Ok) h_spec_l11Ok 1 Try.f38 (lentOf as_spec_l11Ok) (xBoxes as_spec_l11Ok z) (xVals as_spec_l11Ok 0 z) K2 = t_spec_l11Ok (fun b => some (en_spec_l11Ok b)) z.1 := by kernel_rfl
theorem so_spec_l11Ok : Sound C0 38 k_spec_l11Ok :=
  Sound.fx a_spec_l11Ok mixed Try.func38 (by kernel_rfl) (by kernel_rfl) h_spec_l11Ok 1 hs_spec_l11Ok (fun z => (r_spec_l11Ok z).trans (nat_spec_l11Ok _ z.1))

/-! ### F39 spec.l11Places -/
noncomputable def T_spec_l11Places : List (FuncId × Contract) := []
theorem a_spec_l11Places : AllSound C0 T_spec_l11Places := .nil
abbrev s_spec_l11Places_5 : LS := ⟨[(false, [(.sl (.int .i64))]), (false, [(.own (.int .i64))]), (false, [(.int .i64)]), (false, [(.int .i64)])], [], []⟩
abbrev e_spec_l11Places_5_0 : LS := ⟨[(false, [(.own (.int .i64))])], [], []⟩
abbrev d_spec_l11Places_5_0 (v0 : List Int) : e_spec_l11Places_5_0.T := (((v0, ()), ()), (), ())
abbrev x_spec_l11Places_5 : List (Ex × LS) := [(.exit 0, e_spec_l11Places_5_0)]
abbrev m_spec_l11Places_5 (x0 : List Int) (x3 : List Int) (x4 : Int) (x5 : Int) : s_spec_l11Places_5.T := (((x0, ()), (x3, ()), (x4, ()), (x5, ()), ()), (), ())
noncomputable def u_spec_l11Places_5 {R : Type} (nx : s_spec_l11Places_5.T → Option R) (hx : exH R x_spec_l11Places_5) (x0 : List Int) (x3 : List Int) (x4 : Int) (x5 : Int) : Option R :=
  cond (decide (x5 < (((List.length x0) : Nat) : Int)))
  (cond (decide ((((List.length x3) + (List.length [x4])) * 8) ≤ 70368744177664))
   (cond (decide (((List.length x3) + (List.length [x4])) ≤ 70368744177664))
    (cond ((Int.tmod x5 (2 : Int)) == (0 : Int))
     (Option.bind (idx x0 x5) fun y36 =>
      nx (m_spec_l11Places_5 x0 (x3 ++ [x4]) (IntKind.wrap IntKind.i64 (x4 + y36)) (IntKind.wrap IntKind.i64 (x5 + (1 : Int)))))
     (Option.bind (idx x0 x5) fun y37 =>
      nx (m_spec_l11Places_5 x0 (x3 ++ [x4]) (IntKind.wrap IntKind.i64 (x4 - y37)) (IntKind.wrap IntKind.i64 (x5 + (1 : Int))))))
    (none))
   (none))
  (hx.1 (d_spec_l11Places_5_0 x3))
noncomputable def t_spec_l11Places_5 {R : Type} (nx : s_spec_l11Places_5.T → Option R) (hx : exH R x_spec_l11Places_5) (z : s_spec_l11Places_5.T) : Option R := u_spec_l11Places_5 nx hx z.1.1.1 z.1.2.1.1 z.1.2.2.1.1 z.1.2.2.2.1.1
theorem nat_spec_l11Places_5 : Natural @t_spec_l11Places_5 := fun R nx hx z => by
  show u_spec_l11Places_5 nx hx z.1.1.1 z.1.2.1.1 z.1.2.2.1.1 z.1.2.2.2.1.1 = (u_spec_l11Places_5 (fun y => some (.inl y)) (hIn x_spec_l11Places_5 fun x => some (.inr x)) z.1.1.1 z.1.2.1.1 z.1.2.2.1.1 z.1.2.2.2.1.1).bind (goOn nx hx)
  unfold u_spec_l11Places_5
  exact nat_cond (nat_cond (nat_cond (nat_cond (nat_bind fun _ => rfl) (nat_bind fun _ => rfl)) (rfl)) (rfl)) (rfl)
noncomputable def w_spec_l11Places_5 : s_spec_l11Places_5.T → Option (exT x_spec_l11Places_5) := wOf @t_spec_l11Places_5
theorem wq_spec_l11Places_5 (x0 : List Int) (x3 : List Int) (x4 : Int) (x5 : Int) : w_spec_l11Places_5 (m_spec_l11Places_5 x0 x3 x4 x5) = u_spec_l11Places_5 w_spec_l11Places_5 (hIn x_spec_l11Places_5 some) x0 x3 x4 x5 := wOf_eq nat_spec_l11Places_5 _
def lh_spec_l11Places_5 : LoopHint := ⟨[0, 3, 4, 5], [], [3], []⟩
noncomputable def h_spec_l11Places : Hints Rv := ⟨fun k => match k with | 5 => lh_spec_l11Places_5 | _ => ⟨[], [], [], []⟩, fun k => match k with | 5 => some (loopX s_spec_l11Places_5 x_spec_l11Places_5 w_spec_l11Places_5) | _ => none⟩
theorem st_spec_l11Places_5 (n : Nat) (z : s_spec_l11Places_5.T) (k : Ex → Live → Option Rv) : loopN ⟨33, 33⟩ lh_spec_l11Places_5 (den (tab C0 T_spec_l11Places) ⟨33, 33⟩ h_spec_l11Places 1 (loopOf Try.f39 4)) (n + 1) (s_spec_l11Places_5.enc z) k =
    t_spec_l11Places_5 (fun y => loopN ⟨33, 33⟩ lh_spec_l11Places_5 (den (tab C0 T_spec_l11Places) ⟨33, 33⟩ h_spec_l11Places 1 (loopOf Try.f39 4)) n (s_spec_l11Places_5.enc y) k) (hK k x_spec_l11Places_5) z := by kernel_rfl
theorem hs_spec_l11Places : HintsOk (tab C0 T_spec_l11Places) ⟨33, 33⟩ h_spec_l11Places 1 (loops (codeOf Try.f39)) := by
  have hl : loops (codeOf Try.f39) = [loopOf Try.f39 4] := by kernel_rfl
  rw [hl]
  exact HintsOk.cons (n := 5) (lh := lh_spec_l11Places_5) (S := loopX s_spec_l11Places_5 x_spec_l11Places_5 w_spec_l11Places_5) (by kernel_rfl) rfl rfl (loopX_ok nat_spec_l11Places_5 st_spec_l11Places_5)
    (HintsOk.nil)
noncomputable def t_spec_l11Places {R : Type} (kx : (List Int) → Option R) (a0 : (List Int)) : Option R :=
  Option.bind (w_spec_l11Places_5 (m_spec_l11Places_5 a0 [] (0 : Int) (0 : Int))) (exC x_spec_l11Places_5
  (fun e38 =>
   kx (e38.1.1.1 : List Int), ()))
noncomputable def g_spec_l11Places (a0 : (List Int)) : Option ((List Int)) := t_spec_l11Places some a0
theorem nat_spec_l11Places {R : Type} (kx : (List Int) → Option R) (a0 : (List Int)) : t_spec_l11Places kx a0 = (g_spec_l11Places a0).bind kx := by
  unfold g_spec_l11Places t_spec_l11Places
  exact nat_exC ⟨fun _ => rfl, trivial⟩
abbrev as_spec_l11Places : List AX := [.val false (.slice (.int .i64))]
abbrev en_spec_l11Places : (List Int) → AV × List CV := fun b => (.one ⟨false, [(.own (.int .i64) b)]⟩, [])
noncomputable abbrev k_spec_l11Places : Contract := .fx as_spec_l11Places ((List Int)) (fun z => g_spec_l11Places z.1) en_spec_l11Places
theorem r_spec_l11Places (z : argsX as_spec_l11Places) : runF (tab C0 T_spec_l11Places) h_spec_l11Places 1 Try.f39 (lentOf as_spec_l11Places) (xBoxes as_spec_l11Places z) (xVals as_spec_l11Places 0 z) K2 = t_spec_l11Places (fun b => some (en_spec_l11Places b)) z.1 := by kernel_rfl
theorem so_spec_l11Places : Sound C0 39 k_spec_l11Places :=
  Sound.fx a_spec_l11Places mixed Try.func39 (by kernel_rfl) (by kernel_rfl) h_spec_l11Places 1 hs_spec_l11Places (fun z => (r_spec_l11Places z).trans (nat_spec_l11Places _ z.1))

/-! ### F13 spec.SectorPlaces -/
noncomputable def T_spec_SectorPlaces : List (FuncId × Contract) := [(38, k_spec_l11Ok), (39, k_spec_l11Places)]
theorem a_spec_SectorPlaces : AllSound C0 T_spec_SectorPlaces := .cons so_spec_l11Ok (.cons so_spec_l11Places (.nil))
noncomputable def t_spec_SectorPlaces {R : Type} (kx : (List Int) × Bool → Option R) (a0 : (List Int)) : Option R :=
  Option.bind (g_spec_l11Ok a0) fun y30 =>
  cond (!y30)
  (kx ([], Bool.false))
  (Option.bind (g_spec_l11Places a0) fun y40 =>
   kx (y40, Bool.true))
noncomputable def g_spec_SectorPlaces (a0 : (List Int)) : Option ((List Int) × Bool) := t_spec_SectorPlaces some a0
theorem nat_spec_SectorPlaces {R : Type} (kx : (List Int) × Bool → Option R) (a0 : (List Int)) : t_spec_SectorPlaces kx a0 = (g_spec_SectorPlaces a0).bind kx := by
  unfold g_spec_SectorPlaces t_spec_SectorPlaces
  exact nat_bind fun _ => nat_cond (rfl) (nat_bind fun _ => rfl)
abbrev as_spec_SectorPlaces : List AX := [.val false (.slice (.int .i64))]
abbrev en_spec_SectorPlaces : (List Int) × Bool → AV × List CV := fun b => (.tup [⟨false, [(.own (.int .i64) b.1)]⟩, ⟨false, [(.v (.bool b.2))]⟩], [])
noncomputable abbrev k_spec_SectorPlaces : Contract := .fx as_spec_SectorPlaces ((List Int) × Bool) (fun z => g_spec_SectorPlaces z.1) en_spec_SectorPlaces
theorem r_spec_SectorPlaces (z : argsX as_spec_SectorPlaces) : runF (tab C0 T_spec_SectorPlaces) noHints 1 Try.f13 (lentOf as_spec_SectorPlaces) (xBoxes as_spec_SectorPlaces z) (xVals as_spec_SectorPlaces 0 z) K2 = t_spec_SectorPlaces (fun b => some (en_spec_SectorPlaces b)) z.1 := by kernel_rfl
theorem so_spec_SectorPlaces : Sound C0 13 k_spec_SectorPlaces :=
  Sound.fx a_spec_SectorPlaces mixed Try.func13 (by kernel_rfl) (by kernel_rfl) noHints 1 noHints_ok (fun z => (r_spec_SectorPlaces z).trans (nat_spec_SectorPlaces _ z.1))

/-! ### F57 impl.length[int64] -/
noncomputable def T_impl_length_int64 : List (FuncId × Contract) := []
theorem a_impl_length_int64 : AllSound C0 T_impl_length_int64 := .nil
noncomputable def t_impl_length_int64 {R : Type} (kx : Int → Option R) (a0 : (List Int)) : Option R :=
  kx (((List.length a0) : Nat) : Int)
noncomputable def g_impl_length_int64 (a0 : (List Int)) : Option (Int) := t_impl_length_int64 some a0
theorem nat_impl_length_int64 {R : Type} (kx : Int → Option R) (a0 : (List Int)) : t_impl_length_int64 kx a0 = (g_impl_length_int64 a0).bind kx := by
  unfold g_impl_length_int64 t_impl_length_int64
  exact rfl
abbrev as_impl_length_int64 : List AX := [.val false (.slice (.int .i64))]
abbrev en_impl_length_int64 : Int → AV × List CV := fun b => (.one ⟨false, [(.v (.int .i64 b))]⟩, [])
noncomputable abbrev k_impl_length_int64 : Contract := .fx as_impl_length_int64 (Int) (fun z => g_impl_length_int64 z.1) en_impl_length_int64
theorem r_impl_length_int64 (z : argsX as_impl_length_int64) : runF (tab C0 T_impl_length_int64) noHints 1 Try.f57 (lentOf as_impl_length_int64) (xBoxes as_impl_length_int64 z) (xVals as_impl_length_int64 0 z) K2 = t_impl_length_int64 (fun b => some (en_impl_length_int64 b)) z.1 := by kernel_rfl
theorem so_impl_length_int64 : Sound C0 57 k_impl_length_int64 :=
  Sound.fx a_impl_length_int64 mixed Try.func57 (by kernel_rfl) (by kernel_rfl) noHints 1 noHints_ok (fun z => (r_impl_length_int64 z).trans (nat_impl_length_int64 _ z.1))

/-! ### F37 impl.within -/
noncomputable def T_impl_within : List (FuncId × Contract) := []
theorem a_impl_within : AllSound C0 T_impl_within := .nil
noncomputable def t_impl_within {R : Type} (kx : Bool → Option R) (a0 : Int) (a1 : Int) (a2 : Int) : Option R :=
  cond (decide (a0 ≥ a1))
  (kx (cond Bool.true (decide (a0 ≤ a2)) Bool.false))
  (kx Bool.false)
noncomputable def g_impl_within (a0 : Int) (a1 : Int) (a2 : Int) : Option (Bool) := t_impl_within some a0 a1 a2
theorem nat_impl_within {R : Type} (kx : Bool → Option R) (a0 : Int) (a1 : Int) (a2 : Int) : t_impl_within kx a0 a1 a2 = (g_impl_within a0 a1 a2).bind kx := by
  unfold g_impl_within t_impl_within
  exact nat_cond (rfl) (rfl)
abbrev as_impl_within : List AX := [.val false (.int .i64), .val false (.int .i64), .val false (.int .i64)]
abbrev en_impl_within : Bool → AV × List CV := fun b => (.one ⟨false, [(.v (.bool b))]⟩, [])
noncomputable abbrev k_impl_within : Contract := .fx as_impl_within (Bool) (fun z => g_impl_within z.1 z.2.1 z.2.2.1) en_impl_within
theorem r_impl_within (z : argsX as_impl_within) : runF (tab C0 T_impl_within) noHints 1 Try.f37 (lentOf as_impl_within) (xBoxes as_impl_within z) (xVals as_impl_within 0 z) K2 = t_impl_within (fun b => some (en_impl_within b)) z.1 z.2.1 z.2.2.1 := by kernel_rfl
theorem so_impl_within : Sound C0 37 k_impl_within :=
  Sound.fx a_impl_within mixed Try.func37 (by kernel_rfl) (by kernel_rfl) noHints 1 noHints_ok (fun z => (r_impl_within z).trans (nat_impl_within _ z.1 z.2.1 z.2.2.1))

/-! ### F61 impl.ValidCone$1 -/
noncomputable def T_impl_ValidCone_1 : List (FuncId × Contract) := [(37, k_impl_within)]
theorem a_impl_ValidCone_1 : AllSound C0 T_impl_ValidCone_1 := .cons so_impl_within (.nil)
noncomputable def t_impl_ValidCone_1 {R : Type} (kx : Bool → Option R) (a0 : Int) : Option R :=
  Option.bind (g_impl_within a0 (1 : Int) (16 : Int)) fun y58 =>
  kx (!y58)
noncomputable def g_impl_ValidCone_1 (a0 : Int) : Option (Bool) := t_impl_ValidCone_1 some a0
theorem nat_impl_ValidCone_1 {R : Type} (kx : Bool → Option R) (a0 : Int) : t_impl_ValidCone_1 kx a0 = (g_impl_ValidCone_1 a0).bind kx := by
  unfold g_impl_ValidCone_1 t_impl_ValidCone_1
  exact nat_bind fun _ => rfl
abbrev as_impl_ValidCone_1 : List AX := [.val false (.int .i64)]
abbrev en_impl_ValidCone_1 : Bool → AV × List CV := fun b => (.one ⟨false, [(.v (.bool b))]⟩, [])
noncomputable abbrev k_impl_ValidCone_1 : Contract := .fx as_impl_ValidCone_1 (Bool) (fun z => g_impl_ValidCone_1 z.1) en_impl_ValidCone_1
theorem r_impl_ValidCone_1 (z : argsX as_impl_ValidCone_1) : runF (tab C0 T_impl_ValidCone_1) noHints 1 Try.f61 (lentOf as_impl_ValidCone_1) (xBoxes as_impl_ValidCone_1 z) (xVals as_impl_ValidCone_1 0 z) K2 = t_impl_ValidCone_1 (fun b => some (en_impl_ValidCone_1 b)) z.1 := by kernel_rfl
theorem so_impl_ValidCone_1 : Sound C0 61 k_impl_ValidCone_1 :=
  Sound.fx a_impl_ValidCone_1 mixed Try.func61 (by kernel_rfl) (by kernel_rfl) noHints 1 noHints_ok (fun z => (r_impl_ValidCone_1 z).trans (nat_impl_ValidCone_1 _ z.1))

/-! ### F60 slices.IndexFunc[[]int64,int64] -/
noncomputable def T_slices_IndexFunc_Sint64_int64__impl_ValidCone_1 : List (FuncId × Contract) := [(61, k_impl_ValidCone_1)]
theorem a_slices_IndexFunc_Sint64_int64__impl_ValidCone_1 : AllSound C0 T_slices_IndexFunc_Sint64_int64__impl_ValidCone_1 := .cons so_impl_ValidCone_1 (.nil)
abbrev s_slices_IndexFunc_Sint64_int64__impl_ValidCone_1_3 : LS := ⟨[(false, [(.sl (.int .i64))]), (false, [(.fn 61 [])]), (false, [(.int .i64)]), (false, [(.int .i64)])], [], []⟩
abbrev e_slices_IndexFunc_Sint64_int64__impl_ValidCone_1_3_0 : LS := ⟨[(false, [(.int .i64)])], [], []⟩
abbrev d_slices_IndexFunc_Sint64_int64__impl_ValidCone_1_3_0 (v0 : Int) : e_slices_IndexFunc_Sint64_int64__impl_ValidCone_1_3_0.T := (((v0, ()), ()), (), ())
abbrev e_slices_IndexFunc_Sint64_int64__impl_ValidCone_1_3_1 : LS := ⟨[(false, [.undef])], [], []⟩
abbrev d_slices_IndexFunc_Sint64_int64__impl_ValidCone_1_3_1 : e_slices_IndexFunc_Sint64_int64__impl_ValidCone_1_3_1.T := ((((), ()), ()), (), ())
abbrev x_slices_IndexFunc_Sint64_int64__impl_ValidCone_1_3 : List (Ex × LS) := [(.ret, e_slices_IndexFunc_Sint64_int64__impl_ValidCone_1_3_0), (.exit 0, e_slices_IndexFunc_Sint64_int64__impl_ValidCone_1_3_1)]
abbrev m_slices_IndexFunc_Sint64_int64__impl_ValidCone_1_3 (x0 : List Int) (x7 : Int) (x8 : Int) : s_slices_IndexFunc_Sint64_int64__impl_ValidCone_1_3.T := (((x0, ()), ((), ()), (x7, ()), (x8, ()), ()), (), ())
noncomputable def u_slices_IndexFunc_Sint64_int64__impl_ValidCone_1_3 {R : Type} (nx : s_slices_IndexFunc_Sint64_int64__impl_ValidCone_1_3.T → Option R) (hx : exH R x_slices_IndexFunc_Sint64_int64__impl_ValidCone_1_3) (x0 : List Int) (x7 : Int) (x8 : Int) : Option R :=
  cond (decide (x8 < x7))
  (Option.bind (idx x0 x8) fun y56 =>
   Option.bind (g_impl_ValidCone_1 y56) fun y59 =>
   cond y59
   (hx.1 (d_slices_IndexFunc_Sint64_int64__impl_ValidCone_1_3_0 x8))
   (nx (m_slices_IndexFunc_Sint64_int64__impl_ValidCone_1_3 x0 x7 (IntKind.wrap IntKind.i64 (x8 + (1 : Int))))))
  (hx.2.1 (d_slices_IndexFunc_Sint64_int64__impl_ValidCone_1_3_1))
noncomputable def t_slices_IndexFunc_Sint64_int64__impl_ValidCone_1_3 {R : Type} (nx : s_slices_IndexFunc_Sint64_int64__impl_ValidCone_1_3.T → Option R) (hx : exH R x_slices_IndexFunc_Sint64_int64__impl_ValidCone_1_3) (z : s_slices_IndexFunc_Sint64_int64__impl_ValidCone_1_3.T) : Option R := u_slices_IndexFunc_Sint64_int64__impl_ValidCone_1_3 nx hx z.1.1.1 z.1.2.2.1.1 z.1.2.2.2.1.1
theorem nat_slices_IndexFunc_Sint64_int64__impl_ValidCone_1_3 : Natural @t_slices_IndexFunc_Sint64_int64__impl_ValidCone_1_3 := fun R nx hx z => by
  show u_slices_IndexFunc_Sint64_int64__impl_ValidCone_1_3 nx hx z.1.1.1 z.1.2.2.1.1 z.1.2.2.2.1.1 = (u_slices_IndexFunc_Sint64_int64__impl_ValidCone_1_3 (fun y => some (.inl y)) (hIn x_slices_IndexFunc_Sint64_int64__impl_ValidCone_1_3 fun x => some (.inr x)) z.1.1.1 z.1.2.2.1.1 z.1.2.2.2.1.1).bind (goOn nx hx)
  unfold u_slices_IndexFunc_Sint64_int64__impl_ValidCone_1_3
  exact nat_cond (nat_bind fun _ => nat_bind fun _ => nat_cond (rfl) (rfl)) (rfl)
noncomputable def w_slices_IndexFunc_Sint64_int64__impl_ValidCone_1_3 : s_slices_IndexFunc_Sint64_int64__impl_ValidCone_1_3.T → Option (exT x_slices_IndexFunc_Sint64_int64__impl_ValidCone_1_3) := wOf @t_slices_IndexFunc_Sint64_int64__impl_ValidCone_1_3
theorem wq_slices_IndexFunc_Sint64_int64__impl_ValidCone_1_3 (x0 : List Int) (x7 : Int) (x8 : Int) : w_slices_IndexFunc_Sint64_int64__impl_ValidCone_1_3 (m_slices_IndexFunc_Sint64_int64__impl_ValidCone_1_3 x0 x7 x8) = u_slices_IndexFunc_Sint64_int64__impl_ValidCone_1_3 w_slices_IndexFunc_Sint64_int64__impl_ValidCone_1_3 (hIn x_slices_IndexFunc_Sint64_int64__impl_ValidCone_1_3 some) x0 x7 x8 := wOf_eq nat_slices_IndexFunc_Sint64_int64__impl_ValidCone_1_3 _
def lh_slices_IndexFunc_Sint64_int64__impl_ValidCone_1_3 : LoopHint := ⟨[0, 1, 7, 8], [], [4], []⟩
noncomputable def h_slices_IndexFunc_Sint64_int64__impl_ValidCone_1 : Hints Rv := ⟨fun k => match k with | 3 => lh_slices_IndexFunc_Sint64_int64__impl_ValidCone_1_3 | _ => ⟨[], [], [], []⟩, fun k => match k with | 3 => some (loopX s_slices_IndexFunc_Sint64_int64__impl_ValidCone_1_3 x_slices_IndexFunc_Sint64_int64__impl_ValidCone_1_3 w_slices_IndexFunc_Sint64_int64__impl_ValidCone_1_3) | _ => none⟩
theorem st_slices_IndexFunc_Sint64_int64__impl_ValidCone_1_3 (n : Nat) (z : s_slices_IndexFunc_Sint64_int64__impl_ValidCone_1_3.T) (k : Ex → Live → Option Rv) : loopN ⟨19, 19⟩ lh_slices_IndexFunc_Sint64_int64__impl_ValidCone_1_3 (den (tab C0 T_slices_IndexFunc_Sint64_int64__impl_ValidCone_1) ⟨19, 19⟩ h_slices_IndexFunc_Sint64_int64__impl_ValidCone_1 1 (loopOf Try.f60 2)) (n + 1) (s_slices_IndexFunc_Sint64_int64__impl_ValidCone_1_3.enc z) k =
    t_slices_IndexFunc_Sint64_int64__impl_ValidCone_1_3 (fun y => loopN ⟨19, 19⟩ lh_slices_IndexFunc_Sint64_int64__impl_ValidCone_1_3 (den (tab C0 T_slices_IndexFunc_Sint64_int64__impl_ValidCone_1) ⟨19, 19⟩ h_slices_IndexFunc_Sint64_int64__impl_ValidCone_1 1 (loopOf Try.f60 2)) n (s_slices_IndexFunc_Sint64_int64__impl_ValidCone_1_3.enc y) k) (hK k x_slices_IndexFunc_Sint64_int64__impl_ValidCone_1_3) z := by kernel_rfl
theorem hs_slices_IndexFunc_Sint64_int64__impl_ValidCone_1 : HintsOk (tab C0 T_slices_IndexFunc_Sint64_int64__impl_ValidCone_1) ⟨19, 19⟩ h_slices_IndexFunc_Sint64_int64__impl_ValidCone_1 1 (loops (codeOf Try.f60)) := by
  have hl : loops (codeOf Try.f60) = [loopOf Try.f60 2] := by kernel_rfl
  rw [hl]
  exact HintsOk.cons (n := 3) (lh := lh_slices_IndexFunc_Sint64_int64__impl_ValidCone_1_3) (S := loopX s_slices_IndexFunc_Sint64_int64__impl_ValidCone_1_3 x_slices_IndexFunc_Sint64_int64__impl_ValidCone_1_3 w_slices_IndexFunc_Sint64_int64__impl_ValidCone_1_3) (by kernel_rfl) rfl rfl (loopX_ok nat_slices_IndexFunc_Sint64_int64__impl_ValidCone_1_3 st_slices_IndexFunc_Sint64_int64__impl_ValidCone_1_3)
    (HintsOk.nil)
noncomputable def t_slices_IndexFunc_Sint64_int64__impl_ValidCone_1 {R : Type} (kx : Int → Option R) (a0 : (List Int)) : Option R :=
  Option.bind (w_slices_IndexFunc_Sint64_int64__impl_ValidCone_1_3 (m_slices_IndexFunc_Sint64_int64__impl_ValidCone_1_3 a0 (((List.length a0) : Nat) : Int) (0 : Int))) (exC x_slices_IndexFunc_Sint64_int64__impl_ValidCone_1_3
  (fun e60 =>
   kx (e60.1.1.1 : Int), fun _ =>
   kx (-(1 : Int)), ()))
noncomputable def g_slices_IndexFunc_Sint64_int64__impl_ValidCone_1 (a0 : (List Int)) : Option (Int) := t_slices_IndexFunc_Sint64_int64__impl_ValidCone_1 some a0
theorem nat_slices_IndexFunc_Sint64_int64__impl_ValidCone_1 {R : Type} (kx : Int → Option R) (a0 : (List Int)) : t_slices_IndexFunc_Sint64_int64__impl_ValidCone_1 kx a0 = (g_slices_IndexFunc_Sint64_int64__impl_ValidCone_1 a0).bind kx := by
  unfold g_slices_IndexFunc_Sint64_int64__impl_ValidCone_1 t_slices_IndexFunc_Sint64_int64__impl_ValidCone_1
  exact nat_exC ⟨fun _ => rfl, fun _ => rfl, trivial⟩
abbrev as_slices_IndexFunc_Sint64_int64__impl_ValidCone_1 : List AX := [.val false (.slice (.int .i64)), .clo 61 []]
abbrev en_slices_IndexFunc_Sint64_int64__impl_ValidCone_1 : Int → AV × List CV := fun b => (.one ⟨false, [(.v (.int .i64 b))]⟩, [])
noncomputable abbrev k_slices_IndexFunc_Sint64_int64__impl_ValidCone_1 : Contract := .fx as_slices_IndexFunc_Sint64_int64__impl_ValidCone_1 (Int) (fun z => g_slices_IndexFunc_Sint64_int64__impl_ValidCone_1 z.1) en_slices_IndexFunc_Sint64_int64__impl_ValidCone_1
theorem r_slices_IndexFunc_Sint64_int64__impl_ValidCone_1 (z : argsX as_slices_IndexFunc_Sint64_int64__impl_ValidCone_1) : runF (tab C0 T_slices_IndexFunc_Sint64_int64__impl_ValidCone_1) h_slices_IndexFunc_Sint64_int64__impl_ValidCone_1 1 Try.f60 (lentOf as_slices_IndexFunc_Sint64_int64__impl_ValidCone_1) (xBoxes as_slices_IndexFunc_Sint64_int64__impl_ValidCone_1 z) (xVals as_slices_IndexFunc_Sint64_int64__impl_ValidCone_1 0 z) K2 = t_slices_IndexFunc_Sint64_int64__impl_ValidCone_1 (fun b => some (en_slices_IndexFunc_Sint64_int64__impl_ValidCone_1 b)) z.1 := by kernel_rfl
theorem so_slices_IndexFunc_Sint64_int64__impl_ValidCone_1 : Sound C0 60 k_slices_IndexFunc_Sint64_int64__impl_ValidCone_1 :=
  Sound.fx a_slices_IndexFunc_Sint64_int64__impl_ValidCone_1 mixed Try.func60 (by kernel_rfl) (by kernel_rfl) h_slices_IndexFunc_Sint64_int64__impl_ValidCone_1 1 hs_slices_IndexFunc_Sint64_int64__impl_ValidCone_1 (fun z => (r_slices_IndexFunc_Sint64_int64__impl_ValidCone_1 z).trans (nat_slices_IndexFunc_Sint64_int64__impl_ValidCone_1 _ z.1))

/-! ### F35 slices.ContainsFunc[[]int64,int64] -/
noncomputable def T_slices_ContainsFunc_Sint64_int64__impl_ValidCone_1 : List (FuncId × Contract) := [(60, k_slices_IndexFunc_Sint64_int64__impl_ValidCone_1)]
theorem a_slices_ContainsFunc_Sint64_int64__impl_ValidCone_1 : AllSound C0 T_slices_ContainsFunc_Sint64_int64__impl_ValidCone_1 := .cons so_slices_IndexFunc_Sint64_int64__impl_ValidCone_1 (.nil)
noncomputable def t_slices_ContainsFunc_Sint64_int64__impl_ValidCone_1 {R : Type} (kx : Bool → Option R) (a0 : (List Int)) : Option R :=
  Option.bind (g_slices_IndexFunc_Sint64_int64__impl_ValidCone_1 a0) fun y63 =>
  kx (decide (y63 ≥ (0 : Int)))
noncomputable def g_slices_ContainsFunc_Sint64_int64__impl_ValidCone_1 (a0 : (List Int)) : Option (Bool) := t_slices_ContainsFunc_Sint64_int64__impl_ValidCone_1 some a0
theorem nat_slices_ContainsFunc_Sint64_int64__impl_ValidCone_1 {R : Type} (kx : Bool → Option R) (a0 : (List Int)) : t_slices_ContainsFunc_Sint64_int64__impl_ValidCone_1 kx a0 = (g_slices_ContainsFunc_Sint64_int64__impl_ValidCone_1 a0).bind kx := by
  unfold g_slices_ContainsFunc_Sint64_int64__impl_ValidCone_1 t_slices_ContainsFunc_Sint64_int64__impl_ValidCone_1
  exact nat_bind fun _ => rfl
abbrev as_slices_ContainsFunc_Sint64_int64__impl_ValidCone_1 : List AX := [.val false (.slice (.int .i64)), .clo 61 []]
abbrev en_slices_ContainsFunc_Sint64_int64__impl_ValidCone_1 : Bool → AV × List CV := fun b => (.one ⟨false, [(.v (.bool b))]⟩, [])
noncomputable abbrev k_slices_ContainsFunc_Sint64_int64__impl_ValidCone_1 : Contract := .fx as_slices_ContainsFunc_Sint64_int64__impl_ValidCone_1 (Bool) (fun z => g_slices_ContainsFunc_Sint64_int64__impl_ValidCone_1 z.1) en_slices_ContainsFunc_Sint64_int64__impl_ValidCone_1
theorem r_slices_ContainsFunc_Sint64_int64__impl_ValidCone_1 (z : argsX as_slices_ContainsFunc_Sint64_int64__impl_ValidCone_1) : runF (tab C0 T_slices_ContainsFunc_Sint64_int64__impl_ValidCone_1) noHints 1 Try.f35 (lentOf as_slices_ContainsFunc_Sint64_int64__impl_ValidCone_1) (xBoxes as_slices_ContainsFunc_Sint64_int64__impl_ValidCone_1 z) (xVals as_slices_ContainsFunc_Sint64_int64__impl_ValidCone_1 0 z) K2 = t_slices_ContainsFunc_Sint64_int64__impl_ValidCone_1 (fun b => some (en_slices_ContainsFunc_Sint64_int64__impl_ValidCone_1 b)) z.1 := by kernel_rfl
theorem so_slices_ContainsFunc_Sint64_int64__impl_ValidCone_1 : Sound C0 35 k_slices_ContainsFunc_Sint64_int64__impl_ValidCone_1 :=
  Sound.fx a_slices_ContainsFunc_Sint64_int64__impl_ValidCone_1 mixed Try.func35 (by kernel_rfl) (by kernel_rfl) noHints 1 noHints_ok (fun z => (r_slices_ContainsFunc_Sint64_int64__impl_ValidCone_1 z).trans (nat_slices_ContainsFunc_Sint64_int64__impl_ValidCone_1 _ z.1))

/-! ### F59 impl.sumOf -/
noncomputable def T_impl_sumOf : List (FuncId × Contract) := []
theorem a_impl_sumOf : AllSound C0 T_impl_sumOf := .nil
abbrev s_impl_sumOf_4 : LS := ⟨[(false, [(.int .i64)]), (false, [(.sl (.int .i64))]), (false, [(.int .i64)]), (false, [(.int .i64)])], [], []⟩
abbrev e_impl_sumOf_4_0 : LS := ⟨[(false, [(.int .i64)])], [], []⟩
abbrev d_impl_sumOf_4_0 (v0 : Int) : e_impl_sumOf_4_0.T := (((v0, ()), ()), (), ())
abbrev x_impl_sumOf_4 : List (Ex × LS) := [(.exit 0, e_impl_sumOf_4_0)]
abbrev m_impl_sumOf_4 (x3 : Int) (x6 : List Int) (x7 : Int) (x8 : Int) : s_impl_sumOf_4.T := (((x3, ()), (x6, ()), (x7, ()), (x8, ()), ()), (), ())
noncomputable def u_impl_sumOf_4 {R : Type} (nx : s_impl_sumOf_4.T → Option R) (hx : exH R x_impl_sumOf_4) (x3 : Int) (x6 : List Int) (x7 : Int) (x8 : Int) : Option R :=
  cond (decide (x8 < x7))
  (Option.bind (idx x6 x8) fun y70 =>
   nx (m_impl_sumOf_4 (IntKind.wrap IntKind.i64 (x3 + y70)) x6 x7 (IntKind.wrap IntKind.i64 (x8 + (1 : Int)))))
  (hx.1 (d_impl_sumOf_4_0 x3))
noncomputable def t_impl_sumOf_4 {R : Type} (nx : s_impl_sumOf_4.T → Option R) (hx : exH R x_impl_sumOf_4) (z : s_impl_sumOf_4.T) : Option R := u_impl_sumOf_4 nx hx z.1.1.1 z.1.2.1.1 z.1.2.2.1.1 z.1.2.2.2.1.1
theorem nat_impl_sumOf_4 : Natural @t_impl_sumOf_4 := fun R nx hx z => by
  show u_impl_sumOf_4 nx hx z.1.1.1 z.1.2.1.1 z.1.2.2.1.1 z.1.2.2.2.1.1 = (u_impl_sumOf_4 (fun y => some (.inl y)) (hIn x_impl_sumOf_4 fun x => some (.inr x)) z.1.1.1 z.1.2.1.1 z.1.2.2.1.1 z.1.2.2.2.1.1).bind (goOn nx hx)
  unfold u_impl_sumOf_4
  exact nat_cond (nat_bind fun _ => rfl) (rfl)
noncomputable def w_impl_sumOf_4 : s_impl_sumOf_4.T → Option (exT x_impl_sumOf_4) := wOf @t_impl_sumOf_4
theorem wq_impl_sumOf_4 (x3 : Int) (x6 : List Int) (x7 : Int) (x8 : Int) : w_impl_sumOf_4 (m_impl_sumOf_4 x3 x6 x7 x8) = u_impl_sumOf_4 w_impl_sumOf_4 (hIn x_impl_sumOf_4 some) x3 x6 x7 x8 := wOf_eq nat_impl_sumOf_4 _
def lh_impl_sumOf_4 : LoopHint := ⟨[3, 6, 7, 8], [], [3], []⟩
noncomputable def h_impl_sumOf : Hints Rv := ⟨fun k => match k with | 4 => lh_impl_sumOf_4 | _ => ⟨[], [], [], []⟩, fun k => match k with | 4 => some (loopX s_impl_sumOf_4 x_impl_sumOf_4 w_impl_sumOf_4) | _ => none⟩
theorem st_impl_sumOf_4 (n : Nat) (z : s_impl_sumOf_4.T) (k : Ex → Live → Option Rv) : loopN ⟨17, 17⟩ lh_impl_sumOf_4 (den (tab C0 T_impl_sumOf) ⟨17, 17⟩ h_impl_sumOf 1 (loopOf Try.f59 3)) (n + 1) (s_impl_sumOf_4.enc z) k =
    t_impl_sumOf_4 (fun y => loopN ⟨17, 17⟩ lh_impl_sumOf_4 (den (tab C0 T_impl_sumOf) ⟨17, 17⟩ h_impl_sumOf 1 (loopOf Try.f59 3)) n (s_impl_sumOf_4.enc y) k) (hK k x_impl_sumOf_4) z := by kernel_rfl
theorem hs_impl_sumOf : HintsOk (tab C0 T_impl_sumOf) ⟨17, 17⟩ h_impl_sumOf 1 (loops (codeOf Try.f59)) := by
  have hl : loops (codeOf Try.f59) = [loopOf Try.f59 3] := by kernel_rfl
  rw [hl]
  exact HintsOk.cons (n := 4) (lh := lh_impl_sumOf_4) (S := loopX s_impl_sumOf_4 x_impl_sumOf_4 w_impl_sumOf_4) (by kernel_rfl) rfl rfl (loopX_ok nat_impl_sumOf_4 st_impl_sumOf_4)
    (HintsOk.nil)
noncomputable def t_impl_sumOf {R : Type} (kx : Int → Option R) (a0 : (List Int)) : Option R :=
  Option.bind (w_impl_sumOf_4 (m_impl_sumOf_4 (0 : Int) a0 (((List.length a0) : Nat) : Int) (0 : Int))) (exC x_impl_sumOf_4
  (fun e71 =>
   kx (e71.1.1.1 : Int), ()))
noncomputable def g_impl_sumOf (a0 : (List Int)) : Option (Int) := t_impl_sumOf some a0
theorem nat_impl_sumOf {R : Type} (kx : Int → Option R) (a0 : (List Int)) : t_impl_sumOf kx a0 = (g_impl_sumOf a0).bind kx := by
  unfold g_impl_sumOf t_impl_sumOf
  exact nat_exC ⟨fun _ => rfl, trivial⟩
abbrev as_impl_sumOf : List AX := [.val false (.slice (.int .i64))]
abbrev en_impl_sumOf : Int → AV × List CV := fun b => (.one ⟨false, [(.v (.int .i64 b))]⟩, [])
noncomputable abbrev k_impl_sumOf : Contract := .fx as_impl_sumOf (Int) (fun z => g_impl_sumOf z.1) en_impl_sumOf
theorem r_impl_sumOf (z : argsX as_impl_sumOf) : runF (tab C0 T_impl_sumOf) h_impl_sumOf 1 Try.f59 (lentOf as_impl_sumOf) (xBoxes as_impl_sumOf z) (xVals as_impl_sumOf 0 z) K2 = t_impl_sumOf (fun b => some (en_impl_sumOf b)) z.1 := by kernel_rfl
theorem so_impl_sumOf : Sound C0 59 k_impl_sumOf :=
  Sound.fx a_impl_sumOf mixed Try.func59 (by kernel_rfl) (by kernel_rfl) h_impl_sumOf 1 hs_impl_sumOf (fun z => (r_impl_sumOf z).trans (nat_impl_sumOf _ z.1))

/-! ### F62 impl.alternating -/
noncomputable def T_impl_alternating : List (FuncId × Contract) := []
theorem a_impl_alternating : AllSound C0 T_impl_alternating := .nil
abbrev s_impl_alternating_4 : LS := ⟨[(false, [(.int .i64)]), (false, [(.sl (.int .i64))]), (false, [(.int .i64)]), (false, [(.int .i64)])], [], []⟩
abbrev e_impl_alternating_4_0 : LS := ⟨[(false, [(.int .i64)])], [], []⟩
abbrev d_impl_alternating_4_0 (v0 : Int) : e_impl_alternating_4_0.T := (((v0, ()), ()), (), ())
abbrev x_impl_alternating_4 : List (Ex × LS) := [(.exit 0, e_impl_alternating_4_0)]
abbrev m_impl_alternating_4 (x3 : Int) (x6 : List Int) (x7 : Int) (x8 : Int) : s_impl_alternating_4.T := (((x3, ()), (x6, ()), (x7, ()), (x8, ()), ()), (), ())
noncomputable def u_impl_alternating_4 {R : Type} (nx : s_impl_alternating_4.T → Option R) (hx : exH R x_impl_alternating_4) (x3 : Int) (x6 : List Int) (x7 : Int) (x8 : Int) : Option R :=
  cond (decide (x8 < x7))
  (Option.bind (idx x6 x8) fun y79 =>
   cond ((Int.tmod x8 (2 : Int)) == (0 : Int))
   (nx (m_impl_alternating_4 (IntKind.wrap IntKind.i64 (x3 + y79)) x6 x7 (IntKind.wrap IntKind.i64 (x8 + (1 : Int)))))
   (nx (m_impl_alternating_4 (IntKind.wrap IntKind.i64 (x3 - y79)) x6 x7 (IntKind.wrap IntKind.i64 (x8 + (1 : Int))))))
  (hx.1 (d_impl_alternating_4_0 x3))
noncomputable def t_impl_alternating_4 {R : Type} (nx : s_impl_alternating_4.T → Option R) (hx : exH R x_impl_alternating_4) (z : s_impl_alternating_4.T) : Option R := u_impl_alternating_4 nx hx z.1.1.1 z.1.2.1.1 z.1.2.2.1.1 z.1.2.2.2.1.1
theorem nat_impl_alternating_4 : Natural @t_impl_alternating_4 := fun R nx hx z => by
  show u_impl_alternating_4 nx hx z.1.1.1 z.1.2.1.1 z.1.2.2.1.1 z.1.2.2.2.1.1 = (u_impl_alternating_4 (fun y => some (.inl y)) (hIn x_impl_alternating_4 fun x => some (.inr x)) z.1.1.1 z.1.2.1.1 z.1.2.2.1.1 z.1.2.2.2.1.1).bind (goOn nx hx)
  unfold u_impl_alternating_4
  exact nat_cond (nat_bind fun _ => nat_cond (rfl) (rfl)) (rfl)
noncomputable def w_impl_alternating_4 : s_impl_alternating_4.T → Option (exT x_impl_alternating_4) := wOf @t_impl_alternating_4
theorem wq_impl_alternating_4 (x3 : Int) (x6 : List Int) (x7 : Int) (x8 : Int) : w_impl_alternating_4 (m_impl_alternating_4 x3 x6 x7 x8) = u_impl_alternating_4 w_impl_alternating_4 (hIn x_impl_alternating_4 some) x3 x6 x7 x8 := wOf_eq nat_impl_alternating_4 _
def lh_impl_alternating_4 : LoopHint := ⟨[3, 6, 7, 8], [], [3], []⟩
noncomputable def h_impl_alternating : Hints Rv := ⟨fun k => match k with | 4 => lh_impl_alternating_4 | _ => ⟨[], [], [], []⟩, fun k => match k with | 4 => some (loopX s_impl_alternating_4 x_impl_alternating_4 w_impl_alternating_4) | _ => none⟩
theorem st_impl_alternating_4 (n : Nat) (z : s_impl_alternating_4.T) (k : Ex → Live → Option Rv) : loopN ⟨24, 24⟩ lh_impl_alternating_4 (den (tab C0 T_impl_alternating) ⟨24, 24⟩ h_impl_alternating 1 (loopOf Try.f62 3)) (n + 1) (s_impl_alternating_4.enc z) k =
    t_impl_alternating_4 (fun y => loopN ⟨24, 24⟩ lh_impl_alternating_4 (den (tab C0 T_impl_alternating) ⟨24, 24⟩ h_impl_alternating 1 (loopOf Try.f62 3)) n (s_impl_alternating_4.enc y) k) (hK k x_impl_alternating_4) z := by kernel_rfl
theorem hs_impl_alternating : HintsOk (tab C0 T_impl_alternating) ⟨24, 24⟩ h_impl_alternating 1 (loops (codeOf Try.f62)) := by
  have hl : loops (codeOf Try.f62) = [loopOf Try.f62 3] := by kernel_rfl
  rw [hl]
  exact HintsOk.cons (n := 4) (lh := lh_impl_alternating_4) (S := loopX s_impl_alternating_4 x_impl_alternating_4 w_impl_alternating_4) (by kernel_rfl) rfl rfl (loopX_ok nat_impl_alternating_4 st_impl_alternating_4)
    (HintsOk.nil)
noncomputable def t_impl_alternating {R : Type} (kx : Int → Option R) (a0 : (List Int)) : Option R :=
  Option.bind (w_impl_alternating_4 (m_impl_alternating_4 (0 : Int) a0 (((List.length a0) : Nat) : Int) (0 : Int))) (exC x_impl_alternating_4
  (fun e80 =>
   kx (e80.1.1.1 : Int), ()))
noncomputable def g_impl_alternating (a0 : (List Int)) : Option (Int) := t_impl_alternating some a0
theorem nat_impl_alternating {R : Type} (kx : Int → Option R) (a0 : (List Int)) : t_impl_alternating kx a0 = (g_impl_alternating a0).bind kx := by
  unfold g_impl_alternating t_impl_alternating
  exact nat_exC ⟨fun _ => rfl, trivial⟩
abbrev as_impl_alternating : List AX := [.val false (.slice (.int .i64))]
abbrev en_impl_alternating : Int → AV × List CV := fun b => (.one ⟨false, [(.v (.int .i64 b))]⟩, [])
noncomputable abbrev k_impl_alternating : Contract := .fx as_impl_alternating (Int) (fun z => g_impl_alternating z.1) en_impl_alternating
theorem r_impl_alternating (z : argsX as_impl_alternating) : runF (tab C0 T_impl_alternating) h_impl_alternating 1 Try.f62 (lentOf as_impl_alternating) (xBoxes as_impl_alternating z) (xVals as_impl_alternating 0 z) K2 = t_impl_alternating (fun b => some (en_impl_alternating b)) z.1 := by kernel_rfl
theorem so_impl_alternating : Sound C0 62 k_impl_alternating :=
  Sound.fx a_impl_alternating mixed Try.func62 (by kernel_rfl) (by kernel_rfl) h_impl_alternating 1 hs_impl_alternating (fun z => (r_impl_alternating z).trans (nat_impl_alternating _ z.1))

/-! ### F40 impl.ValidCone -/
noncomputable def T_impl_ValidCone : List (FuncId × Contract) := [(57, k_impl_length_int64), (37, k_impl_within), (35, k_slices_ContainsFunc_Sint64_int64__impl_ValidCone_1), (59, k_impl_sumOf), (62, k_impl_alternating)]
theorem a_impl_ValidCone : AllSound C0 T_impl_ValidCone := .cons so_impl_length_int64 (.cons so_impl_within (.cons so_slices_ContainsFunc_Sint64_int64__impl_ValidCone_1 (.cons so_impl_sumOf (.cons so_impl_alternating (.nil)))))
noncomputable def t_impl_ValidCone {R : Type} (kx : Bool → Option R) (a0 : (List Int)) : Option R :=
  Option.bind (g_impl_length_int64 a0) fun y46 =>
  Option.bind (g_impl_within y46 (2 : Int) (16 : Int)) fun y50 =>
  cond (!y50)
  (kx Bool.false)
  (cond (cond Bool.false Bool.true ((Int.tmod (((List.length a0) : Nat) : Int) (2 : Int)) == (1 : Int)))
   (kx Bool.false)
   (Option.bind (g_slices_ContainsFunc_Sint64_int64__impl_ValidCone_1 a0) fun y64 =>
    cond (!y64)
    (Option.bind (g_impl_sumOf a0) fun y73 =>
     cond (cond Bool.true (decide (y73 ≤ (16 : Int))) Bool.false)
     (Option.bind (g_impl_alternating a0) fun y82 =>
      kx (cond Bool.true (y82 == (0 : Int)) Bool.false))
     (kx Bool.false))
    (kx Bool.false)))
noncomputable def g_impl_ValidCone (a0 : (List Int)) : Option (Bool) := t_impl_ValidCone some a0
theorem nat_impl_ValidCone {R : Type} (kx : Bool → Option R) (a0 : (List Int)) : t_impl_ValidCone kx a0 = (g_impl_ValidCone a0).bind kx := by
  unfold g_impl_ValidCone t_impl_ValidCone
  exact nat_bind fun _ => nat_bind fun _ => nat_cond (rfl) (nat_cond (rfl) (nat_bind fun _ => nat_cond (nat_bind fun _ => nat_cond (nat_bind fun _ => rfl) (rfl)) (rfl)))
abbrev as_impl_ValidCone : List AX := [.val false (.slice (.int .i64))]
abbrev en_impl_ValidCone : Bool → AV × List CV := fun b => (.one ⟨false, [(.v (.bool b))]⟩, [])
noncomputable abbrev k_impl_ValidCone : Contract := .fx as_impl_ValidCone (Bool) (fun z => g_impl_ValidCone z.1) en_impl_ValidCone
theorem r_impl_ValidCone (z : argsX as_impl_ValidCone) : runF (tab C0 T_impl_ValidCone) noHints 1 Try.f40 (lentOf as_impl_ValidCone) (xBoxes as_impl_ValidCone z) (xVals as_impl_ValidCone 0 z) K2 = t_impl_ValidCone (fun b => some (en_impl_ValidCone b)) z.1 := by kernel_rfl
theorem so_impl_ValidCone : Sound C0 40 k_impl_ValidCone :=
  Sound.fx a_impl_ValidCone mixed Try.func40 (by kernel_rfl) (by kernel_rfl) noHints 1 noHints_ok (fun z => (r_impl_ValidCone z).trans (nat_impl_ValidCone _ z.1))

/-! ### F41 impl.places -/
noncomputable def T_impl_places : List (FuncId × Contract) := []
theorem a_impl_places : AllSound C0 T_impl_places := .nil
abbrev s_impl_places_5 : LS := ⟨[(false, [(.own (.int .i64))]), (false, [(.int .i64)]), (false, [(.sl (.int .i64))]), (false, [(.int .i64)]), (false, [(.int .i64)])], [], []⟩
abbrev e_impl_places_5_0 : LS := ⟨[(false, [(.own (.int .i64))])], [], []⟩
abbrev d_impl_places_5_0 (v0 : List Int) : e_impl_places_5_0.T := (((v0, ()), ()), (), ())
abbrev x_impl_places_5 : List (Ex × LS) := [(.exit 0, e_impl_places_5_0)]
abbrev m_impl_places_5 (x3 : List Int) (x4 : Int) (x7 : List Int) (x8 : Int) (x9 : Int) : s_impl_places_5.T := (((x3, ()), (x4, ()), (x7, ()), (x8, ()), (x9, ()), ()), (), ())
noncomputable def u_impl_places_5 {R : Type} (nx : s_impl_places_5.T → Option R) (hx : exH R x_impl_places_5) (x3 : List Int) (x4 : Int) (x7 : List Int) (x8 : Int) (x9 : Int) : Option R :=
  cond (decide (x9 < x8))
  (Option.bind (idx x7 x9) fun y90 =>
   cond (decide ((((List.length x3) + (List.length [x4])) * 8) ≤ 70368744177664))
   (cond (decide (((List.length x3) + (List.length [x4])) ≤ 70368744177664))
    (cond ((Int.tmod x9 (2 : Int)) == (0 : Int))
     (nx (m_impl_places_5 (x3 ++ [x4]) (IntKind.wrap IntKind.i64 (x4 + y90)) x7 x8 (IntKind.wrap IntKind.i64 (x9 + (1 : Int)))))
     (nx (m_impl_places_5 (x3 ++ [x4]) (IntKind.wrap IntKind.i64 (x4 - y90)) x7 x8 (IntKind.wrap IntKind.i64 (x9 + (1 : Int))))))
    (none))
   (none))
  (hx.1 (d_impl_places_5_0 x3))
noncomputable def t_impl_places_5 {R : Type} (nx : s_impl_places_5.T → Option R) (hx : exH R x_impl_places_5) (z : s_impl_places_5.T) : Option R := u_impl_places_5 nx hx z.1.1.1 z.1.2.1.1 z.1.2.2.1.1 z.1.2.2.2.1.1 z.1.2.2.2.2.1.1
theorem nat_impl_places_5 : Natural @t_impl_places_5 := fun R nx hx z => by
  show u_impl_places_5 nx hx z.1.1.1 z.1.2.1.1 z.1.2.2.1.1 z.1.2.2.2.1.1 z.1.2.2.2.2.1.1 = (u_impl_places_5 (fun y => some (.inl y)) (hIn x_impl_places_5 fun x => some (.inr x)) z.1.1.1 z.1.2.1.1 z.1.2.2.1.1 z.1.2.2.2.1.1 z.1.2.2.2.2.1.1).bind (goOn nx hx)
  unfold u_impl_places_5
  exact nat_cond (nat_bind fun _ => nat_cond (nat_cond (nat_cond (rfl) (rfl)) (rfl)) (rfl)) (rfl)
noncomputable def w_impl_places_5 : s_impl_places_5.T → Option (exT x_impl_places_5) := wOf @t_impl_places_5
theorem wq_impl_places_5 (x3 : List Int) (x4 : Int) (x7 : List Int) (x8 : Int) (x9 : Int) : w_impl_places_5 (m_impl_places_5 x3 x4 x7 x8 x9) = u_impl_places_5 w_impl_places_5 (hIn x_impl_places_5 some) x3 x4 x7 x8 x9 := wOf_eq nat_impl_places_5 _
def lh_impl_places_5 : LoopHint := ⟨[3, 4, 7, 8, 9], [], [3], []⟩
noncomputable def h_impl_places : Hints Rv := ⟨fun k => match k with | 5 => lh_impl_places_5 | _ => ⟨[], [], [], []⟩, fun k => match k with | 5 => some (loopX s_impl_places_5 x_impl_places_5 w_impl_places_5) | _ => none⟩
theorem st_impl_places_5 (n : Nat) (z : s_impl_places_5.T) (k : Ex → Live → Option Rv) : loopN ⟨29, 29⟩ lh_impl_places_5 (den (tab C0 T_impl_places) ⟨29, 29⟩ h_impl_places 1 (loopOf Try.f41 4)) (n + 1) (s_impl_places_5.enc z) k =
    t_impl_places_5 (fun y => loopN ⟨29, 29⟩ lh_impl_places_5 (den (tab C0 T_impl_places) ⟨29, 29⟩ h_impl_places 1 (loopOf Try.f41 4)) n (s_impl_places_5.enc y) k) (hK k x_impl_places_5) z := by kernel_rfl
theorem hs_impl_places : HintsOk (tab C0 T_impl_places) ⟨29, 29⟩ h_impl_places 1 (loops (codeOf Try.f41)) := by
  have hl : loops (codeOf Try.f41) = [loopOf Try.f41 4] := by kernel_rfl
  rw [hl]
  exact HintsOk.cons (n := 5) (lh := lh_impl_places_5) (S := loopX s_impl_places_5 x_impl_places_5 w_impl_places_5) (by kernel_rfl) rfl rfl (loopX_ok nat_impl_places_5 st_impl_places_5)
    (HintsOk.nil)
noncomputable def t_impl_places {R : Type} (kx : (List Int) → Option R) (a0 : (List Int)) : Option R :=
  Option.bind (w_impl_places_5 (m_impl_places_5 [] (0 : Int) a0 (((List.length a0) : Nat) : Int) (0 : Int))) (exC x_impl_places_5
  (fun e91 =>
   kx (e91.1.1.1 : List Int), ()))
noncomputable def g_impl_places (a0 : (List Int)) : Option ((List Int)) := t_impl_places some a0
theorem nat_impl_places {R : Type} (kx : (List Int) → Option R) (a0 : (List Int)) : t_impl_places kx a0 = (g_impl_places a0).bind kx := by
  unfold g_impl_places t_impl_places
  exact nat_exC ⟨fun _ => rfl, trivial⟩
abbrev as_impl_places : List AX := [.val false (.slice (.int .i64))]
abbrev en_impl_places : (List Int) → AV × List CV := fun b => (.one ⟨false, [(.own (.int .i64) b)]⟩, [])
noncomputable abbrev k_impl_places : Contract := .fx as_impl_places ((List Int)) (fun z => g_impl_places z.1) en_impl_places
theorem r_impl_places (z : argsX as_impl_places) : runF (tab C0 T_impl_places) h_impl_places 1 Try.f41 (lentOf as_impl_places) (xBoxes as_impl_places z) (xVals as_impl_places 0 z) K2 = t_impl_places (fun b => some (en_impl_places b)) z.1 := by kernel_rfl
theorem so_impl_places : Sound C0 41 k_impl_places :=
  Sound.fx a_impl_places mixed Try.func41 (by kernel_rfl) (by kernel_rfl) h_impl_places 1 hs_impl_places (fun z => (r_impl_places z).trans (nat_impl_places _ z.1))

/-! ### F15 impl.SectorPlaces -/
noncomputable def T_impl_SectorPlaces : List (FuncId × Contract) := [(40, k_impl_ValidCone), (41, k_impl_places)]
theorem a_impl_SectorPlaces : AllSound C0 T_impl_SectorPlaces := .cons so_impl_ValidCone (.cons so_impl_places (.nil))
noncomputable def t_impl_SectorPlaces {R : Type} (kx : (List Int) × Bool → Option R) (a0 : (List Int)) : Option R :=
  Option.bind (g_impl_ValidCone a0) fun y83 =>
  cond (!y83)
  (kx ([], Bool.false))
  (Option.bind (g_impl_places a0) fun y93 =>
   kx (y93, Bool.true))
noncomputable def g_impl_SectorPlaces (a0 : (List Int)) : Option ((List Int) × Bool) := t_impl_SectorPlaces some a0
theorem nat_impl_SectorPlaces {R : Type} (kx : (List Int) × Bool → Option R) (a0 : (List Int)) : t_impl_SectorPlaces kx a0 = (g_impl_SectorPlaces a0).bind kx := by
  unfold g_impl_SectorPlaces t_impl_SectorPlaces
  exact nat_bind fun _ => nat_cond (rfl) (nat_bind fun _ => rfl)
abbrev as_impl_SectorPlaces : List AX := [.val false (.slice (.int .i64))]
abbrev en_impl_SectorPlaces : (List Int) × Bool → AV × List CV := fun b => (.tup [⟨false, [(.own (.int .i64) b.1)]⟩, ⟨false, [(.v (.bool b.2))]⟩], [])
noncomputable abbrev k_impl_SectorPlaces : Contract := .fx as_impl_SectorPlaces ((List Int) × Bool) (fun z => g_impl_SectorPlaces z.1) en_impl_SectorPlaces
theorem r_impl_SectorPlaces (z : argsX as_impl_SectorPlaces) : runF (tab C0 T_impl_SectorPlaces) noHints 1 Try.f15 (lentOf as_impl_SectorPlaces) (xBoxes as_impl_SectorPlaces z) (xVals as_impl_SectorPlaces 0 z) K2 = t_impl_SectorPlaces (fun b => some (en_impl_SectorPlaces b)) z.1 := by kernel_rfl
theorem so_impl_SectorPlaces : Sound C0 15 k_impl_SectorPlaces :=
  Sound.fx a_impl_SectorPlaces mixed Try.func15 (by kernel_rfl) (by kernel_rfl) noHints 1 noHints_ok (fun z => (r_impl_SectorPlaces z).trans (nat_impl_SectorPlaces _ z.1))

/-! ### F16 laws.eqInt64S -/
noncomputable def T_laws_eqInt64S : List (FuncId × Contract) := []
theorem a_laws_eqInt64S : AllSound C0 T_laws_eqInt64S := .nil
abbrev s_laws_eqInt64S_5 : LS := ⟨[(false, [(.sl (.int .i64))]), (false, [(.sl (.int .i64))]), (false, [(.int .i64)])], [], []⟩
abbrev e_laws_eqInt64S_5_0 : LS := ⟨[(false, [.bool])], [], []⟩
abbrev d_laws_eqInt64S_5_0 (v0 : Bool) : e_laws_eqInt64S_5_0.T := (((v0, ()), ()), (), ())
abbrev e_laws_eqInt64S_5_1 : LS := ⟨[(false, [.undef])], [], []⟩
abbrev d_laws_eqInt64S_5_1 : e_laws_eqInt64S_5_1.T := ((((), ()), ()), (), ())
abbrev x_laws_eqInt64S_5 : List (Ex × LS) := [(.ret, e_laws_eqInt64S_5_0), (.exit 0, e_laws_eqInt64S_5_1)]
abbrev m_laws_eqInt64S_5 (x0 : List Int) (x1 : List Int) (x5 : Int) : s_laws_eqInt64S_5.T := (((x0, ()), (x1, ()), (x5, ()), ()), (), ())
noncomputable def u_laws_eqInt64S_5 {R : Type} (nx : s_laws_eqInt64S_5.T → Option R) (hx : exH R x_laws_eqInt64S_5) (x0 : List Int) (x1 : List Int) (x5 : Int) : Option R :=
  cond (decide (x5 < (((List.length x0) : Nat) : Int)))
  (Option.bind (idx x0 x5) fun y100 =>
   Option.bind (idx x1 x5) fun y101 =>
   cond (y100 != y101)
   (hx.1 (d_laws_eqInt64S_5_0 Bool.false))
   (nx (m_laws_eqInt64S_5 x0 x1 (IntKind.wrap IntKind.i64 (x5 + (1 : Int))))))
  (hx.2.1 (d_laws_eqInt64S_5_1))
noncomputable def t_laws_eqInt64S_5 {R : Type} (nx : s_laws_eqInt64S_5.T → Option R) (hx : exH R x_laws_eqInt64S_5) (z : s_laws_eqInt64S_5.T) : Option R := u_laws_eqInt64S_5 nx hx z.1.1.1 z.1.2.1.1 z.1.2.2.1.1
theorem nat_laws_eqInt64S_5 : Natural @t_laws_eqInt64S_5 := fun R nx hx z => by
  show u_laws_eqInt64S_5 nx hx z.1.1.1 z.1.2.1.1 z.1.2.2.1.1 = (u_laws_eqInt64S_5 (fun y => some (.inl y)) (hIn x_laws_eqInt64S_5 fun x => some (.inr x)) z.1.1.1 z.1.2.1.1 z.1.2.2.1.1).bind (goOn nx hx)
  unfold u_laws_eqInt64S_5
  exact nat_cond (nat_bind fun _ => nat_bind fun _ => nat_cond (rfl) (rfl)) (rfl)
noncomputable def w_laws_eqInt64S_5 : s_laws_eqInt64S_5.T → Option (exT x_laws_eqInt64S_5) := wOf @t_laws_eqInt64S_5
theorem wq_laws_eqInt64S_5 (x0 : List Int) (x1 : List Int) (x5 : Int) : w_laws_eqInt64S_5 (m_laws_eqInt64S_5 x0 x1 x5) = u_laws_eqInt64S_5 w_laws_eqInt64S_5 (hIn x_laws_eqInt64S_5 some) x0 x1 x5 := wOf_eq nat_laws_eqInt64S_5 _
def lh_laws_eqInt64S_5 : LoopHint := ⟨[0, 1, 5], [], [4], []⟩
noncomputable def h_laws_eqInt64S : Hints Rv := ⟨fun k => match k with | 5 => lh_laws_eqInt64S_5 | _ => ⟨[], [], [], []⟩, fun k => match k with | 5 => some (loopX s_laws_eqInt64S_5 x_laws_eqInt64S_5 w_laws_eqInt64S_5) | _ => none⟩
theorem st_laws_eqInt64S_5 (n : Nat) (z : s_laws_eqInt64S_5.T) (k : Ex → Live → Option Rv) : loopN ⟨26, 26⟩ lh_laws_eqInt64S_5 (den (tab C0 T_laws_eqInt64S) ⟨26, 26⟩ h_laws_eqInt64S 1 (loopOf Try.f16 4)) (n + 1) (s_laws_eqInt64S_5.enc z) k =
    t_laws_eqInt64S_5 (fun y => loopN ⟨26, 26⟩ lh_laws_eqInt64S_5 (den (tab C0 T_laws_eqInt64S) ⟨26, 26⟩ h_laws_eqInt64S 1 (loopOf Try.f16 4)) n (s_laws_eqInt64S_5.enc y) k) (hK k x_laws_eqInt64S_5) z := by kernel_rfl
theorem hs_laws_eqInt64S : HintsOk (tab C0 T_laws_eqInt64S) ⟨26, 26⟩ h_laws_eqInt64S 1 (loops (codeOf Try.f16)) := by
  have hl : loops (codeOf Try.f16) = [loopOf Try.f16 4] := by kernel_rfl
  rw [hl]
  exact HintsOk.cons (n := 5) (lh := lh_laws_eqInt64S_5) (S := loopX s_laws_eqInt64S_5 x_laws_eqInt64S_5 w_laws_eqInt64S_5) (by kernel_rfl) rfl rfl (loopX_ok nat_laws_eqInt64S_5 st_laws_eqInt64S_5)
    (HintsOk.nil)
noncomputable def t_laws_eqInt64S {R : Type} (kx : Bool → Option R) (a0 : (List Int)) (a1 : (List Int)) : Option R :=
  cond ((((List.length a0) : Nat) : Int) != (((List.length a1) : Nat) : Int))
  (kx Bool.false)
  (Option.bind (w_laws_eqInt64S_5 (m_laws_eqInt64S_5 a0 a1 (0 : Int))) (exC x_laws_eqInt64S_5
   (fun e102 =>
    kx (e102.1.1.1 : Bool), fun _ =>
    kx Bool.true, ())))
noncomputable def g_laws_eqInt64S (a0 : (List Int)) (a1 : (List Int)) : Option (Bool) := t_laws_eqInt64S some a0 a1
theorem nat_laws_eqInt64S {R : Type} (kx : Bool → Option R) (a0 : (List Int)) (a1 : (List Int)) : t_laws_eqInt64S kx a0 a1 = (g_laws_eqInt64S a0 a1).bind kx := by
  unfold g_laws_eqInt64S t_laws_eqInt64S
  exact nat_cond (rfl) (nat_exC ⟨fun _ => rfl, fun _ => rfl, trivial⟩)
abbrev as_laws_eqInt64S : List AX := [.val false (.slice (.int .i64)), .val false (.slice (.int .i64))]
abbrev en_laws_eqInt64S : Bool → AV × List CV := fun b => (.one ⟨false, [(.v (.bool b))]⟩, [])
noncomputable abbrev k_laws_eqInt64S : Contract := .fx as_laws_eqInt64S (Bool) (fun z => g_laws_eqInt64S z.1 z.2.1) en_laws_eqInt64S
theorem r_laws_eqInt64S (z : argsX as_laws_eqInt64S) : runF (tab C0 T_laws_eqInt64S) h_laws_eqInt64S 1 Try.f16 (lentOf as_laws_eqInt64S) (xBoxes as_laws_eqInt64S z) (xVals as_laws_eqInt64S 0 z) K2 = t_laws_eqInt64S (fun b => some (en_laws_eqInt64S b)) z.1 z.2.1 := by kernel_rfl
theorem so_laws_eqInt64S : Sound C0 16 k_laws_eqInt64S :=
  Sound.fx a_laws_eqInt64S mixed Try.func16 (by kernel_rfl) (by kernel_rfl) h_laws_eqInt64S 1 hs_laws_eqInt64S (fun z => (r_laws_eqInt64S z).trans (nat_laws_eqInt64S _ z.1 z.2.1))

/-! ### F17 laws.markInt64S -/
noncomputable def T_laws_markInt64S : List (FuncId × Contract) := []
theorem a_laws_markInt64S : AllSound C0 T_laws_markInt64S := .nil
abbrev s_laws_markInt64S_3 : LS := ⟨[(false, [(.view (.arg 0) true 0 (.int .i64))]), (false, [(.int .i64)]), (false, [(.int .i64)])], [], [(.own (.int .i64))]⟩
abbrev e_laws_markInt64S_3_0 : LS := ⟨[(false, [(.int .i64)])], [], [(.own (.int .i64))]⟩
abbrev d_laws_markInt64S_3_0 (v0 : Int) (v1 : List Int) : e_laws_markInt64S_3_0.T := (((v0, ()), ()), (), (v1, ()))
abbrev x_laws_markInt64S_3 : List (Ex × LS) := [(.exit 0, e_laws_markInt64S_3_0)]
abbrev m_laws_markInt64S_3 (x0 : List Int) (x1 : Int) (x5 : Int) (o : List Int) : s_laws_markInt64S_3.T := (((x0, ()), (x1, ()), (x5, ()), ()), (), (o, ()))
noncomputable def u_laws_markInt64S_3 {R : Type} (nx : s_laws_markInt64S_3.T → Option R) (hx : exH R x_laws_markInt64S_3) (x0 : List Int) (x1 : Int) (x5 : Int) (o : List Int) : Option R :=
  cond (decide (x5 < (((List.length x0) : Nat) : Int)))
  (Option.bind (idx x0 x5) fun _ =>
   nx (m_laws_markInt64S_3 (if (0 ≤ (0 + (Int.toNat x5))) then (List.set x0 ((0 + (Int.toNat x5)) - 0) x1) else x0) (IntKind.wrap IntKind.i64 (x1 + (1 : Int))) (IntKind.wrap IntKind.i64 (x5 + (1 : Int))) (List.set o (0 + (Int.toNat x5)) x1)))
  (hx.1 (d_laws_markInt64S_3_0 x1 o))
noncomputable def t_laws_markInt64S_3 {R : Type} (nx : s_laws_markInt64S_3.T → Option R) (hx : exH R x_laws_markInt64S_3) (z : s_laws_markInt64S_3.T) : Option R := u_laws_markInt64S_3 nx hx z.1.1.1 z.1.2.1.1 z.1.2.2.1.1 z.2.2.1
theorem nat_laws_markInt64S_3 : Natural @t_laws_markInt64S_3 := fun R nx hx z => by
  show u_laws_markInt64S_3 nx hx z.1.1.1 z.1.2.1.1 z.1.2.2.1.1 z.2.2.1 = (u_laws_markInt64S_3 (fun y => some (.inl y)) (hIn x_laws_markInt64S_3 fun x => some (.inr x)) z.1.1.1 z.1.2.1.1 z.1.2.2.1.1 z.2.2.1).bind (goOn nx hx)
  unfold u_laws_markInt64S_3
  exact nat_cond (nat_bind fun _ => rfl) (rfl)
noncomputable def w_laws_markInt64S_3 : s_laws_markInt64S_3.T → Option (exT x_laws_markInt64S_3) := wOf @t_laws_markInt64S_3
theorem wq_laws_markInt64S_3 (x0 : List Int) (x1 : Int) (x5 : Int) (o : List Int) : w_laws_markInt64S_3 (m_laws_markInt64S_3 x0 x1 x5 o) = u_laws_markInt64S_3 w_laws_markInt64S_3 (hIn x_laws_markInt64S_3 some) x0 x1 x5 o := wOf_eq nat_laws_markInt64S_3 _
def lh_laws_markInt64S_3 : LoopHint := ⟨[0, 1, 5], [], [1], []⟩
noncomputable def h_laws_markInt64S : Hints Rv := ⟨fun k => match k with | 3 => lh_laws_markInt64S_3 | _ => ⟨[], [], [], []⟩, fun k => match k with | 3 => some (loopX s_laws_markInt64S_3 x_laws_markInt64S_3 w_laws_markInt64S_3) | _ => none⟩
theorem st_laws_markInt64S_3 (n : Nat) (z : s_laws_markInt64S_3.T) (k : Ex → Live → Option Rv) : loopN ⟨19, 19⟩ lh_laws_markInt64S_3 (den (tab C0 T_laws_markInt64S) ⟨19, 19⟩ h_laws_markInt64S 1 (loopOf Try.f17 2)) (n + 1) (s_laws_markInt64S_3.enc z) k =
    t_laws_markInt64S_3 (fun y => loopN ⟨19, 19⟩ lh_laws_markInt64S_3 (den (tab C0 T_laws_markInt64S) ⟨19, 19⟩ h_laws_markInt64S 1 (loopOf Try.f17 2)) n (s_laws_markInt64S_3.enc y) k) (hK k x_laws_markInt64S_3) z := by kernel_rfl
theorem hs_laws_markInt64S : HintsOk (tab C0 T_laws_markInt64S) ⟨19, 19⟩ h_laws_markInt64S 1 (loops (codeOf Try.f17)) := by
  have hl : loops (codeOf Try.f17) = [loopOf Try.f17 2] := by kernel_rfl
  rw [hl]
  exact HintsOk.cons (n := 3) (lh := lh_laws_markInt64S_3) (S := loopX s_laws_markInt64S_3 x_laws_markInt64S_3 w_laws_markInt64S_3) (by kernel_rfl) rfl rfl (loopX_ok nat_laws_markInt64S_3 st_laws_markInt64S_3)
    (HintsOk.nil)
noncomputable def t_laws_markInt64S {R : Type} (kx : Int × (List Int) → Option R) (a0 : List Int) (a1 : Int) : Option R :=
  Option.bind (w_laws_markInt64S_3 (m_laws_markInt64S_3 a0 a1 (0 : Int) a0)) (exC x_laws_markInt64S_3
  (fun e115 =>
   kx ((e115.1.1.1 : Int), (e115.2.2.1 : List Int)), ()))
noncomputable def g_laws_markInt64S (a0 : List Int) (a1 : Int) : Option (Int × (List Int)) := t_laws_markInt64S some a0 a1
theorem nat_laws_markInt64S {R : Type} (kx : Int × (List Int) → Option R) (a0 : List Int) (a1 : Int) : t_laws_markInt64S kx a0 a1 = (g_laws_markInt64S a0 a1).bind kx := by
  unfold g_laws_markInt64S t_laws_markInt64S
  exact nat_exC ⟨fun _ => rfl, trivial⟩
abbrev as_laws_markInt64S : List AX := [.io (.int .i64), .val false (.int .i64)]
abbrev en_laws_markInt64S : Int × (List Int) → AV × List CV := fun b => (.one ⟨false, [(.v (.int .i64 b.1))]⟩, [(.own (.int .i64) b.2)])
noncomputable abbrev k_laws_markInt64S : Contract := .fx as_laws_markInt64S (Int × (List Int)) (fun z => g_laws_markInt64S z.1 z.2.1) en_laws_markInt64S
theorem r_laws_markInt64S (z : argsX as_laws_markInt64S) : runF (tab C0 T_laws_markInt64S) h_laws_markInt64S 1 Try.f17 (lentOf as_laws_markInt64S) (xBoxes as_laws_markInt64S z) (xVals as_laws_markInt64S 0 z) K2 = t_laws_markInt64S (fun b => some (en_laws_markInt64S b)) z.1 z.2.1 := by kernel_rfl
theorem so_laws_markInt64S : Sound C0 17 k_laws_markInt64S :=
  Sound.fx a_laws_markInt64S mixed Try.func17 (by kernel_rfl) (by kernel_rfl) h_laws_markInt64S 1 hs_laws_markInt64S (fun z => (r_laws_markInt64S z).trans (nat_laws_markInt64S _ z.1 z.2.1))

/-! ### F18 laws.heldInt64S -/
noncomputable def T_laws_heldInt64S : List (FuncId × Contract) := []
theorem a_laws_heldInt64S : AllSound C0 T_laws_heldInt64S := .nil
abbrev s_laws_heldInt64S_3 : LS := ⟨[(false, [(.sl (.int .i64))]), (false, [(.int .i64)]), (false, [(.int .i64)])], [], []⟩
abbrev e_laws_heldInt64S_3_0 : LS := ⟨[(false, [(.int .i64)]), (false, [(.int .i64)])], [], []⟩
abbrev d_laws_heldInt64S_3_0 (v0 : Int) (v1 : Int) : e_laws_heldInt64S_3_0.T := (((v0, ()), (v1, ()), ()), (), ())
abbrev e_laws_heldInt64S_3_1 : LS := ⟨[(false, [(.int .i64)]), (false, [.undef])], [], []⟩
abbrev d_laws_heldInt64S_3_1 (v0 : Int) : e_laws_heldInt64S_3_1.T := (((v0, ()), ((), ()), ()), (), ())
abbrev x_laws_heldInt64S_3 : List (Ex × LS) := [(.ret, e_laws_heldInt64S_3_0), (.exit 0, e_laws_heldInt64S_3_1)]
abbrev m_laws_heldInt64S_3 (x0 : List Int) (x1 : Int) (x5 : Int) : s_laws_heldInt64S_3.T := (((x0, ()), (x1, ()), (x5, ()), ()), (), ())
noncomputable def u_laws_heldInt64S_3 {R : Type} (nx : s_laws_heldInt64S_3.T → Option R) (hx : exH R x_laws_heldInt64S_3) (x0 : List Int) (x1 : Int) (x5 : Int) : Option R :=
  cond (decide (x5 < (((List.length x0) : Nat) : Int)))
  (Option.bind (idx x0 x5) fun y126 =>
   cond (y126 != x1)
   (hx.1 (d_laws_heldInt64S_3_0 x1 (-(1 : Int))))
   (nx (m_laws_heldInt64S_3 x0 (IntKind.wrap IntKind.i64 (x1 + (1 : Int))) (IntKind.wrap IntKind.i64 (x5 + (1 : Int))))))
  (hx.2.1 (d_laws_heldInt64S_3_1 x1))
noncomputable def t_laws_heldInt64S_3 {R : Type} (nx : s_laws_heldInt64S_3.T → Option R) (hx : exH R x_laws_heldInt64S_3) (z : s_laws_heldInt64S_3.T) : Option R := u_laws_heldInt64S_3 nx hx z.1.1.1 z.1.2.1.1 z.1.2.2.1.1
theorem nat_laws_heldInt64S_3 : Natural @t_laws_heldInt64S_3 := fun R nx hx z => by
  show u_laws_heldInt64S_3 nx hx z.1.1.1 z.1.2.1.1 z.1.2.2.1.1 = (u_laws_heldInt64S_3 (fun y => some (.inl y)) (hIn x_laws_heldInt64S_3 fun x => some (.inr x)) z.1.1.1 z.1.2.1.1 z.1.2.2.1.1).bind (goOn nx hx)
  unfold u_laws_heldInt64S_3
  exact nat_cond (nat_bind fun _ => nat_cond (rfl) (rfl)) (rfl)
noncomputable def w_laws_heldInt64S_3 : s_laws_heldInt64S_3.T → Option (exT x_laws_heldInt64S_3) := wOf @t_laws_heldInt64S_3
theorem wq_laws_heldInt64S_3 (x0 : List Int) (x1 : Int) (x5 : Int) : w_laws_heldInt64S_3 (m_laws_heldInt64S_3 x0 x1 x5) = u_laws_heldInt64S_3 w_laws_heldInt64S_3 (hIn x_laws_heldInt64S_3 some) x0 x1 x5 := wOf_eq nat_laws_heldInt64S_3 _
def lh_laws_heldInt64S_3 : LoopHint := ⟨[0, 1, 5], [], [1, 4], []⟩
noncomputable def h_laws_heldInt64S : Hints Rv := ⟨fun k => match k with | 3 => lh_laws_heldInt64S_3 | _ => ⟨[], [], [], []⟩, fun k => match k with | 3 => some (loopX s_laws_heldInt64S_3 x_laws_heldInt64S_3 w_laws_heldInt64S_3) | _ => none⟩
theorem st_laws_heldInt64S_3 (n : Nat) (z : s_laws_heldInt64S_3.T) (k : Ex → Live → Option Rv) : loopN ⟨21, 21⟩ lh_laws_heldInt64S_3 (den (tab C0 T_laws_heldInt64S) ⟨21, 21⟩ h_laws_heldInt64S 1 (loopOf Try.f18 2)) (n + 1) (s_laws_heldInt64S_3.enc z) k =
    t_laws_heldInt64S_3 (fun y => loopN ⟨21, 21⟩ lh_laws_heldInt64S_3 (den (tab C0 T_laws_heldInt64S) ⟨21, 21⟩ h_laws_heldInt64S 1 (loopOf Try.f18 2)) n (s_laws_heldInt64S_3.enc y) k) (hK k x_laws_heldInt64S_3) z := by kernel_rfl
theorem hs_laws_heldInt64S : HintsOk (tab C0 T_laws_heldInt64S) ⟨21, 21⟩ h_laws_heldInt64S 1 (loops (codeOf Try.f18)) := by
  have hl : loops (codeOf Try.f18) = [loopOf Try.f18 2] := by kernel_rfl
  rw [hl]
  exact HintsOk.cons (n := 3) (lh := lh_laws_heldInt64S_3) (S := loopX s_laws_heldInt64S_3 x_laws_heldInt64S_3 w_laws_heldInt64S_3) (by kernel_rfl) rfl rfl (loopX_ok nat_laws_heldInt64S_3 st_laws_heldInt64S_3)
    (HintsOk.nil)
noncomputable def t_laws_heldInt64S {R : Type} (kx : Int → Option R) (a0 : (List Int)) (a1 : Int) : Option R :=
  Option.bind (w_laws_heldInt64S_3 (m_laws_heldInt64S_3 a0 a1 (0 : Int))) (exC x_laws_heldInt64S_3
  (fun e127 =>
   kx (e127.1.2.1.1 : Int), fun e130 =>
   kx (e130.1.1.1 : Int), ()))
noncomputable def g_laws_heldInt64S (a0 : (List Int)) (a1 : Int) : Option (Int) := t_laws_heldInt64S some a0 a1
theorem nat_laws_heldInt64S {R : Type} (kx : Int → Option R) (a0 : (List Int)) (a1 : Int) : t_laws_heldInt64S kx a0 a1 = (g_laws_heldInt64S a0 a1).bind kx := by
  unfold g_laws_heldInt64S t_laws_heldInt64S
  exact nat_exC ⟨fun _ => rfl, fun _ => rfl, trivial⟩
abbrev as_laws_heldInt64S : List AX := [.val false (.slice (.int .i64)), .val false (.int .i64)]
abbrev en_laws_heldInt64S : Int → AV × List CV := fun b => (.one ⟨false, [(.v (.int .i64 b))]⟩, [])
noncomputable abbrev k_laws_heldInt64S : Contract := .fx as_laws_heldInt64S (Int) (fun z => g_laws_heldInt64S z.1 z.2.1) en_laws_heldInt64S
theorem r_laws_heldInt64S (z : argsX as_laws_heldInt64S) : runF (tab C0 T_laws_heldInt64S) h_laws_heldInt64S 1 Try.f18 (lentOf as_laws_heldInt64S) (xBoxes as_laws_heldInt64S z) (xVals as_laws_heldInt64S 0 z) K2 = t_laws_heldInt64S (fun b => some (en_laws_heldInt64S b)) z.1 z.2.1 := by kernel_rfl
theorem so_laws_heldInt64S : Sound C0 18 k_laws_heldInt64S :=
  Sound.fx a_laws_heldInt64S mixed Try.func18 (by kernel_rfl) (by kernel_rfl) h_laws_heldInt64S 1 hs_laws_heldInt64S (fun z => (r_laws_heldInt64S z).trans (nat_laws_heldInt64S _ z.1 z.2.1))

/-! ### F4 laws.FnExactSectorPlaces -/
noncomputable def T_laws_FnExactSectorPlaces : List (FuncId × Contract) := [(14, k_laws_toInt64S), (13, k_spec_SectorPlaces), (15, k_impl_SectorPlaces), (16, k_laws_eqInt64S), (17, k_laws_markInt64S), (18, k_laws_heldInt64S)]
theorem a_laws_FnExactSectorPlaces : AllSound C0 T_laws_FnExactSectorPlaces := .cons so_laws_toInt64S (.cons so_spec_SectorPlaces (.cons so_impl_SectorPlaces (.cons so_laws_eqInt64S (.cons so_laws_markInt64S (.cons so_laws_heldInt64S (.nil))))))
noncomputable def t_laws_FnExactSectorPlaces {R : Type} (kx : Bool → Option R) (a0 : (List Int)) : Option R :=
  cond (decide ((((List.length a0) : Nat) : Int) > (1048576 : Int)))
  (kx Bool.true)
  (Option.bind (g_laws_toInt64S a0) fun y9 =>
   Option.bind (g_spec_SectorPlaces y9) fun y41 =>
   Option.bind (g_laws_toInt64S a0) fun y42 =>
   Option.bind (g_impl_SectorPlaces y42) fun y94 =>
   Option.bind (g_laws_eqInt64S y94.1 y41.1) fun y105 =>
   cond (!y105)
   (kx Bool.false)
   (cond (cond Bool.false Bool.true (!(y94.2 == y41.2)))
    (kx Bool.false)
    (Option.bind (g_laws_toInt64S a0) fun y106 =>
     Option.bind (g_laws_eqInt64S y42 y106) fun y107 =>
     cond (!y107)
     (kx Bool.false)
     (cond (decide ((List.length y42) = (List.length y42)))
      (Option.bind (g_laws_markInt64S y42 (1 : Int)) fun y118 =>
       cond (decide (y118.1 < (0 : Int)))
       (kx Bool.false)
       (Option.bind (g_laws_eqInt64S y94.1 y41.1) fun y119 =>
        cond (cond Bool.false Bool.true (!y119))
        (kx Bool.false)
        (cond (cond Bool.false Bool.true (!(y94.2 == y41.2)))
         (kx Bool.false)
         (cond (decide ((List.length y94.1) = (List.length y94.1)))
          (Option.bind (g_laws_markInt64S y94.1 (1 : Int)) fun y120 =>
           Option.bind (g_laws_heldInt64S y120.2 (1 : Int)) fun y132 =>
           cond (decide (y132 < (0 : Int)))
           (kx Bool.false)
           (cond (y132 != y120.1)
            (kx Bool.false)
            (Option.bind (g_laws_toInt64S a0) fun y133 =>
             Option.bind (g_impl_SectorPlaces y133) fun y134 =>
             Option.bind (g_laws_eqInt64S y134.1 y41.1) fun y135 =>
             cond (!y135)
             (kx Bool.false)
             (cond (cond Bool.false Bool.true (!(y134.2 == y41.2)))
              (kx Bool.false)
              (Option.bind (g_laws_heldInt64S y120.2 (1 : Int)) fun y136 =>
               cond (decide (y136 < (0 : Int)))
               (kx Bool.false)
               (cond (y136 != y120.1)
                (kx Bool.false)
                (kx Bool.true)))))))
          (none)))))
      (none)))))
noncomputable def g_laws_FnExactSectorPlaces (a0 : (List Int)) : Option (Bool) := t_laws_FnExactSectorPlaces some a0
theorem nat_laws_FnExactSectorPlaces {R : Type} (kx : Bool → Option R) (a0 : (List Int)) : t_laws_FnExactSectorPlaces kx a0 = (g_laws_FnExactSectorPlaces a0).bind kx := by
  unfold g_laws_FnExactSectorPlaces t_laws_FnExactSectorPlaces
  exact nat_cond (rfl) (nat_bind fun _ => nat_bind fun _ => nat_bind fun _ => nat_bind fun _ => nat_bind fun _ => nat_cond (rfl) (nat_cond (rfl) (nat_bind fun _ => nat_bind fun _ => nat_cond (rfl) (nat_cond (nat_bind fun _ => nat_cond (rfl) (nat_bind fun _ => nat_cond (rfl) (nat_cond (rfl) (nat_cond (nat_bind fun _ => nat_bind fun _ => nat_cond (rfl) (nat_cond (rfl) (nat_bind fun _ => nat_bind fun _ => nat_bind fun _ => nat_cond (rfl) (nat_cond (rfl) (nat_bind fun _ => nat_cond (rfl) (nat_cond (rfl) (rfl))))))) (rfl))))) (rfl)))))
abbrev as_laws_FnExactSectorPlaces : List AX := [.val false (.slice (.int .i64))]
abbrev en_laws_FnExactSectorPlaces : Bool → AV × List CV := fun b => (.one ⟨false, [(.v (.bool b))]⟩, [])
noncomputable abbrev k_laws_FnExactSectorPlaces : Contract := .fx as_laws_FnExactSectorPlaces (Bool) (fun z => g_laws_FnExactSectorPlaces z.1) en_laws_FnExactSectorPlaces
theorem r_laws_FnExactSectorPlaces (z : argsX as_laws_FnExactSectorPlaces) : runF (tab C0 T_laws_FnExactSectorPlaces) noHints 1 Try.f4 (lentOf as_laws_FnExactSectorPlaces) (xBoxes as_laws_FnExactSectorPlaces z) (xVals as_laws_FnExactSectorPlaces 0 z) K2 = t_laws_FnExactSectorPlaces (fun b => some (en_laws_FnExactSectorPlaces b)) z.1 := by kernel_rfl
theorem so_laws_FnExactSectorPlaces : Sound C0 4 k_laws_FnExactSectorPlaces :=
  Sound.fx a_laws_FnExactSectorPlaces mixed Try.func4 (by kernel_rfl) (by kernel_rfl) noHints 1 noHints_ok (fun z => (r_laws_FnExactSectorPlaces z).trans (nat_laws_FnExactSectorPlaces _ z.1))

end Go.Proofs.Ytnpejkbnepncfaa
